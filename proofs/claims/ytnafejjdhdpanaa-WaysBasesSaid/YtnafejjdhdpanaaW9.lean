/-
  What functions of the program compute, as plain Lean functions, and the walks that prove it; printed by a small program of our own (wip/walk.py).
-/
import Derived.Test.YtnafejjdhdpanaaW8
namespace Go.Proofs.Ytnafejjdhdpanaa
open Go Go.Ab
attribute [local irreducible] AWP ACall DCall PureFn Go.Ab.Sub alist dlist AIdx AElem ALook ANext
set_option maxRecDepth 100000
set_option maxHeartbeats 4000000
set_option linter.unusedSimpArgs false
set_option linter.unusedVariables false
noncomputable section
def law11_leads_b1 (x_ : Skilaw11Open) (k2 : Nat) (x_4 : Int) (sv : Int × Int) : Option (Out (Int × Int) (Int × Bool)) :=
  (ref10_Run x_.Map x_4).bind fun y5 => (bif (!y5.2) then some (Out.ret ((0 : Int), false)) else (bif (decide (y5.1.From ≠ sv.1)) then some (Out.ret ((0 : Int), false)) else (ref05_Has x_.Runs x_4).bind fun y6 => (bif (!y6) then some (Out.ret ((0 : Int), false)) else some (Out.next (y5.1.To, (IntKind.i64.wrap (sv.2 + y5.1.Length)))))))

def law11_leads (x_ : Skilaw11Open) (p : List Int) (node : Int) : Option (Int × Bool) :=
  (forIx (law11_leads_b1 x_) 0 p (node, (0 : Int))).bind fun o2 => o2.on fun s2 => (ref05_Has x_.Map.Bases s2.1).bind fun y7 => some (s2.2, y7)

theorem law11_leads_spec (x_ : Skilaw11Open) (p : List Int) (node : Int) {r : Int × Bool} (h : law11_leads x_ p node = some r) : PureFn Try.prog 26 [.agg (encSkilaw11Open x_), .sl 1 (p.map intC), .int .i64 node] (· = .tuple [.int .i64 r.1, .bool r.2]) := by
  refine PureFn.nle (PureFn.intro Try.func26 rfl rfl (by show _ ≤ 58; simp) ?_)
  unfold law11_leads at h
  (try simp +decide -implicitDefEqProofs only [go_sem])
  refine AWP.seq ?_
  refine AWP.region rfl ?_; intro K hK
  (try simp +decide -implicitDefEqProofs only [go_sem])
  refine hK _ _ ?_; clear hK K
  refine qthen_normal ?_
  refine AWP.seq ?_
  refine AWP.region rfl ?_; intro K hK
  (try simp +decide -implicitDefEqProofs only [go_sem])
  refine hK _ _ ?_; clear hK K
  refine qthen_normal ?_
  refine AWP.seq ?_
  refine AWP.seq ?_
  refine AWP.region rfl ?_; intro K hK
  (try simp +decide -implicitDefEqProofs only [go_sem])
  refine hK _ _ ?_; clear hK K
  refine qthen_normal ?_
  refine AWP.block ?_
  obtain ⟨o2, hJ2, hO2⟩ := bindE h
  clear h
  refine AWP.loopW (ι := Nat × (Int × Int) × (Unit)) (fun zz => [(1, .sl 1 (p.map intC)), (2, .int .i64 zz.2.1.1), (3, .ptr 0 0), (8, .int .i64 zz.2.1.2), (9, .int .i64 ((zz.1 : Nat) : Int))]) (fun zz => [.box [.sl 2 (x_.Map.Nodes.map encApiNode), .sl 8 (x_.Map.Lifts.map encApiLift), .sl 7 (x_.Map.Runs.map encApiRun), .sl 1 (x_.Map.Bases.map intC), .sl 1 (x_.Lifts.map intC), .sl 1 (x_.Runs.map intC)]]) (fun zz => zz.1 ≤ p.length ∧ forIx (law11_leads_b1 x_) zz.1 ((p).drop zz.1) zz.2.1 = some o2) (fun zz => p.length - zz.1) (0, (node, (0 : Int)), ()) ⟨Nat.zero_le _, hJ2⟩ (by (simp +decide -implicitDefEqProofs only [go_sem, mpE_nil, Int.natCast_zero, List.replicate_zero, List.length_take, List.length_drop, AVal.own.injEq, reduceCtorEq, Int.reduceAdd] <;> omega)) (by (simp +decide -implicitDefEqProofs only [go_sem, mpE_nil, Int.natCast_zero, List.replicate_zero, List.length_take, List.length_drop, AVal.own.injEq, reduceCtorEq, Int.reduceAdd] <;> omega)) (fun x => ⟨rfl, rfl, rfl⟩) ?_
  clear hJ2
  rintro ⟨k2, ⟨node1, n_2⟩, ⟨⟩⟩ ⟨hk2, hJ2⟩
  dsimp only at hk2 hJ2 ⊢
  refine AWP.seq ?_
  refine AWP.seq ?_
  refine AWP.region rfl ?_; intro K hK
  (try simp +decide -implicitDefEqProofs only [go_sem])
  intro hm
  refine hK _ _ ?_; clear hK K
  refine qthen_normal ?_
  refine AWP.cond (acond_split (fun hc => ?_) (fun hc => ?_))
  · have hlt2 : k2 < p.length := by have := of_decide_eq_true hc; omega
    obtain ⟨x_4, b2, hx2_, h, hJ2⟩ := for_cons hJ2 hlt2
    have hx2 := idxL_nat hx2_
    have hw2 : IntKind.i64.wrap (((k2 : Nat) : Int) + 1) = (((k2 : Nat) : Int) + (1 : Int)) := by rw [wrap_i64] <;> omega
    unfold law11_leads_b1 at h; try dsimp only at h
    refine AWP.skip ?_
    refine qthen_normal ?_
    refine AWP.seq ?_
    refine AWP.block ?_
    refine AWP.seq ?_
    refine AWP.draw Try.mixed (by kernel_rfl) ?_; intro K hK
    (try simp +decide -implicitDefEqProofs only [go_sem])
    refine AIdx.of (f := intC) (l := p) hx2 ?_
    (try simp +decide -implicitDefEqProofs only [go_sem])
    obtain ⟨y5, hy5, h⟩ := bindE h
    refine DCall.pure Try.call51 (ref10_Run_spec x_.Map x_4 hy5) rfl ?_
    (try simp +decide -implicitDefEqProofs only [go_sem])
    refine hK _ _ _ (by kernel_rfl) ?_; clear hK K
    refine qthen_normal ?_
    refine AWP.seq ?_
    refine AWP.seq ?_
    refine AWP.draw Try.mixed (by kernel_rfl) ?_; intro K hK
    (try simp +decide -implicitDefEqProofs only [go_sem])
    refine aguardK_split (fun hc => ?_) (fun hc => ?_)
    · replace h := bif_f h hc
      (try simp +decide -implicitDefEqProofs only [go_sem, hc])
      refine aguardK_split (fun hc => ?_) (fun hc => ?_)
      · replace h := bif_f h hc
        (try simp +decide -implicitDefEqProofs only [go_sem, hc])
        refine AIdx.of (f := intC) (l := p) hx2 ?_
        (try simp +decide -implicitDefEqProofs only [go_sem])
        obtain ⟨y6, hy6, h⟩ := bindE h
        refine DCall.pure Try.call25 (ref05_Has_spec x_.Runs x_4 hy6) rfl ?_
        (try simp +decide -implicitDefEqProofs only [go_sem])
        refine hK _ _ _ (by kernel_rfl) ?_; clear hK K
        refine qthen_normal ?_
        refine AWP.cond (acond_split (fun hc => ?_) (fun hc => ?_))
        · replace h := bif_t h hc
          refine AWP.seq ?_
          refine AWP.region rfl ?_; intro K hK
          (try simp +decide -implicitDefEqProofs only [go_sem])
          refine hK _ _ ?_; clear hK K
          refine qthen_normal ?_
          refine AWP.ret ?_
          refine qthen_ret ?_
          refine qblock_ret ?_
          refine qthen_ret ?_
          refine qthen_ret ?_
          obtain rfl := some_eq h
          obtain rfl := cont_ret hJ2
          replace h := on_ret hO2
          refine qblock_ret ?_
          refine qthen_ret ?_
          obtain rfl := some_eq h
          simp +decide -implicitDefEqProofs only [go_sem, mpE_nil, Int.natCast_zero, List.replicate_zero, List.length_take, List.length_drop, AVal.own.injEq, reduceCtorEq, Int.reduceAdd, nle2, nle1, nle0, nleA, nleL, Try.results26]
        replace h := bif_f h hc
        refine AWP.skip ?_
        refine qthen_normal ?_
        refine AWP.draw Try.mixed (by kernel_rfl) ?_; intro K hK
        (try simp +decide -implicitDefEqProofs only [go_sem])
        refine hK _ _ _ (by kernel_rfl) ?_; clear hK K
        refine qblock_normal ?_
        refine qthen_normal ?_
        refine AWP.region rfl ?_; intro K hK
        (try simp +decide -implicitDefEqProofs only [go_sem])
        refine hK _ _ ?_; clear hK K
        refine qthen_normal ?_
        obtain rfl := some_eq h
        refine ⟨(k2 + 1, (y5.1.To, (IntKind.i64.wrap (n_2 + y5.1.Length))), ()), ⟨by dsimp only; omega, cont_next hJ2⟩, by dsimp only; omega, ?_, ?_⟩
        · (simp +decide -implicitDefEqProofs only [go_sem, mpE_nil, Int.natCast_zero, List.replicate_zero, List.length_take, List.length_drop, AVal.own.injEq, reduceCtorEq, Int.reduceAdd, hw2] <;> omega)
        · (simp +decide -implicitDefEqProofs only [go_sem, mpE_nil, Int.natCast_zero, List.replicate_zero, List.length_take, List.length_drop, AVal.own.injEq, reduceCtorEq, Int.reduceAdd, hw2] <;> omega)
      · replace h := bif_t h hc
        (try simp +decide -implicitDefEqProofs only [go_sem, hc, Bool.not_false])
        refine hK _ _ _ (by kernel_rfl) ?_; clear hK K
        refine qthen_normal ?_
        refine AWP.cond (acond_true ?_)
        refine AWP.seq ?_
        refine AWP.region rfl ?_; intro K hK
        (try simp +decide -implicitDefEqProofs only [go_sem])
        refine hK _ _ ?_; clear hK K
        refine qthen_normal ?_
        refine AWP.ret ?_
        refine qthen_ret ?_
        refine qblock_ret ?_
        refine qthen_ret ?_
        refine qthen_ret ?_
        obtain rfl := some_eq h
        obtain rfl := cont_ret hJ2
        replace h := on_ret hO2
        refine qblock_ret ?_
        refine qthen_ret ?_
        obtain rfl := some_eq h
        simp +decide -implicitDefEqProofs only [go_sem, mpE_nil, Int.natCast_zero, List.replicate_zero, List.length_take, List.length_drop, AVal.own.injEq, reduceCtorEq, Int.reduceAdd, nle2, nle1, nle0, nleA, nleL, Try.results26]
    · replace h := bif_t h hc
      (try simp +decide -implicitDefEqProofs only [go_sem, hc, Bool.not_false])
      refine hK _ _ _ (by kernel_rfl) ?_; clear hK K
      refine qthen_normal ?_
      refine AWP.cond (acond_true ?_)
      refine AWP.seq ?_
      refine AWP.region rfl ?_; intro K hK
      (try simp +decide -implicitDefEqProofs only [go_sem])
      refine hK _ _ ?_; clear hK K
      refine qthen_normal ?_
      refine AWP.ret ?_
      refine qthen_ret ?_
      refine qblock_ret ?_
      refine qthen_ret ?_
      refine qthen_ret ?_
      obtain rfl := some_eq h
      obtain rfl := cont_ret hJ2
      replace h := on_ret hO2
      refine qblock_ret ?_
      refine qthen_ret ?_
      obtain rfl := some_eq h
      simp +decide -implicitDefEqProofs only [go_sem, mpE_nil, Int.natCast_zero, List.replicate_zero, List.length_take, List.length_drop, AVal.own.injEq, reduceCtorEq, Int.reduceAdd, nle2, nle1, nle0, nleA, nleL, Try.results26]
  · obtain rfl := for_nil hJ2 (fun hl => by have := of_decide_eq_false hc; omega)
    have h := on_next hO2; try dsimp only at h
    have hkl : p.length = k2 := by have := of_decide_eq_false hc; omega
    subst hkl
    refine AWP.exit ?_
    refine qthen_exit ?_
    refine qthen_exit ?_
    refine qblock_same ?_
    refine qthen_normal ?_
    refine AWP.seq ?_
    refine AWP.region rfl ?_; intro K hK
    (try simp +decide -implicitDefEqProofs only [go_sem])
    obtain ⟨y7, hy7, h⟩ := bindE h
    refine ACall.pure Try.call25 (ref05_Has_spec x_.Map.Bases node1 hy7) rfl fun _ hr => ?_
    subst hr
    (try simp +decide -implicitDefEqProofs only [go_sem])
    refine hK _ _ ?_; clear hK K
    refine qthen_normal ?_
    refine AWP.ret ?_
    obtain rfl := some_eq h
    simp +decide -implicitDefEqProofs only [go_sem, mpE_nil, Int.natCast_zero, List.replicate_zero, List.length_take, List.length_drop, AVal.own.injEq, reduceCtorEq, Int.reduceAdd, nle2, nle1, nle0, nleA, nleL, Try.results26]

def law11_without_b1 (n_ : Int) (k2 : Nat) (x_4 : Int) (sv : (List Int)) : Option (Out ((List Int)) ((List Int))) :=
  (bif (decide (x_4 ≠ n_)) then chk (sv.length + 1) (some (Out.next (sv ++ [x_4]))) else some (Out.next sv))

def law11_without (l : List Int) (n_ : Int) : Option ((List Int)) :=
  (forIx (law11_without_b1 n_) 0 l []).bind fun o2 => o2.on fun s2 => some s2

theorem law11_without_fresh (l : List Int) (n_ : Int) {r : (List Int)} (h : law11_without l n_ = some r) : FreshFn Try.prog 27 [.sl 1 (l.map intC), .int .i64 n_] (· = .sl 1 (r.map intC)) := by
  refine FreshFn.nle (FreshFn.intro Try.func27 rfl rfl (by show _ ≤ 27; simp) ?_)
  unfold law11_without at h
  (try simp +decide -implicitDefEqProofs only [go_sem])
  refine AWP.seq ?_
  refine AWP.region rfl ?_; intro K hK
  (try simp +decide -implicitDefEqProofs only [go_sem])
  refine hK _ _ ?_; clear hK K
  refine qthen_normal ?_
  refine AWP.seq ?_
  refine AWP.region rfl ?_; intro K hK
  (try simp +decide -implicitDefEqProofs only [go_sem])
  refine hK _ _ ?_; clear hK K
  refine qthen_normal ?_
  refine AWP.seq ?_
  refine AWP.seq ?_
  refine AWP.region rfl ?_; intro K hK
  (try simp +decide -implicitDefEqProofs only [go_sem])
  refine hK _ _ ?_; clear hK K
  refine qthen_normal ?_
  refine AWP.block ?_
  refine AWP.ghost 5 1 rfl (by decide) ?_
  obtain ⟨o2, hJ2, hO2⟩ := bindE h
  clear h
  refine AWP.loopW (ι := Nat × ((List Int)) × (Nat)) (fun zz => [(0, .sl 1 (l.map intC)), (1, .int .i64 n_), (5, .own 0 zz.2.2 0 zz.2.1.length), (6, .int .i64 ((zz.1 : Nat) : Int))]) (fun zz => [.row zz.2.2 1 (zz.2.1.map intC)]) (fun zz => zz.1 ≤ l.length ∧ forIx (law11_without_b1 n_) zz.1 ((l).drop zz.1) zz.2.1 = some o2) (fun zz => l.length - zz.1) (0, [], 0) ⟨Nat.zero_le _, hJ2⟩ (by (simp +decide -implicitDefEqProofs only [go_sem, mpE_nil, Int.natCast_zero, List.replicate_zero, List.length_take, List.length_drop, AVal.own.injEq, reduceCtorEq, Int.reduceAdd] <;> omega)) (by (simp +decide -implicitDefEqProofs only [go_sem, mpE_nil, Int.natCast_zero, List.replicate_zero, List.length_take, List.length_drop, AVal.own.injEq, reduceCtorEq, Int.reduceAdd] <;> omega)) (fun x => ⟨rfl, rfl, rfl⟩) ?_
  clear hJ2
  rintro ⟨k2, out1, ver2⟩ ⟨hk2, hJ2⟩
  dsimp only at hk2 hJ2 ⊢
  refine AWP.seq ?_
  refine AWP.seq ?_
  refine AWP.region rfl ?_; intro K hK
  (try simp +decide -implicitDefEqProofs only [go_sem])
  intro hm
  refine hK _ _ ?_; clear hK K
  refine qthen_normal ?_
  refine AWP.cond (acond_split (fun hc => ?_) (fun hc => ?_))
  · have hlt2 : k2 < l.length := by have := of_decide_eq_true hc; omega
    obtain ⟨x_4, b2, hx2_, h, hJ2⟩ := for_cons hJ2 hlt2
    have hx2 := idxL_nat hx2_
    have hw2 : IntKind.i64.wrap (((k2 : Nat) : Int) + 1) = (((k2 : Nat) : Int) + (1 : Int)) := by rw [wrap_i64] <;> omega
    unfold law11_without_b1 at h; try dsimp only at h
    refine AWP.skip ?_
    refine qthen_normal ?_
    refine AWP.seq ?_
    refine AWP.block ?_
    refine AWP.seq ?_
    refine AWP.region rfl ?_; intro K hK
    (try simp +decide -implicitDefEqProofs only [go_sem])
    refine AIdx.of (f := intC) (l := l) hx2 ?_
    (try simp +decide -implicitDefEqProofs only [go_sem])
    refine hK _ _ ?_; clear hK K
    refine qthen_normal ?_
    refine AWP.cond (acond_split (fun hc => ?_) (fun hc => ?_))
    · replace h := bif_t h hc
      refine AWP.region rfl ?_; intro K hK
      (try simp +decide -implicitDefEqProofs only [go_sem])
      refine AIdx.of (f := intC) (l := l) hx2 ?_
      (try simp +decide -implicitDefEqProofs only [go_sem])
      obtain ⟨hk, h⟩ := chk_in h
      (repeat (refine ⟨by first | omega | (simp only [List.length_take, List.length_drop, List.length_append]; omega), ?_⟩)); try simp +decide -implicitDefEqProofs only [go_sem]
      refine hK _ _ ?_; clear hK K
      refine qblock_normal ?_
      refine qthen_normal ?_
      refine AWP.region rfl ?_; intro K hK
      (try simp +decide -implicitDefEqProofs only [go_sem])
      refine hK _ _ ?_; clear hK K
      refine qthen_normal ?_
      obtain rfl := some_eq h
      refine ⟨(k2 + 1, (out1 ++ [x_4]), (ver2 + 1)), ⟨by dsimp only; omega, cont_next hJ2⟩, by dsimp only; omega, ?_, ?_⟩
      · (simp +decide -implicitDefEqProofs only [go_sem, mpE_nil, Int.natCast_zero, List.replicate_zero, List.length_take, List.length_drop, AVal.own.injEq, reduceCtorEq, Int.reduceAdd, hw2] <;> omega)
      · (simp +decide -implicitDefEqProofs only [go_sem, mpE_nil, Int.natCast_zero, List.replicate_zero, List.length_take, List.length_drop, AVal.own.injEq, reduceCtorEq, Int.reduceAdd, hw2] <;> omega)
    replace h := bif_f h hc
    refine AWP.skip ?_
    refine qblock_normal ?_
    refine qthen_normal ?_
    refine AWP.region rfl ?_; intro K hK
    (try simp +decide -implicitDefEqProofs only [go_sem])
    refine hK _ _ ?_; clear hK K
    refine qthen_normal ?_
    obtain rfl := some_eq h
    refine ⟨(k2 + 1, out1, ver2), ⟨by dsimp only; omega, cont_next hJ2⟩, by dsimp only; omega, ?_, ?_⟩
    · (simp +decide -implicitDefEqProofs only [go_sem, mpE_nil, Int.natCast_zero, List.replicate_zero, List.length_take, List.length_drop, AVal.own.injEq, reduceCtorEq, Int.reduceAdd, hw2] <;> omega)
    · (simp +decide -implicitDefEqProofs only [go_sem, mpE_nil, Int.natCast_zero, List.replicate_zero, List.length_take, List.length_drop, AVal.own.injEq, reduceCtorEq, Int.reduceAdd, hw2] <;> omega)
  · obtain rfl := for_nil hJ2 (fun hl => by have := of_decide_eq_false hc; omega)
    have h := on_next hO2; try dsimp only at h
    have hkl : l.length = k2 := by have := of_decide_eq_false hc; omega
    subst hkl
    refine AWP.exit ?_
    refine qthen_exit ?_
    refine qthen_exit ?_
    refine qblock_same ?_
    refine qthen_normal ?_
    refine AWP.seq ?_
    refine AWP.region rfl ?_; intro K hK
    (try simp +decide -implicitDefEqProofs only [go_sem])
    refine hK _ _ ?_; clear hK K
    refine qthen_normal ?_
    refine AWP.ret ?_
    obtain rfl := some_eq h
    simp +decide -implicitDefEqProofs only [go_sem, mpE_nil, Int.natCast_zero, List.replicate_zero, List.length_take, List.length_drop, AVal.own.injEq, reduceCtorEq, Int.reduceAdd, nle2, nle1, nle0, nleA, nleL, Try.results27]
theorem law11_without_spec (l : List Int) (n_ : Int) {r : (List Int)} (h : law11_without l n_ = some r) : PureFn Try.prog 27 [.sl 1 (l.map intC), .int .i64 n_] (· = .sl 1 (r.map intC)) := (law11_without_fresh l n_ h).pure

def law11_WaysHome_b2 (y3 : (List Int)) (k8 : Nat) (x_10 : Int) (sv : Unit) : Option (Out (Unit) (Bool)) :=
  (ref05_Has y3 x_10).bind fun y11 => (bif (!y11) then some (Out.ret false) else some (Out.next ()))

def law11_WaysHome_j1 (x_ : Skilaw11Open) (run : Int) (y3 : (List Int)) : Option (Bool) :=
  (ways_Needs x_.Map x_.Lifts x_.Runs run).bind fun y6 => (bif (decide ((0 : Int) < ((y6.length : Nat) : Int))) then some true else (law11_without x_.Runs run).bind fun y7 => (ways_Stranded x_.Map x_.Lifts y7).bind fun y8 => (forIx (law11_WaysHome_b2 y3) 0 y8 ()).bind fun o8 => o8.on fun s8 => some true)

def law11_WaysHome_b3 (x_ : Skilaw11Open) (y3 : (List Int)) (k11 : Nat) (x_13 : Int) (sv : Unit) : Option (Out (Unit) (Bool)) :=
  (ways_Way x_.Map x_.Runs x_13).bind fun y14 => (ref05_Has y3 x_13).bind fun y15 => (bif (y14.2.2 == y15) then some (Out.ret false) else (law11_leads x_ y14.1 x_13).bind fun y16 => (bif y14.2.2 then (bif (!y16.2) then some (Out.ret false) else (bif (decide (y16.1 ≠ y14.2.1)) then some (Out.ret false) else some (Out.next ()))) else some (Out.next ())))

def law11_WaysHome (x_ : Skilaw11Open) (run : Int) : Option (Bool) :=
  (law11_alive).bind fun y1 => (bif (!y1) then some false else (law11_small x_).bind fun y2 => (bif (!y2) then some true else (ways_Stranded x_.Map x_.Lifts x_.Runs).bind fun y3 => (ways_Reachable x_.Map x_.Lifts x_.Runs).bind fun y4 => (forIx (law11_WaysHome_b3 x_ y3) 0 y4 ()).bind fun o11 => o11.on fun s11 => law11_WaysHome_j1 x_ run y3))

theorem law11_WaysHome_spec (x_ : Skilaw11Open) (run : Int) {r : Bool} (h : law11_WaysHome x_ run = some r) : PureFn Try.prog 6 [.agg (encSkilaw11Open x_), .int .i64 run] (· = .bool r) := by
  refine PureFn.nle (PureFn.intro Try.func6 rfl rfl (by show _ ≤ 113; simp) ?_)
  unfold law11_WaysHome at h
  (try simp +decide -implicitDefEqProofs only [go_sem])
  refine AWP.seq ?_
  refine AWP.region rfl ?_; intro K hK
  (try simp +decide -implicitDefEqProofs only [go_sem])
  refine hK _ _ ?_; clear hK K
  refine qthen_normal ?_
  refine AWP.seq ?_
  refine AWP.seq ?_
  refine AWP.region rfl ?_; intro K hK
  (try simp +decide -implicitDefEqProofs only [go_sem])
  obtain ⟨y1, hy1, h⟩ := bindE h
  refine ACall.pure Try.call10 (law11_alive_spec hy1) rfl fun _ hr => ?_
  subst hr
  (try simp +decide -implicitDefEqProofs only [go_sem])
  refine hK _ _ ?_; clear hK K
  refine qthen_normal ?_
  refine AWP.cond (acond_split (fun hc => ?_) (fun hc => ?_))
  · replace h := bif_t h hc
    refine AWP.seq ?_
    refine AWP.region rfl ?_; intro K hK
    (try simp +decide -implicitDefEqProofs only [go_sem])
    refine hK _ _ ?_; clear hK K
    refine qthen_normal ?_
    refine AWP.ret ?_
    refine qthen_ret ?_
    obtain rfl := some_eq h
    simp +decide -implicitDefEqProofs only [go_sem, mpE_nil, Int.natCast_zero, List.replicate_zero, List.length_take, List.length_drop, AVal.own.injEq, reduceCtorEq, Int.reduceAdd, nle2, nle1, nle0, nleA, nleL, Try.results6]
  replace h := bif_f h hc
  refine AWP.skip ?_
  refine qthen_normal ?_
  refine AWP.seq ?_
  refine AWP.seq ?_
  refine AWP.region rfl ?_; intro K hK
  (try simp +decide -implicitDefEqProofs only [go_sem])
  obtain ⟨y2, hy2, h⟩ := bindE h
  refine ACall.pure Try.call11 (law11_small_spec x_ hy2) rfl fun _ hr => ?_
  subst hr
  (try simp +decide -implicitDefEqProofs only [go_sem])
  refine hK _ _ ?_; clear hK K
  refine qthen_normal ?_
  refine AWP.cond (acond_split (fun hc => ?_) (fun hc => ?_))
  · replace h := bif_t h hc
    refine AWP.seq ?_
    refine AWP.region rfl ?_; intro K hK
    (try simp +decide -implicitDefEqProofs only [go_sem])
    refine hK _ _ ?_; clear hK K
    refine qthen_normal ?_
    refine AWP.ret ?_
    refine qthen_ret ?_
    obtain rfl := some_eq h
    simp +decide -implicitDefEqProofs only [go_sem, mpE_nil, Int.natCast_zero, List.replicate_zero, List.length_take, List.length_drop, AVal.own.injEq, reduceCtorEq, Int.reduceAdd, nle2, nle1, nle0, nleA, nleL, Try.results6]
  replace h := bif_f h hc
  refine AWP.skip ?_
  refine qthen_normal ?_
  refine AWP.seq ?_
  refine AWP.region rfl ?_; intro K hK
  (try simp +decide -implicitDefEqProofs only [go_sem])
  obtain ⟨y3, hy3, h⟩ := bindE h
  refine ACall.pure Try.call17 (ways_Stranded_spec x_.Map x_.Lifts x_.Runs hy3) rfl fun _ hr => ?_
  subst hr
  (try simp +decide -implicitDefEqProofs only [go_sem])
  refine hK _ _ ?_; clear hK K
  refine qthen_normal ?_
  refine AWP.seq ?_
  refine AWP.region rfl ?_; intro K hK
  (try simp +decide -implicitDefEqProofs only [go_sem])
  obtain ⟨y4, hy4, h⟩ := bindE h
  refine ACall.pure Try.call13 (ways_Reachable_spec x_.Map x_.Lifts x_.Runs hy4) rfl fun _ hr => ?_
  subst hr
  (try simp +decide -implicitDefEqProofs only [go_sem])
  refine hK _ _ ?_; clear hK K
  refine qthen_normal ?_
  refine AWP.seqJoin (ι := (Unit) × (Unit)) (fun zz => [(1, .int .i64 run), (2, .ptr 0 0), (5, .sl 1 (y3.map intC))]) (fun zz => [.box [.sl 2 (x_.Map.Nodes.map encApiNode), .sl 8 (x_.Map.Lifts.map encApiLift), .sl 7 (x_.Map.Runs.map encApiRun), .sl 1 (x_.Map.Bases.map intC), .sl 1 (x_.Lifts.map intC), .sl 1 (x_.Runs.map intC)]]) (fun zz => law11_WaysHome_j1 x_ run y3 = some r) (fun zz => ⟨rfl, rfl, rfl⟩) ?_ ?_
  · refine AWP.seq ?_
    refine AWP.region rfl ?_; intro K hK
    (try simp +decide -implicitDefEqProofs only [go_sem])
    refine hK _ _ ?_; clear hK K
    refine qthen_normal ?_
    refine AWP.block ?_
    obtain ⟨o11, hJ11, hO11⟩ := bindE h
    clear h
    refine AWP.loopW (ι := Nat × (Unit) × (Unit)) (fun zz => [(1, .int .i64 run), (2, .ptr 0 0), (5, .sl 1 (y3.map intC)), (6, .sl 1 (y4.map intC)), (7, .int .i64 ((zz.1 : Nat) : Int))]) (fun zz => [.box [.sl 2 (x_.Map.Nodes.map encApiNode), .sl 8 (x_.Map.Lifts.map encApiLift), .sl 7 (x_.Map.Runs.map encApiRun), .sl 1 (x_.Map.Bases.map intC), .sl 1 (x_.Lifts.map intC), .sl 1 (x_.Runs.map intC)]]) (fun zz => zz.1 ≤ y4.length ∧ forIx (law11_WaysHome_b3 x_ y3) zz.1 ((y4).drop zz.1) zz.2.1 = some o11) (fun zz => y4.length - zz.1) (0, (), ()) ⟨Nat.zero_le _, hJ11⟩ (by (simp +decide -implicitDefEqProofs only [go_sem, mpE_nil, Int.natCast_zero, List.replicate_zero, List.length_take, List.length_drop, AVal.own.injEq, reduceCtorEq, Int.reduceAdd] <;> omega)) (by (simp +decide -implicitDefEqProofs only [go_sem, mpE_nil, Int.natCast_zero, List.replicate_zero, List.length_take, List.length_drop, AVal.own.injEq, reduceCtorEq, Int.reduceAdd] <;> omega)) (fun x => ⟨rfl, rfl, rfl⟩) ?_
    clear hJ11
    rintro ⟨k11, ⟨⟩, ⟨⟩⟩ ⟨hk11, hJ11⟩
    dsimp only at hk11 hJ11 ⊢
    refine AWP.seq ?_
    refine AWP.seq ?_
    refine AWP.region rfl ?_; intro K hK
    (try simp +decide -implicitDefEqProofs only [go_sem])
    intro hm
    refine hK _ _ ?_; clear hK K
    refine qthen_normal ?_
    refine AWP.cond (acond_split (fun hc => ?_) (fun hc => ?_))
    · have hlt11 : k11 < y4.length := by have := of_decide_eq_true hc; omega
      obtain ⟨x_13, b11, hx11_, h, hJ11⟩ := for_cons hJ11 hlt11
      have hx11 := idxL_nat hx11_
      have hw11 : IntKind.i64.wrap (((k11 : Nat) : Int) + 1) = (((k11 : Nat) : Int) + (1 : Int)) := by rw [wrap_i64] <;> omega
      unfold law11_WaysHome_b3 at h; try dsimp only at h
      refine AWP.skip ?_
      refine qthen_normal ?_
      refine AWP.seq ?_
      refine AWP.block ?_
      refine AWP.seq ?_
      refine AWP.draw Try.mixed (by kernel_rfl) ?_; intro K hK
      (try simp +decide -implicitDefEqProofs only [go_sem])
      refine AIdx.of (f := intC) (l := y4) hx11 ?_
      (try simp +decide -implicitDefEqProofs only [go_sem])
      obtain ⟨y14, hy14, h⟩ := bindE h
      refine DCall.pure Try.call19 (ways_Way_spec x_.Map x_.Runs x_13 hy14) rfl ?_
      (try simp +decide -implicitDefEqProofs only [go_sem])
      refine hK _ _ _ (by kernel_rfl) ?_; clear hK K
      refine qthen_normal ?_
      refine AWP.seq ?_
      refine AWP.seq ?_
      refine AWP.region rfl ?_; intro K hK
      (try simp +decide -implicitDefEqProofs only [go_sem])
      refine AIdx.of (f := intC) (l := y4) hx11 ?_
      (try simp +decide -implicitDefEqProofs only [go_sem])
      obtain ⟨y15, hy15, h⟩ := bindE h
      refine ACall.pure Try.call25 (ref05_Has_spec y3 x_13 hy15) rfl fun _ hr => ?_
      subst hr
      (try simp +decide -implicitDefEqProofs only [go_sem])
      refine hK _ _ ?_; clear hK K
      refine qthen_normal ?_
      refine AWP.cond (acond_split (fun hc => ?_) (fun hc => ?_))
      · replace h := bif_t h hc
        refine AWP.seq ?_
        refine AWP.region rfl ?_; intro K hK
        (try simp +decide -implicitDefEqProofs only [go_sem])
        refine hK _ _ ?_; clear hK K
        refine qthen_normal ?_
        refine AWP.ret ?_
        refine qthen_ret ?_
        refine qblock_ret ?_
        refine qthen_ret ?_
        refine qthen_ret ?_
        obtain rfl := some_eq h
        obtain rfl := cont_ret hJ11
        replace h := on_ret hO11
        refine qblock_ret ?_
        refine qthen_ret ?_
        obtain rfl := some_eq h
        simp +decide -implicitDefEqProofs only [go_sem, mpE_nil, Int.natCast_zero, List.replicate_zero, List.length_take, List.length_drop, AVal.own.injEq, reduceCtorEq, Int.reduceAdd, nle2, nle1, nle0, nleA, nleL, Try.results6]
      replace h := bif_f h hc
      refine AWP.skip ?_
      refine qthen_normal ?_
      refine AWP.seq ?_
      refine AWP.draw Try.mixed (by kernel_rfl) ?_; intro K hK
      (try simp +decide -implicitDefEqProofs only [go_sem])
      refine AIdx.of (f := intC) (l := y4) hx11 ?_
      (try simp +decide -implicitDefEqProofs only [go_sem])
      obtain ⟨y16, hy16, h⟩ := bindE h
      refine DCall.pure Try.call26 (law11_leads_spec x_ y14.1 x_13 hy16) rfl ?_
      (try simp +decide -implicitDefEqProofs only [go_sem])
      refine hK _ _ _ (by kernel_rfl) ?_; clear hK K
      refine qthen_normal ?_
      refine AWP.seq ?_
      refine AWP.region rfl ?_; intro K hK
      (try simp +decide -implicitDefEqProofs only [go_sem])
      refine aguardK_split (fun hc => ?_) (fun hc => ?_)
      · replace h := bif_t h hc
        (try simp +decide -implicitDefEqProofs only [go_sem, hc])
        refine aguardK_split (fun hc => ?_) (fun hc => ?_)
        · replace h := bif_f h hc
          (try simp +decide -implicitDefEqProofs only [go_sem, hc])
          refine hK _ _ ?_; clear hK K
          refine qthen_normal ?_
          refine AWP.cond (acond_split (fun hc => ?_) (fun hc => ?_))
          · replace h := bif_t h hc
            refine AWP.seq ?_
            refine AWP.region rfl ?_; intro K hK
            (try simp +decide -implicitDefEqProofs only [go_sem])
            refine hK _ _ ?_; clear hK K
            refine qthen_normal ?_
            refine AWP.ret ?_
            refine qblock_ret ?_
            refine qthen_ret ?_
            refine qthen_ret ?_
            obtain rfl := some_eq h
            obtain rfl := cont_ret hJ11
            replace h := on_ret hO11
            refine qblock_ret ?_
            refine qthen_ret ?_
            obtain rfl := some_eq h
            simp +decide -implicitDefEqProofs only [go_sem, mpE_nil, Int.natCast_zero, List.replicate_zero, List.length_take, List.length_drop, AVal.own.injEq, reduceCtorEq, Int.reduceAdd, nle2, nle1, nle0, nleA, nleL, Try.results6]
          replace h := bif_f h hc
          refine AWP.skip ?_
          refine qblock_normal ?_
          refine qthen_normal ?_
          refine AWP.region rfl ?_; intro K hK
          (try simp +decide -implicitDefEqProofs only [go_sem])
          refine hK _ _ ?_; clear hK K
          refine qthen_normal ?_
          obtain rfl := some_eq h
          refine ⟨(k11 + 1, (), ()), ⟨by dsimp only; omega, cont_next hJ11⟩, by dsimp only; omega, ?_, ?_⟩
          · (simp +decide -implicitDefEqProofs only [go_sem, mpE_nil, Int.natCast_zero, List.replicate_zero, List.length_take, List.length_drop, AVal.own.injEq, reduceCtorEq, Int.reduceAdd, hw11] <;> omega)
          · (simp +decide -implicitDefEqProofs only [go_sem, mpE_nil, Int.natCast_zero, List.replicate_zero, List.length_take, List.length_drop, AVal.own.injEq, reduceCtorEq, Int.reduceAdd, hw11] <;> omega)
        · replace h := bif_t h hc
          (try simp +decide -implicitDefEqProofs only [go_sem, hc, Bool.not_false])
          refine hK _ _ ?_; clear hK K
          refine qthen_normal ?_
          refine AWP.cond (acond_true ?_)
          refine AWP.seq ?_
          refine AWP.region rfl ?_; intro K hK
          (try simp +decide -implicitDefEqProofs only [go_sem])
          refine hK _ _ ?_; clear hK K
          refine qthen_normal ?_
          refine AWP.ret ?_
          refine qblock_ret ?_
          refine qthen_ret ?_
          refine qthen_ret ?_
          obtain rfl := some_eq h
          obtain rfl := cont_ret hJ11
          replace h := on_ret hO11
          refine qblock_ret ?_
          refine qthen_ret ?_
          obtain rfl := some_eq h
          simp +decide -implicitDefEqProofs only [go_sem, mpE_nil, Int.natCast_zero, List.replicate_zero, List.length_take, List.length_drop, AVal.own.injEq, reduceCtorEq, Int.reduceAdd, nle2, nle1, nle0, nleA, nleL, Try.results6]
      · replace h := bif_f h hc
        (try simp +decide -implicitDefEqProofs only [go_sem, hc, Bool.not_true])
        refine hK _ _ ?_; clear hK K
        refine qthen_normal ?_
        refine AWP.cond (acond_false ?_)
        refine AWP.skip ?_
        refine qblock_normal ?_
        refine qthen_normal ?_
        refine AWP.region rfl ?_; intro K hK
        (try simp +decide -implicitDefEqProofs only [go_sem])
        refine hK _ _ ?_; clear hK K
        refine qthen_normal ?_
        obtain rfl := some_eq h
        refine ⟨(k11 + 1, (), ()), ⟨by dsimp only; omega, cont_next hJ11⟩, by dsimp only; omega, ?_, ?_⟩
        · (simp +decide -implicitDefEqProofs only [go_sem, mpE_nil, Int.natCast_zero, List.replicate_zero, List.length_take, List.length_drop, AVal.own.injEq, reduceCtorEq, Int.reduceAdd, hw11] <;> omega)
        · (simp +decide -implicitDefEqProofs only [go_sem, mpE_nil, Int.natCast_zero, List.replicate_zero, List.length_take, List.length_drop, AVal.own.injEq, reduceCtorEq, Int.reduceAdd, hw11] <;> omega)
    · obtain rfl := for_nil hJ11 (fun hl => by have := of_decide_eq_false hc; omega)
      have h := on_next hO11; try dsimp only at h
      have hkl : y4.length = k11 := by have := of_decide_eq_false hc; omega
      subst hkl
      refine AWP.exit ?_
      refine qthen_exit ?_
      refine qthen_exit ?_
      refine qblock_same ?_
      refine qthen_normal ?_
      exact ⟨((), ()), h, by (simp +decide -implicitDefEqProofs only [go_sem, mpE_nil, Int.natCast_zero, List.replicate_zero, List.length_take, List.length_drop, AVal.own.injEq, reduceCtorEq, Int.reduceAdd] <;> omega), by (simp +decide -implicitDefEqProofs only [go_sem, mpE_nil, Int.natCast_zero, List.replicate_zero, List.length_take, List.length_drop, AVal.own.injEq, reduceCtorEq, Int.reduceAdd] <;> omega)⟩
  · rintro ⟨⟨⟩, ⟨⟩⟩ h
    try dsimp only at h ⊢
    unfold law11_WaysHome_j1 at h; try dsimp only at h
    refine AWP.seq ?_
    refine AWP.seq ?_
    refine AWP.region rfl ?_; intro K hK
    (try simp +decide -implicitDefEqProofs only [go_sem])
    obtain ⟨y6, hy6, h⟩ := bindE h
    refine ACall.pure Try.call23 (ways_Needs_spec x_.Map x_.Lifts x_.Runs run hy6) rfl fun _ hr => ?_
    subst hr
    (try simp +decide -implicitDefEqProofs only [go_sem])
    intro hm
    refine hK _ _ ?_; clear hK K
    refine qthen_normal ?_
    refine AWP.cond (acond_split (fun hc => ?_) (fun hc => ?_))
    · replace h := bif_t h hc
      refine AWP.seq ?_
      refine AWP.region rfl ?_; intro K hK
      (try simp +decide -implicitDefEqProofs only [go_sem])
      refine hK _ _ ?_; clear hK K
      refine qthen_normal ?_
      refine AWP.ret ?_
      refine qthen_ret ?_
      obtain rfl := some_eq h
      simp +decide -implicitDefEqProofs only [go_sem, mpE_nil, Int.natCast_zero, List.replicate_zero, List.length_take, List.length_drop, AVal.own.injEq, reduceCtorEq, Int.reduceAdd, nle2, nle1, nle0, nleA, nleL, Try.results6]
    replace h := bif_f h hc
    refine AWP.skip ?_
    refine qthen_normal ?_
    refine AWP.seq ?_
    refine AWP.draw Try.mixed (by kernel_rfl) ?_; intro K hK
    (try simp +decide -implicitDefEqProofs only [go_sem])
    obtain ⟨y7, hy7, h⟩ := bindE h
    refine DCall.pure Try.call27 (law11_without_spec x_.Runs run hy7) rfl ?_
    (try simp +decide -implicitDefEqProofs only [go_sem])
    obtain ⟨y8, hy8, h⟩ := bindE h
    refine DCall.pure Try.call17 (ways_Stranded_spec x_.Map x_.Lifts y7 hy8) rfl ?_
    (try simp +decide -implicitDefEqProofs only [go_sem])
    refine hK _ _ _ (by kernel_rfl) ?_; clear hK K
    refine qthen_normal ?_
    refine AWP.seq ?_
    refine AWP.seq ?_
    refine AWP.region rfl ?_; intro K hK
    (try simp +decide -implicitDefEqProofs only [go_sem])
    refine hK _ _ ?_; clear hK K
    refine qthen_normal ?_
    refine AWP.block ?_
    obtain ⟨o8, hJ8, hO8⟩ := bindE h
    clear h
    refine AWP.loopW (ι := Nat × (Unit) × (Unit)) (fun zz => [(5, .sl 1 (y3.map intC)), (13, .sl 1 (y8.map intC)), (14, .int .i64 ((zz.1 : Nat) : Int))]) (fun zz => []) (fun zz => zz.1 ≤ y8.length ∧ forIx (law11_WaysHome_b2 y3) zz.1 ((y8).drop zz.1) zz.2.1 = some o8) (fun zz => y8.length - zz.1) (0, (), ()) ⟨Nat.zero_le _, hJ8⟩ (by (simp +decide -implicitDefEqProofs only [go_sem, mpE_nil, Int.natCast_zero, List.replicate_zero, List.length_take, List.length_drop, AVal.own.injEq, reduceCtorEq, Int.reduceAdd] <;> omega)) (by (simp +decide -implicitDefEqProofs only [go_sem, mpE_nil, Int.natCast_zero, List.replicate_zero, List.length_take, List.length_drop, AVal.own.injEq, reduceCtorEq, Int.reduceAdd] <;> omega)) (fun x => ⟨rfl, rfl, rfl⟩) ?_
    clear hJ8
    rintro ⟨k8, ⟨⟩, ⟨⟩⟩ ⟨hk8, hJ8⟩
    dsimp only at hk8 hJ8 ⊢
    refine AWP.seq ?_
    refine AWP.seq ?_
    refine AWP.region rfl ?_; intro K hK
    (try simp +decide -implicitDefEqProofs only [go_sem])
    intro hm
    refine hK _ _ ?_; clear hK K
    refine qthen_normal ?_
    refine AWP.cond (acond_split (fun hc => ?_) (fun hc => ?_))
    · have hlt8 : k8 < y8.length := by have := of_decide_eq_true hc; omega
      obtain ⟨x_10, b8, hx8_, h, hJ8⟩ := for_cons hJ8 hlt8
      have hx8 := idxL_nat hx8_
      have hw8 : IntKind.i64.wrap (((k8 : Nat) : Int) + 1) = (((k8 : Nat) : Int) + (1 : Int)) := by rw [wrap_i64] <;> omega
      unfold law11_WaysHome_b2 at h; try dsimp only at h
      refine AWP.skip ?_
      refine qthen_normal ?_
      refine AWP.seq ?_
      refine AWP.block ?_
      refine AWP.seq ?_
      refine AWP.region rfl ?_; intro K hK
      (try simp +decide -implicitDefEqProofs only [go_sem])
      refine AIdx.of (f := intC) (l := y8) hx8 ?_
      (try simp +decide -implicitDefEqProofs only [go_sem])
      obtain ⟨y11, hy11, h⟩ := bindE h
      refine ACall.pure Try.call25 (ref05_Has_spec y3 x_10 hy11) rfl fun _ hr => ?_
      subst hr
      (try simp +decide -implicitDefEqProofs only [go_sem])
      refine hK _ _ ?_; clear hK K
      refine qthen_normal ?_
      refine AWP.cond (acond_split (fun hc => ?_) (fun hc => ?_))
      · replace h := bif_t h hc
        refine AWP.seq ?_
        refine AWP.region rfl ?_; intro K hK
        (try simp +decide -implicitDefEqProofs only [go_sem])
        refine hK _ _ ?_; clear hK K
        refine qthen_normal ?_
        refine AWP.ret ?_
        refine qblock_ret ?_
        refine qthen_ret ?_
        refine qthen_ret ?_
        obtain rfl := some_eq h
        obtain rfl := cont_ret hJ8
        replace h := on_ret hO8
        refine qblock_ret ?_
        refine qthen_ret ?_
        obtain rfl := some_eq h
        simp +decide -implicitDefEqProofs only [go_sem, mpE_nil, Int.natCast_zero, List.replicate_zero, List.length_take, List.length_drop, AVal.own.injEq, reduceCtorEq, Int.reduceAdd, nle2, nle1, nle0, nleA, nleL, Try.results6]
      replace h := bif_f h hc
      refine AWP.skip ?_
      refine qblock_normal ?_
      refine qthen_normal ?_
      refine AWP.region rfl ?_; intro K hK
      (try simp +decide -implicitDefEqProofs only [go_sem])
      refine hK _ _ ?_; clear hK K
      refine qthen_normal ?_
      obtain rfl := some_eq h
      refine ⟨(k8 + 1, (), ()), ⟨by dsimp only; omega, cont_next hJ8⟩, by dsimp only; omega, ?_, ?_⟩
      · (simp +decide -implicitDefEqProofs only [go_sem, mpE_nil, Int.natCast_zero, List.replicate_zero, List.length_take, List.length_drop, AVal.own.injEq, reduceCtorEq, Int.reduceAdd, hw8] <;> omega)
      · (simp +decide -implicitDefEqProofs only [go_sem, mpE_nil, Int.natCast_zero, List.replicate_zero, List.length_take, List.length_drop, AVal.own.injEq, reduceCtorEq, Int.reduceAdd, hw8] <;> omega)
    · obtain rfl := for_nil hJ8 (fun hl => by have := of_decide_eq_false hc; omega)
      have h := on_next hO8; try dsimp only at h
      have hkl : y8.length = k8 := by have := of_decide_eq_false hc; omega
      subst hkl
      refine AWP.exit ?_
      refine qthen_exit ?_
      refine qthen_exit ?_
      refine qblock_same ?_
      refine qthen_normal ?_
      refine AWP.seq ?_
      refine AWP.region rfl ?_; intro K hK
      (try simp +decide -implicitDefEqProofs only [go_sem])
      refine hK _ _ ?_; clear hK K
      refine qthen_normal ?_
      refine AWP.ret ?_
      obtain rfl := some_eq h
      simp +decide -implicitDefEqProofs only [go_sem, mpE_nil, Int.natCast_zero, List.replicate_zero, List.length_take, List.length_drop, AVal.own.injEq, reduceCtorEq, Int.reduceAdd, nle2, nle1, nle0, nleA, nleL, Try.results6]

def law11_within_b1 (b : List Int) (k0 : Nat) (x_2 : Int) (sv : Unit) : Option (Out (Unit) (Bool)) :=
  (ref05_Has b x_2).bind fun y3 => (bif (!y3) then some (Out.ret false) else some (Out.next ()))

def law11_within (a : List Int) (b : List Int) : Option (Bool) :=
  (forIx (law11_within_b1 b) 0 a ()).bind fun o0 => o0.on fun s0 => some true

theorem law11_within_spec (a : List Int) (b : List Int) {r : Bool} (h : law11_within a b = some r) : PureFn Try.prog 28 [.sl 1 (a.map intC), .sl 1 (b.map intC)] (· = .bool r) := by
  refine PureFn.nle (PureFn.intro Try.func28 rfl rfl (by show _ ≤ 19; simp) ?_)
  unfold law11_within at h
  (try simp +decide -implicitDefEqProofs only [go_sem])
  refine AWP.seq ?_
  refine AWP.region rfl ?_; intro K hK
  (try simp +decide -implicitDefEqProofs only [go_sem])
  refine hK _ _ ?_; clear hK K
  refine qthen_normal ?_
  refine AWP.seq ?_
  refine AWP.seq ?_
  refine AWP.region rfl ?_; intro K hK
  (try simp +decide -implicitDefEqProofs only [go_sem])
  refine hK _ _ ?_; clear hK K
  refine qthen_normal ?_
  refine AWP.block ?_
  obtain ⟨o0, hJ0, hO0⟩ := bindE h
  clear h
  refine AWP.loopW (ι := Nat × (Unit) × (Unit)) (fun zz => [(0, .sl 1 (a.map intC)), (1, .sl 1 (b.map intC)), (5, .int .i64 ((zz.1 : Nat) : Int))]) (fun zz => []) (fun zz => zz.1 ≤ a.length ∧ forIx (law11_within_b1 b) zz.1 ((a).drop zz.1) zz.2.1 = some o0) (fun zz => a.length - zz.1) (0, (), ()) ⟨Nat.zero_le _, hJ0⟩ (by (simp +decide -implicitDefEqProofs only [go_sem, mpE_nil, Int.natCast_zero, List.replicate_zero, List.length_take, List.length_drop, AVal.own.injEq, reduceCtorEq, Int.reduceAdd] <;> omega)) (by (simp +decide -implicitDefEqProofs only [go_sem, mpE_nil, Int.natCast_zero, List.replicate_zero, List.length_take, List.length_drop, AVal.own.injEq, reduceCtorEq, Int.reduceAdd] <;> omega)) (fun x => ⟨rfl, rfl, rfl⟩) ?_
  clear hJ0
  rintro ⟨k0, ⟨⟩, ⟨⟩⟩ ⟨hk0, hJ0⟩
  dsimp only at hk0 hJ0 ⊢
  refine AWP.seq ?_
  refine AWP.seq ?_
  refine AWP.region rfl ?_; intro K hK
  (try simp +decide -implicitDefEqProofs only [go_sem])
  intro hm
  refine hK _ _ ?_; clear hK K
  refine qthen_normal ?_
  refine AWP.cond (acond_split (fun hc => ?_) (fun hc => ?_))
  · have hlt0 : k0 < a.length := by have := of_decide_eq_true hc; omega
    obtain ⟨x_2, b0, hx0_, h, hJ0⟩ := for_cons hJ0 hlt0
    have hx0 := idxL_nat hx0_
    have hw0 : IntKind.i64.wrap (((k0 : Nat) : Int) + 1) = (((k0 : Nat) : Int) + (1 : Int)) := by rw [wrap_i64] <;> omega
    unfold law11_within_b1 at h; try dsimp only at h
    refine AWP.skip ?_
    refine qthen_normal ?_
    refine AWP.seq ?_
    refine AWP.block ?_
    refine AWP.seq ?_
    refine AWP.region rfl ?_; intro K hK
    (try simp +decide -implicitDefEqProofs only [go_sem])
    refine AIdx.of (f := intC) (l := a) hx0 ?_
    (try simp +decide -implicitDefEqProofs only [go_sem])
    obtain ⟨y3, hy3, h⟩ := bindE h
    refine ACall.pure Try.call25 (ref05_Has_spec b x_2 hy3) rfl fun _ hr => ?_
    subst hr
    (try simp +decide -implicitDefEqProofs only [go_sem])
    refine hK _ _ ?_; clear hK K
    refine qthen_normal ?_
    refine AWP.cond (acond_split (fun hc => ?_) (fun hc => ?_))
    · replace h := bif_t h hc
      refine AWP.seq ?_
      refine AWP.region rfl ?_; intro K hK
      (try simp +decide -implicitDefEqProofs only [go_sem])
      refine hK _ _ ?_; clear hK K
      refine qthen_normal ?_
      refine AWP.ret ?_
      refine qblock_ret ?_
      refine qthen_ret ?_
      refine qthen_ret ?_
      obtain rfl := some_eq h
      obtain rfl := cont_ret hJ0
      replace h := on_ret hO0
      refine qblock_ret ?_
      refine qthen_ret ?_
      obtain rfl := some_eq h
      simp +decide -implicitDefEqProofs only [go_sem, mpE_nil, Int.natCast_zero, List.replicate_zero, List.length_take, List.length_drop, AVal.own.injEq, reduceCtorEq, Int.reduceAdd, nle2, nle1, nle0, nleA, nleL, Try.results28]
    replace h := bif_f h hc
    refine AWP.skip ?_
    refine qblock_normal ?_
    refine qthen_normal ?_
    refine AWP.region rfl ?_; intro K hK
    (try simp +decide -implicitDefEqProofs only [go_sem])
    refine hK _ _ ?_; clear hK K
    refine qthen_normal ?_
    obtain rfl := some_eq h
    refine ⟨(k0 + 1, (), ()), ⟨by dsimp only; omega, cont_next hJ0⟩, by dsimp only; omega, ?_, ?_⟩
    · (simp +decide -implicitDefEqProofs only [go_sem, mpE_nil, Int.natCast_zero, List.replicate_zero, List.length_take, List.length_drop, AVal.own.injEq, reduceCtorEq, Int.reduceAdd, hw0] <;> omega)
    · (simp +decide -implicitDefEqProofs only [go_sem, mpE_nil, Int.natCast_zero, List.replicate_zero, List.length_take, List.length_drop, AVal.own.injEq, reduceCtorEq, Int.reduceAdd, hw0] <;> omega)
  · obtain rfl := for_nil hJ0 (fun hl => by have := of_decide_eq_false hc; omega)
    have h := on_next hO0; try dsimp only at h
    have hkl : a.length = k0 := by have := of_decide_eq_false hc; omega
    subst hkl
    refine AWP.exit ?_
    refine qthen_exit ?_
    refine qthen_exit ?_
    refine qblock_same ?_
    refine qthen_normal ?_
    refine AWP.seq ?_
    refine AWP.region rfl ?_; intro K hK
    (try simp +decide -implicitDefEqProofs only [go_sem])
    refine hK _ _ ?_; clear hK K
    refine qthen_normal ?_
    refine AWP.ret ?_
    obtain rfl := some_eq h
    simp +decide -implicitDefEqProofs only [go_sem, mpE_nil, Int.natCast_zero, List.replicate_zero, List.length_take, List.length_drop, AVal.own.injEq, reduceCtorEq, Int.reduceAdd, nle2, nle1, nle0, nleA, nleL, Try.results28]

def law11_WaysMore (x_ : Skilaw11Open) (more : Arr2Int) (node : Int) : Option (Bool) :=
  (law11_alive).bind fun y1 => (bif (!y1) then some false else (law11_small x_).bind fun y2 => (bif (!y2) then some true else chk x_.Lifts.length (chk (x_.Lifts.length + 1) (chk (1 + x_.Runs.length) ((ways_Reachable x_.Map x_.Lifts x_.Runs).bind fun y3 => (ways_Reachable x_.Map (x_.Lifts ++ [more.e0]) ([more.e1] ++ x_.Runs)).bind fun y4 => (law11_within y3 y4).bind fun y5 => (bif (!y5) then some false else (ways_Home x_.Map x_.Runs).bind fun y6 => (ways_Home x_.Map ([more.e1] ++ x_.Runs)).bind fun y7 => (law11_within y6 y7).bind fun y8 => (bif (!y8) then some false else (ways_Way x_.Map x_.Runs node).bind fun y9 => (ways_Way x_.Map ([more.e1] ++ x_.Runs) node).bind fun y10 => (bif (!y9.2.2) then some true else (bif y10.2.2 then some (decide (y10.2.1 ≤ y9.2.1)) else some false)))))))))

theorem law11_WaysMore_spec (x_ : Skilaw11Open) (more : Arr2Int) (node : Int) {r : Bool} (h : law11_WaysMore x_ more node = some r) : PureFn Try.prog 7 [.agg (encSkilaw11Open x_), .agg (encArr2Int more), .int .i64 node] (· = .bool r) := by
  refine PureFn.nle (PureFn.intro Try.func7 rfl rfl (by show _ ≤ 94; simp) ?_)
  unfold law11_WaysMore at h
  (try simp +decide -implicitDefEqProofs only [go_sem])
  refine AWP.seq ?_
  refine AWP.region rfl ?_; intro K hK
  (try simp +decide -implicitDefEqProofs only [go_sem])
  refine hK _ _ ?_; clear hK K
  refine qthen_normal ?_
  refine AWP.seq ?_
  refine AWP.seq ?_
  refine AWP.region rfl ?_; intro K hK
  (try simp +decide -implicitDefEqProofs only [go_sem])
  obtain ⟨y1, hy1, h⟩ := bindE h
  refine ACall.pure Try.call10 (law11_alive_spec hy1) rfl fun _ hr => ?_
  subst hr
  (try simp +decide -implicitDefEqProofs only [go_sem])
  refine hK _ _ ?_; clear hK K
  refine qthen_normal ?_
  refine AWP.cond (acond_split (fun hc => ?_) (fun hc => ?_))
  · replace h := bif_t h hc
    refine AWP.seq ?_
    refine AWP.region rfl ?_; intro K hK
    (try simp +decide -implicitDefEqProofs only [go_sem])
    refine hK _ _ ?_; clear hK K
    refine qthen_normal ?_
    refine AWP.ret ?_
    refine qthen_ret ?_
    obtain rfl := some_eq h
    simp +decide -implicitDefEqProofs only [go_sem, mpE_nil, Int.natCast_zero, List.replicate_zero, List.length_take, List.length_drop, AVal.own.injEq, reduceCtorEq, Int.reduceAdd, nle2, nle1, nle0, nleA, nleL, Try.results7]
  replace h := bif_f h hc
  refine AWP.skip ?_
  refine qthen_normal ?_
  refine AWP.seq ?_
  refine AWP.seq ?_
  refine AWP.region rfl ?_; intro K hK
  (try simp +decide -implicitDefEqProofs only [go_sem])
  obtain ⟨y2, hy2, h⟩ := bindE h
  refine ACall.pure Try.call11 (law11_small_spec x_ hy2) rfl fun _ hr => ?_
  subst hr
  (try simp +decide -implicitDefEqProofs only [go_sem])
  refine hK _ _ ?_; clear hK K
  refine qthen_normal ?_
  refine AWP.cond (acond_split (fun hc => ?_) (fun hc => ?_))
  · replace h := bif_t h hc
    refine AWP.seq ?_
    refine AWP.region rfl ?_; intro K hK
    (try simp +decide -implicitDefEqProofs only [go_sem])
    refine hK _ _ ?_; clear hK K
    refine qthen_normal ?_
    refine AWP.ret ?_
    refine qthen_ret ?_
    obtain rfl := some_eq h
    simp +decide -implicitDefEqProofs only [go_sem, mpE_nil, Int.natCast_zero, List.replicate_zero, List.length_take, List.length_drop, AVal.own.injEq, reduceCtorEq, Int.reduceAdd, nle2, nle1, nle0, nleA, nleL, Try.results7]
  replace h := bif_f h hc
  refine AWP.skip ?_
  refine qthen_normal ?_
  refine AWP.seq ?_
  refine AWP.region rfl ?_; intro K hK
  (try simp +decide -implicitDefEqProofs only [go_sem])
  refine hK _ _ ?_; clear hK K
  refine qthen_normal ?_
  refine AWP.seq ?_
  refine AWP.region rfl ?_; intro K hK
  (try simp +decide -implicitDefEqProofs only [go_sem])
  obtain ⟨hk, h⟩ := chk_in h
  (repeat (refine ⟨by first | omega | (simp only [List.length_take, List.length_drop, List.length_append]; omega), ?_⟩)); try simp +decide -implicitDefEqProofs only [go_sem]
  refine hK _ _ ?_; clear hK K
  refine qthen_normal ?_
  refine AWP.seq ?_
  refine AWP.region rfl ?_; intro K hK
  (try simp +decide -implicitDefEqProofs only [go_sem])
  obtain ⟨hk, h⟩ := chk_in h
  (repeat (refine ⟨by first | omega | (simp only [List.length_take, List.length_drop, List.length_append]; omega), ?_⟩)); try simp +decide -implicitDefEqProofs only [go_sem]
  refine hK _ _ ?_; clear hK K
  refine qthen_normal ?_
  refine AWP.seq ?_
  refine AWP.region rfl ?_; intro K hK
  (try simp +decide -implicitDefEqProofs only [go_sem])
  refine hK _ _ ?_; clear hK K
  refine qthen_normal ?_
  refine AWP.seq ?_
  refine AWP.region rfl ?_; intro K hK
  (try simp +decide -implicitDefEqProofs only [go_sem])
  obtain ⟨hk, h⟩ := chk_in h
  (repeat (refine ⟨by first | omega | (simp only [List.length_take, List.length_drop, List.length_append]; omega), ?_⟩)); try simp +decide -implicitDefEqProofs only [go_sem]
  refine hK _ _ ?_; clear hK K
  refine qthen_normal ?_
  refine AWP.seq ?_
  refine AWP.seq ?_
  refine AWP.draw Try.mixed (by kernel_rfl) ?_; intro K hK
  (try simp +decide -implicitDefEqProofs only [go_sem])
  obtain ⟨y3, hy3, h⟩ := bindE h
  refine DCall.pure Try.call13 (ways_Reachable_spec x_.Map x_.Lifts x_.Runs hy3) rfl ?_
  (try simp +decide -implicitDefEqProofs only [go_sem])
  obtain ⟨y4, hy4, h⟩ := bindE h
  refine DCall.snapF Try.call13 (ways_Reachable_fresh x_.Map (x_.Lifts ++ [more.e0]) ([more.e1] ++ x_.Runs) hy4) (by simp +decide -implicitDefEqProofs only [go_sem]) ?_
  (try simp +decide -implicitDefEqProofs only [go_sem])
  obtain ⟨y5, hy5, h⟩ := bindE h
  refine DCall.pure Try.call28 (law11_within_spec y3 y4 hy5) rfl ?_
  (try simp +decide -implicitDefEqProofs only [go_sem])
  refine aguardK_split (fun hc => ?_) (fun hc => ?_)
  · replace h := bif_f h hc
    (try simp +decide -implicitDefEqProofs only [go_sem, hc])
    obtain ⟨y6, hy6, h⟩ := bindE h
    refine DCall.pure Try.call15 (ways_Home_spec x_.Map x_.Runs hy6) rfl ?_
    (try simp +decide -implicitDefEqProofs only [go_sem])
    obtain ⟨y7, hy7, h⟩ := bindE h
    refine DCall.snapF Try.call15 (ways_Home_fresh x_.Map ([more.e1] ++ x_.Runs) hy7) (by simp +decide -implicitDefEqProofs only [go_sem]) ?_
    (try simp +decide -implicitDefEqProofs only [go_sem])
    obtain ⟨y8, hy8, h⟩ := bindE h
    refine DCall.pure Try.call28 (law11_within_spec y6 y7 hy8) rfl ?_
    (try simp +decide -implicitDefEqProofs only [go_sem])
    refine hK _ _ _ (by kernel_rfl) ?_; clear hK K
    refine qthen_normal ?_
    refine AWP.cond (acond_split (fun hc => ?_) (fun hc => ?_))
    · replace h := bif_t h hc
      refine AWP.seq ?_
      refine AWP.region rfl ?_; intro K hK
      (try simp +decide -implicitDefEqProofs only [go_sem])
      refine hK _ _ ?_; clear hK K
      refine qthen_normal ?_
      refine AWP.ret ?_
      refine qthen_ret ?_
      obtain rfl := some_eq h
      simp +decide -implicitDefEqProofs only [go_sem, mpE_nil, Int.natCast_zero, List.replicate_zero, List.length_take, List.length_drop, AVal.own.injEq, reduceCtorEq, Int.reduceAdd, nle2, nle1, nle0, nleA, nleL, Try.results7]
    replace h := bif_f h hc
    refine AWP.skip ?_
    refine qthen_normal ?_
    refine AWP.seq ?_
    refine AWP.region rfl ?_; intro K hK
    (try simp +decide -implicitDefEqProofs only [go_sem])
    obtain ⟨y9, hy9, h⟩ := bindE h
    refine ACall.pure Try.call19 (ways_Way_spec x_.Map x_.Runs node hy9) rfl fun _ hr => ?_
    subst hr
    (try simp +decide -implicitDefEqProofs only [go_sem])
    refine hK _ _ ?_; clear hK K
    refine qthen_normal ?_
    refine AWP.seq ?_
    refine AWP.regionP ?_
    refine ALP.cut 4 (ALP.part rfl ?_); intro K hK
    (try simp +decide -implicitDefEqProofs only [go_sem])
    refine hK _ _ ?_; clear hK K
    refine ALP.sub (Sub.freezeRow 5 rfl) ?_
    (try simp +decide -implicitDefEqProofs only [go_sem])
    refine ALP.last rfl ?_; intro K hK
    (try simp +decide -implicitDefEqProofs only [go_sem])
    obtain ⟨y10, hy10, h⟩ := bindE h
    refine ACall.pure Try.call19 (ways_Way_spec x_.Map ([more.e1] ++ x_.Runs) node hy10) rfl fun _ hr => ?_
    subst hr
    (try simp +decide -implicitDefEqProofs only [go_sem])
    refine hK _ _ ?_; clear hK K
    refine qthen_normal ?_
    refine AWP.seq ?_
    refine AWP.region rfl ?_; intro K hK
    (try simp +decide -implicitDefEqProofs only [go_sem])
    refine aguardK_split (fun hc => ?_) (fun hc => ?_)
    · replace h := bif_f h hc
      (try simp +decide -implicitDefEqProofs only [go_sem, hc])
      refine aguardK_split (fun hc => ?_) (fun hc => ?_)
      · replace h := bif_t h hc
        (try simp +decide -implicitDefEqProofs only [go_sem, hc])
        refine hK _ _ ?_; clear hK K
        refine qthen_normal ?_
        refine AWP.ret ?_
        obtain rfl := some_eq h
        simp +decide -implicitDefEqProofs only [go_sem, mpE_nil, Int.natCast_zero, List.replicate_zero, List.length_take, List.length_drop, AVal.own.injEq, reduceCtorEq, Int.reduceAdd, nle2, nle1, nle0, nleA, nleL, Try.results7]
      · replace h := bif_f h hc
        (try simp +decide -implicitDefEqProofs only [go_sem, hc, Bool.not_true])
        refine hK _ _ ?_; clear hK K
        refine qthen_normal ?_
        refine AWP.ret ?_
        obtain rfl := some_eq h
        simp +decide -implicitDefEqProofs only [go_sem, mpE_nil, Int.natCast_zero, List.replicate_zero, List.length_take, List.length_drop, AVal.own.injEq, reduceCtorEq, Int.reduceAdd, nle2, nle1, nle0, nleA, nleL, Try.results7]
    · replace h := bif_t h hc
      (try simp +decide -implicitDefEqProofs only [go_sem, hc, Bool.not_false])
      refine hK _ _ ?_; clear hK K
      refine qthen_normal ?_
      refine AWP.ret ?_
      obtain rfl := some_eq h
      simp +decide -implicitDefEqProofs only [go_sem, mpE_nil, Int.natCast_zero, List.replicate_zero, List.length_take, List.length_drop, AVal.own.injEq, reduceCtorEq, Int.reduceAdd, nle2, nle1, nle0, nleA, nleL, Try.results7]
  · replace h := bif_t h hc
    (try simp +decide -implicitDefEqProofs only [go_sem, hc, Bool.not_false])
    refine hK _ _ _ (by kernel_rfl) ?_; clear hK K
    refine qthen_normal ?_
    refine AWP.cond (acond_true ?_)
    refine AWP.seq ?_
    refine AWP.region rfl ?_; intro K hK
    (try simp +decide -implicitDefEqProofs only [go_sem])
    refine hK _ _ ?_; clear hK K
    refine qthen_normal ?_
    refine AWP.ret ?_
    refine qthen_ret ?_
    obtain rfl := some_eq h
    simp +decide -implicitDefEqProofs only [go_sem, mpE_nil, Int.natCast_zero, List.replicate_zero, List.length_take, List.length_drop, AVal.own.injEq, reduceCtorEq, Int.reduceAdd, nle2, nle1, nle0, nleA, nleL, Try.results7]

def law11_WaysLeast (x_ : Skilaw11Open) (path : List Int) (node : Int) : Option (Bool) :=
  (law11_alive).bind fun y1 => (bif (!y1) then some false else (law11_small x_).bind fun y2 => (bif (!y2) then some true else (bif (decide ((100 : Int) < ((path.length : Nat) : Int))) then some true else (ref10_Node x_.Map node).bind fun y3 => (bif (!y3.2) then some true else (law11_leads x_ path node).bind fun y4 => (ways_Way x_.Map x_.Runs node).bind fun y5 => (bif (!y4.2) then some true else (bif y5.2.2 then (bif (decide (y5.2.1 < y4.1)) then some true else (bif (decide (y5.2.1 = y4.1)) then some (decide (((y5.1.length : Nat) : Int) ≤ ((path.length : Nat) : Int))) else some false)) else some false))))))

theorem law11_WaysLeast_spec (x_ : Skilaw11Open) (path : List Int) (node : Int) {r : Bool} (h : law11_WaysLeast x_ path node = some r) : PureFn Try.prog 8 [.agg (encSkilaw11Open x_), .sl 1 (path.map intC), .int .i64 node] (· = .bool r) := by
  refine PureFn.nle (PureFn.intro Try.func8 rfl rfl (by show _ ≤ 72; simp) ?_)
  unfold law11_WaysLeast at h
  (try simp +decide -implicitDefEqProofs only [go_sem])
  refine AWP.seq ?_
  refine AWP.region rfl ?_; intro K hK
  (try simp +decide -implicitDefEqProofs only [go_sem])
  refine hK _ _ ?_; clear hK K
  refine qthen_normal ?_
  refine AWP.seq ?_
  refine AWP.seq ?_
  refine AWP.region rfl ?_; intro K hK
  (try simp +decide -implicitDefEqProofs only [go_sem])
  obtain ⟨y1, hy1, h⟩ := bindE h
  refine ACall.pure Try.call10 (law11_alive_spec hy1) rfl fun _ hr => ?_
  subst hr
  (try simp +decide -implicitDefEqProofs only [go_sem])
  refine hK _ _ ?_; clear hK K
  refine qthen_normal ?_
  refine AWP.cond (acond_split (fun hc => ?_) (fun hc => ?_))
  · replace h := bif_t h hc
    refine AWP.seq ?_
    refine AWP.region rfl ?_; intro K hK
    (try simp +decide -implicitDefEqProofs only [go_sem])
    refine hK _ _ ?_; clear hK K
    refine qthen_normal ?_
    refine AWP.ret ?_
    refine qthen_ret ?_
    obtain rfl := some_eq h
    simp +decide -implicitDefEqProofs only [go_sem, mpE_nil, Int.natCast_zero, List.replicate_zero, List.length_take, List.length_drop, AVal.own.injEq, reduceCtorEq, Int.reduceAdd, nle2, nle1, nle0, nleA, nleL, Try.results8]
  replace h := bif_f h hc
  refine AWP.skip ?_
  refine qthen_normal ?_
  refine AWP.seq ?_
  refine AWP.seq ?_
  refine AWP.region rfl ?_; intro K hK
  (try simp +decide -implicitDefEqProofs only [go_sem])
  obtain ⟨y2, hy2, h⟩ := bindE h
  refine ACall.pure Try.call11 (law11_small_spec x_ hy2) rfl fun _ hr => ?_
  subst hr
  (try simp +decide -implicitDefEqProofs only [go_sem])
  refine aguardK_split (fun hc => ?_) (fun hc => ?_)
  · replace h := bif_f h hc
    (try simp +decide -implicitDefEqProofs only [go_sem, hc])
    intro hm
    refine hK _ _ ?_; clear hK K
    refine qthen_normal ?_
    refine AWP.cond (acond_split (fun hc => ?_) (fun hc => ?_))
    · replace h := bif_t h hc
      refine AWP.seq ?_
      refine AWP.region rfl ?_; intro K hK
      (try simp +decide -implicitDefEqProofs only [go_sem])
      refine hK _ _ ?_; clear hK K
      refine qthen_normal ?_
      refine AWP.ret ?_
      refine qthen_ret ?_
      obtain rfl := some_eq h
      simp +decide -implicitDefEqProofs only [go_sem, mpE_nil, Int.natCast_zero, List.replicate_zero, List.length_take, List.length_drop, AVal.own.injEq, reduceCtorEq, Int.reduceAdd, nle2, nle1, nle0, nleA, nleL, Try.results8]
    replace h := bif_f h hc
    refine AWP.skip ?_
    refine qthen_normal ?_
    refine AWP.seq ?_
    refine AWP.seq ?_
    refine AWP.region rfl ?_; intro K hK
    (try simp +decide -implicitDefEqProofs only [go_sem])
    obtain ⟨y3, hy3, h⟩ := bindE h
    refine ACall.pure Try.call29 (ref10_Node_spec x_.Map node hy3) rfl fun _ hr => ?_
    subst hr
    (try simp +decide -implicitDefEqProofs only [go_sem])
    refine hK _ _ ?_; clear hK K
    refine qthen_normal ?_
    refine AWP.seq ?_
    refine AWP.region rfl ?_; intro K hK
    (try simp +decide -implicitDefEqProofs only [go_sem])
    refine hK _ _ ?_; clear hK K
    refine qthen_normal ?_
    refine AWP.cond (acond_split (fun hc => ?_) (fun hc => ?_))
    · replace h := bif_t h hc
      refine AWP.seq ?_
      refine AWP.region rfl ?_; intro K hK
      (try simp +decide -implicitDefEqProofs only [go_sem])
      refine hK _ _ ?_; clear hK K
      refine qthen_normal ?_
      refine AWP.ret ?_
      refine qthen_ret ?_
      obtain rfl := some_eq h
      simp +decide -implicitDefEqProofs only [go_sem, mpE_nil, Int.natCast_zero, List.replicate_zero, List.length_take, List.length_drop, AVal.own.injEq, reduceCtorEq, Int.reduceAdd, nle2, nle1, nle0, nleA, nleL, Try.results8]
    replace h := bif_f h hc
    refine AWP.skip ?_
    refine qthen_normal ?_
    refine AWP.seq ?_
    refine AWP.region rfl ?_; intro K hK
    (try simp +decide -implicitDefEqProofs only [go_sem])
    obtain ⟨y4, hy4, h⟩ := bindE h
    refine ACall.pure Try.call26 (law11_leads_spec x_ path node hy4) rfl fun _ hr => ?_
    subst hr
    (try simp +decide -implicitDefEqProofs only [go_sem])
    refine hK _ _ ?_; clear hK K
    refine qthen_normal ?_
    refine AWP.seq ?_
    refine AWP.region rfl ?_; intro K hK
    (try simp +decide -implicitDefEqProofs only [go_sem])
    obtain ⟨y5, hy5, h⟩ := bindE h
    refine ACall.pure Try.call19 (ways_Way_spec x_.Map x_.Runs node hy5) rfl fun _ hr => ?_
    subst hr
    (try simp +decide -implicitDefEqProofs only [go_sem])
    refine hK _ _ ?_; clear hK K
    refine qthen_normal ?_
    refine AWP.seq ?_
    refine AWP.region rfl ?_; intro K hK
    (try simp +decide -implicitDefEqProofs only [go_sem])
    refine aguardK_split (fun hc => ?_) (fun hc => ?_)
    · replace h := bif_f h hc
      (try simp +decide -implicitDefEqProofs only [go_sem, hc])
      refine aguardK_split (fun hc => ?_) (fun hc => ?_)
      · replace h := bif_t h hc
        (try simp +decide -implicitDefEqProofs only [go_sem, hc])
        refine aguardK_split (fun hc => ?_) (fun hc => ?_)
        · replace h := bif_f h hc
          (try simp +decide -implicitDefEqProofs only [go_sem, hc])
          refine aguardK_split (fun hc => ?_) (fun hc => ?_)
          · replace h := bif_t h hc
            (try simp +decide -implicitDefEqProofs only [go_sem, hc])
            intro hm
            intro hm
            refine hK _ _ ?_; clear hK K
            refine qthen_normal ?_
            refine AWP.ret ?_
            obtain rfl := some_eq h
            simp +decide -implicitDefEqProofs only [go_sem, mpE_nil, Int.natCast_zero, List.replicate_zero, List.length_take, List.length_drop, AVal.own.injEq, reduceCtorEq, Int.reduceAdd, nle2, nle1, nle0, nleA, nleL, Try.results8]
          · replace h := bif_f h hc
            (try simp +decide -implicitDefEqProofs only [go_sem, hc, Bool.not_true])
            refine hK _ _ ?_; clear hK K
            refine qthen_normal ?_
            refine AWP.ret ?_
            obtain rfl := some_eq h
            simp +decide -implicitDefEqProofs only [go_sem, mpE_nil, Int.natCast_zero, List.replicate_zero, List.length_take, List.length_drop, AVal.own.injEq, reduceCtorEq, Int.reduceAdd, nle2, nle1, nle0, nleA, nleL, Try.results8]
        · replace h := bif_t h hc
          (try simp +decide -implicitDefEqProofs only [go_sem, hc, Bool.not_false])
          refine hK _ _ ?_; clear hK K
          refine qthen_normal ?_
          refine AWP.ret ?_
          obtain rfl := some_eq h
          simp +decide -implicitDefEqProofs only [go_sem, mpE_nil, Int.natCast_zero, List.replicate_zero, List.length_take, List.length_drop, AVal.own.injEq, reduceCtorEq, Int.reduceAdd, nle2, nle1, nle0, nleA, nleL, Try.results8]
      · replace h := bif_f h hc
        (try simp +decide -implicitDefEqProofs only [go_sem, hc, Bool.not_true])
        refine hK _ _ ?_; clear hK K
        refine qthen_normal ?_
        refine AWP.ret ?_
        obtain rfl := some_eq h
        simp +decide -implicitDefEqProofs only [go_sem, mpE_nil, Int.natCast_zero, List.replicate_zero, List.length_take, List.length_drop, AVal.own.injEq, reduceCtorEq, Int.reduceAdd, nle2, nle1, nle0, nleA, nleL, Try.results8]
    · replace h := bif_t h hc
      (try simp +decide -implicitDefEqProofs only [go_sem, hc, Bool.not_false])
      refine hK _ _ ?_; clear hK K
      refine qthen_normal ?_
      refine AWP.ret ?_
      obtain rfl := some_eq h
      simp +decide -implicitDefEqProofs only [go_sem, mpE_nil, Int.natCast_zero, List.replicate_zero, List.length_take, List.length_drop, AVal.own.injEq, reduceCtorEq, Int.reduceAdd, nle2, nle1, nle0, nleA, nleL, Try.results8]
  · replace h := bif_t h hc
    (try simp +decide -implicitDefEqProofs only [go_sem, hc, Bool.not_false])
    refine hK _ _ ?_; clear hK K
    refine qthen_normal ?_
    refine AWP.cond (acond_true ?_)
    refine AWP.seq ?_
    refine AWP.region rfl ?_; intro K hK
    (try simp +decide -implicitDefEqProofs only [go_sem])
    refine hK _ _ ?_; clear hK K
    refine qthen_normal ?_
    refine AWP.ret ?_
    refine qthen_ret ?_
    obtain rfl := some_eq h
    simp +decide -implicitDefEqProofs only [go_sem, mpE_nil, Int.natCast_zero, List.replicate_zero, List.length_take, List.length_drop, AVal.own.injEq, reduceCtorEq, Int.reduceAdd, nle2, nle1, nle0, nleA, nleL, Try.results8]

def law11_WaysBases_b2 (y3 : (List Int)) (y4 : (List Int)) (y5 : (List Int)) (k6 : Nat) (x_8 : Int) (sv : Unit) : Option (Out (Unit) (Bool)) :=
  (ref05_Has y5 x_8).bind fun y9 => (ref05_Has y4 x_8).bind fun y10 => (bif (y9 == y10) then some (Out.ret false) else (bif (decide ((0 : Int) < ((k6 : Nat) : Int))) then (idxL y3 (IntKind.i64.wrap (((k6 : Nat) : Int) - (1 : Int)))).bind fun x_11 => (bif (decide (x_8 ≤ x_11)) then some (Out.ret false) else some (Out.next ())) else some (Out.next ())))

def law11_WaysBases_j1 (x_ : Skilaw11Open) (y3 : (List Int)) (y4 : (List Int)) (y5 : (List Int)) : Option (Bool) :=
  (forIx (law11_WaysBases_b2 y3 y4 y5) 0 y3 ()).bind fun o6 => o6.on fun s6 => (law11_within y5 y3).bind fun y12 => (bif y12 then (ways_Reachable x_.Map [] []).bind fun y13 => (ref05_Same y13 x_.Map.Bases).bind fun y14 => (bif y14 then (ways_Home x_.Map []).bind fun y15 => (ref05_Same y15 x_.Map.Bases).bind fun y16 => (bif y16 then (ways_Stranded x_.Map [] []).bind fun y17 => some (decide (((y17.length : Nat) : Int) = (0 : Int))) else some false) else some false) else some false)

def law11_WaysBases_b3 (x_ : Skilaw11Open) (y3 : (List Int)) (y4 : (List Int)) (k17 : Nat) (x_19 : Int) (sv : Unit) : Option (Out (Unit) (Bool)) :=
  (ways_Way x_.Map x_.Runs x_19).bind fun y20 => (ref05_Has y3 x_19).bind fun y21 => (bif (!y21) then some (Out.ret false) else (ref05_Has y4 x_19).bind fun y22 => (bif (!y22) then some (Out.ret false) else (bif (decide (((y20.1.length : Nat) : Int) ≠ (0 : Int))) then some (Out.ret false) else (bif (decide (y20.2.1 ≠ (0 : Int))) then some (Out.ret false) else (bif (!y20.2.2) then some (Out.ret false) else some (Out.next ()))))))

def law11_WaysBases (x_ : Skilaw11Open) : Option (Bool) :=
  (law11_alive).bind fun y1 => (bif (!y1) then some false else (law11_small x_).bind fun y2 => (bif (!y2) then some true else (ways_Reachable x_.Map x_.Lifts x_.Runs).bind fun y3 => (ways_Home x_.Map x_.Runs).bind fun y4 => (ways_Stranded x_.Map x_.Lifts x_.Runs).bind fun y5 => (forIx (law11_WaysBases_b3 x_ y3 y4) 0 x_.Map.Bases ()).bind fun o17 => o17.on fun s17 => law11_WaysBases_j1 x_ y3 y4 y5))

theorem law11_WaysBases_spec (x_ : Skilaw11Open) {r : Bool} (h : law11_WaysBases x_ = some r) : PureFn Try.prog 9 [.agg (encSkilaw11Open x_)] (· = .bool r) := by
  refine PureFn.nle (PureFn.intro Try.func9 rfl rfl (by show _ ≤ 154; simp) ?_)
  unfold law11_WaysBases at h
  (try simp +decide -implicitDefEqProofs only [go_sem])
  refine AWP.seq ?_
  refine AWP.region rfl ?_; intro K hK
  (try simp +decide -implicitDefEqProofs only [go_sem])
  refine hK _ _ ?_; clear hK K
  refine qthen_normal ?_
  refine AWP.seq ?_
  refine AWP.seq ?_
  refine AWP.region rfl ?_; intro K hK
  (try simp +decide -implicitDefEqProofs only [go_sem])
  obtain ⟨y1, hy1, h⟩ := bindE h
  refine ACall.pure Try.call10 (law11_alive_spec hy1) rfl fun _ hr => ?_
  subst hr
  (try simp +decide -implicitDefEqProofs only [go_sem])
  refine hK _ _ ?_; clear hK K
  refine qthen_normal ?_
  refine AWP.cond (acond_split (fun hc => ?_) (fun hc => ?_))
  · replace h := bif_t h hc
    refine AWP.seq ?_
    refine AWP.region rfl ?_; intro K hK
    (try simp +decide -implicitDefEqProofs only [go_sem])
    refine hK _ _ ?_; clear hK K
    refine qthen_normal ?_
    refine AWP.ret ?_
    refine qthen_ret ?_
    obtain rfl := some_eq h
    simp +decide -implicitDefEqProofs only [go_sem, mpE_nil, Int.natCast_zero, List.replicate_zero, List.length_take, List.length_drop, AVal.own.injEq, reduceCtorEq, Int.reduceAdd, nle2, nle1, nle0, nleA, nleL, Try.results9]
  replace h := bif_f h hc
  refine AWP.skip ?_
  refine qthen_normal ?_
  refine AWP.seq ?_
  refine AWP.seq ?_
  refine AWP.region rfl ?_; intro K hK
  (try simp +decide -implicitDefEqProofs only [go_sem])
  obtain ⟨y2, hy2, h⟩ := bindE h
  refine ACall.pure Try.call11 (law11_small_spec x_ hy2) rfl fun _ hr => ?_
  subst hr
  (try simp +decide -implicitDefEqProofs only [go_sem])
  refine hK _ _ ?_; clear hK K
  refine qthen_normal ?_
  refine AWP.cond (acond_split (fun hc => ?_) (fun hc => ?_))
  · replace h := bif_t h hc
    refine AWP.seq ?_
    refine AWP.region rfl ?_; intro K hK
    (try simp +decide -implicitDefEqProofs only [go_sem])
    refine hK _ _ ?_; clear hK K
    refine qthen_normal ?_
    refine AWP.ret ?_
    refine qthen_ret ?_
    obtain rfl := some_eq h
    simp +decide -implicitDefEqProofs only [go_sem, mpE_nil, Int.natCast_zero, List.replicate_zero, List.length_take, List.length_drop, AVal.own.injEq, reduceCtorEq, Int.reduceAdd, nle2, nle1, nle0, nleA, nleL, Try.results9]
  replace h := bif_f h hc
  refine AWP.skip ?_
  refine qthen_normal ?_
  refine AWP.seq ?_
  refine AWP.draw Try.mixed (by kernel_rfl) ?_; intro K hK
  (try simp +decide -implicitDefEqProofs only [go_sem])
  obtain ⟨y3, hy3, h⟩ := bindE h
  refine DCall.pure Try.call13 (ways_Reachable_spec x_.Map x_.Lifts x_.Runs hy3) rfl ?_
  (try simp +decide -implicitDefEqProofs only [go_sem])
  obtain ⟨y4, hy4, h⟩ := bindE h
  refine DCall.pure Try.call15 (ways_Home_spec x_.Map x_.Runs hy4) rfl ?_
  (try simp +decide -implicitDefEqProofs only [go_sem])
  obtain ⟨y5, hy5, h⟩ := bindE h
  refine DCall.pure Try.call17 (ways_Stranded_spec x_.Map x_.Lifts x_.Runs hy5) rfl ?_
  (try simp +decide -implicitDefEqProofs only [go_sem])
  refine hK _ _ _ (by kernel_rfl) ?_; clear hK K
  refine qthen_normal ?_
  refine AWP.seqJoin (ι := (Unit) × (Unit)) (fun zz => [(1, .ptr 0 0), (3, .sl 1 (y3.map intC)), (4, .sl 1 (y4.map intC)), (5, .sl 1 (y5.map intC))]) (fun zz => [.box [.sl 2 (x_.Map.Nodes.map encApiNode), .sl 8 (x_.Map.Lifts.map encApiLift), .sl 7 (x_.Map.Runs.map encApiRun), .sl 1 (x_.Map.Bases.map intC), .sl 1 (x_.Lifts.map intC), .sl 1 (x_.Runs.map intC)]]) (fun zz => law11_WaysBases_j1 x_ y3 y4 y5 = some r) (fun zz => ⟨rfl, rfl, rfl⟩) ?_ ?_
  · refine AWP.seq ?_
    refine AWP.region rfl ?_; intro K hK
    (try simp +decide -implicitDefEqProofs only [go_sem])
    refine hK _ _ ?_; clear hK K
    refine qthen_normal ?_
    refine AWP.block ?_
    obtain ⟨o17, hJ17, hO17⟩ := bindE h
    clear h
    refine AWP.loopW (ι := Nat × (Unit) × (Unit)) (fun zz => [(1, .ptr 0 0), (3, .sl 1 (y3.map intC)), (4, .sl 1 (y4.map intC)), (5, .sl 1 (y5.map intC)), (6, .int .i64 ((zz.1 : Nat) : Int))]) (fun zz => [.box [.sl 2 (x_.Map.Nodes.map encApiNode), .sl 8 (x_.Map.Lifts.map encApiLift), .sl 7 (x_.Map.Runs.map encApiRun), .sl 1 (x_.Map.Bases.map intC), .sl 1 (x_.Lifts.map intC), .sl 1 (x_.Runs.map intC)]]) (fun zz => zz.1 ≤ x_.Map.Bases.length ∧ forIx (law11_WaysBases_b3 x_ y3 y4) zz.1 ((x_.Map.Bases).drop zz.1) zz.2.1 = some o17) (fun zz => x_.Map.Bases.length - zz.1) (0, (), ()) ⟨Nat.zero_le _, hJ17⟩ (by (simp +decide -implicitDefEqProofs only [go_sem, mpE_nil, Int.natCast_zero, List.replicate_zero, List.length_take, List.length_drop, AVal.own.injEq, reduceCtorEq, Int.reduceAdd] <;> omega)) (by (simp +decide -implicitDefEqProofs only [go_sem, mpE_nil, Int.natCast_zero, List.replicate_zero, List.length_take, List.length_drop, AVal.own.injEq, reduceCtorEq, Int.reduceAdd] <;> omega)) (fun x => ⟨rfl, rfl, rfl⟩) ?_
    clear hJ17
    rintro ⟨k17, ⟨⟩, ⟨⟩⟩ ⟨hk17, hJ17⟩
    dsimp only at hk17 hJ17 ⊢
    refine AWP.seq ?_
    refine AWP.seq ?_
    refine AWP.region rfl ?_; intro K hK
    (try simp +decide -implicitDefEqProofs only [go_sem])
    intro hm
    refine hK _ _ ?_; clear hK K
    refine qthen_normal ?_
    refine AWP.cond (acond_split (fun hc => ?_) (fun hc => ?_))
    · have hlt17 : k17 < x_.Map.Bases.length := by have := of_decide_eq_true hc; omega
      obtain ⟨x_19, b17, hx17_, h, hJ17⟩ := for_cons hJ17 hlt17
      have hx17 := idxL_nat hx17_
      have hw17 : IntKind.i64.wrap (((k17 : Nat) : Int) + 1) = (((k17 : Nat) : Int) + (1 : Int)) := by rw [wrap_i64] <;> omega
      unfold law11_WaysBases_b3 at h; try dsimp only at h
      refine AWP.skip ?_
      refine qthen_normal ?_
      refine AWP.seq ?_
      refine AWP.block ?_
      refine AWP.seq ?_
      refine AWP.draw Try.mixed (by kernel_rfl) ?_; intro K hK
      (try simp +decide -implicitDefEqProofs only [go_sem])
      refine AIdx.of (f := intC) (l := x_.Map.Bases) hx17 ?_
      (try simp +decide -implicitDefEqProofs only [go_sem])
      obtain ⟨y20, hy20, h⟩ := bindE h
      refine DCall.pure Try.call19 (ways_Way_spec x_.Map x_.Runs x_19 hy20) rfl ?_
      (try simp +decide -implicitDefEqProofs only [go_sem])
      refine hK _ _ _ (by kernel_rfl) ?_; clear hK K
      refine qthen_normal ?_
      refine AWP.seq ?_
      refine AWP.region rfl ?_; intro K hK
      (try simp +decide -implicitDefEqProofs only [go_sem])
      refine AIdx.of (f := intC) (l := x_.Map.Bases) hx17 ?_
      (try simp +decide -implicitDefEqProofs only [go_sem])
      obtain ⟨y21, hy21, h⟩ := bindE h
      refine ACall.pure Try.call25 (ref05_Has_spec y3 x_19 hy21) rfl fun _ hr => ?_
      subst hr
      (try simp +decide -implicitDefEqProofs only [go_sem])
      refine aguardK_split (fun hc => ?_) (fun hc => ?_)
      · replace h := bif_f h hc
        (try simp +decide -implicitDefEqProofs only [go_sem, hc])
        refine AIdx.of (f := intC) (l := x_.Map.Bases) hx17 ?_
        (try simp +decide -implicitDefEqProofs only [go_sem])
        obtain ⟨y22, hy22, h⟩ := bindE h
        refine ACall.pure Try.call25 (ref05_Has_spec y4 x_19 hy22) rfl fun _ hr => ?_
        subst hr
        (try simp +decide -implicitDefEqProofs only [go_sem])
        refine aguardK_split (fun hc => ?_) (fun hc => ?_)
        · replace h := bif_f h hc
          (try simp +decide -implicitDefEqProofs only [go_sem, hc])
          intro hm
          refine aguardK_split (fun hc => ?_) (fun hc => ?_)
          · replace h := bif_f h hc
            (try simp +decide -implicitDefEqProofs only [go_sem, hc])
            refine aguardK_split (fun hc => ?_) (fun hc => ?_)
            · replace h := bif_f h hc
              (try simp +decide -implicitDefEqProofs only [go_sem, hc])
              refine hK _ _ ?_; clear hK K
              refine qthen_normal ?_
              refine AWP.cond (acond_split (fun hc => ?_) (fun hc => ?_))
              · replace h := bif_t h hc
                refine AWP.seq ?_
                refine AWP.region rfl ?_; intro K hK
                (try simp +decide -implicitDefEqProofs only [go_sem])
                refine hK _ _ ?_; clear hK K
                refine qthen_normal ?_
                refine AWP.ret ?_
                refine qblock_ret ?_
                refine qthen_ret ?_
                refine qthen_ret ?_
                obtain rfl := some_eq h
                obtain rfl := cont_ret hJ17
                replace h := on_ret hO17
                refine qblock_ret ?_
                refine qthen_ret ?_
                obtain rfl := some_eq h
                simp +decide -implicitDefEqProofs only [go_sem, mpE_nil, Int.natCast_zero, List.replicate_zero, List.length_take, List.length_drop, AVal.own.injEq, reduceCtorEq, Int.reduceAdd, nle2, nle1, nle0, nleA, nleL, Try.results9]
              replace h := bif_f h hc
              refine AWP.skip ?_
              refine qblock_normal ?_
              refine qthen_normal ?_
              refine AWP.region rfl ?_; intro K hK
              (try simp +decide -implicitDefEqProofs only [go_sem])
              refine hK _ _ ?_; clear hK K
              refine qthen_normal ?_
              obtain rfl := some_eq h
              refine ⟨(k17 + 1, (), ()), ⟨by dsimp only; omega, cont_next hJ17⟩, by dsimp only; omega, ?_, ?_⟩
              · (simp +decide -implicitDefEqProofs only [go_sem, mpE_nil, Int.natCast_zero, List.replicate_zero, List.length_take, List.length_drop, AVal.own.injEq, reduceCtorEq, Int.reduceAdd, hw17] <;> omega)
              · (simp +decide -implicitDefEqProofs only [go_sem, mpE_nil, Int.natCast_zero, List.replicate_zero, List.length_take, List.length_drop, AVal.own.injEq, reduceCtorEq, Int.reduceAdd, hw17] <;> omega)
            · replace h := bif_t h hc
              (try simp +decide -implicitDefEqProofs only [go_sem, hc, Bool.not_false])
              refine hK _ _ ?_; clear hK K
              refine qthen_normal ?_
              refine AWP.cond (acond_true ?_)
              refine AWP.seq ?_
              refine AWP.region rfl ?_; intro K hK
              (try simp +decide -implicitDefEqProofs only [go_sem])
              refine hK _ _ ?_; clear hK K
              refine qthen_normal ?_
              refine AWP.ret ?_
              refine qblock_ret ?_
              refine qthen_ret ?_
              refine qthen_ret ?_
              obtain rfl := some_eq h
              obtain rfl := cont_ret hJ17
              replace h := on_ret hO17
              refine qblock_ret ?_
              refine qthen_ret ?_
              obtain rfl := some_eq h
              simp +decide -implicitDefEqProofs only [go_sem, mpE_nil, Int.natCast_zero, List.replicate_zero, List.length_take, List.length_drop, AVal.own.injEq, reduceCtorEq, Int.reduceAdd, nle2, nle1, nle0, nleA, nleL, Try.results9]
          · replace h := bif_t h hc
            (try simp +decide -implicitDefEqProofs only [go_sem, hc, Bool.not_false])
            refine hK _ _ ?_; clear hK K
            refine qthen_normal ?_
            refine AWP.cond (acond_true ?_)
            refine AWP.seq ?_
            refine AWP.region rfl ?_; intro K hK
            (try simp +decide -implicitDefEqProofs only [go_sem])
            refine hK _ _ ?_; clear hK K
            refine qthen_normal ?_
            refine AWP.ret ?_
            refine qblock_ret ?_
            refine qthen_ret ?_
            refine qthen_ret ?_
            obtain rfl := some_eq h
            obtain rfl := cont_ret hJ17
            replace h := on_ret hO17
            refine qblock_ret ?_
            refine qthen_ret ?_
            obtain rfl := some_eq h
            simp +decide -implicitDefEqProofs only [go_sem, mpE_nil, Int.natCast_zero, List.replicate_zero, List.length_take, List.length_drop, AVal.own.injEq, reduceCtorEq, Int.reduceAdd, nle2, nle1, nle0, nleA, nleL, Try.results9]
        · replace h := bif_t h hc
          (try simp +decide -implicitDefEqProofs only [go_sem, hc, Bool.not_false])
          refine hK _ _ ?_; clear hK K
          refine qthen_normal ?_
          refine AWP.cond (acond_true ?_)
          refine AWP.seq ?_
          refine AWP.region rfl ?_; intro K hK
          (try simp +decide -implicitDefEqProofs only [go_sem])
          refine hK _ _ ?_; clear hK K
          refine qthen_normal ?_
          refine AWP.ret ?_
          refine qblock_ret ?_
          refine qthen_ret ?_
          refine qthen_ret ?_
          obtain rfl := some_eq h
          obtain rfl := cont_ret hJ17
          replace h := on_ret hO17
          refine qblock_ret ?_
          refine qthen_ret ?_
          obtain rfl := some_eq h
          simp +decide -implicitDefEqProofs only [go_sem, mpE_nil, Int.natCast_zero, List.replicate_zero, List.length_take, List.length_drop, AVal.own.injEq, reduceCtorEq, Int.reduceAdd, nle2, nle1, nle0, nleA, nleL, Try.results9]
      · replace h := bif_t h hc
        (try simp +decide -implicitDefEqProofs only [go_sem, hc, Bool.not_false])
        refine hK _ _ ?_; clear hK K
        refine qthen_normal ?_
        refine AWP.cond (acond_true ?_)
        refine AWP.seq ?_
        refine AWP.region rfl ?_; intro K hK
        (try simp +decide -implicitDefEqProofs only [go_sem])
        refine hK _ _ ?_; clear hK K
        refine qthen_normal ?_
        refine AWP.ret ?_
        refine qblock_ret ?_
        refine qthen_ret ?_
        refine qthen_ret ?_
        obtain rfl := some_eq h
        obtain rfl := cont_ret hJ17
        replace h := on_ret hO17
        refine qblock_ret ?_
        refine qthen_ret ?_
        obtain rfl := some_eq h
        simp +decide -implicitDefEqProofs only [go_sem, mpE_nil, Int.natCast_zero, List.replicate_zero, List.length_take, List.length_drop, AVal.own.injEq, reduceCtorEq, Int.reduceAdd, nle2, nle1, nle0, nleA, nleL, Try.results9]
    · obtain rfl := for_nil hJ17 (fun hl => by have := of_decide_eq_false hc; omega)
      have h := on_next hO17; try dsimp only at h
      have hkl : x_.Map.Bases.length = k17 := by have := of_decide_eq_false hc; omega
      subst hkl
      refine AWP.exit ?_
      refine qthen_exit ?_
      refine qthen_exit ?_
      refine qblock_same ?_
      refine qthen_normal ?_
      exact ⟨((), ()), h, by (simp +decide -implicitDefEqProofs only [go_sem, mpE_nil, Int.natCast_zero, List.replicate_zero, List.length_take, List.length_drop, AVal.own.injEq, reduceCtorEq, Int.reduceAdd] <;> omega), by (simp +decide -implicitDefEqProofs only [go_sem, mpE_nil, Int.natCast_zero, List.replicate_zero, List.length_take, List.length_drop, AVal.own.injEq, reduceCtorEq, Int.reduceAdd] <;> omega)⟩
  · rintro ⟨⟨⟩, ⟨⟩⟩ h
    try dsimp only at h ⊢
    unfold law11_WaysBases_j1 at h; try dsimp only at h
    refine AWP.seq ?_
    refine AWP.seq ?_
    refine AWP.region rfl ?_; intro K hK
    (try simp +decide -implicitDefEqProofs only [go_sem])
    refine hK _ _ ?_; clear hK K
    refine qthen_normal ?_
    refine AWP.block ?_
    obtain ⟨o6, hJ6, hO6⟩ := bindE h
    clear h
    refine AWP.loopW (ι := Nat × (Unit) × (Unit)) (fun zz => [(1, .ptr 0 0), (3, .sl 1 (y3.map intC)), (4, .sl 1 (y4.map intC)), (5, .sl 1 (y5.map intC)), (10, .int .i64 ((zz.1 : Nat) : Int))]) (fun zz => [.box [.sl 2 (x_.Map.Nodes.map encApiNode), .sl 8 (x_.Map.Lifts.map encApiLift), .sl 7 (x_.Map.Runs.map encApiRun), .sl 1 (x_.Map.Bases.map intC), .sl 1 (x_.Lifts.map intC), .sl 1 (x_.Runs.map intC)]]) (fun zz => zz.1 ≤ y3.length ∧ forIx (law11_WaysBases_b2 y3 y4 y5) zz.1 ((y3).drop zz.1) zz.2.1 = some o6) (fun zz => y3.length - zz.1) (0, (), ()) ⟨Nat.zero_le _, hJ6⟩ (by (simp +decide -implicitDefEqProofs only [go_sem, mpE_nil, Int.natCast_zero, List.replicate_zero, List.length_take, List.length_drop, AVal.own.injEq, reduceCtorEq, Int.reduceAdd] <;> omega)) (by (simp +decide -implicitDefEqProofs only [go_sem, mpE_nil, Int.natCast_zero, List.replicate_zero, List.length_take, List.length_drop, AVal.own.injEq, reduceCtorEq, Int.reduceAdd] <;> omega)) (fun x => ⟨rfl, rfl, rfl⟩) ?_
    clear hJ6
    rintro ⟨k6, ⟨⟩, ⟨⟩⟩ ⟨hk6, hJ6⟩
    dsimp only at hk6 hJ6 ⊢
    refine AWP.seq ?_
    refine AWP.seq ?_
    refine AWP.region rfl ?_; intro K hK
    (try simp +decide -implicitDefEqProofs only [go_sem])
    intro hm
    refine hK _ _ ?_; clear hK K
    refine qthen_normal ?_
    refine AWP.cond (acond_split (fun hc => ?_) (fun hc => ?_))
    · have hlt6 : k6 < y3.length := by have := of_decide_eq_true hc; omega
      obtain ⟨x_8, b6, hx6_, h, hJ6⟩ := for_cons hJ6 hlt6
      have hx6 := idxL_nat hx6_
      have hw6 : IntKind.i64.wrap (((k6 : Nat) : Int) + 1) = (((k6 : Nat) : Int) + (1 : Int)) := by rw [wrap_i64] <;> omega
      unfold law11_WaysBases_b2 at h; try dsimp only at h
      refine AWP.skip ?_
      refine qthen_normal ?_
      refine AWP.seq ?_
      refine AWP.block ?_
      refine AWP.seq ?_
      refine AWP.draw Try.mixed (by kernel_rfl) ?_; intro K hK
      (try simp +decide -implicitDefEqProofs only [go_sem])
      refine AIdx.of (f := intC) (l := y3) hx6 ?_
      (try simp +decide -implicitDefEqProofs only [go_sem])
      obtain ⟨y9, hy9, h⟩ := bindE h
      refine DCall.pure Try.call25 (ref05_Has_spec y5 x_8 hy9) rfl ?_
      (try simp +decide -implicitDefEqProofs only [go_sem])
      refine AIdx.of (f := intC) (l := y3) hx6 ?_
      (try simp +decide -implicitDefEqProofs only [go_sem])
      obtain ⟨y10, hy10, h⟩ := bindE h
      refine DCall.pure Try.call25 (ref05_Has_spec y4 x_8 hy10) rfl ?_
      (try simp +decide -implicitDefEqProofs only [go_sem])
      refine aguardK_split (fun hc => ?_) (fun hc => ?_)
      · replace h := bif_f h hc
        (try simp +decide -implicitDefEqProofs only [go_sem, hc])
        refine aguardK_split (fun hc => ?_) (fun hc => ?_)
        · replace h := bif_t h hc
          (try simp +decide -implicitDefEqProofs only [go_sem, hc])
          refine AIdx.of (f := intC) (l := y3) hx6 ?_
          (try simp +decide -implicitDefEqProofs only [go_sem])
          obtain ⟨x_11, hx_11, h⟩ := bindE h
          refine AIdx.of (f := intC) (l := y3) hx_11 ?_
          (try simp +decide -implicitDefEqProofs only [go_sem])
          refine hK _ _ _ (by kernel_rfl) ?_; clear hK K
          refine qthen_normal ?_
          refine AWP.cond (acond_split (fun hc => ?_) (fun hc => ?_))
          · replace h := bif_t h hc
            refine AWP.seq ?_
            refine AWP.region rfl ?_; intro K hK
            (try simp +decide -implicitDefEqProofs only [go_sem])
            refine hK _ _ ?_; clear hK K
            refine qthen_normal ?_
            refine AWP.ret ?_
            refine qblock_ret ?_
            refine qthen_ret ?_
            refine qthen_ret ?_
            obtain rfl := some_eq h
            obtain rfl := cont_ret hJ6
            replace h := on_ret hO6
            refine qblock_ret ?_
            refine qthen_ret ?_
            obtain rfl := some_eq h
            simp +decide -implicitDefEqProofs only [go_sem, mpE_nil, Int.natCast_zero, List.replicate_zero, List.length_take, List.length_drop, AVal.own.injEq, reduceCtorEq, Int.reduceAdd, nle2, nle1, nle0, nleA, nleL, Try.results9]
          replace h := bif_f h hc
          refine AWP.skip ?_
          refine qblock_normal ?_
          refine qthen_normal ?_
          refine AWP.region rfl ?_; intro K hK
          (try simp +decide -implicitDefEqProofs only [go_sem])
          refine hK _ _ ?_; clear hK K
          refine qthen_normal ?_
          obtain rfl := some_eq h
          refine ⟨(k6 + 1, (), ()), ⟨by dsimp only; omega, cont_next hJ6⟩, by dsimp only; omega, ?_, ?_⟩
          · (simp +decide -implicitDefEqProofs only [go_sem, mpE_nil, Int.natCast_zero, List.replicate_zero, List.length_take, List.length_drop, AVal.own.injEq, reduceCtorEq, Int.reduceAdd, hw6] <;> omega)
          · (simp +decide -implicitDefEqProofs only [go_sem, mpE_nil, Int.natCast_zero, List.replicate_zero, List.length_take, List.length_drop, AVal.own.injEq, reduceCtorEq, Int.reduceAdd, hw6] <;> omega)
        · replace h := bif_f h hc
          (try simp +decide -implicitDefEqProofs only [go_sem, hc, Bool.not_true])
          refine hK _ _ _ (by kernel_rfl) ?_; clear hK K
          refine qthen_normal ?_
          refine AWP.cond (acond_false ?_)
          refine AWP.skip ?_
          refine qblock_normal ?_
          refine qthen_normal ?_
          refine AWP.region rfl ?_; intro K hK
          (try simp +decide -implicitDefEqProofs only [go_sem])
          refine hK _ _ ?_; clear hK K
          refine qthen_normal ?_
          obtain rfl := some_eq h
          refine ⟨(k6 + 1, (), ()), ⟨by dsimp only; omega, cont_next hJ6⟩, by dsimp only; omega, ?_, ?_⟩
          · (simp +decide -implicitDefEqProofs only [go_sem, mpE_nil, Int.natCast_zero, List.replicate_zero, List.length_take, List.length_drop, AVal.own.injEq, reduceCtorEq, Int.reduceAdd, hw6] <;> omega)
          · (simp +decide -implicitDefEqProofs only [go_sem, mpE_nil, Int.natCast_zero, List.replicate_zero, List.length_take, List.length_drop, AVal.own.injEq, reduceCtorEq, Int.reduceAdd, hw6] <;> omega)
      · replace h := bif_t h hc
        (try simp +decide -implicitDefEqProofs only [go_sem, hc, Bool.not_false])
        refine hK _ _ _ (by kernel_rfl) ?_; clear hK K
        refine qthen_normal ?_
        refine AWP.cond (acond_true ?_)
        refine AWP.seq ?_
        refine AWP.region rfl ?_; intro K hK
        (try simp +decide -implicitDefEqProofs only [go_sem])
        refine hK _ _ ?_; clear hK K
        refine qthen_normal ?_
        refine AWP.ret ?_
        refine qblock_ret ?_
        refine qthen_ret ?_
        refine qthen_ret ?_
        obtain rfl := some_eq h
        obtain rfl := cont_ret hJ6
        replace h := on_ret hO6
        refine qblock_ret ?_
        refine qthen_ret ?_
        obtain rfl := some_eq h
        simp +decide -implicitDefEqProofs only [go_sem, mpE_nil, Int.natCast_zero, List.replicate_zero, List.length_take, List.length_drop, AVal.own.injEq, reduceCtorEq, Int.reduceAdd, nle2, nle1, nle0, nleA, nleL, Try.results9]
    · obtain rfl := for_nil hJ6 (fun hl => by have := of_decide_eq_false hc; omega)
      have h := on_next hO6; try dsimp only at h
      have hkl : y3.length = k6 := by have := of_decide_eq_false hc; omega
      subst hkl
      refine AWP.exit ?_
      refine qthen_exit ?_
      refine qthen_exit ?_
      refine qblock_same ?_
      refine qthen_normal ?_
      refine AWP.seq ?_
      refine AWP.draw Try.mixed (by kernel_rfl) ?_; intro K hK
      (try simp +decide -implicitDefEqProofs only [go_sem])
      obtain ⟨y12, hy12, h⟩ := bindE h
      refine DCall.pure Try.call28 (law11_within_spec y5 y3 hy12) rfl ?_
      (try simp +decide -implicitDefEqProofs only [go_sem])
      refine aguardK_split (fun hc => ?_) (fun hc => ?_)
      · replace h := bif_t h hc
        (try simp +decide -implicitDefEqProofs only [go_sem, hc])
        obtain ⟨y13, hy13, h⟩ := bindE h
        refine DCall.pure Try.call13 (PureFn.argN (args := [.agg [.sl 2 (x_.Map.Nodes.map encApiNode), .sl 8 (x_.Map.Lifts.map encApiLift), .sl 7 (x_.Map.Runs.map encApiRun), .sl 1 (x_.Map.Bases.map intC)], .nils, .nils]) (by simp +decide -implicitDefEqProofs only [go_sem, mpE_nil, Int.natCast_zero, List.replicate_zero, List.length_take, List.length_drop, AVal.own.injEq, reduceCtorEq, Int.reduceAdd, nle2, nle1, nle0, nleA, nleL]) (ways_Reachable_spec x_.Map [] [] hy13)) rfl ?_
        (try simp +decide -implicitDefEqProofs only [go_sem])
        obtain ⟨y14, hy14, h⟩ := bindE h
        refine DCall.pure Try.call12 (ref05_Same_spec y13 x_.Map.Bases hy14) rfl ?_
        (try simp +decide -implicitDefEqProofs only [go_sem])
        refine aguardK_split (fun hc => ?_) (fun hc => ?_)
        · replace h := bif_t h hc
          (try simp +decide -implicitDefEqProofs only [go_sem, hc])
          obtain ⟨y15, hy15, h⟩ := bindE h
          refine DCall.pure Try.call15 (PureFn.argN (args := [.agg [.sl 2 (x_.Map.Nodes.map encApiNode), .sl 8 (x_.Map.Lifts.map encApiLift), .sl 7 (x_.Map.Runs.map encApiRun), .sl 1 (x_.Map.Bases.map intC)], .nils]) (by simp +decide -implicitDefEqProofs only [go_sem, mpE_nil, Int.natCast_zero, List.replicate_zero, List.length_take, List.length_drop, AVal.own.injEq, reduceCtorEq, Int.reduceAdd, nle2, nle1, nle0, nleA, nleL]) (ways_Home_spec x_.Map [] hy15)) rfl ?_
          (try simp +decide -implicitDefEqProofs only [go_sem])
          obtain ⟨y16, hy16, h⟩ := bindE h
          refine DCall.pure Try.call12 (ref05_Same_spec y15 x_.Map.Bases hy16) rfl ?_
          (try simp +decide -implicitDefEqProofs only [go_sem])
          refine aguardK_split (fun hc => ?_) (fun hc => ?_)
          · replace h := bif_t h hc
            (try simp +decide -implicitDefEqProofs only [go_sem, hc])
            obtain ⟨y17, hy17, h⟩ := bindE h
            refine DCall.pure Try.call17 (PureFn.argN (args := [.agg [.sl 2 (x_.Map.Nodes.map encApiNode), .sl 8 (x_.Map.Lifts.map encApiLift), .sl 7 (x_.Map.Runs.map encApiRun), .sl 1 (x_.Map.Bases.map intC)], .nils, .nils]) (by simp +decide -implicitDefEqProofs only [go_sem, mpE_nil, Int.natCast_zero, List.replicate_zero, List.length_take, List.length_drop, AVal.own.injEq, reduceCtorEq, Int.reduceAdd, nle2, nle1, nle0, nleA, nleL]) (ways_Stranded_spec x_.Map [] [] hy17)) rfl ?_
            (try simp +decide -implicitDefEqProofs only [go_sem])
            intro hm
            refine hK _ _ _ (by kernel_rfl) ?_; clear hK K
            refine qthen_normal ?_
            refine AWP.ret ?_
            obtain rfl := some_eq h
            simp +decide -implicitDefEqProofs only [go_sem, mpE_nil, Int.natCast_zero, List.replicate_zero, List.length_take, List.length_drop, AVal.own.injEq, reduceCtorEq, Int.reduceAdd, nle2, nle1, nle0, nleA, nleL, Try.results9]
          · replace h := bif_f h hc
            (try simp +decide -implicitDefEqProofs only [go_sem, hc, Bool.not_true])
            refine hK _ _ _ (by kernel_rfl) ?_; clear hK K
            refine qthen_normal ?_
            refine AWP.ret ?_
            obtain rfl := some_eq h
            simp +decide -implicitDefEqProofs only [go_sem, mpE_nil, Int.natCast_zero, List.replicate_zero, List.length_take, List.length_drop, AVal.own.injEq, reduceCtorEq, Int.reduceAdd, nle2, nle1, nle0, nleA, nleL, Try.results9]
        · replace h := bif_f h hc
          (try simp +decide -implicitDefEqProofs only [go_sem, hc, Bool.not_true])
          refine hK _ _ _ (by kernel_rfl) ?_; clear hK K
          refine qthen_normal ?_
          refine AWP.ret ?_
          obtain rfl := some_eq h
          simp +decide -implicitDefEqProofs only [go_sem, mpE_nil, Int.natCast_zero, List.replicate_zero, List.length_take, List.length_drop, AVal.own.injEq, reduceCtorEq, Int.reduceAdd, nle2, nle1, nle0, nleA, nleL, Try.results9]
      · replace h := bif_f h hc
        (try simp +decide -implicitDefEqProofs only [go_sem, hc, Bool.not_true])
        refine hK _ _ _ (by kernel_rfl) ?_; clear hK K
        refine qthen_normal ?_
        refine AWP.ret ?_
        obtain rfl := some_eq h
        simp +decide -implicitDefEqProofs only [go_sem, mpE_nil, Int.natCast_zero, List.replicate_zero, List.length_take, List.length_drop, AVal.own.injEq, reduceCtorEq, Int.reduceAdd, nle2, nle1, nle0, nleA, nleL, Try.results9]

end
end Go.Proofs.Ytnafejjdhdpanaa
