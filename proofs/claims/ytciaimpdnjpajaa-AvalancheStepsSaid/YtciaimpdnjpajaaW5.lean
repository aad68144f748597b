/-
  What functions of the program compute, as plain Lean functions, and the walks that prove it; printed by a small program of our own (wip/walk.py).
-/
import Derived.Test.YtciaimpdnjpajaaW4
namespace Go.Proofs.Ytciaimpdnjpajaa
open Go Go.Ab
attribute [local irreducible] AWP ACall DCall PureFn Go.Ab.Sub alist dlist AIdx AElem ALook ANext
set_option maxRecDepth 100000
set_option maxHeartbeats 4000000
set_option linter.unusedSimpArgs false
set_option linter.unusedVariables false
noncomputable section
def law50_part_b2 (x_2 : Int) (k3 : Nat) (x_5 : Int) (sv : Bool) : Option (Out (Bool) (Out (Unit) (Bool))) :=
  (bif sv then some (Out.next true) else some (Out.next (decide (x_2 = x_5))))

def law50_part_b1 (b : List Int) (k0 : Nat) (x_2 : Int) (sv : Unit) : Option (Out (Unit) (Bool)) :=
  (forIx (law50_part_b2 x_2) 0 b false).bind fun o3 => o3.on fun s3 => (bif (!s3) then some (Out.ret false) else some (Out.next ()))

def law50_part (a : List Int) (b : List Int) : Option (Bool) :=
  (forIx (law50_part_b1 b) 0 a ()).bind fun o0 => o0.on fun s0 => some true

theorem law50_part_spec (a : List Int) (b : List Int) {r : Bool} (h : law50_part a b = some r) : PureFn Try.prog 29 [.sl 1 (a.map intC), .sl 1 (b.map intC)] (· = .bool r) := by
  refine PureFn.nle (PureFn.intro Try.func29 rfl rfl (by show _ ≤ 34; simp) ?_)
  unfold law50_part at h
  (try simp +decide -implicitDefEqProofs only [go_sem])
  refine AWP.seq ?_
  refine AWP.region rfl ?_; intro K hK
  (try simp +decide -implicitDefEqProofs only [go_sem])
  refine hK _ _ ?_; clear hK K
  refine qthen_normal ?_
  refine AWP.seq ?_
  refine AWP.seq ?_
  refine AWP.region rfl ?_; intro K hK
  (try simp +decide -implicitDefEqProofs only [go_sem])
  refine hK _ _ ?_; clear hK K
  refine qthen_normal ?_
  refine AWP.block ?_
  obtain ⟨o0, hJ0, hO0⟩ := bindE h
  clear h
  refine AWP.loopW (ι := Nat × (Unit) × (Unit)) (fun zz => [(0, .sl 1 (a.map intC)), (1, .sl 1 (b.map intC)), (5, .int .i64 ((zz.1 : Nat) : Int))]) (fun zz => []) (fun zz => zz.1 ≤ a.length ∧ forIx (law50_part_b1 b) zz.1 ((a).drop zz.1) zz.2.1 = some o0) (fun zz => a.length - zz.1) (0, (), ()) ⟨Nat.zero_le _, hJ0⟩ (by (simp +decide -implicitDefEqProofs only [go_sem, mpE_nil, AVal.int.injEq, Int.natCast_zero, List.replicate_zero, List.length_take, List.length_drop, AVal.own.injEq, reduceCtorEq, Int.reduceAdd] <;> omega)) (by (simp +decide -implicitDefEqProofs only [go_sem, mpE_nil, AVal.int.injEq, Int.natCast_zero, List.replicate_zero, List.length_take, List.length_drop, AVal.own.injEq, reduceCtorEq, Int.reduceAdd] <;> omega)) (fun x => ⟨rfl, rfl, rfl⟩) ?_
  clear hJ0
  rintro ⟨k0, ⟨⟩, ⟨⟩⟩ ⟨hk0, hJ0⟩
  dsimp only at hk0 hJ0 ⊢
  refine AWP.seq ?_
  refine AWP.seq ?_
  refine AWP.region rfl ?_; intro K hK
  (try simp +decide -implicitDefEqProofs only [go_sem])
  intro hm
  refine hK _ _ ?_; clear hK K
  refine qthen_normal ?_
  refine AWP.cond (acond_split (fun hc => ?_) (fun hc => ?_))
  · have hlt0 : k0 < a.length := by have := of_decide_eq_true hc; omega
    obtain ⟨x_2, b0, hx0_, h, hJ0⟩ := for_cons hJ0 hlt0
    have hx0 := idxL_nat hx0_
    have hw0 : IntKind.i64.wrap (((k0 : Nat) : Int) + 1) = (((k0 : Nat) : Int) + (1 : Int)) := by rw [wrap_i64] <;> omega
    unfold law50_part_b1 at h; try dsimp only at h
    refine AWP.skip ?_
    refine qthen_normal ?_
    refine AWP.seq ?_
    refine AWP.block ?_
    refine AWP.seq ?_
    refine AWP.region rfl ?_; intro K hK
    (try simp +decide -implicitDefEqProofs only [go_sem])
    refine hK _ _ ?_; clear hK K
    refine qthen_normal ?_
    refine AWP.seq ?_
    refine AWP.seq ?_
    refine AWP.region rfl ?_; intro K hK
    (try simp +decide -implicitDefEqProofs only [go_sem])
    refine hK _ _ ?_; clear hK K
    refine qthen_normal ?_
    refine AWP.block ?_
    obtain ⟨o3, hJ3, hO3⟩ := bindE h
    clear h
    refine AWP.loopW (ι := Nat × (Bool) × (Unit)) (fun zz => [(0, .sl 1 (a.map intC)), (1, .sl 1 (b.map intC)), (5, .int .i64 ((k0 : Nat) : Int)), (6, .bool zz.2.1), (7, .int .i64 ((zz.1 : Nat) : Int))]) (fun zz => []) (fun zz => zz.1 ≤ b.length ∧ forIx (law50_part_b2 x_2) zz.1 ((b).drop zz.1) zz.2.1 = some o3) (fun zz => b.length - zz.1) (0, false, ()) ⟨Nat.zero_le _, hJ3⟩ (by (simp +decide -implicitDefEqProofs only [go_sem, mpE_nil, AVal.int.injEq, Int.natCast_zero, List.replicate_zero, List.length_take, List.length_drop, AVal.own.injEq, reduceCtorEq, Int.reduceAdd] <;> omega)) (by (simp +decide -implicitDefEqProofs only [go_sem, mpE_nil, AVal.int.injEq, Int.natCast_zero, List.replicate_zero, List.length_take, List.length_drop, AVal.own.injEq, reduceCtorEq, Int.reduceAdd] <;> omega)) (fun x => ⟨rfl, rfl, rfl⟩) ?_
    clear hJ3
    rintro ⟨k3, in_3, ⟨⟩⟩ ⟨hk3, hJ3⟩
    dsimp only at hk3 hJ3 ⊢
    refine AWP.seq ?_
    refine AWP.seq ?_
    refine AWP.region rfl ?_; intro K hK
    (try simp +decide -implicitDefEqProofs only [go_sem])
    intro hm
    refine hK _ _ ?_; clear hK K
    refine qthen_normal ?_
    refine AWP.cond (acond_split (fun hc => ?_) (fun hc => ?_))
    · have hlt3 : k3 < b.length := by have := of_decide_eq_true hc; omega
      obtain ⟨x_5, b3, hx3_, h, hJ3⟩ := for_cons hJ3 hlt3
      have hx3 := idxL_nat hx3_
      have hw3 : IntKind.i64.wrap (((k3 : Nat) : Int) + 1) = (((k3 : Nat) : Int) + (1 : Int)) := by rw [wrap_i64] <;> omega
      unfold law50_part_b2 at h; try dsimp only at h
      refine AWP.skip ?_
      refine qthen_normal ?_
      refine AWP.seq ?_
      refine AWP.block ?_
      refine AWP.draw Try.mixed (by kernel_rfl) ?_; intro K hK
      (try simp +decide -implicitDefEqProofs only [go_sem])
      refine aguardK_split (fun hc => ?_) (fun hc => ?_)
      · replace h := bif_f h hc
        (try simp +decide -implicitDefEqProofs only [go_sem, hc])
        refine AIdx.of (f := intC) (l := a) hx0 ?_
        (try simp +decide -implicitDefEqProofs only [go_sem])
        refine AIdx.of (f := intC) (l := b) hx3 ?_
        (try simp +decide -implicitDefEqProofs only [go_sem])
        refine hK _ _ _ (by kernel_rfl) ?_; clear hK K
        refine qblock_normal ?_
        refine qthen_normal ?_
        refine AWP.region rfl ?_; intro K hK
        (try simp +decide -implicitDefEqProofs only [go_sem])
        refine hK _ _ ?_; clear hK K
        refine qthen_normal ?_
        obtain rfl := some_eq h
        refine ⟨(k3 + 1, (decide (x_2 = x_5)), ()), ⟨by dsimp only; omega, cont_next hJ3⟩, by dsimp only; omega, ?_, ?_⟩
        · (simp +decide -implicitDefEqProofs only [go_sem, mpE_nil, AVal.int.injEq, Int.natCast_zero, List.replicate_zero, List.length_take, List.length_drop, AVal.own.injEq, reduceCtorEq, Int.reduceAdd, hw3] <;> omega)
        · (simp +decide -implicitDefEqProofs only [go_sem, mpE_nil, AVal.int.injEq, Int.natCast_zero, List.replicate_zero, List.length_take, List.length_drop, AVal.own.injEq, reduceCtorEq, Int.reduceAdd, hw3] <;> omega)
      · replace h := bif_t h hc
        (try simp +decide -implicitDefEqProofs only [go_sem, hc, Bool.not_false])
        refine hK _ _ _ (by kernel_rfl) ?_; clear hK K
        refine qblock_normal ?_
        refine qthen_normal ?_
        refine AWP.region rfl ?_; intro K hK
        (try simp +decide -implicitDefEqProofs only [go_sem])
        refine hK _ _ ?_; clear hK K
        refine qthen_normal ?_
        obtain rfl := some_eq h
        refine ⟨(k3 + 1, true, ()), ⟨by dsimp only; omega, cont_next hJ3⟩, by dsimp only; omega, ?_, ?_⟩
        · (simp +decide -implicitDefEqProofs only [go_sem, mpE_nil, AVal.int.injEq, Int.natCast_zero, List.replicate_zero, List.length_take, List.length_drop, AVal.own.injEq, reduceCtorEq, Int.reduceAdd, hw3] <;> omega)
        · (simp +decide -implicitDefEqProofs only [go_sem, mpE_nil, AVal.int.injEq, Int.natCast_zero, List.replicate_zero, List.length_take, List.length_drop, AVal.own.injEq, reduceCtorEq, Int.reduceAdd, hw3] <;> omega)
    · obtain rfl := for_nil hJ3 (fun hl => by have := of_decide_eq_false hc; omega)
      have h := on_next hO3; try dsimp only at h
      have hkl : b.length = k3 := by have := of_decide_eq_false hc; omega
      subst hkl
      refine AWP.exit ?_
      refine qthen_exit ?_
      refine qthen_exit ?_
      refine qblock_same ?_
      refine qthen_normal ?_
      refine AWP.seq ?_
      refine AWP.region rfl ?_; intro K hK
      (try simp +decide -implicitDefEqProofs only [go_sem])
      refine hK _ _ ?_; clear hK K
      refine qthen_normal ?_
      refine AWP.cond (acond_split (fun hc => ?_) (fun hc => ?_))
      · replace h := bif_t h hc
        refine AWP.seq ?_
        refine AWP.region rfl ?_; intro K hK
        (try simp +decide -implicitDefEqProofs only [go_sem])
        refine hK _ _ ?_; clear hK K
        refine qthen_normal ?_
        refine AWP.ret ?_
        refine qblock_ret ?_
        refine qthen_ret ?_
        refine qthen_ret ?_
        obtain rfl := some_eq h
        obtain rfl := cont_ret hJ0
        replace h := on_ret hO0
        refine qblock_ret ?_
        refine qthen_ret ?_
        obtain rfl := some_eq h
        simp +decide -implicitDefEqProofs only [go_sem, mpE_nil, AVal.int.injEq, Int.natCast_zero, List.replicate_zero, List.length_take, List.length_drop, AVal.own.injEq, reduceCtorEq, Int.reduceAdd, nle2, nle1, nle0, nleA, nleL, Try.results29]
      replace h := bif_f h hc
      refine AWP.skip ?_
      refine qblock_normal ?_
      refine qthen_normal ?_
      refine AWP.region rfl ?_; intro K hK
      (try simp +decide -implicitDefEqProofs only [go_sem])
      refine hK _ _ ?_; clear hK K
      refine qthen_normal ?_
      obtain rfl := some_eq h
      refine ⟨(k0 + 1, (), ()), ⟨by dsimp only; omega, cont_next hJ0⟩, by dsimp only; omega, ?_, ?_⟩
      · (simp +decide -implicitDefEqProofs only [go_sem, mpE_nil, AVal.int.injEq, Int.natCast_zero, List.replicate_zero, List.length_take, List.length_drop, AVal.own.injEq, reduceCtorEq, Int.reduceAdd, hw0] <;> omega)
      · (simp +decide -implicitDefEqProofs only [go_sem, mpE_nil, AVal.int.injEq, Int.natCast_zero, List.replicate_zero, List.length_take, List.length_drop, AVal.own.injEq, reduceCtorEq, Int.reduceAdd, hw0] <;> omega)
  · obtain rfl := for_nil hJ0 (fun hl => by have := of_decide_eq_false hc; omega)
    have h := on_next hO0; try dsimp only at h
    have hkl : a.length = k0 := by have := of_decide_eq_false hc; omega
    subst hkl
    refine AWP.exit ?_
    refine qthen_exit ?_
    refine qthen_exit ?_
    refine qblock_same ?_
    refine qthen_normal ?_
    refine AWP.seq ?_
    refine AWP.region rfl ?_; intro K hK
    (try simp +decide -implicitDefEqProofs only [go_sem])
    refine hK _ _ ?_; clear hK K
    refine qthen_normal ?_
    refine AWP.ret ?_
    obtain rfl := some_eq h
    simp +decide -implicitDefEqProofs only [go_sem, mpE_nil, AVal.int.injEq, Int.natCast_zero, List.replicate_zero, List.length_take, List.length_drop, AVal.own.injEq, reduceCtorEq, Int.reduceAdd, nle2, nle1, nle0, nleA, nleL, Try.results29]

def law50_AvalancheGrows_b2 (levels : List Int) (y4 : (List ApiSlide) × Int) (high6 : List Int) (k8 : Nat) (x_10 : ApiSlide) (sv : Unit) : Option (Out (Unit) (Bool)) :=
  (idxL y4.1 ((k8 : Nat) : Int)).bind fun x_11 => (bif (decide (x_11.Load < x_10.Load)) then some (Out.ret false) else (bif (decide (x_11.Limit ≠ x_10.Limit)) then some (Out.ret false) else (avalanche_Unstable x_10 levels).bind fun y12 => (bif y12 then (avalanche_Unstable x_11 high6).bind fun y13 => (bif (!y13) then some (Out.ret false) else some (Out.next ())) else some (Out.next ()))))

def law50_AvalancheGrows_j1 (l : List ApiSlide) (levels : List Int) (y4 : (List ApiSlide) × Int) (high6 : List Int) : Option (Bool) :=
  (forIx (law50_AvalancheGrows_b2 levels y4 high6) 0 l ()).bind fun o8 => o8.on fun s8 => (avalanche_Zones l levels).bind fun y14 => (avalanche_Zones y4.1 high6).bind fun y15 => (law50_part y14 y15).bind fun y16 => (bif y16 then (avalanche_Lifts l levels).bind fun y17 => (avalanche_Lifts y4.1 high6).bind fun y18 => (law50_part y17 y18).bind fun y19 => some y19 else some false)

def law50_AvalancheGrows_b3 (l : List ApiSlide) (levels : List Int) (up : List Int) (y4 : (List ApiSlide) × Int) (sv : Int × (List Int)) : Option (Out (Int × (List Int)) (Bool)) :=
  (bif (decide (sv.1 < ((levels.length : Nat) : Int))) then (bif true then (bif (decide (sv.1 < ((levels.length : Nat) : Int))) then (idxL levels sv.1).bind fun x_28 => (bif (decide (sv.1 < ((up.length : Nat) : Int))) then (bif (decide (x_28 < (1000 : Int))) then (idxL up sv.1).bind fun x_29 => chk (sv.2.length + 1) (some (Out.next ((IntKind.i64.wrap (sv.1 + (1 : Int))), (sv.2 ++ [(IntKind.i64.wrap (x_28 + (IntKind.i64.wrap x_29)))])))) else chk (sv.2.length + 1) (some (Out.next ((IntKind.i64.wrap (sv.1 + (1 : Int))), (sv.2 ++ [x_28]))))) else chk (sv.2.length + 1) (some (Out.next ((IntKind.i64.wrap (sv.1 + (1 : Int))), (sv.2 ++ [x_28]))))) else (bif (decide (sv.1 < ((up.length : Nat) : Int))) then (idxL up sv.1).bind fun x_30 => chk (sv.2.length + 1) (some (Out.next ((IntKind.i64.wrap (sv.1 + (1 : Int))), (sv.2 ++ [(IntKind.i64.wrap ((0 : Int) + (IntKind.i64.wrap x_30)))])))) else chk (sv.2.length + 1) (some (Out.next ((IntKind.i64.wrap (sv.1 + (1 : Int))), (sv.2 ++ [(0 : Int)])))))) else (law50_AvalancheGrows_j1 l levels y4 sv.2).bind fun q30 => some (Out.ret q30)) else (bif (decide (sv.1 < ((up.length : Nat) : Int))) then (bif (decide (sv.1 < ((levels.length : Nat) : Int))) then (idxL levels sv.1).bind fun x_24 => (bif (decide (sv.1 < ((up.length : Nat) : Int))) then (bif (decide (x_24 < (1000 : Int))) then (idxL up sv.1).bind fun x_25 => chk (sv.2.length + 1) (some (Out.next ((IntKind.i64.wrap (sv.1 + (1 : Int))), (sv.2 ++ [(IntKind.i64.wrap (x_24 + (IntKind.i64.wrap x_25)))])))) else chk (sv.2.length + 1) (some (Out.next ((IntKind.i64.wrap (sv.1 + (1 : Int))), (sv.2 ++ [x_24]))))) else chk (sv.2.length + 1) (some (Out.next ((IntKind.i64.wrap (sv.1 + (1 : Int))), (sv.2 ++ [x_24]))))) else (bif (decide (sv.1 < ((up.length : Nat) : Int))) then (idxL up sv.1).bind fun x_26 => chk (sv.2.length + 1) (some (Out.next ((IntKind.i64.wrap (sv.1 + (1 : Int))), (sv.2 ++ [(IntKind.i64.wrap ((0 : Int) + (IntKind.i64.wrap x_26)))])))) else chk (sv.2.length + 1) (some (Out.next ((IntKind.i64.wrap (sv.1 + (1 : Int))), (sv.2 ++ [(0 : Int)])))))) else (law50_AvalancheGrows_j1 l levels y4 sv.2).bind fun q26 => some (Out.ret q26)))

def law50_AvalancheGrows (l : List ApiSlide) (fresh : Int) (gust : Int) (levels : List Int) (up : List Int) : Option (Bool) :=
  (law50_alive).bind fun y1 => (bif (!y1) then some false else (law50_small l).bind fun y2 => (bif (!y2) then some true else (avalanche_Right l).bind fun y3 => (bif (decide (y3 ≠ (0 : Int))) then some true else (bif (decide ((100 : Int) < ((levels.length : Nat) : Int))) then some true else (bif (decide ((100 : Int) < ((up.length : Nat) : Int))) then some true else (avalanche_Grow l fresh gust).bind fun y4 => (bif (decide (y4.2 ≠ (0 : Int))) then some (decide (((y4.1.length : Nat) : Int) = (0 : Int))) else (bif (decide (((y4.1.length : Nat) : Int) ≠ ((l.length : Nat) : Int))) then some false else (avalanche_Right y4.1).bind fun y5 => (bif (decide (y5 ≠ (0 : Int))) then some false else (whileN (law50_AvalancheGrows_b3 l levels up y4) fuel ((0 : Int), [])).bind fun o22 => o22.on fun _ => none))))))))

theorem law50_AvalancheGrows_spec (l : List ApiSlide) (fresh : Int) (gust : Int) (levels : List Int) (up : List Int) {r : Bool} (h : law50_AvalancheGrows l fresh gust levels up = some r) : PureFn Try.prog 7 [.sl 6 (l.map encApiSlide), .int .i64 fresh, .int .i64 gust, .sl 1 (levels.map intC), .sl 1 (up.map intu8C)] (· = .bool r) := by
  refine PureFn.nle (PureFn.intro Try.func7 rfl rfl (by show _ ≤ 161; simp) ?_)
  unfold law50_AvalancheGrows at h
  (try simp +decide -implicitDefEqProofs only [go_sem])
  refine AWP.seq ?_
  refine AWP.region rfl ?_; intro K hK
  (try simp +decide -implicitDefEqProofs only [go_sem])
  refine hK _ _ ?_; clear hK K
  refine qthen_normal ?_
  refine AWP.seq ?_
  refine AWP.seq ?_
  refine AWP.region rfl ?_; intro K hK
  (try simp +decide -implicitDefEqProofs only [go_sem])
  obtain ⟨y1, hy1, h⟩ := bindE h
  refine ACall.pure Try.call10 (law50_alive_spec hy1) rfl fun _ hr => ?_
  subst hr
  (try simp +decide -implicitDefEqProofs only [go_sem])
  refine hK _ _ ?_; clear hK K
  refine qthen_normal ?_
  refine AWP.cond (acond_split (fun hc => ?_) (fun hc => ?_))
  · replace h := bif_t h hc
    refine AWP.seq ?_
    refine AWP.region rfl ?_; intro K hK
    (try simp +decide -implicitDefEqProofs only [go_sem])
    refine hK _ _ ?_; clear hK K
    refine qthen_normal ?_
    refine AWP.ret ?_
    refine qthen_ret ?_
    obtain rfl := some_eq h
    simp +decide -implicitDefEqProofs only [go_sem, mpE_nil, AVal.int.injEq, Int.natCast_zero, List.replicate_zero, List.length_take, List.length_drop, AVal.own.injEq, reduceCtorEq, Int.reduceAdd, nle2, nle1, nle0, nleA, nleL, Try.results7]
  replace h := bif_f h hc
  refine AWP.skip ?_
  refine qthen_normal ?_
  refine AWP.seq ?_
  refine AWP.seq ?_
  refine AWP.region rfl ?_; intro K hK
  (try simp +decide -implicitDefEqProofs only [go_sem])
  obtain ⟨y2, hy2, h⟩ := bindE h
  refine ACall.pure Try.call11 (law50_small_spec l hy2) rfl fun _ hr => ?_
  subst hr
  (try simp +decide -implicitDefEqProofs only [go_sem])
  refine aguardK_split (fun hc => ?_) (fun hc => ?_)
  · replace h := bif_f h hc
    (try simp +decide -implicitDefEqProofs only [go_sem, hc])
    obtain ⟨y3, hy3, h⟩ := bindE h
    refine ACall.pure Try.call12 (avalanche_Right_spec l hy3) rfl fun _ hr => ?_
    subst hr
    (try simp +decide -implicitDefEqProofs only [go_sem])
    refine aguardK_split (fun hc => ?_) (fun hc => ?_)
    · replace h := bif_f h hc
      (try simp +decide -implicitDefEqProofs only [go_sem, hc])
      intro hm
      refine aguardK_split (fun hc => ?_) (fun hc => ?_)
      · replace h := bif_f h hc
        (try simp +decide -implicitDefEqProofs only [go_sem, hc])
        intro hm
        refine hK _ _ ?_; clear hK K
        refine qthen_normal ?_
        refine AWP.cond (acond_split (fun hc => ?_) (fun hc => ?_))
        · replace h := bif_t h hc
          refine AWP.seq ?_
          refine AWP.region rfl ?_; intro K hK
          (try simp +decide -implicitDefEqProofs only [go_sem])
          refine hK _ _ ?_; clear hK K
          refine qthen_normal ?_
          refine AWP.ret ?_
          refine qthen_ret ?_
          obtain rfl := some_eq h
          simp +decide -implicitDefEqProofs only [go_sem, mpE_nil, AVal.int.injEq, Int.natCast_zero, List.replicate_zero, List.length_take, List.length_drop, AVal.own.injEq, reduceCtorEq, Int.reduceAdd, nle2, nle1, nle0, nleA, nleL, Try.results7]
        replace h := bif_f h hc
        refine AWP.skip ?_
        refine qthen_normal ?_
        refine AWP.seq ?_
        refine AWP.region rfl ?_; intro K hK
        (try simp +decide -implicitDefEqProofs only [go_sem])
        obtain ⟨y4, hy4, h⟩ := bindE h
        refine ACall.pure Try.call15 (avalanche_Grow_spec l fresh gust hy4) rfl fun _ hr => ?_
        subst hr
        (try simp +decide -implicitDefEqProofs only [go_sem])
        refine hK _ _ ?_; clear hK K
        refine qthen_normal ?_
        refine AWP.seq ?_
        refine AWP.seq ?_
        refine AWP.region rfl ?_; intro K hK
        (try simp +decide -implicitDefEqProofs only [go_sem])
        refine hK _ _ ?_; clear hK K
        refine qthen_normal ?_
        refine AWP.cond (acond_split (fun hc => ?_) (fun hc => ?_))
        · replace h := bif_t h hc
          refine AWP.seq ?_
          refine AWP.region rfl ?_; intro K hK
          (try simp +decide -implicitDefEqProofs only [go_sem])
          intro hm
          refine hK _ _ ?_; clear hK K
          refine qthen_normal ?_
          refine AWP.ret ?_
          refine qthen_ret ?_
          obtain rfl := some_eq h
          simp +decide -implicitDefEqProofs only [go_sem, mpE_nil, AVal.int.injEq, Int.natCast_zero, List.replicate_zero, List.length_take, List.length_drop, AVal.own.injEq, reduceCtorEq, Int.reduceAdd, nle2, nle1, nle0, nleA, nleL, Try.results7]
        replace h := bif_f h hc
        refine AWP.skip ?_
        refine qthen_normal ?_
        refine AWP.seq ?_
        refine AWP.seq ?_
        refine AWP.region rfl ?_; intro K hK
        (try simp +decide -implicitDefEqProofs only [go_sem])
        intro hm
        intro hm
        refine aguardK_split (fun hc => ?_) (fun hc => ?_)
        · replace h := bif_f h hc
          (try simp +decide -implicitDefEqProofs only [go_sem, hc])
          obtain ⟨y5, hy5, h⟩ := bindE h
          refine ACall.pure Try.call12 (avalanche_Right_spec y4.1 hy5) rfl fun _ hr => ?_
          subst hr
          (try simp +decide -implicitDefEqProofs only [go_sem])
          refine hK _ _ ?_; clear hK K
          refine qthen_normal ?_
          refine AWP.cond (acond_split (fun hc => ?_) (fun hc => ?_))
          · replace h := bif_t h hc
            refine AWP.seq ?_
            refine AWP.region rfl ?_; intro K hK
            (try simp +decide -implicitDefEqProofs only [go_sem])
            refine hK _ _ ?_; clear hK K
            refine qthen_normal ?_
            refine AWP.ret ?_
            refine qthen_ret ?_
            obtain rfl := some_eq h
            simp +decide -implicitDefEqProofs only [go_sem, mpE_nil, AVal.int.injEq, Int.natCast_zero, List.replicate_zero, List.length_take, List.length_drop, AVal.own.injEq, reduceCtorEq, Int.reduceAdd, nle2, nle1, nle0, nleA, nleL, Try.results7]
          replace h := bif_f h hc
          refine AWP.skip ?_
          refine qthen_normal ?_
          refine AWP.seq ?_
          refine AWP.region rfl ?_; intro K hK
          (try simp +decide -implicitDefEqProofs only [go_sem])
          refine hK _ _ ?_; clear hK K
          refine qthen_normal ?_
          refine AWP.seqJoin (ι := ((List Int)) × (Nat)) (fun zz => [(0, .sl 6 (l.map encApiSlide)), (3, .sl 1 (levels.map intC)), (11, .sl 6 (y4.1.map encApiSlide)), (13, .own 0 zz.2 0 zz.1.length)]) (fun zz => [.row zz.2 1 (zz.1.map intC)]) (fun zz => law50_AvalancheGrows_j1 l levels y4 zz.1 = some r) (fun zz => ⟨rfl, rfl, rfl⟩) ?_ ?_
          · refine AWP.seq ?_
            refine AWP.region rfl ?_; intro K hK
            (try simp +decide -implicitDefEqProofs only [go_sem])
            refine hK _ _ ?_; clear hK K
            refine qthen_normal ?_
            refine AWP.block ?_
            refine AWP.ghost 13 1 rfl (by decide) ?_
            obtain ⟨o22, hJ22, hO22⟩ := bindE h
            clear h
            refine AWP.loopW (ι := Nat × (Int × (List Int)) × (Nat)) (fun zz => [(0, .sl 6 (l.map encApiSlide)), (3, .sl 1 (levels.map intC)), (4, .sl 1 (up.map intu8C)), (11, .sl 6 (y4.1.map encApiSlide)), (13, .own 0 zz.2.2 0 zz.2.1.2.length), (14, .int .i64 zz.2.1.1)]) (fun zz => [.row zz.2.2 1 (zz.2.1.2.map intC)]) (fun zz => whileN (law50_AvalancheGrows_b3 l levels up y4) zz.1 zz.2.1 = some o22) (fun zz => zz.1) (fuel, ((0 : Int), []), 0) hJ22 (by (simp +decide -implicitDefEqProofs only [go_sem, mpE_nil, AVal.int.injEq, Int.natCast_zero, List.replicate_zero, List.length_take, List.length_drop, AVal.own.injEq, reduceCtorEq, Int.reduceAdd] <;> omega)) (by (simp +decide -implicitDefEqProofs only [go_sem, mpE_nil, AVal.int.injEq, Int.natCast_zero, List.replicate_zero, List.length_take, List.length_drop, AVal.own.injEq, reduceCtorEq, Int.reduceAdd] <;> omega)) (fun x => ⟨rfl, rfl, rfl⟩) ?_
            clear hJ22
            rintro ⟨n22, ⟨i20, high21⟩, ver22⟩ hJ22
            dsimp only at hJ22 ⊢
            obtain ⟨m22, b22, rfl, h, hJ22⟩ := while_step hJ22
            unfold law50_AvalancheGrows_b3 at h; try dsimp only at h
            refine AWP.seq ?_
            refine AWP.seq ?_
            refine AWP.region rfl ?_; intro K hK
            (try simp +decide -implicitDefEqProofs only [go_sem])
            intro hm
            refine aguardK_split (fun hc => ?_) (fun hc => ?_)
            · replace h := bif_f h hc
              (try simp +decide -implicitDefEqProofs only [go_sem, hc])
              intro hm
              refine hK _ _ ?_; clear hK K
              refine qthen_normal ?_
              refine AWP.cond (acond_split (fun hc => ?_) (fun hc => ?_))
              · replace h := bif_t h hc
                refine AWP.skip ?_
                refine qthen_normal ?_
                refine AWP.seq ?_
                refine AWP.block ?_
                refine AWP.seq ?_
                refine AWP.region rfl ?_; intro K hK
                (try simp +decide -implicitDefEqProofs only [go_sem])
                refine hK _ _ ?_; clear hK K
                refine qthen_normal ?_
                refine AWP.seq ?_
                refine AWP.seq ?_
                refine AWP.region rfl ?_; intro K hK
                (try simp +decide -implicitDefEqProofs only [go_sem])
                intro hm
                refine hK _ _ ?_; clear hK K
                refine qthen_normal ?_
                refine AWP.cond (acond_split (fun hc => ?_) (fun hc => ?_))
                · replace h := bif_t h hc
                  refine AWP.region rfl ?_; intro K hK
                  (try simp +decide -implicitDefEqProofs only [go_sem])
                  obtain ⟨x_24, hx_24, h⟩ := bindE h
                  refine AIdx.of (f := intC) (l := levels) hx_24 ?_
                  (try simp +decide -implicitDefEqProofs only [go_sem])
                  refine hK _ _ ?_; clear hK K
                  refine qthen_normal ?_
                  refine AWP.seq ?_
                  refine AWP.seq ?_
                  refine AWP.region rfl ?_; intro K hK
                  (try simp +decide -implicitDefEqProofs only [go_sem])
                  intro hm
                  refine aguardK_split (fun hc => ?_) (fun hc => ?_)
                  · replace h := bif_t h hc
                    (try simp +decide -implicitDefEqProofs only [go_sem, hc])
                    refine hK _ _ ?_; clear hK K
                    refine qthen_normal ?_
                    refine AWP.cond (acond_split (fun hc => ?_) (fun hc => ?_))
                    · replace h := bif_t h hc
                      refine AWP.region rfl ?_; intro K hK
                      (try simp +decide -implicitDefEqProofs only [go_sem])
                      obtain ⟨x_25, hx_25, h⟩ := bindE h
                      refine AIdx.of (f := intu8C) (l := up) hx_25 ?_
                      (try simp +decide -implicitDefEqProofs only [go_sem])
                      refine hK _ _ ?_; clear hK K
                      refine qthen_normal ?_
                      refine AWP.region rfl ?_; intro K hK
                      (try simp +decide -implicitDefEqProofs only [go_sem])
                      obtain ⟨hk, h⟩ := chk_in h
                      (repeat (refine ⟨by first | omega | (simp only [List.length_take, List.length_drop, List.length_append]; omega), ?_⟩)); try simp +decide -implicitDefEqProofs only [go_sem]
                      refine hK _ _ ?_; clear hK K
                      refine qblock_normal ?_
                      refine qthen_normal ?_
                      refine AWP.region rfl ?_; intro K hK
                      (try simp +decide -implicitDefEqProofs only [go_sem])
                      refine hK _ _ ?_; clear hK K
                      refine qthen_normal ?_
                      obtain rfl := some_eq h
                      refine ⟨(m22, ((IntKind.i64.wrap (i20 + (1 : Int))), (high21 ++ [(IntKind.i64.wrap (x_24 + (IntKind.i64.wrap x_25)))])), (ver22 + 1)), cont_next hJ22, by dsimp only; omega, ?_, ?_⟩
                      · (simp +decide -implicitDefEqProofs only [go_sem, mpE_nil, AVal.int.injEq, Int.natCast_zero, List.replicate_zero, List.length_take, List.length_drop, AVal.own.injEq, reduceCtorEq, Int.reduceAdd] <;> omega)
                      · (simp +decide -implicitDefEqProofs only [go_sem, mpE_nil, AVal.int.injEq, Int.natCast_zero, List.replicate_zero, List.length_take, List.length_drop, AVal.own.injEq, reduceCtorEq, Int.reduceAdd] <;> omega)
                    replace h := bif_f h hc
                    refine AWP.skip ?_
                    refine qthen_normal ?_
                    refine AWP.region rfl ?_; intro K hK
                    (try simp +decide -implicitDefEqProofs only [go_sem])
                    obtain ⟨hk, h⟩ := chk_in h
                    (repeat (refine ⟨by first | omega | (simp only [List.length_take, List.length_drop, List.length_append]; omega), ?_⟩)); try simp +decide -implicitDefEqProofs only [go_sem]
                    refine hK _ _ ?_; clear hK K
                    refine qblock_normal ?_
                    refine qthen_normal ?_
                    refine AWP.region rfl ?_; intro K hK
                    (try simp +decide -implicitDefEqProofs only [go_sem])
                    refine hK _ _ ?_; clear hK K
                    refine qthen_normal ?_
                    obtain rfl := some_eq h
                    refine ⟨(m22, ((IntKind.i64.wrap (i20 + (1 : Int))), (high21 ++ [x_24])), (ver22 + 1)), cont_next hJ22, by dsimp only; omega, ?_, ?_⟩
                    · (simp +decide -implicitDefEqProofs only [go_sem, mpE_nil, AVal.int.injEq, Int.natCast_zero, List.replicate_zero, List.length_take, List.length_drop, AVal.own.injEq, reduceCtorEq, Int.reduceAdd] <;> omega)
                    · (simp +decide -implicitDefEqProofs only [go_sem, mpE_nil, AVal.int.injEq, Int.natCast_zero, List.replicate_zero, List.length_take, List.length_drop, AVal.own.injEq, reduceCtorEq, Int.reduceAdd] <;> omega)
                  · replace h := bif_f h hc
                    (try simp +decide -implicitDefEqProofs only [go_sem, hc, Bool.not_true])
                    refine hK _ _ ?_; clear hK K
                    refine qthen_normal ?_
                    refine AWP.cond (acond_false ?_)
                    refine AWP.skip ?_
                    refine qthen_normal ?_
                    refine AWP.region rfl ?_; intro K hK
                    (try simp +decide -implicitDefEqProofs only [go_sem])
                    obtain ⟨hk, h⟩ := chk_in h
                    (repeat (refine ⟨by first | omega | (simp only [List.length_take, List.length_drop, List.length_append]; omega), ?_⟩)); try simp +decide -implicitDefEqProofs only [go_sem]
                    refine hK _ _ ?_; clear hK K
                    refine qblock_normal ?_
                    refine qthen_normal ?_
                    refine AWP.region rfl ?_; intro K hK
                    (try simp +decide -implicitDefEqProofs only [go_sem])
                    refine hK _ _ ?_; clear hK K
                    refine qthen_normal ?_
                    obtain rfl := some_eq h
                    refine ⟨(m22, ((IntKind.i64.wrap (i20 + (1 : Int))), (high21 ++ [x_24])), (ver22 + 1)), cont_next hJ22, by dsimp only; omega, ?_, ?_⟩
                    · (simp +decide -implicitDefEqProofs only [go_sem, mpE_nil, AVal.int.injEq, Int.natCast_zero, List.replicate_zero, List.length_take, List.length_drop, AVal.own.injEq, reduceCtorEq, Int.reduceAdd] <;> omega)
                    · (simp +decide -implicitDefEqProofs only [go_sem, mpE_nil, AVal.int.injEq, Int.natCast_zero, List.replicate_zero, List.length_take, List.length_drop, AVal.own.injEq, reduceCtorEq, Int.reduceAdd] <;> omega)
                replace h := bif_f h hc
                refine AWP.skip ?_
                refine qthen_normal ?_
                refine AWP.seq ?_
                refine AWP.seq ?_
                refine AWP.region rfl ?_; intro K hK
                (try simp +decide -implicitDefEqProofs only [go_sem])
                intro hm
                refine aguardK_split (fun hc => ?_) (fun hc => ?_)
                · replace h := bif_t h hc
                  (try simp +decide -implicitDefEqProofs only [go_sem, hc])
                  refine hK _ _ ?_; clear hK K
                  refine qthen_normal ?_
                  refine AWP.cond (acond_true ?_)
                  refine AWP.region rfl ?_; intro K hK
                  (try simp +decide -implicitDefEqProofs only [go_sem])
                  obtain ⟨x_26, hx_26, h⟩ := bindE h
                  refine AIdx.of (f := intu8C) (l := up) hx_26 ?_
                  (try simp +decide -implicitDefEqProofs only [go_sem])
                  refine hK _ _ ?_; clear hK K
                  refine qthen_normal ?_
                  refine AWP.region rfl ?_; intro K hK
                  (try simp +decide -implicitDefEqProofs only [go_sem])
                  obtain ⟨hk, h⟩ := chk_in h
                  (repeat (refine ⟨by first | omega | (simp only [List.length_take, List.length_drop, List.length_append]; omega), ?_⟩)); try simp +decide -implicitDefEqProofs only [go_sem]
                  refine hK _ _ ?_; clear hK K
                  refine qblock_normal ?_
                  refine qthen_normal ?_
                  refine AWP.region rfl ?_; intro K hK
                  (try simp +decide -implicitDefEqProofs only [go_sem])
                  refine hK _ _ ?_; clear hK K
                  refine qthen_normal ?_
                  obtain rfl := some_eq h
                  refine ⟨(m22, ((IntKind.i64.wrap (i20 + (1 : Int))), (high21 ++ [(IntKind.i64.wrap ((0 : Int) + (IntKind.i64.wrap x_26)))])), (ver22 + 1)), cont_next hJ22, by dsimp only; omega, ?_, ?_⟩
                  · (simp +decide -implicitDefEqProofs only [go_sem, mpE_nil, AVal.int.injEq, Int.natCast_zero, List.replicate_zero, List.length_take, List.length_drop, AVal.own.injEq, reduceCtorEq, Int.reduceAdd] <;> omega)
                  · (simp +decide -implicitDefEqProofs only [go_sem, mpE_nil, AVal.int.injEq, Int.natCast_zero, List.replicate_zero, List.length_take, List.length_drop, AVal.own.injEq, reduceCtorEq, Int.reduceAdd] <;> omega)
                · replace h := bif_f h hc
                  (try simp +decide -implicitDefEqProofs only [go_sem, hc, Bool.not_true])
                  refine hK _ _ ?_; clear hK K
                  refine qthen_normal ?_
                  refine AWP.cond (acond_false ?_)
                  refine AWP.skip ?_
                  refine qthen_normal ?_
                  refine AWP.region rfl ?_; intro K hK
                  (try simp +decide -implicitDefEqProofs only [go_sem])
                  obtain ⟨hk, h⟩ := chk_in h
                  (repeat (refine ⟨by first | omega | (simp only [List.length_take, List.length_drop, List.length_append]; omega), ?_⟩)); try simp +decide -implicitDefEqProofs only [go_sem]
                  refine hK _ _ ?_; clear hK K
                  refine qblock_normal ?_
                  refine qthen_normal ?_
                  refine AWP.region rfl ?_; intro K hK
                  (try simp +decide -implicitDefEqProofs only [go_sem])
                  refine hK _ _ ?_; clear hK K
                  refine qthen_normal ?_
                  obtain rfl := some_eq h
                  refine ⟨(m22, ((IntKind.i64.wrap (i20 + (1 : Int))), (high21 ++ [(0 : Int)])), (ver22 + 1)), cont_next hJ22, by dsimp only; omega, ?_, ?_⟩
                  · (simp +decide -implicitDefEqProofs only [go_sem, mpE_nil, AVal.int.injEq, Int.natCast_zero, List.replicate_zero, List.length_take, List.length_drop, AVal.own.injEq, reduceCtorEq, Int.reduceAdd] <;> omega)
                  · (simp +decide -implicitDefEqProofs only [go_sem, mpE_nil, AVal.int.injEq, Int.natCast_zero, List.replicate_zero, List.length_take, List.length_drop, AVal.own.injEq, reduceCtorEq, Int.reduceAdd] <;> omega)
              replace h := bif_f h hc
              refine AWP.exit ?_
              refine qthen_exit ?_
              refine qthen_exit ?_
              obtain ⟨q26, hq, h⟩ := bindE h
              obtain rfl := some_eq h
              obtain rfl := cont_ret hJ22
              replace h := hq.trans (on_ret hO22)
              refine qblock_same ?_
              refine qthen_normal ?_
              exact ⟨(high21, ver22), h, by (simp +decide -implicitDefEqProofs only [go_sem, mpE_nil, AVal.int.injEq, Int.natCast_zero, List.replicate_zero, List.length_take, List.length_drop, AVal.own.injEq, reduceCtorEq, Int.reduceAdd] <;> omega), by (simp +decide -implicitDefEqProofs only [go_sem, mpE_nil, AVal.int.injEq, Int.natCast_zero, List.replicate_zero, List.length_take, List.length_drop, AVal.own.injEq, reduceCtorEq, Int.reduceAdd] <;> omega)⟩
            · replace h := bif_t h hc
              (try simp +decide -implicitDefEqProofs only [go_sem, hc, Bool.not_false])
              refine hK _ _ ?_; clear hK K
              refine qthen_normal ?_
              refine AWP.cond (acond_split (fun hc => ?_) (fun hc => ?_))
              · replace h := bif_t h hc
                refine AWP.skip ?_
                refine qthen_normal ?_
                refine AWP.seq ?_
                refine AWP.block ?_
                refine AWP.seq ?_
                refine AWP.region rfl ?_; intro K hK
                (try simp +decide -implicitDefEqProofs only [go_sem])
                refine hK _ _ ?_; clear hK K
                refine qthen_normal ?_
                refine AWP.seq ?_
                refine AWP.seq ?_
                refine AWP.region rfl ?_; intro K hK
                (try simp +decide -implicitDefEqProofs only [go_sem])
                intro hm
                refine hK _ _ ?_; clear hK K
                refine qthen_normal ?_
                refine AWP.cond (acond_split (fun hc => ?_) (fun hc => ?_))
                · replace h := bif_t h hc
                  refine AWP.region rfl ?_; intro K hK
                  (try simp +decide -implicitDefEqProofs only [go_sem])
                  obtain ⟨x_28, hx_28, h⟩ := bindE h
                  refine AIdx.of (f := intC) (l := levels) hx_28 ?_
                  (try simp +decide -implicitDefEqProofs only [go_sem])
                  refine hK _ _ ?_; clear hK K
                  refine qthen_normal ?_
                  refine AWP.seq ?_
                  refine AWP.seq ?_
                  refine AWP.region rfl ?_; intro K hK
                  (try simp +decide -implicitDefEqProofs only [go_sem])
                  intro hm
                  refine aguardK_split (fun hc => ?_) (fun hc => ?_)
                  · replace h := bif_t h hc
                    (try simp +decide -implicitDefEqProofs only [go_sem, hc])
                    refine hK _ _ ?_; clear hK K
                    refine qthen_normal ?_
                    refine AWP.cond (acond_split (fun hc => ?_) (fun hc => ?_))
                    · replace h := bif_t h hc
                      refine AWP.region rfl ?_; intro K hK
                      (try simp +decide -implicitDefEqProofs only [go_sem])
                      obtain ⟨x_29, hx_29, h⟩ := bindE h
                      refine AIdx.of (f := intu8C) (l := up) hx_29 ?_
                      (try simp +decide -implicitDefEqProofs only [go_sem])
                      refine hK _ _ ?_; clear hK K
                      refine qthen_normal ?_
                      refine AWP.region rfl ?_; intro K hK
                      (try simp +decide -implicitDefEqProofs only [go_sem])
                      obtain ⟨hk, h⟩ := chk_in h
                      (repeat (refine ⟨by first | omega | (simp only [List.length_take, List.length_drop, List.length_append]; omega), ?_⟩)); try simp +decide -implicitDefEqProofs only [go_sem]
                      refine hK _ _ ?_; clear hK K
                      refine qblock_normal ?_
                      refine qthen_normal ?_
                      refine AWP.region rfl ?_; intro K hK
                      (try simp +decide -implicitDefEqProofs only [go_sem])
                      refine hK _ _ ?_; clear hK K
                      refine qthen_normal ?_
                      obtain rfl := some_eq h
                      refine ⟨(m22, ((IntKind.i64.wrap (i20 + (1 : Int))), (high21 ++ [(IntKind.i64.wrap (x_28 + (IntKind.i64.wrap x_29)))])), (ver22 + 1)), cont_next hJ22, by dsimp only; omega, ?_, ?_⟩
                      · (simp +decide -implicitDefEqProofs only [go_sem, mpE_nil, AVal.int.injEq, Int.natCast_zero, List.replicate_zero, List.length_take, List.length_drop, AVal.own.injEq, reduceCtorEq, Int.reduceAdd] <;> omega)
                      · (simp +decide -implicitDefEqProofs only [go_sem, mpE_nil, AVal.int.injEq, Int.natCast_zero, List.replicate_zero, List.length_take, List.length_drop, AVal.own.injEq, reduceCtorEq, Int.reduceAdd] <;> omega)
                    replace h := bif_f h hc
                    refine AWP.skip ?_
                    refine qthen_normal ?_
                    refine AWP.region rfl ?_; intro K hK
                    (try simp +decide -implicitDefEqProofs only [go_sem])
                    obtain ⟨hk, h⟩ := chk_in h
                    (repeat (refine ⟨by first | omega | (simp only [List.length_take, List.length_drop, List.length_append]; omega), ?_⟩)); try simp +decide -implicitDefEqProofs only [go_sem]
                    refine hK _ _ ?_; clear hK K
                    refine qblock_normal ?_
                    refine qthen_normal ?_
                    refine AWP.region rfl ?_; intro K hK
                    (try simp +decide -implicitDefEqProofs only [go_sem])
                    refine hK _ _ ?_; clear hK K
                    refine qthen_normal ?_
                    obtain rfl := some_eq h
                    refine ⟨(m22, ((IntKind.i64.wrap (i20 + (1 : Int))), (high21 ++ [x_28])), (ver22 + 1)), cont_next hJ22, by dsimp only; omega, ?_, ?_⟩
                    · (simp +decide -implicitDefEqProofs only [go_sem, mpE_nil, AVal.int.injEq, Int.natCast_zero, List.replicate_zero, List.length_take, List.length_drop, AVal.own.injEq, reduceCtorEq, Int.reduceAdd] <;> omega)
                    · (simp +decide -implicitDefEqProofs only [go_sem, mpE_nil, AVal.int.injEq, Int.natCast_zero, List.replicate_zero, List.length_take, List.length_drop, AVal.own.injEq, reduceCtorEq, Int.reduceAdd] <;> omega)
                  · replace h := bif_f h hc
                    (try simp +decide -implicitDefEqProofs only [go_sem, hc, Bool.not_true])
                    refine hK _ _ ?_; clear hK K
                    refine qthen_normal ?_
                    refine AWP.cond (acond_false ?_)
                    refine AWP.skip ?_
                    refine qthen_normal ?_
                    refine AWP.region rfl ?_; intro K hK
                    (try simp +decide -implicitDefEqProofs only [go_sem])
                    obtain ⟨hk, h⟩ := chk_in h
                    (repeat (refine ⟨by first | omega | (simp only [List.length_take, List.length_drop, List.length_append]; omega), ?_⟩)); try simp +decide -implicitDefEqProofs only [go_sem]
                    refine hK _ _ ?_; clear hK K
                    refine qblock_normal ?_
                    refine qthen_normal ?_
                    refine AWP.region rfl ?_; intro K hK
                    (try simp +decide -implicitDefEqProofs only [go_sem])
                    refine hK _ _ ?_; clear hK K
                    refine qthen_normal ?_
                    obtain rfl := some_eq h
                    refine ⟨(m22, ((IntKind.i64.wrap (i20 + (1 : Int))), (high21 ++ [x_28])), (ver22 + 1)), cont_next hJ22, by dsimp only; omega, ?_, ?_⟩
                    · (simp +decide -implicitDefEqProofs only [go_sem, mpE_nil, AVal.int.injEq, Int.natCast_zero, List.replicate_zero, List.length_take, List.length_drop, AVal.own.injEq, reduceCtorEq, Int.reduceAdd] <;> omega)
                    · (simp +decide -implicitDefEqProofs only [go_sem, mpE_nil, AVal.int.injEq, Int.natCast_zero, List.replicate_zero, List.length_take, List.length_drop, AVal.own.injEq, reduceCtorEq, Int.reduceAdd] <;> omega)
                replace h := bif_f h hc
                refine AWP.skip ?_
                refine qthen_normal ?_
                refine AWP.seq ?_
                refine AWP.seq ?_
                refine AWP.region rfl ?_; intro K hK
                (try simp +decide -implicitDefEqProofs only [go_sem])
                intro hm
                refine aguardK_split (fun hc => ?_) (fun hc => ?_)
                · replace h := bif_t h hc
                  (try simp +decide -implicitDefEqProofs only [go_sem, hc])
                  refine hK _ _ ?_; clear hK K
                  refine qthen_normal ?_
                  refine AWP.cond (acond_true ?_)
                  refine AWP.region rfl ?_; intro K hK
                  (try simp +decide -implicitDefEqProofs only [go_sem])
                  obtain ⟨x_30, hx_30, h⟩ := bindE h
                  refine AIdx.of (f := intu8C) (l := up) hx_30 ?_
                  (try simp +decide -implicitDefEqProofs only [go_sem])
                  refine hK _ _ ?_; clear hK K
                  refine qthen_normal ?_
                  refine AWP.region rfl ?_; intro K hK
                  (try simp +decide -implicitDefEqProofs only [go_sem])
                  obtain ⟨hk, h⟩ := chk_in h
                  (repeat (refine ⟨by first | omega | (simp only [List.length_take, List.length_drop, List.length_append]; omega), ?_⟩)); try simp +decide -implicitDefEqProofs only [go_sem]
                  refine hK _ _ ?_; clear hK K
                  refine qblock_normal ?_
                  refine qthen_normal ?_
                  refine AWP.region rfl ?_; intro K hK
                  (try simp +decide -implicitDefEqProofs only [go_sem])
                  refine hK _ _ ?_; clear hK K
                  refine qthen_normal ?_
                  obtain rfl := some_eq h
                  refine ⟨(m22, ((IntKind.i64.wrap (i20 + (1 : Int))), (high21 ++ [(IntKind.i64.wrap ((0 : Int) + (IntKind.i64.wrap x_30)))])), (ver22 + 1)), cont_next hJ22, by dsimp only; omega, ?_, ?_⟩
                  · (simp +decide -implicitDefEqProofs only [go_sem, mpE_nil, AVal.int.injEq, Int.natCast_zero, List.replicate_zero, List.length_take, List.length_drop, AVal.own.injEq, reduceCtorEq, Int.reduceAdd] <;> omega)
                  · (simp +decide -implicitDefEqProofs only [go_sem, mpE_nil, AVal.int.injEq, Int.natCast_zero, List.replicate_zero, List.length_take, List.length_drop, AVal.own.injEq, reduceCtorEq, Int.reduceAdd] <;> omega)
                · replace h := bif_f h hc
                  (try simp +decide -implicitDefEqProofs only [go_sem, hc, Bool.not_true])
                  refine hK _ _ ?_; clear hK K
                  refine qthen_normal ?_
                  refine AWP.cond (acond_false ?_)
                  refine AWP.skip ?_
                  refine qthen_normal ?_
                  refine AWP.region rfl ?_; intro K hK
                  (try simp +decide -implicitDefEqProofs only [go_sem])
                  obtain ⟨hk, h⟩ := chk_in h
                  (repeat (refine ⟨by first | omega | (simp only [List.length_take, List.length_drop, List.length_append]; omega), ?_⟩)); try simp +decide -implicitDefEqProofs only [go_sem]
                  refine hK _ _ ?_; clear hK K
                  refine qblock_normal ?_
                  refine qthen_normal ?_
                  refine AWP.region rfl ?_; intro K hK
                  (try simp +decide -implicitDefEqProofs only [go_sem])
                  refine hK _ _ ?_; clear hK K
                  refine qthen_normal ?_
                  obtain rfl := some_eq h
                  refine ⟨(m22, ((IntKind.i64.wrap (i20 + (1 : Int))), (high21 ++ [(0 : Int)])), (ver22 + 1)), cont_next hJ22, by dsimp only; omega, ?_, ?_⟩
                  · (simp +decide -implicitDefEqProofs only [go_sem, mpE_nil, AVal.int.injEq, Int.natCast_zero, List.replicate_zero, List.length_take, List.length_drop, AVal.own.injEq, reduceCtorEq, Int.reduceAdd] <;> omega)
                  · (simp +decide -implicitDefEqProofs only [go_sem, mpE_nil, AVal.int.injEq, Int.natCast_zero, List.replicate_zero, List.length_take, List.length_drop, AVal.own.injEq, reduceCtorEq, Int.reduceAdd] <;> omega)
              replace h := bif_f h hc
              refine AWP.exit ?_
              refine qthen_exit ?_
              refine qthen_exit ?_
              obtain ⟨q30, hq, h⟩ := bindE h
              obtain rfl := some_eq h
              obtain rfl := cont_ret hJ22
              replace h := hq.trans (on_ret hO22)
              refine qblock_same ?_
              refine qthen_normal ?_
              exact ⟨(high21, ver22), h, by (simp +decide -implicitDefEqProofs only [go_sem, mpE_nil, AVal.int.injEq, Int.natCast_zero, List.replicate_zero, List.length_take, List.length_drop, AVal.own.injEq, reduceCtorEq, Int.reduceAdd] <;> omega), by (simp +decide -implicitDefEqProofs only [go_sem, mpE_nil, AVal.int.injEq, Int.natCast_zero, List.replicate_zero, List.length_take, List.length_drop, AVal.own.injEq, reduceCtorEq, Int.reduceAdd] <;> omega)⟩
          · rintro ⟨high6, ver7⟩ h
            try dsimp only at h ⊢
            unfold law50_AvalancheGrows_j1 at h; try dsimp only at h
            refine AWP.seq ?_
            refine AWP.seq ?_
            refine AWP.region rfl ?_; intro K hK
            (try simp +decide -implicitDefEqProofs only [go_sem])
            refine hK _ _ ?_; clear hK K
            refine qthen_normal ?_
            refine AWP.block ?_
            obtain ⟨o8, hJ8, hO8⟩ := bindE h
            clear h
            refine AWP.loopW (ι := Nat × (Unit) × (Unit)) (fun zz => [(0, .sl 6 (l.map encApiSlide)), (3, .sl 1 (levels.map intC)), (11, .sl 6 (y4.1.map encApiSlide)), (13, .own 0 ver7 0 high6.length), (16, .int .i64 ((zz.1 : Nat) : Int))]) (fun zz => [.row ver7 1 (high6.map intC)]) (fun zz => zz.1 ≤ l.length ∧ forIx (law50_AvalancheGrows_b2 levels y4 high6) zz.1 ((l).drop zz.1) zz.2.1 = some o8) (fun zz => l.length - zz.1) (0, (), ()) ⟨Nat.zero_le _, hJ8⟩ (by (simp +decide -implicitDefEqProofs only [go_sem, mpE_nil, AVal.int.injEq, Int.natCast_zero, List.replicate_zero, List.length_take, List.length_drop, AVal.own.injEq, reduceCtorEq, Int.reduceAdd] <;> omega)) (by (simp +decide -implicitDefEqProofs only [go_sem, mpE_nil, AVal.int.injEq, Int.natCast_zero, List.replicate_zero, List.length_take, List.length_drop, AVal.own.injEq, reduceCtorEq, Int.reduceAdd] <;> omega)) (fun x => ⟨rfl, rfl, rfl⟩) ?_
            clear hJ8
            rintro ⟨k8, ⟨⟩, ⟨⟩⟩ ⟨hk8, hJ8⟩
            dsimp only at hk8 hJ8 ⊢
            refine AWP.seq ?_
            refine AWP.seq ?_
            refine AWP.region rfl ?_; intro K hK
            (try simp +decide -implicitDefEqProofs only [go_sem])
            intro hm
            refine hK _ _ ?_; clear hK K
            refine qthen_normal ?_
            refine AWP.cond (acond_split (fun hc => ?_) (fun hc => ?_))
            · have hlt8 : k8 < l.length := by have := of_decide_eq_true hc; omega
              obtain ⟨x_10, b8, hx8_, h, hJ8⟩ := for_cons hJ8 hlt8
              have hx8 := idxL_nat hx8_
              have hw8 : IntKind.i64.wrap (((k8 : Nat) : Int) + 1) = (((k8 : Nat) : Int) + (1 : Int)) := by rw [wrap_i64] <;> omega
              unfold law50_AvalancheGrows_b2 at h; try dsimp only at h
              refine AWP.skip ?_
              refine qthen_normal ?_
              refine AWP.seq ?_
              refine AWP.block ?_
              refine AWP.seq ?_
              refine AWP.draw Try.mixed (by kernel_rfl) ?_; intro K hK
              (try simp +decide -implicitDefEqProofs only [go_sem])
              obtain ⟨x_11, hx_11, h⟩ := bindE h
              refine AIdx.of (f := encApiSlide) (l := y4.1) hx_11 ?_
              (try simp +decide -implicitDefEqProofs only [go_sem])
              refine AIdx.of (f := encApiSlide) (l := l) hx8 ?_
              (try simp +decide -implicitDefEqProofs only [go_sem])
              refine aguardK_split (fun hc => ?_) (fun hc => ?_)
              · replace h := bif_f h hc
                (try simp +decide -implicitDefEqProofs only [go_sem, hc])
                refine AIdx.of (f := encApiSlide) (l := y4.1) hx_11 ?_
                (try simp +decide -implicitDefEqProofs only [go_sem])
                refine AIdx.of (f := encApiSlide) (l := l) hx8 ?_
                (try simp +decide -implicitDefEqProofs only [go_sem])
                refine aguardK_split (fun hc => ?_) (fun hc => ?_)
                · replace h := bif_f h hc
                  (try simp +decide -implicitDefEqProofs only [go_sem, hc])
                  refine AIdx.of (f := encApiSlide) (l := l) hx8 ?_
                  (try simp +decide -implicitDefEqProofs only [go_sem])
                  obtain ⟨y12, hy12, h⟩ := bindE h
                  refine DCall.pure Try.call22 (avalanche_Unstable_spec x_10 levels hy12) rfl ?_
                  (try simp +decide -implicitDefEqProofs only [go_sem])
                  refine aguardK_split (fun hc => ?_) (fun hc => ?_)
                  · replace h := bif_t h hc
                    (try simp +decide -implicitDefEqProofs only [go_sem, hc])
                    refine AIdx.of (f := encApiSlide) (l := y4.1) hx_11 ?_
                    (try simp +decide -implicitDefEqProofs only [go_sem])
                    obtain ⟨y13, hy13, h⟩ := bindE h
                    refine DCall.snap Try.call22 (avalanche_Unstable_spec x_11 high6 hy13) (by simp +decide -implicitDefEqProofs only [go_sem]) rfl ?_
                    (try simp +decide -implicitDefEqProofs only [go_sem])
                    refine hK _ _ _ (by kernel_rfl) ?_; clear hK K
                    refine qthen_normal ?_
                    refine AWP.cond (acond_split (fun hc => ?_) (fun hc => ?_))
                    · replace h := bif_t h hc
                      refine AWP.seq ?_
                      refine AWP.region rfl ?_; intro K hK
                      (try simp +decide -implicitDefEqProofs only [go_sem])
                      refine hK _ _ ?_; clear hK K
                      refine qthen_normal ?_
                      refine AWP.ret ?_
                      refine qblock_ret ?_
                      refine qthen_ret ?_
                      refine qthen_ret ?_
                      obtain rfl := some_eq h
                      obtain rfl := cont_ret hJ8
                      replace h := on_ret hO8
                      refine qblock_ret ?_
                      refine qthen_ret ?_
                      obtain rfl := some_eq h
                      simp +decide -implicitDefEqProofs only [go_sem, mpE_nil, AVal.int.injEq, Int.natCast_zero, List.replicate_zero, List.length_take, List.length_drop, AVal.own.injEq, reduceCtorEq, Int.reduceAdd, nle2, nle1, nle0, nleA, nleL, Try.results7]
                    replace h := bif_f h hc
                    refine AWP.skip ?_
                    refine qblock_normal ?_
                    refine qthen_normal ?_
                    refine AWP.region rfl ?_; intro K hK
                    (try simp +decide -implicitDefEqProofs only [go_sem])
                    refine hK _ _ ?_; clear hK K
                    refine qthen_normal ?_
                    obtain rfl := some_eq h
                    refine ⟨(k8 + 1, (), ()), ⟨by dsimp only; omega, cont_next hJ8⟩, by dsimp only; omega, ?_, ?_⟩
                    · (simp +decide -implicitDefEqProofs only [go_sem, mpE_nil, AVal.int.injEq, Int.natCast_zero, List.replicate_zero, List.length_take, List.length_drop, AVal.own.injEq, reduceCtorEq, Int.reduceAdd, hw8] <;> omega)
                    · (simp +decide -implicitDefEqProofs only [go_sem, mpE_nil, AVal.int.injEq, Int.natCast_zero, List.replicate_zero, List.length_take, List.length_drop, AVal.own.injEq, reduceCtorEq, Int.reduceAdd, hw8] <;> omega)
                  · replace h := bif_f h hc
                    (try simp +decide -implicitDefEqProofs only [go_sem, hc, Bool.not_true])
                    refine hK _ _ _ (by kernel_rfl) ?_; clear hK K
                    refine qthen_normal ?_
                    refine AWP.cond (acond_false ?_)
                    refine AWP.skip ?_
                    refine qblock_normal ?_
                    refine qthen_normal ?_
                    refine AWP.region rfl ?_; intro K hK
                    (try simp +decide -implicitDefEqProofs only [go_sem])
                    refine hK _ _ ?_; clear hK K
                    refine qthen_normal ?_
                    obtain rfl := some_eq h
                    refine ⟨(k8 + 1, (), ()), ⟨by dsimp only; omega, cont_next hJ8⟩, by dsimp only; omega, ?_, ?_⟩
                    · (simp +decide -implicitDefEqProofs only [go_sem, mpE_nil, AVal.int.injEq, Int.natCast_zero, List.replicate_zero, List.length_take, List.length_drop, AVal.own.injEq, reduceCtorEq, Int.reduceAdd, hw8] <;> omega)
                    · (simp +decide -implicitDefEqProofs only [go_sem, mpE_nil, AVal.int.injEq, Int.natCast_zero, List.replicate_zero, List.length_take, List.length_drop, AVal.own.injEq, reduceCtorEq, Int.reduceAdd, hw8] <;> omega)
                · replace h := bif_t h hc
                  (try simp +decide -implicitDefEqProofs only [go_sem, hc, Bool.not_false])
                  refine hK _ _ _ (by kernel_rfl) ?_; clear hK K
                  refine qthen_normal ?_
                  refine AWP.cond (acond_true ?_)
                  refine AWP.seq ?_
                  refine AWP.region rfl ?_; intro K hK
                  (try simp +decide -implicitDefEqProofs only [go_sem])
                  refine hK _ _ ?_; clear hK K
                  refine qthen_normal ?_
                  refine AWP.ret ?_
                  refine qblock_ret ?_
                  refine qthen_ret ?_
                  refine qthen_ret ?_
                  obtain rfl := some_eq h
                  obtain rfl := cont_ret hJ8
                  replace h := on_ret hO8
                  refine qblock_ret ?_
                  refine qthen_ret ?_
                  obtain rfl := some_eq h
                  simp +decide -implicitDefEqProofs only [go_sem, mpE_nil, AVal.int.injEq, Int.natCast_zero, List.replicate_zero, List.length_take, List.length_drop, AVal.own.injEq, reduceCtorEq, Int.reduceAdd, nle2, nle1, nle0, nleA, nleL, Try.results7]
              · replace h := bif_t h hc
                (try simp +decide -implicitDefEqProofs only [go_sem, hc, Bool.not_false])
                refine hK _ _ _ (by kernel_rfl) ?_; clear hK K
                refine qthen_normal ?_
                refine AWP.cond (acond_true ?_)
                refine AWP.seq ?_
                refine AWP.region rfl ?_; intro K hK
                (try simp +decide -implicitDefEqProofs only [go_sem])
                refine hK _ _ ?_; clear hK K
                refine qthen_normal ?_
                refine AWP.ret ?_
                refine qblock_ret ?_
                refine qthen_ret ?_
                refine qthen_ret ?_
                obtain rfl := some_eq h
                obtain rfl := cont_ret hJ8
                replace h := on_ret hO8
                refine qblock_ret ?_
                refine qthen_ret ?_
                obtain rfl := some_eq h
                simp +decide -implicitDefEqProofs only [go_sem, mpE_nil, AVal.int.injEq, Int.natCast_zero, List.replicate_zero, List.length_take, List.length_drop, AVal.own.injEq, reduceCtorEq, Int.reduceAdd, nle2, nle1, nle0, nleA, nleL, Try.results7]
            · obtain rfl := for_nil hJ8 (fun hl => by have := of_decide_eq_false hc; omega)
              have h := on_next hO8; try dsimp only at h
              have hkl : l.length = k8 := by have := of_decide_eq_false hc; omega
              subst hkl
              refine AWP.exit ?_
              refine qthen_exit ?_
              refine qthen_exit ?_
              refine qblock_same ?_
              refine qthen_normal ?_
              refine AWP.seq ?_
              refine AWP.region rfl ?_; intro K hK
              (try simp +decide -implicitDefEqProofs only [go_sem])
              obtain ⟨y14, hy14, h⟩ := bindE h
              refine ACall.pure Try.call25 (avalanche_Zones_spec l levels hy14) rfl fun _ hr => ?_
              subst hr
              (try simp +decide -implicitDefEqProofs only [go_sem])
              obtain ⟨y15, hy15, h⟩ := bindE h
              refine ACall.snapF Try.call25 (avalanche_Zones_fresh y4.1 high6 hy15) (by simp +decide -implicitDefEqProofs only [go_sem]) fun _ hr => ?_
              subst hr
              (try simp +decide -implicitDefEqProofs only [go_sem])
              obtain ⟨y16, hy16, h⟩ := bindE h
              refine ACall.pure Try.call29 (law50_part_spec y14 y15 hy16) rfl fun _ hr => ?_
              subst hr
              (try simp +decide -implicitDefEqProofs only [go_sem])
              refine aguardK_split (fun hc => ?_) (fun hc => ?_)
              · replace h := bif_t h hc
                (try simp +decide -implicitDefEqProofs only [go_sem, hc])
                obtain ⟨y17, hy17, h⟩ := bindE h
                refine ACall.pure Try.call27 (avalanche_Lifts_spec l levels hy17) rfl fun _ hr => ?_
                subst hr
                (try simp +decide -implicitDefEqProofs only [go_sem])
                obtain ⟨y18, hy18, h⟩ := bindE h
                refine ACall.snapF Try.call27 (avalanche_Lifts_fresh y4.1 high6 hy18) (by simp +decide -implicitDefEqProofs only [go_sem]) fun _ hr => ?_
                subst hr
                (try simp +decide -implicitDefEqProofs only [go_sem])
                obtain ⟨y19, hy19, h⟩ := bindE h
                refine ACall.pure Try.call29 (law50_part_spec y17 y18 hy19) rfl fun _ hr => ?_
                subst hr
                (try simp +decide -implicitDefEqProofs only [go_sem])
                refine hK _ _ ?_; clear hK K
                refine qthen_normal ?_
                refine AWP.ret ?_
                obtain rfl := some_eq h
                simp +decide -implicitDefEqProofs only [go_sem, mpE_nil, AVal.int.injEq, Int.natCast_zero, List.replicate_zero, List.length_take, List.length_drop, AVal.own.injEq, reduceCtorEq, Int.reduceAdd, nle2, nle1, nle0, nleA, nleL, Try.results7]
              · replace h := bif_f h hc
                (try simp +decide -implicitDefEqProofs only [go_sem, hc, Bool.not_true])
                refine hK _ _ ?_; clear hK K
                refine qthen_normal ?_
                refine AWP.ret ?_
                obtain rfl := some_eq h
                simp +decide -implicitDefEqProofs only [go_sem, mpE_nil, AVal.int.injEq, Int.natCast_zero, List.replicate_zero, List.length_take, List.length_drop, AVal.own.injEq, reduceCtorEq, Int.reduceAdd, nle2, nle1, nle0, nleA, nleL, Try.results7]
        · replace h := bif_t h hc
          (try simp +decide -implicitDefEqProofs only [go_sem, hc, Bool.not_false])
          refine hK _ _ ?_; clear hK K
          refine qthen_normal ?_
          refine AWP.cond (acond_true ?_)
          refine AWP.seq ?_
          refine AWP.region rfl ?_; intro K hK
          (try simp +decide -implicitDefEqProofs only [go_sem])
          refine hK _ _ ?_; clear hK K
          refine qthen_normal ?_
          refine AWP.ret ?_
          refine qthen_ret ?_
          obtain rfl := some_eq h
          simp +decide -implicitDefEqProofs only [go_sem, mpE_nil, AVal.int.injEq, Int.natCast_zero, List.replicate_zero, List.length_take, List.length_drop, AVal.own.injEq, reduceCtorEq, Int.reduceAdd, nle2, nle1, nle0, nleA, nleL, Try.results7]
      · replace h := bif_t h hc
        (try simp +decide -implicitDefEqProofs only [go_sem, hc, Bool.not_false])
        refine hK _ _ ?_; clear hK K
        refine qthen_normal ?_
        refine AWP.cond (acond_true ?_)
        refine AWP.seq ?_
        refine AWP.region rfl ?_; intro K hK
        (try simp +decide -implicitDefEqProofs only [go_sem])
        refine hK _ _ ?_; clear hK K
        refine qthen_normal ?_
        refine AWP.ret ?_
        refine qthen_ret ?_
        obtain rfl := some_eq h
        simp +decide -implicitDefEqProofs only [go_sem, mpE_nil, AVal.int.injEq, Int.natCast_zero, List.replicate_zero, List.length_take, List.length_drop, AVal.own.injEq, reduceCtorEq, Int.reduceAdd, nle2, nle1, nle0, nleA, nleL, Try.results7]
    · replace h := bif_t h hc
      (try simp +decide -implicitDefEqProofs only [go_sem, hc, Bool.not_false])
      refine hK _ _ ?_; clear hK K
      refine qthen_normal ?_
      refine AWP.cond (acond_true ?_)
      refine AWP.seq ?_
      refine AWP.region rfl ?_; intro K hK
      (try simp +decide -implicitDefEqProofs only [go_sem])
      refine hK _ _ ?_; clear hK K
      refine qthen_normal ?_
      refine AWP.ret ?_
      refine qthen_ret ?_
      obtain rfl := some_eq h
      simp +decide -implicitDefEqProofs only [go_sem, mpE_nil, AVal.int.injEq, Int.natCast_zero, List.replicate_zero, List.length_take, List.length_drop, AVal.own.injEq, reduceCtorEq, Int.reduceAdd, nle2, nle1, nle0, nleA, nleL, Try.results7]
  · replace h := bif_t h hc
    (try simp +decide -implicitDefEqProofs only [go_sem, hc, Bool.not_false])
    refine hK _ _ ?_; clear hK K
    refine qthen_normal ?_
    refine AWP.cond (acond_true ?_)
    refine AWP.seq ?_
    refine AWP.region rfl ?_; intro K hK
    (try simp +decide -implicitDefEqProofs only [go_sem])
    refine hK _ _ ?_; clear hK K
    refine qthen_normal ?_
    refine AWP.ret ?_
    refine qthen_ret ?_
    obtain rfl := some_eq h
    simp +decide -implicitDefEqProofs only [go_sem, mpE_nil, AVal.int.injEq, Int.natCast_zero, List.replicate_zero, List.length_take, List.length_drop, AVal.own.injEq, reduceCtorEq, Int.reduceAdd, nle2, nle1, nle0, nleA, nleL, Try.results7]

def law50_AvalancheCalm_b1 (id_ : Int) (t : Int) (levels : List Int) (y4 : (List ApiSlide) × Int) (k6 : Nat) (x_8 : ApiSlide) (sv : Int) : Option (Out (Int) (Bool)) :=
  (bif (decide (x_8.ID ≠ id_)) then (idxL y4.1 ((k6 : Nat) : Int)).bind fun x_9 => (ref50_SameOne x_9 x_8).bind fun y10 => (bif (!y10) then some (Out.ret false) else some (Out.next sv)) else (idxL y4.1 ((k6 : Nat) : Int)).bind fun x_11 => (bif (decide (x_11.Load ≠ (0 : Int))) then some (Out.ret false) else (bif (decide (x_11.Controlled ≠ t)) then some (Out.ret false) else (avalanche_Unstable x_11 levels).bind fun y12 => (avalanche_Level x_8 levels).bind fun y13 => (bif (y12 != (decide ((4 : Int) < y13))) then some (Out.ret false) else some (Out.next (IntKind.i64.wrap (sv + (1 : Int))))))))

def law50_AvalancheCalm (l : List ApiSlide) (id_ : Int) (t : Int) (levels : List Int) : Option (Bool) :=
  (law50_alive).bind fun y1 => (bif (!y1) then some false else (law50_small l).bind fun y2 => (bif (!y2) then some true else (avalanche_Right l).bind fun y3 => (bif (decide (y3 ≠ (0 : Int))) then some true else (bif (decide ((100 : Int) < ((levels.length : Nat) : Int))) then some true else (avalanche_Control l id_ t).bind fun y4 => (bif (decide (y4.2 ≠ (0 : Int))) then some (decide (((y4.1.length : Nat) : Int) = (0 : Int))) else (bif (decide (((y4.1.length : Nat) : Int) ≠ ((l.length : Nat) : Int))) then some false else (avalanche_Right y4.1).bind fun y5 => (bif (decide (y5 ≠ (0 : Int))) then some false else (forIx (law50_AvalancheCalm_b1 id_ t levels y4) 0 l (0 : Int)).bind fun o6 => o6.on fun s6 => some (decide (s6 = (1 : Int))))))))))

theorem law50_AvalancheCalm_spec (l : List ApiSlide) (id_ : Int) (t : Int) (levels : List Int) {r : Bool} (h : law50_AvalancheCalm l id_ t levels = some r) : PureFn Try.prog 8 [.sl 6 (l.map encApiSlide), .int .i64 id_, .int .i64 t, .sl 1 (levels.map intC)] (· = .bool r) := by
  refine PureFn.nle (PureFn.intro Try.func8 rfl rfl (by show _ ≤ 108; simp) ?_)
  unfold law50_AvalancheCalm at h
  (try simp +decide -implicitDefEqProofs only [go_sem])
  refine AWP.seq ?_
  refine AWP.region rfl ?_; intro K hK
  (try simp +decide -implicitDefEqProofs only [go_sem])
  refine hK _ _ ?_; clear hK K
  refine qthen_normal ?_
  refine AWP.seq ?_
  refine AWP.seq ?_
  refine AWP.region rfl ?_; intro K hK
  (try simp +decide -implicitDefEqProofs only [go_sem])
  obtain ⟨y1, hy1, h⟩ := bindE h
  refine ACall.pure Try.call10 (law50_alive_spec hy1) rfl fun _ hr => ?_
  subst hr
  (try simp +decide -implicitDefEqProofs only [go_sem])
  refine hK _ _ ?_; clear hK K
  refine qthen_normal ?_
  refine AWP.cond (acond_split (fun hc => ?_) (fun hc => ?_))
  · replace h := bif_t h hc
    refine AWP.seq ?_
    refine AWP.region rfl ?_; intro K hK
    (try simp +decide -implicitDefEqProofs only [go_sem])
    refine hK _ _ ?_; clear hK K
    refine qthen_normal ?_
    refine AWP.ret ?_
    refine qthen_ret ?_
    obtain rfl := some_eq h
    simp +decide -implicitDefEqProofs only [go_sem, mpE_nil, AVal.int.injEq, Int.natCast_zero, List.replicate_zero, List.length_take, List.length_drop, AVal.own.injEq, reduceCtorEq, Int.reduceAdd, nle2, nle1, nle0, nleA, nleL, Try.results8]
  replace h := bif_f h hc
  refine AWP.skip ?_
  refine qthen_normal ?_
  refine AWP.seq ?_
  refine AWP.seq ?_
  refine AWP.region rfl ?_; intro K hK
  (try simp +decide -implicitDefEqProofs only [go_sem])
  obtain ⟨y2, hy2, h⟩ := bindE h
  refine ACall.pure Try.call11 (law50_small_spec l hy2) rfl fun _ hr => ?_
  subst hr
  (try simp +decide -implicitDefEqProofs only [go_sem])
  refine aguardK_split (fun hc => ?_) (fun hc => ?_)
  · replace h := bif_f h hc
    (try simp +decide -implicitDefEqProofs only [go_sem, hc])
    obtain ⟨y3, hy3, h⟩ := bindE h
    refine ACall.pure Try.call12 (avalanche_Right_spec l hy3) rfl fun _ hr => ?_
    subst hr
    (try simp +decide -implicitDefEqProofs only [go_sem])
    refine aguardK_split (fun hc => ?_) (fun hc => ?_)
    · replace h := bif_f h hc
      (try simp +decide -implicitDefEqProofs only [go_sem, hc])
      intro hm
      refine hK _ _ ?_; clear hK K
      refine qthen_normal ?_
      refine AWP.cond (acond_split (fun hc => ?_) (fun hc => ?_))
      · replace h := bif_t h hc
        refine AWP.seq ?_
        refine AWP.region rfl ?_; intro K hK
        (try simp +decide -implicitDefEqProofs only [go_sem])
        refine hK _ _ ?_; clear hK K
        refine qthen_normal ?_
        refine AWP.ret ?_
        refine qthen_ret ?_
        obtain rfl := some_eq h
        simp +decide -implicitDefEqProofs only [go_sem, mpE_nil, AVal.int.injEq, Int.natCast_zero, List.replicate_zero, List.length_take, List.length_drop, AVal.own.injEq, reduceCtorEq, Int.reduceAdd, nle2, nle1, nle0, nleA, nleL, Try.results8]
      replace h := bif_f h hc
      refine AWP.skip ?_
      refine qthen_normal ?_
      refine AWP.seq ?_
      refine AWP.region rfl ?_; intro K hK
      (try simp +decide -implicitDefEqProofs only [go_sem])
      obtain ⟨y4, hy4, h⟩ := bindE h
      refine ACall.pure Try.call18 (avalanche_Control_spec l id_ t hy4) rfl fun _ hr => ?_
      subst hr
      (try simp +decide -implicitDefEqProofs only [go_sem])
      refine hK _ _ ?_; clear hK K
      refine qthen_normal ?_
      refine AWP.seq ?_
      refine AWP.seq ?_
      refine AWP.region rfl ?_; intro K hK
      (try simp +decide -implicitDefEqProofs only [go_sem])
      refine hK _ _ ?_; clear hK K
      refine qthen_normal ?_
      refine AWP.cond (acond_split (fun hc => ?_) (fun hc => ?_))
      · replace h := bif_t h hc
        refine AWP.seq ?_
        refine AWP.region rfl ?_; intro K hK
        (try simp +decide -implicitDefEqProofs only [go_sem])
        intro hm
        refine hK _ _ ?_; clear hK K
        refine qthen_normal ?_
        refine AWP.ret ?_
        refine qthen_ret ?_
        obtain rfl := some_eq h
        simp +decide -implicitDefEqProofs only [go_sem, mpE_nil, AVal.int.injEq, Int.natCast_zero, List.replicate_zero, List.length_take, List.length_drop, AVal.own.injEq, reduceCtorEq, Int.reduceAdd, nle2, nle1, nle0, nleA, nleL, Try.results8]
      replace h := bif_f h hc
      refine AWP.skip ?_
      refine qthen_normal ?_
      refine AWP.seq ?_
      refine AWP.seq ?_
      refine AWP.region rfl ?_; intro K hK
      (try simp +decide -implicitDefEqProofs only [go_sem])
      intro hm
      intro hm
      refine aguardK_split (fun hc => ?_) (fun hc => ?_)
      · replace h := bif_f h hc
        (try simp +decide -implicitDefEqProofs only [go_sem, hc])
        obtain ⟨y5, hy5, h⟩ := bindE h
        refine ACall.pure Try.call12 (avalanche_Right_spec y4.1 hy5) rfl fun _ hr => ?_
        subst hr
        (try simp +decide -implicitDefEqProofs only [go_sem])
        refine hK _ _ ?_; clear hK K
        refine qthen_normal ?_
        refine AWP.cond (acond_split (fun hc => ?_) (fun hc => ?_))
        · replace h := bif_t h hc
          refine AWP.seq ?_
          refine AWP.region rfl ?_; intro K hK
          (try simp +decide -implicitDefEqProofs only [go_sem])
          refine hK _ _ ?_; clear hK K
          refine qthen_normal ?_
          refine AWP.ret ?_
          refine qthen_ret ?_
          obtain rfl := some_eq h
          simp +decide -implicitDefEqProofs only [go_sem, mpE_nil, AVal.int.injEq, Int.natCast_zero, List.replicate_zero, List.length_take, List.length_drop, AVal.own.injEq, reduceCtorEq, Int.reduceAdd, nle2, nle1, nle0, nleA, nleL, Try.results8]
        replace h := bif_f h hc
        refine AWP.skip ?_
        refine qthen_normal ?_
        refine AWP.seq ?_
        refine AWP.region rfl ?_; intro K hK
        (try simp +decide -implicitDefEqProofs only [go_sem])
        refine hK _ _ ?_; clear hK K
        refine qthen_normal ?_
        refine AWP.seq ?_
        refine AWP.seq ?_
        refine AWP.region rfl ?_; intro K hK
        (try simp +decide -implicitDefEqProofs only [go_sem])
        refine hK _ _ ?_; clear hK K
        refine qthen_normal ?_
        refine AWP.block ?_
        obtain ⟨o6, hJ6, hO6⟩ := bindE h
        clear h
        refine AWP.loopW (ι := Nat × (Int) × (Unit)) (fun zz => [(0, .sl 6 (l.map encApiSlide)), (1, .int .i64 id_), (2, .int .i64 t), (3, .sl 1 (levels.map intC)), (9, .sl 6 (y4.1.map encApiSlide)), (11, .int .i64 zz.2.1), (12, .int .i64 ((zz.1 : Nat) : Int))]) (fun zz => []) (fun zz => zz.1 ≤ l.length ∧ forIx (law50_AvalancheCalm_b1 id_ t levels y4) zz.1 ((l).drop zz.1) zz.2.1 = some o6) (fun zz => l.length - zz.1) (0, (0 : Int), ()) ⟨Nat.zero_le _, hJ6⟩ (by (simp +decide -implicitDefEqProofs only [go_sem, mpE_nil, AVal.int.injEq, Int.natCast_zero, List.replicate_zero, List.length_take, List.length_drop, AVal.own.injEq, reduceCtorEq, Int.reduceAdd] <;> omega)) (by (simp +decide -implicitDefEqProofs only [go_sem, mpE_nil, AVal.int.injEq, Int.natCast_zero, List.replicate_zero, List.length_take, List.length_drop, AVal.own.injEq, reduceCtorEq, Int.reduceAdd] <;> omega)) (fun x => ⟨rfl, rfl, rfl⟩) ?_
        clear hJ6
        rintro ⟨k6, n_6, ⟨⟩⟩ ⟨hk6, hJ6⟩
        dsimp only at hk6 hJ6 ⊢
        refine AWP.seq ?_
        refine AWP.seq ?_
        refine AWP.region rfl ?_; intro K hK
        (try simp +decide -implicitDefEqProofs only [go_sem])
        intro hm
        refine hK _ _ ?_; clear hK K
        refine qthen_normal ?_
        refine AWP.cond (acond_split (fun hc => ?_) (fun hc => ?_))
        · have hlt6 : k6 < l.length := by have := of_decide_eq_true hc; omega
          obtain ⟨x_8, b6, hx6_, h, hJ6⟩ := for_cons hJ6 hlt6
          have hx6 := idxL_nat hx6_
          have hw6 : IntKind.i64.wrap (((k6 : Nat) : Int) + 1) = (((k6 : Nat) : Int) + (1 : Int)) := by rw [wrap_i64] <;> omega
          unfold law50_AvalancheCalm_b1 at h; try dsimp only at h
          refine AWP.skip ?_
          refine qthen_normal ?_
          refine AWP.seq ?_
          refine AWP.block ?_
          refine AWP.seq ?_
          refine AWP.seq ?_
          refine AWP.region rfl ?_; intro K hK
          (try simp +decide -implicitDefEqProofs only [go_sem])
          refine AIdx.of (f := encApiSlide) (l := l) hx6 ?_
          (try simp +decide -implicitDefEqProofs only [go_sem])
          refine hK _ _ ?_; clear hK K
          refine qthen_normal ?_
          refine AWP.cond (acond_split (fun hc => ?_) (fun hc => ?_))
          · replace h := bif_t h hc
            refine AWP.seq ?_
            refine AWP.seq ?_
            refine AWP.draw Try.mixed (by kernel_rfl) ?_; intro K hK
            (try simp +decide -implicitDefEqProofs only [go_sem])
            obtain ⟨x_9, hx_9, h⟩ := bindE h
            refine AIdx.of (f := encApiSlide) (l := y4.1) hx_9 ?_
            (try simp +decide -implicitDefEqProofs only [go_sem])
            refine AIdx.of (f := encApiSlide) (l := l) hx6 ?_
            (try simp +decide -implicitDefEqProofs only [go_sem])
            obtain ⟨y10, hy10, h⟩ := bindE h
            refine DCall.pure Try.call30 (ref50_SameOne_spec x_9 x_8 hy10) rfl ?_
            (try simp +decide -implicitDefEqProofs only [go_sem])
            refine hK _ _ _ (by kernel_rfl) ?_; clear hK K
            refine qthen_normal ?_
            refine AWP.cond (acond_split (fun hc => ?_) (fun hc => ?_))
            · replace h := bif_t h hc
              refine AWP.seq ?_
              refine AWP.region rfl ?_; intro K hK
              (try simp +decide -implicitDefEqProofs only [go_sem])
              refine hK _ _ ?_; clear hK K
              refine qthen_normal ?_
              refine AWP.ret ?_
              refine qthen_ret ?_
              refine qthen_ret ?_
              refine qblock_ret ?_
              refine qthen_ret ?_
              refine qthen_ret ?_
              obtain rfl := some_eq h
              obtain rfl := cont_ret hJ6
              replace h := on_ret hO6
              refine qblock_ret ?_
              refine qthen_ret ?_
              obtain rfl := some_eq h
              simp +decide -implicitDefEqProofs only [go_sem, mpE_nil, AVal.int.injEq, Int.natCast_zero, List.replicate_zero, List.length_take, List.length_drop, AVal.own.injEq, reduceCtorEq, Int.reduceAdd, nle2, nle1, nle0, nleA, nleL, Try.results8]
            replace h := bif_f h hc
            refine AWP.skip ?_
            refine qthen_normal ?_
            refine AWP.exit ?_
            refine qthen_exit ?_
            refine qblock_same ?_
            refine qthen_normal ?_
            refine AWP.region rfl ?_; intro K hK
            (try simp +decide -implicitDefEqProofs only [go_sem])
            refine hK _ _ ?_; clear hK K
            refine qthen_normal ?_
            obtain rfl := some_eq h
            refine ⟨(k6 + 1, n_6, ()), ⟨by dsimp only; omega, cont_next hJ6⟩, by dsimp only; omega, ?_, ?_⟩
            · (simp +decide -implicitDefEqProofs only [go_sem, mpE_nil, AVal.int.injEq, Int.natCast_zero, List.replicate_zero, List.length_take, List.length_drop, AVal.own.injEq, reduceCtorEq, Int.reduceAdd, hw6] <;> omega)
            · (simp +decide -implicitDefEqProofs only [go_sem, mpE_nil, AVal.int.injEq, Int.natCast_zero, List.replicate_zero, List.length_take, List.length_drop, AVal.own.injEq, reduceCtorEq, Int.reduceAdd, hw6] <;> omega)
          replace h := bif_f h hc
          refine AWP.skip ?_
          refine qthen_normal ?_
          refine AWP.seq ?_
          refine AWP.region rfl ?_; intro K hK
          (try simp +decide -implicitDefEqProofs only [go_sem])
          refine hK _ _ ?_; clear hK K
          refine qthen_normal ?_
          refine AWP.seq ?_
          refine AWP.draw Try.mixed (by kernel_rfl) ?_; intro K hK
          (try simp +decide -implicitDefEqProofs only [go_sem])
          obtain ⟨x_11, hx_11, h⟩ := bindE h
          refine AIdx.of (f := encApiSlide) (l := y4.1) hx_11 ?_
          (try simp +decide -implicitDefEqProofs only [go_sem])
          refine aguardK_split (fun hc => ?_) (fun hc => ?_)
          · replace h := bif_f h hc
            (try simp +decide -implicitDefEqProofs only [go_sem, hc])
            refine AIdx.of (f := encApiSlide) (l := y4.1) hx_11 ?_
            (try simp +decide -implicitDefEqProofs only [go_sem])
            refine aguardK_split (fun hc => ?_) (fun hc => ?_)
            · replace h := bif_f h hc
              (try simp +decide -implicitDefEqProofs only [go_sem, hc])
              refine AIdx.of (f := encApiSlide) (l := y4.1) hx_11 ?_
              (try simp +decide -implicitDefEqProofs only [go_sem])
              obtain ⟨y12, hy12, h⟩ := bindE h
              refine DCall.pure Try.call22 (avalanche_Unstable_spec x_11 levels hy12) rfl ?_
              (try simp +decide -implicitDefEqProofs only [go_sem])
              refine AIdx.of (f := encApiSlide) (l := l) hx6 ?_
              (try simp +decide -implicitDefEqProofs only [go_sem])
              obtain ⟨y13, hy13, h⟩ := bindE h
              refine DCall.pure Try.call20 (avalanche_Level_spec x_8 levels hy13) rfl ?_
              (try simp +decide -implicitDefEqProofs only [go_sem])
              refine hK _ _ _ (by kernel_rfl) ?_; clear hK K
              refine qthen_normal ?_
              refine AWP.cond (acond_split (fun hc => ?_) (fun hc => ?_))
              · replace h := bif_t h hc
                refine AWP.seq ?_
                refine AWP.region rfl ?_; intro K hK
                (try simp +decide -implicitDefEqProofs only [go_sem])
                refine hK _ _ ?_; clear hK K
                refine qthen_normal ?_
                refine AWP.ret ?_
                refine qblock_ret ?_
                refine qthen_ret ?_
                refine qthen_ret ?_
                obtain rfl := some_eq h
                obtain rfl := cont_ret hJ6
                replace h := on_ret hO6
                refine qblock_ret ?_
                refine qthen_ret ?_
                obtain rfl := some_eq h
                simp +decide -implicitDefEqProofs only [go_sem, mpE_nil, AVal.int.injEq, Int.natCast_zero, List.replicate_zero, List.length_take, List.length_drop, AVal.own.injEq, reduceCtorEq, Int.reduceAdd, nle2, nle1, nle0, nleA, nleL, Try.results8]
              replace h := bif_f h hc
              refine AWP.skip ?_
              refine qblock_normal ?_
              refine qthen_normal ?_
              refine AWP.region rfl ?_; intro K hK
              (try simp +decide -implicitDefEqProofs only [go_sem])
              refine hK _ _ ?_; clear hK K
              refine qthen_normal ?_
              obtain rfl := some_eq h
              refine ⟨(k6 + 1, (IntKind.i64.wrap (n_6 + (1 : Int))), ()), ⟨by dsimp only; omega, cont_next hJ6⟩, by dsimp only; omega, ?_, ?_⟩
              · (simp +decide -implicitDefEqProofs only [go_sem, mpE_nil, AVal.int.injEq, Int.natCast_zero, List.replicate_zero, List.length_take, List.length_drop, AVal.own.injEq, reduceCtorEq, Int.reduceAdd, hw6] <;> omega)
              · (simp +decide -implicitDefEqProofs only [go_sem, mpE_nil, AVal.int.injEq, Int.natCast_zero, List.replicate_zero, List.length_take, List.length_drop, AVal.own.injEq, reduceCtorEq, Int.reduceAdd, hw6] <;> omega)
            · replace h := bif_t h hc
              (try simp +decide -implicitDefEqProofs only [go_sem, hc, Bool.not_false])
              refine hK _ _ _ (by kernel_rfl) ?_; clear hK K
              refine qthen_normal ?_
              refine AWP.cond (acond_true ?_)
              refine AWP.seq ?_
              refine AWP.region rfl ?_; intro K hK
              (try simp +decide -implicitDefEqProofs only [go_sem])
              refine hK _ _ ?_; clear hK K
              refine qthen_normal ?_
              refine AWP.ret ?_
              refine qblock_ret ?_
              refine qthen_ret ?_
              refine qthen_ret ?_
              obtain rfl := some_eq h
              obtain rfl := cont_ret hJ6
              replace h := on_ret hO6
              refine qblock_ret ?_
              refine qthen_ret ?_
              obtain rfl := some_eq h
              simp +decide -implicitDefEqProofs only [go_sem, mpE_nil, AVal.int.injEq, Int.natCast_zero, List.replicate_zero, List.length_take, List.length_drop, AVal.own.injEq, reduceCtorEq, Int.reduceAdd, nle2, nle1, nle0, nleA, nleL, Try.results8]
          · replace h := bif_t h hc
            (try simp +decide -implicitDefEqProofs only [go_sem, hc, Bool.not_false])
            refine hK _ _ _ (by kernel_rfl) ?_; clear hK K
            refine qthen_normal ?_
            refine AWP.cond (acond_true ?_)
            refine AWP.seq ?_
            refine AWP.region rfl ?_; intro K hK
            (try simp +decide -implicitDefEqProofs only [go_sem])
            refine hK _ _ ?_; clear hK K
            refine qthen_normal ?_
            refine AWP.ret ?_
            refine qblock_ret ?_
            refine qthen_ret ?_
            refine qthen_ret ?_
            obtain rfl := some_eq h
            obtain rfl := cont_ret hJ6
            replace h := on_ret hO6
            refine qblock_ret ?_
            refine qthen_ret ?_
            obtain rfl := some_eq h
            simp +decide -implicitDefEqProofs only [go_sem, mpE_nil, AVal.int.injEq, Int.natCast_zero, List.replicate_zero, List.length_take, List.length_drop, AVal.own.injEq, reduceCtorEq, Int.reduceAdd, nle2, nle1, nle0, nleA, nleL, Try.results8]
        · obtain rfl := for_nil hJ6 (fun hl => by have := of_decide_eq_false hc; omega)
          have h := on_next hO6; try dsimp only at h
          have hkl : l.length = k6 := by have := of_decide_eq_false hc; omega
          subst hkl
          refine AWP.exit ?_
          refine qthen_exit ?_
          refine qthen_exit ?_
          refine qblock_same ?_
          refine qthen_normal ?_
          refine AWP.seq ?_
          refine AWP.region rfl ?_; intro K hK
          (try simp +decide -implicitDefEqProofs only [go_sem])
          refine hK _ _ ?_; clear hK K
          refine qthen_normal ?_
          refine AWP.ret ?_
          obtain rfl := some_eq h
          simp +decide -implicitDefEqProofs only [go_sem, mpE_nil, AVal.int.injEq, Int.natCast_zero, List.replicate_zero, List.length_take, List.length_drop, AVal.own.injEq, reduceCtorEq, Int.reduceAdd, nle2, nle1, nle0, nleA, nleL, Try.results8]
      · replace h := bif_t h hc
        (try simp +decide -implicitDefEqProofs only [go_sem, hc, Bool.not_false])
        refine hK _ _ ?_; clear hK K
        refine qthen_normal ?_
        refine AWP.cond (acond_true ?_)
        refine AWP.seq ?_
        refine AWP.region rfl ?_; intro K hK
        (try simp +decide -implicitDefEqProofs only [go_sem])
        refine hK _ _ ?_; clear hK K
        refine qthen_normal ?_
        refine AWP.ret ?_
        refine qthen_ret ?_
        obtain rfl := some_eq h
        simp +decide -implicitDefEqProofs only [go_sem, mpE_nil, AVal.int.injEq, Int.natCast_zero, List.replicate_zero, List.length_take, List.length_drop, AVal.own.injEq, reduceCtorEq, Int.reduceAdd, nle2, nle1, nle0, nleA, nleL, Try.results8]
    · replace h := bif_t h hc
      (try simp +decide -implicitDefEqProofs only [go_sem, hc, Bool.not_false])
      refine hK _ _ ?_; clear hK K
      refine qthen_normal ?_
      refine AWP.cond (acond_true ?_)
      refine AWP.seq ?_
      refine AWP.region rfl ?_; intro K hK
      (try simp +decide -implicitDefEqProofs only [go_sem])
      refine hK _ _ ?_; clear hK K
      refine qthen_normal ?_
      refine AWP.ret ?_
      refine qthen_ret ?_
      obtain rfl := some_eq h
      simp +decide -implicitDefEqProofs only [go_sem, mpE_nil, AVal.int.injEq, Int.natCast_zero, List.replicate_zero, List.length_take, List.length_drop, AVal.own.injEq, reduceCtorEq, Int.reduceAdd, nle2, nle1, nle0, nleA, nleL, Try.results8]
  · replace h := bif_t h hc
    (try simp +decide -implicitDefEqProofs only [go_sem, hc, Bool.not_false])
    refine hK _ _ ?_; clear hK K
    refine qthen_normal ?_
    refine AWP.cond (acond_true ?_)
    refine AWP.seq ?_
    refine AWP.region rfl ?_; intro K hK
    (try simp +decide -implicitDefEqProofs only [go_sem])
    refine hK _ _ ?_; clear hK K
    refine qthen_normal ?_
    refine AWP.ret ?_
    refine qthen_ret ?_
    obtain rfl := some_eq h
    simp +decide -implicitDefEqProofs only [go_sem, mpE_nil, AVal.int.injEq, Int.natCast_zero, List.replicate_zero, List.length_take, List.length_drop, AVal.own.injEq, reduceCtorEq, Int.reduceAdd, nle2, nle1, nle0, nleA, nleL, Try.results8]

end
end Go.Proofs.Ytciaimpdnjpajaa
