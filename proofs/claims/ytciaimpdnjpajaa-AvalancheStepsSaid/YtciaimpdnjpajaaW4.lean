/-
  What functions of the program compute, as plain Lean functions, and the walks that prove it; printed by a small program of our own (wip/walk.py).
-/
import Derived.Test.YtciaimpdnjpajaaW3
namespace Go.Proofs.Ytciaimpdnjpajaa
open Go Go.Ab
attribute [local irreducible] AWP ACall DCall PureFn Go.Ab.Sub alist dlist AIdx AElem ALook ANext
set_option maxRecDepth 100000
set_option maxHeartbeats 4000000
set_option linter.unusedSimpArgs false
set_option linter.unusedVariables false
noncomputable section
def law50_AvalancheLoads (l : List ApiSlide) (fresh : Int) (gust : Int) : Option (Bool) :=
  (law50_alive).bind fun y1 => (bif (!y1) then some false else (law50_accepted l).bind fun y2 => (bif (!y2) then some true else (avalanche_Grow l fresh gust).bind fun y3 => (ref50_Grow l fresh gust).bind fun y4 => (ref50_SameSlides y3.1 y4.1).bind fun y5 => (bif y5 then some (decide (y3.2 = y4.2)) else some false)))

theorem law50_AvalancheLoads_spec (l : List ApiSlide) (fresh : Int) (gust : Int) {r : Bool} (h : law50_AvalancheLoads l fresh gust = some r) : PureFn Try.prog 4 [.sl 6 (l.map encApiSlide), .int .i64 fresh, .int .i64 gust] (· = .bool r) := by
  refine PureFn.nle (PureFn.intro Try.func4 rfl rfl (by show _ ≤ 38; simp) ?_)
  unfold law50_AvalancheLoads at h
  (try simp +decide -implicitDefEqProofs only [go_sem])
  refine AWP.seq ?_
  refine AWP.region rfl ?_; intro K hK
  (try simp +decide -implicitDefEqProofs only [go_sem])
  refine hK _ _ ?_; clear hK K
  refine qthen_normal ?_
  refine AWP.seq ?_
  refine AWP.seq ?_
  refine AWP.region rfl ?_; intro K hK
  (try simp +decide -implicitDefEqProofs only [go_sem])
  obtain ⟨y1, hy1, h⟩ := bindE h
  refine ACall.pure Try.call10 (law50_alive_spec hy1) rfl fun _ hr => ?_
  subst hr
  (try simp +decide -implicitDefEqProofs only [go_sem])
  refine hK _ _ ?_; clear hK K
  refine qthen_normal ?_
  refine AWP.cond (acond_split (fun hc => ?_) (fun hc => ?_))
  · replace h := bif_t h hc
    refine AWP.seq ?_
    refine AWP.region rfl ?_; intro K hK
    (try simp +decide -implicitDefEqProofs only [go_sem])
    refine hK _ _ ?_; clear hK K
    refine qthen_normal ?_
    refine AWP.ret ?_
    refine qthen_ret ?_
    obtain rfl := some_eq h
    simp +decide -implicitDefEqProofs only [go_sem, mpE_nil, AVal.int.injEq, Int.natCast_zero, List.replicate_zero, List.length_take, List.length_drop, AVal.own.injEq, reduceCtorEq, Int.reduceAdd, nle2, nle1, nle0, nleA, nleL, Try.results4]
  replace h := bif_f h hc
  refine AWP.skip ?_
  refine qthen_normal ?_
  refine AWP.seq ?_
  refine AWP.seq ?_
  refine AWP.region rfl ?_; intro K hK
  (try simp +decide -implicitDefEqProofs only [go_sem])
  obtain ⟨y2, hy2, h⟩ := bindE h
  refine ACall.pure Try.call14 (law50_accepted_spec l hy2) rfl fun _ hr => ?_
  subst hr
  (try simp +decide -implicitDefEqProofs only [go_sem])
  refine hK _ _ ?_; clear hK K
  refine qthen_normal ?_
  refine AWP.cond (acond_split (fun hc => ?_) (fun hc => ?_))
  · replace h := bif_t h hc
    refine AWP.seq ?_
    refine AWP.region rfl ?_; intro K hK
    (try simp +decide -implicitDefEqProofs only [go_sem])
    refine hK _ _ ?_; clear hK K
    refine qthen_normal ?_
    refine AWP.ret ?_
    refine qthen_ret ?_
    obtain rfl := some_eq h
    simp +decide -implicitDefEqProofs only [go_sem, mpE_nil, AVal.int.injEq, Int.natCast_zero, List.replicate_zero, List.length_take, List.length_drop, AVal.own.injEq, reduceCtorEq, Int.reduceAdd, nle2, nle1, nle0, nleA, nleL, Try.results4]
  replace h := bif_f h hc
  refine AWP.skip ?_
  refine qthen_normal ?_
  refine AWP.seq ?_
  refine AWP.region rfl ?_; intro K hK
  (try simp +decide -implicitDefEqProofs only [go_sem])
  obtain ⟨y3, hy3, h⟩ := bindE h
  refine ACall.pure Try.call15 (avalanche_Grow_spec l fresh gust hy3) rfl fun _ hr => ?_
  subst hr
  (try simp +decide -implicitDefEqProofs only [go_sem])
  refine hK _ _ ?_; clear hK K
  refine qthen_normal ?_
  refine AWP.seq ?_
  refine AWP.region rfl ?_; intro K hK
  (try simp +decide -implicitDefEqProofs only [go_sem])
  obtain ⟨y4, hy4, h⟩ := bindE h
  refine ACall.pure Try.call16 (ref50_Grow_spec l fresh gust hy4) rfl fun _ hr => ?_
  subst hr
  (try simp +decide -implicitDefEqProofs only [go_sem])
  refine hK _ _ ?_; clear hK K
  refine qthen_normal ?_
  refine AWP.seq ?_
  refine AWP.region rfl ?_; intro K hK
  (try simp +decide -implicitDefEqProofs only [go_sem])
  obtain ⟨y5, hy5, h⟩ := bindE h
  refine ACall.pure Try.call17 (ref50_SameSlides_spec y3.1 y4.1 hy5) rfl fun _ hr => ?_
  subst hr
  (try simp +decide -implicitDefEqProofs only [go_sem])
  refine aguardK_split (fun hc => ?_) (fun hc => ?_)
  · replace h := bif_t h hc
    (try simp +decide -implicitDefEqProofs only [go_sem, hc])
    refine hK _ _ ?_; clear hK K
    refine qthen_normal ?_
    refine AWP.ret ?_
    obtain rfl := some_eq h
    simp +decide -implicitDefEqProofs only [go_sem, mpE_nil, AVal.int.injEq, Int.natCast_zero, List.replicate_zero, List.length_take, List.length_drop, AVal.own.injEq, reduceCtorEq, Int.reduceAdd, nle2, nle1, nle0, nleA, nleL, Try.results4]
  · replace h := bif_f h hc
    (try simp +decide -implicitDefEqProofs only [go_sem, hc, Bool.not_true])
    refine hK _ _ ?_; clear hK K
    refine qthen_normal ?_
    refine AWP.ret ?_
    obtain rfl := some_eq h
    simp +decide -implicitDefEqProofs only [go_sem, mpE_nil, AVal.int.injEq, Int.natCast_zero, List.replicate_zero, List.length_take, List.length_drop, AVal.own.injEq, reduceCtorEq, Int.reduceAdd, nle2, nle1, nle0, nleA, nleL, Try.results4]

def ref50_Control_b1 (id_ : Int) (t : Int) (y1 : (List ApiSlide)) (k1 : Nat) (x_3 : ApiSlide) (sv : Unit) : Option (Out (Unit) ((List ApiSlide) × Int)) :=
  (bif (decide (x_3.ID ≠ id_)) then some (Out.next ()) else (bif (decide (t < x_3.Controlled)) then some (Out.ret ([], (11 : Int))) else (bif (decide (t < (0 : Int))) then some (Out.ret ([], (11 : Int))) else (bif (decide ((20000000 : Int) < t)) then some (Out.ret ([], (11 : Int))) else some (Out.ret (((y1.set k1 (ApiSlide.mk x_3.ID x_3.Zones x_3.Lifts x_3.Limit (0 : Int) x_3.Controlled)).set k1 (ApiSlide.mk x_3.ID x_3.Zones x_3.Lifts x_3.Limit (0 : Int) t)), (0 : Int)))))))

def ref50_Control (l : List ApiSlide) (id_ : Int) (t : Int) : Option ((List ApiSlide) × Int) :=
  (ref50_Own l).bind fun y1 => (forIx (ref50_Control_b1 id_ t y1) 0 y1 ()).bind fun o1 => o1.on fun s1 => some ([], (8 : Int))

theorem ref50_Control_spec (l : List ApiSlide) (id_ : Int) (t : Int) {r : (List ApiSlide) × Int} (h : ref50_Control l id_ t = some r) : PureFn Try.prog 19 [.sl 6 (l.map encApiSlide), .int .i64 id_, .int .i64 t] (· = .tuple [.sl 6 (r.1.map encApiSlide), .int .i64 r.2]) := by
  refine PureFn.nle (PureFn.intro Try.func19 rfl rfl (by show _ ≤ 50; simp) ?_)
  unfold ref50_Control at h
  (try simp +decide -implicitDefEqProofs only [go_sem])
  refine AWP.seq ?_
  refine AWP.region rfl ?_; intro K hK
  (try simp +decide -implicitDefEqProofs only [go_sem])
  refine hK _ _ ?_; clear hK K
  refine qthen_normal ?_
  refine AWP.seq ?_
  refine AWP.region rfl ?_; intro K hK
  (try simp +decide -implicitDefEqProofs only [go_sem])
  obtain ⟨y1, hy1, h⟩ := bindE h
  refine ACall.row Try.call31 (ref50_Own_own l hy1) rfl 0 rfl ?_
  (try simp +decide -implicitDefEqProofs only [go_sem, List.length_map])
  refine hK _ _ ?_; clear hK K
  refine qthen_normal ?_
  refine AWP.seq ?_
  refine AWP.seq ?_
  refine AWP.region rfl ?_; intro K hK
  (try simp +decide -implicitDefEqProofs only [go_sem])
  refine hK _ _ ?_; clear hK K
  refine qthen_normal ?_
  refine AWP.block ?_
  obtain ⟨o1, hJ1, hO1⟩ := bindE h
  clear h
  refine AWP.loopW (ι := Nat × (Unit) × (Unit)) (fun zz => [(1, .int .i64 id_), (2, .int .i64 t), (8, .own 0 0 0 y1.length), (9, .int .i64 ((zz.1 : Nat) : Int))]) (fun zz => [.row 0 6 (y1.map encApiSlide)]) (fun zz => zz.1 ≤ y1.length ∧ forIx (ref50_Control_b1 id_ t y1) zz.1 ((y1).drop zz.1) zz.2.1 = some o1) (fun zz => y1.length - zz.1) (0, (), ()) ⟨Nat.zero_le _, hJ1⟩ (by (simp +decide -implicitDefEqProofs only [go_sem, mpE_nil, AVal.int.injEq, Int.natCast_zero, List.replicate_zero, List.length_take, List.length_drop, AVal.own.injEq, reduceCtorEq, Int.reduceAdd] <;> omega)) (by (simp +decide -implicitDefEqProofs only [go_sem, mpE_nil, AVal.int.injEq, Int.natCast_zero, List.replicate_zero, List.length_take, List.length_drop, AVal.own.injEq, reduceCtorEq, Int.reduceAdd] <;> omega)) (fun x => ⟨rfl, rfl, rfl⟩) ?_
  clear hJ1
  rintro ⟨k1, ⟨⟩, ⟨⟩⟩ ⟨hk1, hJ1⟩
  dsimp only at hk1 hJ1 ⊢
  refine AWP.seq ?_
  refine AWP.seq ?_
  refine AWP.region rfl ?_; intro K hK
  (try simp +decide -implicitDefEqProofs only [go_sem])
  intro hm
  refine hK _ _ ?_; clear hK K
  refine qthen_normal ?_
  refine AWP.cond (acond_split (fun hc => ?_) (fun hc => ?_))
  · have hlt1 : k1 < y1.length := by have := of_decide_eq_true hc; omega
    obtain ⟨x_3, b1, hx1_, h, hJ1⟩ := for_cons hJ1 hlt1
    have hx1 := idxL_nat hx1_
    have hw1 : IntKind.i64.wrap (((k1 : Nat) : Int) + 1) = (((k1 : Nat) : Int) + (1 : Int)) := by rw [wrap_i64] <;> omega
    unfold ref50_Control_b1 at h; try dsimp only at h
    refine AWP.skip ?_
    refine qthen_normal ?_
    refine AWP.seq ?_
    refine AWP.block ?_
    refine AWP.seq ?_
    refine AWP.seq ?_
    refine AWP.region rfl ?_; intro K hK
    (try simp +decide -implicitDefEqProofs only [go_sem])
    refine own_in hx1 (by first | rfl | exact (sortI_len _).symm | (simp only [List.length_append, List.length_cons, List.length_nil, List.length_set, List.length_replicate] <;> omega)) ?_
    (try simp +decide -implicitDefEqProofs only [go_sem])
    refine AElem.ofNat (f := encApiSlide) (l := y1) (n := k1) hx1 ?_
    (try simp +decide -implicitDefEqProofs only [go_sem])
    refine hK _ _ ?_; clear hK K
    refine qthen_normal ?_
    refine AWP.cond (acond_split (fun hc => ?_) (fun hc => ?_))
    · replace h := bif_t h hc
      refine AWP.exit ?_
      refine qthen_exit ?_
      refine qblock_same ?_
      refine qthen_normal ?_
      refine AWP.region rfl ?_; intro K hK
      (try simp +decide -implicitDefEqProofs only [go_sem])
      refine hK _ _ ?_; clear hK K
      refine qthen_normal ?_
      obtain rfl := some_eq h
      refine ⟨(k1 + 1, (), ()), ⟨by dsimp only; omega, cont_next hJ1⟩, by dsimp only; omega, ?_, ?_⟩
      · (simp +decide -implicitDefEqProofs only [go_sem, mpE_nil, AVal.int.injEq, Int.natCast_zero, List.replicate_zero, List.length_take, List.length_drop, AVal.own.injEq, reduceCtorEq, Int.reduceAdd, hw1] <;> omega)
      · (simp +decide -implicitDefEqProofs only [go_sem, mpE_nil, AVal.int.injEq, Int.natCast_zero, List.replicate_zero, List.length_take, List.length_drop, AVal.own.injEq, reduceCtorEq, Int.reduceAdd, hw1] <;> omega)
    replace h := bif_f h hc
    refine AWP.skip ?_
    refine qthen_normal ?_
    refine AWP.seq ?_
    refine AWP.seq ?_
    refine AWP.region rfl ?_; intro K hK
    (try simp +decide -implicitDefEqProofs only [go_sem])
    refine own_in hx1 (by first | rfl | exact (sortI_len _).symm | (simp only [List.length_append, List.length_cons, List.length_nil, List.length_set, List.length_replicate] <;> omega)) ?_
    (try simp +decide -implicitDefEqProofs only [go_sem])
    refine AElem.ofNat (f := encApiSlide) (l := y1) (n := k1) hx1 ?_
    (try simp +decide -implicitDefEqProofs only [go_sem])
    refine aguardK_split (fun hc => ?_) (fun hc => ?_)
    · replace h := bif_f h hc
      (try simp +decide -implicitDefEqProofs only [go_sem, hc])
      refine aguardK_split (fun hc => ?_) (fun hc => ?_)
      · replace h := bif_f h hc
        (try simp +decide -implicitDefEqProofs only [go_sem, hc])
        refine hK _ _ ?_; clear hK K
        refine qthen_normal ?_
        refine AWP.cond (acond_split (fun hc => ?_) (fun hc => ?_))
        · replace h := bif_t h hc
          refine AWP.seq ?_
          refine AWP.region rfl ?_; intro K hK
          (try simp +decide -implicitDefEqProofs only [go_sem])
          refine hK _ _ ?_; clear hK K
          refine qthen_normal ?_
          refine AWP.ret ?_
          refine qthen_ret ?_
          refine qblock_ret ?_
          refine qthen_ret ?_
          refine qthen_ret ?_
          obtain rfl := some_eq h
          obtain rfl := cont_ret hJ1
          replace h := on_ret hO1
          refine qblock_ret ?_
          refine qthen_ret ?_
          obtain rfl := some_eq h
          simp +decide -implicitDefEqProofs only [go_sem, mpE_nil, AVal.int.injEq, Int.natCast_zero, List.replicate_zero, List.length_take, List.length_drop, AVal.own.injEq, reduceCtorEq, Int.reduceAdd, nle2, nle1, nle0, nleA, nleL, Try.results19]
        replace h := bif_f h hc
        refine AWP.skip ?_
        refine qthen_normal ?_
        refine AWP.seq ?_
        refine AWP.region rfl ?_; intro K hK
        (try simp +decide -implicitDefEqProofs only [go_sem])
        refine own_in hx1 (by first | rfl | exact (sortI_len _).symm | (simp only [List.length_append, List.length_cons, List.length_nil, List.length_set, List.length_replicate] <;> omega)) ?_
        (try simp +decide -implicitDefEqProofs only [go_sem])
        refine AElem.ofNat (f := encApiSlide) (l := y1) (n := k1) hx1 ?_
        have hs4 := idxL_set (y := (ApiSlide.mk x_3.ID x_3.Zones x_3.Lifts x_3.Limit (0 : Int) x_3.Controlled)) hx1
        (try simp +decide -implicitDefEqProofs only [go_sem])
        refine hK _ _ ?_; clear hK K
        refine qthen_normal ?_
        refine AWP.seq ?_
        refine AWP.region rfl ?_; intro K hK
        (try simp +decide -implicitDefEqProofs only [go_sem])
        refine own_in hs4 (by first | rfl | exact (sortI_len _).symm | (simp only [List.length_append, List.length_cons, List.length_nil, List.length_set, List.length_replicate] <;> omega)) ?_
        (try simp +decide -implicitDefEqProofs only [go_sem])
        refine AElem.ofNat (f := encApiSlide) (l := (y1.set k1 (ApiSlide.mk x_3.ID x_3.Zones x_3.Lifts x_3.Limit (0 : Int) x_3.Controlled))) (n := k1) hs4 ?_
        have hs5 := idxL_set (y := (ApiSlide.mk x_3.ID x_3.Zones x_3.Lifts x_3.Limit (0 : Int) t)) hs4
        (try simp +decide -implicitDefEqProofs only [go_sem])
        refine hK _ _ ?_; clear hK K
        refine qthen_normal ?_
        refine AWP.seq ?_
        refine AWP.region rfl ?_; intro K hK
        (try simp +decide -implicitDefEqProofs only [go_sem])
        refine hK _ _ ?_; clear hK K
        refine qthen_normal ?_
        refine AWP.ret ?_
        refine qblock_ret ?_
        refine qthen_ret ?_
        refine qthen_ret ?_
        obtain rfl := some_eq h
        obtain rfl := cont_ret hJ1
        replace h := on_ret hO1
        refine qblock_ret ?_
        refine qthen_ret ?_
        obtain rfl := some_eq h
        simp +decide -implicitDefEqProofs only [go_sem, mpE_nil, AVal.int.injEq, Int.natCast_zero, List.replicate_zero, List.length_take, List.length_drop, AVal.own.injEq, reduceCtorEq, Int.reduceAdd, nle2, nle1, nle0, nleA, nleL, Try.results19]
      · replace h := bif_t h hc
        (try simp +decide -implicitDefEqProofs only [go_sem, hc, Bool.not_false])
        refine hK _ _ ?_; clear hK K
        refine qthen_normal ?_
        refine AWP.cond (acond_true ?_)
        refine AWP.seq ?_
        refine AWP.region rfl ?_; intro K hK
        (try simp +decide -implicitDefEqProofs only [go_sem])
        refine hK _ _ ?_; clear hK K
        refine qthen_normal ?_
        refine AWP.ret ?_
        refine qthen_ret ?_
        refine qblock_ret ?_
        refine qthen_ret ?_
        refine qthen_ret ?_
        obtain rfl := some_eq h
        obtain rfl := cont_ret hJ1
        replace h := on_ret hO1
        refine qblock_ret ?_
        refine qthen_ret ?_
        obtain rfl := some_eq h
        simp +decide -implicitDefEqProofs only [go_sem, mpE_nil, AVal.int.injEq, Int.natCast_zero, List.replicate_zero, List.length_take, List.length_drop, AVal.own.injEq, reduceCtorEq, Int.reduceAdd, nle2, nle1, nle0, nleA, nleL, Try.results19]
    · replace h := bif_t h hc
      (try simp +decide -implicitDefEqProofs only [go_sem, hc, Bool.not_false])
      refine hK _ _ ?_; clear hK K
      refine qthen_normal ?_
      refine AWP.cond (acond_true ?_)
      refine AWP.seq ?_
      refine AWP.region rfl ?_; intro K hK
      (try simp +decide -implicitDefEqProofs only [go_sem])
      refine hK _ _ ?_; clear hK K
      refine qthen_normal ?_
      refine AWP.ret ?_
      refine qthen_ret ?_
      refine qblock_ret ?_
      refine qthen_ret ?_
      refine qthen_ret ?_
      obtain rfl := some_eq h
      obtain rfl := cont_ret hJ1
      replace h := on_ret hO1
      refine qblock_ret ?_
      refine qthen_ret ?_
      obtain rfl := some_eq h
      simp +decide -implicitDefEqProofs only [go_sem, mpE_nil, AVal.int.injEq, Int.natCast_zero, List.replicate_zero, List.length_take, List.length_drop, AVal.own.injEq, reduceCtorEq, Int.reduceAdd, nle2, nle1, nle0, nleA, nleL, Try.results19]
  · obtain rfl := for_nil hJ1 (fun hl => by have := of_decide_eq_false hc; omega)
    have h := on_next hO1; try dsimp only at h
    have hkl : y1.length = k1 := by have := of_decide_eq_false hc; omega
    subst hkl
    refine AWP.exit ?_
    refine qthen_exit ?_
    refine qthen_exit ?_
    refine qblock_same ?_
    refine qthen_normal ?_
    refine AWP.seq ?_
    refine AWP.region rfl ?_; intro K hK
    (try simp +decide -implicitDefEqProofs only [go_sem])
    refine hK _ _ ?_; clear hK K
    refine qthen_normal ?_
    refine AWP.ret ?_
    obtain rfl := some_eq h
    simp +decide -implicitDefEqProofs only [go_sem, mpE_nil, AVal.int.injEq, Int.natCast_zero, List.replicate_zero, List.length_take, List.length_drop, AVal.own.injEq, reduceCtorEq, Int.reduceAdd, nle2, nle1, nle0, nleA, nleL, Try.results19]

def law50_AvalancheControls (l : List ApiSlide) (id_ : Int) (t : Int) : Option (Bool) :=
  (law50_alive).bind fun y1 => (bif (!y1) then some false else (law50_accepted l).bind fun y2 => (bif (!y2) then some true else (avalanche_Control l id_ t).bind fun y3 => (ref50_Control l id_ t).bind fun y4 => (ref50_SameSlides y3.1 y4.1).bind fun y5 => (bif y5 then some (decide (y3.2 = y4.2)) else some false)))

theorem law50_AvalancheControls_spec (l : List ApiSlide) (id_ : Int) (t : Int) {r : Bool} (h : law50_AvalancheControls l id_ t = some r) : PureFn Try.prog 5 [.sl 6 (l.map encApiSlide), .int .i64 id_, .int .i64 t] (· = .bool r) := by
  refine PureFn.nle (PureFn.intro Try.func5 rfl rfl (by show _ ≤ 38; simp) ?_)
  unfold law50_AvalancheControls at h
  (try simp +decide -implicitDefEqProofs only [go_sem])
  refine AWP.seq ?_
  refine AWP.region rfl ?_; intro K hK
  (try simp +decide -implicitDefEqProofs only [go_sem])
  refine hK _ _ ?_; clear hK K
  refine qthen_normal ?_
  refine AWP.seq ?_
  refine AWP.seq ?_
  refine AWP.region rfl ?_; intro K hK
  (try simp +decide -implicitDefEqProofs only [go_sem])
  obtain ⟨y1, hy1, h⟩ := bindE h
  refine ACall.pure Try.call10 (law50_alive_spec hy1) rfl fun _ hr => ?_
  subst hr
  (try simp +decide -implicitDefEqProofs only [go_sem])
  refine hK _ _ ?_; clear hK K
  refine qthen_normal ?_
  refine AWP.cond (acond_split (fun hc => ?_) (fun hc => ?_))
  · replace h := bif_t h hc
    refine AWP.seq ?_
    refine AWP.region rfl ?_; intro K hK
    (try simp +decide -implicitDefEqProofs only [go_sem])
    refine hK _ _ ?_; clear hK K
    refine qthen_normal ?_
    refine AWP.ret ?_
    refine qthen_ret ?_
    obtain rfl := some_eq h
    simp +decide -implicitDefEqProofs only [go_sem, mpE_nil, AVal.int.injEq, Int.natCast_zero, List.replicate_zero, List.length_take, List.length_drop, AVal.own.injEq, reduceCtorEq, Int.reduceAdd, nle2, nle1, nle0, nleA, nleL, Try.results5]
  replace h := bif_f h hc
  refine AWP.skip ?_
  refine qthen_normal ?_
  refine AWP.seq ?_
  refine AWP.seq ?_
  refine AWP.region rfl ?_; intro K hK
  (try simp +decide -implicitDefEqProofs only [go_sem])
  obtain ⟨y2, hy2, h⟩ := bindE h
  refine ACall.pure Try.call14 (law50_accepted_spec l hy2) rfl fun _ hr => ?_
  subst hr
  (try simp +decide -implicitDefEqProofs only [go_sem])
  refine hK _ _ ?_; clear hK K
  refine qthen_normal ?_
  refine AWP.cond (acond_split (fun hc => ?_) (fun hc => ?_))
  · replace h := bif_t h hc
    refine AWP.seq ?_
    refine AWP.region rfl ?_; intro K hK
    (try simp +decide -implicitDefEqProofs only [go_sem])
    refine hK _ _ ?_; clear hK K
    refine qthen_normal ?_
    refine AWP.ret ?_
    refine qthen_ret ?_
    obtain rfl := some_eq h
    simp +decide -implicitDefEqProofs only [go_sem, mpE_nil, AVal.int.injEq, Int.natCast_zero, List.replicate_zero, List.length_take, List.length_drop, AVal.own.injEq, reduceCtorEq, Int.reduceAdd, nle2, nle1, nle0, nleA, nleL, Try.results5]
  replace h := bif_f h hc
  refine AWP.skip ?_
  refine qthen_normal ?_
  refine AWP.seq ?_
  refine AWP.region rfl ?_; intro K hK
  (try simp +decide -implicitDefEqProofs only [go_sem])
  obtain ⟨y3, hy3, h⟩ := bindE h
  refine ACall.pure Try.call18 (avalanche_Control_spec l id_ t hy3) rfl fun _ hr => ?_
  subst hr
  (try simp +decide -implicitDefEqProofs only [go_sem])
  refine hK _ _ ?_; clear hK K
  refine qthen_normal ?_
  refine AWP.seq ?_
  refine AWP.region rfl ?_; intro K hK
  (try simp +decide -implicitDefEqProofs only [go_sem])
  obtain ⟨y4, hy4, h⟩ := bindE h
  refine ACall.pure Try.call19 (ref50_Control_spec l id_ t hy4) rfl fun _ hr => ?_
  subst hr
  (try simp +decide -implicitDefEqProofs only [go_sem])
  refine hK _ _ ?_; clear hK K
  refine qthen_normal ?_
  refine AWP.seq ?_
  refine AWP.region rfl ?_; intro K hK
  (try simp +decide -implicitDefEqProofs only [go_sem])
  obtain ⟨y5, hy5, h⟩ := bindE h
  refine ACall.pure Try.call17 (ref50_SameSlides_spec y3.1 y4.1 hy5) rfl fun _ hr => ?_
  subst hr
  (try simp +decide -implicitDefEqProofs only [go_sem])
  refine aguardK_split (fun hc => ?_) (fun hc => ?_)
  · replace h := bif_t h hc
    (try simp +decide -implicitDefEqProofs only [go_sem, hc])
    refine hK _ _ ?_; clear hK K
    refine qthen_normal ?_
    refine AWP.ret ?_
    obtain rfl := some_eq h
    simp +decide -implicitDefEqProofs only [go_sem, mpE_nil, AVal.int.injEq, Int.natCast_zero, List.replicate_zero, List.length_take, List.length_drop, AVal.own.injEq, reduceCtorEq, Int.reduceAdd, nle2, nle1, nle0, nleA, nleL, Try.results5]
  · replace h := bif_f h hc
    (try simp +decide -implicitDefEqProofs only [go_sem, hc, Bool.not_true])
    refine hK _ _ ?_; clear hK K
    refine qthen_normal ?_
    refine AWP.ret ?_
    obtain rfl := some_eq h
    simp +decide -implicitDefEqProofs only [go_sem, mpE_nil, AVal.int.injEq, Int.natCast_zero, List.replicate_zero, List.length_take, List.length_drop, AVal.own.injEq, reduceCtorEq, Int.reduceAdd, nle2, nle1, nle0, nleA, nleL, Try.results5]

def ref50_Level_b1 (levels : List Int) (k1 : Nat) (x_3 : Int) (sv : Int) : Option (Out (Int) (Int)) :=
  (bif (decide (x_3 ≤ ((levels.length : Nat) : Int))) then (idxL levels (IntKind.i64.wrap (x_3 - (1 : Int)))).bind fun x_4 => (bif (decide (((k1 : Nat) : Int) = (0 : Int))) then some (Out.next x_4) else (bif (decide (sv < x_4)) then some (Out.next x_4) else some (Out.next sv))) else (bif (decide (((k1 : Nat) : Int) = (0 : Int))) then some (Out.next (0 : Int)) else (bif (decide (sv < (0 : Int))) then some (Out.next (0 : Int)) else some (Out.next sv))))

def ref50_Level (s_ : ApiSlide) (levels : List Int) : Option (Int) :=
  (forIx (ref50_Level_b1 levels) 0 s_.Zones (0 : Int)).bind fun o1 => o1.on fun s1 => some s1

theorem ref50_Level_spec (s_ : ApiSlide) (levels : List Int) {r : Int} (h : ref50_Level s_ levels = some r) : PureFn Try.prog 21 [.agg (encApiSlide s_), .sl 1 (levels.map intC)] (· = .int .i64 r) := by
  refine PureFn.nle (PureFn.intro Try.func21 rfl rfl (by show _ ≤ 41; simp) ?_)
  unfold ref50_Level at h
  (try simp +decide -implicitDefEqProofs only [go_sem])
  refine AWP.seq ?_
  refine AWP.region rfl ?_; intro K hK
  (try simp +decide -implicitDefEqProofs only [go_sem])
  refine hK _ _ ?_; clear hK K
  refine qthen_normal ?_
  refine AWP.seq ?_
  refine AWP.region rfl ?_; intro K hK
  (try simp +decide -implicitDefEqProofs only [go_sem])
  refine hK _ _ ?_; clear hK K
  refine qthen_normal ?_
  refine AWP.seq ?_
  refine AWP.seq ?_
  refine AWP.region rfl ?_; intro K hK
  (try simp +decide -implicitDefEqProofs only [go_sem])
  refine hK _ _ ?_; clear hK K
  refine qthen_normal ?_
  refine AWP.block ?_
  obtain ⟨o1, hJ1, hO1⟩ := bindE h
  clear h
  refine AWP.loopW (ι := Nat × (Int) × (Unit)) (fun zz => [(1, .sl 1 (levels.map intC)), (2, .ptr 0 0), (5, .int .i64 zz.2.1), (6, .int .i64 ((zz.1 : Nat) : Int))]) (fun zz => [.box [.int .i64 s_.ID, .sl 1 (s_.Zones.map intC), .sl 1 (s_.Lifts.map intC), .int .i64 s_.Limit, .int .i64 s_.Load, .int .i64 s_.Controlled]]) (fun zz => zz.1 ≤ s_.Zones.length ∧ forIx (ref50_Level_b1 levels) zz.1 ((s_.Zones).drop zz.1) zz.2.1 = some o1) (fun zz => s_.Zones.length - zz.1) (0, (0 : Int), ()) ⟨Nat.zero_le _, hJ1⟩ (by (simp +decide -implicitDefEqProofs only [go_sem, mpE_nil, AVal.int.injEq, Int.natCast_zero, List.replicate_zero, List.length_take, List.length_drop, AVal.own.injEq, reduceCtorEq, Int.reduceAdd] <;> omega)) (by (simp +decide -implicitDefEqProofs only [go_sem, mpE_nil, AVal.int.injEq, Int.natCast_zero, List.replicate_zero, List.length_take, List.length_drop, AVal.own.injEq, reduceCtorEq, Int.reduceAdd] <;> omega)) (fun x => ⟨rfl, rfl, rfl⟩) ?_
  clear hJ1
  rintro ⟨k1, most1, ⟨⟩⟩ ⟨hk1, hJ1⟩
  dsimp only at hk1 hJ1 ⊢
  refine AWP.seq ?_
  refine AWP.seq ?_
  refine AWP.region rfl ?_; intro K hK
  (try simp +decide -implicitDefEqProofs only [go_sem])
  intro hm
  refine hK _ _ ?_; clear hK K
  refine qthen_normal ?_
  refine AWP.cond (acond_split (fun hc => ?_) (fun hc => ?_))
  · have hlt1 : k1 < s_.Zones.length := by have := of_decide_eq_true hc; omega
    obtain ⟨x_3, b1, hx1_, h, hJ1⟩ := for_cons hJ1 hlt1
    have hx1 := idxL_nat hx1_
    have hw1 : IntKind.i64.wrap (((k1 : Nat) : Int) + 1) = (((k1 : Nat) : Int) + (1 : Int)) := by rw [wrap_i64] <;> omega
    unfold ref50_Level_b1 at h; try dsimp only at h
    refine AWP.skip ?_
    refine qthen_normal ?_
    refine AWP.seq ?_
    refine AWP.block ?_
    refine AWP.seq ?_
    refine AWP.region rfl ?_; intro K hK
    (try simp +decide -implicitDefEqProofs only [go_sem])
    refine hK _ _ ?_; clear hK K
    refine qthen_normal ?_
    refine AWP.seq ?_
    refine AWP.seq ?_
    refine AWP.region rfl ?_; intro K hK
    (try simp +decide -implicitDefEqProofs only [go_sem])
    refine AIdx.of (f := intC) (l := s_.Zones) hx1 ?_
    (try simp +decide -implicitDefEqProofs only [go_sem])
    intro hm
    refine hK _ _ ?_; clear hK K
    refine qthen_normal ?_
    refine AWP.cond (acond_split (fun hc => ?_) (fun hc => ?_))
    · replace h := bif_t h hc
      refine AWP.region rfl ?_; intro K hK
      (try simp +decide -implicitDefEqProofs only [go_sem])
      refine AIdx.of (f := intC) (l := s_.Zones) hx1 ?_
      (try simp +decide -implicitDefEqProofs only [go_sem])
      obtain ⟨x_4, hx_4, h⟩ := bindE h
      refine AIdx.of (f := intC) (l := levels) hx_4 ?_
      (try simp +decide -implicitDefEqProofs only [go_sem])
      refine hK _ _ ?_; clear hK K
      refine qthen_normal ?_
      refine AWP.seq ?_
      refine AWP.region rfl ?_; intro K hK
      (try simp +decide -implicitDefEqProofs only [go_sem])
      refine aguardK_split (fun hc => ?_) (fun hc => ?_)
      · replace h := bif_f h hc
        (try simp +decide -implicitDefEqProofs only [go_sem, hc])
        refine hK _ _ ?_; clear hK K
        refine qthen_normal ?_
        refine AWP.cond (acond_split (fun hc => ?_) (fun hc => ?_))
        · replace h := bif_t h hc
          refine AWP.region rfl ?_; intro K hK
          (try simp +decide -implicitDefEqProofs only [go_sem])
          refine hK _ _ ?_; clear hK K
          refine qblock_normal ?_
          refine qthen_normal ?_
          refine AWP.region rfl ?_; intro K hK
          (try simp +decide -implicitDefEqProofs only [go_sem])
          refine hK _ _ ?_; clear hK K
          refine qthen_normal ?_
          obtain rfl := some_eq h
          refine ⟨(k1 + 1, x_4, ()), ⟨by dsimp only; omega, cont_next hJ1⟩, by dsimp only; omega, ?_, ?_⟩
          · (simp +decide -implicitDefEqProofs only [go_sem, mpE_nil, AVal.int.injEq, Int.natCast_zero, List.replicate_zero, List.length_take, List.length_drop, AVal.own.injEq, reduceCtorEq, Int.reduceAdd, hw1] <;> omega)
          · (simp +decide -implicitDefEqProofs only [go_sem, mpE_nil, AVal.int.injEq, Int.natCast_zero, List.replicate_zero, List.length_take, List.length_drop, AVal.own.injEq, reduceCtorEq, Int.reduceAdd, hw1] <;> omega)
        replace h := bif_f h hc
        refine AWP.skip ?_
        refine qblock_normal ?_
        refine qthen_normal ?_
        refine AWP.region rfl ?_; intro K hK
        (try simp +decide -implicitDefEqProofs only [go_sem])
        refine hK _ _ ?_; clear hK K
        refine qthen_normal ?_
        obtain rfl := some_eq h
        refine ⟨(k1 + 1, most1, ()), ⟨by dsimp only; omega, cont_next hJ1⟩, by dsimp only; omega, ?_, ?_⟩
        · (simp +decide -implicitDefEqProofs only [go_sem, mpE_nil, AVal.int.injEq, Int.natCast_zero, List.replicate_zero, List.length_take, List.length_drop, AVal.own.injEq, reduceCtorEq, Int.reduceAdd, hw1] <;> omega)
        · (simp +decide -implicitDefEqProofs only [go_sem, mpE_nil, AVal.int.injEq, Int.natCast_zero, List.replicate_zero, List.length_take, List.length_drop, AVal.own.injEq, reduceCtorEq, Int.reduceAdd, hw1] <;> omega)
      · replace h := bif_t h hc
        (try simp +decide -implicitDefEqProofs only [go_sem, hc, Bool.not_false])
        refine hK _ _ ?_; clear hK K
        refine qthen_normal ?_
        refine AWP.cond (acond_true ?_)
        refine AWP.region rfl ?_; intro K hK
        (try simp +decide -implicitDefEqProofs only [go_sem])
        refine hK _ _ ?_; clear hK K
        refine qblock_normal ?_
        refine qthen_normal ?_
        refine AWP.region rfl ?_; intro K hK
        (try simp +decide -implicitDefEqProofs only [go_sem])
        refine hK _ _ ?_; clear hK K
        refine qthen_normal ?_
        obtain rfl := some_eq h
        refine ⟨(k1 + 1, x_4, ()), ⟨by dsimp only; omega, cont_next hJ1⟩, by dsimp only; omega, ?_, ?_⟩
        · (simp +decide -implicitDefEqProofs only [go_sem, mpE_nil, AVal.int.injEq, Int.natCast_zero, List.replicate_zero, List.length_take, List.length_drop, AVal.own.injEq, reduceCtorEq, Int.reduceAdd, hw1] <;> omega)
        · (simp +decide -implicitDefEqProofs only [go_sem, mpE_nil, AVal.int.injEq, Int.natCast_zero, List.replicate_zero, List.length_take, List.length_drop, AVal.own.injEq, reduceCtorEq, Int.reduceAdd, hw1] <;> omega)
    replace h := bif_f h hc
    refine AWP.skip ?_
    refine qthen_normal ?_
    refine AWP.seq ?_
    refine AWP.region rfl ?_; intro K hK
    (try simp +decide -implicitDefEqProofs only [go_sem])
    refine aguardK_split (fun hc => ?_) (fun hc => ?_)
    · replace h := bif_f h hc
      (try simp +decide -implicitDefEqProofs only [go_sem, hc])
      refine hK _ _ ?_; clear hK K
      refine qthen_normal ?_
      refine AWP.cond (acond_split (fun hc => ?_) (fun hc => ?_))
      · replace h := bif_t h hc
        refine AWP.region rfl ?_; intro K hK
        (try simp +decide -implicitDefEqProofs only [go_sem])
        refine hK _ _ ?_; clear hK K
        refine qblock_normal ?_
        refine qthen_normal ?_
        refine AWP.region rfl ?_; intro K hK
        (try simp +decide -implicitDefEqProofs only [go_sem])
        refine hK _ _ ?_; clear hK K
        refine qthen_normal ?_
        obtain rfl := some_eq h
        refine ⟨(k1 + 1, (0 : Int), ()), ⟨by dsimp only; omega, cont_next hJ1⟩, by dsimp only; omega, ?_, ?_⟩
        · (simp +decide -implicitDefEqProofs only [go_sem, mpE_nil, AVal.int.injEq, Int.natCast_zero, List.replicate_zero, List.length_take, List.length_drop, AVal.own.injEq, reduceCtorEq, Int.reduceAdd, hw1] <;> omega)
        · (simp +decide -implicitDefEqProofs only [go_sem, mpE_nil, AVal.int.injEq, Int.natCast_zero, List.replicate_zero, List.length_take, List.length_drop, AVal.own.injEq, reduceCtorEq, Int.reduceAdd, hw1] <;> omega)
      replace h := bif_f h hc
      refine AWP.skip ?_
      refine qblock_normal ?_
      refine qthen_normal ?_
      refine AWP.region rfl ?_; intro K hK
      (try simp +decide -implicitDefEqProofs only [go_sem])
      refine hK _ _ ?_; clear hK K
      refine qthen_normal ?_
      obtain rfl := some_eq h
      refine ⟨(k1 + 1, most1, ()), ⟨by dsimp only; omega, cont_next hJ1⟩, by dsimp only; omega, ?_, ?_⟩
      · (simp +decide -implicitDefEqProofs only [go_sem, mpE_nil, AVal.int.injEq, Int.natCast_zero, List.replicate_zero, List.length_take, List.length_drop, AVal.own.injEq, reduceCtorEq, Int.reduceAdd, hw1] <;> omega)
      · (simp +decide -implicitDefEqProofs only [go_sem, mpE_nil, AVal.int.injEq, Int.natCast_zero, List.replicate_zero, List.length_take, List.length_drop, AVal.own.injEq, reduceCtorEq, Int.reduceAdd, hw1] <;> omega)
    · replace h := bif_t h hc
      (try simp +decide -implicitDefEqProofs only [go_sem, hc, Bool.not_false])
      refine hK _ _ ?_; clear hK K
      refine qthen_normal ?_
      refine AWP.cond (acond_true ?_)
      refine AWP.region rfl ?_; intro K hK
      (try simp +decide -implicitDefEqProofs only [go_sem])
      refine hK _ _ ?_; clear hK K
      refine qblock_normal ?_
      refine qthen_normal ?_
      refine AWP.region rfl ?_; intro K hK
      (try simp +decide -implicitDefEqProofs only [go_sem])
      refine hK _ _ ?_; clear hK K
      refine qthen_normal ?_
      obtain rfl := some_eq h
      refine ⟨(k1 + 1, (0 : Int), ()), ⟨by dsimp only; omega, cont_next hJ1⟩, by dsimp only; omega, ?_, ?_⟩
      · (simp +decide -implicitDefEqProofs only [go_sem, mpE_nil, AVal.int.injEq, Int.natCast_zero, List.replicate_zero, List.length_take, List.length_drop, AVal.own.injEq, reduceCtorEq, Int.reduceAdd, hw1] <;> omega)
      · (simp +decide -implicitDefEqProofs only [go_sem, mpE_nil, AVal.int.injEq, Int.natCast_zero, List.replicate_zero, List.length_take, List.length_drop, AVal.own.injEq, reduceCtorEq, Int.reduceAdd, hw1] <;> omega)
  · obtain rfl := for_nil hJ1 (fun hl => by have := of_decide_eq_false hc; omega)
    have h := on_next hO1; try dsimp only at h
    have hkl : s_.Zones.length = k1 := by have := of_decide_eq_false hc; omega
    subst hkl
    refine AWP.exit ?_
    refine qthen_exit ?_
    refine qthen_exit ?_
    refine qblock_same ?_
    refine qthen_normal ?_
    refine AWP.seq ?_
    refine AWP.region rfl ?_; intro K hK
    (try simp +decide -implicitDefEqProofs only [go_sem])
    refine hK _ _ ?_; clear hK K
    refine qthen_normal ?_
    refine AWP.ret ?_
    obtain rfl := some_eq h
    simp +decide -implicitDefEqProofs only [go_sem, mpE_nil, AVal.int.injEq, Int.natCast_zero, List.replicate_zero, List.length_take, List.length_drop, AVal.own.injEq, reduceCtorEq, Int.reduceAdd, nle2, nle1, nle0, nleA, nleL, Try.results21]

def ref50_Unstable (s_ : ApiSlide) (levels : List Int) : Option (Bool) :=
  (ref50_Level s_ levels).bind fun y1 => (bif (decide ((4 : Int) < y1)) then some true else (bif (decide (y1 = (4 : Int))) then some (decide ((IntKind.i64.wrap (Int.tdiv s_.Limit (4 : Int))) ≤ s_.Load)) else (bif (decide (y1 = (3 : Int))) then some (decide ((IntKind.i64.wrap (Int.tdiv s_.Limit (2 : Int))) ≤ s_.Load)) else some (decide (s_.Limit ≤ s_.Load)))))

theorem ref50_Unstable_spec (s_ : ApiSlide) (levels : List Int) {r : Bool} (h : ref50_Unstable s_ levels = some r) : PureFn Try.prog 23 [.agg (encApiSlide s_), .sl 1 (levels.map intC)] (· = .bool r) := by
  refine PureFn.nle (PureFn.intro Try.func23 rfl rfl (by show _ ≤ 35; simp) ?_)
  unfold ref50_Unstable at h
  (try simp +decide -implicitDefEqProofs only [go_sem])
  refine AWP.seq ?_
  refine AWP.region rfl ?_; intro K hK
  (try simp +decide -implicitDefEqProofs only [go_sem])
  refine hK _ _ ?_; clear hK K
  refine qthen_normal ?_
  refine AWP.seq ?_
  refine AWP.region rfl ?_; intro K hK
  (try simp +decide -implicitDefEqProofs only [go_sem])
  obtain ⟨y1, hy1, h⟩ := bindE h
  refine ACall.pure Try.call21 (ref50_Level_spec s_ levels hy1) rfl fun _ hr => ?_
  subst hr
  (try simp +decide -implicitDefEqProofs only [go_sem])
  refine hK _ _ ?_; clear hK K
  refine qthen_normal ?_
  refine AWP.block ?_
  refine AWP.seq ?_
  refine AWP.region rfl ?_; intro K hK
  (try simp +decide -implicitDefEqProofs only [go_sem])
  refine hK _ _ ?_; clear hK K
  refine qthen_normal ?_
  refine AWP.cond (acond_split (fun hc => ?_) (fun hc => ?_))
  · replace h := bif_t h hc
    refine AWP.seq ?_
    refine AWP.region rfl ?_; intro K hK
    (try simp +decide -implicitDefEqProofs only [go_sem])
    refine hK _ _ ?_; clear hK K
    refine qthen_normal ?_
    refine AWP.ret ?_
    refine qblock_ret ?_
    obtain rfl := some_eq h
    simp +decide -implicitDefEqProofs only [go_sem, mpE_nil, AVal.int.injEq, Int.natCast_zero, List.replicate_zero, List.length_take, List.length_drop, AVal.own.injEq, reduceCtorEq, Int.reduceAdd, nle2, nle1, nle0, nleA, nleL, Try.results23]
  replace h := bif_f h hc
  refine AWP.seq ?_
  refine AWP.region rfl ?_; intro K hK
  (try simp +decide -implicitDefEqProofs only [go_sem])
  refine hK _ _ ?_; clear hK K
  refine qthen_normal ?_
  refine AWP.cond (acond_split (fun hc => ?_) (fun hc => ?_))
  · replace h := bif_t h hc
    refine AWP.seq ?_
    refine AWP.region rfl ?_; intro K hK
    (try simp +decide -implicitDefEqProofs only [go_sem])
    refine hK _ _ ?_; clear hK K
    refine qthen_normal ?_
    refine AWP.ret ?_
    refine qblock_ret ?_
    obtain rfl := some_eq h
    simp +decide -implicitDefEqProofs only [go_sem, mpE_nil, AVal.int.injEq, Int.natCast_zero, List.replicate_zero, List.length_take, List.length_drop, AVal.own.injEq, reduceCtorEq, Int.reduceAdd, nle2, nle1, nle0, nleA, nleL, Try.results23]
  replace h := bif_f h hc
  refine AWP.seq ?_
  refine AWP.region rfl ?_; intro K hK
  (try simp +decide -implicitDefEqProofs only [go_sem])
  refine hK _ _ ?_; clear hK K
  refine qthen_normal ?_
  refine AWP.cond (acond_split (fun hc => ?_) (fun hc => ?_))
  · replace h := bif_t h hc
    refine AWP.seq ?_
    refine AWP.region rfl ?_; intro K hK
    (try simp +decide -implicitDefEqProofs only [go_sem])
    refine hK _ _ ?_; clear hK K
    refine qthen_normal ?_
    refine AWP.ret ?_
    refine qblock_ret ?_
    obtain rfl := some_eq h
    simp +decide -implicitDefEqProofs only [go_sem, mpE_nil, AVal.int.injEq, Int.natCast_zero, List.replicate_zero, List.length_take, List.length_drop, AVal.own.injEq, reduceCtorEq, Int.reduceAdd, nle2, nle1, nle0, nleA, nleL, Try.results23]
  replace h := bif_f h hc
  refine AWP.seq ?_
  refine AWP.region rfl ?_; intro K hK
  (try simp +decide -implicitDefEqProofs only [go_sem])
  refine hK _ _ ?_; clear hK K
  refine qthen_normal ?_
  refine AWP.ret ?_
  refine qblock_ret ?_
  obtain rfl := some_eq h
  simp +decide -implicitDefEqProofs only [go_sem, mpE_nil, AVal.int.injEq, Int.natCast_zero, List.replicate_zero, List.length_take, List.length_drop, AVal.own.injEq, reduceCtorEq, Int.reduceAdd, nle2, nle1, nle0, nleA, nleL, Try.results23]

def ref50_Zones_b5 (at_10 : Int) (sv : Int × (List Int)) : Option (Out (Int × (List Int)) (Out ((List Int)) (Out ((List Int)) ((List Int))))) :=
  (bif (decide (at_10 < sv.1)) then (idxL sv.2 (IntKind.i64.wrap (sv.1 - (1 : Int)))).bind fun x_17 => (idxL sv.2 sv.1).bind fun x_18 => (idxL (sv.2.set sv.1.toNat x_17) (IntKind.i64.wrap (sv.1 - (1 : Int)))).bind fun x_20 => some (Out.next ((IntKind.i64.wrap (sv.1 - (1 : Int))), ((sv.2.set sv.1.toNat x_17).set (IntKind.i64.wrap (sv.1 - (1 : Int))).toNat x_18))) else some (Out.ret (Out.next sv.2)))

def ref50_Zones_j4 (out6 : List Int) (x_9 : Int) (at_10 : Int) : Option (Out ((List Int)) (Out ((List Int)) ((List Int)))) :=
  chk (out6.length + 1) ((whileN (ref50_Zones_b5 at_10) fuel ((IntKind.i64.wrap ((((out6.length + 1) : Nat) : Int) - (1 : Int))), (out6 ++ [x_9]))).bind fun o15 => o15.on fun _ => none)

def ref50_Zones_j3 (out6 : List Int) (x_9 : Int) (at_10 : Int) : Option (Out ((List Int)) (Out ((List Int)) ((List Int)))) :=
  (bif (decide (at_10 < ((out6.length : Nat) : Int))) then (idxL out6 at_10).bind fun x_22 => (bif (decide (x_22 = x_9)) then some (Out.next out6) else ref50_Zones_j4 out6 x_9 at_10) else ref50_Zones_j4 out6 x_9 at_10)

def ref50_Zones_b6 (out6 : List Int) (x_9 : Int) (sv : Int) : Option (Out (Int) (Out ((List Int)) (Out ((List Int)) ((List Int))))) :=
  (bif (decide (sv < ((out6.length : Nat) : Int))) then (idxL out6 sv).bind fun x_25 => (bif (decide (x_25 < x_9)) then some (Out.next (IntKind.i64.wrap (sv + (1 : Int)))) else (ref50_Zones_j3 out6 x_9 sv).bind fun q25 => some (Out.ret q25)) else (bif false then some (Out.next (IntKind.i64.wrap (sv + (1 : Int)))) else (ref50_Zones_j3 out6 x_9 sv).bind fun q26 => some (Out.ret q26)))

def ref50_Zones_b2 (k7 : Nat) (x_9 : Int) (sv : (List Int)) : Option (Out ((List Int)) (Out ((List Int)) ((List Int)))) :=
  (whileN (ref50_Zones_b6 sv x_9) fuel (0 : Int)).bind fun o23 => o23.on fun _ => none

def ref50_Zones_b1 (levels : List Int) (k2 : Nat) (x_4 : ApiSlide) (sv : (List Int)) : Option (Out ((List Int)) ((List Int))) :=
  (ref50_Unstable x_4 levels).bind fun y5 => (bif y5 then (forIx ref50_Zones_b2 0 x_4.Zones sv).bind fun o7 => o7.on fun s7 => some (Out.next s7) else some (Out.next sv))

def ref50_Zones (l : List ApiSlide) (levels : List Int) : Option ((List Int)) :=
  (forIx (ref50_Zones_b1 levels) 0 l []).bind fun o2 => o2.on fun s2 => some s2

theorem ref50_Zones_fresh (l : List ApiSlide) (levels : List Int) {r : (List Int)} (h : ref50_Zones l levels = some r) : FreshFn Try.prog 26 [.sl 6 (l.map encApiSlide), .sl 1 (levels.map intC)] (· = .sl 1 (r.map intC)) := by
  refine FreshFn.nle (FreshFn.intro Try.func26 rfl rfl (by show _ ≤ 27; simp) ?_)
  unfold ref50_Zones at h
  (try simp +decide -implicitDefEqProofs only [go_sem])
  refine AWP.seq ?_
  refine AWP.region rfl ?_; intro K hK
  (try simp +decide -implicitDefEqProofs only [go_sem])
  refine hK _ _ ?_; clear hK K
  refine qthen_normal ?_
  refine AWP.seq ?_
  refine AWP.region rfl ?_; intro K hK
  (try simp +decide -implicitDefEqProofs only [go_sem])
  refine hK _ _ ?_; clear hK K
  refine qthen_normal ?_
  refine AWP.seq ?_
  refine AWP.seq ?_
  refine AWP.region rfl ?_; intro K hK
  (try simp +decide -implicitDefEqProofs only [go_sem])
  refine hK _ _ ?_; clear hK K
  refine qthen_normal ?_
  refine AWP.block ?_
  refine AWP.ghost 5 1 rfl (by decide) ?_
  obtain ⟨o2, hJ2, hO2⟩ := bindE h
  clear h
  refine AWP.loopW (ι := Nat × ((List Int)) × (Nat)) (fun zz => [(0, .sl 6 (l.map encApiSlide)), (1, .sl 1 (levels.map intC)), (5, .own 0 zz.2.2 0 zz.2.1.length), (6, .int .i64 ((zz.1 : Nat) : Int))]) (fun zz => [.row zz.2.2 1 (zz.2.1.map intC)]) (fun zz => zz.1 ≤ l.length ∧ forIx (ref50_Zones_b1 levels) zz.1 ((l).drop zz.1) zz.2.1 = some o2) (fun zz => l.length - zz.1) (0, [], 0) ⟨Nat.zero_le _, hJ2⟩ (by (simp +decide -implicitDefEqProofs only [go_sem, mpE_nil, AVal.int.injEq, Int.natCast_zero, List.replicate_zero, List.length_take, List.length_drop, AVal.own.injEq, reduceCtorEq, Int.reduceAdd] <;> omega)) (by (simp +decide -implicitDefEqProofs only [go_sem, mpE_nil, AVal.int.injEq, Int.natCast_zero, List.replicate_zero, List.length_take, List.length_drop, AVal.own.injEq, reduceCtorEq, Int.reduceAdd] <;> omega)) (fun x => ⟨rfl, rfl, rfl⟩) ?_
  clear hJ2
  rintro ⟨k2, out1, ver2⟩ ⟨hk2, hJ2⟩
  dsimp only at hk2 hJ2 ⊢
  refine AWP.seq ?_
  refine AWP.seq ?_
  refine AWP.region rfl ?_; intro K hK
  (try simp +decide -implicitDefEqProofs only [go_sem])
  intro hm
  refine hK _ _ ?_; clear hK K
  refine qthen_normal ?_
  refine AWP.cond (acond_split (fun hc => ?_) (fun hc => ?_))
  · have hlt2 : k2 < l.length := by have := of_decide_eq_true hc; omega
    obtain ⟨x_4, b2, hx2_, h, hJ2⟩ := for_cons hJ2 hlt2
    have hx2 := idxL_nat hx2_
    have hw2 : IntKind.i64.wrap (((k2 : Nat) : Int) + 1) = (((k2 : Nat) : Int) + (1 : Int)) := by rw [wrap_i64] <;> omega
    unfold ref50_Zones_b1 at h; try dsimp only at h
    refine AWP.skip ?_
    refine qthen_normal ?_
    refine AWP.seq ?_
    refine AWP.block ?_
    refine AWP.seq ?_
    refine AWP.region rfl ?_; intro K hK
    (try simp +decide -implicitDefEqProofs only [go_sem])
    refine AIdx.of (f := encApiSlide) (l := l) hx2 ?_
    (try simp +decide -implicitDefEqProofs only [go_sem])
    obtain ⟨y5, hy5, h⟩ := bindE h
    refine ACall.pure Try.call23 (ref50_Unstable_spec x_4 levels hy5) rfl fun _ hr => ?_
    subst hr
    (try simp +decide -implicitDefEqProofs only [go_sem])
    refine hK _ _ ?_; clear hK K
    refine qthen_normal ?_
    refine AWP.cond (acond_split (fun hc => ?_) (fun hc => ?_))
    · replace h := bif_t h hc
      refine AWP.region rfl ?_; intro K hK
      (try simp +decide -implicitDefEqProofs only [go_sem])
      refine AIdx.of (f := encApiSlide) (l := l) hx2 ?_
      (try simp +decide -implicitDefEqProofs only [go_sem])
      refine ACall.inline Try.call40 Try.func40 rfl rfl (by show _ ≤ 78; simp) ?_
      (try simp +decide -implicitDefEqProofs only [go_sem])
      refine AWP.seq ?_
      refine AWP.region rfl ?_; intro K hK
      (try simp +decide -implicitDefEqProofs only [go_sem])
      refine hK _ _ ?_; clear hK K
      refine qthen_normal ?_
      refine AWP.seq ?_
      refine AWP.seq ?_
      refine AWP.region rfl ?_; intro K hK
      (try simp +decide -implicitDefEqProofs only [go_sem])
      refine hK _ _ ?_; clear hK K
      refine qthen_normal ?_
      refine AWP.block ?_
      obtain ⟨o7, hJ7, hO7⟩ := bindE h
      clear h
      refine AWP.loopW (ι := Nat × ((List Int)) × (Nat)) (fun zz => [(0, .own 0 zz.2.2 0 zz.2.1.length), (1, .sl 1 (x_4.Zones.map intC)), (5, .int .i64 ((zz.1 : Nat) : Int))]) (fun zz => [.row zz.2.2 1 (zz.2.1.map intC)]) (fun zz => zz.1 ≤ x_4.Zones.length ∧ forIx ref50_Zones_b2 zz.1 ((x_4.Zones).drop zz.1) zz.2.1 = some o7) (fun zz => x_4.Zones.length - zz.1) (0, out1, ver2) ⟨Nat.zero_le _, hJ7⟩ (by (simp +decide -implicitDefEqProofs only [go_sem, mpE_nil, AVal.int.injEq, Int.natCast_zero, List.replicate_zero, List.length_take, List.length_drop, AVal.own.injEq, reduceCtorEq, Int.reduceAdd] <;> omega)) (by (simp +decide -implicitDefEqProofs only [go_sem, mpE_nil, AVal.int.injEq, Int.natCast_zero, List.replicate_zero, List.length_take, List.length_drop, AVal.own.injEq, reduceCtorEq, Int.reduceAdd] <;> omega)) (fun x => ⟨rfl, rfl, rfl⟩) ?_
      clear hJ7
      rintro ⟨k7, out6, ver7⟩ ⟨hk7, hJ7⟩
      dsimp only at hk7 hJ7 ⊢
      refine AWP.seq ?_
      refine AWP.seq ?_
      refine AWP.region rfl ?_; intro K hK
      (try simp +decide -implicitDefEqProofs only [go_sem])
      intro hm
      refine hK _ _ ?_; clear hK K
      refine qthen_normal ?_
      refine AWP.cond (acond_split (fun hc => ?_) (fun hc => ?_))
      · have hlt7 : k7 < x_4.Zones.length := by have := of_decide_eq_true hc; omega
        obtain ⟨x_9, b7, hx7_, h, hJ7⟩ := for_cons hJ7 hlt7
        have hx7 := idxL_nat hx7_
        have hw7 : IntKind.i64.wrap (((k7 : Nat) : Int) + 1) = (((k7 : Nat) : Int) + (1 : Int)) := by rw [wrap_i64] <;> omega
        unfold ref50_Zones_b2 at h; try dsimp only at h
        refine AWP.skip ?_
        refine qthen_normal ?_
        refine AWP.seq ?_
        refine AWP.block ?_
        refine AWP.seq ?_
        refine AWP.region rfl ?_; intro K hK
        (try simp +decide -implicitDefEqProofs only [go_sem])
        refine hK _ _ ?_; clear hK K
        refine qthen_normal ?_
        refine AWP.seqJoin (ι := (Int) × (Unit)) (fun zz => [(0, .own 0 ver7 0 out6.length), (1, .sl 1 (x_4.Zones.map intC)), (5, .int .i64 ((k7 : Nat) : Int)), (6, .int .i64 zz.1)]) (fun zz => [.row ver7 1 (out6.map intC)]) (fun zz => ref50_Zones_j3 out6 x_9 zz.1 = some b7) (fun zz => ⟨rfl, rfl, rfl⟩) ?_ ?_
        · refine AWP.block ?_
          obtain ⟨o23, hJ23, hO23⟩ := bindE h
          clear h
          refine AWP.loopW (ι := Nat × (Int) × (Unit)) (fun zz => [(0, .own 0 ver7 0 out6.length), (1, .sl 1 (x_4.Zones.map intC)), (5, .int .i64 ((k7 : Nat) : Int)), (6, .int .i64 zz.2.1)]) (fun zz => [.row ver7 1 (out6.map intC)]) (fun zz => whileN (ref50_Zones_b6 out6 x_9) zz.1 zz.2.1 = some o23) (fun zz => zz.1) (fuel, (0 : Int), ()) hJ23 (by (simp +decide -implicitDefEqProofs only [go_sem, mpE_nil, AVal.int.injEq, Int.natCast_zero, List.replicate_zero, List.length_take, List.length_drop, AVal.own.injEq, reduceCtorEq, Int.reduceAdd] <;> omega)) (by (simp +decide -implicitDefEqProofs only [go_sem, mpE_nil, AVal.int.injEq, Int.natCast_zero, List.replicate_zero, List.length_take, List.length_drop, AVal.own.injEq, reduceCtorEq, Int.reduceAdd] <;> omega)) (fun x => ⟨rfl, rfl, rfl⟩) ?_
          clear hJ23
          rintro ⟨n23, at_23, ⟨⟩⟩ hJ23
          dsimp only at hJ23 ⊢
          obtain ⟨m23, b23, rfl, h, hJ23⟩ := while_step hJ23
          unfold ref50_Zones_b6 at h; try dsimp only at h
          refine AWP.seq ?_
          refine AWP.seq ?_
          refine AWP.draw Try.mixed (by kernel_rfl) ?_; intro K hK
          (try simp +decide -implicitDefEqProofs only [go_sem])
          intro hm
          refine aguardK_split (fun hc => ?_) (fun hc => ?_)
          · replace h := bif_t h hc
            (try simp +decide -implicitDefEqProofs only [go_sem, hc])
            obtain ⟨x_25, hx_25, h⟩ := bindE h
            refine own_in hx_25 (by first | rfl | exact (sortI_len _).symm | (simp only [List.length_append, List.length_cons, List.length_nil, List.length_set, List.length_replicate] <;> omega)) ?_
            (try simp +decide -implicitDefEqProofs only [go_sem])
            refine AElem.of (f := intC) (l := out6) (n := at_23) hx_25 ?_
            (try simp +decide -implicitDefEqProofs only [go_sem])
            refine AIdx.of (f := intC) (l := x_4.Zones) hx7 ?_
            (try simp +decide -implicitDefEqProofs only [go_sem])
            refine hK _ _ _ (by kernel_rfl) ?_; clear hK K
            refine qthen_normal ?_
            refine AWP.cond (acond_split (fun hc => ?_) (fun hc => ?_))
            · replace h := bif_t h hc
              refine AWP.skip ?_
              refine qthen_normal ?_
              refine AWP.block ?_
              refine AWP.region rfl ?_; intro K hK
              (try simp +decide -implicitDefEqProofs only [go_sem])
              refine hK _ _ ?_; clear hK K
              refine qblock_normal ?_
              refine qthen_normal ?_
              obtain rfl := some_eq h
              refine ⟨(m23, (IntKind.i64.wrap (at_23 + (1 : Int))), ()), cont_next hJ23, by dsimp only; omega, ?_, ?_⟩
              · (simp +decide -implicitDefEqProofs only [go_sem, mpE_nil, AVal.int.injEq, Int.natCast_zero, List.replicate_zero, List.length_take, List.length_drop, AVal.own.injEq, reduceCtorEq, Int.reduceAdd] <;> omega)
              · (simp +decide -implicitDefEqProofs only [go_sem, mpE_nil, AVal.int.injEq, Int.natCast_zero, List.replicate_zero, List.length_take, List.length_drop, AVal.own.injEq, reduceCtorEq, Int.reduceAdd] <;> omega)
            replace h := bif_f h hc
            refine AWP.exit ?_
            refine qthen_exit ?_
            refine qthen_exit ?_
            obtain ⟨q25, hq, h⟩ := bindE h
            obtain rfl := some_eq h
            obtain rfl := cont_ret hJ23
            replace h := hq.trans (on_ret hO23)
            refine qblock_same ?_
            refine qthen_normal ?_
            exact ⟨(at_23, ()), h, by (simp +decide -implicitDefEqProofs only [go_sem, mpE_nil, AVal.int.injEq, Int.natCast_zero, List.replicate_zero, List.length_take, List.length_drop, AVal.own.injEq, reduceCtorEq, Int.reduceAdd] <;> omega), by (simp +decide -implicitDefEqProofs only [go_sem, mpE_nil, AVal.int.injEq, Int.natCast_zero, List.replicate_zero, List.length_take, List.length_drop, AVal.own.injEq, reduceCtorEq, Int.reduceAdd] <;> omega)⟩
          · replace h := bif_f h hc
            (try simp +decide -implicitDefEqProofs only [go_sem, hc, Bool.not_true])
            refine hK _ _ _ (by kernel_rfl) ?_; clear hK K
            refine qthen_normal ?_
            refine AWP.cond (acond_split (fun hc => ?_) (fun hc => ?_))
            · replace h := bif_t h hc
              refine AWP.skip ?_
              refine qthen_normal ?_
              refine AWP.block ?_
              refine AWP.region rfl ?_; intro K hK
              (try simp +decide -implicitDefEqProofs only [go_sem])
              refine hK _ _ ?_; clear hK K
              refine qblock_normal ?_
              refine qthen_normal ?_
              obtain rfl := some_eq h
              refine ⟨(m23, (IntKind.i64.wrap (at_23 + (1 : Int))), ()), cont_next hJ23, by dsimp only; omega, ?_, ?_⟩
              · (simp +decide -implicitDefEqProofs only [go_sem, mpE_nil, AVal.int.injEq, Int.natCast_zero, List.replicate_zero, List.length_take, List.length_drop, AVal.own.injEq, reduceCtorEq, Int.reduceAdd] <;> omega)
              · (simp +decide -implicitDefEqProofs only [go_sem, mpE_nil, AVal.int.injEq, Int.natCast_zero, List.replicate_zero, List.length_take, List.length_drop, AVal.own.injEq, reduceCtorEq, Int.reduceAdd] <;> omega)
            replace h := bif_f h hc
            refine AWP.exit ?_
            refine qthen_exit ?_
            refine qthen_exit ?_
            obtain ⟨q26, hq, h⟩ := bindE h
            obtain rfl := some_eq h
            obtain rfl := cont_ret hJ23
            replace h := hq.trans (on_ret hO23)
            refine qblock_same ?_
            refine qthen_normal ?_
            exact ⟨(at_23, ()), h, by (simp +decide -implicitDefEqProofs only [go_sem, mpE_nil, AVal.int.injEq, Int.natCast_zero, List.replicate_zero, List.length_take, List.length_drop, AVal.own.injEq, reduceCtorEq, Int.reduceAdd] <;> omega), by (simp +decide -implicitDefEqProofs only [go_sem, mpE_nil, AVal.int.injEq, Int.natCast_zero, List.replicate_zero, List.length_take, List.length_drop, AVal.own.injEq, reduceCtorEq, Int.reduceAdd] <;> omega)⟩
        · rintro ⟨at_10, ⟨⟩⟩ h
          try dsimp only at h ⊢
          unfold ref50_Zones_j3 at h; try dsimp only at h
          refine AWP.seqJoin (ι := (Unit) × (Unit)) (fun zz => [(0, .own 0 ver7 0 out6.length), (1, .sl 1 (x_4.Zones.map intC)), (5, .int .i64 ((k7 : Nat) : Int)), (6, .int .i64 at_10)]) (fun zz => [.row ver7 1 (out6.map intC)]) (fun zz => ref50_Zones_j4 out6 x_9 at_10 = some b7) (fun zz => ⟨rfl, rfl, rfl⟩) ?_ ?_
          · refine AWP.seq ?_
            refine AWP.draw Try.mixed (by kernel_rfl) ?_; intro K hK
            (try simp +decide -implicitDefEqProofs only [go_sem])
            intro hm
            refine aguardK_split (fun hc => ?_) (fun hc => ?_)
            · replace h := bif_t h hc
              (try simp +decide -implicitDefEqProofs only [go_sem, hc])
              obtain ⟨x_22, hx_22, h⟩ := bindE h
              refine own_in hx_22 (by first | rfl | exact (sortI_len _).symm | (simp only [List.length_append, List.length_cons, List.length_nil, List.length_set, List.length_replicate] <;> omega)) ?_
              (try simp +decide -implicitDefEqProofs only [go_sem])
              refine AElem.of (f := intC) (l := out6) (n := at_10) hx_22 ?_
              (try simp +decide -implicitDefEqProofs only [go_sem])
              refine AIdx.of (f := intC) (l := x_4.Zones) hx7 ?_
              (try simp +decide -implicitDefEqProofs only [go_sem])
              refine hK _ _ _ (by kernel_rfl) ?_; clear hK K
              refine qthen_normal ?_
              refine AWP.cond (acond_split (fun hc => ?_) (fun hc => ?_))
              · replace h := bif_t h hc
                refine AWP.exit ?_
                refine qthen_exit ?_
                refine qblock_same ?_
                refine qthen_normal ?_
                refine AWP.region rfl ?_; intro K hK
                (try simp +decide -implicitDefEqProofs only [go_sem])
                refine hK _ _ ?_; clear hK K
                refine qthen_normal ?_
                obtain rfl := some_eq h
                refine ⟨(k7 + 1, out6, ver7), ⟨by dsimp only; omega, cont_next hJ7⟩, by dsimp only; omega, ?_, ?_⟩
                · (simp +decide -implicitDefEqProofs only [go_sem, mpE_nil, AVal.int.injEq, Int.natCast_zero, List.replicate_zero, List.length_take, List.length_drop, AVal.own.injEq, reduceCtorEq, Int.reduceAdd, hw7] <;> omega)
                · (simp +decide -implicitDefEqProofs only [go_sem, mpE_nil, AVal.int.injEq, Int.natCast_zero, List.replicate_zero, List.length_take, List.length_drop, AVal.own.injEq, reduceCtorEq, Int.reduceAdd, hw7] <;> omega)
              replace h := bif_f h hc
              refine AWP.skip ?_
              refine qthen_normal ?_
              exact ⟨((), ()), h, by (simp +decide -implicitDefEqProofs only [go_sem, mpE_nil, AVal.int.injEq, Int.natCast_zero, List.replicate_zero, List.length_take, List.length_drop, AVal.own.injEq, reduceCtorEq, Int.reduceAdd] <;> omega), by (simp +decide -implicitDefEqProofs only [go_sem, mpE_nil, AVal.int.injEq, Int.natCast_zero, List.replicate_zero, List.length_take, List.length_drop, AVal.own.injEq, reduceCtorEq, Int.reduceAdd] <;> omega)⟩
            · replace h := bif_f h hc
              (try simp +decide -implicitDefEqProofs only [go_sem, hc, Bool.not_true])
              refine hK _ _ _ (by kernel_rfl) ?_; clear hK K
              refine qthen_normal ?_
              refine AWP.cond (acond_false ?_)
              refine AWP.skip ?_
              refine qthen_normal ?_
              exact ⟨((), ()), h, by (simp +decide -implicitDefEqProofs only [go_sem, mpE_nil, AVal.int.injEq, Int.natCast_zero, List.replicate_zero, List.length_take, List.length_drop, AVal.own.injEq, reduceCtorEq, Int.reduceAdd] <;> omega), by (simp +decide -implicitDefEqProofs only [go_sem, mpE_nil, AVal.int.injEq, Int.natCast_zero, List.replicate_zero, List.length_take, List.length_drop, AVal.own.injEq, reduceCtorEq, Int.reduceAdd] <;> omega)⟩
          · rintro ⟨⟨⟩, ⟨⟩⟩ h
            try dsimp only at h ⊢
            unfold ref50_Zones_j4 at h; try dsimp only at h
            refine AWP.seq ?_
            refine AWP.region rfl ?_; intro K hK
            (try simp +decide -implicitDefEqProofs only [go_sem])
            refine AIdx.of (f := intC) (l := x_4.Zones) hx7 ?_
            (try simp +decide -implicitDefEqProofs only [go_sem])
            obtain ⟨hk, h⟩ := chk_in h
            (repeat (refine ⟨by first | omega | (simp only [List.length_take, List.length_drop, List.length_append]; omega), ?_⟩)); try simp +decide -implicitDefEqProofs only [go_sem]
            refine hK _ _ ?_; clear hK K
            refine qthen_normal ?_
            refine AWP.seq ?_
            refine AWP.region rfl ?_; intro K hK
            (try simp +decide -implicitDefEqProofs only [go_sem])
            intro hm
            refine hK _ _ ?_; clear hK K
            refine qthen_normal ?_
            refine AWP.block ?_
            obtain ⟨o15, hJ15, hO15⟩ := bindE h
            clear h
            refine AWP.loopW (ι := Nat × (Int × (List Int)) × (Nat)) (fun zz => [(0, .own 0 zz.2.2 0 zz.2.1.2.length), (1, .sl 1 (x_4.Zones.map intC)), (5, .int .i64 ((k7 : Nat) : Int)), (6, .int .i64 at_10), (7, .int .i64 zz.2.1.1)]) (fun zz => [.row zz.2.2 1 (zz.2.1.2.map intC)]) (fun zz => whileN (ref50_Zones_b5 at_10) zz.1 zz.2.1 = some o15) (fun zz => zz.1) (fuel, ((IntKind.i64.wrap ((((out6.length + 1) : Nat) : Int) - (1 : Int))), (out6 ++ [x_9])), (ver7 + 1)) hJ15 (by (simp +decide -implicitDefEqProofs only [go_sem, mpE_nil, AVal.int.injEq, Int.natCast_zero, List.replicate_zero, List.length_take, List.length_drop, AVal.own.injEq, reduceCtorEq, Int.reduceAdd] <;> omega)) (by (simp +decide -implicitDefEqProofs only [go_sem, mpE_nil, AVal.int.injEq, Int.natCast_zero, List.replicate_zero, List.length_take, List.length_drop, AVal.own.injEq, reduceCtorEq, Int.reduceAdd] <;> omega)) (fun x => ⟨rfl, rfl, rfl⟩) ?_
            clear hJ15
            rintro ⟨n15, ⟨k_13, out14⟩, ver15⟩ hJ15
            dsimp only at hJ15 ⊢
            obtain ⟨m15, b15, rfl, h, hJ15⟩ := while_step hJ15
            unfold ref50_Zones_b5 at h; try dsimp only at h
            refine AWP.seq ?_
            refine AWP.seq ?_
            refine AWP.region rfl ?_; intro K hK
            (try simp +decide -implicitDefEqProofs only [go_sem])
            refine hK _ _ ?_; clear hK K
            refine qthen_normal ?_
            refine AWP.cond (acond_split (fun hc => ?_) (fun hc => ?_))
            · replace h := bif_t h hc
              refine AWP.skip ?_
              refine qthen_normal ?_
              refine AWP.seq ?_
              refine AWP.block ?_
              refine AWP.draw Try.mixed (by kernel_rfl) ?_; intro K hK
              (try simp +decide -implicitDefEqProofs only [go_sem])
              obtain ⟨x_17, hx_17, h⟩ := bindE h
              refine own_in hx_17 (by first | rfl | exact (sortI_len _).symm | (simp only [List.length_append, List.length_cons, List.length_nil, List.length_set, List.length_replicate] <;> omega)) ?_
              (try simp +decide -implicitDefEqProofs only [go_sem])
              refine AElem.of (f := intC) (l := out14) (n := (IntKind.i64.wrap (k_13 - (1 : Int)))) hx_17 ?_
              (try simp +decide -implicitDefEqProofs only [go_sem])
              obtain ⟨x_18, hx_18, h⟩ := bindE h
              refine own_in hx_18 (by first | rfl | exact (sortI_len _).symm | (simp only [List.length_append, List.length_cons, List.length_nil, List.length_set, List.length_replicate] <;> omega)) ?_
              (try simp +decide -implicitDefEqProofs only [go_sem])
              refine AElem.of (f := intC) (l := out14) (n := k_13) hx_18 ?_
              (try simp +decide -implicitDefEqProofs only [go_sem])
              refine own_in hx_18 (by first | rfl | exact (sortI_len _).symm | (simp only [List.length_append, List.length_cons, List.length_nil, List.length_set, List.length_replicate] <;> omega)) ?_
              (try simp +decide -implicitDefEqProofs only [go_sem])
              refine AElem.of (f := intC) (l := out14) (n := k_13) hx_18 ?_
              have hs19 := idxL_set (y := x_17) hx_18
              (try simp +decide -implicitDefEqProofs only [go_sem])
              obtain ⟨x_20, hx_20, h⟩ := bindE h
              refine own_in hx_20 (by first | rfl | exact (sortI_len _).symm | (simp only [List.length_append, List.length_cons, List.length_nil, List.length_set, List.length_replicate] <;> omega)) ?_
              (try simp +decide -implicitDefEqProofs only [go_sem])
              refine AElem.of (f := intC) (l := (out14.set k_13.toNat x_17)) (n := (IntKind.i64.wrap (k_13 - (1 : Int)))) hx_20 ?_
              have hs21 := idxL_set (y := x_18) hx_20
              (try simp +decide -implicitDefEqProofs only [go_sem])
              refine hK _ _ _ (by kernel_rfl) ?_; clear hK K
              refine qblock_normal ?_
              refine qthen_normal ?_
              refine AWP.region rfl ?_; intro K hK
              (try simp +decide -implicitDefEqProofs only [go_sem])
              refine hK _ _ ?_; clear hK K
              refine qthen_normal ?_
              obtain rfl := some_eq h
              refine ⟨(m15, ((IntKind.i64.wrap (k_13 - (1 : Int))), ((out14.set k_13.toNat x_17).set (IntKind.i64.wrap (k_13 - (1 : Int))).toNat x_18)), ver15), cont_next hJ15, by dsimp only; omega, ?_, ?_⟩
              · (simp +decide -implicitDefEqProofs only [go_sem, mpE_nil, AVal.int.injEq, Int.natCast_zero, List.replicate_zero, List.length_take, List.length_drop, AVal.own.injEq, reduceCtorEq, Int.reduceAdd] <;> omega)
              · (simp +decide -implicitDefEqProofs only [go_sem, mpE_nil, AVal.int.injEq, Int.natCast_zero, List.replicate_zero, List.length_take, List.length_drop, AVal.own.injEq, reduceCtorEq, Int.reduceAdd] <;> omega)
            replace h := bif_f h hc
            refine AWP.exit ?_
            refine qthen_exit ?_
            refine qthen_exit ?_
            obtain rfl := some_eq h
            obtain rfl := cont_ret hJ15
            replace h := on_ret hO15
            refine qblock_same ?_
            refine qblock_normal ?_
            refine qthen_normal ?_
            refine AWP.region rfl ?_; intro K hK
            (try simp +decide -implicitDefEqProofs only [go_sem])
            refine hK _ _ ?_; clear hK K
            refine qthen_normal ?_
            obtain rfl := some_eq h
            refine ⟨(k7 + 1, out14, ver15), ⟨by dsimp only; omega, cont_next hJ7⟩, by dsimp only; omega, ?_, ?_⟩
            · (simp +decide -implicitDefEqProofs only [go_sem, mpE_nil, AVal.int.injEq, Int.natCast_zero, List.replicate_zero, List.length_take, List.length_drop, AVal.own.injEq, reduceCtorEq, Int.reduceAdd, hw7] <;> omega)
            · (simp +decide -implicitDefEqProofs only [go_sem, mpE_nil, AVal.int.injEq, Int.natCast_zero, List.replicate_zero, List.length_take, List.length_drop, AVal.own.injEq, reduceCtorEq, Int.reduceAdd, hw7] <;> omega)
      · obtain rfl := for_nil hJ7 (fun hl => by have := of_decide_eq_false hc; omega)
        have h := on_next hO7; try dsimp only at h
        have hkl : x_4.Zones.length = k7 := by have := of_decide_eq_false hc; omega
        subst hkl
        refine AWP.exit ?_
        refine qthen_exit ?_
        refine qthen_exit ?_
        refine qblock_same ?_
        refine qthen_normal ?_
        refine AWP.seq ?_
        refine AWP.region rfl ?_; intro K hK
        (try simp +decide -implicitDefEqProofs only [go_sem])
        refine hK _ _ ?_; clear hK K
        refine qthen_normal ?_
        refine AWP.ret ?_
        (try simp +decide -implicitDefEqProofs only [go_sem, Try.results40])
        refine hK _ _ ?_; clear hK K
        refine qblock_normal ?_
        refine qthen_normal ?_
        refine AWP.region rfl ?_; intro K hK
        (try simp +decide -implicitDefEqProofs only [go_sem])
        refine hK _ _ ?_; clear hK K
        refine qthen_normal ?_
        obtain rfl := some_eq h
        refine ⟨(k2 + 1, out6, ver7), ⟨by dsimp only; omega, cont_next hJ2⟩, by dsimp only; omega, ?_, ?_⟩
        · (simp +decide -implicitDefEqProofs only [go_sem, mpE_nil, AVal.int.injEq, Int.natCast_zero, List.replicate_zero, List.length_take, List.length_drop, AVal.own.injEq, reduceCtorEq, Int.reduceAdd, hw2] <;> omega)
        · (simp +decide -implicitDefEqProofs only [go_sem, mpE_nil, AVal.int.injEq, Int.natCast_zero, List.replicate_zero, List.length_take, List.length_drop, AVal.own.injEq, reduceCtorEq, Int.reduceAdd, hw2] <;> omega)
    replace h := bif_f h hc
    refine AWP.skip ?_
    refine qblock_normal ?_
    refine qthen_normal ?_
    refine AWP.region rfl ?_; intro K hK
    (try simp +decide -implicitDefEqProofs only [go_sem])
    refine hK _ _ ?_; clear hK K
    refine qthen_normal ?_
    obtain rfl := some_eq h
    refine ⟨(k2 + 1, out1, ver2), ⟨by dsimp only; omega, cont_next hJ2⟩, by dsimp only; omega, ?_, ?_⟩
    · (simp +decide -implicitDefEqProofs only [go_sem, mpE_nil, AVal.int.injEq, Int.natCast_zero, List.replicate_zero, List.length_take, List.length_drop, AVal.own.injEq, reduceCtorEq, Int.reduceAdd, hw2] <;> omega)
    · (simp +decide -implicitDefEqProofs only [go_sem, mpE_nil, AVal.int.injEq, Int.natCast_zero, List.replicate_zero, List.length_take, List.length_drop, AVal.own.injEq, reduceCtorEq, Int.reduceAdd, hw2] <;> omega)
  · obtain rfl := for_nil hJ2 (fun hl => by have := of_decide_eq_false hc; omega)
    have h := on_next hO2; try dsimp only at h
    have hkl : l.length = k2 := by have := of_decide_eq_false hc; omega
    subst hkl
    refine AWP.exit ?_
    refine qthen_exit ?_
    refine qthen_exit ?_
    refine qblock_same ?_
    refine qthen_normal ?_
    refine AWP.seq ?_
    refine AWP.region rfl ?_; intro K hK
    (try simp +decide -implicitDefEqProofs only [go_sem])
    refine hK _ _ ?_; clear hK K
    refine qthen_normal ?_
    refine AWP.ret ?_
    obtain rfl := some_eq h
    simp +decide -implicitDefEqProofs only [go_sem, mpE_nil, AVal.int.injEq, Int.natCast_zero, List.replicate_zero, List.length_take, List.length_drop, AVal.own.injEq, reduceCtorEq, Int.reduceAdd, nle2, nle1, nle0, nleA, nleL, Try.results26]
theorem ref50_Zones_spec (l : List ApiSlide) (levels : List Int) {r : (List Int)} (h : ref50_Zones l levels = some r) : PureFn Try.prog 26 [.sl 6 (l.map encApiSlide), .sl 1 (levels.map intC)] (· = .sl 1 (r.map intC)) := (ref50_Zones_fresh l levels h).pure

def ref50_Lifts_b5 (at_10 : Int) (sv : Int × (List Int)) : Option (Out (Int × (List Int)) (Out ((List Int)) (Out ((List Int)) ((List Int))))) :=
  (bif (decide (at_10 < sv.1)) then (idxL sv.2 (IntKind.i64.wrap (sv.1 - (1 : Int)))).bind fun x_17 => (idxL sv.2 sv.1).bind fun x_18 => (idxL (sv.2.set sv.1.toNat x_17) (IntKind.i64.wrap (sv.1 - (1 : Int)))).bind fun x_20 => some (Out.next ((IntKind.i64.wrap (sv.1 - (1 : Int))), ((sv.2.set sv.1.toNat x_17).set (IntKind.i64.wrap (sv.1 - (1 : Int))).toNat x_18))) else some (Out.ret (Out.next sv.2)))

def ref50_Lifts_j4 (out6 : List Int) (x_9 : Int) (at_10 : Int) : Option (Out ((List Int)) (Out ((List Int)) ((List Int)))) :=
  chk (out6.length + 1) ((whileN (ref50_Lifts_b5 at_10) fuel ((IntKind.i64.wrap ((((out6.length + 1) : Nat) : Int) - (1 : Int))), (out6 ++ [x_9]))).bind fun o15 => o15.on fun _ => none)

def ref50_Lifts_j3 (out6 : List Int) (x_9 : Int) (at_10 : Int) : Option (Out ((List Int)) (Out ((List Int)) ((List Int)))) :=
  (bif (decide (at_10 < ((out6.length : Nat) : Int))) then (idxL out6 at_10).bind fun x_22 => (bif (decide (x_22 = x_9)) then some (Out.next out6) else ref50_Lifts_j4 out6 x_9 at_10) else ref50_Lifts_j4 out6 x_9 at_10)

def ref50_Lifts_b6 (out6 : List Int) (x_9 : Int) (sv : Int) : Option (Out (Int) (Out ((List Int)) (Out ((List Int)) ((List Int))))) :=
  (bif (decide (sv < ((out6.length : Nat) : Int))) then (idxL out6 sv).bind fun x_25 => (bif (decide (x_25 < x_9)) then some (Out.next (IntKind.i64.wrap (sv + (1 : Int)))) else (ref50_Lifts_j3 out6 x_9 sv).bind fun q25 => some (Out.ret q25)) else (bif false then some (Out.next (IntKind.i64.wrap (sv + (1 : Int)))) else (ref50_Lifts_j3 out6 x_9 sv).bind fun q26 => some (Out.ret q26)))

def ref50_Lifts_b2 (k7 : Nat) (x_9 : Int) (sv : (List Int)) : Option (Out ((List Int)) (Out ((List Int)) ((List Int)))) :=
  (whileN (ref50_Lifts_b6 sv x_9) fuel (0 : Int)).bind fun o23 => o23.on fun _ => none

def ref50_Lifts_b1 (levels : List Int) (k2 : Nat) (x_4 : ApiSlide) (sv : (List Int)) : Option (Out ((List Int)) ((List Int))) :=
  (ref50_Unstable x_4 levels).bind fun y5 => (bif y5 then (forIx ref50_Lifts_b2 0 x_4.Lifts sv).bind fun o7 => o7.on fun s7 => some (Out.next s7) else some (Out.next sv))

def ref50_Lifts (l : List ApiSlide) (levels : List Int) : Option ((List Int)) :=
  (forIx (ref50_Lifts_b1 levels) 0 l []).bind fun o2 => o2.on fun s2 => some s2

theorem ref50_Lifts_fresh (l : List ApiSlide) (levels : List Int) {r : (List Int)} (h : ref50_Lifts l levels = some r) : FreshFn Try.prog 28 [.sl 6 (l.map encApiSlide), .sl 1 (levels.map intC)] (· = .sl 1 (r.map intC)) := by
  refine FreshFn.nle (FreshFn.intro Try.func28 rfl rfl (by show _ ≤ 27; simp) ?_)
  unfold ref50_Lifts at h
  (try simp +decide -implicitDefEqProofs only [go_sem])
  refine AWP.seq ?_
  refine AWP.region rfl ?_; intro K hK
  (try simp +decide -implicitDefEqProofs only [go_sem])
  refine hK _ _ ?_; clear hK K
  refine qthen_normal ?_
  refine AWP.seq ?_
  refine AWP.region rfl ?_; intro K hK
  (try simp +decide -implicitDefEqProofs only [go_sem])
  refine hK _ _ ?_; clear hK K
  refine qthen_normal ?_
  refine AWP.seq ?_
  refine AWP.seq ?_
  refine AWP.region rfl ?_; intro K hK
  (try simp +decide -implicitDefEqProofs only [go_sem])
  refine hK _ _ ?_; clear hK K
  refine qthen_normal ?_
  refine AWP.block ?_
  refine AWP.ghost 5 1 rfl (by decide) ?_
  obtain ⟨o2, hJ2, hO2⟩ := bindE h
  clear h
  refine AWP.loopW (ι := Nat × ((List Int)) × (Nat)) (fun zz => [(0, .sl 6 (l.map encApiSlide)), (1, .sl 1 (levels.map intC)), (5, .own 0 zz.2.2 0 zz.2.1.length), (6, .int .i64 ((zz.1 : Nat) : Int))]) (fun zz => [.row zz.2.2 1 (zz.2.1.map intC)]) (fun zz => zz.1 ≤ l.length ∧ forIx (ref50_Lifts_b1 levels) zz.1 ((l).drop zz.1) zz.2.1 = some o2) (fun zz => l.length - zz.1) (0, [], 0) ⟨Nat.zero_le _, hJ2⟩ (by (simp +decide -implicitDefEqProofs only [go_sem, mpE_nil, AVal.int.injEq, Int.natCast_zero, List.replicate_zero, List.length_take, List.length_drop, AVal.own.injEq, reduceCtorEq, Int.reduceAdd] <;> omega)) (by (simp +decide -implicitDefEqProofs only [go_sem, mpE_nil, AVal.int.injEq, Int.natCast_zero, List.replicate_zero, List.length_take, List.length_drop, AVal.own.injEq, reduceCtorEq, Int.reduceAdd] <;> omega)) (fun x => ⟨rfl, rfl, rfl⟩) ?_
  clear hJ2
  rintro ⟨k2, out1, ver2⟩ ⟨hk2, hJ2⟩
  dsimp only at hk2 hJ2 ⊢
  refine AWP.seq ?_
  refine AWP.seq ?_
  refine AWP.region rfl ?_; intro K hK
  (try simp +decide -implicitDefEqProofs only [go_sem])
  intro hm
  refine hK _ _ ?_; clear hK K
  refine qthen_normal ?_
  refine AWP.cond (acond_split (fun hc => ?_) (fun hc => ?_))
  · have hlt2 : k2 < l.length := by have := of_decide_eq_true hc; omega
    obtain ⟨x_4, b2, hx2_, h, hJ2⟩ := for_cons hJ2 hlt2
    have hx2 := idxL_nat hx2_
    have hw2 : IntKind.i64.wrap (((k2 : Nat) : Int) + 1) = (((k2 : Nat) : Int) + (1 : Int)) := by rw [wrap_i64] <;> omega
    unfold ref50_Lifts_b1 at h; try dsimp only at h
    refine AWP.skip ?_
    refine qthen_normal ?_
    refine AWP.seq ?_
    refine AWP.block ?_
    refine AWP.seq ?_
    refine AWP.region rfl ?_; intro K hK
    (try simp +decide -implicitDefEqProofs only [go_sem])
    refine AIdx.of (f := encApiSlide) (l := l) hx2 ?_
    (try simp +decide -implicitDefEqProofs only [go_sem])
    obtain ⟨y5, hy5, h⟩ := bindE h
    refine ACall.pure Try.call23 (ref50_Unstable_spec x_4 levels hy5) rfl fun _ hr => ?_
    subst hr
    (try simp +decide -implicitDefEqProofs only [go_sem])
    refine hK _ _ ?_; clear hK K
    refine qthen_normal ?_
    refine AWP.cond (acond_split (fun hc => ?_) (fun hc => ?_))
    · replace h := bif_t h hc
      refine AWP.region rfl ?_; intro K hK
      (try simp +decide -implicitDefEqProofs only [go_sem])
      refine AIdx.of (f := encApiSlide) (l := l) hx2 ?_
      (try simp +decide -implicitDefEqProofs only [go_sem])
      refine ACall.inline Try.call40 Try.func40 rfl rfl (by show _ ≤ 78; simp) ?_
      (try simp +decide -implicitDefEqProofs only [go_sem])
      refine AWP.seq ?_
      refine AWP.region rfl ?_; intro K hK
      (try simp +decide -implicitDefEqProofs only [go_sem])
      refine hK _ _ ?_; clear hK K
      refine qthen_normal ?_
      refine AWP.seq ?_
      refine AWP.seq ?_
      refine AWP.region rfl ?_; intro K hK
      (try simp +decide -implicitDefEqProofs only [go_sem])
      refine hK _ _ ?_; clear hK K
      refine qthen_normal ?_
      refine AWP.block ?_
      obtain ⟨o7, hJ7, hO7⟩ := bindE h
      clear h
      refine AWP.loopW (ι := Nat × ((List Int)) × (Nat)) (fun zz => [(0, .own 0 zz.2.2 0 zz.2.1.length), (1, .sl 1 (x_4.Lifts.map intC)), (5, .int .i64 ((zz.1 : Nat) : Int))]) (fun zz => [.row zz.2.2 1 (zz.2.1.map intC)]) (fun zz => zz.1 ≤ x_4.Lifts.length ∧ forIx ref50_Lifts_b2 zz.1 ((x_4.Lifts).drop zz.1) zz.2.1 = some o7) (fun zz => x_4.Lifts.length - zz.1) (0, out1, ver2) ⟨Nat.zero_le _, hJ7⟩ (by (simp +decide -implicitDefEqProofs only [go_sem, mpE_nil, AVal.int.injEq, Int.natCast_zero, List.replicate_zero, List.length_take, List.length_drop, AVal.own.injEq, reduceCtorEq, Int.reduceAdd] <;> omega)) (by (simp +decide -implicitDefEqProofs only [go_sem, mpE_nil, AVal.int.injEq, Int.natCast_zero, List.replicate_zero, List.length_take, List.length_drop, AVal.own.injEq, reduceCtorEq, Int.reduceAdd] <;> omega)) (fun x => ⟨rfl, rfl, rfl⟩) ?_
      clear hJ7
      rintro ⟨k7, out6, ver7⟩ ⟨hk7, hJ7⟩
      dsimp only at hk7 hJ7 ⊢
      refine AWP.seq ?_
      refine AWP.seq ?_
      refine AWP.region rfl ?_; intro K hK
      (try simp +decide -implicitDefEqProofs only [go_sem])
      intro hm
      refine hK _ _ ?_; clear hK K
      refine qthen_normal ?_
      refine AWP.cond (acond_split (fun hc => ?_) (fun hc => ?_))
      · have hlt7 : k7 < x_4.Lifts.length := by have := of_decide_eq_true hc; omega
        obtain ⟨x_9, b7, hx7_, h, hJ7⟩ := for_cons hJ7 hlt7
        have hx7 := idxL_nat hx7_
        have hw7 : IntKind.i64.wrap (((k7 : Nat) : Int) + 1) = (((k7 : Nat) : Int) + (1 : Int)) := by rw [wrap_i64] <;> omega
        unfold ref50_Lifts_b2 at h; try dsimp only at h
        refine AWP.skip ?_
        refine qthen_normal ?_
        refine AWP.seq ?_
        refine AWP.block ?_
        refine AWP.seq ?_
        refine AWP.region rfl ?_; intro K hK
        (try simp +decide -implicitDefEqProofs only [go_sem])
        refine hK _ _ ?_; clear hK K
        refine qthen_normal ?_
        refine AWP.seqJoin (ι := (Int) × (Unit)) (fun zz => [(0, .own 0 ver7 0 out6.length), (1, .sl 1 (x_4.Lifts.map intC)), (5, .int .i64 ((k7 : Nat) : Int)), (6, .int .i64 zz.1)]) (fun zz => [.row ver7 1 (out6.map intC)]) (fun zz => ref50_Lifts_j3 out6 x_9 zz.1 = some b7) (fun zz => ⟨rfl, rfl, rfl⟩) ?_ ?_
        · refine AWP.block ?_
          obtain ⟨o23, hJ23, hO23⟩ := bindE h
          clear h
          refine AWP.loopW (ι := Nat × (Int) × (Unit)) (fun zz => [(0, .own 0 ver7 0 out6.length), (1, .sl 1 (x_4.Lifts.map intC)), (5, .int .i64 ((k7 : Nat) : Int)), (6, .int .i64 zz.2.1)]) (fun zz => [.row ver7 1 (out6.map intC)]) (fun zz => whileN (ref50_Lifts_b6 out6 x_9) zz.1 zz.2.1 = some o23) (fun zz => zz.1) (fuel, (0 : Int), ()) hJ23 (by (simp +decide -implicitDefEqProofs only [go_sem, mpE_nil, AVal.int.injEq, Int.natCast_zero, List.replicate_zero, List.length_take, List.length_drop, AVal.own.injEq, reduceCtorEq, Int.reduceAdd] <;> omega)) (by (simp +decide -implicitDefEqProofs only [go_sem, mpE_nil, AVal.int.injEq, Int.natCast_zero, List.replicate_zero, List.length_take, List.length_drop, AVal.own.injEq, reduceCtorEq, Int.reduceAdd] <;> omega)) (fun x => ⟨rfl, rfl, rfl⟩) ?_
          clear hJ23
          rintro ⟨n23, at_23, ⟨⟩⟩ hJ23
          dsimp only at hJ23 ⊢
          obtain ⟨m23, b23, rfl, h, hJ23⟩ := while_step hJ23
          unfold ref50_Lifts_b6 at h; try dsimp only at h
          refine AWP.seq ?_
          refine AWP.seq ?_
          refine AWP.draw Try.mixed (by kernel_rfl) ?_; intro K hK
          (try simp +decide -implicitDefEqProofs only [go_sem])
          intro hm
          refine aguardK_split (fun hc => ?_) (fun hc => ?_)
          · replace h := bif_t h hc
            (try simp +decide -implicitDefEqProofs only [go_sem, hc])
            obtain ⟨x_25, hx_25, h⟩ := bindE h
            refine own_in hx_25 (by first | rfl | exact (sortI_len _).symm | (simp only [List.length_append, List.length_cons, List.length_nil, List.length_set, List.length_replicate] <;> omega)) ?_
            (try simp +decide -implicitDefEqProofs only [go_sem])
            refine AElem.of (f := intC) (l := out6) (n := at_23) hx_25 ?_
            (try simp +decide -implicitDefEqProofs only [go_sem])
            refine AIdx.of (f := intC) (l := x_4.Lifts) hx7 ?_
            (try simp +decide -implicitDefEqProofs only [go_sem])
            refine hK _ _ _ (by kernel_rfl) ?_; clear hK K
            refine qthen_normal ?_
            refine AWP.cond (acond_split (fun hc => ?_) (fun hc => ?_))
            · replace h := bif_t h hc
              refine AWP.skip ?_
              refine qthen_normal ?_
              refine AWP.block ?_
              refine AWP.region rfl ?_; intro K hK
              (try simp +decide -implicitDefEqProofs only [go_sem])
              refine hK _ _ ?_; clear hK K
              refine qblock_normal ?_
              refine qthen_normal ?_
              obtain rfl := some_eq h
              refine ⟨(m23, (IntKind.i64.wrap (at_23 + (1 : Int))), ()), cont_next hJ23, by dsimp only; omega, ?_, ?_⟩
              · (simp +decide -implicitDefEqProofs only [go_sem, mpE_nil, AVal.int.injEq, Int.natCast_zero, List.replicate_zero, List.length_take, List.length_drop, AVal.own.injEq, reduceCtorEq, Int.reduceAdd] <;> omega)
              · (simp +decide -implicitDefEqProofs only [go_sem, mpE_nil, AVal.int.injEq, Int.natCast_zero, List.replicate_zero, List.length_take, List.length_drop, AVal.own.injEq, reduceCtorEq, Int.reduceAdd] <;> omega)
            replace h := bif_f h hc
            refine AWP.exit ?_
            refine qthen_exit ?_
            refine qthen_exit ?_
            obtain ⟨q25, hq, h⟩ := bindE h
            obtain rfl := some_eq h
            obtain rfl := cont_ret hJ23
            replace h := hq.trans (on_ret hO23)
            refine qblock_same ?_
            refine qthen_normal ?_
            exact ⟨(at_23, ()), h, by (simp +decide -implicitDefEqProofs only [go_sem, mpE_nil, AVal.int.injEq, Int.natCast_zero, List.replicate_zero, List.length_take, List.length_drop, AVal.own.injEq, reduceCtorEq, Int.reduceAdd] <;> omega), by (simp +decide -implicitDefEqProofs only [go_sem, mpE_nil, AVal.int.injEq, Int.natCast_zero, List.replicate_zero, List.length_take, List.length_drop, AVal.own.injEq, reduceCtorEq, Int.reduceAdd] <;> omega)⟩
          · replace h := bif_f h hc
            (try simp +decide -implicitDefEqProofs only [go_sem, hc, Bool.not_true])
            refine hK _ _ _ (by kernel_rfl) ?_; clear hK K
            refine qthen_normal ?_
            refine AWP.cond (acond_split (fun hc => ?_) (fun hc => ?_))
            · replace h := bif_t h hc
              refine AWP.skip ?_
              refine qthen_normal ?_
              refine AWP.block ?_
              refine AWP.region rfl ?_; intro K hK
              (try simp +decide -implicitDefEqProofs only [go_sem])
              refine hK _ _ ?_; clear hK K
              refine qblock_normal ?_
              refine qthen_normal ?_
              obtain rfl := some_eq h
              refine ⟨(m23, (IntKind.i64.wrap (at_23 + (1 : Int))), ()), cont_next hJ23, by dsimp only; omega, ?_, ?_⟩
              · (simp +decide -implicitDefEqProofs only [go_sem, mpE_nil, AVal.int.injEq, Int.natCast_zero, List.replicate_zero, List.length_take, List.length_drop, AVal.own.injEq, reduceCtorEq, Int.reduceAdd] <;> omega)
              · (simp +decide -implicitDefEqProofs only [go_sem, mpE_nil, AVal.int.injEq, Int.natCast_zero, List.replicate_zero, List.length_take, List.length_drop, AVal.own.injEq, reduceCtorEq, Int.reduceAdd] <;> omega)
            replace h := bif_f h hc
            refine AWP.exit ?_
            refine qthen_exit ?_
            refine qthen_exit ?_
            obtain ⟨q26, hq, h⟩ := bindE h
            obtain rfl := some_eq h
            obtain rfl := cont_ret hJ23
            replace h := hq.trans (on_ret hO23)
            refine qblock_same ?_
            refine qthen_normal ?_
            exact ⟨(at_23, ()), h, by (simp +decide -implicitDefEqProofs only [go_sem, mpE_nil, AVal.int.injEq, Int.natCast_zero, List.replicate_zero, List.length_take, List.length_drop, AVal.own.injEq, reduceCtorEq, Int.reduceAdd] <;> omega), by (simp +decide -implicitDefEqProofs only [go_sem, mpE_nil, AVal.int.injEq, Int.natCast_zero, List.replicate_zero, List.length_take, List.length_drop, AVal.own.injEq, reduceCtorEq, Int.reduceAdd] <;> omega)⟩
        · rintro ⟨at_10, ⟨⟩⟩ h
          try dsimp only at h ⊢
          unfold ref50_Lifts_j3 at h; try dsimp only at h
          refine AWP.seqJoin (ι := (Unit) × (Unit)) (fun zz => [(0, .own 0 ver7 0 out6.length), (1, .sl 1 (x_4.Lifts.map intC)), (5, .int .i64 ((k7 : Nat) : Int)), (6, .int .i64 at_10)]) (fun zz => [.row ver7 1 (out6.map intC)]) (fun zz => ref50_Lifts_j4 out6 x_9 at_10 = some b7) (fun zz => ⟨rfl, rfl, rfl⟩) ?_ ?_
          · refine AWP.seq ?_
            refine AWP.draw Try.mixed (by kernel_rfl) ?_; intro K hK
            (try simp +decide -implicitDefEqProofs only [go_sem])
            intro hm
            refine aguardK_split (fun hc => ?_) (fun hc => ?_)
            · replace h := bif_t h hc
              (try simp +decide -implicitDefEqProofs only [go_sem, hc])
              obtain ⟨x_22, hx_22, h⟩ := bindE h
              refine own_in hx_22 (by first | rfl | exact (sortI_len _).symm | (simp only [List.length_append, List.length_cons, List.length_nil, List.length_set, List.length_replicate] <;> omega)) ?_
              (try simp +decide -implicitDefEqProofs only [go_sem])
              refine AElem.of (f := intC) (l := out6) (n := at_10) hx_22 ?_
              (try simp +decide -implicitDefEqProofs only [go_sem])
              refine AIdx.of (f := intC) (l := x_4.Lifts) hx7 ?_
              (try simp +decide -implicitDefEqProofs only [go_sem])
              refine hK _ _ _ (by kernel_rfl) ?_; clear hK K
              refine qthen_normal ?_
              refine AWP.cond (acond_split (fun hc => ?_) (fun hc => ?_))
              · replace h := bif_t h hc
                refine AWP.exit ?_
                refine qthen_exit ?_
                refine qblock_same ?_
                refine qthen_normal ?_
                refine AWP.region rfl ?_; intro K hK
                (try simp +decide -implicitDefEqProofs only [go_sem])
                refine hK _ _ ?_; clear hK K
                refine qthen_normal ?_
                obtain rfl := some_eq h
                refine ⟨(k7 + 1, out6, ver7), ⟨by dsimp only; omega, cont_next hJ7⟩, by dsimp only; omega, ?_, ?_⟩
                · (simp +decide -implicitDefEqProofs only [go_sem, mpE_nil, AVal.int.injEq, Int.natCast_zero, List.replicate_zero, List.length_take, List.length_drop, AVal.own.injEq, reduceCtorEq, Int.reduceAdd, hw7] <;> omega)
                · (simp +decide -implicitDefEqProofs only [go_sem, mpE_nil, AVal.int.injEq, Int.natCast_zero, List.replicate_zero, List.length_take, List.length_drop, AVal.own.injEq, reduceCtorEq, Int.reduceAdd, hw7] <;> omega)
              replace h := bif_f h hc
              refine AWP.skip ?_
              refine qthen_normal ?_
              exact ⟨((), ()), h, by (simp +decide -implicitDefEqProofs only [go_sem, mpE_nil, AVal.int.injEq, Int.natCast_zero, List.replicate_zero, List.length_take, List.length_drop, AVal.own.injEq, reduceCtorEq, Int.reduceAdd] <;> omega), by (simp +decide -implicitDefEqProofs only [go_sem, mpE_nil, AVal.int.injEq, Int.natCast_zero, List.replicate_zero, List.length_take, List.length_drop, AVal.own.injEq, reduceCtorEq, Int.reduceAdd] <;> omega)⟩
            · replace h := bif_f h hc
              (try simp +decide -implicitDefEqProofs only [go_sem, hc, Bool.not_true])
              refine hK _ _ _ (by kernel_rfl) ?_; clear hK K
              refine qthen_normal ?_
              refine AWP.cond (acond_false ?_)
              refine AWP.skip ?_
              refine qthen_normal ?_
              exact ⟨((), ()), h, by (simp +decide -implicitDefEqProofs only [go_sem, mpE_nil, AVal.int.injEq, Int.natCast_zero, List.replicate_zero, List.length_take, List.length_drop, AVal.own.injEq, reduceCtorEq, Int.reduceAdd] <;> omega), by (simp +decide -implicitDefEqProofs only [go_sem, mpE_nil, AVal.int.injEq, Int.natCast_zero, List.replicate_zero, List.length_take, List.length_drop, AVal.own.injEq, reduceCtorEq, Int.reduceAdd] <;> omega)⟩
          · rintro ⟨⟨⟩, ⟨⟩⟩ h
            try dsimp only at h ⊢
            unfold ref50_Lifts_j4 at h; try dsimp only at h
            refine AWP.seq ?_
            refine AWP.region rfl ?_; intro K hK
            (try simp +decide -implicitDefEqProofs only [go_sem])
            refine AIdx.of (f := intC) (l := x_4.Lifts) hx7 ?_
            (try simp +decide -implicitDefEqProofs only [go_sem])
            obtain ⟨hk, h⟩ := chk_in h
            (repeat (refine ⟨by first | omega | (simp only [List.length_take, List.length_drop, List.length_append]; omega), ?_⟩)); try simp +decide -implicitDefEqProofs only [go_sem]
            refine hK _ _ ?_; clear hK K
            refine qthen_normal ?_
            refine AWP.seq ?_
            refine AWP.region rfl ?_; intro K hK
            (try simp +decide -implicitDefEqProofs only [go_sem])
            intro hm
            refine hK _ _ ?_; clear hK K
            refine qthen_normal ?_
            refine AWP.block ?_
            obtain ⟨o15, hJ15, hO15⟩ := bindE h
            clear h
            refine AWP.loopW (ι := Nat × (Int × (List Int)) × (Nat)) (fun zz => [(0, .own 0 zz.2.2 0 zz.2.1.2.length), (1, .sl 1 (x_4.Lifts.map intC)), (5, .int .i64 ((k7 : Nat) : Int)), (6, .int .i64 at_10), (7, .int .i64 zz.2.1.1)]) (fun zz => [.row zz.2.2 1 (zz.2.1.2.map intC)]) (fun zz => whileN (ref50_Lifts_b5 at_10) zz.1 zz.2.1 = some o15) (fun zz => zz.1) (fuel, ((IntKind.i64.wrap ((((out6.length + 1) : Nat) : Int) - (1 : Int))), (out6 ++ [x_9])), (ver7 + 1)) hJ15 (by (simp +decide -implicitDefEqProofs only [go_sem, mpE_nil, AVal.int.injEq, Int.natCast_zero, List.replicate_zero, List.length_take, List.length_drop, AVal.own.injEq, reduceCtorEq, Int.reduceAdd] <;> omega)) (by (simp +decide -implicitDefEqProofs only [go_sem, mpE_nil, AVal.int.injEq, Int.natCast_zero, List.replicate_zero, List.length_take, List.length_drop, AVal.own.injEq, reduceCtorEq, Int.reduceAdd] <;> omega)) (fun x => ⟨rfl, rfl, rfl⟩) ?_
            clear hJ15
            rintro ⟨n15, ⟨k_13, out14⟩, ver15⟩ hJ15
            dsimp only at hJ15 ⊢
            obtain ⟨m15, b15, rfl, h, hJ15⟩ := while_step hJ15
            unfold ref50_Lifts_b5 at h; try dsimp only at h
            refine AWP.seq ?_
            refine AWP.seq ?_
            refine AWP.region rfl ?_; intro K hK
            (try simp +decide -implicitDefEqProofs only [go_sem])
            refine hK _ _ ?_; clear hK K
            refine qthen_normal ?_
            refine AWP.cond (acond_split (fun hc => ?_) (fun hc => ?_))
            · replace h := bif_t h hc
              refine AWP.skip ?_
              refine qthen_normal ?_
              refine AWP.seq ?_
              refine AWP.block ?_
              refine AWP.draw Try.mixed (by kernel_rfl) ?_; intro K hK
              (try simp +decide -implicitDefEqProofs only [go_sem])
              obtain ⟨x_17, hx_17, h⟩ := bindE h
              refine own_in hx_17 (by first | rfl | exact (sortI_len _).symm | (simp only [List.length_append, List.length_cons, List.length_nil, List.length_set, List.length_replicate] <;> omega)) ?_
              (try simp +decide -implicitDefEqProofs only [go_sem])
              refine AElem.of (f := intC) (l := out14) (n := (IntKind.i64.wrap (k_13 - (1 : Int)))) hx_17 ?_
              (try simp +decide -implicitDefEqProofs only [go_sem])
              obtain ⟨x_18, hx_18, h⟩ := bindE h
              refine own_in hx_18 (by first | rfl | exact (sortI_len _).symm | (simp only [List.length_append, List.length_cons, List.length_nil, List.length_set, List.length_replicate] <;> omega)) ?_
              (try simp +decide -implicitDefEqProofs only [go_sem])
              refine AElem.of (f := intC) (l := out14) (n := k_13) hx_18 ?_
              (try simp +decide -implicitDefEqProofs only [go_sem])
              refine own_in hx_18 (by first | rfl | exact (sortI_len _).symm | (simp only [List.length_append, List.length_cons, List.length_nil, List.length_set, List.length_replicate] <;> omega)) ?_
              (try simp +decide -implicitDefEqProofs only [go_sem])
              refine AElem.of (f := intC) (l := out14) (n := k_13) hx_18 ?_
              have hs19 := idxL_set (y := x_17) hx_18
              (try simp +decide -implicitDefEqProofs only [go_sem])
              obtain ⟨x_20, hx_20, h⟩ := bindE h
              refine own_in hx_20 (by first | rfl | exact (sortI_len _).symm | (simp only [List.length_append, List.length_cons, List.length_nil, List.length_set, List.length_replicate] <;> omega)) ?_
              (try simp +decide -implicitDefEqProofs only [go_sem])
              refine AElem.of (f := intC) (l := (out14.set k_13.toNat x_17)) (n := (IntKind.i64.wrap (k_13 - (1 : Int)))) hx_20 ?_
              have hs21 := idxL_set (y := x_18) hx_20
              (try simp +decide -implicitDefEqProofs only [go_sem])
              refine hK _ _ _ (by kernel_rfl) ?_; clear hK K
              refine qblock_normal ?_
              refine qthen_normal ?_
              refine AWP.region rfl ?_; intro K hK
              (try simp +decide -implicitDefEqProofs only [go_sem])
              refine hK _ _ ?_; clear hK K
              refine qthen_normal ?_
              obtain rfl := some_eq h
              refine ⟨(m15, ((IntKind.i64.wrap (k_13 - (1 : Int))), ((out14.set k_13.toNat x_17).set (IntKind.i64.wrap (k_13 - (1 : Int))).toNat x_18)), ver15), cont_next hJ15, by dsimp only; omega, ?_, ?_⟩
              · (simp +decide -implicitDefEqProofs only [go_sem, mpE_nil, AVal.int.injEq, Int.natCast_zero, List.replicate_zero, List.length_take, List.length_drop, AVal.own.injEq, reduceCtorEq, Int.reduceAdd] <;> omega)
              · (simp +decide -implicitDefEqProofs only [go_sem, mpE_nil, AVal.int.injEq, Int.natCast_zero, List.replicate_zero, List.length_take, List.length_drop, AVal.own.injEq, reduceCtorEq, Int.reduceAdd] <;> omega)
            replace h := bif_f h hc
            refine AWP.exit ?_
            refine qthen_exit ?_
            refine qthen_exit ?_
            obtain rfl := some_eq h
            obtain rfl := cont_ret hJ15
            replace h := on_ret hO15
            refine qblock_same ?_
            refine qblock_normal ?_
            refine qthen_normal ?_
            refine AWP.region rfl ?_; intro K hK
            (try simp +decide -implicitDefEqProofs only [go_sem])
            refine hK _ _ ?_; clear hK K
            refine qthen_normal ?_
            obtain rfl := some_eq h
            refine ⟨(k7 + 1, out14, ver15), ⟨by dsimp only; omega, cont_next hJ7⟩, by dsimp only; omega, ?_, ?_⟩
            · (simp +decide -implicitDefEqProofs only [go_sem, mpE_nil, AVal.int.injEq, Int.natCast_zero, List.replicate_zero, List.length_take, List.length_drop, AVal.own.injEq, reduceCtorEq, Int.reduceAdd, hw7] <;> omega)
            · (simp +decide -implicitDefEqProofs only [go_sem, mpE_nil, AVal.int.injEq, Int.natCast_zero, List.replicate_zero, List.length_take, List.length_drop, AVal.own.injEq, reduceCtorEq, Int.reduceAdd, hw7] <;> omega)
      · obtain rfl := for_nil hJ7 (fun hl => by have := of_decide_eq_false hc; omega)
        have h := on_next hO7; try dsimp only at h
        have hkl : x_4.Lifts.length = k7 := by have := of_decide_eq_false hc; omega
        subst hkl
        refine AWP.exit ?_
        refine qthen_exit ?_
        refine qthen_exit ?_
        refine qblock_same ?_
        refine qthen_normal ?_
        refine AWP.seq ?_
        refine AWP.region rfl ?_; intro K hK
        (try simp +decide -implicitDefEqProofs only [go_sem])
        refine hK _ _ ?_; clear hK K
        refine qthen_normal ?_
        refine AWP.ret ?_
        (try simp +decide -implicitDefEqProofs only [go_sem, Try.results40])
        refine hK _ _ ?_; clear hK K
        refine qblock_normal ?_
        refine qthen_normal ?_
        refine AWP.region rfl ?_; intro K hK
        (try simp +decide -implicitDefEqProofs only [go_sem])
        refine hK _ _ ?_; clear hK K
        refine qthen_normal ?_
        obtain rfl := some_eq h
        refine ⟨(k2 + 1, out6, ver7), ⟨by dsimp only; omega, cont_next hJ2⟩, by dsimp only; omega, ?_, ?_⟩
        · (simp +decide -implicitDefEqProofs only [go_sem, mpE_nil, AVal.int.injEq, Int.natCast_zero, List.replicate_zero, List.length_take, List.length_drop, AVal.own.injEq, reduceCtorEq, Int.reduceAdd, hw2] <;> omega)
        · (simp +decide -implicitDefEqProofs only [go_sem, mpE_nil, AVal.int.injEq, Int.natCast_zero, List.replicate_zero, List.length_take, List.length_drop, AVal.own.injEq, reduceCtorEq, Int.reduceAdd, hw2] <;> omega)
    replace h := bif_f h hc
    refine AWP.skip ?_
    refine qblock_normal ?_
    refine qthen_normal ?_
    refine AWP.region rfl ?_; intro K hK
    (try simp +decide -implicitDefEqProofs only [go_sem])
    refine hK _ _ ?_; clear hK K
    refine qthen_normal ?_
    obtain rfl := some_eq h
    refine ⟨(k2 + 1, out1, ver2), ⟨by dsimp only; omega, cont_next hJ2⟩, by dsimp only; omega, ?_, ?_⟩
    · (simp +decide -implicitDefEqProofs only [go_sem, mpE_nil, AVal.int.injEq, Int.natCast_zero, List.replicate_zero, List.length_take, List.length_drop, AVal.own.injEq, reduceCtorEq, Int.reduceAdd, hw2] <;> omega)
    · (simp +decide -implicitDefEqProofs only [go_sem, mpE_nil, AVal.int.injEq, Int.natCast_zero, List.replicate_zero, List.length_take, List.length_drop, AVal.own.injEq, reduceCtorEq, Int.reduceAdd, hw2] <;> omega)
  · obtain rfl := for_nil hJ2 (fun hl => by have := of_decide_eq_false hc; omega)
    have h := on_next hO2; try dsimp only at h
    have hkl : l.length = k2 := by have := of_decide_eq_false hc; omega
    subst hkl
    refine AWP.exit ?_
    refine qthen_exit ?_
    refine qthen_exit ?_
    refine qblock_same ?_
    refine qthen_normal ?_
    refine AWP.seq ?_
    refine AWP.region rfl ?_; intro K hK
    (try simp +decide -implicitDefEqProofs only [go_sem])
    refine hK _ _ ?_; clear hK K
    refine qthen_normal ?_
    refine AWP.ret ?_
    obtain rfl := some_eq h
    simp +decide -implicitDefEqProofs only [go_sem, mpE_nil, AVal.int.injEq, Int.natCast_zero, List.replicate_zero, List.length_take, List.length_drop, AVal.own.injEq, reduceCtorEq, Int.reduceAdd, nle2, nle1, nle0, nleA, nleL, Try.results28]
theorem ref50_Lifts_spec (l : List ApiSlide) (levels : List Int) {r : (List Int)} (h : ref50_Lifts l levels = some r) : PureFn Try.prog 28 [.sl 6 (l.map encApiSlide), .sl 1 (levels.map intC)] (· = .sl 1 (r.map intC)) := (ref50_Lifts_fresh l levels h).pure

def law50_AvalancheLists_b1 (levels : List Int) (k2 : Nat) (x_4 : ApiSlide) (sv : Unit) : Option (Out (Unit) (Bool)) :=
  (avalanche_Level x_4 levels).bind fun y5 => (ref50_Level x_4 levels).bind fun y6 => (bif (decide (y5 ≠ y6)) then some (Out.ret false) else (avalanche_Unstable x_4 levels).bind fun y7 => (ref50_Unstable x_4 levels).bind fun y8 => (bif (y7 != y8) then some (Out.ret false) else some (Out.next ())))

def law50_AvalancheLists (l : List ApiSlide) (levels : List Int) : Option (Bool) :=
  (law50_alive).bind fun y1 => (bif (!y1) then some false else (law50_accepted l).bind fun y2 => (bif (!y2) then some true else (bif (decide ((100 : Int) < ((levels.length : Nat) : Int))) then some true else (forIx (law50_AvalancheLists_b1 levels) 0 l ()).bind fun o2 => o2.on fun s2 => (avalanche_Zones l levels).bind fun y9 => (ref50_Zones l levels).bind fun y10 => (ref50_Same y9 y10).bind fun y11 => (bif y11 then (avalanche_Lifts l levels).bind fun y12 => (ref50_Lifts l levels).bind fun y13 => (ref50_Same y12 y13).bind fun y14 => some y14 else some false))))

theorem law50_AvalancheLists_spec (l : List ApiSlide) (levels : List Int) {r : Bool} (h : law50_AvalancheLists l levels = some r) : PureFn Try.prog 6 [.sl 6 (l.map encApiSlide), .sl 1 (levels.map intC)] (· = .bool r) := by
  refine PureFn.nle (PureFn.intro Try.func6 rfl rfl (by show _ ≤ 66; simp) ?_)
  unfold law50_AvalancheLists at h
  (try simp +decide -implicitDefEqProofs only [go_sem])
  refine AWP.seq ?_
  refine AWP.region rfl ?_; intro K hK
  (try simp +decide -implicitDefEqProofs only [go_sem])
  refine hK _ _ ?_; clear hK K
  refine qthen_normal ?_
  refine AWP.seq ?_
  refine AWP.seq ?_
  refine AWP.region rfl ?_; intro K hK
  (try simp +decide -implicitDefEqProofs only [go_sem])
  obtain ⟨y1, hy1, h⟩ := bindE h
  refine ACall.pure Try.call10 (law50_alive_spec hy1) rfl fun _ hr => ?_
  subst hr
  (try simp +decide -implicitDefEqProofs only [go_sem])
  refine hK _ _ ?_; clear hK K
  refine qthen_normal ?_
  refine AWP.cond (acond_split (fun hc => ?_) (fun hc => ?_))
  · replace h := bif_t h hc
    refine AWP.seq ?_
    refine AWP.region rfl ?_; intro K hK
    (try simp +decide -implicitDefEqProofs only [go_sem])
    refine hK _ _ ?_; clear hK K
    refine qthen_normal ?_
    refine AWP.ret ?_
    refine qthen_ret ?_
    obtain rfl := some_eq h
    simp +decide -implicitDefEqProofs only [go_sem, mpE_nil, AVal.int.injEq, Int.natCast_zero, List.replicate_zero, List.length_take, List.length_drop, AVal.own.injEq, reduceCtorEq, Int.reduceAdd, nle2, nle1, nle0, nleA, nleL, Try.results6]
  replace h := bif_f h hc
  refine AWP.skip ?_
  refine qthen_normal ?_
  refine AWP.seq ?_
  refine AWP.seq ?_
  refine AWP.region rfl ?_; intro K hK
  (try simp +decide -implicitDefEqProofs only [go_sem])
  obtain ⟨y2, hy2, h⟩ := bindE h
  refine ACall.pure Try.call14 (law50_accepted_spec l hy2) rfl fun _ hr => ?_
  subst hr
  (try simp +decide -implicitDefEqProofs only [go_sem])
  refine aguardK_split (fun hc => ?_) (fun hc => ?_)
  · replace h := bif_f h hc
    (try simp +decide -implicitDefEqProofs only [go_sem, hc])
    intro hm
    refine hK _ _ ?_; clear hK K
    refine qthen_normal ?_
    refine AWP.cond (acond_split (fun hc => ?_) (fun hc => ?_))
    · replace h := bif_t h hc
      refine AWP.seq ?_
      refine AWP.region rfl ?_; intro K hK
      (try simp +decide -implicitDefEqProofs only [go_sem])
      refine hK _ _ ?_; clear hK K
      refine qthen_normal ?_
      refine AWP.ret ?_
      refine qthen_ret ?_
      obtain rfl := some_eq h
      simp +decide -implicitDefEqProofs only [go_sem, mpE_nil, AVal.int.injEq, Int.natCast_zero, List.replicate_zero, List.length_take, List.length_drop, AVal.own.injEq, reduceCtorEq, Int.reduceAdd, nle2, nle1, nle0, nleA, nleL, Try.results6]
    replace h := bif_f h hc
    refine AWP.skip ?_
    refine qthen_normal ?_
    refine AWP.seq ?_
    refine AWP.seq ?_
    refine AWP.region rfl ?_; intro K hK
    (try simp +decide -implicitDefEqProofs only [go_sem])
    refine hK _ _ ?_; clear hK K
    refine qthen_normal ?_
    refine AWP.block ?_
    obtain ⟨o2, hJ2, hO2⟩ := bindE h
    clear h
    refine AWP.loopW (ι := Nat × (Unit) × (Unit)) (fun zz => [(0, .sl 6 (l.map encApiSlide)), (1, .sl 1 (levels.map intC)), (5, .int .i64 ((zz.1 : Nat) : Int))]) (fun zz => []) (fun zz => zz.1 ≤ l.length ∧ forIx (law50_AvalancheLists_b1 levels) zz.1 ((l).drop zz.1) zz.2.1 = some o2) (fun zz => l.length - zz.1) (0, (), ()) ⟨Nat.zero_le _, hJ2⟩ (by (simp +decide -implicitDefEqProofs only [go_sem, mpE_nil, AVal.int.injEq, Int.natCast_zero, List.replicate_zero, List.length_take, List.length_drop, AVal.own.injEq, reduceCtorEq, Int.reduceAdd] <;> omega)) (by (simp +decide -implicitDefEqProofs only [go_sem, mpE_nil, AVal.int.injEq, Int.natCast_zero, List.replicate_zero, List.length_take, List.length_drop, AVal.own.injEq, reduceCtorEq, Int.reduceAdd] <;> omega)) (fun x => ⟨rfl, rfl, rfl⟩) ?_
    clear hJ2
    rintro ⟨k2, ⟨⟩, ⟨⟩⟩ ⟨hk2, hJ2⟩
    dsimp only at hk2 hJ2 ⊢
    refine AWP.seq ?_
    refine AWP.seq ?_
    refine AWP.region rfl ?_; intro K hK
    (try simp +decide -implicitDefEqProofs only [go_sem])
    intro hm
    refine hK _ _ ?_; clear hK K
    refine qthen_normal ?_
    refine AWP.cond (acond_split (fun hc => ?_) (fun hc => ?_))
    · have hlt2 : k2 < l.length := by have := of_decide_eq_true hc; omega
      obtain ⟨x_4, b2, hx2_, h, hJ2⟩ := for_cons hJ2 hlt2
      have hx2 := idxL_nat hx2_
      have hw2 : IntKind.i64.wrap (((k2 : Nat) : Int) + 1) = (((k2 : Nat) : Int) + (1 : Int)) := by rw [wrap_i64] <;> omega
      unfold law50_AvalancheLists_b1 at h; try dsimp only at h
      refine AWP.skip ?_
      refine qthen_normal ?_
      refine AWP.seq ?_
      refine AWP.block ?_
      refine AWP.seq ?_
      refine AWP.draw Try.mixed (by kernel_rfl) ?_; intro K hK
      (try simp +decide -implicitDefEqProofs only [go_sem])
      refine AIdx.of (f := encApiSlide) (l := l) hx2 ?_
      (try simp +decide -implicitDefEqProofs only [go_sem])
      obtain ⟨y5, hy5, h⟩ := bindE h
      refine DCall.pure Try.call20 (avalanche_Level_spec x_4 levels hy5) rfl ?_
      (try simp +decide -implicitDefEqProofs only [go_sem])
      refine AIdx.of (f := encApiSlide) (l := l) hx2 ?_
      (try simp +decide -implicitDefEqProofs only [go_sem])
      obtain ⟨y6, hy6, h⟩ := bindE h
      refine DCall.pure Try.call21 (ref50_Level_spec x_4 levels hy6) rfl ?_
      (try simp +decide -implicitDefEqProofs only [go_sem])
      refine aguardK_split (fun hc => ?_) (fun hc => ?_)
      · replace h := bif_f h hc
        (try simp +decide -implicitDefEqProofs only [go_sem, hc])
        refine AIdx.of (f := encApiSlide) (l := l) hx2 ?_
        (try simp +decide -implicitDefEqProofs only [go_sem])
        obtain ⟨y7, hy7, h⟩ := bindE h
        refine DCall.pure Try.call22 (avalanche_Unstable_spec x_4 levels hy7) rfl ?_
        (try simp +decide -implicitDefEqProofs only [go_sem])
        refine AIdx.of (f := encApiSlide) (l := l) hx2 ?_
        (try simp +decide -implicitDefEqProofs only [go_sem])
        obtain ⟨y8, hy8, h⟩ := bindE h
        refine DCall.pure Try.call23 (ref50_Unstable_spec x_4 levels hy8) rfl ?_
        (try simp +decide -implicitDefEqProofs only [go_sem])
        refine hK _ _ _ (by kernel_rfl) ?_; clear hK K
        refine qthen_normal ?_
        refine AWP.cond (acond_split (fun hc => ?_) (fun hc => ?_))
        · replace h := bif_t h hc
          refine AWP.seq ?_
          refine AWP.region rfl ?_; intro K hK
          (try simp +decide -implicitDefEqProofs only [go_sem])
          refine hK _ _ ?_; clear hK K
          refine qthen_normal ?_
          refine AWP.ret ?_
          refine qblock_ret ?_
          refine qthen_ret ?_
          refine qthen_ret ?_
          obtain rfl := some_eq h
          obtain rfl := cont_ret hJ2
          replace h := on_ret hO2
          refine qblock_ret ?_
          refine qthen_ret ?_
          obtain rfl := some_eq h
          simp +decide -implicitDefEqProofs only [go_sem, mpE_nil, AVal.int.injEq, Int.natCast_zero, List.replicate_zero, List.length_take, List.length_drop, AVal.own.injEq, reduceCtorEq, Int.reduceAdd, nle2, nle1, nle0, nleA, nleL, Try.results6]
        replace h := bif_f h hc
        refine AWP.skip ?_
        refine qblock_normal ?_
        refine qthen_normal ?_
        refine AWP.region rfl ?_; intro K hK
        (try simp +decide -implicitDefEqProofs only [go_sem])
        refine hK _ _ ?_; clear hK K
        refine qthen_normal ?_
        obtain rfl := some_eq h
        refine ⟨(k2 + 1, (), ()), ⟨by dsimp only; omega, cont_next hJ2⟩, by dsimp only; omega, ?_, ?_⟩
        · (simp +decide -implicitDefEqProofs only [go_sem, mpE_nil, AVal.int.injEq, Int.natCast_zero, List.replicate_zero, List.length_take, List.length_drop, AVal.own.injEq, reduceCtorEq, Int.reduceAdd, hw2] <;> omega)
        · (simp +decide -implicitDefEqProofs only [go_sem, mpE_nil, AVal.int.injEq, Int.natCast_zero, List.replicate_zero, List.length_take, List.length_drop, AVal.own.injEq, reduceCtorEq, Int.reduceAdd, hw2] <;> omega)
      · replace h := bif_t h hc
        (try simp +decide -implicitDefEqProofs only [go_sem, hc, Bool.not_false])
        refine hK _ _ _ (by kernel_rfl) ?_; clear hK K
        refine qthen_normal ?_
        refine AWP.cond (acond_true ?_)
        refine AWP.seq ?_
        refine AWP.region rfl ?_; intro K hK
        (try simp +decide -implicitDefEqProofs only [go_sem])
        refine hK _ _ ?_; clear hK K
        refine qthen_normal ?_
        refine AWP.ret ?_
        refine qblock_ret ?_
        refine qthen_ret ?_
        refine qthen_ret ?_
        obtain rfl := some_eq h
        obtain rfl := cont_ret hJ2
        replace h := on_ret hO2
        refine qblock_ret ?_
        refine qthen_ret ?_
        obtain rfl := some_eq h
        simp +decide -implicitDefEqProofs only [go_sem, mpE_nil, AVal.int.injEq, Int.natCast_zero, List.replicate_zero, List.length_take, List.length_drop, AVal.own.injEq, reduceCtorEq, Int.reduceAdd, nle2, nle1, nle0, nleA, nleL, Try.results6]
    · obtain rfl := for_nil hJ2 (fun hl => by have := of_decide_eq_false hc; omega)
      have h := on_next hO2; try dsimp only at h
      have hkl : l.length = k2 := by have := of_decide_eq_false hc; omega
      subst hkl
      refine AWP.exit ?_
      refine qthen_exit ?_
      refine qthen_exit ?_
      refine qblock_same ?_
      refine qthen_normal ?_
      refine AWP.seq ?_
      refine AWP.region rfl ?_; intro K hK
      (try simp +decide -implicitDefEqProofs only [go_sem])
      obtain ⟨y9, hy9, h⟩ := bindE h
      refine ACall.pure Try.call25 (avalanche_Zones_spec l levels hy9) rfl fun _ hr => ?_
      subst hr
      (try simp +decide -implicitDefEqProofs only [go_sem])
      obtain ⟨y10, hy10, h⟩ := bindE h
      refine ACall.pure Try.call26 (ref50_Zones_spec l levels hy10) rfl fun _ hr => ?_
      subst hr
      (try simp +decide -implicitDefEqProofs only [go_sem])
      obtain ⟨y11, hy11, h⟩ := bindE h
      refine ACall.pure Try.call24 (ref50_Same_spec y9 y10 hy11) rfl fun _ hr => ?_
      subst hr
      (try simp +decide -implicitDefEqProofs only [go_sem])
      refine aguardK_split (fun hc => ?_) (fun hc => ?_)
      · replace h := bif_t h hc
        (try simp +decide -implicitDefEqProofs only [go_sem, hc])
        obtain ⟨y12, hy12, h⟩ := bindE h
        refine ACall.pure Try.call27 (avalanche_Lifts_spec l levels hy12) rfl fun _ hr => ?_
        subst hr
        (try simp +decide -implicitDefEqProofs only [go_sem])
        obtain ⟨y13, hy13, h⟩ := bindE h
        refine ACall.pure Try.call28 (ref50_Lifts_spec l levels hy13) rfl fun _ hr => ?_
        subst hr
        (try simp +decide -implicitDefEqProofs only [go_sem])
        obtain ⟨y14, hy14, h⟩ := bindE h
        refine ACall.pure Try.call24 (ref50_Same_spec y12 y13 hy14) rfl fun _ hr => ?_
        subst hr
        (try simp +decide -implicitDefEqProofs only [go_sem])
        refine hK _ _ ?_; clear hK K
        refine qthen_normal ?_
        refine AWP.ret ?_
        obtain rfl := some_eq h
        simp +decide -implicitDefEqProofs only [go_sem, mpE_nil, AVal.int.injEq, Int.natCast_zero, List.replicate_zero, List.length_take, List.length_drop, AVal.own.injEq, reduceCtorEq, Int.reduceAdd, nle2, nle1, nle0, nleA, nleL, Try.results6]
      · replace h := bif_f h hc
        (try simp +decide -implicitDefEqProofs only [go_sem, hc, Bool.not_true])
        refine hK _ _ ?_; clear hK K
        refine qthen_normal ?_
        refine AWP.ret ?_
        obtain rfl := some_eq h
        simp +decide -implicitDefEqProofs only [go_sem, mpE_nil, AVal.int.injEq, Int.natCast_zero, List.replicate_zero, List.length_take, List.length_drop, AVal.own.injEq, reduceCtorEq, Int.reduceAdd, nle2, nle1, nle0, nleA, nleL, Try.results6]
  · replace h := bif_t h hc
    (try simp +decide -implicitDefEqProofs only [go_sem, hc, Bool.not_false])
    refine hK _ _ ?_; clear hK K
    refine qthen_normal ?_
    refine AWP.cond (acond_true ?_)
    refine AWP.seq ?_
    refine AWP.region rfl ?_; intro K hK
    (try simp +decide -implicitDefEqProofs only [go_sem])
    refine hK _ _ ?_; clear hK K
    refine qthen_normal ?_
    refine AWP.ret ?_
    refine qthen_ret ?_
    obtain rfl := some_eq h
    simp +decide -implicitDefEqProofs only [go_sem, mpE_nil, AVal.int.injEq, Int.natCast_zero, List.replicate_zero, List.length_take, List.length_drop, AVal.own.injEq, reduceCtorEq, Int.reduceAdd, nle2, nle1, nle0, nleA, nleL, Try.results6]

end
end Go.Proofs.Ytciaimpdnjpajaa
