/-
  What functions of the program compute, as plain Lean functions, and the walks that prove it; printed by a small program of our own (wip/walk.py).
-/
import Derived.Test.YtciaimpdnjpajaaData
import Derived.Test.YtciaimpdnjpajaaLib
namespace Go.Proofs.Ytciaimpdnjpajaa
open Go Go.Ab
attribute [local irreducible] AWP ACall DCall PureFn Go.Ab.Sub alist dlist AIdx AElem ALook ANext
set_option maxRecDepth 100000
set_option maxHeartbeats 4000000
set_option linter.unusedSimpArgs false
set_option linter.unusedVariables false
noncomputable section
def law50_seven : Option ((List ApiSlide)) :=
  some [(ApiSlide.mk (7 : Int) [(2 : Int), (5 : Int)] [(3 : Int)] (100 : Int) (50 : Int) (-1 : Int))]

theorem law50_seven_spec {r : (List ApiSlide)} (h : law50_seven = some r) : PureFn Try.prog 32 [] (· = .sl 6 (r.map encApiSlide)) := by
  refine PureFn.nle (PureFn.intro Try.func32 rfl rfl (by show _ ≤ 5; simp) ?_)
  unfold law50_seven at h
  (try simp +decide -implicitDefEqProofs only [go_sem])
  refine AWP.seq ?_
  refine AWP.region rfl ?_; intro K hK
  (try simp +decide -implicitDefEqProofs only [go_sem])
  refine hK _ _ ?_; clear hK K
  refine qthen_normal ?_
  refine AWP.seq ?_
  refine AWP.regionP ?_
  refine ALP.cut 3 (ALP.part rfl ?_); intro K hK
  (try simp +decide -implicitDefEqProofs only [go_sem])
  refine hK _ _ ?_; clear hK K
  refine ALP.sub (Sub.freezeRow 0 rfl) ?_
  (try simp +decide -implicitDefEqProofs only [go_sem])
  refine ALP.sub (Sub.freezeRow 1 rfl) ?_
  (try simp +decide -implicitDefEqProofs only [go_sem])
  refine ALP.last rfl ?_; intro K hK
  (try simp +decide -implicitDefEqProofs only [go_sem])
  refine hK _ _ ?_; clear hK K
  refine qthen_normal ?_
  refine AWP.ret ?_
  obtain rfl := some_eq h
  simp +decide -implicitDefEqProofs only [go_sem, mpE_nil, AVal.int.injEq, Int.natCast_zero, List.replicate_zero, List.length_take, List.length_drop, AVal.own.injEq, reduceCtorEq, Int.reduceAdd, nle2, nle1, nle0, nleA, nleL, Try.results32]

def slices_Clone_sint_int (s_ : List Int) : Option (List Int) := chk s_.length (some s_)

theorem slices_Clone_sint_int_own (s_ : List Int) {r : List Int} (h : slices_Clone_sint_int s_ = some r) : OwnRow Try.prog 43 [.sl 1 (s_.map intC)] 1 (r.map intC) := by
  have hk := (chk_in h).1
  have hr : r = s_ := some_eq (chk_in h).2
  rw [hr]; clear hr h
  refine OwnRow.of ?_
  refine OwnFn.weak (R := fun q H => ∃ v rest, q = .own 0 v 0 (s_.map intC).length ∧ H = .row v 1 (s_.map intC) :: rest) (OwnFn.intro Try.func43 rfl rfl (by show _ ≤ 8; simp) ?_) (fun q H hq => ?_)
  · (try simp +decide -implicitDefEqProofs only [go_sem])
    refine AWP.seq ?_
    refine AWP.region rfl ?_; intro K hK
    (try simp +decide -implicitDefEqProofs only [go_sem])
    refine hK _ _ ?_; clear hK K
    refine qthen_normal ?_
    refine AWP.seq ?_
    refine AWP.seq ?_
    refine AWP.region rfl ?_; intro K hK
    (try simp +decide -implicitDefEqProofs only [go_sem])
    intro bnil hb
    (try simp +decide -implicitDefEqProofs only [go_sem])
    refine hK _ _ ?_; clear hK K
    refine qthen_normal ?_
    refine AWP.cond (acond_split (fun hc => ?_) (fun hc => ?_))
    · have hx0 : s_ = [] := Classical.byContradiction fun hne => by have := hb (by simpa using hne); simp [this] at hc
      subst hx0
      refine AWP.seq ?_
      refine AWP.region rfl ?_; intro K hK
      (try simp +decide -implicitDefEqProofs only [go_sem])
      refine hK _ _ ?_; clear hK K
      refine qthen_normal ?_
      refine AWP.ghost 2 1 rfl (by decide) ?_
      (try simp +decide -implicitDefEqProofs only [go_sem])
      refine AWP.ret ?_
      refine qthen_ret ?_
      (try simp +decide -implicitDefEqProofs only [go_sem, Try.results43])
      refine ⟨_, _, ?_, rfl⟩
      (try simp +decide -implicitDefEqProofs only [go_sem, List.length_map, List.length_append, List.length_cons, List.length_nil, List.length_set, List.length_replicate]); try rfl
    · clear hc
      refine AWP.skip ?_
      refine qthen_normal ?_
      refine AWP.seq ?_
      refine AWP.region rfl ?_; intro K hK
      (try simp +decide -implicitDefEqProofs only [go_sem])
      (repeat (refine ⟨by first | omega | (simp only [List.length_take, List.length_drop, List.length_append]; omega), ?_⟩)); try simp +decide -implicitDefEqProofs only [go_sem]
      refine hK _ _ ?_; clear hK K
      refine qthen_normal ?_
      refine AWP.ret ?_
      (try simp +decide -implicitDefEqProofs only [go_sem, Try.results43])
      refine ⟨_, _, ?_, rfl⟩
      (try simp +decide -implicitDefEqProofs only [go_sem, List.length_map, List.length_append, List.length_cons, List.length_nil, List.length_set, List.length_replicate]); try rfl
  · obtain ⟨v, rest, rfl, rfl⟩ := hq
    exact ⟨[.row v 1 (s_.map intC)], ⟨⟨rfl, rfl, rfl⟩, by cases rest <;> trivial⟩, rfl, rfl, ⟨v, rfl, rfl⟩⟩
theorem slices_Clone_sint_int_fresh (s_ : List Int) {r : List Int} (h : slices_Clone_sint_int s_ = some r) : FreshFn Try.prog 43 [.sl 1 (s_.map intC)] (· = .sl 1 (r.map intC)) := FreshFn.nle (OwnFn.fresh (OwnFn.mono (slices_Clone_sint_int_own s_ h) fun q H => by rintro ⟨rfl, rfl⟩; simp +decide -implicitDefEqProofs only [go_sem, mpE_nil, AVal.int.injEq, Int.natCast_zero, List.replicate_zero, List.length_take, List.length_drop, AVal.own.injEq, reduceCtorEq, Int.reduceAdd, nle2, nle1, nle0, nleA, nleL, List.length_map]))
theorem slices_Clone_sint_int_spec (s_ : List Int) {r : List Int} (h : slices_Clone_sint_int s_ = some r) : PureFn Try.prog 43 [.sl 1 (s_.map intC)] (· = .sl 1 (r.map intC)) := (slices_Clone_sint_int_fresh s_ h).pure

def avalanche_copied_b1 (k2 : Nat) (x_4 : ApiSlide) (sv : (List ApiSlide)) : Option (Out ((List ApiSlide)) ((List ApiSlide))) :=
  (slices_Clone_sint_int x_4.Zones).bind fun y5 => (slices_Clone_sint_int x_4.Lifts).bind fun y6 => chk (sv.length + 1) (some (Out.next (sv ++ [(ApiSlide.mk x_4.ID y5 y6 x_4.Limit x_4.Load x_4.Controlled)])))

def avalanche_copied (l : List ApiSlide) : Option ((List ApiSlide)) :=
  chk l.length ((forIx avalanche_copied_b1 0 l []).bind fun o2 => o2.on fun s2 => some s2)

theorem avalanche_copied_spec (l : List ApiSlide) {r : (List ApiSlide)} (h : avalanche_copied l = some r) : PureFn Try.prog 37 [.sl 6 (l.map encApiSlide)] (· = .sl 6 (r.map encApiSlide)) := by
  refine PureFn.nle (PureFn.intro Try.func37 rfl rfl (by show _ ≤ 29; simp) ?_)
  unfold avalanche_copied at h
  (try simp +decide -implicitDefEqProofs only [go_sem, encApiSlide_rep])
  refine AWP.seq ?_
  refine AWP.region rfl ?_; intro K hK
  (try simp +decide -implicitDefEqProofs only [go_sem, encApiSlide_rep])
  refine hK _ _ ?_; clear hK K
  refine qthen_normal ?_
  refine AWP.seq ?_
  refine AWP.region rfl ?_; intro K hK
  (try simp +decide -implicitDefEqProofs only [go_sem, encApiSlide_rep])
  intro hm
  obtain ⟨hk, h⟩ := chk_in h
  (repeat (refine ⟨by first | omega | (simp only [List.length_take, List.length_drop, List.length_append]; omega), ?_⟩)); try simp +decide -implicitDefEqProofs only [go_sem]
  refine hK _ _ ?_; clear hK K
  refine qthen_normal ?_
  refine AWP.seq ?_
  refine AWP.seq ?_
  refine AWP.region rfl ?_; intro K hK
  (try simp +decide -implicitDefEqProofs only [go_sem, encApiSlide_rep])
  intro hm
  refine hK _ _ ?_; clear hK K
  refine qthen_normal ?_
  refine AWP.block ?_
  obtain ⟨o2, hJ2, hO2⟩ := bindE h
  clear h
  refine AWP.loopW (ι := Nat × ((List ApiSlide)) × (Nat)) (fun zz => [(3, .own 0 zz.2.2 0 zz.2.1.length), (9, .sl 6 (l.map encApiSlide)), (10, .int .i64 ((l.length : Nat) : Int)), (11, .int .i64 ((zz.1 : Nat) : Int))]) (fun zz => [.row zz.2.2 6 (zz.2.1.map encApiSlide)]) (fun zz => zz.1 ≤ l.length ∧ forIx avalanche_copied_b1 zz.1 ((l).drop zz.1) zz.2.1 = some o2) (fun zz => l.length - zz.1) (0, [], 0) ⟨Nat.zero_le _, hJ2⟩ (by (simp +decide -implicitDefEqProofs only [go_sem, mpE_nil, AVal.int.injEq, Int.natCast_zero, List.replicate_zero, List.length_take, List.length_drop, AVal.own.injEq, reduceCtorEq, Int.reduceAdd, encApiSlide_rep] <;> omega)) (by (simp +decide -implicitDefEqProofs only [go_sem, mpE_nil, AVal.int.injEq, Int.natCast_zero, List.replicate_zero, List.length_take, List.length_drop, AVal.own.injEq, reduceCtorEq, Int.reduceAdd, encApiSlide_rep] <;> omega)) (fun x => ⟨rfl, rfl, rfl⟩) ?_
  clear hJ2
  rintro ⟨k2, out1, ver2⟩ ⟨hk2, hJ2⟩
  dsimp only at hk2 hJ2 ⊢
  refine AWP.seq ?_
  refine AWP.region rfl ?_; intro K hK
  (try simp +decide -implicitDefEqProofs only [go_sem, encApiSlide_rep])
  refine hK _ _ ?_; clear hK K
  refine qthen_normal ?_
  refine AWP.seq ?_
  refine AWP.cond (acond_split (fun hc => ?_) (fun hc => ?_))
  · have hlt2 : k2 < l.length := by have := of_decide_eq_true hc; omega
    obtain ⟨x_4, b2, hx2_, h, hJ2⟩ := for_cons hJ2 hlt2
    have hx2 := idxL_nat hx2_
    have hw2 : IntKind.i64.wrap (((k2 : Nat) : Int) + 1) = (((k2 : Nat) : Int) + (1 : Int)) := by rw [wrap_i64] <;> omega
    unfold avalanche_copied_b1 at h; try dsimp only at h
    refine AWP.skip ?_
    refine qthen_normal ?_
    refine AWP.seq ?_
    refine AWP.block ?_
    refine AWP.seq ?_
    refine AWP.region rfl ?_; intro K hK
    (try simp +decide -implicitDefEqProofs only [go_sem, encApiSlide_rep])
    refine AIdx.of (f := encApiSlide) (l := l) hx2 ?_
    (try simp +decide -implicitDefEqProofs only [go_sem, encApiSlide_rep])
    refine hK _ _ ?_; clear hK K
    refine qthen_normal ?_
    refine AWP.seq ?_
    refine AWP.region rfl ?_; intro K hK
    (try simp +decide -implicitDefEqProofs only [go_sem, encApiSlide_rep])
    obtain ⟨y5, hy5, h⟩ := bindE h
    refine ACall.pure Try.call43 (slices_Clone_sint_int_spec x_4.Zones hy5) rfl fun _ hr => ?_
    subst hr
    (try simp +decide -implicitDefEqProofs only [go_sem, encApiSlide_rep])
    refine hK _ _ ?_; clear hK K
    refine qthen_normal ?_
    refine AWP.seq ?_
    refine AWP.region rfl ?_; intro K hK
    (try simp +decide -implicitDefEqProofs only [go_sem, encApiSlide_rep])
    obtain ⟨y6, hy6, h⟩ := bindE h
    refine ACall.pure Try.call43 (slices_Clone_sint_int_spec x_4.Lifts hy6) rfl fun _ hr => ?_
    subst hr
    (try simp +decide -implicitDefEqProofs only [go_sem, encApiSlide_rep])
    refine hK _ _ ?_; clear hK K
    refine qthen_normal ?_
    refine AWP.region rfl ?_; intro K hK
    (try simp +decide -implicitDefEqProofs only [go_sem, encApiSlide_rep])
    obtain ⟨hk, h⟩ := chk_in h
    (repeat (refine ⟨by first | omega | (simp only [List.length_take, List.length_drop, List.length_append]; omega), ?_⟩)); try simp +decide -implicitDefEqProofs only [go_sem]
    refine hK _ _ ?_; clear hK K
    refine qblock_normal ?_
    refine qthen_normal ?_
    refine AWP.region rfl ?_; intro K hK
    (try simp +decide -implicitDefEqProofs only [go_sem, encApiSlide_rep])
    refine hK _ _ ?_; clear hK K
    refine qthen_normal ?_
    obtain rfl := some_eq h
    refine ⟨(k2 + 1, (out1 ++ [(ApiSlide.mk x_4.ID y5 y6 x_4.Limit x_4.Load x_4.Controlled)]), (ver2 + 1)), ⟨by dsimp only; omega, cont_next hJ2⟩, by dsimp only; omega, ?_, ?_⟩
    · (simp +decide -implicitDefEqProofs only [go_sem, mpE_nil, AVal.int.injEq, Int.natCast_zero, List.replicate_zero, List.length_take, List.length_drop, AVal.own.injEq, reduceCtorEq, Int.reduceAdd, hw2, encApiSlide_rep] <;> omega)
    · (simp +decide -implicitDefEqProofs only [go_sem, mpE_nil, AVal.int.injEq, Int.natCast_zero, List.replicate_zero, List.length_take, List.length_drop, AVal.own.injEq, reduceCtorEq, Int.reduceAdd, hw2, encApiSlide_rep] <;> omega)
  · obtain rfl := for_nil hJ2 (fun hl => by have := of_decide_eq_false hc; omega)
    have h := on_next hO2; try dsimp only at h
    have hkl : l.length = k2 := by have := of_decide_eq_false hc; omega
    subst hkl
    refine AWP.exit ?_
    refine qthen_exit ?_
    refine qthen_exit ?_
    refine qblock_same ?_
    refine qthen_normal ?_
    refine AWP.seq ?_
    refine AWP.region rfl ?_; intro K hK
    (try simp +decide -implicitDefEqProofs only [go_sem, encApiSlide_rep])
    refine hK _ _ ?_; clear hK K
    refine qthen_normal ?_
    refine AWP.ret ?_
    obtain rfl := some_eq h
    simp +decide -implicitDefEqProofs only [go_sem, mpE_nil, AVal.int.injEq, Int.natCast_zero, List.replicate_zero, List.length_take, List.length_drop, AVal.own.injEq, reduceCtorEq, Int.reduceAdd, nle2, nle1, nle0, nleA, nleL, Try.results37, encApiSlide_rep]

theorem avalanche_copied_own (l : List ApiSlide) {r : (List ApiSlide)} (h : avalanche_copied l = some r) : OwnRow Try.prog 37 [.sl 6 (l.map encApiSlide)] 6 (r.map encApiSlide) := by
  refine OwnRow.of ?_
  refine OwnFn.weak (R := fun q H => ∃ v0 rest, q = .own 0 v0 0 (r.map encApiSlide).length ∧ H = .row v0 6 (r.map encApiSlide) :: rest) (OwnFn.intro Try.func37 rfl rfl (by show _ ≤ 29; simp) ?_) (fun q H hq => ?_)
  · unfold avalanche_copied at h
    (try simp +decide -implicitDefEqProofs only [go_sem, encApiSlide_rep])
    refine AWP.seq ?_
    refine AWP.region rfl ?_; intro K hK
    (try simp +decide -implicitDefEqProofs only [go_sem, encApiSlide_rep])
    refine hK _ _ ?_; clear hK K
    refine qthen_normal ?_
    refine AWP.seq ?_
    refine AWP.region rfl ?_; intro K hK
    (try simp +decide -implicitDefEqProofs only [go_sem, encApiSlide_rep])
    intro hm
    obtain ⟨hk, h⟩ := chk_in h
    (repeat (refine ⟨by first | omega | (simp only [List.length_take, List.length_drop, List.length_append]; omega), ?_⟩)); try simp +decide -implicitDefEqProofs only [go_sem]
    refine hK _ _ ?_; clear hK K
    refine qthen_normal ?_
    refine AWP.seq ?_
    refine AWP.seq ?_
    refine AWP.region rfl ?_; intro K hK
    (try simp +decide -implicitDefEqProofs only [go_sem, encApiSlide_rep])
    intro hm
    refine hK _ _ ?_; clear hK K
    refine qthen_normal ?_
    refine AWP.block ?_
    obtain ⟨o2, hJ2, hO2⟩ := bindE h
    clear h
    refine AWP.loopW (ι := Nat × ((List ApiSlide)) × (Nat)) (fun zz => [(3, .own 0 zz.2.2 0 zz.2.1.length), (9, .sl 6 (l.map encApiSlide)), (10, .int .i64 ((l.length : Nat) : Int)), (11, .int .i64 ((zz.1 : Nat) : Int))]) (fun zz => [.row zz.2.2 6 (zz.2.1.map encApiSlide)]) (fun zz => zz.1 ≤ l.length ∧ forIx avalanche_copied_b1 zz.1 ((l).drop zz.1) zz.2.1 = some o2) (fun zz => l.length - zz.1) (0, [], 0) ⟨Nat.zero_le _, hJ2⟩ (by (simp +decide -implicitDefEqProofs only [go_sem, mpE_nil, AVal.int.injEq, Int.natCast_zero, List.replicate_zero, List.length_take, List.length_drop, AVal.own.injEq, reduceCtorEq, Int.reduceAdd, encApiSlide_rep] <;> omega)) (by (simp +decide -implicitDefEqProofs only [go_sem, mpE_nil, AVal.int.injEq, Int.natCast_zero, List.replicate_zero, List.length_take, List.length_drop, AVal.own.injEq, reduceCtorEq, Int.reduceAdd, encApiSlide_rep] <;> omega)) (fun x => ⟨rfl, rfl, rfl⟩) ?_
    clear hJ2
    rintro ⟨k2, out1, ver2⟩ ⟨hk2, hJ2⟩
    dsimp only at hk2 hJ2 ⊢
    refine AWP.seq ?_
    refine AWP.region rfl ?_; intro K hK
    (try simp +decide -implicitDefEqProofs only [go_sem, encApiSlide_rep])
    refine hK _ _ ?_; clear hK K
    refine qthen_normal ?_
    refine AWP.seq ?_
    refine AWP.cond (acond_split (fun hc => ?_) (fun hc => ?_))
    · have hlt2 : k2 < l.length := by have := of_decide_eq_true hc; omega
      obtain ⟨x_4, b2, hx2_, h, hJ2⟩ := for_cons hJ2 hlt2
      have hx2 := idxL_nat hx2_
      have hw2 : IntKind.i64.wrap (((k2 : Nat) : Int) + 1) = (((k2 : Nat) : Int) + (1 : Int)) := by rw [wrap_i64] <;> omega
      unfold avalanche_copied_b1 at h; try dsimp only at h
      refine AWP.skip ?_
      refine qthen_normal ?_
      refine AWP.seq ?_
      refine AWP.block ?_
      refine AWP.seq ?_
      refine AWP.region rfl ?_; intro K hK
      (try simp +decide -implicitDefEqProofs only [go_sem, encApiSlide_rep])
      refine AIdx.of (f := encApiSlide) (l := l) hx2 ?_
      (try simp +decide -implicitDefEqProofs only [go_sem, encApiSlide_rep])
      refine hK _ _ ?_; clear hK K
      refine qthen_normal ?_
      refine AWP.seq ?_
      refine AWP.region rfl ?_; intro K hK
      (try simp +decide -implicitDefEqProofs only [go_sem, encApiSlide_rep])
      obtain ⟨y5, hy5, h⟩ := bindE h
      refine ACall.pure Try.call43 (slices_Clone_sint_int_spec x_4.Zones hy5) rfl fun _ hr => ?_
      subst hr
      (try simp +decide -implicitDefEqProofs only [go_sem, encApiSlide_rep])
      refine hK _ _ ?_; clear hK K
      refine qthen_normal ?_
      refine AWP.seq ?_
      refine AWP.region rfl ?_; intro K hK
      (try simp +decide -implicitDefEqProofs only [go_sem, encApiSlide_rep])
      obtain ⟨y6, hy6, h⟩ := bindE h
      refine ACall.pure Try.call43 (slices_Clone_sint_int_spec x_4.Lifts hy6) rfl fun _ hr => ?_
      subst hr
      (try simp +decide -implicitDefEqProofs only [go_sem, encApiSlide_rep])
      refine hK _ _ ?_; clear hK K
      refine qthen_normal ?_
      refine AWP.region rfl ?_; intro K hK
      (try simp +decide -implicitDefEqProofs only [go_sem, encApiSlide_rep])
      obtain ⟨hk, h⟩ := chk_in h
      (repeat (refine ⟨by first | omega | (simp only [List.length_take, List.length_drop, List.length_append]; omega), ?_⟩)); try simp +decide -implicitDefEqProofs only [go_sem]
      refine hK _ _ ?_; clear hK K
      refine qblock_normal ?_
      refine qthen_normal ?_
      refine AWP.region rfl ?_; intro K hK
      (try simp +decide -implicitDefEqProofs only [go_sem, encApiSlide_rep])
      refine hK _ _ ?_; clear hK K
      refine qthen_normal ?_
      obtain rfl := some_eq h
      refine ⟨(k2 + 1, (out1 ++ [(ApiSlide.mk x_4.ID y5 y6 x_4.Limit x_4.Load x_4.Controlled)]), (ver2 + 1)), ⟨by dsimp only; omega, cont_next hJ2⟩, by dsimp only; omega, ?_, ?_⟩
      · (simp +decide -implicitDefEqProofs only [go_sem, mpE_nil, AVal.int.injEq, Int.natCast_zero, List.replicate_zero, List.length_take, List.length_drop, AVal.own.injEq, reduceCtorEq, Int.reduceAdd, hw2, encApiSlide_rep] <;> omega)
      · (simp +decide -implicitDefEqProofs only [go_sem, mpE_nil, AVal.int.injEq, Int.natCast_zero, List.replicate_zero, List.length_take, List.length_drop, AVal.own.injEq, reduceCtorEq, Int.reduceAdd, hw2, encApiSlide_rep] <;> omega)
    · obtain rfl := for_nil hJ2 (fun hl => by have := of_decide_eq_false hc; omega)
      have h := on_next hO2; try dsimp only at h
      have hkl : l.length = k2 := by have := of_decide_eq_false hc; omega
      subst hkl
      refine AWP.exit ?_
      refine qthen_exit ?_
      refine qthen_exit ?_
      refine qblock_same ?_
      refine qthen_normal ?_
      refine AWP.seq ?_
      refine AWP.region rfl ?_; intro K hK
      (try simp +decide -implicitDefEqProofs only [go_sem, encApiSlide_rep])
      refine hK _ _ ?_; clear hK K
      refine qthen_normal ?_
      refine AWP.ret ?_
      obtain rfl := some_eq h
      (try simp +decide -implicitDefEqProofs only [go_sem, Try.results37, encApiSlide_rep])
      refine ⟨_, _, ?_, rfl⟩
      (try simp +decide -implicitDefEqProofs only [go_sem, List.length_map, List.length_append, List.length_cons, List.length_nil, List.length_set, List.length_replicate, encApiSlide_rep]); try rfl
  · obtain ⟨v0, rest, rfl, rfl⟩ := hq
    refine ⟨[.row v0 6 (r.map encApiSlide)], ?_, ?_, ?_, ⟨v0, rfl, rfl⟩⟩
    all_goals (simp +decide -implicitDefEqProofs only [go_sem, mpE_nil, AVal.int.injEq, Int.natCast_zero, List.replicate_zero, List.length_take, List.length_drop, AVal.own.injEq, reduceCtorEq, Int.reduceAdd, encApiSlide_rep] <;> omega)

def avalanche_Grow_b2 (more1 : Int) (k5 : Nat) (x_7 : ApiSlide) (sv : (List ApiSlide)) : Option (Out ((List ApiSlide)) ((List ApiSlide) × Int)) :=
  (idxL sv ((k5 : Nat) : Int)).bind fun x_8 => some (Out.next (sv.set k5 (ApiSlide.mk x_8.ID x_8.Zones x_8.Lifts x_8.Limit (if (100000 : Int) < (IntKind.i64.wrap (x_8.Load + more1)) then (100000 : Int) else (IntKind.i64.wrap (x_8.Load + more1))) x_8.Controlled)))

def avalanche_Grow_j1 (l : List ApiSlide) (more1 : Int) : Option ((List ApiSlide) × Int) :=
  (avalanche_copied l).bind fun y3 => (forIx (avalanche_Grow_b2 more1) 0 y3 y3).bind fun o5 => o5.on fun s5 => some (s5, (0 : Int))

def avalanche_Grow (l : List ApiSlide) (fresh : Int) (gust : Int) : Option ((List ApiSlide) × Int) :=
  (bif (decide (fresh < (0 : Int))) then some ([], (2 : Int)) else (bif (decide ((2000 : Int) < fresh)) then some ([], (2 : Int)) else (bif (decide (gust < (0 : Int))) then some ([], (2 : Int)) else (bif (decide ((100000 : Int) < gust)) then some ([], (2 : Int)) else (bif (decide ((10000 : Int) < gust)) then avalanche_Grow_j1 l (IntKind.i64.wrap (fresh + (IntKind.i64.wrap (Int.tdiv (IntKind.i64.wrap (gust - (10000 : Int))) (1000 : Int))))) else avalanche_Grow_j1 l fresh)))))

theorem avalanche_Grow_spec (l : List ApiSlide) (fresh : Int) (gust : Int) {r : (List ApiSlide) × Int} (h : avalanche_Grow l fresh gust = some r) : PureFn Try.prog 15 [.sl 6 (l.map encApiSlide), .int .i64 fresh, .int .i64 gust] (· = .tuple [.sl 6 (r.1.map encApiSlide), .int .i64 r.2]) := by
  refine PureFn.nle (PureFn.intro Try.func15 rfl rfl (by show _ ≤ 54; simp) ?_)
  unfold avalanche_Grow at h
  (try simp +decide -implicitDefEqProofs only [go_sem])
  refine AWP.seq ?_
  refine AWP.region rfl ?_; intro K hK
  (try simp +decide -implicitDefEqProofs only [go_sem])
  refine hK _ _ ?_; clear hK K
  refine qthen_normal ?_
  refine AWP.seq ?_
  refine AWP.seq ?_
  refine AWP.region rfl ?_; intro K hK
  (try simp +decide -implicitDefEqProofs only [go_sem])
  refine aguardK_split (fun hc => ?_) (fun hc => ?_)
  · replace h := bif_f h hc
    (try simp +decide -implicitDefEqProofs only [go_sem, hc])
    refine aguardK_split (fun hc => ?_) (fun hc => ?_)
    · replace h := bif_f h hc
      (try simp +decide -implicitDefEqProofs only [go_sem, hc])
      refine aguardK_split (fun hc => ?_) (fun hc => ?_)
      · replace h := bif_f h hc
        (try simp +decide -implicitDefEqProofs only [go_sem, hc])
        refine hK _ _ ?_; clear hK K
        refine qthen_normal ?_
        refine AWP.cond (acond_split (fun hc => ?_) (fun hc => ?_))
        · replace h := bif_t h hc
          refine AWP.seq ?_
          refine AWP.region rfl ?_; intro K hK
          (try simp +decide -implicitDefEqProofs only [go_sem])
          refine hK _ _ ?_; clear hK K
          refine qthen_normal ?_
          refine AWP.ret ?_
          refine qthen_ret ?_
          obtain rfl := some_eq h
          simp +decide -implicitDefEqProofs only [go_sem, mpE_nil, AVal.int.injEq, Int.natCast_zero, List.replicate_zero, List.length_take, List.length_drop, AVal.own.injEq, reduceCtorEq, Int.reduceAdd, nle2, nle1, nle0, nleA, nleL, Try.results15]
        replace h := bif_f h hc
        refine AWP.skip ?_
        refine qthen_normal ?_
        refine AWP.seq ?_
        refine AWP.region rfl ?_; intro K hK
        (try simp +decide -implicitDefEqProofs only [go_sem])
        refine hK _ _ ?_; clear hK K
        refine qthen_normal ?_
        refine AWP.seqJoin (ι := (Int) × (Unit)) (fun zz => [(0, .sl 6 (l.map encApiSlide)), (8, .int .i64 zz.1)]) (fun zz => []) (fun zz => avalanche_Grow_j1 l zz.1 = some r) (fun zz => ⟨rfl, rfl, rfl⟩) ?_ ?_
        · refine AWP.seq ?_
          refine AWP.region rfl ?_; intro K hK
          (try simp +decide -implicitDefEqProofs only [go_sem])
          refine hK _ _ ?_; clear hK K
          refine qthen_normal ?_
          refine AWP.cond (acond_split (fun hc => ?_) (fun hc => ?_))
          · replace h := bif_t h hc
            refine AWP.region rfl ?_; intro K hK
            (try simp +decide -implicitDefEqProofs only [go_sem])
            refine hK _ _ ?_; clear hK K
            refine qthen_normal ?_
            exact ⟨((IntKind.i64.wrap (fresh + (IntKind.i64.wrap (Int.tdiv (IntKind.i64.wrap (gust - (10000 : Int))) (1000 : Int))))), ()), h, by (simp +decide -implicitDefEqProofs only [go_sem, mpE_nil, AVal.int.injEq, Int.natCast_zero, List.replicate_zero, List.length_take, List.length_drop, AVal.own.injEq, reduceCtorEq, Int.reduceAdd] <;> omega), by (simp +decide -implicitDefEqProofs only [go_sem, mpE_nil, AVal.int.injEq, Int.natCast_zero, List.replicate_zero, List.length_take, List.length_drop, AVal.own.injEq, reduceCtorEq, Int.reduceAdd] <;> omega)⟩
          replace h := bif_f h hc
          refine AWP.skip ?_
          refine qthen_normal ?_
          exact ⟨(fresh, ()), h, by (simp +decide -implicitDefEqProofs only [go_sem, mpE_nil, AVal.int.injEq, Int.natCast_zero, List.replicate_zero, List.length_take, List.length_drop, AVal.own.injEq, reduceCtorEq, Int.reduceAdd] <;> omega), by (simp +decide -implicitDefEqProofs only [go_sem, mpE_nil, AVal.int.injEq, Int.natCast_zero, List.replicate_zero, List.length_take, List.length_drop, AVal.own.injEq, reduceCtorEq, Int.reduceAdd] <;> omega)⟩
        · rintro ⟨more1, ⟨⟩⟩ h
          try dsimp only at h ⊢
          unfold avalanche_Grow_j1 at h; try dsimp only at h
          refine AWP.seq ?_
          refine AWP.region rfl ?_; intro K hK
          (try simp +decide -implicitDefEqProofs only [go_sem])
          obtain ⟨y3, hy3, h⟩ := bindE h
          refine ACall.row Try.call37 (avalanche_copied_own l hy3) rfl 0 rfl ?_
          (try simp +decide -implicitDefEqProofs only [go_sem, List.length_map])
          refine hK _ _ ?_; clear hK K
          refine qthen_normal ?_
          refine AWP.seq ?_
          refine AWP.seq ?_
          refine AWP.region rfl ?_; intro K hK
          (try simp +decide -implicitDefEqProofs only [go_sem])
          intro hm
          refine hK _ _ ?_; clear hK K
          refine qthen_normal ?_
          refine AWP.block ?_
          obtain ⟨o5, hJ5, hO5⟩ := bindE h
          clear h
          refine AWP.loopW (ι := Nat × ((List ApiSlide)) × (Nat)) (fun zz => [(8, .int .i64 more1), (9, .own 0 zz.2.2 0 zz.2.1.length), (36, .int .i64 ((y3.length : Nat) : Int)), (37, .int .i64 ((zz.1 : Nat) : Int))]) (fun zz => [.row zz.2.2 6 (zz.2.1.map encApiSlide)]) (fun zz => zz.1 ≤ y3.length ∧ forIx (avalanche_Grow_b2 more1) zz.1 ((y3).drop zz.1) zz.2.1 = some o5) (fun zz => y3.length - zz.1) (0, y3, 0) ⟨Nat.zero_le _, hJ5⟩ (by (simp +decide -implicitDefEqProofs only [go_sem, mpE_nil, AVal.int.injEq, Int.natCast_zero, List.replicate_zero, List.length_take, List.length_drop, AVal.own.injEq, reduceCtorEq, Int.reduceAdd] <;> omega)) (by (simp +decide -implicitDefEqProofs only [go_sem, mpE_nil, AVal.int.injEq, Int.natCast_zero, List.replicate_zero, List.length_take, List.length_drop, AVal.own.injEq, reduceCtorEq, Int.reduceAdd] <;> omega)) (fun x => ⟨rfl, rfl, rfl⟩) ?_
          clear hJ5
          rintro ⟨k5, out4, ver5⟩ ⟨hk5, hJ5⟩
          dsimp only at hk5 hJ5 ⊢
          refine AWP.seq ?_
          refine AWP.region rfl ?_; intro K hK
          (try simp +decide -implicitDefEqProofs only [go_sem])
          refine hK _ _ ?_; clear hK K
          refine qthen_normal ?_
          refine AWP.seq ?_
          refine AWP.cond (acond_split (fun hc => ?_) (fun hc => ?_))
          · have hlt5 : k5 < y3.length := by have := of_decide_eq_true hc; omega
            obtain ⟨x_7, b5, hx5_, h, hJ5⟩ := for_cons hJ5 hlt5
            have hx5 := idxL_nat hx5_
            have hw5 : IntKind.i64.wrap (((k5 : Nat) : Int) + 1) = (((k5 : Nat) : Int) + (1 : Int)) := by rw [wrap_i64] <;> omega
            unfold avalanche_Grow_b2 at h; try dsimp only at h
            refine AWP.skip ?_
            refine qthen_normal ?_
            refine AWP.seq ?_
            refine AWP.block ?_
            refine AWP.seq ?_
            refine AWP.region rfl ?_; intro K hK
            (try simp +decide -implicitDefEqProofs only [go_sem])
            refine hK _ _ ?_; clear hK K
            refine qthen_normal ?_
            refine AWP.region rfl ?_; intro K hK
            (try simp +decide -implicitDefEqProofs only [go_sem])
            obtain ⟨x_8, hx_8, h⟩ := bindE h
            refine own_in hx_8 (by first | rfl | exact (sortI_len _).symm | (simp only [List.length_append, List.length_cons, List.length_nil, List.length_set, List.length_replicate] <;> omega)) ?_
            (try simp +decide -implicitDefEqProofs only [go_sem])
            refine AElem.ofNat (f := encApiSlide) (l := out4) (n := k5) hx_8 ?_
            (try simp +decide -implicitDefEqProofs only [go_sem])
            refine own_in hx_8 (by first | rfl | exact (sortI_len _).symm | (simp only [List.length_append, List.length_cons, List.length_nil, List.length_set, List.length_replicate] <;> omega)) ?_
            (try simp +decide -implicitDefEqProofs only [go_sem])
            refine AElem.ofNat (f := encApiSlide) (l := out4) (n := k5) hx_8 ?_
            have hs9 := idxL_set (y := (ApiSlide.mk x_8.ID x_8.Zones x_8.Lifts x_8.Limit (if (100000 : Int) < (IntKind.i64.wrap (x_8.Load + more1)) then (100000 : Int) else (IntKind.i64.wrap (x_8.Load + more1))) x_8.Controlled)) hx_8
            (try simp +decide -implicitDefEqProofs only [go_sem])
            refine hK _ _ ?_; clear hK K
            refine qblock_normal ?_
            refine qthen_normal ?_
            refine AWP.region rfl ?_; intro K hK
            (try simp +decide -implicitDefEqProofs only [go_sem])
            refine hK _ _ ?_; clear hK K
            refine qthen_normal ?_
            obtain rfl := some_eq h
            refine ⟨(k5 + 1, (out4.set k5 (ApiSlide.mk x_8.ID x_8.Zones x_8.Lifts x_8.Limit (if (100000 : Int) < (IntKind.i64.wrap (x_8.Load + more1)) then (100000 : Int) else (IntKind.i64.wrap (x_8.Load + more1))) x_8.Controlled)), ver5), ⟨by dsimp only; omega, cont_next hJ5⟩, by dsimp only; omega, ?_, ?_⟩
            · (simp +decide -implicitDefEqProofs only [go_sem, mpE_nil, AVal.int.injEq, Int.natCast_zero, List.replicate_zero, List.length_take, List.length_drop, AVal.own.injEq, reduceCtorEq, Int.reduceAdd, hw5] <;> omega)
            · (simp +decide -implicitDefEqProofs only [go_sem, mpE_nil, AVal.int.injEq, Int.natCast_zero, List.replicate_zero, List.length_take, List.length_drop, AVal.own.injEq, reduceCtorEq, Int.reduceAdd, hw5] <;> omega)
          · obtain rfl := for_nil hJ5 (fun hl => by have := of_decide_eq_false hc; omega)
            have h := on_next hO5; try dsimp only at h
            have hkl : y3.length = k5 := by have := of_decide_eq_false hc; omega
            subst hkl
            refine AWP.exit ?_
            refine qthen_exit ?_
            refine qthen_exit ?_
            refine qblock_same ?_
            refine qthen_normal ?_
            refine AWP.seq ?_
            refine AWP.region rfl ?_; intro K hK
            (try simp +decide -implicitDefEqProofs only [go_sem])
            refine hK _ _ ?_; clear hK K
            refine qthen_normal ?_
            refine AWP.ret ?_
            obtain rfl := some_eq h
            simp +decide -implicitDefEqProofs only [go_sem, mpE_nil, AVal.int.injEq, Int.natCast_zero, List.replicate_zero, List.length_take, List.length_drop, AVal.own.injEq, reduceCtorEq, Int.reduceAdd, nle2, nle1, nle0, nleA, nleL, Try.results15]
      · replace h := bif_t h hc
        (try simp +decide -implicitDefEqProofs only [go_sem, hc, Bool.not_false])
        refine hK _ _ ?_; clear hK K
        refine qthen_normal ?_
        refine AWP.cond (acond_true ?_)
        refine AWP.seq ?_
        refine AWP.region rfl ?_; intro K hK
        (try simp +decide -implicitDefEqProofs only [go_sem])
        refine hK _ _ ?_; clear hK K
        refine qthen_normal ?_
        refine AWP.ret ?_
        refine qthen_ret ?_
        obtain rfl := some_eq h
        simp +decide -implicitDefEqProofs only [go_sem, mpE_nil, AVal.int.injEq, Int.natCast_zero, List.replicate_zero, List.length_take, List.length_drop, AVal.own.injEq, reduceCtorEq, Int.reduceAdd, nle2, nle1, nle0, nleA, nleL, Try.results15]
    · replace h := bif_t h hc
      (try simp +decide -implicitDefEqProofs only [go_sem, hc, Bool.not_false])
      refine hK _ _ ?_; clear hK K
      refine qthen_normal ?_
      refine AWP.cond (acond_true ?_)
      refine AWP.seq ?_
      refine AWP.region rfl ?_; intro K hK
      (try simp +decide -implicitDefEqProofs only [go_sem])
      refine hK _ _ ?_; clear hK K
      refine qthen_normal ?_
      refine AWP.ret ?_
      refine qthen_ret ?_
      obtain rfl := some_eq h
      simp +decide -implicitDefEqProofs only [go_sem, mpE_nil, AVal.int.injEq, Int.natCast_zero, List.replicate_zero, List.length_take, List.length_drop, AVal.own.injEq, reduceCtorEq, Int.reduceAdd, nle2, nle1, nle0, nleA, nleL, Try.results15]
  · replace h := bif_t h hc
    (try simp +decide -implicitDefEqProofs only [go_sem, hc, Bool.not_false])
    refine hK _ _ ?_; clear hK K
    refine qthen_normal ?_
    refine AWP.cond (acond_true ?_)
    refine AWP.seq ?_
    refine AWP.region rfl ?_; intro K hK
    (try simp +decide -implicitDefEqProofs only [go_sem])
    refine hK _ _ ?_; clear hK K
    refine qthen_normal ?_
    refine AWP.ret ?_
    refine qthen_ret ?_
    obtain rfl := some_eq h
    simp +decide -implicitDefEqProofs only [go_sem, mpE_nil, AVal.int.injEq, Int.natCast_zero, List.replicate_zero, List.length_take, List.length_drop, AVal.own.injEq, reduceCtorEq, Int.reduceAdd, nle2, nle1, nle0, nleA, nleL, Try.results15]

def avalanche_find_b1 (id_ : Int) (k0 : Nat) (x_2 : ApiSlide) (sv : Unit) : Option (Out (Unit) (Int)) :=
  (bif (decide (x_2.ID = id_)) then some (Out.ret ((k0 : Nat) : Int)) else some (Out.next ()))

def avalanche_find (l : List ApiSlide) (id_ : Int) : Option (Int) :=
  (forIx (avalanche_find_b1 id_) 0 l ()).bind fun o0 => o0.on fun s0 => some (-1 : Int)

theorem avalanche_find_spec (l : List ApiSlide) (id_ : Int) {r : Int} (h : avalanche_find l id_ = some r) : PureFn Try.prog 34 [.sl 6 (l.map encApiSlide), .int .i64 id_] (· = .int .i64 r) := by
  refine PureFn.nle (PureFn.intro Try.func34 rfl rfl (by show _ ≤ 8; simp) ?_)
  unfold avalanche_find at h
  (try simp +decide -implicitDefEqProofs only [go_sem])
  refine AWP.seq ?_
  refine AWP.region rfl ?_; intro K hK
  (try simp +decide -implicitDefEqProofs only [go_sem])
  refine hK _ _ ?_; clear hK K
  refine qthen_normal ?_
  refine AWP.seq ?_
  refine AWP.region rfl ?_; intro K hK
  (try simp +decide -implicitDefEqProofs only [go_sem])
  refine ACall.inline Try.call41 Try.func41 rfl rfl (by show _ ≤ 19; simp) ?_
  (try simp +decide -implicitDefEqProofs only [go_sem])
  refine AWP.seq ?_
  refine AWP.region rfl ?_; intro K hK
  (try simp +decide -implicitDefEqProofs only [go_sem])
  refine hK _ _ ?_; clear hK K
  refine qthen_normal ?_
  refine AWP.seq ?_
  refine AWP.seq ?_
  refine AWP.region rfl ?_; intro K hK
  (try simp +decide -implicitDefEqProofs only [go_sem])
  intro hm
  refine hK _ _ ?_; clear hK K
  refine qthen_normal ?_
  refine AWP.block ?_
  obtain ⟨o0, hJ0, hO0⟩ := bindE h
  clear h
  refine AWP.loopW (ι := Nat × (Unit) × (Unit)) (fun zz => [(0, .sl 6 (l.map encApiSlide)), (1, .func 42 [.ptr 0 0]), (7, .int .i64 ((l.length : Nat) : Int)), (8, .int .i64 ((zz.1 : Nat) : Int))]) (fun zz => [.box [.int .i64 id_]]) (fun zz => zz.1 ≤ l.length ∧ forIx (avalanche_find_b1 id_) zz.1 ((l).drop zz.1) zz.2.1 = some o0) (fun zz => l.length - zz.1) (0, (), ()) ⟨Nat.zero_le _, hJ0⟩ (by (simp +decide -implicitDefEqProofs only [go_sem, mpE_nil, AVal.int.injEq, Int.natCast_zero, List.replicate_zero, List.length_take, List.length_drop, AVal.own.injEq, reduceCtorEq, Int.reduceAdd] <;> omega)) (by (simp +decide -implicitDefEqProofs only [go_sem, mpE_nil, AVal.int.injEq, Int.natCast_zero, List.replicate_zero, List.length_take, List.length_drop, AVal.own.injEq, reduceCtorEq, Int.reduceAdd] <;> omega)) (fun x => ⟨rfl, rfl, rfl⟩) ?_
  clear hJ0
  rintro ⟨k0, ⟨⟩, ⟨⟩⟩ ⟨hk0, hJ0⟩
  dsimp only at hk0 hJ0 ⊢
  refine AWP.seq ?_
  refine AWP.region rfl ?_; intro K hK
  (try simp +decide -implicitDefEqProofs only [go_sem])
  refine hK _ _ ?_; clear hK K
  refine qthen_normal ?_
  refine AWP.seq ?_
  refine AWP.cond (acond_split (fun hc => ?_) (fun hc => ?_))
  · have hlt0 : k0 < l.length := by have := of_decide_eq_true hc; omega
    obtain ⟨x_2, b0, hx0_, h, hJ0⟩ := for_cons hJ0 hlt0
    have hx0 := idxL_nat hx0_
    have hw0 : IntKind.i64.wrap (((k0 : Nat) : Int) + 1) = (((k0 : Nat) : Int) + (1 : Int)) := by rw [wrap_i64] <;> omega
    unfold avalanche_find_b1 at h; try dsimp only at h
    refine AWP.skip ?_
    refine qthen_normal ?_
    refine AWP.seq ?_
    refine AWP.block ?_
    refine AWP.seq ?_
    refine AWP.region rfl ?_; intro K hK
    (try simp +decide -implicitDefEqProofs only [go_sem])
    refine hK _ _ ?_; clear hK K
    refine qthen_normal ?_
    refine AWP.seq ?_
    refine AWP.region rfl ?_; intro K hK
    (try simp +decide -implicitDefEqProofs only [go_sem])
    refine AIdx.of (f := encApiSlide) (l := l) hx0 ?_
    (try simp +decide -implicitDefEqProofs only [go_sem])
    refine ACall.inline Try.call42 Try.func42 rfl rfl (by show _ ≤ 8; simp) ?_
    (try simp +decide -implicitDefEqProofs only [go_sem])
    refine AWP.seq ?_
    refine AWP.region rfl ?_; intro K hK
    (try simp +decide -implicitDefEqProofs only [go_sem])
    refine hK _ _ ?_; clear hK K
    refine qthen_normal ?_
    refine AWP.seq ?_
    refine AWP.region rfl ?_; intro K hK
    (try simp +decide -implicitDefEqProofs only [go_sem])
    refine hK _ _ ?_; clear hK K
    refine qthen_normal ?_
    refine AWP.ret ?_
    (try simp +decide -implicitDefEqProofs only [go_sem, Try.results42])
    refine hK _ _ ?_; clear hK K
    refine qthen_normal ?_
    refine AWP.cond (acond_split (fun hc => ?_) (fun hc => ?_))
    · replace h := bif_t h hc
      refine AWP.seq ?_
      refine AWP.region rfl ?_; intro K hK
      (try simp +decide -implicitDefEqProofs only [go_sem])
      refine hK _ _ ?_; clear hK K
      refine qthen_normal ?_
      refine AWP.ret ?_
      refine qblock_ret ?_
      refine qthen_ret ?_
      refine qthen_ret ?_
      obtain rfl := some_eq h
      obtain rfl := cont_ret hJ0
      replace h := on_ret hO0
      refine qblock_ret ?_
      refine qthen_ret ?_
      (try simp +decide -implicitDefEqProofs only [go_sem, Try.results41])
      refine hK _ _ ?_; clear hK K
      refine qthen_normal ?_
      refine AWP.ret ?_
      obtain rfl := some_eq h
      simp +decide -implicitDefEqProofs only [go_sem, mpE_nil, AVal.int.injEq, Int.natCast_zero, List.replicate_zero, List.length_take, List.length_drop, AVal.own.injEq, reduceCtorEq, Int.reduceAdd, nle2, nle1, nle0, nleA, nleL, Try.results34]
    replace h := bif_f h hc
    refine AWP.skip ?_
    refine qblock_normal ?_
    refine qthen_normal ?_
    refine AWP.region rfl ?_; intro K hK
    (try simp +decide -implicitDefEqProofs only [go_sem])
    refine hK _ _ ?_; clear hK K
    refine qthen_normal ?_
    obtain rfl := some_eq h
    refine ⟨(k0 + 1, (), ()), ⟨by dsimp only; omega, cont_next hJ0⟩, by dsimp only; omega, ?_, ?_⟩
    · (simp +decide -implicitDefEqProofs only [go_sem, mpE_nil, AVal.int.injEq, Int.natCast_zero, List.replicate_zero, List.length_take, List.length_drop, AVal.own.injEq, reduceCtorEq, Int.reduceAdd, hw0] <;> omega)
    · (simp +decide -implicitDefEqProofs only [go_sem, mpE_nil, AVal.int.injEq, Int.natCast_zero, List.replicate_zero, List.length_take, List.length_drop, AVal.own.injEq, reduceCtorEq, Int.reduceAdd, hw0] <;> omega)
  · obtain rfl := for_nil hJ0 (fun hl => by have := of_decide_eq_false hc; omega)
    have h := on_next hO0; try dsimp only at h
    have hkl : l.length = k0 := by have := of_decide_eq_false hc; omega
    subst hkl
    refine AWP.exit ?_
    refine qthen_exit ?_
    refine qthen_exit ?_
    refine qblock_same ?_
    refine qthen_normal ?_
    refine AWP.seq ?_
    refine AWP.region rfl ?_; intro K hK
    (try simp +decide -implicitDefEqProofs only [go_sem])
    refine hK _ _ ?_; clear hK K
    refine qthen_normal ?_
    refine AWP.ret ?_
    (try simp +decide -implicitDefEqProofs only [go_sem, Try.results41])
    refine hK _ _ ?_; clear hK K
    refine qthen_normal ?_
    refine AWP.ret ?_
    obtain rfl := some_eq h
    simp +decide -implicitDefEqProofs only [go_sem, mpE_nil, AVal.int.injEq, Int.natCast_zero, List.replicate_zero, List.length_take, List.length_drop, AVal.own.injEq, reduceCtorEq, Int.reduceAdd, nle2, nle1, nle0, nleA, nleL, Try.results34]

def avalanche_Control (l : List ApiSlide) (id_ : Int) (t : Int) : Option ((List ApiSlide) × Int) :=
  (avalanche_find l id_).bind fun y1 => (bif (decide (y1 < (0 : Int))) then some ([], (8 : Int)) else (idxL l y1).bind fun x_2 => (bif (decide (t < x_2.Controlled)) then some ([], (11 : Int)) else (bif (decide (t < (0 : Int))) then some ([], (11 : Int)) else (bif (decide ((20000000 : Int) < t)) then some ([], (11 : Int)) else (avalanche_copied l).bind fun y3 => (idxL y3 y1).bind fun x_4 => some (((y3.set y1.toNat (ApiSlide.mk x_4.ID x_4.Zones x_4.Lifts x_4.Limit (0 : Int) x_4.Controlled)).set y1.toNat (ApiSlide.mk x_4.ID x_4.Zones x_4.Lifts x_4.Limit (0 : Int) t)), (0 : Int))))))

theorem avalanche_Control_spec (l : List ApiSlide) (id_ : Int) (t : Int) {r : (List ApiSlide) × Int} (h : avalanche_Control l id_ t = some r) : PureFn Try.prog 18 [.sl 6 (l.map encApiSlide), .int .i64 id_, .int .i64 t] (· = .tuple [.sl 6 (r.1.map encApiSlide), .int .i64 r.2]) := by
  refine PureFn.nle (PureFn.intro Try.func18 rfl rfl (by show _ ≤ 42; simp) ?_)
  unfold avalanche_Control at h
  (try simp +decide -implicitDefEqProofs only [go_sem])
  refine AWP.seq ?_
  refine AWP.region rfl ?_; intro K hK
  (try simp +decide -implicitDefEqProofs only [go_sem])
  refine hK _ _ ?_; clear hK K
  refine qthen_normal ?_
  refine AWP.seq ?_
  refine AWP.region rfl ?_; intro K hK
  (try simp +decide -implicitDefEqProofs only [go_sem])
  obtain ⟨y1, hy1, h⟩ := bindE h
  refine ACall.pure Try.call34 (avalanche_find_spec l id_ hy1) rfl fun _ hr => ?_
  subst hr
  (try simp +decide -implicitDefEqProofs only [go_sem])
  refine hK _ _ ?_; clear hK K
  refine qthen_normal ?_
  refine AWP.seq ?_
  refine AWP.seq ?_
  refine AWP.region rfl ?_; intro K hK
  (try simp +decide -implicitDefEqProofs only [go_sem])
  refine hK _ _ ?_; clear hK K
  refine qthen_normal ?_
  refine AWP.cond (acond_split (fun hc => ?_) (fun hc => ?_))
  · replace h := bif_t h hc
    refine AWP.seq ?_
    refine AWP.region rfl ?_; intro K hK
    (try simp +decide -implicitDefEqProofs only [go_sem])
    refine hK _ _ ?_; clear hK K
    refine qthen_normal ?_
    refine AWP.ret ?_
    refine qthen_ret ?_
    obtain rfl := some_eq h
    simp +decide -implicitDefEqProofs only [go_sem, mpE_nil, AVal.int.injEq, Int.natCast_zero, List.replicate_zero, List.length_take, List.length_drop, AVal.own.injEq, reduceCtorEq, Int.reduceAdd, nle2, nle1, nle0, nleA, nleL, Try.results18]
  replace h := bif_f h hc
  refine AWP.skip ?_
  refine qthen_normal ?_
  refine AWP.seq ?_
  refine AWP.seq ?_
  refine AWP.region rfl ?_; intro K hK
  (try simp +decide -implicitDefEqProofs only [go_sem])
  obtain ⟨x_2, hx_2, h⟩ := bindE h
  refine AIdx.of (f := encApiSlide) (l := l) hx_2 ?_
  (try simp +decide -implicitDefEqProofs only [go_sem])
  refine aguardK_split (fun hc => ?_) (fun hc => ?_)
  · replace h := bif_f h hc
    (try simp +decide -implicitDefEqProofs only [go_sem, hc])
    refine aguardK_split (fun hc => ?_) (fun hc => ?_)
    · replace h := bif_f h hc
      (try simp +decide -implicitDefEqProofs only [go_sem, hc])
      refine hK _ _ ?_; clear hK K
      refine qthen_normal ?_
      refine AWP.cond (acond_split (fun hc => ?_) (fun hc => ?_))
      · replace h := bif_t h hc
        refine AWP.seq ?_
        refine AWP.region rfl ?_; intro K hK
        (try simp +decide -implicitDefEqProofs only [go_sem])
        refine hK _ _ ?_; clear hK K
        refine qthen_normal ?_
        refine AWP.ret ?_
        refine qthen_ret ?_
        obtain rfl := some_eq h
        simp +decide -implicitDefEqProofs only [go_sem, mpE_nil, AVal.int.injEq, Int.natCast_zero, List.replicate_zero, List.length_take, List.length_drop, AVal.own.injEq, reduceCtorEq, Int.reduceAdd, nle2, nle1, nle0, nleA, nleL, Try.results18]
      replace h := bif_f h hc
      refine AWP.skip ?_
      refine qthen_normal ?_
      refine AWP.seq ?_
      refine AWP.region rfl ?_; intro K hK
      (try simp +decide -implicitDefEqProofs only [go_sem])
      obtain ⟨y3, hy3, h⟩ := bindE h
      refine ACall.row Try.call37 (avalanche_copied_own l hy3) rfl 0 rfl ?_
      (try simp +decide -implicitDefEqProofs only [go_sem, List.length_map])
      refine hK _ _ ?_; clear hK K
      refine qthen_normal ?_
      refine AWP.seq ?_
      refine AWP.region rfl ?_; intro K hK
      (try simp +decide -implicitDefEqProofs only [go_sem])
      obtain ⟨x_4, hx_4, h⟩ := bindE h
      refine own_in hx_4 (by first | rfl | exact (sortI_len _).symm | (simp only [List.length_append, List.length_cons, List.length_nil, List.length_set, List.length_replicate] <;> omega)) ?_
      (try simp +decide -implicitDefEqProofs only [go_sem])
      refine AElem.of (f := encApiSlide) (l := y3) (n := y1) hx_4 ?_
      have hs5 := idxL_set (y := (ApiSlide.mk x_4.ID x_4.Zones x_4.Lifts x_4.Limit (0 : Int) x_4.Controlled)) hx_4
      (try simp +decide -implicitDefEqProofs only [go_sem])
      refine hK _ _ ?_; clear hK K
      refine qthen_normal ?_
      refine AWP.seq ?_
      refine AWP.region rfl ?_; intro K hK
      (try simp +decide -implicitDefEqProofs only [go_sem])
      refine own_in hs5 (by first | rfl | exact (sortI_len _).symm | (simp only [List.length_append, List.length_cons, List.length_nil, List.length_set, List.length_replicate] <;> omega)) ?_
      (try simp +decide -implicitDefEqProofs only [go_sem])
      refine AElem.of (f := encApiSlide) (l := (y3.set y1.toNat (ApiSlide.mk x_4.ID x_4.Zones x_4.Lifts x_4.Limit (0 : Int) x_4.Controlled))) (n := y1) hs5 ?_
      have hs6 := idxL_set (y := (ApiSlide.mk x_4.ID x_4.Zones x_4.Lifts x_4.Limit (0 : Int) t)) hs5
      (try simp +decide -implicitDefEqProofs only [go_sem])
      refine hK _ _ ?_; clear hK K
      refine qthen_normal ?_
      refine AWP.seq ?_
      refine AWP.region rfl ?_; intro K hK
      (try simp +decide -implicitDefEqProofs only [go_sem])
      refine hK _ _ ?_; clear hK K
      refine qthen_normal ?_
      refine AWP.ret ?_
      obtain rfl := some_eq h
      simp +decide -implicitDefEqProofs only [go_sem, mpE_nil, AVal.int.injEq, Int.natCast_zero, List.replicate_zero, List.length_take, List.length_drop, AVal.own.injEq, reduceCtorEq, Int.reduceAdd, nle2, nle1, nle0, nleA, nleL, Try.results18]
    · replace h := bif_t h hc
      (try simp +decide -implicitDefEqProofs only [go_sem, hc, Bool.not_false])
      refine hK _ _ ?_; clear hK K
      refine qthen_normal ?_
      refine AWP.cond (acond_true ?_)
      refine AWP.seq ?_
      refine AWP.region rfl ?_; intro K hK
      (try simp +decide -implicitDefEqProofs only [go_sem])
      refine hK _ _ ?_; clear hK K
      refine qthen_normal ?_
      refine AWP.ret ?_
      refine qthen_ret ?_
      obtain rfl := some_eq h
      simp +decide -implicitDefEqProofs only [go_sem, mpE_nil, AVal.int.injEq, Int.natCast_zero, List.replicate_zero, List.length_take, List.length_drop, AVal.own.injEq, reduceCtorEq, Int.reduceAdd, nle2, nle1, nle0, nleA, nleL, Try.results18]
  · replace h := bif_t h hc
    (try simp +decide -implicitDefEqProofs only [go_sem, hc, Bool.not_false])
    refine hK _ _ ?_; clear hK K
    refine qthen_normal ?_
    refine AWP.cond (acond_true ?_)
    refine AWP.seq ?_
    refine AWP.region rfl ?_; intro K hK
    (try simp +decide -implicitDefEqProofs only [go_sem])
    refine hK _ _ ?_; clear hK K
    refine qthen_normal ?_
    refine AWP.ret ?_
    refine qthen_ret ?_
    obtain rfl := some_eq h
    simp +decide -implicitDefEqProofs only [go_sem, mpE_nil, AVal.int.injEq, Int.natCast_zero, List.replicate_zero, List.length_take, List.length_drop, AVal.own.injEq, reduceCtorEq, Int.reduceAdd, nle2, nle1, nle0, nleA, nleL, Try.results18]

def avalanche_inRange (s_ : ApiSlide) : Option (Bool) :=
  (bif (decide ((1 : Int) ≤ s_.ID)) then (bif (decide (s_.ID ≤ (9999 : Int))) then (bif (decide ((4 : Int) ≤ s_.Limit)) then (bif (decide (s_.Limit ≤ (100000 : Int))) then (bif (decide ((0 : Int) ≤ s_.Load)) then (bif (decide (s_.Load ≤ (100000 : Int))) then (bif (decide ((-1 : Int) ≤ s_.Controlled)) then some (decide (s_.Controlled ≤ (20000000 : Int))) else some false) else some false) else some false) else some false) else some false) else some false) else some false)

theorem avalanche_inRange_spec (s_ : ApiSlide) {r : Bool} (h : avalanche_inRange s_ = some r) : PureFn Try.prog 33 [.agg (encApiSlide s_)] (· = .bool r) := by
  refine PureFn.nle (PureFn.intro Try.func33 rfl rfl (by show _ ≤ 41; simp) ?_)
  unfold avalanche_inRange at h
  (try simp +decide -implicitDefEqProofs only [go_sem])
  refine AWP.seq ?_
  refine AWP.region rfl ?_; intro K hK
  (try simp +decide -implicitDefEqProofs only [go_sem])
  refine hK _ _ ?_; clear hK K
  refine qthen_normal ?_
  refine AWP.seq ?_
  refine AWP.region rfl ?_; intro K hK
  (try simp +decide -implicitDefEqProofs only [go_sem])
  refine aguardK_split (fun hc => ?_) (fun hc => ?_)
  · replace h := bif_t h hc
    (try simp +decide -implicitDefEqProofs only [go_sem, hc])
    refine aguardK_split (fun hc => ?_) (fun hc => ?_)
    · replace h := bif_t h hc
      (try simp +decide -implicitDefEqProofs only [go_sem, hc])
      refine aguardK_split (fun hc => ?_) (fun hc => ?_)
      · replace h := bif_t h hc
        (try simp +decide -implicitDefEqProofs only [go_sem, hc])
        refine aguardK_split (fun hc => ?_) (fun hc => ?_)
        · replace h := bif_t h hc
          (try simp +decide -implicitDefEqProofs only [go_sem, hc])
          refine aguardK_split (fun hc => ?_) (fun hc => ?_)
          · replace h := bif_t h hc
            (try simp +decide -implicitDefEqProofs only [go_sem, hc])
            refine aguardK_split (fun hc => ?_) (fun hc => ?_)
            · replace h := bif_t h hc
              (try simp +decide -implicitDefEqProofs only [go_sem, hc])
              refine aguardK_split (fun hc => ?_) (fun hc => ?_)
              · replace h := bif_t h hc
                (try simp +decide -implicitDefEqProofs only [go_sem, hc])
                refine hK _ _ ?_; clear hK K
                refine qthen_normal ?_
                refine AWP.ret ?_
                obtain rfl := some_eq h
                simp +decide -implicitDefEqProofs only [go_sem, mpE_nil, AVal.int.injEq, Int.natCast_zero, List.replicate_zero, List.length_take, List.length_drop, AVal.own.injEq, reduceCtorEq, Int.reduceAdd, nle2, nle1, nle0, nleA, nleL, Try.results33]
              · replace h := bif_f h hc
                (try simp +decide -implicitDefEqProofs only [go_sem, hc, Bool.not_true])
                refine hK _ _ ?_; clear hK K
                refine qthen_normal ?_
                refine AWP.ret ?_
                obtain rfl := some_eq h
                simp +decide -implicitDefEqProofs only [go_sem, mpE_nil, AVal.int.injEq, Int.natCast_zero, List.replicate_zero, List.length_take, List.length_drop, AVal.own.injEq, reduceCtorEq, Int.reduceAdd, nle2, nle1, nle0, nleA, nleL, Try.results33]
            · replace h := bif_f h hc
              (try simp +decide -implicitDefEqProofs only [go_sem, hc, Bool.not_true])
              refine hK _ _ ?_; clear hK K
              refine qthen_normal ?_
              refine AWP.ret ?_
              obtain rfl := some_eq h
              simp +decide -implicitDefEqProofs only [go_sem, mpE_nil, AVal.int.injEq, Int.natCast_zero, List.replicate_zero, List.length_take, List.length_drop, AVal.own.injEq, reduceCtorEq, Int.reduceAdd, nle2, nle1, nle0, nleA, nleL, Try.results33]
          · replace h := bif_f h hc
            (try simp +decide -implicitDefEqProofs only [go_sem, hc, Bool.not_true])
            refine hK _ _ ?_; clear hK K
            refine qthen_normal ?_
            refine AWP.ret ?_
            obtain rfl := some_eq h
            simp +decide -implicitDefEqProofs only [go_sem, mpE_nil, AVal.int.injEq, Int.natCast_zero, List.replicate_zero, List.length_take, List.length_drop, AVal.own.injEq, reduceCtorEq, Int.reduceAdd, nle2, nle1, nle0, nleA, nleL, Try.results33]
        · replace h := bif_f h hc
          (try simp +decide -implicitDefEqProofs only [go_sem, hc, Bool.not_true])
          refine hK _ _ ?_; clear hK K
          refine qthen_normal ?_
          refine AWP.ret ?_
          obtain rfl := some_eq h
          simp +decide -implicitDefEqProofs only [go_sem, mpE_nil, AVal.int.injEq, Int.natCast_zero, List.replicate_zero, List.length_take, List.length_drop, AVal.own.injEq, reduceCtorEq, Int.reduceAdd, nle2, nle1, nle0, nleA, nleL, Try.results33]
      · replace h := bif_f h hc
        (try simp +decide -implicitDefEqProofs only [go_sem, hc, Bool.not_true])
        refine hK _ _ ?_; clear hK K
        refine qthen_normal ?_
        refine AWP.ret ?_
        obtain rfl := some_eq h
        simp +decide -implicitDefEqProofs only [go_sem, mpE_nil, AVal.int.injEq, Int.natCast_zero, List.replicate_zero, List.length_take, List.length_drop, AVal.own.injEq, reduceCtorEq, Int.reduceAdd, nle2, nle1, nle0, nleA, nleL, Try.results33]
    · replace h := bif_f h hc
      (try simp +decide -implicitDefEqProofs only [go_sem, hc, Bool.not_true])
      refine hK _ _ ?_; clear hK K
      refine qthen_normal ?_
      refine AWP.ret ?_
      obtain rfl := some_eq h
      simp +decide -implicitDefEqProofs only [go_sem, mpE_nil, AVal.int.injEq, Int.natCast_zero, List.replicate_zero, List.length_take, List.length_drop, AVal.own.injEq, reduceCtorEq, Int.reduceAdd, nle2, nle1, nle0, nleA, nleL, Try.results33]
  · replace h := bif_f h hc
    (try simp +decide -implicitDefEqProofs only [go_sem, hc, Bool.not_true])
    refine hK _ _ ?_; clear hK K
    refine qthen_normal ?_
    refine AWP.ret ?_
    obtain rfl := some_eq h
    simp +decide -implicitDefEqProofs only [go_sem, mpE_nil, AVal.int.injEq, Int.natCast_zero, List.replicate_zero, List.length_take, List.length_drop, AVal.own.injEq, reduceCtorEq, Int.reduceAdd, nle2, nle1, nle0, nleA, nleL, Try.results33]

def avalanche_increasing_b1 (l : List Int) (most : Int) (k0 : Nat) (x_2 : Int) (sv : Unit) : Option (Out (Unit) (Bool)) :=
  (bif (decide (x_2 < (1 : Int))) then some (Out.ret false) else (bif (decide (most < x_2)) then some (Out.ret false) else (bif (decide ((0 : Int) < ((k0 : Nat) : Int))) then (idxL l (IntKind.i64.wrap (((k0 : Nat) : Int) - (1 : Int)))).bind fun x_3 => (bif (decide (x_2 ≤ x_3)) then some (Out.ret false) else some (Out.next ())) else some (Out.next ()))))

def avalanche_increasing (l : List Int) (most : Int) : Option (Bool) :=
  (forIx (avalanche_increasing_b1 l most) 0 l ()).bind fun o0 => o0.on fun s0 => some true

theorem avalanche_increasing_spec (l : List Int) (most : Int) {r : Bool} (h : avalanche_increasing l most = some r) : PureFn Try.prog 35 [.sl 1 (l.map intC), .int .i64 most] (· = .bool r) := by
  refine PureFn.nle (PureFn.intro Try.func35 rfl rfl (by show _ ≤ 35; simp) ?_)
  unfold avalanche_increasing at h
  (try simp +decide -implicitDefEqProofs only [go_sem])
  refine AWP.seq ?_
  refine AWP.region rfl ?_; intro K hK
  (try simp +decide -implicitDefEqProofs only [go_sem])
  refine hK _ _ ?_; clear hK K
  refine qthen_normal ?_
  refine AWP.seq ?_
  refine AWP.seq ?_
  refine AWP.region rfl ?_; intro K hK
  (try simp +decide -implicitDefEqProofs only [go_sem])
  intro hm
  refine hK _ _ ?_; clear hK K
  refine qthen_normal ?_
  refine AWP.block ?_
  obtain ⟨o0, hJ0, hO0⟩ := bindE h
  clear h
  refine AWP.loopW (ι := Nat × (Unit) × (Unit)) (fun zz => [(0, .sl 1 (l.map intC)), (1, .int .i64 most), (7, .sl 1 (l.map intC)), (8, .int .i64 ((l.length : Nat) : Int)), (9, .int .i64 ((zz.1 : Nat) : Int))]) (fun zz => []) (fun zz => zz.1 ≤ l.length ∧ forIx (avalanche_increasing_b1 l most) zz.1 ((l).drop zz.1) zz.2.1 = some o0) (fun zz => l.length - zz.1) (0, (), ()) ⟨Nat.zero_le _, hJ0⟩ (by (simp +decide -implicitDefEqProofs only [go_sem, mpE_nil, AVal.int.injEq, Int.natCast_zero, List.replicate_zero, List.length_take, List.length_drop, AVal.own.injEq, reduceCtorEq, Int.reduceAdd] <;> omega)) (by (simp +decide -implicitDefEqProofs only [go_sem, mpE_nil, AVal.int.injEq, Int.natCast_zero, List.replicate_zero, List.length_take, List.length_drop, AVal.own.injEq, reduceCtorEq, Int.reduceAdd] <;> omega)) (fun x => ⟨rfl, rfl, rfl⟩) ?_
  clear hJ0
  rintro ⟨k0, ⟨⟩, ⟨⟩⟩ ⟨hk0, hJ0⟩
  dsimp only at hk0 hJ0 ⊢
  refine AWP.seq ?_
  refine AWP.region rfl ?_; intro K hK
  (try simp +decide -implicitDefEqProofs only [go_sem])
  refine hK _ _ ?_; clear hK K
  refine qthen_normal ?_
  refine AWP.seq ?_
  refine AWP.cond (acond_split (fun hc => ?_) (fun hc => ?_))
  · have hlt0 : k0 < l.length := by have := of_decide_eq_true hc; omega
    obtain ⟨x_2, b0, hx0_, h, hJ0⟩ := for_cons hJ0 hlt0
    have hx0 := idxL_nat hx0_
    have hw0 : IntKind.i64.wrap (((k0 : Nat) : Int) + 1) = (((k0 : Nat) : Int) + (1 : Int)) := by rw [wrap_i64] <;> omega
    unfold avalanche_increasing_b1 at h; try dsimp only at h
    refine AWP.skip ?_
    refine qthen_normal ?_
    refine AWP.seq ?_
    refine AWP.block ?_
    refine AWP.seq ?_
    refine AWP.region rfl ?_; intro K hK
    (try simp +decide -implicitDefEqProofs only [go_sem])
    refine AIdx.of (f := intC) (l := l) hx0 ?_
    (try simp +decide -implicitDefEqProofs only [go_sem])
    refine hK _ _ ?_; clear hK K
    refine qthen_normal ?_
    refine AWP.seq ?_
    refine AWP.region rfl ?_; intro K hK
    (try simp +decide -implicitDefEqProofs only [go_sem])
    refine aguardK_split (fun hc => ?_) (fun hc => ?_)
    · replace h := bif_f h hc
      (try simp +decide -implicitDefEqProofs only [go_sem, hc])
      refine aguardK_split (fun hc => ?_) (fun hc => ?_)
      · replace h := bif_f h hc
        (try simp +decide -implicitDefEqProofs only [go_sem, hc])
        refine aguardK_split (fun hc => ?_) (fun hc => ?_)
        · replace h := bif_t h hc
          (try simp +decide -implicitDefEqProofs only [go_sem, hc])
          obtain ⟨x_3, hx_3, h⟩ := bindE h
          refine AIdx.of (f := intC) (l := l) hx_3 ?_
          (try simp +decide -implicitDefEqProofs only [go_sem])
          refine hK _ _ ?_; clear hK K
          refine qthen_normal ?_
          refine AWP.cond (acond_split (fun hc => ?_) (fun hc => ?_))
          · replace h := bif_t h hc
            refine AWP.seq ?_
            refine AWP.region rfl ?_; intro K hK
            (try simp +decide -implicitDefEqProofs only [go_sem])
            refine hK _ _ ?_; clear hK K
            refine qthen_normal ?_
            refine AWP.ret ?_
            refine qblock_ret ?_
            refine qthen_ret ?_
            refine qthen_ret ?_
            obtain rfl := some_eq h
            obtain rfl := cont_ret hJ0
            replace h := on_ret hO0
            refine qblock_ret ?_
            refine qthen_ret ?_
            obtain rfl := some_eq h
            simp +decide -implicitDefEqProofs only [go_sem, mpE_nil, AVal.int.injEq, Int.natCast_zero, List.replicate_zero, List.length_take, List.length_drop, AVal.own.injEq, reduceCtorEq, Int.reduceAdd, nle2, nle1, nle0, nleA, nleL, Try.results35]
          replace h := bif_f h hc
          refine AWP.skip ?_
          refine qblock_normal ?_
          refine qthen_normal ?_
          refine AWP.region rfl ?_; intro K hK
          (try simp +decide -implicitDefEqProofs only [go_sem])
          refine hK _ _ ?_; clear hK K
          refine qthen_normal ?_
          obtain rfl := some_eq h
          refine ⟨(k0 + 1, (), ()), ⟨by dsimp only; omega, cont_next hJ0⟩, by dsimp only; omega, ?_, ?_⟩
          · (simp +decide -implicitDefEqProofs only [go_sem, mpE_nil, AVal.int.injEq, Int.natCast_zero, List.replicate_zero, List.length_take, List.length_drop, AVal.own.injEq, reduceCtorEq, Int.reduceAdd, hw0] <;> omega)
          · (simp +decide -implicitDefEqProofs only [go_sem, mpE_nil, AVal.int.injEq, Int.natCast_zero, List.replicate_zero, List.length_take, List.length_drop, AVal.own.injEq, reduceCtorEq, Int.reduceAdd, hw0] <;> omega)
        · replace h := bif_f h hc
          (try simp +decide -implicitDefEqProofs only [go_sem, hc, Bool.not_true])
          refine hK _ _ ?_; clear hK K
          refine qthen_normal ?_
          refine AWP.cond (acond_false ?_)
          refine AWP.skip ?_
          refine qblock_normal ?_
          refine qthen_normal ?_
          refine AWP.region rfl ?_; intro K hK
          (try simp +decide -implicitDefEqProofs only [go_sem])
          refine hK _ _ ?_; clear hK K
          refine qthen_normal ?_
          obtain rfl := some_eq h
          refine ⟨(k0 + 1, (), ()), ⟨by dsimp only; omega, cont_next hJ0⟩, by dsimp only; omega, ?_, ?_⟩
          · (simp +decide -implicitDefEqProofs only [go_sem, mpE_nil, AVal.int.injEq, Int.natCast_zero, List.replicate_zero, List.length_take, List.length_drop, AVal.own.injEq, reduceCtorEq, Int.reduceAdd, hw0] <;> omega)
          · (simp +decide -implicitDefEqProofs only [go_sem, mpE_nil, AVal.int.injEq, Int.natCast_zero, List.replicate_zero, List.length_take, List.length_drop, AVal.own.injEq, reduceCtorEq, Int.reduceAdd, hw0] <;> omega)
      · replace h := bif_t h hc
        (try simp +decide -implicitDefEqProofs only [go_sem, hc, Bool.not_false])
        refine hK _ _ ?_; clear hK K
        refine qthen_normal ?_
        refine AWP.cond (acond_true ?_)
        refine AWP.seq ?_
        refine AWP.region rfl ?_; intro K hK
        (try simp +decide -implicitDefEqProofs only [go_sem])
        refine hK _ _ ?_; clear hK K
        refine qthen_normal ?_
        refine AWP.ret ?_
        refine qblock_ret ?_
        refine qthen_ret ?_
        refine qthen_ret ?_
        obtain rfl := some_eq h
        obtain rfl := cont_ret hJ0
        replace h := on_ret hO0
        refine qblock_ret ?_
        refine qthen_ret ?_
        obtain rfl := some_eq h
        simp +decide -implicitDefEqProofs only [go_sem, mpE_nil, AVal.int.injEq, Int.natCast_zero, List.replicate_zero, List.length_take, List.length_drop, AVal.own.injEq, reduceCtorEq, Int.reduceAdd, nle2, nle1, nle0, nleA, nleL, Try.results35]
    · replace h := bif_t h hc
      (try simp +decide -implicitDefEqProofs only [go_sem, hc, Bool.not_false])
      refine hK _ _ ?_; clear hK K
      refine qthen_normal ?_
      refine AWP.cond (acond_true ?_)
      refine AWP.seq ?_
      refine AWP.region rfl ?_; intro K hK
      (try simp +decide -implicitDefEqProofs only [go_sem])
      refine hK _ _ ?_; clear hK K
      refine qthen_normal ?_
      refine AWP.ret ?_
      refine qblock_ret ?_
      refine qthen_ret ?_
      refine qthen_ret ?_
      obtain rfl := some_eq h
      obtain rfl := cont_ret hJ0
      replace h := on_ret hO0
      refine qblock_ret ?_
      refine qthen_ret ?_
      obtain rfl := some_eq h
      simp +decide -implicitDefEqProofs only [go_sem, mpE_nil, AVal.int.injEq, Int.natCast_zero, List.replicate_zero, List.length_take, List.length_drop, AVal.own.injEq, reduceCtorEq, Int.reduceAdd, nle2, nle1, nle0, nleA, nleL, Try.results35]
  · obtain rfl := for_nil hJ0 (fun hl => by have := of_decide_eq_false hc; omega)
    have h := on_next hO0; try dsimp only at h
    have hkl : l.length = k0 := by have := of_decide_eq_false hc; omega
    subst hkl
    refine AWP.exit ?_
    refine qthen_exit ?_
    refine qthen_exit ?_
    refine qblock_same ?_
    refine qthen_normal ?_
    refine AWP.seq ?_
    refine AWP.region rfl ?_; intro K hK
    (try simp +decide -implicitDefEqProofs only [go_sem])
    refine hK _ _ ?_; clear hK K
    refine qthen_normal ?_
    refine AWP.ret ?_
    obtain rfl := some_eq h
    simp +decide -implicitDefEqProofs only [go_sem, mpE_nil, AVal.int.injEq, Int.natCast_zero, List.replicate_zero, List.length_take, List.length_drop, AVal.own.injEq, reduceCtorEq, Int.reduceAdd, nle2, nle1, nle0, nleA, nleL, Try.results35]

end
end Go.Proofs.Ytciaimpdnjpajaa
