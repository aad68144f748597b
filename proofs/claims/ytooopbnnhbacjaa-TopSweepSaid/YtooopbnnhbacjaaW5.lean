/-
  What functions of the program compute, as plain Lean functions, and the walks that prove it; printed by a small program of our own (wip/walk.py).
-/
import Derived.Test.YtooopbnnhbacjaaW4
namespace Go.Proofs.Ytooopbnnhbacjaa
open Go Go.Ab
attribute [local irreducible] AWP ACall DCall PureFn Go.Ab.Sub alist dlist AIdx AElem ALook ANext
set_option maxRecDepth 100000
set_option maxHeartbeats 4000000
set_option linter.unusedSimpArgs false
set_option linter.unusedVariables false
noncomputable section
def ways_join_b2 (k6 : Nat) (x_8 : ApiEdge) (sv : (List ApiEdge)) : Option (Out ((List ApiEdge)) (Out ((List ApiEdge)) ((List ApiEdge)))) :=
  chk (sv.length + 1) (some (Out.next (sv ++ [(ApiEdge.mk ((sv.length : Nat) : Int) x_8.From x_8.To x_8.Cost)])))

def ways_join_b1 (k2 : Nat) (x_4 : List ApiEdge) (sv : (List ApiEdge)) : Option (Out ((List ApiEdge)) ((List ApiEdge))) :=
  (forIx ways_join_b2 0 x_4 sv).bind fun o6 => o6.on fun s6 => some (Out.next s6)

def ways_join (lists : List (List ApiEdge)) : Option ((List ApiEdge)) :=
  (forIx ways_join_b1 0 lists []).bind fun o2 => o2.on fun s2 => some s2

theorem ways_join_fresh (lists : List (List ApiEdge)) {r : (List ApiEdge)} (h : ways_join lists = some r) : FreshFn Try.prog 25 [.sl 1 (lists.map slC_encApiEdge)] (· = .sl 4 (r.map encApiEdge)) := by
  refine FreshFn.nle (FreshFn.intro Try.func25 rfl rfl (by show _ ≤ 30; simp) ?_)
  unfold ways_join at h
  (try simp +decide -implicitDefEqProofs only [go_sem])
  refine AWP.seq ?_
  refine AWP.region rfl ?_; intro K hK
  (try simp +decide -implicitDefEqProofs only [go_sem])
  refine hK _ _ ?_; clear hK K
  refine qthen_normal ?_
  refine AWP.seq ?_
  refine AWP.region rfl ?_; intro K hK
  (try simp +decide -implicitDefEqProofs only [go_sem])
  refine hK _ _ ?_; clear hK K
  refine qthen_normal ?_
  refine AWP.seq ?_
  refine AWP.seq ?_
  refine AWP.region rfl ?_; intro K hK
  (try simp +decide -implicitDefEqProofs only [go_sem])
  intro hm
  refine hK _ _ ?_; clear hK K
  refine qthen_normal ?_
  refine AWP.block ?_
  refine AWP.ghost 3 4 rfl (by decide) ?_
  obtain ⟨o2, hJ2, hO2⟩ := bindE h
  clear h
  refine AWP.loopW (ι := Nat × ((List ApiEdge)) × (Nat)) (fun zz => [(3, .own 0 zz.2.2 0 zz.2.1.length), (8, .sl 1 (lists.map slC_encApiEdge)), (9, .int .i64 ((lists.length : Nat) : Int)), (10, .int .i64 ((zz.1 : Nat) : Int))]) (fun zz => [.row zz.2.2 4 (zz.2.1.map encApiEdge)]) (fun zz => zz.1 ≤ lists.length ∧ forIx ways_join_b1 zz.1 ((lists).drop zz.1) zz.2.1 = some o2) (fun zz => lists.length - zz.1) (0, [], 0) ⟨Nat.zero_le _, hJ2⟩ (by (simp +decide -implicitDefEqProofs only [go_sem, mpE_nil, AVal.int.injEq, Int.natCast_zero, List.replicate_zero, List.length_take, List.length_drop, AVal.own.injEq, reduceCtorEq, Int.reduceAdd] <;> omega)) (by (simp +decide -implicitDefEqProofs only [go_sem, mpE_nil, AVal.int.injEq, Int.natCast_zero, List.replicate_zero, List.length_take, List.length_drop, AVal.own.injEq, reduceCtorEq, Int.reduceAdd] <;> omega)) (fun x => ⟨rfl, rfl, rfl⟩) ?_
  clear hJ2
  rintro ⟨k2, out1, ver2⟩ ⟨hk2, hJ2⟩
  dsimp only at hk2 hJ2 ⊢
  refine AWP.seq ?_
  refine AWP.region rfl ?_; intro K hK
  (try simp +decide -implicitDefEqProofs only [go_sem])
  refine hK _ _ ?_; clear hK K
  refine qthen_normal ?_
  refine AWP.seq ?_
  refine AWP.cond (acond_split (fun hc => ?_) (fun hc => ?_))
  · have hlt2 : k2 < lists.length := by have := of_decide_eq_true hc; omega
    obtain ⟨x_4, b2, hx2_, h, hJ2⟩ := for_cons hJ2 hlt2
    have hx2 := idxL_nat hx2_
    have hw2 : IntKind.i64.wrap (((k2 : Nat) : Int) + 1) = (((k2 : Nat) : Int) + (1 : Int)) := by rw [wrap_i64] <;> omega
    unfold ways_join_b1 at h; try dsimp only at h
    refine AWP.skip ?_
    refine qthen_normal ?_
    refine AWP.seq ?_
    refine AWP.block ?_
    refine AWP.seq ?_
    refine AWP.region rfl ?_; intro K hK
    (try simp +decide -implicitDefEqProofs only [go_sem])
    refine AIdx.of (f := slC_encApiEdge) (l := lists) hx2 ?_
    (try simp +decide -implicitDefEqProofs only [go_sem])
    refine hK _ _ ?_; clear hK K
    refine qthen_normal ?_
    refine AWP.seq ?_
    refine AWP.region rfl ?_; intro K hK
    (try simp +decide -implicitDefEqProofs only [go_sem])
    intro hm
    refine hK _ _ ?_; clear hK K
    refine qthen_normal ?_
    refine AWP.block ?_
    obtain ⟨o6, hJ6, hO6⟩ := bindE h
    clear h
    refine AWP.loopW (ι := Nat × ((List ApiEdge)) × (Nat)) (fun zz => [(3, .own 0 zz.2.2 0 zz.2.1.length), (8, .sl 1 (lists.map slC_encApiEdge)), (9, .int .i64 ((lists.length : Nat) : Int)), (10, .int .i64 ((k2 : Nat) : Int)), (14, .sl 4 (x_4.map encApiEdge)), (15, .int .i64 ((x_4.length : Nat) : Int)), (16, .int .i64 ((zz.1 : Nat) : Int))]) (fun zz => [.row zz.2.2 4 (zz.2.1.map encApiEdge)]) (fun zz => zz.1 ≤ x_4.length ∧ forIx ways_join_b2 zz.1 ((x_4).drop zz.1) zz.2.1 = some o6) (fun zz => x_4.length - zz.1) (0, out1, ver2) ⟨Nat.zero_le _, hJ6⟩ (by (simp +decide -implicitDefEqProofs only [go_sem, mpE_nil, AVal.int.injEq, Int.natCast_zero, List.replicate_zero, List.length_take, List.length_drop, AVal.own.injEq, reduceCtorEq, Int.reduceAdd] <;> omega)) (by (simp +decide -implicitDefEqProofs only [go_sem, mpE_nil, AVal.int.injEq, Int.natCast_zero, List.replicate_zero, List.length_take, List.length_drop, AVal.own.injEq, reduceCtorEq, Int.reduceAdd] <;> omega)) (fun x => ⟨rfl, rfl, rfl⟩) ?_
    clear hJ6
    rintro ⟨k6, out5, ver6⟩ ⟨hk6, hJ6⟩
    dsimp only at hk6 hJ6 ⊢
    refine AWP.seq ?_
    refine AWP.region rfl ?_; intro K hK
    (try simp +decide -implicitDefEqProofs only [go_sem])
    refine hK _ _ ?_; clear hK K
    refine qthen_normal ?_
    refine AWP.seq ?_
    refine AWP.cond (acond_split (fun hc => ?_) (fun hc => ?_))
    · have hlt6 : k6 < x_4.length := by have := of_decide_eq_true hc; omega
      obtain ⟨x_8, b6, hx6_, h, hJ6⟩ := for_cons hJ6 hlt6
      have hx6 := idxL_nat hx6_
      have hw6 : IntKind.i64.wrap (((k6 : Nat) : Int) + 1) = (((k6 : Nat) : Int) + (1 : Int)) := by rw [wrap_i64] <;> omega
      unfold ways_join_b2 at h; try dsimp only at h
      refine AWP.skip ?_
      refine qthen_normal ?_
      refine AWP.seq ?_
      refine AWP.block ?_
      refine AWP.seq ?_
      refine AWP.region rfl ?_; intro K hK
      (try simp +decide -implicitDefEqProofs only [go_sem])
      refine AIdx.of (f := encApiEdge) (l := x_4) hx6 ?_
      (try simp +decide -implicitDefEqProofs only [go_sem])
      refine hK _ _ ?_; clear hK K
      refine qthen_normal ?_
      refine AWP.seq ?_
      refine AWP.region rfl ?_; intro K hK
      (try simp +decide -implicitDefEqProofs only [go_sem])
      intro hm
      refine hK _ _ ?_; clear hK K
      refine qthen_normal ?_
      refine AWP.region rfl ?_; intro K hK
      (try simp +decide -implicitDefEqProofs only [go_sem])
      obtain ⟨hk, h⟩ := chk_in h
      (repeat (refine ⟨by first | omega | (simp only [List.length_take, List.length_drop, List.length_append]; omega), ?_⟩)); try simp +decide -implicitDefEqProofs only [go_sem]
      refine hK _ _ ?_; clear hK K
      refine qblock_normal ?_
      refine qthen_normal ?_
      refine AWP.region rfl ?_; intro K hK
      (try simp +decide -implicitDefEqProofs only [go_sem])
      refine hK _ _ ?_; clear hK K
      refine qthen_normal ?_
      obtain rfl := some_eq h
      refine ⟨(k6 + 1, (out5 ++ [(ApiEdge.mk ((out5.length : Nat) : Int) x_8.From x_8.To x_8.Cost)]), (ver6 + 1)), ⟨by dsimp only; omega, cont_next hJ6⟩, by dsimp only; omega, ?_, ?_⟩
      · (simp +decide -implicitDefEqProofs only [go_sem, mpE_nil, AVal.int.injEq, Int.natCast_zero, List.replicate_zero, List.length_take, List.length_drop, AVal.own.injEq, reduceCtorEq, Int.reduceAdd, hw6] <;> omega)
      · (simp +decide -implicitDefEqProofs only [go_sem, mpE_nil, AVal.int.injEq, Int.natCast_zero, List.replicate_zero, List.length_take, List.length_drop, AVal.own.injEq, reduceCtorEq, Int.reduceAdd, hw6] <;> omega)
    · obtain rfl := for_nil hJ6 (fun hl => by have := of_decide_eq_false hc; omega)
      have h := on_next hO6; try dsimp only at h
      have hkl : x_4.length = k6 := by have := of_decide_eq_false hc; omega
      subst hkl
      refine AWP.exit ?_
      refine qthen_exit ?_
      refine qthen_exit ?_
      refine qblock_same ?_
      refine qblock_normal ?_
      refine qthen_normal ?_
      refine AWP.region rfl ?_; intro K hK
      (try simp +decide -implicitDefEqProofs only [go_sem])
      refine hK _ _ ?_; clear hK K
      refine qthen_normal ?_
      obtain rfl := some_eq h
      refine ⟨(k2 + 1, out5, ver6), ⟨by dsimp only; omega, cont_next hJ2⟩, by dsimp only; omega, ?_, ?_⟩
      · (simp +decide -implicitDefEqProofs only [go_sem, mpE_nil, AVal.int.injEq, Int.natCast_zero, List.replicate_zero, List.length_take, List.length_drop, AVal.own.injEq, reduceCtorEq, Int.reduceAdd, hw2] <;> omega)
      · (simp +decide -implicitDefEqProofs only [go_sem, mpE_nil, AVal.int.injEq, Int.natCast_zero, List.replicate_zero, List.length_take, List.length_drop, AVal.own.injEq, reduceCtorEq, Int.reduceAdd, hw2] <;> omega)
  · obtain rfl := for_nil hJ2 (fun hl => by have := of_decide_eq_false hc; omega)
    have h := on_next hO2; try dsimp only at h
    have hkl : lists.length = k2 := by have := of_decide_eq_false hc; omega
    subst hkl
    refine AWP.exit ?_
    refine qthen_exit ?_
    refine qthen_exit ?_
    refine qblock_same ?_
    refine qthen_normal ?_
    refine AWP.seq ?_
    refine AWP.region rfl ?_; intro K hK
    (try simp +decide -implicitDefEqProofs only [go_sem])
    refine hK _ _ ?_; clear hK K
    refine qthen_normal ?_
    refine AWP.ret ?_
    obtain rfl := some_eq h
    simp +decide -implicitDefEqProofs only [go_sem, mpE_nil, AVal.int.injEq, Int.natCast_zero, List.replicate_zero, List.length_take, List.length_drop, AVal.own.injEq, reduceCtorEq, Int.reduceAdd, nle2, nle1, nle0, nleA, nleL, Try.results25]
theorem ways_join_spec (lists : List (List ApiEdge)) {r : (List ApiEdge)} (h : ways_join lists = some r) : PureFn Try.prog 25 [.sl 1 (lists.map slC_encApiEdge)] (· = .sl 4 (r.map encApiEdge)) := (ways_join_fresh lists h).pure

def slices_Clone_sapi_Edge_api_Edge (s_ : List ApiEdge) : Option (List ApiEdge) := chk s_.length (some s_)

theorem slices_Clone_sapi_Edge_api_Edge_own (s_ : List ApiEdge) {r : List ApiEdge} (h : slices_Clone_sapi_Edge_api_Edge s_ = some r) : OwnRow Try.prog 43 [.sl 4 (s_.map encApiEdge)] 4 (r.map encApiEdge) := by
  have hk := (chk_in h).1
  have hr : r = s_ := some_eq (chk_in h).2
  rw [hr]; clear hr h
  refine OwnRow.of ?_
  refine OwnFn.weak (R := fun q H => ∃ v rest, q = .own 0 v 0 (s_.map encApiEdge).length ∧ H = .row v 4 (s_.map encApiEdge) :: rest) (OwnFn.intro Try.func43 rfl rfl (by show _ ≤ 8; simp) ?_) (fun q H hq => ?_)
  · (try simp +decide -implicitDefEqProofs only [go_sem])
    refine AWP.seq ?_
    refine AWP.region rfl ?_; intro K hK
    (try simp +decide -implicitDefEqProofs only [go_sem])
    refine hK _ _ ?_; clear hK K
    refine qthen_normal ?_
    refine AWP.seq ?_
    refine AWP.seq ?_
    refine AWP.region rfl ?_; intro K hK
    (try simp +decide -implicitDefEqProofs only [go_sem])
    intro bnil hb
    (try simp +decide -implicitDefEqProofs only [go_sem])
    refine hK _ _ ?_; clear hK K
    refine qthen_normal ?_
    refine AWP.cond (acond_split (fun hc => ?_) (fun hc => ?_))
    · have hx0 : s_ = [] := Classical.byContradiction fun hne => by have := hb (by simpa using hne); simp [this] at hc
      subst hx0
      refine AWP.seq ?_
      refine AWP.region rfl ?_; intro K hK
      (try simp +decide -implicitDefEqProofs only [go_sem])
      refine hK _ _ ?_; clear hK K
      refine qthen_normal ?_
      refine AWP.ghost 2 4 rfl (by decide) ?_
      (try simp +decide -implicitDefEqProofs only [go_sem])
      refine AWP.ret ?_
      refine qthen_ret ?_
      (try simp +decide -implicitDefEqProofs only [go_sem, Try.results43])
      refine ⟨_, _, ?_, rfl⟩
      (try simp +decide -implicitDefEqProofs only [go_sem, List.length_map, List.length_append, List.length_cons, List.length_nil, List.length_set, List.length_replicate]); try rfl
    · clear hc
      refine AWP.skip ?_
      refine qthen_normal ?_
      refine AWP.seq ?_
      refine AWP.region rfl ?_; intro K hK
      (try simp +decide -implicitDefEqProofs only [go_sem])
      (repeat (refine ⟨by first | omega | (simp only [List.length_take, List.length_drop, List.length_append]; omega), ?_⟩)); try simp +decide -implicitDefEqProofs only [go_sem]
      refine hK _ _ ?_; clear hK K
      refine qthen_normal ?_
      refine AWP.ret ?_
      (try simp +decide -implicitDefEqProofs only [go_sem, Try.results43])
      refine ⟨_, _, ?_, rfl⟩
      (try simp +decide -implicitDefEqProofs only [go_sem, List.length_map, List.length_append, List.length_cons, List.length_nil, List.length_set, List.length_replicate]); try rfl
  · obtain ⟨v, rest, rfl, rfl⟩ := hq
    exact ⟨[.row v 4 (s_.map encApiEdge)], ⟨⟨rfl, rfl, rfl⟩, by cases rest <;> trivial⟩, rfl, rfl, ⟨v, rfl, rfl⟩⟩
theorem slices_Clone_sapi_Edge_api_Edge_fresh (s_ : List ApiEdge) {r : List ApiEdge} (h : slices_Clone_sapi_Edge_api_Edge s_ = some r) : FreshFn Try.prog 43 [.sl 4 (s_.map encApiEdge)] (· = .sl 4 (r.map encApiEdge)) := FreshFn.nle (OwnFn.fresh (OwnFn.mono (slices_Clone_sapi_Edge_api_Edge_own s_ h) fun q H => by rintro ⟨rfl, rfl⟩; simp +decide -implicitDefEqProofs only [go_sem, mpE_nil, AVal.int.injEq, Int.natCast_zero, List.replicate_zero, List.length_take, List.length_drop, AVal.own.injEq, reduceCtorEq, Int.reduceAdd, nle2, nle1, nle0, nleA, nleL, List.length_map]))
theorem slices_Clone_sapi_Edge_api_Edge_spec (s_ : List ApiEdge) {r : List ApiEdge} (h : slices_Clone_sapi_Edge_api_Edge s_ = some r) : PureFn Try.prog 43 [.sl 4 (s_.map encApiEdge)] (· = .sl 4 (r.map encApiEdge)) := (slices_Clone_sapi_Edge_api_Edge_fresh s_ h).pure

def graph_Reach_next (l : List ApiEdge) : List (Int × List Int) := l.foldl (fun g e => gadd g e.From e.To) []
theorem graph_Reach_next_inv (l : List ApiEdge) : ∀ n, n ≤ l.length → ∀ p ∈ graph_Reach_next (l.take n), 1 ≤ p.2.length ∧ p.2.length ≤ n := by
  intro n
  induction n with
  | zero => intro _ p hp; simp [graph_Reach_next] at hp
  | succ n ih =>
    intro h
    have hx : l[n]? = some l[n] := List.getElem?_eq_getElem (by omega)
    have e : graph_Reach_next (l.take (n + 1)) = gadd (graph_Reach_next (l.take n)) l[n].From l[n].To := by
      unfold graph_Reach_next; rw [List.take_add_one, hx, List.foldl_append]; rfl
    rw [e]
    exact gadd_inv (ih (by omega)) _ _
theorem graph_Reach_next_snoc {l : List ApiEdge} {k : Nat} {e : ApiEdge} (h : l[k]? = some e) : graph_Reach_next (l.take (k + 1)) = gadd (graph_Reach_next (l.take k)) e.From e.To := by
  unfold graph_Reach_next; rw [List.take_add_one, h, List.foldl_append]; rfl


def graph_Reach_b1 (l : List ApiEdge) (sv : (List (Int × Bool)) × (List Int)) : Option (Out ((List (Int × Bool)) × (List Int)) ((List Int))) :=
  (bif (decide ((0 : Int) < ((sv.2.length : Nat) : Int))) then (idxL sv.2 (IntKind.i64.wrap (((sv.2.length : Nat) : Int) - (1 : Int)))).bind fun x_6 => okB (decide ((0 : Int) ≤ (IntKind.i64.wrap (((sv.2.length : Nat) : Int) - (1 : Int))) ∧ (IntKind.i64.wrap (((sv.2.length : Nat) : Int) - (1 : Int))) ≤ ((sv.2.length : Nat) : Int))) ((bif (!(mget false sv.1 x_6)) then chk ((IntKind.i64.wrap (((sv.2.length : Nat) : Int) - (1 : Int))).toNat + (mget [] (graph_Reach_next l) x_6).length) (some (Out.next ((mset sv.1 x_6 true), ((sv.2.take (IntKind.i64.wrap (((sv.2.length : Nat) : Int) - (1 : Int))).toNat) ++ (mget [] (graph_Reach_next l) x_6))))) else some (Out.next (sv.1, (sv.2.take (IntKind.i64.wrap (((sv.2.length : Nat) : Int) - (1 : Int))).toNat))))) else (okB (decide (∀ k ∈ mkeys sv.1, -9223372036854775808 ≤ k ∧ k ≤ 9223372036854775807)) (chk sv.1.length (some (sortI (mkeys sv.1))))).bind fun q6 => some (Out.ret q6))

def graph_Reach (l : List ApiEdge) (from_ : List Int) : Option ((List Int)) :=
  chk l.length ((slices_Clone_sint_int from_).bind fun y1 => (whileN (graph_Reach_b1 l) fuel ([], y1)).bind fun o4 => o4.on fun _ => none)

theorem graph_Reach_fresh (l : List ApiEdge) (from_ : List Int) {r : (List Int)} (h : graph_Reach l from_ = some r) : FreshFn Try.prog 44 [.sl 4 (l.map encApiEdge), .sl 1 (from_.map intC)] (· = .sl 1 (r.map intC)) := by
  refine FreshFn.nle (FreshFn.intro Try.func44 rfl rfl (by show _ ≤ 61; simp) ?_)
  unfold graph_Reach at h
  (try simp +decide -implicitDefEqProofs only [go_sem])
  refine AWP.seq ?_
  refine AWP.region rfl ?_; intro K hK
  (try simp +decide -implicitDefEqProofs only [go_sem])
  refine hK _ _ ?_; clear hK K
  refine qthen_normal ?_
  refine AWP.seq ?_
  refine AWP.region rfl ?_; intro K hK
  (try simp +decide -implicitDefEqProofs only [go_sem])
  refine hK _ _ ?_; clear hK K
  refine qthen_normal ?_
  refine AWP.seq ?_
  refine AWP.seq ?_
  refine AWP.region rfl ?_; intro K hK
  (try simp +decide -implicitDefEqProofs only [go_sem])
  intro hm
  refine hK _ _ ?_; clear hK K
  refine qthen_normal ?_
  obtain ⟨hl, h⟩ := chk_in h
  refine AWP.block ?_
  refine AWP.loopS (ι := Nat × List (Int × List Int)) (fun zz => [(0, .sl 4 (l.map encApiEdge)), (1, .sl 1 (from_.map intC)), (5, .map 0), (12, .sl 4 (l.map encApiEdge)), (13, .int .i64 ((l.length : Nat) : Int)), (14, .int .i64 ((zz.1 : Nat) : Int))]) (fun zz => .mpo false (gE 1 zz.2) :: gR zz.2) (fun zz => zz.1 ≤ l.length ∧ zz.2 = graph_Reach_next (l.take zz.1)) (fun zz => l.length - zz.1) (0, []) ⟨Nat.zero_le _, rfl⟩
    (by (simp (implicitDefEqProofs := false) (decide := true) only [go_sem, Nat.reduceAdd, Nat.reduceMul, Nat.reduceSub, Int.reduceToNat, mpE_nil, Int.natCast_zero, List.replicate_zero, List.length_take, List.length_drop, AVal.own.injEq, reduceCtorEq, Int.reduceAdd] <;> omega)) (by exact ⟨⟨rfl, rfl⟩, trivial⟩)
    (fun zz => ⟨by simp [belFr, AVal.bel2, AVal.bel1, AVal.belF, AVal.bel0], belH_g zz.2 (by rw [List.length_cons, gR_len]; omega), rfl⟩) ?_
  rintro ⟨k, g⟩ ⟨hk, hg⟩
  dsimp only at hk hg ⊢
  refine AWP.seq ?_
  refine AWP.region rfl ?_; intro K hK
  (try simp +decide -implicitDefEqProofs only [go_sem])
  refine hK _ _ ?_; clear hK K
  refine qthen_normal ?_
  refine AWP.seq ?_
  refine AWP.cond (acond_split (fun hc => ?_) (fun hc => ?_))
  · have hlt : k < l.length := by have := of_decide_eq_true hc; omega
    have hx0 : l[k]? = some l[k] := List.getElem?_eq_getElem hlt
    have hx := idxL_lt hlt
    generalize l[k] = e at hx hx0
    have hw : IntKind.i64.wrap (((k : Nat) : Int) + 1) = (((k + 1 : Nat)) : Int) := wrap_add1 (by omega)
    refine AWP.skip ?_
    refine qthen_normal ?_
    refine AWP.seq ?_
    refine AWP.block ?_
    refine AWP.seq ?_
    refine AWP.region rfl ?_; intro K hK
    (try simp +decide -implicitDefEqProofs only [go_sem])
    refine AIdx.of (f := encApiEdge) (l := l) hx ?_
    (try simp +decide -implicitDefEqProofs only [go_sem])
    (try simp (implicitDefEqProofs := false) (decide := true) only [go_sem, Nat.reduceAdd, Nat.reduceMul, Nat.reduceSub, Int.reduceToNat, apN, ga0, ga1, ga2, sa0, sa1, sa2, List.drop_succ_cons, List.drop_zero, List.headD_cons])
    refine hK _ _ ?_; clear hK K
    refine qthen_normal ?_
    have hne1 : ((gR g).length + 1 + 1 = (gR g).length + 3 + 1) = False := by simp
    have hne2 : ((gR g).length + 1 + 1 + 1 = (gR g).length + 3 + 1) = False := by simp
    have hne3 : ((gR g).length + 1 + 1 = (gR g).length + 1 + 1 + 1 + 1) = False := by simp
    have hne4 : ((gR g).length + 1 + 1 + 1 = (gR g).length + 1 + 1 + 1 + 1) = False := by simp
    have hinv := graph_Reach_next_inv l k hk
    rw [← hg] at hinv
    have hnext := graph_Reach_next_snoc hx0
    rw [← hg] at hnext
    refine AWP.draw Try.mixed (by kernel_rfl) ?_; intro K hK
    (try simp (implicitDefEqProofs := false) (decide := true) only [go_sem, Nat.reduceAdd, Nat.reduceMul, Nat.reduceSub, Int.reduceToNat, apN, ga0, ga1, ga2, sa0, sa1, sa2, List.drop_succ_cons, List.drop_zero, List.headD_cons])
    refine ALook.mk' (fun v hv => ?_) (fun hn => ?_)
    · obtain ⟨i, xs, hi, hv2, hget, haset, hgset⟩ := alook_gE g 1 e.From v hv
      have hil : i < (gR g).length := by rw [gR_len]; exact (List.getElem?_eq_some_iff.1 hi).1
      have hrow : ∀ (B : List AObj), (gR g ++ B)[i]? = some (.row (xs.length - 1) 1 (xs.map intC)) := fun B => by
        rw [List.getElem?_append_left hil]; unfold gR; rw [List.getElem?_map, hi]; rfl
      have hset : ∀ (x : AObj) (B : List AObj), (gR g ++ B).set i x = (gR g).set i x ++ B := fun x B => List.set_append_left _ _ hil
      have hxs := hinv _ (List.mem_of_getElem? hi)
      subst hv2
      clear hv
      (try simp (implicitDefEqProofs := false) (decide := true) only [go_sem, Nat.reduceAdd, Nat.reduceMul, Nat.reduceSub, Int.reduceToNat, apN, ga0, ga1, ga2, sa0, sa1, sa2, List.drop_succ_cons, List.drop_zero, List.headD_cons, hne1, hne2, hne3, hne4])
      (try simp only [hrow])
      (try simp (implicitDefEqProofs := false) (decide := true) only [go_sem, Nat.reduceAdd, Nat.reduceMul, Nat.reduceSub, Int.reduceToNat, apN, ga0, ga1, ga2, sa0, sa1, sa2, List.drop_succ_cons, List.drop_zero, List.headD_cons, hne1, hne2, hne3, hne4])
      refine ⟨by simp only at hxs; omega, by simp only at hxs; omega, ?_⟩
      refine hK _ _ _ (okLog_ren (fun n => if n = 0 then 0 else if n = 1 then (gR g).length + 1 else if n = 2 then (gR g).length + 1 + 1 else if n = 3 then (gR g).length + 1 + 1 + 1 else i + 1) 5
        [(11, [0], true), (10, [3, 4, 2], true), (9, [2], true), (8, [1], false), (6, [0], false), (5, [1], false), (2, [1], false)] (by kernel_rfl) (fun a b ha hb => ?_) (by kernel_rfl)) ?_
      · have ha' : a = 0 ∨ a = 1 ∨ a = 2 ∨ a = 3 ∨ a = 4 := by omega
        have hb' : b = 0 ∨ b = 1 ∨ b = 2 ∨ b = 3 ∨ b = 4 := by omega
        rcases ha' with rfl | rfl | rfl | rfl | rfl <;> rcases hb' with rfl | rfl | rfl | rfl | rfl <;> simp <;> omega
      clear hK K
      refine qblock_normal ?_
      refine qthen_normal ?_
      refine AWP.region rfl ?_; intro K hK
      (try simp +decide -implicitDefEqProofs only [go_sem])
      refine hK _ _ ?_; clear hK K
      refine qthen_normal ?_
      have hlx : (xs ++ [e.To]).length = xs.length + 1 := by simp
      have hl1 : xs.length - 1 + 1 = xs.length + 1 - 1 := by simp only at hxs; omega
      have e1 := haset (xs ++ [e.To])
      have e2 := hgset (xs ++ [e.To])
      rw [hlx] at e1 e2
      refine ⟨(k + 1, gadd g e.From e.To), ⟨by dsimp only; omega, hnext.symm⟩, by dsimp only; omega, _, _, Sub.refl', ?_, ?_⟩
      · (simp (implicitDefEqProofs := false) (decide := true) only [go_sem, Nat.reduceAdd, Nat.reduceMul, Nat.reduceSub, Int.reduceToNat, mpE_nil, Int.natCast_zero, List.replicate_zero, List.length_take, List.length_drop, AVal.own.injEq, reduceCtorEq, Int.reduceAdd, hw] <;> omega)
      · rw [hset, hl1, e1, e2]
        unfold gadd
        rw [hget]
        exact subH_g _ _
    · (try simp (implicitDefEqProofs := false) (decide := true) only [go_sem, Nat.reduceAdd, Nat.reduceMul, Nat.reduceSub, Int.reduceToNat, apN, ga0, ga1, ga2, sa0, sa1, sa2, List.drop_succ_cons, List.drop_zero, List.headD_cons, hne1, hne2, hne3, hne4])
      refine hK _ _ _ (okLog_ren (fun n => if n = 0 then 0 else if n = 1 then (gR g).length + 1 else if n = 2 then (gR g).length + 1 + 1 else (gR g).length + 1 + 1 + 1) 4
        [(11, [0], true), (10, [3, 2], true), (9, [2], true), (8, [1], false), (6, [0], false), (5, [1], false), (2, [1], false)] (by kernel_rfl) (fun a b ha hb => ?_) (by kernel_rfl)) ?_
      · have ha' : a = 0 ∨ a = 1 ∨ a = 2 ∨ a = 3 := by omega
        have hb' : b = 0 ∨ b = 1 ∨ b = 2 ∨ b = 3 := by omega
        rcases ha' with rfl | rfl | rfl | rfl <;> rcases hb' with rfl | rfl | rfl | rfl <;> simp <;> omega
      clear hK K
      refine qblock_normal ?_
      refine qthen_normal ?_
      refine AWP.region rfl ?_; intro K hK
      (try simp +decide -implicitDefEqProofs only [go_sem])
      refine hK _ _ ?_; clear hK K
      refine qthen_normal ?_
      obtain ⟨hget, haset, hmset⟩ := alook_gE_none g 1 e.From hn
      have hgd : gadd g e.From e.To = g ++ [(e.From, [e.To])] := by unfold gadd; rw [hget, hmset]; rfl
      have hm1 : (AObj.mpo false (aset (gE 1 g) e.From (AVal.own ((gR g).length + 1 + 1 + 1) 0 0 1)) :: (gR g ++ [AObj.box [AVal.int IntKind.i64 e.ID, AVal.int IntKind.i64 e.From, AVal.int IntKind.i64 e.To, AVal.int IntKind.i64 e.Cost], AObj.row 0 1 [[AVal.int IntKind.i64 e.To]], AObj.row 0 1 [[AVal.int IntKind.i64 e.To]]]))[(gR g).length + 1]? = some (AObj.box [AVal.int IntKind.i64 e.ID, AVal.int IntKind.i64 e.From, AVal.int IntKind.i64 e.To, AVal.int IntKind.i64 e.Cost]) := by
        rw [List.getElem?_cons_succ]; exact ga0 _ _ _
      have hm3 : (AObj.mpo false (aset (gE 1 g) e.From (AVal.own ((gR g).length + 1 + 1 + 1) 0 0 1)) :: (gR g ++ [AObj.box [AVal.int IntKind.i64 e.ID, AVal.int IntKind.i64 e.From, AVal.int IntKind.i64 e.To, AVal.int IntKind.i64 e.Cost], AObj.row 0 1 [[AVal.int IntKind.i64 e.To]], AObj.row 0 1 [[AVal.int IntKind.i64 e.To]]]))[(gR g).length + 1 + 1 + 1]? = some (AObj.row 0 1 [[AVal.int IntKind.i64 e.To]]) := by
        rw [List.getElem?_cons_succ]; exact ga2 _ _ _ _ _
      refine ⟨(k + 1, gadd g e.From e.To), ⟨by dsimp only; omega, hnext.symm⟩, by dsimp only; omega, _, _, Sub.swap ((gR g).length + 1) ((gR g).length + 1 + 1 + 1) hm1 hm3 rfl, ?_, ?_⟩
      · (simp (implicitDefEqProofs := false) (decide := true) only [go_sem, Nat.reduceAdd, Nat.reduceMul, Nat.reduceSub, Int.reduceToNat, mpE_nil, Int.natCast_zero, List.replicate_zero, List.length_take, List.length_drop, AVal.own.injEq, reduceCtorEq, Int.reduceAdd, hw] <;> omega)
      · have hsw : swp ((gR g).length + 1) ((gR g).length + 1 + 1 + 1) ((gR g).length + 1 + 1 + 1) = (gR g).length + 1 := by unfold swp; rw [if_neg (by omega), if_pos rfl]
        have hre : renE (swp ((gR g).length + 1) ((gR g).length + 1 + 1 + 1)) (gE 1 g) = gE 1 g := renE_gE g 1 fun i h1 h2 => by
          rw [← gR_len] at h2
          unfold swp; rw [if_neg (by omega), if_neg (by omega)]
        unfold swapH
        simp only [renH, renO, renH_app, renH_gR, haset, renE_app, hre, renE, ren, hsw, List.set_cons_succ, sa0, sa2, rens]
        rw [hgd, gE_app, gR_len]
        have : gR (g ++ [(e.From, [e.To])]) = gR g ++ [AObj.row 0 1 [[AVal.int IntKind.i64 e.To]]] := by simp [gR, intC]
        refine ⟨?_, ?_⟩
        · exact ⟨rfl, rfl⟩
        · rw [this]
          have := subH_app (gR g ++ [AObj.row 0 1 [[AVal.int IntKind.i64 e.To]]]) [AObj.row 0 1 [[AVal.int IntKind.i64 e.To]], AObj.box [AVal.int IntKind.i64 e.ID, AVal.int IntKind.i64 e.From, AVal.int IntKind.i64 e.To, AVal.int IntKind.i64 e.Cost]] (by
            intro o ho
            rcases List.mem_append.1 ho with ho | ho
            · exact gR_notResv g o ho
            · simp at ho; subst ho; simp)
          rw [apN] at this
          exact this
  · have hkl : k = l.length := by have := of_decide_eq_false hc; omega
    subst hkl
    rw [List.take_length] at hg
    refine AWP.exit ?_
    refine qthen_exit ?_
    refine qthen_exit ?_
    refine qblock_same ?_
    refine qthen_normal ?_
    refine AWP.sub (Sub.weak (fr' := [(1, .sl 1 (from_.map intC)), (5, .map 0)]) (H' := .mpo false (gE 1 g) :: gR g) (subH_g g [] |> fun h => by rwa [List.append_nil] at h) (by (simp (implicitDefEqProofs := false) (decide := true) only [go_sem, Nat.reduceAdd, Nat.reduceMul, Nat.reduceSub, Int.reduceToNat, mpE_nil, Int.natCast_zero, List.replicate_zero, List.length_take, List.length_drop, AVal.own.injEq, reduceCtorEq, Int.reduceAdd] <;> omega)) (.inl rfl)) ?_
    refine AWP.sub (Sub.groups (fun _ _ _ _ => rfl) (by (simp (implicitDefEqProofs := false) (decide := true) only [go_sem, Nat.reduceAdd, Nat.reduceMul, Nat.reduceSub, Int.reduceToNat, mpE_nil, Int.natCast_zero, List.replicate_zero, List.length_take, List.length_drop, AVal.own.injEq, reduceCtorEq, Int.reduceAdd] <;> omega)) rfl rfl g) ?_
    subst hg
    refine AWP.seq ?_
    refine AWP.region rfl ?_; intro K hK
    (try simp +decide -implicitDefEqProofs only [go_sem])
    refine hK _ _ ?_; clear hK K
    refine qthen_normal ?_
    refine AWP.seq ?_
    refine AWP.region rfl ?_; intro K hK
    (try simp +decide -implicitDefEqProofs only [go_sem])
    obtain ⟨y1, hy1, h⟩ := bindE h
    refine ACall.row Try.call31 (slices_Clone_sint_int_own from_ hy1) rfl 2 rfl ?_
    (try simp +decide -implicitDefEqProofs only [go_sem, List.length_map])
    refine hK _ _ ?_; clear hK K
    refine qthen_normal ?_
    refine AWP.seq ?_
    refine AWP.block ?_
    obtain ⟨o4, hJ4, hO4⟩ := bindE h
    clear h
    refine AWP.loopW (ι := Nat × ((List (Int × Bool)) × (List Int)) × (Nat)) (fun zz => [(5, .map 0), (8, .map 1), (9, .own 2 zz.2.2 0 zz.2.1.2.length)]) (fun zz => [.mp (mpE slV_intC (graph_Reach_next l)), .mp (mpE boolV zz.2.1.1), .row zz.2.2 1 (zz.2.1.2.map intC)]) (fun zz => whileN (graph_Reach_b1 l) zz.1 zz.2.1 = some o4) (fun zz => zz.1) (fuel, ([], y1), 0) hJ4 (by (simp +decide -implicitDefEqProofs only [go_sem, mpE_nil, AVal.int.injEq, Int.natCast_zero, List.replicate_zero, List.length_take, List.length_drop, AVal.own.injEq, reduceCtorEq, Int.reduceAdd] <;> omega)) (by (simp +decide -implicitDefEqProofs only [go_sem, mpE_nil, AVal.int.injEq, Int.natCast_zero, List.replicate_zero, List.length_take, List.length_drop, AVal.own.injEq, reduceCtorEq, Int.reduceAdd] <;> omega)) (fun x => ⟨rfl, rfl, rfl⟩) ?_
    clear hJ4
    rintro ⟨n4, ⟨reached2, open_3⟩, ver4⟩ hJ4
    dsimp only at hJ4 ⊢
    obtain ⟨m4, b4, rfl, h, hJ4⟩ := while_step hJ4
    unfold graph_Reach_b1 at h; try dsimp only at h
    refine AWP.seq ?_
    refine AWP.seq ?_
    refine AWP.region rfl ?_; intro K hK
    (try simp +decide -implicitDefEqProofs only [go_sem])
    intro hm
    refine hK _ _ ?_; clear hK K
    refine qthen_normal ?_
    refine AWP.cond (acond_split (fun hc => ?_) (fun hc => ?_))
    · replace h := bif_t h hc
      refine AWP.skip ?_
      refine qthen_normal ?_
      refine AWP.block ?_
      refine AWP.seq ?_
      refine AWP.region rfl ?_; intro K hK
      (try simp +decide -implicitDefEqProofs only [go_sem])
      intro hm
      obtain ⟨x_6, hx_6, h⟩ := bindE h
      refine own_in hx_6 (by first | rfl | exact (sortI_len _).symm | (simp only [List.length_append, List.length_cons, List.length_nil, List.length_set, List.length_replicate] <;> omega)) ?_
      (try simp +decide -implicitDefEqProofs only [go_sem])
      refine AElem.of (f := intC) (l := open_3) (n := (IntKind.i64.wrap (((open_3.length : Nat) : Int) - (1 : Int)))) hx_6 ?_
      (try simp +decide -implicitDefEqProofs only [go_sem])
      refine hK _ _ ?_; clear hK K
      refine qthen_normal ?_
      refine AWP.seq ?_
      refine AWP.region rfl ?_; intro K hK
      (try simp +decide -implicitDefEqProofs only [go_sem])
      intro hm
      obtain ⟨hk, h⟩ := okB_in h
      (repeat (refine ⟨by omega, ?_⟩))
      refine hK _ _ ?_; clear hK K
      refine qthen_normal ?_
      refine AWP.sub (Sub.window 9 rfl rfl) ?_
      (try simp +decide -implicitDefEqProofs only [go_sem])
      refine AWP.seq ?_
      refine AWP.region rfl ?_; intro K hK
      (try simp +decide -implicitDefEqProofs only [go_sem])
      refine ALook.of (f := boolV) (m := reached2) (d := false) rfl ?_
      (try simp +decide -implicitDefEqProofs only [go_sem])
      refine hK _ _ ?_; clear hK K
      refine qthen_normal ?_
      refine AWP.cond (acond_split (fun hc => ?_) (fun hc => ?_))
      · replace h := bif_t h hc
        refine AWP.seq ?_
        refine AWP.region rfl ?_; intro K hK
        (try simp +decide -implicitDefEqProofs only [go_sem])
        refine hK _ _ ?_; clear hK K
        refine qthen_normal ?_
        refine AWP.region rfl ?_; intro K hK
        (try simp +decide -implicitDefEqProofs only [go_sem])
        refine ALook.of (f := slV_intC) (m := (graph_Reach_next l)) (d := []) rfl ?_
        (try simp +decide -implicitDefEqProofs only [go_sem])
        obtain ⟨hk, h⟩ := chk_in h
        (repeat (refine ⟨by first | omega | (simp only [List.length_take, List.length_drop, List.length_append]; omega), ?_⟩)); try simp +decide -implicitDefEqProofs only [go_sem]
        refine hK _ _ ?_; clear hK K
        refine qblock_normal ?_
        refine qthen_normal ?_
        obtain rfl := some_eq h
        refine ⟨(m4, ((mset reached2 x_6 true), ((open_3.take (IntKind.i64.wrap (((open_3.length : Nat) : Int) - (1 : Int))).toNat) ++ (mget [] (graph_Reach_next l) x_6))), ((ver4 + 1) + 1)), cont_next hJ4, by dsimp only; omega, ?_, ?_⟩
        · (simp +decide -implicitDefEqProofs only [go_sem, mpE_nil, AVal.int.injEq, Int.natCast_zero, List.replicate_zero, List.length_take, List.length_drop, AVal.own.injEq, reduceCtorEq, Int.reduceAdd] <;> omega)
        · (simp +decide -implicitDefEqProofs only [go_sem, mpE_nil, AVal.int.injEq, Int.natCast_zero, List.replicate_zero, List.length_take, List.length_drop, AVal.own.injEq, reduceCtorEq, Int.reduceAdd] <;> omega)
      replace h := bif_f h hc
      refine AWP.skip ?_
      refine qblock_normal ?_
      refine qthen_normal ?_
      obtain rfl := some_eq h
      refine ⟨(m4, (reached2, (open_3.take (IntKind.i64.wrap (((open_3.length : Nat) : Int) - (1 : Int))).toNat)), (ver4 + 1)), cont_next hJ4, by dsimp only; omega, ?_, ?_⟩
      · (simp +decide -implicitDefEqProofs only [go_sem, mpE_nil, AVal.int.injEq, Int.natCast_zero, List.replicate_zero, List.length_take, List.length_drop, AVal.own.injEq, reduceCtorEq, Int.reduceAdd] <;> omega)
      · (simp +decide -implicitDefEqProofs only [go_sem, mpE_nil, AVal.int.injEq, Int.natCast_zero, List.replicate_zero, List.length_take, List.length_drop, AVal.own.injEq, reduceCtorEq, Int.reduceAdd] <;> omega)
    replace h := bif_f h hc
    refine AWP.exit ?_
    refine qthen_exit ?_
    refine qthen_exit ?_
    obtain ⟨q6, hq, h⟩ := bindE h
    obtain rfl := some_eq h
    obtain rfl := cont_ret hJ4
    replace h := hq.trans (on_ret hO4)
    refine qblock_same ?_
    refine qthen_normal ?_
    refine AWP.seq ?_
    refine AWP.region rfl ?_; intro K hK
    (try simp +decide -implicitDefEqProofs only [go_sem])
    refine ACall.keysI Try.call50 Try.keys50 rfl ?_
    (try simp +decide -implicitDefEqProofs only [go_sem])
    obtain ⟨hk0, h⟩ := okB_in h
    obtain ⟨hk, h⟩ := chk_in h
    refine ACall.sortedKeysM Try.call49 Try.sortedKeys49 rfl rfl hk0 hk ?_
    (try simp +decide -implicitDefEqProofs only [go_sem])
    refine hK _ _ ?_; clear hK K
    refine qthen_normal ?_
    refine AWP.ret ?_
    obtain rfl := some_eq h
    simp +decide -implicitDefEqProofs only [go_sem, mpE_nil, AVal.int.injEq, Int.natCast_zero, List.replicate_zero, List.length_take, List.length_drop, AVal.own.injEq, reduceCtorEq, Int.reduceAdd, nle2, nle1, nle0, nleA, nleL, Try.results44]
theorem graph_Reach_spec (l : List ApiEdge) (from_ : List Int) {r : (List Int)} (h : graph_Reach l from_ = some r) : PureFn Try.prog 44 [.sl 4 (l.map encApiEdge), .sl 1 (from_.map intC)] (· = .sl 1 (r.map intC)) := (graph_Reach_fresh l from_ h).pure

theorem graph_Reach_own (l : List ApiEdge) (from_ : List Int) {r : (List Int)} (h : graph_Reach l from_ = some r) : OwnRow Try.prog 44 [.sl 4 (l.map encApiEdge), .sl 1 (from_.map intC)] 1 (r.map intC) := by
  refine OwnRow.of ?_
  refine OwnFn.weak (R := fun q H => ∃ v0 rest, q = .own 0 v0 0 (r.map intC).length ∧ H = .row v0 1 (r.map intC) :: rest) (OwnFn.intro Try.func44 rfl rfl (by show _ ≤ 61; simp) ?_) (fun q H hq => ?_)
  · unfold graph_Reach at h
    (try simp +decide -implicitDefEqProofs only [go_sem])
    refine AWP.seq ?_
    refine AWP.region rfl ?_; intro K hK
    (try simp +decide -implicitDefEqProofs only [go_sem])
    refine hK _ _ ?_; clear hK K
    refine qthen_normal ?_
    refine AWP.seq ?_
    refine AWP.region rfl ?_; intro K hK
    (try simp +decide -implicitDefEqProofs only [go_sem])
    refine hK _ _ ?_; clear hK K
    refine qthen_normal ?_
    refine AWP.seq ?_
    refine AWP.seq ?_
    refine AWP.region rfl ?_; intro K hK
    (try simp +decide -implicitDefEqProofs only [go_sem])
    intro hm
    refine hK _ _ ?_; clear hK K
    refine qthen_normal ?_
    obtain ⟨hl, h⟩ := chk_in h
    refine AWP.block ?_
    refine AWP.loopS (ι := Nat × List (Int × List Int)) (fun zz => [(0, .sl 4 (l.map encApiEdge)), (1, .sl 1 (from_.map intC)), (5, .map 0), (12, .sl 4 (l.map encApiEdge)), (13, .int .i64 ((l.length : Nat) : Int)), (14, .int .i64 ((zz.1 : Nat) : Int))]) (fun zz => .mpo false (gE 1 zz.2) :: gR zz.2) (fun zz => zz.1 ≤ l.length ∧ zz.2 = graph_Reach_next (l.take zz.1)) (fun zz => l.length - zz.1) (0, []) ⟨Nat.zero_le _, rfl⟩
      (by (simp (implicitDefEqProofs := false) (decide := true) only [go_sem, Nat.reduceAdd, Nat.reduceMul, Nat.reduceSub, Int.reduceToNat, mpE_nil, Int.natCast_zero, List.replicate_zero, List.length_take, List.length_drop, AVal.own.injEq, reduceCtorEq, Int.reduceAdd] <;> omega)) (by exact ⟨⟨rfl, rfl⟩, trivial⟩)
      (fun zz => ⟨by simp [belFr, AVal.bel2, AVal.bel1, AVal.belF, AVal.bel0], belH_g zz.2 (by rw [List.length_cons, gR_len]; omega), rfl⟩) ?_
    rintro ⟨k, g⟩ ⟨hk, hg⟩
    dsimp only at hk hg ⊢
    refine AWP.seq ?_
    refine AWP.region rfl ?_; intro K hK
    (try simp +decide -implicitDefEqProofs only [go_sem])
    refine hK _ _ ?_; clear hK K
    refine qthen_normal ?_
    refine AWP.seq ?_
    refine AWP.cond (acond_split (fun hc => ?_) (fun hc => ?_))
    · have hlt : k < l.length := by have := of_decide_eq_true hc; omega
      have hx0 : l[k]? = some l[k] := List.getElem?_eq_getElem hlt
      have hx := idxL_lt hlt
      generalize l[k] = e at hx hx0
      have hw : IntKind.i64.wrap (((k : Nat) : Int) + 1) = (((k + 1 : Nat)) : Int) := wrap_add1 (by omega)
      refine AWP.skip ?_
      refine qthen_normal ?_
      refine AWP.seq ?_
      refine AWP.block ?_
      refine AWP.seq ?_
      refine AWP.region rfl ?_; intro K hK
      (try simp +decide -implicitDefEqProofs only [go_sem])
      refine AIdx.of (f := encApiEdge) (l := l) hx ?_
      (try simp +decide -implicitDefEqProofs only [go_sem])
      (try simp (implicitDefEqProofs := false) (decide := true) only [go_sem, Nat.reduceAdd, Nat.reduceMul, Nat.reduceSub, Int.reduceToNat, apN, ga0, ga1, ga2, sa0, sa1, sa2, List.drop_succ_cons, List.drop_zero, List.headD_cons])
      refine hK _ _ ?_; clear hK K
      refine qthen_normal ?_
      have hne1 : ((gR g).length + 1 + 1 = (gR g).length + 3 + 1) = False := by simp
      have hne2 : ((gR g).length + 1 + 1 + 1 = (gR g).length + 3 + 1) = False := by simp
      have hne3 : ((gR g).length + 1 + 1 = (gR g).length + 1 + 1 + 1 + 1) = False := by simp
      have hne4 : ((gR g).length + 1 + 1 + 1 = (gR g).length + 1 + 1 + 1 + 1) = False := by simp
      have hinv := graph_Reach_next_inv l k hk
      rw [← hg] at hinv
      have hnext := graph_Reach_next_snoc hx0
      rw [← hg] at hnext
      refine AWP.draw Try.mixed (by kernel_rfl) ?_; intro K hK
      (try simp (implicitDefEqProofs := false) (decide := true) only [go_sem, Nat.reduceAdd, Nat.reduceMul, Nat.reduceSub, Int.reduceToNat, apN, ga0, ga1, ga2, sa0, sa1, sa2, List.drop_succ_cons, List.drop_zero, List.headD_cons])
      refine ALook.mk' (fun v hv => ?_) (fun hn => ?_)
      · obtain ⟨i, xs, hi, hv2, hget, haset, hgset⟩ := alook_gE g 1 e.From v hv
        have hil : i < (gR g).length := by rw [gR_len]; exact (List.getElem?_eq_some_iff.1 hi).1
        have hrow : ∀ (B : List AObj), (gR g ++ B)[i]? = some (.row (xs.length - 1) 1 (xs.map intC)) := fun B => by
          rw [List.getElem?_append_left hil]; unfold gR; rw [List.getElem?_map, hi]; rfl
        have hset : ∀ (x : AObj) (B : List AObj), (gR g ++ B).set i x = (gR g).set i x ++ B := fun x B => List.set_append_left _ _ hil
        have hxs := hinv _ (List.mem_of_getElem? hi)
        subst hv2
        clear hv
        (try simp (implicitDefEqProofs := false) (decide := true) only [go_sem, Nat.reduceAdd, Nat.reduceMul, Nat.reduceSub, Int.reduceToNat, apN, ga0, ga1, ga2, sa0, sa1, sa2, List.drop_succ_cons, List.drop_zero, List.headD_cons, hne1, hne2, hne3, hne4])
        (try simp only [hrow])
        (try simp (implicitDefEqProofs := false) (decide := true) only [go_sem, Nat.reduceAdd, Nat.reduceMul, Nat.reduceSub, Int.reduceToNat, apN, ga0, ga1, ga2, sa0, sa1, sa2, List.drop_succ_cons, List.drop_zero, List.headD_cons, hne1, hne2, hne3, hne4])
        refine ⟨by simp only at hxs; omega, by simp only at hxs; omega, ?_⟩
        refine hK _ _ _ (okLog_ren (fun n => if n = 0 then 0 else if n = 1 then (gR g).length + 1 else if n = 2 then (gR g).length + 1 + 1 else if n = 3 then (gR g).length + 1 + 1 + 1 else i + 1) 5
          [(11, [0], true), (10, [3, 4, 2], true), (9, [2], true), (8, [1], false), (6, [0], false), (5, [1], false), (2, [1], false)] (by kernel_rfl) (fun a b ha hb => ?_) (by kernel_rfl)) ?_
        · have ha' : a = 0 ∨ a = 1 ∨ a = 2 ∨ a = 3 ∨ a = 4 := by omega
          have hb' : b = 0 ∨ b = 1 ∨ b = 2 ∨ b = 3 ∨ b = 4 := by omega
          rcases ha' with rfl | rfl | rfl | rfl | rfl <;> rcases hb' with rfl | rfl | rfl | rfl | rfl <;> simp <;> omega
        clear hK K
        refine qblock_normal ?_
        refine qthen_normal ?_
        refine AWP.region rfl ?_; intro K hK
        (try simp +decide -implicitDefEqProofs only [go_sem])
        refine hK _ _ ?_; clear hK K
        refine qthen_normal ?_
        have hlx : (xs ++ [e.To]).length = xs.length + 1 := by simp
        have hl1 : xs.length - 1 + 1 = xs.length + 1 - 1 := by simp only at hxs; omega
        have e1 := haset (xs ++ [e.To])
        have e2 := hgset (xs ++ [e.To])
        rw [hlx] at e1 e2
        refine ⟨(k + 1, gadd g e.From e.To), ⟨by dsimp only; omega, hnext.symm⟩, by dsimp only; omega, _, _, Sub.refl', ?_, ?_⟩
        · (simp (implicitDefEqProofs := false) (decide := true) only [go_sem, Nat.reduceAdd, Nat.reduceMul, Nat.reduceSub, Int.reduceToNat, mpE_nil, Int.natCast_zero, List.replicate_zero, List.length_take, List.length_drop, AVal.own.injEq, reduceCtorEq, Int.reduceAdd, hw] <;> omega)
        · rw [hset, hl1, e1, e2]
          unfold gadd
          rw [hget]
          exact subH_g _ _
      · (try simp (implicitDefEqProofs := false) (decide := true) only [go_sem, Nat.reduceAdd, Nat.reduceMul, Nat.reduceSub, Int.reduceToNat, apN, ga0, ga1, ga2, sa0, sa1, sa2, List.drop_succ_cons, List.drop_zero, List.headD_cons, hne1, hne2, hne3, hne4])
        refine hK _ _ _ (okLog_ren (fun n => if n = 0 then 0 else if n = 1 then (gR g).length + 1 else if n = 2 then (gR g).length + 1 + 1 else (gR g).length + 1 + 1 + 1) 4
          [(11, [0], true), (10, [3, 2], true), (9, [2], true), (8, [1], false), (6, [0], false), (5, [1], false), (2, [1], false)] (by kernel_rfl) (fun a b ha hb => ?_) (by kernel_rfl)) ?_
        · have ha' : a = 0 ∨ a = 1 ∨ a = 2 ∨ a = 3 := by omega
          have hb' : b = 0 ∨ b = 1 ∨ b = 2 ∨ b = 3 := by omega
          rcases ha' with rfl | rfl | rfl | rfl <;> rcases hb' with rfl | rfl | rfl | rfl <;> simp <;> omega
        clear hK K
        refine qblock_normal ?_
        refine qthen_normal ?_
        refine AWP.region rfl ?_; intro K hK
        (try simp +decide -implicitDefEqProofs only [go_sem])
        refine hK _ _ ?_; clear hK K
        refine qthen_normal ?_
        obtain ⟨hget, haset, hmset⟩ := alook_gE_none g 1 e.From hn
        have hgd : gadd g e.From e.To = g ++ [(e.From, [e.To])] := by unfold gadd; rw [hget, hmset]; rfl
        have hm1 : (AObj.mpo false (aset (gE 1 g) e.From (AVal.own ((gR g).length + 1 + 1 + 1) 0 0 1)) :: (gR g ++ [AObj.box [AVal.int IntKind.i64 e.ID, AVal.int IntKind.i64 e.From, AVal.int IntKind.i64 e.To, AVal.int IntKind.i64 e.Cost], AObj.row 0 1 [[AVal.int IntKind.i64 e.To]], AObj.row 0 1 [[AVal.int IntKind.i64 e.To]]]))[(gR g).length + 1]? = some (AObj.box [AVal.int IntKind.i64 e.ID, AVal.int IntKind.i64 e.From, AVal.int IntKind.i64 e.To, AVal.int IntKind.i64 e.Cost]) := by
          rw [List.getElem?_cons_succ]; exact ga0 _ _ _
        have hm3 : (AObj.mpo false (aset (gE 1 g) e.From (AVal.own ((gR g).length + 1 + 1 + 1) 0 0 1)) :: (gR g ++ [AObj.box [AVal.int IntKind.i64 e.ID, AVal.int IntKind.i64 e.From, AVal.int IntKind.i64 e.To, AVal.int IntKind.i64 e.Cost], AObj.row 0 1 [[AVal.int IntKind.i64 e.To]], AObj.row 0 1 [[AVal.int IntKind.i64 e.To]]]))[(gR g).length + 1 + 1 + 1]? = some (AObj.row 0 1 [[AVal.int IntKind.i64 e.To]]) := by
          rw [List.getElem?_cons_succ]; exact ga2 _ _ _ _ _
        refine ⟨(k + 1, gadd g e.From e.To), ⟨by dsimp only; omega, hnext.symm⟩, by dsimp only; omega, _, _, Sub.swap ((gR g).length + 1) ((gR g).length + 1 + 1 + 1) hm1 hm3 rfl, ?_, ?_⟩
        · (simp (implicitDefEqProofs := false) (decide := true) only [go_sem, Nat.reduceAdd, Nat.reduceMul, Nat.reduceSub, Int.reduceToNat, mpE_nil, Int.natCast_zero, List.replicate_zero, List.length_take, List.length_drop, AVal.own.injEq, reduceCtorEq, Int.reduceAdd, hw] <;> omega)
        · have hsw : swp ((gR g).length + 1) ((gR g).length + 1 + 1 + 1) ((gR g).length + 1 + 1 + 1) = (gR g).length + 1 := by unfold swp; rw [if_neg (by omega), if_pos rfl]
          have hre : renE (swp ((gR g).length + 1) ((gR g).length + 1 + 1 + 1)) (gE 1 g) = gE 1 g := renE_gE g 1 fun i h1 h2 => by
            rw [← gR_len] at h2
            unfold swp; rw [if_neg (by omega), if_neg (by omega)]
          unfold swapH
          simp only [renH, renO, renH_app, renH_gR, haset, renE_app, hre, renE, ren, hsw, List.set_cons_succ, sa0, sa2, rens]
          rw [hgd, gE_app, gR_len]
          have : gR (g ++ [(e.From, [e.To])]) = gR g ++ [AObj.row 0 1 [[AVal.int IntKind.i64 e.To]]] := by simp [gR, intC]
          refine ⟨?_, ?_⟩
          · exact ⟨rfl, rfl⟩
          · rw [this]
            have := subH_app (gR g ++ [AObj.row 0 1 [[AVal.int IntKind.i64 e.To]]]) [AObj.row 0 1 [[AVal.int IntKind.i64 e.To]], AObj.box [AVal.int IntKind.i64 e.ID, AVal.int IntKind.i64 e.From, AVal.int IntKind.i64 e.To, AVal.int IntKind.i64 e.Cost]] (by
              intro o ho
              rcases List.mem_append.1 ho with ho | ho
              · exact gR_notResv g o ho
              · simp at ho; subst ho; simp)
            rw [apN] at this
            exact this
    · have hkl : k = l.length := by have := of_decide_eq_false hc; omega
      subst hkl
      rw [List.take_length] at hg
      refine AWP.exit ?_
      refine qthen_exit ?_
      refine qthen_exit ?_
      refine qblock_same ?_
      refine qthen_normal ?_
      refine AWP.sub (Sub.weak (fr' := [(1, .sl 1 (from_.map intC)), (5, .map 0)]) (H' := .mpo false (gE 1 g) :: gR g) (subH_g g [] |> fun h => by rwa [List.append_nil] at h) (by (simp (implicitDefEqProofs := false) (decide := true) only [go_sem, Nat.reduceAdd, Nat.reduceMul, Nat.reduceSub, Int.reduceToNat, mpE_nil, Int.natCast_zero, List.replicate_zero, List.length_take, List.length_drop, AVal.own.injEq, reduceCtorEq, Int.reduceAdd] <;> omega)) (.inl rfl)) ?_
      refine AWP.sub (Sub.groups (fun _ _ _ _ => rfl) (by (simp (implicitDefEqProofs := false) (decide := true) only [go_sem, Nat.reduceAdd, Nat.reduceMul, Nat.reduceSub, Int.reduceToNat, mpE_nil, Int.natCast_zero, List.replicate_zero, List.length_take, List.length_drop, AVal.own.injEq, reduceCtorEq, Int.reduceAdd] <;> omega)) rfl rfl g) ?_
      subst hg
      refine AWP.seq ?_
      refine AWP.region rfl ?_; intro K hK
      (try simp +decide -implicitDefEqProofs only [go_sem])
      refine hK _ _ ?_; clear hK K
      refine qthen_normal ?_
      refine AWP.seq ?_
      refine AWP.region rfl ?_; intro K hK
      (try simp +decide -implicitDefEqProofs only [go_sem])
      obtain ⟨y1, hy1, h⟩ := bindE h
      refine ACall.row Try.call31 (slices_Clone_sint_int_own from_ hy1) rfl 2 rfl ?_
      (try simp +decide -implicitDefEqProofs only [go_sem, List.length_map])
      refine hK _ _ ?_; clear hK K
      refine qthen_normal ?_
      refine AWP.seq ?_
      refine AWP.block ?_
      obtain ⟨o4, hJ4, hO4⟩ := bindE h
      clear h
      refine AWP.loopW (ι := Nat × ((List (Int × Bool)) × (List Int)) × (Nat)) (fun zz => [(5, .map 0), (8, .map 1), (9, .own 2 zz.2.2 0 zz.2.1.2.length)]) (fun zz => [.mp (mpE slV_intC (graph_Reach_next l)), .mp (mpE boolV zz.2.1.1), .row zz.2.2 1 (zz.2.1.2.map intC)]) (fun zz => whileN (graph_Reach_b1 l) zz.1 zz.2.1 = some o4) (fun zz => zz.1) (fuel, ([], y1), 0) hJ4 (by (simp +decide -implicitDefEqProofs only [go_sem, mpE_nil, AVal.int.injEq, Int.natCast_zero, List.replicate_zero, List.length_take, List.length_drop, AVal.own.injEq, reduceCtorEq, Int.reduceAdd] <;> omega)) (by (simp +decide -implicitDefEqProofs only [go_sem, mpE_nil, AVal.int.injEq, Int.natCast_zero, List.replicate_zero, List.length_take, List.length_drop, AVal.own.injEq, reduceCtorEq, Int.reduceAdd] <;> omega)) (fun x => ⟨rfl, rfl, rfl⟩) ?_
      clear hJ4
      rintro ⟨n4, ⟨reached2, open_3⟩, ver4⟩ hJ4
      dsimp only at hJ4 ⊢
      obtain ⟨m4, b4, rfl, h, hJ4⟩ := while_step hJ4
      unfold graph_Reach_b1 at h; try dsimp only at h
      refine AWP.seq ?_
      refine AWP.seq ?_
      refine AWP.region rfl ?_; intro K hK
      (try simp +decide -implicitDefEqProofs only [go_sem])
      intro hm
      refine hK _ _ ?_; clear hK K
      refine qthen_normal ?_
      refine AWP.cond (acond_split (fun hc => ?_) (fun hc => ?_))
      · replace h := bif_t h hc
        refine AWP.skip ?_
        refine qthen_normal ?_
        refine AWP.block ?_
        refine AWP.seq ?_
        refine AWP.region rfl ?_; intro K hK
        (try simp +decide -implicitDefEqProofs only [go_sem])
        intro hm
        obtain ⟨x_6, hx_6, h⟩ := bindE h
        refine own_in hx_6 (by first | rfl | exact (sortI_len _).symm | (simp only [List.length_append, List.length_cons, List.length_nil, List.length_set, List.length_replicate] <;> omega)) ?_
        (try simp +decide -implicitDefEqProofs only [go_sem])
        refine AElem.of (f := intC) (l := open_3) (n := (IntKind.i64.wrap (((open_3.length : Nat) : Int) - (1 : Int)))) hx_6 ?_
        (try simp +decide -implicitDefEqProofs only [go_sem])
        refine hK _ _ ?_; clear hK K
        refine qthen_normal ?_
        refine AWP.seq ?_
        refine AWP.region rfl ?_; intro K hK
        (try simp +decide -implicitDefEqProofs only [go_sem])
        intro hm
        obtain ⟨hk, h⟩ := okB_in h
        (repeat (refine ⟨by omega, ?_⟩))
        refine hK _ _ ?_; clear hK K
        refine qthen_normal ?_
        refine AWP.sub (Sub.window 9 rfl rfl) ?_
        (try simp +decide -implicitDefEqProofs only [go_sem])
        refine AWP.seq ?_
        refine AWP.region rfl ?_; intro K hK
        (try simp +decide -implicitDefEqProofs only [go_sem])
        refine ALook.of (f := boolV) (m := reached2) (d := false) rfl ?_
        (try simp +decide -implicitDefEqProofs only [go_sem])
        refine hK _ _ ?_; clear hK K
        refine qthen_normal ?_
        refine AWP.cond (acond_split (fun hc => ?_) (fun hc => ?_))
        · replace h := bif_t h hc
          refine AWP.seq ?_
          refine AWP.region rfl ?_; intro K hK
          (try simp +decide -implicitDefEqProofs only [go_sem])
          refine hK _ _ ?_; clear hK K
          refine qthen_normal ?_
          refine AWP.region rfl ?_; intro K hK
          (try simp +decide -implicitDefEqProofs only [go_sem])
          refine ALook.of (f := slV_intC) (m := (graph_Reach_next l)) (d := []) rfl ?_
          (try simp +decide -implicitDefEqProofs only [go_sem])
          obtain ⟨hk, h⟩ := chk_in h
          (repeat (refine ⟨by first | omega | (simp only [List.length_take, List.length_drop, List.length_append]; omega), ?_⟩)); try simp +decide -implicitDefEqProofs only [go_sem]
          refine hK _ _ ?_; clear hK K
          refine qblock_normal ?_
          refine qthen_normal ?_
          obtain rfl := some_eq h
          refine ⟨(m4, ((mset reached2 x_6 true), ((open_3.take (IntKind.i64.wrap (((open_3.length : Nat) : Int) - (1 : Int))).toNat) ++ (mget [] (graph_Reach_next l) x_6))), ((ver4 + 1) + 1)), cont_next hJ4, by dsimp only; omega, ?_, ?_⟩
          · (simp +decide -implicitDefEqProofs only [go_sem, mpE_nil, AVal.int.injEq, Int.natCast_zero, List.replicate_zero, List.length_take, List.length_drop, AVal.own.injEq, reduceCtorEq, Int.reduceAdd] <;> omega)
          · (simp +decide -implicitDefEqProofs only [go_sem, mpE_nil, AVal.int.injEq, Int.natCast_zero, List.replicate_zero, List.length_take, List.length_drop, AVal.own.injEq, reduceCtorEq, Int.reduceAdd] <;> omega)
        replace h := bif_f h hc
        refine AWP.skip ?_
        refine qblock_normal ?_
        refine qthen_normal ?_
        obtain rfl := some_eq h
        refine ⟨(m4, (reached2, (open_3.take (IntKind.i64.wrap (((open_3.length : Nat) : Int) - (1 : Int))).toNat)), (ver4 + 1)), cont_next hJ4, by dsimp only; omega, ?_, ?_⟩
        · (simp +decide -implicitDefEqProofs only [go_sem, mpE_nil, AVal.int.injEq, Int.natCast_zero, List.replicate_zero, List.length_take, List.length_drop, AVal.own.injEq, reduceCtorEq, Int.reduceAdd] <;> omega)
        · (simp +decide -implicitDefEqProofs only [go_sem, mpE_nil, AVal.int.injEq, Int.natCast_zero, List.replicate_zero, List.length_take, List.length_drop, AVal.own.injEq, reduceCtorEq, Int.reduceAdd] <;> omega)
      replace h := bif_f h hc
      refine AWP.exit ?_
      refine qthen_exit ?_
      refine qthen_exit ?_
      obtain ⟨q6, hq, h⟩ := bindE h
      obtain rfl := some_eq h
      obtain rfl := cont_ret hJ4
      replace h := hq.trans (on_ret hO4)
      refine qblock_same ?_
      refine qthen_normal ?_
      refine AWP.seq ?_
      refine AWP.region rfl ?_; intro K hK
      (try simp +decide -implicitDefEqProofs only [go_sem])
      refine ACall.keysI Try.call50 Try.keys50 rfl ?_
      (try simp +decide -implicitDefEqProofs only [go_sem])
      obtain ⟨hk0, h⟩ := okB_in h
      obtain ⟨hk, h⟩ := chk_in h
      refine ACall.sortedKeysM Try.call49 Try.sortedKeys49 rfl rfl hk0 hk ?_
      (try simp +decide -implicitDefEqProofs only [go_sem])
      refine hK _ _ ?_; clear hK K
      refine qthen_normal ?_
      refine AWP.sub (Sub.swap 4 0 rfl rfl rfl) ?_
      (try simp +decide -implicitDefEqProofs only [go_sem])
      refine AWP.ret ?_
      obtain rfl := some_eq h
      (try simp +decide -implicitDefEqProofs only [go_sem, Try.results44])
      refine ⟨_, _, ?_, rfl⟩
      (try simp +decide -implicitDefEqProofs only [go_sem, List.length_map, List.length_append, List.length_cons, List.length_nil, List.length_set, List.length_replicate]); try rfl
  · obtain ⟨v0, rest, rfl, rfl⟩ := hq
    refine ⟨[.row v0 1 (r.map intC)], ?_, ?_, ?_, ⟨v0, rfl, rfl⟩⟩
    all_goals (simp +decide -implicitDefEqProofs only [go_sem, mpE_nil, AVal.int.injEq, Int.natCast_zero, List.replicate_zero, List.length_take, List.length_drop, AVal.own.injEq, reduceCtorEq, Int.reduceAdd] <;> omega)

def graph_Back_b1 (k3 : Nat) (x_5 : ApiEdge) (sv : (List ApiEdge)) : Option (Out ((List ApiEdge)) ((List Int))) :=
  (idxL sv ((k3 : Nat) : Int)).bind fun x_6 => some (Out.next ((sv.set k3 (ApiEdge.mk x_6.ID x_5.To x_6.To x_6.Cost)).set k3 (ApiEdge.mk x_6.ID x_5.To x_5.From x_6.Cost)))

def graph_Back (l : List ApiEdge) (to_ : List Int) : Option ((List Int)) :=
  (slices_Clone_sapi_Edge_api_Edge l).bind fun y1 => (forIx graph_Back_b1 0 l y1).bind fun o3 => o3.on fun s3 => (graph_Reach s3 to_).bind fun y9 => some y9

theorem graph_Back_fresh (l : List ApiEdge) (to_ : List Int) {r : (List Int)} (h : graph_Back l to_ = some r) : FreshFn Try.prog 24 [.sl 4 (l.map encApiEdge), .sl 1 (to_.map intC)] (· = .sl 1 (r.map intC)) := by
  refine FreshFn.nle (FreshFn.intro Try.func24 rfl rfl (by show _ ≤ 33; simp) ?_)
  unfold graph_Back at h
  (try simp +decide -implicitDefEqProofs only [go_sem])
  refine AWP.seq ?_
  refine AWP.region rfl ?_; intro K hK
  (try simp +decide -implicitDefEqProofs only [go_sem])
  refine hK _ _ ?_; clear hK K
  refine qthen_normal ?_
  refine AWP.seq ?_
  refine AWP.region rfl ?_; intro K hK
  (try simp +decide -implicitDefEqProofs only [go_sem])
  obtain ⟨y1, hy1, h⟩ := bindE h
  refine ACall.row Try.call43 (slices_Clone_sapi_Edge_api_Edge_own l hy1) rfl 0 rfl ?_
  (try simp +decide -implicitDefEqProofs only [go_sem, List.length_map])
  refine hK _ _ ?_; clear hK K
  refine qthen_normal ?_
  refine AWP.seq ?_
  refine AWP.seq ?_
  refine AWP.region rfl ?_; intro K hK
  (try simp +decide -implicitDefEqProofs only [go_sem])
  intro hm
  refine hK _ _ ?_; clear hK K
  refine qthen_normal ?_
  refine AWP.block ?_
  obtain ⟨o3, hJ3, hO3⟩ := bindE h
  clear h
  refine AWP.loopW (ι := Nat × ((List ApiEdge)) × (Nat)) (fun zz => [(1, .sl 1 (to_.map intC)), (5, .own 0 zz.2.2 0 zz.2.1.length), (10, .sl 4 (l.map encApiEdge)), (11, .int .i64 ((l.length : Nat) : Int)), (12, .int .i64 ((zz.1 : Nat) : Int))]) (fun zz => [.row zz.2.2 4 (zz.2.1.map encApiEdge)]) (fun zz => zz.1 ≤ l.length ∧ forIx graph_Back_b1 zz.1 ((l).drop zz.1) zz.2.1 = some o3) (fun zz => l.length - zz.1) (0, y1, 0) ⟨Nat.zero_le _, hJ3⟩ (by (simp +decide -implicitDefEqProofs only [go_sem, mpE_nil, AVal.int.injEq, Int.natCast_zero, List.replicate_zero, List.length_take, List.length_drop, AVal.own.injEq, reduceCtorEq, Int.reduceAdd] <;> omega)) (by (simp +decide -implicitDefEqProofs only [go_sem, mpE_nil, AVal.int.injEq, Int.natCast_zero, List.replicate_zero, List.length_take, List.length_drop, AVal.own.injEq, reduceCtorEq, Int.reduceAdd] <;> omega)) (fun x => ⟨rfl, rfl, rfl⟩) ?_
  clear hJ3
  rintro ⟨k3, turned2, ver3⟩ ⟨hk3, hJ3⟩
  dsimp only at hk3 hJ3 ⊢
  refine AWP.seq ?_
  refine AWP.region rfl ?_; intro K hK
  (try simp +decide -implicitDefEqProofs only [go_sem])
  refine hK _ _ ?_; clear hK K
  refine qthen_normal ?_
  refine AWP.seq ?_
  refine AWP.cond (acond_split (fun hc => ?_) (fun hc => ?_))
  · have hlt3 : k3 < l.length := by have := of_decide_eq_true hc; omega
    obtain ⟨x_5, b3, hx3_, h, hJ3⟩ := for_cons hJ3 hlt3
    have hx3 := idxL_nat hx3_
    have hw3 : IntKind.i64.wrap (((k3 : Nat) : Int) + 1) = (((k3 : Nat) : Int) + (1 : Int)) := by rw [wrap_i64] <;> omega
    unfold graph_Back_b1 at h; try dsimp only at h
    refine AWP.skip ?_
    refine qthen_normal ?_
    refine AWP.seq ?_
    refine AWP.block ?_
    refine AWP.seq ?_
    refine AWP.region rfl ?_; intro K hK
    (try simp +decide -implicitDefEqProofs only [go_sem])
    refine AIdx.of (f := encApiEdge) (l := l) hx3 ?_
    (try simp +decide -implicitDefEqProofs only [go_sem])
    refine hK _ _ ?_; clear hK K
    refine qthen_normal ?_
    refine AWP.draw Try.mixed (by kernel_rfl) ?_; intro K hK
    (try simp +decide -implicitDefEqProofs only [go_sem])
    obtain ⟨x_6, hx_6, h⟩ := bindE h
    refine own_in hx_6 (by first | rfl | exact (sortI_len _).symm | (simp only [List.length_append, List.length_cons, List.length_nil, List.length_set, List.length_replicate] <;> omega)) ?_
    (try simp +decide -implicitDefEqProofs only [go_sem])
    refine AElem.ofNat (f := encApiEdge) (l := turned2) (n := k3) hx_6 ?_
    have hs7 := idxL_set (y := (ApiEdge.mk x_6.ID x_5.To x_6.To x_6.Cost)) hx_6
    (try simp +decide -implicitDefEqProofs only [go_sem])
    refine own_in hs7 (by first | rfl | exact (sortI_len _).symm | (simp only [List.length_append, List.length_cons, List.length_nil, List.length_set, List.length_replicate] <;> omega)) ?_
    (try simp +decide -implicitDefEqProofs only [go_sem])
    refine AElem.ofNat (f := encApiEdge) (l := (turned2.set k3 (ApiEdge.mk x_6.ID x_5.To x_6.To x_6.Cost))) (n := k3) hs7 ?_
    have hs8 := idxL_set (y := (ApiEdge.mk x_6.ID x_5.To x_5.From x_6.Cost)) hs7
    (try simp +decide -implicitDefEqProofs only [go_sem])
    refine hK _ _ _ (by kernel_rfl) ?_; clear hK K
    refine qblock_normal ?_
    refine qthen_normal ?_
    refine AWP.region rfl ?_; intro K hK
    (try simp +decide -implicitDefEqProofs only [go_sem])
    refine hK _ _ ?_; clear hK K
    refine qthen_normal ?_
    obtain rfl := some_eq h
    refine ⟨(k3 + 1, ((turned2.set k3 (ApiEdge.mk x_6.ID x_5.To x_6.To x_6.Cost)).set k3 (ApiEdge.mk x_6.ID x_5.To x_5.From x_6.Cost)), ver3), ⟨by dsimp only; omega, cont_next hJ3⟩, by dsimp only; omega, ?_, ?_⟩
    · (simp +decide -implicitDefEqProofs only [go_sem, mpE_nil, AVal.int.injEq, Int.natCast_zero, List.replicate_zero, List.length_take, List.length_drop, AVal.own.injEq, reduceCtorEq, Int.reduceAdd, hw3] <;> omega)
    · (simp +decide -implicitDefEqProofs only [go_sem, mpE_nil, AVal.int.injEq, Int.natCast_zero, List.replicate_zero, List.length_take, List.length_drop, AVal.own.injEq, reduceCtorEq, Int.reduceAdd, hw3] <;> omega)
  · obtain rfl := for_nil hJ3 (fun hl => by have := of_decide_eq_false hc; omega)
    have h := on_next hO3; try dsimp only at h
    have hkl : l.length = k3 := by have := of_decide_eq_false hc; omega
    subst hkl
    refine AWP.exit ?_
    refine qthen_exit ?_
    refine qthen_exit ?_
    refine qblock_same ?_
    refine qthen_normal ?_
    refine AWP.seq ?_
    refine AWP.region rfl ?_; intro K hK
    (try simp +decide -implicitDefEqProofs only [go_sem])
    obtain ⟨y9, hy9, h⟩ := bindE h
    refine ACall.rowS Try.call44 (graph_Reach_own turned2 to_ hy9) (by simp +decide -implicitDefEqProofs only [go_sem]) (by simp +decide -implicitDefEqProofs only [go_sem]) 1 rfl ?_
    (try simp +decide -implicitDefEqProofs only [go_sem, List.length_map])
    refine hK _ _ ?_; clear hK K
    refine qthen_normal ?_
    refine AWP.ret ?_
    obtain rfl := some_eq h
    simp +decide -implicitDefEqProofs only [go_sem, mpE_nil, AVal.int.injEq, Int.natCast_zero, List.replicate_zero, List.length_take, List.length_drop, AVal.own.injEq, reduceCtorEq, Int.reduceAdd, nle2, nle1, nle0, nleA, nleL, Try.results24]
theorem graph_Back_spec (l : List ApiEdge) (to_ : List Int) {r : (List Int)} (h : graph_Back l to_ = some r) : PureFn Try.prog 24 [.sl 4 (l.map encApiEdge), .sl 1 (to_.map intC)] (· = .sl 1 (r.map intC)) := (graph_Back_fresh l to_ h).pure

theorem graph_Back_own (l : List ApiEdge) (to_ : List Int) {r : (List Int)} (h : graph_Back l to_ = some r) : OwnRow Try.prog 24 [.sl 4 (l.map encApiEdge), .sl 1 (to_.map intC)] 1 (r.map intC) := by
  refine OwnRow.of ?_
  refine OwnFn.weak (R := fun q H => ∃ v0 rest, q = .own 0 v0 0 (r.map intC).length ∧ H = .row v0 1 (r.map intC) :: rest) (OwnFn.intro Try.func24 rfl rfl (by show _ ≤ 33; simp) ?_) (fun q H hq => ?_)
  · unfold graph_Back at h
    (try simp +decide -implicitDefEqProofs only [go_sem])
    refine AWP.seq ?_
    refine AWP.region rfl ?_; intro K hK
    (try simp +decide -implicitDefEqProofs only [go_sem])
    refine hK _ _ ?_; clear hK K
    refine qthen_normal ?_
    refine AWP.seq ?_
    refine AWP.region rfl ?_; intro K hK
    (try simp +decide -implicitDefEqProofs only [go_sem])
    obtain ⟨y1, hy1, h⟩ := bindE h
    refine ACall.row Try.call43 (slices_Clone_sapi_Edge_api_Edge_own l hy1) rfl 0 rfl ?_
    (try simp +decide -implicitDefEqProofs only [go_sem, List.length_map])
    refine hK _ _ ?_; clear hK K
    refine qthen_normal ?_
    refine AWP.seq ?_
    refine AWP.seq ?_
    refine AWP.region rfl ?_; intro K hK
    (try simp +decide -implicitDefEqProofs only [go_sem])
    intro hm
    refine hK _ _ ?_; clear hK K
    refine qthen_normal ?_
    refine AWP.block ?_
    obtain ⟨o3, hJ3, hO3⟩ := bindE h
    clear h
    refine AWP.loopW (ι := Nat × ((List ApiEdge)) × (Nat)) (fun zz => [(1, .sl 1 (to_.map intC)), (5, .own 0 zz.2.2 0 zz.2.1.length), (10, .sl 4 (l.map encApiEdge)), (11, .int .i64 ((l.length : Nat) : Int)), (12, .int .i64 ((zz.1 : Nat) : Int))]) (fun zz => [.row zz.2.2 4 (zz.2.1.map encApiEdge)]) (fun zz => zz.1 ≤ l.length ∧ forIx graph_Back_b1 zz.1 ((l).drop zz.1) zz.2.1 = some o3) (fun zz => l.length - zz.1) (0, y1, 0) ⟨Nat.zero_le _, hJ3⟩ (by (simp +decide -implicitDefEqProofs only [go_sem, mpE_nil, AVal.int.injEq, Int.natCast_zero, List.replicate_zero, List.length_take, List.length_drop, AVal.own.injEq, reduceCtorEq, Int.reduceAdd] <;> omega)) (by (simp +decide -implicitDefEqProofs only [go_sem, mpE_nil, AVal.int.injEq, Int.natCast_zero, List.replicate_zero, List.length_take, List.length_drop, AVal.own.injEq, reduceCtorEq, Int.reduceAdd] <;> omega)) (fun x => ⟨rfl, rfl, rfl⟩) ?_
    clear hJ3
    rintro ⟨k3, turned2, ver3⟩ ⟨hk3, hJ3⟩
    dsimp only at hk3 hJ3 ⊢
    refine AWP.seq ?_
    refine AWP.region rfl ?_; intro K hK
    (try simp +decide -implicitDefEqProofs only [go_sem])
    refine hK _ _ ?_; clear hK K
    refine qthen_normal ?_
    refine AWP.seq ?_
    refine AWP.cond (acond_split (fun hc => ?_) (fun hc => ?_))
    · have hlt3 : k3 < l.length := by have := of_decide_eq_true hc; omega
      obtain ⟨x_5, b3, hx3_, h, hJ3⟩ := for_cons hJ3 hlt3
      have hx3 := idxL_nat hx3_
      have hw3 : IntKind.i64.wrap (((k3 : Nat) : Int) + 1) = (((k3 : Nat) : Int) + (1 : Int)) := by rw [wrap_i64] <;> omega
      unfold graph_Back_b1 at h; try dsimp only at h
      refine AWP.skip ?_
      refine qthen_normal ?_
      refine AWP.seq ?_
      refine AWP.block ?_
      refine AWP.seq ?_
      refine AWP.region rfl ?_; intro K hK
      (try simp +decide -implicitDefEqProofs only [go_sem])
      refine AIdx.of (f := encApiEdge) (l := l) hx3 ?_
      (try simp +decide -implicitDefEqProofs only [go_sem])
      refine hK _ _ ?_; clear hK K
      refine qthen_normal ?_
      refine AWP.draw Try.mixed (by kernel_rfl) ?_; intro K hK
      (try simp +decide -implicitDefEqProofs only [go_sem])
      obtain ⟨x_6, hx_6, h⟩ := bindE h
      refine own_in hx_6 (by first | rfl | exact (sortI_len _).symm | (simp only [List.length_append, List.length_cons, List.length_nil, List.length_set, List.length_replicate] <;> omega)) ?_
      (try simp +decide -implicitDefEqProofs only [go_sem])
      refine AElem.ofNat (f := encApiEdge) (l := turned2) (n := k3) hx_6 ?_
      have hs7 := idxL_set (y := (ApiEdge.mk x_6.ID x_5.To x_6.To x_6.Cost)) hx_6
      (try simp +decide -implicitDefEqProofs only [go_sem])
      refine own_in hs7 (by first | rfl | exact (sortI_len _).symm | (simp only [List.length_append, List.length_cons, List.length_nil, List.length_set, List.length_replicate] <;> omega)) ?_
      (try simp +decide -implicitDefEqProofs only [go_sem])
      refine AElem.ofNat (f := encApiEdge) (l := (turned2.set k3 (ApiEdge.mk x_6.ID x_5.To x_6.To x_6.Cost))) (n := k3) hs7 ?_
      have hs8 := idxL_set (y := (ApiEdge.mk x_6.ID x_5.To x_5.From x_6.Cost)) hs7
      (try simp +decide -implicitDefEqProofs only [go_sem])
      refine hK _ _ _ (by kernel_rfl) ?_; clear hK K
      refine qblock_normal ?_
      refine qthen_normal ?_
      refine AWP.region rfl ?_; intro K hK
      (try simp +decide -implicitDefEqProofs only [go_sem])
      refine hK _ _ ?_; clear hK K
      refine qthen_normal ?_
      obtain rfl := some_eq h
      refine ⟨(k3 + 1, ((turned2.set k3 (ApiEdge.mk x_6.ID x_5.To x_6.To x_6.Cost)).set k3 (ApiEdge.mk x_6.ID x_5.To x_5.From x_6.Cost)), ver3), ⟨by dsimp only; omega, cont_next hJ3⟩, by dsimp only; omega, ?_, ?_⟩
      · (simp +decide -implicitDefEqProofs only [go_sem, mpE_nil, AVal.int.injEq, Int.natCast_zero, List.replicate_zero, List.length_take, List.length_drop, AVal.own.injEq, reduceCtorEq, Int.reduceAdd, hw3] <;> omega)
      · (simp +decide -implicitDefEqProofs only [go_sem, mpE_nil, AVal.int.injEq, Int.natCast_zero, List.replicate_zero, List.length_take, List.length_drop, AVal.own.injEq, reduceCtorEq, Int.reduceAdd, hw3] <;> omega)
    · obtain rfl := for_nil hJ3 (fun hl => by have := of_decide_eq_false hc; omega)
      have h := on_next hO3; try dsimp only at h
      have hkl : l.length = k3 := by have := of_decide_eq_false hc; omega
      subst hkl
      refine AWP.exit ?_
      refine qthen_exit ?_
      refine qthen_exit ?_
      refine qblock_same ?_
      refine qthen_normal ?_
      refine AWP.seq ?_
      refine AWP.region rfl ?_; intro K hK
      (try simp +decide -implicitDefEqProofs only [go_sem])
      obtain ⟨y9, hy9, h⟩ := bindE h
      refine ACall.rowS Try.call44 (graph_Reach_own turned2 to_ hy9) (by simp +decide -implicitDefEqProofs only [go_sem]) (by simp +decide -implicitDefEqProofs only [go_sem]) 1 rfl ?_
      (try simp +decide -implicitDefEqProofs only [go_sem, List.length_map])
      refine hK _ _ ?_; clear hK K
      refine qthen_normal ?_
      refine AWP.sub (Sub.swap 1 0 rfl rfl rfl) ?_
      (try simp +decide -implicitDefEqProofs only [go_sem])
      refine AWP.ret ?_
      obtain rfl := some_eq h
      (try simp +decide -implicitDefEqProofs only [go_sem, Try.results24])
      refine ⟨_, _, ?_, rfl⟩
      (try simp +decide -implicitDefEqProofs only [go_sem, List.length_map, List.length_append, List.length_cons, List.length_nil, List.length_set, List.length_replicate]); try rfl
  · obtain ⟨v0, rest, rfl, rfl⟩ := hq
    refine ⟨[.row v0 1 (r.map intC)], ?_, ?_, ?_, ⟨v0, rfl, rfl⟩⟩
    all_goals (simp +decide -implicitDefEqProofs only [go_sem, mpE_nil, AVal.int.injEq, Int.natCast_zero, List.replicate_zero, List.length_take, List.length_drop, AVal.own.injEq, reduceCtorEq, Int.reduceAdd] <;> omega)

def ways_Home (m : ApiMap) (runs : List Int) : Option ((List Int)) :=
  (terrain_Down m runs).bind fun y1 => (ways_join [y1]).bind fun y2 => (graph_Back y2 m.Bases).bind fun y3 => some y3

theorem ways_Home_fresh (m : ApiMap) (runs : List Int) {r : (List Int)} (h : ways_Home m runs = some r) : FreshFn Try.prog 7 [.agg (encApiMap m), .sl 1 (runs.map intC)] (· = .sl 1 (r.map intC)) := by
  refine FreshFn.nle (FreshFn.intro Try.func7 rfl rfl (by show _ ≤ 13; simp) ?_)
  unfold ways_Home at h
  (try simp +decide -implicitDefEqProofs only [go_sem])
  refine AWP.seq ?_
  refine AWP.region rfl ?_; intro K hK
  (try simp +decide -implicitDefEqProofs only [go_sem])
  refine hK _ _ ?_; clear hK K
  refine qthen_normal ?_
  refine AWP.seq ?_
  refine AWP.draw Try.mixed (by kernel_rfl) ?_; intro K hK
  (try simp +decide -implicitDefEqProofs only [go_sem])
  obtain ⟨y1, hy1, h⟩ := bindE h
  refine DCall.pure Try.call26 (terrain_Down_spec m runs hy1) rfl ?_
  (try simp +decide -implicitDefEqProofs only [go_sem])
  obtain ⟨y2, hy2, h⟩ := bindE h
  refine DCall.snapF Try.call25 (ways_join_fresh [y1] hy2) (by simp +decide -implicitDefEqProofs only [go_sem]) ?_
  (try simp +decide -implicitDefEqProofs only [go_sem])
  obtain ⟨y3, hy3, h⟩ := bindE h
  refine DCall.row Try.call24 (graph_Back_own y2 m.Bases hy3) rfl ?_
  (try simp +decide -implicitDefEqProofs only [go_sem, List.length_map])
  refine hK _ _ _ (by kernel_rfl) ?_; clear hK K
  refine qthen_normal ?_
  refine AWP.ret ?_
  obtain rfl := some_eq h
  simp +decide -implicitDefEqProofs only [go_sem, mpE_nil, AVal.int.injEq, Int.natCast_zero, List.replicate_zero, List.length_take, List.length_drop, AVal.own.injEq, reduceCtorEq, Int.reduceAdd, nle2, nle1, nle0, nleA, nleL, Try.results7]
theorem ways_Home_spec (m : ApiMap) (runs : List Int) {r : (List Int)} (h : ways_Home m runs = some r) : PureFn Try.prog 7 [.agg (encApiMap m), .sl 1 (runs.map intC)] (· = .sl 1 (r.map intC)) := (ways_Home_fresh m runs h).pure

def sweep_swept_b1 (k2 : Nat) (x_4 : ApiSwept) (sv : (List Int)) : Option (Out ((List Int)) ((List Int))) :=
  chk (sv.length + 1) (some (Out.next (sv ++ [x_4.Run])))

def sweep_swept (s_ : ApiSweep) : Option ((List Int)) :=
  (forIx sweep_swept_b1 0 s_.Swept []).bind fun o2 => o2.on fun s2 => some s2

theorem sweep_swept_fresh (s_ : ApiSweep) {r : (List Int)} (h : sweep_swept s_ = some r) : FreshFn Try.prog 28 [.agg (encApiSweep s_)] (· = .sl 1 (r.map intC)) := by
  refine FreshFn.nle (FreshFn.intro Try.func28 rfl rfl (by show _ ≤ 20; simp) ?_)
  unfold sweep_swept at h
  (try simp +decide -implicitDefEqProofs only [go_sem])
  refine AWP.seq ?_
  refine AWP.region rfl ?_; intro K hK
  (try simp +decide -implicitDefEqProofs only [go_sem])
  refine hK _ _ ?_; clear hK K
  refine qthen_normal ?_
  refine AWP.seq ?_
  refine AWP.region rfl ?_; intro K hK
  (try simp +decide -implicitDefEqProofs only [go_sem])
  refine hK _ _ ?_; clear hK K
  refine qthen_normal ?_
  refine AWP.seq ?_
  refine AWP.seq ?_
  refine AWP.region rfl ?_; intro K hK
  (try simp +decide -implicitDefEqProofs only [go_sem])
  intro hm
  refine hK _ _ ?_; clear hK K
  refine qthen_normal ?_
  refine AWP.block ?_
  refine AWP.ghost 3 1 rfl (by decide) ?_
  obtain ⟨o2, hJ2, hO2⟩ := bindE h
  clear h
  refine AWP.loopW (ι := Nat × ((List Int)) × (Nat)) (fun zz => [(3, .own 1 zz.2.2 0 zz.2.1.length), (7, .sl 4 (s_.Swept.map encApiSwept)), (8, .int .i64 ((s_.Swept.length : Nat) : Int)), (9, .int .i64 ((zz.1 : Nat) : Int))]) (fun zz => [.gone, .row zz.2.2 1 (zz.2.1.map intC)]) (fun zz => zz.1 ≤ s_.Swept.length ∧ forIx sweep_swept_b1 zz.1 ((s_.Swept).drop zz.1) zz.2.1 = some o2) (fun zz => s_.Swept.length - zz.1) (0, [], 0) ⟨Nat.zero_le _, hJ2⟩ (by (simp +decide -implicitDefEqProofs only [go_sem, mpE_nil, AVal.int.injEq, Int.natCast_zero, List.replicate_zero, List.length_take, List.length_drop, AVal.own.injEq, reduceCtorEq, Int.reduceAdd] <;> omega)) (by (simp +decide -implicitDefEqProofs only [go_sem, mpE_nil, AVal.int.injEq, Int.natCast_zero, List.replicate_zero, List.length_take, List.length_drop, AVal.own.injEq, reduceCtorEq, Int.reduceAdd] <;> omega)) (fun x => ⟨rfl, rfl, rfl⟩) ?_
  clear hJ2
  rintro ⟨k2, out1, ver2⟩ ⟨hk2, hJ2⟩
  dsimp only at hk2 hJ2 ⊢
  refine AWP.seq ?_
  refine AWP.region rfl ?_; intro K hK
  (try simp +decide -implicitDefEqProofs only [go_sem])
  refine hK _ _ ?_; clear hK K
  refine qthen_normal ?_
  refine AWP.seq ?_
  refine AWP.cond (acond_split (fun hc => ?_) (fun hc => ?_))
  · have hlt2 : k2 < s_.Swept.length := by have := of_decide_eq_true hc; omega
    obtain ⟨x_4, b2, hx2_, h, hJ2⟩ := for_cons hJ2 hlt2
    have hx2 := idxL_nat hx2_
    have hw2 : IntKind.i64.wrap (((k2 : Nat) : Int) + 1) = (((k2 : Nat) : Int) + (1 : Int)) := by rw [wrap_i64] <;> omega
    unfold sweep_swept_b1 at h; try dsimp only at h
    refine AWP.skip ?_
    refine qthen_normal ?_
    refine AWP.seq ?_
    refine AWP.block ?_
    refine AWP.seq ?_
    refine AWP.region rfl ?_; intro K hK
    (try simp +decide -implicitDefEqProofs only [go_sem])
    refine AIdx.of (f := encApiSwept) (l := s_.Swept) hx2 ?_
    (try simp +decide -implicitDefEqProofs only [go_sem])
    refine hK _ _ ?_; clear hK K
    refine qthen_normal ?_
    refine AWP.region rfl ?_; intro K hK
    (try simp +decide -implicitDefEqProofs only [go_sem])
    obtain ⟨hk, h⟩ := chk_in h
    (repeat (refine ⟨by first | omega | (simp only [List.length_take, List.length_drop, List.length_append]; omega), ?_⟩)); try simp +decide -implicitDefEqProofs only [go_sem]
    refine hK _ _ ?_; clear hK K
    refine qblock_normal ?_
    refine qthen_normal ?_
    refine AWP.region rfl ?_; intro K hK
    (try simp +decide -implicitDefEqProofs only [go_sem])
    refine hK _ _ ?_; clear hK K
    refine qthen_normal ?_
    obtain rfl := some_eq h
    refine ⟨(k2 + 1, (out1 ++ [x_4.Run]), (ver2 + 1)), ⟨by dsimp only; omega, cont_next hJ2⟩, by dsimp only; omega, ?_, ?_⟩
    · (simp +decide -implicitDefEqProofs only [go_sem, mpE_nil, AVal.int.injEq, Int.natCast_zero, List.replicate_zero, List.length_take, List.length_drop, AVal.own.injEq, reduceCtorEq, Int.reduceAdd, hw2] <;> omega)
    · (simp +decide -implicitDefEqProofs only [go_sem, mpE_nil, AVal.int.injEq, Int.natCast_zero, List.replicate_zero, List.length_take, List.length_drop, AVal.own.injEq, reduceCtorEq, Int.reduceAdd, hw2] <;> omega)
  · obtain rfl := for_nil hJ2 (fun hl => by have := of_decide_eq_false hc; omega)
    have h := on_next hO2; try dsimp only at h
    have hkl : s_.Swept.length = k2 := by have := of_decide_eq_false hc; omega
    subst hkl
    refine AWP.exit ?_
    refine qthen_exit ?_
    refine qthen_exit ?_
    refine qblock_same ?_
    refine qthen_normal ?_
    refine AWP.seq ?_
    refine AWP.region rfl ?_; intro K hK
    (try simp +decide -implicitDefEqProofs only [go_sem])
    refine hK _ _ ?_; clear hK K
    refine qthen_normal ?_
    refine AWP.ret ?_
    obtain rfl := some_eq h
    simp +decide -implicitDefEqProofs only [go_sem, mpE_nil, AVal.int.injEq, Int.natCast_zero, List.replicate_zero, List.length_take, List.length_drop, AVal.own.injEq, reduceCtorEq, Int.reduceAdd, nle2, nle1, nle0, nleA, nleL, Try.results28]
theorem sweep_swept_spec (s_ : ApiSweep) {r : (List Int)} (h : sweep_swept s_ = some r) : PureFn Try.prog 28 [.agg (encApiSweep s_)] (· = .sl 1 (r.map intC)) := (sweep_swept_fresh s_ h).pure

def sweep_Next (m : ApiMap) (s_ : ApiSweep) : Option ((List Int)) :=
  (sweep_swept s_).bind fun y1 => (sweep_ready m s_ y1).bind fun y2 => some y2

theorem sweep_Next_spec (m : ApiMap) (s_ : ApiSweep) {r : (List Int)} (h : sweep_Next m s_ = some r) : PureFn Try.prog 9 [.agg (encApiMap m), .agg (encApiSweep s_)] (· = .sl 1 (r.map intC)) := by
  refine PureFn.nle (PureFn.intro Try.func9 rfl rfl (by show _ ≤ 10; simp) ?_)
  unfold sweep_Next at h
  (try simp +decide -implicitDefEqProofs only [go_sem])
  refine AWP.seq ?_
  refine AWP.region rfl ?_; intro K hK
  (try simp +decide -implicitDefEqProofs only [go_sem])
  refine hK _ _ ?_; clear hK K
  refine qthen_normal ?_
  refine AWP.seq ?_
  refine AWP.draw Try.mixed (by kernel_rfl) ?_; intro K hK
  (try simp +decide -implicitDefEqProofs only [go_sem])
  obtain ⟨y1, hy1, h⟩ := bindE h
  refine DCall.pure Try.call28 (sweep_swept_spec s_ hy1) rfl ?_
  (try simp +decide -implicitDefEqProofs only [go_sem])
  obtain ⟨y2, hy2, h⟩ := bindE h
  refine DCall.pure Try.call27 (sweep_ready_spec m s_ y1 hy2) rfl ?_
  (try simp +decide -implicitDefEqProofs only [go_sem])
  refine hK _ _ _ (by kernel_rfl) ?_; clear hK K
  refine qthen_normal ?_
  refine AWP.ret ?_
  obtain rfl := some_eq h
  simp +decide -implicitDefEqProofs only [go_sem, mpE_nil, AVal.int.injEq, Int.natCast_zero, List.replicate_zero, List.length_take, List.length_drop, AVal.own.injEq, reduceCtorEq, Int.reduceAdd, nle2, nle1, nle0, nleA, nleL, Try.results9]

def sweep_Push (m : ApiMap) (s_ : ApiSweep) (people : List Int) (run : Int) : Option ((List Int) × Int × Int) :=
  (sweep_formed s_ people).bind fun y1 => (bif (!y1) then some ([], ((0 : Int), (3 : Int))) else (slices_Index_sint_int s_.Runs run).bind fun y2 => (bif (decide (y2 < (0 : Int))) then some ([], ((0 : Int), (8 : Int))) else (slices_Clone_sint_int people).bind fun y3 => (idxL y3 y2).bind fun x_4 => (idxL s_.Runs y2).bind fun x_5 => (terrain_Run m x_5).bind fun y6 => (slices_Contains_sint_int m.Bases y6.1.To).bind fun y7 => (bif y7 then some ((y3.set y2.toNat (0 : Int)), (x_4, (0 : Int))) else (sweep_below m s_ x_5).bind fun y9 => (bif (decide ((0 : Int) ≤ y9)) then (idxL (y3.set y2.toNat (0 : Int)) y9).bind fun x_11 => some (((y3.set y2.toNat (0 : Int)).set y9.toNat (IntKind.i64.wrap (x_11 + x_4))), ((0 : Int), (0 : Int))) else some (y3, ((0 : Int), (0 : Int)))))))

theorem sweep_Push_fresh (m : ApiMap) (s_ : ApiSweep) (people : List Int) (run : Int) {r : (List Int) × Int × Int} (h : sweep_Push m s_ people run = some r) : FreshFn Try.prog 10 [.agg (encApiMap m), .agg (encApiSweep s_), .sl 1 (people.map intC), .int .i64 run] (· = .tuple [.sl 1 (r.1.map intC), .int .i64 r.2.1, .int .i64 r.2.2]) := by
  refine FreshFn.nle (FreshFn.intro Try.func10 rfl rfl (by show _ ≤ 33; simp) ?_)
  unfold sweep_Push at h
  (try simp +decide -implicitDefEqProofs only [go_sem])
  refine AWP.seq ?_
  refine AWP.region rfl ?_; intro K hK
  (try simp +decide -implicitDefEqProofs only [go_sem])
  refine hK _ _ ?_; clear hK K
  refine qthen_normal ?_
  refine AWP.seq ?_
  refine AWP.seq ?_
  refine AWP.region rfl ?_; intro K hK
  (try simp +decide -implicitDefEqProofs only [go_sem])
  obtain ⟨y1, hy1, h⟩ := bindE h
  refine ACall.pure Try.call29 (sweep_formed_spec s_ people hy1) rfl fun _ hr => ?_
  subst hr
  (try simp +decide -implicitDefEqProofs only [go_sem])
  refine hK _ _ ?_; clear hK K
  refine qthen_normal ?_
  refine AWP.cond (acond_split (fun hc => ?_) (fun hc => ?_))
  · replace h := bif_t h hc
    refine AWP.seq ?_
    refine AWP.region rfl ?_; intro K hK
    (try simp +decide -implicitDefEqProofs only [go_sem])
    refine hK _ _ ?_; clear hK K
    refine qthen_normal ?_
    refine AWP.ret ?_
    refine qthen_ret ?_
    obtain rfl := some_eq h
    simp +decide -implicitDefEqProofs only [go_sem, mpE_nil, AVal.int.injEq, Int.natCast_zero, List.replicate_zero, List.length_take, List.length_drop, AVal.own.injEq, reduceCtorEq, Int.reduceAdd, nle2, nle1, nle0, nleA, nleL, Try.results10]
  replace h := bif_f h hc
  refine AWP.skip ?_
  refine qthen_normal ?_
  refine AWP.seq ?_
  refine AWP.region rfl ?_; intro K hK
  (try simp +decide -implicitDefEqProofs only [go_sem])
  obtain ⟨y2, hy2, h⟩ := bindE h
  refine ACall.pure Try.call30 (slices_Index_sint_int_spec s_.Runs run hy2) rfl fun _ hr => ?_
  subst hr
  (try simp +decide -implicitDefEqProofs only [go_sem])
  refine hK _ _ ?_; clear hK K
  refine qthen_normal ?_
  refine AWP.seq ?_
  refine AWP.seq ?_
  refine AWP.region rfl ?_; intro K hK
  (try simp +decide -implicitDefEqProofs only [go_sem])
  refine hK _ _ ?_; clear hK K
  refine qthen_normal ?_
  refine AWP.cond (acond_split (fun hc => ?_) (fun hc => ?_))
  · replace h := bif_t h hc
    refine AWP.seq ?_
    refine AWP.region rfl ?_; intro K hK
    (try simp +decide -implicitDefEqProofs only [go_sem])
    refine hK _ _ ?_; clear hK K
    refine qthen_normal ?_
    refine AWP.ret ?_
    refine qthen_ret ?_
    obtain rfl := some_eq h
    simp +decide -implicitDefEqProofs only [go_sem, mpE_nil, AVal.int.injEq, Int.natCast_zero, List.replicate_zero, List.length_take, List.length_drop, AVal.own.injEq, reduceCtorEq, Int.reduceAdd, nle2, nle1, nle0, nleA, nleL, Try.results10]
  replace h := bif_f h hc
  refine AWP.skip ?_
  refine qthen_normal ?_
  refine AWP.seq ?_
  refine AWP.region rfl ?_; intro K hK
  (try simp +decide -implicitDefEqProofs only [go_sem])
  obtain ⟨y3, hy3, h⟩ := bindE h
  refine ACall.row Try.call31 (slices_Clone_sint_int_own people hy3) rfl 2 rfl ?_
  (try simp +decide -implicitDefEqProofs only [go_sem, List.length_map])
  refine hK _ _ ?_; clear hK K
  refine qthen_normal ?_
  refine AWP.seq ?_
  refine AWP.region rfl ?_; intro K hK
  (try simp +decide -implicitDefEqProofs only [go_sem])
  refine ACall.inline Try.call32 Try.func32 rfl rfl (by show _ ≤ 56; simp) ?_
  (try simp +decide -implicitDefEqProofs only [go_sem])
  refine AWP.seq ?_
  refine AWP.region rfl ?_; intro K hK
  (try simp +decide -implicitDefEqProofs only [go_sem])
  refine hK _ _ ?_; clear hK K
  refine qthen_normal ?_
  refine AWP.seq ?_
  refine AWP.region rfl ?_; intro K hK
  (try simp +decide -implicitDefEqProofs only [go_sem])
  obtain ⟨x_4, hx_4, h⟩ := bindE h
  refine own_in hx_4 (by first | rfl | exact (sortI_len _).symm | (simp only [List.length_append, List.length_cons, List.length_nil, List.length_set, List.length_replicate] <;> omega)) ?_
  (try simp +decide -implicitDefEqProofs only [go_sem])
  refine AElem.of (f := intC) (l := y3) (n := y2) hx_4 ?_
  (try simp +decide -implicitDefEqProofs only [go_sem])
  refine hK _ _ ?_; clear hK K
  refine qthen_normal ?_
  refine AWP.seq ?_
  refine AWP.draw Try.mixed (by kernel_rfl) ?_; intro K hK
  (try simp +decide -implicitDefEqProofs only [go_sem])
  obtain ⟨x_5, hx_5, h⟩ := bindE h
  refine AIdx.of (f := intC) (l := s_.Runs) hx_5 ?_
  (try simp +decide -implicitDefEqProofs only [go_sem])
  obtain ⟨y6, hy6, h⟩ := bindE h
  refine DCall.pure Try.call46 (terrain_Run_spec m x_5 hy6) rfl ?_
  (try simp +decide -implicitDefEqProofs only [go_sem])
  refine hK _ _ _ (by kernel_rfl) ?_; clear hK K
  refine qthen_normal ?_
  refine AWP.seq ?_
  refine AWP.seq ?_
  refine AWP.region rfl ?_; intro K hK
  (try simp +decide -implicitDefEqProofs only [go_sem])
  obtain ⟨y7, hy7, h⟩ := bindE h
  refine ACall.pure Try.call33 (slices_Contains_sint_int_spec m.Bases y6.1.To hy7) rfl fun _ hr => ?_
  subst hr
  (try simp +decide -implicitDefEqProofs only [go_sem])
  refine hK _ _ ?_; clear hK K
  refine qthen_normal ?_
  refine AWP.cond (acond_split (fun hc => ?_) (fun hc => ?_))
  · replace h := bif_t h hc
    refine AWP.seq ?_
    refine AWP.region rfl ?_; intro K hK
    (try simp +decide -implicitDefEqProofs only [go_sem])
    refine own_in hx_4 (by first | rfl | exact (sortI_len _).symm | (simp only [List.length_append, List.length_cons, List.length_nil, List.length_set, List.length_replicate] <;> omega)) ?_
    (try simp +decide -implicitDefEqProofs only [go_sem])
    refine AElem.of (f := intC) (l := y3) (n := y2) hx_4 ?_
    have hs8 := idxL_set (y := (0 : Int)) hx_4
    (try simp +decide -implicitDefEqProofs only [go_sem])
    refine hK _ _ ?_; clear hK K
    refine qthen_normal ?_
    refine AWP.seq ?_
    refine AWP.region rfl ?_; intro K hK
    (try simp +decide -implicitDefEqProofs only [go_sem])
    refine hK _ _ ?_; clear hK K
    refine qthen_normal ?_
    refine AWP.ret ?_
    refine qthen_ret ?_
    (try simp +decide -implicitDefEqProofs only [go_sem, Try.results32])
    refine hK _ _ ?_; clear hK K
    refine qthen_normal ?_
    refine AWP.seq ?_
    refine AWP.region rfl ?_; intro K hK
    (try simp +decide -implicitDefEqProofs only [go_sem])
    refine hK _ _ ?_; clear hK K
    refine qthen_normal ?_
    refine AWP.ret ?_
    obtain rfl := some_eq h
    simp +decide -implicitDefEqProofs only [go_sem, mpE_nil, AVal.int.injEq, Int.natCast_zero, List.replicate_zero, List.length_take, List.length_drop, AVal.own.injEq, reduceCtorEq, Int.reduceAdd, nle2, nle1, nle0, nleA, nleL, Try.results10]
  replace h := bif_f h hc
  refine AWP.skip ?_
  refine qthen_normal ?_
  refine AWP.seq ?_
  refine AWP.seq ?_
  refine AWP.draw Try.mixed (by kernel_rfl) ?_; intro K hK
  (try simp +decide -implicitDefEqProofs only [go_sem])
  refine AIdx.of (f := intC) (l := s_.Runs) hx_5 ?_
  (try simp +decide -implicitDefEqProofs only [go_sem])
  obtain ⟨y9, hy9, h⟩ := bindE h
  refine DCall.pure Try.call47 (sweep_below_spec m s_ x_5 hy9) rfl ?_
  (try simp +decide -implicitDefEqProofs only [go_sem])
  refine hK _ _ _ (by kernel_rfl) ?_; clear hK K
  refine qthen_normal ?_
  refine AWP.seq ?_
  refine AWP.region rfl ?_; intro K hK
  (try simp +decide -implicitDefEqProofs only [go_sem])
  refine hK _ _ ?_; clear hK K
  refine qthen_normal ?_
  refine AWP.cond (acond_split (fun hc => ?_) (fun hc => ?_))
  · replace h := bif_t h hc
    refine AWP.seq ?_
    refine AWP.region rfl ?_; intro K hK
    (try simp +decide -implicitDefEqProofs only [go_sem])
    refine own_in hx_4 (by first | rfl | exact (sortI_len _).symm | (simp only [List.length_append, List.length_cons, List.length_nil, List.length_set, List.length_replicate] <;> omega)) ?_
    (try simp +decide -implicitDefEqProofs only [go_sem])
    refine AElem.of (f := intC) (l := y3) (n := y2) hx_4 ?_
    have hs10 := idxL_set (y := (0 : Int)) hx_4
    (try simp +decide -implicitDefEqProofs only [go_sem])
    refine hK _ _ ?_; clear hK K
    refine qthen_normal ?_
    refine AWP.region rfl ?_; intro K hK
    (try simp +decide -implicitDefEqProofs only [go_sem])
    obtain ⟨x_11, hx_11, h⟩ := bindE h
    refine own_in hx_11 (by first | rfl | exact (sortI_len _).symm | (simp only [List.length_append, List.length_cons, List.length_nil, List.length_set, List.length_replicate] <;> omega)) ?_
    (try simp +decide -implicitDefEqProofs only [go_sem])
    refine AElem.of (f := intC) (l := (y3.set y2.toNat (0 : Int))) (n := y9) hx_11 ?_
    (try simp +decide -implicitDefEqProofs only [go_sem])
    refine own_in hx_11 (by first | rfl | exact (sortI_len _).symm | (simp only [List.length_append, List.length_cons, List.length_nil, List.length_set, List.length_replicate] <;> omega)) ?_
    (try simp +decide -implicitDefEqProofs only [go_sem])
    refine AElem.of (f := intC) (l := (y3.set y2.toNat (0 : Int))) (n := y9) hx_11 ?_
    have hs12 := idxL_set (y := (IntKind.i64.wrap (x_11 + x_4))) hx_11
    (try simp +decide -implicitDefEqProofs only [go_sem])
    refine hK _ _ ?_; clear hK K
    refine qthen_normal ?_
    refine AWP.seq ?_
    refine AWP.region rfl ?_; intro K hK
    (try simp +decide -implicitDefEqProofs only [go_sem])
    refine hK _ _ ?_; clear hK K
    refine qthen_normal ?_
    refine AWP.ret ?_
    (try simp +decide -implicitDefEqProofs only [go_sem, Try.results32])
    refine hK _ _ ?_; clear hK K
    refine qthen_normal ?_
    refine AWP.seq ?_
    refine AWP.region rfl ?_; intro K hK
    (try simp +decide -implicitDefEqProofs only [go_sem])
    refine hK _ _ ?_; clear hK K
    refine qthen_normal ?_
    refine AWP.ret ?_
    obtain rfl := some_eq h
    simp +decide -implicitDefEqProofs only [go_sem, mpE_nil, AVal.int.injEq, Int.natCast_zero, List.replicate_zero, List.length_take, List.length_drop, AVal.own.injEq, reduceCtorEq, Int.reduceAdd, nle2, nle1, nle0, nleA, nleL, Try.results10]
  replace h := bif_f h hc
  refine AWP.skip ?_
  refine qthen_normal ?_
  refine AWP.seq ?_
  refine AWP.region rfl ?_; intro K hK
  (try simp +decide -implicitDefEqProofs only [go_sem])
  refine hK _ _ ?_; clear hK K
  refine qthen_normal ?_
  refine AWP.ret ?_
  (try simp +decide -implicitDefEqProofs only [go_sem, Try.results32])
  refine hK _ _ ?_; clear hK K
  refine qthen_normal ?_
  refine AWP.seq ?_
  refine AWP.region rfl ?_; intro K hK
  (try simp +decide -implicitDefEqProofs only [go_sem])
  refine hK _ _ ?_; clear hK K
  refine qthen_normal ?_
  refine AWP.ret ?_
  obtain rfl := some_eq h
  simp +decide -implicitDefEqProofs only [go_sem, mpE_nil, AVal.int.injEq, Int.natCast_zero, List.replicate_zero, List.length_take, List.length_drop, AVal.own.injEq, reduceCtorEq, Int.reduceAdd, nle2, nle1, nle0, nleA, nleL, Try.results10]
theorem sweep_Push_spec (m : ApiMap) (s_ : ApiSweep) (people : List Int) (run : Int) {r : (List Int) × Int × Int} (h : sweep_Push m s_ people run = some r) : PureFn Try.prog 10 [.agg (encApiMap m), .agg (encApiSweep s_), .sl 1 (people.map intC), .int .i64 run] (· = .tuple [.sl 1 (r.1.map intC), .int .i64 r.2.1, .int .i64 r.2.2]) := (sweep_Push_fresh m s_ people run h).pure

end
end Go.Proofs.Ytooopbnnhbacjaa
