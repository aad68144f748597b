/-
  What functions of the program compute, as plain Lean functions, and the walks that prove it; printed by a small program of our own (wip/walk.py).
-/
import Derived.Test.YtjdgjilnldofaaaW4
namespace Go.Proofs.Ytjdgjilnldofaaa
open Go Go.Ab
attribute [local irreducible] AWP ACall DCall PureFn Go.Ab.Sub alist dlist AIdx AElem ALook ANext
set_option maxRecDepth 100000
set_option maxHeartbeats 4000000
set_option linter.unusedSimpArgs false
set_option linter.unusedVariables false
noncomputable section
def law46_has_b1 (n_ : Int) (k0 : Nat) (x_2 : Int) (sv : Unit) : Option (Out (Unit) (Bool)) :=
  (bif (decide (x_2 = n_)) then some (Out.ret true) else some (Out.next ()))

def law46_has (l : List Int) (n_ : Int) : Option (Bool) :=
  (forIx (law46_has_b1 n_) 0 l ()).bind fun o0 => o0.on fun s0 => some false

theorem law46_has_spec (l : List Int) (n_ : Int) {r : Bool} (h : law46_has l n_ = some r) : PureFn Try.prog 25 [.sl 1 (l.map intC), .int .i64 n_] (· = .bool r) := by
  refine PureFn.nle (PureFn.intro Try.func25 rfl rfl (by show _ ≤ 18; simp) ?_)
  unfold law46_has at h
  (try simp +decide -implicitDefEqProofs only [go_sem])
  refine AWP.seq ?_
  refine AWP.region rfl ?_; intro K hK
  (try simp +decide -implicitDefEqProofs only [go_sem])
  refine hK _ _ ?_; clear hK K
  refine qthen_normal ?_
  refine AWP.seq ?_
  refine AWP.seq ?_
  refine AWP.region rfl ?_; intro K hK
  (try simp +decide -implicitDefEqProofs only [go_sem])
  refine hK _ _ ?_; clear hK K
  refine qthen_normal ?_
  refine AWP.block ?_
  obtain ⟨o0, hJ0, hO0⟩ := bindE h
  clear h
  refine AWP.loopW (ι := Nat × (Unit) × (Unit)) (fun zz => [(0, .sl 1 (l.map intC)), (1, .int .i64 n_), (5, .int .i64 ((zz.1 : Nat) : Int))]) (fun zz => []) (fun zz => zz.1 ≤ l.length ∧ forIx (law46_has_b1 n_) zz.1 ((l).drop zz.1) zz.2.1 = some o0) (fun zz => l.length - zz.1) (0, (), ()) ⟨Nat.zero_le _, hJ0⟩ (by (simp +decide -implicitDefEqProofs only [go_sem, mpE_nil, AVal.int.injEq, Int.natCast_zero, List.replicate_zero, List.length_take, List.length_drop, AVal.own.injEq, reduceCtorEq, Int.reduceAdd] <;> omega)) (by (simp +decide -implicitDefEqProofs only [go_sem, mpE_nil, AVal.int.injEq, Int.natCast_zero, List.replicate_zero, List.length_take, List.length_drop, AVal.own.injEq, reduceCtorEq, Int.reduceAdd] <;> omega)) (fun x => ⟨rfl, rfl, rfl⟩) ?_
  clear hJ0
  rintro ⟨k0, ⟨⟩, ⟨⟩⟩ ⟨hk0, hJ0⟩
  dsimp only at hk0 hJ0 ⊢
  refine AWP.seq ?_
  refine AWP.seq ?_
  refine AWP.region rfl ?_; intro K hK
  (try simp +decide -implicitDefEqProofs only [go_sem])
  intro hm
  refine hK _ _ ?_; clear hK K
  refine qthen_normal ?_
  refine AWP.cond (acond_split (fun hc => ?_) (fun hc => ?_))
  · have hlt0 : k0 < l.length := by have := of_decide_eq_true hc; omega
    obtain ⟨x_2, b0, hx0_, h, hJ0⟩ := for_cons hJ0 hlt0
    have hx0 := idxL_nat hx0_
    have hw0 : IntKind.i64.wrap (((k0 : Nat) : Int) + 1) = (((k0 : Nat) : Int) + (1 : Int)) := by rw [wrap_i64] <;> omega
    unfold law46_has_b1 at h; try dsimp only at h
    refine AWP.skip ?_
    refine qthen_normal ?_
    refine AWP.seq ?_
    refine AWP.block ?_
    refine AWP.seq ?_
    refine AWP.region rfl ?_; intro K hK
    (try simp +decide -implicitDefEqProofs only [go_sem])
    refine AIdx.of (f := intC) (l := l) hx0 ?_
    (try simp +decide -implicitDefEqProofs only [go_sem])
    refine hK _ _ ?_; clear hK K
    refine qthen_normal ?_
    refine AWP.cond (acond_split (fun hc => ?_) (fun hc => ?_))
    · replace h := bif_t h hc
      refine AWP.seq ?_
      refine AWP.region rfl ?_; intro K hK
      (try simp +decide -implicitDefEqProofs only [go_sem])
      refine hK _ _ ?_; clear hK K
      refine qthen_normal ?_
      refine AWP.ret ?_
      refine qblock_ret ?_
      refine qthen_ret ?_
      refine qthen_ret ?_
      obtain rfl := some_eq h
      obtain rfl := cont_ret hJ0
      replace h := on_ret hO0
      refine qblock_ret ?_
      refine qthen_ret ?_
      obtain rfl := some_eq h
      simp +decide -implicitDefEqProofs only [go_sem, mpE_nil, AVal.int.injEq, Int.natCast_zero, List.replicate_zero, List.length_take, List.length_drop, AVal.own.injEq, reduceCtorEq, Int.reduceAdd, nle2, nle1, nle0, nleA, nleL, Try.results25]
    replace h := bif_f h hc
    refine AWP.skip ?_
    refine qblock_normal ?_
    refine qthen_normal ?_
    refine AWP.region rfl ?_; intro K hK
    (try simp +decide -implicitDefEqProofs only [go_sem])
    refine hK _ _ ?_; clear hK K
    refine qthen_normal ?_
    obtain rfl := some_eq h
    refine ⟨(k0 + 1, (), ()), ⟨by dsimp only; omega, cont_next hJ0⟩, by dsimp only; omega, ?_, ?_⟩
    · (simp +decide -implicitDefEqProofs only [go_sem, mpE_nil, AVal.int.injEq, Int.natCast_zero, List.replicate_zero, List.length_take, List.length_drop, AVal.own.injEq, reduceCtorEq, Int.reduceAdd, hw0] <;> omega)
    · (simp +decide -implicitDefEqProofs only [go_sem, mpE_nil, AVal.int.injEq, Int.natCast_zero, List.replicate_zero, List.length_take, List.length_drop, AVal.own.injEq, reduceCtorEq, Int.reduceAdd, hw0] <;> omega)
  · obtain rfl := for_nil hJ0 (fun hl => by have := of_decide_eq_false hc; omega)
    have h := on_next hO0; try dsimp only at h
    have hkl : l.length = k0 := by have := of_decide_eq_false hc; omega
    subst hkl
    refine AWP.exit ?_
    refine qthen_exit ?_
    refine qthen_exit ?_
    refine qblock_same ?_
    refine qthen_normal ?_
    refine AWP.seq ?_
    refine AWP.region rfl ?_; intro K hK
    (try simp +decide -implicitDefEqProofs only [go_sem])
    refine hK _ _ ?_; clear hK K
    refine qthen_normal ?_
    refine AWP.ret ?_
    obtain rfl := some_eq h
    simp +decide -implicitDefEqProofs only [go_sem, mpE_nil, AVal.int.injEq, Int.natCast_zero, List.replicate_zero, List.length_take, List.length_drop, AVal.own.injEq, reduceCtorEq, Int.reduceAdd, nle2, nle1, nle0, nleA, nleL, Try.results25]

def law46_WinchApart_b3 (runs7 : List Int) (y10 : (List Int)) (k10 : Nat) (x_12 : Int) (sv : Unit) : Option (Out (Unit) (Bool)) :=
  (law46_has runs7 x_12).bind fun y13 => (bif (!y13) then some (Out.ret false) else (bif (decide ((0 : Int) < ((k10 : Nat) : Int))) then (idxL y10 (IntKind.i64.wrap (((k10 : Nat) : Int) - (1 : Int)))).bind fun x_14 => (bif (decide (x_12 ≤ x_14)) then some (Out.ret false) else some (Out.next ())) else some (Out.next ())))

def law46_WinchApart_j2 (t : Int) (l4 : List ApiWinchLine) (runs7 : List Int) : Option (Bool) :=
  (winch_Swept l4 t).bind fun y10 => (forIx (law46_WinchApart_b3 runs7 y10) 0 y10 ()).bind fun o10 => o10.on fun s10 => some (decide (((y10.length : Nat) : Int) = ((runs7.length : Nat) : Int)))

def law46_WinchApart_b5 (k23 : Nat) (x_25 : Int) (sv : (List Int)) : Option (Out ((List Int)) (Out ((List Int) × (List Int)) (Bool))) :=
  (law46_has sv x_25).bind fun y26 => (bif y26 then some (Out.ret (Out.ret false)) else chk (sv.length + 1) (some (Out.next (sv ++ [x_25]))))

def law46_WinchApart_b4 (t : Int) (k18 : Nat) (x_20 : ApiWinchLine) (sv : (List Int) × (List Int)) : Option (Out ((List Int) × (List Int)) (Bool)) :=
  (bif (decide (t < x_20.From)) then some (Out.next (sv.1, sv.2)) else (bif (decide (x_20.To ≤ t)) then some (Out.next (sv.1, sv.2)) else (law46_has sv.2 x_20.Groomer).bind fun y21 => (bif y21 then some (Out.ret false) else chk (sv.2.length + 1) ((forIx law46_WinchApart_b5 0 x_20.Runs sv.1).bind fun o23 => o23.on fun s23 => some (Out.next (s23, (sv.2 ++ [x_20.Groomer])))))))

def law46_WinchApart_j1 (t : Int) (l4 : List ApiWinchLine) : Option (Bool) :=
  (winch_Right l4).bind fun y6 => (bif (decide (y6 ≠ (0 : Int))) then some false else (forIx (law46_WinchApart_b4 t) 0 l4 ([], [])).bind fun o18 => o18.on fun s18 => law46_WinchApart_j2 t l4 s18.1)

def law46_WinchApart_b6 (k27 : Nat) (x_29 : ApiWinchLine) (sv : (List ApiWinchLine)) : Option (Out ((List ApiWinchLine)) (Bool)) :=
  (winch_Lay sv x_29).bind fun y30 => (bif (decide (y30.2 = (0 : Int))) then (bif (decide (((y30.1.length : Nat) : Int) ≠ (IntKind.i64.wrap (((sv.length : Nat) : Int) + (1 : Int))))) then some (Out.ret false) else some (Out.next y30.1)) else (bif (decide (((y30.1.length : Nat) : Int) ≠ (0 : Int))) then some (Out.ret false) else some (Out.next sv)))

def law46_WinchApart (l : List ApiWinchLine) (more : List ApiWinchLine) (t : Int) : Option (Bool) :=
  (law46_alive).bind fun y1 => (bif (!y1) then some false else (law46_right l).bind fun y2 => (bif (!y2) then some true else (law46_few more).bind fun y3 => (bif (!y3) then some true else (bif (decide ((30 : Int) < ((more.length : Nat) : Int))) then some true else (forIx law46_WinchApart_b6 0 more l).bind fun o27 => o27.on fun s27 => law46_WinchApart_j1 t s27))))

theorem law46_WinchApart_spec (l : List ApiWinchLine) (more : List ApiWinchLine) (t : Int) {r : Bool} (h : law46_WinchApart l more t = some r) : PureFn Try.prog 7 [.sl 4 (l.map encApiWinchLine), .sl 4 (more.map encApiWinchLine), .int .i64 t] (· = .bool r) := by
  refine PureFn.nle (PureFn.intro Try.func7 rfl rfl (by show _ ≤ 166; simp) ?_)
  unfold law46_WinchApart at h
  (try simp +decide -implicitDefEqProofs only [go_sem])
  refine AWP.seq ?_
  refine AWP.region rfl ?_; intro K hK
  (try simp +decide -implicitDefEqProofs only [go_sem])
  refine hK _ _ ?_; clear hK K
  refine qthen_normal ?_
  refine AWP.seq ?_
  refine AWP.seq ?_
  refine AWP.region rfl ?_; intro K hK
  (try simp +decide -implicitDefEqProofs only [go_sem])
  obtain ⟨y1, hy1, h⟩ := bindE h
  refine ACall.pure Try.call10 (law46_alive_spec hy1) rfl fun _ hr => ?_
  subst hr
  (try simp +decide -implicitDefEqProofs only [go_sem])
  refine hK _ _ ?_; clear hK K
  refine qthen_normal ?_
  refine AWP.cond (acond_split (fun hc => ?_) (fun hc => ?_))
  · replace h := bif_t h hc
    refine AWP.seq ?_
    refine AWP.region rfl ?_; intro K hK
    (try simp +decide -implicitDefEqProofs only [go_sem])
    refine hK _ _ ?_; clear hK K
    refine qthen_normal ?_
    refine AWP.ret ?_
    refine qthen_ret ?_
    obtain rfl := some_eq h
    simp +decide -implicitDefEqProofs only [go_sem, mpE_nil, AVal.int.injEq, Int.natCast_zero, List.replicate_zero, List.length_take, List.length_drop, AVal.own.injEq, reduceCtorEq, Int.reduceAdd, nle2, nle1, nle0, nleA, nleL, Try.results7]
  replace h := bif_f h hc
  refine AWP.skip ?_
  refine qthen_normal ?_
  refine AWP.seq ?_
  refine AWP.seq ?_
  refine AWP.region rfl ?_; intro K hK
  (try simp +decide -implicitDefEqProofs only [go_sem])
  obtain ⟨y2, hy2, h⟩ := bindE h
  refine ACall.pure Try.call14 (law46_right_spec l hy2) rfl fun _ hr => ?_
  subst hr
  (try simp +decide -implicitDefEqProofs only [go_sem])
  refine aguardK_split (fun hc => ?_) (fun hc => ?_)
  · replace h := bif_f h hc
    (try simp +decide -implicitDefEqProofs only [go_sem, hc])
    obtain ⟨y3, hy3, h⟩ := bindE h
    refine ACall.pure Try.call11 (law46_few_spec more hy3) rfl fun _ hr => ?_
    subst hr
    (try simp +decide -implicitDefEqProofs only [go_sem])
    refine aguardK_split (fun hc => ?_) (fun hc => ?_)
    · replace h := bif_f h hc
      (try simp +decide -implicitDefEqProofs only [go_sem, hc])
      intro hm
      refine hK _ _ ?_; clear hK K
      refine qthen_normal ?_
      refine AWP.cond (acond_split (fun hc => ?_) (fun hc => ?_))
      · replace h := bif_t h hc
        refine AWP.seq ?_
        refine AWP.region rfl ?_; intro K hK
        (try simp +decide -implicitDefEqProofs only [go_sem])
        refine hK _ _ ?_; clear hK K
        refine qthen_normal ?_
        refine AWP.ret ?_
        refine qthen_ret ?_
        obtain rfl := some_eq h
        simp +decide -implicitDefEqProofs only [go_sem, mpE_nil, AVal.int.injEq, Int.natCast_zero, List.replicate_zero, List.length_take, List.length_drop, AVal.own.injEq, reduceCtorEq, Int.reduceAdd, nle2, nle1, nle0, nleA, nleL, Try.results7]
      replace h := bif_f h hc
      refine AWP.skip ?_
      refine qthen_normal ?_
      refine AWP.seqJoin (ι := ((List ApiWinchLine)) × (Unit)) (fun zz => [(0, .sl 4 (zz.1.map encApiWinchLine)), (2, .int .i64 t)]) (fun zz => []) (fun zz => law46_WinchApart_j1 t zz.1 = some r) (fun zz => ⟨rfl, rfl, rfl⟩) ?_ ?_
      · refine AWP.seq ?_
        refine AWP.region rfl ?_; intro K hK
        (try simp +decide -implicitDefEqProofs only [go_sem])
        refine hK _ _ ?_; clear hK K
        refine qthen_normal ?_
        refine AWP.block ?_
        obtain ⟨o27, hJ27, hO27⟩ := bindE h
        clear h
        refine AWP.loopW (ι := Nat × ((List ApiWinchLine)) × (Unit)) (fun zz => [(0, .sl 4 (zz.2.1.map encApiWinchLine)), (1, .sl 4 (more.map encApiWinchLine)), (2, .int .i64 t), (7, .int .i64 ((zz.1 : Nat) : Int))]) (fun zz => []) (fun zz => zz.1 ≤ more.length ∧ forIx law46_WinchApart_b6 zz.1 ((more).drop zz.1) zz.2.1 = some o27) (fun zz => more.length - zz.1) (0, l, ()) ⟨Nat.zero_le _, hJ27⟩ (by (simp +decide -implicitDefEqProofs only [go_sem, mpE_nil, AVal.int.injEq, Int.natCast_zero, List.replicate_zero, List.length_take, List.length_drop, AVal.own.injEq, reduceCtorEq, Int.reduceAdd] <;> omega)) (by (simp +decide -implicitDefEqProofs only [go_sem, mpE_nil, AVal.int.injEq, Int.natCast_zero, List.replicate_zero, List.length_take, List.length_drop, AVal.own.injEq, reduceCtorEq, Int.reduceAdd] <;> omega)) (fun x => ⟨rfl, rfl, rfl⟩) ?_
        clear hJ27
        rintro ⟨k27, l27, ⟨⟩⟩ ⟨hk27, hJ27⟩
        dsimp only at hk27 hJ27 ⊢
        refine AWP.seq ?_
        refine AWP.seq ?_
        refine AWP.region rfl ?_; intro K hK
        (try simp +decide -implicitDefEqProofs only [go_sem])
        intro hm
        refine hK _ _ ?_; clear hK K
        refine qthen_normal ?_
        refine AWP.cond (acond_split (fun hc => ?_) (fun hc => ?_))
        · have hlt27 : k27 < more.length := by have := of_decide_eq_true hc; omega
          obtain ⟨x_29, b27, hx27_, h, hJ27⟩ := for_cons hJ27 hlt27
          have hx27 := idxL_nat hx27_
          have hw27 : IntKind.i64.wrap (((k27 : Nat) : Int) + 1) = (((k27 : Nat) : Int) + (1 : Int)) := by rw [wrap_i64] <;> omega
          unfold law46_WinchApart_b6 at h; try dsimp only at h
          refine AWP.skip ?_
          refine qthen_normal ?_
          refine AWP.seq ?_
          refine AWP.block ?_
          refine AWP.seq ?_
          refine AWP.region rfl ?_; intro K hK
          (try simp +decide -implicitDefEqProofs only [go_sem])
          refine AIdx.of (f := encApiWinchLine) (l := more) hx27 ?_
          (try simp +decide -implicitDefEqProofs only [go_sem])
          obtain ⟨y30, hy30, h⟩ := bindE h
          refine ACall.pure Try.call15 (winch_Lay_spec l27 x_29 hy30) rfl fun _ hr => ?_
          subst hr
          (try simp +decide -implicitDefEqProofs only [go_sem])
          refine hK _ _ ?_; clear hK K
          refine qthen_normal ?_
          refine AWP.seq ?_
          refine AWP.region rfl ?_; intro K hK
          (try simp +decide -implicitDefEqProofs only [go_sem])
          refine hK _ _ ?_; clear hK K
          refine qthen_normal ?_
          refine AWP.cond (acond_split (fun hc => ?_) (fun hc => ?_))
          · replace h := bif_t h hc
            refine AWP.seq ?_
            refine AWP.seq ?_
            refine AWP.region rfl ?_; intro K hK
            (try simp +decide -implicitDefEqProofs only [go_sem])
            intro hm
            intro hm
            refine hK _ _ ?_; clear hK K
            refine qthen_normal ?_
            refine AWP.cond (acond_split (fun hc => ?_) (fun hc => ?_))
            · replace h := bif_t h hc
              refine AWP.seq ?_
              refine AWP.region rfl ?_; intro K hK
              (try simp +decide -implicitDefEqProofs only [go_sem])
              refine hK _ _ ?_; clear hK K
              refine qthen_normal ?_
              refine AWP.ret ?_
              refine qthen_ret ?_
              refine qblock_ret ?_
              refine qthen_ret ?_
              refine qthen_ret ?_
              obtain rfl := some_eq h
              obtain rfl := cont_ret hJ27
              replace h := on_ret hO27
              refine qblock_ret ?_
              refine qthen_ret ?_
              obtain rfl := some_eq h
              simp +decide -implicitDefEqProofs only [go_sem, mpE_nil, AVal.int.injEq, Int.natCast_zero, List.replicate_zero, List.length_take, List.length_drop, AVal.own.injEq, reduceCtorEq, Int.reduceAdd, nle2, nle1, nle0, nleA, nleL, Try.results7]
            replace h := bif_f h hc
            refine AWP.skip ?_
            refine qthen_normal ?_
            refine AWP.region rfl ?_; intro K hK
            (try simp +decide -implicitDefEqProofs only [go_sem])
            refine hK _ _ ?_; clear hK K
            refine qblock_normal ?_
            refine qthen_normal ?_
            refine AWP.region rfl ?_; intro K hK
            (try simp +decide -implicitDefEqProofs only [go_sem])
            refine hK _ _ ?_; clear hK K
            refine qthen_normal ?_
            obtain rfl := some_eq h
            refine ⟨(k27 + 1, y30.1, ()), ⟨by dsimp only; omega, cont_next hJ27⟩, by dsimp only; omega, ?_, ?_⟩
            · (simp +decide -implicitDefEqProofs only [go_sem, mpE_nil, AVal.int.injEq, Int.natCast_zero, List.replicate_zero, List.length_take, List.length_drop, AVal.own.injEq, reduceCtorEq, Int.reduceAdd, hw27] <;> omega)
            · (simp +decide -implicitDefEqProofs only [go_sem, mpE_nil, AVal.int.injEq, Int.natCast_zero, List.replicate_zero, List.length_take, List.length_drop, AVal.own.injEq, reduceCtorEq, Int.reduceAdd, hw27] <;> omega)
          replace h := bif_f h hc
          refine AWP.seq ?_
          refine AWP.region rfl ?_; intro K hK
          (try simp +decide -implicitDefEqProofs only [go_sem])
          intro hm
          refine hK _ _ ?_; clear hK K
          refine qthen_normal ?_
          refine AWP.cond (acond_split (fun hc => ?_) (fun hc => ?_))
          · replace h := bif_t h hc
            refine AWP.seq ?_
            refine AWP.region rfl ?_; intro K hK
            (try simp +decide -implicitDefEqProofs only [go_sem])
            refine hK _ _ ?_; clear hK K
            refine qthen_normal ?_
            refine AWP.ret ?_
            refine qblock_ret ?_
            refine qthen_ret ?_
            refine qthen_ret ?_
            obtain rfl := some_eq h
            obtain rfl := cont_ret hJ27
            replace h := on_ret hO27
            refine qblock_ret ?_
            refine qthen_ret ?_
            obtain rfl := some_eq h
            simp +decide -implicitDefEqProofs only [go_sem, mpE_nil, AVal.int.injEq, Int.natCast_zero, List.replicate_zero, List.length_take, List.length_drop, AVal.own.injEq, reduceCtorEq, Int.reduceAdd, nle2, nle1, nle0, nleA, nleL, Try.results7]
          replace h := bif_f h hc
          refine AWP.skip ?_
          refine qblock_normal ?_
          refine qthen_normal ?_
          refine AWP.region rfl ?_; intro K hK
          (try simp +decide -implicitDefEqProofs only [go_sem])
          refine hK _ _ ?_; clear hK K
          refine qthen_normal ?_
          obtain rfl := some_eq h
          refine ⟨(k27 + 1, l27, ()), ⟨by dsimp only; omega, cont_next hJ27⟩, by dsimp only; omega, ?_, ?_⟩
          · (simp +decide -implicitDefEqProofs only [go_sem, mpE_nil, AVal.int.injEq, Int.natCast_zero, List.replicate_zero, List.length_take, List.length_drop, AVal.own.injEq, reduceCtorEq, Int.reduceAdd, hw27] <;> omega)
          · (simp +decide -implicitDefEqProofs only [go_sem, mpE_nil, AVal.int.injEq, Int.natCast_zero, List.replicate_zero, List.length_take, List.length_drop, AVal.own.injEq, reduceCtorEq, Int.reduceAdd, hw27] <;> omega)
        · obtain rfl := for_nil hJ27 (fun hl => by have := of_decide_eq_false hc; omega)
          have h := on_next hO27; try dsimp only at h
          have hkl : more.length = k27 := by have := of_decide_eq_false hc; omega
          subst hkl
          refine AWP.exit ?_
          refine qthen_exit ?_
          refine qthen_exit ?_
          refine qblock_same ?_
          refine qthen_normal ?_
          exact ⟨(l27, ()), h, by (simp +decide -implicitDefEqProofs only [go_sem, mpE_nil, AVal.int.injEq, Int.natCast_zero, List.replicate_zero, List.length_take, List.length_drop, AVal.own.injEq, reduceCtorEq, Int.reduceAdd] <;> omega), by (simp +decide -implicitDefEqProofs only [go_sem, mpE_nil, AVal.int.injEq, Int.natCast_zero, List.replicate_zero, List.length_take, List.length_drop, AVal.own.injEq, reduceCtorEq, Int.reduceAdd] <;> omega)⟩
      · rintro ⟨l4, ⟨⟩⟩ h
        try dsimp only at h ⊢
        unfold law46_WinchApart_j1 at h; try dsimp only at h
        refine AWP.seq ?_
        refine AWP.seq ?_
        refine AWP.region rfl ?_; intro K hK
        (try simp +decide -implicitDefEqProofs only [go_sem])
        obtain ⟨y6, hy6, h⟩ := bindE h
        refine ACall.pure Try.call12 (winch_Right_spec l4 hy6) rfl fun _ hr => ?_
        subst hr
        (try simp +decide -implicitDefEqProofs only [go_sem])
        refine hK _ _ ?_; clear hK K
        refine qthen_normal ?_
        refine AWP.cond (acond_split (fun hc => ?_) (fun hc => ?_))
        · replace h := bif_t h hc
          refine AWP.seq ?_
          refine AWP.region rfl ?_; intro K hK
          (try simp +decide -implicitDefEqProofs only [go_sem])
          refine hK _ _ ?_; clear hK K
          refine qthen_normal ?_
          refine AWP.ret ?_
          refine qthen_ret ?_
          obtain rfl := some_eq h
          simp +decide -implicitDefEqProofs only [go_sem, mpE_nil, AVal.int.injEq, Int.natCast_zero, List.replicate_zero, List.length_take, List.length_drop, AVal.own.injEq, reduceCtorEq, Int.reduceAdd, nle2, nle1, nle0, nleA, nleL, Try.results7]
        replace h := bif_f h hc
        refine AWP.skip ?_
        refine qthen_normal ?_
        refine AWP.seq ?_
        refine AWP.region rfl ?_; intro K hK
        (try simp +decide -implicitDefEqProofs only [go_sem])
        refine hK _ _ ?_; clear hK K
        refine qthen_normal ?_
        refine AWP.seqJoin (ι := ((List Int)) × (Nat)) (fun zz => [(0, .sl 4 (l4.map encApiWinchLine)), (2, .int .i64 t), (10, .own 0 zz.2 0 zz.1.length)]) (fun zz => [.row zz.2 1 (zz.1.map intC)]) (fun zz => law46_WinchApart_j2 t l4 zz.1 = some r) (fun zz => ⟨rfl, rfl, rfl⟩) ?_ ?_
        · refine AWP.seq ?_
          refine AWP.region rfl ?_; intro K hK
          (try simp +decide -implicitDefEqProofs only [go_sem])
          refine hK _ _ ?_; clear hK K
          refine qthen_normal ?_
          refine AWP.block ?_
          refine AWP.ghost 10 1 rfl (by decide) ?_
          refine AWP.ghost 11 1 rfl (by decide) ?_
          obtain ⟨o18, hJ18, hO18⟩ := bindE h
          clear h
          refine AWP.loopW (ι := Nat × ((List Int) × (List Int)) × (Nat × Nat)) (fun zz => [(0, .sl 4 (l4.map encApiWinchLine)), (2, .int .i64 t), (10, .own 0 zz.2.2.1 0 zz.2.1.1.length), (11, .own 1 zz.2.2.2 0 zz.2.1.2.length), (12, .int .i64 ((zz.1 : Nat) : Int))]) (fun zz => [.row zz.2.2.1 1 (zz.2.1.1.map intC), .row zz.2.2.2 1 (zz.2.1.2.map intC)]) (fun zz => zz.1 ≤ l4.length ∧ forIx (law46_WinchApart_b4 t) zz.1 ((l4).drop zz.1) zz.2.1 = some o18) (fun zz => l4.length - zz.1) (0, ([], []), (0, 0)) ⟨Nat.zero_le _, hJ18⟩ (by (simp +decide -implicitDefEqProofs only [go_sem, mpE_nil, AVal.int.injEq, Int.natCast_zero, List.replicate_zero, List.length_take, List.length_drop, AVal.own.injEq, reduceCtorEq, Int.reduceAdd] <;> omega)) (by (simp +decide -implicitDefEqProofs only [go_sem, mpE_nil, AVal.int.injEq, Int.natCast_zero, List.replicate_zero, List.length_take, List.length_drop, AVal.own.injEq, reduceCtorEq, Int.reduceAdd] <;> omega)) (fun x => ⟨rfl, rfl, rfl⟩) ?_
          clear hJ18
          rintro ⟨k18, ⟨runs15, groomers17⟩, ⟨ver16, ver18⟩⟩ ⟨hk18, hJ18⟩
          dsimp only at hk18 hJ18 ⊢
          refine AWP.seq ?_
          refine AWP.seq ?_
          refine AWP.region rfl ?_; intro K hK
          (try simp +decide -implicitDefEqProofs only [go_sem])
          intro hm
          refine hK _ _ ?_; clear hK K
          refine qthen_normal ?_
          refine AWP.cond (acond_split (fun hc => ?_) (fun hc => ?_))
          · have hlt18 : k18 < l4.length := by have := of_decide_eq_true hc; omega
            obtain ⟨x_20, b18, hx18_, h, hJ18⟩ := for_cons hJ18 hlt18
            have hx18 := idxL_nat hx18_
            have hw18 : IntKind.i64.wrap (((k18 : Nat) : Int) + 1) = (((k18 : Nat) : Int) + (1 : Int)) := by rw [wrap_i64] <;> omega
            unfold law46_WinchApart_b4 at h; try dsimp only at h
            refine AWP.skip ?_
            refine qthen_normal ?_
            refine AWP.seq ?_
            refine AWP.block ?_
            refine AWP.seq ?_
            refine AWP.seq ?_
            refine AWP.region rfl ?_; intro K hK
            (try simp +decide -implicitDefEqProofs only [go_sem])
            refine AIdx.of (f := encApiWinchLine) (l := l4) hx18 ?_
            (try simp +decide -implicitDefEqProofs only [go_sem])
            refine aguardK_split (fun hc => ?_) (fun hc => ?_)
            · replace h := bif_f h hc
              (try simp +decide -implicitDefEqProofs only [go_sem, hc])
              refine AIdx.of (f := encApiWinchLine) (l := l4) hx18 ?_
              (try simp +decide -implicitDefEqProofs only [go_sem])
              refine hK _ _ ?_; clear hK K
              refine qthen_normal ?_
              refine AWP.cond (acond_split (fun hc => ?_) (fun hc => ?_))
              · replace h := bif_t h hc
                refine AWP.exit ?_
                refine qthen_exit ?_
                refine qblock_same ?_
                refine qthen_normal ?_
                refine AWP.region rfl ?_; intro K hK
                (try simp +decide -implicitDefEqProofs only [go_sem])
                refine hK _ _ ?_; clear hK K
                refine qthen_normal ?_
                obtain rfl := some_eq h
                refine ⟨(k18 + 1, (runs15, groomers17), (ver16, ver18)), ⟨by dsimp only; omega, cont_next hJ18⟩, by dsimp only; omega, ?_, ?_⟩
                · (simp +decide -implicitDefEqProofs only [go_sem, mpE_nil, AVal.int.injEq, Int.natCast_zero, List.replicate_zero, List.length_take, List.length_drop, AVal.own.injEq, reduceCtorEq, Int.reduceAdd, hw18] <;> omega)
                · (simp +decide -implicitDefEqProofs only [go_sem, mpE_nil, AVal.int.injEq, Int.natCast_zero, List.replicate_zero, List.length_take, List.length_drop, AVal.own.injEq, reduceCtorEq, Int.reduceAdd, hw18] <;> omega)
              replace h := bif_f h hc
              refine AWP.skip ?_
              refine qthen_normal ?_
              refine AWP.seq ?_
              refine AWP.seq ?_
              refine AWP.region rfl ?_; intro K hK
              (try simp +decide -implicitDefEqProofs only [go_sem])
              refine AIdx.of (f := encApiWinchLine) (l := l4) hx18 ?_
              (try simp +decide -implicitDefEqProofs only [go_sem])
              obtain ⟨y21, hy21, h⟩ := bindE h
              refine ACall.snap Try.call25 (law46_has_spec groomers17 x_20.Groomer hy21) (by simp +decide -implicitDefEqProofs only [go_sem]) (by rintro _ rfl; rfl) fun _ hr => ?_
              subst hr
              (try simp +decide -implicitDefEqProofs only [go_sem])
              refine hK _ _ ?_; clear hK K
              refine qthen_normal ?_
              refine AWP.cond (acond_split (fun hc => ?_) (fun hc => ?_))
              · replace h := bif_t h hc
                refine AWP.seq ?_
                refine AWP.region rfl ?_; intro K hK
                (try simp +decide -implicitDefEqProofs only [go_sem])
                refine hK _ _ ?_; clear hK K
                refine qthen_normal ?_
                refine AWP.ret ?_
                refine qthen_ret ?_
                refine qblock_ret ?_
                refine qthen_ret ?_
                refine qthen_ret ?_
                obtain rfl := some_eq h
                obtain rfl := cont_ret hJ18
                replace h := on_ret hO18
                refine qblock_ret ?_
                refine qthen_ret ?_
                obtain rfl := some_eq h
                simp +decide -implicitDefEqProofs only [go_sem, mpE_nil, AVal.int.injEq, Int.natCast_zero, List.replicate_zero, List.length_take, List.length_drop, AVal.own.injEq, reduceCtorEq, Int.reduceAdd, nle2, nle1, nle0, nleA, nleL, Try.results7]
              replace h := bif_f h hc
              refine AWP.skip ?_
              refine qthen_normal ?_
              refine AWP.seq ?_
              refine AWP.region rfl ?_; intro K hK
              (try simp +decide -implicitDefEqProofs only [go_sem])
              refine AIdx.of (f := encApiWinchLine) (l := l4) hx18 ?_
              (try simp +decide -implicitDefEqProofs only [go_sem])
              obtain ⟨hk, h⟩ := chk_in h
              (repeat (refine ⟨by first | omega | (simp only [List.length_take, List.length_drop, List.length_append]; omega), ?_⟩)); try simp +decide -implicitDefEqProofs only [go_sem]
              refine hK _ _ ?_; clear hK K
              refine qthen_normal ?_
              refine AWP.seq ?_
              refine AWP.region rfl ?_; intro K hK
              (try simp +decide -implicitDefEqProofs only [go_sem])
              refine hK _ _ ?_; clear hK K
              refine qthen_normal ?_
              refine AWP.block ?_
              obtain ⟨o23, hJ23, hO23⟩ := bindE h
              clear h
              refine AWP.loopW (ι := Nat × ((List Int)) × (Nat)) (fun zz => [(0, .sl 4 (l4.map encApiWinchLine)), (2, .int .i64 t), (10, .own 0 zz.2.2 0 zz.2.1.length), (11, .own 1 (ver18 + 1) 0 (groomers17.length + 1)), (12, .int .i64 ((k18 : Nat) : Int)), (13, .int .i64 ((zz.1 : Nat) : Int))]) (fun zz => [.row zz.2.2 1 (zz.2.1.map intC), .row (ver18 + 1) 1 ((groomers17 ++ [x_20.Groomer]).map intC)]) (fun zz => zz.1 ≤ x_20.Runs.length ∧ forIx law46_WinchApart_b5 zz.1 ((x_20.Runs).drop zz.1) zz.2.1 = some o23) (fun zz => x_20.Runs.length - zz.1) (0, runs15, ver16) ⟨Nat.zero_le _, hJ23⟩ (by (simp +decide -implicitDefEqProofs only [go_sem, mpE_nil, AVal.int.injEq, Int.natCast_zero, List.replicate_zero, List.length_take, List.length_drop, AVal.own.injEq, reduceCtorEq, Int.reduceAdd] <;> omega)) (by (simp +decide -implicitDefEqProofs only [go_sem, mpE_nil, AVal.int.injEq, Int.natCast_zero, List.replicate_zero, List.length_take, List.length_drop, AVal.own.injEq, reduceCtorEq, Int.reduceAdd] <;> omega)) (fun x => ⟨rfl, rfl, rfl⟩) ?_
              clear hJ23
              rintro ⟨k23, runs22, ver23⟩ ⟨hk23, hJ23⟩
              dsimp only at hk23 hJ23 ⊢
              refine AWP.seq ?_
              refine AWP.seq ?_
              refine AWP.region rfl ?_; intro K hK
              (try simp +decide -implicitDefEqProofs only [go_sem])
              refine AIdx.of (f := encApiWinchLine) (l := l4) hx18 ?_
              (try simp +decide -implicitDefEqProofs only [go_sem])
              intro hm
              refine hK _ _ ?_; clear hK K
              refine qthen_normal ?_
              refine AWP.cond (acond_split (fun hc => ?_) (fun hc => ?_))
              · have hlt23 : k23 < x_20.Runs.length := by have := of_decide_eq_true hc; omega
                obtain ⟨x_25, b23, hx23_, h, hJ23⟩ := for_cons hJ23 hlt23
                have hx23 := idxL_nat hx23_
                have hw23 : IntKind.i64.wrap (((k23 : Nat) : Int) + 1) = (((k23 : Nat) : Int) + (1 : Int)) := by rw [wrap_i64] <;> omega
                unfold law46_WinchApart_b5 at h; try dsimp only at h
                refine AWP.skip ?_
                refine qthen_normal ?_
                refine AWP.seq ?_
                refine AWP.block ?_
                refine AWP.seq ?_
                refine AWP.seq ?_
                refine AWP.region rfl ?_; intro K hK
                (try simp +decide -implicitDefEqProofs only [go_sem])
                refine AIdx.of (f := encApiWinchLine) (l := l4) hx18 ?_
                (try simp +decide -implicitDefEqProofs only [go_sem])
                refine AIdx.of (f := intC) (l := x_20.Runs) hx23 ?_
                (try simp +decide -implicitDefEqProofs only [go_sem])
                obtain ⟨y26, hy26, h⟩ := bindE h
                refine ACall.snap Try.call25 (law46_has_spec runs22 x_25 hy26) (by simp +decide -implicitDefEqProofs only [go_sem]) (by rintro _ rfl; rfl) fun _ hr => ?_
                subst hr
                (try simp +decide -implicitDefEqProofs only [go_sem])
                refine hK _ _ ?_; clear hK K
                refine qthen_normal ?_
                refine AWP.cond (acond_split (fun hc => ?_) (fun hc => ?_))
                · replace h := bif_t h hc
                  refine AWP.seq ?_
                  refine AWP.region rfl ?_; intro K hK
                  (try simp +decide -implicitDefEqProofs only [go_sem])
                  refine hK _ _ ?_; clear hK K
                  refine qthen_normal ?_
                  refine AWP.ret ?_
                  refine qthen_ret ?_
                  refine qblock_ret ?_
                  refine qthen_ret ?_
                  refine qthen_ret ?_
                  obtain rfl := some_eq h
                  obtain rfl := cont_ret hJ23
                  replace h := on_ret hO23
                  refine qblock_ret ?_
                  refine qblock_ret ?_
                  refine qthen_ret ?_
                  refine qthen_ret ?_
                  obtain rfl := some_eq h
                  obtain rfl := cont_ret hJ18
                  replace h := on_ret hO18
                  refine qblock_ret ?_
                  refine qthen_ret ?_
                  obtain rfl := some_eq h
                  simp +decide -implicitDefEqProofs only [go_sem, mpE_nil, AVal.int.injEq, Int.natCast_zero, List.replicate_zero, List.length_take, List.length_drop, AVal.own.injEq, reduceCtorEq, Int.reduceAdd, nle2, nle1, nle0, nleA, nleL, Try.results7]
                replace h := bif_f h hc
                refine AWP.skip ?_
                refine qthen_normal ?_
                refine AWP.region rfl ?_; intro K hK
                (try simp +decide -implicitDefEqProofs only [go_sem])
                refine AIdx.of (f := encApiWinchLine) (l := l4) hx18 ?_
                (try simp +decide -implicitDefEqProofs only [go_sem])
                refine AIdx.of (f := intC) (l := x_20.Runs) hx23 ?_
                (try simp +decide -implicitDefEqProofs only [go_sem])
                obtain ⟨hk, h⟩ := chk_in h
                (repeat (refine ⟨by first | omega | (simp only [List.length_take, List.length_drop, List.length_append]; omega), ?_⟩)); try simp +decide -implicitDefEqProofs only [go_sem]
                refine hK _ _ ?_; clear hK K
                refine qblock_normal ?_
                refine qthen_normal ?_
                refine AWP.region rfl ?_; intro K hK
                (try simp +decide -implicitDefEqProofs only [go_sem])
                refine hK _ _ ?_; clear hK K
                refine qthen_normal ?_
                obtain rfl := some_eq h
                refine ⟨(k23 + 1, (runs22 ++ [x_25]), (ver23 + 1)), ⟨by dsimp only; omega, cont_next hJ23⟩, by dsimp only; omega, ?_, ?_⟩
                · (simp +decide -implicitDefEqProofs only [go_sem, mpE_nil, AVal.int.injEq, Int.natCast_zero, List.replicate_zero, List.length_take, List.length_drop, AVal.own.injEq, reduceCtorEq, Int.reduceAdd, hw23] <;> omega)
                · (simp +decide -implicitDefEqProofs only [go_sem, mpE_nil, AVal.int.injEq, Int.natCast_zero, List.replicate_zero, List.length_take, List.length_drop, AVal.own.injEq, reduceCtorEq, Int.reduceAdd, hw23] <;> omega)
              · obtain rfl := for_nil hJ23 (fun hl => by have := of_decide_eq_false hc; omega)
                have h := on_next hO23; try dsimp only at h
                have hkl : x_20.Runs.length = k23 := by have := of_decide_eq_false hc; omega
                subst hkl
                refine AWP.exit ?_
                refine qthen_exit ?_
                refine qthen_exit ?_
                refine qblock_same ?_
                refine qblock_normal ?_
                refine qthen_normal ?_
                refine AWP.region rfl ?_; intro K hK
                (try simp +decide -implicitDefEqProofs only [go_sem])
                refine hK _ _ ?_; clear hK K
                refine qthen_normal ?_
                obtain rfl := some_eq h
                refine ⟨(k18 + 1, (runs22, (groomers17 ++ [x_20.Groomer])), (ver23, (ver18 + 1))), ⟨by dsimp only; omega, cont_next hJ18⟩, by dsimp only; omega, ?_, ?_⟩
                · (simp +decide -implicitDefEqProofs only [go_sem, mpE_nil, AVal.int.injEq, Int.natCast_zero, List.replicate_zero, List.length_take, List.length_drop, AVal.own.injEq, reduceCtorEq, Int.reduceAdd, hw18] <;> omega)
                · (simp +decide -implicitDefEqProofs only [go_sem, mpE_nil, AVal.int.injEq, Int.natCast_zero, List.replicate_zero, List.length_take, List.length_drop, AVal.own.injEq, reduceCtorEq, Int.reduceAdd, hw18] <;> omega)
            · replace h := bif_t h hc
              (try simp +decide -implicitDefEqProofs only [go_sem, hc, Bool.not_false])
              refine hK _ _ ?_; clear hK K
              refine qthen_normal ?_
              refine AWP.cond (acond_true ?_)
              refine AWP.exit ?_
              refine qthen_exit ?_
              refine qblock_same ?_
              refine qthen_normal ?_
              refine AWP.region rfl ?_; intro K hK
              (try simp +decide -implicitDefEqProofs only [go_sem])
              refine hK _ _ ?_; clear hK K
              refine qthen_normal ?_
              obtain rfl := some_eq h
              refine ⟨(k18 + 1, (runs15, groomers17), (ver16, ver18)), ⟨by dsimp only; omega, cont_next hJ18⟩, by dsimp only; omega, ?_, ?_⟩
              · (simp +decide -implicitDefEqProofs only [go_sem, mpE_nil, AVal.int.injEq, Int.natCast_zero, List.replicate_zero, List.length_take, List.length_drop, AVal.own.injEq, reduceCtorEq, Int.reduceAdd, hw18] <;> omega)
              · (simp +decide -implicitDefEqProofs only [go_sem, mpE_nil, AVal.int.injEq, Int.natCast_zero, List.replicate_zero, List.length_take, List.length_drop, AVal.own.injEq, reduceCtorEq, Int.reduceAdd, hw18] <;> omega)
          · obtain rfl := for_nil hJ18 (fun hl => by have := of_decide_eq_false hc; omega)
            have h := on_next hO18; try dsimp only at h
            have hkl : l4.length = k18 := by have := of_decide_eq_false hc; omega
            subst hkl
            refine AWP.exit ?_
            refine qthen_exit ?_
            refine qthen_exit ?_
            refine qblock_same ?_
            refine qthen_normal ?_
            exact ⟨(runs15, ver16), h, by (simp +decide -implicitDefEqProofs only [go_sem, mpE_nil, AVal.int.injEq, Int.natCast_zero, List.replicate_zero, List.length_take, List.length_drop, AVal.own.injEq, reduceCtorEq, Int.reduceAdd] <;> omega), by (simp +decide -implicitDefEqProofs only [go_sem, mpE_nil, AVal.int.injEq, Int.natCast_zero, List.replicate_zero, List.length_take, List.length_drop, AVal.own.injEq, reduceCtorEq, Int.reduceAdd] <;> omega)⟩
        · rintro ⟨runs7, ver8⟩ h
          try dsimp only at h ⊢
          unfold law46_WinchApart_j2 at h; try dsimp only at h
          refine AWP.seq ?_
          refine AWP.region rfl ?_; intro K hK
          (try simp +decide -implicitDefEqProofs only [go_sem])
          obtain ⟨y10, hy10, h⟩ := bindE h
          refine ACall.pure Try.call19 (winch_Swept_spec l4 t hy10) rfl fun _ hr => ?_
          subst hr
          (try simp +decide -implicitDefEqProofs only [go_sem])
          refine hK _ _ ?_; clear hK K
          refine qthen_normal ?_
          refine AWP.seq ?_
          refine AWP.seq ?_
          refine AWP.region rfl ?_; intro K hK
          (try simp +decide -implicitDefEqProofs only [go_sem])
          refine hK _ _ ?_; clear hK K
          refine qthen_normal ?_
          refine AWP.block ?_
          obtain ⟨o10, hJ10, hO10⟩ := bindE h
          clear h
          refine AWP.loopW (ι := Nat × (Unit) × (Unit)) (fun zz => [(10, .own 0 ver8 0 runs7.length), (14, .sl 1 (y10.map intC)), (15, .int .i64 ((zz.1 : Nat) : Int))]) (fun zz => [.row ver8 1 (runs7.map intC)]) (fun zz => zz.1 ≤ y10.length ∧ forIx (law46_WinchApart_b3 runs7 y10) zz.1 ((y10).drop zz.1) zz.2.1 = some o10) (fun zz => y10.length - zz.1) (0, (), ()) ⟨Nat.zero_le _, hJ10⟩ (by (simp +decide -implicitDefEqProofs only [go_sem, mpE_nil, AVal.int.injEq, Int.natCast_zero, List.replicate_zero, List.length_take, List.length_drop, AVal.own.injEq, reduceCtorEq, Int.reduceAdd] <;> omega)) (by (simp +decide -implicitDefEqProofs only [go_sem, mpE_nil, AVal.int.injEq, Int.natCast_zero, List.replicate_zero, List.length_take, List.length_drop, AVal.own.injEq, reduceCtorEq, Int.reduceAdd] <;> omega)) (fun x => ⟨rfl, rfl, rfl⟩) ?_
          clear hJ10
          rintro ⟨k10, ⟨⟩, ⟨⟩⟩ ⟨hk10, hJ10⟩
          dsimp only at hk10 hJ10 ⊢
          refine AWP.seq ?_
          refine AWP.seq ?_
          refine AWP.region rfl ?_; intro K hK
          (try simp +decide -implicitDefEqProofs only [go_sem])
          intro hm
          refine hK _ _ ?_; clear hK K
          refine qthen_normal ?_
          refine AWP.cond (acond_split (fun hc => ?_) (fun hc => ?_))
          · have hlt10 : k10 < y10.length := by have := of_decide_eq_true hc; omega
            obtain ⟨x_12, b10, hx10_, h, hJ10⟩ := for_cons hJ10 hlt10
            have hx10 := idxL_nat hx10_
            have hw10 : IntKind.i64.wrap (((k10 : Nat) : Int) + 1) = (((k10 : Nat) : Int) + (1 : Int)) := by rw [wrap_i64] <;> omega
            unfold law46_WinchApart_b3 at h; try dsimp only at h
            refine AWP.skip ?_
            refine qthen_normal ?_
            refine AWP.seq ?_
            refine AWP.block ?_
            refine AWP.seq ?_
            refine AWP.draw Try.mixed (by kernel_rfl) ?_; intro K hK
            (try simp +decide -implicitDefEqProofs only [go_sem])
            refine AIdx.of (f := intC) (l := y10) hx10 ?_
            (try simp +decide -implicitDefEqProofs only [go_sem])
            obtain ⟨y13, hy13, h⟩ := bindE h
            refine DCall.snap Try.call25 (law46_has_spec runs7 x_12 hy13) (by simp +decide -implicitDefEqProofs only [go_sem]) rfl ?_
            (try simp +decide -implicitDefEqProofs only [go_sem])
            refine aguardK_split (fun hc => ?_) (fun hc => ?_)
            · replace h := bif_f h hc
              (try simp +decide -implicitDefEqProofs only [go_sem, hc])
              refine aguardK_split (fun hc => ?_) (fun hc => ?_)
              · replace h := bif_t h hc
                (try simp +decide -implicitDefEqProofs only [go_sem, hc])
                refine AIdx.of (f := intC) (l := y10) hx10 ?_
                (try simp +decide -implicitDefEqProofs only [go_sem])
                obtain ⟨x_14, hx_14, h⟩ := bindE h
                refine AIdx.of (f := intC) (l := y10) hx_14 ?_
                (try simp +decide -implicitDefEqProofs only [go_sem])
                refine hK _ _ _ (by kernel_rfl) ?_; clear hK K
                refine qthen_normal ?_
                refine AWP.cond (acond_split (fun hc => ?_) (fun hc => ?_))
                · replace h := bif_t h hc
                  refine AWP.seq ?_
                  refine AWP.region rfl ?_; intro K hK
                  (try simp +decide -implicitDefEqProofs only [go_sem])
                  refine hK _ _ ?_; clear hK K
                  refine qthen_normal ?_
                  refine AWP.ret ?_
                  refine qblock_ret ?_
                  refine qthen_ret ?_
                  refine qthen_ret ?_
                  obtain rfl := some_eq h
                  obtain rfl := cont_ret hJ10
                  replace h := on_ret hO10
                  refine qblock_ret ?_
                  refine qthen_ret ?_
                  obtain rfl := some_eq h
                  simp +decide -implicitDefEqProofs only [go_sem, mpE_nil, AVal.int.injEq, Int.natCast_zero, List.replicate_zero, List.length_take, List.length_drop, AVal.own.injEq, reduceCtorEq, Int.reduceAdd, nle2, nle1, nle0, nleA, nleL, Try.results7]
                replace h := bif_f h hc
                refine AWP.skip ?_
                refine qblock_normal ?_
                refine qthen_normal ?_
                refine AWP.region rfl ?_; intro K hK
                (try simp +decide -implicitDefEqProofs only [go_sem])
                refine hK _ _ ?_; clear hK K
                refine qthen_normal ?_
                obtain rfl := some_eq h
                refine ⟨(k10 + 1, (), ()), ⟨by dsimp only; omega, cont_next hJ10⟩, by dsimp only; omega, ?_, ?_⟩
                · (simp +decide -implicitDefEqProofs only [go_sem, mpE_nil, AVal.int.injEq, Int.natCast_zero, List.replicate_zero, List.length_take, List.length_drop, AVal.own.injEq, reduceCtorEq, Int.reduceAdd, hw10] <;> omega)
                · (simp +decide -implicitDefEqProofs only [go_sem, mpE_nil, AVal.int.injEq, Int.natCast_zero, List.replicate_zero, List.length_take, List.length_drop, AVal.own.injEq, reduceCtorEq, Int.reduceAdd, hw10] <;> omega)
              · replace h := bif_f h hc
                (try simp +decide -implicitDefEqProofs only [go_sem, hc, Bool.not_true])
                refine hK _ _ _ (by kernel_rfl) ?_; clear hK K
                refine qthen_normal ?_
                refine AWP.cond (acond_false ?_)
                refine AWP.skip ?_
                refine qblock_normal ?_
                refine qthen_normal ?_
                refine AWP.region rfl ?_; intro K hK
                (try simp +decide -implicitDefEqProofs only [go_sem])
                refine hK _ _ ?_; clear hK K
                refine qthen_normal ?_
                obtain rfl := some_eq h
                refine ⟨(k10 + 1, (), ()), ⟨by dsimp only; omega, cont_next hJ10⟩, by dsimp only; omega, ?_, ?_⟩
                · (simp +decide -implicitDefEqProofs only [go_sem, mpE_nil, AVal.int.injEq, Int.natCast_zero, List.replicate_zero, List.length_take, List.length_drop, AVal.own.injEq, reduceCtorEq, Int.reduceAdd, hw10] <;> omega)
                · (simp +decide -implicitDefEqProofs only [go_sem, mpE_nil, AVal.int.injEq, Int.natCast_zero, List.replicate_zero, List.length_take, List.length_drop, AVal.own.injEq, reduceCtorEq, Int.reduceAdd, hw10] <;> omega)
            · replace h := bif_t h hc
              (try simp +decide -implicitDefEqProofs only [go_sem, hc, Bool.not_false])
              refine hK _ _ _ (by kernel_rfl) ?_; clear hK K
              refine qthen_normal ?_
              refine AWP.cond (acond_true ?_)
              refine AWP.seq ?_
              refine AWP.region rfl ?_; intro K hK
              (try simp +decide -implicitDefEqProofs only [go_sem])
              refine hK _ _ ?_; clear hK K
              refine qthen_normal ?_
              refine AWP.ret ?_
              refine qblock_ret ?_
              refine qthen_ret ?_
              refine qthen_ret ?_
              obtain rfl := some_eq h
              obtain rfl := cont_ret hJ10
              replace h := on_ret hO10
              refine qblock_ret ?_
              refine qthen_ret ?_
              obtain rfl := some_eq h
              simp +decide -implicitDefEqProofs only [go_sem, mpE_nil, AVal.int.injEq, Int.natCast_zero, List.replicate_zero, List.length_take, List.length_drop, AVal.own.injEq, reduceCtorEq, Int.reduceAdd, nle2, nle1, nle0, nleA, nleL, Try.results7]
          · obtain rfl := for_nil hJ10 (fun hl => by have := of_decide_eq_false hc; omega)
            have h := on_next hO10; try dsimp only at h
            have hkl : y10.length = k10 := by have := of_decide_eq_false hc; omega
            subst hkl
            refine AWP.exit ?_
            refine qthen_exit ?_
            refine qthen_exit ?_
            refine qblock_same ?_
            refine qthen_normal ?_
            refine AWP.seq ?_
            refine AWP.region rfl ?_; intro K hK
            (try simp +decide -implicitDefEqProofs only [go_sem])
            intro hm
            intro hm
            refine hK _ _ ?_; clear hK K
            refine qthen_normal ?_
            refine AWP.ret ?_
            obtain rfl := some_eq h
            simp +decide -implicitDefEqProofs only [go_sem, mpE_nil, AVal.int.injEq, Int.natCast_zero, List.replicate_zero, List.length_take, List.length_drop, AVal.own.injEq, reduceCtorEq, Int.reduceAdd, nle2, nle1, nle0, nleA, nleL, Try.results7]
    · replace h := bif_t h hc
      (try simp +decide -implicitDefEqProofs only [go_sem, hc, Bool.not_false])
      refine hK _ _ ?_; clear hK K
      refine qthen_normal ?_
      refine AWP.cond (acond_true ?_)
      refine AWP.seq ?_
      refine AWP.region rfl ?_; intro K hK
      (try simp +decide -implicitDefEqProofs only [go_sem])
      refine hK _ _ ?_; clear hK K
      refine qthen_normal ?_
      refine AWP.ret ?_
      refine qthen_ret ?_
      obtain rfl := some_eq h
      simp +decide -implicitDefEqProofs only [go_sem, mpE_nil, AVal.int.injEq, Int.natCast_zero, List.replicate_zero, List.length_take, List.length_drop, AVal.own.injEq, reduceCtorEq, Int.reduceAdd, nle2, nle1, nle0, nleA, nleL, Try.results7]
  · replace h := bif_t h hc
    (try simp +decide -implicitDefEqProofs only [go_sem, hc, Bool.not_false])
    refine hK _ _ ?_; clear hK K
    refine qthen_normal ?_
    refine AWP.cond (acond_true ?_)
    refine AWP.seq ?_
    refine AWP.region rfl ?_; intro K hK
    (try simp +decide -implicitDefEqProofs only [go_sem])
    refine hK _ _ ?_; clear hK K
    refine qthen_normal ?_
    refine AWP.ret ?_
    refine qthen_ret ?_
    obtain rfl := some_eq h
    simp +decide -implicitDefEqProofs only [go_sem, mpE_nil, AVal.int.injEq, Int.natCast_zero, List.replicate_zero, List.length_take, List.length_drop, AVal.own.injEq, reduceCtorEq, Int.reduceAdd, nle2, nle1, nle0, nleA, nleL, Try.results7]

def law46_WinchSecond (l : List ApiWinchLine) (run : Int) (at_ : Arr3Int) : Option (Bool) :=
  (law46_alive).bind fun y1 => (bif (!y1) then some false else (law46_right l).bind fun y2 => (bif (!y2) then some true else (bif (decide (at_.e0 < (-1 : Int))) then some true else (bif (decide ((20000001 : Int) < at_.e0)) then some true else (bif (decide (at_.e1 < at_.e0)) then some true else (bif (decide (at_.e2 < at_.e1)) then some true else (winch_Swept l at_.e0).bind fun y3 => (law46_has y3 run).bind fun y4 => (winch_Free l run (ApiInterval.mk at_.e0 (IntKind.i64.wrap (at_.e0 + (1 : Int))))).bind fun y5 => (bif (y4 == y5) then some false else (winch_Free l run (ApiInterval.mk at_.e0 at_.e2)).bind fun y6 => (winch_Free l run (ApiInterval.mk at_.e0 at_.e1)).bind fun y7 => (winch_Free l run (ApiInterval.mk at_.e1 at_.e2)).bind fun y8 => (bif y7 then (bif (y6 == y8) then (winch_Free l run (ApiInterval.mk at_.e1 at_.e0)).bind fun y9 => some y9 else some false) else (bif (y6 == false) then (winch_Free l run (ApiInterval.mk at_.e1 at_.e0)).bind fun y10 => some y10 else some false)))))))))

theorem law46_WinchSecond_spec (l : List ApiWinchLine) (run : Int) (at_ : Arr3Int) {r : Bool} (h : law46_WinchSecond l run at_ = some r) : PureFn Try.prog 8 [.sl 4 (l.map encApiWinchLine), .int .i64 run, .agg (encArr3Int at_)] (· = .bool r) := by
  refine PureFn.nle (PureFn.intro Try.func8 rfl rfl (by show _ ≤ 95; simp) ?_)
  unfold law46_WinchSecond at h
  (try simp +decide -implicitDefEqProofs only [go_sem])
  refine AWP.seq ?_
  refine AWP.region rfl ?_; intro K hK
  (try simp +decide -implicitDefEqProofs only [go_sem])
  refine hK _ _ ?_; clear hK K
  refine qthen_normal ?_
  refine AWP.seq ?_
  refine AWP.seq ?_
  refine AWP.region rfl ?_; intro K hK
  (try simp +decide -implicitDefEqProofs only [go_sem])
  obtain ⟨y1, hy1, h⟩ := bindE h
  refine ACall.pure Try.call10 (law46_alive_spec hy1) rfl fun _ hr => ?_
  subst hr
  (try simp +decide -implicitDefEqProofs only [go_sem])
  refine hK _ _ ?_; clear hK K
  refine qthen_normal ?_
  refine AWP.cond (acond_split (fun hc => ?_) (fun hc => ?_))
  · replace h := bif_t h hc
    refine AWP.seq ?_
    refine AWP.region rfl ?_; intro K hK
    (try simp +decide -implicitDefEqProofs only [go_sem])
    refine hK _ _ ?_; clear hK K
    refine qthen_normal ?_
    refine AWP.ret ?_
    refine qthen_ret ?_
    obtain rfl := some_eq h
    simp +decide -implicitDefEqProofs only [go_sem, mpE_nil, AVal.int.injEq, Int.natCast_zero, List.replicate_zero, List.length_take, List.length_drop, AVal.own.injEq, reduceCtorEq, Int.reduceAdd, nle2, nle1, nle0, nleA, nleL, Try.results8]
  replace h := bif_f h hc
  refine AWP.skip ?_
  refine qthen_normal ?_
  refine AWP.seq ?_
  refine AWP.seq ?_
  refine AWP.region rfl ?_; intro K hK
  (try simp +decide -implicitDefEqProofs only [go_sem])
  obtain ⟨y2, hy2, h⟩ := bindE h
  refine ACall.pure Try.call14 (law46_right_spec l hy2) rfl fun _ hr => ?_
  subst hr
  (try simp +decide -implicitDefEqProofs only [go_sem])
  refine aguardK_split (fun hc => ?_) (fun hc => ?_)
  · replace h := bif_f h hc
    (try simp +decide -implicitDefEqProofs only [go_sem, hc])
    refine aguardK_split (fun hc => ?_) (fun hc => ?_)
    · replace h := bif_f h hc
      (try simp +decide -implicitDefEqProofs only [go_sem, hc])
      refine aguardK_split (fun hc => ?_) (fun hc => ?_)
      · replace h := bif_f h hc
        (try simp +decide -implicitDefEqProofs only [go_sem, hc])
        refine aguardK_split (fun hc => ?_) (fun hc => ?_)
        · replace h := bif_f h hc
          (try simp +decide -implicitDefEqProofs only [go_sem, hc])
          refine hK _ _ ?_; clear hK K
          refine qthen_normal ?_
          refine AWP.cond (acond_split (fun hc => ?_) (fun hc => ?_))
          · replace h := bif_t h hc
            refine AWP.seq ?_
            refine AWP.region rfl ?_; intro K hK
            (try simp +decide -implicitDefEqProofs only [go_sem])
            refine hK _ _ ?_; clear hK K
            refine qthen_normal ?_
            refine AWP.ret ?_
            refine qthen_ret ?_
            obtain rfl := some_eq h
            simp +decide -implicitDefEqProofs only [go_sem, mpE_nil, AVal.int.injEq, Int.natCast_zero, List.replicate_zero, List.length_take, List.length_drop, AVal.own.injEq, reduceCtorEq, Int.reduceAdd, nle2, nle1, nle0, nleA, nleL, Try.results8]
          replace h := bif_f h hc
          refine AWP.skip ?_
          refine qthen_normal ?_
          refine AWP.seq ?_
          refine AWP.seq ?_
          refine AWP.draw Try.mixed (by kernel_rfl) ?_; intro K hK
          (try simp +decide -implicitDefEqProofs only [go_sem])
          obtain ⟨y3, hy3, h⟩ := bindE h
          refine DCall.pure Try.call19 (winch_Swept_spec l at_.e0 hy3) rfl ?_
          (try simp +decide -implicitDefEqProofs only [go_sem])
          obtain ⟨y4, hy4, h⟩ := bindE h
          refine DCall.pure Try.call25 (law46_has_spec y3 run hy4) rfl ?_
          (try simp +decide -implicitDefEqProofs only [go_sem])
          obtain ⟨y5, hy5, h⟩ := bindE h
          refine DCall.pure Try.call23 (winch_Free_spec l run (ApiInterval.mk at_.e0 (IntKind.i64.wrap (at_.e0 + (1 : Int)))) hy5) rfl ?_
          (try simp +decide -implicitDefEqProofs only [go_sem])
          refine hK _ _ _ (by kernel_rfl) ?_; clear hK K
          refine qthen_normal ?_
          refine AWP.cond (acond_split (fun hc => ?_) (fun hc => ?_))
          · replace h := bif_t h hc
            refine AWP.seq ?_
            refine AWP.region rfl ?_; intro K hK
            (try simp +decide -implicitDefEqProofs only [go_sem])
            refine hK _ _ ?_; clear hK K
            refine qthen_normal ?_
            refine AWP.ret ?_
            refine qthen_ret ?_
            obtain rfl := some_eq h
            simp +decide -implicitDefEqProofs only [go_sem, mpE_nil, AVal.int.injEq, Int.natCast_zero, List.replicate_zero, List.length_take, List.length_drop, AVal.own.injEq, reduceCtorEq, Int.reduceAdd, nle2, nle1, nle0, nleA, nleL, Try.results8]
          replace h := bif_f h hc
          refine AWP.skip ?_
          refine qthen_normal ?_
          refine AWP.seq ?_
          refine AWP.region rfl ?_; intro K hK
          (try simp +decide -implicitDefEqProofs only [go_sem])
          obtain ⟨y6, hy6, h⟩ := bindE h
          refine ACall.pure Try.call23 (winch_Free_spec l run (ApiInterval.mk at_.e0 at_.e2) hy6) rfl fun _ hr => ?_
          subst hr
          (try simp +decide -implicitDefEqProofs only [go_sem])
          refine hK _ _ ?_; clear hK K
          refine qthen_normal ?_
          refine AWP.seq ?_
          refine AWP.draw Try.mixed (by kernel_rfl) ?_; intro K hK
          (try simp +decide -implicitDefEqProofs only [go_sem])
          obtain ⟨y7, hy7, h⟩ := bindE h
          refine DCall.pure Try.call23 (winch_Free_spec l run (ApiInterval.mk at_.e0 at_.e1) hy7) rfl ?_
          (try simp +decide -implicitDefEqProofs only [go_sem])
          obtain ⟨y8, hy8, h⟩ := bindE h
          refine DCall.pure Try.call23 (winch_Free_spec l run (ApiInterval.mk at_.e1 at_.e2) hy8) rfl ?_
          (try simp +decide -implicitDefEqProofs only [go_sem])
          refine hK _ _ _ (by kernel_rfl) ?_; clear hK K
          refine qthen_normal ?_
          refine AWP.seq ?_
          refine AWP.region rfl ?_; intro K hK
          (try simp +decide -implicitDefEqProofs only [go_sem])
          refine aguardK_split (fun hc => ?_) (fun hc => ?_)
          · replace h := bif_t h hc
            (try simp +decide -implicitDefEqProofs only [go_sem, hc])
            refine aguardK_split (fun hc => ?_) (fun hc => ?_)
            · replace h := bif_t h hc
              (try simp +decide -implicitDefEqProofs only [go_sem, hc])
              obtain ⟨y9, hy9, h⟩ := bindE h
              refine ACall.pure Try.call23 (winch_Free_spec l run (ApiInterval.mk at_.e1 at_.e0) hy9) rfl fun _ hr => ?_
              subst hr
              (try simp +decide -implicitDefEqProofs only [go_sem])
              refine hK _ _ ?_; clear hK K
              refine qthen_normal ?_
              refine AWP.ret ?_
              obtain rfl := some_eq h
              simp +decide -implicitDefEqProofs only [go_sem, mpE_nil, AVal.int.injEq, Int.natCast_zero, List.replicate_zero, List.length_take, List.length_drop, AVal.own.injEq, reduceCtorEq, Int.reduceAdd, nle2, nle1, nle0, nleA, nleL, Try.results8]
            · replace h := bif_f h hc
              (try simp +decide -implicitDefEqProofs only [go_sem, hc, Bool.not_true])
              refine hK _ _ ?_; clear hK K
              refine qthen_normal ?_
              refine AWP.ret ?_
              obtain rfl := some_eq h
              simp +decide -implicitDefEqProofs only [go_sem, mpE_nil, AVal.int.injEq, Int.natCast_zero, List.replicate_zero, List.length_take, List.length_drop, AVal.own.injEq, reduceCtorEq, Int.reduceAdd, nle2, nle1, nle0, nleA, nleL, Try.results8]
          · replace h := bif_f h hc
            (try simp +decide -implicitDefEqProofs only [go_sem, hc, Bool.not_true])
            refine aguardK_split (fun hc => ?_) (fun hc => ?_)
            · replace h := bif_t h hc
              (try simp +decide -implicitDefEqProofs only [go_sem, hc])
              obtain ⟨y10, hy10, h⟩ := bindE h
              refine ACall.pure Try.call23 (winch_Free_spec l run (ApiInterval.mk at_.e1 at_.e0) hy10) rfl fun _ hr => ?_
              subst hr
              (try simp +decide -implicitDefEqProofs only [go_sem])
              refine hK _ _ ?_; clear hK K
              refine qthen_normal ?_
              refine AWP.ret ?_
              obtain rfl := some_eq h
              simp +decide -implicitDefEqProofs only [go_sem, mpE_nil, AVal.int.injEq, Int.natCast_zero, List.replicate_zero, List.length_take, List.length_drop, AVal.own.injEq, reduceCtorEq, Int.reduceAdd, nle2, nle1, nle0, nleA, nleL, Try.results8]
            · replace h := bif_f h hc
              (try simp +decide -implicitDefEqProofs only [go_sem, hc, Bool.not_true])
              refine hK _ _ ?_; clear hK K
              refine qthen_normal ?_
              refine AWP.ret ?_
              obtain rfl := some_eq h
              simp +decide -implicitDefEqProofs only [go_sem, mpE_nil, AVal.int.injEq, Int.natCast_zero, List.replicate_zero, List.length_take, List.length_drop, AVal.own.injEq, reduceCtorEq, Int.reduceAdd, nle2, nle1, nle0, nleA, nleL, Try.results8]
        · replace h := bif_t h hc
          (try simp +decide -implicitDefEqProofs only [go_sem, hc, Bool.not_false])
          refine hK _ _ ?_; clear hK K
          refine qthen_normal ?_
          refine AWP.cond (acond_true ?_)
          refine AWP.seq ?_
          refine AWP.region rfl ?_; intro K hK
          (try simp +decide -implicitDefEqProofs only [go_sem])
          refine hK _ _ ?_; clear hK K
          refine qthen_normal ?_
          refine AWP.ret ?_
          refine qthen_ret ?_
          obtain rfl := some_eq h
          simp +decide -implicitDefEqProofs only [go_sem, mpE_nil, AVal.int.injEq, Int.natCast_zero, List.replicate_zero, List.length_take, List.length_drop, AVal.own.injEq, reduceCtorEq, Int.reduceAdd, nle2, nle1, nle0, nleA, nleL, Try.results8]
      · replace h := bif_t h hc
        (try simp +decide -implicitDefEqProofs only [go_sem, hc, Bool.not_false])
        refine hK _ _ ?_; clear hK K
        refine qthen_normal ?_
        refine AWP.cond (acond_true ?_)
        refine AWP.seq ?_
        refine AWP.region rfl ?_; intro K hK
        (try simp +decide -implicitDefEqProofs only [go_sem])
        refine hK _ _ ?_; clear hK K
        refine qthen_normal ?_
        refine AWP.ret ?_
        refine qthen_ret ?_
        obtain rfl := some_eq h
        simp +decide -implicitDefEqProofs only [go_sem, mpE_nil, AVal.int.injEq, Int.natCast_zero, List.replicate_zero, List.length_take, List.length_drop, AVal.own.injEq, reduceCtorEq, Int.reduceAdd, nle2, nle1, nle0, nleA, nleL, Try.results8]
    · replace h := bif_t h hc
      (try simp +decide -implicitDefEqProofs only [go_sem, hc, Bool.not_false])
      refine hK _ _ ?_; clear hK K
      refine qthen_normal ?_
      refine AWP.cond (acond_true ?_)
      refine AWP.seq ?_
      refine AWP.region rfl ?_; intro K hK
      (try simp +decide -implicitDefEqProofs only [go_sem])
      refine hK _ _ ?_; clear hK K
      refine qthen_normal ?_
      refine AWP.ret ?_
      refine qthen_ret ?_
      obtain rfl := some_eq h
      simp +decide -implicitDefEqProofs only [go_sem, mpE_nil, AVal.int.injEq, Int.natCast_zero, List.replicate_zero, List.length_take, List.length_drop, AVal.own.injEq, reduceCtorEq, Int.reduceAdd, nle2, nle1, nle0, nleA, nleL, Try.results8]
  · replace h := bif_t h hc
    (try simp +decide -implicitDefEqProofs only [go_sem, hc, Bool.not_false])
    refine hK _ _ ?_; clear hK K
    refine qthen_normal ?_
    refine AWP.cond (acond_true ?_)
    refine AWP.seq ?_
    refine AWP.region rfl ?_; intro K hK
    (try simp +decide -implicitDefEqProofs only [go_sem])
    refine hK _ _ ?_; clear hK K
    refine qthen_normal ?_
    refine AWP.ret ?_
    refine qthen_ret ?_
    obtain rfl := some_eq h
    simp +decide -implicitDefEqProofs only [go_sem, mpE_nil, AVal.int.injEq, Int.natCast_zero, List.replicate_zero, List.length_take, List.length_drop, AVal.own.injEq, reduceCtorEq, Int.reduceAdd, nle2, nle1, nle0, nleA, nleL, Try.results8]

def law46_WinchClears_b1 (t : Int) (k3 : Nat) (x_5 : ApiWinchLine) (sv : Unit) : Option (Out (Unit) (Bool)) :=
  (bif (decide (x_5.To ≤ t)) then some (Out.ret false) else some (Out.next ()))

def law46_WinchClears (l : List ApiWinchLine) (t : Int) (later : Int) : Option (Bool) :=
  (law46_alive).bind fun y1 => (bif (!y1) then some false else (law46_right l).bind fun y2 => (bif (!y2) then some true else (bif (decide (later < t)) then some true else (winch_Clear l t).bind fun y3 => (forIx (law46_WinchClears_b1 t) 0 y3 ()).bind fun o3 => o3.on fun s3 => (winch_Right y3).bind fun y6 => (bif (decide (y6 = (0 : Int))) then (winch_Swept y3 t).bind fun y7 => (winch_Swept l t).bind fun y8 => (ref46_SameInts y7 y8).bind fun y9 => (bif y9 then (winch_Swept y3 later).bind fun y10 => (winch_Swept l later).bind fun y11 => (ref46_SameInts y10 y11).bind fun y12 => (bif y12 then (winch_Clear y3 later).bind fun y13 => (winch_Clear l later).bind fun y14 => (ref46_Same y13 y14).bind fun y15 => some y15 else some false) else some false) else some false))))

theorem law46_WinchClears_spec (l : List ApiWinchLine) (t : Int) (later : Int) {r : Bool} (h : law46_WinchClears l t later = some r) : PureFn Try.prog 9 [.sl 4 (l.map encApiWinchLine), .int .i64 t, .int .i64 later] (· = .bool r) := by
  refine PureFn.nle (PureFn.intro Try.func9 rfl rfl (by show _ ≤ 65; simp) ?_)
  unfold law46_WinchClears at h
  (try simp +decide -implicitDefEqProofs only [go_sem])
  refine AWP.seq ?_
  refine AWP.region rfl ?_; intro K hK
  (try simp +decide -implicitDefEqProofs only [go_sem])
  refine hK _ _ ?_; clear hK K
  refine qthen_normal ?_
  refine AWP.seq ?_
  refine AWP.seq ?_
  refine AWP.region rfl ?_; intro K hK
  (try simp +decide -implicitDefEqProofs only [go_sem])
  obtain ⟨y1, hy1, h⟩ := bindE h
  refine ACall.pure Try.call10 (law46_alive_spec hy1) rfl fun _ hr => ?_
  subst hr
  (try simp +decide -implicitDefEqProofs only [go_sem])
  refine hK _ _ ?_; clear hK K
  refine qthen_normal ?_
  refine AWP.cond (acond_split (fun hc => ?_) (fun hc => ?_))
  · replace h := bif_t h hc
    refine AWP.seq ?_
    refine AWP.region rfl ?_; intro K hK
    (try simp +decide -implicitDefEqProofs only [go_sem])
    refine hK _ _ ?_; clear hK K
    refine qthen_normal ?_
    refine AWP.ret ?_
    refine qthen_ret ?_
    obtain rfl := some_eq h
    simp +decide -implicitDefEqProofs only [go_sem, mpE_nil, AVal.int.injEq, Int.natCast_zero, List.replicate_zero, List.length_take, List.length_drop, AVal.own.injEq, reduceCtorEq, Int.reduceAdd, nle2, nle1, nle0, nleA, nleL, Try.results9]
  replace h := bif_f h hc
  refine AWP.skip ?_
  refine qthen_normal ?_
  refine AWP.seq ?_
  refine AWP.seq ?_
  refine AWP.region rfl ?_; intro K hK
  (try simp +decide -implicitDefEqProofs only [go_sem])
  obtain ⟨y2, hy2, h⟩ := bindE h
  refine ACall.pure Try.call14 (law46_right_spec l hy2) rfl fun _ hr => ?_
  subst hr
  (try simp +decide -implicitDefEqProofs only [go_sem])
  refine aguardK_split (fun hc => ?_) (fun hc => ?_)
  · replace h := bif_f h hc
    (try simp +decide -implicitDefEqProofs only [go_sem, hc])
    refine hK _ _ ?_; clear hK K
    refine qthen_normal ?_
    refine AWP.cond (acond_split (fun hc => ?_) (fun hc => ?_))
    · replace h := bif_t h hc
      refine AWP.seq ?_
      refine AWP.region rfl ?_; intro K hK
      (try simp +decide -implicitDefEqProofs only [go_sem])
      refine hK _ _ ?_; clear hK K
      refine qthen_normal ?_
      refine AWP.ret ?_
      refine qthen_ret ?_
      obtain rfl := some_eq h
      simp +decide -implicitDefEqProofs only [go_sem, mpE_nil, AVal.int.injEq, Int.natCast_zero, List.replicate_zero, List.length_take, List.length_drop, AVal.own.injEq, reduceCtorEq, Int.reduceAdd, nle2, nle1, nle0, nleA, nleL, Try.results9]
    replace h := bif_f h hc
    refine AWP.skip ?_
    refine qthen_normal ?_
    refine AWP.seq ?_
    refine AWP.region rfl ?_; intro K hK
    (try simp +decide -implicitDefEqProofs only [go_sem])
    obtain ⟨y3, hy3, h⟩ := bindE h
    refine ACall.pure Try.call21 (winch_Clear_spec l t hy3) rfl fun _ hr => ?_
    subst hr
    (try simp +decide -implicitDefEqProofs only [go_sem])
    refine hK _ _ ?_; clear hK K
    refine qthen_normal ?_
    refine AWP.seq ?_
    refine AWP.seq ?_
    refine AWP.region rfl ?_; intro K hK
    (try simp +decide -implicitDefEqProofs only [go_sem])
    refine hK _ _ ?_; clear hK K
    refine qthen_normal ?_
    refine AWP.block ?_
    obtain ⟨o3, hJ3, hO3⟩ := bindE h
    clear h
    refine AWP.loopW (ι := Nat × (Unit) × (Unit)) (fun zz => [(0, .sl 4 (l.map encApiWinchLine)), (1, .int .i64 t), (2, .int .i64 later), (7, .sl 4 (y3.map encApiWinchLine)), (8, .int .i64 ((zz.1 : Nat) : Int))]) (fun zz => []) (fun zz => zz.1 ≤ y3.length ∧ forIx (law46_WinchClears_b1 t) zz.1 ((y3).drop zz.1) zz.2.1 = some o3) (fun zz => y3.length - zz.1) (0, (), ()) ⟨Nat.zero_le _, hJ3⟩ (by (simp +decide -implicitDefEqProofs only [go_sem, mpE_nil, AVal.int.injEq, Int.natCast_zero, List.replicate_zero, List.length_take, List.length_drop, AVal.own.injEq, reduceCtorEq, Int.reduceAdd] <;> omega)) (by (simp +decide -implicitDefEqProofs only [go_sem, mpE_nil, AVal.int.injEq, Int.natCast_zero, List.replicate_zero, List.length_take, List.length_drop, AVal.own.injEq, reduceCtorEq, Int.reduceAdd] <;> omega)) (fun x => ⟨rfl, rfl, rfl⟩) ?_
    clear hJ3
    rintro ⟨k3, ⟨⟩, ⟨⟩⟩ ⟨hk3, hJ3⟩
    dsimp only at hk3 hJ3 ⊢
    refine AWP.seq ?_
    refine AWP.seq ?_
    refine AWP.region rfl ?_; intro K hK
    (try simp +decide -implicitDefEqProofs only [go_sem])
    intro hm
    refine hK _ _ ?_; clear hK K
    refine qthen_normal ?_
    refine AWP.cond (acond_split (fun hc => ?_) (fun hc => ?_))
    · have hlt3 : k3 < y3.length := by have := of_decide_eq_true hc; omega
      obtain ⟨x_5, b3, hx3_, h, hJ3⟩ := for_cons hJ3 hlt3
      have hx3 := idxL_nat hx3_
      have hw3 : IntKind.i64.wrap (((k3 : Nat) : Int) + 1) = (((k3 : Nat) : Int) + (1 : Int)) := by rw [wrap_i64] <;> omega
      unfold law46_WinchClears_b1 at h; try dsimp only at h
      refine AWP.skip ?_
      refine qthen_normal ?_
      refine AWP.seq ?_
      refine AWP.block ?_
      refine AWP.seq ?_
      refine AWP.region rfl ?_; intro K hK
      (try simp +decide -implicitDefEqProofs only [go_sem])
      refine AIdx.of (f := encApiWinchLine) (l := y3) hx3 ?_
      (try simp +decide -implicitDefEqProofs only [go_sem])
      refine hK _ _ ?_; clear hK K
      refine qthen_normal ?_
      refine AWP.cond (acond_split (fun hc => ?_) (fun hc => ?_))
      · replace h := bif_t h hc
        refine AWP.seq ?_
        refine AWP.region rfl ?_; intro K hK
        (try simp +decide -implicitDefEqProofs only [go_sem])
        refine hK _ _ ?_; clear hK K
        refine qthen_normal ?_
        refine AWP.ret ?_
        refine qblock_ret ?_
        refine qthen_ret ?_
        refine qthen_ret ?_
        obtain rfl := some_eq h
        obtain rfl := cont_ret hJ3
        replace h := on_ret hO3
        refine qblock_ret ?_
        refine qthen_ret ?_
        obtain rfl := some_eq h
        simp +decide -implicitDefEqProofs only [go_sem, mpE_nil, AVal.int.injEq, Int.natCast_zero, List.replicate_zero, List.length_take, List.length_drop, AVal.own.injEq, reduceCtorEq, Int.reduceAdd, nle2, nle1, nle0, nleA, nleL, Try.results9]
      replace h := bif_f h hc
      refine AWP.skip ?_
      refine qblock_normal ?_
      refine qthen_normal ?_
      refine AWP.region rfl ?_; intro K hK
      (try simp +decide -implicitDefEqProofs only [go_sem])
      refine hK _ _ ?_; clear hK K
      refine qthen_normal ?_
      obtain rfl := some_eq h
      refine ⟨(k3 + 1, (), ()), ⟨by dsimp only; omega, cont_next hJ3⟩, by dsimp only; omega, ?_, ?_⟩
      · (simp +decide -implicitDefEqProofs only [go_sem, mpE_nil, AVal.int.injEq, Int.natCast_zero, List.replicate_zero, List.length_take, List.length_drop, AVal.own.injEq, reduceCtorEq, Int.reduceAdd, hw3] <;> omega)
      · (simp +decide -implicitDefEqProofs only [go_sem, mpE_nil, AVal.int.injEq, Int.natCast_zero, List.replicate_zero, List.length_take, List.length_drop, AVal.own.injEq, reduceCtorEq, Int.reduceAdd, hw3] <;> omega)
    · obtain rfl := for_nil hJ3 (fun hl => by have := of_decide_eq_false hc; omega)
      have h := on_next hO3; try dsimp only at h
      have hkl : y3.length = k3 := by have := of_decide_eq_false hc; omega
      subst hkl
      refine AWP.exit ?_
      refine qthen_exit ?_
      refine qthen_exit ?_
      refine qblock_same ?_
      refine qthen_normal ?_
      refine AWP.seq ?_
      refine AWP.region rfl ?_; intro K hK
      (try simp +decide -implicitDefEqProofs only [go_sem])
      obtain ⟨y6, hy6, h⟩ := bindE h
      refine ACall.pure Try.call12 (winch_Right_spec y3 hy6) rfl fun _ hr => ?_
      subst hr
      (try simp +decide -implicitDefEqProofs only [go_sem])
      refine aguardK_split (fun hc => ?_) (fun hc => ?_)
      · replace h := bif_t h hc
        (try simp +decide -implicitDefEqProofs only [go_sem, hc])
        obtain ⟨y7, hy7, h⟩ := bindE h
        refine ACall.pure Try.call19 (winch_Swept_spec y3 t hy7) rfl fun _ hr => ?_
        subst hr
        (try simp +decide -implicitDefEqProofs only [go_sem])
        obtain ⟨y8, hy8, h⟩ := bindE h
        refine ACall.pure Try.call19 (winch_Swept_spec l t hy8) rfl fun _ hr => ?_
        subst hr
        (try simp +decide -implicitDefEqProofs only [go_sem])
        obtain ⟨y9, hy9, h⟩ := bindE h
        refine ACall.pure Try.call18 (ref46_SameInts_spec y7 y8 hy9) rfl fun _ hr => ?_
        subst hr
        (try simp +decide -implicitDefEqProofs only [go_sem])
        refine aguardK_split (fun hc => ?_) (fun hc => ?_)
        · replace h := bif_t h hc
          (try simp +decide -implicitDefEqProofs only [go_sem, hc])
          obtain ⟨y10, hy10, h⟩ := bindE h
          refine ACall.pure Try.call19 (winch_Swept_spec y3 later hy10) rfl fun _ hr => ?_
          subst hr
          (try simp +decide -implicitDefEqProofs only [go_sem])
          obtain ⟨y11, hy11, h⟩ := bindE h
          refine ACall.pure Try.call19 (winch_Swept_spec l later hy11) rfl fun _ hr => ?_
          subst hr
          (try simp +decide -implicitDefEqProofs only [go_sem])
          obtain ⟨y12, hy12, h⟩ := bindE h
          refine ACall.pure Try.call18 (ref46_SameInts_spec y10 y11 hy12) rfl fun _ hr => ?_
          subst hr
          (try simp +decide -implicitDefEqProofs only [go_sem])
          refine aguardK_split (fun hc => ?_) (fun hc => ?_)
          · replace h := bif_t h hc
            (try simp +decide -implicitDefEqProofs only [go_sem, hc])
            obtain ⟨y13, hy13, h⟩ := bindE h
            refine ACall.pure Try.call21 (winch_Clear_spec y3 later hy13) rfl fun _ hr => ?_
            subst hr
            (try simp +decide -implicitDefEqProofs only [go_sem])
            obtain ⟨y14, hy14, h⟩ := bindE h
            refine ACall.pure Try.call21 (winch_Clear_spec l later hy14) rfl fun _ hr => ?_
            subst hr
            (try simp +decide -implicitDefEqProofs only [go_sem])
            obtain ⟨y15, hy15, h⟩ := bindE h
            refine ACall.pure Try.call17 (ref46_Same_spec y13 y14 hy15) rfl fun _ hr => ?_
            subst hr
            (try simp +decide -implicitDefEqProofs only [go_sem])
            refine hK _ _ ?_; clear hK K
            refine qthen_normal ?_
            refine AWP.ret ?_
            obtain rfl := some_eq h
            simp +decide -implicitDefEqProofs only [go_sem, mpE_nil, AVal.int.injEq, Int.natCast_zero, List.replicate_zero, List.length_take, List.length_drop, AVal.own.injEq, reduceCtorEq, Int.reduceAdd, nle2, nle1, nle0, nleA, nleL, Try.results9]
          · replace h := bif_f h hc
            (try simp +decide -implicitDefEqProofs only [go_sem, hc, Bool.not_true])
            refine hK _ _ ?_; clear hK K
            refine qthen_normal ?_
            refine AWP.ret ?_
            obtain rfl := some_eq h
            simp +decide -implicitDefEqProofs only [go_sem, mpE_nil, AVal.int.injEq, Int.natCast_zero, List.replicate_zero, List.length_take, List.length_drop, AVal.own.injEq, reduceCtorEq, Int.reduceAdd, nle2, nle1, nle0, nleA, nleL, Try.results9]
        · replace h := bif_f h hc
          (try simp +decide -implicitDefEqProofs only [go_sem, hc, Bool.not_true])
          refine hK _ _ ?_; clear hK K
          refine qthen_normal ?_
          refine AWP.ret ?_
          obtain rfl := some_eq h
          simp +decide -implicitDefEqProofs only [go_sem, mpE_nil, AVal.int.injEq, Int.natCast_zero, List.replicate_zero, List.length_take, List.length_drop, AVal.own.injEq, reduceCtorEq, Int.reduceAdd, nle2, nle1, nle0, nleA, nleL, Try.results9]
      · replace h := bif_f h hc
        (try simp +decide -implicitDefEqProofs only [go_sem, hc, Bool.not_true])
        refine hK _ _ ?_; clear hK K
        refine qthen_normal ?_
        refine AWP.ret ?_
        obtain rfl := some_eq h
        simp +decide -implicitDefEqProofs only [go_sem, mpE_nil, AVal.int.injEq, Int.natCast_zero, List.replicate_zero, List.length_take, List.length_drop, AVal.own.injEq, reduceCtorEq, Int.reduceAdd, nle2, nle1, nle0, nleA, nleL, Try.results9]
  · replace h := bif_t h hc
    (try simp +decide -implicitDefEqProofs only [go_sem, hc, Bool.not_false])
    refine hK _ _ ?_; clear hK K
    refine qthen_normal ?_
    refine AWP.cond (acond_true ?_)
    refine AWP.seq ?_
    refine AWP.region rfl ?_; intro K hK
    (try simp +decide -implicitDefEqProofs only [go_sem])
    refine hK _ _ ?_; clear hK K
    refine qthen_normal ?_
    refine AWP.ret ?_
    refine qthen_ret ?_
    obtain rfl := some_eq h
    simp +decide -implicitDefEqProofs only [go_sem, mpE_nil, AVal.int.injEq, Int.natCast_zero, List.replicate_zero, List.length_take, List.length_drop, AVal.own.injEq, reduceCtorEq, Int.reduceAdd, nle2, nle1, nle0, nleA, nleL, Try.results9]

end
end Go.Proofs.Ytjdgjilnldofaaa
