/-
  What functions of the program compute, as plain Lean functions, and the walks that prove it; printed by a small program of our own (wip/walk.py).
-/
import Derived.Test.YtjdgjilnldofaaaW1
namespace Go.Proofs.Ytjdgjilnldofaaa
open Go Go.Ab
attribute [local irreducible] AWP ACall DCall PureFn Go.Ab.Sub alist dlist AIdx AElem ALook ANext
set_option maxRecDepth 100000
set_option maxHeartbeats 4000000
set_option linter.unusedSimpArgs false
set_option linter.unusedVariables false
noncomputable section
def winch_sweeps (w : ApiWinchLine) (run : Int) : Option (Bool) :=
  (slices_BinarySearch_sint_int w.Runs run).bind fun y1 => some y1.2

theorem winch_sweeps_spec (w : ApiWinchLine) (run : Int) {r : Bool} (h : winch_sweeps w run = some r) : PureFn Try.prog 39 [.agg (encApiWinchLine w), .int .i64 run] (· = .bool r) := by
  refine PureFn.nle (PureFn.intro Try.func39 rfl rfl (by show _ ≤ 15; simp) ?_)
  unfold winch_sweeps at h
  (try simp +decide -implicitDefEqProofs only [go_sem])
  refine AWP.seq ?_
  refine AWP.region rfl ?_; intro K hK
  (try simp +decide -implicitDefEqProofs only [go_sem])
  refine hK _ _ ?_; clear hK K
  refine qthen_normal ?_
  refine AWP.seq ?_
  refine AWP.region rfl ?_; intro K hK
  (try simp +decide -implicitDefEqProofs only [go_sem])
  obtain ⟨y1, hy1, h⟩ := bindE h
  refine ACall.pure Try.call48 (slices_BinarySearch_sint_int_spec w.Runs run hy1) rfl fun _ hr => ?_
  subst hr
  (try simp +decide -implicitDefEqProofs only [go_sem])
  refine hK _ _ ?_; clear hK K
  refine qthen_normal ?_
  refine AWP.seq ?_
  refine AWP.region rfl ?_; intro K hK
  (try simp +decide -implicitDefEqProofs only [go_sem])
  refine hK _ _ ?_; clear hK K
  refine qthen_normal ?_
  refine AWP.ret ?_
  obtain rfl := some_eq h
  simp +decide -implicitDefEqProofs only [go_sem, mpE_nil, AVal.int.injEq, Int.natCast_zero, List.replicate_zero, List.length_take, List.length_drop, AVal.own.injEq, reduceCtorEq, Int.reduceAdd, nle2, nle1, nle0, nleA, nleL, Try.results39]

def winch_conflict_b1 (w : ApiWinchLine) (k0 : Nat) (x_2 : Int) (sv : Unit) : Option (Out (Unit) (Bool)) :=
  (winch_sweeps w x_2).bind fun y3 => (bif y3 then some (Out.ret (decide ((0 : Int) ≤ ((k0 : Nat) : Int)))) else some (Out.next ()))

def winch_conflict (v : ApiWinchLine) (w : ApiWinchLine) : Option (Bool) :=
  (bif (decide (w.To ≤ v.From)) then some false else (bif (decide (v.To ≤ w.From)) then some false else (bif (decide (v.Groomer = w.Groomer)) then some true else (forIx (winch_conflict_b1 w) 0 v.Runs ()).bind fun o0 => o0.on fun s0 => some false)))

theorem winch_conflict_spec (v : ApiWinchLine) (w : ApiWinchLine) {r : Bool} (h : winch_conflict v w = some r) : PureFn Try.prog 30 [.agg (encApiWinchLine v), .agg (encApiWinchLine w)] (· = .bool r) := by
  refine PureFn.nle (PureFn.intro Try.func30 rfl rfl (by show _ ≤ 28; simp) ?_)
  unfold winch_conflict at h
  (try simp +decide -implicitDefEqProofs only [go_sem])
  refine AWP.seq ?_
  refine AWP.region rfl ?_; intro K hK
  (try simp +decide -implicitDefEqProofs only [go_sem])
  refine hK _ _ ?_; clear hK K
  refine qthen_normal ?_
  refine AWP.seq ?_
  refine AWP.seq ?_
  refine AWP.region rfl ?_; intro K hK
  (try simp +decide -implicitDefEqProofs only [go_sem])
  refine aguardK_split (fun hc => ?_) (fun hc => ?_)
  · replace h := bif_f h hc
    (try simp +decide -implicitDefEqProofs only [go_sem, hc])
    refine hK _ _ ?_; clear hK K
    refine qthen_normal ?_
    refine AWP.cond (acond_split (fun hc => ?_) (fun hc => ?_))
    · replace h := bif_t h hc
      refine AWP.seq ?_
      refine AWP.region rfl ?_; intro K hK
      (try simp +decide -implicitDefEqProofs only [go_sem])
      refine hK _ _ ?_; clear hK K
      refine qthen_normal ?_
      refine AWP.ret ?_
      refine qthen_ret ?_
      obtain rfl := some_eq h
      simp +decide -implicitDefEqProofs only [go_sem, mpE_nil, AVal.int.injEq, Int.natCast_zero, List.replicate_zero, List.length_take, List.length_drop, AVal.own.injEq, reduceCtorEq, Int.reduceAdd, nle2, nle1, nle0, nleA, nleL, Try.results30]
    replace h := bif_f h hc
    refine AWP.skip ?_
    refine qthen_normal ?_
    refine AWP.seq ?_
    refine AWP.region rfl ?_; intro K hK
    (try simp +decide -implicitDefEqProofs only [go_sem])
    refine aguardK_split (fun hc => ?_) (fun hc => ?_)
    · replace h := bif_f h hc
      (try simp +decide -implicitDefEqProofs only [go_sem, hc])
      refine ACall.inline Try.call41 Try.func41 rfl rfl (by show _ ≤ 9; simp) ?_
      (try simp +decide -implicitDefEqProofs only [go_sem])
      refine AWP.seq ?_
      refine AWP.region rfl ?_; intro K hK
      (try simp +decide -implicitDefEqProofs only [go_sem])
      refine hK _ _ ?_; clear hK K
      refine qthen_normal ?_
      refine AWP.seq ?_
      refine AWP.region rfl ?_; intro K hK
      (try simp +decide -implicitDefEqProofs only [go_sem])
      refine ACall.inline Try.call49 Try.func49 rfl rfl (by show _ ≤ 19; simp) ?_
      (try simp +decide -implicitDefEqProofs only [go_sem])
      refine AWP.seq ?_
      refine AWP.region rfl ?_; intro K hK
      (try simp +decide -implicitDefEqProofs only [go_sem])
      refine hK _ _ ?_; clear hK K
      refine qthen_normal ?_
      refine AWP.seq ?_
      refine AWP.seq ?_
      refine AWP.region rfl ?_; intro K hK
      (try simp +decide -implicitDefEqProofs only [go_sem])
      intro hm
      refine hK _ _ ?_; clear hK K
      refine qthen_normal ?_
      refine AWP.block ?_
      obtain ⟨o0, hJ0, hO0⟩ := bindE h
      clear h
      refine AWP.loopW (ι := Nat × (Unit) × (Unit)) (fun zz => [(0, .sl 1 (v.Runs.map intC)), (1, .func 42 [.ptr 1 0]), (7, .int .i64 ((v.Runs.length : Nat) : Int)), (8, .int .i64 ((zz.1 : Nat) : Int))]) (fun zz => [.box [.int .i64 v.Groomer, .int .i64 v.From, .int .i64 v.To, .sl 1 (v.Runs.map intC)], .box [.int .i64 w.Groomer, .int .i64 w.From, .int .i64 w.To, .sl 1 (w.Runs.map intC)]]) (fun zz => zz.1 ≤ v.Runs.length ∧ forIx (winch_conflict_b1 w) zz.1 ((v.Runs).drop zz.1) zz.2.1 = some o0) (fun zz => v.Runs.length - zz.1) (0, (), ()) ⟨Nat.zero_le _, hJ0⟩ (by (simp +decide -implicitDefEqProofs only [go_sem, mpE_nil, AVal.int.injEq, Int.natCast_zero, List.replicate_zero, List.length_take, List.length_drop, AVal.own.injEq, reduceCtorEq, Int.reduceAdd] <;> omega)) (by (simp +decide -implicitDefEqProofs only [go_sem, mpE_nil, AVal.int.injEq, Int.natCast_zero, List.replicate_zero, List.length_take, List.length_drop, AVal.own.injEq, reduceCtorEq, Int.reduceAdd] <;> omega)) (fun x => ⟨rfl, rfl, rfl⟩) ?_
      clear hJ0
      rintro ⟨k0, ⟨⟩, ⟨⟩⟩ ⟨hk0, hJ0⟩
      dsimp only at hk0 hJ0 ⊢
      refine AWP.seq ?_
      refine AWP.region rfl ?_; intro K hK
      (try simp +decide -implicitDefEqProofs only [go_sem])
      refine hK _ _ ?_; clear hK K
      refine qthen_normal ?_
      refine AWP.seq ?_
      refine AWP.cond (acond_split (fun hc => ?_) (fun hc => ?_))
      · have hlt0 : k0 < v.Runs.length := by have := of_decide_eq_true hc; omega
        obtain ⟨x_2, b0, hx0_, h, hJ0⟩ := for_cons hJ0 hlt0
        have hx0 := idxL_nat hx0_
        have hw0 : IntKind.i64.wrap (((k0 : Nat) : Int) + 1) = (((k0 : Nat) : Int) + (1 : Int)) := by rw [wrap_i64] <;> omega
        unfold winch_conflict_b1 at h; try dsimp only at h
        refine AWP.skip ?_
        refine qthen_normal ?_
        refine AWP.seq ?_
        refine AWP.block ?_
        refine AWP.seq ?_
        refine AWP.region rfl ?_; intro K hK
        (try simp +decide -implicitDefEqProofs only [go_sem])
        refine hK _ _ ?_; clear hK K
        refine qthen_normal ?_
        refine AWP.seq ?_
        refine AWP.region rfl ?_; intro K hK
        (try simp +decide -implicitDefEqProofs only [go_sem])
        refine AIdx.of (f := intC) (l := v.Runs) hx0 ?_
        (try simp +decide -implicitDefEqProofs only [go_sem])
        refine ACall.inline Try.call42 Try.func42 rfl rfl (by show _ ≤ 7; simp) ?_
        (try simp +decide -implicitDefEqProofs only [go_sem])
        refine AWP.seq ?_
        refine AWP.region rfl ?_; intro K hK
        (try simp +decide -implicitDefEqProofs only [go_sem])
        refine hK _ _ ?_; clear hK K
        refine qthen_normal ?_
        refine AWP.seq ?_
        refine AWP.region rfl ?_; intro K hK
        (try simp +decide -implicitDefEqProofs only [go_sem])
        obtain ⟨y3, hy3, h⟩ := bindE h
        refine ACall.pure Try.call39 (winch_sweeps_spec w x_2 hy3) rfl fun _ hr => ?_
        subst hr
        (try simp +decide -implicitDefEqProofs only [go_sem])
        refine hK _ _ ?_; clear hK K
        refine qthen_normal ?_
        refine AWP.ret ?_
        (try simp +decide -implicitDefEqProofs only [go_sem, Try.results42])
        refine hK _ _ ?_; clear hK K
        refine qthen_normal ?_
        refine AWP.cond (acond_split (fun hc => ?_) (fun hc => ?_))
        · replace h := bif_t h hc
          refine AWP.seq ?_
          refine AWP.region rfl ?_; intro K hK
          (try simp +decide -implicitDefEqProofs only [go_sem])
          refine hK _ _ ?_; clear hK K
          refine qthen_normal ?_
          refine AWP.ret ?_
          refine qblock_ret ?_
          refine qthen_ret ?_
          refine qthen_ret ?_
          obtain rfl := some_eq h
          obtain rfl := cont_ret hJ0
          replace h := on_ret hO0
          refine qblock_ret ?_
          refine qthen_ret ?_
          (try simp +decide -implicitDefEqProofs only [go_sem, Try.results49])
          refine hK _ _ ?_; clear hK K
          refine qthen_normal ?_
          refine AWP.ret ?_
          (try simp +decide -implicitDefEqProofs only [go_sem, Try.results41])
          refine hK _ _ ?_; clear hK K
          refine qthen_normal ?_
          refine AWP.ret ?_
          obtain rfl := some_eq h
          simp +decide -implicitDefEqProofs only [go_sem, mpE_nil, AVal.int.injEq, Int.natCast_zero, List.replicate_zero, List.length_take, List.length_drop, AVal.own.injEq, reduceCtorEq, Int.reduceAdd, nle2, nle1, nle0, nleA, nleL, Try.results30]
        replace h := bif_f h hc
        refine AWP.skip ?_
        refine qblock_normal ?_
        refine qthen_normal ?_
        refine AWP.region rfl ?_; intro K hK
        (try simp +decide -implicitDefEqProofs only [go_sem])
        refine hK _ _ ?_; clear hK K
        refine qthen_normal ?_
        obtain rfl := some_eq h
        refine ⟨(k0 + 1, (), ()), ⟨by dsimp only; omega, cont_next hJ0⟩, by dsimp only; omega, ?_, ?_⟩
        · (simp +decide -implicitDefEqProofs only [go_sem, mpE_nil, AVal.int.injEq, Int.natCast_zero, List.replicate_zero, List.length_take, List.length_drop, AVal.own.injEq, reduceCtorEq, Int.reduceAdd, hw0] <;> omega)
        · (simp +decide -implicitDefEqProofs only [go_sem, mpE_nil, AVal.int.injEq, Int.natCast_zero, List.replicate_zero, List.length_take, List.length_drop, AVal.own.injEq, reduceCtorEq, Int.reduceAdd, hw0] <;> omega)
      · obtain rfl := for_nil hJ0 (fun hl => by have := of_decide_eq_false hc; omega)
        have h := on_next hO0; try dsimp only at h
        have hkl : v.Runs.length = k0 := by have := of_decide_eq_false hc; omega
        subst hkl
        refine AWP.exit ?_
        refine qthen_exit ?_
        refine qthen_exit ?_
        refine qblock_same ?_
        refine qthen_normal ?_
        refine AWP.seq ?_
        refine AWP.region rfl ?_; intro K hK
        (try simp +decide -implicitDefEqProofs only [go_sem])
        refine hK _ _ ?_; clear hK K
        refine qthen_normal ?_
        refine AWP.ret ?_
        (try simp +decide -implicitDefEqProofs only [go_sem, Try.results49])
        refine hK _ _ ?_; clear hK K
        refine qthen_normal ?_
        refine AWP.ret ?_
        (try simp +decide -implicitDefEqProofs only [go_sem, Try.results41])
        refine hK _ _ ?_; clear hK K
        refine qthen_normal ?_
        refine AWP.ret ?_
        obtain rfl := some_eq h
        simp +decide -implicitDefEqProofs only [go_sem, mpE_nil, AVal.int.injEq, Int.natCast_zero, List.replicate_zero, List.length_take, List.length_drop, AVal.own.injEq, reduceCtorEq, Int.reduceAdd, nle2, nle1, nle0, nleA, nleL, Try.results30]
    · replace h := bif_t h hc
      (try simp +decide -implicitDefEqProofs only [go_sem, hc, Bool.not_false])
      refine hK _ _ ?_; clear hK K
      refine qthen_normal ?_
      refine AWP.ret ?_
      obtain rfl := some_eq h
      simp +decide -implicitDefEqProofs only [go_sem, mpE_nil, AVal.int.injEq, Int.natCast_zero, List.replicate_zero, List.length_take, List.length_drop, AVal.own.injEq, reduceCtorEq, Int.reduceAdd, nle2, nle1, nle0, nleA, nleL, Try.results30]
  · replace h := bif_t h hc
    (try simp +decide -implicitDefEqProofs only [go_sem, hc, Bool.not_false])
    refine hK _ _ ?_; clear hK K
    refine qthen_normal ?_
    refine AWP.cond (acond_true ?_)
    refine AWP.seq ?_
    refine AWP.region rfl ?_; intro K hK
    (try simp +decide -implicitDefEqProofs only [go_sem])
    refine hK _ _ ?_; clear hK K
    refine qthen_normal ?_
    refine AWP.ret ?_
    refine qthen_ret ?_
    obtain rfl := some_eq h
    simp +decide -implicitDefEqProofs only [go_sem, mpE_nil, AVal.int.injEq, Int.natCast_zero, List.replicate_zero, List.length_take, List.length_drop, AVal.own.injEq, reduceCtorEq, Int.reduceAdd, nle2, nle1, nle0, nleA, nleL, Try.results30]

def winch_Right_b2 (l : List ApiWinchLine) (k0 : Nat) (x_2 : ApiWinchLine) (k3 : Nat) (_x : Unit) (sv : Unit) : Option (Out (Unit) (Out (Unit) (Int))) :=
  (idxL (l.take k0) ((k3 : Nat) : Int)).bind fun x_5 => (winch_conflict x_5 x_2).bind fun y6 => (bif y6 then ((bif (decide ((0 : Int) ≤ ((k3 : Nat) : Int))) then some (Out.ret (15 : Int)) else some (Out.next ()))).bind fun q6 => some (Out.ret q6) else some (Out.next ()))

def winch_Right_b1 (l : List ApiWinchLine) (k0 : Nat) (x_2 : ApiWinchLine) (sv : Unit) : Option (Out (Unit) (Int)) :=
  (bif (decide (x_2.Groomer < (1 : Int))) then some (Out.ret (2 : Int)) else (bif (decide ((9999 : Int) < x_2.Groomer)) then some (Out.ret (2 : Int)) else (bif (decide (x_2.From < (0 : Int))) then some (Out.ret (2 : Int)) else (bif (decide (x_2.To ≤ x_2.From)) then some (Out.ret (2 : Int)) else (bif (decide ((20000000 : Int) < x_2.To)) then some (Out.ret (2 : Int)) else (winch_rising x_2.Runs).bind fun y3 => (bif (!y3) then some (Out.ret (1 : Int)) else okB (decide ((0 : Int) ≤ ((k0 : Nat) : Int) ∧ ((k0 : Nat) : Int) ≤ ((l.length : Nat) : Int))) ((forN (winch_Right_b2 l k0 x_2) k0 ()).bind fun o3 => o3.on fun s3 => some (Out.next ()))))))))

def winch_Right (l : List ApiWinchLine) : Option (Int) :=
  (bif (decide ((16 : Int) < ((l.length : Nat) : Int))) then some (4 : Int) else (forIx (winch_Right_b1 l) 0 l ()).bind fun o0 => o0.on fun s0 => some (0 : Int))

theorem winch_Right_spec (l : List ApiWinchLine) {r : Int} (h : winch_Right l = some r) : PureFn Try.prog 12 [.sl 4 (l.map encApiWinchLine)] (· = .int .i64 r) := by
  refine PureFn.nle (PureFn.intro Try.func12 rfl rfl (by show _ ≤ 50; simp) ?_)
  unfold winch_Right at h
  (try simp +decide -implicitDefEqProofs only [go_sem])
  refine AWP.seq ?_
  refine AWP.region rfl ?_; intro K hK
  (try simp +decide -implicitDefEqProofs only [go_sem])
  refine hK _ _ ?_; clear hK K
  refine qthen_normal ?_
  refine AWP.seq ?_
  refine AWP.seq ?_
  refine AWP.region rfl ?_; intro K hK
  (try simp +decide -implicitDefEqProofs only [go_sem])
  intro hm
  refine hK _ _ ?_; clear hK K
  refine qthen_normal ?_
  refine AWP.cond (acond_split (fun hc => ?_) (fun hc => ?_))
  · replace h := bif_t h hc
    refine AWP.seq ?_
    refine AWP.region rfl ?_; intro K hK
    (try simp +decide -implicitDefEqProofs only [go_sem])
    refine hK _ _ ?_; clear hK K
    refine qthen_normal ?_
    refine AWP.ret ?_
    refine qthen_ret ?_
    obtain rfl := some_eq h
    simp +decide -implicitDefEqProofs only [go_sem, mpE_nil, AVal.int.injEq, Int.natCast_zero, List.replicate_zero, List.length_take, List.length_drop, AVal.own.injEq, reduceCtorEq, Int.reduceAdd, nle2, nle1, nle0, nleA, nleL, Try.results12]
  replace h := bif_f h hc
  refine AWP.skip ?_
  refine qthen_normal ?_
  refine AWP.seq ?_
  refine AWP.seq ?_
  refine AWP.region rfl ?_; intro K hK
  (try simp +decide -implicitDefEqProofs only [go_sem])
  intro hm
  refine hK _ _ ?_; clear hK K
  refine qthen_normal ?_
  refine AWP.block ?_
  obtain ⟨o0, hJ0, hO0⟩ := bindE h
  clear h
  refine AWP.loopW (ι := Nat × (Unit) × (Unit)) (fun zz => [(0, .sl 4 (l.map encApiWinchLine)), (8, .sl 4 (l.map encApiWinchLine)), (9, .int .i64 ((l.length : Nat) : Int)), (10, .int .i64 ((zz.1 : Nat) : Int))]) (fun zz => []) (fun zz => zz.1 ≤ l.length ∧ forIx (winch_Right_b1 l) zz.1 ((l).drop zz.1) zz.2.1 = some o0) (fun zz => l.length - zz.1) (0, (), ()) ⟨Nat.zero_le _, hJ0⟩ (by (simp +decide -implicitDefEqProofs only [go_sem, mpE_nil, AVal.int.injEq, Int.natCast_zero, List.replicate_zero, List.length_take, List.length_drop, AVal.own.injEq, reduceCtorEq, Int.reduceAdd] <;> omega)) (by (simp +decide -implicitDefEqProofs only [go_sem, mpE_nil, AVal.int.injEq, Int.natCast_zero, List.replicate_zero, List.length_take, List.length_drop, AVal.own.injEq, reduceCtorEq, Int.reduceAdd] <;> omega)) (fun x => ⟨rfl, rfl, rfl⟩) ?_
  clear hJ0
  rintro ⟨k0, ⟨⟩, ⟨⟩⟩ ⟨hk0, hJ0⟩
  dsimp only at hk0 hJ0 ⊢
  refine AWP.seq ?_
  refine AWP.region rfl ?_; intro K hK
  (try simp +decide -implicitDefEqProofs only [go_sem])
  refine hK _ _ ?_; clear hK K
  refine qthen_normal ?_
  refine AWP.seq ?_
  refine AWP.cond (acond_split (fun hc => ?_) (fun hc => ?_))
  · have hlt0 : k0 < l.length := by have := of_decide_eq_true hc; omega
    obtain ⟨x_2, b0, hx0_, h, hJ0⟩ := for_cons hJ0 hlt0
    have hx0 := idxL_nat hx0_
    have hw0 : IntKind.i64.wrap (((k0 : Nat) : Int) + 1) = (((k0 : Nat) : Int) + (1 : Int)) := by rw [wrap_i64] <;> omega
    unfold winch_Right_b1 at h; try dsimp only at h
    refine AWP.skip ?_
    refine qthen_normal ?_
    refine AWP.seq ?_
    refine AWP.block ?_
    refine AWP.seq ?_
    refine AWP.region rfl ?_; intro K hK
    (try simp +decide -implicitDefEqProofs only [go_sem])
    refine AIdx.of (f := encApiWinchLine) (l := l) hx0 ?_
    (try simp +decide -implicitDefEqProofs only [go_sem])
    refine hK _ _ ?_; clear hK K
    refine qthen_normal ?_
    refine AWP.seq ?_
    refine AWP.seq ?_
    refine AWP.region rfl ?_; intro K hK
    (try simp +decide -implicitDefEqProofs only [go_sem])
    refine aguardK_split (fun hc => ?_) (fun hc => ?_)
    · replace h := bif_f h hc
      (try simp +decide -implicitDefEqProofs only [go_sem, hc])
      refine aguardK_split (fun hc => ?_) (fun hc => ?_)
      · replace h := bif_f h hc
        (try simp +decide -implicitDefEqProofs only [go_sem, hc])
        refine aguardK_split (fun hc => ?_) (fun hc => ?_)
        · replace h := bif_f h hc
          (try simp +decide -implicitDefEqProofs only [go_sem, hc])
          refine aguardK_split (fun hc => ?_) (fun hc => ?_)
          · replace h := bif_f h hc
            (try simp +decide -implicitDefEqProofs only [go_sem, hc])
            refine hK _ _ ?_; clear hK K
            refine qthen_normal ?_
            refine AWP.cond (acond_split (fun hc => ?_) (fun hc => ?_))
            · replace h := bif_t h hc
              refine AWP.seq ?_
              refine AWP.region rfl ?_; intro K hK
              (try simp +decide -implicitDefEqProofs only [go_sem])
              refine hK _ _ ?_; clear hK K
              refine qthen_normal ?_
              refine AWP.ret ?_
              refine qthen_ret ?_
              refine qblock_ret ?_
              refine qthen_ret ?_
              refine qthen_ret ?_
              obtain rfl := some_eq h
              obtain rfl := cont_ret hJ0
              replace h := on_ret hO0
              refine qblock_ret ?_
              refine qthen_ret ?_
              obtain rfl := some_eq h
              simp +decide -implicitDefEqProofs only [go_sem, mpE_nil, AVal.int.injEq, Int.natCast_zero, List.replicate_zero, List.length_take, List.length_drop, AVal.own.injEq, reduceCtorEq, Int.reduceAdd, nle2, nle1, nle0, nleA, nleL, Try.results12]
            replace h := bif_f h hc
            refine AWP.skip ?_
            refine qthen_normal ?_
            refine AWP.seq ?_
            refine AWP.seq ?_
            refine AWP.region rfl ?_; intro K hK
            (try simp +decide -implicitDefEqProofs only [go_sem])
            obtain ⟨y3, hy3, h⟩ := bindE h
            refine ACall.pure Try.call27 (winch_rising_spec x_2.Runs hy3) rfl fun _ hr => ?_
            subst hr
            (try simp +decide -implicitDefEqProofs only [go_sem])
            refine hK _ _ ?_; clear hK K
            refine qthen_normal ?_
            refine AWP.cond (acond_split (fun hc => ?_) (fun hc => ?_))
            · replace h := bif_t h hc
              refine AWP.seq ?_
              refine AWP.region rfl ?_; intro K hK
              (try simp +decide -implicitDefEqProofs only [go_sem])
              refine hK _ _ ?_; clear hK K
              refine qthen_normal ?_
              refine AWP.ret ?_
              refine qthen_ret ?_
              refine qblock_ret ?_
              refine qthen_ret ?_
              refine qthen_ret ?_
              obtain rfl := some_eq h
              obtain rfl := cont_ret hJ0
              replace h := on_ret hO0
              refine qblock_ret ?_
              refine qthen_ret ?_
              obtain rfl := some_eq h
              simp +decide -implicitDefEqProofs only [go_sem, mpE_nil, AVal.int.injEq, Int.natCast_zero, List.replicate_zero, List.length_take, List.length_drop, AVal.own.injEq, reduceCtorEq, Int.reduceAdd, nle2, nle1, nle0, nleA, nleL, Try.results12]
            replace h := bif_f h hc
            refine AWP.skip ?_
            refine qthen_normal ?_
            refine AWP.seq ?_
            refine AWP.region rfl ?_; intro K hK
            (try simp +decide -implicitDefEqProofs only [go_sem])
            obtain ⟨hk, h⟩ := okB_in h
            intro hm
            (repeat (refine ⟨by omega, ?_⟩))
            refine ACall.inline Try.call28 Try.func28 rfl rfl (by show _ ≤ 9; simp) ?_
            (try simp +decide -implicitDefEqProofs only [go_sem])
            refine AWP.seq ?_
            refine AWP.region rfl ?_; intro K hK
            (try simp +decide -implicitDefEqProofs only [go_sem])
            refine hK _ _ ?_; clear hK K
            refine qthen_normal ?_
            refine AWP.seq ?_
            refine AWP.region rfl ?_; intro K hK
            (try simp +decide -implicitDefEqProofs only [go_sem])
            refine ACall.inline Try.call40 Try.func40 rfl rfl (by show _ ≤ 19; simp) ?_
            (try simp +decide -implicitDefEqProofs only [go_sem])
            refine AWP.seq ?_
            refine AWP.region rfl ?_; intro K hK
            (try simp +decide -implicitDefEqProofs only [go_sem])
            refine hK _ _ ?_; clear hK K
            refine qthen_normal ?_
            refine AWP.seq ?_
            refine AWP.seq ?_
            refine AWP.region rfl ?_; intro K hK
            (try simp +decide -implicitDefEqProofs only [go_sem])
            intro hm
            refine hK _ _ ?_; clear hK K
            refine qthen_normal ?_
            refine AWP.block ?_
            obtain ⟨o3, hJ3, hO3⟩ := bindE h
            clear h
            obtain ⟨hn3, hJ3⟩ := forN_in hJ3
            refine AWP.loopW (ι := Nat × (Unit) × (Unit)) (fun zz => [(0, .sl 4 ((l.take k0).map encApiWinchLine)), (1, .func 29 [.ptr 0 0]), (7, .int .i64 ((k0 : Nat) : Int)), (8, .int .i64 ((zz.1 : Nat) : Int))]) (fun zz => [.box [.int .i64 x_2.Groomer, .int .i64 x_2.From, .int .i64 x_2.To, .sl 1 (x_2.Runs.map intC)]]) (fun zz => zz.1 ≤ k0 ∧ forIx (winch_Right_b2 l k0 x_2) zz.1 ((List.replicate k0 ()).drop zz.1) zz.2.1 = some o3) (fun zz => k0 - zz.1) (0, (), ()) ⟨Nat.zero_le _, hJ3⟩ (by (simp +decide -implicitDefEqProofs only [go_sem, mpE_nil, AVal.int.injEq, Int.natCast_zero, List.replicate_zero, List.length_take, List.length_drop, AVal.own.injEq, reduceCtorEq, Int.reduceAdd] <;> omega)) (by (simp +decide -implicitDefEqProofs only [go_sem, mpE_nil, AVal.int.injEq, Int.natCast_zero, List.replicate_zero, List.length_take, List.length_drop, AVal.own.injEq, reduceCtorEq, Int.reduceAdd] <;> omega)) (fun x => ⟨rfl, rfl, rfl⟩) ?_
            clear hJ3
            rintro ⟨k3, ⟨⟩, ⟨⟩⟩ ⟨hk3, hJ3⟩
            dsimp only at hk3 hJ3 ⊢
            refine AWP.seq ?_
            refine AWP.region rfl ?_; intro K hK
            (try simp +decide -implicitDefEqProofs only [go_sem])
            refine hK _ _ ?_; clear hK K
            refine qthen_normal ?_
            refine AWP.seq ?_
            refine AWP.cond (acond_split (fun hc => ?_) (fun hc => ?_))
            · have hlt3 : k3 < k0 := by have := of_decide_eq_true hc; omega
              obtain ⟨_, b3, _, h, hJ3⟩ := for_cons hJ3 (by rw [List.length_replicate]; exact hlt3)
              have hw3 : IntKind.i64.wrap (((k3 : Nat) : Int) + 1) = (((k3 : Nat) : Int) + (1 : Int)) := by rw [wrap_i64] <;> omega
              unfold winch_Right_b2 at h; try dsimp only at h
              refine AWP.skip ?_
              refine qthen_normal ?_
              refine AWP.seq ?_
              refine AWP.block ?_
              refine AWP.seq ?_
              refine AWP.region rfl ?_; intro K hK
              (try simp +decide -implicitDefEqProofs only [go_sem])
              refine hK _ _ ?_; clear hK K
              refine qthen_normal ?_
              refine AWP.seq ?_
              refine AWP.region rfl ?_; intro K hK
              (try simp +decide -implicitDefEqProofs only [go_sem])
              obtain ⟨x_5, hx_5, h⟩ := bindE h
              refine AIdx.of (f := encApiWinchLine) (l := (l.take k0)) hx_5 ?_
              (try simp +decide -implicitDefEqProofs only [go_sem])
              refine ACall.inline Try.call29 Try.func29 rfl rfl (by show _ ≤ 7; simp) ?_
              (try simp +decide -implicitDefEqProofs only [go_sem])
              refine AWP.seq ?_
              refine AWP.region rfl ?_; intro K hK
              (try simp +decide -implicitDefEqProofs only [go_sem])
              refine hK _ _ ?_; clear hK K
              refine qthen_normal ?_
              refine AWP.seq ?_
              refine AWP.region rfl ?_; intro K hK
              (try simp +decide -implicitDefEqProofs only [go_sem])
              obtain ⟨y6, hy6, h⟩ := bindE h
              refine ACall.pure Try.call30 (winch_conflict_spec x_5 x_2 hy6) rfl fun _ hr => ?_
              subst hr
              (try simp +decide -implicitDefEqProofs only [go_sem])
              refine hK _ _ ?_; clear hK K
              refine qthen_normal ?_
              refine AWP.ret ?_
              (try simp +decide -implicitDefEqProofs only [go_sem, Try.results29])
              refine hK _ _ ?_; clear hK K
              refine qthen_normal ?_
              refine AWP.cond (acond_split (fun hc => ?_) (fun hc => ?_))
              · replace h := bif_t h hc
                refine AWP.seq ?_
                refine AWP.region rfl ?_; intro K hK
                (try simp +decide -implicitDefEqProofs only [go_sem])
                refine hK _ _ ?_; clear hK K
                refine qthen_normal ?_
                refine AWP.ret ?_
                refine qblock_ret ?_
                refine qthen_ret ?_
                refine qthen_ret ?_
                obtain ⟨q6, hq, h⟩ := bindE h
                obtain rfl := some_eq h
                obtain rfl := cont_ret hJ3
                replace h := hq.trans (on_ret hO3)
                refine qblock_ret ?_
                refine qthen_ret ?_
                (try simp +decide -implicitDefEqProofs only [go_sem, Try.results40])
                refine hK _ _ ?_; clear hK K
                refine qthen_normal ?_
                refine AWP.ret ?_
                (try simp +decide -implicitDefEqProofs only [go_sem, Try.results28])
                refine hK _ _ ?_; clear hK K
                refine qthen_normal ?_
                refine AWP.cond (acond_split (fun hc => ?_) (fun hc => ?_))
                · replace h := bif_t h hc
                  refine AWP.seq ?_
                  refine AWP.region rfl ?_; intro K hK
                  (try simp +decide -implicitDefEqProofs only [go_sem])
                  refine hK _ _ ?_; clear hK K
                  refine qthen_normal ?_
                  refine AWP.ret ?_
                  refine qblock_ret ?_
                  refine qthen_ret ?_
                  refine qthen_ret ?_
                  obtain rfl := some_eq h
                  obtain rfl := cont_ret hJ0
                  replace h := on_ret hO0
                  refine qblock_ret ?_
                  refine qthen_ret ?_
                  obtain rfl := some_eq h
                  simp +decide -implicitDefEqProofs only [go_sem, mpE_nil, AVal.int.injEq, Int.natCast_zero, List.replicate_zero, List.length_take, List.length_drop, AVal.own.injEq, reduceCtorEq, Int.reduceAdd, nle2, nle1, nle0, nleA, nleL, Try.results12]
                replace h := bif_f h hc
                refine AWP.skip ?_
                refine qblock_normal ?_
                refine qthen_normal ?_
                refine AWP.region rfl ?_; intro K hK
                (try simp +decide -implicitDefEqProofs only [go_sem])
                refine hK _ _ ?_; clear hK K
                refine qthen_normal ?_
                obtain rfl := some_eq h
                refine ⟨(k0 + 1, (), ()), ⟨by dsimp only; omega, cont_next hJ0⟩, by dsimp only; omega, ?_, ?_⟩
                · (simp +decide -implicitDefEqProofs only [go_sem, mpE_nil, AVal.int.injEq, Int.natCast_zero, List.replicate_zero, List.length_take, List.length_drop, AVal.own.injEq, reduceCtorEq, Int.reduceAdd, hw0] <;> omega)
                · (simp +decide -implicitDefEqProofs only [go_sem, mpE_nil, AVal.int.injEq, Int.natCast_zero, List.replicate_zero, List.length_take, List.length_drop, AVal.own.injEq, reduceCtorEq, Int.reduceAdd, hw0] <;> omega)
              replace h := bif_f h hc
              refine AWP.skip ?_
              refine qblock_normal ?_
              refine qthen_normal ?_
              refine AWP.region rfl ?_; intro K hK
              (try simp +decide -implicitDefEqProofs only [go_sem])
              refine hK _ _ ?_; clear hK K
              refine qthen_normal ?_
              obtain rfl := some_eq h
              refine ⟨(k3 + 1, (), ()), ⟨by dsimp only; omega, cont_next hJ3⟩, by dsimp only; omega, ?_, ?_⟩
              · (simp +decide -implicitDefEqProofs only [go_sem, mpE_nil, AVal.int.injEq, Int.natCast_zero, List.replicate_zero, List.length_take, List.length_drop, AVal.own.injEq, reduceCtorEq, Int.reduceAdd, hw3] <;> omega)
              · (simp +decide -implicitDefEqProofs only [go_sem, mpE_nil, AVal.int.injEq, Int.natCast_zero, List.replicate_zero, List.length_take, List.length_drop, AVal.own.injEq, reduceCtorEq, Int.reduceAdd, hw3] <;> omega)
            · obtain rfl := for_nil hJ3 (fun hl => by rw [List.length_replicate] at hl; have := of_decide_eq_false hc; omega)
              have h := on_next hO3; try dsimp only at h
              have hkl : k0 = k3 := by have := of_decide_eq_false hc; omega
              subst hkl
              refine AWP.exit ?_
              refine qthen_exit ?_
              refine qthen_exit ?_
              refine qblock_same ?_
              refine qthen_normal ?_
              refine AWP.seq ?_
              refine AWP.region rfl ?_; intro K hK
              (try simp +decide -implicitDefEqProofs only [go_sem])
              refine hK _ _ ?_; clear hK K
              refine qthen_normal ?_
              refine AWP.ret ?_
              (try simp +decide -implicitDefEqProofs only [go_sem, Try.results40])
              refine hK _ _ ?_; clear hK K
              refine qthen_normal ?_
              refine AWP.ret ?_
              (try simp +decide -implicitDefEqProofs only [go_sem, Try.results28])
              refine hK _ _ ?_; clear hK K
              refine qthen_normal ?_
              refine AWP.cond (acond_false ?_)
              refine AWP.skip ?_
              refine qblock_normal ?_
              refine qthen_normal ?_
              refine AWP.region rfl ?_; intro K hK
              (try simp +decide -implicitDefEqProofs only [go_sem])
              refine hK _ _ ?_; clear hK K
              refine qthen_normal ?_
              obtain rfl := some_eq h
              refine ⟨(k0 + 1, (), ()), ⟨by dsimp only; omega, cont_next hJ0⟩, by dsimp only; omega, ?_, ?_⟩
              · (simp +decide -implicitDefEqProofs only [go_sem, mpE_nil, AVal.int.injEq, Int.natCast_zero, List.replicate_zero, List.length_take, List.length_drop, AVal.own.injEq, reduceCtorEq, Int.reduceAdd, hw0] <;> omega)
              · (simp +decide -implicitDefEqProofs only [go_sem, mpE_nil, AVal.int.injEq, Int.natCast_zero, List.replicate_zero, List.length_take, List.length_drop, AVal.own.injEq, reduceCtorEq, Int.reduceAdd, hw0] <;> omega)
          · replace h := bif_t h hc
            (try simp +decide -implicitDefEqProofs only [go_sem, hc, Bool.not_false])
            refine hK _ _ ?_; clear hK K
            refine qthen_normal ?_
            refine AWP.cond (acond_true ?_)
            refine AWP.seq ?_
            refine AWP.region rfl ?_; intro K hK
            (try simp +decide -implicitDefEqProofs only [go_sem])
            refine hK _ _ ?_; clear hK K
            refine qthen_normal ?_
            refine AWP.ret ?_
            refine qthen_ret ?_
            refine qblock_ret ?_
            refine qthen_ret ?_
            refine qthen_ret ?_
            obtain rfl := some_eq h
            obtain rfl := cont_ret hJ0
            replace h := on_ret hO0
            refine qblock_ret ?_
            refine qthen_ret ?_
            obtain rfl := some_eq h
            simp +decide -implicitDefEqProofs only [go_sem, mpE_nil, AVal.int.injEq, Int.natCast_zero, List.replicate_zero, List.length_take, List.length_drop, AVal.own.injEq, reduceCtorEq, Int.reduceAdd, nle2, nle1, nle0, nleA, nleL, Try.results12]
        · replace h := bif_t h hc
          (try simp +decide -implicitDefEqProofs only [go_sem, hc, Bool.not_false])
          refine hK _ _ ?_; clear hK K
          refine qthen_normal ?_
          refine AWP.cond (acond_true ?_)
          refine AWP.seq ?_
          refine AWP.region rfl ?_; intro K hK
          (try simp +decide -implicitDefEqProofs only [go_sem])
          refine hK _ _ ?_; clear hK K
          refine qthen_normal ?_
          refine AWP.ret ?_
          refine qthen_ret ?_
          refine qblock_ret ?_
          refine qthen_ret ?_
          refine qthen_ret ?_
          obtain rfl := some_eq h
          obtain rfl := cont_ret hJ0
          replace h := on_ret hO0
          refine qblock_ret ?_
          refine qthen_ret ?_
          obtain rfl := some_eq h
          simp +decide -implicitDefEqProofs only [go_sem, mpE_nil, AVal.int.injEq, Int.natCast_zero, List.replicate_zero, List.length_take, List.length_drop, AVal.own.injEq, reduceCtorEq, Int.reduceAdd, nle2, nle1, nle0, nleA, nleL, Try.results12]
      · replace h := bif_t h hc
        (try simp +decide -implicitDefEqProofs only [go_sem, hc, Bool.not_false])
        refine hK _ _ ?_; clear hK K
        refine qthen_normal ?_
        refine AWP.cond (acond_true ?_)
        refine AWP.seq ?_
        refine AWP.region rfl ?_; intro K hK
        (try simp +decide -implicitDefEqProofs only [go_sem])
        refine hK _ _ ?_; clear hK K
        refine qthen_normal ?_
        refine AWP.ret ?_
        refine qthen_ret ?_
        refine qblock_ret ?_
        refine qthen_ret ?_
        refine qthen_ret ?_
        obtain rfl := some_eq h
        obtain rfl := cont_ret hJ0
        replace h := on_ret hO0
        refine qblock_ret ?_
        refine qthen_ret ?_
        obtain rfl := some_eq h
        simp +decide -implicitDefEqProofs only [go_sem, mpE_nil, AVal.int.injEq, Int.natCast_zero, List.replicate_zero, List.length_take, List.length_drop, AVal.own.injEq, reduceCtorEq, Int.reduceAdd, nle2, nle1, nle0, nleA, nleL, Try.results12]
    · replace h := bif_t h hc
      (try simp +decide -implicitDefEqProofs only [go_sem, hc, Bool.not_false])
      refine hK _ _ ?_; clear hK K
      refine qthen_normal ?_
      refine AWP.cond (acond_true ?_)
      refine AWP.seq ?_
      refine AWP.region rfl ?_; intro K hK
      (try simp +decide -implicitDefEqProofs only [go_sem])
      refine hK _ _ ?_; clear hK K
      refine qthen_normal ?_
      refine AWP.ret ?_
      refine qthen_ret ?_
      refine qblock_ret ?_
      refine qthen_ret ?_
      refine qthen_ret ?_
      obtain rfl := some_eq h
      obtain rfl := cont_ret hJ0
      replace h := on_ret hO0
      refine qblock_ret ?_
      refine qthen_ret ?_
      obtain rfl := some_eq h
      simp +decide -implicitDefEqProofs only [go_sem, mpE_nil, AVal.int.injEq, Int.natCast_zero, List.replicate_zero, List.length_take, List.length_drop, AVal.own.injEq, reduceCtorEq, Int.reduceAdd, nle2, nle1, nle0, nleA, nleL, Try.results12]
  · obtain rfl := for_nil hJ0 (fun hl => by have := of_decide_eq_false hc; omega)
    have h := on_next hO0; try dsimp only at h
    have hkl : l.length = k0 := by have := of_decide_eq_false hc; omega
    subst hkl
    refine AWP.exit ?_
    refine qthen_exit ?_
    refine qthen_exit ?_
    refine qblock_same ?_
    refine qthen_normal ?_
    refine AWP.seq ?_
    refine AWP.region rfl ?_; intro K hK
    (try simp +decide -implicitDefEqProofs only [go_sem])
    refine hK _ _ ?_; clear hK K
    refine qthen_normal ?_
    refine AWP.ret ?_
    obtain rfl := some_eq h
    simp +decide -implicitDefEqProofs only [go_sem, mpE_nil, AVal.int.injEq, Int.natCast_zero, List.replicate_zero, List.length_take, List.length_drop, AVal.own.injEq, reduceCtorEq, Int.reduceAdd, nle2, nle1, nle0, nleA, nleL, Try.results12]

def winch_Lay_b1 (k2 : Nat) (x_4 : ApiWinchLine) (sv : (List ApiWinchLine)) : Option (Out ((List ApiWinchLine)) ((List ApiWinchLine) × Int)) :=
  (winch_copyOf x_4).bind fun y5 => chk (sv.length + 1) (some (Out.next (sv ++ [y5])))

def winch_Lay (l : List ApiWinchLine) (w : ApiWinchLine) : Option ((List ApiWinchLine) × Int) :=
  chkI (IntKind.i64.wrap (((l.length : Nat) : Int) + (1 : Int))) ((forIx winch_Lay_b1 0 l []).bind fun o2 => o2.on fun s2 => (winch_copyOf w).bind fun y6 => chk (s2.length + 1) ((winch_Right (s2 ++ [y6])).bind fun y7 => (bif (decide (y7 ≠ (0 : Int))) then some ([], y7) else some ((s2 ++ [y6]), (0 : Int)))))

theorem winch_Lay_spec (l : List ApiWinchLine) (w : ApiWinchLine) {r : (List ApiWinchLine) × Int} (h : winch_Lay l w = some r) : PureFn Try.prog 15 [.sl 4 (l.map encApiWinchLine), .agg (encApiWinchLine w)] (· = .tuple [.sl 4 (r.1.map encApiWinchLine), .int .i64 r.2]) := by
  refine PureFn.nle (PureFn.intro Try.func15 rfl rfl (by show _ ≤ 37; simp) ?_)
  unfold winch_Lay at h
  (try simp +decide -implicitDefEqProofs only [go_sem, encApiWinchLine_rep])
  refine AWP.seq ?_
  refine AWP.region rfl ?_; intro K hK
  (try simp +decide -implicitDefEqProofs only [go_sem, encApiWinchLine_rep])
  refine hK _ _ ?_; clear hK K
  refine qthen_normal ?_
  refine AWP.seq ?_
  refine AWP.region rfl ?_; intro K hK
  (try simp +decide -implicitDefEqProofs only [go_sem, encApiWinchLine_rep])
  intro hm
  obtain ⟨hk, hk2, h⟩ := chkI_in h
  (repeat (refine ⟨by first | omega | (simp only [List.length_take, List.length_drop, List.length_append]; omega), ?_⟩)); try simp +decide -implicitDefEqProofs only [go_sem]
  refine hK _ _ ?_; clear hK K
  refine qthen_normal ?_
  refine AWP.seq ?_
  refine AWP.seq ?_
  refine AWP.region rfl ?_; intro K hK
  (try simp +decide -implicitDefEqProofs only [go_sem, encApiWinchLine_rep])
  intro hm
  refine hK _ _ ?_; clear hK K
  refine qthen_normal ?_
  refine AWP.block ?_
  obtain ⟨o2, hJ2, hO2⟩ := bindE h
  clear h
  refine AWP.loopW (ι := Nat × ((List ApiWinchLine)) × (Nat)) (fun zz => [(3, .ptr 0 0), (6, .own 1 zz.2.2 0 zz.2.1.length), (14, .sl 4 (l.map encApiWinchLine)), (15, .int .i64 ((l.length : Nat) : Int)), (16, .int .i64 ((zz.1 : Nat) : Int))]) (fun zz => [.box [.int .i64 w.Groomer, .int .i64 w.From, .int .i64 w.To, .sl 1 (w.Runs.map intC)], .row zz.2.2 4 (zz.2.1.map encApiWinchLine)]) (fun zz => zz.1 ≤ l.length ∧ forIx winch_Lay_b1 zz.1 ((l).drop zz.1) zz.2.1 = some o2) (fun zz => l.length - zz.1) (0, [], 0) ⟨Nat.zero_le _, hJ2⟩ (by (simp +decide -implicitDefEqProofs only [go_sem, mpE_nil, AVal.int.injEq, Int.natCast_zero, List.replicate_zero, List.length_take, List.length_drop, AVal.own.injEq, reduceCtorEq, Int.reduceAdd, encApiWinchLine_rep] <;> omega)) (by (simp +decide -implicitDefEqProofs only [go_sem, mpE_nil, AVal.int.injEq, Int.natCast_zero, List.replicate_zero, List.length_take, List.length_drop, AVal.own.injEq, reduceCtorEq, Int.reduceAdd, encApiWinchLine_rep] <;> omega)) (fun x => ⟨rfl, rfl, rfl⟩) ?_
  clear hJ2
  rintro ⟨k2, out1, ver2⟩ ⟨hk2, hJ2⟩
  dsimp only at hk2 hJ2 ⊢
  refine AWP.seq ?_
  refine AWP.region rfl ?_; intro K hK
  (try simp +decide -implicitDefEqProofs only [go_sem, encApiWinchLine_rep])
  refine hK _ _ ?_; clear hK K
  refine qthen_normal ?_
  refine AWP.seq ?_
  refine AWP.cond (acond_split (fun hc => ?_) (fun hc => ?_))
  · have hlt2 : k2 < l.length := by have := of_decide_eq_true hc; omega
    obtain ⟨x_4, b2, hx2_, h, hJ2⟩ := for_cons hJ2 hlt2
    have hx2 := idxL_nat hx2_
    have hw2 : IntKind.i64.wrap (((k2 : Nat) : Int) + 1) = (((k2 : Nat) : Int) + (1 : Int)) := by rw [wrap_i64] <;> omega
    unfold winch_Lay_b1 at h; try dsimp only at h
    refine AWP.skip ?_
    refine qthen_normal ?_
    refine AWP.seq ?_
    refine AWP.block ?_
    refine AWP.seq ?_
    refine AWP.region rfl ?_; intro K hK
    (try simp +decide -implicitDefEqProofs only [go_sem, encApiWinchLine_rep])
    refine AIdx.of (f := encApiWinchLine) (l := l) hx2 ?_
    (try simp +decide -implicitDefEqProofs only [go_sem, encApiWinchLine_rep])
    refine hK _ _ ?_; clear hK K
    refine qthen_normal ?_
    refine AWP.region rfl ?_; intro K hK
    (try simp +decide -implicitDefEqProofs only [go_sem, encApiWinchLine_rep])
    obtain ⟨y5, hy5, h⟩ := bindE h
    refine ACall.pure Try.call33 (winch_copyOf_spec x_4 hy5) rfl fun _ hr => ?_
    subst hr
    (try simp +decide -implicitDefEqProofs only [go_sem, encApiWinchLine_rep])
    obtain ⟨hk, h⟩ := chk_in h
    (repeat (refine ⟨by first | omega | (simp only [List.length_take, List.length_drop, List.length_append]; omega), ?_⟩)); try simp +decide -implicitDefEqProofs only [go_sem]
    refine hK _ _ ?_; clear hK K
    refine qblock_normal ?_
    refine qthen_normal ?_
    refine AWP.region rfl ?_; intro K hK
    (try simp +decide -implicitDefEqProofs only [go_sem, encApiWinchLine_rep])
    refine hK _ _ ?_; clear hK K
    refine qthen_normal ?_
    obtain rfl := some_eq h
    refine ⟨(k2 + 1, (out1 ++ [y5]), (ver2 + 1)), ⟨by dsimp only; omega, cont_next hJ2⟩, by dsimp only; omega, ?_, ?_⟩
    · (simp +decide -implicitDefEqProofs only [go_sem, mpE_nil, AVal.int.injEq, Int.natCast_zero, List.replicate_zero, List.length_take, List.length_drop, AVal.own.injEq, reduceCtorEq, Int.reduceAdd, hw2, encApiWinchLine_rep] <;> omega)
    · (simp +decide -implicitDefEqProofs only [go_sem, mpE_nil, AVal.int.injEq, Int.natCast_zero, List.replicate_zero, List.length_take, List.length_drop, AVal.own.injEq, reduceCtorEq, Int.reduceAdd, hw2, encApiWinchLine_rep] <;> omega)
  · obtain rfl := for_nil hJ2 (fun hl => by have := of_decide_eq_false hc; omega)
    have h := on_next hO2; try dsimp only at h
    have hkl : l.length = k2 := by have := of_decide_eq_false hc; omega
    subst hkl
    refine AWP.exit ?_
    refine qthen_exit ?_
    refine qthen_exit ?_
    refine qblock_same ?_
    refine qthen_normal ?_
    refine AWP.seq ?_
    refine AWP.region rfl ?_; intro K hK
    (try simp +decide -implicitDefEqProofs only [go_sem, encApiWinchLine_rep])
    obtain ⟨y6, hy6, h⟩ := bindE h
    refine ACall.pure Try.call33 (winch_copyOf_spec w hy6) rfl fun _ hr => ?_
    subst hr
    (try simp +decide -implicitDefEqProofs only [go_sem, encApiWinchLine_rep])
    obtain ⟨hk, h⟩ := chk_in h
    (repeat (refine ⟨by first | omega | (simp only [List.length_take, List.length_drop, List.length_append]; omega), ?_⟩)); try simp +decide -implicitDefEqProofs only [go_sem]
    refine hK _ _ ?_; clear hK K
    refine qthen_normal ?_
    refine AWP.seq ?_
    refine AWP.seq ?_
    refine AWP.region rfl ?_; intro K hK
    (try simp +decide -implicitDefEqProofs only [go_sem, encApiWinchLine_rep])
    obtain ⟨y7, hy7, h⟩ := bindE h
    refine ACall.snap Try.call12 (winch_Right_spec (out1 ++ [y6]) hy7) (by simp +decide -implicitDefEqProofs only [go_sem]) (by rintro _ rfl; rfl) fun _ hr => ?_
    subst hr
    (try simp +decide -implicitDefEqProofs only [go_sem, encApiWinchLine_rep])
    refine hK _ _ ?_; clear hK K
    refine qthen_normal ?_
    refine AWP.seq ?_
    refine AWP.region rfl ?_; intro K hK
    (try simp +decide -implicitDefEqProofs only [go_sem, encApiWinchLine_rep])
    refine hK _ _ ?_; clear hK K
    refine qthen_normal ?_
    refine AWP.cond (acond_split (fun hc => ?_) (fun hc => ?_))
    · replace h := bif_t h hc
      refine AWP.seq ?_
      refine AWP.region rfl ?_; intro K hK
      (try simp +decide -implicitDefEqProofs only [go_sem, encApiWinchLine_rep])
      refine hK _ _ ?_; clear hK K
      refine qthen_normal ?_
      refine AWP.ret ?_
      refine qthen_ret ?_
      obtain rfl := some_eq h
      simp +decide -implicitDefEqProofs only [go_sem, mpE_nil, AVal.int.injEq, Int.natCast_zero, List.replicate_zero, List.length_take, List.length_drop, AVal.own.injEq, reduceCtorEq, Int.reduceAdd, nle2, nle1, nle0, nleA, nleL, Try.results15, encApiWinchLine_rep]
    replace h := bif_f h hc
    refine AWP.skip ?_
    refine qthen_normal ?_
    refine AWP.seq ?_
    refine AWP.region rfl ?_; intro K hK
    (try simp +decide -implicitDefEqProofs only [go_sem, encApiWinchLine_rep])
    refine hK _ _ ?_; clear hK K
    refine qthen_normal ?_
    refine AWP.ret ?_
    obtain rfl := some_eq h
    simp +decide -implicitDefEqProofs only [go_sem, mpE_nil, AVal.int.injEq, Int.natCast_zero, List.replicate_zero, List.length_take, List.length_drop, AVal.own.injEq, reduceCtorEq, Int.reduceAdd, nle2, nle1, nle0, nleA, nleL, Try.results15, encApiWinchLine_rep]

def winch_Clear_b1 (t : Int) (k2 : Nat) (x_4 : ApiWinchLine) (sv : (List ApiWinchLine)) : Option (Out ((List ApiWinchLine)) ((List ApiWinchLine))) :=
  (bif (decide (t < x_4.To)) then (winch_copyOf x_4).bind fun y5 => chk (sv.length + 1) (some (Out.next (sv ++ [y5]))) else some (Out.next sv))

def winch_Clear (l : List ApiWinchLine) (t : Int) : Option ((List ApiWinchLine)) :=
  (forIx (winch_Clear_b1 t) 0 l []).bind fun o2 => o2.on fun s2 => some s2

theorem winch_Clear_spec (l : List ApiWinchLine) (t : Int) {r : (List ApiWinchLine)} (h : winch_Clear l t = some r) : PureFn Try.prog 21 [.sl 4 (l.map encApiWinchLine), .int .i64 t] (· = .sl 4 (r.map encApiWinchLine)) := by
  refine PureFn.nle (PureFn.intro Try.func21 rfl rfl (by show _ ≤ 25; simp) ?_)
  unfold winch_Clear at h
  (try simp +decide -implicitDefEqProofs only [go_sem])
  refine AWP.seq ?_
  refine AWP.region rfl ?_; intro K hK
  (try simp +decide -implicitDefEqProofs only [go_sem])
  refine hK _ _ ?_; clear hK K
  refine qthen_normal ?_
  refine AWP.seq ?_
  refine AWP.region rfl ?_; intro K hK
  (try simp +decide -implicitDefEqProofs only [go_sem])
  refine hK _ _ ?_; clear hK K
  refine qthen_normal ?_
  refine AWP.seq ?_
  refine AWP.seq ?_
  refine AWP.region rfl ?_; intro K hK
  (try simp +decide -implicitDefEqProofs only [go_sem])
  intro hm
  refine hK _ _ ?_; clear hK K
  refine qthen_normal ?_
  refine AWP.block ?_
  refine AWP.ghost 5 4 rfl (by decide) ?_
  obtain ⟨o2, hJ2, hO2⟩ := bindE h
  clear h
  refine AWP.loopW (ι := Nat × ((List ApiWinchLine)) × (Nat)) (fun zz => [(1, .int .i64 t), (5, .own 0 zz.2.2 0 zz.2.1.length), (8, .sl 4 (l.map encApiWinchLine)), (9, .int .i64 ((l.length : Nat) : Int)), (10, .int .i64 ((zz.1 : Nat) : Int))]) (fun zz => [.row zz.2.2 4 (zz.2.1.map encApiWinchLine)]) (fun zz => zz.1 ≤ l.length ∧ forIx (winch_Clear_b1 t) zz.1 ((l).drop zz.1) zz.2.1 = some o2) (fun zz => l.length - zz.1) (0, [], 0) ⟨Nat.zero_le _, hJ2⟩ (by (simp +decide -implicitDefEqProofs only [go_sem, mpE_nil, AVal.int.injEq, Int.natCast_zero, List.replicate_zero, List.length_take, List.length_drop, AVal.own.injEq, reduceCtorEq, Int.reduceAdd] <;> omega)) (by (simp +decide -implicitDefEqProofs only [go_sem, mpE_nil, AVal.int.injEq, Int.natCast_zero, List.replicate_zero, List.length_take, List.length_drop, AVal.own.injEq, reduceCtorEq, Int.reduceAdd] <;> omega)) (fun x => ⟨rfl, rfl, rfl⟩) ?_
  clear hJ2
  rintro ⟨k2, out1, ver2⟩ ⟨hk2, hJ2⟩
  dsimp only at hk2 hJ2 ⊢
  refine AWP.seq ?_
  refine AWP.region rfl ?_; intro K hK
  (try simp +decide -implicitDefEqProofs only [go_sem])
  refine hK _ _ ?_; clear hK K
  refine qthen_normal ?_
  refine AWP.seq ?_
  refine AWP.cond (acond_split (fun hc => ?_) (fun hc => ?_))
  · have hlt2 : k2 < l.length := by have := of_decide_eq_true hc; omega
    obtain ⟨x_4, b2, hx2_, h, hJ2⟩ := for_cons hJ2 hlt2
    have hx2 := idxL_nat hx2_
    have hw2 : IntKind.i64.wrap (((k2 : Nat) : Int) + 1) = (((k2 : Nat) : Int) + (1 : Int)) := by rw [wrap_i64] <;> omega
    unfold winch_Clear_b1 at h; try dsimp only at h
    refine AWP.skip ?_
    refine qthen_normal ?_
    refine AWP.seq ?_
    refine AWP.block ?_
    refine AWP.seq ?_
    refine AWP.region rfl ?_; intro K hK
    (try simp +decide -implicitDefEqProofs only [go_sem])
    refine AIdx.of (f := encApiWinchLine) (l := l) hx2 ?_
    (try simp +decide -implicitDefEqProofs only [go_sem])
    refine hK _ _ ?_; clear hK K
    refine qthen_normal ?_
    refine AWP.seq ?_
    refine AWP.region rfl ?_; intro K hK
    (try simp +decide -implicitDefEqProofs only [go_sem])
    refine hK _ _ ?_; clear hK K
    refine qthen_normal ?_
    refine AWP.cond (acond_split (fun hc => ?_) (fun hc => ?_))
    · replace h := bif_t h hc
      refine AWP.region rfl ?_; intro K hK
      (try simp +decide -implicitDefEqProofs only [go_sem])
      obtain ⟨y5, hy5, h⟩ := bindE h
      refine ACall.pure Try.call33 (winch_copyOf_spec x_4 hy5) rfl fun _ hr => ?_
      subst hr
      (try simp +decide -implicitDefEqProofs only [go_sem])
      obtain ⟨hk, h⟩ := chk_in h
      (repeat (refine ⟨by first | omega | (simp only [List.length_take, List.length_drop, List.length_append]; omega), ?_⟩)); try simp +decide -implicitDefEqProofs only [go_sem]
      refine hK _ _ ?_; clear hK K
      refine qblock_normal ?_
      refine qthen_normal ?_
      refine AWP.region rfl ?_; intro K hK
      (try simp +decide -implicitDefEqProofs only [go_sem])
      refine hK _ _ ?_; clear hK K
      refine qthen_normal ?_
      obtain rfl := some_eq h
      refine ⟨(k2 + 1, (out1 ++ [y5]), (ver2 + 1)), ⟨by dsimp only; omega, cont_next hJ2⟩, by dsimp only; omega, ?_, ?_⟩
      · (simp +decide -implicitDefEqProofs only [go_sem, mpE_nil, AVal.int.injEq, Int.natCast_zero, List.replicate_zero, List.length_take, List.length_drop, AVal.own.injEq, reduceCtorEq, Int.reduceAdd, hw2] <;> omega)
      · (simp +decide -implicitDefEqProofs only [go_sem, mpE_nil, AVal.int.injEq, Int.natCast_zero, List.replicate_zero, List.length_take, List.length_drop, AVal.own.injEq, reduceCtorEq, Int.reduceAdd, hw2] <;> omega)
    replace h := bif_f h hc
    refine AWP.skip ?_
    refine qblock_normal ?_
    refine qthen_normal ?_
    refine AWP.region rfl ?_; intro K hK
    (try simp +decide -implicitDefEqProofs only [go_sem])
    refine hK _ _ ?_; clear hK K
    refine qthen_normal ?_
    obtain rfl := some_eq h
    refine ⟨(k2 + 1, out1, ver2), ⟨by dsimp only; omega, cont_next hJ2⟩, by dsimp only; omega, ?_, ?_⟩
    · (simp +decide -implicitDefEqProofs only [go_sem, mpE_nil, AVal.int.injEq, Int.natCast_zero, List.replicate_zero, List.length_take, List.length_drop, AVal.own.injEq, reduceCtorEq, Int.reduceAdd, hw2] <;> omega)
    · (simp +decide -implicitDefEqProofs only [go_sem, mpE_nil, AVal.int.injEq, Int.natCast_zero, List.replicate_zero, List.length_take, List.length_drop, AVal.own.injEq, reduceCtorEq, Int.reduceAdd, hw2] <;> omega)
  · obtain rfl := for_nil hJ2 (fun hl => by have := of_decide_eq_false hc; omega)
    have h := on_next hO2; try dsimp only at h
    have hkl : l.length = k2 := by have := of_decide_eq_false hc; omega
    subst hkl
    refine AWP.exit ?_
    refine qthen_exit ?_
    refine qthen_exit ?_
    refine qblock_same ?_
    refine qthen_normal ?_
    refine AWP.seq ?_
    refine AWP.region rfl ?_; intro K hK
    (try simp +decide -implicitDefEqProofs only [go_sem])
    refine hK _ _ ?_; clear hK K
    refine qthen_normal ?_
    refine AWP.ret ?_
    obtain rfl := some_eq h
    simp +decide -implicitDefEqProofs only [go_sem, mpE_nil, AVal.int.injEq, Int.natCast_zero, List.replicate_zero, List.length_take, List.length_drop, AVal.own.injEq, reduceCtorEq, Int.reduceAdd, nle2, nle1, nle0, nleA, nleL, Try.results21]

def ref46_SameInts_b1 (b : List Int) (k0 : Nat) (x_2 : Int) (sv : Unit) : Option (Out (Unit) (Bool)) :=
  (idxL b ((k0 : Nat) : Int)).bind fun x_3 => (bif (decide (x_2 ≠ x_3)) then some (Out.ret false) else some (Out.next ()))

def ref46_SameInts (a : List Int) (b : List Int) : Option (Bool) :=
  (bif (decide (((a.length : Nat) : Int) ≠ ((b.length : Nat) : Int))) then some false else (forIx (ref46_SameInts_b1 b) 0 a ()).bind fun o0 => o0.on fun s0 => some true)

theorem ref46_SameInts_spec (a : List Int) (b : List Int) {r : Bool} (h : ref46_SameInts a b = some r) : PureFn Try.prog 18 [.sl 1 (a.map intC), .sl 1 (b.map intC)] (· = .bool r) := by
  refine PureFn.nle (PureFn.intro Try.func18 rfl rfl (by show _ ≤ 26; simp) ?_)
  unfold ref46_SameInts at h
  (try simp +decide -implicitDefEqProofs only [go_sem])
  refine AWP.seq ?_
  refine AWP.region rfl ?_; intro K hK
  (try simp +decide -implicitDefEqProofs only [go_sem])
  refine hK _ _ ?_; clear hK K
  refine qthen_normal ?_
  refine AWP.seq ?_
  refine AWP.seq ?_
  refine AWP.region rfl ?_; intro K hK
  (try simp +decide -implicitDefEqProofs only [go_sem])
  intro hm
  intro hm
  refine hK _ _ ?_; clear hK K
  refine qthen_normal ?_
  refine AWP.cond (acond_split (fun hc => ?_) (fun hc => ?_))
  · replace h := bif_t h hc
    refine AWP.seq ?_
    refine AWP.region rfl ?_; intro K hK
    (try simp +decide -implicitDefEqProofs only [go_sem])
    refine hK _ _ ?_; clear hK K
    refine qthen_normal ?_
    refine AWP.ret ?_
    refine qthen_ret ?_
    obtain rfl := some_eq h
    simp +decide -implicitDefEqProofs only [go_sem, mpE_nil, AVal.int.injEq, Int.natCast_zero, List.replicate_zero, List.length_take, List.length_drop, AVal.own.injEq, reduceCtorEq, Int.reduceAdd, nle2, nle1, nle0, nleA, nleL, Try.results18]
  replace h := bif_f h hc
  refine AWP.skip ?_
  refine qthen_normal ?_
  refine AWP.seq ?_
  refine AWP.seq ?_
  refine AWP.region rfl ?_; intro K hK
  (try simp +decide -implicitDefEqProofs only [go_sem])
  refine hK _ _ ?_; clear hK K
  refine qthen_normal ?_
  refine AWP.block ?_
  obtain ⟨o0, hJ0, hO0⟩ := bindE h
  clear h
  refine AWP.loopW (ι := Nat × (Unit) × (Unit)) (fun zz => [(0, .sl 1 (a.map intC)), (1, .sl 1 (b.map intC)), (5, .int .i64 ((zz.1 : Nat) : Int))]) (fun zz => []) (fun zz => zz.1 ≤ a.length ∧ forIx (ref46_SameInts_b1 b) zz.1 ((a).drop zz.1) zz.2.1 = some o0) (fun zz => a.length - zz.1) (0, (), ()) ⟨Nat.zero_le _, hJ0⟩ (by (simp +decide -implicitDefEqProofs only [go_sem, mpE_nil, AVal.int.injEq, Int.natCast_zero, List.replicate_zero, List.length_take, List.length_drop, AVal.own.injEq, reduceCtorEq, Int.reduceAdd] <;> omega)) (by (simp +decide -implicitDefEqProofs only [go_sem, mpE_nil, AVal.int.injEq, Int.natCast_zero, List.replicate_zero, List.length_take, List.length_drop, AVal.own.injEq, reduceCtorEq, Int.reduceAdd] <;> omega)) (fun x => ⟨rfl, rfl, rfl⟩) ?_
  clear hJ0
  rintro ⟨k0, ⟨⟩, ⟨⟩⟩ ⟨hk0, hJ0⟩
  dsimp only at hk0 hJ0 ⊢
  refine AWP.seq ?_
  refine AWP.seq ?_
  refine AWP.region rfl ?_; intro K hK
  (try simp +decide -implicitDefEqProofs only [go_sem])
  intro hm
  refine hK _ _ ?_; clear hK K
  refine qthen_normal ?_
  refine AWP.cond (acond_split (fun hc => ?_) (fun hc => ?_))
  · have hlt0 : k0 < a.length := by have := of_decide_eq_true hc; omega
    obtain ⟨x_2, b0, hx0_, h, hJ0⟩ := for_cons hJ0 hlt0
    have hx0 := idxL_nat hx0_
    have hw0 : IntKind.i64.wrap (((k0 : Nat) : Int) + 1) = (((k0 : Nat) : Int) + (1 : Int)) := by rw [wrap_i64] <;> omega
    unfold ref46_SameInts_b1 at h; try dsimp only at h
    refine AWP.skip ?_
    refine qthen_normal ?_
    refine AWP.seq ?_
    refine AWP.block ?_
    refine AWP.seq ?_
    refine AWP.draw Try.mixed (by kernel_rfl) ?_; intro K hK
    (try simp +decide -implicitDefEqProofs only [go_sem])
    refine AIdx.of (f := intC) (l := a) hx0 ?_
    (try simp +decide -implicitDefEqProofs only [go_sem])
    obtain ⟨x_3, hx_3, h⟩ := bindE h
    refine AIdx.of (f := intC) (l := b) hx_3 ?_
    (try simp +decide -implicitDefEqProofs only [go_sem])
    refine hK _ _ _ (by kernel_rfl) ?_; clear hK K
    refine qthen_normal ?_
    refine AWP.cond (acond_split (fun hc => ?_) (fun hc => ?_))
    · replace h := bif_t h hc
      refine AWP.seq ?_
      refine AWP.region rfl ?_; intro K hK
      (try simp +decide -implicitDefEqProofs only [go_sem])
      refine hK _ _ ?_; clear hK K
      refine qthen_normal ?_
      refine AWP.ret ?_
      refine qblock_ret ?_
      refine qthen_ret ?_
      refine qthen_ret ?_
      obtain rfl := some_eq h
      obtain rfl := cont_ret hJ0
      replace h := on_ret hO0
      refine qblock_ret ?_
      refine qthen_ret ?_
      obtain rfl := some_eq h
      simp +decide -implicitDefEqProofs only [go_sem, mpE_nil, AVal.int.injEq, Int.natCast_zero, List.replicate_zero, List.length_take, List.length_drop, AVal.own.injEq, reduceCtorEq, Int.reduceAdd, nle2, nle1, nle0, nleA, nleL, Try.results18]
    replace h := bif_f h hc
    refine AWP.skip ?_
    refine qblock_normal ?_
    refine qthen_normal ?_
    refine AWP.region rfl ?_; intro K hK
    (try simp +decide -implicitDefEqProofs only [go_sem])
    refine hK _ _ ?_; clear hK K
    refine qthen_normal ?_
    obtain rfl := some_eq h
    refine ⟨(k0 + 1, (), ()), ⟨by dsimp only; omega, cont_next hJ0⟩, by dsimp only; omega, ?_, ?_⟩
    · (simp +decide -implicitDefEqProofs only [go_sem, mpE_nil, AVal.int.injEq, Int.natCast_zero, List.replicate_zero, List.length_take, List.length_drop, AVal.own.injEq, reduceCtorEq, Int.reduceAdd, hw0] <;> omega)
    · (simp +decide -implicitDefEqProofs only [go_sem, mpE_nil, AVal.int.injEq, Int.natCast_zero, List.replicate_zero, List.length_take, List.length_drop, AVal.own.injEq, reduceCtorEq, Int.reduceAdd, hw0] <;> omega)
  · obtain rfl := for_nil hJ0 (fun hl => by have := of_decide_eq_false hc; omega)
    have h := on_next hO0; try dsimp only at h
    have hkl : a.length = k0 := by have := of_decide_eq_false hc; omega
    subst hkl
    refine AWP.exit ?_
    refine qthen_exit ?_
    refine qthen_exit ?_
    refine qblock_same ?_
    refine qthen_normal ?_
    refine AWP.seq ?_
    refine AWP.region rfl ?_; intro K hK
    (try simp +decide -implicitDefEqProofs only [go_sem])
    refine hK _ _ ?_; clear hK K
    refine qthen_normal ?_
    refine AWP.ret ?_
    obtain rfl := some_eq h
    simp +decide -implicitDefEqProofs only [go_sem, mpE_nil, AVal.int.injEq, Int.natCast_zero, List.replicate_zero, List.length_take, List.length_drop, AVal.own.injEq, reduceCtorEq, Int.reduceAdd, nle2, nle1, nle0, nleA, nleL, Try.results18]

def ref46_Same_b1 (b : List ApiWinchLine) (k0 : Nat) (x_2 : ApiWinchLine) (sv : Unit) : Option (Out (Unit) (Bool)) :=
  (idxL b ((k0 : Nat) : Int)).bind fun x_3 => (bif (decide (x_2.Groomer ≠ x_3.Groomer)) then some (Out.ret false) else (bif (decide (x_2.From ≠ x_3.From)) then some (Out.ret false) else (bif (decide (x_2.To ≠ x_3.To)) then some (Out.ret false) else (ref46_SameInts x_2.Runs x_3.Runs).bind fun y4 => (bif (!y4) then some (Out.ret false) else some (Out.next ())))))

def ref46_Same (a : List ApiWinchLine) (b : List ApiWinchLine) : Option (Bool) :=
  (bif (decide (((a.length : Nat) : Int) ≠ ((b.length : Nat) : Int))) then some false else (forIx (ref46_Same_b1 b) 0 a ()).bind fun o0 => o0.on fun s0 => some true)

theorem ref46_Same_spec (a : List ApiWinchLine) (b : List ApiWinchLine) {r : Bool} (h : ref46_Same a b = some r) : PureFn Try.prog 17 [.sl 4 (a.map encApiWinchLine), .sl 4 (b.map encApiWinchLine)] (· = .bool r) := by
  refine PureFn.nle (PureFn.intro Try.func17 rfl rfl (by show _ ≤ 68; simp) ?_)
  unfold ref46_Same at h
  (try simp +decide -implicitDefEqProofs only [go_sem])
  refine AWP.seq ?_
  refine AWP.region rfl ?_; intro K hK
  (try simp +decide -implicitDefEqProofs only [go_sem])
  refine hK _ _ ?_; clear hK K
  refine qthen_normal ?_
  refine AWP.seq ?_
  refine AWP.seq ?_
  refine AWP.region rfl ?_; intro K hK
  (try simp +decide -implicitDefEqProofs only [go_sem])
  intro hm
  intro hm
  refine hK _ _ ?_; clear hK K
  refine qthen_normal ?_
  refine AWP.cond (acond_split (fun hc => ?_) (fun hc => ?_))
  · replace h := bif_t h hc
    refine AWP.seq ?_
    refine AWP.region rfl ?_; intro K hK
    (try simp +decide -implicitDefEqProofs only [go_sem])
    refine hK _ _ ?_; clear hK K
    refine qthen_normal ?_
    refine AWP.ret ?_
    refine qthen_ret ?_
    obtain rfl := some_eq h
    simp +decide -implicitDefEqProofs only [go_sem, mpE_nil, AVal.int.injEq, Int.natCast_zero, List.replicate_zero, List.length_take, List.length_drop, AVal.own.injEq, reduceCtorEq, Int.reduceAdd, nle2, nle1, nle0, nleA, nleL, Try.results17]
  replace h := bif_f h hc
  refine AWP.skip ?_
  refine qthen_normal ?_
  refine AWP.seq ?_
  refine AWP.seq ?_
  refine AWP.region rfl ?_; intro K hK
  (try simp +decide -implicitDefEqProofs only [go_sem])
  refine hK _ _ ?_; clear hK K
  refine qthen_normal ?_
  refine AWP.block ?_
  obtain ⟨o0, hJ0, hO0⟩ := bindE h
  clear h
  refine AWP.loopW (ι := Nat × (Unit) × (Unit)) (fun zz => [(0, .sl 4 (a.map encApiWinchLine)), (1, .sl 4 (b.map encApiWinchLine)), (5, .int .i64 ((zz.1 : Nat) : Int))]) (fun zz => []) (fun zz => zz.1 ≤ a.length ∧ forIx (ref46_Same_b1 b) zz.1 ((a).drop zz.1) zz.2.1 = some o0) (fun zz => a.length - zz.1) (0, (), ()) ⟨Nat.zero_le _, hJ0⟩ (by (simp +decide -implicitDefEqProofs only [go_sem, mpE_nil, AVal.int.injEq, Int.natCast_zero, List.replicate_zero, List.length_take, List.length_drop, AVal.own.injEq, reduceCtorEq, Int.reduceAdd] <;> omega)) (by (simp +decide -implicitDefEqProofs only [go_sem, mpE_nil, AVal.int.injEq, Int.natCast_zero, List.replicate_zero, List.length_take, List.length_drop, AVal.own.injEq, reduceCtorEq, Int.reduceAdd] <;> omega)) (fun x => ⟨rfl, rfl, rfl⟩) ?_
  clear hJ0
  rintro ⟨k0, ⟨⟩, ⟨⟩⟩ ⟨hk0, hJ0⟩
  dsimp only at hk0 hJ0 ⊢
  refine AWP.seq ?_
  refine AWP.seq ?_
  refine AWP.region rfl ?_; intro K hK
  (try simp +decide -implicitDefEqProofs only [go_sem])
  intro hm
  refine hK _ _ ?_; clear hK K
  refine qthen_normal ?_
  refine AWP.cond (acond_split (fun hc => ?_) (fun hc => ?_))
  · have hlt0 : k0 < a.length := by have := of_decide_eq_true hc; omega
    obtain ⟨x_2, b0, hx0_, h, hJ0⟩ := for_cons hJ0 hlt0
    have hx0 := idxL_nat hx0_
    have hw0 : IntKind.i64.wrap (((k0 : Nat) : Int) + 1) = (((k0 : Nat) : Int) + (1 : Int)) := by rw [wrap_i64] <;> omega
    unfold ref46_Same_b1 at h; try dsimp only at h
    refine AWP.skip ?_
    refine qthen_normal ?_
    refine AWP.seq ?_
    refine AWP.block ?_
    refine AWP.seq ?_
    refine AWP.draw Try.mixed (by kernel_rfl) ?_; intro K hK
    (try simp +decide -implicitDefEqProofs only [go_sem])
    refine AIdx.of (f := encApiWinchLine) (l := a) hx0 ?_
    (try simp +decide -implicitDefEqProofs only [go_sem])
    obtain ⟨x_3, hx_3, h⟩ := bindE h
    refine AIdx.of (f := encApiWinchLine) (l := b) hx_3 ?_
    (try simp +decide -implicitDefEqProofs only [go_sem])
    refine aguardK_split (fun hc => ?_) (fun hc => ?_)
    · replace h := bif_f h hc
      (try simp +decide -implicitDefEqProofs only [go_sem, hc])
      refine AIdx.of (f := encApiWinchLine) (l := a) hx0 ?_
      (try simp +decide -implicitDefEqProofs only [go_sem])
      refine AIdx.of (f := encApiWinchLine) (l := b) hx_3 ?_
      (try simp +decide -implicitDefEqProofs only [go_sem])
      refine aguardK_split (fun hc => ?_) (fun hc => ?_)
      · replace h := bif_f h hc
        (try simp +decide -implicitDefEqProofs only [go_sem, hc])
        refine AIdx.of (f := encApiWinchLine) (l := a) hx0 ?_
        (try simp +decide -implicitDefEqProofs only [go_sem])
        refine AIdx.of (f := encApiWinchLine) (l := b) hx_3 ?_
        (try simp +decide -implicitDefEqProofs only [go_sem])
        refine aguardK_split (fun hc => ?_) (fun hc => ?_)
        · replace h := bif_f h hc
          (try simp +decide -implicitDefEqProofs only [go_sem, hc])
          refine AIdx.of (f := encApiWinchLine) (l := a) hx0 ?_
          (try simp +decide -implicitDefEqProofs only [go_sem])
          refine AIdx.of (f := encApiWinchLine) (l := b) hx_3 ?_
          (try simp +decide -implicitDefEqProofs only [go_sem])
          obtain ⟨y4, hy4, h⟩ := bindE h
          refine DCall.pure Try.call18 (ref46_SameInts_spec x_2.Runs x_3.Runs hy4) rfl ?_
          (try simp +decide -implicitDefEqProofs only [go_sem])
          refine hK _ _ _ (by kernel_rfl) ?_; clear hK K
          refine qthen_normal ?_
          refine AWP.cond (acond_split (fun hc => ?_) (fun hc => ?_))
          · replace h := bif_t h hc
            refine AWP.seq ?_
            refine AWP.region rfl ?_; intro K hK
            (try simp +decide -implicitDefEqProofs only [go_sem])
            refine hK _ _ ?_; clear hK K
            refine qthen_normal ?_
            refine AWP.ret ?_
            refine qblock_ret ?_
            refine qthen_ret ?_
            refine qthen_ret ?_
            obtain rfl := some_eq h
            obtain rfl := cont_ret hJ0
            replace h := on_ret hO0
            refine qblock_ret ?_
            refine qthen_ret ?_
            obtain rfl := some_eq h
            simp +decide -implicitDefEqProofs only [go_sem, mpE_nil, AVal.int.injEq, Int.natCast_zero, List.replicate_zero, List.length_take, List.length_drop, AVal.own.injEq, reduceCtorEq, Int.reduceAdd, nle2, nle1, nle0, nleA, nleL, Try.results17]
          replace h := bif_f h hc
          refine AWP.skip ?_
          refine qblock_normal ?_
          refine qthen_normal ?_
          refine AWP.region rfl ?_; intro K hK
          (try simp +decide -implicitDefEqProofs only [go_sem])
          refine hK _ _ ?_; clear hK K
          refine qthen_normal ?_
          obtain rfl := some_eq h
          refine ⟨(k0 + 1, (), ()), ⟨by dsimp only; omega, cont_next hJ0⟩, by dsimp only; omega, ?_, ?_⟩
          · (simp +decide -implicitDefEqProofs only [go_sem, mpE_nil, AVal.int.injEq, Int.natCast_zero, List.replicate_zero, List.length_take, List.length_drop, AVal.own.injEq, reduceCtorEq, Int.reduceAdd, hw0] <;> omega)
          · (simp +decide -implicitDefEqProofs only [go_sem, mpE_nil, AVal.int.injEq, Int.natCast_zero, List.replicate_zero, List.length_take, List.length_drop, AVal.own.injEq, reduceCtorEq, Int.reduceAdd, hw0] <;> omega)
        · replace h := bif_t h hc
          (try simp +decide -implicitDefEqProofs only [go_sem, hc, Bool.not_false])
          refine hK _ _ _ (by kernel_rfl) ?_; clear hK K
          refine qthen_normal ?_
          refine AWP.cond (acond_true ?_)
          refine AWP.seq ?_
          refine AWP.region rfl ?_; intro K hK
          (try simp +decide -implicitDefEqProofs only [go_sem])
          refine hK _ _ ?_; clear hK K
          refine qthen_normal ?_
          refine AWP.ret ?_
          refine qblock_ret ?_
          refine qthen_ret ?_
          refine qthen_ret ?_
          obtain rfl := some_eq h
          obtain rfl := cont_ret hJ0
          replace h := on_ret hO0
          refine qblock_ret ?_
          refine qthen_ret ?_
          obtain rfl := some_eq h
          simp +decide -implicitDefEqProofs only [go_sem, mpE_nil, AVal.int.injEq, Int.natCast_zero, List.replicate_zero, List.length_take, List.length_drop, AVal.own.injEq, reduceCtorEq, Int.reduceAdd, nle2, nle1, nle0, nleA, nleL, Try.results17]
      · replace h := bif_t h hc
        (try simp +decide -implicitDefEqProofs only [go_sem, hc, Bool.not_false])
        refine hK _ _ _ (by kernel_rfl) ?_; clear hK K
        refine qthen_normal ?_
        refine AWP.cond (acond_true ?_)
        refine AWP.seq ?_
        refine AWP.region rfl ?_; intro K hK
        (try simp +decide -implicitDefEqProofs only [go_sem])
        refine hK _ _ ?_; clear hK K
        refine qthen_normal ?_
        refine AWP.ret ?_
        refine qblock_ret ?_
        refine qthen_ret ?_
        refine qthen_ret ?_
        obtain rfl := some_eq h
        obtain rfl := cont_ret hJ0
        replace h := on_ret hO0
        refine qblock_ret ?_
        refine qthen_ret ?_
        obtain rfl := some_eq h
        simp +decide -implicitDefEqProofs only [go_sem, mpE_nil, AVal.int.injEq, Int.natCast_zero, List.replicate_zero, List.length_take, List.length_drop, AVal.own.injEq, reduceCtorEq, Int.reduceAdd, nle2, nle1, nle0, nleA, nleL, Try.results17]
    · replace h := bif_t h hc
      (try simp +decide -implicitDefEqProofs only [go_sem, hc, Bool.not_false])
      refine hK _ _ _ (by kernel_rfl) ?_; clear hK K
      refine qthen_normal ?_
      refine AWP.cond (acond_true ?_)
      refine AWP.seq ?_
      refine AWP.region rfl ?_; intro K hK
      (try simp +decide -implicitDefEqProofs only [go_sem])
      refine hK _ _ ?_; clear hK K
      refine qthen_normal ?_
      refine AWP.ret ?_
      refine qblock_ret ?_
      refine qthen_ret ?_
      refine qthen_ret ?_
      obtain rfl := some_eq h
      obtain rfl := cont_ret hJ0
      replace h := on_ret hO0
      refine qblock_ret ?_
      refine qthen_ret ?_
      obtain rfl := some_eq h
      simp +decide -implicitDefEqProofs only [go_sem, mpE_nil, AVal.int.injEq, Int.natCast_zero, List.replicate_zero, List.length_take, List.length_drop, AVal.own.injEq, reduceCtorEq, Int.reduceAdd, nle2, nle1, nle0, nleA, nleL, Try.results17]
  · obtain rfl := for_nil hJ0 (fun hl => by have := of_decide_eq_false hc; omega)
    have h := on_next hO0; try dsimp only at h
    have hkl : a.length = k0 := by have := of_decide_eq_false hc; omega
    subst hkl
    refine AWP.exit ?_
    refine qthen_exit ?_
    refine qthen_exit ?_
    refine qblock_same ?_
    refine qthen_normal ?_
    refine AWP.seq ?_
    refine AWP.region rfl ?_; intro K hK
    (try simp +decide -implicitDefEqProofs only [go_sem])
    refine hK _ _ ?_; clear hK K
    refine qthen_normal ?_
    refine AWP.ret ?_
    obtain rfl := some_eq h
    simp +decide -implicitDefEqProofs only [go_sem, mpE_nil, AVal.int.injEq, Int.natCast_zero, List.replicate_zero, List.length_take, List.length_drop, AVal.own.injEq, reduceCtorEq, Int.reduceAdd, nle2, nle1, nle0, nleA, nleL, Try.results17]

def winch_Swept_b1 (t : Int) (k2 : Nat) (x_4 : ApiWinchLine) (sv : (List Int)) : Option (Out ((List Int)) ((List Int))) :=
  (bif (decide (x_4.From ≤ t)) then (bif (decide (t < x_4.To)) then chk (sv.length + x_4.Runs.length) (some (Out.next (sv ++ x_4.Runs))) else some (Out.next sv)) else some (Out.next sv))

def winch_Swept (l : List ApiWinchLine) (t : Int) : Option ((List Int)) :=
  (forIx (winch_Swept_b1 t) 0 l []).bind fun o2 => o2.on fun s2 => chk s2.length (chk s2.length (some (compactI (sortI s2))))

theorem winch_Swept_spec (l : List ApiWinchLine) (t : Int) {r : (List Int)} (h : winch_Swept l t = some r) : PureFn Try.prog 19 [.sl 4 (l.map encApiWinchLine), .int .i64 t] (· = .sl 1 (r.map intC)) := by
  refine PureFn.nle (PureFn.introM Try.func19 rfl rfl (by show _ ≤ 19; simp) ?_)
  unfold winch_Swept at h
  (try simp +decide -implicitDefEqProofs only [go_sem])
  refine AWPm.pre ?_
  refine AWP.region rfl ?_; intro K hK
  (try simp +decide -implicitDefEqProofs only [go_sem])
  refine hK _ _ ?_; clear hK K
  refine qthen_normal ?_
  refine AWPm.pre ?_
  refine AWP.region rfl ?_; intro K hK
  (try simp +decide -implicitDefEqProofs only [go_sem])
  refine hK _ _ ?_; clear hK K
  refine qthen_normal ?_
  refine AWPm.seqq ?_
  refine AWPq.seq ?_
  refine AWP.region rfl ?_; intro K hK
  (try simp +decide -implicitDefEqProofs only [go_sem])
  refine ACall.inline Try.call34 Try.func34 rfl rfl (by show _ ≤ 6; simp) ?_
  (try simp +decide -implicitDefEqProofs only [go_sem])
  refine AWP.seq ?_
  refine AWP.region rfl ?_; intro K hK
  (try simp +decide -implicitDefEqProofs only [go_sem])
  refine hK _ _ ?_; clear hK K
  refine qthen_normal ?_
  refine AWP.seq ?_
  refine AWP.region rfl ?_; intro K hK
  (try simp +decide -implicitDefEqProofs only [go_sem])
  refine hK _ _ ?_; clear hK K
  refine qthen_normal ?_
  refine AWP.ret ?_
  (try simp +decide -implicitDefEqProofs only [go_sem, Try.results34])
  refine hK _ _ ?_; clear hK K
  refine qthen_normal ?_
  refine AWPq.range [(4, .nils), (5, .ptr 0 0), (9, .func 44 [.ptr 1 0, .ptr 2 0])] (by (simp +decide -implicitDefEqProofs only [go_sem, mpE_nil, AVal.int.injEq, Int.natCast_zero, List.replicate_zero, List.length_take, List.length_drop, AVal.own.injEq, reduceCtorEq, Int.reduceAdd] <;> omega)) (by (simp +decide -implicitDefEqProofs only [go_sem, mpE_nil, AVal.int.injEq, Int.natCast_zero, List.replicate_zero, List.length_take, List.length_drop, AVal.own.injEq, reduceCtorEq, Int.reduceAdd] <;> omega)) rfl fun D A0 B0 hA0 hB0 => ?_
  (try simp +decide -implicitDefEqProofs only [go_sem])
  refine ACall.inline Try.call44 Try.func44 rfl rfl (by show _ ≤ 29; simp) ?_
  (try simp +decide -implicitDefEqProofs only [go_sem])
  refine AWP.seq ?_
  refine AWP.region rfl ?_; intro K hK
  (try simp +decide -implicitDefEqProofs only [go_sem])
  intro hm
  refine hK _ _ ?_; clear hK K
  refine qthen_normal ?_
  refine AWP.block ?_
  refine AWP.sub (Sub.ghostB 0 0 1 rfl rfl (by decide)) ?_
  (try simp +decide -implicitDefEqProofs only [go_sem])
  obtain ⟨o2, hJ2, hO2⟩ := bindE h
  clear h
  refine AWP.loopW (ι := Nat × ((List Int)) × (Nat)) (fun zz => [(0, .yld 3), (2, .ptr 2 0), (6, .sl 4 (l.map encApiWinchLine)), (7, .int .i64 ((l.length : Nat) : Int)), (8, .int .i64 ((zz.1 : Nat) : Int))]) (fun zz => [.box [.own 4 zz.2.2 0 zz.2.1.length], .box [.sl 4 (l.map encApiWinchLine)], .box [.int .i64 t], .lp D 19 [(4, .nils), (5, .ptr 0 0), (9, .func 44 [.ptr 1 0, .ptr 2 0])] #[10] A0 B0 .ready none, .row zz.2.2 1 (zz.2.1.map intC)]) (fun zz => zz.1 ≤ l.length ∧ forIx (winch_Swept_b1 t) zz.1 ((l).drop zz.1) zz.2.1 = some o2) (fun zz => l.length - zz.1) (0, [], 0) ⟨Nat.zero_le _, hJ2⟩ (by (simp +decide -implicitDefEqProofs only [go_sem, mpE_nil, AVal.int.injEq, Int.natCast_zero, List.replicate_zero, List.length_take, List.length_drop, AVal.own.injEq, reduceCtorEq, Int.reduceAdd] <;> omega)) (by (simp +decide -implicitDefEqProofs only [go_sem, mpE_nil, AVal.int.injEq, Int.natCast_zero, List.replicate_zero, List.length_take, List.length_drop, AVal.own.injEq, reduceCtorEq, Int.reduceAdd] <;> omega)) (fun x => ⟨rfl, rfl, rfl⟩) ?_
  clear hJ2
  rintro ⟨k2, o4_1, ver2⟩ ⟨hk2, hJ2⟩
  dsimp only at hk2 hJ2 ⊢
  refine AWP.seq ?_
  refine AWP.region rfl ?_; intro K hK
  (try simp +decide -implicitDefEqProofs only [go_sem])
  refine hK _ _ ?_; clear hK K
  refine qthen_normal ?_
  refine AWP.seq ?_
  refine AWP.cond (acond_split (fun hc => ?_) (fun hc => ?_))
  · have hlt2 : k2 < l.length := by have := of_decide_eq_true hc; omega
    obtain ⟨x_4, b2, hx2_, h, hJ2⟩ := for_cons hJ2 hlt2
    have hx2 := idxL_nat hx2_
    have hw2 : IntKind.i64.wrap (((k2 : Nat) : Int) + 1) = (((k2 : Nat) : Int) + (1 : Int)) := by rw [wrap_i64] <;> omega
    unfold winch_Swept_b1 at h; try dsimp only at h
    refine AWP.skip ?_
    refine qthen_normal ?_
    refine AWP.seq ?_
    refine AWP.block ?_
    refine AWP.seq ?_
    refine AWP.region rfl ?_; intro K hK
    (try simp +decide -implicitDefEqProofs only [go_sem])
    refine AIdx.of (f := encApiWinchLine) (l := l) hx2 ?_
    (try simp +decide -implicitDefEqProofs only [go_sem])
    refine hK _ _ ?_; clear hK K
    refine qthen_normal ?_
    refine AWP.seq ?_
    refine AWP.region rfl ?_; intro K hK
    (try simp +decide -implicitDefEqProofs only [go_sem])
    refine aguardK_split (fun hc => ?_) (fun hc => ?_)
    · replace h := bif_t h hc
      (try simp +decide -implicitDefEqProofs only [go_sem, hc])
      refine aguardK_split (fun hc => ?_) (fun hc => ?_)
      · replace h := bif_t h hc
        (try simp +decide -implicitDefEqProofs only [go_sem, hc])
        refine ACall.yield rfl rfl rfl hA0 hB0 rfl fun md => ?_
        (try simp +decide -implicitDefEqProofs only [go_sem, putAll])
        refine AWP.region rfl ?_; intro K hK
        (try simp +decide -implicitDefEqProofs only [go_sem])
        refine hK _ _ ?_; clear hK K
        refine qyA.mk rfl ?_
        (try simp +decide -implicitDefEqProofs only [go_sem])
        refine AWP.block ?_
        refine AWP.region rfl ?_; intro K hK
        (try simp +decide -implicitDefEqProofs only [go_sem])
        obtain ⟨hk, h⟩ := chk_in h
        (repeat (refine ⟨by first | omega | (simp only [List.length_take, List.length_drop, List.length_append]; omega), ?_⟩)); try simp +decide -implicitDefEqProofs only [go_sem]
        refine hK _ _ ?_; clear hK K
        refine qblock_normal ?_
        refine qyB.next rfl ?_
        (try simp +decide -implicitDefEqProofs only [go_sem])
        refine hK _ _ ?_; clear hK K
        refine qthen_normal ?_
        refine AWP.cond (acond_false ?_)
        refine AWP.skip ?_
        refine qblock_normal ?_
        refine qthen_normal ?_
        refine AWP.region rfl ?_; intro K hK
        (try simp +decide -implicitDefEqProofs only [go_sem])
        refine hK _ _ ?_; clear hK K
        refine qthen_normal ?_
        obtain rfl := some_eq h
        refine ⟨(k2 + 1, (o4_1 ++ x_4.Runs), (ver2 + 1)), ⟨by dsimp only; omega, cont_next hJ2⟩, by dsimp only; omega, ?_, ?_⟩
        · (simp +decide -implicitDefEqProofs only [go_sem, mpE_nil, AVal.int.injEq, Int.natCast_zero, List.replicate_zero, List.length_take, List.length_drop, AVal.own.injEq, reduceCtorEq, Int.reduceAdd, hw2] <;> omega)
        · (simp +decide -implicitDefEqProofs only [go_sem, mpE_nil, AVal.int.injEq, Int.natCast_zero, List.replicate_zero, List.length_take, List.length_drop, AVal.own.injEq, reduceCtorEq, Int.reduceAdd, hw2] <;> omega)
      · replace h := bif_f h hc
        (try simp +decide -implicitDefEqProofs only [go_sem, hc, Bool.not_true])
        refine hK _ _ ?_; clear hK K
        refine qthen_normal ?_
        refine AWP.cond (acond_false ?_)
        refine AWP.skip ?_
        refine qblock_normal ?_
        refine qthen_normal ?_
        refine AWP.region rfl ?_; intro K hK
        (try simp +decide -implicitDefEqProofs only [go_sem])
        refine hK _ _ ?_; clear hK K
        refine qthen_normal ?_
        obtain rfl := some_eq h
        refine ⟨(k2 + 1, o4_1, ver2), ⟨by dsimp only; omega, cont_next hJ2⟩, by dsimp only; omega, ?_, ?_⟩
        · (simp +decide -implicitDefEqProofs only [go_sem, mpE_nil, AVal.int.injEq, Int.natCast_zero, List.replicate_zero, List.length_take, List.length_drop, AVal.own.injEq, reduceCtorEq, Int.reduceAdd, hw2] <;> omega)
        · (simp +decide -implicitDefEqProofs only [go_sem, mpE_nil, AVal.int.injEq, Int.natCast_zero, List.replicate_zero, List.length_take, List.length_drop, AVal.own.injEq, reduceCtorEq, Int.reduceAdd, hw2] <;> omega)
    · replace h := bif_f h hc
      (try simp +decide -implicitDefEqProofs only [go_sem, hc, Bool.not_true])
      refine hK _ _ ?_; clear hK K
      refine qthen_normal ?_
      refine AWP.cond (acond_false ?_)
      refine AWP.skip ?_
      refine qblock_normal ?_
      refine qthen_normal ?_
      refine AWP.region rfl ?_; intro K hK
      (try simp +decide -implicitDefEqProofs only [go_sem])
      refine hK _ _ ?_; clear hK K
      refine qthen_normal ?_
      obtain rfl := some_eq h
      refine ⟨(k2 + 1, o4_1, ver2), ⟨by dsimp only; omega, cont_next hJ2⟩, by dsimp only; omega, ?_, ?_⟩
      · (simp +decide -implicitDefEqProofs only [go_sem, mpE_nil, AVal.int.injEq, Int.natCast_zero, List.replicate_zero, List.length_take, List.length_drop, AVal.own.injEq, reduceCtorEq, Int.reduceAdd, hw2] <;> omega)
      · (simp +decide -implicitDefEqProofs only [go_sem, mpE_nil, AVal.int.injEq, Int.natCast_zero, List.replicate_zero, List.length_take, List.length_drop, AVal.own.injEq, reduceCtorEq, Int.reduceAdd, hw2] <;> omega)
  · obtain rfl := for_nil hJ2 (fun hl => by have := of_decide_eq_false hc; omega)
    have h := on_next hO2; try dsimp only at h
    have hkl : l.length = k2 := by have := of_decide_eq_false hc; omega
    subst hkl
    refine AWP.exit ?_
    refine qthen_exit ?_
    refine qthen_exit ?_
    refine qblock_same ?_
    (try simp +decide -implicitDefEqProofs only [go_sem, Try.results44])
    refine qrange.all rfl ?_
    (try simp +decide -implicitDefEqProofs only [go_sem])
    refine AWP.seq ?_
    refine AWP.region rfl ?_; intro K hK
    (try simp +decide -implicitDefEqProofs only [go_sem])
    obtain ⟨hk, h⟩ := chk_in h
    refine ACall.sortI Try.call35 Try.sorts35 rfl (by first | rfl | exact (sortI_len _).symm | (simp only [List.length_append, List.length_cons, List.length_nil, List.length_set, List.length_replicate] <;> omega)) hk ?_
    (try simp +decide -implicitDefEqProofs only [go_sem])
    refine hK _ _ ?_; clear hK K
    refine qthen_normal ?_
    refine AWP.seq ?_
    refine AWP.region rfl ?_; intro K hK
    (try simp +decide -implicitDefEqProofs only [go_sem])
    obtain ⟨hk, h⟩ := chk_in h
    refine ACall.compactI Try.call36 Try.compacts36 rfl (by first | rfl | exact (sortI_len _).symm | (simp only [List.length_append, List.length_cons, List.length_nil, List.length_set, List.length_replicate] <;> omega)) hk ?_
    (try simp +decide -implicitDefEqProofs only [go_sem])
    refine hK _ _ ?_; clear hK K
    refine qthen_normal ?_
    refine AWP.ret ?_
    refine qmD.mk (r := 3) rfl ?_
    obtain rfl := some_eq h
    simp +decide -implicitDefEqProofs only [go_sem, mpE_nil, AVal.int.injEq, Int.natCast_zero, List.replicate_zero, List.length_take, List.length_drop, AVal.own.injEq, reduceCtorEq, Int.reduceAdd, nle2, nle1, nle0, nleA, nleL, Try.results19]

end
end Go.Proofs.Ytjdgjilnldofaaa
