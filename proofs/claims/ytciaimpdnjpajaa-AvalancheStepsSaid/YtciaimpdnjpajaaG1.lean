/-
  The walk of avalanche.Grow with its copies told by what they lean on: new memory alone. Printed by a small program of our own.
-/
import Derived.Test.YtciaimpdnjpajaaW1
import Derived.Test.YtciaimpdnjpajaaSkZN
namespace Go.Proofs.Ytciaimpdnjpajaa
open Go Go.Ab
attribute [local irreducible] AWP ACall DCall PureFn Go.Ab.Sub alist dlist AIdx AElem ALook ANext
set_option maxRecDepth 100000
set_option maxHeartbeats 4000000
set_option linter.unusedSimpArgs false
set_option linter.unusedVariables false
noncomputable section
theorem slices_Clone_sint_int_freshT (s_ : List Int) {r : List Int} (h : slices_Clone_sint_int s_ = some r) : FreshT Try.prog 43 [.sl 1 (s_.map intC)] (.sl 1 (r.map intC)) := FreshT.ofRow (slices_Clone_sint_int_own s_ h) (all_f0_intC r)
/-- how a path stands in memory, its lists leaning on new memory -/
def encG (S : Nat → Prop) (x : ApiSlide) : List AVal := [.int .i64 x.ID, lnT (fun b => ¬ S b) 1 (x.Zones.map intC), lnT (fun b => ¬ S b) 1 (x.Lifts.map intC), .int .i64 x.Limit, .int .i64 x.Load, .int .i64 x.Controlled]
theorem lnT_g0 (T : Nat → Prop) (sz : Nat) (xs : List (List AVal)) : (lnT T sz xs).g0 = true := rfl
theorem encG_app (S : Nat → Prop) (l : List ApiSlide) (a0 : Int) (a1 a2 : List Int) (a3 a4 a5 : Int) : l.map (encG S) ++ [[.int .i64 a0, lnT (fun b => ¬ S b) 1 (a1.map intC), lnT (fun b => ¬ S b) 1 (a2.map intC), .int .i64 a3, .int .i64 a4, .int .i64 a5]] = (l ++ [(ApiSlide.mk a0 a1 a2 a3 a4 a5)]).map (encG S) := by simp [encG]
theorem encG_set (S : Nat → Prop) (l : List ApiSlide) (i : Nat) (a0 : Int) (a1 a2 : List Int) (a3 a4 a5 : Int) : (l.map (encG S)).set i [.int .i64 a0, lnT (fun b => ¬ S b) 1 (a1.map intC), lnT (fun b => ¬ S b) 1 (a2.map intC), .int .i64 a3, .int .i64 a4, .int .i64 a5] = (l.set i (ApiSlide.mk a0 a1 a2 a3 a4 a5)).map (encG S) := by simp [encG]
theorem encG_conv (S : Nat → Prop) (x : ApiSlide) : (encG S x).length = (encApiSlide x).length ∧ ∀ (k : Nat) (c' : AVal), (encApiSlide x)[k]? = some c' → ∃ c, (encG S x)[k]? = some c ∧ CellG S c c' := by
  refine ⟨rfl, fun k c' h => ?_⟩
  match k, h with
  | 0, h => simp [encApiSlide] at h; subst h; exact ⟨_, rfl, .inl ⟨rfl, rfl, rfl⟩⟩
  | 1, h => simp [encApiSlide] at h; subst h; exact ⟨_, rfl, .inr ⟨_, _, rfl, rfl⟩⟩
  | 2, h => simp [encApiSlide] at h; subst h; exact ⟨_, rfl, .inr ⟨_, _, rfl, rfl⟩⟩
  | 3, h => simp [encApiSlide] at h; subst h; exact ⟨_, rfl, .inl ⟨rfl, rfl, rfl⟩⟩
  | 4, h => simp [encApiSlide] at h; subst h; exact ⟨_, rfl, .inl ⟨rfl, rfl, rfl⟩⟩
  | 5, h => simp [encApiSlide] at h; subst h; exact ⟨_, rfl, .inl ⟨rfl, rfl, rfl⟩⟩
  | k + 6, h => simp [encApiSlide] at h
theorem lnT_acells (T : Nat → Prop) (sz : Nat) (xs : List (List AVal)) : acells (lnT T sz xs) = some [lnT T sz xs] := rfl
theorem lnT_one (T : Nat → Prop) (sz : Nat) (xs : List (List AVal)) : (lnT T sz xs).one = true := rfl
attribute [go_sem] encG encG_app encG_set
attribute [go_sem high] lnT_g0 lnT_acells lnT_one
def avalanche_GrowF_b3 (more1 : Int) (k10 : Nat) (x_12 : ApiSlide) (sv : (List ApiSlide)) : Option (Out ((List ApiSlide)) ((List ApiSlide) × Int)) :=
  (idxL sv ((k10 : Nat) : Int)).bind fun x_13 => some (Out.next (sv.set k10 (ApiSlide.mk x_13.ID x_13.Zones x_13.Lifts x_13.Limit (if (100000 : Int) < (IntKind.i64.wrap (x_13.Load + more1)) then (100000 : Int) else (IntKind.i64.wrap (x_13.Load + more1))) x_13.Controlled)))

def avalanche_GrowF_b2 (k4 : Nat) (x_6 : ApiSlide) (sv : (List ApiSlide)) : Option (Out ((List ApiSlide)) ((List ApiSlide) × Int)) :=
  (slices_Clone_sint_int x_6.Zones).bind fun y7 => (slices_Clone_sint_int x_6.Lifts).bind fun y8 => chk (sv.length + 1) (some (Out.next (sv ++ [(ApiSlide.mk x_6.ID y7 y8 x_6.Limit x_6.Load x_6.Controlled)])))

def avalanche_GrowF_j1 (l : List ApiSlide) (more1 : Int) : Option ((List ApiSlide) × Int) :=
  chk l.length ((forIx avalanche_GrowF_b2 0 l []).bind fun o4 => o4.on fun s4 => (forIx (avalanche_GrowF_b3 more1) 0 s4 s4).bind fun o10 => o10.on fun s10 => some (s10, (0 : Int)))

def avalanche_GrowF (l : List ApiSlide) (fresh : Int) (gust : Int) : Option ((List ApiSlide) × Int) :=
  (bif (decide (fresh < (0 : Int))) then some ([], (2 : Int)) else (bif (decide ((2000 : Int) < fresh)) then some ([], (2 : Int)) else (bif (decide (gust < (0 : Int))) then some ([], (2 : Int)) else (bif (decide ((100000 : Int) < gust)) then some ([], (2 : Int)) else (bif (decide ((10000 : Int) < gust)) then avalanche_GrowF_j1 l (IntKind.i64.wrap (fresh + (IntKind.i64.wrap (Int.tdiv (IntKind.i64.wrap (gust - (10000 : Int))) (1000 : Int))))) else avalanche_GrowF_j1 l fresh)))))

theorem avalanche_Grow_freshT (l : List ApiSlide) (fresh : Int) (gust : Int) {r : (List ApiSlide) × Int} (h : avalanche_GrowF l fresh gust = some r) (h0 : r.2 = 0) : FreshT Try.prog 15 [.sl 6 (l.map encApiSlide), .int .i64 fresh, .int .i64 gust] (.tuple [.sl 6 (r.1.map encApiSlide), .int .i64 r.2]) := by
  refine FreshT.introG Try.func15 rfl rfl (by show _ ≤ 54; simp) (fun S => ?_)
  unfold avalanche_GrowF at h
  (try simp +decide -implicitDefEqProofs only [go_sem, encApiSlide_rep])
  refine AWP.seq ?_
  refine AWP.region rfl ?_; intro K hK
  (try simp +decide -implicitDefEqProofs only [go_sem, encApiSlide_rep])
  refine hK _ _ ?_; clear hK K
  refine qthen_normal ?_
  refine AWP.seq ?_
  refine AWP.seq ?_
  refine AWP.region rfl ?_; intro K hK
  (try simp +decide -implicitDefEqProofs only [go_sem, encApiSlide_rep])
  refine aguardK_split (fun hc => ?_) (fun hc => ?_)
  · replace h := bif_f h hc
    (try simp +decide -implicitDefEqProofs only [go_sem, hc, encApiSlide_rep])
    refine aguardK_split (fun hc => ?_) (fun hc => ?_)
    · replace h := bif_f h hc
      (try simp +decide -implicitDefEqProofs only [go_sem, hc, encApiSlide_rep])
      refine aguardK_split (fun hc => ?_) (fun hc => ?_)
      · replace h := bif_f h hc
        (try simp +decide -implicitDefEqProofs only [go_sem, hc, encApiSlide_rep])
        refine hK _ _ ?_; clear hK K
        refine qthen_normal ?_
        refine AWP.cond (acond_split (fun hc => ?_) (fun hc => ?_))
        · replace h := bif_t h hc
          refine AWP.seq ?_
          refine AWP.region rfl ?_; intro K hK
          (try simp +decide -implicitDefEqProofs only [go_sem, encApiSlide_rep])
          refine hK _ _ ?_; clear hK K
          refine qthen_normal ?_
          refine AWP.ret ?_
          refine qthen_ret ?_
          obtain rfl := some_eq h
          first
            | exact absurd h0 (by decide)
            | (simp +decide -implicitDefEqProofs only [go_sem, Try.results15]; exact ⟨0, _, _, by simp, rfl, rfl, ConvG.map (encG_conv S) _⟩)
        replace h := bif_f h hc
        refine AWP.skip ?_
        refine qthen_normal ?_
        refine AWP.seq ?_
        refine AWP.region rfl ?_; intro K hK
        (try simp +decide -implicitDefEqProofs only [go_sem, encApiSlide_rep])
        refine hK _ _ ?_; clear hK K
        refine qthen_normal ?_
        refine AWP.seqJoin (ι := (Int) × (Unit)) (fun zz => [(0, .sl 6 (l.map encApiSlide)), (8, .int .i64 zz.1)]) (fun zz => []) (fun zz => avalanche_GrowF_j1 l zz.1 = some r) (fun zz => ⟨rfl, rfl, rfl⟩) ?_ ?_
        · refine AWP.seq ?_
          refine AWP.region rfl ?_; intro K hK
          (try simp +decide -implicitDefEqProofs only [go_sem, encApiSlide_rep])
          refine hK _ _ ?_; clear hK K
          refine qthen_normal ?_
          refine AWP.cond (acond_split (fun hc => ?_) (fun hc => ?_))
          · replace h := bif_t h hc
            refine AWP.region rfl ?_; intro K hK
            (try simp +decide -implicitDefEqProofs only [go_sem, encApiSlide_rep])
            refine hK _ _ ?_; clear hK K
            refine qthen_normal ?_
            exact ⟨((IntKind.i64.wrap (fresh + (IntKind.i64.wrap (Int.tdiv (IntKind.i64.wrap (gust - (10000 : Int))) (1000 : Int))))), ()), h, by (simp +decide -implicitDefEqProofs only [go_sem, mpE_nil, AVal.int.injEq, Int.natCast_zero, List.replicate_zero, List.length_take, List.length_drop, AVal.own.injEq, reduceCtorEq, Int.reduceAdd, encApiSlide_rep] <;> omega), by (simp +decide -implicitDefEqProofs only [go_sem, mpE_nil, AVal.int.injEq, Int.natCast_zero, List.replicate_zero, List.length_take, List.length_drop, AVal.own.injEq, reduceCtorEq, Int.reduceAdd, encApiSlide_rep] <;> omega)⟩
          replace h := bif_f h hc
          refine AWP.skip ?_
          refine qthen_normal ?_
          exact ⟨(fresh, ()), h, by (simp +decide -implicitDefEqProofs only [go_sem, mpE_nil, AVal.int.injEq, Int.natCast_zero, List.replicate_zero, List.length_take, List.length_drop, AVal.own.injEq, reduceCtorEq, Int.reduceAdd, encApiSlide_rep] <;> omega), by (simp +decide -implicitDefEqProofs only [go_sem, mpE_nil, AVal.int.injEq, Int.natCast_zero, List.replicate_zero, List.length_take, List.length_drop, AVal.own.injEq, reduceCtorEq, Int.reduceAdd, encApiSlide_rep] <;> omega)⟩
        · rintro ⟨more1, ⟨⟩⟩ h
          try dsimp only at h ⊢
          unfold avalanche_GrowF_j1 at h; try dsimp only at h
          refine AWP.seq ?_
          refine AWP.region rfl ?_; intro K hK
          (try simp +decide -implicitDefEqProofs only [go_sem, encApiSlide_rep])
          refine ACall.inline Try.call37 Try.func37 rfl rfl (by show _ ≤ 29; simp) ?_
          (try simp +decide -implicitDefEqProofs only [go_sem, encApiSlide_rep])
          refine AWP.seq ?_
          refine AWP.region rfl ?_; intro K hK
          (try simp +decide -implicitDefEqProofs only [go_sem, encApiSlide_rep])
          refine hK _ _ ?_; clear hK K
          refine qthen_normal ?_
          refine AWP.seq ?_
          refine AWP.region rfl ?_; intro K hK
          (try simp +decide -implicitDefEqProofs only [go_sem, encApiSlide_rep])
          intro hm
          obtain ⟨hk, h⟩ := chk_in h
          (repeat (refine ⟨by first | omega | (simp only [List.length_take, List.length_drop, List.length_append]; omega), ?_⟩)); try simp +decide -implicitDefEqProofs only [go_sem]
          refine hK _ _ ?_; clear hK K
          refine qthen_normal ?_
          refine AWP.seq ?_
          refine AWP.seq ?_
          refine AWP.region rfl ?_; intro K hK
          (try simp +decide -implicitDefEqProofs only [go_sem, encApiSlide_rep])
          intro hm
          refine hK _ _ ?_; clear hK K
          refine qthen_normal ?_
          refine AWP.block ?_
          obtain ⟨o4, hJ4, hO4⟩ := bindE h
          clear h
          refine AWP.loopW (ι := Nat × ((List ApiSlide)) × (Nat)) (fun zz => [(3, .own 0 zz.2.2 0 zz.2.1.length), (9, .sl 6 (l.map encApiSlide)), (10, .int .i64 ((l.length : Nat) : Int)), (11, .int .i64 ((zz.1 : Nat) : Int))]) (fun zz => [.row zz.2.2 6 (zz.2.1.map (encG S))]) (fun zz => zz.1 ≤ l.length ∧ forIx avalanche_GrowF_b2 zz.1 ((l).drop zz.1) zz.2.1 = some o4) (fun zz => l.length - zz.1) (0, [], 0) ⟨Nat.zero_le _, hJ4⟩ (by (simp +decide -implicitDefEqProofs only [go_sem, mpE_nil, AVal.int.injEq, Int.natCast_zero, List.replicate_zero, List.length_take, List.length_drop, AVal.own.injEq, reduceCtorEq, Int.reduceAdd, encApiSlide_rep] <;> omega)) (by (simp +decide -implicitDefEqProofs only [go_sem, mpE_nil, AVal.int.injEq, Int.natCast_zero, List.replicate_zero, List.length_take, List.length_drop, AVal.own.injEq, reduceCtorEq, Int.reduceAdd, encApiSlide_rep] <;> omega)) (fun x => ⟨rfl, rfl, rfl⟩) ?_
          clear hJ4
          rintro ⟨k4, out3, ver4⟩ ⟨hk4, hJ4⟩
          dsimp only at hk4 hJ4 ⊢
          refine AWP.seq ?_
          refine AWP.region rfl ?_; intro K hK
          (try simp +decide -implicitDefEqProofs only [go_sem, encApiSlide_rep])
          refine hK _ _ ?_; clear hK K
          refine qthen_normal ?_
          refine AWP.seq ?_
          refine AWP.cond (acond_split (fun hc => ?_) (fun hc => ?_))
          · have hlt4 : k4 < l.length := by have := of_decide_eq_true hc; omega
            obtain ⟨x_6, b4, hx4_, h, hJ4⟩ := for_cons hJ4 hlt4
            have hx4 := idxL_nat hx4_
            have hw4 : IntKind.i64.wrap (((k4 : Nat) : Int) + 1) = (((k4 : Nat) : Int) + (1 : Int)) := by rw [wrap_i64] <;> omega
            unfold avalanche_GrowF_b2 at h; try dsimp only at h
            refine AWP.skip ?_
            refine qthen_normal ?_
            refine AWP.seq ?_
            refine AWP.block ?_
            refine AWP.seq ?_
            refine AWP.region rfl ?_; intro K hK
            (try simp +decide -implicitDefEqProofs only [go_sem, encApiSlide_rep])
            refine AIdx.of (f := encApiSlide) (l := l) hx4 ?_
            (try simp +decide -implicitDefEqProofs only [go_sem, encApiSlide_rep])
            refine hK _ _ ?_; clear hK K
            refine qthen_normal ?_
            refine AWP.seq ?_
            refine AWP.region rfl ?_; intro K hK
            (try simp +decide -implicitDefEqProofs only [go_sem, encApiSlide_rep])
            obtain ⟨y7, hy7, h⟩ := bindE h
            refine ACall.freshG S Try.call43 (slices_Clone_sint_int_freshT x_6.Zones hy7) rfl (by simp) ?_
            (try simp +decide -implicitDefEqProofs only [go_sem, encApiSlide_rep])
            refine hK _ _ ?_; clear hK K
            refine qthen_normal ?_
            refine AWP.seq ?_
            refine AWP.region rfl ?_; intro K hK
            (try simp +decide -implicitDefEqProofs only [go_sem, encApiSlide_rep])
            obtain ⟨y8, hy8, h⟩ := bindE h
            refine ACall.freshG S Try.call43 (slices_Clone_sint_int_freshT x_6.Lifts hy8) rfl (by simp) ?_
            (try simp +decide -implicitDefEqProofs only [go_sem, encApiSlide_rep])
            refine hK _ _ ?_; clear hK K
            refine qthen_normal ?_
            refine AWP.region rfl ?_; intro K hK
            (try simp +decide -implicitDefEqProofs only [go_sem, encApiSlide_rep])
            obtain ⟨hk, h⟩ := chk_in h
            (repeat (refine ⟨by first | omega | (simp only [List.length_take, List.length_drop, List.length_append]; omega), ?_⟩)); try simp +decide -implicitDefEqProofs only [go_sem]
            refine hK _ _ ?_; clear hK K
            refine qblock_normal ?_
            refine qthen_normal ?_
            refine AWP.region rfl ?_; intro K hK
            (try simp +decide -implicitDefEqProofs only [go_sem, encApiSlide_rep])
            refine hK _ _ ?_; clear hK K
            refine qthen_normal ?_
            obtain rfl := some_eq h
            refine ⟨(k4 + 1, (out3 ++ [(ApiSlide.mk x_6.ID y7 y8 x_6.Limit x_6.Load x_6.Controlled)]), (ver4 + 1)), ⟨by dsimp only; omega, cont_next hJ4⟩, by dsimp only; omega, ?_, ?_⟩
            · (simp +decide -implicitDefEqProofs only [go_sem, mpE_nil, AVal.int.injEq, Int.natCast_zero, List.replicate_zero, List.length_take, List.length_drop, AVal.own.injEq, reduceCtorEq, Int.reduceAdd, hw4, encApiSlide_rep] <;> omega)
            · (simp +decide -implicitDefEqProofs only [go_sem, mpE_nil, AVal.int.injEq, Int.natCast_zero, List.replicate_zero, List.length_take, List.length_drop, AVal.own.injEq, reduceCtorEq, Int.reduceAdd, hw4, encApiSlide_rep] <;> omega)
          · obtain rfl := for_nil hJ4 (fun hl => by have := of_decide_eq_false hc; omega)
            have h := on_next hO4; try dsimp only at h
            have hkl : l.length = k4 := by have := of_decide_eq_false hc; omega
            subst hkl
            refine AWP.exit ?_
            refine qthen_exit ?_
            refine qthen_exit ?_
            refine qblock_same ?_
            refine qthen_normal ?_
            refine AWP.seq ?_
            refine AWP.region rfl ?_; intro K hK
            (try simp +decide -implicitDefEqProofs only [go_sem, encApiSlide_rep])
            refine hK _ _ ?_; clear hK K
            refine qthen_normal ?_
            refine AWP.ret ?_
            (try simp +decide -implicitDefEqProofs only [go_sem, Try.results37, encApiSlide_rep])
            refine hK _ _ ?_; clear hK K
            refine qthen_normal ?_
            refine AWP.seq ?_
            refine AWP.seq ?_
            refine AWP.region rfl ?_; intro K hK
            (try simp +decide -implicitDefEqProofs only [go_sem, encApiSlide_rep])
            intro hm
            refine hK _ _ ?_; clear hK K
            refine qthen_normal ?_
            refine AWP.block ?_
            obtain ⟨o10, hJ10, hO10⟩ := bindE h
            clear h
            refine AWP.loopW (ι := Nat × ((List ApiSlide)) × (Nat)) (fun zz => [(8, .int .i64 more1), (9, .own 0 zz.2.2 0 zz.2.1.length), (36, .int .i64 ((out3.length : Nat) : Int)), (37, .int .i64 ((zz.1 : Nat) : Int))]) (fun zz => [.row zz.2.2 6 (zz.2.1.map (encG S))]) (fun zz => zz.1 ≤ out3.length ∧ forIx (avalanche_GrowF_b3 more1) zz.1 ((out3).drop zz.1) zz.2.1 = some o10) (fun zz => out3.length - zz.1) (0, out3, ver4) ⟨Nat.zero_le _, hJ10⟩ (by (simp +decide -implicitDefEqProofs only [go_sem, mpE_nil, AVal.int.injEq, Int.natCast_zero, List.replicate_zero, List.length_take, List.length_drop, AVal.own.injEq, reduceCtorEq, Int.reduceAdd, encApiSlide_rep] <;> omega)) (by (simp +decide -implicitDefEqProofs only [go_sem, mpE_nil, AVal.int.injEq, Int.natCast_zero, List.replicate_zero, List.length_take, List.length_drop, AVal.own.injEq, reduceCtorEq, Int.reduceAdd, encApiSlide_rep] <;> omega)) (fun x => ⟨rfl, rfl, rfl⟩) ?_
            clear hJ10
            rintro ⟨k10, out9, ver10⟩ ⟨hk10, hJ10⟩
            dsimp only at hk10 hJ10 ⊢
            refine AWP.seq ?_
            refine AWP.region rfl ?_; intro K hK
            (try simp +decide -implicitDefEqProofs only [go_sem, encApiSlide_rep])
            refine hK _ _ ?_; clear hK K
            refine qthen_normal ?_
            refine AWP.seq ?_
            refine AWP.cond (acond_split (fun hc => ?_) (fun hc => ?_))
            · have hlt10 : k10 < out3.length := by have := of_decide_eq_true hc; omega
              obtain ⟨x_12, b10, hx10_, h, hJ10⟩ := for_cons hJ10 hlt10
              have hx10 := idxL_nat hx10_
              have hw10 : IntKind.i64.wrap (((k10 : Nat) : Int) + 1) = (((k10 : Nat) : Int) + (1 : Int)) := by rw [wrap_i64] <;> omega
              unfold avalanche_GrowF_b3 at h; try dsimp only at h
              refine AWP.skip ?_
              refine qthen_normal ?_
              refine AWP.seq ?_
              refine AWP.block ?_
              refine AWP.seq ?_
              refine AWP.region rfl ?_; intro K hK
              (try simp +decide -implicitDefEqProofs only [go_sem, encApiSlide_rep])
              refine hK _ _ ?_; clear hK K
              refine qthen_normal ?_
              refine AWP.region rfl ?_; intro K hK
              (try simp +decide -implicitDefEqProofs only [go_sem, encApiSlide_rep])
              obtain ⟨x_13, hx_13, h⟩ := bindE h
              refine own_in hx_13 (by first | rfl | exact (sortI_len _).symm | (simp only [List.length_append, List.length_cons, List.length_nil, List.length_set, List.length_replicate] <;> omega)) ?_
              (try simp +decide -implicitDefEqProofs only [go_sem, encApiSlide_rep])
              refine AElem.ofNat (f := encG S) (l := out9) (n := k10) hx_13 ?_
              (try simp +decide -implicitDefEqProofs only [go_sem, encApiSlide_rep])
              refine own_in hx_13 (by first | rfl | exact (sortI_len _).symm | (simp only [List.length_append, List.length_cons, List.length_nil, List.length_set, List.length_replicate] <;> omega)) ?_
              (try simp +decide -implicitDefEqProofs only [go_sem, encApiSlide_rep])
              refine AElem.ofNat (f := encG S) (l := out9) (n := k10) hx_13 ?_
              have hs14 := idxL_set (y := (ApiSlide.mk x_13.ID x_13.Zones x_13.Lifts x_13.Limit (if (100000 : Int) < (IntKind.i64.wrap (x_13.Load + more1)) then (100000 : Int) else (IntKind.i64.wrap (x_13.Load + more1))) x_13.Controlled)) hx_13
              (try simp +decide -implicitDefEqProofs only [go_sem, encApiSlide_rep])
              refine hK _ _ ?_; clear hK K
              refine qblock_normal ?_
              refine qthen_normal ?_
              refine AWP.region rfl ?_; intro K hK
              (try simp +decide -implicitDefEqProofs only [go_sem, encApiSlide_rep])
              refine hK _ _ ?_; clear hK K
              refine qthen_normal ?_
              obtain rfl := some_eq h
              refine ⟨(k10 + 1, (out9.set k10 (ApiSlide.mk x_13.ID x_13.Zones x_13.Lifts x_13.Limit (if (100000 : Int) < (IntKind.i64.wrap (x_13.Load + more1)) then (100000 : Int) else (IntKind.i64.wrap (x_13.Load + more1))) x_13.Controlled)), ver10), ⟨by dsimp only; omega, cont_next hJ10⟩, by dsimp only; omega, ?_, ?_⟩
              · (simp +decide -implicitDefEqProofs only [go_sem, mpE_nil, AVal.int.injEq, Int.natCast_zero, List.replicate_zero, List.length_take, List.length_drop, AVal.own.injEq, reduceCtorEq, Int.reduceAdd, hw10, encApiSlide_rep] <;> omega)
              · (simp +decide -implicitDefEqProofs only [go_sem, mpE_nil, AVal.int.injEq, Int.natCast_zero, List.replicate_zero, List.length_take, List.length_drop, AVal.own.injEq, reduceCtorEq, Int.reduceAdd, hw10, encApiSlide_rep] <;> omega)
            · obtain rfl := for_nil hJ10 (fun hl => by have := of_decide_eq_false hc; omega)
              have h := on_next hO10; try dsimp only at h
              have hkl : out3.length = k10 := by have := of_decide_eq_false hc; omega
              subst hkl
              refine AWP.exit ?_
              refine qthen_exit ?_
              refine qthen_exit ?_
              refine qblock_same ?_
              refine qthen_normal ?_
              refine AWP.seq ?_
              refine AWP.region rfl ?_; intro K hK
              (try simp +decide -implicitDefEqProofs only [go_sem, encApiSlide_rep])
              refine hK _ _ ?_; clear hK K
              refine qthen_normal ?_
              refine AWP.ret ?_
              obtain rfl := some_eq h
              first
                | exact absurd h0 (by decide)
                | (simp +decide -implicitDefEqProofs only [go_sem, Try.results15]; exact ⟨0, _, _, by simp, rfl, rfl, ConvG.map (encG_conv S) _⟩)
      · replace h := bif_t h hc
        (try simp +decide -implicitDefEqProofs only [go_sem, hc, Bool.not_false, encApiSlide_rep])
        refine hK _ _ ?_; clear hK K
        refine qthen_normal ?_
        refine AWP.cond (acond_true ?_)
        refine AWP.seq ?_
        refine AWP.region rfl ?_; intro K hK
        (try simp +decide -implicitDefEqProofs only [go_sem, encApiSlide_rep])
        refine hK _ _ ?_; clear hK K
        refine qthen_normal ?_
        refine AWP.ret ?_
        refine qthen_ret ?_
        obtain rfl := some_eq h
        first
          | exact absurd h0 (by decide)
          | (simp +decide -implicitDefEqProofs only [go_sem, Try.results15]; exact ⟨0, _, _, by simp, rfl, rfl, ConvG.map (encG_conv S) _⟩)
    · replace h := bif_t h hc
      (try simp +decide -implicitDefEqProofs only [go_sem, hc, Bool.not_false, encApiSlide_rep])
      refine hK _ _ ?_; clear hK K
      refine qthen_normal ?_
      refine AWP.cond (acond_true ?_)
      refine AWP.seq ?_
      refine AWP.region rfl ?_; intro K hK
      (try simp +decide -implicitDefEqProofs only [go_sem, encApiSlide_rep])
      refine hK _ _ ?_; clear hK K
      refine qthen_normal ?_
      refine AWP.ret ?_
      refine qthen_ret ?_
      obtain rfl := some_eq h
      first
        | exact absurd h0 (by decide)
        | (simp +decide -implicitDefEqProofs only [go_sem, Try.results15]; exact ⟨0, _, _, by simp, rfl, rfl, ConvG.map (encG_conv S) _⟩)
  · replace h := bif_t h hc
    (try simp +decide -implicitDefEqProofs only [go_sem, hc, Bool.not_false, encApiSlide_rep])
    refine hK _ _ ?_; clear hK K
    refine qthen_normal ?_
    refine AWP.cond (acond_true ?_)
    refine AWP.seq ?_
    refine AWP.region rfl ?_; intro K hK
    (try simp +decide -implicitDefEqProofs only [go_sem, encApiSlide_rep])
    refine hK _ _ ?_; clear hK K
    refine qthen_normal ?_
    refine AWP.ret ?_
    refine qthen_ret ?_
    obtain rfl := some_eq h
    first
      | exact absurd h0 (by decide)
      | (simp +decide -implicitDefEqProofs only [go_sem, Try.results15]; exact ⟨0, _, _, by simp, rfl, rfl, ConvG.map (encG_conv S) _⟩)

end
end Go.Proofs.Ytciaimpdnjpajaa
