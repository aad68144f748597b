/-
  Layer 50 (avalanche): the walk of the law on new snow in two steps. The paths that it stores into lean on memory that nothing else leans on.
-/
import Derived.Test.YtciaimpdnjpajaaW5
import Derived.Test.YtciaimpdnjpajaaG1
namespace Go.Proofs.Ytciaimpdnjpajaa
open Go Go.Ab
attribute [local irreducible] AWP ACall DCall PureFn Go.Ab.Sub alist dlist AIdx AElem ALook ANext AWPx
set_option maxRecDepth 100000
set_option maxHeartbeats 4000000
set_option linter.unusedSimpArgs false
set_option linter.unusedVariables false
noncomputable section
theorem RepV.blur6 {C : Ctx} {w w2 : World} (hi : IntSt w w2) {v : Value} {xs : List ApiSlide} (h : RepV C w v (.sl 6 (xs.map encApiSlide))) (h0 : ∀ x ∈ xs, x.Zones ≠ []) : ∃ xs' : List ApiSlide, xs'.length = xs.length ∧ (∀ x ∈ xs', x.Zones ≠ []) ∧ RepV C w2 v (.sl 6 (xs'.map encApiSlide)) := by
  generalize hx : xs.map encApiSlide = ys at h
  cases h with
  | sl0 a cap _ hcm =>
    have : xs = [] := by cases xs <;> first | rfl | cases hx
    subst this
    exact ⟨[], rfl, by simp, .sl0 a cap 6 hcm⟩
  | sl a len cap _ _ u hsp hlen hlc hcm hA hsz1 hsz hg hcell hrep =>
    subst hx
    have key : ∀ i, i < xs.length → ∃ x' : ApiSlide, x'.Zones ≠ [] ∧ ∀ k, k < 6 → ∃ uu, w2.cell? ⟨a.block, a.off + (i * 6 + k), none⟩ = some uu ∧ RepV C w2 uu ((encApiSlide x').getD k .any) := by
      intro i hlt
      have hgx : (xs.map encApiSlide)[i]? = some (encApiSlide xs[i]) := by rw [List.getElem?_map, List.getElem?_eq_getElem hlt]; rfl
      have hc : ∀ k, k < 6 → w.cell? ⟨a.block, a.off + (i * 6 + k), none⟩ = some (u (i * 6 + k)) := fun k hk => hcell _ (by simp; omega)
      have int : ∀ k (n : Int), k < 6 → (encApiSlide xs[i])[k]? = some (.int .i64 n) → ∃ n', w2.cell? ⟨a.block, a.off + (i * 6 + k), none⟩ = some (.int .i64 n') := by
        intro k n hk he
        have h1 := (hrep i k _ _ hgx he).intI
        have h2 := hc k hk
        rw [h1] at h2
        rcases hi _ _ h2 with h3 | ⟨z, z', _, h3⟩
        · exact ⟨_, h3⟩
        · exact ⟨_, h3⟩
      have lst : ∀ k (zs : List Int), k < 6 → (encApiSlide xs[i])[k]? = some (.sl 1 (zs.map intC)) → ∃ zs' : List Int, zs'.length = zs.length ∧ ∃ uu, w2.cell? ⟨a.block, a.off + (i * 6 + k), none⟩ = some uu ∧ RepV C w2 uu (.sl 1 (zs'.map intC)) := by
        intro k zs hk he
        have h1 := hrep i k _ _ hgx he
        obtain ⟨zs', hl, h4⟩ := h1.blur1 hi
        rcases hi _ _ (hc k hk) with h3 | ⟨z, z', h3, _⟩
        · exact ⟨zs', hl, _, h3, h4⟩
        · rw [h3] at h1; cases h1
      obtain ⟨n0, e0⟩ := int 0 _ (by decide) rfl
      obtain ⟨z1, l1, u1, e1, r1⟩ := lst 1 _ (by decide) rfl
      obtain ⟨z2, l2, u2, e2, r2⟩ := lst 2 _ (by decide) rfl
      obtain ⟨n3, e3⟩ := int 3 _ (by decide) rfl
      obtain ⟨n4, e4⟩ := int 4 _ (by decide) rfl
      obtain ⟨n5, e5⟩ := int 5 _ (by decide) rfl
      refine ⟨⟨n0, z1, z2, n3, n4, n5⟩, ?_, fun k hk => ?_⟩
      · have := h0 xs[i] (List.getElem_mem hlt)
        intro hz
        simp only at hz
        rw [hz] at l1
        exact this (List.length_eq_zero_iff.1 l1.symm)
      · match k, hk with
        | 0, _ => exact ⟨_, e0, .int _ _⟩
        | 1, _ => exact ⟨_, e1, r1⟩
        | 2, _ => exact ⟨_, e2, r2⟩
        | 3, _ => exact ⟨_, e3, .int _ _⟩
        | 4, _ => exact ⟨_, e4, .int _ _⟩
        | 5, _ => exact ⟨_, e5, .int _ _⟩
        | k + 6, hk => omega
    obtain ⟨xs', hl, hp⟩ := exists_list key
    have hlen' : ∀ x : ApiSlide, (encApiSlide x).length = 6 := fun _ => rfl
    refine ⟨xs', hl, fun x hx => ?_, .sl a len cap _ 6 (fun j => (w2.cell? ⟨a.block, a.off + j, none⟩).getD undef) hsp (by simpa [hl] using hlen) hlc hcm hA (by decide) (fun x hx => ?_) (fun x hx c hc => ?_) (fun j hj => ?_) fun i k x c hx hc => ?_⟩
    · obtain ⟨i, hi⟩ := List.getElem?_of_mem hx
      exact (hp i x hi).1
    · simp only [List.mem_map] at hx; obtain ⟨n, _, rfl⟩ := hx; rfl
    · simp only [List.mem_map] at hx; obtain ⟨n, _, rfl⟩ := hx
      simp only [encApiSlide, List.mem_cons, List.not_mem_nil, or_false] at hc
      rcases hc with rfl | rfl | rfl | rfl | rfl | rfl <;> rfl
    · have hj' : j < xs'.length * 6 := by simpa using hj
      have hi : j / 6 < xs'.length := by omega
      obtain ⟨uu, h1, _⟩ := (hp (j / 6) xs'[j / 6] (List.getElem?_eq_getElem hi)).2 (j % 6) (by omega)
      have : j / 6 * 6 + j % 6 = j := by omega
      rw [this] at h1
      rw [h1]; rfl
    · rw [List.getElem?_map] at hx
      cases hz : xs'[i]? with
      | none => rw [hz] at hx; cases hx
      | some n =>
        rw [hz] at hx
        obtain rfl := Option.some.inj hx
        have hk : k < 6 := by have := (List.getElem?_eq_some_iff.1 hc).1; rwa [hlen'] at this
        obtain ⟨uu, h1, h2⟩ := (hp i n hz).2 k hk
        have hcc : (encApiSlide n).getD k .any = c := by rw [List.getD_eq_getElem?_getD, hc]; rfl
        rw [hcc] at h2
        show RepV C w2 ((w2.cell? ⟨a.block, a.off + (i * 6 + k), none⟩).getD undef) c
        rw [h1]; exact h2

/-- the law, as plain Lean -/
def law50_AvalancheSteps (l : List ApiSlide) (a : Int) (b : Int) : Option (Bool) :=
  (law50_alive).bind fun y1 => (bif (!y1) then some false else (law50_small l).bind fun y2 => (bif (!y2) then some true else (avalanche_Right l).bind fun y3 => (bif (decide (y3 ≠ (0 : Int))) then some true else (bif (decide ((2000 : Int) < (IntKind.i64.wrap ((IntKind.i64.wrap a) + (IntKind.i64.wrap b))))) then some true else (ref50_Own l).bind fun y4 => (avalanche_GrowF l (IntKind.i64.wrap a) (0 : Int)).bind fun y5 => okB (decide (y5.2 = 0)) ((avalanche_GrowF y5.1 (IntKind.i64.wrap b) (10000 : Int)).bind fun y6 => okB (decide (y6.2 = 0)) ((avalanche_GrowF l (IntKind.i64.wrap ((IntKind.i64.wrap a) + (IntKind.i64.wrap b))) (10999 : Int)).bind fun y7 => okB (decide (y7.2 = 0)) ((ref50_SameSlides y6.1 y7.1).bind fun y8 => (bif (!y8) then some false else okB (decide (∀ x ∈ y5.1, x.Zones ≠ [])) ((ref50_SameSlides l y4).bind fun y12 => (bif y12 then (ref50_SameSlides y6.1 y7.1).bind fun y13 => some y13 else some false))))))))))

theorem law50_AvalancheSteps_spec (l : List ApiSlide) (a : Int) (b : Int) {r : Bool} (h : law50_AvalancheSteps l a b = some r) : PureFn Try.prog 9 [.sl 6 (l.map encApiSlide), .int .u16 a, .int .u16 b] (· = .bool r) := by
  refine PureFn.introX Try.func9 rfl rfl (by show _ ≤ 102; simp) rfl (fun r hr => by subst hr; rfl) (fun S => ?_)
  unfold law50_AvalancheSteps at h
  (try simp +decide -implicitDefEqProofs only [go_sem])
  refine AWPx.seq ?_
  refine AWP.region rfl ?_; intro K hK
  (try simp +decide -implicitDefEqProofs only [go_sem])
  refine hK _ _ ?_; clear hK K
  refine qthen_normal ?_
  refine AWPx.seq ?_
  refine AWP.seq ?_
  refine AWP.region rfl ?_; intro K hK
  (try simp +decide -implicitDefEqProofs only [go_sem])
  obtain ⟨y1, hy1, h⟩ := bindE h
  refine ACall.pure Try.call10 (law50_alive_spec hy1) rfl fun _ hr => ?_
  subst hr
  (try simp +decide -implicitDefEqProofs only [go_sem])
  refine hK _ _ ?_; clear hK K
  refine qthen_normal ?_
  refine AWP.cond (acond_split (fun hc => ?_) (fun hc => ?_))
  · replace h := bif_t h hc
    refine AWP.seq ?_
    refine AWP.region rfl ?_; intro K hK
    (try simp +decide -implicitDefEqProofs only [go_sem])
    refine hK _ _ ?_; clear hK K
    refine qthen_normal ?_
    refine AWP.ret ?_
    refine qthen_ret ?_
    obtain rfl := some_eq h
    simp +decide -implicitDefEqProofs only [go_sem, Try.results9]
  replace h := bif_f h hc
  refine AWP.skip ?_
  refine qthen_normal ?_
  refine AWPx.seq ?_
  refine AWP.seq ?_
  refine AWP.region rfl ?_; intro K hK
  (try simp +decide -implicitDefEqProofs only [go_sem])
  obtain ⟨y2, hy2, h⟩ := bindE h
  refine ACall.pure Try.call11 (law50_small_spec l hy2) rfl fun _ hr => ?_
  subst hr
  (try simp +decide -implicitDefEqProofs only [go_sem])
  refine aguardK_split (fun hc => ?_) (fun hc => ?_)
  · replace h := bif_f h hc
    (try simp +decide -implicitDefEqProofs only [go_sem, hc])
    obtain ⟨y3, hy3, h⟩ := bindE h
    refine ACall.pure Try.call12 (avalanche_Right_spec l hy3) rfl fun _ hr => ?_
    subst hr
    (try simp +decide -implicitDefEqProofs only [go_sem])
    refine aguardK_split (fun hc => ?_) (fun hc => ?_)
    · replace h := bif_f h hc
      (try simp +decide -implicitDefEqProofs only [go_sem, hc])
      refine hK _ _ ?_; clear hK K
      refine qthen_normal ?_
      refine AWP.cond (acond_split (fun hc => ?_) (fun hc => ?_))
      · replace h := bif_t h hc
        refine AWP.seq ?_
        refine AWP.region rfl ?_; intro K hK
        (try simp +decide -implicitDefEqProofs only [go_sem])
        refine hK _ _ ?_; clear hK K
        refine qthen_normal ?_
        refine AWP.ret ?_
        refine qthen_ret ?_
        obtain rfl := some_eq h
        simp +decide -implicitDefEqProofs only [go_sem, Try.results9]
      replace h := bif_f h hc
      refine AWP.skip ?_
      refine qthen_normal ?_
      refine AWPx.seq ?_
      refine AWP.region rfl ?_; intro K hK
      (try simp +decide -implicitDefEqProofs only [go_sem])
      obtain ⟨y4, hy4, h⟩ := bindE h
      refine ACall.pure Try.call31 (ref50_Own_spec l hy4) rfl fun _ hr => ?_
      subst hr
      (try simp +decide -implicitDefEqProofs only [go_sem])
      refine hK _ _ ?_; clear hK K
      refine qthen_normal ?_
      refine AWPx.weak [(0, .sl 6 (l.map encApiSlide)), (1, .int .u16 a), (2, .int .u16 b), (7, .sl 6 (y4.map encApiSlide))] (by simp +decide -implicitDefEqProofs only [go_sem]) ⟨rfl, rfl⟩ ?_
      refine AWPx.mark (S := S) (fun S0 => [(0, ln (fun _ => False) S0 6 (l.map encApiSlide)), (1, .int .u16 a), (2, .int .u16 b), (7, ln (fun _ => False) S0 6 (y4.map encApiSlide))]) (by simp) (fun S0 => .cons (.sl _ _) (.cons (.same _) (.cons (.same _) (.cons (.sl _ _) .nil)))) (fun S0 hS0 => ?_)
      refine AWPx.seq ?_
      refine AWP.region rfl ?_; intro K hK
      (try simp +decide -implicitDefEqProofs only [go_sem])
      obtain ⟨y5, hy5, h⟩ := bindE h
      obtain ⟨he5, h⟩ := okB_in h
      refine ACall.freshX S0 Try.call15 (avalanche_Grow_freshT l (IntKind.i64.wrap a) (0 : Int) hy5 he5) (.cons .ln (.cons (.refl rfl) (.cons (.refl rfl) .nil))) (by simp) rfl ?_
      (try simp +decide -implicitDefEqProofs only [go_sem])
      refine hK _ _ ?_; clear hK K
      refine qthen_normal ?_
      refine AWPx.weak [(0, ln (fun _ => False) S0 6 (l.map encApiSlide)), (1, .int .u16 a), (2, .int .u16 b), (7, ln (fun _ => False) S0 6 (y4.map encApiSlide)), (8, lnT (fun b => ¬ S0 b) 6 (y5.1.map encApiSlide)), (9, .int .i64 y5.2)] (by simp +decide -implicitDefEqProofs only [go_sem]) ⟨rfl, rfl⟩ ?_
      refine AWPx.mark (S := S) (fun S1 => [(0, ln (fun _ => False) (fun b => S1 b ∧ S0 b) 6 (l.map encApiSlide)), (1, .int .u16 a), (2, .int .u16 b), (7, ln (fun _ => False) (fun b => S1 b ∧ S0 b) 6 (y4.map encApiSlide)), (8, lnT (fun b => S1 b ∧ ¬ S0 b) 6 (y5.1.map encApiSlide)), (9, .int .i64 y5.2)]) (by simp) (fun S1 => .cons (.ln _ _ _ _) (.cons (.same _) (.cons (.same _) (.cons (.ln _ _ _ _) (.cons (.lnT _ _ _) (.cons (.same _) .nil)))))) (fun S1 hS1 => ?_)
      refine AWPx.seq ?_
      refine AWP.region rfl ?_; intro K hK
      (try simp +decide -implicitDefEqProofs only [go_sem])
      obtain ⟨y6, hy6, h⟩ := bindE h
      obtain ⟨he6, h⟩ := okB_in h
      refine ACall.freshX S1 Try.call15 (avalanche_Grow_freshT y5.1 (IntKind.i64.wrap b) (10000 : Int) hy6 he6) (.cons .lnT (.cons (.refl rfl) (.cons (.refl rfl) .nil))) (by simp) rfl ?_
      (try simp +decide -implicitDefEqProofs only [go_sem])
      refine hK _ _ ?_; clear hK K
      refine qthen_normal ?_
      refine AWPx.seq ?_
      refine AWP.region rfl ?_; intro K hK
      (try simp +decide -implicitDefEqProofs only [go_sem])
      obtain ⟨y7, hy7, h⟩ := bindE h
      obtain ⟨he7, h⟩ := okB_in h
      refine ACall.freshX S1 Try.call15 (avalanche_Grow_freshT l (IntKind.i64.wrap ((IntKind.i64.wrap a) + (IntKind.i64.wrap b))) (10999 : Int) hy7 he7) (.cons .ln (.cons (.refl rfl) (.cons (.refl rfl) .nil))) (by simp) rfl ?_
      (try simp +decide -implicitDefEqProofs only [go_sem])
      refine hK _ _ ?_; clear hK K
      refine qthen_normal ?_
      refine AWPx.seq ?_
      refine AWP.seq ?_
      refine AWP.region rfl ?_; intro K hK
      rw [he5, he6, he7]
      (try simp +decide -implicitDefEqProofs only [go_sem])
      obtain ⟨y8, hy8, h⟩ := bindE h
      refine ACall.pureL Try.call17 (ref50_SameSlides_spec y6.1 y7.1 hy8) (.cons .lnT (.cons .lnT .nil)) fun _ hr => ?_
      subst hr
      (try simp +decide -implicitDefEqProofs only [go_sem])
      refine hK _ _ ?_; clear hK K
      refine qthen_normal ?_
      refine AWP.cond (acond_split (fun hc => ?_) (fun hc => ?_))
      · replace h := bif_t h hc
        refine AWP.seq ?_
        refine AWP.region rfl ?_; intro K hK
        (try simp +decide -implicitDefEqProofs only [go_sem])
        refine hK _ _ ?_; clear hK K
        refine qthen_normal ?_
        refine AWP.ret ?_
        refine qthen_ret ?_
        obtain rfl := some_eq h
        simp +decide -implicitDefEqProofs only [go_sem, Try.results9]
      replace h := bif_f h hc
      obtain ⟨hz0, h⟩ := okB_in h
      refine AWP.skip ?_
      refine qthen_normal ?_
      refine AWPx.weak [(0, ln (fun _ => False) (fun b => S1 b ∧ S0 b) 6 (l.map encApiSlide)), (7, ln (fun _ => False) (fun b => S1 b ∧ S0 b) 6 (y4.map encApiSlide)), (8, lnT (fun b => S1 b ∧ ¬ S0 b) 6 (y5.1.map encApiSlide)), (10, lnT (fun b => ¬ S1 b) 6 (y6.1.map encApiSlide)), (12, lnT (fun b => ¬ S1 b) 6 (y7.1.map encApiSlide))] (by simp +decide -implicitDefEqProofs only [go_sem]) ⟨rfl, rfl⟩ ?_
      clear hc hS1 hy1 hy2 hy3 hy8
      delta AWPx
      intro W0 A0 ds outs act0 w0 hS R
      refine wpIn_seq (wpIn_seq (wpIn_mono (AWP.run (Q := fun e fr' H' => e = .normal ∧ fr' = [(14, .int .i64 0), (0, ln (fun _ => False) (fun b => S1 b ∧ S0 b) 6 (l.map encApiSlide)), (7, ln (fun _ => False) (fun b => S1 b ∧ S0 b) 6 (y4.map encApiSlide)), (8, lnT (fun b => S1 b ∧ ¬ S0 b) 6 (y5.1.map encApiSlide)), (10, lnT (fun b => ¬ S1 b) 6 (y6.1.map encApiSlide)), (12, lnT (fun b => ¬ S1 b) 6 (y7.1.map encApiSlide))] ∧ H' = []) R ?_) ?_))
      · refine AWP.region rfl ?_; intro K hK
        (try simp +decide -implicitDefEqProofs only [go_sem])
        exact hK _ _ ⟨rfl, rfl, rfl⟩
      rintro e a1 w1 ⟨fr', H', ⟨rfl, rfl, rfl⟩, R1⟩
      obtain ⟨C, hH, hA0, I, hF, hO, hn, hd⟩ := R1.ex
      have h0 : RepV C w1 (a1.tmps.getD 0 undef) (ln (fun _ => False) (fun b => S1 b ∧ S0 b) 6 (l.map encApiSlide)) := hF 0
      have h7 : RepV C w1 (a1.tmps.getD 7 undef) (ln (fun _ => False) (fun b => S1 b ∧ S0 b) 6 (y4.map encApiSlide)) := hF 7
      have h8 : RepV C w1 (a1.tmps.getD 8 undef) (lnT (fun b => S1 b ∧ ¬ S0 b) 6 (y5.1.map encApiSlide)) := hF 8
      have h10 : RepV C w1 (a1.tmps.getD 10 undef) (lnT (fun b => ¬ S1 b) 6 (y6.1.map encApiSlide)) := hF 10
      have h12 : RepV C w1 (a1.tmps.getD 12 undef) (lnT (fun b => ¬ S1 b) 6 (y7.1.map encApiSlide)) := hF 12
      have h14 : RepV C w1 (a1.tmps.getD 14 undef) (.int .i64 0) := hF 14
      generalize hB : (fun b => C.A b ∧ (S1 b ∧ ¬ S0 b) ∧ Thaw w1 b) = B
      have hBA : ∀ b, B b → C.A b ∧ S1 b ∧ ¬ S0 b ∧ Thaw w1 b := by subst hB; exact fun b h => ⟨h.1, h.2.1.1, h.2.1.2, h.2.2⟩
      have h8' : RepV (Ctx.imm B) w1 (a1.tmps.getD 8 undef) (.sl 6 (y5.1.map encApiSlide)) := by subst hB; exact RepV.lnTI.1 h8
      generalize hv0 : a1.tmps.getD 0 undef = v0 at *
      generalize hv7 : a1.tmps.getD 7 undef = v7 at *
      generalize hv10 : a1.tmps.getD 10 undef = v10 at *
      generalize hv12 : a1.tmps.getD 12 undef = v12 at *
      refine wpIn_block (wpIn_loop_ghost (fun m act w => ∃ (k : Nat) (xs : List ApiSlide), m = y5.1.length - k ∧ k ≤ y5.1.length ∧ xs.length = y5.1.length ∧ (∀ x ∈ xs, x.Zones ≠ []) ∧ RepF (Ctx.imm B) w act.tmps [(0, same v0), (7, same v7), (8, .sl 6 (xs.map encApiSlide)), (10, same v10), (12, same v12), (14, .int .i64 ((k : Nat) : Int))] ∧
        act.tmps.size = 102 ∧ act.defers = ds ∧ w.os = w1.os ∧ w.tape = w1.tape ∧ w.output = w1.output ∧ w.heap.size = w1.heap.size ∧ (∀ b, ¬ B b → w.heap[b]? = w1.heap[b]?) ∧ ∀ b, B b → Thaw w b) y5.1.length ⟨0, y5.1, by omega, Nat.zero_le _, rfl, hz0, ?_, hn, hd, rfl, rfl, rfl, rfl, fun _ _ => rfl, fun b hb => (hBA b hb).2.2.2⟩ ?_)
      · intro t
        by_cases e0 : t = 0
        · subst e0; show RepV _ _ (a1.tmps.getD 0 undef) (same v0); rw [hv0]; exact same_rep h0
        by_cases e7 : t = 7
        · subst e7; show RepV _ _ (a1.tmps.getD 7 undef) (same v7); rw [hv7]; exact same_rep h7
        by_cases e8 : t = 8
        · subst e8; exact h8'
        by_cases e10 : t = 10
        · subst e10; show RepV _ _ (a1.tmps.getD 10 undef) (same v10); rw [hv10]; exact same_rep h10
        by_cases e12 : t = 12
        · subst e12; show RepV _ _ (a1.tmps.getD 12 undef) (same v12); rw [hv12]; exact same_rep h12
        by_cases e14 : t = 14
        · subst e14; exact h14.flat rfl
        · have : Go.Ab.get [(0, same v0), (7, same v7), (8, .sl 6 (y5.1.map encApiSlide)), (10, same v10), (12, same v12), (14, .int .i64 ((0 : Nat) : Int))] t = .any := by
            simp only [Go.Ab.get, if_neg (Ne.symm e0), if_neg (Ne.symm e7), if_neg (Ne.symm e8), if_neg (Ne.symm e10), if_neg (Ne.symm e12), if_neg (Ne.symm e14)]
          rw [this]; exact .any _
      rintro m act w ⟨k, xs, rfl, hk, hxl, hxz, hF, hn, hd, hos, htp, hout, hsz, hother, hth⟩
      have hBs : ∀ b, B b → b < w.heap.size := fun b hb => by rw [hsz]; exact I.sub b (hBA b hb).1
      refine wpIn_seq (wpIn_seq (qregion hBs rfl rfl hF hn hd fun K hK => ?_))
      (try simp +decide -implicitDefEqProofs only [go_sem, qalist])
      intro hm
      refine hK _ ?_; clear hK K
      intro a2 hF2 hn2 hd2
      refine wpIn_cond_split (t := decide (((k : Nat) : Int) < ((xs.length : Nat) : Int))) ((ev_rep hF2 _).boolI) (fun hc => ?_) (fun hc => ?_)
      · have hlt : k < xs.length := by have := of_decide_eq_true hc; omega
        have hx : idxL xs ((k : Nat) : Int) = some xs[k] := idxL_nat (List.getElem?_eq_getElem hlt)
        have hzz := hxz xs[k] (List.getElem_mem hlt)
        refine wpIn_skip ?_
        refine wpIn_seq (wpIn_block (wpIn_seq (wpIn_seq (qregion hBs rfl rfl (hF2.weak (F := [(0, same v0), (7, same v7), (8, .sl 6 (xs.map encApiSlide)), (10, same v10), (12, same v12), (14, .int .i64 ((k : Nat) : Int))]) (by simp +decide -implicitDefEqProofs only [go_sem])) hn2 hd2 fun K hK => ?_))))
        (try simp +decide -implicitDefEqProofs only [go_sem, qalist])
        refine AIdx.of (f := encApiSlide) (l := xs) hx ?_
        (try simp +decide -implicitDefEqProofs only [go_sem])
        intro hm
        refine hK _ ?_; clear hK K
        intro a3 hF3 hn3 hd3
        have hlen0 : xs[k].Zones.length ≠ 0 := fun e => hzz (List.length_eq_zero_iff.1 e)
        refine wpIn_cond_false (by rw [(ev_rep hF3 (.tmp 87)).boolI (b := decide (((xs[k].Zones.length : Nat) : Int) = 0))]; congr 1; exact decide_eq_false (by omega)) ?_
        refine wpIn_skip ?_
        have hi0 : idxL xs[k].Zones 0 = some (xs[k].Zones.head hzz) := idxL_zero (by rw [← List.head?_eq_getElem?]; exact List.head?_eq_some_head hzz)
        refine qregionL 6 rfl rfl hBs rfl rfl (hF3.weak (F := [(0, same v0), (7, same v7), (8, .sl 6 (xs.map encApiSlide)), (10, same v10), (12, same v12), (14, .int .i64 ((k : Nat) : Int))]) (by simp +decide -implicitDefEqProofs only [go_sem])) hn3 hd3 (by intro c hc; cases hc) rfl fun K hK => ?_
        (try simp +decide -implicitDefEqProofs only [go_sem, qalist, List.take_succ_cons, List.take_zero])
        refine AIdx.of (f := encApiSlide) (l := xs) hx ?_
        (try simp +decide -implicitDefEqProofs only [go_sem])
        refine AIdx.of (f := intC) (l := xs[k].Zones) hi0 ?_
        (try simp +decide -implicitDefEqProofs only [go_sem])
        refine hK _ ?_; clear hK K
        intro a4 hF4 hn4 hd4
        obtain ⟨w2, g, hBg, hrun, gos, gtp, gout, gsz, goth, gth, gint⟩ := store_int (P := Try.prog) (T := 3) (z' := 0) ok3 sz3 hth (ev_rep hF4 (.tmp 93))
        refine ⟨w2, by simp only [execOp]; rw [show a4.eval (.const (.int .i64 0)) = .int .i64 0 from rfl]; simp only [Sem.run_bind, hrun, Result.andThen_ok, Sem.run_pure], ?_⟩
        obtain ⟨xs', hxl', hxz', hr8⟩ := RepV.blur6 gint (show RepV (Ctx.imm B) w (a4.tmps.getD 8 undef) (.sl 6 (xs.map encApiSlide)) from hF4 8) hxz
        have hB2 : ∀ b, B b → b < w2.heap.size := fun b hb => by rw [gsz]; exact hBs b hb
        have hFn : RepF (Ctx.imm B) w2 a4.tmps [(0, same v0), (7, same v7), (8, .sl 6 (xs'.map encApiSlide)), (10, same v10), (12, same v12), (14, .int .i64 ((k : Nat) : Int))] := by
          intro t
          by_cases e0 : t = 0
          · subst e0; exact (show RepV (Ctx.imm B) w (a4.tmps.getD 0 undef) (same v0) from hF4 0).same_any
          by_cases e7 : t = 7
          · subst e7; exact (show RepV (Ctx.imm B) w (a4.tmps.getD 7 undef) (same v7) from hF4 7).same_any
          by_cases e8 : t = 8
          · subst e8; exact hr8
          by_cases e10 : t = 10
          · subst e10; exact (show RepV (Ctx.imm B) w (a4.tmps.getD 10 undef) (same v10) from hF4 10).same_any
          by_cases e12 : t = 12
          · subst e12; exact (show RepV (Ctx.imm B) w (a4.tmps.getD 12 undef) (same v12) from hF4 12).same_any
          by_cases e14 : t = 14
          · subst e14; exact (show RepV (Ctx.imm B) w (a4.tmps.getD 14 undef) (.int .i64 ((k : Nat) : Int)) from hF4 14).flat rfl
          · have : Go.Ab.get [(0, same v0), (7, same v7), (8, .sl 6 (xs'.map encApiSlide)), (10, same v10), (12, same v12), (14, .int .i64 ((k : Nat) : Int))] t = .any := by
              simp only [Go.Ab.get, if_neg (Ne.symm e0), if_neg (Ne.symm e7), if_neg (Ne.symm e8), if_neg (Ne.symm e10), if_neg (Ne.symm e12), if_neg (Ne.symm e14)]
            rw [this]; exact .any _
        show Code.wpIn _ _ _ _ _ a4 w2
        refine qregion hB2 rfl rfl hFn hn4 hd4 fun K hK => ?_
        (try simp +decide -implicitDefEqProofs only [go_sem, qalist])
        refine hK _ ?_; clear hK K
        intro a5 hF5 hn5 hd5
        have hw : IntKind.i64.wrap (((k : Nat) : Int) + 1) = (((k + 1 : Nat)) : Int) := by rw [wrap_i64] <;> omega
        refine ⟨y5.1.length - (k + 1), by omega, k + 1, xs', rfl, by omega, by omega, hxz', hF5.weak ?_, hn5, hd5, gos.trans hos, gtp.trans htp, gout.trans hout, gsz.trans hsz, fun b hb => ?_, fun b hb => ?_⟩
        · rw [hw]
          simp +decide -implicitDefEqProofs only [go_sem]
        · rw [goth b fun e => hb (e ▸ hBg)]; exact hother b hb
        · by_cases e : b = g
          · subst e; exact gth
          · obtain ⟨arr, T, hh⟩ := hth b hb
            exact ⟨arr, T, by rw [goth b e]; exact hh⟩
      · refine wpIn_exit ?_
        have hFE : ∀ (t : Nat) (v : Value) (ys : List ApiSlide), a2.tmps.getD t undef = v → RepV ⟨A0, fun b => C.A b ∧ ¬ B b, fun _ => none, []⟩ w v (.sl 6 (ys.map encApiSlide)) → RepV ⟨A0, fun b => C.A b ∧ ¬ B b, fun _ => none, []⟩ w (a2.tmps.getD t undef) (.sl 6 (ys.map encApiSlide)) := fun t v ys h r => by rw [h]; exact r
        have e0 : a2.tmps.getD 0 undef = v0 := RepV.sameI (C := Ctx.imm B) (w := w) (hF2 0)
        have e7 : a2.tmps.getD 7 undef = v7 := RepV.sameI (C := Ctx.imm B) (w := w) (hF2 7)
        have e10 : a2.tmps.getD 10 undef = v10 := RepV.sameI (C := Ctx.imm B) (w := w) (hF2 10)
        have e12 : a2.tmps.getD 12 undef = v12 := RepV.sameI (C := Ctx.imm B) (w := w) (hF2 12)
        have k1 : ∀ (v : Value) (ys : List ApiSlide), RepV C w1 v (ln (fun _ => False) (fun b => S1 b ∧ S0 b) 6 (ys.map encApiSlide)) → RepV ⟨A0, fun b => C.A b ∧ ¬ B b, fun _ => none, []⟩ w v (.sl 6 (ys.map encApiSlide)) := fun v ys h =>
          (RepV.lnI.1 h).2.keep (C := Ctx.imm fun b => C.A b ∧ S1 b ∧ S0 b) (C2 := ⟨A0, fun b => C.A b ∧ ¬ B b, fun _ => none, []⟩) (fun b hb => ⟨⟨hb.1, fun h => (hBA b h).2.2.1 hb.2.2⟩, .inl (hother b fun h => (hBA b h).2.2.1 hb.2.2)⟩) rfl
        have k2 : ∀ (v : Value) (ys : List ApiSlide), RepV C w1 v (lnT (fun b => ¬ S1 b) 6 (ys.map encApiSlide)) → RepV ⟨A0, fun b => C.A b ∧ ¬ B b, fun _ => none, []⟩ w v (.sl 6 (ys.map encApiSlide)) := fun v ys h =>
          (RepV.lnTI.1 h).keep (C := Ctx.imm fun b => C.A b ∧ ¬ S1 b ∧ Thaw w1 b) (C2 := ⟨A0, fun b => C.A b ∧ ¬ B b, fun _ => none, []⟩) (fun b hb => ⟨⟨hb.1, fun h => hb.2.1 (hBA b h).2.1⟩, .inl (hother b fun h => hb.2.1 (hBA b h).2.1)⟩) rfl
        have nB : ∀ b, b < W0.heap.size → ¬ B b := fun b hb h => (hBA b h).2.2.1 (hS0 b (hS b hb))
        refine AWP.run (outs := []) (outer := []) (fr := [(0, .sl 6 (l.map encApiSlide)), (7, .sl 6 (y4.map encApiSlide)), (10, .sl 6 (y6.1.map encApiSlide)), (12, .sl 6 (y7.1.map encApiSlide))]) (H := []) ⟨⟨A0, fun b => C.A b ∧ ¬ B b, fun _ => none, []⟩, rfl, rfl, ⟨⟨hos.trans I.below.os, htp.trans I.below.tape, hout.trans I.below.output, by rw [hsz]; exact I.below.size, fun b hb => (hother b (nB b hb)).trans (I.below.block b hb)⟩, fun b hb => by rw [hsz]; exact I.sub b hb.1, fun b hb hlt => by have := I.old b hb.1 hlt; rw [hA0] at this; exact this, by simp, by simp, by simp⟩, fun t => ?_, .nil, hn2, hd2⟩ ?_
        · by_cases t0 : t = 0
          · subst t0; exact hFE 0 v0 l e0 (k1 _ _ h0)
          by_cases t7 : t = 7
          · subst t7; exact hFE 7 v7 y4 e7 (k1 _ _ h7)
          by_cases t10 : t = 10
          · subst t10; exact hFE 10 v10 y6.1 e10 (k2 _ _ h10)
          by_cases t12 : t = 12
          · subst t12; exact hFE 12 v12 y7.1 e12 (k2 _ _ h12)
          · have : Go.Ab.get [(0, .sl 6 (l.map encApiSlide)), (7, .sl 6 (y4.map encApiSlide)), (10, .sl 6 (y6.1.map encApiSlide)), (12, .sl 6 (y7.1.map encApiSlide))] t = .any := by
              simp only [Go.Ab.get, if_neg (Ne.symm t0), if_neg (Ne.symm t7), if_neg (Ne.symm t10), if_neg (Ne.symm t12)]
            rw [this]; exact .any _
        · refine AWP.seq ?_
          refine AWP.region rfl ?_; intro K hK
          (try simp +decide -implicitDefEqProofs only [go_sem])
          obtain ⟨y12, hy12, h⟩ := bindE h
          refine ACall.pure Try.call17 (ref50_SameSlides_spec l y4 hy12) rfl fun _ hr => ?_
          subst hr
          (try simp +decide -implicitDefEqProofs only [go_sem])
          refine aguardK_split (fun hc => ?_) (fun hc => ?_)
          · replace h := bif_t h hc
            (try simp +decide -implicitDefEqProofs only [go_sem, hc])
            obtain ⟨y13, hy13, h⟩ := bindE h
            refine ACall.pure Try.call17 (ref50_SameSlides_spec y6.1 y7.1 hy13) rfl fun _ hr => ?_
            subst hr
            (try simp +decide -implicitDefEqProofs only [go_sem])
            refine hK _ _ ?_; clear hK K
            refine qthen_normal ?_
            refine AWP.ret ?_
            obtain rfl := some_eq h
            simp +decide -implicitDefEqProofs only [go_sem, Try.results9]
          · replace h := bif_f h hc
            (try simp +decide -implicitDefEqProofs only [go_sem, hc, Bool.not_true])
            refine hK _ _ ?_; clear hK K
            refine qthen_normal ?_
            refine AWP.ret ?_
            obtain rfl := some_eq h
            simp +decide -implicitDefEqProofs only [go_sem, Try.results9]
    · replace h := bif_t h hc
      (try simp +decide -implicitDefEqProofs only [go_sem, hc, Bool.not_false])
      refine hK _ _ ?_; clear hK K
      refine qthen_normal ?_
      refine AWP.cond (acond_true ?_)
      refine AWP.seq ?_
      refine AWP.region rfl ?_; intro K hK
      (try simp +decide -implicitDefEqProofs only [go_sem])
      refine hK _ _ ?_; clear hK K
      refine qthen_normal ?_
      refine AWP.ret ?_
      refine qthen_ret ?_
      obtain rfl := some_eq h
      simp +decide -implicitDefEqProofs only [go_sem, Try.results9]
  · replace h := bif_t h hc
    (try simp +decide -implicitDefEqProofs only [go_sem, hc, Bool.not_false])
    refine hK _ _ ?_; clear hK K
    refine qthen_normal ?_
    refine AWP.cond (acond_true ?_)
    refine AWP.seq ?_
    refine AWP.region rfl ?_; intro K hK
    (try simp +decide -implicitDefEqProofs only [go_sem])
    refine hK _ _ ?_; clear hK K
    refine qthen_normal ?_
    refine AWP.ret ?_
    refine qthen_ret ?_
    obtain rfl := some_eq h
    simp +decide -implicitDefEqProofs only [go_sem, Try.results9]
end
end Go.Proofs.Ytciaimpdnjpajaa
