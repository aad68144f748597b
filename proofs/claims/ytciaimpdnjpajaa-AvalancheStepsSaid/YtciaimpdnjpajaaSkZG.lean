/-
  Calls with an effect: what lies beyond the objects that were there is let go when the call is over.
-/
import Derived.Test.YtciaimpdnjpajaaSkZF
namespace Go.Ab
open Go Go.RowKit
variable {P : Program}

/-- The context without the objects from n on. -/
def Ctx.cut (C : Ctx) (n : Nat) : Ctx := { C with ρ := fun r => if r < n then C.ρ r else none, H := C.H.take n }
theorem Ctx.cut_ρ {C : Ctx} {n r : Nat} (h : r < n) : (C.cut n).ρ r = C.ρ r := if_pos h
theorem Ctx.cut_H {C : Ctx} {n r : Nat} (h : r < n) : (C.cut n).H[r]? = C.H[r]? := by
  show (C.H.take n)[r]? = _
  rw [List.getElem?_take, if_pos h]
theorem cut_known {C : Ctx} {n r : Nat} (h : C.known r) (hr : r < n) : (C.cut n).known r := by
  obtain ⟨o, h1, h2⟩ := h
  exact ⟨o, by rw [Ctx.cut_H hr]; exact h1, h2⟩
theorem arr_some {α : Type} {a : Array α} {i n : Nat} (h : a.size = n) (hi : i < n) : ∃ u, a[i]? = some u := ⟨a[i]'(by omega), by simp [h, hi]⟩
theorem list_lt {α : Type} {l : List α} {i : Nat} {x : α} (h : l[i]? = some x) : i < l.length := (List.getElem?_eq_some_iff.1 h).1

/-- A value that could be told before is told as well without what came later. -/
theorem RepV.cut {C : Ctx} {w : World} {n : Nat} {v : Value} {a : AVal} (h : RepV C w v a) : ∀ {C0 : Ctx} {w0 : World} {v0 : Value}, RepV C0 w0 v0 a → C0.H.length ≤ n → RepV (C.cut n) w v a := by
  have lt : ∀ {C0 : Ctx} {r : Nat}, C0.known r → C0.H.length ≤ n → r < n := fun h hn => by
    obtain ⟨o, h1, _⟩ := h
    have := list_lt h1
    omega
  have gr : ∀ {v : Value} {x : AVal}, RepV C w v x → x.g2 = true → RepV (C.cut n) w v x := fun h hg => RepV.ground (C := C) (C2 := C.cut n) (fun b hb => ⟨hb, rfl⟩) h hg
  induction h with
  | any v => exact fun _ _ => .any v
  | bool b => exact fun _ _ => .bool b
  | int k n => exact fun _ _ => .int k n
  | str s => exact fun _ _ => .str s
  | agg arr cs h _ ih =>
    intro C0 w0 v0 h0 hn
    cases h0 with
    | agg arr0 _ hs0 hc0 =>
      refine .agg arr cs h fun i u c a b => ?_
      obtain ⟨u0, hu0⟩ := arr_some hs0 (list_lt b)
      exact ih i u c a b (hc0 i u0 c hu0 b) hn
  | tuple arr cs h _ ih =>
    intro C0 w0 v0 h0 hn
    cases h0 with
    | tuple arr0 _ hs0 hc0 =>
      refine .tuple arr cs h fun i u c a b => ?_
      obtain ⟨u0, hu0⟩ := arr_some hs0 (list_lt b)
      exact ih i u c a b (hc0 i u0 c hu0 b) hn
  | nils => exact fun _ _ => .nils
  | z0 a => exact fun _ _ => .z0 a
  | sl0 a cap sz hcm => exact fun _ _ => .sl0 a cap sz hcm
  | sl a len cap xs sz u hsp hlen hlc hcm hA hsz1 hsz hg hcell hrep ih =>
    exact fun _ _ => .sl a len cap xs sz u hsp hlen hlc hcm hA hsz1 hsz hg hcell fun i k x c a b => gr (hrep i k x c a b) (AVal.g2_of_g0 (hg x (List.mem_of_getElem? a) c (List.mem_of_getElem? b)))
  | own a len cap r v lo hr hlc hcm hv =>
    intro C0 w0 v0 h0 hn
    cases h0 with
    | own a0 len0 cap0 _ _ _ hr0 _ _ _ =>
      have hlt := lt hr0 hn
      refine .own a _ cap r v lo (cut_known hr hlt) hlc hcm fun v' sz xs h' => ?_
      rw [Ctx.cut_H hlt] at h'
      rw [Ctx.cut_ρ hlt]
      exact hv v' sz xs h'
  | eptr a cs u hsp hA hg hcell hrep ih =>
    exact fun _ _ => .eptr a cs u hsp hA hg hcell fun j c b => gr (hrep j c b) (AVal.g2_of_g0 (hg c (List.mem_of_getElem? b)))
  | ptr a r k hr h =>
    intro C0 w0 v0 h0 hn
    cases h0 with
    | ptr a0 _ _ hr0 _ =>
      have hlt := lt hr0 hn
      refine .ptr a r k (cut_known hr hlt) fun cs h' => ?_
      rw [Ctx.cut_H hlt] at h'
      rw [Ctx.cut_ρ hlt]
      exact h cs h'
  | rptr a r v i k hr h =>
    intro C0 w0 v0 h0 hn
    cases h0 with
    | rptr a0 _ _ _ _ hr0 _ =>
      have hlt := lt hr0 hn
      refine .rptr a r v i k (cut_known hr hlt) fun v' sz xs h' => ?_
      rw [Ctx.cut_H hlt] at h'
      rw [Ctx.cut_ρ hlt]
      exact h v' sz xs h'
  | nilm => exact fun _ _ => .nilm
  | pr φ a len cap h hs => exact fun _ _ => .pr φ a len cap h hs
  | map b r hr h =>
    intro C0 w0 v0 h0 hn
    cases h0 with
    | map b0 _ hr0 _ =>
      have hlt := lt hr0 hn
      refine .map b r (cut_known hr hlt) fun o h' hl => ?_
      rw [Ctx.cut_H hlt] at h'
      rw [Ctx.cut_ρ hlt]
      exact h o h' hl
  | vmap0 => exact fun _ _ => .vmap0
  | vmap b es entries clock hA hg hh hwf hrep ih =>
    exact fun _ _ => .vmap b es entries clock hA hg hh hwf fun i e p a b => gr (hrep i e p a b) (AVal.g2_of_g1 (hg p (List.mem_of_getElem? b)))
  | func f arr cs h _ ih =>
    intro C0 w0 v0 h0 hn
    cases h0 with
    | func _ arr0 _ hs0 hc0 =>
      refine .func f arr cs h fun i u c a b => ?_
      obtain ⟨u0, hu0⟩ := arr_some hs0 (list_lt b)
      exact ih i u c a b (hc0 i u0 c hu0 b) hn
  | iter a r hr hsp h =>
    intro C0 w0 v0 h0 hn
    cases h0 with
    | iter a0 _ hr0 _ _ =>
      have hlt := lt hr0 hn
      refine .iter a r (cut_known hr hlt) hsp fun left cur h' => ?_
      rw [Ctx.cut_H hlt] at h'
      rw [Ctx.cut_ρ hlt]
      exact h left cur h'
  | yld b r hr h =>
    intro C0 w0 v0 h0 hn
    cases h0 with
    | yld b0 _ hr0 _ =>
      have hlt := lt hr0 hn
      refine .yld b r (cut_known hr hlt) fun o h' hl => ?_
      rw [Ctx.cut_H hlt] at h'
      rw [Ctx.cut_ρ hlt]
      exact h o h' hl
theorem RepO.cut {C : Ctx} {w : World} {n r : Nat} {o : AObj} (h : RepO C w r o) (hr : r < n) {C0 : Ctx} {w0 : World} (h0 : RepO C0 w0 r o ∨ ∃ v sz xs, o = .row v sz xs) (hn : C0.H.length ≤ n) : RepO (C.cut n) w r o := by
  have gr : ∀ {v : Value} {x : AVal}, RepV C w v x → x.g2 = true → RepV (C.cut n) w v x := fun h hg => RepV.ground (C := C) (C2 := C.cut n) (fun b hb => ⟨hb, rfl⟩) h hg
  have hρ : (C.cut n).ρ r = C.ρ r := Ctx.cut_ρ hr
  cases o with
  | resv => show (C.cut n).ρ r = none; rw [hρ]; exact h
  | gone => show (C.cut n).ρ r = none; rw [hρ]; exact h
  | box cs =>
    obtain ⟨l, arr, T, e1, e2, e3, e4⟩ := h
    obtain ⟨l0, arr0, T0, f1, f2, f3, f4⟩ := h0.resolve_right (by rintro ⟨_, _, _, h⟩; cases h)
    refine ⟨l, arr, T, by rw [hρ]; exact e1, e2, e3, fun i u c h1 h2 => ?_⟩
    obtain ⟨u0, hu0⟩ := arr_some f3 (list_lt h2)
    exact (e4 i u c h1 h2).cut (f4 i u0 c hu0 h2) hn
  | row v sz xs =>
    obtain ⟨e1, e2, e3, e4⟩ := h
    refine ⟨e1, e2, e3, ?_⟩
    rcases e4 with ⟨e4, e5⟩ | ⟨l, arr, T, e4, e5, e6, e7, e8⟩
    · exact .inl ⟨e4, by rw [hρ]; exact e5⟩
    · refine .inr ⟨l, arr, T, by rw [hρ]; exact e4, e5, e6, e7, fun i k x c h1 h2 => ?_⟩
      obtain ⟨u, hu, hur⟩ := e8 i k x c h1 h2
      exact ⟨u, hu, gr hur (AVal.g2_of_g0 (e3 x (List.mem_of_getElem? h1) c (List.mem_of_getElem? h2)))⟩
  | mp es =>
    obtain ⟨l, en, cl, e1, e2, e3, e4, e5⟩ := h
    exact ⟨l, en, cl, by rw [hρ]; exact e1, e2, e3, e4, fun i e p h1 h2 => gr (e5 i e p h1 h2) (AVal.g2_of_g1 (e4 p (List.mem_of_getElem? h2)))⟩
  | mpo q es =>
    obtain ⟨l, en, cl, e1, e2, e3, e5⟩ := h
    obtain ⟨l0, en0, cl0, f1, f2, f3, f5⟩ := h0.resolve_right (by rintro ⟨_, _, _, h⟩; cases h)
    refine ⟨l, en, cl, by rw [hρ]; exact e1, e2, e3, fun i e p h1 h2 => ?_⟩
    obtain ⟨u0, hu0⟩ := arr_some f3.size (list_lt h2)
    exact (e5 i e p h1 h2).cut (f5 i u0 p hu0 h2) hn
  | it left cur =>
    obtain ⟨l, e1, e2⟩ := h
    refine ⟨l, by rw [hρ]; exact e1, ?_⟩
    rcases e2 with e2 | ⟨bm, seen, en, cl, e2, e3, e4, e5, e6, e7, e8⟩
    · exact .inl e2
    · refine .inr ⟨bm, seen, en, cl, e2, e3, e4, e5, e6, ⟨e7.1, fun i e p h1 h2 => ?_⟩, fun p hp => ?_⟩
      · have := e7.2 i e p h1 h2
        exact ⟨this.1, this.2.1, gr this.2.2 (AVal.g2_of_g1 this.2.1)⟩
      · obtain ⟨e, g1, g2, g3, g4, g5⟩ := e8 p hp
        exact ⟨e, g1, g2, g3, g4, gr g5 (AVal.g2_of_g1 g4)⟩
  | lp D n' f' ps a b s p =>
    obtain ⟨l, rec, h1, h0', h2, h3, h4, h5, h6, h7, h8, h9, h10, h11, h12⟩ := h
    obtain ⟨l0, rec0, k1, k0, k2, k3, k4, k5, k6, k7, k8, k9, k10, _⟩ := h0.resolve_right (by rintro ⟨_, _, _, h⟩; cases h)
    exact ⟨l, rec, by rw [hρ]; exact h1, h0', h2, h3, h4, h5, h6, h7, h8, h9, fun t => (h10 t).cut (k10 t) hn, h11, h12⟩
/-- A call that changes one row of the caller's, walked in place: what it has made of its own is let go. -/
theorem ACall.cutoff {f : FuncId} {args : List AVal} {st : List Fr} {H : List AObj} {r1 : AVal} {r0 v sz : Nat} {xs : List (List AVal)} (hflat : r1.f2 = true)
    (h : ACall P (.func f []) args st H fun r H'' => r = r1 ∧ ∃ T, H'' = H.set r0 (.row v sz xs) ++ T) : ACall P (.func f []) args st H fun r H'' => r = r1 ∧ H'' = H.set r0 (.row v sz xs) := by
  intro W0 C w outs fv vs I hH hO hfv hl hv
  rcases h W0 C w outs fv vs I hH hO hfv hl hv with ⟨fid, caps, e1, e2, e3⟩ | ⟨l, rec, e1, _⟩
  · refine .inl ⟨fid, caps, e1, e2, e3.mono fun e w' ⟨v', r, C', he, ⟨hr, T, hT⟩, hA, hrv, I', hO'⟩ => ?_⟩
    subst hr
    have hlen : (H.set r0 (.row v sz xs)).length = H.length := by simp
    have hcut : (C'.cut H.length).H = H.set r0 (.row v sz xs) := by
      show C'.H.take H.length = _
      rw [hT, ← hlen, List.take_left']
      rfl
    have old : ∀ (r : Nat) o, (C'.cut H.length).H[r]? = some o → r < H.length ∧ C'.H[r]? = some o ∧ (C.H[r]? = some o ∨ ∃ v sz xs, o = .row v sz xs) := fun r o ho => by
      have hlt : r < H.length := by
        rw [hcut] at ho; have := list_lt ho; simpa using this
      refine ⟨hlt, by rw [← Ctx.cut_H hlt]; exact ho, ?_⟩
      rw [hcut, List.getElem?_set] at ho
      split at ho
      · split at ho
        · exact .inr ⟨v, sz, xs, (Option.some.inj ho).symm⟩
        · cases ho
      · exact .inl (by rw [hH]; exact ho)
    have hn : C.H.length ≤ H.length := by rw [hH]; exact Nat.le_refl _
    refine ⟨v', r, C'.cut H.length, he, ⟨rfl, hcut⟩, hA, hrv.flat hflat, ⟨I'.below, I'.sub, I'.old, fun r l hl => ?_, fun r r' l l' h1 h2 e => ?_, fun r o ho => ?_⟩, ⟨hO'.1, fun i t f h1 h2 k => ?_⟩⟩
    · simp only [Ctx.cut] at hl
      split at hl
      · rename_i hlt
        have := I'.sep r l hl
        exact ⟨by rw [hcut, hlen]; exact hlt, this.2⟩
      · cases hl
    · simp only [Ctx.cut] at h1 h2
      split at h1
      · split at h2
        · exact I'.inj _ _ _ _ h1 h2 e
        · cases h2
      · cases h1
    · obtain ⟨g1, g2, g3⟩ := old r o ho
      refine (I'.objs r o g2).cut g1 (C0 := C) (w0 := w) ?_ hn
      rcases g3 with g3 | g3
      · exact .inl (I.objs r o g3)
      · exact .inr g3
    · obtain ⟨t0, ht0⟩ : ∃ t0, outs[i]? = some t0 := by
        have := list_lt h2
        have := hO.1
        exact ⟨outs[i]'(by omega), List.getElem?_eq_getElem (by omega)⟩
      exact (hO'.2 i t f h1 h2 k).cut (hO.2 i t0 f ht0 h2 k) hn
  · rw [e1] at hfv
    cases hfv
theorem DCall.effC {f : FuncId} {args : List AVal} {r : AVal} {id : Nat} {H : List AObj} {K : AVal → Eff → Prop} (r0 v sz : Nat) (xs xs0 : List (List AVal)) (hc : ∀ (args : Array Value) (w : World), (callFunc f args).run P w = .ok (.enter f args) w)
    (hr0 : (ridA args).contains r0 = true) (hx : H[r0]? = some (.row v sz xs0)) (hflat : r.f2 = true) (hcall : ∀ (st : List Fr) (H' : List AObj), H'.length = H.length → H'[r0]? = some (.row v sz xs0) → ACall P (.func f []) args st H' fun r' H'' => r' = r ∧ ∃ T, H'' = H'.set r0 (.row v sz xs) ++ T)
    (h : K r (.set r0 (.row v sz xs))) : DCall P (.func f []) args H id K :=
  DCall.eff r0 _ hc hr0 ⟨_, hx, by simp⟩ (fun st H' h1 h2 => (hcall st H' h1 ((h2 r0 (by simpa using hr0)).trans hx)).cutoff hflat) h
end Go.Ab
