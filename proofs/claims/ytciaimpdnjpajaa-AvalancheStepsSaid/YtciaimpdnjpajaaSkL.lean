/-
  Weakening of abstract states: what a loop's head needs.
-/
import Derived.Test.YtciaimpdnjpajaaSkK
namespace Go.Ab
open Go Go.RowKit

def vle (v v' : AVal) : Prop := match v' with | .any => True | .sl _ xs => v = v' ∨ (v = .nils ∧ xs = []) | _ => v = v'
def cellsLe : List AVal → List AVal → Prop
  | [], [] => True
  | c :: r, c' :: r' => vle c c' ∧ cellsLe r r'
  | _, _ => False
def objLe (o o' : AObj) : Prop :=
  match o', o with
  | .gone, _ => True
  | .box cs', .box cs => cellsLe cs cs'
  | .row v' sz' xs', .row v sz xs => v = v' ∧ sz = sz' ∧ xs = xs'
  | .mp es', .mp es => es = es'
  | .mpo q' es', .mpo q es => q = q' ∧ es = es'
  | .mpo q' es', .mp es => q' = false ∧ es = es'
  | .it l' c', .it l c => l = l' ∧ c = c'
  | .lp D' n' fr' ps' a' b' s' p', .lp D n fr ps a b s p => D = D' ∧ n = n' ∧ fr = fr' ∧ ps = ps' ∧ a = a' ∧ b = b' ∧ s = s' ∧ p = p'
  | _, _ => False
/-- the heap H, less what lies beyond H' -/
def subH : List AObj → List AObj → Prop
  | _, [] => True
  | o :: r, o' :: r' => objLe o o' ∧ subH r r'
  | [], _ :: _ => False
def subF (fr : Fr) : Fr → Prop
  | [] => True
  | (k, v) :: r => vle (get fr k) v ∧ subF fr r

/-- a value's places lie below m -/
def AVal.bel0 (m : Nat) : AVal → Bool
  | .own r _ _ _ | .ptr r _ | .rptr r _ _ _ | .map r | .iter r | .yld r => Nat.blt r m
  | .agg _ | .tuple _ | .func _ _ => false
  | _ => true
def AVal.belF (m : Nat) : AVal → Bool
  | .func _ cs => cs.all (AVal.bel0 m)
  | v => v.bel0 m
def AVal.bel1 (m : Nat) : AVal → Bool
  | .agg cs => cs.all (AVal.belF m)
  | v => v.belF m
def AVal.bel2 (m : Nat) : AVal → Bool
  | .tuple vs => vs.all (AVal.bel1 m)
  | v => v.bel1 m
def belFr (m : Nat) (fr : Fr) : Bool := fr.all fun p => p.2.bel2 m
def belObj (m : Nat) : AObj → Bool
  | .box cs => cs.all (AVal.bel2 m)
  | .mpo _ es => es.all fun p => p.2.bel2 m
  | .lp _ _ fr _ _ _ _ _ => belFr m fr
  | _ => true
def belH (m : Nat) (H : List AObj) : Bool := H.all (belObj m)

theorem bel2_of0 {m : Nat} {a : AVal} (h : a.bel0 m = true) : a.bel2 m = true := by
  cases a <;> simp_all [AVal.bel0, AVal.belF, AVal.bel1, AVal.bel2]
theorem bel2_ofF {m : Nat} {a : AVal} (h : a.belF m = true) : a.bel2 m = true := by
  cases a <;> simp_all [AVal.bel0, AVal.belF, AVal.bel1, AVal.bel2]
theorem bel2_of1 {m : Nat} {a : AVal} (h : a.bel1 m = true) : a.bel2 m = true := by
  cases a <;> simp_all [AVal.bel0, AVal.belF, AVal.bel1, AVal.bel2]

theorem subH_get : ∀ {H H' : List AObj}, subH H H' → ∀ (r : Nat) o', H'[r]? = some o' → ∃ o, H[r]? = some o ∧ objLe o o'
  | _, [], _, r, o', h => by simp at h
  | o :: H, o1 :: H', h, 0, o', h' => by simp at h'; subst h'; exact ⟨o, rfl, h.1⟩
  | o :: H, o1 :: H', h, r + 1, o', h' => by
    have := subH_get h.2 r o' (by simpa using h')
    simpa using this
  | [], _ :: _, h, _, _, _ => h.elim

theorem subH_len : ∀ {H H' : List AObj}, subH H H' → H'.length ≤ H.length
  | _, [], _ => Nat.zero_le _
  | _ :: _, _ :: _, h => by have := subH_len h.2; simpa using this
  | [], _ :: _, h => h.elim

theorem objLe_notResv {o o' : AObj} (h : objLe o o') : o' ≠ .resv := by
  rintro rfl
  cases o <;> simp [objLe] at h

/-- The context told of less. -/
def Ctx.less (C : Ctx) (H' : List AObj) : Ctx :=
  { C with ρ := fun r => match H'[r]? with | none => none | some .gone => none | _ => C.ρ r, H := H' }

theorem RepV.less {C : Ctx} {w : World} {H' : List AObj} (hs : subH C.H H') {v : Value} {a : AVal} (h : RepV C w v a) :
    (H'.length = C.H.length ∨ a.bel2 H'.length = true) → RepV (C.less H') w v a := by
  have known : ∀ r, C.known r → (H'.length = C.H.length ∨ r < H'.length) → (C.less H').known r := by
    intro r hr hlt
    have hlt : r < H'.length := by
      rcases hlt with hlt | hlt
      · rw [hlt]; exact hr.lt
      · exact hlt
    obtain ⟨o, ho, hle⟩ := subH_get hs r _ (List.getElem?_eq_getElem hlt)
    exact ⟨_, List.getElem?_eq_getElem hlt, objLe_notResv hle⟩
  have lt : ∀ {r : Nat} {b : Bool}, (H'.length = C.H.length ∨ b = true) → (b = true → r < H'.length) → (H'.length = C.H.length ∨ r < H'.length) := by
    intro r b h1 h2
    rcases h1 with h1 | h1
    · exact .inl h1
    · exact .inr (h2 h1)
  induction h with
  | any v => exact fun _ => .any v
  | bool b => exact fun _ => .bool b
  | int k n => exact fun _ => .int k n
  | str s => exact fun _ => .str s
  | agg arr cs h _ ih =>
    intro hb
    refine .agg arr cs h fun i u c a b => ih i u c a b ?_
    rcases hb with hb | hb
    · exact .inl hb
    · simp only [AVal.bel2, AVal.bel1, List.all_eq_true] at hb
      exact .inr (bel2_ofF (hb c (List.mem_of_getElem? b)))
  | tuple arr cs h _ ih =>
    intro hb
    refine .tuple arr cs h fun i u c a b => ih i u c a b ?_
    rcases hb with hb | hb
    · exact .inl hb
    · simp only [AVal.bel2, List.all_eq_true] at hb
      exact .inr (bel2_of1 (hb c (List.mem_of_getElem? b)))
  | nils => exact fun _ => .nils
  | z0 a => exact fun _ => .z0 a
  | sl0 a cap sz hcm => exact fun _ => .sl0 a cap sz hcm
  | sl a len cap xs sz u hsp hlen hlc hcm hA hsz1 hsz hg hcell hrep ih =>
    exact fun _ => .sl a len cap xs sz u hsp hlen hlc hcm hA hsz1 hsz hg hcell fun i k x c a b =>
      RepV.ground (C := C) (C2 := C.less H') (fun b hb => ⟨hb, rfl⟩) (hrep i k x c a b) (AVal.g2_of_g0 (hg x (List.mem_of_getElem? a) c (List.mem_of_getElem? b)))
  | own a len cap r v lo hr hlc hcm hv =>
    intro hb
    refine .own a len cap r v lo (known r hr (lt hb fun h => by simpa [AVal.bel2, AVal.bel1, AVal.belF, AVal.bel0] using h)) hlc hcm fun v' sz xs h' => ?_
    obtain ⟨o, ho, hle⟩ := subH_get hs r _ h'
    cases o <;> simp only [objLe] at hle
    obtain ⟨rfl, rfl, rfl⟩ := hle
    have hρ : (C.less H').ρ r = C.ρ r := by
      simp only [Ctx.less] at h' ⊢; rw [h']
    rw [hρ]
    exact hv _ _ _ ho
  | eptr a cs u hsp hA hg hcell hrep ih =>
    exact fun _ => .eptr a cs u hsp hA hg hcell fun j c b => RepV.ground (C := C) (C2 := C.less H') (fun b hb => ⟨hb, rfl⟩) (hrep j c b) (AVal.g2_of_g0 (hg c (List.mem_of_getElem? b)))
  | ptr a r k hr h =>
    intro hb
    refine .ptr a r k (known r hr (lt hb fun h => by simpa [AVal.bel2, AVal.bel1, AVal.belF, AVal.bel0] using h)) fun cs h' => ?_
    obtain ⟨o, ho, hle⟩ := subH_get hs r _ h'
    cases o <;> simp only [objLe] at hle
    have hρ : (C.less H').ρ r = C.ρ r := by
      simp only [Ctx.less] at h' ⊢; rw [h']
    rw [hρ]
    exact h _ ho
  | rptr a r v i k hr h =>
    intro hb
    refine .rptr a r v i k (known r hr (lt hb fun h => by simpa [AVal.bel2, AVal.bel1, AVal.belF, AVal.bel0] using h)) fun v' sz xs h' => ?_
    obtain ⟨o, ho, hle⟩ := subH_get hs r _ h'
    cases o <;> simp only [objLe] at hle
    obtain ⟨rfl, rfl, rfl⟩ := hle
    have hρ : (C.less H').ρ r = C.ρ r := by
      simp only [Ctx.less] at h' ⊢; rw [h']
    rw [hρ]
    exact h _ _ _ ho
  | nilm => exact fun _ => .nilm
  | pr φ a len cap h hs => exact fun _ => .pr φ a len cap h hs
  | map b r hr h =>
    intro hb
    refine .map b r (known r hr (lt hb fun h => by simpa [AVal.bel2, AVal.bel1, AVal.belF, AVal.bel0] using h)) fun o' h' hl => ?_
    obtain ⟨o, ho, hle⟩ := subH_get hs r _ h'
    have hρ : (C.less H').ρ r = C.ρ r := by
      cases o' <;> first | (cases hl; done) | (simp only [Ctx.less] at h' ⊢; rw [h'])
    rw [hρ]
    exact h _ ho (by cases o' <;> first | (cases hl; done) | (cases o <;> first | rfl | exact hle.elim))
  | vmap0 => exact fun _ => .vmap0
  | vmap b es entries clock hA hg hh hwf hrep ih =>
    exact fun _ => .vmap b es entries clock hA hg hh hwf fun i e p a b => RepV.ground (C := C) (C2 := C.less H') (fun b hb => ⟨hb, rfl⟩) (hrep i e p a b) (AVal.g2_of_g1 (hg p (List.mem_of_getElem? b)))
  | func f arr cs h _ ih =>
    intro hb
    refine .func f arr cs h fun i u c a b => ih i u c a b ?_
    rcases hb with hb | hb
    · exact .inl hb
    · simp only [AVal.bel2, AVal.bel1, AVal.belF, List.all_eq_true] at hb
      exact .inr (bel2_of0 (hb c (List.mem_of_getElem? b)))
  | iter a r hr hsp h =>
    intro hb
    refine .iter a r (known r hr (lt hb fun h => by simpa [AVal.bel2, AVal.bel1, AVal.belF, AVal.bel0] using h)) hsp fun left cur h' => ?_
    obtain ⟨o, ho, hle⟩ := subH_get hs r _ h'
    cases o <;> simp only [objLe] at hle
    have hρ : (C.less H').ρ r = C.ρ r := by
      simp only [Ctx.less] at h' ⊢; rw [h']
    rw [hρ]
    exact h _ _ ho
  | yld b r hr h =>
    intro hb
    refine .yld b r (known r hr (lt hb fun h => by simpa [AVal.bel2, AVal.bel1, AVal.belF, AVal.bel0] using h)) fun o' h' hl => ?_
    obtain ⟨o, ho, hle⟩ := subH_get hs r _ h'
    cases o' <;> first | (cases hl; done) | skip
    cases o <;> simp only [objLe] at hle
    have hρ : (C.less H').ρ r = C.ρ r := by
      simp only [Ctx.less] at h' ⊢; rw [h']
    rw [hρ]
    exact h _ ho rfl

theorem bel_get {m : Nat} {f : Fr} (h : belFr m f = true) (t : Nat) : (get f t).bel2 m = true := by
  induction f with
  | nil => rfl
  | cons p f ih =>
    obtain ⟨j, v⟩ := p
    simp only [belFr, List.all_cons, Bool.and_eq_true] at h
    simp only [get]
    split
    · exact h.1
    · exact ih h.2
theorem cellsLe_get : ∀ {cs cs' : List AVal}, cellsLe cs cs' → cs.length = cs'.length ∧ ∀ (i : Nat) c', cs'[i]? = some c' → ∃ c, cs[i]? = some c ∧ vle c c'
  | [], [], _ => ⟨rfl, by simp⟩
  | c :: r, c1 :: r', h => by
    have ih := cellsLe_get h.2
    refine ⟨by simp [ih.1], fun i c' hi => ?_⟩
    match i, hi with
    | 0, hi => simp at hi; subst hi; exact ⟨c, rfl, h.1⟩
    | i + 1, hi => simpa using ih.2 i c' (by simpa using hi)
  | [], _ :: _, h => h.elim
  | _ :: _, [], h => h.elim

theorem vle_rep {C : Ctx} {w : World} {v : Value} {a a' : AVal} (hl : vle a a') (h : RepV C w v a) : RepV C w v a' := by
  unfold vle at hl
  split at hl
  · exact .any v
  · rcases hl with hl | ⟨rfl, rfl⟩
    · subst hl; exact h
    · cases h; exact .sl0 _ _ _ (Nat.zero_le _)
  · subst hl; exact h

/-- A state told with less: objects beyond a number forgotten, slots and cells forgotten. -/
theorem Sub.weak {outer : List Fr} {fr fr' : Fr} {H H' : List AObj} (hH : subH H H') (hF : subF fr fr')
    (hb : H'.length = H.length ∨ (belFr H'.length fr' = true ∧ belH H'.length H' = true ∧ outer.all (belFr H'.length) = true)) : Sub outer fr H fr' H' := by
  intro W0 A0 ds n outs a w R
  obtain ⟨C, rfl, rfl, I, hF', hO, hn, hd⟩ := R.ex
  have gr : ∀ {v : Value} {x : AVal}, RepV C w v x → x.g2 = true → RepV (C.less H') w v x := fun h hg => RepV.ground (C := C) (C2 := C.less H') (fun b hb => ⟨hb, rfl⟩) h hg
  refine ⟨C.less H', rfl, rfl, ⟨I.below, I.sub, I.old, fun r l hl => ?_, fun r r' l l' h1 h2 e => ?_, fun r o' ho' => ?_⟩, fun t => ?_, ⟨hO.1, fun i t f h1 h2 k => ?_⟩, hn, hd⟩
  · simp only [Ctx.less] at hl ⊢
    split at hl
    · cases hl
    · cases hl
    · rename_i h1 h2
      have hlt : r < H'.length := by
        rcases Nat.lt_or_ge r H'.length with h | h
        · exact h
        · exact absurd (List.getElem?_eq_none h) h1
      have := I.sep r l hl
      exact ⟨hlt, this.2⟩
  · have g : ∀ {r l}, (C.less H').ρ r = some l → C.ρ r = some l := by
      intro r l h
      simp only [Ctx.less] at h
      split at h
      · cases h
      · cases h
      · exact h
    exact I.inj _ _ _ _ (g h1) (g h2) e
  · obtain ⟨o, ho, hle⟩ := subH_get hH r o' ho'
    have hR := I.objs r o ho
    simp only [Ctx.less] at ho'
    cases o' with
    | resv => exact absurd rfl (objLe_notResv hle)
    | gone => show (C.less H').ρ r = none; simp only [Ctx.less, ho']
    | box cs' =>
      have hρ : (C.less H').ρ r = C.ρ r := by simp only [Ctx.less, ho']
      cases o <;> simp only [objLe] at hle
      rename_i cs
      obtain ⟨l, arr, T, e1, e2, e3, e4⟩ := hR
      have hc := cellsLe_get hle
      refine ⟨l, arr, T, by rw [hρ]; exact e1, e2, by rw [e3, hc.1], fun i u c' h1 h2 => ?_⟩
      obtain ⟨c, h3, h4⟩ := hc.2 i c' h2
      refine (vle_rep h4 (e4 i u c h1 h3)).less hH ?_
      rcases hb with hb | ⟨_, hb, _⟩
      · exact .inl hb
      · have := List.all_eq_true.1 hb _ (List.mem_of_getElem? ho')
        exact .inr (List.all_eq_true.1 this c' (List.mem_of_getElem? h2))
    | row v' sz' xs' =>
      have hρ : (C.less H').ρ r = C.ρ r := by simp only [Ctx.less, ho']
      cases o <;> simp only [objLe] at hle
      obtain ⟨rfl, rfl, rfl⟩ := hle
      obtain ⟨e1, e2, e3, e4⟩ := hR
      refine ⟨e1, e2, e3, ?_⟩
      rcases e4 with ⟨e4, e5⟩ | ⟨l, arr, T, e4, e5, e6, e7, e8⟩
      · exact .inl ⟨e4, by rw [hρ]; exact e5⟩
      · refine .inr ⟨l, arr, T, by rw [hρ]; exact e4, e5, e6, e7, fun i k x c h1 h2 => ?_⟩
        obtain ⟨u, hu, hur⟩ := e8 i k x c h1 h2
        exact ⟨u, hu, gr hur (AVal.g2_of_g0 (e3 x (List.mem_of_getElem? h1) c (List.mem_of_getElem? h2)))⟩
    | mp es' =>
      have hρ : (C.less H').ρ r = C.ρ r := by simp only [Ctx.less, ho']
      cases o <;> simp only [objLe] at hle
      subst hle
      obtain ⟨l, en, cl, e1, e2, e3, e4, e5⟩ := hR
      exact ⟨l, en, cl, by rw [hρ]; exact e1, e2, e3, e4, fun i e p h1 h2 => gr (e5 i e p h1 h2) (AVal.g2_of_g1 (e4 p (List.mem_of_getElem? h2)))⟩
    | mpo q' es' =>
      have hρ : (C.less H').ρ r = C.ρ r := by simp only [Ctx.less, ho']
      have hbv : ∀ p ∈ es', H'.length = C.H.length ∨ p.2.bel2 H'.length = true := fun p hp => by
        rcases hb with hb | ⟨_, hb, _⟩
        · exact .inl hb
        · exact .inr (List.all_eq_true.1 (List.all_eq_true.1 hb _ (List.mem_of_getElem? ho')) p hp)
      have key : ∃ l en cl, C.ρ r = some l ∧ w.heap[l.b]? = some (.map en cl) ∧ MapWf q' en cl es' ∧ ∀ (i : Nat) (e : MapEntry) (p : Int × AVal), en[i]? = some e → es'[i]? = some p → RepV C w e.val p.2 := by
        cases o <;> simp only [objLe] at hle
        · obtain ⟨rfl, rfl⟩ := hle; obtain ⟨l, en, cl, e1, e2, e3, e4, e5⟩ := hR; exact ⟨l, en, cl, e1, e2, e3, e5⟩
        · obtain ⟨rfl, rfl⟩ := hle; exact hR
      obtain ⟨l, en, cl, e1, e2, e3, e5⟩ := key
      exact ⟨l, en, cl, by rw [hρ]; exact e1, e2, e3, fun i e p h1 h2 => (e5 i e p h1 h2).less hH (hbv p (List.mem_of_getElem? h2))⟩
    | it l' c' =>
      have hρ : (C.less H').ρ r = C.ρ r := by simp only [Ctx.less, ho']
      cases o <;> simp only [objLe] at hle
      obtain ⟨rfl, rfl⟩ := hle
      obtain ⟨l, e1, e2⟩ := hR
      refine ⟨l, by rw [hρ]; exact e1, ?_⟩
      rcases e2 with e2 | ⟨bm, seen, en, cl, e2, e3, e4, e5, e6, e7, e8⟩
      · exact .inl e2
      · refine .inr ⟨bm, seen, en, cl, e2, e3, e4, e5, e6, ⟨e7.1, fun i e p h1 h2 => ?_⟩, fun p hp => ?_⟩
        · have := e7.2 i e p h1 h2
          exact ⟨this.1, this.2.1, gr this.2.2 (AVal.g2_of_g1 this.2.1)⟩
        · obtain ⟨e, g1, g2, g3, g4, g5⟩ := e8 p hp
          exact ⟨e, g1, g2, g3, g4, gr g5 (AVal.g2_of_g1 g4)⟩
    | lp D' n' f' ps' a' b' s' p' =>
      have hρ : (C.less H').ρ r = C.ρ r := by simp only [Ctx.less, ho']
      cases o <;> simp only [objLe] at hle
      obtain ⟨rfl, rfl, rfl, rfl, rfl, rfl, rfl, rfl⟩ := hle
      obtain ⟨l, rec, h1, h0, h2, h3, h4, h5, h6, h7, h8, h9, h10, h11, h12⟩ := hR
      refine ⟨l, rec, by rw [hρ]; exact h1, h0, h2, h3, h4, h5, h6, h7, h8, h9, fun t => (h10 t).less hH ?_, h11, h12⟩
      rcases hb with hb | ⟨_, hb, _⟩
      · exact .inl hb
      · exact .inr (bel_get (List.all_eq_true.1 hb _ (List.mem_of_getElem? ho')) t)
  · have hb' : H'.length = C.H.length ∨ belFr H'.length fr' = true := by
      rcases hb with hb | hb
      · exact .inl hb
      · exact .inr hb.1
    clear hb
    induction fr' with
    | nil => exact .any _
    | cons p fr' ih =>
      obtain ⟨k, v⟩ := p
      obtain ⟨h1, h2⟩ := hF
      simp only [get]
      split
      · rename_i e
        subst e
        refine (vle_rep h1 (hF' k)).less hH ?_
        rcases hb' with hb' | hb'
        · exact .inl hb'
        · simp only [belFr, List.all_cons, Bool.and_eq_true] at hb'
          exact .inr hb'.1
      · refine ih h2 ?_
        rcases hb' with hb' | hb'
        · exact .inl hb'
        · simp only [belFr, List.all_cons, Bool.and_eq_true] at hb'
          exact .inr hb'.2
  · have hv := hO.2 i t f h1 h2 k
    refine hv.less hH ?_
    rcases hb with hb | ⟨_, _, hb⟩
    · exact .inl hb
    · have := List.all_eq_true.1 hb f (List.mem_of_getElem? h2)
      refine .inr ?_
      clear hv h1 h2
      induction f with
      | nil => rfl
      | cons p f ih =>
        obtain ⟨j, v⟩ := p
        simp only [belFr, List.all_cons, Bool.and_eq_true] at this
        simp only [get]
        split
        · exact this.1
        · exact ih this.2

/-- A nil slice in a slot, told as an empty row of the call's own. -/
theorem Sub.ghost {outer : List Fr} {fr : Fr} {H : List AObj} (k sz : Nat) (hk : get fr k = .nils) (hsz : 1 ≤ sz) : Sub outer fr H ((k, .own H.length 0 0 0) :: fr) (H ++ [.row 0 sz []]) := by
  intro W0 A0 ds n outs a w R
  obtain ⟨C, rfl, rfl, I, hF, hO, hn, hd⟩ := R.ex
  have hid : Free C.H C.H.length := .inl rfl
  have key := I.ghost _ hid (.row 0 sz []) (fun _ => ⟨hsz, by simp, by simp, .inl ⟨rfl, I.noLoc hid⟩⟩)
  have hH : (C.ghost C.H.length (.row 0 sz [])).H = C.H ++ [.row 0 sz []] := by simp [Ctx.ghost, addAt]
  refine ⟨_, hH, rfl, key.1, fun t => ?_, hO.mono key.2, hn, hd⟩
  simp only [get]
  split
  · rename_i e
    subst e
    have hv := hF k
    rw [hk] at hv
    cases hv' : a.tmps.getD k undef <;> rw [hv'] at hv <;> cases hv
    refine .own _ _ _ _ _ _ ⟨_, addAt_self hid, by simp⟩ (Nat.le_refl _) (Nat.zero_le _) fun v' sz' xs' h' => ?_
    simp only [Ctx.ghost] at h'
    rw [addAt_self hid, Option.some.injEq, AObj.row.injEq] at h'
    obtain ⟨rfl, rfl, rfl⟩ := h'
    exact ⟨Nat.le_refl _, fun _ => ⟨by simp, .inl rfl⟩⟩
  · exact (hF t).mono key.2

/-- The map r let go: from now on it is told by its entries. -/
def frzMap (r : Nat) (es : List (Int × AVal)) (v : AVal) : AVal :=
  match v with
  | .map r' => if r' = r then .vmap es else v
  | _ => v
def frzFr (r : Nat) (es : List (Int × AVal)) (fr : Fr) : Fr := fr.map fun p => (p.1, frzMap r es p.2)

theorem get_frzFr (r : Nat) (es : List (Int × AVal)) : ∀ (fr : Fr) (t : Nat), get (frzFr r es fr) t = frzMap r es (get fr t)
  | [], t => rfl
  | (k, v) :: fr, t => by
    have ih := get_frzFr r es fr t
    simp only [frzFr, List.map_cons, get] at ih ⊢
    split
    · rfl
    · exact ih

theorem Sub.freezeMap {outer : List Fr} {fr : Fr} {H : List AObj} (r : Nat) {es : List (Int × AVal)} (hr : H[r]? = some (.mp es)) : Sub outer fr H (frzFr r es fr) (H.set r .gone) := by
  intro W0 A0 ds n outs a w R
  obtain ⟨C, rfl, rfl, I, hF, hO, hn, hd⟩ := R.ex
  have key := I.freeze r
  refine ⟨C.freeze r, rfl, rfl, key.1, fun t => ?_, hO.mono key.2, hn, hd⟩
  rw [get_frzFr]
  have hv := hF t
  unfold frzMap
  split
  · rename_i r' hm
    split
    · rename_i e
      subst e
      rw [hm] at hv
      cases hv' : a.tmps.getD t undef with
      | map ob =>
        rw [hv'] at hv
        cases hv with
        | map b _ hlt hh =>
          obtain ⟨l, hl, rfl⟩ := hh _ hr rfl
          obtain ⟨l', en, cl, h1, h2, h3, h4, h5⟩ := I.objs _ _ hr
          rw [hl, Option.some.injEq] at h1
          subst h1
          exact .vmap _ _ en cl (.inr ⟨l, hl, rfl⟩) h4 h2 h3 fun i e p x y => (h5 i e p x y).mono key.2
      | _ => rw [hv'] at hv; cases hv
    · exact hv.mono key.2
  · exact hv.mono key.2
end Go.Ab
