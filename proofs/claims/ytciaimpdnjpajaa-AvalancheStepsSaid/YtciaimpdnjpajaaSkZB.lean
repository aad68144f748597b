/-
  A map of rows of the call's own: m[k] = append(m[k], x) in a loop.
-/
import Derived.Test.YtciaimpdnjpajaaSkZA
namespace Go.Ab
open Go Go.RowKit

theorem ALook.mk' {es : List (Int × AVal)} {n : Int} {z : AVal} {K : AVal → Bool → Prop} (h1 : ∀ v, alook es n = some v → K v true) (h2 : alook es n = none → K z false) : ALook es n z K := ⟨h1, h2⟩
theorem disj_iff {S T : List Nat} : disj S T = true ↔ ∀ r ∈ S, r ∉ T := by
  unfold disj
  rw [List.all_eq_true]
  exact ⟨fun h r hr hT => by have := h r hr; simp [hT] at this, fun h r hr => by have := h r hr; simp [this]⟩
/-- what a drawn region has touched, told with other numbers -/
theorem okLog_ren {A : List Nat} (σ : Nat → Nat) (n : Nat) (log : Log) (hl : (log.all fun p => p.2.1.all fun a => Nat.blt a n) = true) (hσ : ∀ a b, a < n → b < n → σ a = σ b → a = b) (h : okLog A log = true) :
    okLog A (log.map fun p => (p.1, p.2.1.map σ, p.2.2)) = true := by
  unfold okLog at *
  rw [List.all_map, List.all_eq_true]
  rw [List.all_eq_true] at h
  intro p hp
  have h1 := h p hp
  rw [List.all_eq_true] at h1
  simp only [Function.comp_apply]
  rw [List.all_map, List.all_eq_true]
  intro q hq
  have h2 := h1 q hq
  have hd : disj (p.2.1.map σ) (q.2.1.map σ) = disj p.2.1 q.2.1 := by
    have e1 := List.all_eq_true.1 (List.all_eq_true.1 hl p hp)
    have e2 := List.all_eq_true.1 (List.all_eq_true.1 hl q hq)
    rw [Bool.eq_iff_iff, disj_iff, disj_iff]
    constructor
    · intro h r hr hT
      exact h (σ r) (List.mem_map_of_mem hr) (List.mem_map_of_mem hT)
    · intro h r hr hT
      obtain ⟨a, ha, rfl⟩ := List.mem_map.1 hr
      obtain ⟨b, hb, e⟩ := List.mem_map.1 hT
      have := hσ b a (by simpa using e2 b hb) (by simpa using e1 a ha) e
      subst this
      exact h b ha hb
  simp only [Function.comp_apply, hd]
  exact h2

/-- the keys of a map, sorted, in the words of the plain functions -/
theorem ACall.sortedKeysM {P : Program} {f c : FuncId} {kT : TypeId} {r b : Nat} {β : Type} {fv : β → AVal} {m : List (Int × β)} {st : List Fr} {H : List AObj} {K : AVal → List AObj → Prop} (hc : ∀ (args : Array Value) (w : World), (callFunc f args).run P w = .ok (.enter f args) w)
    (spec : SortedKeysI P f c kT) (hb : H[b]? = some (.box [.map r])) (hr : H[r]? = some (.mp (mpE fv m))) (hk : ∀ k ∈ mkeys m, -9223372036854775808 ≤ k ∧ k ≤ 9223372036854775807) (hn : m.length ≤ 549755813888)
    (h : K (.own H.length 0 0 (Go.Ab.sortI (mkeys m)).length) (H ++ [.row 0 1 ((Go.Ab.sortI (mkeys m)).map intC)])) : ACall P (.func f []) [.func c [.ptr b 0]] st H K := by
  have e : (mpE fv m).map (·.1) = mkeys m := by simp [mpE, mkeys]
  refine ACall.sortedKeysI hc spec hb hr (fun p hp => hk _ ?_) (by rw [mpE_len]; exact hn) ?_
  · rw [← e]; exact List.mem_map_of_mem hp
  · rw [e, mpE_len]
    rw [sortI_len] at h
    simpa [mkeys] using h

/-! ### groups: the entries, each a handle on a row; the rows -/
def gE : Nat → List (Int × List Int) → List (Int × AVal)
  | _, [] => []
  | n, (k, xs) :: r => (k, .own n (xs.length - 1) 0 xs.length) :: gE (n + 1) r
def gR (g : List (Int × List Int)) : List AObj := g.map fun p => .row (p.2.length - 1) 1 (p.2.map intC)
def gadd (g : List (Int × List Int)) (k v : Int) : List (Int × List Int) := mset g k (mget [] g k ++ [v])
def slV_intC (xs : List Int) : AVal := .sl 1 (xs.map intC)

theorem apN {α : Type} (A : List α) (b : α) (C : List α) : A ++ [b] ++ C = A ++ b :: C := by simp
theorem ga0 {α : Type} (A : List α) (b : α) (B : List α) : (A ++ b :: B)[A.length]? = some b := by simp
theorem ga1 {α : Type} (A : List α) (b c : α) (B : List α) : (A ++ b :: c :: B)[A.length + 1]? = some c := by simp
theorem ga2 {α : Type} (A : List α) (b c d : α) (B : List α) : (A ++ b :: c :: d :: B)[A.length + 2]? = some d := by simp
theorem sa0 {α : Type} (A : List α) (b x : α) (B : List α) : (A ++ b :: B).set A.length x = A ++ x :: B := by simp [List.set_append]
theorem sa1 {α : Type} (A : List α) (b c x : α) (B : List α) : (A ++ b :: c :: B).set (A.length + 1) x = A ++ b :: x :: B := by simp [List.set_append]
theorem sa2 {α : Type} (A : List α) (b c d x : α) (B : List α) : (A ++ b :: c :: d :: B).set (A.length + 2) x = A ++ b :: c :: x :: B := by simp [List.set_append]
theorem gR_len (g : List (Int × List Int)) : (gR g).length = g.length := by simp [gR]
theorem gE_app : ∀ (g : List (Int × List Int)) (n : Nat) (k : Int) (xs : List Int), gE n (g ++ [(k, xs)]) = gE n g ++ [(k, .own (g.length + n) (xs.length - 1) 0 xs.length)]
  | [], n, k, xs => by simp [gE]
  | (k', ys) :: r, n, k, xs => by
    simp only [List.cons_append, gE, gE_app r (n + 1) k xs, List.length_cons]
    rw [show r.length + 1 + n = r.length + (n + 1) by omega]
theorem alook_gE : ∀ (g : List (Int × List Int)) (n : Nat) (k : Int) (v : AVal), alook (gE n g) k = some v → ∃ (i : Nat) (xs : List Int), g[i]? = some (k, xs) ∧ v = .own (i + n) (xs.length - 1) 0 xs.length ∧ mget [] g k = xs ∧
    (∀ ys : List Int, aset (gE n g) k (.own (i + n) (ys.length - 1) 0 ys.length) = gE n (mset g k ys)) ∧ (∀ ys : List Int, (gR g).set i (.row (ys.length - 1) 1 (ys.map intC)) = gR (mset g k ys))
  | [], n, k, v, h => by simp [gE, alook] at h
  | (k', xs) :: r, n, k, v, h => by
    simp only [gE, alook] at h
    by_cases e : k' = k
    · subst e
      rw [if_pos rfl] at h
      obtain rfl := Option.some.inj h
      exact ⟨0, xs, rfl, by rw [Nat.zero_add], by simp [mget], fun ys => by simp [gE, aset, mset], fun ys => by simp [gR, mset]⟩
    · rw [if_neg e] at h
      obtain ⟨i, ys, h1, h2, h3, h4, h5⟩ := alook_gE r (n + 1) k v h
      refine ⟨i + 1, ys, by simpa using h1, by rw [h2, show i + (n + 1) = i + 1 + n by omega], by simp [mget, e, h3], fun zs => ?_, fun zs => ?_⟩
      · have := h4 zs
        rw [show i + (n + 1) = i + 1 + n by omega] at this
        simp [gE, aset, mset, e, this]
      · have := h5 zs
        simp [gR, mset, e] at this ⊢
        exact this
theorem alook_gE_none : ∀ (g : List (Int × List Int)) (n : Nat) (k : Int), alook (gE n g) k = none → mget [] g k = [] ∧ (∀ v, aset (gE n g) k v = gE n g ++ [(k, v)]) ∧ ∀ ys, mset g k ys = g ++ [(k, ys)]
  | [], n, k, h => ⟨by simp [mget], fun v => by simp [gE, aset], fun ys => by simp [mset]⟩
  | (k', xs) :: r, n, k, h => by
    simp only [gE, alook] at h
    by_cases e : k' = k
    · rw [if_pos e] at h; cases h
    · rw [if_neg e] at h
      obtain ⟨h1, h2, h3⟩ := alook_gE_none r (n + 1) k h
      exact ⟨by simp [mget, e, h1], fun v => by simp [gE, aset, e, h2], fun ys => by simp [mset, e, h3]⟩
theorem renE_gE {π : Nat → Nat} : ∀ (g : List (Int × List Int)) (n : Nat), (∀ i, n ≤ i → i < n + g.length → π i = i) → renE π (gE n g) = gE n g
  | [], n, h => rfl
  | (k, xs) :: r, n, h => by
    simp only [gE, renE, ren]
    rw [h n (Nat.le_refl _) (by simp), renE_gE r (n + 1) (fun i h1 h2 => h i (by omega) (by simp at h2 ⊢; omega))]
theorem renE_app (π : Nat → Nat) : ∀ (a b : List (Int × AVal)), renE π (a ++ b) = renE π a ++ renE π b
  | [], b => rfl
  | (k, v) :: a, b => by simp [renE, renE_app π a b]
theorem renH_app (π : Nat → Nat) : ∀ (a b : List AObj), renH π (a ++ b) = renH π a ++ renH π b
  | [], b => rfl
  | o :: a, b => by simp [renH, renH_app π a b]
theorem renH_gR (π : Nat → Nat) : ∀ (g : List (Int × List Int)), renH π (gR g) = gR g
  | [] => rfl
  | p :: r => by
    have := renH_gR π r
    simp only [gR, List.map_cons, renH, renO] at this ⊢
    rw [this]
theorem belE_gE {m : Nat} : ∀ (g : List (Int × List Int)) (n : Nat), n + g.length ≤ m → ((gE n g).all fun p => p.2.bel2 m) = true
  | [], n, h => rfl
  | (k, xs) :: r, n, h => by
    simp only [gE, List.all_cons, Bool.and_eq_true]
    refine ⟨by simp [AVal.bel2, AVal.bel1, AVal.belF, AVal.bel0] at h ⊢; omega, belE_gE r (n + 1) (by simp at h ⊢; omega)⟩
theorem belH_gR {m : Nat} (g : List (Int × List Int)) : belH m (gR g) = true := by
  unfold belH gR; simp [belObj]
theorem belH_g {m : Nat} (g : List (Int × List Int)) (h : 1 + g.length ≤ m) : belH m (.mpo false (gE 1 g) :: gR g) = true := by
  have := belH_gR (m := m) g
  unfold belH at this ⊢
  rw [List.all_cons, this, Bool.and_true]
  exact belE_gE g 1 h
theorem objLe_refl : ∀ (o : AObj), o ≠ .resv → objLe o o
  | .box cs, _ => by
    show cellsLe cs cs
    induction cs with
    | nil => trivial
    | cons c r ih => exact ⟨by unfold vle; split <;> simp, ih (by simp)⟩
  | .row v sz xs, _ => ⟨rfl, rfl, rfl⟩
  | .mp es, _ => rfl
  | .mpo q es, _ => ⟨rfl, rfl⟩
  | .it l c, _ => ⟨rfl, rfl⟩
  | .lp _ _ _ _ _ _ _ _, _ => ⟨rfl, rfl, rfl, rfl, rfl, rfl, rfl, rfl⟩
  | .gone, _ => trivial
  | .resv, h => absurd rfl h
theorem subH_app : ∀ (A B : List AObj), (∀ o ∈ A, o ≠ .resv) → subH (A ++ B) A
  | [], B, _ => by simp [subH]
  | o :: A, B, h => ⟨objLe_refl o (h o (by simp)), subH_app A B fun o' ho' => h o' (List.mem_cons_of_mem _ ho')⟩
theorem gR_notResv (g : List (Int × List Int)) : ∀ o ∈ gR g, o ≠ .resv := by
  intro o ho
  obtain ⟨p, _, rfl⟩ := List.mem_map.1 ho
  simp
theorem subH_g (g : List (Int × List Int)) (B : List AObj) : subH (.mpo false (gE 1 g) :: (gR g ++ B)) (.mpo false (gE 1 g) :: gR g) := ⟨⟨rfl, rfl⟩, subH_app _ _ (gR_notResv g)⟩
/-- each list of a group that is gathered from n numbers has 1 to n numbers -/
theorem gadd_inv {g : List (Int × List Int)} {n : Nat} (h : ∀ p ∈ g, 1 ≤ p.2.length ∧ p.2.length ≤ n) (k v : Int) : ∀ p ∈ gadd g k v, 1 ≤ p.2.length ∧ p.2.length ≤ n + 1 := by
  have hget : ∀ g : List (Int × List Int), (∀ p ∈ g, 1 ≤ p.2.length ∧ p.2.length ≤ n) → (mget [] g k).length ≤ n := by
    intro g
    induction g with
    | nil => intro _; simp [mget]
    | cons p r ih =>
      intro h
      obtain ⟨k', xs⟩ := p
      simp only [mget]
      split
      · exact (h (k', xs) (by simp)).2
      · exact ih fun p hp => h p (List.mem_cons_of_mem _ hp)
  have hlen := hget g h
  have hset : ∀ (ys : List Int), 1 ≤ ys.length → ys.length ≤ n + 1 → ∀ g : List (Int × List Int), (∀ p ∈ g, 1 ≤ p.2.length ∧ p.2.length ≤ n) → ∀ p ∈ mset g k ys, 1 ≤ p.2.length ∧ p.2.length ≤ n + 1 := by
    intro ys h1 h2 g
    induction g with
    | nil => intro _ p hp; simp [mset] at hp; subst hp; exact ⟨h1, h2⟩
    | cons p r ih =>
      intro h p' hp'
      obtain ⟨k', xs⟩ := p
      simp only [mset] at hp'
      split at hp'
      · rcases List.mem_cons.1 hp' with e | hp'
        · subst e; exact ⟨h1, h2⟩
        · have := h p' (List.mem_cons_of_mem _ hp'); omega
      · rcases List.mem_cons.1 hp' with e | hp'
        · subst e; have := h (k', xs) (by simp); simp only at this ⊢; omega
        · exact ih (fun p hp => h p (List.mem_cons_of_mem _ hp)) p' hp'
  exact hset _ (by simp) (by simp; exact hlen) g h

/-! ### all rows let go -/
theorem mpE_app' {β : Type} (f : β → AVal) (a b : List (Int × β)) : mpE f (a ++ b) = mpE f a ++ mpE f b := by simp [mpE]
theorem frzRE_app (r v sz : Nat) (xs : List (List AVal)) : ∀ (a b : List (Int × AVal)), frzRE r v sz xs (a ++ b) = frzRE r v sz xs a ++ frzRE r v sz xs b
  | [], b => rfl
  | (k, x) :: a, b => by simp [frzRE, frzRE_app r v sz xs a b]
theorem frzRB_app (r v sz : Nat) (xs : List (List AVal)) : ∀ (a b : List AObj), frzRB r v sz xs (a ++ b) = frzRB r v sz xs a ++ frzRB r v sz xs b
  | [], b => rfl
  | o :: a, b => by simp [frzRB, frzRB_app r v sz xs a b]
theorem frzRE_slVi (r v sz : Nat) (xs : List (List AVal)) : ∀ (g : List (Int × List Int)), frzRE r v sz xs (mpE slV_intC g) = mpE slV_intC g
  | [] => rfl
  | (k, x) :: g => by
    have := frzRE_slVi r v sz xs g
    simp only [mpE, List.map_cons, frzRE] at this ⊢
    rw [this]; rfl
theorem frzRE_gE (r v sz : Nat) (xs : List (List AVal)) : ∀ (g : List (Int × List Int)) (n : Nat), r < n → frzRE r v sz xs (gE n g) = gE n g
  | [], n, h => rfl
  | (k, x) :: g, n, h => by
    simp only [gE, frzRE]
    rw [frzRE_gE r v sz xs g (n + 1) (by omega)]
    have : frzR1 r v sz xs (.own n (x.length - 1) 0 x.length) = .own n (x.length - 1) 0 x.length := by
      unfold frzR1 frzR0
      simp only []
      rw [if_neg (by omega)]
    rw [this]
theorem frzRB_gR (r v sz : Nat) (xs : List (List AVal)) : ∀ (g : List (Int × List Int)), frzRB r v sz xs (gR g) = gR g
  | [] => rfl
  | p :: g => by
    have := frzRB_gR r v sz xs g
    simp only [gR, List.map_cons, frzRB, frzRO] at this ⊢
    rw [this]
theorem frzRB_gone (r v sz : Nat) (xs : List (List AVal)) : ∀ (n : Nat), frzRB r v sz xs (List.replicate n .gone) = List.replicate n .gone
  | 0 => rfl
  | n + 1 => by simp [List.replicate_succ, frzRB, frzRO, frzRB_gone r v sz xs n]
theorem Sub.refl' {outer : List Fr} {fr : Fr} {H : List AObj} : Sub outer fr H fr H := fun _ _ _ _ _ _ _ R => R
theorem Sub.letGo {outer : List Fr} {fr : Fr} (hfr : ∀ r v sz xs, frzRFr r v sz xs fr = fr) : ∀ (g2 g1 : List (Int × List Int)),
    Sub outer fr (.mpo false (mpE slV_intC g1 ++ gE (g1.length + 1) g2) :: (List.replicate g1.length .gone ++ gR g2)) fr (.mpo false (mpE slV_intC (g1 ++ g2)) :: List.replicate (g1.length + g2.length) .gone)
  | [], g1 => by
    simp only [gE, gR, List.map_nil, List.append_nil, List.length_nil, Nat.add_zero]
    exact Sub.refl'
  | (k, xs) :: g2, g1 => by
    have hr : (AObj.mpo false (mpE slV_intC g1 ++ gE (g1.length + 1) ((k, xs) :: g2)) :: (List.replicate g1.length .gone ++ gR ((k, xs) :: g2)))[g1.length + 1]? = some (.row (xs.length - 1) 1 (xs.map intC)) := by
      rw [List.getElem?_cons_succ, List.getElem?_append_right (by simp)]
      simp [gR]
    have s := Sub.freezeRow (outer := outer) (fr := fr) (g1.length + 1) hr
    rw [hfr] at s
    have e : frzRB (g1.length + 1) (xs.length - 1) 1 (xs.map intC) ((AObj.mpo false (mpE slV_intC g1 ++ gE (g1.length + 1) ((k, xs) :: g2)) :: (List.replicate g1.length .gone ++ gR ((k, xs) :: g2))).set (g1.length + 1) .gone) =
        .mpo false (mpE slV_intC (g1 ++ [(k, xs)]) ++ gE ((g1 ++ [(k, xs)]).length + 1) g2) :: (List.replicate (g1 ++ [(k, xs)]).length .gone ++ gR g2) := by
      rw [List.set_cons_succ, List.set_append_right _ _ (by simp), List.length_replicate, Nat.sub_self]
      show frzRB _ _ _ _ (AObj.mpo false (mpE slV_intC g1 ++ gE (g1.length + 1) ((k, xs) :: g2)) :: (List.replicate g1.length .gone ++ (AObj.gone :: gR g2))) = _
      simp only [frzRB, frzRO, frzRB_app, frzRB_gone, frzRB_gR, frzRE_app, frzRE_slVi, gE, frzRE]
      rw [frzRE_gE _ _ _ _ g2 (g1.length + 1 + 1) (by omega)]
      have h1 : frzR1 (g1.length + 1) (xs.length - 1) 1 (xs.map intC) (.own (g1.length + 1) (xs.length - 1) 0 xs.length) = slV_intC xs := by
        unfold frzR1 frzR0 slV_intC
        simp only []
        simp
        exact List.take_of_length_le (by simp)
      rw [h1]
      simp [mpE, List.replicate_succ']
    rw [e] at s
    have ih := Sub.letGo (outer := outer) hfr g2 (g1 ++ [(k, xs)])
    have := s.trans ih
    simp only [List.append_assoc, List.cons_append, List.nil_append, List.length_append, List.length_cons, List.length_nil] at this
    simp only [List.length_cons]
    rw [show g1.length + (g2.length + 1) = g1.length + (0 + 1) + g2.length by omega]
    exact this
theorem mpE_slVi_g1 (g : List (Int × List Int)) : ∀ p ∈ mpE slV_intC g, AVal.g1 p.2 = true := by
  intro p hp
  obtain ⟨q, _, rfl⟩ := List.mem_map.1 hp
  rfl
/-- THE GROUPS, when the loop is over: a map of values. -/
theorem Sub.groups {outer : List Fr} {fr : Fr} (hfr : ∀ r v sz xs, frzRFr r v sz xs fr = fr) (hsub : subF fr fr) (hb : belFr 1 fr = true) (ho : outer.all (belFr 1) = true) (g : List (Int × List Int)) :
    Sub outer fr (.mpo false (gE 1 g) :: gR g) fr [.mp (mpE slV_intC g)] := by
  have s1 := Sub.letGo (outer := outer) hfr g []
  simp only [mpE, List.map_nil, List.nil_append, List.length_nil, Nat.zero_add, List.replicate_zero] at s1
  have s2 := Sub.mpoBack (outer := outer) (fr := fr) (H := .mpo false (mpE slV_intC g) :: List.replicate g.length .gone) 0 rfl (mpE_slVi_g1 g)
  have s3 : Sub outer fr (.mp (mpE slV_intC g) :: List.replicate g.length .gone) fr [.mp (mpE slV_intC g)] := Sub.weak ⟨rfl, by simp [subH]⟩ hsub (.inr ⟨hb, rfl, ho⟩)
  exact (s1.trans s2).trans s3
theorem take_self {α : Type} (l : List α) (n : Nat) : (l.take n).take n = l.take n := by rw [List.take_take, Nat.min_self]
attribute [go_sem] slV_intC take_self
end Go.Ab
