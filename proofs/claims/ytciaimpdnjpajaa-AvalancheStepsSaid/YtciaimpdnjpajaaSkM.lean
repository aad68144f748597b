/-
  What one operation reads and changes: it has one outcome, and that outcome hangs on its operands and on the objects that it touches alone.
-/
import Derived.Test.YtciaimpdnjpajaaSkW
namespace Go.Ab
open Go Go.RowKit

/-- the operation lays a new object -/
def opNew (op : Op) : Bool :=
  match op with
  | .alloc _ | .box _ _ | .buildSlice _ _ _ | .makeSlice _ _ _ | .makeMap _ none => true
  | .call { callee := .builtin .append, args := _, argTypes := _ } => true
  | .call { callee := .value _, args := _, argTypes := _ } => true
  | _ => false
/-- the operation may change an object -/
def opWr (op : Op) : Bool :=
  match op with
  | .store _ _ _ | .mapUpdate _ _ _ _ | .insert _ _ _ _ => true
  | .call { callee := .builtin .append, args := _, argTypes := _ } | .call { callee := .builtin .delete, args := _, argTypes := _ } => true
  | _ => false
/-- operations that may stand in a region whose order is drawn -/
def drawable (op : Op) : Bool :=
  match op with
  | .range _ _ | .next _ _ | .entry _ | .select _ _ | .defer _ => false
  | _ => true

def rid (v : AVal) : List Nat :=
  match v with
  | .own r _ _ _ | .ptr r _ | .rptr r _ _ _ | .map r | .iter r | .yld r => [r]
  | _ => []
def ridL : List AVal → List Nat
  | [] => []
  | v :: r => rid v ++ ridL r
def rid1 (v : AVal) : List Nat :=
  match v with
  | .agg cs => ridL cs
  | v => rid v
def ridA : List AVal → List Nat
  | [] => []
  | v :: r => rid1 v ++ ridA r

/-- the objects that an operation looks at or changes -/
def touch (op : Op) (e : Operand → AVal) : List Nat :=
  match op with
  | .load _ a => rid (e a)
  | .store _ a _ => rid (e a)
  | .indexAddr _ x _ => rid (e x)
  | .slice _ x _ _ _ => rid (e x)
  | .lookup _ x _ _ => rid (e x)
  | .mapUpdate _ m _ _ => rid (e m)
  | .insert _ m _ _ => rid (e m)
  | .call c => ridA (c.args.toList.map e)
  | _ => []

/-- where an effect lies -/
def EffIn (op : Op) (e : Operand → AVal) (H : List AObj) (id : Nat) (ef : Eff) : Prop :=
  match ef with
  | .none => True
  | .new j _ => opNew op = true ∧ j = id
  | .set r _ => opWr op = true ∧ r ∈ touch op e ∧ ∃ x, H[r]? = some x ∧ x ≠ .resv

def DetQ (T : (AVal → Prop) → Prop) (T' : (AVal → Prop) → Prop) : Prop := ∀ K, T K → (∃ v, K v ∧ ∀ K', K' v → T' K') ∨ ∀ K', T K'

theorem idx_det {sz : Nat} {xs : List (List AVal)} {n : Int} {K : List AVal → Prop} (h : AIdx sz xs n K) : (∃ y, K y ∧ ∀ K' : List AVal → Prop, K' y → AIdx sz xs n K') ∨ ∀ K', AIdx sz xs n K' := by
  obtain ⟨h1, h2, h3⟩ := h
  cases hx : xs[n.toNat]? with
  | none => exact .inr fun K' => ⟨h1, h2, fun y hy => by rw [hx] at hy; cases hy⟩
  | some y =>
    by_cases hl : y.length = sz
    · exact .inl ⟨y, h3 y hx hl, fun K' hk => ⟨h1, h2, fun y' hy _ => by rw [hx, Option.some.injEq] at hy; exact hy ▸ hk⟩⟩
    · exact .inr fun K' => ⟨h1, h2, fun y' hy hl' => by rw [hx, Option.some.injEq] at hy; exact absurd (hy ▸ hl') hl⟩
theorem elem_det {sz : Nat} {xs : List (List AVal)} {i : Nat} {K : List AVal → Prop} (h : AElem sz xs i K) : (∃ y, K y ∧ ∀ K' : List AVal → Prop, K' y → AElem sz xs i K') ∨ ∀ K', AElem sz xs i K' := by
  cases hx : xs[i]? with
  | none => exact .inr fun K' y hy => by rw [hx] at hy; cases hy
  | some y =>
    by_cases hl : y.length = sz
    · exact .inl ⟨y, h y hx hl, fun K' hk y' hy _ => by rw [hx, Option.some.injEq] at hy; exact hy ▸ hk⟩
    · exact .inr fun K' y' hy hl' => by rw [hx, Option.some.injEq] at hy; exact absurd (hy ▸ hl') hl
theorem look_det {es : List (Int × AVal)} {n : Int} {z : AVal} {K : AVal → Bool → Prop} (h : ALook es n z K) : ∃ v b, K v b ∧ ∀ K' : AVal → Bool → Prop, K' v b → ALook es n z K' := by
  cases hx : alook es n with
  | none => exact ⟨z, false, h.2 hx, fun K' hk => ⟨fun v hv => by rw [hx] at hv; (cases hv), fun _ => hk⟩⟩
  | some v => exact ⟨v, true, h.1 v hx, fun K' hk => ⟨fun v' hv => by rw [hx, Option.some.injEq] at hv; (exact hv ▸ hk), fun hv => by rw [hx] at hv; cases hv⟩⟩

variable {P : Program}

theorem aPick_det (c a b : AVal) : DetQ (aPick c a b) (aPick c a b) := by
  intro K h
  unfold aPick at *
  split at h
  · rename_i cv
    split at h
    · exact .inl ⟨_, h, fun _ h => h⟩
    · rename_i hne
      cases cv
      · exact .inl ⟨b, h.2 rfl, fun K' hk => ⟨(fun h => by cases h), fun _ => hk⟩⟩
      · exact .inl ⟨a, h.1 rfl, fun K' hk => ⟨fun _ => hk, fun h => by cases h⟩⟩
  · exact h.elim

theorem aBin_det (o : BinOp) (T : TypeId) (x y : AVal) : DetQ (aBin P o T x y) (aBin P o T x y) := by
  intro K h
  unfold aBin aBinInt at *
  repeat' split at h
  all_goals first
    | exact h.elim
    | exact h.2.elim
    | exact .inl ⟨_, h.2, fun _ hk => ⟨h.1, hk⟩⟩
    | exact .inl ⟨_, h.2.2, fun _ hk => ⟨h.1, h.2.1, hk⟩⟩
    | exact .inl ⟨_, h, fun _ h => h⟩

theorem aUn_det (o : UnOp) (x : AVal) : DetQ (aUn o x) (aUn o x) := by
  intro K h
  unfold aUn at *
  repeat' split at h
  all_goals first
    | exact h.elim
    | exact .inl ⟨_, h, fun _ h => h⟩

theorem aConv_det (s d : TypeId) (x : AVal) : DetQ (aConv P s d x) (aConv P s d x) := by
  intro K h
  unfold aConv at *
  split at h
  · rename_i h1 h2; exact .inl ⟨_, h, fun _ hk => by first | exact hk | (simp only [h1, h2]; exact hk)⟩
  · exact h.elim

theorem aLoad_det (T : TypeId) (p : AVal) {H H' : List AObj} (hH : ∀ r ∈ rid p, H'[r]? = H[r]?) : (K : AVal → Prop) → aLoad P T p H K → (∃ v, K v ∧ ∀ K', K' v → aLoad P T p H' K') ∨ ∀ K', aLoad P T p H K' := by
  intro K h
  unfold aLoad at *
  obtain ⟨h0, h⟩ := h
  split at h
  · rename_i r k
    rw [hH r (by simp [rid])]
    split at h
    · exact .inl ⟨_, h.2, fun K' hk => ⟨h0, h.1, hk⟩⟩
    · exact h.elim
  · rename_i r v i k
    rw [hH r (by simp [rid])]
    split at h
    · obtain ⟨h1, h2, h3⟩ := h
      rcases elem_det h3 with ⟨y, hy, hK⟩ | hK
      · exact .inl ⟨_, hy, fun K' hk => ⟨h0, h1, h2, hK _ hk⟩⟩
      · exact .inr fun K' => ⟨h0, h1, h2, hK _⟩
    · exact h.elim
  · exact .inl ⟨_, h.2, fun K' hk => ⟨h0, h.1, hk⟩⟩
  · exact h.elim

theorem aFieldAddr_det (T : TypeId) (p : AVal) (f : Nat) : DetQ (aFieldAddr P T p f) (aFieldAddr P T p f) := by
  intro K h
  unfold aFieldAddr at *
  split at h
  · obtain ⟨h1, h⟩ := h
    split at h
    all_goals first
      | exact h.elim
      | exact .inl ⟨_, h, fun _ h => ⟨h1, h⟩⟩
  · exact h.elim

theorem aField_det (T : TypeId) (x : AVal) (f : Nat) : DetQ (aField P T x f) (aField P T x f) := by
  intro K h
  unfold aField at *
  split at h
  · rename_i h1
    split at h
    · exact .inl ⟨_, h.2.2.2, fun _ hk => ⟨h.1, h.2.1, h.2.2.1, hk⟩⟩
    · exact h.elim
  · exact h.elim

theorem aIndexAddr_det (T : TypeId) (x i : AVal) {H H' : List AObj} (hH : ∀ r ∈ rid x, H'[r]? = H[r]?) : (K : AVal → Prop) → aIndexAddr P T x i H K → (∃ v, K v ∧ ∀ K', K' v → aIndexAddr P T x i H' K') ∨ ∀ K', aIndexAddr P T x i H K' := by
  intro K h
  unfold aIndexAddr at *
  split at h
  · rename_i e k n he
    obtain ⟨h0, h⟩ := h
    split at h
    · obtain ⟨h1, h2⟩ := h
      rcases idx_det h2 with ⟨y, hy, hK⟩ | hK
      · exact .inl ⟨_, hy, fun K' hk => ⟨h0, h1, hK _ hk⟩⟩
      · exact .inr fun K' => ⟨h0, h1, hK _⟩
    · rename_i r v lo len
      rw [hH r (by simp [rid])]
      split at h
      · obtain ⟨h1, h2, h3, h4, h5⟩ := h
        exact .inl ⟨_, h5, fun K' hk => ⟨h0, h1, h2, h3, h4, hk⟩⟩
      · exact h.elim
    · exact h.elim
  · rename_i k n he
    split at h
    · rename_i hA
      obtain ⟨h1, h2, h3, h4⟩ := h
      exact .inl ⟨_, h4, fun K' hk => ⟨h1, h2, h3, hk⟩⟩
    · obtain ⟨h1, h2, h3, h4⟩ := h
      exact .inl ⟨_, h4, fun K' hk => ⟨h1, h2, h3, hk⟩⟩
    · exact h.elim
  · exact h.elim

theorem aBuild_det (T : TypeId) (parts : List (Nat × AVal)) : DetQ (aBuild P T parts) (aBuild P T parts) := by
  intro K h
  unfold aBuild at *
  obtain ⟨h0, h⟩ := h
  split at h
  · rename_i h1
    split at h
    · rename_i h2; exact .inl ⟨_, h, fun _ hk => ⟨h0, by first | exact hk | (simp only [h1, h2]; exact hk)⟩⟩
    · exact h.elim
  · exact h.elim

theorem aElems_eq {x : AVal} {H H' : List AObj} (hH : ∀ r ∈ rid x, H'[r]? = H[r]?) : aElems x H' = aElems x H := by
  unfold aElems
  split
  · rfl
  · rw [hH _ (by simp [rid])]
  · rfl
theorem aEntries_eq {x : AVal} {H H' : List AObj} (hH : ∀ r ∈ rid x, H'[r]? = H[r]?) : aEntries x H' = aEntries x H := by
  unfold aEntries
  split
  · rfl
  · rfl
  · rw [hH _ (by simp [rid])]
  · rfl

theorem mpoOf_eq {x : AVal} {H H' : List AObj} (hH : ∀ r ∈ rid x, H'[r]? = H[r]?) : mpoOf x H' = mpoOf x H := by
  unfold mpoOf
  split
  · rw [hH _ (by simp [rid])]
  · rfl
theorem aLen_det (T : TypeId) (x : AVal) {H H' : List AObj} (hH : ∀ r ∈ rid x, H'[r]? = H[r]?) : (K : AVal → Prop) → aLen P T x H K → (∃ v, K v ∧ ∀ K', K' v → aLen P T x H' K') ∨ ∀ K', aLen P T x H K' := by
  intro K h
  unfold aLen at *
  split at h
  · rename_i xs _
    by_cases hl : xs.length ≤ 9223372036854775807
    · exact .inl ⟨_, h hl, fun K' hk => fun _ => hk⟩
    · exact .inr fun K' h => absurd h hl
  · rename_i len _
    by_cases hl : len ≤ 9223372036854775807
    · exact .inl ⟨_, h hl, fun K' hk => fun _ => hk⟩
    · exact .inr fun K' h => absurd h hl
  · exact .inl ⟨_, h, fun K' hk => hk⟩
  · exact .inl ⟨_, h, fun K' hk => hk⟩
  · exact .inl ⟨_, h, fun K' hk => hk⟩
  · exact .inl ⟨_, h, fun K' hk => hk⟩
  · rw [hH _ (by simp [rid])]
    split at h
    · exact .inl ⟨_, h, fun K' hk => hk⟩
    · exact h.elim
  · exact .inl ⟨_, h, fun K' hk => hk⟩
  · exact h.elim

theorem aSlice_det (T : TypeId) (x : AVal) (lo hi mx : Option AVal) {H H' : List AObj} (hH : ∀ r ∈ rid x, H'[r]? = H[r]?) : (K : AVal → Prop) → aSlice P T x lo hi mx H K → (∃ v, K v ∧ ∀ K', K' v → aSlice P T x lo hi mx H' K') ∨ ∀ K', aSlice P T x lo hi mx H K' := by
  intro K h
  have e : aSlice P T x lo hi mx H' = aSlice P T x lo hi mx H := by
    funext K
    cases x with
    | own r v a len => simp only [aSlice, hH r (by simp [rid])]
    | _ => rfl
  rw [e]
  unfold aSlice at *
  split at h
  · obtain ⟨h0, h⟩ := h
    split at h
    · rename_i sz xs
      by_cases hl : xs.length ≤ 9223372036854775807
      · obtain ⟨h1, h⟩ := h
        have h := h hl
        split at h
        · rename_i hl1 hh1
          exact .inl ⟨_, h.2.2.2, fun K' hk => ⟨h0, h1, fun _ => by first | exact ⟨h.1, h.2.1, h.2.2.1, hk⟩ | (simp only [hl1, hh1]; exact ⟨h.1, h.2.1, h.2.2.1, hk⟩)⟩⟩
        · rename_i hl1 hh1
          exact .inl ⟨_, h.2.2.2.2, fun K' hk => ⟨h0, h1, fun _ => by first | exact ⟨h.1, h.2.1, h.2.2.1, h.2.2.2.1, hk⟩ | (simp only [hl1, hh1]; exact ⟨h.1, h.2.1, h.2.2.1, h.2.2.2.1, hk⟩)⟩⟩
        · exact h.elim
      · exact .inr fun K' => ⟨h0, h.1, fun h => absurd h hl⟩
    · split at h
      · obtain ⟨h1, h2, h⟩ := h
        split at h
        · rename_i hl1 hh1
          exact .inl ⟨_, h.2.2.2, fun K' hk => ⟨h0, h1, h2, by first | exact ⟨h.1, h.2.1, h.2.2.1, hk⟩ | (simp only [hl1, hh1]; exact ⟨h.1, h.2.1, h.2.2.1, hk⟩)⟩⟩
        · rename_i hl1 hh1
          exact .inl ⟨_, h.2.2.2.2, fun K' hk => ⟨h0, h1, h2, by first | exact ⟨h.1, h.2.1, h.2.2.1, h.2.2.2.1, hk⟩ | (simp only [hl1, hh1]; exact ⟨h.1, h.2.1, h.2.2.1, h.2.2.2.1, hk⟩)⟩⟩
        · exact h.elim
      · exact h.elim
    · split at h
      · rename_i hl1 hh1
        exact .inl ⟨_, h.2.2, fun K' hk => ⟨h0, by first | exact ⟨h.1, h.2.1, hk⟩ | (simp only [hl1, hh1]; exact ⟨h.1, h.2.1, hk⟩)⟩⟩
      · rename_i hl1 hh1
        exact .inl ⟨_, h.2.2.2.2, fun K' hk => ⟨h0, by first | exact ⟨h.1, h.2.1, h.2.2.1, h.2.2.2.1, hk⟩ | (simp only [hl1, hh1]; exact ⟨h.1, h.2.1, h.2.2.1, h.2.2.2.1, hk⟩)⟩⟩
      · exact h.elim
    · split at h
      · rename_i hl1 hh1
        exact .inl ⟨_, h.2.2, fun K' hk => ⟨h0, by first | exact ⟨h.1, h.2.1, hk⟩ | (simp only [hl1, hh1]; exact ⟨h.1, h.2.1, hk⟩)⟩⟩
      · rename_i hl1 hh1
        exact .inl ⟨_, h.2.2.2.2, fun K' hk => ⟨h0, by first | exact ⟨h.1, h.2.1, h.2.2.1, h.2.2.2.1, hk⟩ | (simp only [hl1, hh1]; exact ⟨h.1, h.2.1, h.2.2.1, h.2.2.2.1, hk⟩)⟩⟩
      · exact h.elim
    · exact h.elim
  · split at h
    · obtain ⟨h1, h2, h3, h4, h5⟩ := h
      exact .inl ⟨_, h5, fun K' hk => ⟨h1, h2, h3, h4, hk⟩⟩
    · exact h.elim

theorem aLookup_det (T : TypeId) (x i : AVal) (ok : Bool) {H H' : List AObj} (hH : ∀ r ∈ rid x, H'[r]? = H[r]?) : (K : AVal → Prop) → aLookup P T x i ok H K → (∃ v, K v ∧ ∀ K', K' v → aLookup P T x i ok H' K') ∨ ∀ K', aLookup P T x i ok H K' := by
  intro K h
  unfold aLookup at *
  rw [aEntries_eq hH, mpoOf_eq hH]
  split at h
  · obtain ⟨h0, h⟩ := h
    split at h
    · rename_i es hes
      obtain ⟨v, b, hk, hK⟩ := look_det h
      exact .inl ⟨_, hk, fun K' hk' => ⟨h0, hK _ hk'⟩⟩
    · exact h.elim
  · exact h.elim

def DetE (op : Op) (e : Operand → AVal) (H : List AObj) (id : Nat) (T T' : (AVal → Eff → Prop) → Prop) : Prop :=
  ∀ K, T K → (∃ v ef, K v ef ∧ EffIn op e H id ef ∧ ∀ K', K' v ef → T' K') ∨ ∀ K', T K'

theorem DetE.quiet {op : Op} {e : Operand → AVal} {H : List AObj} {id : Nat} {T T' : (AVal → Prop) → Prop} (h : DetQ T T') : DetE op e H id (fun K => T (quietK K)) (fun K => T' (quietK K)) := by
  intro K hT
  rcases h _ hT with ⟨v, hk, hK⟩ | hK
  · exact .inl ⟨v, .none, hk, trivial, fun K' hk' => hK _ hk'⟩
  · exact .inr fun K' => hK _

theorem aStore_det (T : TypeId) (a x : Operand) (e : Operand → AVal) (id : Nat) {H H' : List AObj} (hH : ∀ r ∈ rid (e a), H'[r]? = H[r]?) :
    DetE (.store T a x) e H id (fun K => aStore P T (e a) (e x) H K) (fun K => aStore P T (e a) (e x) H' K) := by
  intro K h
  simp only [aStore] at *
  split at h
  · rename_i vs hvs
    obtain ⟨h1, h2, h3, h⟩ := h
    split at h
    · rename_i r k hp
      have hH' := hH r (by simp [rid, hp])
      split at h
      · rename_i cs hr
        refine .inl ⟨_, _, h.2, ⟨rfl, by simp [touch, rid, hp], _, hr, by simp⟩, fun K' hk => ⟨h1, h2, h3, ?_⟩⟩
        first | simp only [hp, hH', hr] | simp only [hH', hr] | skip
        exact ⟨h.1, hk⟩
      · exact h.elim
    · rename_i r v i k hp
      have hH' := hH r (by simp [rid, hp])
      split at h
      · rename_i v' sz xs hr
        obtain ⟨g1, g2, g3, g4⟩ := h
        rcases elem_det g4 with ⟨y, hy, hK⟩ | hK
        · refine .inl ⟨_, _, hy, ⟨rfl, by simp [touch, rid, hp], _, hr, by simp⟩, fun K' hk => ⟨h1, h2, h3, ?_⟩⟩
          first | simp only [hp, hH', hr] | simp only [hH', hr] | skip
          exact ⟨g1, g2, g3, hK _ hk⟩
        · refine .inr fun K' => ⟨h1, h2, h3, ?_⟩
          first | simp only [hp, hr] | simp only [hr] | skip
          exact ⟨g1, g2, g3, hK _⟩
      · exact h.elim
    · exact h.elim
  · exact h.elim

theorem aMapUpdate_det {op : Op} (T : TypeId) (x i v : AVal) (e : Operand → AVal) (id : Nat) {H H' : List AObj} (hop : opWr op = true) (ht : ∀ r ∈ rid x, r ∈ touch op e) (hH : ∀ r ∈ rid x, H'[r]? = H[r]?) :
    DetE op e H id (fun K => aMapUpdate P T x i v H K) (fun K => aMapUpdate P T x i v H' K) := by
  intro K h
  simp only [aMapUpdate] at *
  split at h
  · rename_i r hk0
    have hH' := hH r (by simp [rid])
    split at h
    · rename_i es hr
      refine .inl ⟨_, _, h.2, ⟨hop, ht r (by simp [rid]), _, hr, by simp⟩, fun K' hk => ?_⟩
      first | exact ⟨h.1, hk⟩ | (simp only [hH', hr]; exact ⟨h.1, hk⟩) | (simp only [hH', hr, hk0]; exact ⟨h.1, hk⟩)
    · rename_i es hr
      refine .inl ⟨_, _, h, ⟨hop, ht r (by simp [rid]), _, hr, by simp⟩, fun K' hk => ?_⟩
      first | exact hk | (simp only [hH', hr]; exact hk) | (simp only [hH', hr, hk0]; exact hk)
    · exact h.elim
  · exact h.elim

theorem aDelete_det {op : Op} (T : TypeId) (x i : AVal) (e : Operand → AVal) (id : Nat) {H H' : List AObj} (hop : opWr op = true) (ht : ∀ r ∈ rid x, r ∈ touch op e) (hH : ∀ r ∈ rid x, H'[r]? = H[r]?) :
    DetE op e H id (fun K => aDelete P T x i H K) (fun K => aDelete P T x i H' K) := by
  intro K h
  simp only [aDelete] at *
  split at h
  · rename_i r hk0
    have hH' := hH r (by simp [rid])
    split at h
    · rename_i es hr
      refine .inl ⟨_, _, h, ⟨hop, ht r (by simp [rid]), _, hr, by simp⟩, fun K' hk => ?_⟩
      first | exact hk | (simp only [hH', hr]; exact hk) | (simp only [hH', hr, hk0]; exact hk)
    · exact h.elim
  · exact h.elim

theorem aAppend_det {op : Op} (T : TypeId) (s x : AVal) (e : Operand → AVal) (id : Nat) {H H' : List AObj} (hn : opNew op = true) (hop : opWr op = true) (ht : ∀ r ∈ rid s, r ∈ touch op e)
    (hs : ∀ r ∈ rid s, H'[r]? = H[r]?) (hx : ∀ r ∈ rid x, H'[r]? = H[r]?) :
    DetE op e H id (fun K => aAppend P T s x H id K) (fun K => aAppend P T s x H' id K) := by
  intro K h
  simp only [aAppend, aElems_eq hx] at *
  split at h
  · rename_i el hel
    obtain ⟨h1, h2, h3, h⟩ := h
    split at h
    · rename_i szx ys hy
      obtain ⟨h4, h⟩ := h
      split at h
      · exact .inl ⟨_, _, h.2.2, ⟨hn, rfl⟩, fun K' hk => by first | exact ⟨h1, h2, h3, h4, h.1, h.2.1, hk⟩ | (simp only [hy]; exact ⟨h1, h2, h3, h4, h.1, h.2.1, hk⟩) | (simp only [hel, hy]; exact ⟨h1, h2, h3, h4, h.1, h.2.1, hk⟩)⟩
      · exact .inl ⟨_, _, h.2.2, ⟨hn, rfl⟩, fun K' hk => by first | exact ⟨h1, h2, h3, h4, h.1, h.2.1, hk⟩ | (simp only [hy]; exact ⟨h1, h2, h3, h4, h.1, h.2.1, hk⟩) | (simp only [hel, hy]; exact ⟨h1, h2, h3, h4, h.1, h.2.1, hk⟩)⟩
      · rename_i r v lo len
        have hH' := hs r (by simp [rid])
        split at h
        · rename_i v' sz xs hr
          refine .inl ⟨_, _, h.2.2.2.2, ⟨hop, ht r (by simp [rid]), _, hr, by simp⟩, fun K' hk => ?_⟩
          first | simp only [hy, hH', hr] | simp only [hH', hr] | simp only [hel, hy, hH', hr]
          exact ⟨h1, h2, h3, h4, h.1, h.2.1, h.2.2.1, h.2.2.2.1, hk⟩
        · exact h.elim
      · exact h.elim
    · exact h.elim
  · exact h.elim

theorem aMin_det (x y : AVal) : DetQ (aMin x y) (aMin x y) := by
  intro K h
  unfold aMin at *
  split at h
  · exact .inl ⟨_, h.2, fun _ hk => ⟨h.1, hk⟩⟩
  · exact h.elim
theorem aMax_det (x y : AVal) : DetQ (aMax x y) (aMax x y) := by
  intro K h
  unfold aMax at *
  split at h
  · exact .inl ⟨_, h.2, fun _ hk => ⟨h.1, hk⟩⟩
  · exact h.elim

theorem rid_rid1 {v : AVal} {r : Nat} (h : r ∈ rid v) : r ∈ rid1 v := by
  cases v <;> first | exact h | simp [rid] at h

theorem det_lift {α : Type} {F : List AObj → (α → Prop) → Prop} {E : α → Prop} {S : List Nat} {H : List AObj}
    (hd : ∀ H' : List AObj, (∀ r ∈ S, H'[r]? = H[r]?) → ∀ K, F H K → (∃ v, K v ∧ E v ∧ ∀ K' : α → Prop, K' v → F H' K') ∨ ∀ K', F H K') {K : α → Prop} (h : F H K) :
    (∃ v, K v ∧ E v ∧ ∀ H' : List AObj, (∀ r ∈ S, H'[r]? = H[r]?) → ∀ K' : α → Prop, K' v → F H' K') ∨ ∀ K', F H K' := by
  by_cases hv : ∀ K', F H K'
  · exact .inr hv
  · rcases hd H (fun _ _ => rfl) K h with ⟨v, h1, h2, h3⟩ | h2
    · refine .inl ⟨v, h1, h2, fun H' hH' K' hk => ?_⟩
      rcases hd H' hH' (· = v) (h3 _ rfl) with ⟨v', rfl, _, h4⟩ | h4
      · exact h4 _ hk
      · exact absurd h4 hv
    · exact absurd h2 hv

def Outc (P : Program) (op : Op) (e : Operand → AVal) (H : List AObj) (id : Nat) (K : AVal → Eff → Prop) : Prop :=
  (∃ v ef, K v ef ∧ EffIn op e H id ef ∧ ∀ H' : List AObj, (∀ r ∈ touch op e, H'[r]? = H[r]?) → ∀ K' : AVal → Eff → Prop, K' v ef → astep P op e H' id K') ∨ (∀ K' : AVal → Eff → Prop, astep P op e H id K')

theorem Outc.quiet {op : Op} {e : Operand → AVal} {H : List AObj} {id : Nat} {K : AVal → Eff → Prop} (F : List AObj → (AVal → Prop) → Prop)
    (hs : ∀ (H' : List AObj) (K' : AVal → Eff → Prop), astep P op e H' id K' = F H' (quietK K'))
    (hd : ∀ H' : List AObj, (∀ r ∈ touch op e, H'[r]? = H[r]?) → ∀ K, F H K → (∃ v, K v ∧ ∀ K' : AVal → Prop, K' v → F H' K') ∨ ∀ K', F H K') (h : astep P op e H id K) : Outc P op e H id K := by
  rw [hs] at h
  rcases det_lift (F := F) (E := fun _ => True) (S := touch op e) (fun H' hH' K hK => (hd H' hH' K hK).imp (fun ⟨v, a, b⟩ => ⟨v, a, trivial, b⟩) (fun h => h)) h with ⟨v, h1, _, h2⟩ | h2
  · exact .inl ⟨v, .none, h1, trivial, fun H' hH' K' hk => by rw [hs]; exact h2 H' hH' _ hk⟩
  · exact .inr fun K' => by rw [hs]; exact h2 _

theorem Outc.eff {op : Op} {e : Operand → AVal} {H : List AObj} {id : Nat} {K : AVal → Eff → Prop} (F : List AObj → (AVal → Eff → Prop) → Prop)
    (hs : ∀ (H' : List AObj) (K' : AVal → Eff → Prop), astep P op e H' id K' = F H' K')
    (hd : ∀ H' : List AObj, (∀ r ∈ touch op e, H'[r]? = H[r]?) → DetE op e H id (F H) (F H')) (h : astep P op e H id K) : Outc P op e H id K := by
  rw [hs] at h
  rcases det_lift (F := fun H K => F H fun v ef => K (v, ef)) (E := fun x => EffIn op e H id x.2) (S := touch op e) (K := fun x => K x.1 x.2) (fun H' hH' K hK => (hd H' hH' (fun v ef => K (v, ef)) hK).imp (fun ⟨v, ef, a, b, c⟩ => ⟨(v, ef), a, b, fun K' hk => c _ hk⟩) (fun h K' => h _)) h with ⟨⟨v, ef⟩, h1, h2, h3⟩ | h2
  · exact .inl ⟨v, ef, h1, h2, fun H' hH' K' hk => by rw [hs]; exact h3 H' hH' (fun x => K' x.1 x.2) hk⟩
  · exact .inr fun K' => by rw [hs]; exact h2 fun x => K' x.1 x.2

/-- AN OPERATION HAS ONE OUTCOME, and has it in each heap that agrees on what it touches. -/
theorem astep_det {op : Op} {e : Operand → AVal} {H : List AObj} {id : Nat} {K : AVal → Eff → Prop} (hd : drawable op = true) (h : astep P op e H id K) : Outc P op e H id K := by
  cases op with
  | move x => exact .inl ⟨_, _, h, trivial, fun _ _ _ hk => hk⟩
  | assign x => exact .inl ⟨_, _, h, trivial, fun _ _ _ hk => hk⟩
  | pick c a b => exact .quiet (fun _ => aPick (e c) (e a) (e b)) (fun _ _ => rfl) (fun _ _ => aPick_det _ _ _) h
  | binOp o T x y t => exact .quiet (fun _ => aBin P o T (e x) (e y)) (fun _ _ => rfl) (fun _ _ => aBin_det _ _ _ _) h
  | unOp o t x => exact .quiet (fun _ => aUn o (e x)) (fun _ _ => rfl) (fun _ _ => aUn_det _ _) h
  | convert s d x => exact .quiet (fun _ => aConv P s d (e x)) (fun _ _ => rfl) (fun _ _ => aConv_det _ _ _) h
  | alloc T => exact .inl ⟨_, _, h.2, ⟨rfl, rfl⟩, fun _ _ _ hk => ⟨h.1, hk⟩⟩
  | box t x =>
    simp only [astep, aBox] at h
    split at h
    · rename_i cs hcs
      exact .inl ⟨_, _, h, ⟨rfl, rfl⟩, fun _ _ K' hk => by simp only [astep, aBox, hcs]; exact hk⟩
    · exact h.elim
  | build T parts => exact .quiet (fun _ => aBuild P T (partsA e parts.toList)) (fun _ _ => rfl) (fun _ _ => aBuild_det _ _) h
  | buildSlice T n parts =>
    simp only [astep, aBuildSlice] at h
    obtain ⟨h0, h⟩ := h
    split at h
    · rename_i el hel
      obtain ⟨h1, h2, h3, h4, h⟩ := h
      split at h
      · rename_i cs hcs
        exact .inl ⟨_, _, h.2, ⟨rfl, rfl⟩, fun _ _ K' hk => by simp only [astep, aBuildSlice, hel, hcs]; exact ⟨h0, h1, h2, h3, h4, h.1, hk⟩⟩
      · exact h.elim
    · exact h.elim
  | load T a => exact .quiet (fun H => aLoad P T (e a) H) (fun _ _ => rfl) (fun _ hH => aLoad_det _ _ hH) h
  | store T a x => exact .eff (fun H => aStore P T (e a) (e x) H) (fun _ _ => rfl) (fun _ hH => aStore_det _ _ _ _ _ hH) h
  | fieldAddr T x f => exact .quiet (fun _ => aFieldAddr P T (e x) f) (fun _ _ => rfl) (fun _ _ => aFieldAddr_det _ _ _) h
  | field T x f => exact .quiet (fun _ => aField P T (e x) f) (fun _ _ => rfl) (fun _ _ => aField_det _ _ _) h
  | indexAddr T x i => exact .quiet (fun H => aIndexAddr P T (e x) (e i) H) (fun _ _ => rfl) (fun _ hH => aIndexAddr_det _ _ _ hH) h
  | extract t i =>
    simp only [astep] at h
    split at h
    · rename_i vs hvs
      exact .inl ⟨_, _, h.2, trivial, fun _ _ K' hk => by simp only [astep, hvs]; exact ⟨h.1, hk⟩⟩
    · exact h.elim
  | slice T x lo hi mx => exact .quiet (fun H => aSlice P T (e x) (lo.map e) (hi.map e) (mx.map e) H) (fun _ _ => rfl) (fun _ hH => aSlice_det _ _ _ _ _ hH) h
  | makeSlice T l c =>
    simp only [astep, aMakeSlice] at h
    split at h
    · rename_i el _ _ _ _ hel hl hc
      obtain ⟨h1, h2, h3, h4, h5, h6, h7, h8, h⟩ := h
      exact .inl ⟨_, _, h, ⟨rfl, rfl⟩, fun _ _ K' hk => by simp only [astep, aMakeSlice, hel, hl, hc]; exact ⟨h1, h2, h3, h4, h5, h6, h7, h8, hk⟩⟩
    · exact h.elim
  | makeMap T r =>
    cases r with
    | none => exact .inl ⟨_, _, h, ⟨rfl, rfl⟩, fun _ _ K' hk => hk⟩
    | some r => exact h.elim
  | lookup T x i ok => exact .quiet (fun H => aLookup P T (e x) (e i) ok H) (fun _ _ => rfl) (fun _ hH => aLookup_det _ _ _ _ hH) h
  | mapUpdate T m k x => exact .eff (fun H => aMapUpdate P T (e m) (e k) (e x) H) (fun _ _ => rfl) (fun _ hH => aMapUpdate_det _ _ _ _ _ _ rfl (fun _ h => h) hH) h
  | insert T m k x => exact .eff (fun H => aMapUpdate P T (e m) (e k) (e x) H) (fun _ _ => rfl) (fun _ hH => aMapUpdate_det _ _ _ _ _ _ rfl (fun _ h => h) hH) h
  | makeFunc f first caps =>
    cases f with
    | func f => exact .inl ⟨_, _, h.2, trivial, fun _ _ K' hk => ⟨h.1, hk⟩⟩
    | _ => exact h.elim
  | call c =>
    obtain ⟨callee, args, tys⟩ := c
    cases callee with
    | builtin b =>
      simp only [astep] at h
      unfold aBuiltin at h
      split at h
      · rename_i x T ha ht
        refine .quiet (fun H => aLen P T x H) (fun H' K' => by simp only [astep, aBuiltin, ha, ht]) (fun H' hH => aLen_det _ _ fun r hr => hH r ?_) (by simp only [astep, aBuiltin, ha, ht]; exact h)
        simp only [touch, ha, ridA, List.append_nil]; exact rid_rid1 hr
      · rename_i s x T T2 ha ht
        refine .eff (fun H K => T = T2 ∧ aAppend P T s x H id K) (fun H' K' => by simp only [astep, aBuiltin, ha, ht]) (fun H' hH K hK => ?_) (by simp only [astep, aBuiltin, ha, ht]; exact h)
        rcases aAppend_det (P := P) (op := .call ⟨.builtin .append, args, tys⟩) T s x e id rfl rfl (fun r hr => by simp only [touch, ha, ridA]; exact List.mem_append_left _ (rid_rid1 hr))
          (fun r hr => hH r (by simp only [touch, ha, ridA]; exact List.mem_append_left _ (rid_rid1 hr))) (fun r hr => hH r (by simp only [touch, ha, ridA]; exact List.mem_append_right _ (List.mem_append_left _ (rid_rid1 hr)))) K hK.2 with ⟨v, ef, h1, h2, h3⟩ | h1
        · exact .inl ⟨v, ef, h1, h2, fun K' hk => ⟨hK.1, h3 K' hk⟩⟩
        · exact .inr fun K' => ⟨hK.1, h1 K'⟩
      · rename_i m k T _ ha ht
        exact .eff (fun H K => aDelete P T m k H K) (fun H' K' => by simp only [astep, aBuiltin, ha, ht])
          (fun H' hH => aDelete_det (op := .call ⟨.builtin .delete, args, tys⟩) T m k e id rfl (fun r hr => by simp only [touch, ha, ridA]; exact List.mem_append_left _ (rid_rid1 hr)) fun r hr => hH r (by simp only [touch, ha, ridA]; exact List.mem_append_left _ (rid_rid1 hr)))
          (by simp only [astep, aBuiltin, ha, ht]; exact h)
      · rename_i x y ha
        exact .quiet (fun _ => aMin x y) (fun H' K' => by simp only [astep, aBuiltin, ha]) (fun _ _ => aMin_det _ _) (by simp only [astep, aBuiltin, ha]; exact h)
      · rename_i x y ha
        exact .quiet (fun _ => aMax x y) (fun H' K' => by simp only [astep, aBuiltin, ha]) (fun _ _ => aMax_det _ _) (by simp only [astep, aBuiltin, ha]; exact h)
      · exact h.elim
    | _ => exact h.elim
  | range _ _ | next _ _ | entry _ => simp [drawable] at hd
  | _ => exact h.elim

theorem partsA_congr {e e' : Operand → AVal} : ∀ {l : List (Nat × Operand)}, (∀ p ∈ l, e' p.2 = e p.2) → partsA e' l = partsA e l
  | [], _ => rfl
  | p :: r, h => by rw [partsA, partsA, h p (List.mem_cons_self ..), partsA_congr fun q hq => h q (List.mem_cons_of_mem _ hq)]

theorem map_congr' {e e' : Operand → AVal} {l : List Operand} (h : ∀ x ∈ l, e' x = e x) : l.map e' = l.map e := List.map_congr_left h
theorem omap_congr {e e' : Operand → AVal} {o : Option Operand} (h : ∀ x ∈ o, e' x = e x) : o.map e' = o.map e := by
  cases o with
  | none => rfl
  | some x => simp [h x rfl]

/-- it hangs on its operands alone -/
theorem astep_congr {op : Op} {e e' : Operand → AVal} {H : List AObj} {id : Nat} {K : AVal → Eff → Prop} (h : ∀ x ∈ op.operands.toList, e' x = e x) (hd : drawable op = true) : astep P op e' H id K = astep P op e H id K ∧ touch op e' = touch op e := by
  cases op with
  | build T parts =>
    have : partsA e' parts.toList = partsA e parts.toList := partsA_congr fun p hp => h _ (by simpa [Op.operands] using ⟨p.1, by simpa using hp⟩)
    exact ⟨by simp only [astep, this], rfl⟩
  | buildSlice T n parts =>
    have : partsA e' parts.toList = partsA e parts.toList := partsA_congr fun p hp => h _ (by simpa [Op.operands] using ⟨p.1, by simpa using hp⟩)
    exact ⟨by simp only [astep, this], rfl⟩
  | slice T x lo hi mx =>
    have h1 := h x (by simp [Op.operands])
    have h2 : lo.map e' = lo.map e := omap_congr fun y hy => h y (by simp [Op.operands]; simp_all)
    have h3 : hi.map e' = hi.map e := omap_congr fun y hy => h y (by simp [Op.operands]; simp_all)
    have h4 : mx.map e' = mx.map e := omap_congr fun y hy => h y (by simp [Op.operands]; simp_all)
    exact ⟨by simp only [astep, h1, h2, h3, h4], by simp only [touch, h1]⟩
  | makeFunc f first caps =>
    cases f with
    | func f =>
      refine ⟨?_, rfl⟩
      simp only [astep, map_congr' (e := e) (e' := e') (l := caps.toList) fun x hx => h x (by simp [Op.operands]; exact .inr (by simpa using hx))]
    | _ => exact ⟨rfl, rfl⟩
  | makeMap T r => cases r <;> exact ⟨rfl, rfl⟩
  | call c =>
    obtain ⟨callee, args, tys⟩ := c
    have h1 : args.toList.map e' = args.toList.map e := map_congr' fun x hx => h x (by simp [Op.operands, Call.operands]; exact .inr (by simpa using hx))
    cases callee with
    | builtin b => exact ⟨by simp only [astep, h1], by simp only [touch, h1]⟩
    | _ => exact ⟨rfl, by simp only [touch, h1]⟩
  | range _ _ | next _ _ | entry _ => simp [drawable] at hd
  | _ => first
    | exact ⟨rfl, rfl⟩
    | (simp [Op.operands] at h; simp [astep, touch, h])
end Go.Ab
