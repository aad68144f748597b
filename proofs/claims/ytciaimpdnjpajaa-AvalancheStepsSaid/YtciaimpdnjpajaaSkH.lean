/-
  Maps with integer keys: what the operations do to abstract values is what they do to the model's.
-/
import Derived.Test.YtciaimpdnjpajaaSkG
import Derived.Maps.RangeRun
namespace Go.Ab
open Go Go.RowKit

def alook : List (Int × AVal) → Int → Option AVal
  | [], _ => none
  | (k, v) :: r, n => if k = n then some v else alook r n
def aset : List (Int × AVal) → Int → AVal → List (Int × AVal)
  | [], n, v => [(n, v)]
  | (k, u) :: r, n, v => if k = n then (k, v) :: r else (k, u) :: aset r n v
def adel : List (Int × AVal) → Int → List (Int × AVal)
  | [], _ => []
  | (k, u) :: r, n => if k = n then r else (k, u) :: adel r n

def keyT (P : Program) (T : TypeId) : Option TypeId :=
  match P.underlying T with
  | some (.map k e) => match P.underlying k with
    | some (.int .i64) => some e
    | _ => none
  | _ => none

def aEntries (x : AVal) (H : List AObj) : Option (List (Int × AVal)) :=
  match x with
  | .nilm => some []
  | .vmap es => some es
  | .map r => match H[r]? with
    | some (.mp es) => some es
    | some (.mpo false es) => some es
    | _ => none
  | _ => none

def aMakeMap (id : Nat) (K : AVal → Eff → Prop) : Prop := K (.map id) (.new id (.mp []))

/-- what is found under a key; z where there is nothing -/
def ALook (es : List (Int × AVal)) (n : Int) (z : AVal) (K : AVal → Bool → Prop) : Prop := (∀ v, alook es n = some v → K v true) ∧ (alook es n = none → K z false)
def lookK (ok : Bool) (K : AVal → Prop) (v : AVal) (b : Bool) : Prop := K (if ok then .tuple [v, .bool b] else v)

/-- a map whose values may be places of the call's own -/
def mpoOf (x : AVal) (H : List AObj) : Bool :=
  match x with
  | .map r => match H[r]? with
    | some (.mpo _ _) => true
    | _ => false
  | _ => false
/-- no slice, told as an empty one -/
def slNil (P : Program) (e : TypeId) (z : AVal) : AVal :=
  match z with
  | .nils => match elemT P e with
    | some t => .sl (szOf P t) []
    | none => .nils
  | z => z
def zLook (P : Program) (e : TypeId) (o : Bool) : AVal := if o = true then azero P e else slNil P e (azero P e)
def aLookup (P : Program) (T : TypeId) (x i : AVal) (ok : Bool) (H : List AObj) (K : AVal → Prop) : Prop :=
  match keyT P T, i with
  | some e, .int .i64 n => (zeroV P e).isSome = true ∧ match aEntries x H with
    | some es => ALook es n (zLook P e (mpoOf x H)) (lookK ok K)
    | none => False
  | _, _ => False

def aMapUpdate (P : Program) (T : TypeId) (x i v : AVal) (H : List AObj) (K : AVal → Eff → Prop) : Prop :=
  match keyT P T, i, x with
  | some _, .int .i64 n, .map r => match H[r]? with
    | some (.mp es) => v.g1 = true ∧ K (.tuple []) (.set r (.mp (aset es n v)))
    | some (.mpo false es) => K (.tuple []) (.set r (.mpo false (aset es n v)))
    | _ => False
  | _, _, _ => False

def aDelete (P : Program) (T : TypeId) (x i : AVal) (H : List AObj) (K : AVal → Eff → Prop) : Prop :=
  match keyT P T, i, x with
  | some _, .int .i64 n, .map r => match H[r]? with
    | some (.mp es) => K (.tuple []) (.set r (.mp (adel es n)))
    | _ => False
  | _, _, _ => False

def aRange (P : Program) (T : TypeId) (x : AVal) (id : Nat) (K : AVal → Eff → Prop) : Prop :=
  match keyT P T, x with
  | some _, .nilm => K (.iter id) (.new id (.it [] none))
  | some _, .vmap es => K (.iter id) (.new id (.it es none))
  | _, _ => False

/-- a step of an iteration: it is over, or any entry that is left comes out -/
def ANext (left : List (Int × AVal)) (KE : Unit → Prop) (KS : List (Int × AVal) → Int × AVal → List (Int × AVal) → Prop) : Prop := (left = [] → KE ()) ∧ ∀ l1 p l2, left = l1 ++ p :: l2 → KS l1 p l2
def nextE (K : AVal → Eff → Prop) (_ : Unit) : Prop := K (.tuple [.bool false]) .none
def nextS (r : Nat) (K : AVal → Eff → Prop) (l1 : List (Int × AVal)) (p : Int × AVal) (l2 : List (Int × AVal)) : Prop := K (.tuple [.bool true, .int .i64 p.1, p.2]) (.set r (.it (l1 ++ l2) (some p)))

def aNext (x : AVal) (isString : Bool) (H : List AObj) (K : AVal → Eff → Prop) : Prop :=
  match isString, x with
  | false, .iter r => match H[r]? with
    | some (.it left _) => ANext left (nextE K) (nextS r K)
    | _ => False
  | _, _ => False

def aEntry (x : AVal) (H : List AObj) (K : AVal → Prop) : Prop :=
  match x with
  | .iter r => match H[r]? with
    | some (.it _ (some p)) => K (.tuple [.int .i64 p.1, p.2])
    | _ => False
  | _ => False

section
variable {P : Program}

theorem keyT_spec {T e : TypeId} (h : keyT P T = some e) : ∃ k, P.underlying T = some (.map k e) ∧ P.underlying k = some (.int .i64) := by
  unfold keyT at h
  split at h
  · split at h
    · simp only [Option.some.injEq] at h; subst h; exact ⟨_, by assumption, by assumption⟩
    · cases h
  · cases h

theorem findNow_spec' (n : Int) : ∀ (l : List MapEntry) (es : List (Int × AVal)) (i : Nat), l.length = es.length → (∀ (j : Nat) (e : MapEntry) (p : Int × AVal), l[j]? = some e → es[j]? = some p → e.key = .int .i64 p.1) →
    ∃ r, Instr.findNow (.int .i64) (.int .i64 n) l i = some r ∧
      ((alook es n = none ∧ r = none) ∨ ∃ j e v, alook es n = some v ∧ r = some (i + j, e.val) ∧ l[j]? = some e ∧ es[j]? = some (n, v) ∧ (∀ u, aset es n u = es.set j (n, u)) ∧ adel es n = es.eraseIdx j)
  | [], [], i, _, _ => ⟨none, rfl, .inl ⟨rfl, rfl⟩⟩
  | e :: l, (k, v) :: es, i, hl, hk => by
    have h0 := hk 0 e (k, v) rfl rfl
    simp only at h0
    simp only [Instr.findNow, h0, Instr.sameNow, if_true]
    by_cases hkn : k = n
    · subst hkn
      refine ⟨some (i, e.val), by simp, .inr ⟨0, e, v, by simp [alook], by simp, rfl, rfl, fun u => by simp [aset], by simp [adel]⟩⟩
    · have hne : (n == k) = false := by simp; omega
      obtain ⟨r, h1, h2⟩ := findNow_spec' n l es (i + 1) (by simpa using hl) (fun j e p a b => hk (j + 1) e p a b)
      refine ⟨r, by simp [hne, h1], ?_⟩
      rcases h2 with ⟨h2, h3⟩ | ⟨j, e', v', h2, h3, h4, h5, h6, h7⟩
      · exact .inl ⟨by simp [alook, hkn, h2], h3⟩
      · exact .inr ⟨j + 1, e', v', by simp [alook, hkn, h2], by rw [h3]; congr 2; omega, h4, h5, fun u => by simp [aset, hkn, h6], by simp [adel, hkn, h7]⟩
  | [], _ :: _, _, hl, _ => by simp at hl
  | _ :: _, [], _, hl, _ => by simp at hl

theorem aset_none {es : List (Int × AVal)} {n : Int} (h : alook es n = none) (v : AVal) : aset es n v = es ++ [(n, v)] := by
  induction es with
  | nil => rfl
  | cons p es ih =>
    obtain ⟨k, u⟩ := p
    simp only [alook] at h
    split at h
    · cases h
    · rename_i hk
      simp [aset, hk, ih h]

theorem adel_none {es : List (Int × AVal)} {n : Int} (h : alook es n = none) : adel es n = es := by
  induction es with
  | nil => rfl
  | cons p es ih =>
    obtain ⟨k, u⟩ := p
    simp only [alook] at h
    split at h
    · cases h
    · rename_i hk
      simp [adel, hk, ih h]

theorem alook_none_keys {es : List (Int × AVal)} {n : Int} (h : alook es n = none) : n ∉ es.map (·.1) := by
  induction es with
  | nil => simp
  | cons p es ih =>
    obtain ⟨k, u⟩ := p
    simp only [alook] at h
    split at h
    · cases h
    · rename_i hk
      simp only [List.map_cons, List.mem_cons, not_or]
      exact ⟨fun e => hk e.symm, ih h⟩

theorem run_checkKey' {w : World} {k : TypeId} {n : Int} (h : P.underlying k = some (.int .i64)) (em : Bool) : (Instr.checkKey em 10000 k (.int .i64 n)).run P w = .ok () w := by
  unfold Instr.checkKey
  simp [runU h]

/-- what a map's value holds -/
theorem entries_rep {W0 : World} {C : Ctx} {w : World} (I : Inv W0 C w) {x : Value} {ax : AVal} {es : List (Int × AVal)} (hx : RepV C w x ax) (h : aEntries ax C.H = some es) :
    (x = .map none ∧ es = []) ∨ ∃ b entries clock, x = .map (some b) ∧ w.heap[b]? = some (.map entries clock) ∧ MapWf false entries clock es ∧
      ∀ (i : Nat) (e : MapEntry) (p : Int × AVal), entries[i]? = some e → es[i]? = some p → RepV C w e.val p.2 := by
  unfold aEntries at h
  split at h
  · simp only [Option.some.injEq] at h; subst h; cases hx; exact .inl ⟨rfl, rfl⟩
  · simp only [Option.some.injEq] at h; subst h
    cases hx with
    | vmap0 => exact .inl ⟨rfl, rfl⟩
    | vmap b _ en cl hA hg hh hwf hrep => exact .inr ⟨b, en, cl, rfl, hh, hwf, hrep⟩
  · rename_i r
    split at h
    · rename_i es' hr
      simp only [Option.some.injEq] at h; subst h
      cases hx with
      | map b _ hlt hh =>
        obtain ⟨l, hl, rfl⟩ := hh _ hr rfl
        obtain ⟨l', en, cl, h1, h2, h3, h4, h5⟩ := I.objs r _ hr
        rw [hl, Option.some.injEq] at h1
        subst h1
        exact .inr ⟨_, en, cl, rfl, h2, h3, h5⟩
    · rename_i es' hr
      simp only [Option.some.injEq] at h; subst h
      cases hx with
      | map b _ hlt hh =>
        obtain ⟨l, hl, rfl⟩ := hh _ hr rfl
        obtain ⟨l', en, cl, h1, h2, h3, h5⟩ := I.objs r _ hr
        rw [hl, Option.some.injEq] at h1
        subst h1
        exact .inr ⟨_, en, cl, rfl, h2, h3, h5⟩
    · cases h
  · cases h

theorem azero_rep (C : Ctx) (w : World) {T : TypeId} {z : Value} (hz : zeroV P T = some z) : RepV C w z (azero P T) := by
  simp only [azero, hz]; exact aconst_rep C w z

theorem zLook_rep (C : Ctx) (w : World) {T : TypeId} {z : Value} (hz : zeroV P T = some z) (o : Bool) : RepV C w z (zLook P T o) := by
  have h := azero_rep (P := P) C w hz
  unfold zLook
  split
  · exact h
  · unfold slNil
    split
    · rename_i e
      rw [e] at h
      split
      · cases h; exact .sl0 _ _ _ (Nat.zero_le _)
      · exact h
    · exact h

theorem run_findKey' {w : World} {k : TypeId} {n : Int} {l : List MapEntry} {r : Option (Nat × Value)} (h : P.underlying k = some (.int .i64)) (hf : Instr.findNow (.int .i64) (.int .i64 n) l 0 = some r) :
    (Instr.findKey k (.int .i64 n) l).run P w = .ok r w := by
  simp [Instr.findKey, runU h, hf]

theorem lookup_sound {W0 : World} {C : Ctx} {w : World} (I : Inv W0 C w) {T : TypeId} {x i : Value} {ax ai : AVal} {ok : Bool} {K : AVal → Prop} (hx : RepV C w x ax) (hi : RepV C w i ai) (h : aLookup P T ax ai ok C.H K) :
    Quiet C w ((Instr.lookup T x i ok).run P w) K := by
  unfold aLookup at h
  split at h
  · rename_i e n hT
    cases hi
    obtain ⟨hz, h⟩ := h
    obtain ⟨z, hz⟩ := Option.isSome_iff_exists.1 hz
    obtain ⟨k, hU, hk⟩ := keyT_spec hT
    have hzr := zLook_rep (P := P) C w hz (mpoOf ax C.H)
    split at h
    · rename_i es hes
      have fin : ∀ (v : Value) (a : AVal) (b : Bool), RepV C w v a → K (if ok then .tuple [a, .bool b] else a) → Quiet C w (.ok (if ok then .tuple #[v, .bool b] else v) w) K := by
        intro v a b hv hK
        cases ok with
        | true =>
          refine .mk' rfl (.tuple _ _ rfl fun i u c h1 h2 => ?_) hK
          match i, h1, h2 with
          | 0, h1, h2 => simp at h1 h2; subst h1 h2; exact hv
          | 1, h1, h2 => simp at h1 h2; subst h1 h2; exact .bool b
          | i + 2, h1, h2 => simp at h2
        | false => exact .mk' rfl hv hK
      rcases entries_rep I hx hes with ⟨rfl, rfl⟩ | ⟨b, en, cl, rfl, hb, hwf, hrep⟩
      · have := fin z _ false hzr (h.2 rfl)
        have hr : (Instr.lookup T (.map none) (.int .i64 n) ok).run P w = .ok (if ok then .tuple #[z, .bool false] else z) w := by
          have hf := run_findKey' (P := P) (w := w) (k := k) (n := n) (l := []) (r := none) hk rfl
          have hc := run_checkKey' (P := P) (w := w) (n := n) hk true
          simp [Instr.lookup, runU hU, hc, hf, zeroV_run hz]
        rw [hr]; exact this
      · obtain ⟨r, hf, hcase⟩ := findNow_spec' n en.toList es 0 (by simpa using hwf.size) (fun j e p a b => hwf.keysI j e p (by simpa using a) b)
        have hf' := run_findKey' (P := P) (w := w) (k := k) (n := n) hk hf
        have hc := run_checkKey' (P := P) (w := w) (n := n) hk en.isEmpty
        rcases hcase with ⟨h1, rfl⟩ | ⟨j, e', v, h1, rfl, h2, h3, _, _⟩
        · have := fin z _ false hzr (h.2 h1)
          have hr : (Instr.lookup T (.map (some b)) (.int .i64 n) ok).run P w = .ok (if ok then .tuple #[z, .bool false] else z) w := by
            simp [Instr.lookup, runU hU, getObj, Sem.run, hb, hc, hf', zeroV_run hz]
          rw [hr]; exact this
        · have := fin e'.val _ true (hrep j e' _ (by simpa using h2) h3) (h.1 _ h1)
          have hr : (Instr.lookup T (.map (some b)) (.int .i64 n) ok).run P w = .ok (if ok then .tuple #[e'.val, .bool true] else e'.val) w := by
            simp [Instr.lookup, runU hU, getObj, Sem.run, hb, hc, hf']
          rw [hr]; exact this
    · exact h.elim
  · exact h.elim

theorem makeMap_sound {W0 : World} {C : Ctx} {w : World} (I : Inv W0 C w) {id : Nat} (hid : Free C.H id) {T : TypeId} {K : AVal → Eff → Prop} (h : aMakeMap id K) : Done W0 C w ((Instr.makeMap T none).run P w) K := by
  have key := I.alloc id hid (.mp []) (.map #[] 0) 0 (fun m => ⟨_, #[], 0, Ctx.new_ρ _ _ _ _, heap_alloc_self _ _, ⟨rfl, by simp, by simp, by simp, by simp⟩, by simp, by simp⟩)
  exact ⟨.map (some w.heap.size), .map id, _, _, _, rfl, .map _ _ (Ctx.new_known hid _ (by simp)) fun o _ _ => ⟨_, Ctx.new_ρ _ _ _ _, rfl⟩, h, rfl, key.1, key.2⟩

theorem below_heap {W0 w : World} {b : Nat} (h : Below W0.heap.size W0 w) (hb : W0.heap.size ≤ b) (o : Obj) : Below W0.heap.size W0 { w with heap := w.heap.setIfInBounds b o } :=
  h.trans ⟨rfl, rfl, rfl, by simp, fun k hk => by
    show (w.heap.setIfInBounds b o)[k]? = _
    rw [Array.getElem?_setIfInBounds_ne (by omega)]⟩

/-- a map; one whose values may be places of the call's own -/
def mpOf (o : Bool) (es : List (Int × AVal)) : AObj := if o then .mpo false es else .mp es
theorem repM {C : Ctx} {w : World} {r : Nat} {o : Bool} {es : List (Int × AVal)} : RepO C w r (mpOf o es) ↔ ∃ l entries clock, C.ρ r = some l ∧ w.heap[l.b]? = some (.map entries clock) ∧ MapWf false entries clock es ∧ (o = false → ∀ p ∈ es, AVal.g1 p.2 = true) ∧
      ∀ (i : Nat) (e : MapEntry) (p : Int × AVal), entries[i]? = some e → es[i]? = some p → RepV C w e.val p.2 := by
  cases o with
  | true => exact ⟨fun ⟨l, en, cl, h1, h2, h3, h5⟩ => ⟨l, en, cl, h1, h2, h3, fun h => (by cases h), h5⟩, fun ⟨l, en, cl, h1, h2, h3, _, h5⟩ => ⟨l, en, cl, h1, h2, h3, h5⟩⟩
  | false => exact ⟨fun ⟨l, en, cl, h1, h2, h3, h4, h5⟩ => ⟨l, en, cl, h1, h2, h3, fun _ => h4, h5⟩, fun ⟨l, en, cl, h1, h2, h3, h4, h5⟩ => ⟨l, en, cl, h1, h2, h3, h4 rfl, h5⟩⟩
theorem mpOf_in {C : Ctx} {r : Nat} {o : Bool} {es : List (Int × AVal)} (h : C.H[r]? = some (mpOf o es)) : ∃ o', C.H[r]? = some o' ∧ o'.isMp = true := ⟨_, h, by cases o <;> rfl⟩

theorem setMapO {W0 : World} {C : Ctx} {w : World} (I : Inv W0 C w) {r : Nat} (o : Bool) {es es' : List (Int × AVal)} {l : Loc} (hr : C.H[r]? = some (mpOf o es)) (hl : C.ρ r = some l) (en' : Array MapEntry) (cl' : Nat)
    (hwf : MapWf false en' cl' es') (hg : o = false → ∀ p ∈ es', AVal.g1 p.2 = true) (hrep : ∀ (i : Nat) (e : MapEntry) (p : Int × AVal), en'[i]? = some e → es'[i]? = some p → RepV C w e.val p.2) :
    Inv W0 (C.set r (mpOf o es')) { w with heap := w.heap.setIfInBounds l.b (.map en' cl') } ∧ Mono C w (C.set r (mpOf o es')) { w with heap := w.heap.setIfInBounds l.b (.map en' cl') } := by
  have hs := I.sep r l hl
  refine I.put hr hl (fun b hb => ?_) (by simp) (below_heap I.below hs.2.1 _) ?_ (fun m => repM.2 ⟨l, en', cl', hl, ?_, hwf, hg, fun i e p a b => (hrep i e p a b).mono m⟩)
  · show (w.heap.setIfInBounds l.b _)[b]? = _
    rw [Array.getElem?_setIfInBounds_ne (fun h => hb h.symm)]
  · unfold ObjMono
    simp only [Ctx.set, List.getElem?_set_self hs.1]
    cases o with
    | true => exact ⟨⟨_, hr, rfl⟩, trivial⟩
    | false => exact ⟨⟨_, hr, rfl⟩, trivial⟩
  · show (w.heap.setIfInBounds l.b _)[l.b]? = _
    rw [Array.getElem?_setIfInBounds_self, if_pos hs.2.2.1]

theorem setMap {W0 : World} {C : Ctx} {w : World} (I : Inv W0 C w) {r : Nat} {es es' : List (Int × AVal)} {l : Loc} (hr : C.H[r]? = some (.mp es)) (hl : C.ρ r = some l) (en' : Array MapEntry) (cl' : Nat)
    (hwf : MapWf false en' cl' es') (hg : ∀ p ∈ es', AVal.g1 p.2 = true) (hrep : ∀ (i : Nat) (e : MapEntry) (p : Int × AVal), en'[i]? = some e → es'[i]? = some p → RepV C w e.val p.2) :
    Inv W0 (C.set r (.mp es')) { w with heap := w.heap.setIfInBounds l.b (.map en' cl') } ∧ Mono C w (C.set r (.mp es')) { w with heap := w.heap.setIfInBounds l.b (.map en' cl') } := by
  have hs := I.sep r l hl
  refine I.put hr hl (fun b hb => ?_) (by simp) (below_heap I.below hs.2.1 _) ?_ (fun m => ⟨l, en', cl', hl, ?_, hwf, hg, fun i e p a b => (hrep i e p a b).mono m⟩)
  · show (w.heap.setIfInBounds l.b _)[b]? = _
    rw [Array.getElem?_setIfInBounds_ne (fun h => hb h.symm)]
  · unfold ObjMono
    simp only [Ctx.set, List.getElem?_set_self hs.1]
    exact ⟨⟨_, hr, rfl⟩, trivial⟩
  · show (w.heap.setIfInBounds l.b _)[l.b]? = _
    rw [Array.getElem?_setIfInBounds_self, if_pos hs.2.2.1]

theorem mapUpd_core {W0 : World} {C : Ctx} {w : World} (I : Inv W0 C w) {T : TypeId} {x i v : Value} {r : Nat} {n : Int} {e : TypeId} {av : AVal} {K : AVal → Eff → Prop} (o : Bool) {es : List (Int × AVal)} (hx : RepV C w x (.map r)) (hi : RepV C w i (.int .i64 n)) (hv : RepV C w v av)
    (hT : keyT P T = some e) (hr : C.H[r]? = some (mpOf o es)) (hg1 : o = false → av.g1 = true) (hk : K (.tuple []) (.set r (mpOf o (aset es n av)))) : Did W0 C w ((Instr.mapUpdate T x i v).run P w) K := by
  cases hi
  obtain ⟨k, hU, hk'⟩ := keyT_spec hT
  cases hx with
  | map b _ hlt hh =>
    obtain ⟨l, hl, rfl⟩ := hh _ hr (by cases o <;> rfl)
    obtain ⟨l', en, cl, h1, h2, hwf, hg, hrep⟩ := repM.1 (I.objs r _ hr)
    rw [hl, Option.some.injEq] at h1
    subst h1
    obtain ⟨rr, hf, hcase⟩ := findNow_spec' n en.toList es 0 (by simpa using hwf.size) (fun j e p a b => hwf.keysI j e p (by simpa using a) b)
    have hf' := run_findKey' (P := P) (w := w) (k := k) (n := n) hk' hf
    have hc := run_checkKey' (P := P) (w := w) (n := n) hk' false
    have hset : ∀ en' cl', (setObj l.b (.map en' cl')).run P w = .ok () { w with heap := w.heap.setIfInBounds l.b (.map en' cl') } := by
      intro en' cl'; simp [setObj, Sem.run, h2]
    rcases hcase with ⟨h3, rfl⟩ | ⟨j, e', v', h3, rfl, h4, h5, h6, _⟩
    · have key := setMapO I o (es' := aset es n av) hr hl (en.push { key := .int .i64 n, val := v, born := cl }) (cl + 1) (by
        rw [aset_none h3]
        refine ⟨by simp [hwf.size], fun i e p a b => ?_, ?_, fun e he => ?_, ?_⟩
        · by_cases hi : i < es.length
          · rw [List.getElem?_append_left hi] at b
            rw [Array.getElem?_push_lt (by rw [hwf.size]; exact hi)] at a
            refine hwf.keysI i e p ?_ b
            rw [Array.getElem?_eq_getElem (by rw [hwf.size]; exact hi)]; exact a
          · have hi' : i = es.length := by have := getD_opt b; simp at this; omega
            subst hi'
            simp only [List.getElem?_concat_length, Option.some.injEq] at b
            rw [← hwf.size, Array.getElem?_push_size, Option.some.injEq] at a
            subst a b; rfl
        · rw [List.map_append, List.map_cons, List.map_nil]
          refine List.nodup_append.2 ⟨hwf.nodup, by simp, fun a ha b hb => ?_⟩
          simp at hb; subst hb
          exact fun e => alook_none_keys h3 (e ▸ ha)
        · simp only [Array.toList_push, List.mem_append, List.mem_singleton] at he
          rcases he with he | rfl
          · have := hwf.born e he; omega
          · exact Nat.lt_succ_self _
        · rw [Array.toList_push, List.map_append, List.map_cons, List.map_nil]
          refine List.nodup_append.2 ⟨hwf.bnodup, by simp, fun a ha b hb => ?_⟩
          simp only [List.mem_singleton] at hb; subst hb
          obtain ⟨e, he, rfl⟩ := List.mem_map.1 ha
          have := hwf.born e he
          omega)
        (by rw [aset_none h3]; intro ho p hp; rcases List.mem_append.1 hp with hp | hp; exact hg ho p hp; simp at hp; subst hp; exact hg1 ho)
        (by
          rw [aset_none h3]
          intro i e p a b
          by_cases hi : i < es.length
          · rw [List.getElem?_append_left hi] at b
            rw [Array.getElem?_push_lt (by rw [hwf.size]; exact hi)] at a
            refine hrep i e p ?_ b
            rw [Array.getElem?_eq_getElem (by rw [hwf.size]; exact hi)]; exact a
          · have hi' : i = es.length := by have := getD_opt b; simp at this; omega
            subst hi'
            simp only [List.getElem?_concat_length, Option.some.injEq] at b
            rw [← hwf.size, Array.getElem?_push_size, Option.some.injEq] at a
            subst a b; exact hv)
      refine ⟨_, _, _, ?_, hk, rfl, key.1, key.2⟩
      rw [← hset]
      simp [Instr.mapUpdate, runU hU, getObj, Sem.run, h2, hc, hf']
    · have hj : j < en.size := by have := getD_opt h4; simpa using this
      have hjs : j < es.length := by rw [← hwf.size]; exact hj
      have e'k : e'.key = .int .i64 n := hwf.keysI j e' _ (by simpa using h4) h5
      have hen : en[j]? = some e' := by simpa using h4
      have hmod : ∀ (i : Nat) (e : MapEntry), (en.modify j fun e => { e with key := .int .i64 n, val := v })[i]? = some e → (i = j ∧ e = { e' with key := .int .i64 n, val := v }) ∨ (i ≠ j ∧ en[i]? = some e) := by
        intro i e h
        rw [Array.getElem?_modify] at h
        split at h
        · rename_i hij
          subst hij
          rw [hen] at h
          simp only [Option.map_some, Option.some.injEq] at h
          exact .inl ⟨rfl, h.symm⟩
        · rename_i hij
          exact .inr ⟨fun h => hij h.symm, h⟩
      have hborn : (en.modify j fun e => { e with key := .int .i64 n, val := v }).toList.map (·.born) = en.toList.map (·.born) := by
        apply List.ext_getElem?
        intro i
        simp only [List.getElem?_map, Array.getElem?_toList, Array.getElem?_modify]
        split
        · rename_i h; subst h; rw [hen]; rfl
        · rfl
      have hpairs : ∀ (i : Nat) (p : Int × AVal), (es.set j (n, av))[i]? = some p → (i = j ∧ p = (n, av)) ∨ (i ≠ j ∧ es[i]? = some p) := by
        intro i p h
        by_cases e : j = i
        · subst e; rw [List.getElem?_set_self hjs, Option.some.injEq] at h; exact .inl ⟨rfl, h.symm⟩
        · rw [List.getElem?_set_ne e] at h; exact .inr ⟨fun h => e h.symm, h⟩
      have key := setMapO I o (es' := aset es n av) hr hl (en.modify j fun e => { e with key := .int .i64 n, val := v }) cl (by
        rw [h6]
        refine ⟨by simp [hwf.size], fun i e p a b => ?_, ?_, fun e he => ?_, by rw [hborn]; exact hwf.bnodup⟩
        · rcases hmod i e a with ⟨rfl, rfl⟩ | ⟨hne, a⟩
          · rcases hpairs _ _ b with ⟨_, rfl⟩ | ⟨hn, _⟩
            · rfl
            · exact absurd rfl hn
          · rcases hpairs _ _ b with ⟨he, _⟩ | ⟨_, b⟩
            · exact absurd he hne
            · exact hwf.keysI i e p a b
        · have : (es.set j (n, av)).map (·.1) = es.map (·.1) := by
            apply List.ext_getElem?
            intro i
            simp only [List.getElem?_map]
            by_cases e : j = i
            · subst e; rw [List.getElem?_set_self hjs, h5]; rfl
            · rw [List.getElem?_set_ne e]
          rw [this]; exact hwf.nodup
        · have : e.born ∈ (en.modify j fun e => { e with key := .int .i64 n, val := v }).toList.map (·.born) := List.mem_map.2 ⟨e, he, rfl⟩
          rw [hborn] at this
          obtain ⟨e2, he2, hb2⟩ := List.mem_map.1 this
          rw [← hb2]; exact hwf.born e2 he2)
        (by
          rw [h6]; intro ho p hp
          rcases List.mem_or_eq_of_mem_set hp with hp | rfl
          · exact hg ho p hp
          · exact hg1 ho)
        (by
          rw [h6]
          intro i e p a b
          rcases hmod i e a with ⟨rfl, rfl⟩ | ⟨hne, a⟩
          · rcases hpairs _ _ b with ⟨_, rfl⟩ | ⟨hn, _⟩
            · exact hv
            · exact absurd rfl hn
          · rcases hpairs _ _ b with ⟨he, _⟩ | ⟨_, b⟩
            · exact absurd he hne
            · exact hrep i e p a b)
      refine ⟨_, _, _, ?_, hk, rfl, key.1, key.2⟩
      rw [← hset]
      simp [Instr.mapUpdate, runU hU, getObj, Sem.run, h2, hc, hf', hen, e'k, Instr.keyThatStays, Instr.sameBits]

theorem mapUpdate_sound {W0 : World} {C : Ctx} {w : World} (I : Inv W0 C w) {T : TypeId} {x i v : Value} {ax ai av : AVal} {K : AVal → Eff → Prop} (hx : RepV C w x ax) (hi : RepV C w i ai) (hv : RepV C w v av)
    (h : aMapUpdate P T ax ai av C.H K) : Did W0 C w ((Instr.mapUpdate T x i v).run P w) K := by
  unfold aMapUpdate at h
  split at h
  · rename_i e n r hT
    split at h
    · rename_i es hr
      exact mapUpd_core I false hx hi hv hT hr (fun _ => h.1) h.2
    · rename_i es hr
      exact mapUpd_core I true hx hi hv hT hr (fun h => by cases h) h
    · exact h.elim
  · exact h.elim

theorem delete_sound {W0 : World} {C : Ctx} {w : World} (I : Inv W0 C w) {T T2 ty : TypeId} {x i : Value} {ax ai : AVal} {K : AVal → Eff → Prop} (hx : RepV C w x ax) (hi : RepV C w i ai)
    (h : aDelete P T ax ai C.H K) : Done W0 C w ((Builtin.delete_ #[T, T2] ty #[x, i]).run P w) K := by
  unfold aDelete at h
  split at h
  · rename_i e n r hT
    split at h
    · rename_i es hr
      cases hi
      obtain ⟨k, hU, hk'⟩ := keyT_spec hT
      cases hx with
      | map b _ hlt hh =>
        obtain ⟨l, hl, rfl⟩ := hh _ hr rfl
        obtain ⟨l', en, cl, h1, h2, hwf, hg, hrep⟩ := I.objs r _ hr
        rw [hl, Option.some.injEq] at h1
        subst h1
        obtain ⟨rr, hf, hcase⟩ := findNow_spec' n en.toList es 0 (by simpa using hwf.size) (fun j e p a b => hwf.keysI j e p (by simpa using a) b)
        have hf' := run_findKey' (P := P) (w := w) (k := k) (n := n) hk' hf
        have hc := run_checkKey' (P := P) (w := w) (n := n) hk' en.isEmpty
        have hset : ∀ en' cl', (setObj l.b (.map en' cl')).run P w = .ok () { w with heap := w.heap.setIfInBounds l.b (.map en' cl') } := by
          intro en' cl'; simp [setObj, Sem.run, h2]
        have hadel : alook es n = none → adel es n = es := adel_none
        rcases hcase with ⟨h3, rfl⟩ | ⟨j, e', v', h3, rfl, h4, h5, _, h7⟩
        · have key := setMap I (es' := adel es n) hr hl en cl (by rw [hadel h3]; exact hwf) (by rw [hadel h3]; exact hg) (by rw [hadel h3]; exact hrep)
          refine ⟨_, _, _, _, _, ?_, .tuple #[] [] rfl (by simp), h, rfl, key.1, key.2⟩
          have := hset en cl
          simp [Builtin.delete_, runU hU, getObj, Sem.run, h2, hc, hf', this]
        · have hj : j < en.size := by have := getD_opt h4; simpa using this
          have hl2 : (en.eraseIdxIfInBounds j).toList = en.toList.eraseIdx j := by simp
          have hge : ∀ (i : Nat) (e : MapEntry), (en.eraseIdxIfInBounds j)[i]? = some e → en.toList[if i < j then i else i + 1]? = some e := by
            intro i e h
            rw [← Array.getElem?_toList, hl2, List.getElem?_eraseIdx] at h
            split <;> rename_i hi <;> simp only [hi, if_true, if_false] at h <;> exact h
          have hga : ∀ (i : Nat) (p : Int × AVal), (es.eraseIdx j)[i]? = some p → es[if i < j then i else i + 1]? = some p := by
            intro i p h
            rw [List.getElem?_eraseIdx] at h
            split <;> rename_i hi <;> simp only [hi, if_true, if_false] at h <;> exact h
          have hjs : j < es.length := by rw [← hwf.size]; exact hj
          have key := setMap I (es' := adel es n) hr hl (en.eraseIdxIfInBounds j) cl (by
            rw [h7]
            refine ⟨?_, fun i e p a b => hwf.keysI _ e p (by simpa using hge i e a) (hga i p b), ?_, fun e he => ?_, ?_⟩
            · rw [← Array.length_toList, hl2, List.length_eraseIdx_of_lt (by simpa using hj), List.length_eraseIdx_of_lt hjs, Array.length_toList, hwf.size]
            · exact (List.Sublist.map _ (List.eraseIdx_sublist es j)).nodup hwf.nodup
            · rw [hl2] at he
              exact hwf.born e (List.mem_of_mem_eraseIdx he)
            · rw [hl2]
              exact (List.Sublist.map _ (List.eraseIdx_sublist en.toList j)).nodup hwf.bnodup)
            (by rw [h7]; exact fun p hp => hg p (List.mem_of_mem_eraseIdx hp))
            (by rw [h7]; exact fun i e p a b => hrep _ e p (by simpa using hge i e a) (hga i p b))
          refine ⟨_, _, _, _, _, ?_, .tuple #[] [] rfl (by simp), h, rfl, key.1, key.2⟩
          have := hset (en.eraseIdxIfInBounds j) cl
          simp [Builtin.delete_, runU hU, getObj, Sem.run, h2, hc, hf', this]
    · exact h.elim
  · exact h.elim

theorem range_sound {W0 : World} {C : Ctx} {w : World} (I : Inv W0 C w) {id : Nat} (hid : Free C.H id) {T : TypeId} {x : Value} {ax : AVal} {K : AVal → Eff → Prop} (hx : RepV C w x ax) (h : aRange P T ax id K) :
    Done W0 C w ((Instr.range T x).run P w) K := by
  have fin : ∀ (o : Obj) (left : List (Int × AVal)), (Mono C w (C.new id (.it left none) ⟨w.heap.size, 0, 0⟩) (w.alloc o) → RepO (C.new id (.it left none) ⟨w.heap.size, 0, 0⟩) (w.alloc o) id (.it left none)) →
      K (.iter id) (.new id (.it left none)) → Done W0 C w (.ok (.pointer (some ⟨w.heap.size, 0, none⟩)) (w.alloc o)) K := by
    intro o left ho hk
    have key := I.alloc id hid (.it left none) o 0 ho
    exact ⟨_, .iter id, _, _, _, rfl, .iter _ _ (Ctx.new_known hid _ (by simp)) ⟨rfl, rfl⟩ fun l c _ => ⟨_, Ctx.new_ρ _ _ _ _, rfl⟩, hk, rfl, key.1, key.2⟩
  have hnil : ∀ (k e : TypeId), P.underlying T = some (.map k e) → (Instr.range T (.map none)).run P w = .ok (.pointer (some ⟨w.heap.size, 0, none⟩)) (w.alloc (.mapIter none 0 #[] 0)) := by
    intro k e hU; simp [Instr.range, runU hU]
  unfold aRange at h
  split at h
  · rename_i e hT
    obtain ⟨k, hU, _⟩ := keyT_spec hT
    cases hx
    rw [hnil k e hU]
    exact fin _ _ (fun m => ⟨_, Ctx.new_ρ _ _ _ _, .inl ⟨rfl, rfl, _, _, _, heap_alloc_self _ _⟩⟩) h
  · rename_i e es hT
    obtain ⟨k, hU, _⟩ := keyT_spec hT
    cases hx with
    | vmap0 =>
      rw [hnil k e hU]
      exact fin _ _ (fun m => ⟨_, Ctx.new_ρ _ _ _ _, .inl ⟨rfl, rfl, _, _, _, heap_alloc_self _ _⟩⟩) h
    | vmap b _ en cl hA hg hh hwf hrep =>
      have hr : (Instr.range T (.map (some b))).run P w = .ok (.pointer (some ⟨w.heap.size, 0, none⟩)) (w.alloc (.mapIter (some b) cl #[] cl)) := by
        simp [Instr.range, runU hU, getObj, Sem.run, hh]
      rw [hr]
      have hfil : en.toList.filter (fun e => !(#[] : Array Nat).contains e.born) = en.toList := List.filter_eq_self.2 fun x _ => by simp
      refine fin _ _ (fun m => ⟨_, Ctx.new_ρ _ _ _ _, .inr ⟨b, #[], en, cl, heap_alloc_self _ _, hA, ?_, hwf.born, hwf.bnodup, ⟨by rw [hfil]; simpa using hwf.size, fun i e p h1 h2 => ?_⟩, by simp⟩⟩) h
      · rw [(m.imm b hA).2]; exact hh
      · rw [hfil] at h1
        have h1' : en[i]? = some e := by simpa using h1
        exact ⟨hwf.keysI i e p h1' h2, hg p (List.mem_of_getElem? h2), (hrep i e p h1' h2).mono m⟩
  · exact h.elim

theorem nodup_filter_split {L1 L2 : List MapEntry} {e : MapEntry} (h : ((L1 ++ e :: L2).map (·.born)).Nodup) : (L1 ++ e :: L2).filter (fun x => !(x.born == e.born)) = L1 ++ L2 := by
  rw [List.map_append, List.map_cons, List.nodup_append] at h
  obtain ⟨_, h2, h3⟩ := h
  rw [List.nodup_cons] at h2
  rw [List.filter_append, List.filter_cons_of_neg (by simp)]
  congr 1
  · rw [List.filter_eq_self]
    intro x hx
    have := h3 x.born (List.mem_map_of_mem hx) e.born (by simp)
    simpa using this
  · rw [List.filter_eq_self]
    intro x hx
    have : x.born ≠ e.born := fun he => h2.1 (he ▸ List.mem_map_of_mem hx)
    simpa using this

theorem setIter {W0 : World} {C : Ctx} {w : World} (I : Inv W0 C w) {r : Nat} {l0 : List (Int × AVal)} {c0 : Option (Int × AVal)} {l : Loc} (hr : C.H[r]? = some (.it l0 c0)) (hl : C.ρ r = some l) (o : Obj) (l1 : List (Int × AVal)) (c1 : Option (Int × AVal))
    (ho : Mono C w (C.set r (.it l1 c1)) { w with heap := w.heap.setIfInBounds l.b o } → { w with heap := w.heap.setIfInBounds l.b o }.heap[l.b]? = some o → (∀ b, b ≠ l.b → { w with heap := w.heap.setIfInBounds l.b o }.heap[b]? = w.heap[b]?) →
      RepO (C.set r (.it l1 c1)) { w with heap := w.heap.setIfInBounds l.b o } r (.it l1 c1)) :
    Inv W0 (C.set r (.it l1 c1)) { w with heap := w.heap.setIfInBounds l.b o } ∧ Mono C w (C.set r (.it l1 c1)) { w with heap := w.heap.setIfInBounds l.b o } := by
  have hs := I.sep r l hl
  have hne : ∀ b, b ≠ l.b → (w.heap.setIfInBounds l.b o)[b]? = w.heap[b]? := fun b hb => Array.getElem?_setIfInBounds_ne (fun h => hb h.symm)
  refine I.put hr hl hne (by simp) (below_heap I.below hs.2.1 _) ?_ (fun m => ho m ?_ hne)
  · unfold ObjMono
    simp only [Ctx.set, List.getElem?_set_self hs.1]
    exact ⟨⟨l0, c0, hr⟩, trivial⟩
  · show (w.heap.setIfInBounds l.b _)[l.b]? = _
    rw [Array.getElem?_setIfInBounds_self, if_pos hs.2.2.1]

theorem next_sound {W0 : World} {C : Ctx} {w : World} (I : Inv W0 C w) {ty : TypeId} {x : Value} {ax : AVal} {st : Bool} {K : AVal → Eff → Prop} (hx : RepV C w x ax) (h : aNext ax st C.H K) :
    Done W0 C w ((Instr.next x st ty).run P w) K := by
  unfold aNext at h
  split at h
  · rename_i r
    split at h
    · rename_i left cur hr
      obtain ⟨h1, h2⟩ := h
      cases hx with
      | iter a _ hlt hsp hh =>
        obtain ⟨l, hl, hb⟩ := hh _ _ hr
        have ha : a = ⟨l.b, 0, none⟩ := by cases a; simp_all
        subst ha
        obtain ⟨l', h3, h⟩ := I.objs r _ hr
        rw [hl, Option.some.injEq] at h3
        subst h3
        have over : left = [] → (Instr.next (.pointer (some ⟨l.b, 0, none⟩)) false ty).run P w = .ok (.tuple #[.bool false]) w → Done W0 C w ((Instr.next (.pointer (some ⟨l.b, 0, none⟩)) false ty).run P w) K := by
          intro e hrun
          refine ⟨_, _, _, C, _, hrun, .tuple _ [.bool false] rfl fun i u c g1 g2 => ?_, h1 e, rfl, I, .refl _ _⟩
          match i, g1, g2 with
          | 0, g1, g2 => simp at g1 g2; subst g1 g2; exact .bool false
          | i + 1, g1, g2 => simp at g2
        rcases h with ⟨e1, _, s, n, k, h3⟩ | ⟨bm, seen, en, cl, h3, h4, h5, h6, h7, h8, h9⟩
        · exact over e1 (by simp [Instr.next, getObj, Sem.run, h3])
        · rcases run_next_at (P := P) w ty l.b bm cl cl seen en cl h3 h5 (fun x hx => h6 x hx) (Nat.le_refl _) with ⟨hz, hrun⟩ | ⟨e, he, w1, hw1, hrun⟩
          · refine over ?_ hrun
            have : (leftOf en seen).toList.length = left.length := by rw [← h8.1]; simp [leftOf]
            exact List.eq_nil_of_length_eq_zero (by simpa [hz] using this.symm)
          · have heL : e ∈ en.toList.filter (fun e => !seen.contains e.born) := by simpa [leftOf] using he
            obtain ⟨L1, L2, hL⟩ := List.append_of_mem heL
            have hlen := h8.1
            rw [hL] at hlen
            have hj : L1.length < left.length := by rw [← hlen]; simp
            have hsplit : left = left.take L1.length ++ left[L1.length] :: left.drop (L1.length + 1) := by
              rw [List.getElem_cons_drop, List.take_append_drop]
            have hep := h8.2 L1.length e left[L1.length] (by rw [hL]; simp) (List.getElem?_eq_getElem hj)
            have hnd : ((L1 ++ e :: L2).map (·.born)).Nodup := by
              rw [← hL]; exact (List.Sublist.map _ List.filter_sublist).nodup h7
            have hfil : en.toList.filter (fun x => !(seen.push e.born).contains x.born) = L1 ++ L2 := by
              rw [← nodup_filter_split hnd, ← hL, List.filter_filter]
              apply List.filter_congr
              intro x _
              simp only [Array.contains_push, Bool.not_or]
              rw [Bool.and_comm]
            have hw1h : w1.heap = w.heap := by rcases hw1 with rfl | rfl <;> rfl
            have I1 := I.same (w' := w1) hw1h (by rcases hw1 with rfl | rfl; exact I.below; exact I.below.drew)
            have key := setIter I1.1 hr hl (.mapIter (some bm) cl (seen.push e.born) cl) (left.take L1.length ++ left.drop (L1.length + 1)) (some left[L1.length]) (fun m g1 g2 => by
              refine ⟨l, hl, .inr ⟨bm, seen.push e.born, en, cl, g1, h4, ?_, h6, h7, ?_, fun p hp => ?_⟩⟩
              · rw [g2 bm (fun eb => (I.sep r l hl).2.2.2 (eb ▸ h4)), hw1h]; exact h5
              · rw [hfil]
                refine ⟨by simp at hlen ⊢; omega, fun i e' p' q1 q2 => ?_⟩
                have hget : ∀ i, (left.take L1.length ++ left.drop (L1.length + 1))[i]? = left[if i < L1.length then i else i + 1]? := by
                  intro i
                  rw [List.getElem?_append]
                  have hmin : (left.take L1.length).length = L1.length := by simp; omega
                  rw [hmin]
                  split
                  · rw [List.getElem?_take, if_pos (by assumption)]
                  · rw [List.getElem?_drop]; congr 1; omega
                have hgetL : ∀ i, (L1 ++ L2)[i]? = (L1 ++ e :: L2)[if i < L1.length then i else i + 1]? := by
                  intro i
                  rw [List.getElem?_append]
                  split
                  · rw [List.getElem?_append_left (by assumption)]
                  · rw [List.getElem?_append_right (by omega), show i + 1 - L1.length = (i - L1.length) + 1 by omega]; rfl
                rw [hget] at q2
                rw [hgetL, ← hL] at q1
                have := h8.2 _ e' p' q1 q2
                exact ⟨this.1, this.2.1, (this.2.2.mono I1.2).mono m⟩
              · simp only [Option.some.injEq] at hp
                subst hp
                exact ⟨e, (List.mem_filter.1 heL).1, by simp, hep.1, hep.2.1, (hep.2.2.mono I1.2).mono m⟩)
            have hk := h2 _ _ _ hsplit
            refine ⟨_, _, _, _, _, hrun, .tuple _ [.bool true, .int .i64 left[L1.length].1, left[L1.length].2] rfl fun i u c g1 g2 => ?_, hk, rfl, key.1, I1.2.trans key.2⟩
            match i, g1, g2 with
            | 0, g1, g2 => simp at g1 g2; subst g1 g2; exact .bool true
            | 1, g1, g2 => simp at g1 g2; subst g1 g2; rw [hep.1]; exact .int _ _
            | 2, g1, g2 => simp at g1 g2; subst g1 g2; exact (hep.2.2.mono I1.2).mono key.2
            | i + 3, g1, g2 => simp at g2
    · exact h.elim
  · exact h.elim

theorem entry_sound {W0 : World} {C : Ctx} {w : World} (I : Inv W0 C w) {x : Value} {ax : AVal} {K : AVal → Prop} (hx : RepV C w x ax) (h : aEntry ax C.H K) :
    Quiet C w ((Instr.entry x).run P w) K := by
  unfold aEntry at h
  split at h
  · rename_i r
    split at h
    · rename_i left p hr
      cases hx with
      | iter a _ hlt hsp hh =>
        obtain ⟨l, hl, hb⟩ := hh _ _ hr
        have ha : a = ⟨l.b, 0, none⟩ := by cases a; simp_all
        subst ha
        obtain ⟨l', h3, h'⟩ := I.objs r _ hr
        rw [hl, Option.some.injEq] at h3
        subst h3
        rcases h' with ⟨_, e1, _⟩ | ⟨bm, seen, en, cl, h3, h4, h5, h6, h7, h8, h9⟩
        · cases e1
        · obtain ⟨e, g1, g2, g3, g4, g5⟩ := h9 p rfl
          have hseen : ∃ s0 : Array Nat, seen = s0.push e.born := by
            have hne : seen.size ≠ 0 := fun h0 => by have : seen = #[] := Array.eq_empty_of_size_eq_zero h0; subst this; simp at g2
            refine ⟨seen.pop, ?_⟩
            apply Array.ext'
            have hl : seen.toList ≠ [] := fun h => hne (by rw [← Array.length_toList, h]; rfl)
            have hg : seen.toList.getLast? = some e.born := by rw [← g2]; simp [Array.back?, List.getLast?_eq_getElem?]
            have hg2 : seen.toList.getLast hl = e.born := by rw [List.getLast?_eq_some_getLast hl] at hg; simpa using hg
            rw [Array.toList_push, Array.toList_pop, ← hg2, List.dropLast_concat_getLast hl]
          obtain ⟨s0, rfl⟩ := hseen
          refine .mk' (run_entry_at w l.b bm cl s0 en cl e h3 h5 g1 h7) (.tuple _ [.int .i64 p.1, p.2] rfl fun i u c q1 q2 => ?_) h
          match i, q1, q2 with
          | 0, q1, q2 => simp at q1 q2; subst q1 q2; rw [g3]; exact .int _ _
          | 1, q1, q2 => simp at q1 q2; subst q1 q2; exact g5
          | i + 2, q1, q2 => simp at q2
    · exact h.elim
  · exact h.elim
end
end Go.Ab
