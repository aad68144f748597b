/-
  Abstract values, the heap of a call, and the relation between them and the model's values and worlds.
-/
import Derived.Calls
import Derived.Tactics2
import Derived.Below
import Derived.Deep.LoopGhost
import Derived.KernelRfl
namespace Go.Ab
open Go Go.RowKit

inductive AVal where
  | any
  | bool (b : Bool)
  | int (k : IntKind) (n : Int)
  | str (s : ByteArray)
  | agg (cs : List AVal)
  | tuple (vs : List AVal)
  | nils
  | z0
  | sl (sz : Nat) (xs : List (List AVal))
  | own (r v lo len : Nat)
  | eptr (cs : List AVal)
  | ptr (r k : Nat)
  | rptr (r v i k : Nat)
  | nilm
  | map (r : Nat)
  | vmap (es : List (Int × AVal))
  | func (f : FuncId) (caps : List AVal)
  | iter (r : Nat)
  | yld (r : Nat)
  | pr (φ : (Nat → Prop) → World → Value → Prop)
  deriving Inhabited

abbrev Fr := List (Nat × AVal)

def get : Fr → Nat → AVal
  | [], _ => .any
  | (k, v) :: r, t => if k = t then v else get r t

/-- A value without a place of the call's own in it: of one cell; of a struct or an array; of several results. -/
def AVal.g0 : AVal → Bool
  | .any | .agg _ | .tuple _ | .own _ _ _ _ | .ptr _ _ | .rptr _ _ _ _ | .map _ | .func _ _ | .iter _ | .yld _ => false
  | _ => true
def AVal.g1 : AVal → Bool
  | .agg cs => cs.all AVal.g0
  | v => v.g0
def AVal.g2 : AVal → Bool
  | .tuple vs => vs.all AVal.g1
  | v => v.g1
/-- A value that needs no memory. -/
def AVal.f0 : AVal → Bool
  | .any | .bool _ | .int _ _ | .str _ | .nils | .z0 | .nilm => true
  | _ => false
def AVal.f1 : AVal → Bool
  | .agg cs => cs.all AVal.f0
  | v => v.f0
def AVal.f2 : AVal → Bool
  | .tuple vs => vs.all AVal.f1
  | v => v.f1

inductive AObj where
  | box (cs : List AVal)
  | row (v sz : Nat) (xs : List (List AVal))
  | mp (es : List (Int × AVal))
  | mpo (q : Bool) (es : List (Int × AVal))
  | it (left : List (Int × AVal)) (cur : Option (Int × AVal))
  | lp (D n : Nat) (fr : Fr) (ps : Array Tmp) (asg body : Code) (st : LoopState) (p : Option Code)
  | gone
  | resv

def AObj.isMp : AObj → Bool
  | .mp _ | .mpo _ _ => true
  | _ => false
def AObj.isLp : AObj → Bool
  | .lp _ _ _ _ _ _ _ _ => true
  | _ => false

structure Loc where
  b : Nat
  base : Nat
  cap : Nat

structure Ctx where
  A0 : Nat → Prop
  A : Nat → Prop
  ρ : Nat → Option Loc
  H : List AObj

/-- the object r exists, and may be spoken of -/
def Ctx.known (C : Ctx) (r : Nat) : Prop := ∃ o, C.H[r]? = some o ∧ o ≠ .resv

/-- pairs of numbers, counted -/
def tri : Nat → Nat
  | 0 => 0
  | n + 1 => tri n + n + 1
def zz (a : Int) : Nat := if 0 ≤ a then 2 * a.toNat else 2 * (-a).toNat - 1
def pk (a b : Int) : Int := ((tri (zz a + zz b) + zz b : Nat) : Int)
/-- a key of a map: a number; two numbers, counted -/
def KeyIs : Bool → Value → Int → Prop
  | false, v, n => v = .int .i64 n
  | true, v, n => ∃ a b, v = .agg #[.int .i64 a, .int .i64 b] ∧ n = pk a b
structure MapWf (q : Bool) (entries : Array MapEntry) (clock : Nat) (es : List (Int × AVal)) : Prop where
  size : entries.size = es.length
  keys : ∀ (i : Nat) (e : MapEntry) (p : Int × AVal), entries[i]? = some e → es[i]? = some p → KeyIs q e.key p.1
  nodup : (es.map (·.1)).Nodup
  born : ∀ e ∈ entries.toList, e.born < clock
  bnodup : (entries.toList.map (·.born)).Nodup

theorem MapWf.keysI {entries : Array MapEntry} {clock : Nat} {es : List (Int × AVal)} (h : MapWf false entries clock es) : ∀ (i : Nat) (e : MapEntry) (p : Int × AVal), entries[i]? = some e → es[i]? = some p → e.key = .int .i64 p.1 := h.keys
/-- the immutable blocks stay (a block of deferred calls holds no cell) -/
def Keeps (A : Nat → Prop) (w : World) (A' : Nat → Prop) (w' : World) : Prop := ∀ b, A b → A' b ∧ (w'.heap[b]? = w.heap[b]? ∨ ∃ ds, w.heap[b]? = some (.deferred ds))
inductive RepV (C : Ctx) (w : World) : Value → AVal → Prop
  | any (v : Value) : RepV C w v .any
  | bool (b : Bool) : RepV C w (.bool b) (.bool b)
  | int (k : IntKind) (n : Int) : RepV C w (.int k n) (.int k n)
  | str (s : ByteArray) : RepV C w (.string s) (.str s)
  | agg (arr : Array Value) (cs : List AVal) (h : arr.size = cs.length)
      (hc : ∀ (i : Nat) (u : Value) (c : AVal), arr[i]? = some u → cs[i]? = some c → RepV C w u c) : RepV C w (.agg arr) (.agg cs)
  | tuple (arr : Array Value) (cs : List AVal) (h : arr.size = cs.length)
      (hc : ∀ (i : Nat) (u : Value) (c : AVal), arr[i]? = some u → cs[i]? = some c → RepV C w u c) : RepV C w (.tuple arr) (.tuple cs)
  | nils : RepV C w (.slice none 0 0) .nils
  | z0 (a : Option Addr) : RepV C w (.slice a 0 0) .z0
  | sl0 (a : Option Addr) (cap sz : Nat) (hcm : cap ≤ maxLen) : RepV C w (.slice a 0 cap) (.sl sz [])
  | sl (a : Addr) (len cap : Nat) (xs : List (List AVal)) (sz : Nat) (u : Nat → Value)
      (hsp : a.spot = none) (hlen : len = xs.length) (hlc : len ≤ cap) (hcm : cap ≤ maxLen)
      (hA : C.A a.block) (hsz1 : 1 ≤ sz) (hsz : ∀ x ∈ xs, x.length = sz) (hg : ∀ x ∈ xs, ∀ c ∈ x, AVal.g0 c = true)
      (hcell : ∀ j, j < xs.length * sz → w.cell? ⟨a.block, a.off + j, none⟩ = some (u j))
      (hrep : ∀ (i k : Nat) (x : List AVal) (c : AVal), xs[i]? = some x → x[k]? = some c → RepV C w (u (i * sz + k)) c) :
      RepV C w (.slice (some a) len cap) (.sl sz xs)
  | own (a : Option Addr) (len cap r v lo : Nat) (hr : C.known r) (hlc : len ≤ cap) (hcm : cap ≤ maxLen)
      (hv : ∀ v' sz xs, C.H[r]? = some (.row v' sz xs) → v ≤ v' ∧ (v = v' → lo + len ≤ xs.length ∧
        (cap = 0 ∨ ∃ l, C.ρ r = some l ∧ a = some ⟨l.b, l.base + lo * sz, none⟩ ∧ l.base + (lo + cap) * sz ≤ l.cap))) :
      RepV C w (.slice a len cap) (.own r v lo len)
  | eptr (a : Addr) (cs : List AVal) (u : Nat → Value) (hsp : a.spot = none) (hA : C.A a.block) (hg : ∀ c ∈ cs, AVal.g0 c = true)
      (hcell : ∀ j, j < cs.length → w.cell? ⟨a.block, a.off + j, none⟩ = some (u j))
      (hrep : ∀ (j : Nat) (c : AVal), cs[j]? = some c → RepV C w (u j) c) : RepV C w (.pointer (some a)) (.eptr cs)
  | ptr (a : Addr) (r k : Nat) (hr : C.known r)
      (h : ∀ cs, C.H[r]? = some (.box cs) → ∃ l, C.ρ r = some l ∧ a = ⟨l.b, k, none⟩) : RepV C w (.pointer (some a)) (.ptr r k)
  | rptr (a : Addr) (r v i k : Nat) (hr : C.known r)
      (h : ∀ v' sz xs, C.H[r]? = some (.row v' sz xs) → v ≤ v' ∧ (v = v' → i < xs.length ∧ ∃ l, C.ρ r = some l ∧ a = ⟨l.b, l.base + i * sz + k, none⟩)) :
      RepV C w (.pointer (some a)) (.rptr r v i k)
  | nilm : RepV C w (.map none) .nilm
  | map (b r : Nat) (hr : C.known r) (h : ∀ o, C.H[r]? = some o → o.isMp = true → ∃ l, C.ρ r = some l ∧ b = l.b) : RepV C w (.map (some b)) (.map r)
  | vmap0 : RepV C w (.map none) (.vmap [])
  | vmap (b : Nat) (es : List (Int × AVal)) (entries : Array MapEntry) (clock : Nat)
      (hA : C.A b) (hg : ∀ p ∈ es, AVal.g1 p.2 = true) (hh : w.heap[b]? = some (.map entries clock)) (hwf : MapWf false entries clock es)
      (hrep : ∀ (i : Nat) (e : MapEntry) (p : Int × AVal), entries[i]? = some e → es[i]? = some p → RepV C w e.val p.2) : RepV C w (.map (some b)) (.vmap es)
  | func (f : FuncId) (arr : Array Value) (cs : List AVal) (h : arr.size = cs.length)
      (hc : ∀ (i : Nat) (u : Value) (c : AVal), arr[i]? = some u → cs[i]? = some c → RepV C w u c) : RepV C w (.func (.func f) #[] arr) (.func f cs)
  | iter (a : Addr) (r : Nat) (hr : C.known r) (hsp : a.off = 0 ∧ a.spot = none)
      (h : ∀ left cur, C.H[r]? = some (.it left cur) → ∃ l, C.ρ r = some l ∧ a.block = l.b) : RepV C w (.pointer (some a)) (.iter r)
  | yld (b r : Nat) (hr : C.known r) (h : ∀ o, C.H[r]? = some o → o.isLp = true → ∃ l, C.ρ r = some l ∧ b = l.b) : RepV C w (.func (.yield b) #[] #[]) (.yld r)
  | pr (φ : (Nat → Prop) → World → Value → Prop) (a : Option Addr) (len cap : Nat) (h : φ C.A w (.slice a len cap)) (hs : ∀ A w A' w', Keeps A w A' w' → φ A w (.slice a len cap) → φ A' w' (.slice a len cap)) : RepV C w (.slice a len cap) (.pr φ)

/-- Of one object, between two moments. -/
def ObjMono (C C' : Ctx) (r : Nat) : Prop :=
  match C'.H[r]? with
  | some (.box _) => (∃ cs, C.H[r]? = some (.box cs)) ∧ C'.ρ r = C.ρ r
  | some (.row v sz xs') => (∃ xs, C.H[r]? = some (.row v sz xs) ∧ xs.length ≤ xs'.length ∧ C'.ρ r = C.ρ r) ∨ (∃ v0 sz0 xs0, C.H[r]? = some (.row v0 sz0 xs0) ∧ v0 < v)
  | some (.mp _) => (∃ o, C.H[r]? = some o ∧ o.isMp = true) ∧ C'.ρ r = C.ρ r
  | some (.mpo _ _) => (∃ o, C.H[r]? = some o ∧ o.isMp = true) ∧ C'.ρ r = C.ρ r
  | some (.it _ _) => (∃ l c, C.H[r]? = some (.it l c)) ∧ C'.ρ r = C.ρ r
  | some (.lp _ _ _ _ _ _ _ _) => (∃ o, C.H[r]? = some o ∧ o.isLp = true) ∧ C'.ρ r = C.ρ r
  | some .gone => True
  | some .resv => False
  | none => False

theorem ObjMono.known {C C' : Ctx} {r : Nat} (h : ObjMono C C' r) : C'.known r := by
  unfold ObjMono at h
  split at h
  all_goals first
    | exact h.elim
    | (rename_i h1; exact ⟨_, h1, by simp⟩)
    | (rename_i h1 h2; exact ⟨_, h1, by simp⟩)
    | (rename_i h1 _; exact ⟨_, h1, by simp⟩)

/-- From one moment to a later one. -/
structure Mono (C : Ctx) (w : World) (C' : Ctx) (w' : World) : Prop where
  imm : ∀ b, C.A b → C'.A b ∧ w'.heap[b]? = w.heap[b]?
  len : C.H.length ≤ C'.H.length
  A0 : C'.A0 = C.A0
  obj : ∀ r, C.known r → ObjMono C C' r

theorem cell?_of_heap {w w' : World} {a : Addr} (h : w'.heap[a.block]? = w.heap[a.block]?) : w'.cell? a = w.cell? a := by
  unfold World.cell?; rw [h]

theorem RepV.mono {C C' : Ctx} {w w' : World} (m : Mono C w C' w') {v : Value} {a : AVal} (h : RepV C w v a) : RepV C' w' v a := by
  induction h with
  | any v => exact .any v
  | bool b => exact .bool b
  | int k n => exact .int k n
  | str s => exact .str s
  | agg arr cs h _ ih => exact .agg arr cs h ih
  | tuple arr cs h _ ih => exact .tuple arr cs h ih
  | nils => exact .nils
  | z0 a => exact .z0 a
  | sl0 a cap sz hcm => exact .sl0 a cap sz hcm
  | sl a len cap xs sz u hsp hlen hlc hcm hA hsz1 hsz hg hcell hrep ih =>
    refine .sl a len cap xs sz u hsp hlen hlc hcm (m.imm _ hA).1 hsz1 hsz hg (fun j hj => ?_) ih
    rw [cell?_of_heap (w := w)]; exact hcell j hj
    exact (m.imm _ hA).2
  | own a len cap r v lo hr hlc hcm hv =>
    refine .own a len cap r v lo (m.obj r hr).known hlc hcm (fun v' sz xs h => ?_)
    have := m.obj r hr
    unfold ObjMono at this
    rw [h] at this
    rcases this with ⟨xs0, h0, hl, hρ⟩ | ⟨v0, sz0, xs0, h0, hlt⟩
    · have h1 := hv _ _ _ h0
      refine ⟨h1.1, fun e => ?_⟩
      obtain ⟨h2, h3⟩ := h1.2 e
      exact ⟨by omega, by rw [hρ]; exact h3⟩
    · have h1 := hv _ _ _ h0
      exact ⟨by omega, fun e => by omega⟩
  | eptr a cs u hsp hA hg hcell hrep ih =>
    refine .eptr a cs u hsp (m.imm _ hA).1 hg (fun j hj => ?_) ih
    rw [cell?_of_heap (w := w)]; exact hcell j hj
    exact (m.imm _ hA).2
  | ptr a r k hr h =>
    refine .ptr a r k (m.obj r hr).known (fun cs h' => ?_)
    have := m.obj r hr
    unfold ObjMono at this
    rw [h'] at this
    obtain ⟨⟨cs0, h0⟩, hρ⟩ := this
    rw [hρ]; exact h _ h0
  | rptr a r v i k hr h =>
    refine .rptr a r v i k (m.obj r hr).known (fun v' sz xs h' => ?_)
    have := m.obj r hr
    unfold ObjMono at this
    rw [h'] at this
    rcases this with ⟨xs0, h0, hl, hρ⟩ | ⟨v0, sz0, xs0, h0, hlt⟩
    · have h1 := h _ _ _ h0
      refine ⟨h1.1, fun e => ?_⟩
      obtain ⟨h2, h3⟩ := h1.2 e
      exact ⟨by omega, by rw [hρ]; exact h3⟩
    · have h1 := h _ _ _ h0
      exact ⟨by omega, fun e => by omega⟩
  | nilm => exact .nilm
  | pr φ a len cap h hs => exact .pr φ a len cap (hs _ _ _ _ (fun b hb => ⟨(m.imm b hb).1, .inl (m.imm b hb).2⟩) h) hs
  | map b r hr h =>
    refine .map b r (m.obj r hr).known (fun o h' hl => ?_)
    have := m.obj r hr
    unfold ObjMono at this
    rw [h'] at this
    cases o <;> first | (cases hl; done) | (obtain ⟨⟨o0, h0, hl0⟩, hρ⟩ := this; rw [hρ]; exact h _ h0 hl0)
  | vmap0 => exact .vmap0
  | vmap b es entries clock hA hg hh hwf hrep ih =>
    exact .vmap b es entries clock (m.imm _ hA).1 hg (by rw [(m.imm _ hA).2]; exact hh) hwf ih
  | func f arr cs h _ ih => exact .func f arr cs h ih
  | iter a r hr hsp h =>
    refine .iter a r (m.obj r hr).known hsp (fun left cur h' => ?_)
    have := m.obj r hr
    unfold ObjMono at this
    rw [h'] at this
    obtain ⟨⟨l0, c0, h0⟩, hρ⟩ := this
    rw [hρ]; exact h _ _ h0
  | yld b r hr h =>
    refine .yld b r (m.obj r hr).known (fun o h' hl => ?_)
    have := m.obj r hr
    unfold ObjMono at this
    cases o <;> first | (cases hl; done) | skip
    rw [h'] at this
    obtain ⟨⟨o0, h0, hl0⟩, hρ⟩ := this
    rw [hρ]; exact h _ h0 hl0

/-- The entries that an iteration has still to come to. -/
def ItLeft (C : Ctx) (w : World) (es : List MapEntry) (left : List (Int × AVal)) : Prop :=
  es.length = left.length ∧ ∀ (i : Nat) (e : MapEntry) (p : Int × AVal), es[i]? = some e → left[i]? = some p → e.key = .int .i64 p.1 ∧ AVal.g1 p.2 = true ∧ RepV C w e.val p.2

theorem ItLeft.mono {C C' : Ctx} {w w' : World} (m : Mono C w C' w') {es : List MapEntry} {left : List (Int × AVal)} (h : ItLeft C w es left) : ItLeft C' w' es left :=
  ⟨h.1, fun i e p a b => ⟨(h.2 i e p a b).1, (h.2 i e p a b).2.1, (h.2 i e p a b).2.2.mono m⟩⟩

/-- What an object of the abstract heap says of the world. -/
def RepO (C : Ctx) (w : World) (r : Nat) : AObj → Prop
  | .box cs => ∃ l arr T, C.ρ r = some l ∧ w.heap[l.b]? = some (.cells arr T (0, 0)) ∧ arr.size = cs.length ∧
      ∀ (i : Nat) (u : Value) (c : AVal), arr[i]? = some u → cs[i]? = some c → RepV C w u c
  | .row _ sz xs => 1 ≤ sz ∧ (∀ x ∈ xs, x.length = sz) ∧ (∀ x ∈ xs, ∀ c ∈ x, AVal.g0 c = true) ∧ ((xs = [] ∧ C.ρ r = none) ∨ ∃ l arr T, C.ρ r = some l ∧ w.heap[l.b]? = some (.cells arr T (0, 0)) ∧
      arr.size = l.cap ∧ l.base + xs.length * sz ≤ l.cap ∧ ∀ (i k : Nat) (x : List AVal) (c : AVal), xs[i]? = some x → x[k]? = some c → ∃ u, arr[l.base + (i * sz + k)]? = some u ∧ RepV C w u c)
  | .mp es => ∃ l entries clock, C.ρ r = some l ∧ w.heap[l.b]? = some (.map entries clock) ∧ MapWf false entries clock es ∧ (∀ p ∈ es, AVal.g1 p.2 = true) ∧
      ∀ (i : Nat) (e : MapEntry) (p : Int × AVal), entries[i]? = some e → es[i]? = some p → RepV C w e.val p.2
  | .mpo q es => ∃ l entries clock, C.ρ r = some l ∧ w.heap[l.b]? = some (.map entries clock) ∧ MapWf q entries clock es ∧
      ∀ (i : Nat) (e : MapEntry) (p : Int × AVal), entries[i]? = some e → es[i]? = some p → RepV C w e.val p.2
  | .it left cur => ∃ l, C.ρ r = some l ∧ ((left = [] ∧ cur = none ∧ ∃ s n k, w.heap[l.b]? = some (.mapIter none s n k)) ∨
      ∃ bm seen entries clock, w.heap[l.b]? = some (.mapIter (some bm) clock seen clock) ∧ C.A bm ∧ w.heap[bm]? = some (.map entries clock) ∧
        (∀ e ∈ entries.toList, e.born < clock) ∧ (entries.toList.map (·.born)).Nodup ∧
        ItLeft C w (entries.toList.filter fun e => !seen.contains e.born) left ∧
        (∀ p, cur = some p → ∃ e ∈ entries.toList, seen.back? = some e.born ∧ e.key = .int .i64 p.1 ∧ AVal.g1 p.2 = true ∧ RepV C w e.val p.2))
  | .lp D n fr ps asg body st p => ∃ l rec, C.ρ r = some l ∧ l.b = D + 1 ∧ w.heap[l.b]? = some (.loop rec) ∧ rec.params = ps ∧ rec.assign = asg ∧ rec.body = body ∧ rec.state = st ∧ rec.pending = p ∧ rec.defers = D ∧ rec.tmps.size = n ∧
      (∀ t, RepV C w (rec.tmps.getD t undef) (get fr t)) ∧ C.A D ∧ w.heap[D]? = some (.deferred (some []))
  | .gone => C.ρ r = none
  | .resv => C.ρ r = none

theorem RepO.mono {C C' : Ctx} {w w' : World} (m : Mono C w C' w') {r : Nat} {o : AObj} (h : RepO C w r o) (hρ : C'.ρ r = C.ρ r)
    (hh : ∀ l, C.ρ r = some l → w'.heap[l.b]? = w.heap[l.b]?) : RepO C' w' r o := by
  cases o with
  | box cs =>
    obtain ⟨l, arr, T, h1, h2, h3, h4⟩ := h
    exact ⟨l, arr, T, by rw [hρ]; exact h1, by rw [hh l h1]; exact h2, h3, fun i u c a b => (h4 i u c a b).mono m⟩
  | row v sz xs =>
    obtain ⟨h0, h0', h0'', h⟩ := h
    refine ⟨h0, h0', h0'', ?_⟩
    rcases h with ⟨h1, h2⟩ | ⟨l, arr, T, h1, h2, h3, h4, h5⟩
    · exact .inl ⟨h1, by rw [hρ]; exact h2⟩
    · refine .inr ⟨l, arr, T, by rw [hρ]; exact h1, by rw [hh l h1]; exact h2, h3, h4, fun i k x c a b => ?_⟩
      obtain ⟨u, hu, hr⟩ := h5 i k x c a b
      exact ⟨u, hu, hr.mono m⟩
  | mp es =>
    obtain ⟨l, en, cl, h1, h2, h3, hg, h4⟩ := h
    exact ⟨l, en, cl, by rw [hρ]; exact h1, by rw [hh l h1]; exact h2, h3, hg, fun i e p a b => (h4 i e p a b).mono m⟩
  | mpo q es =>
    obtain ⟨l, en, cl, h1, h2, h3, h4⟩ := h
    exact ⟨l, en, cl, by rw [hρ]; exact h1, by rw [hh l h1]; exact h2, h3, fun i e p a b => (h4 i e p a b).mono m⟩
  | it left cur =>
    obtain ⟨l, h1, h⟩ := h
    refine ⟨l, by rw [hρ]; exact h1, ?_⟩
    rcases h with ⟨h2, h2', s, n, k, h3⟩ | ⟨bm, seen, en, clock, h2, h3, h4, h5, h6, h7, h8⟩
    · exact .inl ⟨h2, h2', s, n, k, by rw [hh l h1]; exact h3⟩
    · refine .inr ⟨bm, seen, en, clock, by rw [hh l h1]; exact h2, (m.imm _ h3).1, by rw [(m.imm _ h3).2]; exact h4, h5, h6, h7.mono m, fun p hp => ?_⟩
      obtain ⟨e, g1, g2, g3, g4, g5⟩ := h8 p hp
      exact ⟨e, g1, g2, g3, g4, g5.mono m⟩
  | lp D n fr ps asg body st p =>
    obtain ⟨l, rec, h1, h0, h2, h3, h4, h5, h6, h7, h8, h9, h10, h11, h12⟩ := h
    exact ⟨l, rec, by rw [hρ]; exact h1, h0, by rw [hh l h1]; exact h2, h3, h4, h5, h6, h7, h8, h9, fun t => (h10 t).mono m, (m.imm _ h11).1, by rw [(m.imm _ h11).2]; exact h12⟩
  | gone => show C'.ρ r = none; rw [hρ]; exact h
  | resv => show C'.ρ r = none; rw [hρ]; exact h

/-- The whole: immutable blocks lie in the heap; the call's own blocks are apart from them and from each other; each object is as it is told; nothing older has changed. -/
structure Inv (W0 : World) (C : Ctx) (w : World) : Prop where
  below : Below W0.heap.size W0 w
  sub : ∀ b, C.A b → b < w.heap.size
  old : ∀ b, C.A b → b < W0.heap.size → C.A0 b
  sep : ∀ r l, C.ρ r = some l → r < C.H.length ∧ W0.heap.size ≤ l.b ∧ l.b < w.heap.size ∧ ¬ C.A l.b
  inj : ∀ r r' l l', C.ρ r = some l → C.ρ r' = some l' → l.b = l'.b → r = r'
  objs : ∀ (r : Nat) o, C.H[r]? = some o → RepO C w r o

theorem Inv.step {W0 : World} {C C' : Ctx} {w w' : World} (I : Inv W0 C w) (m : Mono C w C' w') (hb : Below W0.heap.size W0 w')
    (hsub : ∀ b, C'.A b → b < w'.heap.size) (hold : ∀ b, C'.A b → b < W0.heap.size → C.A0 b) (hsep : ∀ r l, C'.ρ r = some l → r < C'.H.length ∧ W0.heap.size ≤ l.b ∧ l.b < w'.heap.size ∧ ¬ C'.A l.b)
    (hinj : ∀ r r' l l', C'.ρ r = some l → C'.ρ r' = some l' → l.b = l'.b → r = r')
    (hobj : ∀ (r : Nat) o, C'.H[r]? = some o → RepO C' w' r o ∨ (C.H[r]? = some o ∧ C'.ρ r = C.ρ r ∧ ∀ l, C.ρ r = some l → w'.heap[l.b]? = w.heap[l.b]?)) :
    Inv W0 C' w' := by
  refine ⟨hb, hsub, by rw [m.A0]; exact hold, hsep, hinj, fun r o h => ?_⟩
  rcases hobj r o h with h' | ⟨h1, h2, h3⟩
  · exact h'
  · exact (I.objs r o h1).mono m h2 h3
end Go.Ab
