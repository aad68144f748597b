/-
  What is handed in, read as abstract values; and from a contract to a row.
-/
import Derived.Test.YtciaimpdnjpajaaSkR
import Derived.ProofKit
import Derived.OpenShut
import Derived.ShutString
import Derived.ChangeOld
import Derived.Carry
import Derived.WideShapes
import Derived.ChangeArms
import Derived.ChangeShapes
import Derived.Handed
import Derived.JoinedOf
namespace Go.Ab
open Go Go.RowKit

/-- all that is there may be read -/
abbrev Wide (W : World) : Ctx := Ctx.imm fun b => b < W.heap.size
def RepCells (W : World) (cs : List Value) (as : List AVal) : Prop :=
  cs.length = as.length ∧ ∀ (i : Nat) v a, cs[i]? = some v → as[i]? = some a → RepV (Wide W) W v a

/-- Whatever is read as being of the type t, reads as f of some a for which Pa holds. -/
structure Opens (P : Program) (t : TypeId) {α : Type} (f : α → List AVal) (Pa : α → Prop) : Prop where
  op : ∀ {H : Type} {enc : TypeId × Value → H} {w : World} {base : Nat} {spare : Nat → Bool} {held : Bool} {fuel : Nat} {cs : List Value} {x : DataW H × List MemPlace},
    DataW.trod enc P w base spare held fuel t cs = some x → ∃ a, Pa a ∧ RepCells w cs (f a)

theorem RepCells.one {W : World} {v : Value} {a : AVal} (h : RepV (Wide W) W v a) : RepCells W [v] [a] :=
  ⟨rfl, fun i v' a' h1 h2 => by
    match i, h1, h2 with
    | 0, h1, h2 => simp at h1 h2; subst h1 h2; exact h⟩

section
variable {P : Program} {t : TypeId}

theorem Opens.int {k : IntKind} (ht : P.underlying t = some (.int k)) : Opens P t (fun n : Int => [.int k n]) (fun n => (Lit.int k n).wf = true) := by
  constructor
  intro H enc w base spare held fuel cs x h
  obtain ⟨n, rfl, _, hw⟩ := DataW.trod_int ht h
  exact ⟨n, hw, .one (.int k n)⟩
theorem Opens.bool (ht : P.underlying t = some .bool) : Opens P t (fun b : Bool => [.bool b]) (fun _ => True) := by
  constructor
  intro H enc w base spare held fuel cs x h
  obtain ⟨b, rfl, _⟩ := DataW.trod_bool ht h
  exact ⟨b, trivial, .one (.bool b)⟩
theorem Opens.string (ht : P.underlying t = some .string) : Opens P t (fun s : ByteArray => [.str s]) (fun s => s.size ≤ maxLen) := by
  constructor
  intro H enc w base spare held fuel cs x h
  obtain ⟨s, rfl, _, hs⟩ := DataW.trod_string ht h
  exact ⟨s, hs, .one (.str s)⟩

theorem Opens.iso {α β : Type} {f : α → List AVal} {Pa : α → Prop} {g : β → List AVal} {Pb : β → Prop} (h : Opens P t f Pa) (φ : α → β) (hf : ∀ a, g (φ a) = f a) (hP : ∀ a, Pa a → Pb (φ a)) : Opens P t g Pb := by
  constructor
  intro H enc w base spare held fuel cs x hx
  obtain ⟨a, h1, h2⟩ := h.op hx
  exact ⟨φ a, hP a h1, by rw [hf]; exact h2⟩

theorem list_choose {α : Type} {n : Nat} {Q : Nat → α → Prop} (h : ∀ i, i < n → ∃ a, Q i a) : ∃ l : List α, l.length = n ∧ ∀ (i : Nat) a, l[i]? = some a → Q i a := by
  induction n with
  | zero => exact ⟨[], rfl, fun i a h => by simp at h⟩
  | succ n ih =>
    obtain ⟨l, h1, h2⟩ := ih fun i hi => h i (by omega)
    obtain ⟨a, ha⟩ := h n (by omega)
    refine ⟨l ++ [a], by simp [h1], fun i b hb => ?_⟩
    by_cases hi : i < l.length
    · rw [List.getElem?_append_left hi] at hb; exact h2 i b hb
    · rw [List.getElem?_append_right (by omega)] at hb
      have : i - l.length = 0 := by
        cases h3 : i - l.length with
        | zero => rfl
        | succ k => rw [h3] at hb; simp at hb
      rw [this] at hb
      simp at hb; subst hb
      have : i = n := by omega
      subst this; exact ha

theorem Opens.slice {α : Type} {f : α → List AVal} {Pa : α → Prop} {e : TypeId} {sz : Nat} (ht : P.underlying t = some (.slice e)) (hc : P.cellsOf e = sz) (hsz : 1 ≤ sz) (hl : ∀ a, (f a).length = sz)
    (hg : ∀ a, ∀ c ∈ f a, AVal.g0 c = true) (h : Opens P e f Pa) : Opens P t (fun l : List α => [.sl sz (l.map f)]) (fun l => l.length ≤ 9223372036854775807 ∧ ∀ a ∈ l, Pa a) := by
  constructor
  intro H enc w base spare held fuel cs x hx
  rcases DataW.trod_slice ht hx with ⟨rfl, _⟩ | ⟨a, len, cap, elems, rest, n, _, rfl, _, hb, hlc, hm, hlen, hel, _⟩
  · exact ⟨[], ⟨by simp, by simp⟩, .one (.sl0 none 0 sz (by simp))⟩
  · have hmax : len ≤ 9223372036854775807 := by have := maxLen_eq; omega
    have each : ∀ i, i < len → ∃ y, Pa y ∧ ∃ cs', w.cells? base (a.add (i * sz)) sz = some cs' ∧ RepCells w cs' (f y) := by
      intro i hi
      have := hel i hi
      rw [hc] at this
      have hlt : i < elems.length := by omega
      rw [List.getElem?_eq_getElem hlt, Option.bind_eq_some_iff] at this
      obtain ⟨cs', h1, h2⟩ := this
      obtain ⟨y, hy1, hy2⟩ := h.op h2
      exact ⟨y, hy1, cs', h1, hy2⟩
    obtain ⟨l, hll, hl2⟩ := list_choose each
    refine ⟨l, ⟨by omega, fun y hy => ?_⟩, ?_⟩
    · obtain ⟨i, hi⟩ := List.getElem?_of_mem hy
      exact (hl2 i y hi).1
    · by_cases h0 : len = 0
      · have : l = [] := List.length_eq_zero_iff.1 (by omega)
        subst this; subst h0
        exact .one (.sl0 (some a) cap sz hm)
      · -- the cells, one by one
        have hcells : ∀ i y, l[i]? = some y → ∃ cs', cs'.length = sz ∧ RepCells w cs' (f y) ∧ ∀ k, k < sz → w.cell? ((a.add (i * sz)).add k) = cs'[k]? := by
          intro i y hy
          obtain ⟨_, cs', h1, h2⟩ := hl2 i y hy
          obtain ⟨_, g1, g2⟩ := World.cells?_some h1
          exact ⟨cs', g1, h2, g2⟩
        have hlt0 : 0 < l.length := by omega
        obtain ⟨_, cs0, g0, _⟩ := hl2 0 _ (List.getElem?_eq_getElem hlt0)
        have hblk : a.block < w.heap.size := by
          have := World.cells?_block g0 (by omega)
          simpa [Addr.add] using this
        have hsp : a.spot = none := by
          obtain ⟨cs', g1, _, g3⟩ := hcells 0 _ (List.getElem?_eq_getElem hlt0)
          have := g3 0 (by omega)
          rw [List.getElem?_eq_getElem (by omega)] at this
          have := World.cell?_spot this
          simpa [Addr.add] using this
        have hadd : ∀ i k, (a.add (i * sz)).add k = ⟨a.block, a.off + (i * sz + k), none⟩ := by
          intro i k
          obtain ⟨b, off, sp⟩ := a
          simp only at hsp
          subst hsp
          unfold Addr.add
          split <;> split <;> simp <;> omega
        have hcell : ∀ i y, l[i]? = some y → ∀ k, k < sz → ∃ v, w.cell? ⟨a.block, a.off + (i * sz + k), none⟩ = some v ∧ ∀ c, (f y)[k]? = some c → RepV (Wide w) w v c := by
          intro i y hy k hk
          obtain ⟨cs', g1, g2, g3⟩ := hcells i y hy
          have g4 := g3 k hk
          rw [hadd, List.getElem?_eq_getElem (by omega)] at g4
          exact ⟨_, g4, fun c hc' => g2.2 k _ c (List.getElem?_eq_getElem (by omega)) hc'⟩
        refine .one (.sl a len cap (l.map f) sz (fun j => (w.cell? ⟨a.block, a.off + j, none⟩).getD undef) hsp (by simp [hll]) hlc hm hblk hsz (fun x hx => ?_) (fun x hx => ?_) (fun j hj => ?_) fun i k x c hx hc' => ?_)
        · obtain ⟨y, _, rfl⟩ := List.mem_map.1 hx; exact hl y
        · obtain ⟨y, _, rfl⟩ := List.mem_map.1 hx; exact hg y
        · rw [List.length_map] at hj
          have hi : j / sz < l.length := Nat.div_lt_of_lt_mul (by rw [Nat.mul_comm]; exact hj)
          obtain ⟨v, g1, _⟩ := hcell (j / sz) _ (List.getElem?_eq_getElem hi) (j % sz) (Nat.mod_lt _ (by omega))
          have e : j / sz * sz + j % sz = j := by rw [Nat.mul_comm]; exact Nat.div_add_mod j sz
          rw [e] at g1
          rw [g1]; rfl
        · rw [List.getElem?_map] at hx
          cases hy : l[i]? with
          | none => simp [hy] at hx
          | some y =>
            simp only [hy, Option.map_some, Option.some.injEq] at hx
            subst hx
            have hk : k < sz := by have := (List.getElem?_eq_some_iff.1 hc').1; rw [hl] at this; exact this
            obtain ⟨v, g1, g2⟩ := hcell i y hy k hk
            simp only [g1, Option.getD_some]
            exact g2 c hc'

theorem RepCells.append {W : World} {cs cs' : List Value} {as as' : List AVal} (h : RepCells W cs as) (h' : RepCells W cs' as') : RepCells W (cs ++ cs') (as ++ as') := by
  refine ⟨by simp [h.1, h'.1], fun i v a h1 h2 => ?_⟩
  by_cases hi : i < cs.length
  · rw [List.getElem?_append_left hi] at h1
    rw [List.getElem?_append_left (by have := h.1; omega)] at h2
    exact h.2 i v a h1 h2
  · rw [List.getElem?_append_right (by omega)] at h1
    rw [List.getElem?_append_right (by have := h.1; omega), ← h.1] at h2
    exact h'.2 _ v a h1 h2

/-- the fields of a struct, from a place on -/
structure OpensFs (P : Program) (tot off : Nat) (fl : List Field) {α : Type} (f : α → List AVal) (Pa : α → Prop) : Prop where
  op : ∀ {H : Type} {enc : TypeId × Value → H} {w : World} {base : Nat} {spare : Nat → Bool} {held : Bool} {fuel : Nat} {cs : List Value}, cs.length = tot →
    (∀ (i : Nat) (fd : Field), fl[i]? = some fd → ∃ x, DataW.trod enc P w base spare held fuel fd.type ((cs.drop fd.offset).take (P.cellsOf fd.type)) = some x) → ∃ a, Pa a ∧ RepCells w (cs.drop off) (f a)

theorem OpensFs.nil {tot : Nat} : OpensFs P tot tot [] (fun _ : Unit => []) (fun _ => True) := by
  constructor
  intro H enc w base spare held fuel cs hl _
  exact ⟨(), trivial, by simp [hl], fun i v a h1 h2 => by simp at h2⟩
theorem OpensFs.cons {tot off sz : Nat} {fd : Field} {fl : List Field} {α β : Type} {f : α → List AVal} {Pa : α → Prop} {g : β → List AVal} {Pb : β → Prop} (ho : fd.offset = off) (hs : P.cellsOf fd.type = sz)
    (h : Opens P fd.type f Pa) (h' : OpensFs P tot (off + sz) fl g Pb) : OpensFs P tot off (fd :: fl) (fun x : α × β => f x.1 ++ g x.2) (fun x => Pa x.1 ∧ Pb x.2) := by
  constructor
  intro H enc w base spare held fuel cs hl hx
  obtain ⟨x, hx0⟩ := hx 0 fd rfl
  obtain ⟨a, ha1, ha2⟩ := h.op hx0
  obtain ⟨b, hb1, hb2⟩ := h'.op hl fun i fd' hi => hx (i + 1) fd' (by simpa using hi)
  refine ⟨(a, b), ⟨ha1, hb1⟩, ?_⟩
  rw [ho, hs] at ha2
  have := ha2.append hb2
  rwa [← List.drop_drop, List.take_append_drop] at this
theorem Opens.struct {tot : Nat} {fs : Array Field} {α : Type} {f : α → List AVal} {Pa : α → Prop} (ht : P.underlying t = some (.struct fs)) (hc : P.cellsOf t = tot) (h : OpensFs P tot 0 fs.toList f Pa) : Opens P t f Pa := by
  constructor
  intro H enc w base spare held fuel cs x hx
  obtain ⟨xs, n, rfl, _, hl, hxs, hf⟩ := DataW.trod_struct ht hx
  have := h.op (cs := cs) (by rw [hl, hc]) fun i fd hi => by
    have hi' : fs[i]? = some fd := by simpa using hi
    have := hf i fd hi'
    have hlt : i < xs.length := by rw [hxs]; exact (Array.getElem?_eq_some_iff.1 hi').1
    rw [List.getElem?_eq_getElem hlt] at this
    exact ⟨_, this⟩
  simpa using this

/-- one argument -/
structure OpensV (P : Program) (t : TypeId) {α : Type} (g : α → AVal) (Pa : α → Prop) : Prop where
  op : ∀ {H : Type} {enc : TypeId × Value → H} {w : World} {base b0 : Nat} {r : Reach} {spare : Nat → Bool} {held : Bool} {v : Value} {d : DataW H} {ps : List MemPlace},
    Value.okWide P w r b0 t v → DataW.Trod enc P w base spare held t v d ps → ∃ a, Pa a ∧ RepV (Wide w) w v (g a)

theorem RepCells.head {W : World} {v : Value} {a : AVal} (h : RepCells W [v] [a]) : RepV (Wide W) W v a := h.2 0 v a rfl rfl

theorem OpensV.struct {fs : Array Field} {α : Type} {f : α → List AVal} {Pa : α → Prop} (ht : P.underlying t = some (.struct fs)) (h : Opens P t f Pa) : OpensV P t (fun a => .agg (f a)) Pa := by
  constructor
  intro H enc w base b0 r spare held v d ps hval ⟨fuel, hf⟩
  obtain ⟨cs, rfl, _⟩ := Go.WideShapes.okWide_struct ht hval
  obtain ⟨a, h1, h2⟩ := h.op hf
  refine ⟨a, h1, .agg cs (f a) (by simpa [Value.cells] using h2.1) fun i u c hu hc => h2.2 i u c (by simpa [Value.cells] using hu) hc⟩
theorem OpensV.slice {e : TypeId} {α : Type} {g : α → AVal} {Pa : α → Prop} (ht : P.underlying t = some (.slice e)) (h : Opens P t (fun a => [g a]) Pa) : OpensV P t g Pa := by
  constructor
  intro H enc w base b0 r spare held v d ps hval ⟨fuel, hf⟩
  obtain ⟨a, len, cap, rfl⟩ := Go.WideShapes.okWide_slice ht hval
  obtain ⟨a, h1, h2⟩ := h.op hf
  exact ⟨a, h1, RepCells.head (by simpa [Value.cells] using h2)⟩
theorem OpensV.int {k : IntKind} (ht : P.underlying t = some (.int k)) : OpensV P t (fun n : Int => .int k n) (fun n => (Lit.int k n).wf = true) := by
  constructor
  intro H enc w base b0 r spare held v d ps hval hd
  obtain ⟨n, rfl, _, _, hw⟩ := Go.ChangeShapes.open_int ht hval hd
  exact ⟨n, hw, .int k n⟩
theorem OpensV.bool (ht : P.underlying t = some .bool) : OpensV P t (fun b : Bool => .bool b) (fun _ => True) := by
  constructor
  intro H enc w base b0 r spare held v d ps hval hd
  obtain ⟨n, rfl, _, _⟩ := open_bool ht hval hd
  exact ⟨n, trivial, .bool n⟩
theorem OpensV.iso {α β : Type} {f : α → AVal} {Pa : α → Prop} {g : β → AVal} {Pb : β → Prop} (h : OpensV P t f Pa) (φ : α → β) (hf : ∀ a, g (φ a) = f a) (hP : ∀ a, Pa a → Pb (φ a)) : OpensV P t g Pb := by
  constructor
  intro H enc w base b0 r spare held v d ps hval hd
  obtain ⟨a, h1, h2⟩ := h.op hval hd
  exact ⟨φ a, hP a h1, by rw [hf]; exact h2⟩

/-- the arguments -/
structure OpensA (P : Program) (ts : List TypeId) {α : Type} (g : α → List AVal) (Pa : α → Prop) : Prop where
  op : ∀ {H : Type} {enc : TypeId × Value → H} {w : World} {base b0 : Nat} {r : Reach} {spare : Nat → Bool} {held : Bool} {vs : List Value} {ds : List (DataW H)} {ps : List MemPlace},
    (∀ (j : Nat) t v, ts[j]? = some t → vs[j]? = some v → Value.okWide P w r b0 t v) → DataW.TrodAll enc P w base spare held ts vs ds ps → ∃ a, Pa a ∧ RepVs (Wide w) w vs (g a)
theorem OpensA.nil : OpensA P [] (fun _ : Unit => []) (fun _ => True) := by
  constructor
  intro H enc w base b0 r spare held vs ds ps hv hd
  obtain ⟨rfl, _, _⟩ := Go.ChangeShapes.trodAll_nil hd
  exact ⟨(), trivial, rfl, fun i v a h => by simp at h⟩
theorem OpensA.cons {ts : List TypeId} {α β : Type} {f : α → AVal} {Pa : α → Prop} {g : β → List AVal} {Pb : β → Prop} (h : OpensV P t f Pa) (h' : OpensA P ts g Pb) : OpensA P (t :: ts) (fun x : α × β => f x.1 :: g x.2) (fun x => Pa x.1 ∧ Pb x.2) := by
  constructor
  intro H enc w base b0 r spare held vs ds ps hv hd
  obtain ⟨v, vs', d, ds', p, q, rfl, rfl, rfl, h1, h2⟩ := Go.ChangeShapes.trodAll_cons hd
  obtain ⟨a, ha1, ha2⟩ := h.op (hv 0 t v rfl rfl) h1
  obtain ⟨b, hb1, hb2, hb3⟩ := h'.op (fun j t v ht hv' => hv (j + 1) t v (by simpa using ht) (by simpa using hv')) h2
  refine ⟨(a, b), ⟨ha1, hb1⟩, by simp [hb2], fun i v' a' g1 g2 => ?_⟩
  match i, g1, g2 with
  | 0, g1, g2 => simp at g1 g2; subst g1 g2; exact ha2
  | i + 1, g1, g2 => exact hb3 i v' a' (by simpa using g1) (by simpa using g2)
theorem OpensA.iso {ts : List TypeId} {α β : Type} {f : α → List AVal} {Pa : α → Prop} {g : β → List AVal} {Pb : β → Prop} (h : OpensA P ts f Pa) (φ : α → β) (hf : ∀ a, g (φ a) = f a) (hP : ∀ a, Pa a → Pb (φ a)) : OpensA P ts g Pb := by
  constructor
  intro H enc w base b0 r spare held vs ds ps hval hd
  obtain ⟨a, h1, h2⟩ := h.op hval hd
  exact ⟨φ a, hP a h1, by rw [hf]; exact h2⟩

/-- a contract, called on what was handed in -/
theorem calls_of_pure {f : FuncId} {ts : List TypeId} {α : Type} {g : α → List AVal} {Pa : α → Prop} (spec : ∀ a, Pa a → PureFn P f (g a) (· = .bool true)) (ho : OpensA P ts g Pa)
    {H : Type} {enc : TypeId × Value → H} {W : World} {base b0 : Nat} {r : Reach} {spare : Nat → Bool} {held : Bool} {args : Array Value} {ds : List (DataW H)} {ps : List MemPlace}
    (hv : ∀ (j : Nat) t v, ts[j]? = some t → args.toList[j]? = some v → Value.okWide P W r b0 t v) (hd : DataW.TrodAll enc P W base spare held ts args.toList ds ps) :
    Calls P f args W fun e W' => e = .returned (.bool true) ∧ Below W.heap.size W W' := by
  obtain ⟨a, h1, h2⟩ := ho.op hv hd
  refine (spec a h1 (fun b => b < W.heap.size) W args.toList (fun b h => h) h2).mono fun e W' ⟨v, r, he, hr, _, hb, hrep⟩ => ?_
  subst hr he
  cases hrep
  exact ⟨rfl, hb⟩

theorem trodAll_len {H : Type} {enc : TypeId × Value → H} {w : World} {base : Nat} {spare : Nat → Bool} {held : Bool} : ∀ {ts : List TypeId} {vs : List Value} {ds : List (DataW H)} {ps : List MemPlace},
    DataW.TrodAll enc P w base spare held ts vs ds ps → vs.length = ts.length ∧ ds.length = ts.length
  | [], vs, ds, ps, h => by obtain ⟨rfl, rfl, _⟩ := Go.ChangeShapes.trodAll_nil h; exact ⟨rfl, rfl⟩
  | t :: ts, vs, ds, ps, h => by
    obtain ⟨v, vs', d, ds', p, q, rfl, rfl, rfl, _, h2⟩ := Go.ChangeShapes.trodAll_cons h
    have := trodAll_len h2
    simp [this.1, this.2]

theorem trodAll_carry {H : Type} {enc : TypeId × Value → H} (hl : laidOutB P = true) {W W' : World} (hb : Below W.heap.size W W') : ∀ {ts : List TypeId} {vs : List Value} {ds : List (DataW H)} {ps : List MemPlace},
    (ts.all fun t => P.readableRec t && decide (t < P.types.size)) = true → DataW.TrodAll enc P W 0 (fun _ => true) true ts vs ds ps → DataW.TrodAll enc P W' 0 (fun b => decide (b < W.heap.size)) true ts vs ds ps
  | [], vs, ds, ps, _, h => by obtain ⟨rfl, rfl, rfl⟩ := Go.ChangeShapes.trodAll_nil h; exact rfl
  | t :: ts, vs, ds, ps, ht, h => by
    obtain ⟨v, vs', d, ds', p, q, rfl, rfl, rfl, h1, h2⟩ := Go.ChangeShapes.trodAll_cons h
    simp only [List.all_cons, Bool.and_eq_true, decide_eq_true_eq] at ht
    refine trodAll_cons_mk (Below.trod hl ht.1.1 ht.1.2 h1 hb ?_) (trodAll_carry hl hb ht.2 h2)
    obtain ⟨m, hm⟩ := h1
    exact DataW.trod_lt m _ _ _ hm

/-- the row's step, for a function of one boolean result that is true, and that changes nothing -/
theorem lifted_of {C : Checked} {os : Os} {f : FuncId} {fn : Func} {s : ChangeSpec} {conds : List PathCond} {H : Type} {enc : TypeId × Value → H} {tb : TypeId}
    (own : ownKnob C.prog.godebug = none) (started : os.Started) (noInit : C.prog.inits.idxOf? f = none) (hfn : C.prog.funcs[f]? = some fn)
    (witness : ∃ (w : World) (tape : Tape) (i : Input), w.os = os ∧ (w.forCall tape i).Shaped C.prog ∧ i.vars = [] ∧ Input.okWide C.prog (w.forCall tape i) .any w.heap.size f i ∧
      s.pre6 enc C.prog fn conds false (w.forCall tape i).memory i.args ∧ ({} : Assume).holds C.prog (lone (Frame.enter C.prog f i.args .normal) [] (w.forCall tape i)))
    (hvars : s.vars = []) (hres : fn.resultTypes = #[tb]) (htb : C.prog.underlying tb = some .bool) (laid : laidOutB C.prog = true)
    (hread : (fn.params.toList.all fun t => C.prog.readableRec t && decide (t < C.prog.types.size)) = true)
    (hs : ∀ ds : List (DataW H), ds.length = fn.params.toList.length → (s.fn H ds).results = [.lit (.bool true)] ∧ (s.fn H ds).args = ds ∧ (s.fn H ds).vars = [])
    (calls : ∀ (W : World) (b0 : Nat) (args : Array Value) (ds : List (DataW H)) (ps : List MemPlace), (∀ (j : Nat) t v, fn.params.toList[j]? = some t → args.toList[j]? = some v → Value.okWide C.prog W .any b0 t v) →
      DataW.TrodAll enc C.prog W 0 (fun _ => true) true fn.params.toList args.toList ds ps → Calls C.prog f args W fun e W' => e = .returned (.bool true) ∧ Below W.heap.size W W') :
    ReturnsInHanded {} C os f .any (s.pre6 enc C.prog fn conds false) (s.post enc C.prog fn false true false false) := by
  refine returnsInHanded_of_change own started noInit hfn witness ?_
  intro W base args ds gs before hval hW _ _
  have hW' := hW
  obtain ⟨p, q, hA, hV, _⟩ := hW
  rw [hvars] at hV
  obtain ⟨rfl, rfl⟩ := Go.ChangeShapes.trodVars_none hV
  have hlen := trodAll_len hA
  obtain ⟨h1, h2, h3⟩ := hs ds hlen.2
  refine (calls W base args ds p (fun j t v a b => hval j t v (by simpa using a) (by simpa using b)) hA).mono fun e W' ⟨he, bel⟩ => ?_
  subst he
  refine ⟨_, rfl, ds, [], before, [], p, [], hW', ?_, ?_, ?_, bel.frame _, fun h => by cases h⟩
  · rw [List.append_nil, h1, hres]
    exact Go.ChangeShapes.trodAll_mk1 (shut_bool htb true)
  · rw [List.append_nil, h2]
    exact trodAll_carry laid bel hread hA
  · rw [List.append_nil, h3, hvars]
    rfl
end
end Go.Ab
