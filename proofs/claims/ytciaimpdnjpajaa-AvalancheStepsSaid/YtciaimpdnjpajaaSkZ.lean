/-
  Rows of integers of the call's own, sorted and compacted by the library: what its contracts say, told of abstract states.
-/
import Derived.Test.YtciaimpdnjpajaaSkY
import Derived.Sort.Grow
import Derived.Lib.SlicesCompact
namespace Go.Ab
open Go Go.RowKit Go.Sort

theorem frozen_00 {w : World} {b off : Nat} {arr : Array Value} {T : TypeId} (h : w.heap[b]? = some (.cells arr T (0, 0))) : w.frozen? ⟨b, off, none⟩ = false := by
  simp [World.frozen?, h]
theorem heap_putRow {w : World} {n blk off : Nat} {d : Array Int} {b : Nat} (hb : b ≠ blk) : (putRow (Value.int .i64) (Sort.ahead w n) blk off d).heap[b]? = w.heap[b]? := by
  simp only [putRow, mapBlock, heap_ahead, Array.getElem?_modify]
  rw [if_neg (fun e => hb e.symm)]
theorem heap_putRow_self {w : World} {n blk off : Nat} {d : Array Int} {arr : Array Value} {T : TypeId} (h : w.heap[blk]? = some (.cells arr T (0, 0))) :
    (putRow (Value.int .i64) (Sort.ahead w n) blk off d).heap[blk]? = some (.cells (putCells (Value.int .i64) off d arr) T (0, 0)) := by
  simp only [putRow, mapBlock, heap_ahead, Array.getElem?_modify, if_true, h]; rfl
theorem below_putRow {w : World} {B n blk off : Nat} {d : Array Int} (hb : B ≤ blk) : RowKit.Below B w (putRow (Value.int .i64) (Sort.ahead w n) blk off d) :=
  ⟨rfl, rfl, rfl, by simp, fun k hk => heap_putRow (by omega)⟩
theorem below_grow0 {w : World} {os : Array Obj} {B : Nat} (hB : B ≤ w.heap.size) : RowKit.Below B w (grow w os) :=
  ⟨rfl, rfl, rfl, by simp, fun k hk => heap_grow_old w os (by omega)⟩
theorem Ctx.more_none (C : Ctx) : C.more (fun _ => False) = C := by
  unfold Ctx.more; simp
/-- the world has grown, and nothing is told of what is new -/
theorem Inv.grow0 {W0 : World} {C : Ctx} {w w' : World} (I : Inv W0 C w) (hb : RowKit.Below w.heap.size w w') : Inv W0 C w' ∧ Mono C w C w' := by
  have := I.grow (fun _ => False) (fun b h => h.elim) hb
  rwa [C.more_none] at this

theorem own_inv {C : Ctx} {w : World} {u : Value} {r v lo len : Nat} (h : RepV C w u (.own r v lo len)) : ∃ a cap, u = .slice a len cap ∧ C.known r ∧ len ≤ cap ∧ cap ≤ maxLen ∧
    ∀ v' sz xs, C.H[r]? = some (.row v' sz xs) → v ≤ v' ∧ (v = v' → lo + len ≤ xs.length ∧ (cap = 0 ∨ ∃ l, C.ρ r = some l ∧ a = some ⟨l.b, l.base + lo * sz, none⟩ ∧ l.base + (lo + cap) * sz ≤ l.cap)) := by
  cases h with
  | own a _ cap _ _ _ hk hlc hcm hv => exact ⟨a, cap, rfl, hk, hlc, hcm, hv⟩
/-- a row of integers, as it lies in the world -/
theorem row_ints {W0 : World} {C : Ctx} {w : World} (I : Inv W0 C w) {r v : Nat} {zs : List Int} (hr : C.H[r]? = some (.row v 1 (zs.map intC))) {u : Value} {len : Nat} (hu : RepV C w u (.own r v 0 len)) (hlen : len = zs.length) :
    ∃ a cap, u = .slice a zs.length cap ∧ zs.length ≤ cap ∧ ((zs = []) ∨ ∃ l arr T, C.ρ r = some l ∧ a = some ⟨l.b, l.base, none⟩ ∧ w.heap[l.b]? = some (.cells arr T (0, 0)) ∧ arr.size = l.cap ∧ l.base + cap ≤ l.cap ∧
      ∀ (i : Nat) z, zs[i]? = some z → arr[l.base + i]? = some (.int .i64 z)) := by
  subst hlen
  cases hu with
  | own a _ cap _ _ _ hk hlc hcm hv =>
    refine ⟨a, cap, rfl, hlc, ?_⟩
    obtain ⟨_, hv⟩ := hv _ _ _ hr
    obtain ⟨_, hv⟩ := hv rfl
    obtain ⟨_, _, _, ho⟩ := I.objs r _ hr
    by_cases hz : zs = []
    · exact .inl hz
    · right
      have hpos : 0 < zs.length := List.length_pos_iff.2 hz
      rcases ho with ⟨e, _⟩ | ⟨l', arr, T, e1, e2, e3, e4, e5⟩
      · exact absurd (List.map_eq_nil_iff.1 e) hz
      · rcases hv with hv | ⟨l, hl, ha, hfit⟩
        · omega
        rw [hl, Option.some.injEq] at e1
        subst e1
        refine ⟨l, arr, T, hl, by rw [ha]; simp, e2, e3, by omega, fun i z hi => ?_⟩
        obtain ⟨u, hu, hrep⟩ := e5 i 0 (intC z) (.int .i64 z) (by simp [hi]) rfl
        rw [show l.base + (i * 1 + 0) = l.base + i by omega] at hu
        rw [hu]
        cases u <;> cases hrep; rfl

theorem row_put {W0 : World} {C : Ctx} {w : World} {r : Nat} {v v' : Nat} {zs zs' ws : List Int} {l : Loc} {arr : Array Value} {T : TypeId} (I : Inv W0 C w) (hl : C.ρ r = some l) (hc : w.heap[l.b]? = some (.cells arr T (0, 0))) (hs : arr.size = l.cap) (hfit : l.base + ws.length ≤ l.cap) (hle : zs'.length ≤ ws.length)
    (hpre : ∀ (i : Nat) z, zs'[i]? = some z → ws[i]? = some z) {n : Nat} {C' : Ctx} (hρ : C'.ρ r = some l) : RepO C' (putRow (Value.int .i64) (Sort.ahead w n) l.b l.base ws.toArray) r (.row v' 1 (zs'.map intC)) := by
  refine ⟨Nat.le_refl _, fun x hx => ?_, fun x hx c hc => ?_, .inr ⟨l, _, T, hρ, heap_putRow_self hc, by simp [putCells, hs], by simp; omega, fun i k x c hx hc => ?_⟩⟩
  · obtain ⟨z, _, rfl⟩ := List.mem_map.1 hx; rfl
  · obtain ⟨z, _, rfl⟩ := List.mem_map.1 hx
    simp [intC] at hc; subst hc; rfl
  · simp only [List.getElem?_map, Option.map_eq_some_iff] at hx
    obtain ⟨z, hz, rfl⟩ := hx
    have hk : k = 0 := by
      have := (List.getElem?_eq_some_iff.1 hc).1
      simp [intC] at this; exact this
    subst hk
    simp [intC] at hc; subst hc
    have hi := (List.getElem?_eq_some_iff.1 (hpre i z hz)).1
    refine ⟨.int .i64 z, ?_, .int _ _⟩
    have hi2 : l.base + (i * 1 + 0) < arr.size := by omega
    simp only [putCells, Array.getElem?_mapIdx, Array.getElem?_eq_getElem hi2, Option.map_some]
    rw [if_pos (by simp; omega)]
    have e : l.base + (i * 1 + 0) - l.base = i := by omega
    rw [e]
    have := hpre i z hz
    congr 2
    simp [getElem!_def, this]

section
variable {P : Program}

/-- what the library's sort promises at a program's own number -/
structure SortsI (P : Program) (f : FuncId) : Prop where
  some : ∀ (blk off cap : Nat) (zs : List Int) (w : World), Holds (Value.int .i64) w blk off zs.toArray → blk < w.heap.size → zs.length < 4611686018427387904 →
    Calls P f #[.slice (some ⟨blk, off, none⟩) zs.length cap] w fun e w' => e = .returned (.tuple #[]) ∧ ∃ n os, w' = grow (putRow (Value.int .i64) (Sort.ahead w n) blk off (zs.mergeSort fun x y => decide (x ≤ y)).toArray) os
  none : ∀ (p : Option Addr) (cap : Nat) (w : World), Calls P f #[.slice p 0 cap] w fun e w' => e = .returned (.tuple #[]) ∧ w' = w

def sortI (zs : List Int) : List Int := zs.mergeSort fun x y => decide (x ≤ y)
theorem sortI_len (zs : List Int) : (sortI zs).length = zs.length := List.length_mergeSort _

theorem holds_ints {w : World} {l : Loc} {arr : Array Value} {T : TypeId} {zs : List Int} (hc : w.heap[l.b]? = some (.cells arr T (0, 0))) (h : ∀ (i : Nat) z, zs[i]? = some z → arr[l.base + i]? = some (.int .i64 z)) : Holds (Value.int .i64) w l.b l.base zs.toArray := by
  intro j hj
  have hj' : j < zs.length := by simpa using hj
  refine ⟨?_, frozen_00 hc⟩
  rw [show w.cell? ⟨l.b, l.base + j, none⟩ = arr[l.base + j]? by simp [World.cell?, hc], h j _ (List.getElem?_eq_getElem hj')]
  simp [getElem!_def, hj']

/-- slices.Sort of a row of the call's own. -/
theorem ACall.sortI {f : FuncId} {r v len : Nat} {zs : List Int} {st : List Fr} {H : List AObj} {K : AVal → List AObj → Prop} (hc : ∀ (args : Array Value) (w : World), (callFunc f args).run P w = .ok (.enter f args) w)
    (spec : SortsI P f) (hr : H[r]? = some (.row v 1 (zs.map intC))) (hlen : len = zs.length) (hbd : len ≤ 549755813888) (h : K (.tuple []) (H.set r (.row v 1 ((Go.Ab.sortI zs).map intC)))) : ACall P (.func f []) [.own r v 0 len] st H K := by
  intro W0 C w outs fv vs I hH hO hf hl hv
  subst hH
  cases hf with
  | func _ caps _ hcl _ =>
    have : caps = #[] := Array.eq_empty_of_size_eq_zero (by simpa using hcl)
    subst this
    refine .inl ⟨f, #[], rfl, hc, ?_⟩
    match vs, hl with
    | [u], _ =>
      have hu := hv 0 u _ rfl rfl
      obtain ⟨a, cap, rfl, hcap, hz⟩ := row_ints I hr hu hlen
      have hlt : r < C.H.length := (List.getElem?_eq_some_iff.1 hr).1
      rcases hz with rfl | ⟨l, arr, T, hl, rfl, hcell, hsz, hfit, hget⟩
      · refine (spec.none a cap w).mono fun e w' ⟨he, hw⟩ => ?_
        subst hw
        have e0 : Go.Ab.sortI [] = [] := by simp [Go.Ab.sortI]
        rw [e0] at h
        have hs : C.H.set r (.row v 1 (([] : List Int).map intC)) = C.H := by
          apply List.ext_getElem?
          intro i
          rw [List.getElem?_set]
          split
          · rename_i e; subst e; first | (rw [hr]) | (rw [if_pos hlt, hr])
          · rfl
        rw [hs] at h
        exact ⟨.tuple #[], .tuple [], C, he, h, rfl, .tuple _ _ rfl (by simp), I, hO⟩
      · have hS := I.sep r l hl
        refine (spec.some l.b l.base cap zs w (holds_ints hcell hget) hS.2.2.1 (by omega)).mono fun e w' ⟨he, n, os, hw⟩ => ?_
        subst hw
        have key := I.put (w' := putRow (Value.int .i64) (Sort.ahead w n) l.b l.base (Go.Ab.sortI zs).toArray) (o' := .row v 1 ((Go.Ab.sortI zs).map intC)) hr hl (fun b hb => heap_putRow hb) (by simp) (I.below.trans (below_putRow hS.2.1)) (by
          unfold ObjMono
          simp only [Ctx.set, List.getElem?_set_self hlt]
          exact .inl ⟨_, hr, by simp [sortI_len], by trivial⟩) (fun m => row_put (zs := zs) (v := v) I hl hcell hsz (by rw [sortI_len]; omega) (Nat.le_refl _) (fun i z hi => hi) (C' := C.set r _) hl)
        have key2 := key.1.grow0 (w' := grow (putRow (Value.int .i64) (Sort.ahead w n) l.b l.base (Go.Ab.sortI zs).toArray) os) (below_grow0 (Nat.le_refl _))
        exact ⟨.tuple #[], .tuple [], C.set r (.row v 1 ((Go.Ab.sortI zs).map intC)), he, h, rfl, .tuple _ _ rfl (by simp), key2.1, (hO.mono key.2).mono key2.2⟩

/-- what slices.Compact promises at a program's own number -/
structure CompactsI (P : Program) (f : FuncId) : Prop where
  some : ∀ (blk off cap : Nat) (zs : List Int) (w : World), Holds (Value.int .i64) w blk off zs.toArray → zs.length ≤ 9223372036854775807 → zs.length ≤ cap →
    Calls P f #[.slice (some ⟨blk, off, none⟩) zs.length cap] w fun e w' => e = .returned (.slice (some ⟨blk, off, none⟩) (Lib.compact zs).length cap) ∧ ∃ q, w' = putRow (Value.int .i64) (Sort.ahead w q) blk off (Lib.compact zs ++ List.replicate (zs.length - (Lib.compact zs).length) 0).toArray
  none : ∀ (a : Option Addr) (cap : Nat) (w : World), Calls P f #[.slice a 0 cap] w fun e w' => e = .returned (.slice a 0 cap) ∧ w' = w

theorem compact_len (zs : List Int) : (Lib.compact zs).length ≤ zs.length := by
  unfold Lib.compact Lib.compactUpTo
  rw [List.length_map]
  exact Nat.le_trans (List.length_filter_le _ _) (by simp)

def compactI (zs : List Int) : List Int := Lib.compact zs
/-- slices.Compact of a row of the call's own. -/
theorem ACall.compactI {f : FuncId} {r v len : Nat} {zs : List Int} {st : List Fr} {H : List AObj} {K : AVal → List AObj → Prop} (hc : ∀ (args : Array Value) (w : World), (callFunc f args).run P w = .ok (.enter f args) w)
    (spec : CompactsI P f) (hr : H[r]? = some (.row v 1 (zs.map intC))) (hlen : len = zs.length) (hbd : len ≤ 549755813888) (h : K (.own r (v + 1) 0 (Go.Ab.compactI zs).length) (H.set r (.row (v + 1) 1 ((Go.Ab.compactI zs).map intC)))) : ACall P (.func f []) [.own r v 0 len] st H K := by
  unfold Go.Ab.compactI at h
  intro W0 C w outs fv vs I hH hO hf hl hv
  subst hH
  cases hf with
  | func _ caps _ hcl _ =>
    have : caps = #[] := Array.eq_empty_of_size_eq_zero (by simpa using hcl)
    subst this
    refine .inl ⟨f, #[], rfl, hc, ?_⟩
    match vs, hl with
    | [u], _ =>
      have hu := hv 0 u _ rfl rfl
      obtain ⟨a, cap, rfl, hcap, hz⟩ := row_ints I hr hu hlen
      have hlt : r < C.H.length := (List.getElem?_eq_some_iff.1 hr).1
      rcases hz with rfl | ⟨l, arr, T, hl, rfl, hcell, hsz, hfit, hget⟩
      · refine (spec.none a cap w).mono fun e w' ⟨he, hw⟩ => ?_
        subst hw
        have e0 : Lib.compact ([] : List Int) = [] := rfl
        rw [e0] at h
        have hρ : C.reloc r (.row (v + 1) 1 (([] : List Int).map intC)) (C.ρ r) = { C with H := C.H.set r (.row (v + 1) 1 []) } := by
          unfold Ctx.reloc
          congr 1
          funext r'
          split
          · rename_i e; rw [e]
          · rfl
        obtain ⟨o1, o2, o3, o4⟩ := I.objs r _ hr
        have key := I.reloc (w' := w') (v' := v + 1) (sz' := 1) (xs' := []) hr (Nat.lt_succ_self v) (C.ρ r) (fun b _ _ => rfl) (Nat.le_refl _) I.below (fun l hl => ⟨(I.sep r l hl).2.1, (I.sep r l hl).2.2.1, (I.sep r l hl).2.2.2, fun r' l' hne hl' e => hne (I.inj _ _ _ _ hl' hl e)⟩) (fun m => by
          refine ⟨Nat.le_refl _, by simp, by simp, ?_⟩
          rcases o4 with ⟨_, o4⟩ | ⟨l, arr, T, o4, o5, o6, o7, o8⟩
          · exact .inl ⟨rfl, by show (if r = r then C.ρ r else _) = none; rw [if_pos rfl]; exact o4⟩
          · exact .inr ⟨l, arr, T, by show (if r = r then C.ρ r else _) = some l; rw [if_pos rfl]; exact o4, o5, o6, by simp at o7 ⊢; omega, by simp⟩)
        refine ⟨_, .own r (v + 1) 0 0, C.reloc r (.row (v + 1) 1 []) (C.ρ r), he, h, rfl, ?_, key.1, hO.mono key.2⟩
        cases hu with
        | own _ _ _ _ _ _ hk hlc hcm hv' =>
          have hget : (C.H.set r (.row (v + 1) 1 []))[r]? = some (.row (v + 1) 1 []) := List.getElem?_set_self hlt
          refine .own a 0 cap r (v + 1) 0 ⟨_, hget, by simp⟩ (Nat.zero_le _) hcm fun v' sz xs h' => ?_
          have h' : (C.H.set r (.row (v + 1) 1 []))[r]? = some (.row v' sz xs) := h'
          rw [hget] at h'
          simp only [Option.some.injEq, AObj.row.injEq] at h'
          obtain ⟨rfl, rfl, rfl⟩ := h'
          refine ⟨Nat.le_refl _, fun _ => ⟨Nat.le_refl _, ?_⟩⟩
          obtain ⟨_, hv'⟩ := hv' _ _ _ hr
          obtain ⟨_, hv'⟩ := hv' rfl
          rcases hv' with h0 | ⟨l, h1, h2, h3⟩
          · exact .inl h0
          · exact .inr ⟨l, by show (if r = r then C.ρ r else _) = some l; rw [if_pos rfl]; exact h1, h2, h3⟩
      · have hS := I.sep r l hl
        refine (spec.some l.b l.base cap zs w (holds_ints hcell hget) (by omega) hcap).mono fun e w' ⟨he, n, hw⟩ => ?_
        subst hw
        have hcl := compact_len zs
        have hwl : (Lib.compact zs ++ List.replicate (zs.length - (Lib.compact zs).length) (0 : Int)).length = zs.length := by simp; omega
        have key := I.reloc (w' := putRow (Value.int .i64) (Sort.ahead w n) l.b l.base (Lib.compact zs ++ List.replicate (zs.length - (Lib.compact zs).length) 0).toArray) (v' := v + 1) (sz' := 1) (xs' := (Lib.compact zs).map intC) hr (Nat.lt_succ_self v) (some l)
          (fun b _ hb => heap_putRow (hb l rfl)) (by simp) (I.below.trans (below_putRow hS.2.1)) (fun l2 hl2 => by
            obtain rfl := Option.some.inj hl2
            exact ⟨hS.2.1, by simpa using hS.2.2.1, hS.2.2.2, fun r' l' hne hl' e => hne (I.inj _ _ _ _ hl' hl e)⟩) (fun m =>
            row_put (zs := zs) (v := v) I hl hcell hsz (by rw [hwl]; omega) (by rw [hwl]; exact hcl) (fun i z hi => by
              rw [List.getElem?_append_left (List.getElem?_eq_some_iff.1 hi).1]; exact hi) (C' := C.reloc r _ _) (by show (if r = r then some l else _) = some l; rw [if_pos rfl]))
        refine ⟨_, .own r (v + 1) 0 (Lib.compact zs).length, C.reloc r (.row (v + 1) 1 ((Lib.compact zs).map intC)) (some l), he, h, rfl, ?_, key.1, hO.mono key.2⟩
        obtain ⟨a2, cap2, e2, hk, hlc, hcm, _⟩ := own_inv hu
        simp only [Value.slice.injEq] at e2
        obtain ⟨_, _, rfl⟩ := e2
        have hget' : (C.H.set r (.row (v + 1) 1 ((Lib.compact zs).map intC)))[r]? = some (.row (v + 1) 1 ((Lib.compact zs).map intC)) := List.getElem?_set_self hlt
        refine .own _ _ cap r (v + 1) 0 ⟨_, hget', by simp⟩ (by omega) hcm fun v' sz xs h' => ?_
        have h' : (C.H.set r (.row (v + 1) 1 ((Lib.compact zs).map intC)))[r]? = some (.row v' sz xs) := h'
        rw [hget'] at h'
        simp only [Option.some.injEq, AObj.row.injEq] at h'
        obtain ⟨rfl, rfl, rfl⟩ := h'
        refine ⟨Nat.le_refl _, fun _ => ⟨by simp, .inr ⟨l, by show (if r = r then some l else _) = some l; rw [if_pos rfl], by simp, by omega⟩⟩⟩

theorem oneCell_of_g0 {C : Ctx} {w : World} {u : Value} {a : AVal} (h : RepV C w u a) (hg : a.g0 = true) : u.oneCell' = true := by
  cases h <;> first | rfl | (simp [AVal.g0] at hg)
/-- a row that a call has made, and a world that is else as it was -/
theorem own_row {A : Nat → Prop} {w w' : World} {v : Value} {T : TypeId} {sz : Nat} {xs : List (List AVal)} {news : List Value} (hA : ∀ b, A b → b < w.heap.size) (hb : RowKit.Below w.heap.size w w') (hsz : 1 ≤ sz) (hx : ∀ x ∈ xs, x.length = sz) (hg : ∀ x ∈ xs, ∀ c ∈ x, AVal.g0 c = true)
    (ho : w'.ownsRow w.heap.size T sz v xs.length news) (hrep : ∀ (i k : Nat) (x : List AVal) (c : AVal), xs[i]? = some x → x[k]? = some c → ∃ u, news[i * sz + k]? = some u ∧ RepV (Ctx.imm A) w u c) :
    ∃ C : Ctx, C.H = [.row 0 sz xs] ∧ C.A0 = A ∧ C.A = A ∧ Inv w C w' ∧ RepV C w' v (.own 0 0 0 xs.length) := by
  have gr : ∀ (C : Ctx), C.A = A → ∀ {u c}, RepV (Ctx.imm A) w u c → c.g0 = true → RepV C w' u c := fun C hC u c h hc =>
    RepV.ground (C := Ctx.imm A) (fun b hb' => ⟨by rw [hC]; exact hb', hb.block b (hA b hb')⟩) h (AVal.g2_of_g0 hc)
  obtain ⟨hl, ho⟩ := ho
  rcases ho with ⟨rfl, h0⟩ | ⟨g, cap, cur, rfl, hbase, hgb, hn, hcap, hcs, hcur⟩
  · have hxs : xs = [] := List.eq_nil_of_length_eq_zero h0
    subst hxs
    refine ⟨⟨A, A, fun _ => none, [.row 0 sz []]⟩, rfl, rfl, rfl, ⟨hb, fun b hb' => Nat.lt_of_lt_of_le (hA b hb') hb.size, fun b hb' _ => hb', by simp, by simp, fun r o h => ?_⟩, ?_⟩
    · match r, h with
      | 0, h => simp at h; subst h; exact ⟨hsz, by simp, by simp, .inl ⟨rfl, rfl⟩⟩
    · refine .own none 0 0 0 0 0 ⟨_, rfl, by simp⟩ (Nat.le_refl _) (Nat.zero_le _) fun v' sz' xs' h => ?_
      simp at h; obtain ⟨rfl, rfl, rfl⟩ := h
      exact ⟨Nat.le_refl _, fun _ => ⟨by simp, .inl rfl⟩⟩
  · have hgl : g < w'.heap.size := (Array.getElem?_eq_some_iff.1 hgb).1
    refine ⟨⟨A, A, fun r => if r = 0 then some ⟨g, 0, cur.size⟩ else none, [.row 0 sz xs]⟩, rfl, rfl, rfl, ⟨hb, fun b hb' => Nat.lt_of_lt_of_le (hA b hb') hb.size, fun b hb' _ => hb', fun r l h => ?_, fun r r' l l' h h' _ => ?_, fun r o h => ?_⟩, ?_⟩
    · simp only at h
      split at h
      · rename_i e
        obtain rfl := Option.some.inj h
        exact ⟨by simp [e], hbase, hgl, fun hb' => by have := hA _ hb'; simp only at this; omega⟩
      · cases h
    · simp only at h h'
      split at h
      · split at h'
        · omega
        · cases h'
      · cases h
    · match r, h with
      | 0, h =>
        simp at h; subst h
        refine ⟨hsz, hx, hg, .inr ⟨_, cur, T, rfl, hgb, rfl, ?_, fun i k x c hi hk => ?_⟩⟩
        · have : xs.length * sz ≤ cap * sz := Nat.mul_le_mul_right _ hn
          simp only; omega
        · obtain ⟨u, hu, hr⟩ := hrep i k x c hi hk
          refine ⟨u, ?_, gr _ rfl hr (hg x (List.mem_of_getElem? hi) c (List.mem_of_getElem? hk))⟩
          rw [← hcur, List.getElem?_take] at hu
          split at hu
          · simpa using hu
          · cases hu
    · refine .own _ _ _ 0 0 0 ⟨_, rfl, by simp⟩ hn hcap fun v' sz' xs' h => ?_
      simp at h; obtain ⟨rfl, rfl, rfl⟩ := h
      refine ⟨Nat.le_refl _, fun _ => ⟨by simp, .inr ⟨_, rfl, by simp, ?_⟩⟩⟩
      simp only; rw [hcs]; simp
end
theorem take_sortI (zs : List Int) : (Go.Ab.sortI zs).take zs.length = Go.Ab.sortI zs := List.take_of_length_le (by rw [sortI_len]; exact Nat.le_refl _)
attribute [go_sem] take_sortI
end Go.Ab
