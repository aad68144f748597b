/-
  What the operations do to abstract values is what they do to the model's: part two, the operations that make or write memory.
-/
import Derived.Test.YtciaimpdnjpajaaSkD
namespace Go.Ab
open Go Go.RowKit
section
variable {P : Program}

/-- What an operation leaves: a value (or nothing), a world in which all that was known is known. -/
structure Done (W0 : World) (C : Ctx) (w : World) (r : Result Value) (K : AVal → Eff → Prop) : Prop where
  ex : ∃ v a w' C' ef, r = .ok v w' ∧ RepV C' w' v a ∧ K a ef ∧ C'.H = ef.app C.H ∧ Inv W0 C' w' ∧ Mono C w C' w'
structure Did (W0 : World) (C : Ctx) (w : World) (r : Result Unit) (K : AVal → Eff → Prop) : Prop where
  ex : ∃ w' C' ef, r = .ok () w' ∧ K (.tuple []) ef ∧ C'.H = ef.app C.H ∧ Inv W0 C' w' ∧ Mono C w C' w'

theorem Quiet.done {W0 : World} {C : Ctx} {w : World} (I : Inv W0 C w) {r : Result Value} {K : AVal → Eff → Prop} (h : Quiet C w r (fun a => K a .none)) : Done W0 C w r K := by
  obtain ⟨v, a, h1, h2, h3⟩ := h.ex
  exact ⟨v, a, w, C, .none, h1, h2, h3, rfl, I, .refl _ _⟩

theorem below_alloc {W0 w : World} (h : Below W0.heap.size W0 w) (o : Obj) : Below W0.heap.size W0 (w.alloc o) := h.alloc h.size o

/-- a new block of cells -/
theorem Inv.alloc {W0 : World} {C : Ctx} {w : World} (I : Inv W0 C w) (id : Nat) (hid : Free C.H id) (o : AObj) (X : Obj) (cap : Nat)
    (ho : Mono C w (C.new id o ⟨w.heap.size, 0, cap⟩) (w.alloc X) → RepO (C.new id o ⟨w.heap.size, 0, cap⟩) (w.alloc X) id o) :
    Inv W0 (C.new id o ⟨w.heap.size, 0, cap⟩) (w.alloc X) ∧ Mono C w (C.new id o ⟨w.heap.size, 0, cap⟩) (w.alloc X) :=
  I.fresh id hid o _ (Nat.le_refl _) (by simp) (fun b hb => Below.heap_alloc _ _ _ hb) (below_alloc I.below X) ho

theorem heap_alloc_self (w : World) (X : Obj) : (w.alloc X).heap[w.heap.size]? = some X := by
  show (w.heap.push X)[w.heap.size]? = some X
  simp

theorem Ctx.new_ρ (C : Ctx) (id : Nat) (o : AObj) (l : Loc) : (C.new id o l).ρ id = some l := by simp [Ctx.new]
theorem Ctx.new_get {C : Ctx} {id : Nat} (hid : Free C.H id) (o : AObj) (l : Loc) : (C.new id o l).H[id]? = some o := addAt_self hid
theorem Ctx.new_known {C : Ctx} {id : Nat} (hid : Free C.H id) {o : AObj} (l : Loc) (hne : o ≠ .resv) : (C.new id o l).known id := ⟨o, addAt_self hid, hne⟩

theorem azeroCells_rep (C : Ctx) (w : World) {T : TypeId} {z : Value} (hz : zeroV P T = some z) : z.cells.size = (azeroCells P T).length ∧
    ∀ (i : Nat) (u : Value) (c : AVal), z.cells[i]? = some u → (azeroCells P T)[i]? = some c → RepV C w u c := by
  simp only [azeroCells, hz]
  refine ⟨by simp, fun i u c h1 h2 => ?_⟩
  simp only [List.getElem?_map, Array.getElem?_toList, h1, Option.map_some, Option.some.injEq] at h2
  subst h2
  exact aconst0_rep C w u

theorem zeroV_run {T : TypeId} {z : Value} (h : zeroV P T = some z) (w : World) : (zeroValue T).run P w = .ok z w := by
  unfold zeroV at h
  cases hi : P.info? T with
  | none => simp [hi] at h
  | some i =>
    have hz : i.zero = some z := by simpa [hi] using h
    simp [zeroValue, typeInfo, hi, hz]

/-- a new variable that holds cells known one by one -/
theorem newBox {W0 : World} {C : Ctx} {w : World} (I : Inv W0 C w) {id : Nat} (hid : Free C.H id) {T : TypeId} {v : Value} {cs : List AVal} {K : AVal → Eff → Prop}
    (h1 : v.cells.size = cs.length) (h2 : ∀ (i : Nat) (u : Value) (c : AVal), v.cells[i]? = some u → cs[i]? = some c → RepV C w u c)
    (hk : K (.ptr id 0) (.new id (.box cs))) : Done W0 C w (((fun a => Value.pointer (some a)) <$> newVar T v).run P w) K := by
  have key := I.alloc id hid (.box cs) (.cells v.cells T) v.cells.size (fun m => ⟨_, v.cells, T, Ctx.new_ρ _ _ _ _, heap_alloc_self _ _, h1, fun i u c a b => (h2 i u c a b).mono m⟩)
  refine ⟨.pointer (some ⟨w.heap.size, 0, none⟩), .ptr id 0, _, _, _, ?_, ?_, hk, rfl, key.1, key.2⟩
  · simp [newVar, newRow]
  · refine .ptr _ _ _ (Ctx.new_known hid _ (by simp)) fun cs' _ => ⟨_, Ctx.new_ρ _ _ _ _, rfl⟩

theorem alloc_sound {W0 : World} {C : Ctx} {w : World} (I : Inv W0 C w) {id : Nat} (hid : Free C.H id) {T : TypeId} {K : AVal → Eff → Prop} (h : aAlloc P T id K) :
    Done W0 C w ((Instr.alloc T true (.tuple #[])).run P w) K := by
  obtain ⟨hz, hk⟩ := h
  obtain ⟨z, hz⟩ := Option.isSome_iff_exists.1 hz
  have hr := azeroCells_rep (P := P) C w hz
  have := newBox (P := P) (T := T) I hid hr.1 hr.2 hk
  simpa [Instr.alloc, zeroV_run hz, Sem.run_map, Sem.run_bind] using this

theorem box_sound {W0 : World} {C : Ctx} {w : World} (I : Inv W0 C w) {id : Nat} (hid : Free C.H id) {T : TypeId} {x : Value} {ax : AVal} {K : AVal → Eff → Prop} (hx : RepV C w x ax) (h : aBox ax id K) :
    Done W0 C w ((Instr.box T x).run P w) K := by
  unfold aBox at h
  split at h
  · rename_i cs hc
    have hr := acells_rep hx hc
    have := newBox (P := P) (T := T) I hid hr.1 hr.2 h
    simpa [Instr.box, Sem.run_map, Sem.run_bind] using this
  · exact h.elim

theorem heap_setRow {w : World} {g : Nat} {cur c : Array Value} {t : TypeId} (hg : w.heap[g]? = some (.cells cur t (0, 0))) :
    (w.setRow g c).heap[g]? = some (.cells c t (0, 0)) := setRow_heap w g cur c t _ hg

theorem below_setRow {W0 w : World} (h : Below W0.heap.size W0 w) {g : Nat} (hg : W0.heap.size ≤ g) (c : Array Value) : Below W0.heap.size W0 (w.setRow g c) :=
  h.trans ⟨rfl, rfl, rfl, by simp [World.setRow], fun k hk => setRow_other w g k _ (by omega)⟩

theorem run_storeAt {w : World} {T : TypeId} {g o : Nat} {cur : Array Value} {t : TypeId} {x : Value} (hT : okT P T = true) (hg : w.heap[g]? = some (.cells cur t (0, 0)))
    (hn : x.cells.size = szOf P T) (hfit : o + x.cells.size ≤ cur.size) (h1 : ∀ v ∈ x.cells.toList, v.oneCell' = true) :
    (Instr.storeAt T (.pointer (some ⟨g, o, none⟩)) x).run P w = .ok () (w.setRow g (cur.toList.take o ++ x.cells.toList ++ cur.toList.drop (o + x.cells.size)).toArray) := by
  obtain ⟨i, d, hi, hd, hs⟩ := okT_spec hT
  have := run_storeCells_at P g o t x.cells.toList 0 cur w hg (by simpa using hfit) h1
  simp only [Nat.add_zero, Array.length_toList] at this
  simp only [Instr.storeAt, Instr.sureAddr, storeVar, Sem.run_bind, Sem.run_pure, Result.andThen_ok, runSz hi, hn, hs, ne_eq, not_true_eq_false, if_false, this]

theorem splice_size {cur : Array Value} {o : Nat} {vs : List Value} (h : o + vs.length ≤ cur.size) : (cur.toList.take o ++ vs ++ cur.toList.drop (o + vs.length)).toArray.size = cur.size := by
  simp; omega
theorem splice_get {cur : Array Value} {o : Nat} {vs : List Value} (h : o + vs.length ≤ cur.size) (j : Nat) :
    (cur.toList.take o ++ vs ++ cur.toList.drop (o + vs.length)).toArray[j]? = if j < o then cur[j]? else if j < o + vs.length then vs[j - o]? else cur[j]? := by
  simp only [List.getElem?_toArray, List.getElem?_append, List.length_append, List.length_take, Array.length_toList]
  have e : min o cur.size = o := by omega
  rw [e]
  by_cases h1 : j < o
  · rw [if_pos (by omega), if_pos h1, if_pos h1, List.getElem?_take, if_pos h1, Array.getElem?_toList]
  · rw [if_neg h1, if_neg h1]
    by_cases h2 : j < o + vs.length
    · rw [if_pos h2, if_pos h2]
    · rw [if_neg h2, if_neg h2, List.getElem?_drop, Array.getElem?_toList]
      congr 1; omega
theorem aSplice_get {cs : List AVal} {o : Nat} {vs : List AVal} (h : o + vs.length ≤ cs.length) (j : Nat) :
    (splice cs o vs)[j]? = if j < o then cs[j]? else if j < o + vs.length then vs[j - o]? else cs[j]? := by
  unfold splice
  simp only [List.getElem?_append, List.length_append, List.length_take]
  have e : min o cs.length = o := by omega
  rw [e]
  by_cases h1 : j < o
  · rw [if_pos (by omega), if_pos h1, if_pos h1, List.getElem?_take, if_pos h1]
  · rw [if_neg h1, if_neg h1]
    by_cases h2 : j < o + vs.length
    · rw [if_pos h2, if_pos h2]
    · rw [if_neg h2, if_neg h2, List.getElem?_drop]
      congr 1; omega
theorem aSplice_len {cs : List AVal} {o : Nat} {vs : List AVal} (h : o + vs.length ≤ cs.length) : (splice cs o vs).length = cs.length := by
  unfold splice; simp; omega

theorem store_sound {W0 : World} {C : Ctx} {w : World} (I : Inv W0 C w) {T : TypeId} {p x : Value} {ap ax : AVal} {K : AVal → Eff → Prop} (hp : RepV C w p ap) (hx : RepV C w x ax) (h : aStore P T ap ax C.H K) :
    Did W0 C w ((Instr.storeAt T p x).run P w) K := by
  unfold aStore at h
  split at h
  · rename_i vs hvs
    obtain ⟨hT, hn, hone, h⟩ := h
    have hr := acells_rep hx hvs
    have h1 : ∀ v ∈ x.cells.toList, v.oneCell' = true := by
      intro v hv
      obtain ⟨i, hi⟩ := List.getElem?_of_mem hv
      rw [Array.getElem?_toList] at hi
      have hlt : i < vs.length := by have := (Array.getElem?_eq_some_iff.1 hi).1; omega
      exact one_cell (hr.2 i v _ hi (List.getElem?_eq_getElem hlt)) (List.all_eq_true.1 hone _ (List.getElem_mem hlt))
    split at h
    · rename_i r k
      split at h
      · rename_i cs hH
        obtain ⟨hfit, hk⟩ := h
        cases hp with
        | ptr a _ _ hlt hh =>
          obtain ⟨l, hl, rfl⟩ := hh _ hH
          replace hlt := hlt.lt
          obtain ⟨l', arr, T', e1, e2, e3, e4⟩ := I.objs r _ hH
          rw [hl, Option.some.injEq] at e1
          subst e1
          have hrun := run_storeAt (P := P) (T := T) (o := k) hT e2 (by omega) (by omega) h1
          have hl2 : x.cells.size = x.cells.toList.length := by simp
          rw [hl2] at hrun
          have hf2 : k + x.cells.toList.length ≤ arr.size := by simp; omega
          have key := I.put (o' := .box (splice cs k vs)) hH hl (w' := w.setRow l.b (arr.toList.take k ++ x.cells.toList ++ arr.toList.drop (k + x.cells.toList.length)).toArray)
            (fun b hb => setRow_other w l.b b _ hb) (by simp [World.setRow]) (below_setRow I.below (I.sep _ _ hl).2.1 _)
            (by unfold ObjMono; simp only [Ctx.set, List.getElem?_set_self hlt]; exact ⟨⟨_, hH⟩, trivial⟩)
            (fun m => ⟨l, _, T', hl, heap_setRow e2, by rw [splice_size hf2, aSplice_len hfit, e3], fun i u c a b => by
              rw [splice_get hf2] at a
              rw [aSplice_get hfit] at b
              rw [← hl2, hr.1] at a
              split at a
              · rename_i h'
                rw [if_pos h'] at b
                exact (e4 i u c a b).mono m
              · rename_i h'
                rw [if_neg h'] at b
                split at a
                · rename_i h2
                  rw [if_pos h2] at b
                  exact (hr.2 _ u c (by simpa using a) b).mono m
                · rename_i h2
                  rw [if_neg h2] at b
                  exact (e4 i u c a b).mono m⟩)
          exact ⟨_, _, _, hrun, hk, rfl, key.1, key.2⟩
      · exact h.elim
    · rename_i r v i k
      split at h
      · rename_i v' sz xs hH
        obtain ⟨hv, hgr, hfit, hk⟩ := h
        cases hp with
        | rptr a _ _ _ _ hlt hh =>
          obtain ⟨_, hh⟩ := hh _ _ _ hH
          replace hlt := hlt.lt
          obtain ⟨hi, l, hl, rfl⟩ := hh hv
          obtain ⟨hsz1, hsz, hg, ho⟩ := I.objs r _ hH
          rcases ho with ⟨_, e1⟩ | ⟨l', arr, T', e1, e2, e3, e4, e5⟩
          · rw [hl] at e1; cases e1
          rw [hl, Option.some.injEq] at e1
          subst e1
          have hx' : xs[i]? = some xs[i] := List.getElem?_eq_getElem hi
          have hxl := hsz _ (List.getElem_mem hi)
          have hk' := hk _ hx' hxl
          have hmul : (i + 1) * sz ≤ xs.length * sz := Nat.mul_le_mul_right _ hi
          rw [Nat.add_mul, Nat.one_mul] at hmul
          have hf2 : l.base + i * sz + k + x.cells.toList.length ≤ arr.size := by simp; omega
          have hrun := run_storeAt (P := P) (T := T) (o := l.base + i * sz + k) hT e2 (by omega) (by simpa using hf2) h1
          have hl2 : x.cells.size = x.cells.toList.length := by simp
          rw [hl2] at hrun
          have hvl : vs.length = x.cells.toList.length := by simp; omega
          have hfa : k + vs.length ≤ xs[i].length := by omega
          have hset : ∀ (i2 : Nat) (x2 : List AVal), (xs.set i (splice xs[i] k vs))[i2]? = some x2 → (i2 = i ∧ x2 = splice xs[i] k vs) ∨ (i2 ≠ i ∧ xs[i2]? = some x2) := by
            intro i2 x2 h2
            by_cases e : i = i2
            · subst e
              rw [List.getElem?_set_self hi, Option.some.injEq] at h2
              exact .inl ⟨rfl, h2.symm⟩
            · rw [List.getElem?_set_ne e] at h2
              exact .inr ⟨fun h => e h.symm, h2⟩
          have hmem : ∀ x2 ∈ xs.set i (splice xs[i] k vs), x2 = splice xs[i] k vs ∨ x2 ∈ xs := by
            intro x2 h2
            rcases List.mem_or_eq_of_mem_set h2 with h2 | h2
            · exact .inr h2
            · exact .inl h2
          have key := I.put (o' := .row v' sz (xs.set i (splice xs[i] k vs))) hH hl (w' := w.setRow l.b (arr.toList.take (l.base + i * sz + k) ++ x.cells.toList ++ arr.toList.drop (l.base + i * sz + k + x.cells.toList.length)).toArray)
            (fun b hb => setRow_other w l.b b _ hb) (by simp [World.setRow]) (below_setRow I.below (I.sep _ _ hl).2.1 _)
            (by unfold ObjMono; simp only [Ctx.set, List.getElem?_set_self hlt]; exact .inl ⟨_, hH, by simp, trivial⟩)
            (fun m => ⟨hsz1, fun x2 h2 => by
                rcases hmem x2 h2 with rfl | h2
                · rw [aSplice_len hfa]; exact hxl
                · exact hsz x2 h2, fun x2 h2 => by
                rcases hmem x2 h2 with rfl | h2
                · intro c hc
                  unfold splice at hc
                  rw [List.mem_append, List.mem_append] at hc
                  rcases hc with (hc | hc) | hc
                  · exact hg _ (List.getElem_mem hi) c (List.mem_of_mem_take hc)
                  · exact List.all_eq_true.1 hgr c hc
                  · exact hg _ (List.getElem_mem hi) c (List.mem_of_mem_drop hc)
                · exact hg x2 h2,
              .inr ⟨l, _, T', hl, heap_setRow e2, by rw [splice_size hf2, e3], by simpa using e4, fun i2 k2 x2 c2 g1 g2 => by
                rw [splice_get hf2]
                rcases hset i2 x2 g1 with ⟨rfl, rfl⟩ | ⟨hne, g1⟩
                · rw [aSplice_get hfa] at g2
                  by_cases hA : k2 < k
                  · rw [if_pos hA] at g2
                    obtain ⟨u, hu, hur⟩ := e5 i2 k2 _ c2 hx' g2
                    exact ⟨u, by rw [if_pos (by omega)]; exact hu, hur.mono m⟩
                  · rw [if_neg hA] at g2
                    by_cases hB : k2 < k + vs.length
                    · rw [if_pos hB] at g2
                      have hlt2 : k2 - k < x.cells.size := by omega
                      refine ⟨x.cells[k2 - k], ?_, (hr.2 (k2 - k) _ c2 (Array.getElem?_eq_getElem hlt2) g2).mono m⟩
                      rw [if_neg (by omega), if_pos (by omega)]
                      have : l.base + (i2 * sz + k2) - (l.base + i2 * sz + k) = k2 - k := by omega
                      rw [this, Array.getElem?_toList, Array.getElem?_eq_getElem hlt2]
                    · rw [if_neg hB] at g2
                      obtain ⟨u, hu, hur⟩ := e5 i2 k2 _ c2 hx' g2
                      exact ⟨u, by rw [if_neg (by omega), if_neg (by omega)]; exact hu, hur.mono m⟩
                · obtain ⟨u, hu, hur⟩ := e5 i2 k2 _ c2 g1 g2
                  refine ⟨u, ?_, hur.mono m⟩
                  have hk2 : k2 < sz := by have := getD_opt g2; have := hsz _ (List.mem_of_getElem? g1); omega
                  have hkk : k + vs.length ≤ sz := by omega
                  rcases Nat.lt_or_gt_of_ne hne with hlt' | hgt'
                  · have : (i2 + 1) * sz ≤ i * sz := Nat.mul_le_mul_right _ hlt'
                    rw [Nat.add_mul, Nat.one_mul] at this
                    rw [if_pos (by omega)]; exact hu
                  · have : (i + 1) * sz ≤ i2 * sz := Nat.mul_le_mul_right _ hgt'
                    rw [Nat.add_mul, Nat.one_mul] at this
                    rw [if_neg (by omega), if_neg (by omega)]; exact hu⟩⟩)
          exact ⟨_, _, _, hrun, hk', rfl, key.1, key.2⟩
      · exact h.elim
    · exact h.elim
  · exact h.elim
end
end Go.Ab
