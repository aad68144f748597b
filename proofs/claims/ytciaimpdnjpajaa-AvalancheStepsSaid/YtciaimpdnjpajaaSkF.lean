/-
  What the operations do to abstract values is what they do to the model's: part three, structs, slices made and appended to.
-/
import Derived.Test.YtciaimpdnjpajaaSkE
namespace Go.Ab
open Go Go.RowKit
section
variable {P : Program}

theorem foldl_put : ∀ (l : List Value) (k off : Nat) (arr : Array Value), off + k + l.length ≤ arr.size →
    ((l.zipIdx k).foldl (fun cs (p : Value × Nat) => cs.setIfInBounds (off + p.2) p.1) arr).size = arr.size ∧
    ∀ j, ((l.zipIdx k).foldl (fun cs (p : Value × Nat) => cs.setIfInBounds (off + p.2) p.1) arr)[j]? = if off + k ≤ j ∧ j < off + k + l.length then l[j - (off + k)]? else arr[j]?
  | [], k, off, arr, _ => ⟨rfl, fun j => by simp; omega⟩
  | x :: l, k, off, arr, h => by
    simp only [List.length_cons] at h
    have ih := foldl_put l (k + 1) off (arr.setIfInBounds (off + k) x) (by simp; omega)
    simp only [List.zipIdx_cons, List.foldl_cons]
    refine ⟨by rw [ih.1]; simp, fun j => ?_⟩
    rw [ih.2 j]
    simp only [List.length_cons]
    by_cases h1 : off + (k + 1) ≤ j ∧ j < off + (k + 1) + l.length
    · rw [if_pos h1, if_pos (by omega), show j - (off + k) = (j - (off + (k + 1))) + 1 by omega]
      simp
    · rw [if_neg h1]
      by_cases h2 : j = off + k
      · subst h2
        rw [if_pos (by omega), Array.getElem?_setIfInBounds_self]
        rw [if_pos (by omega)]
        simp
      · rw [if_neg (by omega), Array.getElem?_setIfInBounds_ne (by omega)]

theorem fill_rep {C : Ctx} {w : World} (place : Nat → Option (Nat × Nat)) : ∀ (parts : List (Nat × Value)) (aparts : List (Nat × AVal)) (arr : Array Value) (cs cs' : List AVal),
    parts.length = aparts.length → (∀ (i : Nat) p q, parts[i]? = some p → aparts[i]? = some q → p.1 = q.1 ∧ RepV C w p.2 q.2) →
    arr.size = cs.length → (∀ (i : Nat) (u : Value) (c : AVal), arr[i]? = some u → cs[i]? = some c → RepV C w u c) → aFill place cs aparts = some cs' →
    ∃ arr', Instr.fill place arr parts = some arr' ∧ arr'.size = cs'.length ∧ ∀ (i : Nat) (u : Value) (c : AVal), arr'[i]? = some u → cs'[i]? = some c → RepV C w u c
  | [], [], arr, cs, cs', _, _, hs, hr, h => by
    simp only [aFill, Option.some.injEq] at h
    subst h
    exact ⟨arr, rfl, hs, hr⟩
  | (i, v) :: parts, (i', a) :: aparts, arr, cs, cs', hl, hp, hs, hr, h => by
    obtain ⟨h1, h2⟩ := hp 0 (i, v) (i', a) rfl rfl
    simp only at h1 h2
    subst h1
    simp only [aFill] at h
    split at h
    · rename_i off size vs hpl hc
      split at h
      · cases h
      · rename_i hn
        have hac := acells_rep h2 hc
        have hn1 : vs.length = size := by omega
        have hn2 : off + vs.length ≤ cs.length := by omega
        have hfit : off + 0 + v.cells.toList.length ≤ arr.size := by simp; omega
        have hf := foldl_put v.cells.toList 0 off arr hfit
        have ih := fill_rep place parts aparts _ (splice cs off vs) cs' (by simpa using hl) (fun j p q a b => hp (j + 1) p q a b)
          (by rw [hf.1, aSplice_len hn2, hs]) (fun j u c a b => by
            rw [hf.2 j] at a
            rw [aSplice_get hn2] at b
            simp only [Nat.add_zero, Array.length_toList, hac.1] at a
            split at a
            · rename_i hj
              rw [if_neg (by omega), if_pos hj.2] at b
              exact hac.2 _ u c (by simpa using a) b
            · rename_i hj
              by_cases h3 : j < off
              · rw [if_pos h3] at b; exact hr j u c a b
              · rw [if_neg h3, if_neg (by omega)] at b; exact hr j u c a b) h
        obtain ⟨arr', e1, e2, e3⟩ := ih
        refine ⟨arr', ?_, e2, e3⟩
        simp only [Instr.fill, hpl]
        rw [if_neg (by simp; omega)]
        rw [← e1]
        congr 1
        rw [← Array.foldl_toList, Array.toList_zipIdx]
    · cases h
  | [], _ :: _, _, _, _, hl, _, _, _, _ => by simp at hl
  | _ :: _, [], _, _, _, hl, _, _, _, _ => by simp at hl

theorem build_sound {C : Ctx} {w : World} {T : TypeId} {parts : Array (Nat × Value)} {aparts : List (Nat × AVal)} {K : AVal → Prop} (hl : parts.toList.length = aparts.length)
    (hp : ∀ (i : Nat) p q, parts.toList[i]? = some p → aparts[i]? = some q → p.1 = q.1 ∧ RepV C w p.2 q.2) (h : aBuild P T aparts K) : Quiet C w ((Instr.build T parts).run P w) K := by
  obtain ⟨hz, h⟩ := h
  obtain ⟨z, hz⟩ := Option.isSome_iff_exists.1 hz
  split at h
  · rename_i pl hpl
    split at h
    · rename_i cs hcs
      have hzr := azeroCells_rep (P := P) C w hz
      obtain ⟨arr', e1, e2, e3⟩ := fill_rep (C := C) (w := w) _ _ _ _ _ _ hl hp hzr.1 hzr.2 hcs
      refine .mk' (run_build w T parts arr' ?_) (.agg arr' cs e2 e3) h
      unfold placesOf at hpl
      split at hpl
      · rename_i fs hU
        unfold zeroV at hz
        cases hi : P.info? T with
        | none => simp [hi] at hz
        | some i =>
          have hz' : i.zero = some z := by simpa [hi] using hz
          simp only [Program.built, hi, hU, hz', hpl]
          simpa using e1
      · cases hpl
    · exact h.elim
  · exact h.elim

theorem chunk_len (sz : Nat) : ∀ (n : Nat) (l : List AVal), (chunk sz n l).length = n
  | 0, _ => rfl
  | n + 1, l => by simp [chunk, chunk_len sz n]
theorem chunk_get (sz : Nat) : ∀ (n : Nat) (l : List AVal) (i : Nat), i < n → (chunk sz n l)[i]? = some ((l.drop (i * sz)).take sz)
  | 0, _, _, h => absurd h (by omega)
  | n + 1, l, 0, _ => by simp [chunk]
  | n + 1, l, i + 1, h => by
    simp only [chunk, List.getElem?_cons_succ]
    rw [chunk_get sz n _ i (by omega), List.drop_drop, Nat.add_mul, Nat.one_mul, Nat.add_comm sz]

theorem okElem {T e : TypeId} (_h : elemT P T = some e) {z : Value} (hz : zeroV P e = some z) : ∃ i, P.info? e = some i ∧ i.zero = some z ∧ szOf P e = i.size ∧ bytesOf P e = i.bytes := by
  unfold zeroV at hz
  cases hi : P.info? e with
  | none => simp [hi] at hz
  | some i => exact ⟨i, rfl, by simpa [hi] using hz, by simp [szOf, hi], by simp [bytesOf, hi]⟩

/-- cells in rows: a block of n rows of sz cells -/
theorem chunks_rep {C : Ctx} {w : World} {arr : Array Value} {cs : List AVal} {sz n : Nat} (hn : cs.length = n * sz) (hr : ∀ (i : Nat) (u : Value) (c : AVal), arr[i]? = some u → cs[i]? = some c → RepV C w u c) (hs : arr.size = cs.length) :
    (∀ x ∈ chunk sz n cs, x.length = sz) ∧ ∀ (i k : Nat) (x : List AVal) (c : AVal), (chunk sz n cs)[i]? = some x → x[k]? = some c → ∃ u, arr[0 + (i * sz + k)]? = some u ∧ RepV C w u c := by
  refine ⟨fun x hx => ?_, fun i k x c hx hc => ?_⟩
  · obtain ⟨i, hi⟩ := List.getElem?_of_mem hx
    have hlt : i < n := by have := getD_opt hi; rwa [chunk_len] at this
    rw [chunk_get sz n cs i hlt, Option.some.injEq] at hi
    subst hi
    have : (i + 1) * sz ≤ n * sz := Nat.mul_le_mul_right _ hlt
    rw [Nat.add_mul, Nat.one_mul] at this
    simp; omega
  · have hlt : i < n := by have := getD_opt hx; rwa [chunk_len] at this
    rw [chunk_get sz n cs i hlt, Option.some.injEq] at hx
    subst hx
    rw [List.getElem?_take] at hc
    split at hc
    · rw [List.getElem?_drop] at hc
      have hlt2 := getD_opt hc
      refine ⟨arr[i * sz + k], ?_, hr _ _ c ?_ hc⟩
      · rw [Nat.zero_add, Array.getElem?_eq_getElem (by omega)]
      · rw [Array.getElem?_eq_getElem (by omega)]
    · cases hc

theorem chunks_mem {sz n : Nat} {cs x : List AVal} {c : AVal} (hx : x ∈ chunk sz n cs) (hc : c ∈ x) : c ∈ cs := by
  obtain ⟨i, hi⟩ := List.getElem?_of_mem hx
  have hlt : i < n := by have := getD_opt hi; rwa [chunk_len] at this
  rw [chunk_get sz n cs i hlt, Option.some.injEq] at hi
  subst hi
  exact List.mem_of_mem_drop (List.mem_of_mem_take hc)

/-- a new row in a new block, all of it shown -/
theorem newRowObj {W0 : World} {C : Ctx} {w : World} (I : Inv W0 C w) {id : Nat} (hid : Free C.H id) (T : TypeId) (arr : Array Value) (sz len cap : Nat) (xs : List (List AVal)) (hsz1 : 1 ≤ sz) (hsz : ∀ x ∈ xs, x.length = sz) (hg : ∀ x ∈ xs, ∀ c ∈ x, AVal.g0 c = true)
    (hlen : len = xs.length) (hfit : xs.length * sz ≤ arr.size)
    (hr : ∀ (i k : Nat) (x : List AVal) (c : AVal), xs[i]? = some x → x[k]? = some c → ∃ u, arr[0 + (i * sz + k)]? = some u ∧ RepV C w u c)
    (hlc : len ≤ cap) (hcm : cap ≤ maxLen) (hcap : cap * sz ≤ arr.size) :
    ∃ C', C'.H = addAt C.H id (.row 0 sz xs) ∧ RepV C' (w.alloc (.cells arr T)) (.slice (some ⟨w.heap.size, 0, none⟩) len cap) (.own id 0 0 len) ∧
      Inv W0 C' (w.alloc (.cells arr T)) ∧ Mono C w C' (w.alloc (.cells arr T)) := by
  have key := I.alloc id hid (.row 0 sz xs) (.cells arr T) arr.size (fun m => ⟨hsz1, hsz, hg, .inr ⟨_, arr, T, Ctx.new_ρ _ _ _ _, heap_alloc_self _ _, rfl, by simpa using hfit, fun i k x c a b => by
    obtain ⟨u, hu, hur⟩ := hr i k x c a b
    exact ⟨u, hu, hur.mono m⟩⟩⟩)
  refine ⟨_, rfl, .own _ _ _ _ _ _ (Ctx.new_known hid _ (by simp)) hlc hcm (fun v' sz' xs' h => ?_), key.1, key.2⟩
  rw [Ctx.new_get hid, Option.some.injEq, AObj.row.injEq] at h
  obtain ⟨rfl, rfl, rfl⟩ := h
  exact ⟨Nat.le_refl _, fun _ => ⟨by omega, .inr ⟨_, Ctx.new_ρ _ _ _ _, by simp, by simpa using hcap⟩⟩⟩

theorem reps_len (cs : List AVal) : ∀ n, (reps n cs).length = n * cs.length
  | 0 => by simp [reps]
  | n + 1 => by rw [reps, List.length_append, reps_len cs n, Nat.add_mul, Nat.one_mul]; omega
theorem reps_get (cs : List AVal) : ∀ (n j : Nat), j < n * cs.length → (reps n cs)[j]? = cs[j % cs.length]?
  | 0, j, h => by simp at h
  | n + 1, j, h => by
    rw [reps]
    by_cases hj : j < cs.length
    · rw [List.getElem?_append_left hj, Nat.mod_eq_of_lt hj]
    · rw [List.getElem?_append_right (by omega), reps_get cs n _ (by rw [Nat.add_mul, Nat.one_mul] at h; omega)]
      congr 1
      exact (Nat.mod_eq_sub_mod (by omega)).symm

theorem buildSlice_sound {W0 : World} {C : Ctx} {w : World} (I : Inv W0 C w) {id : Nat} (hid : Free C.H id) {T : TypeId} {len : Nat} {parts : Array (Nat × Value)} {aparts : List (Nat × AVal)} {K : AVal → Eff → Prop} (hl : parts.toList.length = aparts.length)
    (hp : ∀ (i : Nat) p q, parts.toList[i]? = some p → aparts[i]? = some q → p.1 = q.1 ∧ RepV C w p.2 q.2) (hm : len ≤ maxLen) (h : aBuildSlice P T len aparts id K) : Done W0 C w ((Instr.buildSlice T len parts).run P w) K := by
  unfold aBuildSlice at h
  split at h
  · rename_i e hT
    obtain ⟨hz, h1, h2, h3, h⟩ := h
    obtain ⟨z, hz⟩ := Option.isSome_iff_exists.1 hz
    obtain ⟨i, hi, hiz, hs, hb⟩ := okElem hT hz
    have hzr := azeroCells_rep (P := P) C w hz
    have hzs : z.cells.size = szOf P e := by omega
    split at h
    · rename_i cs hcs
      obtain ⟨hg, hk⟩ := h
      obtain ⟨arr', e1, e2, e3⟩ := fill_rep (C := C) (w := w) (fun i => some (i * szOf P e, szOf P e)) _ _ ((Array.range (len * szOf P e)).map (z.cells[· % z.cells.size]!)) _ _ hl hp (by simp [reps_len, h2]) (fun j u c a b => by
        simp only [Array.getElem?_map] at a
        by_cases hj : j < len * szOf P e
        · rw [Array.getElem?_range, if_pos hj] at a
          rw [reps_get _ _ _ (by rw [h2]; exact hj), h2] at b
          simp only [Option.map_some, Option.some.injEq] at a
          subst a
          have hm := Nat.mod_lt j (show 0 < szOf P e by omega)
          refine hzr.2 (j % szOf P e) _ _ ?_ b
          rw [hzs, getElem!_pos z.cells (j % szOf P e) (by omega)]
          rw [Array.getElem?_eq_getElem (by omega)]
        · rw [List.getElem?_eq_none (by rw [reps_len, h2]; omega)] at b
          cases b) hcs
      have hcl : cs.length = len * szOf P e := by
        have : ∀ (aparts : List (Nat × AVal)) (place) (cs cs' : List AVal), aFill place cs aparts = some cs' → cs'.length = cs.length := by
          intro aparts place
          induction aparts with
          | nil => intro cs cs' h; simp only [aFill, Option.some.injEq] at h; subst h; rfl
          | cons p r ih =>
            intro cs cs' h
            simp only [aFill] at h
            split at h
            · split at h
              · cases h
              · rw [ih _ _ h, aSplice_len (by omega)]
            · cases h
        rw [this _ _ _ _ hcs, reps_len, h2]
      have hch := chunks_rep hcl e3 e2
      have hgr : ∀ x ∈ chunk (szOf P e) len cs, ∀ c ∈ x, AVal.g0 c = true := fun x hx c hc => List.all_eq_true.1 hg c (chunks_mem hx hc)
      have hlr : len * szOf P e ≤ arr'.size := by omega
      obtain ⟨C', g1, g2, g3, g4⟩ := newRowObj I hid e arr' (szOf P e) len len (chunk (szOf P e) len cs) h1 hch.1 hgr (by rw [chunk_len]) (by rw [chunk_len]; exact hlr) hch.2 (Nat.le_refl _) hm hlr
      refine ⟨_, _, _, C', _, ?_, g2, hk, g1, g3, g4⟩
      have hle : ¬ (len * szOf P e > 2 ^ 24) := by simp; omega
      have hr2 : (Instr.buildSlice T len parts).run P w = .ok (.slice (some ⟨w.heap.size, 0, none⟩) len len) (w.alloc (.cells arr' e)) := by
        by_cases h0 : len * szOf P e = 0
        · have hl0 : len = 0 := by
            rcases Nat.mul_eq_zero.1 h0 with h | h
            · exact h
            · omega
          subst hl0
          have hrg : Array.range 0 = #[] := rfl
          have e1' : Instr.fill (fun i => some (i * szOf P e, szOf P e)) #[] parts.toList = some arr' := by simpa [hrg] using e1
          simp [Instr.buildSlice, runU (elemT_spec hT), runSz hi, ← hs, e1', newRow, hrg]
        · simp only [Instr.buildSlice, Sem.run_bind, runU (elemT_spec hT), Result.andThen_ok, runSz hi, ← hs, hle, h0, if_false, zeroV_run hz, Sem.run_pure, e1, newRow, run_newObj]
          rfl
      exact hr2
    · exact h.elim
  · exact h.elim

theorem makeSlice_sound {W0 : World} {C : Ctx} {w : World} (I : Inv W0 C w) {id : Nat} (hid : Free C.H id) {T : TypeId} {l c : Value} {al ac : AVal} {K : AVal → Eff → Prop} (hl : RepV C w l al) (hc : RepV C w c ac) (h : aMakeSlice P T al ac id K) :
    Done W0 C w ((Instr.makeSlice T l c).run P w) K := by
  unfold aMakeSlice at h
  split at h
  · rename_i e kl n kc m hT
    obtain ⟨hz, h1, h2, hg, h0, h3, h4, h5, hk⟩ := h
    cases hl; cases hc
    obtain ⟨z, hz⟩ := Option.isSome_iff_exists.1 hz
    obtain ⟨i, hi, hiz, hs, hb⟩ := okElem hT hz
    have hzr := azeroCells_rep (P := P) C w hz
    have hzs : z.cells.size = szOf P e := by omega
    have hrun := run_make (P := P) w T e i z (elemT_spec hT) hi hiz kl kc n m h0 h3 (by rw [← hb]; exact h4) h5
    have hle : n.toNat * szOf P e ≤ m.toNat * szOf P e := Nat.mul_le_mul_right _ (by omega)
    have hsize : (madeCells z.cells (m.toNat * i.size)).size = m.toNat * szOf P e := by rw [size_madeCells, hs]
    obtain ⟨C', g1, g2, g3, g4⟩ := newRowObj I hid e (madeCells z.cells (m.toNat * i.size)) (szOf P e) n.toNat m.toNat (List.replicate n.toNat (azeroCells P e)) h1
      (fun x hx => by rw [List.eq_of_mem_replicate hx]; exact h2) (fun x hx c hc => by rw [List.eq_of_mem_replicate hx] at hc; exact List.all_eq_true.1 hg c hc)
      (by simp) (by rw [hsize]; simpa using hle) (fun j k x c hx hc => by
        have hj : j < n.toNat := by have := getD_opt hx; simpa using this
        rw [List.getElem?_replicate, if_pos hj, Option.some.injEq] at hx
        subst hx
        have hk2 : k < szOf P e := by have := getD_opt hc; omega
        have hlt : j * szOf P e + k < m.toNat * i.size := by
          rw [← hs]
          have : (j + 1) * szOf P e ≤ m.toNat * szOf P e := Nat.mul_le_mul_right _ (by omega)
          rw [Nat.add_mul, Nat.one_mul] at this
          omega
        refine ⟨z.cells[k], ?_, hzr.2 k _ c (Array.getElem?_eq_getElem (by omega)) hc⟩
        have hmod : (j * szOf P e + k) % z.cells.size = k := by rw [hzs, Nat.mul_comm, Nat.mul_add_mod]; exact Nat.mod_eq_of_lt hk2
        simp only [madeCells, Nat.zero_add, Array.getElem?_map, Array.getElem?_range, if_pos hlt, Option.map_some, hmod]
        rw [getElem!_pos z.cells k (by omega)]) (by omega) (by simp only [maxLen]; omega) (by rw [hsize]; exact Nat.le_refl _)
    exact ⟨_, _, _, C', _, hrun, g2, hk, g1, g3, g4⟩
  · exact h.elim

/-- what a slice shows, in memory -/
theorem elems_rep {W0 : World} {C : Ctx} {w : World} (I : Inv W0 C w) {x : Value} {ax : AVal} {sz : Nat} {ys : List (List AVal)} (hx : RepV C w x ax) (h : aElems ax C.H = some (sz, ys)) :
    ∃ a m c, x = .slice a m c ∧ m = ys.length ∧ m ≤ c ∧ c ≤ maxLen ∧ (∀ y ∈ ys, y.length = sz) ∧ (∀ y ∈ ys, ∀ c ∈ y, AVal.g0 c = true) ∧
      (ys ≠ [] → 1 ≤ sz ∧ ∃ ad, a = some ad ∧ ∃ news : List Value, news.length = m * sz ∧ (∀ j u, news[j]? = some u → w.cell? (ad.add j) = some u) ∧
        (∀ (i k : Nat) (x : List AVal) (c : AVal), ys[i]? = some x → x[k]? = some c → ∃ u, news[i * sz + k]? = some u ∧ RepV C w u c)) := by
  unfold aElems at h
  split at h
  · rename_i sz1 xs1
    simp only [Option.some.injEq, Prod.mk.injEq] at h
    obtain ⟨rfl, rfl⟩ := h
    cases hx with
    | sl0 a cap _ hcm => exact ⟨a, 0, cap, rfl, rfl, Nat.zero_le _, hcm, by simp, by simp, by simp⟩
    | sl a len cap _ _ u hsp hlen hlc hcm hA hsz1 hsz hg hcell hrep =>
      refine ⟨some a, len, cap, rfl, hlen, hlc, hcm, hsz, hg, fun _ => ⟨hsz1, a, rfl, (List.range (len * sz1)).map u, by simp, fun j v hj => ?_, fun i k x c h1 h2 => ?_⟩⟩
      · simp only [List.getElem?_map] at hj
        have hlt : j < len * sz1 := by
          rcases Nat.lt_or_ge j (len * sz1) with h | h
          · exact h
          · rw [List.getElem?_eq_none (by simpa using h)] at hj; cases hj
        rw [List.getElem?_range hlt] at hj
        simp only [Option.map_some, Option.some.injEq] at hj
        subst hj
        rw [add_none _ _ hsp]
        exact hcell j (by rw [← hlen]; exact hlt)
      · refine ⟨u (i * sz1 + k), ?_, hrep i k x c h1 h2⟩
        have hi := getD_opt h1
        have hk : k < sz1 := by have := getD_opt h2; have := hsz _ (List.mem_of_getElem? h1); omega
        have : (i + 1) * sz1 ≤ len * sz1 := Nat.mul_le_mul_right _ (by omega)
        rw [Nat.add_mul, Nat.one_mul] at this
        rw [List.getElem?_map, List.getElem?_range (by omega)]
        rfl
  · rename_i r v lo len
    split at h
    · rename_i v' sz' xs hr
      split at h
      · rename_i hv
        simp only [Option.some.injEq, Prod.mk.injEq] at h
        obtain ⟨rfl, rfl⟩ := h
        cases hx with
        | own a _ cap _ _ _ hlt hlc hcm hh =>
          obtain ⟨_, hh⟩ := hh _ _ _ hr
          obtain ⟨hle, hh⟩ := hh hv
          obtain ⟨hsz1, hsz, hg, ho⟩ := I.objs r _ hr
          have hlen : ((xs.drop lo).take len).length = len := by simp; omega
          refine ⟨a, len, cap, rfl, hlen.symm, hlc, hcm, fun y hy => hsz y (List.mem_of_mem_drop (List.mem_of_mem_take hy)), fun y hy => hg y (List.mem_of_mem_drop (List.mem_of_mem_take hy)), fun hne => ⟨hsz1, ?_⟩⟩
          have hlen0 : len ≠ 0 := fun e => hne (by subst e; simp)
          rcases hh with hh | ⟨l, hl, rfl, hfit⟩
          · omega
          rcases ho with ⟨e1, _⟩ | ⟨l', arr, T', e1, e2, e3, e4, e5⟩
          · subst e1; simp at hle; omega
          rw [hl, Option.some.injEq] at e1
          subst e1
          have hmul : (lo + len) * sz' ≤ xs.length * sz' := Nat.mul_le_mul_right _ hle
          have hadd : (lo + len) * sz' = lo * sz' + len * sz' := Nat.add_mul _ _ _
          refine ⟨_, rfl, (arr.toList.drop (l.base + lo * sz')).take (len * sz'), by simp; omega, fun j u hj => ?_, fun i k x c h1 h2 => ?_⟩
          · rw [List.getElem?_take] at hj
            split at hj
            · rw [List.getElem?_drop, Array.getElem?_toList] at hj
              rw [add_none _ _ rfl]
              simp only [World.cell?, e2]
              simpa using hj
            · cases hj
          · rw [List.getElem?_take] at h1
            split at h1
            · rename_i hi
              rw [List.getElem?_drop] at h1
              obtain ⟨u, hu, hur⟩ := e5 _ k x c h1 h2
              refine ⟨u, ?_, hur⟩
              have hk : k < sz' := by have := getD_opt h2; have := hsz _ (List.mem_of_getElem? h1); omega
              have : (i + 1) * sz' ≤ len * sz' := Nat.mul_le_mul_right _ hi
              rw [Nat.add_mul, Nat.one_mul] at this
              rw [List.getElem?_take, if_pos (by omega), List.getElem?_drop, Array.getElem?_toList]
              rw [show l.base + lo * sz' + (i * sz' + k) = l.base + ((lo + i) * sz' + k) by rw [Nat.add_mul]; omega]
              exact hu
            · cases h1
      · cases h
    · cases h
  · cases h

theorem flat_one {C : Ctx} {w : World} {ys : List (List AVal)} {sz : Nat} {news : List Value} (hlen : news.length = ys.length * sz) (hsz : ∀ y ∈ ys, y.length = sz) (hg : ∀ y ∈ ys, ∀ c ∈ y, AVal.g0 c = true)
    (hr : ∀ (i k : Nat) (x : List AVal) (c : AVal), ys[i]? = some x → x[k]? = some c → ∃ u, news[i * sz + k]? = some u ∧ RepV C w u c) : ∀ u ∈ news, u.oneCell' = true := by
  intro u hu
  obtain ⟨j, hj⟩ := List.getElem?_of_mem hu
  have hlt := getD_opt hj
  rw [hlen] at hlt
  have hsz0 : 0 < sz := by
    rcases Nat.eq_zero_or_pos sz with h | h
    · subst h; simp at hlt
    · exact h
  have hi : j / sz < ys.length := (Nat.div_lt_iff_lt_mul hsz0).2 hlt
  have hk : j % sz < sz := Nat.mod_lt _ hsz0
  have h1 : ys[j / sz]? = some ys[j / sz] := List.getElem?_eq_getElem hi
  have h2l : j % sz < ys[j / sz].length := by rw [hsz _ (List.getElem_mem hi)]; exact hk
  obtain ⟨u', hu', hur⟩ := hr _ _ _ _ h1 (List.getElem?_eq_getElem h2l)
  rw [Nat.mul_comm, Nat.div_add_mod, hj, Option.some.injEq] at hu'
  subst hu'
  refine one_cell hur ?_
  have := hg _ (List.getElem_mem hi) _ (List.getElem_mem h2l)
  revert this
  generalize ys[j / sz][j % sz] = c
  cases c <;> simp [AVal.g0, AVal.one]

/-- append of nothing -/
theorem run_append_empty {w : World} {T e ty : TypeId} {i : TypeInfo} (hT : P.underlying T = some (.slice e)) (hi : P.info? e = some i) (b : Option Addr) (sLen sCap : Nat) (hle : sLen ≤ sCap) (a : Option Addr) (c : Nat) :
    (Builtin.append_ #[T, T] ty #[.slice b sLen sCap, .slice a 0 c]).run P w = .ok (.slice b sLen sCap) w := by
  have hfc : ∀ (a : Option Addr), (Builtin.firstCells i.size 0 (.slice a 0 c)).run P w = .ok #[] w := by
    intro a
    cases a <;> simp [Builtin.firstCells, loadCells, loadCellsFrom]
  cases b <;> simp [Builtin.append_, runU hT, runSz hi, Builtin.lenOf, hle, hfc, storeCells]

theorem run_append_in {w : World} {T e ty : TypeId} {i : TypeInfo} (hT : P.underlying T = some (.slice e)) (hi : P.info? e = some i)
    (g o sLen sCap : Nat) (cur : Array Value) (t : TypeId) (hg : w.heap[g]? = some (.cells cur t (0, 0)))
    (a : Addr) (m c : Nat) (news : List Value) (hl : news.length = m * i.size) (hnews : ∀ j u, news[j]? = some u → w.cell? (a.add j) = some u) (h1 : ∀ u ∈ news, u.oneCell' = true)
    (hroom : sLen + m ≤ sCap) (hfit : o + sLen * i.size + news.length ≤ cur.size) :
    (Builtin.append_ #[T, T] ty #[.slice (some ⟨g, o, none⟩) sLen sCap, .slice (some a) m c]).run P w =
      .ok (.slice (some ⟨g, o, none⟩) (sLen + m) sCap) (w.setRow g (cur.toList.take (o + sLen * i.size) ++ news ++ cur.toList.drop (o + sLen * i.size + news.length)).toArray) := by
  have hf := run_firstCells_some (P := P) w i.size m a m c news hl hnews
  have hst := run_storeCells_at P g (o + sLen * i.size) t news 0 cur w hg (by simpa using hfit) h1
  simp only [Nat.add_zero] at hst
  simp [Builtin.append_, runU hT, runSz hi, typeInfo, hi, Builtin.lenOf, hroom, hf, add_none, hst]
end
end Go.Ab
