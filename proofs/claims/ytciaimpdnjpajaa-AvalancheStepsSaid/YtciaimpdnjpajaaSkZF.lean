/-
  Maps whose keys are structs of two numbers.
-/
import Derived.Test.YtciaimpdnjpajaaSkZE
import Derived.Test.YtciaimpdnjpajaaSkXA
import Derived.WideKeyRuns
namespace Go.Ab
open Go Go.RowKit
variable {P : Program} {md : Option Nat}

theorem tri_lt {s : Nat} : ∀ {t : Nat}, s < t → tri s + s < tri t
  | t + 1, h => by
    simp only [tri]
    by_cases e : s = t
    · subst e; omega
    · have := tri_lt (s := s) (t := t) (by omega); omega
theorem zz_inj {a b : Int} (h : zz a = zz b) : a = b := by
  unfold zz at h
  split at h <;> split at h <;> omega
theorem pk_inj {a b c d : Int} (h : pk a b = pk c d) : a = c ∧ b = d := by
  unfold pk at h
  have h : tri (zz a + zz b) + zz b = tri (zz c + zz d) + zz d := by omega
  rcases Nat.lt_trichotomy (zz a + zz b) (zz c + zz d) with h1 | h1 | h1
  · have := tri_lt h1; omega
  · rw [h1] at h
    have h2 : zz b = zz d := by omega
    exact ⟨zz_inj (by omega), zz_inj h2⟩
  · have := tri_lt h1; omega
theorem pk_iff {a b c d : Int} : pk a b = pk c d ↔ a = c ∧ b = d := ⟨pk_inj, by rintro ⟨rfl, rfl⟩; rfl⟩
theorem KeyIs.unique {u v : Value} {n : Int} (h : KeyIs true u n) (k : KeyIs true v n) : u = v := by
  obtain ⟨a, b, rfl, h1⟩ := h
  obtain ⟨c, d, rfl, h2⟩ := k
  obtain ⟨rfl, rfl⟩ := pk_inj (h1.symm.trans h2)
  rfl

/-- the type of a map whose keys are structs of two numbers -/
def keyQ (P : Program) (T : TypeId) : Option TypeId :=
  match P.underlying T with
  | some (.map k e) => if eqOffs P k = some [(0, false), (1, false)] then some e else none
  | _ => none
theorem keyQ_spec {T e : TypeId} (h : keyQ P T = some e) : ∃ k, P.underlying T = some (.map k e) ∧ eqOffs P k = some [(0, false), (1, false)] := by
  unfold keyQ at h
  split at h
  · split at h
    · rename_i hk; simp only [Option.some.injEq] at h; subst h; exact ⟨_, by assumption, hk⟩
    · cases h
  · cases h
theorem eqOffs_spec {k : TypeId} {offs : List (Nat × Bool)} (h : eqOffs P k = some offs) : ∃ fs, P.underlying k = some (.struct fs) ∧ P.stoodInHeld k = false ∧ (fs.toList.all (fun f => f.name != "_" && okT P f.type) = true) ∧
    fs.toList.mapM (fun f => match P.underlying f.type with | some (.int _) => some (f.offset, false) | some .bool => some (f.offset, true) | _ => none) = some offs := by
  unfold eqOffs at h
  split at h
  · rename_i fs hU
    split at h
    · rename_i hc; exact ⟨fs, hU, hc.2.1, hc.2.2, h⟩
    · cases h
  · cases h
theorem pair_rep {C : Ctx} {w : World} (a b : Int) : ∀ (i : Nat) (u : Value) (c : AVal), (#[Value.int .i64 a, .int .i64 b])[i]? = some u → [AVal.int .i64 a, .int .i64 b][i]? = some c → RepV C w u c := by
  intro i u c h1 h2
  match i, h1, h2 with
  | 0, h1, h2 => simp at h1 h2; subst h1 h2; exact .int _ _
  | 1, h1, h2 => simp at h1 h2; subst h1 h2; exact .int _ _
  | i + 2, h1, h2 => simp at h2
theorem eqQ_run {w : World} {k : TypeId} (h : eqOffs P k = some [(0, false), (1, false)]) (a b c d : Int) :
    (Op.equal k (.agg #[.int .i64 a, .int .i64 b]) (.agg #[.int .i64 c, .int .i64 d])).run P w = .ok (decide (a = c) && (decide (b = d) && true)) w := by
  obtain ⟨fs, hU, c2, c3, c4⟩ := eqOffs_spec h
  have hU' : P.underlying k = some (.struct (P.fieldsOf k)) := by simp [Program.fieldsOf, hU]
  have hfs : P.fieldsOf k = fs := by simp [Program.fieldsOf, hU]
  have he := run_equalIn_struct (P := P) w 9999 k #[.int .i64 a, .int .i64 b] #[.int .i64 c, .int .i64 d] hU' c2
  have hr : aEqAt [.int .i64 a, .int .i64 b] [.int .i64 c, .int .i64 d] [(0, false), (1, false)] = some (decide (a = c) && (decide (b = d) && true)) := by simp [aEqAt]
  rw [hfs, eqFields_run (C := Ctx.imm fun _ => False) (pair_rep a b) rfl (pair_rep c d) rfl _ _ _ c3 c4 hr] at he
  exact he
theorem findQ {w : World} {k : TypeId} (h : eqOffs P k = some [(0, false), (1, false)]) {kv : Value} {n : Int} (hkv : KeyIs true kv n) (l : List MapEntry) (es : List (Int × AVal)) (hl : l.length = es.length)
    (hk : ∀ (j : Nat) (e : MapEntry) (p : Int × AVal), l[j]? = some e → es[j]? = some p → KeyIs true e.key p.1) :
    ∃ r, (Instr.findKey k kv l).run P w = .ok r w ∧
      ((alook es n = none ∧ r = none) ∨ ∃ j e v, alook es n = some v ∧ r = some (j, e.val) ∧ l[j]? = some e ∧ es[j]? = some (n, v) ∧ (∀ u, aset es n u = es.set j (n, u)) ∧ adel es n = es.eraseIdx j) := by
  obtain ⟨fs, hU, _⟩ := eqOffs_spec h
  rw [run_findKey_eq w (by rw [hU])]
  have key : ∀ (l : List MapEntry) (es : List (Int × AVal)) (i : Nat), l.length = es.length → (∀ (j : Nat) (e : MapEntry) (p : Int × AVal), l[j]? = some e → es[j]? = some p → KeyIs true e.key p.1) →
      ∃ r, (Instr.findAsking k kv l i).run P w = .ok r w ∧
      ((alook es n = none ∧ r = none) ∨ ∃ j e v, alook es n = some v ∧ r = some (i + j, e.val) ∧ l[j]? = some e ∧ es[j]? = some (n, v) ∧ (∀ u, aset es n u = es.set j (n, u)) ∧ adel es n = es.eraseIdx j) := by
    intro l
    induction l with
    | nil =>
      intro es i hl _
      match es, hl with
      | [], _ => exact ⟨none, rfl, .inl ⟨rfl, rfl⟩⟩
      | _ :: _, hl => simp at hl
    | cons e l ih =>
      intro es i hl hk
      match es, hl, hk with
      | [], hl, _ => simp at hl
      | (m, v) :: es, hl, hk =>
        have h0 := hk 0 e (m, v) rfl rfl
        obtain ⟨c, d, h1, h2⟩ := h0
        obtain ⟨a, b, h3, h4⟩ := hkv
        simp only at h2
        have heq := eqQ_run (w := w) h a b c d
        rw [Instr.findAsking, h1, h3]
        simp only [Sem.run_bind, heq, Result.andThen_ok]
        by_cases hmn : m = n
        · subst hmn
          obtain ⟨e1, e2⟩ := pk_inj (h4.symm.trans h2)
          subst e1 e2
          refine ⟨some (i, e.val), by simp, .inr ⟨0, e, v, by simp [alook], by simp, rfl, rfl, fun u => by simp [aset], by simp [adel]⟩⟩
        · have hne : (decide (a = c) && (decide (b = d) && true)) = false := by
            by_cases e1 : a = c <;> by_cases e2 : b = d <;> simp [e1, e2]
            exact hmn (by rw [h2, h4, e1, e2])
          obtain ⟨r, h5, h6⟩ := ih es (i + 1) (by simpa using hl) (fun j e p a b => hk (j + 1) e p a b)
          rw [hne, ← h3]
          refine ⟨r, by simpa using h5, ?_⟩
          rcases h6 with ⟨h6, h7⟩ | ⟨j, e', v', h6, h7, h8, h9, h10, h11⟩
          · exact .inl ⟨by simp [alook, hmn, h6], h7⟩
          · exact .inr ⟨j + 1, e', v', by simp [alook, hmn, h6], by rw [h7]; congr 2; omega, h8, h9, fun u => by simp [aset, hmn, h10], by simp [adel, hmn, h11]⟩
  obtain ⟨r, h1, h2⟩ := key l es 0 hl hk
  simp only [Nat.zero_add] at h2
  exact ⟨r, h1, h2⟩
theorem checkQ_run {w : World} {k : TypeId} (h : eqOffs P k = some [(0, false), (1, false)]) (em : Bool) (a b : Int) : (Instr.checkKey em 10000 k (.agg #[.int .i64 a, .int .i64 b])).run P w = .ok () w := by
  obtain ⟨fs, hU, _, c3, c4⟩ := eqOffs_spec h
  unfold Instr.checkKey
  simp only [Sem.run_bind, runU hU, Result.andThen_ok]
  rw [← Array.forIn_toList]
  have hoff : ∀ p ∈ [((0 : Nat), false), (1, false)], p.1 < 2 ∧ p.2 = false := by simp
  revert c3 c4 hoff
  generalize [((0 : Nat), false), (1, false)] = offs
  generalize fs.toList = l
  clear hU h
  intro c3 c4 hoff
  induction l generalizing offs with
  | nil => simp
  | cons f l ih =>
    simp only [List.all_cons, Bool.and_eq_true] at c3
    obtain ⟨⟨hn, hok⟩, c3⟩ := c3
    have hn' : f.name ≠ "_" := by simpa using hn
    simp only [List.mapM_cons, Option.bind_eq_bind, Option.pure_def] at c4
    cases hrest : l.mapM (fun f => match P.underlying f.type with | some (.int _) => some (f.offset, false) | some .bool => some (f.offset, true) | _ => (none : Option (Nat × Bool))) with
    | none => rw [hrest] at c4; split at c4 <;> simp at c4
    | some os =>
      rw [hrest] at c4
      split at c4
      · rename_i k' hU
        simp only [Option.bind_some, Option.some.injEq] at c4
        subst c4
        have h0 := (hoff (f.offset, false) (by simp)).1
        have ih := ih os c3 hrest fun p hp => hoff p (List.mem_cons_of_mem _ hp)
        have hagg : aggT P f.type = false := by simp [aggT, hU]
        obtain ⟨v, hv, hiv⟩ : ∃ v, (#[Value.int .i64 a, .int .i64 b])[f.offset]? = some v ∧ ∃ x, v = .int .i64 x := by
          match hf : f.offset, h0 with
          | 0, _ => exact ⟨_, rfl, _, rfl⟩
          | 1, _ => exact ⟨_, rfl, _, rfl⟩
          | m + 2, h0 => exact absurd h0 (by omega)
        obtain ⟨x, rfl⟩ := hiv
        simp only [List.forIn_cons, Sem.run_bind, hn', ne_eq, not_false_eq_true, if_true, part_run hok hagg hv, Result.andThen_ok]
        have hc : (Instr.checkKey em 9999 f.type (.int .i64 x)).run P w = .ok () w := by unfold Instr.checkKey; simp [runU hU]
        simpa [hc] using ih
      · rename_i hU
        simp only [Option.bind_some, Option.some.injEq] at c4
        subst c4
        have := (hoff (f.offset, true) (by simp)).2
        cases this
      · simp at c4
theorem pairV {C : Ctx} {w : World} {v : Value} {a b : Int} (h : RepV C w v (.agg [.int .i64 a, .int .i64 b])) : v = .agg #[.int .i64 a, .int .i64 b] := by
  cases h with
  | agg arr _ hs hc =>
    obtain ⟨l⟩ := arr
    match l, hs, hc with
    | [x, y], _, hc =>
      have h0 := hc 0 x _ rfl rfl
      have h1 := hc 1 y _ rfl rfl
      cases h0; cases h1; rfl
theorem setMapQ {W0 : World} {C : Ctx} {w : World} (I : Inv W0 C w) {r : Nat} {es es' : List (Int × AVal)} {l : Loc} (hr : C.H[r]? = some (.mpo true es)) (hl : C.ρ r = some l) (en' : Array MapEntry) (cl' : Nat)
    (hwf : MapWf true en' cl' es') (hrep : ∀ (i : Nat) (e : MapEntry) (p : Int × AVal), en'[i]? = some e → es'[i]? = some p → RepV C w e.val p.2) :
    Inv W0 (C.set r (.mpo true es')) { w with heap := w.heap.setIfInBounds l.b (.map en' cl') } ∧ Mono C w (C.set r (.mpo true es')) { w with heap := w.heap.setIfInBounds l.b (.map en' cl') } := by
  have hs := I.sep r l hl
  refine I.put hr hl (fun b hb => ?_) (by simp) (below_heap I.below hs.2.1 _) ?_ (fun m => ⟨l, en', cl', hl, ?_, hwf, fun i e p a b => (hrep i e p a b).mono m⟩)
  · show (w.heap.setIfInBounds l.b _)[b]? = _
    rw [Array.getElem?_setIfInBounds_ne (fun h => hb h.symm)]
  · unfold ObjMono
    simp only [Ctx.set, List.getElem?_set_self hs.1]
    exact ⟨⟨_, hr, rfl⟩, trivial⟩
  · show (w.heap.setIfInBounds l.b _)[l.b]? = _
    rw [Array.getElem?_setIfInBounds_self, if_pos hs.2.2.1]

theorem mapUpdQ_core {W0 : World} {C : Ctx} {w : World} (I : Inv W0 C w) {T : TypeId} {x i v : Value} {r : Nat} {a0 b0 : Int} {e : TypeId} {av : AVal} {K : AVal → Eff → Prop} {es : List (Int × AVal)} (hx : RepV C w x (.map r)) (hi : RepV C w i (.agg [.int .i64 a0, .int .i64 b0])) (hv : RepV C w v av)
    (hT : keyQ P T = some e) (hr : C.H[r]? = some (.mpo true es)) (hk : K (.tuple []) (.set r (.mpo true (aset es (pk a0 b0) av)))) : Did W0 C w ((Instr.mapUpdate T x i v).run P w) K := by
  obtain rfl := pairV hi
  generalize hkv : Value.agg #[.int .i64 a0, .int .i64 b0] = kv
  generalize hn : pk a0 b0 = n at hk
  have hKI : KeyIs true kv n := ⟨a0, b0, hkv.symm, hn.symm⟩
  obtain ⟨k, hU, hk'⟩ := keyQ_spec hT
  cases hx with
  | map b _ hlt hh =>
    obtain ⟨l, hl, rfl⟩ := hh _ hr rfl
    obtain ⟨l', en, cl, h1, h2, hwf, hrep⟩ := I.objs r _ hr
    rw [hl, Option.some.injEq] at h1
    subst h1
    obtain ⟨rr, hf', hcase⟩ := findQ (P := P) (w := w) hk' hKI en.toList es (by simpa using hwf.size) (fun j e p a b => hwf.keys j e p (by simpa using a) b)
    have hc : (Instr.checkKey false 10000 k kv).run P w = .ok () w := by subst hkv; exact checkQ_run hk' false a0 b0
    have hset : ∀ en' cl', (setObj l.b (.map en' cl')).run P w = .ok () { w with heap := w.heap.setIfInBounds l.b (.map en' cl') } := by
      intro en' cl'; simp [setObj, Sem.run, h2]
    rcases hcase with ⟨h3, rfl⟩ | ⟨j, e', v', h3, rfl, h4, h5, h6, _⟩
    · have key := setMapQ I (es' := aset es n av) hr hl (en.push { key := kv, val := v, born := cl }) (cl + 1) (by
        rw [aset_none h3]
        refine ⟨by simp [hwf.size], fun i e p a b => ?_, ?_, fun e he => ?_, ?_⟩
        · by_cases hi : i < es.length
          · rw [List.getElem?_append_left hi] at b
            rw [Array.getElem?_push_lt (by rw [hwf.size]; exact hi)] at a
            refine hwf.keys i e p ?_ b
            rw [Array.getElem?_eq_getElem (by rw [hwf.size]; exact hi)]; exact a
          · have hi' : i = es.length := by have := getD_opt b; simp at this; omega
            subst hi'
            simp only [List.getElem?_concat_length, Option.some.injEq] at b
            rw [← hwf.size, Array.getElem?_push_size, Option.some.injEq] at a
            subst a b; exact hKI
        · rw [List.map_append, List.map_cons, List.map_nil]
          refine List.nodup_append.2 ⟨hwf.nodup, by simp, fun a ha b hb => ?_⟩
          simp at hb; subst hb
          exact fun e => alook_none_keys h3 (e ▸ ha)
        · simp only [Array.toList_push, List.mem_append, List.mem_singleton] at he
          rcases he with he | rfl
          · have := hwf.born e he; omega
          · exact Nat.lt_succ_self _
        · rw [Array.toList_push, List.map_append, List.map_cons, List.map_nil]
          refine List.nodup_append.2 ⟨hwf.bnodup, by simp, fun a ha b hb => ?_⟩
          simp only [List.mem_singleton] at hb; subst hb
          obtain ⟨e, he, rfl⟩ := List.mem_map.1 ha
          have := hwf.born e he
          omega)
        (by
          rw [aset_none h3]
          intro i e p a b
          by_cases hi : i < es.length
          · rw [List.getElem?_append_left hi] at b
            rw [Array.getElem?_push_lt (by rw [hwf.size]; exact hi)] at a
            refine hrep i e p ?_ b
            rw [Array.getElem?_eq_getElem (by rw [hwf.size]; exact hi)]; exact a
          · have hi' : i = es.length := by have := getD_opt b; simp at this; omega
            subst hi'
            simp only [List.getElem?_concat_length, Option.some.injEq] at b
            rw [← hwf.size, Array.getElem?_push_size, Option.some.injEq] at a
            subst a b; exact hv)
      refine ⟨_, _, _, ?_, hk, rfl, key.1, key.2⟩
      rw [← hset]
      simp [Instr.mapUpdate, runU hU, getObj, Sem.run, h2, hc, hf']
    · have hj : j < en.size := by have := getD_opt h4; simpa using this
      have hjs : j < es.length := by rw [← hwf.size]; exact hj
      have e'k : e'.key = kv := KeyIs.unique (hwf.keys j e' _ (by simpa using h4) h5) hKI
      have hen : en[j]? = some e' := by simpa using h4
      have hsame : Instr.sameBits 10000 kv kv = true := by subst hkv; simp [Instr.sameBits]
      have hmod : ∀ (i : Nat) (e : MapEntry), (en.modify j fun e => { e with key := kv, val := v })[i]? = some e → (i = j ∧ e = { e' with key := kv, val := v }) ∨ (i ≠ j ∧ en[i]? = some e) := by
        intro i e h
        rw [Array.getElem?_modify] at h
        split at h
        · rename_i hij
          subst hij
          rw [hen] at h
          simp only [Option.map_some, Option.some.injEq] at h
          exact .inl ⟨rfl, h.symm⟩
        · rename_i hij
          exact .inr ⟨fun h => hij h.symm, h⟩
      have hborn : (en.modify j fun e => { e with key := kv, val := v }).toList.map (·.born) = en.toList.map (·.born) := by
        apply List.ext_getElem?
        intro i
        simp only [List.getElem?_map, Array.getElem?_toList, Array.getElem?_modify]
        split
        · rename_i h; subst h; rw [hen]; rfl
        · rfl
      have hpairs : ∀ (i : Nat) (p : Int × AVal), (es.set j (n, av))[i]? = some p → (i = j ∧ p = (n, av)) ∨ (i ≠ j ∧ es[i]? = some p) := by
        intro i p h
        by_cases e : j = i
        · subst e; rw [List.getElem?_set_self hjs, Option.some.injEq] at h; exact .inl ⟨rfl, h.symm⟩
        · rw [List.getElem?_set_ne e] at h; exact .inr ⟨fun h => e h.symm, h⟩
      have key := setMapQ I (es' := aset es n av) hr hl (en.modify j fun e => { e with key := kv, val := v }) cl (by
        rw [h6]
        refine ⟨by simp [hwf.size], fun i e p a b => ?_, ?_, fun e he => ?_, by rw [hborn]; exact hwf.bnodup⟩
        · rcases hmod i e a with ⟨rfl, rfl⟩ | ⟨hne, a⟩
          · rcases hpairs _ _ b with ⟨_, rfl⟩ | ⟨hn, _⟩
            · exact hKI
            · exact absurd rfl hn
          · rcases hpairs _ _ b with ⟨he, _⟩ | ⟨_, b⟩
            · exact absurd he hne
            · exact hwf.keys i e p a b
        · have : (es.set j (n, av)).map (·.1) = es.map (·.1) := by
            apply List.ext_getElem?
            intro i
            simp only [List.getElem?_map]
            by_cases e : j = i
            · subst e; rw [List.getElem?_set_self hjs, h5]; rfl
            · rw [List.getElem?_set_ne e]
          rw [this]; exact hwf.nodup
        · have : e.born ∈ (en.modify j fun e => { e with key := kv, val := v }).toList.map (·.born) := List.mem_map.2 ⟨e, he, rfl⟩
          rw [hborn] at this
          obtain ⟨e2, he2, hb2⟩ := List.mem_map.1 this
          rw [← hb2]; exact hwf.born e2 he2)
        (by
          rw [h6]
          intro i e p a b
          rcases hmod i e a with ⟨rfl, rfl⟩ | ⟨hne, a⟩
          · rcases hpairs _ _ b with ⟨_, rfl⟩ | ⟨hn, _⟩
            · exact hv
            · exact absurd rfl hn
          · rcases hpairs _ _ b with ⟨he, _⟩ | ⟨_, b⟩
            · exact absurd he hne
            · exact hrep i e p a b)
      refine ⟨_, _, _, ?_, hk, rfl, key.1, key.2⟩
      rw [← hset]
      simp [Instr.mapUpdate, runU hU, getObj, Sem.run, h2, hc, hf', hen, e'k, Instr.keyThatStays, hsame]


theorem lookupQ_sound {W0 : World} {C : Ctx} {w : World} (I : Inv W0 C w) {T : TypeId} {x i : Value} {r : Nat} {a b : Int} {e : TypeId} {es : List (Int × AVal)} {ok : Bool} {K : AVal → Prop} (hx : RepV C w x (.map r)) (hi : RepV C w i (.agg [.int .i64 a, .int .i64 b]))
    (hT : keyQ P T = some e) (hr : C.H[r]? = some (.mpo true es)) (hz : (zeroV P e).isSome = true) (o : Bool) (h : ALook es (pk a b) (zLook P e o) (lookK ok K)) : Quiet C w ((Instr.lookup T x i ok).run P w) K := by
  obtain rfl := pairV hi
  obtain ⟨z, hz⟩ := Option.isSome_iff_exists.1 hz
  obtain ⟨k, hU, hk⟩ := keyQ_spec hT
  have hzr := zLook_rep (P := P) C w hz o
  have fin : ∀ (v : Value) (a : AVal) (b : Bool), RepV C w v a → K (if ok then .tuple [a, .bool b] else a) → Quiet C w (.ok (if ok then .tuple #[v, .bool b] else v) w) K := by
    intro v a b hv hK
    cases ok with
    | true =>
      refine .mk' rfl (.tuple _ _ rfl fun i u c h1 h2 => ?_) hK
      match i, h1, h2 with
      | 0, h1, h2 => simp at h1 h2; subst h1 h2; exact hv
      | 1, h1, h2 => simp at h1 h2; subst h1 h2; exact .bool b
      | i + 2, h1, h2 => simp at h2
    | false => exact .mk' rfl hv hK
  cases hx with
  | map m _ hlt hh =>
    obtain ⟨l, hl, rfl⟩ := hh _ hr rfl
    obtain ⟨l', en, cl, h1, hb, hwf, hrep⟩ := I.objs r _ hr
    rw [hl, Option.some.injEq] at h1
    subst h1
    obtain ⟨r', hf, hcase⟩ := findQ (P := P) (w := w) hk (⟨a, b, rfl, rfl⟩ : KeyIs true (.agg #[.int .i64 a, .int .i64 b]) (pk a b)) en.toList es (by simpa using hwf.size) (fun j e p a b => hwf.keys j e p (by simpa using a) b)
    have hc := checkQ_run (P := P) (w := w) hk en.isEmpty a b
    rcases hcase with ⟨h3, rfl⟩ | ⟨j, e', v, h3, rfl, h4, h5, _, _⟩
    · have := fin z _ false hzr (h.2 h3)
      have hrun : (Instr.lookup T (.map (some l.b)) (.agg #[.int .i64 a, .int .i64 b]) ok).run P w = .ok (if ok then .tuple #[z, .bool false] else z) w := by
        simp [Instr.lookup, runU hU, getObj, Sem.run, hb, hc, hf, zeroV_run hz]
      rw [hrun]; exact this
    · have := fin e'.val _ true (hrep j e' _ (by simpa using h4) h5) (h.1 _ h3)
      have hrun : (Instr.lookup T (.map (some l.b)) (.agg #[.int .i64 a, .int .i64 b]) ok).run P w = .ok (if ok then .tuple #[e'.val, .bool true] else e'.val) w := by
        simp [Instr.lookup, runU hU, getObj, Sem.run, hb, hc, hf]
      rw [hrun]; exact this

/-- One operation, by what it does. -/
theorem ALP.op1 {n : Nat} {outer : List Fr} {all rest : List Oper} {Q : Exit → Fr → List AObj → Prop} {fr : Fr} {H : List AObj} {dst : Option Tmp} {op : Op} {type : TypeId} {pos : String} {after : Array Edge} (hd : (match dst with | some d => Nat.blt d n | none => true) = true) (hnd : ∀ c, op ≠ .defer c)
    (h : ∀ (W0 : World) (C : Ctx) (w : World) (ρ : Operand → Value), Inv W0 C w → C.H = H → (∀ x, RepV C w (ρ x) (ev fr x)) → OpDone W0 C w ((execOp ρ { dst, op, type, pos, after, guard := none }).run P w) (fun v ef => ALP md P n outer all rest Q (put fr dst v) (ef.app H))) :
    ALP md P n outer all ({ dst, op, type, pos, after, guard := none } :: rest) Q fr H := by
  intro W0 A0 ds outs a w R
  obtain ⟨C, rfl, rfl, I, hF, hO, hn, hdf⟩ := R.ex
  have hlt : ∀ k, dst = some k → k < a.tmps.size := by
    intro k hk
    subst hk
    rw [hn]
    simpa using hd
  have srep : ∀ (C' : Ctx) (w' : World) (v : Value) (r : AVal), C'.A0 = C.A0 → Inv W0 C' w' → RepF C' w' a.tmps fr → RepOuts C' w' outs outer → RepV C' w' v r → SRep W0 C.A0 ds n outs outer (put fr dst r) C'.H (a.put dst v) w' :=
    fun C' w' v r e I' hF' hO' hv => ⟨C', rfl, e, I', hF'.put hv dst hlt, hO', by rw [put_size, hn], by rw [put_defers, hdf]⟩
  unfold wpListIn
  rw [if_pos (by simp [Region.wanted])]
  unfold Oper.wpIn
  refine ⟨fun _ _ => trivial, ?_⟩
  rw [Oper.semAt_eq _ _ _ hnd]
  obtain ⟨r, w', C', ef, hres, hk, hH, I', m⟩ := (h W0 C w a.eval I rfl (ev_rep hF)).ex
  rw [← hH] at hk
  rcases hres with ⟨v, hrun, hv⟩ | ⟨hrun, rfl⟩
  · rw [hrun, Oper.uponIn_value]
    exact hk W0 C.A0 ds outs _ w' (srep C' w' v r m.A0 I' (hF.mono m) (hO.mono m) hv)
  · rw [hrun, Oper.uponIn_skip]
    exact hk W0 C.A0 ds outs _ w' (srep C' w' undef _ m.A0 I' (hF.mono m) (hO.mono m) (undef_rep C' w'))

theorem ALP.lookQ {n : Nat} {outer : List Fr} {all rest : List Oper} {Q : Exit → Fr → List AObj → Prop} {fr : Fr} {H : List AObj} {dst : Option Tmp} {T : TypeId} {x i : Operand} {ok : Bool} {type : TypeId} {pos : String} {after : Array Edge}
    {r : Nat} {a b : Int} {e : TypeId} {es : List (Int × AVal)} (hd : (match dst with | some d => Nat.blt d n | none => true) = true) (hx : ev fr x = .map r) (hi : ev fr i = .agg [.int .i64 a, .int .i64 b])
    (hT : keyQ P T = some e) (hr : H[r]? = some (.mpo true es)) (hz : (zeroV P e).isSome = true) (h : ALook es (pk a b) (azero P e) (lookK ok fun v => ALP md P n outer all rest Q (put fr dst v) H)) :
    ALP md P n outer all ({ dst, op := .lookup T x i ok, type, pos, after, guard := none } :: rest) Q fr H := by
  refine ALP.op1 hd (by simp) fun W0 C w ρ I hH he => ?_
  subst hH
  have hx' := he x
  have hi' := he i
  rw [hx] at hx'; rw [hi] at hi'
  unfold execOp
  exact .ofQuiet I (lookupQ_sound I hx' hi' hT hr hz true h)
theorem ALP.lookQz {n : Nat} {outer : List Fr} {all rest : List Oper} {Q : Exit → Fr → List AObj → Prop} {fr : Fr} {H : List AObj} {dst : Option Tmp} {T : TypeId} {x i : Operand} {ok : Bool} {type : TypeId} {pos : String} {after : Array Edge}
    {r : Nat} {a b : Int} {e : TypeId} {es : List (Int × AVal)} (hd : (match dst with | some d => Nat.blt d n | none => true) = true) (hx : ev fr x = .map r) (hi : ev fr i = .agg [.int .i64 a, .int .i64 b])
    (hT : keyQ P T = some e) (hr : H[r]? = some (.mpo true es)) (hz : (zeroV P e).isSome = true) (h : ALook es (pk a b) (zLook P e false) (lookK ok fun v => ALP md P n outer all rest Q (put fr dst v) H)) :
    ALP md P n outer all ({ dst, op := .lookup T x i ok, type, pos, after, guard := none } :: rest) Q fr H := by
  refine ALP.op1 hd (by simp) fun W0 C w ρ I hH he => ?_
  subst hH
  have hx' := he x
  have hi' := he i
  rw [hx] at hx'; rw [hi] at hi'
  unfold execOp
  exact .ofQuiet I (lookupQ_sound I hx' hi' hT hr hz false h)
theorem ALP.updQ {n : Nat} {outer : List Fr} {all rest : List Oper} {Q : Exit → Fr → List AObj → Prop} {fr : Fr} {H : List AObj} {dst : Option Tmp} {T : TypeId} {x i v : Operand} {type : TypeId} {pos : String} {after : Array Edge}
    {r : Nat} {a b : Int} {e : TypeId} {es : List (Int × AVal)} {av : AVal} (hd : (match dst with | some d => Nat.blt d n | none => true) = true) (hx : ev fr x = .map r) (hi : ev fr i = .agg [.int .i64 a, .int .i64 b]) (hv : ev fr v = av)
    (hT : keyQ P T = some e) (hr : H[r]? = some (.mpo true es)) (h : ALP md P n outer all rest Q (put fr dst (.tuple [])) (H.set r (.mpo true (aset es (pk a b) av)))) :
    ALP md P n outer all ({ dst, op := .mapUpdate T x i v, type, pos, after, guard := none } :: rest) Q fr H := by
  refine ALP.op1 hd (by simp) fun W0 C w ρ I hH he => ?_
  subst hH
  have hx' := he x
  have hi' := he i
  have hv' := he v
  rw [hx] at hx'; rw [hi] at hi'; rw [hv] at hv'
  unfold execOp
  exact .ofDid (mapUpdQ_core I hx' hi' hv' hT hr h)
/-- A new map, told as one whose keys are structs. -/
theorem Sub.toQ {outer : List Fr} {fr : Fr} {H : List AObj} (r : Nat) (hr : H[r]? = some (.mp [])) : Sub outer fr H fr (H.set r (.mpo true [])) := by
  intro W0 A0 ds n outs a w R
  obtain ⟨C, rfl, rfl, I, hF, hO, hn, hd⟩ := R.ex
  obtain ⟨l, en, cl, e1, e2, e3, e4, e5⟩ := I.objs r _ hr
  have hlt : r < C.H.length := (List.getElem?_eq_some_iff.1 hr).1
  have key := I.put hr e1 (w' := w) (o' := .mpo true []) (fun _ _ => rfl) rfl I.below (by
    unfold ObjMono
    simp only [Ctx.set, List.getElem?_set_self hlt]
    exact ⟨⟨_, hr, rfl⟩, trivial⟩) fun m => ⟨l, en, cl, e1, e2, ⟨e3.size, by simp, e3.nodup, e3.born, e3.bnodup⟩, by simp⟩
  exact ⟨C.set r (.mpo true []), rfl, rfl, key.1, fun t => (hF t).mono key.2, hO.mono key.2, hn, hd⟩

/-- An operation that would go through without the object r leaves its block alone. -/
theorem step_keeps {W0 : World} {C : Ctx} {w : World} (I : Inv W0 C w) {o : Oper} {ρ : Operand → Value} {e : Operand → AVal} {r : Nat} {l : Loc} (hl : C.ρ r = some l) (he : ∀ x, RepV C w (ρ x) (e x)) {K : AVal → Eff → Prop}
    (h : astep P o.op e C.H C.H.length K) (h' : astep P o.op e (C.H.set r .gone) (C.H.set r .gone).length (fun _ _ => True)) :
    ∃ a w' C' ef, ((∃ v, (execOp ρ o).run P w = .ok (.value v) w' ∧ RepV C' w' v a) ∨ ((execOp ρ o).run P w = .ok .skip w' ∧ a = .tuple [])) ∧ K a ef ∧ C'.H = ef.app C.H ∧ Inv W0 C' w' ∧ Mono C w C' w' ∧ w'.heap[l.b]? = w.heap[l.b]? := by
  obtain ⟨a, w', C', ef, h1, h2, h3, h4, h5⟩ := (astep_sound (P := P) I (.inl rfl) he h).ex
  have key := I.freeze r
  obtain ⟨a2, w2, C2, ef2, g1, _, _, _, g5⟩ := (astep_sound (P := P) (o := o) (K := fun _ _ => True) key.1 (.inl rfl) (fun x => (he x).mono key.2) h').ex
  have hw : w2 = w' := by
    rcases h1 with ⟨v, h1, _⟩ | ⟨h1, _⟩ <;> rcases g1 with ⟨v2, g1, _⟩ | ⟨g1, _⟩ <;> rw [h1] at g1 <;> simp at g1 <;> first | exact g1.2.symm | exact g1.symm
  subst hw
  exact ⟨a, _, C', ef, h1, h2, h3, h4, h5, (g5.imm l.b (.inr ⟨l, hl, rfl⟩)).2⟩

/-- the entry of a key, found by its stamp -/
structure Stp (en : Array MapEntry) (kv : Value) (st : Nat) (j : Nat) (e' : MapEntry) : Prop where
  at_ : en[j]? = some e'
  key : e'.key = kv
  born : e'.born = st
  find : en.findIdx? (fun e => (e.born : Int) == (st : Int)) = some j

theorem stp_find {en : Array MapEntry} {j : Nat} {e' : MapEntry} (h : en[j]? = some e') (hb : (en.toList.map (·.born)).Nodup) : en.findIdx? (fun e => (e.born : Int) == (e'.born : Int)) = some j := by
  obtain ⟨hj, rfl⟩ := Array.getElem?_eq_some_iff.1 h
  rw [Array.findIdx?_eq_some_iff_getElem]
  refine ⟨hj, by simp, fun i hi => ?_⟩
  have hne : en[i].born ≠ en[j].born := by
    have := List.pairwise_iff_getElem.1 hb i j (by simp; omega) (by simpa using hj) hi
    simpa using this
  simp; omega

theorem storeQ_run {w : World} {T e k : TypeId} {b : Nat} {en : Array MapEntry} {cl : Nat} {es : List (Int × AVal)} {a0 b0 : Int} {st j : Nat} {e' : MapEntry} {v : Value} (hU : P.underlying T = some (.map k e)) (hk : eqOffs P k = some [(0, false), (1, false)])
    (hb : w.heap[b]? = some (.map en cl)) (hwf : MapWf true en cl es) (hs : Stp en (.agg #[.int .i64 a0, .int .i64 b0]) st j e') :
    (Instr.entryStore T (.map (some b)) (.int .i64 st) v).run P w = (Instr.mapUpdate T (.map (some b)) (.agg #[.int .i64 a0, .int .i64 b0]) v).run P w := by
  generalize hkv : Value.agg #[.int .i64 a0, .int .i64 b0] = kv at hs
  have hKI : KeyIs true kv (pk a0 b0) := ⟨a0, b0, hkv.symm, rfl⟩
  have hc : (Instr.checkKey false 10000 k kv).run P w = .ok () w := by subst hkv; exact checkQ_run hk false a0 b0
  obtain ⟨rr, hf, hcase⟩ := findQ (P := P) (w := w) hk hKI en.toList es (by simpa using hwf.size) (fun j e p a b => hwf.keys j e p (by simpa using a) b)
  have hj : j < en.size := (Array.getElem?_eq_some_iff.1 hs.at_).1
  have hjs : j < es.length := by rw [← hwf.size]; exact hj
  have hej : es[j]? = some es[j] := List.getElem?_eq_getElem hjs
  have hkj : es[j].1 = pk a0 b0 := by
    obtain ⟨c, d, h1, h2⟩ := hwf.keys j e' _ hs.at_ hej
    rw [hs.key, ← hkv] at h1
    simp at h1
    rw [h2, h1.1, h1.2]
  rcases hcase with ⟨h3, rfl⟩ | ⟨j', e2, v', h3, rfl, h4, h5, _, _⟩
  · exfalso
    exact alook_none_keys h3 (List.mem_map.2 ⟨es[j], List.mem_of_getElem? hej, hkj⟩)
  · have hjj : j' = j := by
      have h6 : j' < es.length := (List.getElem?_eq_some_iff.1 h5).1
      have h7 : (es.map (·.1))[j']'(by simpa using h6) = (es.map (·.1))[j]'(by simpa using hjs) := by
        simp only [List.getElem_map]
        have := (List.getElem?_eq_some_iff.1 h5).2
        rw [this, hkj]
      refine Classical.byContradiction fun hne => ?_
      rcases Nat.lt_or_gt_of_ne hne with hlt | hlt
      · exact (List.pairwise_iff_getElem.1 hwf.nodup) j' j _ _ hlt h7
      · exact (List.pairwise_iff_getElem.1 hwf.nodup) j j' _ _ hlt h7.symm
    subst hjj
    have he2 : e2 = e' := by
      have h8 : en[j']? = some e2 := by simpa using h4
      rw [hs.at_] at h8; exact (Option.some.inj h8).symm
    subst he2
    have hsame : Instr.sameBits 10000 kv kv = true := by subst hkv; simp [Instr.sameBits]
    have hmod : (en.modify j' fun e => { e with key := kv, val := v }) = en.modify j' fun e => { e with val := v } := by
      apply Array.ext_getElem?
      intro i
      simp only [Array.getElem?_modify]
      split
      · rename_i hi; subst hi
        rw [hs.at_]; simp only [Option.map_some]
        rw [← hs.key]
      · rfl
    have hset : ∀ en', (setObj b (.map en' cl)).run P w = .ok () { w with heap := w.heap.setIfInBounds b (.map en' cl) } := by
      intro en'; simp [setObj, Sem.run, hb]
    have r1 : (Instr.mapUpdate T (.map (some b)) kv v).run P w = .ok () { w with heap := w.heap.setIfInBounds b (.map (en.modify j' fun e => { e with key := kv, val := v }) cl) } := by
      rw [← hset]
      simp [Instr.mapUpdate, runU hU, getObj, Sem.run, hb, hc, hf, hs.at_, hs.key, Instr.keyThatStays, hsame]
    rw [r1, hmod, ← hset]
    simp [Instr.entryStore, getObj, Sem.run, hb, asInt, asIntOf, hs.find]

theorem entryQ {W0 : World} {C : Ctx} {w : World} (I : Inv W0 C w) {T e : TypeId} {x i : Value} {r : Nat} {a0 b0 : Int} {es : List (Int × AVal)} (hx : RepV C w x (.map r)) (hi : RepV C w i (.agg [.int .i64 a0, .int .i64 b0]))
    (hT : keyQ P T = some e) (hr : C.H[r]? = some (.mpo true es)) (hz : (zeroV P e).isSome = true) :
    ∃ (l : Loc) (v0 : Value) (av : AVal) (st : Nat) (w1 : World) (C1 : Ctx) (en1 : Array MapEntry) (cl1 j : Nat) (e1 : MapEntry), x = .map (some l.b) ∧ i = .agg #[.int .i64 a0, .int .i64 b0] ∧
      (Instr.mapEntry T x i).run P w = .ok (.tuple #[v0, .int .i64 st]) w1 ∧ RepV C1 w1 v0 av ∧ (alook es (pk a0 b0) = some av ∨ (alook es (pk a0 b0) = none ∧ av = azero P e)) ∧
      C1.H = C.H.set r (.mpo true (aset es (pk a0 b0) av)) ∧ Inv W0 C1 w1 ∧ Mono C w C1 w1 ∧ C1.ρ r = some l ∧ w1.heap[l.b]? = some (.map en1 cl1) ∧ MapWf true en1 cl1 (aset es (pk a0 b0) av) ∧ Stp en1 (.agg #[.int .i64 a0, .int .i64 b0]) st j e1 := by
  have hik := pairV hi
  obtain ⟨z, hz⟩ := Option.isSome_iff_exists.1 hz
  obtain ⟨k, hU, hk⟩ := keyQ_spec hT
  have hzr := azero_rep (P := P) C w hz
  cases hx with
  | map m _ hlt hh =>
    obtain ⟨l, hl, rfl⟩ := hh _ hr rfl
    obtain ⟨l', en, cl, h1, hb, hwf, hrep⟩ := I.objs r _ hr
    rw [hl, Option.some.injEq] at h1
    subst h1
    have hKI : KeyIs true (.agg #[.int .i64 a0, .int .i64 b0]) (pk a0 b0) := ⟨a0, b0, rfl, rfl⟩
    obtain ⟨rr, hf, hcase⟩ := findQ (P := P) (w := w) hk hKI en.toList es (by simpa using hwf.size) (fun j e p a b => hwf.keys j e p (by simpa using a) b)
    have hc := checkQ_run (P := P) (w := w) hk false a0 b0
    have hset : ∀ en' cl', (setObj l.b (.map en' cl')).run P w = .ok () { w with heap := w.heap.setIfInBounds l.b (.map en' cl') } := by
      intro en' cl'; simp [setObj, Sem.run, hb]
    have hsame : Instr.sameBits 10000 (.agg #[.int .i64 a0, .int .i64 b0]) (.agg #[.int .i64 a0, .int .i64 b0]) = true := by simp [Instr.sameBits]
    have hlb : l.b < w.heap.size := (I.sep r l hl).2.2.1
    -- what an update leaves
    have upd : ∀ (v0 : Value) (av : AVal) (en1 : Array MapEntry) (cl1 : Nat), RepV C w v0 av → (Instr.mapUpdate T (.map (some l.b)) (.agg #[.int .i64 a0, .int .i64 b0]) v0).run P w = .ok () { w with heap := w.heap.setIfInBounds l.b (.map en1 cl1) } →
        ∃ C1 : Ctx, C1.H = C.H.set r (.mpo true (aset es (pk a0 b0) av)) ∧ Inv W0 C1 { w with heap := w.heap.setIfInBounds l.b (.map en1 cl1) } ∧ Mono C w C1 { w with heap := w.heap.setIfInBounds l.b (.map en1 cl1) } ∧ C1.ρ r = some l ∧ MapWf true en1 cl1 (aset es (pk a0 b0) av) := by
      intro v0 av en1 cl1 hv hrun
      obtain ⟨w1, C1, ef, g1, g2, g3, g4, g5⟩ := (mapUpdQ_core (P := P) (K := fun _ ef => ef = .set r (.mpo true (aset es (pk a0 b0) av))) I (.map l.b r hlt hh) hi hv hT hr rfl).ex
      rw [hik, hrun] at g1
      simp only [Result.ok.injEq, true_and] at g1
      subst g1
      subst g2
      have hH : C1.H = C.H.set r (.mpo true (aset es (pk a0 b0) av)) := g3
      have hget : C1.H[r]? = some (.mpo true (aset es (pk a0 b0) av)) := by rw [hH]; exact List.getElem?_set_self (List.getElem?_eq_some_iff.1 hr).1
      have hm := g5.obj r ⟨_, hr, by simp⟩
      unfold ObjMono at hm
      rw [hget] at hm
      obtain ⟨l2, en2, cl2, k1, k2, k3, _⟩ := g4.objs r _ hget
      rw [hm.2, hl, Option.some.injEq] at k1
      subst k1
      have hb1 : (w.heap.setIfInBounds l.b (.map en1 cl1))[l.b]? = some (.map en1 cl1) := by rw [Array.getElem?_setIfInBounds_self, if_pos hlb]
      have k2' : (w.heap.setIfInBounds l.b (.map en1 cl1))[l.b]? = some (.map en2 cl2) := k2
      rw [hb1] at k2'
      simp only [Option.some.injEq, Obj.map.injEq] at k2'
      obtain ⟨rfl, rfl⟩ := k2'
      exact ⟨C1, hH, g4, g5, by rw [hm.2, hl], k3⟩
    have hb1 : ∀ en1 cl1, (w.heap.setIfInBounds l.b (.map en1 cl1))[l.b]? = some (.map en1 cl1) := fun _ _ => by rw [Array.getElem?_setIfInBounds_self, if_pos hlb]
    rcases hcase with ⟨h3, rfl⟩ | ⟨j, e', v, h3, rfl, h4, h5, _, _⟩
    · have r1 : (Instr.mapUpdate T (.map (some l.b)) (.agg #[.int .i64 a0, .int .i64 b0]) z).run P w = .ok () { w with heap := w.heap.setIfInBounds l.b (.map (en.push { key := .agg #[.int .i64 a0, .int .i64 b0], val := z, born := cl }) (cl + 1)) } := by
        rw [← hset]
        simp [Instr.mapUpdate, runU hU, getObj, Sem.run, hb, hc, hf]
      obtain ⟨C1, g1, g2, g3, g4, g5⟩ := upd z _ _ _ hzr r1
      refine ⟨l, z, azero P e, cl, _, C1, _, _, en.size, _, rfl, hik, ?_, hzr.mono g3, .inr ⟨h3, rfl⟩, g1, g2, g3, g4, hb1 _ _, g5, ⟨Array.getElem?_push_size, rfl, rfl, stp_find Array.getElem?_push_size g5.bnodup⟩⟩
      rw [hik]
      have := hset (en.push { key := .agg #[.int .i64 a0, .int .i64 b0], val := z, born := cl }) (cl + 1)
      simp [Instr.mapEntry, runU hU, getObj, Sem.run, hb, hc, hf, zeroV_run hz, this, goInt]
    · have hen : en[j]? = some e' := by simpa using h4
      have e'k : e'.key = .agg #[.int .i64 a0, .int .i64 b0] := KeyIs.unique (hwf.keys j e' _ hen h5) hKI
      have hv := hrep j e' _ hen h5
      have hmod : (en.modify j fun e => { e with key := .agg #[.int .i64 a0, .int .i64 b0], val := e'.val }) = en.modify j fun e => { e with key := .agg #[.int .i64 a0, .int .i64 b0] } := by
        apply Array.ext_getElem?
        intro i
        simp only [Array.getElem?_modify]
        split
        · rename_i hi; subst hi
          rw [hen]; rfl
        · rfl
      have r1 : (Instr.mapUpdate T (.map (some l.b)) (.agg #[.int .i64 a0, .int .i64 b0]) e'.val).run P w = .ok () { w with heap := w.heap.setIfInBounds l.b (.map (en.modify j fun e => { e with key := .agg #[.int .i64 a0, .int .i64 b0] }) cl) } := by
        rw [← hset, ← hmod]
        simp [Instr.mapUpdate, runU hU, getObj, Sem.run, hb, hc, hf, hen, e'k, Instr.keyThatStays, hsame]
      obtain ⟨C1, g1, g2, g3, g4, g5⟩ := upd _ _ _ _ hv r1
      have hat : (en.modify j fun e => { e with key := .agg #[.int .i64 a0, .int .i64 b0] })[j]? = some { e' with key := .agg #[.int .i64 a0, .int .i64 b0] } := by
        rw [Array.getElem?_modify, if_pos rfl, hen]; rfl
      refine ⟨l, e'.val, v, e'.born, _, C1, _, _, j, _, rfl, hik, ?_, hv.mono g3, .inl h3, g1, g2, g3, g4, hb1 _ _, g5, ⟨hat, rfl, rfl, stp_find (e' := { e' with key := .agg #[.int .i64 a0, .int .i64 b0] }) hat g5.bnodup⟩⟩
      rw [hik]
      have := hset (en.modify j fun e => { e with key := .agg #[.int .i64 a0, .int .i64 b0] }) cl
      simp [Instr.mapEntry, runU hU, getObj, Sem.run, hb, hc, hf, hen, e'k, Instr.keyThatStays, hsame, this, goInt]

theorem aset_aset (es : List (Int × AVal)) (n : Int) (u v : AVal) : aset (aset es n u) n v = aset es n v := by
  induction es with
  | nil => simp [aset]
  | cons p es ih =>
    obtain ⟨k, x⟩ := p
    by_cases h : k = n
    · subst h; simp [aset]
    · simp [aset, h, ih]

/-- What is appended under a key: the entry, the append, the store at its stamp. -/
theorem ALP.groupQ {n : Nat} {outer : List Fr} {all rest : List Oper} {Q : Exit → Fr → List AObj → Prop} {fr : Fr} {H : List AObj} {d1 d2 d3 d4 xt : Tmp} {T e : TypeId} {i : Operand} {opA : Op} {t1 t2 t3 t4 t5 : TypeId} {p1 p2 p3 p4 p5 : String} {f1 f2 f3 f4 f5 : Array Edge}
    {r : Nat} {a0 b0 : Int} {es : List (Int × AVal)} (hd : d1 < n ∧ d2 < n ∧ d3 < n ∧ d4 < n) (hne : d2 ≠ d1 ∧ d3 ≠ d1 ∧ d4 ≠ d3 ∧ xt ≠ d1 ∧ xt ≠ d2 ∧ xt ≠ d3 ∧ xt ≠ d4) (hnd : ∀ c, opA ≠ .defer c)
    (hx : get fr xt = .map r) (hi : ev fr i = .agg [.int .i64 a0, .int .i64 b0]) (hT : keyQ P T = some e) (hr : H[r]? = some (.mpo true es)) (hz : (zeroV P e).isSome = true)
    (h : ∀ av, (alook es (pk a0 b0) = some av ∨ (alook es (pk a0 b0) = none ∧ av = azero P e)) →
      astep P opA (ev ((d2, av) :: (d1, .tuple [av, .any]) :: fr)) (H.set r (.mpo true (aset es (pk a0 b0) av))) (H.set r (.mpo true (aset es (pk a0 b0) av))).length
        (fun v ef => (ef.app (H.set r (.mpo true (aset es (pk a0 b0) av))))[r]? = some (.mpo true (aset es (pk a0 b0) av)) ∧
          ALP md P n outer all rest Q ((d4, .any) :: (d3, v) :: (d2, av) :: (d1, .tuple [av, .any]) :: fr) ((ef.app (H.set r (.mpo true (aset es (pk a0 b0) av)))).set r (.mpo true (aset es (pk a0 b0) v)))) ∧
      astep P opA (ev ((d2, av) :: (d1, .tuple [av, .any]) :: fr)) ((H.set r (.mpo true (aset es (pk a0 b0) av))).set r .gone) ((H.set r (.mpo true (aset es (pk a0 b0) av))).set r .gone).length (fun _ _ => True)) :
    ALP md P n outer all ({ dst := some d1, op := .mapEntry T (.tmp xt) i, type := t1, pos := p1, after := f1, guard := none } :: { dst := some d2, op := .extract (.tmp d1) 0, type := t2, pos := p2, after := f2, guard := none } ::
      { dst := some d3, op := opA, type := t3, pos := p3, after := f3, guard := none } :: { dst := some d4, op := .extract (.tmp d1) 1, type := t4, pos := p4, after := f4, guard := none } ::
      { dst := none, op := .entryStore T (.tmp xt) (.tmp d4) (.tmp d3), type := t5, pos := p5, after := f5, guard := none } :: rest) Q fr H := by
  intro W0 A0 ds outs a w R
  obtain ⟨C, rfl, rfl, I, hF, hO, hn, hdf⟩ := R.ex
  obtain ⟨k, hU, hk⟩ := keyQ_spec hT
  have hxv := hF xt
  rw [hx] at hxv
  have hiv := ev_rep hF i
  rw [hi] at hiv
  obtain ⟨l, v0, av, st, w1, C1, en1, cl1, j, e1, ex, ei, run1, rv0, hav, hH1, I1, m1, hl1, hb1, hwf1, hst⟩ := entryQ I hxv hiv hT hr hz
  obtain ⟨h1, h2⟩ := h av hav
  rw [← hH1] at h1 h2
  have stepw : ∀ (o : Oper) (tl : List Oper) (a : Act) (w : World) (v : Value) (w' : World), o.guard = none → (∀ c, o.op ≠ .defer c) → (execOp a.eval o).run P w = .ok (.value v) w' → wpListIn (fence md) 5 P all.toArray (fun e a' w' => ∃ fr' H', Q e fr' H' ∧ SRep W0 C.A0 ds n outs outer fr' H' a' w') tl (a.put o.dst v) w' →
      wpListIn (fence md) 5 P all.toArray (fun e a' w' => ∃ fr' H', Q e fr' H' ∧ SRep W0 C.A0 ds n outs outer fr' H' a' w') (o :: tl) a w := by
    intro o tl a w v w' hg hnd hrun hw
    unfold wpListIn
    rw [if_pos (by simp [Region.wanted, hg])]
    unfold Oper.wpIn
    refine ⟨fun _ _ => trivial, ?_⟩
    rw [Oper.semAt_eq _ _ _ hnd, hrun, Oper.uponIn_value]
    exact hw
  have stepk : ∀ (o : Oper) (tl : List Oper) (a : Act) (w : World) (w' : World), o.guard = none → (∀ c, o.op ≠ .defer c) → (execOp a.eval o).run P w = .ok .skip w' → wpListIn (fence md) 5 P all.toArray (fun e a' w' => ∃ fr' H', Q e fr' H' ∧ SRep W0 C.A0 ds n outs outer fr' H' a' w') tl (a.put o.dst undef) w' →
      wpListIn (fence md) 5 P all.toArray (fun e a' w' => ∃ fr' H', Q e fr' H' ∧ SRep W0 C.A0 ds n outs outer fr' H' a' w') (o :: tl) a w := by
    intro o tl a w w' hg hnd hrun hw
    unfold wpListIn
    rw [if_pos (by simp [Region.wanted, hg])]
    unfold Oper.wpIn
    refine ⟨fun _ _ => trivial, ?_⟩
    rw [Oper.semAt_eq _ _ _ hnd, hrun, Oper.uponIn_skip]
    exact hw
  have hsz : a.tmps.size = n := hn
  have lt : ∀ {b : Act} {d : Tmp}, b.tmps.size = n → d < n → ∀ k, some d = some k → k < b.tmps.size := fun hb hd k hk => by
    have := Option.some.inj hk; rw [hb, ← this]; exact hd
  have gself : ∀ (b : Act) (d : Tmp) (v : Value), b.tmps.size = n → d < n → (b.put (some d) v).tmps.getD d undef = v := by
    intro b d v hb hd
    simp only [Act.put]
    rw [Array.getD_eq_getD_getElem?, Array.getElem?_setIfInBounds_self, if_pos (by rw [hb]; exact hd)]; rfl
  have gother : ∀ (b : Act) (d t : Tmp) (v : Value), t ≠ d → (b.put (some d) v).tmps.getD t undef = b.tmps.getD t undef := by
    intro b d t v h
    simp only [Act.put]
    rw [Array.getD_eq_getD_getElem?, Array.getElem?_setIfInBounds_ne (fun e => h e.symm), ← Array.getD_eq_getD_getElem?]
  obtain ⟨n1, n2, n3, n4⟩ := hd
  obtain ⟨q1, q2, q3, q4, q5, q6, q7⟩ := hne
  -- the entry
  have rt : RepV C1 w1 (.tuple #[v0, .int .i64 st]) (.tuple [av, .any]) := .tuple _ _ rfl fun i u c g1 g2 => by
    match i, g1, g2 with
    | 0, g1, g2 => simp at g1 g2; subst g1 g2; exact rv0
    | 1, g1, g2 => simp at g1 g2; subst g2; exact .any _
    | i + 2, g1, g2 => simp at g2
  have run1' : (Instr.mapEntry T (a.eval (.tmp xt)) (a.eval i)).run P w = .ok (.tuple #[v0, .int .i64 st]) w1 := run1
  refine stepw _ _ _ _ (.tuple #[v0, .int .i64 st]) w1 rfl (by simp) (by unfold execOp; simp only [Sem.run_bind, run1', Result.andThen_ok, Sem.run_pure]) ?_
  have s1 : (a.put (some d1) (.tuple #[v0, .int .i64 st])).tmps.size = n := by rw [put_size, hsz]
  have F1 : RepF C1 w1 (a.put (some d1) (.tuple #[v0, .int .i64 st])).tmps (put fr (some d1) (.tuple [av, .any])) := (hF.mono m1).put rt (some d1) (lt hsz n1)
  have D1 : (a.put (some d1) (.tuple #[v0, .int .i64 st])).defers = ds := by rw [put_defers, hdf]
  have T1 := gself a d1 (.tuple #[v0, .int .i64 st]) hsz n1
  have X1 := gother a d1 xt (.tuple #[v0, .int .i64 st]) q4
  simp only
  generalize a.put (some d1) (.tuple #[v0, .int .i64 st]) = a1 at s1 F1 D1 T1 X1 ⊢
  have ev1 : a1.eval (.tmp d1) = .tuple #[v0, .int .i64 st] := T1
  refine stepw _ _ _ _ v0 w1 rfl (by simp) (by unfold execOp; simp only [Sem.run_bind, ev1, Instr.extract]; rfl) ?_
  have s2 : (a1.put (some d2) v0).tmps.size = n := by rw [put_size, s1]
  have F2 : RepF C1 w1 (a1.put (some d2) v0).tmps ((d2, av) :: (d1, .tuple [av, .any]) :: fr) := F1.put rv0 (some d2) (lt s1 n2)
  have D2 : (a1.put (some d2) v0).defers = ds := by rw [put_defers, D1]
  have T2 := (gother a1 d2 d1 v0 (fun e => q1 e.symm)).trans T1
  have X2 := (gother a1 d2 xt v0 q5).trans X1
  simp only
  generalize a1.put (some d2) v0 = a2 at s2 F2 D2 T2 X2 ⊢
  -- the append
  obtain ⟨av3, w2, C2, ef, hres, hK, hH2, I2, m2, hkeep⟩ := step_keeps (P := P) (o := { dst := some d3, op := opA, type := t3, pos := p3, after := f3, guard := none }) I1 hl1 (ev_rep F2) h1 h2
  have tail : ∀ u, RepV C2 w2 u av3 → wpListIn (fence md) 5 P all.toArray (fun e a' w' => ∃ fr' H', Q e fr' H' ∧ SRep W0 C.A0 ds n outs outer fr' H' a' w')
      ({ dst := some d4, op := .extract (.tmp d1) 1, type := t4, pos := p4, after := f4, guard := none } :: { dst := none, op := .entryStore T (.tmp xt) (.tmp d4) (.tmp d3), type := t5, pos := p5, after := f5, guard := none } :: rest) (a2.put (some d3) u) w2 := by
    intro u hu
    have s3 : (a2.put (some d3) u).tmps.size = n := by rw [put_size, s2]
    have F3 : RepF C2 w2 (a2.put (some d3) u).tmps ((d3, av3) :: (d2, av) :: (d1, .tuple [av, .any]) :: fr) := (F2.mono m2).put hu (some d3) (lt s2 n3)
    have D3 : (a2.put (some d3) u).defers = ds := by rw [put_defers, D2]
    have T3 := (gother a2 d3 d1 u (fun e => q2 e.symm)).trans T2
    have X3 := (gother a2 d3 xt u q6).trans X2
    have U3 := gself a2 d3 u s2 n3
    generalize a2.put (some d3) u = a3 at s3 F3 D3 T3 X3 U3 ⊢
    have ev3 : a3.eval (.tmp d1) = .tuple #[v0, .int .i64 st] := T3
    refine stepw _ _ _ _ (.int .i64 st) w2 rfl (by simp) (by unfold execOp; simp only [Sem.run_bind, ev3, Instr.extract]; rfl) ?_
    have s4 : (a3.put (some d4) (.int .i64 st)).tmps.size = n := by rw [put_size, s3]
    have F4 : RepF C2 w2 (a3.put (some d4) (.int .i64 st)).tmps ((d4, .any) :: (d3, av3) :: (d2, av) :: (d1, .tuple [av, .any]) :: fr) := F3.put (.any _) (some d4) (lt s3 n4)
    have D4 : (a3.put (some d4) (.int .i64 st)).defers = ds := by rw [put_defers, D3]
    have X4 := (gother a3 d4 xt (.int .i64 st) q7).trans X3
    have U4 := (gother a3 d4 d3 (.int .i64 st) (fun e => q3 e.symm)).trans U3
    have V4 := gself a3 d4 (.int .i64 st) s3 n4
    simp only
    generalize a3.put (some d4) (.int .i64 st) = a4 at s4 F4 D4 X4 U4 V4 ⊢
    rw [ex] at X4
    have hr2 : C2.H[r]? = some (.mpo true (aset es (pk a0 b0) av)) := by rw [hH2]; exact hK.1
    have hx2 : RepV C2 w2 (.map (some l.b)) (.map r) := by
      have := (hxv.mono m1).mono m2
      rwa [ex] at this
    have hi2 : RepV C2 w2 (.agg #[.int .i64 a0, .int .i64 b0]) (.agg [.int .i64 a0, .int .i64 b0]) := by
      have := (hiv.mono m1).mono m2
      rwa [ei] at this
    obtain ⟨w3, C3, ef3, g1, g2, g3, g4, g5⟩ := (mapUpdQ_core (P := P) (K := fun _ ef => ef = .set r (.mpo true (aset (aset es (pk a0 b0) av) (pk a0 b0) av3))) I2 hx2 hi2 hu hT hr2 rfl).ex
    have hst2 := storeQ_run (P := P) (w := w2) (T := T) (e := e) (v := u) hU hk (hkeep.trans hb1) hwf1 hst
    rw [g1] at hst2
    have ex4 : a4.eval (.tmp xt) = .map (some l.b) := X4
    have ed4 : a4.eval (.tmp d4) = .int .i64 st := V4
    have eu4 : a4.eval (.tmp d3) = u := U4
    refine stepk _ _ _ _ w3 rfl (by simp) (by unfold execOp; simp only [Sem.run_bind, ex4, ed4, eu4, hst2, Result.andThen_ok]; rfl) ?_
    have hH3 : C3.H = (ef.app C1.H).set r (.mpo true (aset es (pk a0 b0) av3)) := by
      subst g2
      rw [aset_aset] at g3
      rw [← hH2]; exact g3
    refine hK.2 W0 C.A0 ds outs _ w3 ⟨C3, hH3, (g5.A0.trans m2.A0).trans m1.A0, g4, F4.mono g5, ((hO.mono m1).mono m2).mono g5, ?_, ?_⟩
    · exact s4
    · exact D4
  rcases hres with ⟨u, hrun, hu⟩ | ⟨hrun, hav3⟩
  · exact stepw _ _ _ _ u w2 rfl hnd hrun (tail u hu)
  · subst hav3
    exact stepk _ _ _ _ w2 rfl hnd hrun (tail undef (undef_rep C2 w2))
theorem Sub.letGoQ {outer : List Fr} {fr : Fr} (hfr : ∀ r v sz xs, frzRFr r v sz xs fr = fr) : ∀ (g2 g1 : List (Int × List Int)),
    Sub outer fr (.mpo true (mpE slV_intC g1 ++ gE (g1.length + 1) g2) :: (List.replicate g1.length .gone ++ gR g2)) fr (.mpo true (mpE slV_intC (g1 ++ g2)) :: List.replicate (g1.length + g2.length) .gone)
  | [], g1 => by
    simp only [gE, gR, List.map_nil, List.append_nil, List.length_nil, Nat.add_zero]
    exact Sub.refl'
  | (k, xs) :: g2, g1 => by
    have hr : (AObj.mpo true (mpE slV_intC g1 ++ gE (g1.length + 1) ((k, xs) :: g2)) :: (List.replicate g1.length .gone ++ gR ((k, xs) :: g2)))[g1.length + 1]? = some (.row (xs.length - 1) 1 (xs.map intC)) := by
      rw [List.getElem?_cons_succ, List.getElem?_append_right (by simp)]
      simp [gR]
    have s := Sub.freezeRow (outer := outer) (fr := fr) (g1.length + 1) hr
    rw [hfr] at s
    have e : frzRB (g1.length + 1) (xs.length - 1) 1 (xs.map intC) ((AObj.mpo true (mpE slV_intC g1 ++ gE (g1.length + 1) ((k, xs) :: g2)) :: (List.replicate g1.length .gone ++ gR ((k, xs) :: g2))).set (g1.length + 1) .gone) =
        .mpo true (mpE slV_intC (g1 ++ [(k, xs)]) ++ gE ((g1 ++ [(k, xs)]).length + 1) g2) :: (List.replicate (g1 ++ [(k, xs)]).length .gone ++ gR g2) := by
      rw [List.set_cons_succ, List.set_append_right _ _ (by simp), List.length_replicate, Nat.sub_self]
      show frzRB _ _ _ _ (AObj.mpo true (mpE slV_intC g1 ++ gE (g1.length + 1) ((k, xs) :: g2)) :: (List.replicate g1.length .gone ++ (AObj.gone :: gR g2))) = _
      simp only [frzRB, frzRO, frzRB_app, frzRB_gone, frzRB_gR, frzRE_app, frzRE_slVi, gE, frzRE]
      rw [frzRE_gE _ _ _ _ g2 (g1.length + 1 + 1) (by omega)]
      have h1 : frzR1 (g1.length + 1) (xs.length - 1) 1 (xs.map intC) (.own (g1.length + 1) (xs.length - 1) 0 xs.length) = slV_intC xs := by
        unfold frzR1 frzR0 slV_intC
        simp only []
        simp
        exact List.take_of_length_le (by simp)
      rw [h1]
      simp [mpE, List.replicate_succ']
    rw [e] at s
    have ih := Sub.letGoQ (outer := outer) hfr g2 (g1 ++ [(k, xs)])
    have := s.trans ih
    simp only [List.append_assoc, List.cons_append, List.nil_append, List.length_append, List.length_cons, List.length_nil] at this
    simp only [List.length_cons]
    rw [show g1.length + (g2.length + 1) = g1.length + (0 + 1) + g2.length by omega]
    exact this
/-- THE GROUPS, when the loop is over: a map of values, its keys structs. -/
theorem Sub.groupsQ {outer : List Fr} {fr : Fr} (hfr : ∀ r v sz xs, frzRFr r v sz xs fr = fr) (hsub : subF fr fr) (hb : belFr 1 fr = true) (ho : outer.all (belFr 1) = true) (g : List (Int × List Int)) :
    Sub outer fr (.mpo true (gE 1 g) :: gR g) fr [.mpo true (mpE slV_intC g)] := by
  have s1 := Sub.letGoQ (outer := outer) hfr g []
  simp only [mpE, List.map_nil, List.nil_append, List.length_nil, Nat.zero_add, List.replicate_zero] at s1
  have hbel : belH 1 [.mpo true (mpE slV_intC g)] = true := by
    simp [belH, belObj, mpE, slV_intC, AVal.bel2, AVal.bel1, AVal.belF, AVal.bel0]
  have s3 : Sub outer fr (.mpo true (mpE slV_intC g) :: List.replicate g.length .gone) fr [.mpo true (mpE slV_intC g)] := Sub.weak ⟨⟨rfl, rfl⟩, by simp [subH]⟩ hsub (.inr ⟨hb, hbel, ho⟩)
  exact s1.trans s3
theorem belH_gQ {m : Nat} (g : List (Int × List Int)) (h : 1 + g.length ≤ m) : belH m (.mpo true (gE 1 g) :: gR g) = true := by
  have := belH_gR (m := m) g
  unfold belH at this ⊢
  rw [List.all_cons, this, Bool.and_true]
  exact belE_gE g 1 h
theorem subH_gQ (g : List (Int × List Int)) (B : List AObj) : subH (.mpo true (gE 1 g) :: (gR g ++ B)) (.mpo true (gE 1 g) :: gR g) := ⟨⟨rfl, rfl⟩, subH_app _ _ (gR_notResv g)⟩
theorem ALP.groupQK {n : Nat} {outer : List Fr} {all rest : List Oper} {Q : Exit → Fr → List AObj → Prop} {fr : Fr} {H : List AObj} {d1 d2 d3 d4 xt : Tmp} {T e : TypeId} {i : Operand} {opA : Op} {t1 t2 t3 t4 t5 : TypeId} {p1 p2 p3 p4 p5 : String} {f1 f2 f3 f4 f5 : Array Edge}
    {r : Nat} {a0 b0 : Int} {es : List (Int × AVal)} (hd : d1 < n ∧ d2 < n ∧ d3 < n ∧ d4 < n) (hne : d2 ≠ d1 ∧ d3 ≠ d1 ∧ d4 ≠ d3 ∧ xt ≠ d1 ∧ xt ≠ d2 ∧ xt ≠ d3 ∧ xt ≠ d4) (hnd : ∀ c, opA ≠ .defer c)
    (hx : get fr xt = .map r) (hi : ev fr i = .agg [.int .i64 a0, .int .i64 b0]) (hT : keyQ P T = some e) (hr : H[r]? = some (.mpo true es)) (hz : (zeroV P e).isSome = true)
    (h : ∀ K : Fr → List AObj → Prop, (∀ fr H, ALP md P n outer all rest Q fr H → K fr H) → ∀ av, (alook es (pk a0 b0) = some av ∨ (alook es (pk a0 b0) = none ∧ av = azero P e)) →
      astep P opA (ev ((d2, av) :: (d1, .tuple [av, .any]) :: fr)) (H.set r (.mpo true (aset es (pk a0 b0) av))) (H.set r (.mpo true (aset es (pk a0 b0) av))).length
        (fun v ef => (ef.app (H.set r (.mpo true (aset es (pk a0 b0) av))))[r]? = some (.mpo true (aset es (pk a0 b0) av)) ∧
          K ((d4, .any) :: (d3, v) :: (d2, av) :: (d1, .tuple [av, .any]) :: fr) ((ef.app (H.set r (.mpo true (aset es (pk a0 b0) av)))).set r (.mpo true (aset es (pk a0 b0) v)))) ∧
      astep P opA (ev ((d2, av) :: (d1, .tuple [av, .any]) :: fr)) ((H.set r (.mpo true (aset es (pk a0 b0) av))).set r .gone) ((H.set r (.mpo true (aset es (pk a0 b0) av))).set r .gone).length (fun _ _ => True)) :
    ALP md P n outer all ({ dst := some d1, op := .mapEntry T (.tmp xt) i, type := t1, pos := p1, after := f1, guard := none } :: { dst := some d2, op := .extract (.tmp d1) 0, type := t2, pos := p2, after := f2, guard := none } ::
      { dst := some d3, op := opA, type := t3, pos := p3, after := f3, guard := none } :: { dst := some d4, op := .extract (.tmp d1) 1, type := t4, pos := p4, after := f4, guard := none } ::
      { dst := none, op := .entryStore T (.tmp xt) (.tmp d4) (.tmp d3), type := t5, pos := p5, after := f5, guard := none } :: rest) Q fr H := ALP.groupQ hd hne hnd hx hi hT hr hz fun av hav => h _ (fun _ _ h => h) av hav
end Go.Ab
