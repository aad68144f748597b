/-
  The keys of a map, sorted: two calls of the library by contract.
-/
import Derived.Test.YtciaimpdnjpajaaSkZ
import Derived.Lib.SlKeysI
import Derived.Maps.Own
namespace Go.Ab
open Go Go.RowKit Go.Maps

section
variable {P : Program}

/-- what maps.Keys promises: the map boxed, a function value that captures the box -/
structure KeysI (P : Program) (f c : FuncId) (T : TypeId) : Prop where
  run : ∀ (mb : Option Nat) (W : World), Calls P f #[.map mb] W fun e w' => e = .returned (.func (.func c) #[] #[.pointer (some ⟨W.heap.size, 0, none⟩)]) ∧ w' = W.alloc (.cells #[.map mb] T)

/-- what slices.Sorted promises of such a function value -/
structure SortedKeysI (P : Program) (f c : FuncId) (kT : TypeId) : Prop where
  key : P.underlying kT = some (.int .i64)
  run : ∀ (b Bm nn : Nat) (D0 : DataW Unit) (R : Value → Option (DataW Unit × List MemPlace)) (W : World), W.cell? ⟨Bm, 0, none⟩ = some (.map (some b)) → Bm < W.heap.size → W.ownsMap P kT R b nn D0 → Maps.size D0 ≤ maxLen → Maps.size D0 * 8 ≤ 140737488355328 →
    Calls P f #[.func (.func c) #[] #[.pointer (some ⟨Bm, 0, none⟩)]] W fun e w' => ∃ (v : Value) (ss : List Int), e = .returned v ∧ ss.Perm (intKeys D0) ∧ w'.ownsRow W.heap.size kT 1 v ss.length ((ss.mergeSort (fun x y => decide (x ≤ y))).map encZ) ∧ Below W.heap.size W w'

theorem ACall.keysI {f c : FuncId} {T : TypeId} {r : Nat} {es : List (Int × AVal)} {st : List Fr} {H : List AObj} {K : AVal → List AObj → Prop} (hc : ∀ (args : Array Value) (w : World), (callFunc f args).run P w = .ok (.enter f args) w)
    (spec : KeysI P f c T) (hr : H[r]? = some (.mp es)) (h : K (.func c [.ptr H.length 0]) (H ++ [.box [.map r]])) : ACall P (.func f []) [.map r] st H K := by
  intro W0 C w outs fv vs I hH hO hf hl hv
  subst hH
  cases hf with
  | func _ caps _ hcl _ =>
    have : caps = #[] := Array.eq_empty_of_size_eq_zero (by simpa using hcl)
    subst this
    refine .inl ⟨f, #[], rfl, hc, ?_⟩
    match vs, hl with
    | [u], _ =>
      have hu := hv 0 u _ rfl rfl
      cases hu with
      | map b _ hk hh =>
        refine (spec.run (some b) w).mono fun e w' ⟨he, hw⟩ => ?_
        subst hw
        have hid : Free C.H C.H.length := .inl rfl
        have key := I.alloc C.H.length hid (.box [.map r]) (.cells #[.map (some b)] T) 0 (fun m => ⟨_, #[.map (some b)], T, Ctx.new_ρ _ _ _ _, heap_alloc_self _ _, rfl, fun i u c' h1 h2 => by
          match i, h1, h2 with
          | 0, h1, h2 =>
            simp at h1 h2; subst h1 h2
            exact (RepV.map b r hk hh).mono m
          | i + 1, h1, h2 => simp at h2⟩)
        have hadd : addAt C.H C.H.length (.box [.map r]) = C.H ++ [.box [.map r]] := by simp [addAt]
        refine ⟨_, .func c [.ptr C.H.length 0], C.new C.H.length (.box [.map r]) ⟨w.heap.size, 0, 0⟩, he, ?_, rfl, .func c _ _ rfl fun i u c' h1 h2 => ?_, key.1, hO.mono key.2⟩
        · show K _ (addAt C.H C.H.length (.box [.map r]))
          rw [hadd]; exact h
        · match i, h1, h2 with
          | 0, h1, h2 =>
            simp at h1 h2; subst h1 h2
            exact .ptr _ _ _ (Ctx.new_known hid ⟨w.heap.size, 0, 0⟩ (by simp)) fun cs _ => ⟨_, Ctx.new_ρ _ _ _ _, rfl⟩
          | i + 1, h1, h2 => simp at h2

/-- a map of integer keys, as the kit tells it -/
theorem owns_of {w : World} {b : Nat} {en : Array MapEntry} {cl : Nat} {es : List (Int × AVal)} {kT : TypeId} (hkT : P.underlying kT = some (.int .i64)) (hb : w.heap[b]? = some (.map en cl)) (hwf : MapWf false en cl es)
    (hk : ∀ p ∈ es, (Lit.int .i64 p.1).wf = true) (hn : es.length ≤ maxLen) :
    ∃ D0 : DataW Unit, w.ownsMap P kT (fun _ => some (.nil, [])) b es.length D0 ∧ (intKeys D0).Perm (es.map (·.1)) ∧ Maps.size D0 = es.length := by
  have hkey : ∀ x ∈ en.toList, ∃ p ∈ es, x.key = .int .i64 p.1 := fun x hx => by
    obtain ⟨i, hi, rfl⟩ := List.getElem_of_mem hx
    have hi' : i < en.size := by simpa using hi
    have h1 : en[i]? = some en[i] := Array.getElem?_eq_getElem hi'
    have h2 : es[i]? = some (es[i]'(by rw [← hwf.size]; exact hi')) := List.getElem?_eq_getElem _
    exact ⟨_, List.mem_of_getElem? h2, by simpa using hwf.keysI i _ _ h1 h2⟩
  have hmap : en.toList.map (·.key) = es.map fun p => Value.int .i64 p.1 := by
    apply List.ext_getElem?
    intro i
    simp only [List.getElem?_map, Array.getElem?_toList]
    cases h1 : en[i]? with
    | none =>
      have : en.size ≤ i := by simpa using h1
      rw [List.getElem?_eq_none (by rw [← hwf.size]; exact this)]; rfl
    | some e =>
      have hi : i < en.size := (Array.getElem?_eq_some_iff.1 h1).1
      have h2 : es[i]? = some (es[i]'(by rw [← hwf.size]; exact hi)) := List.getElem?_eq_getElem _
      rw [h2]; simp only [Option.map_some]; rw [hwf.keysI i _ _ h1 h2]
  have hrd : ∀ x ∈ en.toList, ∃ p ∈ es, x.key = .int .i64 p.1 ∧ Go.WideElems.rd (H := Unit) P kT (fun _ => some (.nil, [])) x = some (.int .i64 p.1, .nil) := fun x hx => by
    obtain ⟨p, hp, e⟩ := hkey x hx
    refine ⟨p, hp, e, ?_⟩
    unfold Go.WideElems.rd
    rw [e, keyOf_int_mk hkT (hk p hp)]; rfl
  have hfit : Go.WideElems.Fit (H := Unit) P kT (fun _ => some (.nil, [])) en cl := by
    refine ⟨by rw [hwf.size]; exact hn, ⟨hwf.born, hwf.bnodup, ?_⟩, fun x hx => ?_⟩
    · rw [hmap]
      refine List.pairwise_map.2 ((List.pairwise_map.1 hwf.nodup).imp fun {a b} hne e => hne ?_)
      simpa using e
    · obtain ⟨p, _, _, h⟩ := hrd x hx; exact ⟨_, h⟩
  refine ⟨.map ((en.toList.map (Go.WideElems.rg P kT (fun _ => some (.nil, [])))).foldr DataW.insert []), ⟨en, cl, hb, hfit, by rw [hwf.size]; exact Nat.le_refl _, rfl⟩, ?_, ?_⟩
  · show (List.map (fun p : Lit × DataW Unit => intOf p.1) _).Perm _
    refine ((Go.WideShapes.sorted_perm _).map _).trans ?_
    rw [List.map_map]
    have : en.toList.map ((fun p : Lit × DataW Unit => intOf p.1) ∘ Go.WideElems.rg P kT (fun _ => some (.nil, []))) = es.map (·.1) := by
      have e1 : en.toList.map ((fun p : Lit × DataW Unit => intOf p.1) ∘ Go.WideElems.rg P kT (fun _ => some (.nil, []))) = (en.toList.map (·.key)).map fun v => match v with | .int _ n => n | _ => 0 := by
        rw [List.map_map]
        refine List.map_congr_left fun x hx => ?_
        obtain ⟨p, _, e, h⟩ := hrd x hx
        simp only [Function.comp_apply, Go.WideElems.rg, h, e, Option.getD_some, intOf]
      rw [e1, hmap, List.map_map]; rfl
    rw [this]
  · simp [Maps.size, length_sorted, hwf.size]

theorem ACall.sortedKeysI {f c : FuncId} {kT : TypeId} {r b : Nat} {es : List (Int × AVal)} {st : List Fr} {H : List AObj} {K : AVal → List AObj → Prop} (hc : ∀ (args : Array Value) (w : World), (callFunc f args).run P w = .ok (.enter f args) w)
    (spec : SortedKeysI P f c kT) (hb : H[b]? = some (.box [.map r])) (hr : H[r]? = some (.mp es)) (hk : ∀ p ∈ es, -9223372036854775808 ≤ p.1 ∧ p.1 ≤ 9223372036854775807) (hn : es.length ≤ 549755813888)
    (h : K (.own H.length 0 0 es.length) (H ++ [.row 0 1 ((Go.Ab.sortI (es.map (·.1))).map intC)])) : ACall P (.func f []) [.func c [.ptr b 0]] st H K := by
  intro W0 C w outs fv vs I hH hO hf hl hv
  subst hH
  cases hf with
  | func _ caps _ hcl _ =>
    have : caps = #[] := Array.eq_empty_of_size_eq_zero (by simpa using hcl)
    subst this
    refine .inl ⟨f, #[], rfl, hc, ?_⟩
    match vs, hl with
    | [u], _ =>
      have hu := hv 0 u _ rfl rfl
      cases hu with
      | func _ arr _ hal harr =>
        obtain ⟨pv, rfl⟩ : ∃ pv, arr = #[pv] := by
          have : arr.size = 1 := by simpa using hal
          exact ⟨arr[0], by apply Array.ext <;> simp [this]; intro i h1; have : i = 0 := by omega
                            subst this; rfl⟩
        have hp := harr 0 pv _ rfl rfl
        cases hp with
        | ptr a _ _ hkn hpa =>
          obtain ⟨l, hl, rfl⟩ := hpa _ hb
          obtain ⟨l', carr, T, e1, e2, e3, e4⟩ := I.objs b _ hb
          rw [hl, Option.some.injEq] at e1; subst e1
          obtain ⟨mv, rfl⟩ : ∃ mv, carr = #[mv] := by
            have : carr.size = 1 := by simpa using e3
            exact ⟨carr[0], by apply Array.ext <;> simp [this]; intro i h1; have : i = 0 := by omega
                               subst this; rfl⟩
          have hm := e4 0 mv _ rfl rfl
          cases hm with
          | map bm _ hkm hmm =>
            obtain ⟨lm, hlm, rfl⟩ := hmm _ hr rfl
            obtain ⟨lm', en, cl, m1, m2, m3, m4, m5⟩ := I.objs r _ hr
            rw [hlm, Option.some.injEq] at m1; subst m1
            obtain ⟨D0, o1, o2, o3⟩ := owns_of (P := P) spec.key m2 m3 (fun p hp => by
              have := hk p hp
              exact WalkArith.wf_i64 (by omega)) (by unfold maxLen; omega)
            have hcell : w.cell? ⟨l.b, 0, none⟩ = some (.map (some lm.b)) := by simp [World.cell?, e2]
            refine (spec.run lm.b l.b es.length D0 _ w hcell (I.sep b l hl).2.2.1 o1 (by rw [o3]; unfold maxLen; omega) (by rw [o3]; omega)).mono fun e w' ⟨v, ss, he, hss, hrow, hbel⟩ => ?_
            have hperm : ss.Perm (es.map (·.1)) := hss.trans o2
            have hsort : ss.mergeSort (fun x y => decide (x ≤ y)) = Go.Ab.sortI (es.map (·.1)) := mergeSort_of_perm_i hperm
            have hlen : ss.length = es.length := by rw [hperm.length_eq, List.length_map]
            have hxl : ((Go.Ab.sortI (es.map (·.1))).map intC).length = es.length := by rw [List.length_map, sortI_len, List.length_map]
            rw [hsort, hlen, ← hxl] at hrow
            obtain ⟨C', c1, c2, c3, c4, c5⟩ := own_row (A := C.A) (sz := 1) (xs := (Go.Ab.sortI (es.map (·.1))).map intC) I.sub hbel (Nat.le_refl _) (fun x hx => by
              obtain ⟨z, _, rfl⟩ := List.mem_map.1 hx; rfl) (fun x hx cc hcc => by
              obtain ⟨z, _, rfl⟩ := List.mem_map.1 hx
              simp [intC] at hcc; subst hcc; rfl) hrow (fun i k x cc hx hcc => by
              simp only [List.getElem?_map, Option.map_eq_some_iff] at hx
              obtain ⟨z, hz, rfl⟩ := hx
              have hk0 : k = 0 := by
                have := (List.getElem?_eq_some_iff.1 hcc).1
                simp [intC] at this; exact this
              subst hk0
              simp [intC] at hcc; subst hcc
              exact ⟨.int .i64 z, by simp [hz], .int _ _⟩)
            have hid : Free C.H C.H.length := .inl rfl
            have key := I.place c4 (fun b' hb' => by rw [c2] at hb'; exact hb') hid c1
            refine ⟨v, .own C.H.length 0 0 es.length, C.place C' C.H.length _, he, ?_, rfl, ?_, key.1, hO.mono key.2.1⟩
            · show K _ (addAt C.H C.H.length _)
              rw [show addAt C.H C.H.length (AObj.row 0 1 ((Go.Ab.sortI (es.map (·.1))).map intC)) = C.H ++ [.row 0 1 ((Go.Ab.sortI (es.map (·.1))).map intC)] by simp [addAt]]
              exact h
            · rw [hxl] at c5
              exact c5.ren key.2.2
end
end Go.Ab
