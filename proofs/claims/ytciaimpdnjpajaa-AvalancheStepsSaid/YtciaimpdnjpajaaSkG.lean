/-
  What the operations do to abstract values is what they do to the model's: part four, append.
-/
import Derived.Test.YtciaimpdnjpajaaSkF
namespace Go.Ab
open Go Go.RowKit
section
variable {P : Program}

theorem growslice_ok {n c b : Nat} (h : c < n) (hb : n * b ≤ 140737488355328) : Builtin.nextslicecap n c * b ≤ 281474976710656 := growslice_fits h hb

/-- The new array of an append that did not fit. -/
theorem grown_row {C : Ctx} {w : World} {sz : Nat} {olds news : List Value} {xs ys : List (List AVal)}
    (hx : ∀ x ∈ xs ++ ys, x.length = sz) (hol : olds.length = xs.length * sz) (hnl : news.length = ys.length * sz)
    (ho : ∀ (i k : Nat) (x : List AVal) (c : AVal), xs[i]? = some x → x[k]? = some c → ∃ u, olds[i * sz + k]? = some u ∧ RepV C w u c)
    (hn : ∀ (i k : Nat) (x : List AVal) (c : AVal), ys[i]? = some x → x[k]? = some c → ∃ u, news[i * sz + k]? = some u ∧ RepV C w u c)
    (cap : Nat) (z : Array Value) (hz : z.size = sz) (hc : xs.length + ys.length ≤ cap) (C1 : Ctx) (w1 : World) (m : Mono C w C1 w1) :
    (olds.toArray ++ news.toArray ++ Builtin.zeroCells z (cap - (xs.length + ys.length))).size = cap * sz ∧
    ∀ (i k : Nat) (x : List AVal) (c : AVal), (xs ++ ys)[i]? = some x → x[k]? = some c → ∃ u, (olds.toArray ++ news.toArray ++ Builtin.zeroCells z (cap - (xs.length + ys.length)))[0 + (i * sz + k)]? = some u ∧ RepV C1 w1 u c := by
  refine ⟨?_, fun i k x c h1 h2 => ?_⟩
  · simp only [Array.size_append, List.size_toArray, size_zeroCells, hz, hol, hnl, ← Nat.add_mul]
    congr 1; omega
  · have hk : k < sz := by have := getD_opt h2; have := hx _ (List.mem_of_getElem? h1); omega
    have key : ∃ u, (olds ++ news)[i * sz + k]? = some u ∧ RepV C w u c := by
      by_cases hi : i < xs.length
      · rw [List.getElem?_append_left hi] at h1
        obtain ⟨u, hu, hur⟩ := ho i k x c h1 h2
        exact ⟨u, by rw [List.getElem?_append_left (getD_opt hu)]; exact hu, hur⟩
      · rw [List.getElem?_append_right (by omega)] at h1
        obtain ⟨u, hu, hur⟩ := hn _ k x c h1 h2
        have : xs.length * sz ≤ i * sz := Nat.mul_le_mul_right _ (by omega)
        refine ⟨u, ?_, hur⟩
        rw [List.getElem?_append_right (by omega), hol]
        rwa [Nat.sub_mul, show i * sz - xs.length * sz + k = i * sz + k - xs.length * sz by omega] at hu
    obtain ⟨u, hu, hur⟩ := key
    refine ⟨u, ?_, hur.mono m⟩
    have hlt := getD_opt hu
    rw [Nat.zero_add, Array.getElem?_append_left (by simpa using hlt)]
    rw [← List.getElem?_toArray] at hu
    simpa using hu

theorem append_sound {W0 : World} {C : Ctx} {w : World} (I : Inv W0 C w) {id : Nat} (hid : Free C.H id) {T ty : TypeId} {s x : Value} {as ax : AVal} {K : AVal → Eff → Prop} (hs : RepV C w s as) (hx : RepV C w x ax) (h : aAppend P T as ax C.H id K) :
    Done W0 C w ((Builtin.append_ #[T, T] ty #[s, x]).run P w) K := by
  unfold aAppend at h
  split at h
  · rename_i e hT
    obtain ⟨hz, hsz1, hzl, h⟩ := h
    obtain ⟨z, hz⟩ := Option.isSome_iff_exists.1 hz
    obtain ⟨i, hi, hiz, hsi, hby⟩ := okElem hT hz
    have hU := elemT_spec hT
    have hzr := azeroCells_rep (P := P) C w hz
    have hzs : z.cells.size = szOf P e := by omega
    split at h
    · rename_i szx ys hel
      obtain ⟨hszx, h⟩ := h
      obtain ⟨xa, m, xc, rfl, hm, hmc, hxcm, hysz, hyg, hsrc⟩ := elems_rep I hx hel
      subst hszx
      -- onto nothing that has room
      have fromZero : ∀ (b : Option Addr), ys.length * bytesOf P e ≤ 140737488355328 → ys.length ≤ 9223372036854775807 → K (.own id 0 0 ys.length) (.new id (.row 0 (szOf P e) ys)) →
          Done W0 C w ((Builtin.append_ #[T, T] ty #[.slice b 0 0, .slice xa m xc]).run P w) K := by
        intro b h48 h63 hk
        by_cases hy : ys = []
        · subst hy
          subst hm
          have hrun := run_append_empty (P := P) (w := w) (ty := ty) hU hi b 0 0 (Nat.le_refl _) xa xc
          have key := I.ghost id hid (.row 0 (szOf P e) []) (fun _ => ⟨hsz1, by simp, by simp, .inl ⟨rfl, I.noLoc hid⟩⟩)
          refine ⟨_, _, _, _, _, hrun, .own _ _ _ _ _ _ ⟨_, addAt_self hid, by simp⟩ (Nat.le_refl _) (Nat.zero_le _) (fun v' sz' xs' h' => ?_), hk, rfl, key.1, key.2⟩
          simp only [Ctx.ghost] at h'
          rw [addAt_self hid, Option.some.injEq, AObj.row.injEq] at h'
          obtain ⟨rfl, rfl, rfl⟩ := h'
          exact ⟨Nat.le_refl _, fun _ => ⟨by simp, .inl rfl⟩⟩
        · obtain ⟨_, ad, rfl, news, hnl, hnews, hnr⟩ := hsrc hy
          have hpos : 0 < m := by rw [hm]; exact List.length_pos_iff.2 hy
          have hnl' : news.length = ys.length * szOf P e := by rw [hnl, hm]
          have h63' : ((m : Nat) : Int) ≤ 9223372036854775807 := by omega
          have hml := maxLen_eq
          have fin : ∀ cap, m ≤ cap → cap ≤ maxLen → Done W0 C w (.ok (.slice (some ⟨w.heap.size, 0, none⟩) m cap) (w.drew.alloc (.cells (([] : List Value).toArray ++ news.toArray ++ Builtin.zeroCells z.cells (cap - (([] : List (List AVal)).length + ys.length))) e))) K := by
            intro cap hc1 hc2
            have I' := I.same (w' := w.drew) rfl (I.below.drew)
            have hr := grown_row (xs := []) (olds := []) (by simpa using hysz) (by simp) hnl' (by simp) hnr cap z.cells hzs (by simp; omega) C w.drew I'.2
            obtain ⟨C', g1, g2, g3, g4⟩ := newRowObj I'.1 hid e _ (szOf P e) m cap ys hsz1 hysz hyg hm (by rw [hr.1]; exact Nat.mul_le_mul_right _ (by omega)) (by simpa using hr.2) hc1 hc2 (by rw [hr.1]; exact Nat.le_refl _)
            exact ⟨_, _, _, C', _, rfl, by rw [hm] at g2 ⊢; exact g2, hk, g1, g3, I'.2.trans g4⟩
          cases b with
          | none =>
            have hrun := run_append_nil (P := P) w T ty e i z hU hi hiz ad m xc news (by rw [hnl, hsi]) hnews hpos h63' (by rw [← hby, hm]; omega)
            rw [hrun]
            have := fin (grownCap w m 0 e) (grownCap_ge _ _ _ _) (grownCap_le_maxLen _ _ _ _ (by omega))
            simpa [hm] using this
          | some b =>
            have hrun := run_append_grow (P := P) w T ty e i z hU hi hiz b 0 0 [] (by simp) (by simp) ad m xc news (by rw [hnl, hsi]) hnews (by omega) (by simpa using h63') (growslice_ok (by omega) (by rw [← hby, Nat.zero_add, hm]; exact h48))
            rw [hrun]
            have := fin (grownCap w (0 + m) 0 e) (by have := grownCap_ge w (0 + m) 0 e; omega) (grownCap_le_maxLen _ _ _ _ (by omega))
            simpa [hm] using this
      split at h
      · cases hs
        exact fromZero none h.1 h.2.1 h.2.2
      · cases hs
        exact fromZero _ h.1 h.2.1 h.2.2
      · rename_i r v lo len
        split at h
        · rename_i v' sz xs hr
          obtain ⟨hv, hsz, h48, h63, hk⟩ := h
          subst hv
          subst hsz
          cases hs with
          | own sa _ cap _ _ _ hlt hlc hcm hh =>
            obtain ⟨_, hh⟩ := hh _ _ _ hr
            obtain ⟨hle, hh⟩ := hh rfl
            obtain ⟨_, hsz, hg, ho⟩ := I.objs r _ hr
            have hlen : ((xs.drop lo).take len).length = len := by simp; omega
            have hall : ∀ x ∈ (xs.drop lo).take len ++ ys, x.length = szOf P e := fun x hx => by
              rcases List.mem_append.1 hx with hx | hx
              · exact hsz x (List.mem_of_mem_drop (List.mem_of_mem_take hx))
              · exact hysz x hx
            have hallg : ∀ x ∈ (xs.drop lo).take len ++ ys, ∀ c ∈ x, AVal.g0 c = true := fun x hx => by
              rcases List.mem_append.1 hx with hx | hx
              · exact hg x (List.mem_of_mem_drop (List.mem_of_mem_take hx))
              · exact hyg x hx
            have hb0 : W0.heap.size ≤ w.heap.size := I.below.size
            -- the result is told of the row r
            have own' : ∀ (C' : Ctx) (w' : World) (a : Option Addr) (cap' : Nat) (l : Loc), C'.H = C.H.set r (.row (v + 1) (szOf P e) ((xs.drop lo).take len ++ ys)) → len + m ≤ cap' → cap' ≤ maxLen →
                (cap' = 0 ∨ (C'.ρ r = some l ∧ a = some ⟨l.b, l.base, none⟩ ∧ l.base + cap' * szOf P e ≤ l.cap)) → RepV C' w' (.slice a (len + m) cap') (.own r (v + 1) 0 (len + ys.length)) := by
              intro C' w' a cap' l hH h1 h2 h3
              rw [← hm]
              refine .own _ _ _ _ _ _ ⟨_, by rw [hH]; exact List.getElem?_set_self hlt.lt, by simp⟩ h1 h2 (fun v2 sz2 xs2 h' => ?_)
              rw [hH, List.getElem?_set_self hlt.lt, Option.some.injEq, AObj.row.injEq] at h'
              obtain ⟨rfl, rfl, rfl⟩ := h'
              refine ⟨Nat.le_refl _, fun _ => ⟨by simp [hlen, hm], ?_⟩⟩
              rcases h3 with h3 | ⟨h3, h4, h5⟩
              · exact .inl h3
              · exact .inr ⟨l, h3, by simpa using h4, by simpa using h5⟩
            by_cases hy : ys = []
            · -- nothing is appended: the value stays
              subst hy
              have hm0 : m = 0 := by simpa using hm
              subst hm0
              have hrun := run_append_empty (P := P) (w := w) (ty := ty) hU hi sa len cap hlc xa xc
              rcases hh with hc0 | ⟨l, hl, hsa, hfit⟩
              · have hl0 : len = 0 := by omega
                subst hl0
                have key := I.reloc (sz' := szOf P e) (xs' := (xs.drop lo).take 0 ++ []) hr (Nat.lt_succ_self v) none (fun b _ _ => rfl) (Nat.le_refl _) I.below (by simp)
                  (fun m => ⟨hsz1, hall, hallg, .inl ⟨by simp, by simp [Ctx.reloc]⟩⟩)
                exact ⟨_, _, _, _, _, hrun, own' _ _ sa cap ⟨0, 0, 0⟩ rfl (by omega) hcm (.inl hc0), hk, rfl, key.1, key.2⟩
              · subst hsa
                rcases ho with ⟨e1, e2⟩ | ⟨l', arr, T', e1, e2, e3, e4, e5⟩
                · rw [hl] at e2; cases e2
                rw [hl, Option.some.injEq] at e1
                subst e1
                have hmul : (lo + len) * szOf P e ≤ xs.length * szOf P e := Nat.mul_le_mul_right _ hle
                have hadd : (lo + cap) * szOf P e = lo * szOf P e + cap * szOf P e := Nat.add_mul _ _ _
                have hadd2 : (lo + len) * szOf P e = lo * szOf P e + len * szOf P e := Nat.add_mul _ _ _
                have key := I.reloc (sz' := szOf P e) (xs' := (xs.drop lo).take len ++ []) hr (Nat.lt_succ_self v) (some ⟨l.b, l.base + lo * szOf P e, l.cap⟩) (fun b _ _ => rfl) (Nat.le_refl _) I.below
                  (fun l2 h2 => by
                    simp only [Option.some.injEq] at h2; subst h2
                    have := I.sep r l hl
                    exact ⟨this.2.1, this.2.2.1, this.2.2.2, fun r' l' hne h' eb => hne (I.inj _ _ _ _ h' hl eb)⟩)
                  (fun m => ⟨hsz1, hall, hallg, .inr ⟨⟨l.b, l.base + lo * szOf P e, l.cap⟩, arr, T', by simp [Ctx.reloc], e2, e3, by simp only [List.append_nil, hlen]; omega, fun i2 k x c h1 h2 => by
                    simp only [List.append_nil] at h1
                    rw [List.getElem?_take] at h1
                    split at h1
                    · rw [List.getElem?_drop] at h1
                      obtain ⟨u, hu, hur⟩ := e5 _ k x c h1 h2
                      refine ⟨u, ?_, hur.mono m⟩
                      rwa [Nat.add_mul, show l.base + (lo * szOf P e + i2 * szOf P e + k) = l.base + lo * szOf P e + (i2 * szOf P e + k) by omega] at hu
                    · cases h1⟩⟩)
                exact ⟨_, _, _, _, _, hrun, own' _ _ _ cap ⟨l.b, l.base + lo * szOf P e, l.cap⟩ rfl (by omega) hcm (.inr ⟨by simp [Ctx.reloc], rfl, by simp only []; omega⟩), hk, rfl, key.1, key.2⟩
            · obtain ⟨_, ad, rfl, news, hnl, hnews, hnr⟩ := hsrc hy
              have hpos : 0 < m := by rw [hm]; exact List.length_pos_iff.2 hy
              have hnl' : news.length = ys.length * szOf P e := by rw [hnl, hm]
              have hone := flat_one hnl' hysz hyg hnr
              have h63' : ((len + m : Nat) : Int) ≤ 9223372036854775807 := by omega
              have hml := maxLen_eq
              -- a new array
              have grow : ∀ (olds : List Value) (old : Nat), olds.length = len * szOf P e → (∀ (i k : Nat) (x : List AVal) (c : AVal), ((xs.drop lo).take len)[i]? = some x → x[k]? = some c → ∃ u, olds[i * szOf P e + k]? = some u ∧ RepV C w u c) →
                  Done W0 C w (.ok (.slice (some ⟨w.heap.size, 0, none⟩) (len + m) (grownCap w (len + m) old e)) (w.drew.alloc (.cells (olds.toArray ++ news.toArray ++ Builtin.zeroCells z.cells (grownCap w (len + m) old e - (len + m))) e))) K := by
                intro olds old hol hor
                have hge := grownCap_ge w (len + m) old e
                have hcm2 := grownCap_le_maxLen w (len + m) old e (by omega)
                have key := I.reloc (w' := w.drew.alloc (.cells (olds.toArray ++ news.toArray ++ Builtin.zeroCells z.cells (grownCap w (len + m) old e - (len + m))) e)) (sz' := szOf P e) (xs' := (xs.drop lo).take len ++ ys) hr (Nat.lt_succ_self v)
                  (some ⟨w.heap.size, 0, grownCap w (len + m) old e * szOf P e⟩) (fun b hb _ => by first | exact heap_alloc_old w.drew _ b hb | exact heap_alloc_old w.drew _ hb) (by simp) (below_alloc I.below.drew _)
                  (fun l2 h2 => by
                    simp only [Option.some.injEq] at h2; subst h2
                    exact ⟨hb0, by simp, fun hA => by have := I.sub _ hA; simp at this, fun r' l' hne h' eb => by have := (I.sep _ _ h').2.2.1; simp only at eb; omega⟩)
                  (fun m2 => by
                    have hr2 := grown_row hall (by rw [hlen]; exact hol) hnl' hor hnr (grownCap w (len + m) old e) z.cells hzs (by rw [hlen]; omega) _ _ m2
                    rw [hlen, ← hm] at hr2
                    refine ⟨hsz1, hall, hallg, .inr ⟨⟨w.heap.size, 0, grownCap w (len + m) old e * szOf P e⟩, _, e, by simp [Ctx.reloc], heap_alloc_self w.drew _, hr2.1, ?_, hr2.2⟩⟩
                    simp only [List.length_append, hlen, Nat.zero_add, ← hm]
                    exact Nat.mul_le_mul_right _ hge)
                exact ⟨_, _, _, _, _, rfl, own' _ _ _ _ ⟨w.heap.size, 0, grownCap w (len + m) old e * szOf P e⟩ rfl hge hcm2 (.inr ⟨by simp [Ctx.reloc], rfl, by simp⟩), hk, rfl, key.1, key.2⟩
              have h48' : (len + m) * i.bytes ≤ 140737488355328 := by rw [← hby, hm]; exact h48
              rcases hh with hc0 | ⟨l, hl, hsa, hfit⟩
              · have hl0 : len = 0 := by omega
                subst hl0
                subst hc0
                cases sa with
                | none =>
                  have hrun := run_append_nil (P := P) w T ty e i z hU hi hiz ad m xc news (by rw [hnl, hsi]) hnews hpos (by omega) (by rw [Nat.zero_add] at h48'; omega)
                  rw [hrun]
                  have := grow [] 0 (by simp) (by simp)
                  simpa using this
                | some b =>
                  have hrun := run_append_grow (P := P) w T ty e i z hU hi hiz b 0 0 [] (by simp) (by simp) ad m xc news (by rw [hnl, hsi]) hnews (by omega) h63' (growslice_ok (by omega) h48')
                  rw [hrun]
                  exact grow [] 0 (by simp) (by simp)
              · subst hsa
                rcases ho with ⟨e1, e2⟩ | ⟨l', arr, T', e1, e2, e3, e4, e5⟩
                · rw [hl] at e2; cases e2
                rw [hl, Option.some.injEq] at e1
                subst e1
                have hmul : (lo + len) * szOf P e ≤ xs.length * szOf P e := Nat.mul_le_mul_right _ hle
                have hadd : (lo + cap) * szOf P e = lo * szOf P e + cap * szOf P e := Nat.add_mul _ _ _
                have hadd2 : (lo + len) * szOf P e = lo * szOf P e + len * szOf P e := Nat.add_mul _ _ _
                have olds_get : ∀ j, j < len * szOf P e → ((arr.toList.drop (l.base + lo * szOf P e)).take (len * szOf P e))[j]? = arr[l.base + lo * szOf P e + j]? := by
                  intro j hj
                  rw [List.getElem?_take, if_pos hj, List.getElem?_drop, Array.getElem?_toList]
                have rep_old : ∀ (i k : Nat) (x : List AVal) (c : AVal), ((xs.drop lo).take len)[i]? = some x → x[k]? = some c → ∃ u, arr[l.base + lo * szOf P e + (i * szOf P e + k)]? = some u ∧ RepV C w u c ∧ i < len ∧ k < szOf P e := by
                  intro i2 k x c h1 h2
                  rw [List.getElem?_take] at h1
                  split at h1
                  · rename_i hi2
                    rw [List.getElem?_drop] at h1
                    obtain ⟨u, hu, hur⟩ := e5 _ k x c h1 h2
                    have hk2 : k < szOf P e := by have := getD_opt h2; have := hsz _ (List.mem_of_getElem? h1); omega
                    refine ⟨u, ?_, hur, hi2, hk2⟩
                    rwa [Nat.add_mul, show l.base + (lo * szOf P e + i2 * szOf P e + k) = l.base + lo * szOf P e + (i2 * szOf P e + k) by omega] at hu
                  · cases h1
                by_cases hroom : len + m ≤ cap
                · have hmul2 : (len + m) * szOf P e ≤ cap * szOf P e := Nat.mul_le_mul_right _ hroom
                  have hadd3 : (len + m) * szOf P e = len * szOf P e + m * szOf P e := Nat.add_mul _ _ _
                  have hfit2 : l.base + lo * szOf P e + len * i.size + news.length ≤ arr.size := by rw [← hsi, hnl, e3]; omega
                  have hrun := run_append_in (P := P) (ty := ty) hU hi l.b (l.base + lo * szOf P e) len cap arr T' e2 ad m xc news (by rw [hnl, hsi]) hnews hone hroom hfit2
                  have hsp := I.sep r l hl
                  have key := I.reloc (w' := w.setRow l.b (arr.toList.take (l.base + lo * szOf P e + len * i.size) ++ news ++ arr.toList.drop (l.base + lo * szOf P e + len * i.size + news.length)).toArray) (sz' := szOf P e) (xs' := (xs.drop lo).take len ++ ys) hr (Nat.lt_succ_self v)
                    (some ⟨l.b, l.base + lo * szOf P e, l.cap⟩) (fun b hb h' => setRow_other w l.b b _ (h' ⟨l.b, l.base + lo * szOf P e, l.cap⟩ rfl)) (by simp [World.setRow]) (below_setRow I.below hsp.2.1 _)
                    (fun l2 h2 => by
                      simp only [Option.some.injEq] at h2; subst h2
                      exact ⟨hsp.2.1, by simpa [World.setRow] using hsp.2.2.1, hsp.2.2.2, fun r' l' hne h' eb => hne (I.inj _ _ _ _ h' hl eb)⟩)
                    (fun m2 => ⟨hsz1, hall, hallg, .inr ⟨⟨l.b, l.base + lo * szOf P e, l.cap⟩, _, T', by simp [Ctx.reloc], heap_setRow e2, by rw [splice_size hfit2]; exact e3, by
                        simp only [List.length_append, hlen, ← hm]; omega, fun i2 k x c h1 h2 => by
                      dsimp only
                      rw [splice_get hfit2]
                      by_cases hi2 : i2 < len
                      · rw [List.getElem?_append_left (by rw [hlen]; exact hi2)] at h1
                        obtain ⟨u, hu, hur, _, hk2⟩ := rep_old i2 k x c h1 h2
                        have : (i2 + 1) * szOf P e ≤ len * szOf P e := Nat.mul_le_mul_right _ hi2
                        rw [Nat.add_mul, Nat.one_mul] at this
                        exact ⟨u, by rw [if_pos (by rw [← hsi]; omega)]; exact hu, hur.mono m2⟩
                      · rw [List.getElem?_append_right (by rw [hlen]; omega), hlen] at h1
                        obtain ⟨u, hu, hur⟩ := hnr _ k x c h1 h2
                        have hlt3 := getD_opt hu
                        have h5 : len * szOf P e ≤ i2 * szOf P e := Nat.mul_le_mul_right _ (by omega)
                        rw [Nat.sub_mul] at hu hlt3
                        refine ⟨u, ?_, hur.mono m2⟩
                        rw [if_neg (by rw [← hsi]; omega), if_pos (by rw [← hsi]; omega)]
                        rw [← hu]
                        congr 1
                        rw [← hsi]
                        omega⟩⟩)
                  exact ⟨_, _, _, _, _, hrun, own' _ _ _ cap ⟨l.b, l.base + lo * szOf P e, l.cap⟩ rfl hroom hcm (.inr ⟨by simp [Ctx.reloc], rfl, by simp only []; omega⟩), hk, rfl, key.1, key.2⟩
                · have hrun := run_append_grow (P := P) w T ty e i z hU hi hiz ⟨l.b, l.base + lo * szOf P e, none⟩ len cap ((arr.toList.drop (l.base + lo * szOf P e)).take (len * szOf P e)) (by simp [← hsi]; omega)
                    (fun j u hj => by
                      have hlt3 : j < len * szOf P e := by have := getD_opt hj; simp at this; omega
                      rw [olds_get j hlt3] at hj
                      rw [add_none _ _ rfl]
                      simp only [World.cell?, e2]
                      simpa using hj) ad m xc news (by rw [hnl, hsi]) hnews (by omega) h63' (growslice_ok (by omega) h48')
                  rw [hrun]
                  exact grow _ cap (by simp; omega) (fun i2 k x c h1 h2 => by
                    obtain ⟨u, hu, hur, hi2, hk2⟩ := rep_old i2 k x c h1 h2
                    have : (i2 + 1) * szOf P e ≤ len * szOf P e := Nat.mul_le_mul_right _ hi2
                    rw [Nat.add_mul, Nat.one_mul] at this
                    exact ⟨u, by rw [olds_get _ (by omega)]; exact hu, hur⟩)
        · exact h.elim
      · exact h.elim
    · exact h.elim
  · exact h.elim
end
end Go.Ab
