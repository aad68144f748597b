/-
  Small rules for the walk, and for the places where it stops.
-/
import Derived.Test.YtciaimpdnjpajaaSkS
namespace Go.Ab
open Go Go.RowKit
section
variable {P : Program} {md : Option Nat} {n : Nat} {Q : Exit → Fr → List AObj → Prop} {outer : List Fr} {fr : Fr} {H : List AObj}

theorem AWP.seqRegion {id : Nat} {ops : List Oper} {d : Code} (hd : dstOK n ops = true)
    (h : ∀ K : Fr → List AObj → Prop, (∀ fr H, AWP md P n d Q outer fr H → K fr H) → alist P outer ops ops K fr H) : AWP md P n (.seq (.region id ops.toArray false) d) Q outer fr H :=
  AWP.seq (AWP.region hd fun K hK => h K fun fr H h' => hK fr H h')

theorem AWP.seqDraw {id : Nat} {ops : List Oper} {d : Code} (hm : P.follows .mixedOrders = true) (hok : drawOK n ops = true)
    (h : ∀ K : Log → Fr → List AObj → Prop, (∀ log fr H, okLog (masks ops []) log = true → AWP md P n d Q outer fr H → K log fr H) → dlist P ops (H ++ resvs ops).length K ops 0 H.length [] fr (H ++ resvs ops)) :
    AWP md P n (.seq (.region id ops.toArray true) d) Q outer fr H :=
  AWP.seq (AWP.draw hm hok fun K hK => h K fun log fr H hl h' => hK log fr H hl h')

theorem DCall.snap {f : FuncId} {args args' : List AVal} {r : AVal} {id : Nat} {K : AVal → Eff → Prop} (hc : ∀ (args : Array Value) (w : World), (callFunc f args).run P w = .ok (.enter f args) w)
    (spec : PureFn P f args' (· = r)) (ha : mapO (frz1 H) args = some args') (hflat : r.f2 = true) (h : K r .none) : DCall P (.func f []) args H id K :=
  ⟨f, args', r, .none, rfl, hc, .inl ⟨rfl, .inl ⟨spec, ha, hflat⟩⟩, h⟩
theorem DCall.snapF {f : FuncId} {args args' : List AVal} {r : AVal} {id : Nat} {K : AVal → Eff → Prop} (hc : ∀ (args : Array Value) (w : World), (callFunc f args).run P w = .ok (.enter f args) w)
    (spec : FreshFn P f args' (· = r)) (ha : mapO (frz1 H) args = some args') (h : K r .none) : DCall P (.func f []) args H id K :=
  ⟨f, args', r, .none, rfl, hc, .inl ⟨rfl, .inr (.inr ⟨spec, ha⟩)⟩, h⟩
theorem DCall.eff {f : FuncId} {args : List AVal} {r : AVal} {id : Nat} {H : List AObj} {K : AVal → Eff → Prop} (r0 : Nat) (o' : AObj) (hc : ∀ (args : Array Value) (w : World), (callFunc f args).run P w = .ok (.enter f args) w)
    (hr0 : (ridA args).contains r0 = true) (hx : ∃ x, H[r0]? = some x ∧ x ≠ .resv) (hcall : ∀ (st : List Fr) (H' : List AObj), H'.length = H.length → (∀ q ∈ ridA args, H'[q]? = H[q]?) → ACall P (.func f []) args st H' fun r' H'' => r' = r ∧ H'' = H'.set r0 o')
    (h : K r (.set r0 o')) : DCall P (.func f []) args H id K :=
  ⟨f, [], r, .set r0 o', rfl, hc, .inr (.inr ⟨r0, o', rfl, by simpa using hr0, hx, hcall⟩), h⟩
theorem lenCons {n : Nat} {H : List AObj} (h : H.length = n + 1) : ∃ x T, H = x :: T ∧ T.length = n := by
  cases H with
  | nil => cases h
  | cons x T => exact ⟨x, T, rfl, by simpa using h⟩
theorem lenNil {H : List AObj} (h : H.length = 0) : H = [] := List.length_eq_zero_iff.1 h
theorem DCall.pure {f : FuncId} {args : List AVal} {r : AVal} {id : Nat} {K : AVal → Eff → Prop} (hc : ∀ (args : Array Value) (w : World), (callFunc f args).run P w = .ok (.enter f args) w)
    (spec : PureFn P f args (· = r)) (hg : args.all AVal.g2 = true) (h : K r .none) : DCall P (.func f []) args H id K :=
  ⟨f, args, r, .none, rfl, hc, .inl ⟨rfl, .inr (.inl ⟨spec, hg, rfl⟩)⟩, h⟩
theorem DCall.row {f : FuncId} {args : List AVal} {id sz : Nat} {xs : List (List AVal)} {K : AVal → Eff → Prop} (hc : ∀ (args : Array Value) (w : World), (callFunc f args).run P w = .ok (.enter f args) w)
    (spec : OwnRow P f args sz xs) (hg : args.all AVal.g2 = true) (h : K (.own id 0 0 xs.length) (.new id (.row 0 sz xs))) : DCall P (.func f []) args H id K :=
  ⟨f, args, _, _, rfl, hc, .inr (.inl ⟨sz, xs, spec, rfl, rfl, .inl ⟨hg, rfl⟩⟩), h⟩
theorem DCall.rowS {f : FuncId} {args args' : List AVal} {id sz : Nat} {xs : List (List AVal)} {K : AVal → Eff → Prop} (hc : ∀ (args : Array Value) (w : World), (callFunc f args).run P w = .ok (.enter f args) w)
    (spec : OwnRow P f args' sz xs) (ha : mapO (frz1 H) args = some args') (hfl : (xs.all fun x => x.all AVal.f0) = true) (h : K (.own id 0 0 xs.length) (.new id (.row 0 sz xs))) : DCall P (.func f []) args H id K :=
  ⟨f, args', _, _, rfl, hc, .inr (.inl ⟨sz, xs, spec, rfl, rfl, .inr ⟨ha, hfl⟩⟩), h⟩
theorem ACall.row {f : FuncId} {args : List AVal} {st : List Fr} {sz : Nat} {xs : List (List AVal)} {K : AVal → List AObj → Prop} (hc : ∀ (args : Array Value) (w : World), (callFunc f args).run P w = .ok (.enter f args) w)
    (spec : OwnRow P f args sz xs) (hg : args.all AVal.g2 = true) (id : Nat) (hid : H.length = id) (h : K (.own id 0 0 xs.length) (H ++ [.row 0 sz xs])) : ACall P (.func f []) args st H K :=
  ACall.rowAt hc spec (.inl ⟨hg, rfl⟩) id (.inl hid.symm) (by unfold addAt; rw [if_pos hid.symm]; exact h)
theorem ACall.rowS {f : FuncId} {args args' : List AVal} {st : List Fr} {sz : Nat} {xs : List (List AVal)} {K : AVal → List AObj → Prop} (hc : ∀ (args : Array Value) (w : World), (callFunc f args).run P w = .ok (.enter f args) w)
    (spec : OwnRow P f args' sz xs) (ha : mapO (frz1 H) args = some args') (hfl : (xs.all fun x => x.all AVal.f0) = true) (id : Nat) (hid : H.length = id) (h : K (.own id 0 0 xs.length) (H ++ [.row 0 sz xs])) : ACall P (.func f []) args st H K :=
  ACall.rowAt hc spec (.inr ⟨ha, hfl⟩) id (.inl hid.symm) (by unfold addAt; rw [if_pos hid.symm]; exact h)

theorem qthen_normal {K : Fr → List AObj → Prop} (h : K fr H) : qthen K Q .normal fr H := h
theorem qthen_ret {K : Fr → List AObj → Prop} (h : Q .ret fr H) : qthen K Q .ret fr H := h
theorem qthen_exit {K : Fr → List AObj → Prop} {i : Nat} (h : Q (.exit i) fr H) : qthen K Q (.exit i) fr H := h
theorem qblock_normal {id : Nat} (h : Q .normal fr H) : qblock id Q .normal fr H := h
theorem qblock_ret {id : Nat} (h : Q .ret fr H) : qblock id Q .ret fr H := h
theorem qblock_same {id : Nat} (h : Q .normal fr H) : qblock id Q (.exit id) fr H := by simp only [qblock, if_true]; exact h
theorem qblock_other {id i : Nat} (hne : i ≠ id) (h : Q (.exit i) fr H) : qblock id Q (.exit i) fr H := by simp only [qblock, if_neg hne]; exact h
theorem acond_split {t : Bool} {yes no : Prop} (h1 : t = true → yes) (h2 : t = false → no) : acond (.bool t) yes no := ⟨h1, h2⟩
theorem acond_true {yes no : Prop} (h1 : yes) : acond (.bool true) yes no := ⟨fun _ => h1, fun h => by cases h⟩
theorem acond_false {yes no : Prop} (h1 : no) : acond (.bool false) yes no := ⟨(fun h => by cases h), fun _ => h1⟩
theorem AWP.condV {x : Operand} {c d : Code} {v : AVal} (hv : ev fr x = v) (h : acond v (AWP md P n c Q outer fr H) (AWP md P n d Q outer fr H)) : AWP md P n (.cond x c d) Q outer fr H :=
  AWP.cond (by rw [hv]; exact h)

/-- A loop, with what must be shown of its states word by word. -/
theorem AWP.loopW {ι : Type} {c : Code} (F : ι → Fr) (HH : ι → List AObj) (J : ι → Prop) (μ : ι → Nat) (x0 : ι) (h0 : J x0) (hF0 : subF fr (F x0)) (hH0 : subH H (HH x0))
    (hb : ∀ x, belFr (HH x).length (F x) = true ∧ belH (HH x).length (HH x) = true ∧ outer.all (belFr (HH x).length) = true)
    (round : ∀ x, J x → AWP md P n c (qthen (fun fr' H' => ∃ x', J x' ∧ μ x' < μ x ∧ subF fr' (F x') ∧ subH H' (HH x')) Q) outer (F x) (HH x)) : AWP md P n (.loop c) Q outer fr H := by
  refine AWP.loop F HH J μ x0 h0 (Sub.weak hH0 hF0 (.inr (hb x0))) fun x hx => AWP.mono ?_ (round x hx)
  intro e fr' H' h
  cases e with
  | normal =>
    obtain ⟨x', h1, h2, h3, h4⟩ := h
    exact ⟨x', h1, h2, Sub.weak h4 h3 (.inr (hb x'))⟩
  | _ => exact h

theorem AWP.ghost {c : Code} (k sz : Nat) (hk : get fr k = .nils) (hsz : 1 ≤ sz) (h : AWP md P n c Q outer ((k, .own H.length 0 0 0) :: fr) (H ++ [.row 0 sz []])) : AWP md P n c Q outer fr H :=
  AWP.sub (Sub.ghost k sz hk hsz) h
end

theorem AIdx.map {α : Type} {f : α → List AVal} {l : List α} {n : Int} {k sz : Nat} {K : List AVal → Prop} (hn : n = (k : Int)) (hk : k < l.length) (h : ∀ a, l[k]? = some a → K (f a)) : AIdx sz (l.map f) n K := by
  subst hn
  refine ⟨by omega, by simpa using hk, fun y hy _ => ?_⟩
  simp only [Int.toNat_natCast, List.getElem?_map] at hy
  cases ha : l[k]? with
  | none => simp [ha] at hy
  | some a => simp only [ha, Option.map_some, Option.some.injEq] at hy; subst hy; exact h a ha

theorem aguardK_split {c want : Bool} {Y N : Fr → List AObj → Prop} {fr : Fr} {H : List AObj} (h1 : c = want → Y fr H) (h2 : c = !want → N fr H) : aguardK (.bool c) want Y N fr H :=
  ⟨h1, fun h => h2 (by cases c <;> cases want <;> simp_all)⟩

theorem wrap_i64 {x : Int} (h1 : -9223372036854775808 ≤ x) (h2 : x ≤ 9223372036854775807) : IntKind.i64.wrap x = x := by
  rw [IntKind.wrap_i64]; omega

theorem take_succ_some {α : Type} {l : List α} {k : Nat} {a : α} (h : l[k]? = some a) : l.take (k + 1) = l.take k ++ [a] := by
  rw [List.take_add_one, h]; rfl


/-- a list of integers, as elements -/
def intC (n : Int) : List AVal := [.int .i64 n]
abbrev ints (l : List Int) : List (List AVal) := l.map intC

theorem take_map_self {α β : Type} (f : α → β) (l : List α) : (l.map f).take l.length = l.map f := by rw [List.take_of_length_le (by simp)]
theorem take_all {α : Type} {l : List α} {k n : Nat} (hk : k ≤ n) (h : decide ((k : Int) < (n : Int)) = false) (hn : n = l.length) : k = l.length ∧ l.take k = l := by
  have : k = l.length := by simp at h; omega
  exact ⟨this, by rw [this, List.take_length]⟩
theorem natCast_succ (k : Nat) : ((k + 1 : Nat) : Int) = (k : Int) + 1 := rfl
end Go.Ab
