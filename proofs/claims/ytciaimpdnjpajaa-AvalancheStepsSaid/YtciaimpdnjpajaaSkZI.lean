/-
  Short words for the walks: steps with what closes them filled in.
-/
import Derived.Test.YtciaimpdnjpajaaSkZH
namespace Go.Ab
open Go Go.RowKit
section
variable {P : Program} {md : Option Nat} {n : Nat} {outer : List Fr} {Q : Exit → Fr → List AObj → Prop} {fr : Fr} {H : List AObj}

theorem nS {a b : Prop} (h : b) (e : a = b := by first | (conv => lhs; simp +decide -implicitDefEqProofs only [go_sem]) | exact rfl) : a := by rw [e]; exact h
theorem nSc {a b p : Prop} (w : p) (h : b) (e : p → a = b := by intro hw; first | (conv => lhs; simp +decide -implicitDefEqProofs only [go_sem, hw]) | exact rfl) : a := by rw [e w]; exact h
theorem nSt {a b p : Prop} (w : p) (h : b) (e : p → a = b := by intro hw; first | (conv => lhs; simp +decide -implicitDefEqProofs only [go_sem, hw, Bool.not_true]) | exact rfl) : a := by rw [e w]; exact h
theorem nSf {a b p : Prop} (w : p) (h : b) (e : p → a = b := by intro hw; first | (conv => lhs; simp +decide -implicitDefEqProofs only [go_sem, hw, Bool.not_false]) | exact rfl) : a := by rw [e w]; exact h
theorem cu {a : Prop} (h : a := by (simp +decide -implicitDefEqProofs only [go_sem, mpE_nil, AVal.int.injEq, Int.natCast_zero, List.replicate_zero, List.length_take, List.length_drop, AVal.own.injEq, reduceCtorEq, Int.reduceAdd] <;> omega)) : a := h
theorem cuw {a p : Prop} (w : p) (h : p → a := by intro hw; (simp +decide -implicitDefEqProofs only [go_sem, mpE_nil, AVal.int.injEq, Int.natCast_zero, List.replicate_zero, List.length_take, List.length_drop, AVal.own.injEq, reduceCtorEq, Int.reduceAdd, hw] <;> omega)) : a := h w
theorem en {a p : Prop} (w : p) (h : p → a := by intro hw; simp +decide -implicitDefEqProofs only [go_sem, mpE_nil, AVal.int.injEq, Int.natCast_zero, List.replicate_zero, List.length_take, List.length_drop, AVal.own.injEq, reduceCtorEq, Int.reduceAdd, nle2, nle1, nle0, nleA, nleL, hw]) : a := h w
theorem ar {id : Nat} {ops : List Oper} {fr' : Fr} {H' : List AObj} (hd : dstOK n ops = true) (h : Q .normal fr' H') (e : ∀ K : Fr → List AObj → Prop, alist P outer ops ops K fr H = K fr' H' := by intro K; conv => lhs; simp +decide -implicitDefEqProofs only [go_sem]) :
    AWP md P n (.region id ops.toArray false) Q outer fr H := AWP.region hd fun K hK => by rw [e K]; exact hK _ _ h
theorem rg {id : Nat} {ops : List Oper} {X : (Fr → List AObj → Prop) → Prop} (hd : dstOK n ops = true) (h : ∀ K : Fr → List AObj → Prop, (∀ fr H, Q .normal fr H → K fr H) → X K) (e : ∀ K : Fr → List AObj → Prop, alist P outer ops ops K fr H = X K := by intro K; conv => lhs; simp +decide -implicitDefEqProofs only [go_sem]) :
    AWP md P n (.region id ops.toArray false) Q outer fr H := AWP.region hd fun K hK => by rw [e K]; exact h K hK
theorem sq {c d : Code} (h : AWP md P n c (qthen (AWP md P n d Q outer) Q) outer fr H) : AWP md P n (.seq c d) Q outer fr H := AWP.seq h
theorem qn {K : Fr → List AObj → Prop} (h : K fr H) : qthen K Q .normal fr H := h
theorem qr {K : Fr → List AObj → Prop} (h : Q .ret fr H) : qthen K Q .ret fr H := h
theorem qe {K : Fr → List AObj → Prop} {i : Nat} (h : Q (.exit i) fr H) : qthen K Q (.exit i) fr H := h
theorem bn {id : Nat} (h : Q .normal fr H) : qblock id Q .normal fr H := h
theorem br {id : Nat} (h : Q .ret fr H) : qblock id Q .ret fr H := h
theorem bs {id : Nat} (h : Q .normal fr H) : qblock id Q (.exit id) fr H := qblock_same h
theorem bk {id : Nat} {c : Code} (h : AWP md P n c (qblock id Q) outer fr H) : AWP md P n (.block id c) Q outer fr H := AWP.block h
theorem sk (h : Q .normal fr H) : AWP md P n .skip Q outer fr H := AWP.skip h
theorem rt (h : Q .ret fr H) : AWP md P n .ret Q outer fr H := AWP.ret h
theorem xt {id : Nat} (h : Q (.exit id) fr H) : AWP md P n (.exit id) Q outer fr H := AWP.exit h
theorem cs {α : Type} {t : Bool} {A B : Option α} {r : α} {yes no : Prop} (h1 : t = true → A = some r → yes) (h2 : t = false → B = some r → no) (h : (bif t then A else B) = some r) : acond (.bool t) yes no := by
  cases t with
  | true => exact acond_true (h1 rfl h)
  | false => exact acond_false (h2 rfl h)
theorem ca {α : Type} {t : Bool} {A B : Option α} {r : α} {x : Operand} {c d : Code} (hx : ev fr x = .bool t) (h1 : t = true → A = some r → AWP md P n c Q outer fr H) (h2 : t = false → B = some r → AWP md P n d Q outer fr H) (h : (bif t then A else B) = some r) : AWP md P n (.cond x c d) Q outer fr H :=
  AWP.cond (by rw [hx]; exact cs h1 h2 h)
theorem gt {α : Type} {c : Bool} {Y N : Fr → List AObj → Prop} {A B : Option α} {r : α} {a b : Prop} (h1 : c = true → A = some r → a) (h2 : c = false → B = some r → b)
    (e1 : c = true → Y fr H = a := by intro hw; first | (conv => lhs; simp +decide -implicitDefEqProofs only [go_sem, hw]) | exact rfl) (e2 : c = false → N fr H = b := by intro hw; first | (conv => lhs; simp +decide -implicitDefEqProofs only [go_sem, hw]) | exact rfl) (h : (bif c then A else B) = some r) : aguardK (.bool c) true Y N fr H :=
  aguardK_split (fun hc => by rw [e1 hc]; exact h1 hc (bif_t h hc)) (fun hc => by rw [e2 hc]; exact h2 hc (bif_f h hc))
theorem gf {α : Type} {c : Bool} {Y N : Fr → List AObj → Prop} {A B : Option α} {r : α} {a b : Prop} (h1 : c = false → B = some r → a) (h2 : c = true → A = some r → b)
    (e1 : c = false → Y fr H = a := by intro hw; first | (conv => lhs; simp +decide -implicitDefEqProofs only [go_sem, hw]) | exact rfl) (e2 : c = true → N fr H = b := by intro hw; first | (conv => lhs; simp +decide -implicitDefEqProofs only [go_sem, hw]) | exact rfl) (h : (bif c then A else B) = some r) : aguardK (.bool c) false Y N fr H :=
  aguardK_split (fun hc => by rw [e1 hc]; exact h1 hc (bif_f h hc)) (fun hc => by rw [e2 hc]; exact h2 hc (bif_t h hc))
theorem rp {a b : Prop} (k : b) (h : a := by first | omega | (simp only [List.length_take, List.length_drop, List.length_append]; omega)) : a ∧ b := ⟨h, k⟩
theorem wk {k : Nat} (h : k < 9223372036854775807) : IntKind.i64.wrap (((k : Nat) : Int) + 1) = (((k : Nat) : Int) + (1 : Int)) := by rw [wrap_i64] <;> omega
end
end Go.Ab
