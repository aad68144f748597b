/-
  More rules for the walk: loops that name their objects anew, contracts told with less.
-/
import Derived.Test.YtciaimpdnjpajaaSkX
namespace Go.Ab
open Go Go.RowKit

theorem OwnFn.argN {P : Program} {f : FuncId} {args args' : List AVal} {R : AVal → List AObj → Prop} (hn : nleA args args') (h : OwnFn P f args' R) : OwnFn P f args R := by
  intro A w vs hA hv
  refine h A w vs hA ?_
  have hg := nleA_get hn
  refine ⟨by rw [hv.1, hg.1], fun i v a h1 h2 => ?_⟩
  obtain ⟨c, h3, h4⟩ := hg.2 i a h2
  exact (nle1_rep h4 (hv.2 i v c h1 h3)).1
/-- A loop, with what must be shown of its states word by word, behind other words for the same state. -/
theorem AWP.loopS {md : Option Nat} {P : Program} {n : Nat} {Q : Exit → Fr → List AObj → Prop} {outer : List Fr} {fr : Fr} {H : List AObj} {ι : Type} {c : Code} (F : ι → Fr) (HH : ι → List AObj) (J : ι → Prop) (μ : ι → Nat) (x0 : ι) (h0 : J x0) (hF0 : subF fr (F x0)) (hH0 : subH H (HH x0))
    (hb : ∀ x, belFr (HH x).length (F x) = true ∧ belH (HH x).length (HH x) = true ∧ outer.all (belFr (HH x).length) = true)
    (round : ∀ x, J x → AWP md P n c (qthen (fun fr' H' => ∃ x', J x' ∧ μ x' < μ x ∧ ∃ fr2 H2, Sub outer fr' H' fr2 H2 ∧ subF fr2 (F x') ∧ subH H2 (HH x')) Q) outer (F x) (HH x)) : AWP md P n (.loop c) Q outer fr H := by
  refine AWP.loop F HH J μ x0 h0 (Sub.weak hH0 hF0 (.inr (hb x0))) fun x hx => AWP.mono ?_ (round x hx)
  intro e fr' H' h
  cases e with
  | normal =>
    obtain ⟨x', h1, h2, fr2, H2, h5, h3, h4⟩ := h
    exact ⟨x', h1, h2, h5.trans (Sub.weak h4 h3 (.inr (hb x')))⟩
  | _ => exact h
theorem FreshFn.nle {P : Program} {f : FuncId} {args : List AVal} {r' : AVal} (h : FreshFn P f args (fun r => nle2 r r')) : FreshFn P f args (· = r') := by
  intro A w vs hA hv
  refine (h A w vs hA hv).mono fun e w' ⟨v, r, h1, h2, h3, h4, h5⟩ => ?_
  have := nle2_rep h2 h5
  exact ⟨v, r', h1, rfl, this.2 h3, h4, this.1⟩
theorem FreshFn.argN {P : Program} {f : FuncId} {args args' : List AVal} {R : AVal → Prop} (hn : nleA args args') (h : FreshFn P f args' R) : FreshFn P f args R := by
  intro A w vs hA hv
  refine h A w vs hA ?_
  have hg := nleA_get hn
  refine ⟨by rw [hv.1, hg.1], fun i v a h1 h2 => ?_⟩
  obtain ⟨c, h3, h4⟩ := hg.2 i a h2
  exact (nle1_rep h4 (hv.2 i v c h1 h3)).1
theorem all_f0_intC (l : List Int) : ((l.map intC).all fun x => x.all AVal.f0) = true := by simp [intC, AVal.f0]
theorem all_f0_boolC (l : List Bool) : ((l.map boolC).all fun x => x.all AVal.f0) = true := by simp [boolC, AVal.f0]
def inti8C (n : Int) : List AVal := [.int .i8 n]
def inti8V (n : Int) : AVal := .int .i8 n
theorem inti8C_app (l : List Int) (a : Int) : l.map inti8C ++ [[.int .i8 a]] = (l ++ [a]).map inti8C := by simp [inti8C]
theorem inti8C_set (l : List Int) (i : Nat) (a : Int) : (l.map inti8C).set i [.int .i8 a] = (l.set i a).map inti8C := by simp [inti8C]
theorem rep_inti8C (n : Nat) (a : Int) : List.replicate n [AVal.int .i8 a] = (List.replicate n a).map inti8C := by simp [inti8C]
theorem inti8V_set (m : List (Int × Int)) (n x : Int) : aset (mpE inti8V m) n (.int .i8 x) = mpE inti8V (mset m n x) := aset_mpE inti8V m n x
theorem inti8V_set0 (n x : Int) : aset [] n (.int .i8 x) = mpE inti8V (mset [] n x) := rfl
theorem all_f0_inti8C (l : List Int) : ((l.map inti8C).all fun x => x.all AVal.f0) = true := by simp [inti8C, AVal.f0]
def inti16C (n : Int) : List AVal := [.int .i16 n]
def inti16V (n : Int) : AVal := .int .i16 n
theorem inti16C_app (l : List Int) (a : Int) : l.map inti16C ++ [[.int .i16 a]] = (l ++ [a]).map inti16C := by simp [inti16C]
theorem inti16C_set (l : List Int) (i : Nat) (a : Int) : (l.map inti16C).set i [.int .i16 a] = (l.set i a).map inti16C := by simp [inti16C]
theorem rep_inti16C (n : Nat) (a : Int) : List.replicate n [AVal.int .i16 a] = (List.replicate n a).map inti16C := by simp [inti16C]
theorem inti16V_set (m : List (Int × Int)) (n x : Int) : aset (mpE inti16V m) n (.int .i16 x) = mpE inti16V (mset m n x) := aset_mpE inti16V m n x
theorem inti16V_set0 (n x : Int) : aset [] n (.int .i16 x) = mpE inti16V (mset [] n x) := rfl
theorem all_f0_inti16C (l : List Int) : ((l.map inti16C).all fun x => x.all AVal.f0) = true := by simp [inti16C, AVal.f0]
def inti32C (n : Int) : List AVal := [.int .i32 n]
def inti32V (n : Int) : AVal := .int .i32 n
theorem inti32C_app (l : List Int) (a : Int) : l.map inti32C ++ [[.int .i32 a]] = (l ++ [a]).map inti32C := by simp [inti32C]
theorem inti32C_set (l : List Int) (i : Nat) (a : Int) : (l.map inti32C).set i [.int .i32 a] = (l.set i a).map inti32C := by simp [inti32C]
theorem rep_inti32C (n : Nat) (a : Int) : List.replicate n [AVal.int .i32 a] = (List.replicate n a).map inti32C := by simp [inti32C]
theorem inti32V_set (m : List (Int × Int)) (n x : Int) : aset (mpE inti32V m) n (.int .i32 x) = mpE inti32V (mset m n x) := aset_mpE inti32V m n x
theorem inti32V_set0 (n x : Int) : aset [] n (.int .i32 x) = mpE inti32V (mset [] n x) := rfl
theorem all_f0_inti32C (l : List Int) : ((l.map inti32C).all fun x => x.all AVal.f0) = true := by simp [inti32C, AVal.f0]
def intu8C (n : Int) : List AVal := [.int .u8 n]
def intu8V (n : Int) : AVal := .int .u8 n
theorem intu8C_app (l : List Int) (a : Int) : l.map intu8C ++ [[.int .u8 a]] = (l ++ [a]).map intu8C := by simp [intu8C]
theorem intu8C_set (l : List Int) (i : Nat) (a : Int) : (l.map intu8C).set i [.int .u8 a] = (l.set i a).map intu8C := by simp [intu8C]
theorem rep_intu8C (n : Nat) (a : Int) : List.replicate n [AVal.int .u8 a] = (List.replicate n a).map intu8C := by simp [intu8C]
theorem intu8V_set (m : List (Int × Int)) (n x : Int) : aset (mpE intu8V m) n (.int .u8 x) = mpE intu8V (mset m n x) := aset_mpE intu8V m n x
theorem intu8V_set0 (n x : Int) : aset [] n (.int .u8 x) = mpE intu8V (mset [] n x) := rfl
theorem all_f0_intu8C (l : List Int) : ((l.map intu8C).all fun x => x.all AVal.f0) = true := by simp [intu8C, AVal.f0]
def intu16C (n : Int) : List AVal := [.int .u16 n]
def intu16V (n : Int) : AVal := .int .u16 n
theorem intu16C_app (l : List Int) (a : Int) : l.map intu16C ++ [[.int .u16 a]] = (l ++ [a]).map intu16C := by simp [intu16C]
theorem intu16C_set (l : List Int) (i : Nat) (a : Int) : (l.map intu16C).set i [.int .u16 a] = (l.set i a).map intu16C := by simp [intu16C]
theorem rep_intu16C (n : Nat) (a : Int) : List.replicate n [AVal.int .u16 a] = (List.replicate n a).map intu16C := by simp [intu16C]
theorem intu16V_set (m : List (Int × Int)) (n x : Int) : aset (mpE intu16V m) n (.int .u16 x) = mpE intu16V (mset m n x) := aset_mpE intu16V m n x
theorem intu16V_set0 (n x : Int) : aset [] n (.int .u16 x) = mpE intu16V (mset [] n x) := rfl
theorem all_f0_intu16C (l : List Int) : ((l.map intu16C).all fun x => x.all AVal.f0) = true := by simp [intu16C, AVal.f0]
def intu32C (n : Int) : List AVal := [.int .u32 n]
def intu32V (n : Int) : AVal := .int .u32 n
theorem intu32C_app (l : List Int) (a : Int) : l.map intu32C ++ [[.int .u32 a]] = (l ++ [a]).map intu32C := by simp [intu32C]
theorem intu32C_set (l : List Int) (i : Nat) (a : Int) : (l.map intu32C).set i [.int .u32 a] = (l.set i a).map intu32C := by simp [intu32C]
theorem rep_intu32C (n : Nat) (a : Int) : List.replicate n [AVal.int .u32 a] = (List.replicate n a).map intu32C := by simp [intu32C]
theorem intu32V_set (m : List (Int × Int)) (n x : Int) : aset (mpE intu32V m) n (.int .u32 x) = mpE intu32V (mset m n x) := aset_mpE intu32V m n x
theorem intu32V_set0 (n x : Int) : aset [] n (.int .u32 x) = mpE intu32V (mset [] n x) := rfl
theorem all_f0_intu32C (l : List Int) : ((l.map intu32C).all fun x => x.all AVal.f0) = true := by simp [intu32C, AVal.f0]
def intu64C (n : Int) : List AVal := [.int .u64 n]
def intu64V (n : Int) : AVal := .int .u64 n
theorem intu64C_app (l : List Int) (a : Int) : l.map intu64C ++ [[.int .u64 a]] = (l ++ [a]).map intu64C := by simp [intu64C]
theorem intu64C_set (l : List Int) (i : Nat) (a : Int) : (l.map intu64C).set i [.int .u64 a] = (l.set i a).map intu64C := by simp [intu64C]
theorem rep_intu64C (n : Nat) (a : Int) : List.replicate n [AVal.int .u64 a] = (List.replicate n a).map intu64C := by simp [intu64C]
theorem intu64V_set (m : List (Int × Int)) (n x : Int) : aset (mpE intu64V m) n (.int .u64 x) = mpE intu64V (mset m n x) := aset_mpE intu64V m n x
theorem intu64V_set0 (n x : Int) : aset [] n (.int .u64 x) = mpE intu64V (mset [] n x) := rfl
theorem all_f0_intu64C (l : List Int) : ((l.map intu64C).all fun x => x.all AVal.f0) = true := by simp [intu64C, AVal.f0]
attribute [go_sem] inti8C inti8V inti8C_app inti8C_set rep_inti8C inti8V_set inti8V_set0 all_f0_inti8C inti16C inti16V inti16C_app inti16C_set rep_inti16C inti16V_set inti16V_set0 all_f0_inti16C inti32C inti32V inti32C_app inti32C_set rep_inti32C inti32V_set inti32V_set0 all_f0_inti32C intu8C intu8V intu8C_app intu8C_set rep_intu8C intu8V_set intu8V_set0 all_f0_intu8C intu16C intu16V intu16C_app intu16C_set rep_intu16C intu16V_set intu16V_set0 all_f0_intu16C intu32C intu32V intu32C_app intu32C_set rep_intu32C intu32V_set intu32V_set0 all_f0_intu32C intu64C intu64V intu64C_app intu64C_set rep_intu64C intu64V_set intu64V_set0 all_f0_intu64C
attribute [go_sem] rfre fre0 fre1 fre2 all_f0_intC all_f0_boolC ren rens renO renFr renFrs renH swp swapH
end Go.Ab
