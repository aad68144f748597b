/-
  The data of the program, as plain Lean; how it stands in memory; printed by a small program of our own (wip/walk.py).
-/
import Derived.Test.YtacfmeobdobhhaaTypes
import Derived.Test.YtacfmeobdobhhaaSkZ
namespace Go.Proofs.Ytacfmeobdobhhaa
open Go Go.Ab

structure ApiEdge where
  ID : Int
  From : Int
  To : Int
  Cost : Int
  deriving DecidableEq, Inhabited
def encApiEdge (x : ApiEdge) : List AVal := [.int .i64 x.ID, .int .i64 x.From, .int .i64 x.To, .int .i64 x.Cost]
def encApiEdgeV (x : ApiEdge) : AVal := .agg (encApiEdge x)
theorem encApiEdge_app (l : List ApiEdge) (a0 : Int) (a1 : Int) (a2 : Int) (a3 : Int) : l.map encApiEdge ++ [[.int .i64 a0, .int .i64 a1, .int .i64 a2, .int .i64 a3]] = (l ++ [(ApiEdge.mk a0 a1 a2 a3)]).map encApiEdge := by simp [encApiEdge]
theorem encApiEdge_set (l : List ApiEdge) (i : Nat) (a0 : Int) (a1 : Int) (a2 : Int) (a3 : Int) : (l.map encApiEdge).set i [.int .i64 a0, .int .i64 a1, .int .i64 a2, .int .i64 a3] = (l.set i (ApiEdge.mk a0 a1 a2 a3)).map encApiEdge := by simp [encApiEdge]
theorem encApiEdge_rep (n : Nat) (a0 : Int) (a1 : Int) (a2 : Int) (a3 : Int) : List.replicate n ([.int .i64 a0, .int .i64 a1, .int .i64 a2, .int .i64 a3] : List AVal) = (List.replicate n (ApiEdge.mk a0 a1 a2 a3)).map encApiEdge := by simp [encApiEdge]
theorem encApiEdgeV_set (m : List (Int × ApiEdge)) (n : Int) (a0 : Int) (a1 : Int) (a2 : Int) (a3 : Int) : aset (mpE encApiEdgeV m) n (.agg [.int .i64 a0, .int .i64 a1, .int .i64 a2, .int .i64 a3]) = mpE encApiEdgeV (mset m n (ApiEdge.mk a0 a1 a2 a3)) := aset_mpE encApiEdgeV m n (ApiEdge.mk a0 a1 a2 a3)
theorem encApiEdgeV_set0 (n : Int) (a0 : Int) (a1 : Int) (a2 : Int) (a3 : Int) : aset [] n (.agg [.int .i64 a0, .int .i64 a1, .int .i64 a2, .int .i64 a3]) = mpE encApiEdgeV (mset [] n (ApiEdge.mk a0 a1 a2 a3)) := rfl
theorem all_f0_encApiEdge (l : List ApiEdge) : ((l.map encApiEdge).all fun x => x.all AVal.f0) = true := by simp [encApiEdge, AVal.f0]
attribute [go_sem] all_f0_encApiEdge
def OkApiEdge (x : ApiEdge) : Prop := I64 x.ID ∧ I64 x.From ∧ I64 x.To ∧ I64 x.Cost
attribute [go_sem] encApiEdge encApiEdgeV encApiEdge_app encApiEdge_set encApiEdgeV_set

structure FlowMove where
  edge : Int
  forward : Bool
  deriving DecidableEq, Inhabited
def encFlowMove (x : FlowMove) : List AVal := [.int .i64 x.edge, .bool x.forward]
def encFlowMoveV (x : FlowMove) : AVal := .agg (encFlowMove x)
theorem encFlowMove_app (l : List FlowMove) (a0 : Int) (a1 : Bool) : l.map encFlowMove ++ [[.int .i64 a0, .bool a1]] = (l ++ [(FlowMove.mk a0 a1)]).map encFlowMove := by simp [encFlowMove]
theorem encFlowMove_set (l : List FlowMove) (i : Nat) (a0 : Int) (a1 : Bool) : (l.map encFlowMove).set i [.int .i64 a0, .bool a1] = (l.set i (FlowMove.mk a0 a1)).map encFlowMove := by simp [encFlowMove]
theorem encFlowMove_rep (n : Nat) (a0 : Int) (a1 : Bool) : List.replicate n ([.int .i64 a0, .bool a1] : List AVal) = (List.replicate n (FlowMove.mk a0 a1)).map encFlowMove := by simp [encFlowMove]
theorem encFlowMoveV_set (m : List (Int × FlowMove)) (n : Int) (a0 : Int) (a1 : Bool) : aset (mpE encFlowMoveV m) n (.agg [.int .i64 a0, .bool a1]) = mpE encFlowMoveV (mset m n (FlowMove.mk a0 a1)) := aset_mpE encFlowMoveV m n (FlowMove.mk a0 a1)
theorem encFlowMoveV_set0 (n : Int) (a0 : Int) (a1 : Bool) : aset [] n (.agg [.int .i64 a0, .bool a1]) = mpE encFlowMoveV (mset [] n (FlowMove.mk a0 a1)) := rfl
theorem all_f0_encFlowMove (l : List FlowMove) : ((l.map encFlowMove).all fun x => x.all AVal.f0) = true := by simp [encFlowMove, AVal.f0]
attribute [go_sem] all_f0_encFlowMove
def OkFlowMove (x : FlowMove) : Prop := I64 x.edge ∧ True
attribute [go_sem] encFlowMove encFlowMoveV encFlowMove_app encFlowMove_set encFlowMoveV_set

theorem take_one_cons {α β : Type} (f : β → α) (a : α) (l : List β) : (a :: l.map f).take (1 + l.length) = a :: l.map f := List.take_of_length_le (by simp; omega)
attribute [go_sem] take_one_cons
end Go.Proofs.Ytacfmeobdobhhaa
