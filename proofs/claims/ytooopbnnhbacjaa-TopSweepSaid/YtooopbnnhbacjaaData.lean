/-
  The data of the program, as plain Lean; how it stands in memory; printed by a small program of our own (wip/walk.py).
-/
import Derived.Test.YtooopbnnhbacjaaTypes
import Derived.Test.YtooopbnnhbacjaaSkZ
namespace Go.Proofs.Ytooopbnnhbacjaa
open Go Go.Ab

structure ApiNode where
  ID : Int
  Alt : Int
  deriving DecidableEq, Inhabited
def encApiNode (x : ApiNode) : List AVal := [.int .i64 x.ID, .int .i64 x.Alt]
def encApiNodeV (x : ApiNode) : AVal := .agg (encApiNode x)
theorem encApiNode_app (l : List ApiNode) (a0 : Int) (a1 : Int) : l.map encApiNode ++ [[.int .i64 a0, .int .i64 a1]] = (l ++ [(ApiNode.mk a0 a1)]).map encApiNode := by simp [encApiNode]
theorem encApiNode_set (l : List ApiNode) (i : Nat) (a0 : Int) (a1 : Int) : (l.map encApiNode).set i [.int .i64 a0, .int .i64 a1] = (l.set i (ApiNode.mk a0 a1)).map encApiNode := by simp [encApiNode]
theorem encApiNode_rep (n : Nat) (a0 : Int) (a1 : Int) : List.replicate n ([.int .i64 a0, .int .i64 a1] : List AVal) = (List.replicate n (ApiNode.mk a0 a1)).map encApiNode := by simp [encApiNode]
theorem encApiNodeV_set (m : List (Int × ApiNode)) (n : Int) (a0 : Int) (a1 : Int) : aset (mpE encApiNodeV m) n (.agg [.int .i64 a0, .int .i64 a1]) = mpE encApiNodeV (mset m n (ApiNode.mk a0 a1)) := aset_mpE encApiNodeV m n (ApiNode.mk a0 a1)
theorem encApiNodeV_set0 (n : Int) (a0 : Int) (a1 : Int) : aset [] n (.agg [.int .i64 a0, .int .i64 a1]) = mpE encApiNodeV (mset [] n (ApiNode.mk a0 a1)) := rfl
theorem all_f0_encApiNode (l : List ApiNode) : ((l.map encApiNode).all fun x => x.all AVal.f0) = true := by simp [encApiNode, AVal.f0]
attribute [go_sem] all_f0_encApiNode
def OkApiNode (x : ApiNode) : Prop := I64 x.ID ∧ I64 x.Alt
attribute [go_sem] encApiNode encApiNodeV encApiNode_app encApiNode_set encApiNodeV_set

structure ApiLift where
  ID : Int
  Operator : Int
  From : Int
  To : Int
  Length : Int
  Speed : Int
  Seats : Int
  Spacing : Int
  deriving DecidableEq, Inhabited
def encApiLift (x : ApiLift) : List AVal := [.int .i64 x.ID, .int .i64 x.Operator, .int .i64 x.From, .int .i64 x.To, .int .i64 x.Length, .int .i64 x.Speed, .int .i64 x.Seats, .int .i64 x.Spacing]
def encApiLiftV (x : ApiLift) : AVal := .agg (encApiLift x)
theorem encApiLift_app (l : List ApiLift) (a0 : Int) (a1 : Int) (a2 : Int) (a3 : Int) (a4 : Int) (a5 : Int) (a6 : Int) (a7 : Int) : l.map encApiLift ++ [[.int .i64 a0, .int .i64 a1, .int .i64 a2, .int .i64 a3, .int .i64 a4, .int .i64 a5, .int .i64 a6, .int .i64 a7]] = (l ++ [(ApiLift.mk a0 a1 a2 a3 a4 a5 a6 a7)]).map encApiLift := by simp [encApiLift]
theorem encApiLift_set (l : List ApiLift) (i : Nat) (a0 : Int) (a1 : Int) (a2 : Int) (a3 : Int) (a4 : Int) (a5 : Int) (a6 : Int) (a7 : Int) : (l.map encApiLift).set i [.int .i64 a0, .int .i64 a1, .int .i64 a2, .int .i64 a3, .int .i64 a4, .int .i64 a5, .int .i64 a6, .int .i64 a7] = (l.set i (ApiLift.mk a0 a1 a2 a3 a4 a5 a6 a7)).map encApiLift := by simp [encApiLift]
theorem encApiLift_rep (n : Nat) (a0 : Int) (a1 : Int) (a2 : Int) (a3 : Int) (a4 : Int) (a5 : Int) (a6 : Int) (a7 : Int) : List.replicate n ([.int .i64 a0, .int .i64 a1, .int .i64 a2, .int .i64 a3, .int .i64 a4, .int .i64 a5, .int .i64 a6, .int .i64 a7] : List AVal) = (List.replicate n (ApiLift.mk a0 a1 a2 a3 a4 a5 a6 a7)).map encApiLift := by simp [encApiLift]
theorem encApiLiftV_set (m : List (Int × ApiLift)) (n : Int) (a0 : Int) (a1 : Int) (a2 : Int) (a3 : Int) (a4 : Int) (a5 : Int) (a6 : Int) (a7 : Int) : aset (mpE encApiLiftV m) n (.agg [.int .i64 a0, .int .i64 a1, .int .i64 a2, .int .i64 a3, .int .i64 a4, .int .i64 a5, .int .i64 a6, .int .i64 a7]) = mpE encApiLiftV (mset m n (ApiLift.mk a0 a1 a2 a3 a4 a5 a6 a7)) := aset_mpE encApiLiftV m n (ApiLift.mk a0 a1 a2 a3 a4 a5 a6 a7)
theorem encApiLiftV_set0 (n : Int) (a0 : Int) (a1 : Int) (a2 : Int) (a3 : Int) (a4 : Int) (a5 : Int) (a6 : Int) (a7 : Int) : aset [] n (.agg [.int .i64 a0, .int .i64 a1, .int .i64 a2, .int .i64 a3, .int .i64 a4, .int .i64 a5, .int .i64 a6, .int .i64 a7]) = mpE encApiLiftV (mset [] n (ApiLift.mk a0 a1 a2 a3 a4 a5 a6 a7)) := rfl
theorem all_f0_encApiLift (l : List ApiLift) : ((l.map encApiLift).all fun x => x.all AVal.f0) = true := by simp [encApiLift, AVal.f0]
attribute [go_sem] all_f0_encApiLift
def OkApiLift (x : ApiLift) : Prop := I64 x.ID ∧ I64 x.Operator ∧ I64 x.From ∧ I64 x.To ∧ I64 x.Length ∧ I64 x.Speed ∧ I64 x.Seats ∧ I64 x.Spacing
attribute [go_sem] encApiLift encApiLiftV encApiLift_app encApiLift_set encApiLiftV_set

structure ApiRun where
  ID : Int
  Operator : Int
  From : Int
  To : Int
  Grade : Int
  Zone : Int
  Length : Int
  deriving DecidableEq, Inhabited
def encApiRun (x : ApiRun) : List AVal := [.int .i64 x.ID, .int .i64 x.Operator, .int .i64 x.From, .int .i64 x.To, .int .i64 x.Grade, .int .i64 x.Zone, .int .i64 x.Length]
def encApiRunV (x : ApiRun) : AVal := .agg (encApiRun x)
theorem encApiRun_app (l : List ApiRun) (a0 : Int) (a1 : Int) (a2 : Int) (a3 : Int) (a4 : Int) (a5 : Int) (a6 : Int) : l.map encApiRun ++ [[.int .i64 a0, .int .i64 a1, .int .i64 a2, .int .i64 a3, .int .i64 a4, .int .i64 a5, .int .i64 a6]] = (l ++ [(ApiRun.mk a0 a1 a2 a3 a4 a5 a6)]).map encApiRun := by simp [encApiRun]
theorem encApiRun_set (l : List ApiRun) (i : Nat) (a0 : Int) (a1 : Int) (a2 : Int) (a3 : Int) (a4 : Int) (a5 : Int) (a6 : Int) : (l.map encApiRun).set i [.int .i64 a0, .int .i64 a1, .int .i64 a2, .int .i64 a3, .int .i64 a4, .int .i64 a5, .int .i64 a6] = (l.set i (ApiRun.mk a0 a1 a2 a3 a4 a5 a6)).map encApiRun := by simp [encApiRun]
theorem encApiRun_rep (n : Nat) (a0 : Int) (a1 : Int) (a2 : Int) (a3 : Int) (a4 : Int) (a5 : Int) (a6 : Int) : List.replicate n ([.int .i64 a0, .int .i64 a1, .int .i64 a2, .int .i64 a3, .int .i64 a4, .int .i64 a5, .int .i64 a6] : List AVal) = (List.replicate n (ApiRun.mk a0 a1 a2 a3 a4 a5 a6)).map encApiRun := by simp [encApiRun]
theorem encApiRunV_set (m : List (Int × ApiRun)) (n : Int) (a0 : Int) (a1 : Int) (a2 : Int) (a3 : Int) (a4 : Int) (a5 : Int) (a6 : Int) : aset (mpE encApiRunV m) n (.agg [.int .i64 a0, .int .i64 a1, .int .i64 a2, .int .i64 a3, .int .i64 a4, .int .i64 a5, .int .i64 a6]) = mpE encApiRunV (mset m n (ApiRun.mk a0 a1 a2 a3 a4 a5 a6)) := aset_mpE encApiRunV m n (ApiRun.mk a0 a1 a2 a3 a4 a5 a6)
theorem encApiRunV_set0 (n : Int) (a0 : Int) (a1 : Int) (a2 : Int) (a3 : Int) (a4 : Int) (a5 : Int) (a6 : Int) : aset [] n (.agg [.int .i64 a0, .int .i64 a1, .int .i64 a2, .int .i64 a3, .int .i64 a4, .int .i64 a5, .int .i64 a6]) = mpE encApiRunV (mset [] n (ApiRun.mk a0 a1 a2 a3 a4 a5 a6)) := rfl
theorem all_f0_encApiRun (l : List ApiRun) : ((l.map encApiRun).all fun x => x.all AVal.f0) = true := by simp [encApiRun, AVal.f0]
attribute [go_sem] all_f0_encApiRun
def OkApiRun (x : ApiRun) : Prop := I64 x.ID ∧ I64 x.Operator ∧ I64 x.From ∧ I64 x.To ∧ I64 x.Grade ∧ I64 x.Zone ∧ I64 x.Length
attribute [go_sem] encApiRun encApiRunV encApiRun_app encApiRun_set encApiRunV_set

structure ApiMap where
  Nodes : List ApiNode
  Lifts : List ApiLift
  Runs : List ApiRun
  Bases : List Int
  deriving DecidableEq, Inhabited
def encApiMap (x : ApiMap) : List AVal := [.sl 2 (x.Nodes.map encApiNode), .sl 8 (x.Lifts.map encApiLift), .sl 7 (x.Runs.map encApiRun), .sl 1 (x.Bases.map intC)]
def encApiMapV (x : ApiMap) : AVal := .agg (encApiMap x)
theorem encApiMap_app (l : List ApiMap) (a0 : List ApiNode) (a1 : List ApiLift) (a2 : List ApiRun) (a3 : List Int) : l.map encApiMap ++ [[.sl 2 (a0.map encApiNode), .sl 8 (a1.map encApiLift), .sl 7 (a2.map encApiRun), .sl 1 (a3.map intC)]] = (l ++ [(ApiMap.mk a0 a1 a2 a3)]).map encApiMap := by simp [encApiMap]
theorem encApiMap_set (l : List ApiMap) (i : Nat) (a0 : List ApiNode) (a1 : List ApiLift) (a2 : List ApiRun) (a3 : List Int) : (l.map encApiMap).set i [.sl 2 (a0.map encApiNode), .sl 8 (a1.map encApiLift), .sl 7 (a2.map encApiRun), .sl 1 (a3.map intC)] = (l.set i (ApiMap.mk a0 a1 a2 a3)).map encApiMap := by simp [encApiMap]
theorem encApiMap_rep (n : Nat) (a0 : List ApiNode) (a1 : List ApiLift) (a2 : List ApiRun) (a3 : List Int) : List.replicate n ([.sl 2 (a0.map encApiNode), .sl 8 (a1.map encApiLift), .sl 7 (a2.map encApiRun), .sl 1 (a3.map intC)] : List AVal) = (List.replicate n (ApiMap.mk a0 a1 a2 a3)).map encApiMap := by simp [encApiMap]
theorem encApiMapV_set (m : List (Int × ApiMap)) (n : Int) (a0 : List ApiNode) (a1 : List ApiLift) (a2 : List ApiRun) (a3 : List Int) : aset (mpE encApiMapV m) n (.agg [.sl 2 (a0.map encApiNode), .sl 8 (a1.map encApiLift), .sl 7 (a2.map encApiRun), .sl 1 (a3.map intC)]) = mpE encApiMapV (mset m n (ApiMap.mk a0 a1 a2 a3)) := aset_mpE encApiMapV m n (ApiMap.mk a0 a1 a2 a3)
theorem encApiMapV_set0 (n : Int) (a0 : List ApiNode) (a1 : List ApiLift) (a2 : List ApiRun) (a3 : List Int) : aset [] n (.agg [.sl 2 (a0.map encApiNode), .sl 8 (a1.map encApiLift), .sl 7 (a2.map encApiRun), .sl 1 (a3.map intC)]) = mpE encApiMapV (mset [] n (ApiMap.mk a0 a1 a2 a3)) := rfl
def OkApiMap (x : ApiMap) : Prop := OkL OkApiNode x.Nodes ∧ OkL OkApiLift x.Lifts ∧ OkL OkApiRun x.Runs ∧ OkL I64 x.Bases
attribute [go_sem] encApiMap encApiMapV encApiMap_app encApiMap_set encApiMapV_set

structure ApiSwept where
  Run : Int
  By : Int
  At : Int
  Found : Int
  deriving DecidableEq, Inhabited
def encApiSwept (x : ApiSwept) : List AVal := [.int .i64 x.Run, .int .i64 x.By, .int .i64 x.At, .int .i64 x.Found]
def encApiSweptV (x : ApiSwept) : AVal := .agg (encApiSwept x)
theorem encApiSwept_app (l : List ApiSwept) (a0 : Int) (a1 : Int) (a2 : Int) (a3 : Int) : l.map encApiSwept ++ [[.int .i64 a0, .int .i64 a1, .int .i64 a2, .int .i64 a3]] = (l ++ [(ApiSwept.mk a0 a1 a2 a3)]).map encApiSwept := by simp [encApiSwept]
theorem encApiSwept_set (l : List ApiSwept) (i : Nat) (a0 : Int) (a1 : Int) (a2 : Int) (a3 : Int) : (l.map encApiSwept).set i [.int .i64 a0, .int .i64 a1, .int .i64 a2, .int .i64 a3] = (l.set i (ApiSwept.mk a0 a1 a2 a3)).map encApiSwept := by simp [encApiSwept]
theorem encApiSwept_rep (n : Nat) (a0 : Int) (a1 : Int) (a2 : Int) (a3 : Int) : List.replicate n ([.int .i64 a0, .int .i64 a1, .int .i64 a2, .int .i64 a3] : List AVal) = (List.replicate n (ApiSwept.mk a0 a1 a2 a3)).map encApiSwept := by simp [encApiSwept]
theorem encApiSweptV_set (m : List (Int × ApiSwept)) (n : Int) (a0 : Int) (a1 : Int) (a2 : Int) (a3 : Int) : aset (mpE encApiSweptV m) n (.agg [.int .i64 a0, .int .i64 a1, .int .i64 a2, .int .i64 a3]) = mpE encApiSweptV (mset m n (ApiSwept.mk a0 a1 a2 a3)) := aset_mpE encApiSweptV m n (ApiSwept.mk a0 a1 a2 a3)
theorem encApiSweptV_set0 (n : Int) (a0 : Int) (a1 : Int) (a2 : Int) (a3 : Int) : aset [] n (.agg [.int .i64 a0, .int .i64 a1, .int .i64 a2, .int .i64 a3]) = mpE encApiSweptV (mset [] n (ApiSwept.mk a0 a1 a2 a3)) := rfl
theorem all_f0_encApiSwept (l : List ApiSwept) : ((l.map encApiSwept).all fun x => x.all AVal.f0) = true := by simp [encApiSwept, AVal.f0]
attribute [go_sem] all_f0_encApiSwept
def OkApiSwept (x : ApiSwept) : Prop := I64 x.Run ∧ I64 x.By ∧ I64 x.At ∧ I64 x.Found
attribute [go_sem] encApiSwept encApiSweptV encApiSwept_app encApiSwept_set encApiSweptV_set

structure ApiSweep where
  Runs : List Int
  Swept : List ApiSwept
  Begun : Int
  deriving DecidableEq, Inhabited
def encApiSweep (x : ApiSweep) : List AVal := [.sl 1 (x.Runs.map intC), .sl 4 (x.Swept.map encApiSwept), .int .i64 x.Begun]
def encApiSweepV (x : ApiSweep) : AVal := .agg (encApiSweep x)
theorem encApiSweep_app (l : List ApiSweep) (a0 : List Int) (a1 : List ApiSwept) (a2 : Int) : l.map encApiSweep ++ [[.sl 1 (a0.map intC), .sl 4 (a1.map encApiSwept), .int .i64 a2]] = (l ++ [(ApiSweep.mk a0 a1 a2)]).map encApiSweep := by simp [encApiSweep]
theorem encApiSweep_set (l : List ApiSweep) (i : Nat) (a0 : List Int) (a1 : List ApiSwept) (a2 : Int) : (l.map encApiSweep).set i [.sl 1 (a0.map intC), .sl 4 (a1.map encApiSwept), .int .i64 a2] = (l.set i (ApiSweep.mk a0 a1 a2)).map encApiSweep := by simp [encApiSweep]
theorem encApiSweep_rep (n : Nat) (a0 : List Int) (a1 : List ApiSwept) (a2 : Int) : List.replicate n ([.sl 1 (a0.map intC), .sl 4 (a1.map encApiSwept), .int .i64 a2] : List AVal) = (List.replicate n (ApiSweep.mk a0 a1 a2)).map encApiSweep := by simp [encApiSweep]
theorem encApiSweepV_set (m : List (Int × ApiSweep)) (n : Int) (a0 : List Int) (a1 : List ApiSwept) (a2 : Int) : aset (mpE encApiSweepV m) n (.agg [.sl 1 (a0.map intC), .sl 4 (a1.map encApiSwept), .int .i64 a2]) = mpE encApiSweepV (mset m n (ApiSweep.mk a0 a1 a2)) := aset_mpE encApiSweepV m n (ApiSweep.mk a0 a1 a2)
theorem encApiSweepV_set0 (n : Int) (a0 : List Int) (a1 : List ApiSwept) (a2 : Int) : aset [] n (.agg [.sl 1 (a0.map intC), .sl 4 (a1.map encApiSwept), .int .i64 a2]) = mpE encApiSweepV (mset [] n (ApiSweep.mk a0 a1 a2)) := rfl
def OkApiSweep (x : ApiSweep) : Prop := OkL I64 x.Runs ∧ OkL OkApiSwept x.Swept ∧ I64 x.Begun
attribute [go_sem] encApiSweep encApiSweepV encApiSweep_app encApiSweep_set encApiSweepV_set

structure ApiEdge where
  ID : Int
  From : Int
  To : Int
  Cost : Int
  deriving DecidableEq, Inhabited
def encApiEdge (x : ApiEdge) : List AVal := [.int .i64 x.ID, .int .i64 x.From, .int .i64 x.To, .int .i64 x.Cost]
def encApiEdgeV (x : ApiEdge) : AVal := .agg (encApiEdge x)
theorem encApiEdge_app (l : List ApiEdge) (a0 : Int) (a1 : Int) (a2 : Int) (a3 : Int) : l.map encApiEdge ++ [[.int .i64 a0, .int .i64 a1, .int .i64 a2, .int .i64 a3]] = (l ++ [(ApiEdge.mk a0 a1 a2 a3)]).map encApiEdge := by simp [encApiEdge]
theorem encApiEdge_set (l : List ApiEdge) (i : Nat) (a0 : Int) (a1 : Int) (a2 : Int) (a3 : Int) : (l.map encApiEdge).set i [.int .i64 a0, .int .i64 a1, .int .i64 a2, .int .i64 a3] = (l.set i (ApiEdge.mk a0 a1 a2 a3)).map encApiEdge := by simp [encApiEdge]
theorem encApiEdge_rep (n : Nat) (a0 : Int) (a1 : Int) (a2 : Int) (a3 : Int) : List.replicate n ([.int .i64 a0, .int .i64 a1, .int .i64 a2, .int .i64 a3] : List AVal) = (List.replicate n (ApiEdge.mk a0 a1 a2 a3)).map encApiEdge := by simp [encApiEdge]
theorem encApiEdgeV_set (m : List (Int × ApiEdge)) (n : Int) (a0 : Int) (a1 : Int) (a2 : Int) (a3 : Int) : aset (mpE encApiEdgeV m) n (.agg [.int .i64 a0, .int .i64 a1, .int .i64 a2, .int .i64 a3]) = mpE encApiEdgeV (mset m n (ApiEdge.mk a0 a1 a2 a3)) := aset_mpE encApiEdgeV m n (ApiEdge.mk a0 a1 a2 a3)
theorem encApiEdgeV_set0 (n : Int) (a0 : Int) (a1 : Int) (a2 : Int) (a3 : Int) : aset [] n (.agg [.int .i64 a0, .int .i64 a1, .int .i64 a2, .int .i64 a3]) = mpE encApiEdgeV (mset [] n (ApiEdge.mk a0 a1 a2 a3)) := rfl
theorem all_f0_encApiEdge (l : List ApiEdge) : ((l.map encApiEdge).all fun x => x.all AVal.f0) = true := by simp [encApiEdge, AVal.f0]
attribute [go_sem] all_f0_encApiEdge
def OkApiEdge (x : ApiEdge) : Prop := I64 x.ID ∧ I64 x.From ∧ I64 x.To ∧ I64 x.Cost
attribute [go_sem] encApiEdge encApiEdgeV encApiEdge_app encApiEdge_set encApiEdgeV_set

theorem take_one_cons {α β : Type} (f : β → α) (a : α) (l : List β) : (a :: l.map f).take (1 + l.length) = a :: l.map f := List.take_of_length_le (by simp; omega)
attribute [go_sem] take_one_cons
attribute [go_sem] Nat.reduceAdd Nat.reduceMul Nat.reduceSub Int.reduceToNat
def slC_encApiEdge (x : List ApiEdge) : List AVal := [.sl 4 (x.map encApiEdge)]
theorem slC_encApiEdge_app (l : List (List ApiEdge)) (a : List ApiEdge) : l.map slC_encApiEdge ++ [[.sl 4 (a.map encApiEdge)]] = (l ++ [a]).map slC_encApiEdge := by simp [slC_encApiEdge]
theorem slC_encApiEdge_set (l : List (List ApiEdge)) (i : Nat) (a : List ApiEdge) : (l.map slC_encApiEdge).set i [.sl 4 (a.map encApiEdge)] = (l.set i a).map slC_encApiEdge := by simp [slC_encApiEdge]
attribute [go_sem] slC_encApiEdge slC_encApiEdge_app slC_encApiEdge_set
end Go.Proofs.Ytooopbnnhbacjaa
