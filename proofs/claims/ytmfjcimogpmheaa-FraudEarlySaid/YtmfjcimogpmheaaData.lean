/-
  The data of the program, as plain Lean; how it stands in memory; printed by a small program of our own (wip/walk.py).
-/
import Derived.Test.YtmfjcimogpmheaaTypes
import Derived.Test.YtmfjcimogpmheaaSkZ
namespace Go.Proofs.Ytmfjcimogpmheaa
open Go Go.Ab

structure ApiNode where
  ID : Int
  Alt : Int
  deriving DecidableEq, Inhabited
def encApiNode (x : ApiNode) : List AVal := [.int .i64 x.ID, .int .i64 x.Alt]
def encApiNodeV (x : ApiNode) : AVal := .agg (encApiNode x)
theorem encApiNode_app (l : List ApiNode) (a0 : Int) (a1 : Int) : l.map encApiNode ++ [[.int .i64 a0, .int .i64 a1]] = (l ++ [(ApiNode.mk a0 a1)]).map encApiNode := by simp [encApiNode]
theorem encApiNode_set (l : List ApiNode) (i : Nat) (a0 : Int) (a1 : Int) : (l.map encApiNode).set i [.int .i64 a0, .int .i64 a1] = (l.set i (ApiNode.mk a0 a1)).map encApiNode := by simp [encApiNode]
theorem encApiNode_rep (n : Nat) (a0 : Int) (a1 : Int) : List.replicate n ([.int .i64 a0, .int .i64 a1] : List AVal) = (List.replicate n (ApiNode.mk a0 a1)).map encApiNode := by simp [encApiNode]
theorem encApiNodeV_set (m : List (Int × ApiNode)) (n : Int) (a0 : Int) (a1 : Int) : aset (mpE encApiNodeV m) n (.agg [.int .i64 a0, .int .i64 a1]) = mpE encApiNodeV (mset m n (ApiNode.mk a0 a1)) := aset_mpE encApiNodeV m n (ApiNode.mk a0 a1)
theorem encApiNodeV_set0 (n : Int) (a0 : Int) (a1 : Int) : aset [] n (.agg [.int .i64 a0, .int .i64 a1]) = mpE encApiNodeV (mset [] n (ApiNode.mk a0 a1)) := rfl
theorem all_f0_encApiNode (l : List ApiNode) : ((l.map encApiNode).all fun x => x.all AVal.f0) = true := by simp [encApiNode, AVal.f0]
attribute [go_sem] all_f0_encApiNode
def OkApiNode (x : ApiNode) : Prop := I64 x.ID ∧ I64 x.Alt
attribute [go_sem] encApiNode encApiNodeV encApiNode_app encApiNode_set encApiNodeV_set

structure ApiLift where
  ID : Int
  Operator : Int
  From : Int
  To : Int
  Length : Int
  Speed : Int
  Seats : Int
  Spacing : Int
  deriving DecidableEq, Inhabited
def encApiLift (x : ApiLift) : List AVal := [.int .i64 x.ID, .int .i64 x.Operator, .int .i64 x.From, .int .i64 x.To, .int .i64 x.Length, .int .i64 x.Speed, .int .i64 x.Seats, .int .i64 x.Spacing]
def encApiLiftV (x : ApiLift) : AVal := .agg (encApiLift x)
theorem encApiLift_app (l : List ApiLift) (a0 : Int) (a1 : Int) (a2 : Int) (a3 : Int) (a4 : Int) (a5 : Int) (a6 : Int) (a7 : Int) : l.map encApiLift ++ [[.int .i64 a0, .int .i64 a1, .int .i64 a2, .int .i64 a3, .int .i64 a4, .int .i64 a5, .int .i64 a6, .int .i64 a7]] = (l ++ [(ApiLift.mk a0 a1 a2 a3 a4 a5 a6 a7)]).map encApiLift := by simp [encApiLift]
theorem encApiLift_set (l : List ApiLift) (i : Nat) (a0 : Int) (a1 : Int) (a2 : Int) (a3 : Int) (a4 : Int) (a5 : Int) (a6 : Int) (a7 : Int) : (l.map encApiLift).set i [.int .i64 a0, .int .i64 a1, .int .i64 a2, .int .i64 a3, .int .i64 a4, .int .i64 a5, .int .i64 a6, .int .i64 a7] = (l.set i (ApiLift.mk a0 a1 a2 a3 a4 a5 a6 a7)).map encApiLift := by simp [encApiLift]
theorem encApiLift_rep (n : Nat) (a0 : Int) (a1 : Int) (a2 : Int) (a3 : Int) (a4 : Int) (a5 : Int) (a6 : Int) (a7 : Int) : List.replicate n ([.int .i64 a0, .int .i64 a1, .int .i64 a2, .int .i64 a3, .int .i64 a4, .int .i64 a5, .int .i64 a6, .int .i64 a7] : List AVal) = (List.replicate n (ApiLift.mk a0 a1 a2 a3 a4 a5 a6 a7)).map encApiLift := by simp [encApiLift]
theorem encApiLiftV_set (m : List (Int × ApiLift)) (n : Int) (a0 : Int) (a1 : Int) (a2 : Int) (a3 : Int) (a4 : Int) (a5 : Int) (a6 : Int) (a7 : Int) : aset (mpE encApiLiftV m) n (.agg [.int .i64 a0, .int .i64 a1, .int .i64 a2, .int .i64 a3, .int .i64 a4, .int .i64 a5, .int .i64 a6, .int .i64 a7]) = mpE encApiLiftV (mset m n (ApiLift.mk a0 a1 a2 a3 a4 a5 a6 a7)) := aset_mpE encApiLiftV m n (ApiLift.mk a0 a1 a2 a3 a4 a5 a6 a7)
theorem encApiLiftV_set0 (n : Int) (a0 : Int) (a1 : Int) (a2 : Int) (a3 : Int) (a4 : Int) (a5 : Int) (a6 : Int) (a7 : Int) : aset [] n (.agg [.int .i64 a0, .int .i64 a1, .int .i64 a2, .int .i64 a3, .int .i64 a4, .int .i64 a5, .int .i64 a6, .int .i64 a7]) = mpE encApiLiftV (mset [] n (ApiLift.mk a0 a1 a2 a3 a4 a5 a6 a7)) := rfl
theorem all_f0_encApiLift (l : List ApiLift) : ((l.map encApiLift).all fun x => x.all AVal.f0) = true := by simp [encApiLift, AVal.f0]
attribute [go_sem] all_f0_encApiLift
def OkApiLift (x : ApiLift) : Prop := I64 x.ID ∧ I64 x.Operator ∧ I64 x.From ∧ I64 x.To ∧ I64 x.Length ∧ I64 x.Speed ∧ I64 x.Seats ∧ I64 x.Spacing
attribute [go_sem] encApiLift encApiLiftV encApiLift_app encApiLift_set encApiLiftV_set

structure ApiRun where
  ID : Int
  Operator : Int
  From : Int
  To : Int
  Grade : Int
  Zone : Int
  Length : Int
  deriving DecidableEq, Inhabited
def encApiRun (x : ApiRun) : List AVal := [.int .i64 x.ID, .int .i64 x.Operator, .int .i64 x.From, .int .i64 x.To, .int .i64 x.Grade, .int .i64 x.Zone, .int .i64 x.Length]
def encApiRunV (x : ApiRun) : AVal := .agg (encApiRun x)
theorem encApiRun_app (l : List ApiRun) (a0 : Int) (a1 : Int) (a2 : Int) (a3 : Int) (a4 : Int) (a5 : Int) (a6 : Int) : l.map encApiRun ++ [[.int .i64 a0, .int .i64 a1, .int .i64 a2, .int .i64 a3, .int .i64 a4, .int .i64 a5, .int .i64 a6]] = (l ++ [(ApiRun.mk a0 a1 a2 a3 a4 a5 a6)]).map encApiRun := by simp [encApiRun]
theorem encApiRun_set (l : List ApiRun) (i : Nat) (a0 : Int) (a1 : Int) (a2 : Int) (a3 : Int) (a4 : Int) (a5 : Int) (a6 : Int) : (l.map encApiRun).set i [.int .i64 a0, .int .i64 a1, .int .i64 a2, .int .i64 a3, .int .i64 a4, .int .i64 a5, .int .i64 a6] = (l.set i (ApiRun.mk a0 a1 a2 a3 a4 a5 a6)).map encApiRun := by simp [encApiRun]
theorem encApiRun_rep (n : Nat) (a0 : Int) (a1 : Int) (a2 : Int) (a3 : Int) (a4 : Int) (a5 : Int) (a6 : Int) : List.replicate n ([.int .i64 a0, .int .i64 a1, .int .i64 a2, .int .i64 a3, .int .i64 a4, .int .i64 a5, .int .i64 a6] : List AVal) = (List.replicate n (ApiRun.mk a0 a1 a2 a3 a4 a5 a6)).map encApiRun := by simp [encApiRun]
theorem encApiRunV_set (m : List (Int × ApiRun)) (n : Int) (a0 : Int) (a1 : Int) (a2 : Int) (a3 : Int) (a4 : Int) (a5 : Int) (a6 : Int) : aset (mpE encApiRunV m) n (.agg [.int .i64 a0, .int .i64 a1, .int .i64 a2, .int .i64 a3, .int .i64 a4, .int .i64 a5, .int .i64 a6]) = mpE encApiRunV (mset m n (ApiRun.mk a0 a1 a2 a3 a4 a5 a6)) := aset_mpE encApiRunV m n (ApiRun.mk a0 a1 a2 a3 a4 a5 a6)
theorem encApiRunV_set0 (n : Int) (a0 : Int) (a1 : Int) (a2 : Int) (a3 : Int) (a4 : Int) (a5 : Int) (a6 : Int) : aset [] n (.agg [.int .i64 a0, .int .i64 a1, .int .i64 a2, .int .i64 a3, .int .i64 a4, .int .i64 a5, .int .i64 a6]) = mpE encApiRunV (mset [] n (ApiRun.mk a0 a1 a2 a3 a4 a5 a6)) := rfl
theorem all_f0_encApiRun (l : List ApiRun) : ((l.map encApiRun).all fun x => x.all AVal.f0) = true := by simp [encApiRun, AVal.f0]
attribute [go_sem] all_f0_encApiRun
def OkApiRun (x : ApiRun) : Prop := I64 x.ID ∧ I64 x.Operator ∧ I64 x.From ∧ I64 x.To ∧ I64 x.Grade ∧ I64 x.Zone ∧ I64 x.Length
attribute [go_sem] encApiRun encApiRunV encApiRun_app encApiRun_set encApiRunV_set

structure ApiMap where
  Nodes : List ApiNode
  Lifts : List ApiLift
  Runs : List ApiRun
  Bases : List Int
  deriving DecidableEq, Inhabited
def encApiMap (x : ApiMap) : List AVal := [.sl 2 (x.Nodes.map encApiNode), .sl 8 (x.Lifts.map encApiLift), .sl 7 (x.Runs.map encApiRun), .sl 1 (x.Bases.map intC)]
def encApiMapV (x : ApiMap) : AVal := .agg (encApiMap x)
theorem encApiMap_app (l : List ApiMap) (a0 : List ApiNode) (a1 : List ApiLift) (a2 : List ApiRun) (a3 : List Int) : l.map encApiMap ++ [[.sl 2 (a0.map encApiNode), .sl 8 (a1.map encApiLift), .sl 7 (a2.map encApiRun), .sl 1 (a3.map intC)]] = (l ++ [(ApiMap.mk a0 a1 a2 a3)]).map encApiMap := by simp [encApiMap]
theorem encApiMap_set (l : List ApiMap) (i : Nat) (a0 : List ApiNode) (a1 : List ApiLift) (a2 : List ApiRun) (a3 : List Int) : (l.map encApiMap).set i [.sl 2 (a0.map encApiNode), .sl 8 (a1.map encApiLift), .sl 7 (a2.map encApiRun), .sl 1 (a3.map intC)] = (l.set i (ApiMap.mk a0 a1 a2 a3)).map encApiMap := by simp [encApiMap]
theorem encApiMap_rep (n : Nat) (a0 : List ApiNode) (a1 : List ApiLift) (a2 : List ApiRun) (a3 : List Int) : List.replicate n ([.sl 2 (a0.map encApiNode), .sl 8 (a1.map encApiLift), .sl 7 (a2.map encApiRun), .sl 1 (a3.map intC)] : List AVal) = (List.replicate n (ApiMap.mk a0 a1 a2 a3)).map encApiMap := by simp [encApiMap]
theorem encApiMapV_set (m : List (Int × ApiMap)) (n : Int) (a0 : List ApiNode) (a1 : List ApiLift) (a2 : List ApiRun) (a3 : List Int) : aset (mpE encApiMapV m) n (.agg [.sl 2 (a0.map encApiNode), .sl 8 (a1.map encApiLift), .sl 7 (a2.map encApiRun), .sl 1 (a3.map intC)]) = mpE encApiMapV (mset m n (ApiMap.mk a0 a1 a2 a3)) := aset_mpE encApiMapV m n (ApiMap.mk a0 a1 a2 a3)
theorem encApiMapV_set0 (n : Int) (a0 : List ApiNode) (a1 : List ApiLift) (a2 : List ApiRun) (a3 : List Int) : aset [] n (.agg [.sl 2 (a0.map encApiNode), .sl 8 (a1.map encApiLift), .sl 7 (a2.map encApiRun), .sl 1 (a3.map intC)]) = mpE encApiMapV (mset [] n (ApiMap.mk a0 a1 a2 a3)) := rfl
def OkApiMap (x : ApiMap) : Prop := OkL OkApiNode x.Nodes ∧ OkL OkApiLift x.Lifts ∧ OkL OkApiRun x.Runs ∧ OkL I64 x.Bases
attribute [go_sem] encApiMap encApiMapV encApiMap_app encApiMap_set encApiMapV_set

structure ApiEdge where
  ID : Int
  From : Int
  To : Int
  Cost : Int
  deriving DecidableEq, Inhabited
def encApiEdge (x : ApiEdge) : List AVal := [.int .i64 x.ID, .int .i64 x.From, .int .i64 x.To, .int .i64 x.Cost]
def encApiEdgeV (x : ApiEdge) : AVal := .agg (encApiEdge x)
theorem encApiEdge_app (l : List ApiEdge) (a0 : Int) (a1 : Int) (a2 : Int) (a3 : Int) : l.map encApiEdge ++ [[.int .i64 a0, .int .i64 a1, .int .i64 a2, .int .i64 a3]] = (l ++ [(ApiEdge.mk a0 a1 a2 a3)]).map encApiEdge := by simp [encApiEdge]
theorem encApiEdge_set (l : List ApiEdge) (i : Nat) (a0 : Int) (a1 : Int) (a2 : Int) (a3 : Int) : (l.map encApiEdge).set i [.int .i64 a0, .int .i64 a1, .int .i64 a2, .int .i64 a3] = (l.set i (ApiEdge.mk a0 a1 a2 a3)).map encApiEdge := by simp [encApiEdge]
theorem encApiEdge_rep (n : Nat) (a0 : Int) (a1 : Int) (a2 : Int) (a3 : Int) : List.replicate n ([.int .i64 a0, .int .i64 a1, .int .i64 a2, .int .i64 a3] : List AVal) = (List.replicate n (ApiEdge.mk a0 a1 a2 a3)).map encApiEdge := by simp [encApiEdge]
theorem encApiEdgeV_set (m : List (Int × ApiEdge)) (n : Int) (a0 : Int) (a1 : Int) (a2 : Int) (a3 : Int) : aset (mpE encApiEdgeV m) n (.agg [.int .i64 a0, .int .i64 a1, .int .i64 a2, .int .i64 a3]) = mpE encApiEdgeV (mset m n (ApiEdge.mk a0 a1 a2 a3)) := aset_mpE encApiEdgeV m n (ApiEdge.mk a0 a1 a2 a3)
theorem encApiEdgeV_set0 (n : Int) (a0 : Int) (a1 : Int) (a2 : Int) (a3 : Int) : aset [] n (.agg [.int .i64 a0, .int .i64 a1, .int .i64 a2, .int .i64 a3]) = mpE encApiEdgeV (mset [] n (ApiEdge.mk a0 a1 a2 a3)) := rfl
theorem all_f0_encApiEdge (l : List ApiEdge) : ((l.map encApiEdge).all fun x => x.all AVal.f0) = true := by simp [encApiEdge, AVal.f0]
attribute [go_sem] all_f0_encApiEdge
def OkApiEdge (x : ApiEdge) : Prop := I64 x.ID ∧ I64 x.From ∧ I64 x.To ∧ I64 x.Cost
attribute [go_sem] encApiEdge encApiEdgeV encApiEdge_app encApiEdge_set encApiEdgeV_set

structure GraphLength where
  cost : Int
  edges : Int
  deriving DecidableEq, Inhabited
def encGraphLength (x : GraphLength) : List AVal := [.int .i64 x.cost, .int .i64 x.edges]
def encGraphLengthV (x : GraphLength) : AVal := .agg (encGraphLength x)
theorem encGraphLength_app (l : List GraphLength) (a0 : Int) (a1 : Int) : l.map encGraphLength ++ [[.int .i64 a0, .int .i64 a1]] = (l ++ [(GraphLength.mk a0 a1)]).map encGraphLength := by simp [encGraphLength]
theorem encGraphLength_set (l : List GraphLength) (i : Nat) (a0 : Int) (a1 : Int) : (l.map encGraphLength).set i [.int .i64 a0, .int .i64 a1] = (l.set i (GraphLength.mk a0 a1)).map encGraphLength := by simp [encGraphLength]
theorem encGraphLength_rep (n : Nat) (a0 : Int) (a1 : Int) : List.replicate n ([.int .i64 a0, .int .i64 a1] : List AVal) = (List.replicate n (GraphLength.mk a0 a1)).map encGraphLength := by simp [encGraphLength]
theorem encGraphLengthV_set (m : List (Int × GraphLength)) (n : Int) (a0 : Int) (a1 : Int) : aset (mpE encGraphLengthV m) n (.agg [.int .i64 a0, .int .i64 a1]) = mpE encGraphLengthV (mset m n (GraphLength.mk a0 a1)) := aset_mpE encGraphLengthV m n (GraphLength.mk a0 a1)
theorem encGraphLengthV_set0 (n : Int) (a0 : Int) (a1 : Int) : aset [] n (.agg [.int .i64 a0, .int .i64 a1]) = mpE encGraphLengthV (mset [] n (GraphLength.mk a0 a1)) := rfl
theorem all_f0_encGraphLength (l : List GraphLength) : ((l.map encGraphLength).all fun x => x.all AVal.f0) = true := by simp [encGraphLength, AVal.f0]
attribute [go_sem] all_f0_encGraphLength
def OkGraphLength (x : GraphLength) : Prop := I64 x.cost ∧ I64 x.edges
attribute [go_sem] encGraphLength encGraphLengthV encGraphLength_app encGraphLength_set encGraphLengthV_set

structure ApiRide where
  Gate : Int
  Seq : Int
  Serial : Int
  Counter : Int
  Product : Int
  Lift : Int
  At : Int
  deriving DecidableEq, Inhabited
def encApiRide (x : ApiRide) : List AVal := [.int .i64 x.Gate, .int .i64 x.Seq, .int .i64 x.Serial, .int .i64 x.Counter, .int .i64 x.Product, .int .i64 x.Lift, .int .i64 x.At]
def encApiRideV (x : ApiRide) : AVal := .agg (encApiRide x)
theorem encApiRide_app (l : List ApiRide) (a0 : Int) (a1 : Int) (a2 : Int) (a3 : Int) (a4 : Int) (a5 : Int) (a6 : Int) : l.map encApiRide ++ [[.int .i64 a0, .int .i64 a1, .int .i64 a2, .int .i64 a3, .int .i64 a4, .int .i64 a5, .int .i64 a6]] = (l ++ [(ApiRide.mk a0 a1 a2 a3 a4 a5 a6)]).map encApiRide := by simp [encApiRide]
theorem encApiRide_set (l : List ApiRide) (i : Nat) (a0 : Int) (a1 : Int) (a2 : Int) (a3 : Int) (a4 : Int) (a5 : Int) (a6 : Int) : (l.map encApiRide).set i [.int .i64 a0, .int .i64 a1, .int .i64 a2, .int .i64 a3, .int .i64 a4, .int .i64 a5, .int .i64 a6] = (l.set i (ApiRide.mk a0 a1 a2 a3 a4 a5 a6)).map encApiRide := by simp [encApiRide]
theorem encApiRide_rep (n : Nat) (a0 : Int) (a1 : Int) (a2 : Int) (a3 : Int) (a4 : Int) (a5 : Int) (a6 : Int) : List.replicate n ([.int .i64 a0, .int .i64 a1, .int .i64 a2, .int .i64 a3, .int .i64 a4, .int .i64 a5, .int .i64 a6] : List AVal) = (List.replicate n (ApiRide.mk a0 a1 a2 a3 a4 a5 a6)).map encApiRide := by simp [encApiRide]
theorem encApiRideV_set (m : List (Int × ApiRide)) (n : Int) (a0 : Int) (a1 : Int) (a2 : Int) (a3 : Int) (a4 : Int) (a5 : Int) (a6 : Int) : aset (mpE encApiRideV m) n (.agg [.int .i64 a0, .int .i64 a1, .int .i64 a2, .int .i64 a3, .int .i64 a4, .int .i64 a5, .int .i64 a6]) = mpE encApiRideV (mset m n (ApiRide.mk a0 a1 a2 a3 a4 a5 a6)) := aset_mpE encApiRideV m n (ApiRide.mk a0 a1 a2 a3 a4 a5 a6)
theorem encApiRideV_set0 (n : Int) (a0 : Int) (a1 : Int) (a2 : Int) (a3 : Int) (a4 : Int) (a5 : Int) (a6 : Int) : aset [] n (.agg [.int .i64 a0, .int .i64 a1, .int .i64 a2, .int .i64 a3, .int .i64 a4, .int .i64 a5, .int .i64 a6]) = mpE encApiRideV (mset [] n (ApiRide.mk a0 a1 a2 a3 a4 a5 a6)) := rfl
theorem all_f0_encApiRide (l : List ApiRide) : ((l.map encApiRide).all fun x => x.all AVal.f0) = true := by simp [encApiRide, AVal.f0]
attribute [go_sem] all_f0_encApiRide
def OkApiRide (x : ApiRide) : Prop := I64 x.Gate ∧ I64 x.Seq ∧ I64 x.Serial ∧ I64 x.Counter ∧ I64 x.Product ∧ I64 x.Lift ∧ I64 x.At
attribute [go_sem] encApiRide encApiRideV encApiRide_app encApiRide_set encApiRideV_set

structure FraudLeast where
  time : Int
  ok : Bool
  deriving DecidableEq, Inhabited
def encFraudLeast (x : FraudLeast) : List AVal := [.int .i64 x.time, .bool x.ok]
def encFraudLeastV (x : FraudLeast) : AVal := .agg (encFraudLeast x)
theorem encFraudLeast_app (l : List FraudLeast) (a0 : Int) (a1 : Bool) : l.map encFraudLeast ++ [[.int .i64 a0, .bool a1]] = (l ++ [(FraudLeast.mk a0 a1)]).map encFraudLeast := by simp [encFraudLeast]
theorem encFraudLeast_set (l : List FraudLeast) (i : Nat) (a0 : Int) (a1 : Bool) : (l.map encFraudLeast).set i [.int .i64 a0, .bool a1] = (l.set i (FraudLeast.mk a0 a1)).map encFraudLeast := by simp [encFraudLeast]
theorem encFraudLeast_rep (n : Nat) (a0 : Int) (a1 : Bool) : List.replicate n ([.int .i64 a0, .bool a1] : List AVal) = (List.replicate n (FraudLeast.mk a0 a1)).map encFraudLeast := by simp [encFraudLeast]
theorem encFraudLeastV_set (m : List (Int × FraudLeast)) (n : Int) (a0 : Int) (a1 : Bool) : aset (mpE encFraudLeastV m) n (.agg [.int .i64 a0, .bool a1]) = mpE encFraudLeastV (mset m n (FraudLeast.mk a0 a1)) := aset_mpE encFraudLeastV m n (FraudLeast.mk a0 a1)
theorem encFraudLeastV_set0 (n : Int) (a0 : Int) (a1 : Bool) : aset [] n (.agg [.int .i64 a0, .bool a1]) = mpE encFraudLeastV (mset [] n (FraudLeast.mk a0 a1)) := rfl
theorem all_f0_encFraudLeast (l : List FraudLeast) : ((l.map encFraudLeast).all fun x => x.all AVal.f0) = true := by simp [encFraudLeast, AVal.f0]
attribute [go_sem] all_f0_encFraudLeast
def OkFraudLeast (x : FraudLeast) : Prop := I64 x.time ∧ True
attribute [go_sem] encFraudLeast encFraudLeastV encFraudLeast_app encFraudLeast_set encFraudLeastV_set

structure ApiSuspicion where
  First : Int
  Second : Int
  deriving DecidableEq, Inhabited
def encApiSuspicion (x : ApiSuspicion) : List AVal := [.int .i64 x.First, .int .i64 x.Second]
def encApiSuspicionV (x : ApiSuspicion) : AVal := .agg (encApiSuspicion x)
theorem encApiSuspicion_app (l : List ApiSuspicion) (a0 : Int) (a1 : Int) : l.map encApiSuspicion ++ [[.int .i64 a0, .int .i64 a1]] = (l ++ [(ApiSuspicion.mk a0 a1)]).map encApiSuspicion := by simp [encApiSuspicion]
theorem encApiSuspicion_set (l : List ApiSuspicion) (i : Nat) (a0 : Int) (a1 : Int) : (l.map encApiSuspicion).set i [.int .i64 a0, .int .i64 a1] = (l.set i (ApiSuspicion.mk a0 a1)).map encApiSuspicion := by simp [encApiSuspicion]
theorem encApiSuspicion_rep (n : Nat) (a0 : Int) (a1 : Int) : List.replicate n ([.int .i64 a0, .int .i64 a1] : List AVal) = (List.replicate n (ApiSuspicion.mk a0 a1)).map encApiSuspicion := by simp [encApiSuspicion]
theorem encApiSuspicionV_set (m : List (Int × ApiSuspicion)) (n : Int) (a0 : Int) (a1 : Int) : aset (mpE encApiSuspicionV m) n (.agg [.int .i64 a0, .int .i64 a1]) = mpE encApiSuspicionV (mset m n (ApiSuspicion.mk a0 a1)) := aset_mpE encApiSuspicionV m n (ApiSuspicion.mk a0 a1)
theorem encApiSuspicionV_set0 (n : Int) (a0 : Int) (a1 : Int) : aset [] n (.agg [.int .i64 a0, .int .i64 a1]) = mpE encApiSuspicionV (mset [] n (ApiSuspicion.mk a0 a1)) := rfl
theorem all_f0_encApiSuspicion (l : List ApiSuspicion) : ((l.map encApiSuspicion).all fun x => x.all AVal.f0) = true := by simp [encApiSuspicion, AVal.f0]
attribute [go_sem] all_f0_encApiSuspicion
def OkApiSuspicion (x : ApiSuspicion) : Prop := I64 x.First ∧ I64 x.Second
attribute [go_sem] encApiSuspicion encApiSuspicionV encApiSuspicion_app encApiSuspicion_set encApiSuspicionV_set

structure Skiref32Step where
  from_ : Int
  to_ : Int
  time : Int
  deriving DecidableEq, Inhabited
def encSkiref32Step (x : Skiref32Step) : List AVal := [.int .i64 x.from_, .int .i64 x.to_, .int .i64 x.time]
def encSkiref32StepV (x : Skiref32Step) : AVal := .agg (encSkiref32Step x)
theorem encSkiref32Step_app (l : List Skiref32Step) (a0 : Int) (a1 : Int) (a2 : Int) : l.map encSkiref32Step ++ [[.int .i64 a0, .int .i64 a1, .int .i64 a2]] = (l ++ [(Skiref32Step.mk a0 a1 a2)]).map encSkiref32Step := by simp [encSkiref32Step]
theorem encSkiref32Step_set (l : List Skiref32Step) (i : Nat) (a0 : Int) (a1 : Int) (a2 : Int) : (l.map encSkiref32Step).set i [.int .i64 a0, .int .i64 a1, .int .i64 a2] = (l.set i (Skiref32Step.mk a0 a1 a2)).map encSkiref32Step := by simp [encSkiref32Step]
theorem encSkiref32Step_rep (n : Nat) (a0 : Int) (a1 : Int) (a2 : Int) : List.replicate n ([.int .i64 a0, .int .i64 a1, .int .i64 a2] : List AVal) = (List.replicate n (Skiref32Step.mk a0 a1 a2)).map encSkiref32Step := by simp [encSkiref32Step]
theorem encSkiref32StepV_set (m : List (Int × Skiref32Step)) (n : Int) (a0 : Int) (a1 : Int) (a2 : Int) : aset (mpE encSkiref32StepV m) n (.agg [.int .i64 a0, .int .i64 a1, .int .i64 a2]) = mpE encSkiref32StepV (mset m n (Skiref32Step.mk a0 a1 a2)) := aset_mpE encSkiref32StepV m n (Skiref32Step.mk a0 a1 a2)
theorem encSkiref32StepV_set0 (n : Int) (a0 : Int) (a1 : Int) (a2 : Int) : aset [] n (.agg [.int .i64 a0, .int .i64 a1, .int .i64 a2]) = mpE encSkiref32StepV (mset [] n (Skiref32Step.mk a0 a1 a2)) := rfl
theorem all_f0_encSkiref32Step (l : List Skiref32Step) : ((l.map encSkiref32Step).all fun x => x.all AVal.f0) = true := by simp [encSkiref32Step, AVal.f0]
attribute [go_sem] all_f0_encSkiref32Step
def OkSkiref32Step (x : Skiref32Step) : Prop := I64 x.from_ ∧ I64 x.to_ ∧ I64 x.time
attribute [go_sem] encSkiref32Step encSkiref32StepV encSkiref32Step_app encSkiref32Step_set encSkiref32StepV_set

structure Skilaw32Leg where
  Lift : Int
  Wait : Int
  deriving DecidableEq, Inhabited
def encSkilaw32Leg (x : Skilaw32Leg) : List AVal := [.int .u8 x.Lift, .int .u8 x.Wait]
def encSkilaw32LegV (x : Skilaw32Leg) : AVal := .agg (encSkilaw32Leg x)
theorem encSkilaw32Leg_app (l : List Skilaw32Leg) (a0 : Int) (a1 : Int) : l.map encSkilaw32Leg ++ [[.int .u8 a0, .int .u8 a1]] = (l ++ [(Skilaw32Leg.mk a0 a1)]).map encSkilaw32Leg := by simp [encSkilaw32Leg]
theorem encSkilaw32Leg_set (l : List Skilaw32Leg) (i : Nat) (a0 : Int) (a1 : Int) : (l.map encSkilaw32Leg).set i [.int .u8 a0, .int .u8 a1] = (l.set i (Skilaw32Leg.mk a0 a1)).map encSkilaw32Leg := by simp [encSkilaw32Leg]
theorem encSkilaw32Leg_rep (n : Nat) (a0 : Int) (a1 : Int) : List.replicate n ([.int .u8 a0, .int .u8 a1] : List AVal) = (List.replicate n (Skilaw32Leg.mk a0 a1)).map encSkilaw32Leg := by simp [encSkilaw32Leg]
theorem encSkilaw32LegV_set (m : List (Int × Skilaw32Leg)) (n : Int) (a0 : Int) (a1 : Int) : aset (mpE encSkilaw32LegV m) n (.agg [.int .u8 a0, .int .u8 a1]) = mpE encSkilaw32LegV (mset m n (Skilaw32Leg.mk a0 a1)) := aset_mpE encSkilaw32LegV m n (Skilaw32Leg.mk a0 a1)
theorem encSkilaw32LegV_set0 (n : Int) (a0 : Int) (a1 : Int) : aset [] n (.agg [.int .u8 a0, .int .u8 a1]) = mpE encSkilaw32LegV (mset [] n (Skilaw32Leg.mk a0 a1)) := rfl
theorem all_f0_encSkilaw32Leg (l : List Skilaw32Leg) : ((l.map encSkilaw32Leg).all fun x => x.all AVal.f0) = true := by simp [encSkilaw32Leg, AVal.f0]
attribute [go_sem] all_f0_encSkilaw32Leg
def OkSkilaw32Leg (x : Skilaw32Leg) : Prop := U8 x.Lift ∧ U8 x.Wait
attribute [go_sem] encSkilaw32Leg encSkilaw32LegV encSkilaw32Leg_app encSkilaw32Leg_set encSkilaw32LegV_set

theorem take_one_cons {α β : Type} (f : β → α) (a : α) (l : List β) : (a :: l.map f).take (1 + l.length) = a :: l.map f := List.take_of_length_le (by simp; omega)
attribute [go_sem] take_one_cons
attribute [go_sem] Nat.reduceAdd Nat.reduceMul Nat.reduceSub Int.reduceToNat
end Go.Proofs.Ytmfjcimogpmheaa
