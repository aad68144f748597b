/-
  The data of the program, as plain Lean; how it stands in memory; printed by a small program of our own (wip/walk.py).
-/
import Derived.Test.YtnafejjdhdpanaaTypes
import Derived.Test.YtnafejjdhdpanaaSkZ
namespace Go.Proofs.Ytnafejjdhdpanaa
open Go Go.Ab

structure ApiNode where
  ID : Int
  Alt : Int
  deriving DecidableEq, Inhabited
def encApiNode (x : ApiNode) : List AVal := [.int .i64 x.ID, .int .i64 x.Alt]
def encApiNodeV (x : ApiNode) : AVal := .agg (encApiNode x)
theorem encApiNode_app (l : List ApiNode) (a0 : Int) (a1 : Int) : l.map encApiNode ++ [[.int .i64 a0, .int .i64 a1]] = (l ++ [(ApiNode.mk a0 a1)]).map encApiNode := by simp [encApiNode]
theorem encApiNode_set (l : List ApiNode) (i : Nat) (a0 : Int) (a1 : Int) : (l.map encApiNode).set i [.int .i64 a0, .int .i64 a1] = (l.set i (ApiNode.mk a0 a1)).map encApiNode := by simp [encApiNode]
theorem encApiNode_rep (n : Nat) (a0 : Int) (a1 : Int) : List.replicate n ([.int .i64 a0, .int .i64 a1] : List AVal) = (List.replicate n (ApiNode.mk a0 a1)).map encApiNode := by simp [encApiNode]
theorem encApiNodeV_set (m : List (Int × ApiNode)) (n : Int) (a0 : Int) (a1 : Int) : aset (mpE encApiNodeV m) n (.agg [.int .i64 a0, .int .i64 a1]) = mpE encApiNodeV (mset m n (ApiNode.mk a0 a1)) := aset_mpE encApiNodeV m n (ApiNode.mk a0 a1)
theorem encApiNodeV_set0 (n : Int) (a0 : Int) (a1 : Int) : aset [] n (.agg [.int .i64 a0, .int .i64 a1]) = mpE encApiNodeV (mset [] n (ApiNode.mk a0 a1)) := rfl
theorem all_f0_encApiNode (l : List ApiNode) : ((l.map encApiNode).all fun x => x.all AVal.f0) = true := by simp [encApiNode, AVal.f0]
attribute [go_sem] all_f0_encApiNode
def OkApiNode (x : ApiNode) : Prop := I64 x.ID ∧ I64 x.Alt
attribute [go_sem] encApiNode encApiNodeV encApiNode_app encApiNode_set encApiNodeV_set

structure ApiLift where
  ID : Int
  Operator : Int
  From : Int
  To : Int
  Length : Int
  Speed : Int
  Seats : Int
  Spacing : Int
  deriving DecidableEq, Inhabited
def encApiLift (x : ApiLift) : List AVal := [.int .i64 x.ID, .int .i64 x.Operator, .int .i64 x.From, .int .i64 x.To, .int .i64 x.Length, .int .i64 x.Speed, .int .i64 x.Seats, .int .i64 x.Spacing]
def encApiLiftV (x : ApiLift) : AVal := .agg (encApiLift x)
theorem encApiLift_app (l : List ApiLift) (a0 : Int) (a1 : Int) (a2 : Int) (a3 : Int) (a4 : Int) (a5 : Int) (a6 : Int) (a7 : Int) : l.map encApiLift ++ [[.int .i64 a0, .int .i64 a1, .int .i64 a2, .int .i64 a3, .int .i64 a4, .int .i64 a5, .int .i64 a6, .int .i64 a7]] = (l ++ [(ApiLift.mk a0 a1 a2 a3 a4 a5 a6 a7)]).map encApiLift := by simp [encApiLift]
theorem encApiLift_set (l : List ApiLift) (i : Nat) (a0 : Int) (a1 : Int) (a2 : Int) (a3 : Int) (a4 : Int) (a5 : Int) (a6 : Int) (a7 : Int) : (l.map encApiLift).set i [.int .i64 a0, .int .i64 a1, .int .i64 a2, .int .i64 a3, .int .i64 a4, .int .i64 a5, .int .i64 a6, .int .i64 a7] = (l.set i (ApiLift.mk a0 a1 a2 a3 a4 a5 a6 a7)).map encApiLift := by simp [encApiLift]
theorem encApiLift_rep (n : Nat) (a0 : Int) (a1 : Int) (a2 : Int) (a3 : Int) (a4 : Int) (a5 : Int) (a6 : Int) (a7 : Int) : List.replicate n ([.int .i64 a0, .int .i64 a1, .int .i64 a2, .int .i64 a3, .int .i64 a4, .int .i64 a5, .int .i64 a6, .int .i64 a7] : List AVal) = (List.replicate n (ApiLift.mk a0 a1 a2 a3 a4 a5 a6 a7)).map encApiLift := by simp [encApiLift]
theorem encApiLiftV_set (m : List (Int × ApiLift)) (n : Int) (a0 : Int) (a1 : Int) (a2 : Int) (a3 : Int) (a4 : Int) (a5 : Int) (a6 : Int) (a7 : Int) : aset (mpE encApiLiftV m) n (.agg [.int .i64 a0, .int .i64 a1, .int .i64 a2, .int .i64 a3, .int .i64 a4, .int .i64 a5, .int .i64 a6, .int .i64 a7]) = mpE encApiLiftV (mset m n (ApiLift.mk a0 a1 a2 a3 a4 a5 a6 a7)) := aset_mpE encApiLiftV m n (ApiLift.mk a0 a1 a2 a3 a4 a5 a6 a7)
theorem encApiLiftV_set0 (n : Int) (a0 : Int) (a1 : Int) (a2 : Int) (a3 : Int) (a4 : Int) (a5 : Int) (a6 : Int) (a7 : Int) : aset [] n (.agg [.int .i64 a0, .int .i64 a1, .int .i64 a2, .int .i64 a3, .int .i64 a4, .int .i64 a5, .int .i64 a6, .int .i64 a7]) = mpE encApiLiftV (mset [] n (ApiLift.mk a0 a1 a2 a3 a4 a5 a6 a7)) := rfl
theorem all_f0_encApiLift (l : List ApiLift) : ((l.map encApiLift).all fun x => x.all AVal.f0) = true := by simp [encApiLift, AVal.f0]
attribute [go_sem] all_f0_encApiLift
def OkApiLift (x : ApiLift) : Prop := I64 x.ID ∧ I64 x.Operator ∧ I64 x.From ∧ I64 x.To ∧ I64 x.Length ∧ I64 x.Speed ∧ I64 x.Seats ∧ I64 x.Spacing
attribute [go_sem] encApiLift encApiLiftV encApiLift_app encApiLift_set encApiLiftV_set

structure ApiRun where
  ID : Int
  Operator : Int
  From : Int
  To : Int
  Grade : Int
  Zone : Int
  Length : Int
  deriving DecidableEq, Inhabited
def encApiRun (x : ApiRun) : List AVal := [.int .i64 x.ID, .int .i64 x.Operator, .int .i64 x.From, .int .i64 x.To, .int .i64 x.Grade, .int .i64 x.Zone, .int .i64 x.Length]
def encApiRunV (x : ApiRun) : AVal := .agg (encApiRun x)
theorem encApiRun_app (l : List ApiRun) (a0 : Int) (a1 : Int) (a2 : Int) (a3 : Int) (a4 : Int) (a5 : Int) (a6 : Int) : l.map encApiRun ++ [[.int .i64 a0, .int .i64 a1, .int .i64 a2, .int .i64 a3, .int .i64 a4, .int .i64 a5, .int .i64 a6]] = (l ++ [(ApiRun.mk a0 a1 a2 a3 a4 a5 a6)]).map encApiRun := by simp [encApiRun]
theorem encApiRun_set (l : List ApiRun) (i : Nat) (a0 : Int) (a1 : Int) (a2 : Int) (a3 : Int) (a4 : Int) (a5 : Int) (a6 : Int) : (l.map encApiRun).set i [.int .i64 a0, .int .i64 a1, .int .i64 a2, .int .i64 a3, .int .i64 a4, .int .i64 a5, .int .i64 a6] = (l.set i (ApiRun.mk a0 a1 a2 a3 a4 a5 a6)).map encApiRun := by simp [encApiRun]
theorem encApiRun_rep (n : Nat) (a0 : Int) (a1 : Int) (a2 : Int) (a3 : Int) (a4 : Int) (a5 : Int) (a6 : Int) : List.replicate n ([.int .i64 a0, .int .i64 a1, .int .i64 a2, .int .i64 a3, .int .i64 a4, .int .i64 a5, .int .i64 a6] : List AVal) = (List.replicate n (ApiRun.mk a0 a1 a2 a3 a4 a5 a6)).map encApiRun := by simp [encApiRun]
theorem encApiRunV_set (m : List (Int × ApiRun)) (n : Int) (a0 : Int) (a1 : Int) (a2 : Int) (a3 : Int) (a4 : Int) (a5 : Int) (a6 : Int) : aset (mpE encApiRunV m) n (.agg [.int .i64 a0, .int .i64 a1, .int .i64 a2, .int .i64 a3, .int .i64 a4, .int .i64 a5, .int .i64 a6]) = mpE encApiRunV (mset m n (ApiRun.mk a0 a1 a2 a3 a4 a5 a6)) := aset_mpE encApiRunV m n (ApiRun.mk a0 a1 a2 a3 a4 a5 a6)
theorem encApiRunV_set0 (n : Int) (a0 : Int) (a1 : Int) (a2 : Int) (a3 : Int) (a4 : Int) (a5 : Int) (a6 : Int) : aset [] n (.agg [.int .i64 a0, .int .i64 a1, .int .i64 a2, .int .i64 a3, .int .i64 a4, .int .i64 a5, .int .i64 a6]) = mpE encApiRunV (mset [] n (ApiRun.mk a0 a1 a2 a3 a4 a5 a6)) := rfl
theorem all_f0_encApiRun (l : List ApiRun) : ((l.map encApiRun).all fun x => x.all AVal.f0) = true := by simp [encApiRun, AVal.f0]
attribute [go_sem] all_f0_encApiRun
def OkApiRun (x : ApiRun) : Prop := I64 x.ID ∧ I64 x.Operator ∧ I64 x.From ∧ I64 x.To ∧ I64 x.Grade ∧ I64 x.Zone ∧ I64 x.Length
attribute [go_sem] encApiRun encApiRunV encApiRun_app encApiRun_set encApiRunV_set

structure ApiMap where
  Nodes : List ApiNode
  Lifts : List ApiLift
  Runs : List ApiRun
  Bases : List Int
  deriving DecidableEq, Inhabited
def encApiMap (x : ApiMap) : List AVal := [.sl 2 (x.Nodes.map encApiNode), .sl 8 (x.Lifts.map encApiLift), .sl 7 (x.Runs.map encApiRun), .sl 1 (x.Bases.map intC)]
def encApiMapV (x : ApiMap) : AVal := .agg (encApiMap x)
theorem encApiMap_app (l : List ApiMap) (a0 : List ApiNode) (a1 : List ApiLift) (a2 : List ApiRun) (a3 : List Int) : l.map encApiMap ++ [[.sl 2 (a0.map encApiNode), .sl 8 (a1.map encApiLift), .sl 7 (a2.map encApiRun), .sl 1 (a3.map intC)]] = (l ++ [(ApiMap.mk a0 a1 a2 a3)]).map encApiMap := by simp [encApiMap]
theorem encApiMap_set (l : List ApiMap) (i : Nat) (a0 : List ApiNode) (a1 : List ApiLift) (a2 : List ApiRun) (a3 : List Int) : (l.map encApiMap).set i [.sl 2 (a0.map encApiNode), .sl 8 (a1.map encApiLift), .sl 7 (a2.map encApiRun), .sl 1 (a3.map intC)] = (l.set i (ApiMap.mk a0 a1 a2 a3)).map encApiMap := by simp [encApiMap]
theorem encApiMap_rep (n : Nat) (a0 : List ApiNode) (a1 : List ApiLift) (a2 : List ApiRun) (a3 : List Int) : List.replicate n ([.sl 2 (a0.map encApiNode), .sl 8 (a1.map encApiLift), .sl 7 (a2.map encApiRun), .sl 1 (a3.map intC)] : List AVal) = (List.replicate n (ApiMap.mk a0 a1 a2 a3)).map encApiMap := by simp [encApiMap]
theorem encApiMapV_set (m : List (Int × ApiMap)) (n : Int) (a0 : List ApiNode) (a1 : List ApiLift) (a2 : List ApiRun) (a3 : List Int) : aset (mpE encApiMapV m) n (.agg [.sl 2 (a0.map encApiNode), .sl 8 (a1.map encApiLift), .sl 7 (a2.map encApiRun), .sl 1 (a3.map intC)]) = mpE encApiMapV (mset m n (ApiMap.mk a0 a1 a2 a3)) := aset_mpE encApiMapV m n (ApiMap.mk a0 a1 a2 a3)
theorem encApiMapV_set0 (n : Int) (a0 : List ApiNode) (a1 : List ApiLift) (a2 : List ApiRun) (a3 : List Int) : aset [] n (.agg [.sl 2 (a0.map encApiNode), .sl 8 (a1.map encApiLift), .sl 7 (a2.map encApiRun), .sl 1 (a3.map intC)]) = mpE encApiMapV (mset [] n (ApiMap.mk a0 a1 a2 a3)) := rfl
def OkApiMap (x : ApiMap) : Prop := OkL OkApiNode x.Nodes ∧ OkL OkApiLift x.Lifts ∧ OkL OkApiRun x.Runs ∧ OkL I64 x.Bases
attribute [go_sem] encApiMap encApiMapV encApiMap_app encApiMap_set encApiMapV_set

structure Skilaw11Open where
  Map : ApiMap
  Lifts : List Int
  Runs : List Int
  deriving DecidableEq, Inhabited
def encSkilaw11Open (x : Skilaw11Open) : List AVal := [.sl 2 (x.Map.Nodes.map encApiNode), .sl 8 (x.Map.Lifts.map encApiLift), .sl 7 (x.Map.Runs.map encApiRun), .sl 1 (x.Map.Bases.map intC), .sl 1 (x.Lifts.map intC), .sl 1 (x.Runs.map intC)]
def encSkilaw11OpenV (x : Skilaw11Open) : AVal := .agg (encSkilaw11Open x)
theorem encSkilaw11Open_app (l : List Skilaw11Open) (a0 : List ApiNode) (a1 : List ApiLift) (a2 : List ApiRun) (a3 : List Int) (a4 : List Int) (a5 : List Int) : l.map encSkilaw11Open ++ [[.sl 2 (a0.map encApiNode), .sl 8 (a1.map encApiLift), .sl 7 (a2.map encApiRun), .sl 1 (a3.map intC), .sl 1 (a4.map intC), .sl 1 (a5.map intC)]] = (l ++ [(Skilaw11Open.mk (ApiMap.mk a0 a1 a2 a3) a4 a5)]).map encSkilaw11Open := by simp [encSkilaw11Open]
theorem encSkilaw11Open_set (l : List Skilaw11Open) (i : Nat) (a0 : List ApiNode) (a1 : List ApiLift) (a2 : List ApiRun) (a3 : List Int) (a4 : List Int) (a5 : List Int) : (l.map encSkilaw11Open).set i [.sl 2 (a0.map encApiNode), .sl 8 (a1.map encApiLift), .sl 7 (a2.map encApiRun), .sl 1 (a3.map intC), .sl 1 (a4.map intC), .sl 1 (a5.map intC)] = (l.set i (Skilaw11Open.mk (ApiMap.mk a0 a1 a2 a3) a4 a5)).map encSkilaw11Open := by simp [encSkilaw11Open]
theorem encSkilaw11Open_rep (n : Nat) (a0 : List ApiNode) (a1 : List ApiLift) (a2 : List ApiRun) (a3 : List Int) (a4 : List Int) (a5 : List Int) : List.replicate n ([.sl 2 (a0.map encApiNode), .sl 8 (a1.map encApiLift), .sl 7 (a2.map encApiRun), .sl 1 (a3.map intC), .sl 1 (a4.map intC), .sl 1 (a5.map intC)] : List AVal) = (List.replicate n (Skilaw11Open.mk (ApiMap.mk a0 a1 a2 a3) a4 a5)).map encSkilaw11Open := by simp [encSkilaw11Open]
theorem encSkilaw11OpenV_set (m : List (Int × Skilaw11Open)) (n : Int) (a0 : List ApiNode) (a1 : List ApiLift) (a2 : List ApiRun) (a3 : List Int) (a4 : List Int) (a5 : List Int) : aset (mpE encSkilaw11OpenV m) n (.agg [.sl 2 (a0.map encApiNode), .sl 8 (a1.map encApiLift), .sl 7 (a2.map encApiRun), .sl 1 (a3.map intC), .sl 1 (a4.map intC), .sl 1 (a5.map intC)]) = mpE encSkilaw11OpenV (mset m n (Skilaw11Open.mk (ApiMap.mk a0 a1 a2 a3) a4 a5)) := aset_mpE encSkilaw11OpenV m n (Skilaw11Open.mk (ApiMap.mk a0 a1 a2 a3) a4 a5)
theorem encSkilaw11OpenV_set0 (n : Int) (a0 : List ApiNode) (a1 : List ApiLift) (a2 : List ApiRun) (a3 : List Int) (a4 : List Int) (a5 : List Int) : aset [] n (.agg [.sl 2 (a0.map encApiNode), .sl 8 (a1.map encApiLift), .sl 7 (a2.map encApiRun), .sl 1 (a3.map intC), .sl 1 (a4.map intC), .sl 1 (a5.map intC)]) = mpE encSkilaw11OpenV (mset [] n (Skilaw11Open.mk (ApiMap.mk a0 a1 a2 a3) a4 a5)) := rfl
def OkSkilaw11Open (x : Skilaw11Open) : Prop := OkApiMap x.Map ∧ OkL I64 x.Lifts ∧ OkL I64 x.Runs
attribute [go_sem] encSkilaw11Open encSkilaw11OpenV encSkilaw11Open_app encSkilaw11Open_set encSkilaw11OpenV_set

structure ApiEdge where
  ID : Int
  From : Int
  To : Int
  Cost : Int
  deriving DecidableEq, Inhabited
def encApiEdge (x : ApiEdge) : List AVal := [.int .i64 x.ID, .int .i64 x.From, .int .i64 x.To, .int .i64 x.Cost]
def encApiEdgeV (x : ApiEdge) : AVal := .agg (encApiEdge x)
theorem encApiEdge_app (l : List ApiEdge) (a0 : Int) (a1 : Int) (a2 : Int) (a3 : Int) : l.map encApiEdge ++ [[.int .i64 a0, .int .i64 a1, .int .i64 a2, .int .i64 a3]] = (l ++ [(ApiEdge.mk a0 a1 a2 a3)]).map encApiEdge := by simp [encApiEdge]
theorem encApiEdge_set (l : List ApiEdge) (i : Nat) (a0 : Int) (a1 : Int) (a2 : Int) (a3 : Int) : (l.map encApiEdge).set i [.int .i64 a0, .int .i64 a1, .int .i64 a2, .int .i64 a3] = (l.set i (ApiEdge.mk a0 a1 a2 a3)).map encApiEdge := by simp [encApiEdge]
theorem encApiEdge_rep (n : Nat) (a0 : Int) (a1 : Int) (a2 : Int) (a3 : Int) : List.replicate n ([.int .i64 a0, .int .i64 a1, .int .i64 a2, .int .i64 a3] : List AVal) = (List.replicate n (ApiEdge.mk a0 a1 a2 a3)).map encApiEdge := by simp [encApiEdge]
theorem encApiEdgeV_set (m : List (Int × ApiEdge)) (n : Int) (a0 : Int) (a1 : Int) (a2 : Int) (a3 : Int) : aset (mpE encApiEdgeV m) n (.agg [.int .i64 a0, .int .i64 a1, .int .i64 a2, .int .i64 a3]) = mpE encApiEdgeV (mset m n (ApiEdge.mk a0 a1 a2 a3)) := aset_mpE encApiEdgeV m n (ApiEdge.mk a0 a1 a2 a3)
theorem encApiEdgeV_set0 (n : Int) (a0 : Int) (a1 : Int) (a2 : Int) (a3 : Int) : aset [] n (.agg [.int .i64 a0, .int .i64 a1, .int .i64 a2, .int .i64 a3]) = mpE encApiEdgeV (mset [] n (ApiEdge.mk a0 a1 a2 a3)) := rfl
theorem all_f0_encApiEdge (l : List ApiEdge) : ((l.map encApiEdge).all fun x => x.all AVal.f0) = true := by simp [encApiEdge, AVal.f0]
attribute [go_sem] all_f0_encApiEdge
def OkApiEdge (x : ApiEdge) : Prop := I64 x.ID ∧ I64 x.From ∧ I64 x.To ∧ I64 x.Cost
attribute [go_sem] encApiEdge encApiEdgeV encApiEdge_app encApiEdge_set encApiEdgeV_set

structure GraphLength where
  cost : Int
  edges : Int
  deriving DecidableEq, Inhabited
def encGraphLength (x : GraphLength) : List AVal := [.int .i64 x.cost, .int .i64 x.edges]
def encGraphLengthV (x : GraphLength) : AVal := .agg (encGraphLength x)
theorem encGraphLength_app (l : List GraphLength) (a0 : Int) (a1 : Int) : l.map encGraphLength ++ [[.int .i64 a0, .int .i64 a1]] = (l ++ [(GraphLength.mk a0 a1)]).map encGraphLength := by simp [encGraphLength]
theorem encGraphLength_set (l : List GraphLength) (i : Nat) (a0 : Int) (a1 : Int) : (l.map encGraphLength).set i [.int .i64 a0, .int .i64 a1] = (l.set i (GraphLength.mk a0 a1)).map encGraphLength := by simp [encGraphLength]
theorem encGraphLength_rep (n : Nat) (a0 : Int) (a1 : Int) : List.replicate n ([.int .i64 a0, .int .i64 a1] : List AVal) = (List.replicate n (GraphLength.mk a0 a1)).map encGraphLength := by simp [encGraphLength]
theorem encGraphLengthV_set (m : List (Int × GraphLength)) (n : Int) (a0 : Int) (a1 : Int) : aset (mpE encGraphLengthV m) n (.agg [.int .i64 a0, .int .i64 a1]) = mpE encGraphLengthV (mset m n (GraphLength.mk a0 a1)) := aset_mpE encGraphLengthV m n (GraphLength.mk a0 a1)
theorem encGraphLengthV_set0 (n : Int) (a0 : Int) (a1 : Int) : aset [] n (.agg [.int .i64 a0, .int .i64 a1]) = mpE encGraphLengthV (mset [] n (GraphLength.mk a0 a1)) := rfl
theorem all_f0_encGraphLength (l : List GraphLength) : ((l.map encGraphLength).all fun x => x.all AVal.f0) = true := by simp [encGraphLength, AVal.f0]
attribute [go_sem] all_f0_encGraphLength
def OkGraphLength (x : GraphLength) : Prop := I64 x.cost ∧ I64 x.edges
attribute [go_sem] encGraphLength encGraphLengthV encGraphLength_app encGraphLength_set encGraphLengthV_set

structure Skiref05Label where
  node : Int
  cost : Int
  edges : Int
  ok : Bool
  deriving DecidableEq, Inhabited
def encSkiref05Label (x : Skiref05Label) : List AVal := [.int .i64 x.node, .int .i64 x.cost, .int .i64 x.edges, .bool x.ok]
def encSkiref05LabelV (x : Skiref05Label) : AVal := .agg (encSkiref05Label x)
theorem encSkiref05Label_app (l : List Skiref05Label) (a0 : Int) (a1 : Int) (a2 : Int) (a3 : Bool) : l.map encSkiref05Label ++ [[.int .i64 a0, .int .i64 a1, .int .i64 a2, .bool a3]] = (l ++ [(Skiref05Label.mk a0 a1 a2 a3)]).map encSkiref05Label := by simp [encSkiref05Label]
theorem encSkiref05Label_set (l : List Skiref05Label) (i : Nat) (a0 : Int) (a1 : Int) (a2 : Int) (a3 : Bool) : (l.map encSkiref05Label).set i [.int .i64 a0, .int .i64 a1, .int .i64 a2, .bool a3] = (l.set i (Skiref05Label.mk a0 a1 a2 a3)).map encSkiref05Label := by simp [encSkiref05Label]
theorem encSkiref05Label_rep (n : Nat) (a0 : Int) (a1 : Int) (a2 : Int) (a3 : Bool) : List.replicate n ([.int .i64 a0, .int .i64 a1, .int .i64 a2, .bool a3] : List AVal) = (List.replicate n (Skiref05Label.mk a0 a1 a2 a3)).map encSkiref05Label := by simp [encSkiref05Label]
theorem encSkiref05LabelV_set (m : List (Int × Skiref05Label)) (n : Int) (a0 : Int) (a1 : Int) (a2 : Int) (a3 : Bool) : aset (mpE encSkiref05LabelV m) n (.agg [.int .i64 a0, .int .i64 a1, .int .i64 a2, .bool a3]) = mpE encSkiref05LabelV (mset m n (Skiref05Label.mk a0 a1 a2 a3)) := aset_mpE encSkiref05LabelV m n (Skiref05Label.mk a0 a1 a2 a3)
theorem encSkiref05LabelV_set0 (n : Int) (a0 : Int) (a1 : Int) (a2 : Int) (a3 : Bool) : aset [] n (.agg [.int .i64 a0, .int .i64 a1, .int .i64 a2, .bool a3]) = mpE encSkiref05LabelV (mset [] n (Skiref05Label.mk a0 a1 a2 a3)) := rfl
theorem all_f0_encSkiref05Label (l : List Skiref05Label) : ((l.map encSkiref05Label).all fun x => x.all AVal.f0) = true := by simp [encSkiref05Label, AVal.f0]
attribute [go_sem] all_f0_encSkiref05Label
def OkSkiref05Label (x : Skiref05Label) : Prop := I64 x.node ∧ I64 x.cost ∧ I64 x.edges ∧ True
attribute [go_sem] encSkiref05Label encSkiref05LabelV encSkiref05Label_app encSkiref05Label_set encSkiref05LabelV_set

structure Arr2Int where
  e0 : Int
  e1 : Int
  deriving DecidableEq, Inhabited
def encArr2Int (x : Arr2Int) : List AVal := [.int .i64 x.e0, .int .i64 x.e1]
def encArr2IntV (x : Arr2Int) : AVal := .agg (encArr2Int x)
theorem encArr2Int_app (l : List Arr2Int) (a0 : Int) (a1 : Int) : l.map encArr2Int ++ [[.int .i64 a0, .int .i64 a1]] = (l ++ [(Arr2Int.mk a0 a1)]).map encArr2Int := by simp [encArr2Int]
theorem encArr2Int_set (l : List Arr2Int) (i : Nat) (a0 : Int) (a1 : Int) : (l.map encArr2Int).set i [.int .i64 a0, .int .i64 a1] = (l.set i (Arr2Int.mk a0 a1)).map encArr2Int := by simp [encArr2Int]
theorem encArr2Int_rep (n : Nat) (a0 : Int) (a1 : Int) : List.replicate n ([.int .i64 a0, .int .i64 a1] : List AVal) = (List.replicate n (Arr2Int.mk a0 a1)).map encArr2Int := by simp [encArr2Int]
theorem encArr2IntV_set (m : List (Int × Arr2Int)) (n : Int) (a0 : Int) (a1 : Int) : aset (mpE encArr2IntV m) n (.agg [.int .i64 a0, .int .i64 a1]) = mpE encArr2IntV (mset m n (Arr2Int.mk a0 a1)) := aset_mpE encArr2IntV m n (Arr2Int.mk a0 a1)
theorem encArr2IntV_set0 (n : Int) (a0 : Int) (a1 : Int) : aset [] n (.agg [.int .i64 a0, .int .i64 a1]) = mpE encArr2IntV (mset [] n (Arr2Int.mk a0 a1)) := rfl
theorem all_f0_encArr2Int (l : List Arr2Int) : ((l.map encArr2Int).all fun x => x.all AVal.f0) = true := by simp [encArr2Int, AVal.f0]
attribute [go_sem] all_f0_encArr2Int
def OkArr2Int (x : Arr2Int) : Prop := I64 x.e0 ∧ I64 x.e1
attribute [go_sem] encArr2Int encArr2IntV encArr2Int_app encArr2Int_set encArr2IntV_set

theorem take_one_cons {α β : Type} (f : β → α) (a : α) (l : List β) : (a :: l.map f).take (1 + l.length) = a :: l.map f := List.take_of_length_le (by simp; omega)
attribute [go_sem] take_one_cons
attribute [go_sem] Nat.reduceAdd Nat.reduceMul Nat.reduceSub Int.reduceToNat
def slC_encApiEdge (x : List ApiEdge) : List AVal := [.sl 4 (x.map encApiEdge)]
theorem slC_encApiEdge_app (l : List (List ApiEdge)) (a : List ApiEdge) : l.map slC_encApiEdge ++ [[.sl 4 (a.map encApiEdge)]] = (l ++ [a]).map slC_encApiEdge := by simp [slC_encApiEdge]
theorem slC_encApiEdge_set (l : List (List ApiEdge)) (i : Nat) (a : List ApiEdge) : (l.map slC_encApiEdge).set i [.sl 4 (a.map encApiEdge)] = (l.set i a).map slC_encApiEdge := by simp [slC_encApiEdge]
attribute [go_sem] slC_encApiEdge slC_encApiEdge_app slC_encApiEdge_set
end Go.Proofs.Ytnafejjdhdpanaa
