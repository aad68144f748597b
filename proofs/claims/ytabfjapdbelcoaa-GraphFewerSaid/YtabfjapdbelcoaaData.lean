/-
  The data of the program, as plain Lean; how it stands in memory; printed by a small program of our own (wip/walk.py).
-/
import Derived.Test.YtabfjapdbelcoaaTypes
import Derived.Test.YtabfjapdbelcoaaSkZ
namespace Go.Proofs.Ytabfjapdbelcoaa
open Go Go.Ab

structure ApiEdge where
  ID : Int
  From : Int
  To : Int
  Cost : Int
  deriving DecidableEq, Inhabited
def encApiEdge (x : ApiEdge) : List AVal := [.int .i64 x.ID, .int .i64 x.From, .int .i64 x.To, .int .i64 x.Cost]
def encApiEdgeV (x : ApiEdge) : AVal := .agg (encApiEdge x)
theorem encApiEdge_app (l : List ApiEdge) (a0 : Int) (a1 : Int) (a2 : Int) (a3 : Int) : l.map encApiEdge ++ [[.int .i64 a0, .int .i64 a1, .int .i64 a2, .int .i64 a3]] = (l ++ [(ApiEdge.mk a0 a1 a2 a3)]).map encApiEdge := by simp [encApiEdge]
theorem encApiEdge_set (l : List ApiEdge) (i : Nat) (a0 : Int) (a1 : Int) (a2 : Int) (a3 : Int) : (l.map encApiEdge).set i [.int .i64 a0, .int .i64 a1, .int .i64 a2, .int .i64 a3] = (l.set i (ApiEdge.mk a0 a1 a2 a3)).map encApiEdge := by simp [encApiEdge]
theorem encApiEdge_rep (n : Nat) (a0 : Int) (a1 : Int) (a2 : Int) (a3 : Int) : List.replicate n ([.int .i64 a0, .int .i64 a1, .int .i64 a2, .int .i64 a3] : List AVal) = (List.replicate n (ApiEdge.mk a0 a1 a2 a3)).map encApiEdge := by simp [encApiEdge]
theorem encApiEdgeV_set (m : List (Int × ApiEdge)) (n : Int) (a0 : Int) (a1 : Int) (a2 : Int) (a3 : Int) : aset (mpE encApiEdgeV m) n (.agg [.int .i64 a0, .int .i64 a1, .int .i64 a2, .int .i64 a3]) = mpE encApiEdgeV (mset m n (ApiEdge.mk a0 a1 a2 a3)) := aset_mpE encApiEdgeV m n (ApiEdge.mk a0 a1 a2 a3)
theorem encApiEdgeV_set0 (n : Int) (a0 : Int) (a1 : Int) (a2 : Int) (a3 : Int) : aset [] n (.agg [.int .i64 a0, .int .i64 a1, .int .i64 a2, .int .i64 a3]) = mpE encApiEdgeV (mset [] n (ApiEdge.mk a0 a1 a2 a3)) := rfl
theorem all_f0_encApiEdge (l : List ApiEdge) : ((l.map encApiEdge).all fun x => x.all AVal.f0) = true := by simp [encApiEdge, AVal.f0]
attribute [go_sem] all_f0_encApiEdge
def OkApiEdge (x : ApiEdge) : Prop := I64 x.ID ∧ I64 x.From ∧ I64 x.To ∧ I64 x.Cost
attribute [go_sem] encApiEdge encApiEdgeV encApiEdge_app encApiEdge_set encApiEdgeV_set

structure GraphLength where
  cost : Int
  edges : Int
  deriving DecidableEq, Inhabited
def encGraphLength (x : GraphLength) : List AVal := [.int .i64 x.cost, .int .i64 x.edges]
def encGraphLengthV (x : GraphLength) : AVal := .agg (encGraphLength x)
theorem encGraphLength_app (l : List GraphLength) (a0 : Int) (a1 : Int) : l.map encGraphLength ++ [[.int .i64 a0, .int .i64 a1]] = (l ++ [(GraphLength.mk a0 a1)]).map encGraphLength := by simp [encGraphLength]
theorem encGraphLength_set (l : List GraphLength) (i : Nat) (a0 : Int) (a1 : Int) : (l.map encGraphLength).set i [.int .i64 a0, .int .i64 a1] = (l.set i (GraphLength.mk a0 a1)).map encGraphLength := by simp [encGraphLength]
theorem encGraphLength_rep (n : Nat) (a0 : Int) (a1 : Int) : List.replicate n ([.int .i64 a0, .int .i64 a1] : List AVal) = (List.replicate n (GraphLength.mk a0 a1)).map encGraphLength := by simp [encGraphLength]
theorem encGraphLengthV_set (m : List (Int × GraphLength)) (n : Int) (a0 : Int) (a1 : Int) : aset (mpE encGraphLengthV m) n (.agg [.int .i64 a0, .int .i64 a1]) = mpE encGraphLengthV (mset m n (GraphLength.mk a0 a1)) := aset_mpE encGraphLengthV m n (GraphLength.mk a0 a1)
theorem encGraphLengthV_set0 (n : Int) (a0 : Int) (a1 : Int) : aset [] n (.agg [.int .i64 a0, .int .i64 a1]) = mpE encGraphLengthV (mset [] n (GraphLength.mk a0 a1)) := rfl
theorem all_f0_encGraphLength (l : List GraphLength) : ((l.map encGraphLength).all fun x => x.all AVal.f0) = true := by simp [encGraphLength, AVal.f0]
attribute [go_sem] all_f0_encGraphLength
def OkGraphLength (x : GraphLength) : Prop := I64 x.cost ∧ I64 x.edges
attribute [go_sem] encGraphLength encGraphLengthV encGraphLength_app encGraphLength_set encGraphLengthV_set

structure Skiref05Label where
  node : Int
  cost : Int
  edges : Int
  ok : Bool
  deriving DecidableEq, Inhabited
def encSkiref05Label (x : Skiref05Label) : List AVal := [.int .i64 x.node, .int .i64 x.cost, .int .i64 x.edges, .bool x.ok]
def encSkiref05LabelV (x : Skiref05Label) : AVal := .agg (encSkiref05Label x)
theorem encSkiref05Label_app (l : List Skiref05Label) (a0 : Int) (a1 : Int) (a2 : Int) (a3 : Bool) : l.map encSkiref05Label ++ [[.int .i64 a0, .int .i64 a1, .int .i64 a2, .bool a3]] = (l ++ [(Skiref05Label.mk a0 a1 a2 a3)]).map encSkiref05Label := by simp [encSkiref05Label]
theorem encSkiref05Label_set (l : List Skiref05Label) (i : Nat) (a0 : Int) (a1 : Int) (a2 : Int) (a3 : Bool) : (l.map encSkiref05Label).set i [.int .i64 a0, .int .i64 a1, .int .i64 a2, .bool a3] = (l.set i (Skiref05Label.mk a0 a1 a2 a3)).map encSkiref05Label := by simp [encSkiref05Label]
theorem encSkiref05Label_rep (n : Nat) (a0 : Int) (a1 : Int) (a2 : Int) (a3 : Bool) : List.replicate n ([.int .i64 a0, .int .i64 a1, .int .i64 a2, .bool a3] : List AVal) = (List.replicate n (Skiref05Label.mk a0 a1 a2 a3)).map encSkiref05Label := by simp [encSkiref05Label]
theorem encSkiref05LabelV_set (m : List (Int × Skiref05Label)) (n : Int) (a0 : Int) (a1 : Int) (a2 : Int) (a3 : Bool) : aset (mpE encSkiref05LabelV m) n (.agg [.int .i64 a0, .int .i64 a1, .int .i64 a2, .bool a3]) = mpE encSkiref05LabelV (mset m n (Skiref05Label.mk a0 a1 a2 a3)) := aset_mpE encSkiref05LabelV m n (Skiref05Label.mk a0 a1 a2 a3)
theorem encSkiref05LabelV_set0 (n : Int) (a0 : Int) (a1 : Int) (a2 : Int) (a3 : Bool) : aset [] n (.agg [.int .i64 a0, .int .i64 a1, .int .i64 a2, .bool a3]) = mpE encSkiref05LabelV (mset [] n (Skiref05Label.mk a0 a1 a2 a3)) := rfl
theorem all_f0_encSkiref05Label (l : List Skiref05Label) : ((l.map encSkiref05Label).all fun x => x.all AVal.f0) = true := by simp [encSkiref05Label, AVal.f0]
attribute [go_sem] all_f0_encSkiref05Label
def OkSkiref05Label (x : Skiref05Label) : Prop := I64 x.node ∧ I64 x.cost ∧ I64 x.edges ∧ True
attribute [go_sem] encSkiref05Label encSkiref05LabelV encSkiref05Label_app encSkiref05Label_set encSkiref05LabelV_set

structure Arr2Int where
  e0 : Int
  e1 : Int
  deriving DecidableEq, Inhabited
def encArr2Int (x : Arr2Int) : List AVal := [.int .i64 x.e0, .int .i64 x.e1]
def encArr2IntV (x : Arr2Int) : AVal := .agg (encArr2Int x)
theorem encArr2Int_app (l : List Arr2Int) (a0 : Int) (a1 : Int) : l.map encArr2Int ++ [[.int .i64 a0, .int .i64 a1]] = (l ++ [(Arr2Int.mk a0 a1)]).map encArr2Int := by simp [encArr2Int]
theorem encArr2Int_set (l : List Arr2Int) (i : Nat) (a0 : Int) (a1 : Int) : (l.map encArr2Int).set i [.int .i64 a0, .int .i64 a1] = (l.set i (Arr2Int.mk a0 a1)).map encArr2Int := by simp [encArr2Int]
theorem encArr2Int_rep (n : Nat) (a0 : Int) (a1 : Int) : List.replicate n ([.int .i64 a0, .int .i64 a1] : List AVal) = (List.replicate n (Arr2Int.mk a0 a1)).map encArr2Int := by simp [encArr2Int]
theorem encArr2IntV_set (m : List (Int × Arr2Int)) (n : Int) (a0 : Int) (a1 : Int) : aset (mpE encArr2IntV m) n (.agg [.int .i64 a0, .int .i64 a1]) = mpE encArr2IntV (mset m n (Arr2Int.mk a0 a1)) := aset_mpE encArr2IntV m n (Arr2Int.mk a0 a1)
theorem encArr2IntV_set0 (n : Int) (a0 : Int) (a1 : Int) : aset [] n (.agg [.int .i64 a0, .int .i64 a1]) = mpE encArr2IntV (mset [] n (Arr2Int.mk a0 a1)) := rfl
theorem all_f0_encArr2Int (l : List Arr2Int) : ((l.map encArr2Int).all fun x => x.all AVal.f0) = true := by simp [encArr2Int, AVal.f0]
attribute [go_sem] all_f0_encArr2Int
def OkArr2Int (x : Arr2Int) : Prop := I64 x.e0 ∧ I64 x.e1
attribute [go_sem] encArr2Int encArr2IntV encArr2Int_app encArr2Int_set encArr2IntV_set

theorem take_one_cons {α β : Type} (f : β → α) (a : α) (l : List β) : (a :: l.map f).take (1 + l.length) = a :: l.map f := List.take_of_length_le (by simp; omega)
attribute [go_sem] take_one_cons
attribute [go_sem] Nat.reduceAdd Nat.reduceMul Nat.reduceSub Int.reduceToNat
end Go.Proofs.Ytabfjapdbelcoaa
