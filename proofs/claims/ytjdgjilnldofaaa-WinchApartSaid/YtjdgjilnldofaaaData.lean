/-
  The data of the program, as plain Lean; how it stands in memory; printed by a small program of our own (wip/walk.py).
-/
import Derived.Test.YtjdgjilnldofaaaTypes
import Derived.Test.YtjdgjilnldofaaaSkZ
namespace Go.Proofs.Ytjdgjilnldofaaa
open Go Go.Ab

structure ApiWinchLine where
  Groomer : Int
  From : Int
  To : Int
  Runs : List Int
  deriving DecidableEq, Inhabited
def encApiWinchLine (x : ApiWinchLine) : List AVal := [.int .i64 x.Groomer, .int .i64 x.From, .int .i64 x.To, .sl 1 (x.Runs.map intC)]
def encApiWinchLineV (x : ApiWinchLine) : AVal := .agg (encApiWinchLine x)
theorem encApiWinchLine_app (l : List ApiWinchLine) (a0 : Int) (a1 : Int) (a2 : Int) (a3 : List Int) : l.map encApiWinchLine ++ [[.int .i64 a0, .int .i64 a1, .int .i64 a2, .sl 1 (a3.map intC)]] = (l ++ [(ApiWinchLine.mk a0 a1 a2 a3)]).map encApiWinchLine := by simp [encApiWinchLine]
theorem encApiWinchLine_set (l : List ApiWinchLine) (i : Nat) (a0 : Int) (a1 : Int) (a2 : Int) (a3 : List Int) : (l.map encApiWinchLine).set i [.int .i64 a0, .int .i64 a1, .int .i64 a2, .sl 1 (a3.map intC)] = (l.set i (ApiWinchLine.mk a0 a1 a2 a3)).map encApiWinchLine := by simp [encApiWinchLine]
theorem encApiWinchLine_rep (n : Nat) (a0 : Int) (a1 : Int) (a2 : Int) (a3 : List Int) : List.replicate n ([.int .i64 a0, .int .i64 a1, .int .i64 a2, .sl 1 (a3.map intC)] : List AVal) = (List.replicate n (ApiWinchLine.mk a0 a1 a2 a3)).map encApiWinchLine := by simp [encApiWinchLine]
theorem encApiWinchLineV_set (m : List (Int × ApiWinchLine)) (n : Int) (a0 : Int) (a1 : Int) (a2 : Int) (a3 : List Int) : aset (mpE encApiWinchLineV m) n (.agg [.int .i64 a0, .int .i64 a1, .int .i64 a2, .sl 1 (a3.map intC)]) = mpE encApiWinchLineV (mset m n (ApiWinchLine.mk a0 a1 a2 a3)) := aset_mpE encApiWinchLineV m n (ApiWinchLine.mk a0 a1 a2 a3)
theorem encApiWinchLineV_set0 (n : Int) (a0 : Int) (a1 : Int) (a2 : Int) (a3 : List Int) : aset [] n (.agg [.int .i64 a0, .int .i64 a1, .int .i64 a2, .sl 1 (a3.map intC)]) = mpE encApiWinchLineV (mset [] n (ApiWinchLine.mk a0 a1 a2 a3)) := rfl
def OkApiWinchLine (x : ApiWinchLine) : Prop := I64 x.Groomer ∧ I64 x.From ∧ I64 x.To ∧ OkL I64 x.Runs
attribute [go_sem] encApiWinchLine encApiWinchLineV encApiWinchLine_app encApiWinchLine_set encApiWinchLineV_set

structure ApiInterval where
  From : Int
  To : Int
  deriving DecidableEq, Inhabited
def encApiInterval (x : ApiInterval) : List AVal := [.int .i64 x.From, .int .i64 x.To]
def encApiIntervalV (x : ApiInterval) : AVal := .agg (encApiInterval x)
theorem encApiInterval_app (l : List ApiInterval) (a0 : Int) (a1 : Int) : l.map encApiInterval ++ [[.int .i64 a0, .int .i64 a1]] = (l ++ [(ApiInterval.mk a0 a1)]).map encApiInterval := by simp [encApiInterval]
theorem encApiInterval_set (l : List ApiInterval) (i : Nat) (a0 : Int) (a1 : Int) : (l.map encApiInterval).set i [.int .i64 a0, .int .i64 a1] = (l.set i (ApiInterval.mk a0 a1)).map encApiInterval := by simp [encApiInterval]
theorem encApiInterval_rep (n : Nat) (a0 : Int) (a1 : Int) : List.replicate n ([.int .i64 a0, .int .i64 a1] : List AVal) = (List.replicate n (ApiInterval.mk a0 a1)).map encApiInterval := by simp [encApiInterval]
theorem encApiIntervalV_set (m : List (Int × ApiInterval)) (n : Int) (a0 : Int) (a1 : Int) : aset (mpE encApiIntervalV m) n (.agg [.int .i64 a0, .int .i64 a1]) = mpE encApiIntervalV (mset m n (ApiInterval.mk a0 a1)) := aset_mpE encApiIntervalV m n (ApiInterval.mk a0 a1)
theorem encApiIntervalV_set0 (n : Int) (a0 : Int) (a1 : Int) : aset [] n (.agg [.int .i64 a0, .int .i64 a1]) = mpE encApiIntervalV (mset [] n (ApiInterval.mk a0 a1)) := rfl
theorem all_f0_encApiInterval (l : List ApiInterval) : ((l.map encApiInterval).all fun x => x.all AVal.f0) = true := by simp [encApiInterval, AVal.f0]
attribute [go_sem] all_f0_encApiInterval
def OkApiInterval (x : ApiInterval) : Prop := I64 x.From ∧ I64 x.To
attribute [go_sem] encApiInterval encApiIntervalV encApiInterval_app encApiInterval_set encApiIntervalV_set

structure Arr3Int where
  e0 : Int
  e1 : Int
  e2 : Int
  deriving DecidableEq, Inhabited
def encArr3Int (x : Arr3Int) : List AVal := [.int .i64 x.e0, .int .i64 x.e1, .int .i64 x.e2]
def encArr3IntV (x : Arr3Int) : AVal := .agg (encArr3Int x)
theorem encArr3Int_app (l : List Arr3Int) (a0 : Int) (a1 : Int) (a2 : Int) : l.map encArr3Int ++ [[.int .i64 a0, .int .i64 a1, .int .i64 a2]] = (l ++ [(Arr3Int.mk a0 a1 a2)]).map encArr3Int := by simp [encArr3Int]
theorem encArr3Int_set (l : List Arr3Int) (i : Nat) (a0 : Int) (a1 : Int) (a2 : Int) : (l.map encArr3Int).set i [.int .i64 a0, .int .i64 a1, .int .i64 a2] = (l.set i (Arr3Int.mk a0 a1 a2)).map encArr3Int := by simp [encArr3Int]
theorem encArr3Int_rep (n : Nat) (a0 : Int) (a1 : Int) (a2 : Int) : List.replicate n ([.int .i64 a0, .int .i64 a1, .int .i64 a2] : List AVal) = (List.replicate n (Arr3Int.mk a0 a1 a2)).map encArr3Int := by simp [encArr3Int]
theorem encArr3IntV_set (m : List (Int × Arr3Int)) (n : Int) (a0 : Int) (a1 : Int) (a2 : Int) : aset (mpE encArr3IntV m) n (.agg [.int .i64 a0, .int .i64 a1, .int .i64 a2]) = mpE encArr3IntV (mset m n (Arr3Int.mk a0 a1 a2)) := aset_mpE encArr3IntV m n (Arr3Int.mk a0 a1 a2)
theorem encArr3IntV_set0 (n : Int) (a0 : Int) (a1 : Int) (a2 : Int) : aset [] n (.agg [.int .i64 a0, .int .i64 a1, .int .i64 a2]) = mpE encArr3IntV (mset [] n (Arr3Int.mk a0 a1 a2)) := rfl
theorem all_f0_encArr3Int (l : List Arr3Int) : ((l.map encArr3Int).all fun x => x.all AVal.f0) = true := by simp [encArr3Int, AVal.f0]
attribute [go_sem] all_f0_encArr3Int
def OkArr3Int (x : Arr3Int) : Prop := I64 x.e0 ∧ I64 x.e1 ∧ I64 x.e2
attribute [go_sem] encArr3Int encArr3IntV encArr3Int_app encArr3Int_set encArr3IntV_set

theorem take_one_cons {α β : Type} (f : β → α) (a : α) (l : List β) : (a :: l.map f).take (1 + l.length) = a :: l.map f := List.take_of_length_le (by simp; omega)
attribute [go_sem] take_one_cons
attribute [go_sem] Nat.reduceAdd Nat.reduceMul Nat.reduceSub Int.reduceToNat
end Go.Proofs.Ytjdgjilnldofaaa
