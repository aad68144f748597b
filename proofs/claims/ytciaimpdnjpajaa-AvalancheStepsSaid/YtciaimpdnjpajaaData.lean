/-
  The data of the program, as plain Lean; how it stands in memory; printed by a small program of our own (wip/walk.py).
-/
import Derived.Test.YtciaimpdnjpajaaTypes
import Derived.Test.YtciaimpdnjpajaaSkZ
namespace Go.Proofs.Ytciaimpdnjpajaa
open Go Go.Ab

structure ApiSlide where
  ID : Int
  Zones : List Int
  Lifts : List Int
  Limit : Int
  Load : Int
  Controlled : Int
  deriving DecidableEq, Inhabited
def encApiSlide (x : ApiSlide) : List AVal := [.int .i64 x.ID, .sl 1 (x.Zones.map intC), .sl 1 (x.Lifts.map intC), .int .i64 x.Limit, .int .i64 x.Load, .int .i64 x.Controlled]
def encApiSlideV (x : ApiSlide) : AVal := .agg (encApiSlide x)
theorem encApiSlide_app (l : List ApiSlide) (a0 : Int) (a1 : List Int) (a2 : List Int) (a3 : Int) (a4 : Int) (a5 : Int) : l.map encApiSlide ++ [[.int .i64 a0, .sl 1 (a1.map intC), .sl 1 (a2.map intC), .int .i64 a3, .int .i64 a4, .int .i64 a5]] = (l ++ [(ApiSlide.mk a0 a1 a2 a3 a4 a5)]).map encApiSlide := by simp [encApiSlide]
theorem encApiSlide_set (l : List ApiSlide) (i : Nat) (a0 : Int) (a1 : List Int) (a2 : List Int) (a3 : Int) (a4 : Int) (a5 : Int) : (l.map encApiSlide).set i [.int .i64 a0, .sl 1 (a1.map intC), .sl 1 (a2.map intC), .int .i64 a3, .int .i64 a4, .int .i64 a5] = (l.set i (ApiSlide.mk a0 a1 a2 a3 a4 a5)).map encApiSlide := by simp [encApiSlide]
theorem encApiSlide_rep (n : Nat) (a0 : Int) (a1 : List Int) (a2 : List Int) (a3 : Int) (a4 : Int) (a5 : Int) : List.replicate n ([.int .i64 a0, .sl 1 (a1.map intC), .sl 1 (a2.map intC), .int .i64 a3, .int .i64 a4, .int .i64 a5] : List AVal) = (List.replicate n (ApiSlide.mk a0 a1 a2 a3 a4 a5)).map encApiSlide := by simp [encApiSlide]
theorem encApiSlideV_set (m : List (Int × ApiSlide)) (n : Int) (a0 : Int) (a1 : List Int) (a2 : List Int) (a3 : Int) (a4 : Int) (a5 : Int) : aset (mpE encApiSlideV m) n (.agg [.int .i64 a0, .sl 1 (a1.map intC), .sl 1 (a2.map intC), .int .i64 a3, .int .i64 a4, .int .i64 a5]) = mpE encApiSlideV (mset m n (ApiSlide.mk a0 a1 a2 a3 a4 a5)) := aset_mpE encApiSlideV m n (ApiSlide.mk a0 a1 a2 a3 a4 a5)
theorem encApiSlideV_set0 (n : Int) (a0 : Int) (a1 : List Int) (a2 : List Int) (a3 : Int) (a4 : Int) (a5 : Int) : aset [] n (.agg [.int .i64 a0, .sl 1 (a1.map intC), .sl 1 (a2.map intC), .int .i64 a3, .int .i64 a4, .int .i64 a5]) = mpE encApiSlideV (mset [] n (ApiSlide.mk a0 a1 a2 a3 a4 a5)) := rfl
def OkApiSlide (x : ApiSlide) : Prop := I64 x.ID ∧ OkL I64 x.Zones ∧ OkL I64 x.Lifts ∧ I64 x.Limit ∧ I64 x.Load ∧ I64 x.Controlled
attribute [go_sem] encApiSlide encApiSlideV encApiSlide_app encApiSlide_set encApiSlideV_set

theorem take_one_cons {α β : Type} (f : β → α) (a : α) (l : List β) : (a :: l.map f).take (1 + l.length) = a :: l.map f := List.take_of_length_le (by simp; omega)
attribute [go_sem] take_one_cons
attribute [go_sem] Nat.reduceAdd Nat.reduceMul Nat.reduceSub Int.reduceToNat
end Go.Proofs.Ytciaimpdnjpajaa
