/-
  A box let go: from now on it is told by its cells.
-/
import Derived.Test.YtabfjapdbelcoaaSkXA
namespace Go.Ab
open Go Go.RowKit

def frzBox (r : Nat) (cs : List AVal) (v : AVal) : AVal :=
  match v with
  | .ptr r' k => if r' = r then .eptr (cs.drop k) else v
  | _ => v
def frzBFr (r : Nat) (cs : List AVal) (fr : Fr) : Fr := fr.map fun p => (p.1, frzBox r cs p.2)
theorem get_frzBFr (r : Nat) (cs : List AVal) : ∀ (fr : Fr) (t : Nat), get (frzBFr r cs fr) t = frzBox r cs (get fr t)
  | [], t => rfl
  | (k, v) :: fr, t => by
    have ih := get_frzBFr r cs fr t
    simp only [frzBFr, List.map_cons, get] at ih ⊢
    split
    · rfl
    · exact ih
theorem Sub.freezeBox {outer : List Fr} {fr : Fr} {H : List AObj} (r : Nat) {cs : List AVal} (hr : H[r]? = some (.box cs)) (hg : (cs.all AVal.g0) = true) : Sub outer fr H (frzBFr r cs fr) (H.set r .gone) := by
  intro W0 A0 n outs a w R
  obtain ⟨C, rfl, rfl, I, hF, hO, hn, hd⟩ := R.ex
  have key := I.freeze r
  refine ⟨C.freeze r, rfl, rfl, key.1, fun t => ?_, hO.mono key.2, hn, hd⟩
  rw [get_frzBFr]
  have hv := hF t
  unfold frzBox
  split
  · rename_i r' k hm
    split
    · rename_i e
      subst e
      rw [hm] at hv
      cases hv' : a.tmps.getD t undef with
      | pointer ob =>
        rw [hv'] at hv
        cases hv with
        | ptr b _ _ hlt hh =>
          obtain ⟨l, hl, rfl⟩ := hh _ hr
          obtain ⟨l', arr, T, h1, h2, h3, h4⟩ := I.objs _ _ hr
          rw [hl, Option.some.injEq] at h1
          subst h1
          refine .eptr _ _ (fun j => arr.getD (k + j) undef) rfl (.inr ⟨l, hl, rfl⟩) (fun c hc => List.all_eq_true.1 hg c (List.mem_of_mem_drop hc)) (fun j hj => ?_) fun j c hc => ?_
          · rw [List.length_drop] at hj
            have hlt2 : k + j < arr.size := by omega
            simp [World.cell?, h2, Array.getD, hlt2]
          · rw [List.getElem?_drop] at hc
            have hlt2 : k + j < arr.size := by rw [h3]; exact (List.getElem?_eq_some_iff.1 hc).1
            have : arr[k + j]? = some (arr.getD (k + j) undef) := by simp [Array.getD, hlt2]
            exact (h4 _ _ _ this hc).mono key.2
      | _ => rw [hv'] at hv; cases hv
    · exact hv.mono key.2
  · exact hv.mono key.2
attribute [go_sem] frzBox frzBFr singles
end Go.Ab
