/-
  WinchApart: for every input the law returns true, and each argument reads behind the call as it read before. No condition.
-/
import Derived.Test.YtjdgjilnldofaaaL3
import Derived.Test.YtjdgjilnldofaaaRows
import Derived.Test.YtjdgjilnldofaaaSkZD
import Derived.ProofKit
namespace Go.Proofs.Ytjdgjilnldofaaa
open Go Go.Ab Go.RowKit
theorem op3 : Opens Try.prog 3 (fun n : Int => [.int .i64 n]) I64 := (Opens.int Try.underlying3).iso id (fun _ => rfl) fun _ h => wf_i64 h
theorem op27 : Opens Try.prog 27 (fun l : List Int => [.sl 1 (l.map intC)]) (OkL I64) :=
  Opens.slice (sz := 1) Try.underlying27 (by kernel_rfl) (by decide) (fun _ => rfl) (fun a c h => by have := List.mem_singleton.1 h; subst this; rfl) op3
theorem op29 : Opens Try.prog 29 encApiWinchLine OkApiWinchLine :=
  (Opens.struct (tot := 4) Try.underlying29 (by kernel_rfl) (.cons (sz := 1) rfl (by kernel_rfl) op3 (.cons (sz := 1) rfl (by kernel_rfl) op3 (.cons (sz := 1) rfl (by kernel_rfl) op3 (.cons (sz := 1) rfl (by kernel_rfl) op27 .nil))))).iso (fun x => ⟨x.1, x.2.1, x.2.2.1, x.2.2.2.1⟩) (fun _ => rfl) fun _ h => ⟨h.1, h.2.1, h.2.2.1, h.2.2.2.1⟩
theorem op22 : Opens Try.prog 22 (fun l : List ApiWinchLine => [.sl 4 (l.map encApiWinchLine)]) (OkL OkApiWinchLine) :=
  Opens.slice (sz := 4) Try.underlying22 (by kernel_rfl) (by decide) (fun _ => rfl) (fun a c h => by simp [encApiWinchLine] at h; rcases h with rfl | rfl | rfl | rfl <;> rfl) op29
theorem own : ownKnob Try.prog.godebug = none := by kernel_rfl
theorem laidOut : laidOutB Try.prog = true := by kernel_rfl
theorem law_spec (x : (List ApiWinchLine) × (List ApiWinchLine) × Int × Unit) (h : OkL OkApiWinchLine x.1 ∧ OkL OkApiWinchLine x.2.1 ∧ I64 x.2.2.1 ∧ True) : PureFn Try.prog 7 [.sl 4 (x.1.map encApiWinchLine), .sl 4 (x.2.1.map encApiWinchLine), .int .i64 x.2.2.1] (· = .bool true) := law46_WinchApart_spec x.1 x.2.1 x.2.2.1 (law46_WinchApart_true x.1 x.2.1 x.2.2.1 h.1 h.2.1 h.2.2.1)
set_option maxRecDepth 100000 in
theorem lifted (os : Os) (started : os.Started) (H : Type) (enc : TypeId × Value → H) :
    ReturnsInHanded {} Try.checked os 7 .any (Rows.winchApartSpec.pre6 enc Try.prog Try.f7 Rows.winchApartRow.domain false) (Rows.winchApartSpec.post enc Try.prog Try.f7 false true false false) := by
  refine lifted_of (C := Try.checked) (tb := 4) own started (by kernel_rfl) Try.func7 (ChangeSpec.witness6 (enc := enc) (C := Try.checked) false ⟨#[], #[.slice none 0 0, .slice none 0 0, .int .i64 0], []⟩ 8 (by kernel_rfl) (by kernel_rfl) (by kernel_rfl) (by kernel_rfl))
    rfl rfl Try.underlying4 laidOut (by kernel_rfl) (fun ds h => ?_) (fun W b0 args ds ps hv hd => ?_)
  · match ds, h with
    | [d1, d2, d3], _ => exact ⟨rfl, rfl, rfl⟩
  · exact calls_of_pure law_spec (.cons (OpensV.slice Try.underlying22 op22) (.cons (OpensV.slice Try.underlying22 op22) (.cons ((OpensV.int Try.underlying3).iso id (fun _ => rfl) fun _ h => wf_i64 h : OpensV Try.prog 3 (fun n : Int => .int .i64 n) I64) .nil))) hv hd
theorem WinchApart_holds : Rows.WinchApartSaid :=
  OpenClaim.holds_of_wide 7 Try.f7 rfl rfl rfl rfl rfl rfl rfl ⟨rfl, rfl, rfl, rfl, rfl⟩ rfl rfl rfl rfl rfl (by kernel_rfl) Try.func7 (by kernel_rfl)
    (of_decide_eq_true (by kernel_rfl)) (by unfold Func.isWrapper; first | (rw [if_pos (by decide +kernel)]; kernel_rfl) | (rw [if_neg (by decide +kernel)]; exact ⟨rfl, rfl⟩))
    (fun os started H enc _ => lifted os started H enc)
end Go.Proofs.Ytjdgjilnldofaaa
