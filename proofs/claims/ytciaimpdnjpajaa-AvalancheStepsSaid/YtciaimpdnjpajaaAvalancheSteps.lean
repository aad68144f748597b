/-
  AvalancheSteps: for every input the law returns true, and each argument reads behind the call as it read before. No condition.
-/
import Derived.Test.YtciaimpdnjpajaaL5
import Derived.Test.YtciaimpdnjpajaaRows
import Derived.Test.YtciaimpdnjpajaaSkZD
import Derived.ProofKit
namespace Go.Proofs.Ytciaimpdnjpajaa
open Go Go.Ab Go.RowKit
theorem op3 : Opens Try.prog 3 (fun n : Int => [.int .i64 n]) I64 := (Opens.int Try.underlying3).iso id (fun _ => rfl) fun _ h => wf_i64 h
theorem op31 : Opens Try.prog 31 (fun l : List Int => [.sl 1 (l.map intC)]) (OkL I64) :=
  Opens.slice (sz := 1) Try.underlying31 (by kernel_rfl) (by decide) (fun _ => rfl) (fun a c h => by have := List.mem_singleton.1 h; subst this; rfl) op3
theorem op34 : Opens Try.prog 34 encApiSlide OkApiSlide :=
  (Opens.struct (tot := 6) Try.underlying34 (by kernel_rfl) (.cons (sz := 1) rfl (by kernel_rfl) op3 (.cons (sz := 1) rfl (by kernel_rfl) op31 (.cons (sz := 1) rfl (by kernel_rfl) op31 (.cons (sz := 1) rfl (by kernel_rfl) op3 (.cons (sz := 1) rfl (by kernel_rfl) op3 (.cons (sz := 1) rfl (by kernel_rfl) op3 .nil))))))).iso (fun x => ⟨x.1, x.2.1, x.2.2.1, x.2.2.2.1, x.2.2.2.2.1, x.2.2.2.2.2.1⟩) (fun _ => rfl) fun _ h => ⟨h.1, h.2.1, h.2.2.1, h.2.2.2.1, h.2.2.2.2.1, h.2.2.2.2.2.1⟩
theorem op22 : Opens Try.prog 22 (fun l : List ApiSlide => [.sl 6 (l.map encApiSlide)]) (OkL OkApiSlide) :=
  Opens.slice (sz := 6) Try.underlying22 (by kernel_rfl) (by decide) (fun _ => rfl) (fun a c h => by simp [encApiSlide] at h; rcases h with rfl | rfl | rfl | rfl | rfl | rfl <;> rfl) op34
theorem op43 : Opens Try.prog 43 (fun n : Int => [.int .u16 n]) U16 := (Opens.int Try.underlying43).iso id (fun _ => rfl) fun _ h => wf_u16 h
theorem own : ownKnob Try.prog.godebug = none := by kernel_rfl
theorem laidOut : laidOutB Try.prog = true := by kernel_rfl
theorem law_spec (x : (List ApiSlide) × Int × Int × Unit) (h : OkL OkApiSlide x.1 ∧ U16 x.2.1 ∧ U16 x.2.2.1 ∧ True) : PureFn Try.prog 9 [.sl 6 (x.1.map encApiSlide), .int .u16 x.2.1, .int .u16 x.2.2.1] (· = .bool true) := law50_AvalancheSteps_spec x.1 x.2.1 x.2.2.1 (law50_AvalancheSteps_true x.1 x.2.1 x.2.2.1 h.1 h.2.1 h.2.2.1)
set_option maxRecDepth 100000 in
theorem lifted (os : Os) (started : os.Started) (H : Type) (enc : TypeId × Value → H) :
    ReturnsInHanded {} Try.checked os 9 .any (Rows.avalancheStepsSpec.pre6 enc Try.prog Try.f9 Rows.avalancheStepsRow.domain false) (Rows.avalancheStepsSpec.post enc Try.prog Try.f9 false true false false) := by
  refine lifted_of (C := Try.checked) (tb := 4) own started (by kernel_rfl) Try.func9 (ChangeSpec.witness6 (enc := enc) (C := Try.checked) false ⟨#[], #[.slice none 0 0, .int .u16 0, .int .u16 0], []⟩ 8 (by kernel_rfl) (by kernel_rfl) (by kernel_rfl) (by kernel_rfl))
    rfl rfl Try.underlying4 laidOut (by kernel_rfl) (fun ds h => ?_) (fun W b0 args ds ps hv hd => ?_)
  · match ds, h with
    | [d1, d2, d3], _ => exact ⟨rfl, rfl, rfl⟩
  · exact calls_of_pure law_spec (.cons (OpensV.slice Try.underlying22 op22) (.cons ((OpensV.int Try.underlying43).iso id (fun _ => rfl) fun _ h => wf_u16 h : OpensV Try.prog 43 (fun n : Int => .int .u16 n) U16) (.cons ((OpensV.int Try.underlying43).iso id (fun _ => rfl) fun _ h => wf_u16 h : OpensV Try.prog 43 (fun n : Int => .int .u16 n) U16) .nil))) hv hd
theorem AvalancheSteps_holds : Rows.AvalancheStepsSaid :=
  OpenClaim.holds_of_wide 9 Try.f9 rfl rfl rfl rfl rfl rfl rfl ⟨rfl, rfl, rfl, rfl, rfl⟩ rfl rfl rfl rfl rfl (by kernel_rfl) Try.func9 (by kernel_rfl)
    (of_decide_eq_true (by kernel_rfl)) (by unfold Func.isWrapper; first | (rw [if_pos (by decide +kernel)]; kernel_rfl) | (rw [if_neg (by decide +kernel)]; exact ⟨rfl, rfl⟩))
    (fun os started H enc _ => lifted os started H enc)
end Go.Proofs.Ytciaimpdnjpajaa
