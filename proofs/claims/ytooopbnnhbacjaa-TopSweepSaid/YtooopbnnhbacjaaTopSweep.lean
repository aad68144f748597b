/-
  TopSweep: for every input the law returns true, and each argument reads behind the call as it read before. No condition.
-/
import Derived.Test.YtooopbnnhbacjaaL8
import Derived.Test.YtooopbnnhbacjaaRows
import Derived.Test.YtooopbnnhbacjaaSkZD
import Derived.ProofKit
namespace Go.Proofs.Ytooopbnnhbacjaa
open Go Go.Ab Go.RowKit
theorem op3 : Opens Try.prog 3 (fun n : Int => [.int .i64 n]) I64 := (Opens.int Try.underlying3).iso id (fun _ => rfl) fun _ h => wf_i64 h
theorem op52 : Opens Try.prog 52 encApiNode OkApiNode :=
  (Opens.struct (tot := 2) Try.underlying52 (by kernel_rfl) (.cons (sz := 1) rfl (by kernel_rfl) op3 (.cons (sz := 1) rfl (by kernel_rfl) op3 .nil))).iso (fun x => ⟨x.1, x.2.1⟩) (fun _ => rfl) fun _ h => ⟨h.1, h.2.1⟩
theorem op22 : Opens Try.prog 22 (fun l : List ApiNode => [.sl 2 (l.map encApiNode)]) (OkL OkApiNode) :=
  Opens.slice (sz := 2) Try.underlying22 (by kernel_rfl) (by decide) (fun _ => rfl) (fun a c h => by simp [encApiNode] at h; rcases h with rfl | rfl <;> rfl) op52
theorem op71 : Opens Try.prog 71 encApiLift OkApiLift :=
  (Opens.struct (tot := 8) Try.underlying71 (by kernel_rfl) (.cons (sz := 1) rfl (by kernel_rfl) op3 (.cons (sz := 1) rfl (by kernel_rfl) op3 (.cons (sz := 1) rfl (by kernel_rfl) op3 (.cons (sz := 1) rfl (by kernel_rfl) op3 (.cons (sz := 1) rfl (by kernel_rfl) op3 (.cons (sz := 1) rfl (by kernel_rfl) op3 (.cons (sz := 1) rfl (by kernel_rfl) op3 (.cons (sz := 1) rfl (by kernel_rfl) op3 .nil))))))))).iso (fun x => ⟨x.1, x.2.1, x.2.2.1, x.2.2.2.1, x.2.2.2.2.1, x.2.2.2.2.2.1, x.2.2.2.2.2.2.1, x.2.2.2.2.2.2.2.1⟩) (fun _ => rfl) fun _ h => ⟨h.1, h.2.1, h.2.2.1, h.2.2.2.1, h.2.2.2.2.1, h.2.2.2.2.2.1, h.2.2.2.2.2.2.1, h.2.2.2.2.2.2.2.1⟩
theorem op23 : Opens Try.prog 23 (fun l : List ApiLift => [.sl 8 (l.map encApiLift)]) (OkL OkApiLift) :=
  Opens.slice (sz := 8) Try.underlying23 (by kernel_rfl) (by decide) (fun _ => rfl) (fun a c h => by simp [encApiLift] at h; rcases h with rfl | rfl | rfl | rfl | rfl | rfl | rfl | rfl <;> rfl) op71
theorem op37 : Opens Try.prog 37 encApiRun OkApiRun :=
  (Opens.struct (tot := 7) Try.underlying37 (by kernel_rfl) (.cons (sz := 1) rfl (by kernel_rfl) op3 (.cons (sz := 1) rfl (by kernel_rfl) op3 (.cons (sz := 1) rfl (by kernel_rfl) op3 (.cons (sz := 1) rfl (by kernel_rfl) op3 (.cons (sz := 1) rfl (by kernel_rfl) op3 (.cons (sz := 1) rfl (by kernel_rfl) op3 (.cons (sz := 1) rfl (by kernel_rfl) op3 .nil)))))))).iso (fun x => ⟨x.1, x.2.1, x.2.2.1, x.2.2.2.1, x.2.2.2.2.1, x.2.2.2.2.2.1, x.2.2.2.2.2.2.1⟩) (fun _ => rfl) fun _ h => ⟨h.1, h.2.1, h.2.2.1, h.2.2.2.1, h.2.2.2.2.1, h.2.2.2.2.2.1, h.2.2.2.2.2.2.1⟩
theorem op24 : Opens Try.prog 24 (fun l : List ApiRun => [.sl 7 (l.map encApiRun)]) (OkL OkApiRun) :=
  Opens.slice (sz := 7) Try.underlying24 (by kernel_rfl) (by decide) (fun _ => rfl) (fun a c h => by simp [encApiRun] at h; rcases h with rfl | rfl | rfl | rfl | rfl | rfl | rfl <;> rfl) op37
theorem op25 : Opens Try.prog 25 (fun l : List Int => [.sl 1 (l.map intC)]) (OkL I64) :=
  Opens.slice (sz := 1) Try.underlying25 (by kernel_rfl) (by decide) (fun _ => rfl) (fun a c h => by have := List.mem_singleton.1 h; subst this; rfl) op3
theorem op27 : Opens Try.prog 27 encApiMap OkApiMap :=
  (Opens.struct (tot := 4) Try.underlying27 (by kernel_rfl) (.cons (sz := 1) rfl (by kernel_rfl) op22 (.cons (sz := 1) rfl (by kernel_rfl) op23 (.cons (sz := 1) rfl (by kernel_rfl) op24 (.cons (sz := 1) rfl (by kernel_rfl) op25 .nil))))).iso (fun x => ⟨x.1, x.2.1, x.2.2.1, x.2.2.2.1⟩) (fun _ => rfl) fun _ h => ⟨h.1, h.2.1, h.2.2.1, h.2.2.2.1⟩
theorem own : ownKnob Try.prog.godebug = none := by kernel_rfl
theorem laidOut : laidOutB Try.prog = true := by kernel_rfl
theorem law_spec (x : ApiMap × (List Int) × (List Int) × (List Int) × Unit) (h : OkApiMap x.1 ∧ OkL I64 x.2.1 ∧ OkL I64 x.2.2.1 ∧ OkL I64 x.2.2.2.1 ∧ True) : PureFn Try.prog 3 [.agg (encApiMap x.1), .sl 1 (x.2.1.map intC), .sl 1 (x.2.2.1.map intC), .sl 1 (x.2.2.2.1.map intC)] (· = .bool true) := top_TopSweep_spec x.1 x.2.1 x.2.2.1 x.2.2.2.1 (top_TopSweep_true x.1 x.2.1 x.2.2.1 x.2.2.2.1 h.1 h.2.1 h.2.2.1 h.2.2.2.1)
set_option maxRecDepth 100000 in
theorem lifted (os : Os) (started : os.Started) (H : Type) (enc : TypeId × Value → H) :
    ReturnsInHanded {} Try.checked os 3 .any (Rows.topSweepSpec.pre6 enc Try.prog Try.f3 Rows.topSweepRow.domain false) (Rows.topSweepSpec.post enc Try.prog Try.f3 false true false false) := by
  refine lifted_of (C := Try.checked) (tb := 4) own started (by kernel_rfl) Try.func3 (ChangeSpec.witness6 (enc := enc) (C := Try.checked) false ⟨#[], #[.agg #[.slice none 0 0, .slice none 0 0, .slice none 0 0, .slice none 0 0], .slice none 0 0, .slice none 0 0, .slice none 0 0], []⟩ 8 (by kernel_rfl) (by kernel_rfl) (by kernel_rfl) (by kernel_rfl))
    rfl rfl Try.underlying4 laidOut (by kernel_rfl) (fun ds h => ?_) (fun W b0 args ds ps hv hd => ?_)
  · match ds, h with
    | [d1, d2, d3, d4], _ => exact ⟨rfl, rfl, rfl⟩
  · exact calls_of_pure law_spec (.cons (OpensV.struct Try.underlying27 op27) (.cons (OpensV.slice Try.underlying25 op25) (.cons (OpensV.slice Try.underlying25 op25) (.cons (OpensV.slice Try.underlying25 op25) .nil)))) hv hd
theorem TopSweep_holds : Rows.TopSweepSaid :=
  OpenClaim.holds_of_wide 3 Try.f3 rfl rfl rfl rfl rfl rfl rfl ⟨rfl, rfl, rfl, rfl, rfl⟩ rfl rfl rfl rfl rfl (by kernel_rfl) Try.func3 (by kernel_rfl)
    (of_decide_eq_true (by kernel_rfl)) (by unfold Func.isWrapper; first | (rw [if_pos (by decide +kernel)]; kernel_rfl) | (rw [if_neg (by decide +kernel)]; exact ⟨rfl, rfl⟩))
    (fun os started H enc _ => lifted os started H enc)
end Go.Proofs.Ytooopbnnhbacjaa
