/-
  FraudClones: for every input the law returns true, and each argument reads behind the call as it read before. No condition.
-/
import Derived.Test.YtmfjcimogpmheaaL7
import Derived.Test.YtmfjcimogpmheaaRows
import Derived.Test.YtmfjcimogpmheaaSkZD
import Derived.ProofKit
namespace Go.Proofs.Ytmfjcimogpmheaa
open Go Go.Ab Go.RowKit
theorem op3 : Opens Try.prog 3 (fun n : Int => [.int .i64 n]) I64 := (Opens.int Try.underlying3).iso id (fun _ => rfl) fun _ h => wf_i64 h
theorem op51 : Opens Try.prog 51 encApiRide OkApiRide :=
  (Opens.struct (tot := 7) Try.underlying51 (by kernel_rfl) (.cons (sz := 1) rfl (by kernel_rfl) op3 (.cons (sz := 1) rfl (by kernel_rfl) op3 (.cons (sz := 1) rfl (by kernel_rfl) op3 (.cons (sz := 1) rfl (by kernel_rfl) op3 (.cons (sz := 1) rfl (by kernel_rfl) op3 (.cons (sz := 1) rfl (by kernel_rfl) op3 (.cons (sz := 1) rfl (by kernel_rfl) op3 .nil)))))))).iso (fun x => ⟨x.1, x.2.1, x.2.2.1, x.2.2.2.1, x.2.2.2.2.1, x.2.2.2.2.2.1, x.2.2.2.2.2.2.1⟩) (fun _ => rfl) fun _ h => ⟨h.1, h.2.1, h.2.2.1, h.2.2.2.1, h.2.2.2.2.1, h.2.2.2.2.2.1, h.2.2.2.2.2.2.1⟩
theorem op34 : Opens Try.prog 34 (fun l : List ApiRide => [.sl 7 (l.map encApiRide)]) (OkL OkApiRide) :=
  Opens.slice (sz := 7) Try.underlying34 (by kernel_rfl) (by decide) (fun _ => rfl) (fun a c h => by simp [encApiRide] at h; rcases h with rfl | rfl | rfl | rfl | rfl | rfl | rfl <;> rfl) op51
theorem own : ownKnob Try.prog.godebug = none := by kernel_rfl
theorem laidOut : laidOutB Try.prog = true := by kernel_rfl
theorem law_spec (x : (List ApiRide) × Unit) (h : OkL OkApiRide x.1 ∧ True) : PureFn Try.prog 5 [.sl 7 (x.1.map encApiRide)] (· = .bool true) := law32_FraudClones_spec x.1 (law32_FraudClones_true x.1 h.1)
set_option maxRecDepth 100000 in
theorem lifted (os : Os) (started : os.Started) (H : Type) (enc : TypeId × Value → H) :
    ReturnsInHanded {} Try.checked os 5 .any (Rows.fraudClonesSpec.pre6 enc Try.prog Try.f5 Rows.fraudClonesRow.domain false) (Rows.fraudClonesSpec.post enc Try.prog Try.f5 false true false false) := by
  refine lifted_of (C := Try.checked) (tb := 4) own started (by kernel_rfl) Try.func5 (ChangeSpec.witness6 (enc := enc) (C := Try.checked) false ⟨#[], #[.slice none 0 0], []⟩ 8 (by kernel_rfl) (by kernel_rfl) (by kernel_rfl) (by kernel_rfl))
    rfl rfl Try.underlying4 laidOut (by kernel_rfl) (fun ds h => ?_) (fun W b0 args ds ps hv hd => ?_)
  · match ds, h with
    | [d1], _ => exact ⟨rfl, rfl, rfl⟩
  · exact calls_of_pure law_spec (.cons (OpensV.slice Try.underlying34 op34) .nil) hv hd
theorem FraudClones_holds : Rows.FraudClonesSaid :=
  OpenClaim.holds_of_wide 5 Try.f5 rfl rfl rfl rfl rfl rfl rfl ⟨rfl, rfl, rfl, rfl, rfl⟩ rfl rfl rfl rfl rfl (by kernel_rfl) Try.func5 (by kernel_rfl)
    (of_decide_eq_true (by kernel_rfl)) (by unfold Func.isWrapper; first | (rw [if_pos (by decide +kernel)]; kernel_rfl) | (rw [if_neg (by decide +kernel)]; exact ⟨rfl, rfl⟩))
    (fun os started H enc _ => lifted os started H enc)
end Go.Proofs.Ytmfjcimogpmheaa
