/-
  FraudEarly: for every input the law returns true, and each argument reads behind the call as it read before. No condition.
-/
import Derived.Test.YtmfjcimogpmheaaL9
import Derived.Test.YtmfjcimogpmheaaRows
import Derived.Test.YtmfjcimogpmheaaSkZD
import Derived.ProofKit
namespace Go.Proofs.Ytmfjcimogpmheaa
open Go Go.Ab Go.RowKit
theorem op3 : Opens Try.prog 3 (fun n : Int => [.int .i64 n]) I64 := (Opens.int Try.underlying3).iso id (fun _ => rfl) fun _ h => wf_i64 h
theorem op88 : Opens Try.prog 88 encApiNode OkApiNode :=
  (Opens.struct (tot := 2) Try.underlying88 (by kernel_rfl) (.cons (sz := 1) rfl (by kernel_rfl) op3 (.cons (sz := 1) rfl (by kernel_rfl) op3 .nil))).iso (fun x => ⟨x.1, x.2.1⟩) (fun _ => rfl) fun _ h => ⟨h.1, h.2.1⟩
theorem op22 : Opens Try.prog 22 (fun l : List ApiNode => [.sl 2 (l.map encApiNode)]) (OkL OkApiNode) :=
  Opens.slice (sz := 2) Try.underlying22 (by kernel_rfl) (by decide) (fun _ => rfl) (fun a c h => by simp [encApiNode] at h; rcases h with rfl | rfl <;> rfl) op88
theorem op59 : Opens Try.prog 59 encApiLift OkApiLift :=
  (Opens.struct (tot := 8) Try.underlying59 (by kernel_rfl) (.cons (sz := 1) rfl (by kernel_rfl) op3 (.cons (sz := 1) rfl (by kernel_rfl) op3 (.cons (sz := 1) rfl (by kernel_rfl) op3 (.cons (sz := 1) rfl (by kernel_rfl) op3 (.cons (sz := 1) rfl (by kernel_rfl) op3 (.cons (sz := 1) rfl (by kernel_rfl) op3 (.cons (sz := 1) rfl (by kernel_rfl) op3 (.cons (sz := 1) rfl (by kernel_rfl) op3 .nil))))))))).iso (fun x => ⟨x.1, x.2.1, x.2.2.1, x.2.2.2.1, x.2.2.2.2.1, x.2.2.2.2.2.1, x.2.2.2.2.2.2.1, x.2.2.2.2.2.2.2.1⟩) (fun _ => rfl) fun _ h => ⟨h.1, h.2.1, h.2.2.1, h.2.2.2.1, h.2.2.2.2.1, h.2.2.2.2.2.1, h.2.2.2.2.2.2.1, h.2.2.2.2.2.2.2.1⟩
theorem op23 : Opens Try.prog 23 (fun l : List ApiLift => [.sl 8 (l.map encApiLift)]) (OkL OkApiLift) :=
  Opens.slice (sz := 8) Try.underlying23 (by kernel_rfl) (by decide) (fun _ => rfl) (fun a c h => by simp [encApiLift] at h; rcases h with rfl | rfl | rfl | rfl | rfl | rfl | rfl | rfl <;> rfl) op59
theorem op64 : Opens Try.prog 64 encApiRun OkApiRun :=
  (Opens.struct (tot := 7) Try.underlying64 (by kernel_rfl) (.cons (sz := 1) rfl (by kernel_rfl) op3 (.cons (sz := 1) rfl (by kernel_rfl) op3 (.cons (sz := 1) rfl (by kernel_rfl) op3 (.cons (sz := 1) rfl (by kernel_rfl) op3 (.cons (sz := 1) rfl (by kernel_rfl) op3 (.cons (sz := 1) rfl (by kernel_rfl) op3 (.cons (sz := 1) rfl (by kernel_rfl) op3 .nil)))))))).iso (fun x => ⟨x.1, x.2.1, x.2.2.1, x.2.2.2.1, x.2.2.2.2.1, x.2.2.2.2.2.1, x.2.2.2.2.2.2.1⟩) (fun _ => rfl) fun _ h => ⟨h.1, h.2.1, h.2.2.1, h.2.2.2.1, h.2.2.2.2.1, h.2.2.2.2.2.1, h.2.2.2.2.2.2.1⟩
theorem op24 : Opens Try.prog 24 (fun l : List ApiRun => [.sl 7 (l.map encApiRun)]) (OkL OkApiRun) :=
  Opens.slice (sz := 7) Try.underlying24 (by kernel_rfl) (by decide) (fun _ => rfl) (fun a c h => by simp [encApiRun] at h; rcases h with rfl | rfl | rfl | rfl | rfl | rfl | rfl <;> rfl) op64
theorem op25 : Opens Try.prog 25 (fun l : List Int => [.sl 1 (l.map intC)]) (OkL I64) :=
  Opens.slice (sz := 1) Try.underlying25 (by kernel_rfl) (by decide) (fun _ => rfl) (fun a c h => by have := List.mem_singleton.1 h; subst this; rfl) op3
theorem op27 : Opens Try.prog 27 encApiMap OkApiMap :=
  (Opens.struct (tot := 4) Try.underlying27 (by kernel_rfl) (.cons (sz := 1) rfl (by kernel_rfl) op22 (.cons (sz := 1) rfl (by kernel_rfl) op23 (.cons (sz := 1) rfl (by kernel_rfl) op24 (.cons (sz := 1) rfl (by kernel_rfl) op25 .nil))))).iso (fun x => ⟨x.1, x.2.1, x.2.2.1, x.2.2.2.1⟩) (fun _ => rfl) fun _ h => ⟨h.1, h.2.1, h.2.2.1, h.2.2.2.1⟩
theorem op5 : Opens Try.prog 5 (fun n : Int => [.int .u8 n]) U8 := (Opens.int Try.underlying5).iso id (fun _ => rfl) fun _ h => wf_u8 h
theorem op49 : Opens Try.prog 49 encSkilaw32Leg OkSkilaw32Leg :=
  (Opens.struct (tot := 2) Try.underlying49 (by kernel_rfl) (.cons (sz := 1) rfl (by kernel_rfl) op5 (.cons (sz := 1) rfl (by kernel_rfl) op5 .nil))).iso (fun x => ⟨x.1, x.2.1⟩) (fun _ => rfl) fun _ h => ⟨h.1, h.2.1⟩
theorem op43 : Opens Try.prog 43 (fun l : List Skilaw32Leg => [.sl 2 (l.map encSkilaw32Leg)]) (OkL OkSkilaw32Leg) :=
  Opens.slice (sz := 2) Try.underlying43 (by kernel_rfl) (by decide) (fun _ => rfl) (fun a c h => by simp [encSkilaw32Leg] at h; rcases h with rfl | rfl <;> rfl) op49
theorem own : ownKnob Try.prog.godebug = none := by kernel_rfl
theorem laidOut : laidOutB Try.prog = true := by kernel_rfl
theorem law_spec (x : ApiMap × (List Skilaw32Leg) × Int × Unit) (h : OkApiMap x.1 ∧ OkL OkSkilaw32Leg x.2.1 ∧ U8 x.2.2.1 ∧ True) : PureFn Try.prog 8 [.agg (encApiMap x.1), .sl 2 (x.2.1.map encSkilaw32Leg), .int .u8 x.2.2.1] (· = .bool true) := law32_FraudEarly_spec x.1 x.2.1 x.2.2.1 (law32_FraudEarly_true x.1 x.2.1 x.2.2.1 h.1 h.2.1 h.2.2.1)
set_option maxRecDepth 100000 in
theorem lifted (os : Os) (started : os.Started) (H : Type) (enc : TypeId × Value → H) :
    ReturnsInHanded {} Try.checked os 8 .any (Rows.fraudEarlySpec.pre6 enc Try.prog Try.f8 Rows.fraudEarlyRow.domain false) (Rows.fraudEarlySpec.post enc Try.prog Try.f8 false true false false) := by
  refine lifted_of (C := Try.checked) (tb := 4) own started (by kernel_rfl) Try.func8 (ChangeSpec.witness6 (enc := enc) (C := Try.checked) false ⟨#[], #[.agg #[.slice none 0 0, .slice none 0 0, .slice none 0 0, .slice none 0 0], .slice none 0 0, .int .u8 0], []⟩ 8 (by kernel_rfl) (by kernel_rfl) (by kernel_rfl) (by kernel_rfl))
    rfl rfl Try.underlying4 laidOut (by kernel_rfl) (fun ds h => ?_) (fun W b0 args ds ps hv hd => ?_)
  · match ds, h with
    | [d1, d2, d3], _ => exact ⟨rfl, rfl, rfl⟩
  · exact calls_of_pure law_spec (.cons (OpensV.struct Try.underlying27 op27) (.cons (OpensV.slice Try.underlying43 op43) (.cons ((OpensV.int Try.underlying5).iso id (fun _ => rfl) fun _ h => wf_u8 h : OpensV Try.prog 5 (fun n : Int => .int .u8 n) U8) .nil))) hv hd
theorem FraudEarly_holds : Rows.FraudEarlySaid :=
  OpenClaim.holds_of_wide 8 Try.f8 rfl rfl rfl rfl rfl rfl rfl ⟨rfl, rfl, rfl, rfl, rfl⟩ rfl rfl rfl rfl rfl (by kernel_rfl) Try.func8 (by kernel_rfl)
    (of_decide_eq_true (by kernel_rfl)) (by unfold Func.isWrapper; first | (rw [if_pos (by decide +kernel)]; kernel_rfl) | (rw [if_neg (by decide +kernel)]; exact ⟨rfl, rfl⟩))
    (fun os started H enc _ => lifted os started H enc)
end Go.Proofs.Ytmfjcimogpmheaa
