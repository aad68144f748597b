/-
  TopPeriods: for every input the law returns true, and each argument reads behind the call as it read before. No condition.
-/
import Derived.Test.YtooopbnnhbacjaaGreatA5
import Derived.Test.YtooopbnnhbacjaaGreatRows
import Derived.ProofKit
namespace Go.Proofs.YtooopbnnhbacjaaGreat
open Go Go.Ab Go.RowKit
theorem op3:Dn Tryz.prog 3 (fun n:Int=>[.int .i64 n]) I64:=(Dn.int Tryz.underlying3).iso id (fun _=>rfl) fun _ h=>wf_i64 h
theorem Ys:Dn Tryz.prog 39 Bn Kl:=
  (Dn.struct (tot:=7) Tryz.underlying39 (by kernel_rfl) (.cons (sz:=1) rfl (by kernel_rfl) op3 (.cons (sz:=1) rfl (by kernel_rfl) op3 (.cons (sz:=1) rfl (by kernel_rfl) op3 (.cons (sz:=1) rfl (by kernel_rfl) op3 (.cons (sz:=1) rfl (by kernel_rfl) op3 (.cons (sz:=1) rfl (by kernel_rfl) op3 (.cons (sz:=1) rfl (by kernel_rfl) op3 .nil)))))))).iso (fun x=>⟨x.1,x.2.1,x.2.2.1,x.2.2.2.1,x.2.2.2.2.1,x.2.2.2.2.2.1,x.2.2.2.2.2.2.1⟩) (fun _=>rfl) fun _ h=>⟨h.1,h.2.1,h.2.2.1,h.2.2.2.1,h.2.2.2.2.1,h.2.2.2.2.2.1,h.2.2.2.2.2.2.1⟩
theorem Yu:Dn Tryz.prog 22 (fun l:List A1=>[.sl 7 (l.map Bn)]) (OkL Kl):=
  Dn.slice (sz:=7) Tryz.underlying22 (by kernel_rfl) (by decide) (fun _=>rfl) (fun a c h=>by simp[Bn]at h;rcases h with rfl | rfl | rfl | rfl | rfl | rfl | rfl<;>rfl) Ys
theorem Yt:Dn Tryz.prog 23 (fun l:List Int=>[.sl 1 (l.map B5)]) (OkL I64):=
  Dn.slice (sz:=1) Tryz.underlying23 (by kernel_rfl) (by decide) (fun _=>rfl) (fun a c h=>by have:=List.mem_singleton.1 h;subst this;rfl) op3
theorem own:ownKnob Tryz.prog.godebug=none:=by kernel_rfl
theorem laidOut:laidOutB Tryz.prog=true:=by kernel_rfl
theorem V9 (x:(List A1)×(List Int)×Unit) (h:OkL Kl x.1∧OkL I64 x.2.1∧True):Aq Tryz.prog 3 [.sl 7 (x.1.map Bn),.sl 1 (x.2.1.map B5)] (·= .bool true):=Kn x.1 x.2.1 (Km x.1 x.2.1 h.1 h.2.1)
set_option maxRecDepth 100000 in
theorem lifted (os:Os) (started:os.Started) (H:Type) (enc:TypeId×Value→H) :
    ReturnsInHanded {} Tryz.checked os 3 .any (Rows.topPeriodsSpec.pre6 enc Tryz.prog Tryz.f3 Rows.topPeriodsRow.domain false) (Rows.topPeriodsSpec.post enc Tryz.prog Tryz.f3 false true false false):=by
  refine Uw (C:=Tryz.checked) (tb:=4) own started (by kernel_rfl) Tryz.func3 (ChangeSpec.witness6 (enc:=enc) (C:=Tryz.checked) false ⟨#[],#[.slice none 0 0,.slice none 0 0],[]⟩ 8 (by kernel_rfl) (by kernel_rfl) (by kernel_rfl) (by kernel_rfl))
    rfl rfl Tryz.underlying4 laidOut (by kernel_rfl) (fun ds h=>?_) (fun W b0 args ds ps hv hd=>?_)
  ·match ds,h with
   | [d1,d2],_=>exact ⟨rfl,rfl,rfl⟩
  ·exact Pm V9 (.cons (E1.slice Tryz.underlying22 Yu) (.cons (E1.slice Tryz.underlying23 Yt) .nil)) hv hd
theorem Ya {a b:Bool} (h:a=true) (k:b=true):(a&&b)=true:=by rw[h,k];rfl
set_option maxHeartbeats 4000000 in
theorem closed:joinedFacts Tryz.prog 3 Tryz.f3 Rows.topPeriodsSpec Rows.topPeriodsRow=true:=by
  unfold joinedFacts
  repeat' with_reducible refine Ya ?_ ?_
  all_goals (as_aux_lemma=>kernel_rfl)
theorem TopPeriods_holds:Rows.TopPeriodsSaid:=
  OpenClaim.holds_of_wide 3 Tryz.f3 rfl rfl rfl rfl rfl rfl rfl ⟨rfl,rfl,rfl,rfl,rfl⟩ rfl rfl rfl rfl rfl (by kernel_rfl) Tryz.func3 closed
    (bK (by kernel_rfl)) (by unfold Func.isWrapper;first | (rw[if_pos (by decide +kernel)];kernel_rfl) | (rw[if_neg (by decide +kernel)];exact⟨rfl,rfl⟩))
    (fun os started H enc _=>lifted os started H enc)
end Go.Proofs.YtooopbnnhbacjaaGreat
