/-
  InterlockSafe: for every input the law returns true, and each argument reads behind the call as it read before. No condition.
-/
import Derived.Test.YtjopghiagoidgaaGreatA6
import Derived.Test.YtjopghiagoidgaaGreatRows
import Derived.ProofKit
namespace Go.Proofs.YtjopghiagoidgaaGreat
open Go Go.Ab Go.RowKit
theorem op3:Cd Tryz.prog 3 (fun n:Int=>[.int .i64 n]) I64:=(Cd.int Tryz.underlying3).iso id (fun _=>rfl) fun _ h=>wf_i64 h
theorem Acn:Cd Tryz.prog 114 A5 dU:=
  (Cd.struct (tot:=2) Tryz.underlying114 (by kernel_rfl) (.cons (sz:=1) rfl (by kernel_rfl) op3 (.cons (sz:=1) rfl (by kernel_rfl) op3 .nil))).iso (fun x=>⟨x.1,x.2.1⟩) (fun _=>rfl) fun _ h=>⟨h.1,h.2.1⟩
theorem Aez:Cd Tryz.prog 22 (fun l:List Cr=>[.sl 2 (l.map A5)]) (OkL dU):=
  Cd.slice (sz:=2) Tryz.underlying22 (by kernel_rfl) (by decide) (fun _=>rfl) (fun a c h=>by simp[A5]at h;rcases h with rfl | rfl<;>rfl) Acn
theorem Aeb:Cd Tryz.prog 80 A6 dV:=
  (Cd.struct (tot:=8) Tryz.underlying80 (by kernel_rfl) (.cons (sz:=1) rfl (by kernel_rfl) op3 (.cons (sz:=1) rfl (by kernel_rfl) op3 (.cons (sz:=1) rfl (by kernel_rfl) op3 (.cons (sz:=1) rfl (by kernel_rfl) op3 (.cons (sz:=1) rfl (by kernel_rfl) op3 (.cons (sz:=1) rfl (by kernel_rfl) op3 (.cons (sz:=1) rfl (by kernel_rfl) op3 (.cons (sz:=1) rfl (by kernel_rfl) op3 .nil))))))))).iso (fun x=>⟨x.1,x.2.1,x.2.2.1,x.2.2.2.1,x.2.2.2.2.1,x.2.2.2.2.2.1,x.2.2.2.2.2.2.1,x.2.2.2.2.2.2.2.1⟩) (fun _=>rfl) fun _ h=>⟨h.1,h.2.1,h.2.2.1,h.2.2.2.1,h.2.2.2.2.1,h.2.2.2.2.2.1,h.2.2.2.2.2.2.1,h.2.2.2.2.2.2.2.1⟩
theorem Aey:Cd Tryz.prog 23 (fun l:List Co=>[.sl 8 (l.map A6)]) (OkL dV):=
  Cd.slice (sz:=8) Tryz.underlying23 (by kernel_rfl) (by decide) (fun _=>rfl) (fun a c h=>by simp[A6]at h;rcases h with rfl | rfl | rfl | rfl | rfl | rfl | rfl | rfl<;>rfl) Aeb
theorem Aeh:Cd Tryz.prog 62 Ba jE:=
  (Cd.struct (tot:=7) Tryz.underlying62 (by kernel_rfl) (.cons (sz:=1) rfl (by kernel_rfl) op3 (.cons (sz:=1) rfl (by kernel_rfl) op3 (.cons (sz:=1) rfl (by kernel_rfl) op3 (.cons (sz:=1) rfl (by kernel_rfl) op3 (.cons (sz:=1) rfl (by kernel_rfl) op3 (.cons (sz:=1) rfl (by kernel_rfl) op3 (.cons (sz:=1) rfl (by kernel_rfl) op3 .nil)))))))).iso (fun x=>⟨x.1,x.2.1,x.2.2.1,x.2.2.2.1,x.2.2.2.2.1,x.2.2.2.2.2.1,x.2.2.2.2.2.2.1⟩) (fun _=>rfl) fun _ h=>⟨h.1,h.2.1,h.2.2.1,h.2.2.2.1,h.2.2.2.2.1,h.2.2.2.2.2.1,h.2.2.2.2.2.2.1⟩
theorem Aex:Cd Tryz.prog 24 (fun l:List Cq=>[.sl 7 (l.map Ba)]) (OkL jE):=
  Cd.slice (sz:=7) Tryz.underlying24 (by kernel_rfl) (by decide) (fun _=>rfl) (fun a c h=>by simp[Ba]at h;rcases h with rfl | rfl | rfl | rfl | rfl | rfl | rfl<;>rfl) Aeh
theorem vC:Cd Tryz.prog 25 (fun l:List Int=>[.sl 1 (l.map Bb)]) (OkL I64):=
  Cd.slice (sz:=1) Tryz.underlying25 (by kernel_rfl) (by decide) (fun _=>rfl) (fun a c h=>by have:=List.mem_singleton.1 h;subst this;rfl) op3
theorem Aew:Cd Tryz.prog 27 Ct qT:=
  (Cd.struct (tot:=4) Tryz.underlying27 (by kernel_rfl) (.cons (sz:=1) rfl (by kernel_rfl) Aez (.cons (sz:=1) rfl (by kernel_rfl) Aey (.cons (sz:=1) rfl (by kernel_rfl) Aex (.cons (sz:=1) rfl (by kernel_rfl) vC .nil))))).iso (fun x=>⟨x.1,x.2.1,x.2.2.1,x.2.2.2.1⟩) (fun _=>rfl) fun _ h=>⟨h.1,h.2.1,h.2.2.1,h.2.2.2.1⟩
theorem Aec:Cd Tryz.prog 78 Av T1:=
  (Cd.struct (tot:=2) Tryz.underlying78 (by kernel_rfl) (.cons (sz:=1) rfl (by kernel_rfl) op3 (.cons (sz:=1) rfl (by kernel_rfl) op3 .nil))).iso (fun x=>⟨x.1,x.2.1⟩) (fun _=>rfl) fun _ h=>⟨h.1,h.2.1⟩
theorem Aev:Cd Tryz.prog 28 (fun l:List Cs=>[.sl 2 (l.map Av)]) (OkL T1):=
  Cd.slice (sz:=2) Tryz.underlying28 (by kernel_rfl) (by decide) (fun _=>rfl) (fun a c h=>by simp[Av]at h;rcases h with rfl | rfl<;>rfl) Aec
theorem Aef:Cd Tryz.prog 72 Au Vw:=
  (Cd.struct (tot:=4) Tryz.underlying72 (by kernel_rfl) (.cons (sz:=1) rfl (by kernel_rfl) op3 (.cons (sz:=1) rfl (by kernel_rfl) op3 (.cons (sz:=1) rfl (by kernel_rfl) op3 (.cons (sz:=1) rfl (by kernel_rfl) op3 .nil))))).iso (fun x=>⟨x.1,x.2.1,x.2.2.1,x.2.2.2.1⟩) (fun _=>rfl) fun _ h=>⟨h.1,h.2.1,h.2.2.1,h.2.2.2.1⟩
theorem Aeu:Cd Tryz.prog 29 (fun l:List Bn=>[.sl 4 (l.map Au)]) (OkL Vw):=
  Cd.slice (sz:=4) Tryz.underlying29 (by kernel_rfl) (by decide) (fun _=>rfl) (fun a c h=>by simp[Au]at h;rcases h with rfl | rfl | rfl | rfl<;>rfl) Aef
theorem Aci:Cd Tryz.prog 157 Cl dS:=
  (Cd.struct (tot:=3) Tryz.underlying157 (by kernel_rfl) (.cons (sz:=1) rfl (by kernel_rfl) op3 (.cons (sz:=1) rfl (by kernel_rfl) op3 (.cons (sz:=1) rfl (by kernel_rfl) op3 .nil)))).iso (fun x=>⟨x.1,x.2.1,x.2.2.1⟩) (fun _=>rfl) fun _ h=>⟨h.1,h.2.1,h.2.2.1⟩
theorem Acm:Cd Tryz.prog 115 (fun l:List F2=>[.sl 3 (l.map Cl)]) (OkL dS):=
  Cd.slice (sz:=3) Tryz.underlying115 (by kernel_rfl) (by decide) (fun _=>rfl) (fun a c h=>by simp[Cl]at h;rcases h with rfl | rfl | rfl<;>rfl) Aci
theorem Acl:Cd Tryz.prog 117 Fu X5:=
  (Cd.struct (tot:=3) Tryz.underlying117 (by kernel_rfl) (.cons (sz:=1) rfl (by kernel_rfl) vC (.cons (sz:=1) rfl (by kernel_rfl) op3 (.cons (sz:=1) rfl (by kernel_rfl) Acm .nil)))).iso (fun x=>⟨x.1,x.2.1,x.2.2.1⟩) (fun _=>rfl) fun _ h=>⟨h.1,h.2.1,h.2.2.1⟩
theorem Ack:Cd Tryz.prog 119 Aq Vt:=
  (Cd.struct (tot:=4) Tryz.underlying119 (by kernel_rfl) (.cons (sz:=1) rfl (by kernel_rfl) op3 (.cons (sz:=3) rfl (by kernel_rfl) Acl .nil))).iso (fun x=>⟨x.1,x.2.1⟩) (fun _=>rfl) fun _ h=>⟨h.1,h.2.1⟩
theorem Aet:Cd Tryz.prog 30 (fun l:List Ch=>[.sl 4 (l.map Aq)]) (OkL Vt):=
  Cd.slice (sz:=4) Tryz.underlying30 (by kernel_rfl) (by decide) (fun _=>rfl) (fun a c h=>by simp[Aq]at h;rcases h with rfl | rfl | rfl | rfl<;>rfl) Ack
theorem Aee:Cd Tryz.prog 74 Ay X4:=
  (Cd.struct (tot:=3) Tryz.underlying74 (by kernel_rfl) (.cons (sz:=1) rfl (by kernel_rfl) op3 (.cons (sz:=1) rfl (by kernel_rfl) op3 (.cons (sz:=1) rfl (by kernel_rfl) op3 .nil)))).iso (fun x=>⟨x.1,x.2.1,x.2.2.1⟩) (fun _=>rfl) fun _ h=>⟨h.1,h.2.1,h.2.2.1⟩
theorem Aes:Cd Tryz.prog 31 (fun l:List C4=>[.sl 3 (l.map Ay)]) (OkL X4):=
  Cd.slice (sz:=3) Tryz.underlying31 (by kernel_rfl) (by decide) (fun _=>rfl) (fun a c h=>by simp[Ay]at h;rcases h with rfl | rfl | rfl<;>rfl) Aee
theorem Aer:Cd Tryz.prog 33 I9 eT:=
  (Cd.struct (tot:=2) Tryz.underlying33 (by kernel_rfl) (.cons (sz:=1) rfl (by kernel_rfl) Aet (.cons (sz:=1) rfl (by kernel_rfl) Aes .nil))).iso (fun x=>⟨x.1,x.2.1⟩) (fun _=>rfl) fun _ h=>⟨h.1,h.2.1⟩
theorem Ach:Cd Tryz.prog 162 A1 Vr:=
  (Cd.struct (tot:=3) Tryz.underlying162 (by kernel_rfl) (.cons (sz:=1) rfl (by kernel_rfl) op3 (.cons (sz:=1) rfl (by kernel_rfl) op3 (.cons (sz:=1) rfl (by kernel_rfl) op3 .nil)))).iso (fun x=>⟨x.1,x.2.1,x.2.2.1⟩) (fun _=>rfl) fun _ h=>⟨h.1,h.2.1,h.2.2.1⟩
theorem Aeq:Cd Tryz.prog 34 (fun l:List C5=>[.sl 3 (l.map A1)]) (OkL Vr):=
  Cd.slice (sz:=3) Tryz.underlying34 (by kernel_rfl) (by decide) (fun _=>rfl) (fun a c h=>by simp[A1]at h;rcases h with rfl | rfl | rfl<;>rfl) Ach
theorem Aea:Cd Tryz.prog 84 Pe lR:=
  (Cd.struct (tot:=3) Tryz.underlying84 (by kernel_rfl) (.cons (sz:=1) rfl (by kernel_rfl) op3 (.cons (sz:=1) rfl (by kernel_rfl) op3 (.cons (sz:=1) rfl (by kernel_rfl) op3 .nil)))).iso (fun x=>⟨x.1,x.2.1,x.2.2.1⟩) (fun _=>rfl) fun _ h=>⟨h.1,h.2.1,h.2.2.1⟩
theorem Ad9:Cd Tryz.prog 86 Az Vs:=
  (Cd.struct (tot:=5) Tryz.underlying86 (by kernel_rfl) (.cons (sz:=1) rfl (by kernel_rfl) op3 (.cons (sz:=1) rfl (by kernel_rfl) op3 (.cons (sz:=3) rfl (by kernel_rfl) Aea .nil)))).iso (fun x=>⟨x.1,x.2.1,x.2.2.1⟩) (fun _=>rfl) fun _ h=>⟨h.1,h.2.1,h.2.2.1⟩
theorem Aep:Cd Tryz.prog 35 (fun l:List C7=>[.sl 5 (l.map Az)]) (OkL Vs):=
  Cd.slice (sz:=5) Tryz.underlying35 (by kernel_rfl) (by decide) (fun _=>rfl) (fun a c h=>by simp[Az]at h;rcases h with rfl | rfl | rfl | rfl | rfl<;>rfl) Ad9
theorem Aed:Cd Tryz.prog 76 A3 Z5:=
  (Cd.struct (tot:=6) Tryz.underlying76 (by kernel_rfl) (.cons (sz:=1) rfl (by kernel_rfl) op3 (.cons (sz:=1) rfl (by kernel_rfl) vC (.cons (sz:=1) rfl (by kernel_rfl) vC (.cons (sz:=1) rfl (by kernel_rfl) op3 (.cons (sz:=1) rfl (by kernel_rfl) op3 (.cons (sz:=1) rfl (by kernel_rfl) op3 .nil))))))).iso (fun x=>⟨x.1,x.2.1,x.2.2.1,x.2.2.2.1,x.2.2.2.2.1,x.2.2.2.2.2.1⟩) (fun _=>rfl) fun _ h=>⟨h.1,h.2.1,h.2.2.1,h.2.2.2.1,h.2.2.2.2.1,h.2.2.2.2.2.1⟩
theorem Aeo:Cd Tryz.prog 36 (fun l:List Be=>[.sl 6 (l.map A3)]) (OkL Z5):=
  Cd.slice (sz:=6) Tryz.underlying36 (by kernel_rfl) (by decide) (fun _=>rfl) (fun a c h=>by simp[A3]at h;rcases h with rfl | rfl | rfl | rfl | rfl | rfl<;>rfl) Aed
theorem Aa8:Cd Tryz.prog 137 Sc T3:=
  (Cd.struct (tot:=2) Tryz.underlying137 (by kernel_rfl) (.cons (sz:=1) rfl (by kernel_rfl) op3 (.cons (sz:=1) rfl (by kernel_rfl) op3 .nil))).iso (fun x=>⟨x.1,x.2.1⟩) (fun _=>rfl) fun _ h=>⟨h.1,h.2.1⟩
theorem Acj:Cd Tryz.prog 139 Ar T4:=
  (Cd.struct (tot:=7) Tryz.underlying139 (by kernel_rfl) (.cons (sz:=1) rfl (by kernel_rfl) op3 (.cons (sz:=2) rfl (by kernel_rfl) Aa8 (.cons (sz:=1) rfl (by kernel_rfl) op3 (.cons (sz:=1) rfl (by kernel_rfl) op3 (.cons (sz:=1) rfl (by kernel_rfl) vC (.cons (sz:=1) rfl (by kernel_rfl) op3 .nil))))))).iso (fun x=>⟨x.1,x.2.1,x.2.2.1,x.2.2.2.1,x.2.2.2.2.1,x.2.2.2.2.2.1⟩) (fun _=>rfl) fun _ h=>⟨h.1,h.2.1,h.2.2.1,h.2.2.2.1,h.2.2.2.2.1,h.2.2.2.2.2.1⟩
theorem Aen:Cd Tryz.prog 37 (fun l:List Bi=>[.sl 7 (l.map Ar)]) (OkL T4):=
  Cd.slice (sz:=7) Tryz.underlying37 (by kernel_rfl) (by decide) (fun _=>rfl) (fun a c h=>by simp[Ar]at h;rcases h with rfl | rfl | rfl | rfl | rfl | rfl | rfl<;>rfl) Acj
theorem Acg:Cd Tryz.prog 170 Ap Vu:=
  (Cd.struct (tot:=7) Tryz.underlying170 (by kernel_rfl) (.cons (sz:=1) rfl (by kernel_rfl) op3 (.cons (sz:=1) rfl (by kernel_rfl) op3 (.cons (sz:=1) rfl (by kernel_rfl) op3 (.cons (sz:=1) rfl (by kernel_rfl) op3 (.cons (sz:=1) rfl (by kernel_rfl) op3 (.cons (sz:=2) rfl (by kernel_rfl) Aa8 .nil))))))).iso (fun x=>⟨x.1,x.2.1,x.2.2.1,x.2.2.2.1,x.2.2.2.2.1,x.2.2.2.2.2.1⟩) (fun _=>rfl) fun _ h=>⟨h.1,h.2.1,h.2.2.1,h.2.2.2.1,h.2.2.2.2.1,h.2.2.2.2.2.1⟩
theorem Aem:Cd Tryz.prog 38 (fun l:List Bh=>[.sl 7 (l.map Ap)]) (OkL Vu):=
  Cd.slice (sz:=7) Tryz.underlying38 (by kernel_rfl) (by decide) (fun _=>rfl) (fun a c h=>by simp[Ap]at h;rcases h with rfl | rfl | rfl | rfl | rfl | rfl | rfl<;>rfl) Acg
theorem Acf:Cd Tryz.prog 173 Ak Si:=
  (Cd.struct (tot:=4) Tryz.underlying173 (by kernel_rfl) (.cons (sz:=1) rfl (by kernel_rfl) op3 (.cons (sz:=1) rfl (by kernel_rfl) op3 (.cons (sz:=1) rfl (by kernel_rfl) op3 (.cons (sz:=1) rfl (by kernel_rfl) vC .nil))))).iso (fun x=>⟨x.1,x.2.1,x.2.2.1,x.2.2.2.1⟩) (fun _=>rfl) fun _ h=>⟨h.1,h.2.1,h.2.2.1,h.2.2.2.1⟩
theorem Ael:Cd Tryz.prog 39 (fun l:List A8=>[.sl 4 (l.map Ak)]) (OkL Si):=
  Cd.slice (sz:=4) Tryz.underlying39 (by kernel_rfl) (by decide) (fun _=>rfl) (fun a c h=>by simp[Ak]at h;rcases h with rfl | rfl | rfl | rfl<;>rfl) Acf
theorem op4:Cd Tryz.prog 4 (fun b:Bool=>[.bool b]) (fun _=>True):=Cd.bool Tryz.underlying4
theorem Ace:Cd Tryz.prog 177 Ax Vv:=
  (Cd.struct (tot:=8) Tryz.underlying177 (by kernel_rfl) (.cons (sz:=1) rfl (by kernel_rfl) op3 (.cons (sz:=1) rfl (by kernel_rfl) op3 (.cons (sz:=1) rfl (by kernel_rfl) op3 (.cons (sz:=1) rfl (by kernel_rfl) op3 (.cons (sz:=1) rfl (by kernel_rfl) op3 (.cons (sz:=1) rfl (by kernel_rfl) op3 (.cons (sz:=1) rfl (by kernel_rfl) op3 (.cons (sz:=1) rfl (by kernel_rfl) op4 .nil))))))))).iso (fun x=>⟨x.1,x.2.1,x.2.2.1,x.2.2.2.1,x.2.2.2.2.1,x.2.2.2.2.2.1,x.2.2.2.2.2.2.1,x.2.2.2.2.2.2.2.1⟩) (fun _=>rfl) fun _ h=>⟨h.1,h.2.1,h.2.2.1,h.2.2.2.1,h.2.2.2.2.1,h.2.2.2.2.2.1,h.2.2.2.2.2.2.1,h.2.2.2.2.2.2.2.1⟩
theorem Aek:Cd Tryz.prog 40 (fun l:List Cb=>[.sl 8 (l.map Ax)]) (OkL Vv):=
  Cd.slice (sz:=8) Tryz.underlying40 (by kernel_rfl) (by decide) (fun _=>rfl) (fun a c h=>by simp[Ax]at h;rcases h with rfl | rfl | rfl | rfl | rfl | rfl | rfl | rfl<;>rfl) Ace
theorem Aeg:Cd Tryz.prog 70 Aw X3:=
  (Cd.struct (tot:=3) Tryz.underlying70 (by kernel_rfl) (.cons (sz:=1) rfl (by kernel_rfl) op3 (.cons (sz:=1) rfl (by kernel_rfl) op4 (.cons (sz:=1) rfl (by kernel_rfl) op3 .nil)))).iso (fun x=>⟨x.1,x.2.1,x.2.2.1⟩) (fun _=>rfl) fun _ h=>⟨h.1,h.2.1,h.2.2.1⟩
theorem Aej:Cd Tryz.prog 41 (fun l:List A4=>[.sl 3 (l.map Aw)]) (OkL X3):=
  Cd.slice (sz:=3) Tryz.underlying41 (by kernel_rfl) (by decide) (fun _=>rfl) (fun a c h=>by simp[Aw]at h;rcases h with rfl | rfl | rfl<;>rfl) Aeg
theorem Aei:Cd Tryz.prog 43 Ce Sj:=
  (Cd.struct (tot:=18) Tryz.underlying43 (by kernel_rfl) (.cons (sz:=4) rfl (by kernel_rfl) Aew (.cons (sz:=1) rfl (by kernel_rfl) Aev (.cons (sz:=1) rfl (by kernel_rfl) Aeu (.cons (sz:=2) rfl (by kernel_rfl) Aer (.cons (sz:=1) rfl (by kernel_rfl) Aeq (.cons (sz:=1) rfl (by kernel_rfl) Aep (.cons (sz:=1) rfl (by kernel_rfl) Aeo (.cons (sz:=1) rfl (by kernel_rfl) Aen (.cons (sz:=1) rfl (by kernel_rfl) Aem (.cons (sz:=1) rfl (by kernel_rfl) Ael (.cons (sz:=1) rfl (by kernel_rfl) Aek (.cons (sz:=1) rfl (by kernel_rfl) Aej (.cons (sz:=1) rfl (by kernel_rfl) op3 (.cons (sz:=1) rfl (by kernel_rfl) op3 .nil))))))))))))))).iso (fun x=>⟨x.1,x.2.1,x.2.2.1,x.2.2.2.1,x.2.2.2.2.1,x.2.2.2.2.2.1,x.2.2.2.2.2.2.1,x.2.2.2.2.2.2.2.1,x.2.2.2.2.2.2.2.2.1,x.2.2.2.2.2.2.2.2.2.1,x.2.2.2.2.2.2.2.2.2.2.1,x.2.2.2.2.2.2.2.2.2.2.2.1,x.2.2.2.2.2.2.2.2.2.2.2.2.1,x.2.2.2.2.2.2.2.2.2.2.2.2.2.1⟩) (fun _=>rfl) fun _ h=>⟨h.1,h.2.1,h.2.2.1,h.2.2.2.1,h.2.2.2.2.1,h.2.2.2.2.2.1,h.2.2.2.2.2.2.1,h.2.2.2.2.2.2.2.1,h.2.2.2.2.2.2.2.2.1,h.2.2.2.2.2.2.2.2.2.1,h.2.2.2.2.2.2.2.2.2.2.1,h.2.2.2.2.2.2.2.2.2.2.2.1,h.2.2.2.2.2.2.2.2.2.2.2.2.1,h.2.2.2.2.2.2.2.2.2.2.2.2.2.1⟩
theorem own:ownKnob Tryz.prog.godebug=none:=by kernel_rfl
theorem laidOut:laidOutB Tryz.prog=true:=by kernel_rfl
theorem xW (x:Af×Int×Unit) (h:Sj x.1∧I64 x.2.1∧True):Ad Tryz.prog 7 [.agg (Ce x.1),.int .i64 x.2.1] (·= .bool true):=Tt x.1 x.2.1 (Ts x.1 x.2.1 h.1 h.2.1)
set_option maxRecDepth 100000 in
theorem lifted (os:Os) (started:os.Started) (H:Type) (enc:TypeId×Value→H) :
    ReturnsInHanded {} Tryz.checked os 7 .any (Rows.interlockSafeSpec.pre6 enc Tryz.prog Tryz.f7 Rows.interlockSafeRow.domain false) (Rows.interlockSafeSpec.post enc Tryz.prog Tryz.f7 false true false false):=by
  refine vK (C:=Tryz.checked) (tb:=4) own started (by kernel_rfl) Tryz.func7 (ChangeSpec.witness6 (enc:=enc) (C:=Tryz.checked) false ⟨#[],#[.agg #[.slice none 0 0,.slice none 0 0,.slice none 0 0,.slice none 0 0,.slice none 0 0,.slice none 0 0,.slice none 0 0,.slice none 0 0,.slice none 0 0,.slice none 0 0,.slice none 0 0,.slice none 0 0,.slice none 0 0,.slice none 0 0,.slice none 0 0,.slice none 0 0,.int .i64 0,.int .i64 0],.int .i64 0],[]⟩ 8 (by kernel_rfl) (by kernel_rfl) (by kernel_rfl) (by kernel_rfl))
    rfl rfl Tryz.underlying4 laidOut (by kernel_rfl) (fun ds h=>?_) (fun W b0 args ds ps hv hd=>?_)
  ·match ds,h with
   | [d1,d2],_=>exact ⟨rfl,rfl,rfl⟩
  ·exact jX xW (.cons (Lh.struct Tryz.underlying43 Aei) (.cons ((Lh.int Tryz.underlying3).iso id (fun _=>rfl) fun _ h=>wf_i64 h:Lh Tryz.prog 3 (fun n:Int=>.int .i64 n) I64) .nil)) hv hd
theorem Ab0 {a b:Bool} (h:a=true) (k:b=true):(a&&b)=true:=by rw[h,k];rfl
set_option maxHeartbeats 4000000 in
theorem closed:joinedFacts Tryz.prog 7 Tryz.f7 Rows.interlockSafeSpec Rows.interlockSafeRow=true:=by
  unfold joinedFacts
  repeat' with_reducible refine Ab0 ?_ ?_
  all_goals (as_aux_lemma=>kernel_rfl)
theorem InterlockSafe_holds:Rows.InterlockSafeSaid:=
  OpenClaim.holds_of_wide 7 Tryz.f7 rfl rfl rfl rfl rfl rfl rfl ⟨rfl,rfl,rfl,rfl,rfl⟩ rfl rfl rfl rfl rfl (by kernel_rfl) Tryz.func7 closed
    (Akp (by kernel_rfl)) (by unfold Func.isWrapper;first | (rw[if_pos (by decide +kernel)];kernel_rfl) | (rw[if_neg (by decide +kernel)];exact⟨rfl,rfl⟩))
    (fun os started H enc _=>lifted os started H enc)
end Go.Proofs.YtjopghiagoidgaaGreat
