/-
  InterlockHome: for every input the law returns true, and each argument reads behind the call as it read before. No condition.
-/
import Derived.Test.YtjopghiagoidgaaGreatA5
import Derived.Test.YtjopghiagoidgaaGreatRows
import Derived.ProofKit
namespace Go.Proofs.YtjopghiagoidgaaGreat
open Go Go.Ab Go.RowKit
theorem op3:B6 Tryz.prog 3 (fun n:Int=>[.int .i64 n]) I64:=(B6.int Tryz.underlying3).iso id (fun _=>rfl) fun _ h=>wf_i64 h
theorem Aas:B6 Tryz.prog 114 A6 dH:=
  (B6.struct (tot:=2) Tryz.underlying114 (by kernel_rfl) (.cons (sz:=1) rfl (by kernel_rfl) op3 (.cons (sz:=1) rfl (by kernel_rfl) op3 .nil))).iso (fun x=>⟨x.1,x.2.1⟩) (fun _=>rfl) fun _ h=>⟨h.1,h.2.1⟩
theorem Ac9:B6 Tryz.prog 22 (fun l:List Ck=>[.sl 2 (l.map A6)]) (OkL dH):=
  B6.slice (sz:=2) Tryz.underlying22 (by kernel_rfl) (by decide) (fun _=>rfl) (fun a c h=>by simp[A6]at h;rcases h with rfl | rfl<;>rfl) Aas
theorem Ack:B6 Tryz.prog 80 A7 dI:=
  (B6.struct (tot:=8) Tryz.underlying80 (by kernel_rfl) (.cons (sz:=1) rfl (by kernel_rfl) op3 (.cons (sz:=1) rfl (by kernel_rfl) op3 (.cons (sz:=1) rfl (by kernel_rfl) op3 (.cons (sz:=1) rfl (by kernel_rfl) op3 (.cons (sz:=1) rfl (by kernel_rfl) op3 (.cons (sz:=1) rfl (by kernel_rfl) op3 (.cons (sz:=1) rfl (by kernel_rfl) op3 (.cons (sz:=1) rfl (by kernel_rfl) op3 .nil))))))))).iso (fun x=>⟨x.1,x.2.1,x.2.2.1,x.2.2.2.1,x.2.2.2.2.1,x.2.2.2.2.2.1,x.2.2.2.2.2.2.1,x.2.2.2.2.2.2.2.1⟩) (fun _=>rfl) fun _ h=>⟨h.1,h.2.1,h.2.2.1,h.2.2.2.1,h.2.2.2.2.1,h.2.2.2.2.2.1,h.2.2.2.2.2.2.1,h.2.2.2.2.2.2.2.1⟩
theorem Ac8:B6 Tryz.prog 23 (fun l:List Cc=>[.sl 8 (l.map A7)]) (OkL dI):=
  B6.slice (sz:=8) Tryz.underlying23 (by kernel_rfl) (by decide) (fun _=>rfl) (fun a c h=>by simp[A7]at h;rcases h with rfl | rfl | rfl | rfl | rfl | rfl | rfl | rfl<;>rfl) Ack
theorem Acq:B6 Tryz.prog 62 Bc iP:=
  (B6.struct (tot:=7) Tryz.underlying62 (by kernel_rfl) (.cons (sz:=1) rfl (by kernel_rfl) op3 (.cons (sz:=1) rfl (by kernel_rfl) op3 (.cons (sz:=1) rfl (by kernel_rfl) op3 (.cons (sz:=1) rfl (by kernel_rfl) op3 (.cons (sz:=1) rfl (by kernel_rfl) op3 (.cons (sz:=1) rfl (by kernel_rfl) op3 (.cons (sz:=1) rfl (by kernel_rfl) op3 .nil)))))))).iso (fun x=>⟨x.1,x.2.1,x.2.2.1,x.2.2.2.1,x.2.2.2.2.1,x.2.2.2.2.2.1,x.2.2.2.2.2.2.1⟩) (fun _=>rfl) fun _ h=>⟨h.1,h.2.1,h.2.2.1,h.2.2.2.1,h.2.2.2.2.1,h.2.2.2.2.2.1,h.2.2.2.2.2.2.1⟩
theorem Ac7:B6 Tryz.prog 24 (fun l:List Ce=>[.sl 7 (l.map Bc)]) (OkL iP):=
  B6.slice (sz:=7) Tryz.underlying24 (by kernel_rfl) (by decide) (fun _=>rfl) (fun a c h=>by simp[Bc]at h;rcases h with rfl | rfl | rfl | rfl | rfl | rfl | rfl<;>rfl) Acq
theorem tE:B6 Tryz.prog 25 (fun l:List Int=>[.sl 1 (l.map A2)]) (OkL I64):=
  B6.slice (sz:=1) Tryz.underlying25 (by kernel_rfl) (by decide) (fun _=>rfl) (fun a c h=>by have:=List.mem_singleton.1 h;subst this;rfl) op3
theorem Ac6:B6 Tryz.prog 27 Cd pC:=
  (B6.struct (tot:=4) Tryz.underlying27 (by kernel_rfl) (.cons (sz:=1) rfl (by kernel_rfl) Ac9 (.cons (sz:=1) rfl (by kernel_rfl) Ac8 (.cons (sz:=1) rfl (by kernel_rfl) Ac7 (.cons (sz:=1) rfl (by kernel_rfl) tE .nil))))).iso (fun x=>⟨x.1,x.2.1,x.2.2.1,x.2.2.2.1⟩) (fun _=>rfl) fun _ h=>⟨h.1,h.2.1,h.2.2.1,h.2.2.2.1⟩
theorem Acl:B6 Tryz.prog 78 Aw Ty:=
  (B6.struct (tot:=2) Tryz.underlying78 (by kernel_rfl) (.cons (sz:=1) rfl (by kernel_rfl) op3 (.cons (sz:=1) rfl (by kernel_rfl) op3 .nil))).iso (fun x=>⟨x.1,x.2.1⟩) (fun _=>rfl) fun _ h=>⟨h.1,h.2.1⟩
theorem Ac5:B6 Tryz.prog 28 (fun l:List Cr=>[.sl 2 (l.map Aw)]) (OkL Ty):=
  B6.slice (sz:=2) Tryz.underlying28 (by kernel_rfl) (by decide) (fun _=>rfl) (fun a c h=>by simp[Aw]at h;rcases h with rfl | rfl<;>rfl) Acl
theorem Aco:B6 Tryz.prog 72 Au Vr:=
  (B6.struct (tot:=4) Tryz.underlying72 (by kernel_rfl) (.cons (sz:=1) rfl (by kernel_rfl) op3 (.cons (sz:=1) rfl (by kernel_rfl) op3 (.cons (sz:=1) rfl (by kernel_rfl) op3 (.cons (sz:=1) rfl (by kernel_rfl) op3 .nil))))).iso (fun x=>⟨x.1,x.2.1,x.2.2.1,x.2.2.2.1⟩) (fun _=>rfl) fun _ h=>⟨h.1,h.2.1,h.2.2.1,h.2.2.2.1⟩
theorem Ac4:B6 Tryz.prog 29 (fun l:List Bl=>[.sl 4 (l.map Au)]) (OkL Vr):=
  B6.slice (sz:=4) Tryz.underlying29 (by kernel_rfl) (by decide) (fun _=>rfl) (fun a c h=>by simp[Au]at h;rcases h with rfl | rfl | rfl | rfl<;>rfl) Aco
theorem Aan:B6 Tryz.prog 157 B9 dG:=
  (B6.struct (tot:=3) Tryz.underlying157 (by kernel_rfl) (.cons (sz:=1) rfl (by kernel_rfl) op3 (.cons (sz:=1) rfl (by kernel_rfl) op3 (.cons (sz:=1) rfl (by kernel_rfl) op3 .nil)))).iso (fun x=>⟨x.1,x.2.1,x.2.2.1⟩) (fun _=>rfl) fun _ h=>⟨h.1,h.2.1,h.2.2.1⟩
theorem Aar:B6 Tryz.prog 115 (fun l:List Fl=>[.sl 3 (l.map B9)]) (OkL dG):=
  B6.slice (sz:=3) Tryz.underlying115 (by kernel_rfl) (by decide) (fun _=>rfl) (fun a c h=>by simp[B9]at h;rcases h with rfl | rfl | rfl<;>rfl) Aan
theorem Aaq:B6 Tryz.prog 117 Fg Xv:=
  (B6.struct (tot:=3) Tryz.underlying117 (by kernel_rfl) (.cons (sz:=1) rfl (by kernel_rfl) tE (.cons (sz:=1) rfl (by kernel_rfl) op3 (.cons (sz:=1) rfl (by kernel_rfl) Aar .nil)))).iso (fun x=>⟨x.1,x.2.1,x.2.2.1⟩) (fun _=>rfl) fun _ h=>⟨h.1,h.2.1,h.2.2.1⟩
theorem Aap:B6 Tryz.prog 119 Av Vo:=
  (B6.struct (tot:=4) Tryz.underlying119 (by kernel_rfl) (.cons (sz:=1) rfl (by kernel_rfl) op3 (.cons (sz:=3) rfl (by kernel_rfl) Aaq .nil))).iso (fun x=>⟨x.1,x.2.1⟩) (fun _=>rfl) fun _ h=>⟨h.1,h.2.1⟩
theorem Ac3:B6 Tryz.prog 30 (fun l:List Cj=>[.sl 4 (l.map Av)]) (OkL Vo):=
  B6.slice (sz:=4) Tryz.underlying30 (by kernel_rfl) (by decide) (fun _=>rfl) (fun a c h=>by simp[Av]at h;rcases h with rfl | rfl | rfl | rfl<;>rfl) Aap
theorem Acn:B6 Tryz.prog 74 Az Xu:=
  (B6.struct (tot:=3) Tryz.underlying74 (by kernel_rfl) (.cons (sz:=1) rfl (by kernel_rfl) op3 (.cons (sz:=1) rfl (by kernel_rfl) op3 (.cons (sz:=1) rfl (by kernel_rfl) op3 .nil)))).iso (fun x=>⟨x.1,x.2.1,x.2.2.1⟩) (fun _=>rfl) fun _ h=>⟨h.1,h.2.1,h.2.2.1⟩
theorem Ac2:B6 Tryz.prog 31 (fun l:List Cv=>[.sl 3 (l.map Az)]) (OkL Xu):=
  B6.slice (sz:=3) Tryz.underlying31 (by kernel_rfl) (by decide) (fun _=>rfl) (fun a c h=>by simp[Az]at h;rcases h with rfl | rfl | rfl<;>rfl) Acn
theorem Ac1:B6 Tryz.prog 33 Ij eG:=
  (B6.struct (tot:=2) Tryz.underlying33 (by kernel_rfl) (.cons (sz:=1) rfl (by kernel_rfl) Ac3 (.cons (sz:=1) rfl (by kernel_rfl) Ac2 .nil))).iso (fun x=>⟨x.1,x.2.1⟩) (fun _=>rfl) fun _ h=>⟨h.1,h.2.1⟩
theorem Aam:B6 Tryz.prog 162 A4 Vm:=
  (B6.struct (tot:=3) Tryz.underlying162 (by kernel_rfl) (.cons (sz:=1) rfl (by kernel_rfl) op3 (.cons (sz:=1) rfl (by kernel_rfl) op3 (.cons (sz:=1) rfl (by kernel_rfl) op3 .nil)))).iso (fun x=>⟨x.1,x.2.1,x.2.2.1⟩) (fun _=>rfl) fun _ h=>⟨h.1,h.2.1,h.2.2.1⟩
theorem Ac0:B6 Tryz.prog 34 (fun l:List Cy=>[.sl 3 (l.map A4)]) (OkL Vm):=
  B6.slice (sz:=3) Tryz.underlying34 (by kernel_rfl) (by decide) (fun _=>rfl) (fun a c h=>by simp[A4]at h;rcases h with rfl | rfl | rfl<;>rfl) Aam
theorem Acj:B6 Tryz.prog 84 O1 kR:=
  (B6.struct (tot:=3) Tryz.underlying84 (by kernel_rfl) (.cons (sz:=1) rfl (by kernel_rfl) op3 (.cons (sz:=1) rfl (by kernel_rfl) op3 (.cons (sz:=1) rfl (by kernel_rfl) op3 .nil)))).iso (fun x=>⟨x.1,x.2.1,x.2.2.1⟩) (fun _=>rfl) fun _ h=>⟨h.1,h.2.1,h.2.2.1⟩
theorem Aci:B6 Tryz.prog 86 A3 Vn:=
  (B6.struct (tot:=5) Tryz.underlying86 (by kernel_rfl) (.cons (sz:=1) rfl (by kernel_rfl) op3 (.cons (sz:=1) rfl (by kernel_rfl) op3 (.cons (sz:=3) rfl (by kernel_rfl) Acj .nil)))).iso (fun x=>⟨x.1,x.2.1,x.2.2.1⟩) (fun _=>rfl) fun _ h=>⟨h.1,h.2.1,h.2.2.1⟩
theorem Acz:B6 Tryz.prog 35 (fun l:List C5=>[.sl 5 (l.map A3)]) (OkL Vn):=
  B6.slice (sz:=5) Tryz.underlying35 (by kernel_rfl) (by decide) (fun _=>rfl) (fun a c h=>by simp[A3]at h;rcases h with rfl | rfl | rfl | rfl | rfl<;>rfl) Aci
theorem Acm:B6 Tryz.prog 76 Ba Zw:=
  (B6.struct (tot:=6) Tryz.underlying76 (by kernel_rfl) (.cons (sz:=1) rfl (by kernel_rfl) op3 (.cons (sz:=1) rfl (by kernel_rfl) tE (.cons (sz:=1) rfl (by kernel_rfl) tE (.cons (sz:=1) rfl (by kernel_rfl) op3 (.cons (sz:=1) rfl (by kernel_rfl) op3 (.cons (sz:=1) rfl (by kernel_rfl) op3 .nil))))))).iso (fun x=>⟨x.1,x.2.1,x.2.2.1,x.2.2.2.1,x.2.2.2.2.1,x.2.2.2.2.2.1⟩) (fun _=>rfl) fun _ h=>⟨h.1,h.2.1,h.2.2.1,h.2.2.2.1,h.2.2.2.2.1,h.2.2.2.2.2.1⟩
theorem Acy:B6 Tryz.prog 36 (fun l:List Bd=>[.sl 6 (l.map Ba)]) (OkL Zw):=
  B6.slice (sz:=6) Tryz.underlying36 (by kernel_rfl) (by decide) (fun _=>rfl) (fun a c h=>by simp[Ba]at h;rcases h with rfl | rfl | rfl | rfl | rfl | rfl<;>rfl) Acm
theorem yZ:B6 Tryz.prog 137 R4 Tz:=
  (B6.struct (tot:=2) Tryz.underlying137 (by kernel_rfl) (.cons (sz:=1) rfl (by kernel_rfl) op3 (.cons (sz:=1) rfl (by kernel_rfl) op3 .nil))).iso (fun x=>⟨x.1,x.2.1⟩) (fun _=>rfl) fun _ h=>⟨h.1,h.2.1⟩
theorem Aao:B6 Tryz.prog 139 Ax T0:=
  (B6.struct (tot:=7) Tryz.underlying139 (by kernel_rfl) (.cons (sz:=1) rfl (by kernel_rfl) op3 (.cons (sz:=2) rfl (by kernel_rfl) yZ (.cons (sz:=1) rfl (by kernel_rfl) op3 (.cons (sz:=1) rfl (by kernel_rfl) op3 (.cons (sz:=1) rfl (by kernel_rfl) tE (.cons (sz:=1) rfl (by kernel_rfl) op3 .nil))))))).iso (fun x=>⟨x.1,x.2.1,x.2.2.1,x.2.2.2.1,x.2.2.2.2.1,x.2.2.2.2.2.1⟩) (fun _=>rfl) fun _ h=>⟨h.1,h.2.1,h.2.2.1,h.2.2.2.1,h.2.2.2.2.1,h.2.2.2.2.2.1⟩
theorem Acx:B6 Tryz.prog 37 (fun l:List Bp=>[.sl 7 (l.map Ax)]) (OkL T0):=
  B6.slice (sz:=7) Tryz.underlying37 (by kernel_rfl) (by decide) (fun _=>rfl) (fun a c h=>by simp[Ax]at h;rcases h with rfl | rfl | rfl | rfl | rfl | rfl | rfl<;>rfl) Aao
theorem Aal:B6 Tryz.prog 170 Ap Vp:=
  (B6.struct (tot:=7) Tryz.underlying170 (by kernel_rfl) (.cons (sz:=1) rfl (by kernel_rfl) op3 (.cons (sz:=1) rfl (by kernel_rfl) op3 (.cons (sz:=1) rfl (by kernel_rfl) op3 (.cons (sz:=1) rfl (by kernel_rfl) op3 (.cons (sz:=1) rfl (by kernel_rfl) op3 (.cons (sz:=2) rfl (by kernel_rfl) yZ .nil))))))).iso (fun x=>⟨x.1,x.2.1,x.2.2.1,x.2.2.2.1,x.2.2.2.2.1,x.2.2.2.2.2.1⟩) (fun _=>rfl) fun _ h=>⟨h.1,h.2.1,h.2.2.1,h.2.2.2.1,h.2.2.2.2.1,h.2.2.2.2.2.1⟩
theorem Acw:B6 Tryz.prog 38 (fun l:List Bh=>[.sl 7 (l.map Ap)]) (OkL Vp):=
  B6.slice (sz:=7) Tryz.underlying38 (by kernel_rfl) (by decide) (fun _=>rfl) (fun a c h=>by simp[Ap]at h;rcases h with rfl | rfl | rfl | rfl | rfl | rfl | rfl<;>rfl) Aal
theorem Aak:B6 Tryz.prog 173 Ao Sb:=
  (B6.struct (tot:=4) Tryz.underlying173 (by kernel_rfl) (.cons (sz:=1) rfl (by kernel_rfl) op3 (.cons (sz:=1) rfl (by kernel_rfl) op3 (.cons (sz:=1) rfl (by kernel_rfl) op3 (.cons (sz:=1) rfl (by kernel_rfl) tE .nil))))).iso (fun x=>⟨x.1,x.2.1,x.2.2.1,x.2.2.2.1⟩) (fun _=>rfl) fun _ h=>⟨h.1,h.2.1,h.2.2.1,h.2.2.2.1⟩
theorem Acv:B6 Tryz.prog 39 (fun l:List A8=>[.sl 4 (l.map Ao)]) (OkL Sb):=
  B6.slice (sz:=4) Tryz.underlying39 (by kernel_rfl) (by decide) (fun _=>rfl) (fun a c h=>by simp[Ao]at h;rcases h with rfl | rfl | rfl | rfl<;>rfl) Aak
theorem op4:B6 Tryz.prog 4 (fun b:Bool=>[.bool b]) (fun _=>True):=B6.bool Tryz.underlying4
theorem Aaj:B6 Tryz.prog 177 A1 Vq:=
  (B6.struct (tot:=8) Tryz.underlying177 (by kernel_rfl) (.cons (sz:=1) rfl (by kernel_rfl) op3 (.cons (sz:=1) rfl (by kernel_rfl) op3 (.cons (sz:=1) rfl (by kernel_rfl) op3 (.cons (sz:=1) rfl (by kernel_rfl) op3 (.cons (sz:=1) rfl (by kernel_rfl) op3 (.cons (sz:=1) rfl (by kernel_rfl) op3 (.cons (sz:=1) rfl (by kernel_rfl) op3 (.cons (sz:=1) rfl (by kernel_rfl) op4 .nil))))))))).iso (fun x=>⟨x.1,x.2.1,x.2.2.1,x.2.2.2.1,x.2.2.2.2.1,x.2.2.2.2.2.1,x.2.2.2.2.2.2.1,x.2.2.2.2.2.2.2.1⟩) (fun _=>rfl) fun _ h=>⟨h.1,h.2.1,h.2.2.1,h.2.2.2.1,h.2.2.2.2.1,h.2.2.2.2.2.1,h.2.2.2.2.2.2.1,h.2.2.2.2.2.2.2.1⟩
theorem Acu:B6 Tryz.prog 40 (fun l:List B5=>[.sl 8 (l.map A1)]) (OkL Vq):=
  B6.slice (sz:=8) Tryz.underlying40 (by kernel_rfl) (by decide) (fun _=>rfl) (fun a c h=>by simp[A1]at h;rcases h with rfl | rfl | rfl | rfl | rfl | rfl | rfl | rfl<;>rfl) Aaj
theorem Acp:B6 Tryz.prog 70 A5 Xt:=
  (B6.struct (tot:=3) Tryz.underlying70 (by kernel_rfl) (.cons (sz:=1) rfl (by kernel_rfl) op3 (.cons (sz:=1) rfl (by kernel_rfl) op4 (.cons (sz:=1) rfl (by kernel_rfl) op3 .nil)))).iso (fun x=>⟨x.1,x.2.1,x.2.2.1⟩) (fun _=>rfl) fun _ h=>⟨h.1,h.2.1,h.2.2.1⟩
theorem Acs:B6 Tryz.prog 41 (fun l:List Bi=>[.sl 3 (l.map A5)]) (OkL Xt):=
  B6.slice (sz:=3) Tryz.underlying41 (by kernel_rfl) (by decide) (fun _=>rfl) (fun a c h=>by simp[A5]at h;rcases h with rfl | rfl | rfl<;>rfl) Acp
theorem Acr:B6 Tryz.prog 43 B3 Sc:=
  (B6.struct (tot:=18) Tryz.underlying43 (by kernel_rfl) (.cons (sz:=4) rfl (by kernel_rfl) Ac6 (.cons (sz:=1) rfl (by kernel_rfl) Ac5 (.cons (sz:=1) rfl (by kernel_rfl) Ac4 (.cons (sz:=2) rfl (by kernel_rfl) Ac1 (.cons (sz:=1) rfl (by kernel_rfl) Ac0 (.cons (sz:=1) rfl (by kernel_rfl) Acz (.cons (sz:=1) rfl (by kernel_rfl) Acy (.cons (sz:=1) rfl (by kernel_rfl) Acx (.cons (sz:=1) rfl (by kernel_rfl) Acw (.cons (sz:=1) rfl (by kernel_rfl) Acv (.cons (sz:=1) rfl (by kernel_rfl) Acu (.cons (sz:=1) rfl (by kernel_rfl) Acs (.cons (sz:=1) rfl (by kernel_rfl) op3 (.cons (sz:=1) rfl (by kernel_rfl) op3 .nil))))))))))))))).iso (fun x=>⟨x.1,x.2.1,x.2.2.1,x.2.2.2.1,x.2.2.2.2.1,x.2.2.2.2.2.1,x.2.2.2.2.2.2.1,x.2.2.2.2.2.2.2.1,x.2.2.2.2.2.2.2.2.1,x.2.2.2.2.2.2.2.2.2.1,x.2.2.2.2.2.2.2.2.2.2.1,x.2.2.2.2.2.2.2.2.2.2.2.1,x.2.2.2.2.2.2.2.2.2.2.2.2.1,x.2.2.2.2.2.2.2.2.2.2.2.2.2.1⟩) (fun _=>rfl) fun _ h=>⟨h.1,h.2.1,h.2.2.1,h.2.2.2.1,h.2.2.2.2.1,h.2.2.2.2.2.1,h.2.2.2.2.2.2.1,h.2.2.2.2.2.2.2.1,h.2.2.2.2.2.2.2.2.1,h.2.2.2.2.2.2.2.2.2.1,h.2.2.2.2.2.2.2.2.2.2.1,h.2.2.2.2.2.2.2.2.2.2.2.1,h.2.2.2.2.2.2.2.2.2.2.2.2.1,h.2.2.2.2.2.2.2.2.2.2.2.2.2.1⟩
theorem own:ownKnob Tryz.prog.godebug=none:=by kernel_rfl
theorem laidOut:laidOutB Tryz.prog=true:=by kernel_rfl
theorem wA (x:Aj×Unit) (h:Sc x.1∧True):Ad Tryz.prog 9 [.agg (B3 x.1)] (·= .bool true):=Tk x.1 (Tj x.1 h.1)
set_option maxRecDepth 100000 in
theorem lifted (os:Os) (started:os.Started) (H:Type) (enc:TypeId×Value→H) :
    ReturnsInHanded {} Tryz.checked os 9 .any (Rows.interlockHomeSpec.pre6 enc Tryz.prog Tryz.f9 Rows.interlockHomeRow.domain false) (Rows.interlockHomeSpec.post enc Tryz.prog Tryz.f9 false true false false):=by
  refine tN (C:=Tryz.checked) (tb:=4) own started (by kernel_rfl) Tryz.func9 (ChangeSpec.witness6 (enc:=enc) (C:=Tryz.checked) false ⟨#[],#[.agg #[.slice none 0 0,.slice none 0 0,.slice none 0 0,.slice none 0 0,.slice none 0 0,.slice none 0 0,.slice none 0 0,.slice none 0 0,.slice none 0 0,.slice none 0 0,.slice none 0 0,.slice none 0 0,.slice none 0 0,.slice none 0 0,.slice none 0 0,.slice none 0 0,.int .i64 0,.int .i64 0]],[]⟩ 8 (by kernel_rfl) (by kernel_rfl) (by kernel_rfl) (by kernel_rfl))
    rfl rfl Tryz.underlying4 laidOut (by kernel_rfl) (fun ds h=>?_) (fun W b0 args ds ps hv hd=>?_)
  ·match ds,h with
   | [d1],_=>exact ⟨rfl,rfl,rfl⟩
  ·exact jE wA (.cons (M4.struct Tryz.underlying43 Acr) .nil) hv hd
theorem z6 {a b:Bool} (h:a=true) (k:b=true):(a&&b)=true:=by rw[h,k];rfl
set_option maxHeartbeats 4000000 in
theorem closed:joinedFacts Tryz.prog 9 Tryz.f9 Rows.interlockHomeSpec Rows.interlockHomeRow=true:=by
  unfold joinedFacts
  repeat' with_reducible refine z6 ?_ ?_
  all_goals (as_aux_lemma=>kernel_rfl)
theorem InterlockHome_holds:Rows.InterlockHomeSaid:=
  OpenClaim.holds_of_wide 9 Tryz.f9 rfl rfl rfl rfl rfl rfl rfl ⟨rfl,rfl,rfl,rfl,rfl⟩ rfl rfl rfl rfl rfl (by kernel_rfl) Tryz.func9 closed
    (Ai0 (by kernel_rfl)) (by unfold Func.isWrapper;first | (rw[if_pos (by decide +kernel)];kernel_rfl) | (rw[if_neg (by decide +kernel)];exact⟨rfl,rfl⟩))
    (fun os started H enc _=>lifted os started H enc)
end Go.Proofs.YtjopghiagoidgaaGreat
