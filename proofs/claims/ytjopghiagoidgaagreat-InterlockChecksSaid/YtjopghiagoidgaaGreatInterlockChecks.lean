/-
  InterlockChecks: for every input the law returns true, and each argument reads behind the call as it read before. No condition.
-/
import Derived.Test.YtjopghiagoidgaaGreatA5
import Derived.Test.YtjopghiagoidgaaGreatRows
import Derived.ProofKit
namespace Go.Proofs.YtjopghiagoidgaaGreat
open Go Go.Ab Go.RowKit
theorem op3:B4 Tryz.prog 3 (fun n:Int=>[.int .i64 n]) I64:=(B4.int Tryz.underlying3).iso id (fun _=>rfl) fun _ h=>wf_i64 h
theorem zV:B4 Tryz.prog 114 A6 cT:=
  (B4.struct (tot:=2) Tryz.underlying114 (by kernel_rfl) (.cons (sz:=1) rfl (by kernel_rfl) op3 (.cons (sz:=1) rfl (by kernel_rfl) op3 .nil))).iso (fun x=>⟨x.1,x.2.1⟩) (fun _=>rfl) fun _ h=>⟨h.1,h.2.1⟩
theorem Ach:B4 Tryz.prog 22 (fun l:List Ck=>[.sl 2 (l.map A6)]) (OkL cT):=
  B4.slice (sz:=2) Tryz.underlying22 (by kernel_rfl) (by decide) (fun _=>rfl) (fun a c h=>by simp[A6]at h;rcases h with rfl | rfl<;>rfl) zV
theorem Abs:B4 Tryz.prog 80 A7 cU:=
  (B4.struct (tot:=8) Tryz.underlying80 (by kernel_rfl) (.cons (sz:=1) rfl (by kernel_rfl) op3 (.cons (sz:=1) rfl (by kernel_rfl) op3 (.cons (sz:=1) rfl (by kernel_rfl) op3 (.cons (sz:=1) rfl (by kernel_rfl) op3 (.cons (sz:=1) rfl (by kernel_rfl) op3 (.cons (sz:=1) rfl (by kernel_rfl) op3 (.cons (sz:=1) rfl (by kernel_rfl) op3 (.cons (sz:=1) rfl (by kernel_rfl) op3 .nil))))))))).iso (fun x=>⟨x.1,x.2.1,x.2.2.1,x.2.2.2.1,x.2.2.2.2.1,x.2.2.2.2.2.1,x.2.2.2.2.2.2.1,x.2.2.2.2.2.2.2.1⟩) (fun _=>rfl) fun _ h=>⟨h.1,h.2.1,h.2.2.1,h.2.2.2.1,h.2.2.2.2.1,h.2.2.2.2.2.1,h.2.2.2.2.2.2.1,h.2.2.2.2.2.2.2.1⟩
theorem Acg:B4 Tryz.prog 23 (fun l:List Cc=>[.sl 8 (l.map A7)]) (OkL cU):=
  B4.slice (sz:=8) Tryz.underlying23 (by kernel_rfl) (by decide) (fun _=>rfl) (fun a c h=>by simp[A7]at h;rcases h with rfl | rfl | rfl | rfl | rfl | rfl | rfl | rfl<;>rfl) Abs
theorem Aby:B4 Tryz.prog 62 Bd gV:=
  (B4.struct (tot:=7) Tryz.underlying62 (by kernel_rfl) (.cons (sz:=1) rfl (by kernel_rfl) op3 (.cons (sz:=1) rfl (by kernel_rfl) op3 (.cons (sz:=1) rfl (by kernel_rfl) op3 (.cons (sz:=1) rfl (by kernel_rfl) op3 (.cons (sz:=1) rfl (by kernel_rfl) op3 (.cons (sz:=1) rfl (by kernel_rfl) op3 (.cons (sz:=1) rfl (by kernel_rfl) op3 .nil)))))))).iso (fun x=>⟨x.1,x.2.1,x.2.2.1,x.2.2.2.1,x.2.2.2.2.1,x.2.2.2.2.2.1,x.2.2.2.2.2.2.1⟩) (fun _=>rfl) fun _ h=>⟨h.1,h.2.1,h.2.2.1,h.2.2.2.1,h.2.2.2.2.1,h.2.2.2.2.2.1,h.2.2.2.2.2.2.1⟩
theorem Acf:B4 Tryz.prog 24 (fun l:List Cd=>[.sl 7 (l.map Bd)]) (OkL gV):=
  B4.slice (sz:=7) Tryz.underlying24 (by kernel_rfl) (by decide) (fun _=>rfl) (fun a c h=>by simp[Bd]at h;rcases h with rfl | rfl | rfl | rfl | rfl | rfl | rfl<;>rfl) Aby
theorem sE:B4 Tryz.prog 25 (fun l:List Int=>[.sl 1 (l.map A5)]) (OkL I64):=
  B4.slice (sz:=1) Tryz.underlying25 (by kernel_rfl) (by decide) (fun _=>rfl) (fun a c h=>by have:=List.mem_singleton.1 h;subst this;rfl) op3
theorem Ace:B4 Tryz.prog 27 Ce oE:=
  (B4.struct (tot:=4) Tryz.underlying27 (by kernel_rfl) (.cons (sz:=1) rfl (by kernel_rfl) Ach (.cons (sz:=1) rfl (by kernel_rfl) Acg (.cons (sz:=1) rfl (by kernel_rfl) Acf (.cons (sz:=1) rfl (by kernel_rfl) sE .nil))))).iso (fun x=>⟨x.1,x.2.1,x.2.2.1,x.2.2.2.1⟩) (fun _=>rfl) fun _ h=>⟨h.1,h.2.1,h.2.2.1,h.2.2.2.1⟩
theorem Abt:B4 Tryz.prog 78 Ax Td:=
  (B4.struct (tot:=2) Tryz.underlying78 (by kernel_rfl) (.cons (sz:=1) rfl (by kernel_rfl) op3 (.cons (sz:=1) rfl (by kernel_rfl) op3 .nil))).iso (fun x=>⟨x.1,x.2.1⟩) (fun _=>rfl) fun _ h=>⟨h.1,h.2.1⟩
theorem Acd:B4 Tryz.prog 28 (fun l:List Cr=>[.sl 2 (l.map Ax)]) (OkL Td):=
  B4.slice (sz:=2) Tryz.underlying28 (by kernel_rfl) (by decide) (fun _=>rfl) (fun a c h=>by simp[Ax]at h;rcases h with rfl | rfl<;>rfl) Abt
theorem Abw:B4 Tryz.prog 72 Au U9:=
  (B4.struct (tot:=4) Tryz.underlying72 (by kernel_rfl) (.cons (sz:=1) rfl (by kernel_rfl) op3 (.cons (sz:=1) rfl (by kernel_rfl) op3 (.cons (sz:=1) rfl (by kernel_rfl) op3 (.cons (sz:=1) rfl (by kernel_rfl) op3 .nil))))).iso (fun x=>⟨x.1,x.2.1,x.2.2.1,x.2.2.2.1⟩) (fun _=>rfl) fun _ h=>⟨h.1,h.2.1,h.2.2.1,h.2.2.2.1⟩
theorem Acb:B4 Tryz.prog 29 (fun l:List Bk=>[.sl 4 (l.map Au)]) (OkL U9):=
  B4.slice (sz:=4) Tryz.underlying29 (by kernel_rfl) (by decide) (fun _=>rfl) (fun a c h=>by simp[Au]at h;rcases h with rfl | rfl | rfl | rfl<;>rfl) Abw
theorem zQ:B4 Tryz.prog 157 B9 cR:=
  (B4.struct (tot:=3) Tryz.underlying157 (by kernel_rfl) (.cons (sz:=1) rfl (by kernel_rfl) op3 (.cons (sz:=1) rfl (by kernel_rfl) op3 (.cons (sz:=1) rfl (by kernel_rfl) op3 .nil)))).iso (fun x=>⟨x.1,x.2.1,x.2.2.1⟩) (fun _=>rfl) fun _ h=>⟨h.1,h.2.1,h.2.2.1⟩
theorem zU:B4 Tryz.prog 115 (fun l:List Fh=>[.sl 3 (l.map B9)]) (OkL cR):=
  B4.slice (sz:=3) Tryz.underlying115 (by kernel_rfl) (by decide) (fun _=>rfl) (fun a c h=>by simp[B9]at h;rcases h with rfl | rfl | rfl<;>rfl) zQ
theorem zT:B4 Tryz.prog 117 Fb Xd:=
  (B4.struct (tot:=3) Tryz.underlying117 (by kernel_rfl) (.cons (sz:=1) rfl (by kernel_rfl) sE (.cons (sz:=1) rfl (by kernel_rfl) op3 (.cons (sz:=1) rfl (by kernel_rfl) zU .nil)))).iso (fun x=>⟨x.1,x.2.1,x.2.2.1⟩) (fun _=>rfl) fun _ h=>⟨h.1,h.2.1,h.2.2.1⟩
theorem zS:B4 Tryz.prog 119 Av U5:=
  (B4.struct (tot:=4) Tryz.underlying119 (by kernel_rfl) (.cons (sz:=1) rfl (by kernel_rfl) op3 (.cons (sz:=3) rfl (by kernel_rfl) zT .nil))).iso (fun x=>⟨x.1,x.2.1⟩) (fun _=>rfl) fun _ h=>⟨h.1,h.2.1⟩
theorem Aca:B4 Tryz.prog 30 (fun l:List Cj=>[.sl 4 (l.map Av)]) (OkL U5):=
  B4.slice (sz:=4) Tryz.underlying30 (by kernel_rfl) (by decide) (fun _=>rfl) (fun a c h=>by simp[Av]at h;rcases h with rfl | rfl | rfl | rfl<;>rfl) zS
theorem Abv:B4 Tryz.prog 74 A1 Xc:=
  (B4.struct (tot:=3) Tryz.underlying74 (by kernel_rfl) (.cons (sz:=1) rfl (by kernel_rfl) op3 (.cons (sz:=1) rfl (by kernel_rfl) op3 (.cons (sz:=1) rfl (by kernel_rfl) op3 .nil)))).iso (fun x=>⟨x.1,x.2.1,x.2.2.1⟩) (fun _=>rfl) fun _ h=>⟨h.1,h.2.1,h.2.2.1⟩
theorem Ab9:B4 Tryz.prog 31 (fun l:List Cv=>[.sl 3 (l.map A1)]) (OkL Xc):=
  B4.slice (sz:=3) Tryz.underlying31 (by kernel_rfl) (by decide) (fun _=>rfl) (fun a c h=>by simp[A1]at h;rcases h with rfl | rfl | rfl<;>rfl) Abv
theorem Ab8:B4 Tryz.prog 33 Ib dO:=
  (B4.struct (tot:=2) Tryz.underlying33 (by kernel_rfl) (.cons (sz:=1) rfl (by kernel_rfl) Aca (.cons (sz:=1) rfl (by kernel_rfl) Ab9 .nil))).iso (fun x=>⟨x.1,x.2.1⟩) (fun _=>rfl) fun _ h=>⟨h.1,h.2.1⟩
theorem zP:B4 Tryz.prog 162 A8 U3:=
  (B4.struct (tot:=3) Tryz.underlying162 (by kernel_rfl) (.cons (sz:=1) rfl (by kernel_rfl) op3 (.cons (sz:=1) rfl (by kernel_rfl) op3 (.cons (sz:=1) rfl (by kernel_rfl) op3 .nil)))).iso (fun x=>⟨x.1,x.2.1,x.2.2.1⟩) (fun _=>rfl) fun _ h=>⟨h.1,h.2.1,h.2.2.1⟩
theorem Ab7:B4 Tryz.prog 34 (fun l:List Cx=>[.sl 3 (l.map A8)]) (OkL U3):=
  B4.slice (sz:=3) Tryz.underlying34 (by kernel_rfl) (by decide) (fun _=>rfl) (fun a c h=>by simp[A8]at h;rcases h with rfl | rfl | rfl<;>rfl) zP
theorem Abr:B4 Tryz.prog 84 Ob j0:=
  (B4.struct (tot:=3) Tryz.underlying84 (by kernel_rfl) (.cons (sz:=1) rfl (by kernel_rfl) op3 (.cons (sz:=1) rfl (by kernel_rfl) op3 (.cons (sz:=1) rfl (by kernel_rfl) op3 .nil)))).iso (fun x=>⟨x.1,x.2.1,x.2.2.1⟩) (fun _=>rfl) fun _ h=>⟨h.1,h.2.1,h.2.2.1⟩
theorem Abq:B4 Tryz.prog 86 A3 U4:=
  (B4.struct (tot:=5) Tryz.underlying86 (by kernel_rfl) (.cons (sz:=1) rfl (by kernel_rfl) op3 (.cons (sz:=1) rfl (by kernel_rfl) op3 (.cons (sz:=3) rfl (by kernel_rfl) Abr .nil)))).iso (fun x=>⟨x.1,x.2.1,x.2.2.1⟩) (fun _=>rfl) fun _ h=>⟨h.1,h.2.1,h.2.2.1⟩
theorem Ab6:B4 Tryz.prog 35 (fun l:List C0=>[.sl 5 (l.map A3)]) (OkL U4):=
  B4.slice (sz:=5) Tryz.underlying35 (by kernel_rfl) (by decide) (fun _=>rfl) (fun a c h=>by simp[A3]at h;rcases h with rfl | rfl | rfl | rfl | rfl<;>rfl) Abq
theorem Abu:B4 Tryz.prog 76 Bb Zg:=
  (B4.struct (tot:=6) Tryz.underlying76 (by kernel_rfl) (.cons (sz:=1) rfl (by kernel_rfl) op3 (.cons (sz:=1) rfl (by kernel_rfl) sE (.cons (sz:=1) rfl (by kernel_rfl) sE (.cons (sz:=1) rfl (by kernel_rfl) op3 (.cons (sz:=1) rfl (by kernel_rfl) op3 (.cons (sz:=1) rfl (by kernel_rfl) op3 .nil))))))).iso (fun x=>⟨x.1,x.2.1,x.2.2.1,x.2.2.2.1,x.2.2.2.2.1,x.2.2.2.2.2.1⟩) (fun _=>rfl) fun _ h=>⟨h.1,h.2.1,h.2.2.1,h.2.2.2.1,h.2.2.2.2.1,h.2.2.2.2.2.1⟩
theorem Ab5:B4 Tryz.prog 36 (fun l:List Bc=>[.sl 6 (l.map Bb)]) (OkL Zg):=
  B4.slice (sz:=6) Tryz.underlying36 (by kernel_rfl) (by decide) (fun _=>rfl) (fun a c h=>by simp[Bb]at h;rcases h with rfl | rfl | rfl | rfl | rfl | rfl<;>rfl) Abu
theorem x6:B4 Tryz.prog 137 Rl Te:=
  (B4.struct (tot:=2) Tryz.underlying137 (by kernel_rfl) (.cons (sz:=1) rfl (by kernel_rfl) op3 (.cons (sz:=1) rfl (by kernel_rfl) op3 .nil))).iso (fun x=>⟨x.1,x.2.1⟩) (fun _=>rfl) fun _ h=>⟨h.1,h.2.1⟩
theorem zR:B4 Tryz.prog 139 Aw Tf:=
  (B4.struct (tot:=7) Tryz.underlying139 (by kernel_rfl) (.cons (sz:=1) rfl (by kernel_rfl) op3 (.cons (sz:=2) rfl (by kernel_rfl) x6 (.cons (sz:=1) rfl (by kernel_rfl) op3 (.cons (sz:=1) rfl (by kernel_rfl) op3 (.cons (sz:=1) rfl (by kernel_rfl) sE (.cons (sz:=1) rfl (by kernel_rfl) op3 .nil))))))).iso (fun x=>⟨x.1,x.2.1,x.2.2.1,x.2.2.2.1,x.2.2.2.2.1,x.2.2.2.2.2.1⟩) (fun _=>rfl) fun _ h=>⟨h.1,h.2.1,h.2.2.1,h.2.2.2.1,h.2.2.2.2.1,h.2.2.2.2.2.1⟩
theorem Ab4:B4 Tryz.prog 37 (fun l:List Bl=>[.sl 7 (l.map Aw)]) (OkL Tf):=
  B4.slice (sz:=7) Tryz.underlying37 (by kernel_rfl) (by decide) (fun _=>rfl) (fun a c h=>by simp[Aw]at h;rcases h with rfl | rfl | rfl | rfl | rfl | rfl | rfl<;>rfl) zR
theorem zO:B4 Tryz.prog 170 Aq U6:=
  (B4.struct (tot:=7) Tryz.underlying170 (by kernel_rfl) (.cons (sz:=1) rfl (by kernel_rfl) op3 (.cons (sz:=1) rfl (by kernel_rfl) op3 (.cons (sz:=1) rfl (by kernel_rfl) op3 (.cons (sz:=1) rfl (by kernel_rfl) op3 (.cons (sz:=1) rfl (by kernel_rfl) op3 (.cons (sz:=2) rfl (by kernel_rfl) x6 .nil))))))).iso (fun x=>⟨x.1,x.2.1,x.2.2.1,x.2.2.2.1,x.2.2.2.2.1,x.2.2.2.2.2.1⟩) (fun _=>rfl) fun _ h=>⟨h.1,h.2.1,h.2.2.1,h.2.2.2.1,h.2.2.2.2.1,h.2.2.2.2.2.1⟩
theorem Ab3:B4 Tryz.prog 38 (fun l:List Bg=>[.sl 7 (l.map Aq)]) (OkL U6):=
  B4.slice (sz:=7) Tryz.underlying38 (by kernel_rfl) (by decide) (fun _=>rfl) (fun a c h=>by simp[Aq]at h;rcases h with rfl | rfl | rfl | rfl | rfl | rfl | rfl<;>rfl) zO
theorem zN:B4 Tryz.prog 173 Ap Rs:=
  (B4.struct (tot:=4) Tryz.underlying173 (by kernel_rfl) (.cons (sz:=1) rfl (by kernel_rfl) op3 (.cons (sz:=1) rfl (by kernel_rfl) op3 (.cons (sz:=1) rfl (by kernel_rfl) op3 (.cons (sz:=1) rfl (by kernel_rfl) sE .nil))))).iso (fun x=>⟨x.1,x.2.1,x.2.2.1,x.2.2.2.1⟩) (fun _=>rfl) fun _ h=>⟨h.1,h.2.1,h.2.2.1,h.2.2.2.1⟩
theorem Ab2:B4 Tryz.prog 39 (fun l:List Az=>[.sl 4 (l.map Ap)]) (OkL Rs):=
  B4.slice (sz:=4) Tryz.underlying39 (by kernel_rfl) (by decide) (fun _=>rfl) (fun a c h=>by simp[Ap]at h;rcases h with rfl | rfl | rfl | rfl<;>rfl) zN
theorem op4:B4 Tryz.prog 4 (fun b:Bool=>[.bool b]) (fun _=>True):=B4.bool Tryz.underlying4
theorem zM:B4 Tryz.prog 177 A2 U7:=
  (B4.struct (tot:=8) Tryz.underlying177 (by kernel_rfl) (.cons (sz:=1) rfl (by kernel_rfl) op3 (.cons (sz:=1) rfl (by kernel_rfl) op3 (.cons (sz:=1) rfl (by kernel_rfl) op3 (.cons (sz:=1) rfl (by kernel_rfl) op3 (.cons (sz:=1) rfl (by kernel_rfl) op3 (.cons (sz:=1) rfl (by kernel_rfl) op3 (.cons (sz:=1) rfl (by kernel_rfl) op3 (.cons (sz:=1) rfl (by kernel_rfl) op4 .nil))))))))).iso (fun x=>⟨x.1,x.2.1,x.2.2.1,x.2.2.2.1,x.2.2.2.2.1,x.2.2.2.2.2.1,x.2.2.2.2.2.2.1,x.2.2.2.2.2.2.2.1⟩) (fun _=>rfl) fun _ h=>⟨h.1,h.2.1,h.2.2.1,h.2.2.2.1,h.2.2.2.2.1,h.2.2.2.2.2.1,h.2.2.2.2.2.2.1,h.2.2.2.2.2.2.2.1⟩
theorem Ab1:B4 Tryz.prog 40 (fun l:List B3=>[.sl 8 (l.map A2)]) (OkL U7):=
  B4.slice (sz:=8) Tryz.underlying40 (by kernel_rfl) (by decide) (fun _=>rfl) (fun a c h=>by simp[A2]at h;rcases h with rfl | rfl | rfl | rfl | rfl | rfl | rfl | rfl<;>rfl) zM
theorem Abx:B4 Tryz.prog 70 A4 Xb:=
  (B4.struct (tot:=3) Tryz.underlying70 (by kernel_rfl) (.cons (sz:=1) rfl (by kernel_rfl) op3 (.cons (sz:=1) rfl (by kernel_rfl) op4 (.cons (sz:=1) rfl (by kernel_rfl) op3 .nil)))).iso (fun x=>⟨x.1,x.2.1,x.2.2.1⟩) (fun _=>rfl) fun _ h=>⟨h.1,h.2.1,h.2.2.1⟩
theorem Ab0:B4 Tryz.prog 41 (fun l:List Bi=>[.sl 3 (l.map A4)]) (OkL Xb):=
  B4.slice (sz:=3) Tryz.underlying41 (by kernel_rfl) (by decide) (fun _=>rfl) (fun a c h=>by simp[A4]at h;rcases h with rfl | rfl | rfl<;>rfl) Abx
theorem Abz:B4 Tryz.prog 43 B5 U8:=
  (B4.struct (tot:=18) Tryz.underlying43 (by kernel_rfl) (.cons (sz:=4) rfl (by kernel_rfl) Ace (.cons (sz:=1) rfl (by kernel_rfl) Acd (.cons (sz:=1) rfl (by kernel_rfl) Acb (.cons (sz:=2) rfl (by kernel_rfl) Ab8 (.cons (sz:=1) rfl (by kernel_rfl) Ab7 (.cons (sz:=1) rfl (by kernel_rfl) Ab6 (.cons (sz:=1) rfl (by kernel_rfl) Ab5 (.cons (sz:=1) rfl (by kernel_rfl) Ab4 (.cons (sz:=1) rfl (by kernel_rfl) Ab3 (.cons (sz:=1) rfl (by kernel_rfl) Ab2 (.cons (sz:=1) rfl (by kernel_rfl) Ab1 (.cons (sz:=1) rfl (by kernel_rfl) Ab0 (.cons (sz:=1) rfl (by kernel_rfl) op3 (.cons (sz:=1) rfl (by kernel_rfl) op3 .nil))))))))))))))).iso (fun x=>⟨x.1,x.2.1,x.2.2.1,x.2.2.2.1,x.2.2.2.2.1,x.2.2.2.2.2.1,x.2.2.2.2.2.2.1,x.2.2.2.2.2.2.2.1,x.2.2.2.2.2.2.2.2.1,x.2.2.2.2.2.2.2.2.2.1,x.2.2.2.2.2.2.2.2.2.2.1,x.2.2.2.2.2.2.2.2.2.2.2.1,x.2.2.2.2.2.2.2.2.2.2.2.2.1,x.2.2.2.2.2.2.2.2.2.2.2.2.2.1⟩) (fun _=>rfl) fun _ h=>⟨h.1,h.2.1,h.2.2.1,h.2.2.2.1,h.2.2.2.2.1,h.2.2.2.2.2.1,h.2.2.2.2.2.2.1,h.2.2.2.2.2.2.2.1,h.2.2.2.2.2.2.2.2.1,h.2.2.2.2.2.2.2.2.2.1,h.2.2.2.2.2.2.2.2.2.2.1,h.2.2.2.2.2.2.2.2.2.2.2.1,h.2.2.2.2.2.2.2.2.2.2.2.2.1,h.2.2.2.2.2.2.2.2.2.2.2.2.2.1⟩
theorem own:ownKnob Tryz.prog.godebug=none:=by kernel_rfl
theorem laidOut:laidOutB Tryz.prog=true:=by kernel_rfl
theorem vF (x:Aj×Unit) (h:U8 x.1∧True):Ad Tryz.prog 3 [.agg (B5 x.1)] (·= .bool true):=Rf x.1 (Re x.1 h.1)
set_option maxRecDepth 100000 in
theorem lifted (os:Os) (started:os.Started) (H:Type) (enc:TypeId×Value→H) :
    ReturnsInHanded {} Tryz.checked os 3 .any (Rows.interlockChecksSpec.pre6 enc Tryz.prog Tryz.f3 Rows.interlockChecksRow.domain false) (Rows.interlockChecksSpec.post enc Tryz.prog Tryz.f3 false true false false):=by
  refine sN (C:=Tryz.checked) (tb:=4) own started (by kernel_rfl) Tryz.func3 (ChangeSpec.witness6 (enc:=enc) (C:=Tryz.checked) false ⟨#[],#[.agg #[.slice none 0 0,.slice none 0 0,.slice none 0 0,.slice none 0 0,.slice none 0 0,.slice none 0 0,.slice none 0 0,.slice none 0 0,.slice none 0 0,.slice none 0 0,.slice none 0 0,.slice none 0 0,.slice none 0 0,.slice none 0 0,.slice none 0 0,.slice none 0 0,.int .i64 0,.int .i64 0]],[]⟩ 8 (by kernel_rfl) (by kernel_rfl) (by kernel_rfl) (by kernel_rfl))
    rfl rfl Tryz.underlying4 laidOut (by kernel_rfl) (fun ds h=>?_) (fun W b0 args ds ps hv hd=>?_)
  ·match ds,h with
   | [d1],_=>exact ⟨rfl,rfl,rfl⟩
  ·exact iF vF (.cons (Mn.struct Tryz.underlying43 Abz) .nil) hv hd
theorem zA {a b:Bool} (h:a=true) (k:b=true):(a&&b)=true:=by rw[h,k];rfl
set_option maxHeartbeats 4000000 in
theorem closed:joinedFacts Tryz.prog 3 Tryz.f3 Rows.interlockChecksSpec Rows.interlockChecksRow=true:=by
  unfold joinedFacts
  repeat' with_reducible refine zA ?_ ?_
  all_goals (as_aux_lemma=>kernel_rfl)
theorem InterlockChecks_holds:Rows.InterlockChecksSaid:=
  OpenClaim.holds_of_wide 3 Tryz.f3 rfl rfl rfl rfl rfl rfl rfl ⟨rfl,rfl,rfl,rfl,rfl⟩ rfl rfl rfl rfl rfl (by kernel_rfl) Tryz.func3 closed
    (Aia (by kernel_rfl)) (by unfold Func.isWrapper;first | (rw[if_pos (by decide +kernel)];kernel_rfl) | (rw[if_neg (by decide +kernel)];exact⟨rfl,rfl⟩))
    (fun os started H enc _=>lifted os started H enc)
end Go.Proofs.YtjopghiagoidgaaGreat
