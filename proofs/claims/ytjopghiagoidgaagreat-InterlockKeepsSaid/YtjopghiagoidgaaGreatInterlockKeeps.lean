/-
  InterlockKeeps: for every input the law returns true, and each argument reads behind the call as it read before. No condition.
-/
import Derived.Test.YtjopghiagoidgaaGreatA6
import Derived.Test.YtjopghiagoidgaaGreatRows
import Derived.ProofKit
namespace Go.Proofs.YtjopghiagoidgaaGreat
open Go Go.Ab Go.RowKit
theorem op3:B7 Tryz.prog 3 (fun n:Int=>[.int .i64 n]) I64:=(B7.int Tryz.underlying3).iso id (fun _=>rfl) fun _ h=>wf_i64 h
theorem Abf:B7 Tryz.prog 114 A9 eH:=
  (B7.struct (tot:=2) Tryz.underlying114 (by kernel_rfl) (.cons (sz:=1) rfl (by kernel_rfl) op3 (.cons (sz:=1) rfl (by kernel_rfl) op3 .nil))).iso (fun x=>⟨x.1,x.2.1⟩) (fun _=>rfl) fun _ h=>⟨h.1,h.2.1⟩
theorem Adx:B7 Tryz.prog 22 (fun l:List Cl=>[.sl 2 (l.map A9)]) (OkL eH):=
  B7.slice (sz:=2) Tryz.underlying22 (by kernel_rfl) (by decide) (fun _=>rfl) (fun a c h=>by simp[A9]at h;rcases h with rfl | rfl<;>rfl) Abf
theorem Ac8:B7 Tryz.prog 80 A6 eI:=
  (B7.struct (tot:=8) Tryz.underlying80 (by kernel_rfl) (.cons (sz:=1) rfl (by kernel_rfl) op3 (.cons (sz:=1) rfl (by kernel_rfl) op3 (.cons (sz:=1) rfl (by kernel_rfl) op3 (.cons (sz:=1) rfl (by kernel_rfl) op3 (.cons (sz:=1) rfl (by kernel_rfl) op3 (.cons (sz:=1) rfl (by kernel_rfl) op3 (.cons (sz:=1) rfl (by kernel_rfl) op3 (.cons (sz:=1) rfl (by kernel_rfl) op3 .nil))))))))).iso (fun x=>⟨x.1,x.2.1,x.2.2.1,x.2.2.2.1,x.2.2.2.2.1,x.2.2.2.2.2.1,x.2.2.2.2.2.2.1,x.2.2.2.2.2.2.2.1⟩) (fun _=>rfl) fun _ h=>⟨h.1,h.2.1,h.2.2.1,h.2.2.2.1,h.2.2.2.2.1,h.2.2.2.2.2.1,h.2.2.2.2.2.2.1,h.2.2.2.2.2.2.2.1⟩
theorem Adw:B7 Tryz.prog 23 (fun l:List Ce=>[.sl 8 (l.map A6)]) (OkL eI):=
  B7.slice (sz:=8) Tryz.underlying23 (by kernel_rfl) (by decide) (fun _=>rfl) (fun a c h=>by simp[A6]at h;rcases h with rfl | rfl | rfl | rfl | rfl | rfl | rfl | rfl<;>rfl) Ac8
theorem Adf:B7 Tryz.prog 62 Bd jQ:=
  (B7.struct (tot:=7) Tryz.underlying62 (by kernel_rfl) (.cons (sz:=1) rfl (by kernel_rfl) op3 (.cons (sz:=1) rfl (by kernel_rfl) op3 (.cons (sz:=1) rfl (by kernel_rfl) op3 (.cons (sz:=1) rfl (by kernel_rfl) op3 (.cons (sz:=1) rfl (by kernel_rfl) op3 (.cons (sz:=1) rfl (by kernel_rfl) op3 (.cons (sz:=1) rfl (by kernel_rfl) op3 .nil)))))))).iso (fun x=>⟨x.1,x.2.1,x.2.2.1,x.2.2.2.1,x.2.2.2.2.1,x.2.2.2.2.2.1,x.2.2.2.2.2.2.1⟩) (fun _=>rfl) fun _ h=>⟨h.1,h.2.1,h.2.2.1,h.2.2.2.1,h.2.2.2.2.1,h.2.2.2.2.2.1,h.2.2.2.2.2.2.1⟩
theorem Adv:B7 Tryz.prog 24 (fun l:List Cf=>[.sl 7 (l.map Bd)]) (OkL jQ):=
  B7.slice (sz:=7) Tryz.underlying24 (by kernel_rfl) (by decide) (fun _=>rfl) (fun a c h=>by simp[Bd]at h;rcases h with rfl | rfl | rfl | rfl | rfl | rfl | rfl<;>rfl) Adf
theorem q9:B7 Tryz.prog 25 (fun l:List Int=>[.sl 1 (l.map Av)]) (OkL I64):=
  B7.slice (sz:=1) Tryz.underlying25 (by kernel_rfl) (by decide) (fun _=>rfl) (fun a c h=>by have:=List.mem_singleton.1 h;subst this;rfl) op3
theorem Adu:B7 Tryz.prog 27 Ca qC:=
  (B7.struct (tot:=4) Tryz.underlying27 (by kernel_rfl) (.cons (sz:=1) rfl (by kernel_rfl) Adx (.cons (sz:=1) rfl (by kernel_rfl) Adw (.cons (sz:=1) rfl (by kernel_rfl) Adv (.cons (sz:=1) rfl (by kernel_rfl) q9 .nil))))).iso (fun x=>⟨x.1,x.2.1,x.2.2.1,x.2.2.2.1⟩) (fun _=>rfl) fun _ h=>⟨h.1,h.2.1,h.2.2.1,h.2.2.2.1⟩
theorem Ac9:B7 Tryz.prog 78 Ay Uf:=
  (B7.struct (tot:=2) Tryz.underlying78 (by kernel_rfl) (.cons (sz:=1) rfl (by kernel_rfl) op3 (.cons (sz:=1) rfl (by kernel_rfl) op3 .nil))).iso (fun x=>⟨x.1,x.2.1⟩) (fun _=>rfl) fun _ h=>⟨h.1,h.2.1⟩
theorem Adt:B7 Tryz.prog 28 (fun l:List Cr=>[.sl 2 (l.map Ay)]) (OkL Uf):=
  B7.slice (sz:=2) Tryz.underlying28 (by kernel_rfl) (by decide) (fun _=>rfl) (fun a c h=>by simp[Ay]at h;rcases h with rfl | rfl<;>rfl) Ac9
theorem Adc:B7 Tryz.prog 72 Aq V5:=
  (B7.struct (tot:=4) Tryz.underlying72 (by kernel_rfl) (.cons (sz:=1) rfl (by kernel_rfl) op3 (.cons (sz:=1) rfl (by kernel_rfl) op3 (.cons (sz:=1) rfl (by kernel_rfl) op3 (.cons (sz:=1) rfl (by kernel_rfl) op3 .nil))))).iso (fun x=>⟨x.1,x.2.1,x.2.2.1,x.2.2.2.1⟩) (fun _=>rfl) fun _ h=>⟨h.1,h.2.1,h.2.2.1,h.2.2.2.1⟩
theorem Ads:B7 Tryz.prog 29 (fun l:List Bn=>[.sl 4 (l.map Aq)]) (OkL V5):=
  B7.slice (sz:=4) Tryz.underlying29 (by kernel_rfl) (by decide) (fun _=>rfl) (fun a c h=>by simp[Aq]at h;rcases h with rfl | rfl | rfl | rfl<;>rfl) Adc
theorem Aba:B7 Tryz.prog 157 B8 eG:=
  (B7.struct (tot:=3) Tryz.underlying157 (by kernel_rfl) (.cons (sz:=1) rfl (by kernel_rfl) op3 (.cons (sz:=1) rfl (by kernel_rfl) op3 (.cons (sz:=1) rfl (by kernel_rfl) op3 .nil)))).iso (fun x=>⟨x.1,x.2.1,x.2.2.1⟩) (fun _=>rfl) fun _ h=>⟨h.1,h.2.1,h.2.2.1⟩
theorem Abe:B7 Tryz.prog 115 (fun l:List Fj=>[.sl 3 (l.map B8)]) (OkL eG):=
  B7.slice (sz:=3) Tryz.underlying115 (by kernel_rfl) (by decide) (fun _=>rfl) (fun a c h=>by simp[B8]at h;rcases h with rfl | rfl | rfl<;>rfl) Aba
theorem Abd:B7 Tryz.prog 117 Dh X5:=
  (B7.struct (tot:=3) Tryz.underlying117 (by kernel_rfl) (.cons (sz:=1) rfl (by kernel_rfl) q9 (.cons (sz:=1) rfl (by kernel_rfl) op3 (.cons (sz:=1) rfl (by kernel_rfl) Abe .nil)))).iso (fun x=>⟨x.1,x.2.1,x.2.2.1⟩) (fun _=>rfl) fun _ h=>⟨h.1,h.2.1,h.2.2.1⟩
theorem Abc:B7 Tryz.prog 119 Ax V2:=
  (B7.struct (tot:=4) Tryz.underlying119 (by kernel_rfl) (.cons (sz:=1) rfl (by kernel_rfl) op3 (.cons (sz:=3) rfl (by kernel_rfl) Abd .nil))).iso (fun x=>⟨x.1,x.2.1⟩) (fun _=>rfl) fun _ h=>⟨h.1,h.2.1⟩
theorem Adr:B7 Tryz.prog 30 (fun l:List Ck=>[.sl 4 (l.map Ax)]) (OkL V2):=
  B7.slice (sz:=4) Tryz.underlying30 (by kernel_rfl) (by decide) (fun _=>rfl) (fun a c h=>by simp[Ax]at h;rcases h with rfl | rfl | rfl | rfl<;>rfl) Abc
theorem Adb:B7 Tryz.prog 74 A3 X4:=
  (B7.struct (tot:=3) Tryz.underlying74 (by kernel_rfl) (.cons (sz:=1) rfl (by kernel_rfl) op3 (.cons (sz:=1) rfl (by kernel_rfl) op3 (.cons (sz:=1) rfl (by kernel_rfl) op3 .nil)))).iso (fun x=>⟨x.1,x.2.1,x.2.2.1⟩) (fun _=>rfl) fun _ h=>⟨h.1,h.2.1,h.2.2.1⟩
theorem Adq:B7 Tryz.prog 31 (fun l:List Cv=>[.sl 3 (l.map A3)]) (OkL X4):=
  B7.slice (sz:=3) Tryz.underlying31 (by kernel_rfl) (by decide) (fun _=>rfl) (fun a c h=>by simp[A3]at h;rcases h with rfl | rfl | rfl<;>rfl) Adb
theorem Adp:B7 Tryz.prog 33 Gs fE:=
  (B7.struct (tot:=2) Tryz.underlying33 (by kernel_rfl) (.cons (sz:=1) rfl (by kernel_rfl) Adr (.cons (sz:=1) rfl (by kernel_rfl) Adq .nil))).iso (fun x=>⟨x.1,x.2.1⟩) (fun _=>rfl) fun _ h=>⟨h.1,h.2.1⟩
theorem Aa9:B7 Tryz.prog 162 A8 V0:=
  (B7.struct (tot:=3) Tryz.underlying162 (by kernel_rfl) (.cons (sz:=1) rfl (by kernel_rfl) op3 (.cons (sz:=1) rfl (by kernel_rfl) op3 (.cons (sz:=1) rfl (by kernel_rfl) op3 .nil)))).iso (fun x=>⟨x.1,x.2.1,x.2.2.1⟩) (fun _=>rfl) fun _ h=>⟨h.1,h.2.1,h.2.2.1⟩
theorem Ado:B7 Tryz.prog 34 (fun l:List Cx=>[.sl 3 (l.map A8)]) (OkL V0):=
  B7.slice (sz:=3) Tryz.underlying34 (by kernel_rfl) (by decide) (fun _=>rfl) (fun a c h=>by simp[A8]at h;rcases h with rfl | rfl | rfl<;>rfl) Aa9
theorem Ac7:B7 Tryz.prog 84 Nu lT:=
  (B7.struct (tot:=3) Tryz.underlying84 (by kernel_rfl) (.cons (sz:=1) rfl (by kernel_rfl) op3 (.cons (sz:=1) rfl (by kernel_rfl) op3 (.cons (sz:=1) rfl (by kernel_rfl) op3 .nil)))).iso (fun x=>⟨x.1,x.2.1,x.2.2.1⟩) (fun _=>rfl) fun _ h=>⟨h.1,h.2.1,h.2.2.1⟩
theorem Ac6:B7 Tryz.prog 86 A4 V1:=
  (B7.struct (tot:=5) Tryz.underlying86 (by kernel_rfl) (.cons (sz:=1) rfl (by kernel_rfl) op3 (.cons (sz:=1) rfl (by kernel_rfl) op3 (.cons (sz:=3) rfl (by kernel_rfl) Ac7 .nil)))).iso (fun x=>⟨x.1,x.2.1,x.2.2.1⟩) (fun _=>rfl) fun _ h=>⟨h.1,h.2.1,h.2.2.1⟩
theorem Adn:B7 Tryz.prog 35 (fun l:List C4=>[.sl 5 (l.map A4)]) (OkL V1):=
  B7.slice (sz:=5) Tryz.underlying35 (by kernel_rfl) (by decide) (fun _=>rfl) (fun a c h=>by simp[A4]at h;rcases h with rfl | rfl | rfl | rfl | rfl<;>rfl) Ac6
theorem Ada:B7 Tryz.prog 76 A5 aB:=
  (B7.struct (tot:=6) Tryz.underlying76 (by kernel_rfl) (.cons (sz:=1) rfl (by kernel_rfl) op3 (.cons (sz:=1) rfl (by kernel_rfl) q9 (.cons (sz:=1) rfl (by kernel_rfl) q9 (.cons (sz:=1) rfl (by kernel_rfl) op3 (.cons (sz:=1) rfl (by kernel_rfl) op3 (.cons (sz:=1) rfl (by kernel_rfl) op3 .nil))))))).iso (fun x=>⟨x.1,x.2.1,x.2.2.1,x.2.2.2.1,x.2.2.2.2.1,x.2.2.2.2.2.1⟩) (fun _=>rfl) fun _ h=>⟨h.1,h.2.1,h.2.2.1,h.2.2.2.1,h.2.2.2.2.1,h.2.2.2.2.2.1⟩
theorem Adm:B7 Tryz.prog 36 (fun l:List Bf=>[.sl 6 (l.map A5)]) (OkL aB):=
  B7.slice (sz:=6) Tryz.underlying36 (by kernel_rfl) (by decide) (fun _=>rfl) (fun a c h=>by simp[A5]at h;rcases h with rfl | rfl | rfl | rfl | rfl | rfl<;>rfl) Ada
theorem zU:B7 Tryz.prog 137 Sr Ug:=
  (B7.struct (tot:=2) Tryz.underlying137 (by kernel_rfl) (.cons (sz:=1) rfl (by kernel_rfl) op3 (.cons (sz:=1) rfl (by kernel_rfl) op3 .nil))).iso (fun x=>⟨x.1,x.2.1⟩) (fun _=>rfl) fun _ h=>⟨h.1,h.2.1⟩
theorem Abb:B7 Tryz.prog 139 Ar Uh:=
  (B7.struct (tot:=7) Tryz.underlying139 (by kernel_rfl) (.cons (sz:=1) rfl (by kernel_rfl) op3 (.cons (sz:=2) rfl (by kernel_rfl) zU (.cons (sz:=1) rfl (by kernel_rfl) op3 (.cons (sz:=1) rfl (by kernel_rfl) op3 (.cons (sz:=1) rfl (by kernel_rfl) q9 (.cons (sz:=1) rfl (by kernel_rfl) op3 .nil))))))).iso (fun x=>⟨x.1,x.2.1,x.2.2.1,x.2.2.2.1,x.2.2.2.2.1,x.2.2.2.2.2.1⟩) (fun _=>rfl) fun _ h=>⟨h.1,h.2.1,h.2.2.1,h.2.2.2.1,h.2.2.2.2.1,h.2.2.2.2.2.1⟩
theorem Adl:B7 Tryz.prog 37 (fun l:List Bp=>[.sl 7 (l.map Ar)]) (OkL Uh):=
  B7.slice (sz:=7) Tryz.underlying37 (by kernel_rfl) (by decide) (fun _=>rfl) (fun a c h=>by simp[Ar]at h;rcases h with rfl | rfl | rfl | rfl | rfl | rfl | rfl<;>rfl) Abb
theorem Aa8:B7 Tryz.prog 170 Ap V3:=
  (B7.struct (tot:=7) Tryz.underlying170 (by kernel_rfl) (.cons (sz:=1) rfl (by kernel_rfl) op3 (.cons (sz:=1) rfl (by kernel_rfl) op3 (.cons (sz:=1) rfl (by kernel_rfl) op3 (.cons (sz:=1) rfl (by kernel_rfl) op3 (.cons (sz:=1) rfl (by kernel_rfl) op3 (.cons (sz:=2) rfl (by kernel_rfl) zU .nil))))))).iso (fun x=>⟨x.1,x.2.1,x.2.2.1,x.2.2.2.1,x.2.2.2.2.1,x.2.2.2.2.2.1⟩) (fun _=>rfl) fun _ h=>⟨h.1,h.2.1,h.2.2.1,h.2.2.2.1,h.2.2.2.2.1,h.2.2.2.2.2.1⟩
theorem Adk:B7 Tryz.prog 38 (fun l:List Bi=>[.sl 7 (l.map Ap)]) (OkL V3):=
  B7.slice (sz:=7) Tryz.underlying38 (by kernel_rfl) (by decide) (fun _=>rfl) (fun a c h=>by simp[Ap]at h;rcases h with rfl | rfl | rfl | rfl | rfl | rfl | rfl<;>rfl) Aa8
theorem Aa7:B7 Tryz.prog 173 Ao Sy:=
  (B7.struct (tot:=4) Tryz.underlying173 (by kernel_rfl) (.cons (sz:=1) rfl (by kernel_rfl) op3 (.cons (sz:=1) rfl (by kernel_rfl) op3 (.cons (sz:=1) rfl (by kernel_rfl) op3 (.cons (sz:=1) rfl (by kernel_rfl) q9 .nil))))).iso (fun x=>⟨x.1,x.2.1,x.2.2.1,x.2.2.2.1⟩) (fun _=>rfl) fun _ h=>⟨h.1,h.2.1,h.2.2.1,h.2.2.2.1⟩
theorem Adj:B7 Tryz.prog 39 (fun l:List Ba=>[.sl 4 (l.map Ao)]) (OkL Sy):=
  B7.slice (sz:=4) Tryz.underlying39 (by kernel_rfl) (by decide) (fun _=>rfl) (fun a c h=>by simp[Ao]at h;rcases h with rfl | rfl | rfl | rfl<;>rfl) Aa7
theorem op4:B7 Tryz.prog 4 (fun b:Bool=>[.bool b]) (fun _=>True):=B7.bool Tryz.underlying4
theorem Aa6:B7 Tryz.prog 177 A1 V4:=
  (B7.struct (tot:=8) Tryz.underlying177 (by kernel_rfl) (.cons (sz:=1) rfl (by kernel_rfl) op3 (.cons (sz:=1) rfl (by kernel_rfl) op3 (.cons (sz:=1) rfl (by kernel_rfl) op3 (.cons (sz:=1) rfl (by kernel_rfl) op3 (.cons (sz:=1) rfl (by kernel_rfl) op3 (.cons (sz:=1) rfl (by kernel_rfl) op3 (.cons (sz:=1) rfl (by kernel_rfl) op3 (.cons (sz:=1) rfl (by kernel_rfl) op4 .nil))))))))).iso (fun x=>⟨x.1,x.2.1,x.2.2.1,x.2.2.2.1,x.2.2.2.2.1,x.2.2.2.2.2.1,x.2.2.2.2.2.2.1,x.2.2.2.2.2.2.2.1⟩) (fun _=>rfl) fun _ h=>⟨h.1,h.2.1,h.2.2.1,h.2.2.2.1,h.2.2.2.2.1,h.2.2.2.2.2.1,h.2.2.2.2.2.2.1,h.2.2.2.2.2.2.2.1⟩
theorem Adi:B7 Tryz.prog 40 (fun l:List B6=>[.sl 8 (l.map A1)]) (OkL V4):=
  B7.slice (sz:=8) Tryz.underlying40 (by kernel_rfl) (by decide) (fun _=>rfl) (fun a c h=>by simp[A1]at h;rcases h with rfl | rfl | rfl | rfl | rfl | rfl | rfl | rfl<;>rfl) Aa6
theorem Ade:B7 Tryz.prog 70 A7 X3:=
  (B7.struct (tot:=3) Tryz.underlying70 (by kernel_rfl) (.cons (sz:=1) rfl (by kernel_rfl) op3 (.cons (sz:=1) rfl (by kernel_rfl) op4 (.cons (sz:=1) rfl (by kernel_rfl) op3 .nil)))).iso (fun x=>⟨x.1,x.2.1,x.2.2.1⟩) (fun _=>rfl) fun _ h=>⟨h.1,h.2.1,h.2.2.1⟩
theorem Adh:B7 Tryz.prog 41 (fun l:List Bo=>[.sl 3 (l.map A7)]) (OkL X3):=
  B7.slice (sz:=3) Tryz.underlying41 (by kernel_rfl) (by decide) (fun _=>rfl) (fun a c h=>by simp[A7]at h;rcases h with rfl | rfl | rfl<;>rfl) Ade
theorem Adg:B7 Tryz.prog 43 Bw Sz:=
  (B7.struct (tot:=18) Tryz.underlying43 (by kernel_rfl) (.cons (sz:=4) rfl (by kernel_rfl) Adu (.cons (sz:=1) rfl (by kernel_rfl) Adt (.cons (sz:=1) rfl (by kernel_rfl) Ads (.cons (sz:=2) rfl (by kernel_rfl) Adp (.cons (sz:=1) rfl (by kernel_rfl) Ado (.cons (sz:=1) rfl (by kernel_rfl) Adn (.cons (sz:=1) rfl (by kernel_rfl) Adm (.cons (sz:=1) rfl (by kernel_rfl) Adl (.cons (sz:=1) rfl (by kernel_rfl) Adk (.cons (sz:=1) rfl (by kernel_rfl) Adj (.cons (sz:=1) rfl (by kernel_rfl) Adi (.cons (sz:=1) rfl (by kernel_rfl) Adh (.cons (sz:=1) rfl (by kernel_rfl) op3 (.cons (sz:=1) rfl (by kernel_rfl) op3 .nil))))))))))))))).iso (fun x=>⟨x.1,x.2.1,x.2.2.1,x.2.2.2.1,x.2.2.2.2.1,x.2.2.2.2.2.1,x.2.2.2.2.2.2.1,x.2.2.2.2.2.2.2.1,x.2.2.2.2.2.2.2.2.1,x.2.2.2.2.2.2.2.2.2.1,x.2.2.2.2.2.2.2.2.2.2.1,x.2.2.2.2.2.2.2.2.2.2.2.1,x.2.2.2.2.2.2.2.2.2.2.2.2.1,x.2.2.2.2.2.2.2.2.2.2.2.2.2.1⟩) (fun _=>rfl) fun _ h=>⟨h.1,h.2.1,h.2.2.1,h.2.2.2.1,h.2.2.2.2.1,h.2.2.2.2.2.1,h.2.2.2.2.2.2.1,h.2.2.2.2.2.2.2.1,h.2.2.2.2.2.2.2.2.1,h.2.2.2.2.2.2.2.2.2.1,h.2.2.2.2.2.2.2.2.2.2.1,h.2.2.2.2.2.2.2.2.2.2.2.1,h.2.2.2.2.2.2.2.2.2.2.2.2.1,h.2.2.2.2.2.2.2.2.2.2.2.2.2.1⟩
theorem own:ownKnob Tryz.prog.godebug=none:=by kernel_rfl
theorem laidOut:laidOutB Tryz.prog=true:=by kernel_rfl
theorem w4 (x:Ak×(List Int)×Unit) (h:Sz x.1∧OkL I64 x.2.1∧True):Ad Tryz.prog 6 [.agg (Bw x.1),.sl 1 (x.2.1.map Av)] (·= .bool true):=S2 x.1 x.2.1 (S1 x.1 x.2.1 h.1 h.2.1)
set_option maxRecDepth 100000 in
theorem lifted (os:Os) (started:os.Started) (H:Type) (enc:TypeId×Value→H) :
    ReturnsInHanded {} Tryz.checked os 6 .any (Rows.interlockKeepsSpec.pre6 enc Tryz.prog Tryz.f6 Rows.interlockKeepsRow.domain false) (Rows.interlockKeepsSpec.post enc Tryz.prog Tryz.f6 false true false false):=by
  refine uN (C:=Tryz.checked) (tb:=4) own started (by kernel_rfl) Tryz.func6 (ChangeSpec.witness6 (enc:=enc) (C:=Tryz.checked) false ⟨#[],#[.agg #[.slice none 0 0,.slice none 0 0,.slice none 0 0,.slice none 0 0,.slice none 0 0,.slice none 0 0,.slice none 0 0,.slice none 0 0,.slice none 0 0,.slice none 0 0,.slice none 0 0,.slice none 0 0,.slice none 0 0,.slice none 0 0,.slice none 0 0,.slice none 0 0,.int .i64 0,.int .i64 0],.slice none 0 0],[]⟩ 8 (by kernel_rfl) (by kernel_rfl) (by kernel_rfl) (by kernel_rfl))
    rfl rfl Tryz.underlying4 laidOut (by kernel_rfl) (fun ds h=>?_) (fun W b0 args ds ps hv hd=>?_)
  ·match ds,h with
   | [d1,d2],_=>exact ⟨rfl,rfl,rfl⟩
  ·exact j6 w4 (.cons (Mg.struct Tryz.underlying43 Adg) (.cons (Mg.slice Tryz.underlying25 q9) .nil)) hv hd
theorem Aau {a b:Bool} (h:a=true) (k:b=true):(a&&b)=true:=by rw[h,k];rfl
set_option maxHeartbeats 4000000 in
theorem closed:joinedFacts Tryz.prog 6 Tryz.f6 Rows.interlockKeepsSpec Rows.interlockKeepsRow=true:=by
  unfold joinedFacts
  repeat' with_reducible refine Aau ?_ ?_
  all_goals (as_aux_lemma=>kernel_rfl)
theorem InterlockKeeps_holds:Rows.InterlockKeepsSaid:=
  OpenClaim.holds_of_wide 6 Tryz.f6 rfl rfl rfl rfl rfl rfl rfl ⟨rfl,rfl,rfl,rfl,rfl⟩ rfl rfl rfl rfl rfl (by kernel_rfl) Tryz.func6 closed
    (Ajn (by kernel_rfl)) (by unfold Func.isWrapper;first | (rw[if_pos (by decide +kernel)];kernel_rfl) | (rw[if_neg (by decide +kernel)];exact⟨rfl,rfl⟩))
    (fun os started H enc _=>lifted os started H enc)
end Go.Proofs.YtjopghiagoidgaaGreat
