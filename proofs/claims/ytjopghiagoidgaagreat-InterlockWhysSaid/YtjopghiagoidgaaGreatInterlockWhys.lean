/-
  InterlockWhys: for every input the law returns true, and each argument reads behind the call as it read before. No condition.
-/
import Derived.Test.YtjopghiagoidgaaGreatA6
import Derived.Test.YtjopghiagoidgaaGreatRows
import Derived.ProofKit
namespace Go.Proofs.YtjopghiagoidgaaGreat
open Go Go.Ab Go.RowKit
theorem op3:B7 Tryz.prog 3 (fun n:Int=>[.int .i64 n]) I64:=(B7.int Tryz.underlying3).iso id (fun _=>rfl) fun _ h=>wf_i64 h
theorem Abh:B7 Tryz.prog 114 A9 eL:=
  (B7.struct (tot:=2) Tryz.underlying114 (by kernel_rfl) (.cons (sz:=1) rfl (by kernel_rfl) op3 (.cons (sz:=1) rfl (by kernel_rfl) op3 .nil))).iso (fun x=>⟨x.1,x.2.1⟩) (fun _=>rfl) fun _ h=>⟨h.1,h.2.1⟩
theorem Adz:B7 Tryz.prog 22 (fun l:List Cl=>[.sl 2 (l.map A9)]) (OkL eL):=
  B7.slice (sz:=2) Tryz.underlying22 (by kernel_rfl) (by decide) (fun _=>rfl) (fun a c h=>by simp[A9]at h;rcases h with rfl | rfl<;>rfl) Abh
theorem Ada:B7 Tryz.prog 80 A7 eM:=
  (B7.struct (tot:=8) Tryz.underlying80 (by kernel_rfl) (.cons (sz:=1) rfl (by kernel_rfl) op3 (.cons (sz:=1) rfl (by kernel_rfl) op3 (.cons (sz:=1) rfl (by kernel_rfl) op3 (.cons (sz:=1) rfl (by kernel_rfl) op3 (.cons (sz:=1) rfl (by kernel_rfl) op3 (.cons (sz:=1) rfl (by kernel_rfl) op3 (.cons (sz:=1) rfl (by kernel_rfl) op3 (.cons (sz:=1) rfl (by kernel_rfl) op3 .nil))))))))).iso (fun x=>⟨x.1,x.2.1,x.2.2.1,x.2.2.2.1,x.2.2.2.2.1,x.2.2.2.2.2.1,x.2.2.2.2.2.2.1,x.2.2.2.2.2.2.2.1⟩) (fun _=>rfl) fun _ h=>⟨h.1,h.2.1,h.2.2.1,h.2.2.2.1,h.2.2.2.2.1,h.2.2.2.2.2.1,h.2.2.2.2.2.2.1,h.2.2.2.2.2.2.2.1⟩
theorem Ady:B7 Tryz.prog 23 (fun l:List Ce=>[.sl 8 (l.map A7)]) (OkL eM):=
  B7.slice (sz:=8) Tryz.underlying23 (by kernel_rfl) (by decide) (fun _=>rfl) (fun a c h=>by simp[A7]at h;rcases h with rfl | rfl | rfl | rfl | rfl | rfl | rfl | rfl<;>rfl) Ada
theorem Adh:B7 Tryz.prog 62 Be jR:=
  (B7.struct (tot:=7) Tryz.underlying62 (by kernel_rfl) (.cons (sz:=1) rfl (by kernel_rfl) op3 (.cons (sz:=1) rfl (by kernel_rfl) op3 (.cons (sz:=1) rfl (by kernel_rfl) op3 (.cons (sz:=1) rfl (by kernel_rfl) op3 (.cons (sz:=1) rfl (by kernel_rfl) op3 (.cons (sz:=1) rfl (by kernel_rfl) op3 (.cons (sz:=1) rfl (by kernel_rfl) op3 .nil)))))))).iso (fun x=>⟨x.1,x.2.1,x.2.2.1,x.2.2.2.1,x.2.2.2.2.1,x.2.2.2.2.2.1,x.2.2.2.2.2.2.1⟩) (fun _=>rfl) fun _ h=>⟨h.1,h.2.1,h.2.2.1,h.2.2.2.1,h.2.2.2.2.1,h.2.2.2.2.2.1,h.2.2.2.2.2.2.1⟩
theorem Adx:B7 Tryz.prog 24 (fun l:List Cf=>[.sl 7 (l.map Be)]) (OkL jR):=
  B7.slice (sz:=7) Tryz.underlying24 (by kernel_rfl) (by decide) (fun _=>rfl) (fun a c h=>by simp[Be]at h;rcases h with rfl | rfl | rfl | rfl | rfl | rfl | rfl<;>rfl) Adh
theorem rD:B7 Tryz.prog 25 (fun l:List Int=>[.sl 1 (l.map Aw)]) (OkL I64):=
  B7.slice (sz:=1) Tryz.underlying25 (by kernel_rfl) (by decide) (fun _=>rfl) (fun a c h=>by have:=List.mem_singleton.1 h;subst this;rfl) op3
theorem Adw:B7 Tryz.prog 27 Ca qF:=
  (B7.struct (tot:=4) Tryz.underlying27 (by kernel_rfl) (.cons (sz:=1) rfl (by kernel_rfl) Adz (.cons (sz:=1) rfl (by kernel_rfl) Ady (.cons (sz:=1) rfl (by kernel_rfl) Adx (.cons (sz:=1) rfl (by kernel_rfl) rD .nil))))).iso (fun x=>⟨x.1,x.2.1,x.2.2.1,x.2.2.2.1⟩) (fun _=>rfl) fun _ h=>⟨h.1,h.2.1,h.2.2.1,h.2.2.2.1⟩
theorem Adb:B7 Tryz.prog 78 Az Uj:=
  (B7.struct (tot:=2) Tryz.underlying78 (by kernel_rfl) (.cons (sz:=1) rfl (by kernel_rfl) op3 (.cons (sz:=1) rfl (by kernel_rfl) op3 .nil))).iso (fun x=>⟨x.1,x.2.1⟩) (fun _=>rfl) fun _ h=>⟨h.1,h.2.1⟩
theorem Adv:B7 Tryz.prog 28 (fun l:List Cr=>[.sl 2 (l.map Az)]) (OkL Uj):=
  B7.slice (sz:=2) Tryz.underlying28 (by kernel_rfl) (by decide) (fun _=>rfl) (fun a c h=>by simp[Az]at h;rcases h with rfl | rfl<;>rfl) Adb
theorem Adf:B7 Tryz.prog 72 Aq V9:=
  (B7.struct (tot:=4) Tryz.underlying72 (by kernel_rfl) (.cons (sz:=1) rfl (by kernel_rfl) op3 (.cons (sz:=1) rfl (by kernel_rfl) op3 (.cons (sz:=1) rfl (by kernel_rfl) op3 (.cons (sz:=1) rfl (by kernel_rfl) op3 .nil))))).iso (fun x=>⟨x.1,x.2.1,x.2.2.1,x.2.2.2.1⟩) (fun _=>rfl) fun _ h=>⟨h.1,h.2.1,h.2.2.1,h.2.2.2.1⟩
theorem Adu:B7 Tryz.prog 29 (fun l:List Bn=>[.sl 4 (l.map Aq)]) (OkL V9):=
  B7.slice (sz:=4) Tryz.underlying29 (by kernel_rfl) (by decide) (fun _=>rfl) (fun a c h=>by simp[Aq]at h;rcases h with rfl | rfl | rfl | rfl<;>rfl) Adf
theorem Abc:B7 Tryz.prog 157 B8 eK:=
  (B7.struct (tot:=3) Tryz.underlying157 (by kernel_rfl) (.cons (sz:=1) rfl (by kernel_rfl) op3 (.cons (sz:=1) rfl (by kernel_rfl) op3 (.cons (sz:=1) rfl (by kernel_rfl) op3 .nil)))).iso (fun x=>⟨x.1,x.2.1,x.2.2.1⟩) (fun _=>rfl) fun _ h=>⟨h.1,h.2.1,h.2.2.1⟩
theorem Abg:B7 Tryz.prog 115 (fun l:List Fk=>[.sl 3 (l.map B8)]) (OkL eK):=
  B7.slice (sz:=3) Tryz.underlying115 (by kernel_rfl) (by decide) (fun _=>rfl) (fun a c h=>by simp[B8]at h;rcases h with rfl | rfl | rfl<;>rfl) Abc
theorem Abf:B7 Tryz.prog 117 Dj Ya:=
  (B7.struct (tot:=3) Tryz.underlying117 (by kernel_rfl) (.cons (sz:=1) rfl (by kernel_rfl) rD (.cons (sz:=1) rfl (by kernel_rfl) op3 (.cons (sz:=1) rfl (by kernel_rfl) Abg .nil)))).iso (fun x=>⟨x.1,x.2.1,x.2.2.1⟩) (fun _=>rfl) fun _ h=>⟨h.1,h.2.1,h.2.2.1⟩
theorem Abe:B7 Tryz.prog 119 Ax V6:=
  (B7.struct (tot:=4) Tryz.underlying119 (by kernel_rfl) (.cons (sz:=1) rfl (by kernel_rfl) op3 (.cons (sz:=3) rfl (by kernel_rfl) Abf .nil))).iso (fun x=>⟨x.1,x.2.1⟩) (fun _=>rfl) fun _ h=>⟨h.1,h.2.1⟩
theorem Adt:B7 Tryz.prog 30 (fun l:List Ck=>[.sl 4 (l.map Ax)]) (OkL V6):=
  B7.slice (sz:=4) Tryz.underlying30 (by kernel_rfl) (by decide) (fun _=>rfl) (fun a c h=>by simp[Ax]at h;rcases h with rfl | rfl | rfl | rfl<;>rfl) Abe
theorem Ade:B7 Tryz.prog 74 A3 X9:=
  (B7.struct (tot:=3) Tryz.underlying74 (by kernel_rfl) (.cons (sz:=1) rfl (by kernel_rfl) op3 (.cons (sz:=1) rfl (by kernel_rfl) op3 (.cons (sz:=1) rfl (by kernel_rfl) op3 .nil)))).iso (fun x=>⟨x.1,x.2.1,x.2.2.1⟩) (fun _=>rfl) fun _ h=>⟨h.1,h.2.1,h.2.2.1⟩
theorem Ads:B7 Tryz.prog 31 (fun l:List Cv=>[.sl 3 (l.map A3)]) (OkL X9):=
  B7.slice (sz:=3) Tryz.underlying31 (by kernel_rfl) (by decide) (fun _=>rfl) (fun a c h=>by simp[A3]at h;rcases h with rfl | rfl | rfl<;>rfl) Ade
theorem Adr:B7 Tryz.prog 33 Gs fI:=
  (B7.struct (tot:=2) Tryz.underlying33 (by kernel_rfl) (.cons (sz:=1) rfl (by kernel_rfl) Adt (.cons (sz:=1) rfl (by kernel_rfl) Ads .nil))).iso (fun x=>⟨x.1,x.2.1⟩) (fun _=>rfl) fun _ h=>⟨h.1,h.2.1⟩
theorem Abb:B7 Tryz.prog 162 Ba V4:=
  (B7.struct (tot:=3) Tryz.underlying162 (by kernel_rfl) (.cons (sz:=1) rfl (by kernel_rfl) op3 (.cons (sz:=1) rfl (by kernel_rfl) op3 (.cons (sz:=1) rfl (by kernel_rfl) op3 .nil)))).iso (fun x=>⟨x.1,x.2.1,x.2.2.1⟩) (fun _=>rfl) fun _ h=>⟨h.1,h.2.1,h.2.2.1⟩
theorem Adq:B7 Tryz.prog 34 (fun l:List Cx=>[.sl 3 (l.map Ba)]) (OkL V4):=
  B7.slice (sz:=3) Tryz.underlying34 (by kernel_rfl) (by decide) (fun _=>rfl) (fun a c h=>by simp[Ba]at h;rcases h with rfl | rfl | rfl<;>rfl) Abb
theorem Ac9:B7 Tryz.prog 84 Np lU:=
  (B7.struct (tot:=3) Tryz.underlying84 (by kernel_rfl) (.cons (sz:=1) rfl (by kernel_rfl) op3 (.cons (sz:=1) rfl (by kernel_rfl) op3 (.cons (sz:=1) rfl (by kernel_rfl) op3 .nil)))).iso (fun x=>⟨x.1,x.2.1,x.2.2.1⟩) (fun _=>rfl) fun _ h=>⟨h.1,h.2.1,h.2.2.1⟩
theorem Ac8:B7 Tryz.prog 86 A4 V5:=
  (B7.struct (tot:=5) Tryz.underlying86 (by kernel_rfl) (.cons (sz:=1) rfl (by kernel_rfl) op3 (.cons (sz:=1) rfl (by kernel_rfl) op3 (.cons (sz:=3) rfl (by kernel_rfl) Ac9 .nil)))).iso (fun x=>⟨x.1,x.2.1,x.2.2.1⟩) (fun _=>rfl) fun _ h=>⟨h.1,h.2.1,h.2.2.1⟩
theorem Adp:B7 Tryz.prog 35 (fun l:List C5=>[.sl 5 (l.map A4)]) (OkL V5):=
  B7.slice (sz:=5) Tryz.underlying35 (by kernel_rfl) (by decide) (fun _=>rfl) (fun a c h=>by simp[A4]at h;rcases h with rfl | rfl | rfl | rfl | rfl<;>rfl) Ac8
theorem Adc:B7 Tryz.prog 76 A5 aG:=
  (B7.struct (tot:=6) Tryz.underlying76 (by kernel_rfl) (.cons (sz:=1) rfl (by kernel_rfl) op3 (.cons (sz:=1) rfl (by kernel_rfl) rD (.cons (sz:=1) rfl (by kernel_rfl) rD (.cons (sz:=1) rfl (by kernel_rfl) op3 (.cons (sz:=1) rfl (by kernel_rfl) op3 (.cons (sz:=1) rfl (by kernel_rfl) op3 .nil))))))).iso (fun x=>⟨x.1,x.2.1,x.2.2.1,x.2.2.2.1,x.2.2.2.2.1,x.2.2.2.2.2.1⟩) (fun _=>rfl) fun _ h=>⟨h.1,h.2.1,h.2.2.1,h.2.2.2.1,h.2.2.2.2.1,h.2.2.2.2.2.1⟩
theorem Ado:B7 Tryz.prog 36 (fun l:List Bf=>[.sl 6 (l.map A5)]) (OkL aG):=
  B7.slice (sz:=6) Tryz.underlying36 (by kernel_rfl) (by decide) (fun _=>rfl) (fun a c h=>by simp[A5]at h;rcases h with rfl | rfl | rfl | rfl | rfl | rfl<;>rfl) Adc
theorem zW:B7 Tryz.prog 137 Sq Uk:=
  (B7.struct (tot:=2) Tryz.underlying137 (by kernel_rfl) (.cons (sz:=1) rfl (by kernel_rfl) op3 (.cons (sz:=1) rfl (by kernel_rfl) op3 .nil))).iso (fun x=>⟨x.1,x.2.1⟩) (fun _=>rfl) fun _ h=>⟨h.1,h.2.1⟩
theorem Abd:B7 Tryz.prog 139 Au Ul:=
  (B7.struct (tot:=7) Tryz.underlying139 (by kernel_rfl) (.cons (sz:=1) rfl (by kernel_rfl) op3 (.cons (sz:=2) rfl (by kernel_rfl) zW (.cons (sz:=1) rfl (by kernel_rfl) op3 (.cons (sz:=1) rfl (by kernel_rfl) op3 (.cons (sz:=1) rfl (by kernel_rfl) rD (.cons (sz:=1) rfl (by kernel_rfl) op3 .nil))))))).iso (fun x=>⟨x.1,x.2.1,x.2.2.1,x.2.2.2.1,x.2.2.2.2.1,x.2.2.2.2.2.1⟩) (fun _=>rfl) fun _ h=>⟨h.1,h.2.1,h.2.2.1,h.2.2.2.1,h.2.2.2.2.1,h.2.2.2.2.2.1⟩
theorem Adn:B7 Tryz.prog 37 (fun l:List Bp=>[.sl 7 (l.map Au)]) (OkL Ul):=
  B7.slice (sz:=7) Tryz.underlying37 (by kernel_rfl) (by decide) (fun _=>rfl) (fun a c h=>by simp[Au]at h;rcases h with rfl | rfl | rfl | rfl | rfl | rfl | rfl<;>rfl) Abd
theorem Aba:B7 Tryz.prog 170 Ao V7:=
  (B7.struct (tot:=7) Tryz.underlying170 (by kernel_rfl) (.cons (sz:=1) rfl (by kernel_rfl) op3 (.cons (sz:=1) rfl (by kernel_rfl) op3 (.cons (sz:=1) rfl (by kernel_rfl) op3 (.cons (sz:=1) rfl (by kernel_rfl) op3 (.cons (sz:=1) rfl (by kernel_rfl) op3 (.cons (sz:=2) rfl (by kernel_rfl) zW .nil))))))).iso (fun x=>⟨x.1,x.2.1,x.2.2.1,x.2.2.2.1,x.2.2.2.2.1,x.2.2.2.2.2.1⟩) (fun _=>rfl) fun _ h=>⟨h.1,h.2.1,h.2.2.1,h.2.2.2.1,h.2.2.2.2.1,h.2.2.2.2.2.1⟩
theorem Adm:B7 Tryz.prog 38 (fun l:List Bi=>[.sl 7 (l.map Ao)]) (OkL V7):=
  B7.slice (sz:=7) Tryz.underlying38 (by kernel_rfl) (by decide) (fun _=>rfl) (fun a c h=>by simp[Ao]at h;rcases h with rfl | rfl | rfl | rfl | rfl | rfl | rfl<;>rfl) Aba
theorem Aa9:B7 Tryz.prog 173 Ap Sx:=
  (B7.struct (tot:=4) Tryz.underlying173 (by kernel_rfl) (.cons (sz:=1) rfl (by kernel_rfl) op3 (.cons (sz:=1) rfl (by kernel_rfl) op3 (.cons (sz:=1) rfl (by kernel_rfl) op3 (.cons (sz:=1) rfl (by kernel_rfl) rD .nil))))).iso (fun x=>⟨x.1,x.2.1,x.2.2.1,x.2.2.2.1⟩) (fun _=>rfl) fun _ h=>⟨h.1,h.2.1,h.2.2.1,h.2.2.2.1⟩
theorem Adl:B7 Tryz.prog 39 (fun l:List A8=>[.sl 4 (l.map Ap)]) (OkL Sx):=
  B7.slice (sz:=4) Tryz.underlying39 (by kernel_rfl) (by decide) (fun _=>rfl) (fun a c h=>by simp[Ap]at h;rcases h with rfl | rfl | rfl | rfl<;>rfl) Aa9
theorem op4:B7 Tryz.prog 4 (fun b:Bool=>[.bool b]) (fun _=>True):=B7.bool Tryz.underlying4
theorem Aa8:B7 Tryz.prog 177 A2 V8:=
  (B7.struct (tot:=8) Tryz.underlying177 (by kernel_rfl) (.cons (sz:=1) rfl (by kernel_rfl) op3 (.cons (sz:=1) rfl (by kernel_rfl) op3 (.cons (sz:=1) rfl (by kernel_rfl) op3 (.cons (sz:=1) rfl (by kernel_rfl) op3 (.cons (sz:=1) rfl (by kernel_rfl) op3 (.cons (sz:=1) rfl (by kernel_rfl) op3 (.cons (sz:=1) rfl (by kernel_rfl) op3 (.cons (sz:=1) rfl (by kernel_rfl) op4 .nil))))))))).iso (fun x=>⟨x.1,x.2.1,x.2.2.1,x.2.2.2.1,x.2.2.2.2.1,x.2.2.2.2.2.1,x.2.2.2.2.2.2.1,x.2.2.2.2.2.2.2.1⟩) (fun _=>rfl) fun _ h=>⟨h.1,h.2.1,h.2.2.1,h.2.2.2.1,h.2.2.2.2.1,h.2.2.2.2.2.1,h.2.2.2.2.2.2.1,h.2.2.2.2.2.2.2.1⟩
theorem Adk:B7 Tryz.prog 40 (fun l:List B6=>[.sl 8 (l.map A2)]) (OkL V8):=
  B7.slice (sz:=8) Tryz.underlying40 (by kernel_rfl) (by decide) (fun _=>rfl) (fun a c h=>by simp[A2]at h;rcases h with rfl | rfl | rfl | rfl | rfl | rfl | rfl | rfl<;>rfl) Aa8
theorem Adg:B7 Tryz.prog 70 A6 X8:=
  (B7.struct (tot:=3) Tryz.underlying70 (by kernel_rfl) (.cons (sz:=1) rfl (by kernel_rfl) op3 (.cons (sz:=1) rfl (by kernel_rfl) op4 (.cons (sz:=1) rfl (by kernel_rfl) op3 .nil)))).iso (fun x=>⟨x.1,x.2.1,x.2.2.1⟩) (fun _=>rfl) fun _ h=>⟨h.1,h.2.1,h.2.2.1⟩
theorem Adj:B7 Tryz.prog 41 (fun l:List Bo=>[.sl 3 (l.map A6)]) (OkL X8):=
  B7.slice (sz:=3) Tryz.underlying41 (by kernel_rfl) (by decide) (fun _=>rfl) (fun a c h=>by simp[A6]at h;rcases h with rfl | rfl | rfl<;>rfl) Adg
theorem Adi:B7 Tryz.prog 43 Bv Sy:=
  (B7.struct (tot:=18) Tryz.underlying43 (by kernel_rfl) (.cons (sz:=4) rfl (by kernel_rfl) Adw (.cons (sz:=1) rfl (by kernel_rfl) Adv (.cons (sz:=1) rfl (by kernel_rfl) Adu (.cons (sz:=2) rfl (by kernel_rfl) Adr (.cons (sz:=1) rfl (by kernel_rfl) Adq (.cons (sz:=1) rfl (by kernel_rfl) Adp (.cons (sz:=1) rfl (by kernel_rfl) Ado (.cons (sz:=1) rfl (by kernel_rfl) Adn (.cons (sz:=1) rfl (by kernel_rfl) Adm (.cons (sz:=1) rfl (by kernel_rfl) Adl (.cons (sz:=1) rfl (by kernel_rfl) Adk (.cons (sz:=1) rfl (by kernel_rfl) Adj (.cons (sz:=1) rfl (by kernel_rfl) op3 (.cons (sz:=1) rfl (by kernel_rfl) op3 .nil))))))))))))))).iso (fun x=>⟨x.1,x.2.1,x.2.2.1,x.2.2.2.1,x.2.2.2.2.1,x.2.2.2.2.2.1,x.2.2.2.2.2.2.1,x.2.2.2.2.2.2.2.1,x.2.2.2.2.2.2.2.2.1,x.2.2.2.2.2.2.2.2.2.1,x.2.2.2.2.2.2.2.2.2.2.1,x.2.2.2.2.2.2.2.2.2.2.2.1,x.2.2.2.2.2.2.2.2.2.2.2.2.1,x.2.2.2.2.2.2.2.2.2.2.2.2.2.1⟩) (fun _=>rfl) fun _ h=>⟨h.1,h.2.1,h.2.2.1,h.2.2.2.1,h.2.2.2.2.1,h.2.2.2.2.2.1,h.2.2.2.2.2.2.1,h.2.2.2.2.2.2.2.1,h.2.2.2.2.2.2.2.2.1,h.2.2.2.2.2.2.2.2.2.1,h.2.2.2.2.2.2.2.2.2.2.1,h.2.2.2.2.2.2.2.2.2.2.2.1,h.2.2.2.2.2.2.2.2.2.2.2.2.1,h.2.2.2.2.2.2.2.2.2.2.2.2.2.1⟩
theorem own:ownKnob Tryz.prog.godebug=none:=by kernel_rfl
theorem laidOut:laidOutB Tryz.prog=true:=by kernel_rfl
theorem w7 (x:Ak×(List Int)×Int×Unit) (h:Sy x.1∧OkL I64 x.2.1∧I64 x.2.2.1∧True):Ad Tryz.prog 4 [.agg (Bv x.1),.sl 1 (x.2.1.map Aw),.int .i64 x.2.2.1] (·= .bool true):=T6 x.1 x.2.1 x.2.2.1 (T5 x.1 x.2.1 x.2.2.1 h.1 h.2.1 h.2.2.1)
set_option maxRecDepth 100000 in
theorem lifted (os:Os) (started:os.Started) (H:Type) (enc:TypeId×Value→H) :
    ReturnsInHanded {} Tryz.checked os 4 .any (Rows.interlockWhysSpec.pre6 enc Tryz.prog Tryz.f4 Rows.interlockWhysRow.domain false) (Rows.interlockWhysSpec.post enc Tryz.prog Tryz.f4 false true false false):=by
  refine uS (C:=Tryz.checked) (tb:=4) own started (by kernel_rfl) Tryz.func4 (ChangeSpec.witness6 (enc:=enc) (C:=Tryz.checked) false ⟨#[],#[.agg #[.slice none 0 0,.slice none 0 0,.slice none 0 0,.slice none 0 0,.slice none 0 0,.slice none 0 0,.slice none 0 0,.slice none 0 0,.slice none 0 0,.slice none 0 0,.slice none 0 0,.slice none 0 0,.slice none 0 0,.slice none 0 0,.slice none 0 0,.slice none 0 0,.int .i64 0,.int .i64 0],.slice none 0 0,.int .i64 0],[]⟩ 8 (by kernel_rfl) (by kernel_rfl) (by kernel_rfl) (by kernel_rfl))
    rfl rfl Tryz.underlying4 laidOut (by kernel_rfl) (fun ds h=>?_) (fun W b0 args ds ps hv hd=>?_)
  ·match ds,h with
   | [d1,d2,d3],_=>exact ⟨rfl,rfl,rfl⟩
  ·exact j7 w7 (.cons (J2.struct Tryz.underlying43 Adi) (.cons (J2.slice Tryz.underlying25 rD) (.cons ((J2.int Tryz.underlying3).iso id (fun _=>rfl) fun _ h=>wf_i64 h:J2 Tryz.prog 3 (fun n:Int=>.int .i64 n) I64) .nil))) hv hd
theorem Aaw {a b:Bool} (h:a=true) (k:b=true):(a&&b)=true:=by rw[h,k];rfl
set_option maxHeartbeats 4000000 in
theorem closed:joinedFacts Tryz.prog 4 Tryz.f4 Rows.interlockWhysSpec Rows.interlockWhysRow=true:=by
  unfold joinedFacts
  repeat' with_reducible refine Aaw ?_ ?_
  all_goals (as_aux_lemma=>kernel_rfl)
theorem InterlockWhys_holds:Rows.InterlockWhysSaid:=
  OpenClaim.holds_of_wide 4 Tryz.f4 rfl rfl rfl rfl rfl rfl rfl ⟨rfl,rfl,rfl,rfl,rfl⟩ rfl rfl rfl rfl rfl (by kernel_rfl) Tryz.func4 closed
    (Ajp (by kernel_rfl)) (by unfold Func.isWrapper;first | (rw[if_pos (by decide +kernel)];kernel_rfl) | (rw[if_neg (by decide +kernel)];exact⟨rfl,rfl⟩))
    (fun os started H enc _=>lifted os started H enc)
end Go.Proofs.YtjopghiagoidgaaGreat
