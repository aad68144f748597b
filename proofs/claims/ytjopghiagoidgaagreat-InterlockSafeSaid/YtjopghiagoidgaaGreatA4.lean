/- Our own texts: a layer of abstract values over the model, the walks of the functions, the plain laws; joined and shortened by a small program of our own (wip/dce2.py, wip/pack.py). -/
import Derived.Test.YtjopghiagoidgaaGreatA3
import Derived.Calls
import Derived.Tactics2
import Derived.Below
import Derived.Deep.LoopGhost
import Derived.KernelRfl
import Derived.Laws.Shifts
import Derived.Laws.CopyRow
import Derived.Laws.AppendOwn
import Derived.Laws.MakeOwn
import Derived.Laws.StructEq
import Derived.Maps.RangeRun
import Derived.Lib.SliceRun
import Derived.TacticsIn
import Derived.OrdersIn
import Derived.Sort.LoopGhostIn
import Derived.RangeFuncRecord
import Derived.Orders
import Derived.ProofKit
import Derived.OpenShut
import Derived.ShutString
import Derived.ChangeOld
import Derived.Carry
import Derived.WideShapes
import Derived.ChangeArms
import Derived.ChangeShapes
import Derived.Handed
import Derived.JoinedOf
import Derived.Sort.Grow
import Derived.Lib.SlicesCompact
import Derived.Lib.SlKeysI
import Derived.Maps.Own
import Derived.WideKeyRuns
import Derived.Laws.IdiomCopy
import Derived.Lib.Overlaps
import Derived.Test.YtjopghiagoidgaaGreatChecked
import Derived.Shelf.RegionOpenPlain
import Derived.WalkKit
import Derived.Lib.Walk
import Derived.Lib.JoinLaws
import Derived.Lib.AppendZeros
import Derived.Lib.AppendZerosOnto
import Derived.Laws.NewBlocks
import Derived.Laws.Externs
import Derived.Test.YtjopghiagoidgaaGreatProg
import Derived.Shelf.SortM.Plain
import Derived.Shelf.SortM.SortNone
import Derived.Shelf.SlIterI.Nil
import Derived.Shelf.Slices.CompactI
namespace Go.Proofs.YtjopghiagoidgaaGreat
open Go Go.Ab
attribute [local irreducible] AWP Al Cf Ad Go.Ab.Sub alist dlist Bo Dm Ex Hn
set_option maxRecDepth 100000
set_option maxHeartbeats 4000000
set_option linter.unusedSimpArgs false
set_option linter.unusedVariables false
noncomputable section
def Gj (m:Bd) (ab:Co):Option (Out (Unit) (Int)):=
 (Ef m ab.From).bind fun cf=>(Ef m ab.To).bind fun dd=>(bif (!cf.2)then some (Out.ret 8)else (bif (!dd.2)then some (Out.ret 8)else (bif (decide (dd.1.Alt≤cf.1.Alt))then some (Out.ret 11)else nz ab.Spacing ((bif (decide ((Int.tmod (IntKind.i64.wrap (2*ab.Length)) ab.Spacing)≠0))then some (Out.ret 1)else nz ab.Spacing ((Cz (IntKind.i64.wrap (Int.tdiv (IntKind.i64.wrap (2*ab.Length)) ab.Spacing)) 1 200).bind fun dm=>(bif (!dm)then some (Out.ret 1)else some (Out.next ()))))))))
def J1 (m:Bd) (k0:Nat) (ab:Co) (sv:Unit):Option (Out (Unit) (Int)):=
 (Cz ab.ID 1 9999).bind fun y3=>(bif (!y3)then some (Out.ret 2)else (Cz ab.Operator 1 8).bind fun y4=>(bif (!y4)then some (Out.ret 2)else (Cz ab.Length 10 6000).bind fun y5=>(bif (!y5)then some (Out.ret 2)else (Cz ab.Speed 500 12000).bind fun y6=>(bif (!y6)then some (Out.ret 2)else (Cz ab.Seats 1 16).bind fun y7=>(bif (!y7)then some (Out.ret 2)else (Cz ab.Spacing 5 1000).bind fun y8=>(bif (!y8)then some (Out.ret 2)else (bif (decide (0<((k0:Nat):Int)))then (Dv m.Lifts (IntKind.i64.wrap (((k0:Nat):Int) - 1))).bind fun nq=>(bif (decide (ab.ID≤nq.ID))then some (Out.ret 7)else Gj m ab)else Gj m ab)))))))
def Nc (m:Bd):Option (Int):=
 (An (J1 m) 0 m.Lifts ()).bind fun o0=>o0.on fun s0=>some 0
theorem T9 (m:Bd) {r:Int} (h:Nc m=some r):Ad Tryz.prog 154 [.agg (Ct m)] (·= .int .i64 r):=by
 refine Ad.nle (Ad.intro Tryz.func154 rfl rfl (by show _≤108;simp) ?_)
 unfold Nc at h
 refine nS (sq ?_)
 refine ar rfl (qn (sq (sq ?_)))
 refine rg rfl fun K j=>?_
 intro hm
 refine j _ _ (qn (bk ?_))
 obtain⟨o0,aa,ae⟩:=Ah h
 clear h
 refine AWP.Bw (ι:=Nat×(Unit)×(Unit)) (fun zz=>[(1,.ptr 0 0),(10,.sl 8 (m.Lifts.map A6)),(11,.int .i64 ((m.Lifts.length:Nat):Int)),(12,.int .i64 ((zz.1:Nat):Int))]) (fun zz=>[.box [.sl 2 (m.Nodes.map A5),.sl 8 (m.Lifts.map A6),.sl 7 (m.Runs.map Ba),.sl 1 (m.Bases.map Bb)]]) (fun zz=>zz.1≤m.Lifts.length∧An (J1 m) zz.1 ((m.Lifts).drop zz.1) zz.2.1=some o0) (fun zz=>m.Lifts.length - zz.1) (0,(),()) ⟨Nat.zero_le _,aa⟩ cu cu (fun x=>⟨rfl,rfl,rfl⟩) ?_
 clear aa
 rintro⟨k0,⟨⟩,⟨⟩⟩ ⟨bg,aa⟩
 dsimp only at bg aa ⊢
 refine sq (ar rfl (qn (sq ?_)))
 refine AWP.cond (Am (fun hc=>?_) (fun hc=>?_))
 rotate_left
 ·obtain rfl:=Bg aa (fun hl=>by have:=Ako hc;omega)
  have h:=Bf ae;try dsimp only at h
  have ag:m.Lifts.length=k0:=by have:=Ako hc;omega
  subst ag
  refine xt (qe (qe (bs (qn (sq (ar rfl (qn (rt ?_))))))))
  cases h;exact en Tryz.results154
 have ah:k0<m.Lifts.length:=by have:=Akp hc;omega
 obtain⟨ab,b0,aj,h,aa⟩:=Bc aa ah
 have aw:=A9 aj
 have ak:=wk (k:=k0) (by omega)
 unfold J1 at h;try dsimp only at h
 refine sk (qn (sq (bk (sq (rg rfl fun K j=>?_)))))
 refine Bo.of (f:=A6) (l:=m.Lifts) aw ?_
 refine nS ?_
 refine j _ _ (qn (sq (sq ?_)))
 refine rg rfl fun K j=>?_
 obtain⟨y3,bx,h⟩:=Ah h
 refine Al.pure Tryz.call238 (Cp ab.ID 1 9999 bx) rfl fun _ hr=>?_
 subst hr
 refine nS ?_
 revert h;refine gf (fun hc h=>?_) fun hc h=>?_
 rotate_left
 ·refine j _ _ (qn ?_)
  refine AWP.cond (Ai ?_)
  refine sq (ar rfl (qn (rt (qr (br (qr (qr ?_)))))))
  obtain rfl:=Aa h
  obtain rfl:=Ae aa
  replace h:=Ao ae
  refine br (qr ?_)
  cases h;exact en Tryz.results154
 obtain⟨y4,cn,h⟩:=Ah h
 refine Al.pure Tryz.call238 (Cp ab.Operator 1 8 cn) rfl fun _ hr=>?_
 subst hr
 refine nS ?_
 revert h;refine gf (fun hc h=>?_) fun hc h=>?_
 rotate_left
 ·refine j _ _ (qn ?_)
  refine AWP.cond (Ai ?_)
  refine sq (ar rfl (qn (rt (qr (br (qr (qr ?_)))))))
  obtain rfl:=Aa h
  obtain rfl:=Ae aa
  replace h:=Ao ae
  refine br (qr ?_)
  cases h;exact en Tryz.results154
 obtain⟨y5,db,h⟩:=Ah h
 refine Al.pure Tryz.call238 (Cp ab.Length 10 6000 db) rfl fun _ hr=>?_
 subst hr
 refine nS ?_
 revert h;refine gf (fun hc h=>?_) fun hc h=>?_
 rotate_left
 ·refine j _ _ (qn ?_)
  refine AWP.cond (Ai ?_)
  refine sq (ar rfl (qn (rt (qr (br (qr (qr ?_)))))))
  obtain rfl:=Aa h
  obtain rfl:=Ae aa
  replace h:=Ao ae
  refine br (qr ?_)
  cases h;exact en Tryz.results154
 obtain⟨y6,ey,h⟩:=Ah h
 refine Al.pure Tryz.call238 (Cp ab.Speed 500 12000 ey) rfl fun _ hr=>?_
 subst hr
 refine nS ?_
 revert h;refine gf (fun hc h=>?_) fun hc h=>?_
 rotate_left
 ·refine j _ _ (qn ?_)
  refine AWP.cond (Ai ?_)
  refine sq (ar rfl (qn (rt (qr (br (qr (qr ?_)))))))
  obtain rfl:=Aa h
  obtain rfl:=Ae aa
  replace h:=Ao ae
  refine br (qr ?_)
  cases h;exact en Tryz.results154
 obtain⟨y7,eo,h⟩:=Ah h
 refine Al.pure Tryz.call238 (Cp ab.Seats 1 16 eo) rfl fun _ hr=>?_
 subst hr
 refine nS ?_
 revert h;refine gf (fun hc h=>?_) fun hc h=>?_
 rotate_left
 ·refine j _ _ (qn ?_)
  refine AWP.cond (Ai ?_)
  refine sq (ar rfl (qn (rt (qr (br (qr (qr ?_)))))))
  obtain rfl:=Aa h
  obtain rfl:=Ae aa
  replace h:=Ao ae
  refine br (qr ?_)
  cases h;exact en Tryz.results154
 obtain⟨y8,fp,h⟩:=Ah h
 refine Al.pure Tryz.call238 (Cp ab.Spacing 5 1000 fp) rfl fun _ hr=>?_
 subst hr
 refine nS ?_
 refine j _ _ (qn ?_)
 revert h;refine ca rfl (fun hc h=>?_) fun hc h=>?_
 ·refine sq (ar rfl (qn (rt (qr (br (qr (qr ?_)))))))
  obtain rfl:=Aa h
  obtain rfl:=Ae aa
  replace h:=Ao ae
  refine br (qr ?_)
  cases h;exact en Tryz.results154
 refine sk (qn ?_)
 refine AWP.Mz (ι:=(Unit)×(Unit)) (fun zz=>[(1,.ptr 0 0),(4,.ptr 1 0),(10,.sl 8 (m.Lifts.map A6)),(11,.int .i64 ((m.Lifts.length:Nat):Int)),(12,.int .i64 ((k0:Nat):Int))]) (fun zz=>[.box [.sl 2 (m.Nodes.map A5),.sl 8 (m.Lifts.map A6),.sl 7 (m.Runs.map Ba),.sl 1 (m.Bases.map Bb)],.box [.int .i64 ab.ID,.int .i64 ab.Operator,.int .i64 ab.From,.int .i64 ab.To,.int .i64 ab.Length,.int .i64 ab.Speed,.int .i64 ab.Seats,.int .i64 ab.Spacing]]) (fun zz=>Gj m ab=some b0) (fun zz=>⟨rfl,rfl,rfl⟩) ?_ ?_
 ·refine sq ?_
  refine AWP.draw Tryz.mixed (by kernel_rfl) ?_;intro K j
  refine nS ?_
  revert h;refine gt (fun hc h=>?_) fun hc h=>?_
  ·obtain⟨nq,ym,h⟩:=Ah h
   refine Bo.of (f:=A6) (l:=m.Lifts) ym ?_
   refine nS ?_
   refine j _ _ _ (by kernel_rfl) ?_
   refine qn ?_
   revert h;refine ca rfl (fun hc h=>?_) fun hc h=>?_
   ·refine sq (ar rfl (qn (rt (qr (br (qr (qr ?_)))))))
    obtain rfl:=Aa h
    obtain rfl:=Ae aa
    replace h:=Ao ae
    refine br (qr ?_)
    cases h;exact en Tryz.results154
   refine sk (qn ?_)
   exact⟨((),()),h,cu,cu⟩
  refine j _ _ _ (by kernel_rfl) ?_
  refine qn ?_
  refine AWP.cond (Bj ?_)
  refine sk (qn ?_)
  exact⟨((),()),h,cu,cu⟩
 rintro⟨⟨⟩,⟨⟩⟩ h
 try dsimp only at h ⊢
 unfold Gj at h;try dsimp only at h
 refine sq (rg rfl fun K j=>?_)
 obtain⟨cf,dt,h⟩:=Ah h
 refine Al.pure Tryz.call96 (Dz m ab.From dt) rfl fun _ hr=>?_
 subst hr
 refine nS ?_
 refine j _ _ (qn (sq ?_))
 refine rg rfl fun K j=>?_
 obtain⟨dd,eh,h⟩:=Ah h
 refine Al.pure Tryz.call96 (Dz m ab.To eh) rfl fun _ hr=>?_
 subst hr
 refine nS ?_
 refine j _ _ (qn (sq (sq ?_)))
 refine rg rfl fun K j=>?_
 revert h;refine gf (fun hc h=>?_) fun hc h=>?_
 rotate_left
 ·refine j _ _ (qn ?_)
  refine AWP.cond (Ai ?_)
  refine sq (ar rfl (qn (rt (qr (br (qr (qr ?_)))))))
  obtain rfl:=Aa h
  obtain rfl:=Ae aa
  replace h:=Ao ae
  refine br (qr ?_)
  cases h;exact en Tryz.results154
 refine j _ _ (qn ?_)
 revert h;refine ca rfl (fun hc h=>?_) fun hc h=>?_
 ·refine sq (ar rfl (qn (rt (qr (br (qr (qr ?_)))))))
  obtain rfl:=Aa h
  obtain rfl:=Ae aa
  replace h:=Ao ae
  refine br (qr ?_)
  cases h;exact en Tryz.results154
 refine sk (qn (sq (sq (ar rfl (qn ?_)))))
 revert h;refine ca rfl (fun hc h=>?_) fun hc h=>?_
 ·refine sq (ar rfl (qn (rt (qr (br (qr (qr ?_)))))))
  obtain rfl:=Aa h
  obtain rfl:=Ae aa
  replace h:=Ao ae
  refine br (qr ?_)
  cases h;exact en Tryz.results154
 refine sk (qn (sq (rg rfl fun K j=>?_)))
 obtain⟨hk,h⟩:=oI h
 refine⟨hk,?_⟩
 revert h;refine gf (fun hc h=>?_) fun hc h=>?_
 ·obtain⟨hk,h⟩:=oI h
  refine⟨hk,?_⟩
  obtain⟨dm,ez,h⟩:=Ah h
  refine Al.pure Tryz.call238 (Cp (IntKind.i64.wrap (Int.tdiv (IntKind.i64.wrap (2*ab.Length)) ab.Spacing)) 1 200 ez) rfl fun _ hr=>?_
  subst hr
  refine nS ?_
  refine j _ _ (qn ?_)
  revert h;refine ca rfl (fun hc h=>?_) fun hc h=>?_
  ·refine sq (ar rfl (qn (rt (br (qr (qr ?_))))))
   obtain rfl:=Aa h
   obtain rfl:=Ae aa
   replace h:=Ao ae
   refine br (qr ?_)
   cases h;exact en Tryz.results154
  refine sk (bn (qn (ar rfl (qn ?_))))
  obtain rfl:=Aa h
  refine⟨(k0+1,(),()),⟨by dsimp only;omega,Aj aa⟩,by dsimp only;omega,?_,?_⟩
  ·exact cuw ak
  exact cuw ak
 refine j _ _ (qn ?_)
 refine AWP.cond (Ai ?_)
 refine sq (ar rfl (qn (rt (br (qr (qr ?_))))))
 obtain rfl:=Aa h
 obtain rfl:=Ae aa
 replace h:=Ao ae
 refine br (qr ?_)
 cases h;exact en Tryz.results154
def Kn (m:Bd) (k0:Nat) (ab:Cq) (sv:Unit):Option (Out (Unit) (Int)):=
 (Cz ab.ID 1 9999).bind fun y3=>(bif (!y3)then some (Out.ret 2)else (Cz ab.Operator 1 8).bind fun y4=>(bif (!y4)then some (Out.ret 2)else (Cz ab.Grade 1 4).bind fun y5=>(bif (!y5)then some (Out.ret 2)else (Cz ab.Zone 1 32).bind fun y6=>(bif (!y6)then some (Out.ret 2)else (Cz ab.Length 10 20000).bind fun y7=>(bif (!y7)then some (Out.ret 2)else (bif (decide (0<((k0:Nat):Int)))then (Dv m.Runs (IntKind.i64.wrap (((k0:Nat):Int) - 1))).bind fun dz=>(bif (decide (ab.ID≤dz.ID))then some (Out.ret 7)else (Ef m ab.From).bind fun y9=>(Ef m ab.To).bind fun cf=>(bif (!y9.2)then some (Out.ret 8)else (bif (!cf.2)then some (Out.ret 8)else (bif (decide (y9.1.Alt≤cf.1.Alt))then some (Out.ret 11)else some (Out.next ())))))else (Ef m ab.From).bind fun dd=>(Ef m ab.To).bind fun dm=>(bif (!dd.2)then some (Out.ret 8)else (bif (!dm.2)then some (Out.ret 8)else (bif (decide (dd.1.Alt≤dm.1.Alt))then some (Out.ret 11)else some (Out.next ()))))))))))
def N0 (m:Bd):Option (Int):=
 (An (Kn m) 0 m.Runs ()).bind fun o0=>o0.on fun s0=>some 0
theorem Ut (m:Bd) {r:Int} (h:N0 m=some r):Ad Tryz.prog 155 [.agg (Ct m)] (·= .int .i64 r):=by
 refine Ad.nle (Ad.intro Tryz.func155 rfl rfl (by show _≤85;simp) ?_)
 unfold N0 at h
 refine nS (sq ?_)
 refine ar rfl (qn (sq (sq ?_)))
 refine rg rfl fun K j=>?_
 intro hm
 refine j _ _ (qn (bk ?_))
 obtain⟨o0,aa,ae⟩:=Ah h
 clear h
 refine AWP.Bw (ι:=Nat×(Unit)×(Unit)) (fun zz=>[(1,.ptr 0 0),(10,.sl 7 (m.Runs.map Ba)),(11,.int .i64 ((m.Runs.length:Nat):Int)),(12,.int .i64 ((zz.1:Nat):Int))]) (fun zz=>[.box [.sl 2 (m.Nodes.map A5),.sl 8 (m.Lifts.map A6),.sl 7 (m.Runs.map Ba),.sl 1 (m.Bases.map Bb)]]) (fun zz=>zz.1≤m.Runs.length∧An (Kn m) zz.1 ((m.Runs).drop zz.1) zz.2.1=some o0) (fun zz=>m.Runs.length - zz.1) (0,(),()) ⟨Nat.zero_le _,aa⟩ cu cu (fun x=>⟨rfl,rfl,rfl⟩) ?_
 clear aa
 rintro⟨k0,⟨⟩,⟨⟩⟩ ⟨bg,aa⟩
 dsimp only at bg aa ⊢
 refine sq (ar rfl (qn (sq ?_)))
 refine AWP.cond (Am (fun hc=>?_) (fun hc=>?_))
 rotate_left
 ·obtain rfl:=Bg aa (fun hl=>by have:=Ako hc;omega)
  have h:=Bf ae;try dsimp only at h
  have ag:m.Runs.length=k0:=by have:=Ako hc;omega
  subst ag
  refine xt (qe (qe (bs (qn (sq (ar rfl (qn (rt ?_))))))))
  cases h;exact en Tryz.results155
 have ah:k0<m.Runs.length:=by have:=Akp hc;omega
 obtain⟨ab,b0,aj,h,aa⟩:=Bc aa ah
 have aw:=A9 aj
 have ak:=wk (k:=k0) (by omega)
 unfold Kn at h;try dsimp only at h
 refine sk (qn (sq (bk (sq (rg rfl fun K j=>?_)))))
 refine Bo.of (f:=Ba) (l:=m.Runs) aw ?_
 refine nS ?_
 refine j _ _ (qn (sq (sq ?_)))
 refine rg rfl fun K j=>?_
 obtain⟨y3,bx,h⟩:=Ah h
 refine Al.pure Tryz.call238 (Cp ab.ID 1 9999 bx) rfl fun _ hr=>?_
 subst hr
 refine nS ?_
 revert h;refine gf (fun hc h=>?_) fun hc h=>?_
 rotate_left
 ·refine j _ _ (qn ?_)
  refine AWP.cond (Ai ?_)
  refine sq (ar rfl (qn (rt (qr (br (qr (qr ?_)))))))
  obtain rfl:=Aa h
  obtain rfl:=Ae aa
  replace h:=Ao ae
  refine br (qr ?_)
  cases h;exact en Tryz.results155
 obtain⟨y4,cn,h⟩:=Ah h
 refine Al.pure Tryz.call238 (Cp ab.Operator 1 8 cn) rfl fun _ hr=>?_
 subst hr
 refine nS ?_
 revert h;refine gf (fun hc h=>?_) fun hc h=>?_
 rotate_left
 ·refine j _ _ (qn ?_)
  refine AWP.cond (Ai ?_)
  refine sq (ar rfl (qn (rt (qr (br (qr (qr ?_)))))))
  obtain rfl:=Aa h
  obtain rfl:=Ae aa
  replace h:=Ao ae
  refine br (qr ?_)
  cases h;exact en Tryz.results155
 obtain⟨y5,db,h⟩:=Ah h
 refine Al.pure Tryz.call238 (Cp ab.Grade 1 4 db) rfl fun _ hr=>?_
 subst hr
 refine nS ?_
 revert h;refine gf (fun hc h=>?_) fun hc h=>?_
 rotate_left
 ·refine j _ _ (qn ?_)
  refine AWP.cond (Ai ?_)
  refine sq (ar rfl (qn (rt (qr (br (qr (qr ?_)))))))
  obtain rfl:=Aa h
  obtain rfl:=Ae aa
  replace h:=Ao ae
  refine br (qr ?_)
  cases h;exact en Tryz.results155
 obtain⟨y6,ey,h⟩:=Ah h
 refine Al.pure Tryz.call238 (Cp ab.Zone 1 32 ey) rfl fun _ hr=>?_
 subst hr
 refine nS ?_
 revert h;refine gf (fun hc h=>?_) fun hc h=>?_
 rotate_left
 ·refine j _ _ (qn ?_)
  refine AWP.cond (Ai ?_)
  refine sq (ar rfl (qn (rt (qr (br (qr (qr ?_)))))))
  obtain rfl:=Aa h
  obtain rfl:=Ae aa
  replace h:=Ao ae
  refine br (qr ?_)
  cases h;exact en Tryz.results155
 obtain⟨y7,eo,h⟩:=Ah h
 refine Al.pure Tryz.call238 (Cp ab.Length 10 20000 eo) rfl fun _ hr=>?_
 subst hr
 refine nS ?_
 refine j _ _ (qn ?_)
 revert h;refine ca rfl (fun hc h=>?_) fun hc h=>?_
 ·refine sq (ar rfl (qn (rt (qr (br (qr (qr ?_)))))))
  obtain rfl:=Aa h
  obtain rfl:=Ae aa
  replace h:=Ao ae
  refine br (qr ?_)
  cases h;exact en Tryz.results155
 refine sk (qn (sq (sq ?_)))
 refine AWP.draw Tryz.mixed (by kernel_rfl) ?_;intro K j
 refine nS ?_
 revert h;refine gt (fun hc h=>?_) fun hc h=>?_
 ·obtain⟨dz,lz,h⟩:=Ah h
  refine Bo.of (f:=Ba) (l:=m.Runs) lz ?_
  refine nS ?_
  refine j _ _ _ (by kernel_rfl) ?_
  refine qn ?_
  revert h;refine ca rfl (fun hc h=>?_) fun hc h=>?_
  ·refine sq (ar rfl (qn (rt (qr (br (qr (qr ?_)))))))
   obtain rfl:=Aa h
   obtain rfl:=Ae aa
   replace h:=Ao ae
   refine br (qr ?_)
   cases h;exact en Tryz.results155
  refine sk (qn (sq (rg rfl fun K j=>?_)))
  obtain⟨y9,ic,h⟩:=Ah h
  refine Al.pure Tryz.call96 (Dz m ab.From ic) rfl fun _ hr=>?_
  subst hr
  refine nS ?_
  refine j _ _ (qn (sq ?_))
  refine rg rfl fun K j=>?_
  obtain⟨cf,dt,h⟩:=Ah h
  refine Al.pure Tryz.call96 (Dz m ab.To dt) rfl fun _ hr=>?_
  subst hr
  refine nS ?_
  refine j _ _ (qn (sq (sq ?_)))
  refine rg rfl fun K j=>?_
  revert h;refine gf (fun hc h=>?_) fun hc h=>?_
  ·refine j _ _ (qn ?_)
   revert h;refine ca rfl (fun hc h=>?_) fun hc h=>?_
   ·refine sq (ar rfl (qn (rt (qr (br (qr (qr ?_)))))))
    obtain rfl:=Aa h
    obtain rfl:=Ae aa
    replace h:=Ao ae
    refine br (qr ?_)
    cases h;exact en Tryz.results155
   refine sk (qn (sq (ar rfl (qn ?_))))
   revert h;refine ca rfl (fun hc h=>?_) fun hc h=>?_
   ·refine sq (ar rfl (qn (rt (br (qr (qr ?_))))))
    obtain rfl:=Aa h
    obtain rfl:=Ae aa
    replace h:=Ao ae
    refine br (qr ?_)
    cases h;exact en Tryz.results155
   refine sk (bn (qn (ar rfl (qn ?_))))
   obtain rfl:=Aa h
   refine⟨(k0+1,(),()),⟨by dsimp only;omega,Aj aa⟩,by dsimp only;omega,?_,?_⟩
   ·exact cuw ak
   exact cuw ak
  refine j _ _ (qn ?_)
  refine AWP.cond (Ai ?_)
  refine sq (ar rfl (qn (rt (qr (br (qr (qr ?_)))))))
  obtain rfl:=Aa h
  obtain rfl:=Ae aa
  replace h:=Ao ae
  refine br (qr ?_)
  cases h;exact en Tryz.results155
 refine j _ _ _ (by kernel_rfl) ?_
 refine qn ?_
 refine AWP.cond (Bj ?_)
 refine sk (qn (sq (rg rfl fun K j=>?_)))
 obtain⟨dd,eh,h⟩:=Ah h
 refine Al.pure Tryz.call96 (Dz m ab.From eh) rfl fun _ hr=>?_
 subst hr
 refine nS ?_
 refine j _ _ (qn (sq ?_))
 refine rg rfl fun K j=>?_
 obtain⟨dm,ez,h⟩:=Ah h
 refine Al.pure Tryz.call96 (Dz m ab.To ez) rfl fun _ hr=>?_
 subst hr
 refine nS ?_
 refine j _ _ (qn (sq (sq ?_)))
 refine rg rfl fun K j=>?_
 revert h;refine gf (fun hc h=>?_) fun hc h=>?_
 ·refine j _ _ (qn ?_)
  revert h;refine ca rfl (fun hc h=>?_) fun hc h=>?_
  ·refine sq (ar rfl (qn (rt (qr (br (qr (qr ?_)))))))
   obtain rfl:=Aa h
   obtain rfl:=Ae aa
   replace h:=Ao ae
   refine br (qr ?_)
   cases h;exact en Tryz.results155
  refine sk (qn (sq (ar rfl (qn ?_))))
  revert h;refine ca rfl (fun hc h=>?_) fun hc h=>?_
  ·refine sq (ar rfl (qn (rt (br (qr (qr ?_))))))
   obtain rfl:=Aa h
   obtain rfl:=Ae aa
   replace h:=Ao ae
   refine br (qr ?_)
   cases h;exact en Tryz.results155
  refine sk (bn (qn (ar rfl (qn ?_))))
  obtain rfl:=Aa h
  refine⟨(k0+1,(),()),⟨by dsimp only;omega,Aj aa⟩,by dsimp only;omega,?_,?_⟩
  ·exact cuw ak
  exact cuw ak
 refine j _ _ (qn ?_)
 refine AWP.cond (Ai ?_)
 refine sq (ar rfl (qn (rt (qr (br (qr (qr ?_)))))))
 obtain rfl:=Aa h
 obtain rfl:=Ae aa
 replace h:=Ao ae
 refine br (qr ?_)
 cases h;exact en Tryz.results155
def J4 (m:Bd) (k1:Nat) (bb:Int) (sv:Unit):Option (Out (Unit) (Int)):=
 (bif (decide (0<((k1:Nat):Int)))then (Dv m.Bases (IntKind.i64.wrap (((k1:Nat):Int) - 1))).bind fun au=>(bif (decide (bb≤au))then some (Out.ret 7)else some (Out.next ()))else some (Out.next ()))
def J2 (m:Bd):Option (Int):=
 (An (J4 m) 0 m.Bases ()).bind fun o1=>o1.on fun s1=>some 0
def J3 (m:Bd) (k4:Nat) (cx:Int) (sv:Unit):Option (Out (Unit) (Int)):=
 (Ef m cx).bind fun y7=>(bif (!y7.2)then some (Out.ret 8)else some (Out.next ()))
def Nd (m:Bd):Option (Int):=
 (bif (decide (((m.Bases.length:Nat):Int)=0))then some 8 else(An (J3 m) 0 m.Bases ()).bind fun o4=>o4.on fun s4=>J2 m)
theorem Ua (m:Bd) {r:Int} (h:Nd m=some r):Ad Tryz.prog 156 [.agg (Ct m)] (·= .int .i64 r):=by
 refine Ad.nle (Ad.intro Tryz.func156 rfl rfl (by show _≤50;simp) ?_)
 unfold Nd at h
 refine nS (sq ?_)
 refine ar rfl (qn (sq (sq ?_)))
 refine rg rfl fun K j=>?_
 intro hm
 refine j _ _ (qn ?_)
 revert h;refine ca rfl (fun hc h=>?_) fun hc h=>?_
 ·refine sq (ar rfl (qn (rt (qr ?_))))
  cases h;exact en Tryz.results156
 refine sk (qn ?_)
 refine AWP.Mz (ι:=(Unit)×(Unit)) (fun zz=>[(1,.ptr 0 0)]) (fun zz=>[.box [.sl 2 (m.Nodes.map A5),.sl 8 (m.Lifts.map A6),.sl 7 (m.Runs.map Ba),.sl 1 (m.Bases.map Bb)]]) (fun zz=>J2 m=some r) (fun zz=>⟨rfl,rfl,rfl⟩) ?_ ?_
 ·refine sq ?_
  refine rg rfl fun K j=>?_
  intro hm
  refine j _ _ (qn (bk ?_))
  obtain⟨o4,cp,mo⟩:=Ah h
  clear h
  refine AWP.Bw (ι:=Nat×(Unit)×(Unit)) (fun zz=>[(1,.ptr 0 0),(14,.sl 1 (m.Bases.map Bb)),(15,.int .i64 ((m.Bases.length:Nat):Int)),(16,.int .i64 ((zz.1:Nat):Int))]) (fun zz=>[.box [.sl 2 (m.Nodes.map A5),.sl 8 (m.Lifts.map A6),.sl 7 (m.Runs.map Ba),.sl 1 (m.Bases.map Bb)]]) (fun zz=>zz.1≤m.Bases.length∧An (J3 m) zz.1 ((m.Bases).drop zz.1) zz.2.1=some o4) (fun zz=>m.Bases.length - zz.1) (0,(),()) ⟨Nat.zero_le _,cp⟩ cu cu (fun x=>⟨rfl,rfl,rfl⟩) ?_
  clear cp
  rintro⟨k4,⟨⟩,⟨⟩⟩ ⟨si,cp⟩
  dsimp only at si cp ⊢
  refine sq (ar rfl (qn (sq ?_)))
  refine AWP.cond (Am (fun hc=>?_) (fun hc=>?_))
  rotate_left
  ·obtain rfl:=Bg cp (fun hl=>by have:=Ako hc;omega)
   have h:=Bf mo;try dsimp only at h
   have ag:m.Bases.length=k4:=by have:=Ako hc;omega
   subst ag
   refine xt (qe (qe (bs (qn ?_))))
   exact⟨((),()),h,cu,cu⟩
  have js:k4<m.Bases.length:=by have:=Akp hc;omega
  obtain⟨cx,b4,ma,h,cp⟩:=Bc cp js
  have vi:=A9 ma
  have ij:=wk (k:=k4) (by omega)
  unfold J3 at h;try dsimp only at h
  refine sk (qn (sq (bk (sq (rg rfl fun K j=>?_)))))
  refine Bo.of (f:=Bb) (l:=m.Bases) vi ?_
  refine nS ?_
  refine j _ _ (qn (sq ?_))
  refine rg rfl fun K j=>?_
  obtain⟨y7,eo,h⟩:=Ah h
  refine Al.pure Tryz.call96 (Dz m cx eo) rfl fun _ hr=>?_
  subst hr
  refine nS ?_
  refine j _ _ (qn (sq ?_))
  refine ar rfl (qn ?_)
  revert h;refine ca rfl (fun hc h=>?_) fun hc h=>?_
  ·refine sq (ar rfl (qn (rt (br (qr (qr ?_))))))
   obtain rfl:=Aa h
   obtain rfl:=Ae cp
   replace h:=Ao mo
   refine br (qr ?_)
   cases h;exact en Tryz.results156
  refine sk (bn (qn (ar rfl (qn ?_))))
  obtain rfl:=Aa h
  refine⟨(k4+1,(),()),⟨by dsimp only;omega,Aj cp⟩,by dsimp only;omega,?_,?_⟩
  ·exact cuw ij
  exact cuw ij
 rintro⟨⟨⟩,⟨⟩⟩ h
 try dsimp only at h ⊢
 unfold J2 at h;try dsimp only at h
 refine sq (sq (rg rfl fun K j=>?_))
 intro hm
 refine j _ _ (qn (bk ?_))
 obtain⟨o1,az,dj⟩:=Ah h
 clear h
 refine AWP.Bw (ι:=Nat×(Unit)×(Unit)) (fun zz=>[(1,.ptr 0 0),(30,.sl 1 (m.Bases.map Bb)),(31,.int .i64 ((m.Bases.length:Nat):Int)),(32,.int .i64 ((zz.1:Nat):Int))]) (fun zz=>[.box [.sl 2 (m.Nodes.map A5),.sl 8 (m.Lifts.map A6),.sl 7 (m.Runs.map Ba),.sl 1 (m.Bases.map Bb)]]) (fun zz=>zz.1≤m.Bases.length∧An (J4 m) zz.1 ((m.Bases).drop zz.1) zz.2.1=some o1) (fun zz=>m.Bases.length - zz.1) (0,(),()) ⟨Nat.zero_le _,az⟩ cu cu (fun x=>⟨rfl,rfl,rfl⟩) ?_
 clear az
 rintro⟨k1,⟨⟩,⟨⟩⟩ ⟨jd,az⟩
 dsimp only at jd az ⊢
 refine sq (ar rfl (qn (sq ?_)))
 refine AWP.cond (Am (fun hc=>?_) (fun hc=>?_))
 rotate_left
 ·obtain rfl:=Bg az (fun hl=>by have:=Ako hc;omega)
  have h:=Bf dj;try dsimp only at h
  have ag:m.Bases.length=k1:=by have:=Ako hc;omega
  subst ag
  refine xt (qe (qe (bs (qn (sq (ar rfl (qn (rt ?_))))))))
  cases h;exact en Tryz.results156
 have dy:k1<m.Bases.length:=by have:=Akp hc;omega
 obtain⟨bb,b1,ei,h,az⟩:=Bc az dy
 have jc:=A9 ei
 have cq:=wk (k:=k1) (by omega)
 unfold J4 at h;try dsimp only at h
 refine sk (qn (sq (bk (sq (rg rfl fun K j=>?_)))))
 refine Bo.of (f:=Bb) (l:=m.Bases) jc ?_
 refine nS ?_
 refine j _ _ (qn (sq ?_))
 refine rg rfl fun K j=>?_
 revert h;refine gt (fun hc h=>?_) fun hc h=>?_
 ·obtain⟨au,gp,h⟩:=Ah h
  refine Bo.of (f:=Bb) (l:=m.Bases) gp ?_
  refine nS ?_
  refine j _ _ (qn ?_)
  revert h;refine ca rfl (fun hc h=>?_) fun hc h=>?_
  ·refine sq (ar rfl (qn (rt (br (qr (qr ?_))))))
   obtain rfl:=Aa h
   obtain rfl:=Ae az
   replace h:=Ao dj
   refine br (qr ?_)
   cases h;exact en Tryz.results156
  refine sk (bn (qn (ar rfl (qn ?_))))
  obtain rfl:=Aa h
  refine⟨(k1+1,(),()),⟨by dsimp only;omega,Aj az⟩,by dsimp only;omega,?_,?_⟩
  ·exact cuw cq
  exact cuw cq
 refine j _ _ (qn ?_)
 refine AWP.cond (Bj ?_)
 refine sk (bn (qn (ar rfl (qn ?_))))
 obtain rfl:=Aa h
 refine⟨(k1+1,(),()),⟨by dsimp only;omega,Aj az⟩,by dsimp only;omega,?_,?_⟩
 ·exact cuw cq
 exact cuw cq
def Mf (m:Bd):Option (Int):=
 (bif (decide (64<((m.Nodes.length:Nat):Int)))then some 4 else(bif (decide (32<((m.Lifts.length:Nat):Int)))then some 4 else(bif (decide (64<((m.Runs.length:Nat):Int)))then some 4 else(bif (decide (64<((m.Bases.length:Nat):Int)))then some 4 else(Nb m).bind fun y1=>(bif (decide (y1≠0))then some y1 else(Nc m).bind fun y2=>(bif (decide (y2≠0))then some y2 else(N0 m).bind fun y3=>(bif (decide (y3≠0))then some y3 else(Nd m).bind fun y4=>some y4)))))))
theorem Zc (m:Bd) {r:Int} (h:Mf m=some r):Ad Tryz.prog 74 [.agg (Ct m)] (·= .int .i64 r):=by
 refine Ad.nle (Ad.intro Tryz.func74 rfl rfl (by show _≤45;simp) ?_)
 unfold Mf at h
 refine nS (sq ?_)
 refine ar rfl (qn (sq (sq ?_)))
 refine rg rfl fun K j=>?_
 intro hm
 revert h;refine gf (fun hc h=>?_) fun hc h=>?_
 rotate_left
 ·refine j _ _ (qn ?_)
  refine AWP.cond (Ai ?_)
  refine sq (ar rfl (qn (rt (qr ?_))))
  cases h;exact en Tryz.results74
 intro hm
 revert h;refine gf (fun hc h=>?_) fun hc h=>?_
 rotate_left
 ·refine j _ _ (qn ?_)
  refine AWP.cond (Ai ?_)
  refine sq (ar rfl (qn (rt (qr ?_))))
  cases h;exact en Tryz.results74
 intro hm
 revert h;refine gf (fun hc h=>?_) fun hc h=>?_
 rotate_left
 ·refine j _ _ (qn ?_)
  refine AWP.cond (Ai ?_)
  refine sq (ar rfl (qn (rt (qr ?_))))
  cases h;exact en Tryz.results74
 intro hm
 refine j _ _ (qn ?_)
 revert h;refine ca rfl (fun hc h=>?_) fun hc h=>?_
 ·refine sq (ar rfl (qn (rt (qr ?_))))
  cases h;exact en Tryz.results74
 refine sk (qn (sq (sq (rg rfl fun K j=>?_))))
 obtain⟨y1,bp,h⟩:=Ah h
 refine Al.pure Tryz.call153 (T8 m bp) rfl fun _ hr=>?_
 subst hr
 refine nS ?_
 refine j _ _ (qn (sq ?_))
 refine ar rfl (qn ?_)
 revert h;refine ca rfl (fun hc h=>?_) fun hc h=>?_
 ·refine sq (ar rfl (qn (rt (qr ?_))))
  cases h;exact en Tryz.results74
 refine sk (qn (sq (sq (rg rfl fun K j=>?_))))
 obtain⟨y2,dn,h⟩:=Ah h
 refine Al.pure Tryz.call154 (T9 m dn) rfl fun _ hr=>?_
 subst hr
 refine nS ?_
 refine j _ _ (qn (sq ?_))
 refine ar rfl (qn ?_)
 revert h;refine ca rfl (fun hc h=>?_) fun hc h=>?_
 ·refine sq (ar rfl (qn (rt (qr ?_))))
  cases h;exact en Tryz.results74
 refine sk (qn (sq (sq (rg rfl fun K j=>?_))))
 obtain⟨y3,bx,h⟩:=Ah h
 refine Al.pure Tryz.call155 (Ut m bx) rfl fun _ hr=>?_
 subst hr
 refine nS ?_
 refine j _ _ (qn (sq ?_))
 refine ar rfl (qn ?_)
 revert h;refine ca rfl (fun hc h=>?_) fun hc h=>?_
 ·refine sq (ar rfl (qn (rt (qr ?_))))
  cases h;exact en Tryz.results74
 refine sk (qn (sq (rg rfl fun K j=>?_)))
 obtain⟨y4,cn,h⟩:=Ah h
 refine Al.pure Tryz.call156 (Ua m cn) rfl fun _ hr=>?_
 subst hr
 refine nS ?_
 refine j _ _ (qn (rt ?_))
 cases h;exact en Tryz.results74
def M7 (c:Bn):Option (Bool):=
 (bif (decide (1≤c.Kind))then (bif (decide (c.Kind≤3))then (bif (decide (1≤c.Target))then (bif (decide (c.Target≤9999))then (bif (decide (1≤c.By))then (bif (decide (c.By≤6))then (bif (decide (0≤c.Since))then some (decide (c.Since≤20000000))else some false)else some false)else some false)else some false)else some false)else some false)else some false)
theorem Xl (c:Bn) {r:Bool} (h:M7 c=some r):Ad Tryz.prog 157 [.agg (Au c)] (·= .bool r):=by
 refine Ad.nle (Ad.intro Tryz.func157 rfl rfl (by show _≤41;simp) ?_)
 unfold M7 at h
 refine nS (sq ?_)
 refine ar rfl (qn (sq ?_))
 refine rg rfl fun K j=>?_
 revert h;refine gt (fun hc h=>?_) fun hc h=>?_
 rotate_left
 ·refine j _ _ (qn (rt ?_))
  cases h;exact en Tryz.results157
 revert h;refine gt (fun hc h=>?_) fun hc h=>?_
 rotate_left
 ·refine j _ _ (qn (rt ?_))
  cases h;exact en Tryz.results157
 revert h;refine gt (fun hc h=>?_) fun hc h=>?_
 ·revert h;refine gt (fun hc h=>?_) fun hc h=>?_
  ·revert h;refine gt (fun hc h=>?_) fun hc h=>?_
   ·revert h;refine gt (fun hc h=>?_) fun hc h=>?_
    ·revert h;refine gt (fun hc h=>?_) fun hc h=>?_
     ·refine j _ _ (qn (rt ?_))
      cases h;exact en Tryz.results157
     refine j _ _ (qn (rt ?_))
     cases h;exact en Tryz.results157
    refine j _ _ (qn (rt ?_))
    cases h;exact en Tryz.results157
   refine j _ _ (qn (rt ?_))
   cases h;exact en Tryz.results157
  refine j _ _ (qn (rt ?_))
  cases h;exact en Tryz.results157
 refine j _ _ (qn (rt ?_))
 cases h;exact en Tryz.results157
def Jz (c:Bn):Option (Ni):=
 some (Ni.mk c.Kind c.Target c.By)
theorem Se (c:Bn) {r:Ni} (h:Jz c=some r):Ad Tryz.prog 159 [.agg (Au c)] (·= .agg (Tx r)):=by
 refine Ad.nle (Ad.intro Tryz.func159 rfl rfl (by show _≤10;simp) ?_)
 unfold Jz at h
 refine nS (sq ?_)
 refine ar rfl (qn (sq ?_))
 refine ar rfl (qn (rt ?_))
 cases h;exact en Tryz.results159
def Ju (k_:Ni) (k0:Nat) (ab:Bn) (sv:Unit):Option (Out (Unit) (Int)):=
 (Jz ab).bind fun y3=>(bif ((decide (y3.kind=k_.kind))&&((decide (y3.target=k_.target))&&(decide (y3.by_=k_.by_))))then some (Out.ret ((k0:Nat):Int))else some (Out.next ()))
def Ox (l:List Bn) (k_:Ni):Option (Int):=
 (An (Ju k_) 0 l ()).bind fun o0=>o0.on fun s0=>some (-1)
theorem aY (l:List Bn) (k_:Ni) {r:Int} (h:Ox l k_=some r):Ad Tryz.prog 158 [.sl 4 (l.map Au),.agg (Tx k_)] (·= .int .i64 r):=by
 refine Ad.nle (Ad.intro Tryz.func158 rfl rfl (by show _≤8;simp) ?_)
 unfold Ox at h
 refine nS (sq ?_)
 refine ar rfl (qn (sq ?_))
 refine rg rfl fun K j=>?_
 refine Al.inline Tryz.call239 Tryz.func239 rfl rfl (by show _≤19;simp) ?_
 refine nS (sq ?_)
 refine ar rfl (qn (sq (sq ?_)))
 refine rg rfl fun K j=>?_
 intro hm
 refine j _ _ (qn (bk ?_));clear j K
 obtain⟨o0,aa,ae⟩:=Ah h
 clear h
 refine AWP.Bw (ι:=Nat×(Unit)×(Unit)) (fun zz=>[(0,.sl 4 (l.map Au)),(1,.func 240 [.ptr 0 0]),(7,.int .i64 ((l.length:Nat):Int)),(8,.int .i64 ((zz.1:Nat):Int))]) (fun zz=>[.box [.int .i64 k_.kind,.int .i64 k_.target,.int .i64 k_.by_]]) (fun zz=>zz.1≤l.length∧An (Ju k_) zz.1 ((l).drop zz.1) zz.2.1=some o0) (fun zz=>l.length - zz.1) (0,(),()) ⟨Nat.zero_le _,aa⟩ cu cu (fun x=>⟨rfl,rfl,rfl⟩) ?_
 clear aa
 rintro⟨k0,⟨⟩,⟨⟩⟩ ⟨bg,aa⟩
 dsimp only at bg aa ⊢
 refine sq (ar rfl (qn (sq ?_)))
 refine AWP.cond (Am (fun hc=>?_) (fun hc=>?_))
 rotate_left
 ·obtain rfl:=Bg aa (fun hl=>by have:=Ako hc;omega)
  have h:=Bf ae;try dsimp only at h
  have ag:l.length=k0:=by have:=Ako hc;omega
  subst ag
  refine xt (qe (qe (bs (qn (sq (ar rfl (qn (rt ?_))))))))
  refine nSc Tryz.results239 ?_
  refine j _ _ (qn (rt ?_))
  cases h;exact en Tryz.results158
 have ah:k0<l.length:=by have:=Akp hc;omega
 obtain⟨ab,b0,aj,h,aa⟩:=Bc aa ah
 have aw:=A9 aj
 have ak:=wk (k:=k0) (by omega)
 unfold Ju at h;try dsimp only at h
 refine sk (qn (sq (bk (sq (ar rfl (qn (sq ?_)))))))
 refine rg rfl fun K j=>?_
 refine Bo.of (f:=Au) (l:=l) aw ?_
 refine nS ?_
 refine Al.inline Tryz.call240 Tryz.func240 rfl rfl (by show _≤8;simp) ?_
 refine nS (sq ?_)
 refine ar rfl (qn (sq ?_))
 refine AWP.draw Tryz.mixed (by kernel_rfl) ?_;intro K j
 refine nS ?_
 obtain⟨y3,bx,h⟩:=Ah h
 refine Cf.pure Tryz.call159 (Se ab bx) rfl ?_
 refine nS ?_
 refine j _ _ _ (by kernel_rfl) ?_;clear j K
 refine qn (rt (nSc Tryz.results240 ?_))
 refine j _ _ (qn ?_);clear j K
 revert h;refine ca rfl (fun hc h=>?_) fun hc h=>?_
 ·refine sq (ar rfl (qn (rt (br (qr (qr ?_))))))
  obtain rfl:=Aa h
  obtain rfl:=Ae aa
  replace h:=Ao ae
  refine br (qr (nSc Tryz.results239 ?_))
  refine j _ _ (qn (rt ?_))
  cases h;exact en Tryz.results158
 refine sk (bn (qn (ar rfl (qn ?_))))
 obtain rfl:=Aa h
 refine⟨(k0+1,(),()),⟨by dsimp only;omega,Aj aa⟩,by dsimp only;omega,?_,?_⟩
 ·exact cuw ak
 exact cuw ak
def L5 (l:List Bn) (k0:Nat) (ab:Bn) (sv:Unit):Option (Out (Unit) (Int)):=
 (M7 ab).bind fun y3=>(bif (!y3)then some (Out.ret 2)else okB (decide (0≤((k0:Nat):Int)∧((k0:Nat):Int)≤((l.length:Nat):Int))) ((Jz ab).bind fun y4=>(Ox (l.take k0) y4).bind fun y5=>(bif (decide (0≤y5))then some (Out.ret 7)else some (Out.next ()))))
def Mv (l:List Bn):Option (Int):=
 (bif (decide (200<((l.length:Nat):Int)))then some 4 else(An (L5 l) 0 l ()).bind fun o0=>o0.on fun s0=>some 0)
theorem Zw (l:List Bn) {r:Int} (h:Mv l=some r):Ad Tryz.prog 75 [.sl 4 (l.map Au)] (·= .int .i64 r):=by
 refine Ad.nle (Ad.intro Tryz.func75 rfl rfl (by show _≤26;simp) ?_)
 unfold Mv at h
 refine nS (sq ?_)
 refine ar rfl (qn (sq (sq ?_)))
 refine rg rfl fun K j=>?_
 intro hm
 refine j _ _ (qn ?_)
 revert h;refine ca rfl (fun hc h=>?_) fun hc h=>?_
 ·refine sq (ar rfl (qn (rt (qr ?_))))
  cases h;exact en Tryz.results75
 refine sk (qn (sq (sq (rg rfl fun K j=>?_))))
 intro hm
 refine j _ _ (qn (bk ?_))
 obtain⟨o0,aa,ae⟩:=Ah h
 clear h
 refine AWP.Bw (ι:=Nat×(Unit)×(Unit)) (fun zz=>[(0,.sl 4 (l.map Au)),(8,.sl 4 (l.map Au)),(9,.int .i64 ((l.length:Nat):Int)),(10,.int .i64 ((zz.1:Nat):Int))]) (fun zz=>[]) (fun zz=>zz.1≤l.length∧An (L5 l) zz.1 ((l).drop zz.1) zz.2.1=some o0) (fun zz=>l.length - zz.1) (0,(),()) ⟨Nat.zero_le _,aa⟩ cu cu (fun x=>⟨rfl,rfl,rfl⟩) ?_
 clear aa
 rintro⟨k0,⟨⟩,⟨⟩⟩ ⟨bg,aa⟩
 dsimp only at bg aa ⊢
 refine sq (ar rfl (qn (sq ?_)))
 refine AWP.cond (Am (fun hc=>?_) (fun hc=>?_))
 rotate_left
 ·obtain rfl:=Bg aa (fun hl=>by have:=Ako hc;omega)
  have h:=Bf ae;try dsimp only at h
  have ag:l.length=k0:=by have:=Ako hc;omega
  subst ag
  refine xt (qe (qe (bs (qn (sq (ar rfl (qn (rt ?_))))))))
  cases h;exact en Tryz.results75
 have ah:k0<l.length:=by have:=Akp hc;omega
 obtain⟨ab,b0,aj,h,aa⟩:=Bc aa ah
 have aw:=A9 aj
 have ak:=wk (k:=k0) (by omega)
 unfold L5 at h;try dsimp only at h
 refine sk (qn (sq (bk (sq (rg rfl fun K j=>?_)))))
 refine Bo.of (f:=Au) (l:=l) aw ?_
 refine nS ?_
 refine j _ _ (qn (sq (sq ?_)))
 refine rg rfl fun K j=>?_
 obtain⟨y3,bx,h⟩:=Ah h
 refine Al.pure Tryz.call157 (Xl ab bx) rfl fun _ hr=>?_
 subst hr
 refine nS ?_
 refine j _ _ (qn ?_)
 revert h;refine ca rfl (fun hc h=>?_) fun hc h=>?_
 ·refine sq (ar rfl (qn (rt (qr (br (qr (qr ?_)))))))
  obtain rfl:=Aa h
  obtain rfl:=Ae aa
  replace h:=Ao ae
  refine br (qr ?_)
  cases h;exact en Tryz.results75
 refine sk (qn (sq ?_))
 refine AWP.draw Tryz.mixed (by kernel_rfl) ?_;intro K j
 refine nS ?_
 obtain⟨hk,h⟩:=Fz h
 intro hm
 (repeat(refine⟨by omega,?_⟩))
 obtain⟨y4,cn,h⟩:=Ah h
 refine Cf.pure Tryz.call159 (Se ab cn) rfl ?_
 refine nS ?_
 obtain⟨y5,db,h⟩:=Ah h
 refine Cf.pure Tryz.call158 (aY (l.take k0) y4 db) rfl ?_
 refine nS ?_
 refine j _ _ _ (by kernel_rfl) ?_
 refine qn ?_
 revert h;refine ca rfl (fun hc h=>?_) fun hc h=>?_
 ·refine sq (ar rfl (qn (rt (br (qr (qr ?_))))))
  obtain rfl:=Aa h
  obtain rfl:=Ae aa
  replace h:=Ao ae
  refine br (qr ?_)
  cases h;exact en Tryz.results75
 refine sk (bn (qn (ar rfl (qn ?_))))
 obtain rfl:=Aa h
 refine⟨(k0+1,(),()),⟨by dsimp only;omega,Aj aa⟩,by dsimp only;omega,?_,?_⟩
 ·exact cuw ak
 exact cuw ak
def L0 (l:Bq) (k1:Nat) (bb:F2) (sv:Unit):Option (Out (Unit) (Int)):=
 (Br l.Items bb.Item).bind fun y4=>(bif (!y4)then some (Out.ret 8)else (bif (decide (bb.By<1))then some (Out.ret 17)else (bif (decide (9999<bb.By))then some (Out.ret 17)else (bif (decide (bb.At<0))then some (Out.ret 2)else (bif (decide (20000000<bb.At))then some (Out.ret 2)else (bif (decide (0<((k1:Nat):Int)))then (Dv l.Signs (IntKind.i64.wrap (((k1:Nat):Int) - 1))).bind fun ch=>(bif (decide (bb.At<ch.At))then some (Out.ret 11)else some (Out.next ()))else some (Out.next ())))))))
def Lx (l:Bq):Option (Int):=
 (An (L0 l) 0 l.Signs ()).bind fun o1=>o1.on fun s1=>some 0
def Ly (l:Bq) (k5:Nat) (fh:Int) (sv:Unit):Option (Out (Unit) (Int)):=
 (bif (decide (fh<1))then some (Out.ret 2)else (bif (decide (9999<fh))then some (Out.ret 2)else okB (decide (0≤((k5:Nat):Int)∧((k5:Nat):Int)≤((l.Items.length:Nat):Int))) ((Br (l.Items.take k5) fh).bind fun y8=>(bif y8 then some (Out.ret 7)else some (Out.next ())))))
def Jy (l:Bq):Option (Int):=
 (bif (decide (64<((l.Items.length:Nat):Int)))then some 4 else(bif (decide (200<((l.Signs.length:Nat):Int)))then some 4 else(bif (decide (l.Every<1))then some 2 else(bif (decide (604800<l.Every))then some 2 else(An (Ly l) 0 l.Items ()).bind fun o5=>o5.on fun s5=>Lx l))))
theorem R8 (l:Bq) {r:Int} (h:Jy l=some r):Ad Tryz.prog 160 [.agg (Fu l)] (·= .int .i64 r):=by
 refine Ad.nle (Ad.intro Tryz.func160 rfl rfl (by show _≤91;simp) ?_)
 unfold Jy at h
 refine nS (sq ?_)
 refine ar rfl (qn (sq (sq ?_)))
 refine rg rfl fun K j=>?_
 intro hm
 revert h;refine gf (fun hc h=>?_) fun hc h=>?_
 rotate_left
 ·refine j _ _ (qn ?_)
  refine AWP.cond (Ai ?_)
  refine sq (ar rfl (qn (rt (qr ?_))))
  cases h;exact en Tryz.results160
 intro hm
 refine j _ _ (qn ?_)
 revert h;refine ca rfl (fun hc h=>?_) fun hc h=>?_
 ·refine sq (ar rfl (qn (rt (qr ?_))))
  cases h;exact en Tryz.results160
 refine sk (qn (sq (sq (rg rfl fun K j=>?_))))
 revert h;refine gf (fun hc h=>?_) fun hc h=>?_
 rotate_left
 ·refine j _ _ (qn ?_)
  refine AWP.cond (Ai ?_)
  refine sq (ar rfl (qn (rt (qr ?_))))
  cases h;exact en Tryz.results160
 refine j _ _ (qn ?_)
 revert h;refine ca rfl (fun hc h=>?_) fun hc h=>?_
 ·refine sq (ar rfl (qn (rt (qr ?_))))
  cases h;exact en Tryz.results160
 refine sk (qn ?_)
 refine AWP.Mz (ι:=(Unit)×(Unit)) (fun zz=>[(1,.ptr 0 0)]) (fun zz=>[.box [.sl 1 (l.Items.map Bb),.int .i64 l.Every,.sl 3 (l.Signs.map Cl)]]) (fun zz=>Lx l=some r) (fun zz=>⟨rfl,rfl,rfl⟩) ?_ ?_
 ·refine sq ?_
  refine rg rfl fun K j=>?_
  intro hm
  refine j _ _ (qn (bk ?_))
  obtain⟨o5,ep,nc⟩:=Ah h
  clear h
  refine AWP.Bw (ι:=Nat×(Unit)×(Unit)) (fun zz=>[(1,.ptr 0 0),(26,.sl 1 (l.Items.map Bb)),(27,.int .i64 ((l.Items.length:Nat):Int)),(28,.int .i64 ((zz.1:Nat):Int))]) (fun zz=>[.box [.sl 1 (l.Items.map Bb),.int .i64 l.Every,.sl 3 (l.Signs.map Cl)]]) (fun zz=>zz.1≤l.Items.length∧An (Ly l) zz.1 ((l.Items).drop zz.1) zz.2.1=some o5) (fun zz=>l.Items.length - zz.1) (0,(),()) ⟨Nat.zero_le _,ep⟩ cu cu (fun x=>⟨rfl,rfl,rfl⟩) ?_
  clear ep
  rintro⟨k5,⟨⟩,⟨⟩⟩ ⟨hk5,ep⟩
  dsimp only at hk5 ep ⊢
  refine sq (ar rfl (qn (sq ?_)))
  refine AWP.cond (Am (fun hc=>?_) (fun hc=>?_))
  rotate_left
  ·obtain rfl:=Bg ep (fun hl=>by have:=Ako hc;omega)
   have h:=Bf nc;try dsimp only at h
   have ag:l.Items.length=k5:=by have:=Ako hc;omega
   subst ag
   refine xt (qe (qe (bs (qn ?_))))
   exact⟨((),()),h,cu,cu⟩
  have qb:k5<l.Items.length:=by have:=Akp hc;omega
  obtain⟨fh,b5,pq,h,ep⟩:=Bc ep qb
  have yu:=A9 pq
  have rb:=wk (k:=k5) (by omega)
  unfold Ly at h;try dsimp only at h
  refine sk (qn (sq (bk (sq (rg rfl fun K j=>?_)))))
  refine Bo.of (f:=Bb) (l:=l.Items) yu ?_
  refine nS ?_
  refine j _ _ (qn (sq (sq ?_)))
  refine rg rfl fun K j=>?_
  revert h;refine gf (fun hc h=>?_) fun hc h=>?_
  rotate_left
  ·refine j _ _ (qn ?_)
   refine AWP.cond (Ai ?_)
   refine sq (ar rfl (qn (rt (qr (br (qr (qr ?_)))))))
   obtain rfl:=Aa h
   obtain rfl:=Ae ep
   replace h:=Ao nc
   refine br (qr ?_)
   cases h;exact en Tryz.results160
  refine j _ _ (qn ?_)
  revert h;refine ca rfl (fun hc h=>?_) fun hc h=>?_
  ·refine sq (ar rfl (qn (rt (qr (br (qr (qr ?_)))))))
   obtain rfl:=Aa h
   obtain rfl:=Ae ep
   replace h:=Ao nc
   refine br (qr ?_)
   cases h;exact en Tryz.results160
  refine sk (qn (sq (rg rfl fun K j=>?_)))
  obtain⟨hk,h⟩:=Fz h
  intro hm
  (repeat(refine⟨by omega,?_⟩))
  obtain⟨y8,fp,h⟩:=Ah h
  refine Al.pure Tryz.call54 (Bt (l.Items.take k5) fh fp) rfl fun _ hr=>?_
  subst hr
  refine nS ?_
  refine j _ _ (qn ?_)
  revert h;refine ca rfl (fun hc h=>?_) fun hc h=>?_
  ·refine sq (ar rfl (qn (rt (br (qr (qr ?_))))))
   obtain rfl:=Aa h
   obtain rfl:=Ae ep
   replace h:=Ao nc
   refine br (qr ?_)
   cases h;exact en Tryz.results160
  refine sk (bn (qn (ar rfl (qn ?_))))
  obtain rfl:=Aa h
  refine⟨(k5+1,(),()),⟨by dsimp only;omega,Aj ep⟩,by dsimp only;omega,?_,?_⟩
  ·exact cuw rb
  exact cuw rb
 rintro⟨⟨⟩,⟨⟩⟩ h
 try dsimp only at h ⊢
 unfold Lx at h;try dsimp only at h
 refine sq (sq (rg rfl fun K j=>?_))
 intro hm
 refine j _ _ (qn (bk ?_))
 obtain⟨o1,az,dj⟩:=Ah h
 clear h
 refine AWP.Bw (ι:=Nat×(Unit)×(Unit)) (fun zz=>[(1,.ptr 0 0),(47,.sl 3 (l.Signs.map Cl)),(48,.int .i64 ((l.Signs.length:Nat):Int)),(49,.int .i64 ((zz.1:Nat):Int))]) (fun zz=>[.box [.sl 1 (l.Items.map Bb),.int .i64 l.Every,.sl 3 (l.Signs.map Cl)]]) (fun zz=>zz.1≤l.Signs.length∧An (L0 l) zz.1 ((l.Signs).drop zz.1) zz.2.1=some o1) (fun zz=>l.Signs.length - zz.1) (0,(),()) ⟨Nat.zero_le _,az⟩ cu cu (fun x=>⟨rfl,rfl,rfl⟩) ?_
 clear az
 rintro⟨k1,⟨⟩,⟨⟩⟩ ⟨jd,az⟩
 dsimp only at jd az ⊢
 refine sq (ar rfl (qn (sq ?_)))
 refine AWP.cond (Am (fun hc=>?_) (fun hc=>?_))
 rotate_left
 ·obtain rfl:=Bg az (fun hl=>by have:=Ako hc;omega)
  have h:=Bf dj;try dsimp only at h
  have ag:l.Signs.length=k1:=by have:=Ako hc;omega
  subst ag
  refine xt (qe (qe (bs (qn (sq (ar rfl (qn (rt ?_))))))))
  cases h;exact en Tryz.results160
 have dy:k1<l.Signs.length:=by have:=Akp hc;omega
 obtain⟨bb,b1,ei,h,az⟩:=Bc az dy
 have jc:=A9 ei
 have cq:=wk (k:=k1) (by omega)
 unfold L0 at h;try dsimp only at h
 refine sk (qn (sq (bk (sq (rg rfl fun K j=>?_)))))
 refine Bo.of (f:=Cl) (l:=l.Signs) jc ?_
 refine nS ?_
 refine j _ _ (qn (sq (sq ?_)))
 refine rg rfl fun K j=>?_
 obtain⟨y4,cn,h⟩:=Ah h
 refine Al.pure Tryz.call54 (Bt l.Items bb.Item cn) rfl fun _ hr=>?_
 subst hr
 refine nS ?_
 refine j _ _ (qn ?_)
 revert h;refine ca rfl (fun hc h=>?_) fun hc h=>?_
 ·refine sq (ar rfl (qn (rt (qr (br (qr (qr ?_)))))))
  obtain rfl:=Aa h
  obtain rfl:=Ae az
  replace h:=Ao dj
  refine br (qr ?_)
  cases h;exact en Tryz.results160
 refine sk (qn (sq (sq (rg rfl fun K j=>?_))))
 revert h;refine gf (fun hc h=>?_) fun hc h=>?_
 rotate_left
 ·refine j _ _ (qn ?_)
  refine AWP.cond (Ai ?_)
  refine sq (ar rfl (qn (rt (qr (br (qr (qr ?_)))))))
  obtain rfl:=Aa h
  obtain rfl:=Ae az
  replace h:=Ao dj
  refine br (qr ?_)
  cases h;exact en Tryz.results160
 refine j _ _ (qn ?_)
 revert h;refine ca rfl (fun hc h=>?_) fun hc h=>?_
 ·refine sq (ar rfl (qn (rt (qr (br (qr (qr ?_)))))))
  obtain rfl:=Aa h
  obtain rfl:=Ae az
  replace h:=Ao dj
  refine br (qr ?_)
  cases h;exact en Tryz.results160
 refine sk (qn (sq (sq (rg rfl fun K j=>?_))))
 revert h;refine gf (fun hc h=>?_) fun hc h=>?_
 rotate_left
 ·refine j _ _ (qn ?_)
  refine AWP.cond (Ai ?_)
  refine sq (ar rfl (qn (rt (qr (br (qr (qr ?_)))))))
  obtain rfl:=Aa h
  obtain rfl:=Ae az
  replace h:=Ao dj
  refine br (qr ?_)
  cases h;exact en Tryz.results160
 refine j _ _ (qn ?_)
 revert h;refine ca rfl (fun hc h=>?_) fun hc h=>?_
 ·refine sq (ar rfl (qn (rt (qr (br (qr (qr ?_)))))))
  obtain rfl:=Aa h
  obtain rfl:=Ae az
  replace h:=Ao dj
  refine br (qr ?_)
  cases h;exact en Tryz.results160
 refine sk (qn (sq ?_))
 refine AWP.draw Tryz.mixed (by kernel_rfl) ?_;intro K j
 refine nS ?_
 revert h;refine gt (fun hc h=>?_) fun hc h=>?_
 ·obtain⟨ch,gn,h⟩:=Ah h
  refine Bo.of (f:=Cl) (l:=l.Signs) gn ?_
  refine nS ?_
  refine j _ _ _ (by kernel_rfl) ?_
  refine qn ?_
  revert h;refine ca rfl (fun hc h=>?_) fun hc h=>?_
  ·refine sq (ar rfl (qn (rt (br (qr (qr ?_))))))
   obtain rfl:=Aa h
   obtain rfl:=Ae az
   replace h:=Ao dj
   refine br (qr ?_)
   cases h;exact en Tryz.results160
  refine sk (bn (qn (ar rfl (qn ?_))))
  obtain rfl:=Aa h
  refine⟨(k1+1,(),()),⟨by dsimp only;omega,Aj az⟩,by dsimp only;omega,?_,?_⟩
  ·exact cuw cq
  exact cuw cq
 refine j _ _ _ (by kernel_rfl) ?_
 refine qn ?_
 refine AWP.cond (Bj ?_)
 refine sk (bn (qn (ar rfl (qn ?_))))
 obtain rfl:=Aa h
 refine⟨(k1+1,(),()),⟨by dsimp only;omega,Aj az⟩,by dsimp only;omega,?_,?_⟩
 ·exact cuw cq
 exact cuw cq
def F7 (id_:Int) (k0:Nat) (ab:C4) (sv:Unit):Option (Out (Unit) (Int)):=
 (bif (decide (ab.ID=id_))then some (Out.ret ((k0:Nat):Int))else some (Out.next ()))
def Mq (l:List C4) (id_:Int):Option (Int):=
 (An (F7 id_) 0 l ()).bind fun o0=>o0.on fun s0=>some (-1)
theorem Zl (l:List C4) (id_:Int) {r:Int} (h:Mq l id_=some r):Ad Tryz.prog 161 [.sl 3 (l.map Ay),.int .i64 id_] (·= .int .i64 r):=by
 refine Ad.nle (Ad.intro Tryz.func161 rfl rfl (by show _≤8;simp) ?_)
 unfold Mq at h
 refine nS (sq ?_)
 refine ar rfl (qn (sq ?_))
 refine rg rfl fun K j=>?_
 refine Al.inline Tryz.call241 Tryz.func241 rfl rfl (by show _≤19;simp) ?_
 refine nS (sq ?_)
 refine ar rfl (qn (sq (sq ?_)))
 refine rg rfl fun K j=>?_
 intro hm
 refine j _ _ (qn (bk ?_));clear j K
 obtain⟨o0,aa,ae⟩:=Ah h
 clear h
 refine AWP.Bw (ι:=Nat×(Unit)×(Unit)) (fun zz=>[(0,.sl 3 (l.map Ay)),(1,.func 242 [.ptr 0 0]),(7,.int .i64 ((l.length:Nat):Int)),(8,.int .i64 ((zz.1:Nat):Int))]) (fun zz=>[.box [.int .i64 id_]]) (fun zz=>zz.1≤l.length∧An (F7 id_) zz.1 ((l).drop zz.1) zz.2.1=some o0) (fun zz=>l.length - zz.1) (0,(),()) ⟨Nat.zero_le _,aa⟩ cu cu (fun x=>⟨rfl,rfl,rfl⟩) ?_
 clear aa
 rintro⟨k0,⟨⟩,⟨⟩⟩ ⟨bg,aa⟩
 dsimp only at bg aa ⊢
 refine sq (ar rfl (qn (sq ?_)))
 refine AWP.cond (Am (fun hc=>?_) (fun hc=>?_))
 rotate_left
 ·obtain rfl:=Bg aa (fun hl=>by have:=Ako hc;omega)
  have h:=Bf ae;try dsimp only at h
  have ag:l.length=k0:=by have:=Ako hc;omega
  subst ag
  refine xt (qe (qe (bs (qn (sq (ar rfl (qn (rt ?_))))))))
  refine nSc Tryz.results241 ?_
  refine j _ _ (qn (rt ?_))
  cases h;exact en Tryz.results161
 have ah:k0<l.length:=by have:=Akp hc;omega
 obtain⟨ab,b0,aj,h,aa⟩:=Bc aa ah
 have aw:=A9 aj
 have ak:=wk (k:=k0) (by omega)
 unfold F7 at h;try dsimp only at h
 refine sk (qn (sq (bk (sq (ar rfl (qn (sq ?_)))))))
 refine rg rfl fun K j=>?_
 refine Bo.of (f:=Ay) (l:=l) aw ?_
 refine nS ?_
 refine Al.inline Tryz.call242 Tryz.func242 rfl rfl (by show _≤8;simp) ?_
 refine nS (sq ?_)
 refine ar rfl (qn (sq ?_))
 refine ar rfl (qn (rt ?_))
 refine nSc Tryz.results242 ?_
 refine j _ _ (qn ?_);clear j K
 revert h;refine ca rfl (fun hc h=>?_) fun hc h=>?_
 ·refine sq (ar rfl (qn (rt (br (qr (qr ?_))))))
  obtain rfl:=Aa h
  obtain rfl:=Ae aa
  replace h:=Ao ae
  refine br (qr (nSc Tryz.results241 ?_))
  refine j _ _ (qn (rt ?_))
  cases h;exact en Tryz.results161
 refine sk (bn (qn (ar rfl (qn ?_))))
 obtain rfl:=Aa h
 refine⟨(k0+1,(),()),⟨by dsimp only;omega,Aj aa⟩,by dsimp only;omega,?_,?_⟩
 ·exact cuw ak
 exact cuw ak
def M5 (p:B9) (k1:Nat) (bb:C4) (sv:Unit):Option (Out (Unit) (Int)):=
 (bif (decide (bb.ID<1))then some (Out.ret 2)else (bif (decide (9999<bb.ID))then some (Out.ret 2)else (bif (decide (bb.At<0))then some (Out.ret 2)else (bif (decide (20000000<bb.At))then some (Out.ret 2)else okB (decide (0≤((k1:Nat):Int)∧((k1:Nat):Int)≤((p.Hazards.length:Nat):Int))) ((Mq (p.Hazards.take k1) bb.ID).bind fun y4=>(bif (decide (0≤y4))then some (Out.ret 7)else (K9 p bb.Run).bind fun y5=>(bif (decide (y5<0))then some (Out.ret 8)else some (Out.next ()))))))))
def M3 (p:B9):Option (Int):=
 (An (M5 p) 0 p.Hazards ()).bind fun o1=>o1.on fun s1=>some 0
def M4 (p:B9) (k5:Nat) (fh:Ch) (sv:Unit):Option (Out (Unit) (Int)):=
 (bif (decide (fh.Run<1))then some (Out.ret 2)else (bif (decide (9999<fh.Run))then some (Out.ret 2)else (bif (decide (0<((k5:Nat):Int)))then (Dv p.Bl (IntKind.i64.wrap (((k5:Nat):Int) - 1))).bind fun dz=>(bif (decide (fh.Run≤dz.Run))then some (Out.ret 11)else (Jy fh.List_).bind fun y9=>(bif (decide (y9≠0))then some (Out.ret y9)else some (Out.next ())))else (Jy fh.List_).bind fun cf=>(bif (decide (cf≠0))then some (Out.ret cf)else some (Out.next ())))))
def Ol (p:B9):Option (Int):=
 (bif (decide (64<((p.Bl.length:Nat):Int)))then some 4 else(bif (decide (200<((p.Hazards.length:Nat):Int)))then some 4 else(An (M4 p) 0 p.Bl ()).bind fun o5=>o5.on fun s5=>M3 p))
theorem aF (p:B9) {r:Int} (h:Ol p=some r):Ad Tryz.prog 76 [.agg (I9 p)] (·= .int .i64 r):=by
 refine Ad.nle (Ad.intro Tryz.func76 rfl rfl (by show _≤95;simp) ?_)
 unfold Ol at h
 refine nS (sq ?_)
 refine ar rfl (qn (sq (sq ?_)))
 refine rg rfl fun K j=>?_
 intro hm
 revert h;refine gf (fun hc h=>?_) fun hc h=>?_
 rotate_left
 ·refine j _ _ (qn ?_)
  refine AWP.cond (Ai ?_)
  refine sq (ar rfl (qn (rt (qr ?_))))
  cases h;exact en Tryz.results76
 intro hm
 refine j _ _ (qn ?_)
 revert h;refine ca rfl (fun hc h=>?_) fun hc h=>?_
 ·refine sq (ar rfl (qn (rt (qr ?_))))
  cases h;exact en Tryz.results76
 refine sk (qn ?_)
 refine AWP.Mz (ι:=(Unit)×(Unit)) (fun zz=>[(1,.ptr 0 0)]) (fun zz=>[.box [.sl 4 (p.Bl.map Aq),.sl 3 (p.Hazards.map Ay)]]) (fun zz=>M3 p=some r) (fun zz=>⟨rfl,rfl,rfl⟩) ?_ ?_
 ·refine sq ?_
  refine rg rfl fun K j=>?_
  intro hm
  refine j _ _ (qn (bk ?_))
  obtain⟨o5,ep,nc⟩:=Ah h
  clear h
  refine AWP.Bw (ι:=Nat×(Unit)×(Unit)) (fun zz=>[(1,.ptr 0 0),(19,.sl 4 (p.Bl.map Aq)),(20,.int .i64 ((p.Bl.length:Nat):Int)),(21,.int .i64 ((zz.1:Nat):Int))]) (fun zz=>[.box [.sl 4 (p.Bl.map Aq),.sl 3 (p.Hazards.map Ay)]]) (fun zz=>zz.1≤p.Bl.length∧An (M4 p) zz.1 ((p.Bl).drop zz.1) zz.2.1=some o5) (fun zz=>p.Bl.length - zz.1) (0,(),()) ⟨Nat.zero_le _,ep⟩ cu cu (fun x=>⟨rfl,rfl,rfl⟩) ?_
  clear ep
  rintro⟨k5,⟨⟩,⟨⟩⟩ ⟨hk5,ep⟩
  dsimp only at hk5 ep ⊢
  refine sq (ar rfl (qn (sq ?_)))
  refine AWP.cond (Am (fun hc=>?_) (fun hc=>?_))
  rotate_left
  ·obtain rfl:=Bg ep (fun hl=>by have:=Ako hc;omega)
   have h:=Bf nc;try dsimp only at h
   have ag:p.Bl.length=k5:=by have:=Ako hc;omega
   subst ag
   refine xt (qe (qe (bs (qn ?_))))
   exact⟨((),()),h,cu,cu⟩
  have qb:k5<p.Bl.length:=by have:=Akp hc;omega
  obtain⟨fh,b5,pq,h,ep⟩:=Bc ep qb
  have yu:=A9 pq
  have rb:=wk (k:=k5) (by omega)
  unfold M4 at h;try dsimp only at h
  refine sk (qn (sq (bk (sq (rg rfl fun K j=>?_)))))
  refine Bo.of (f:=Aq) (l:=p.Bl) yu ?_
  refine nS ?_
  refine j _ _ (qn (sq (sq ?_)))
  refine rg rfl fun K j=>?_
  revert h;refine gf (fun hc h=>?_) fun hc h=>?_
  rotate_left
  ·refine j _ _ (qn ?_)
   refine AWP.cond (Ai ?_)
   refine sq (ar rfl (qn (rt (qr (br (qr (qr ?_)))))))
   obtain rfl:=Aa h
   obtain rfl:=Ae ep
   replace h:=Ao nc
   refine br (qr ?_)
   cases h;exact en Tryz.results76
  refine j _ _ (qn ?_)
  revert h;refine ca rfl (fun hc h=>?_) fun hc h=>?_
  ·refine sq (ar rfl (qn (rt (qr (br (qr (qr ?_)))))))
   obtain rfl:=Aa h
   obtain rfl:=Ae ep
   replace h:=Ao nc
   refine br (qr ?_)
   cases h;exact en Tryz.results76
  refine sk (qn (sq (sq ?_)))
  refine AWP.draw Tryz.mixed (by kernel_rfl) ?_;intro K j
  refine nS ?_
  revert h;refine gt (fun hc h=>?_) fun hc h=>?_
  ·obtain⟨dz,lz,h⟩:=Ah h
   refine Bo.of (f:=Aq) (l:=p.Bl) lz ?_
   refine nS ?_
   refine j _ _ _ (by kernel_rfl) ?_
   refine qn ?_
   revert h;refine ca rfl (fun hc h=>?_) fun hc h=>?_
   ·refine sq (ar rfl (qn (rt (qr (br (qr (qr ?_)))))))
    obtain rfl:=Aa h
    obtain rfl:=Ae ep
    replace h:=Ao nc
    refine br (qr ?_)
    cases h;exact en Tryz.results76
   refine sk (qn (sq (rg rfl fun K j=>?_)))
   obtain⟨y9,ic,h⟩:=Ah h
   refine Al.pure Tryz.call160 (R8 fh.List_ ic) rfl fun _ hr=>?_
   subst hr
   refine nS ?_
   refine j _ _ (qn (sq ?_))
   refine ar rfl (qn ?_)
   revert h;refine ca rfl (fun hc h=>?_) fun hc h=>?_
   ·refine sq (ar rfl (qn (rt (br (qr (qr ?_))))))
    obtain rfl:=Aa h
    obtain rfl:=Ae ep
    replace h:=Ao nc
    refine br (qr ?_)
    cases h;exact en Tryz.results76
   refine sk (bn (qn (ar rfl (qn ?_))))
   obtain rfl:=Aa h
   refine⟨(k5+1,(),()),⟨by dsimp only;omega,Aj ep⟩,by dsimp only;omega,?_,?_⟩
   ·exact cuw rb
   exact cuw rb
  refine j _ _ _ (by kernel_rfl) ?_
  refine qn ?_
  refine AWP.cond (Bj ?_)
  refine sk (qn (sq (rg rfl fun K j=>?_)))
  obtain⟨cf,dt,h⟩:=Ah h
  refine Al.pure Tryz.call160 (R8 fh.List_ dt) rfl fun _ hr=>?_
  subst hr
  refine nS ?_
  refine j _ _ (qn (sq ?_))
  refine ar rfl (qn ?_)
  revert h;refine ca rfl (fun hc h=>?_) fun hc h=>?_
  ·refine sq (ar rfl (qn (rt (br (qr (qr ?_))))))
   obtain rfl:=Aa h
   obtain rfl:=Ae ep
   replace h:=Ao nc
   refine br (qr ?_)
   cases h;exact en Tryz.results76
  refine sk (bn (qn (ar rfl (qn ?_))))
  obtain rfl:=Aa h
  refine⟨(k5+1,(),()),⟨by dsimp only;omega,Aj ep⟩,by dsimp only;omega,?_,?_⟩
  ·exact cuw rb
  exact cuw rb
 rintro⟨⟨⟩,⟨⟩⟩ h
 try dsimp only at h ⊢
 unfold M3 at h;try dsimp only at h
 refine sq (sq (rg rfl fun K j=>?_))
 intro hm
 refine j _ _ (qn (bk ?_))
 obtain⟨o1,az,dj⟩:=Ah h
 clear h
 refine AWP.Bw (ι:=Nat×(Unit)×(Unit)) (fun zz=>[(1,.ptr 0 0),(56,.sl 3 (p.Hazards.map Ay)),(57,.int .i64 ((p.Hazards.length:Nat):Int)),(58,.int .i64 ((zz.1:Nat):Int))]) (fun zz=>[.box [.sl 4 (p.Bl.map Aq),.sl 3 (p.Hazards.map Ay)]]) (fun zz=>zz.1≤p.Hazards.length∧An (M5 p) zz.1 ((p.Hazards).drop zz.1) zz.2.1=some o1) (fun zz=>p.Hazards.length - zz.1) (0,(),()) ⟨Nat.zero_le _,az⟩ cu cu (fun x=>⟨rfl,rfl,rfl⟩) ?_
 clear az
 rintro⟨k1,⟨⟩,⟨⟩⟩ ⟨jd,az⟩
 dsimp only at jd az ⊢
 refine sq (ar rfl (qn (sq ?_)))
 refine AWP.cond (Am (fun hc=>?_) (fun hc=>?_))
 rotate_left
 ·obtain rfl:=Bg az (fun hl=>by have:=Ako hc;omega)
  have h:=Bf dj;try dsimp only at h
  have ag:p.Hazards.length=k1:=by have:=Ako hc;omega
  subst ag
  refine xt (qe (qe (bs (qn (sq (ar rfl (qn (rt ?_))))))))
  cases h;exact en Tryz.results76
 have dy:k1<p.Hazards.length:=by have:=Akp hc;omega
 obtain⟨bb,b1,ei,h,az⟩:=Bc az dy
 have jc:=A9 ei
 have cq:=wk (k:=k1) (by omega)
 unfold M5 at h;try dsimp only at h
 refine sk (qn (sq (bk (sq (rg rfl fun K j=>?_)))))
 refine Bo.of (f:=Ay) (l:=p.Hazards) jc ?_
 refine nS ?_
 refine j _ _ (qn (sq (sq ?_)))
 refine rg rfl fun K j=>?_
 revert h;refine gf (fun hc h=>?_) fun hc h=>?_
 rotate_left
 ·refine j _ _ (qn ?_)
  refine AWP.cond (Ai ?_)
  refine sq (ar rfl (qn (rt (qr (br (qr (qr ?_)))))))
  obtain rfl:=Aa h
  obtain rfl:=Ae az
  replace h:=Ao dj
  refine br (qr ?_)
  cases h;exact en Tryz.results76
 revert h;refine gf (fun hc h=>?_) fun hc h=>?_
 rotate_left
 ·refine j _ _ (qn ?_)
  refine AWP.cond (Ai ?_)
  refine sq (ar rfl (qn (rt (qr (br (qr (qr ?_)))))))
  obtain rfl:=Aa h
  obtain rfl:=Ae az
  replace h:=Ao dj
  refine br (qr ?_)
  cases h;exact en Tryz.results76
 revert h;refine gf (fun hc h=>?_) fun hc h=>?_
 rotate_left
 ·refine j _ _ (qn ?_)
  refine AWP.cond (Ai ?_)
  refine sq (ar rfl (qn (rt (qr (br (qr (qr ?_)))))))
  obtain rfl:=Aa h
  obtain rfl:=Ae az
  replace h:=Ao dj
  refine br (qr ?_)
  cases h;exact en Tryz.results76
 refine j _ _ (qn ?_)
 revert h;refine ca rfl (fun hc h=>?_) fun hc h=>?_
 ·refine sq (ar rfl (qn (rt (qr (br (qr (qr ?_)))))))
  obtain rfl:=Aa h
  obtain rfl:=Ae az
  replace h:=Ao dj
  refine br (qr ?_)
  cases h;exact en Tryz.results76
 refine sk (qn (sq (sq ?_)))
 refine AWP.draw Tryz.mixed (by kernel_rfl) ?_;intro K j
 refine nS ?_
 obtain⟨hk,h⟩:=Fz h
 intro hm
 (repeat(refine⟨by omega,?_⟩))
 obtain⟨y4,cn,h⟩:=Ah h
 refine Cf.pure Tryz.call161 (Zl (p.Hazards.take k1) bb.ID cn) rfl ?_
 refine nS ?_
 refine j _ _ _ (by kernel_rfl) ?_
 refine qn ?_
 revert h;refine ca rfl (fun hc h=>?_) fun hc h=>?_
 ·refine sq (ar rfl (qn (rt (qr (br (qr (qr ?_)))))))
  obtain rfl:=Aa h
  obtain rfl:=Ae az
  replace h:=Ao dj
  refine br (qr ?_)
  cases h;exact en Tryz.results76
 refine sk (qn (sq (rg rfl fun K j=>?_)))
 obtain⟨y5,db,h⟩:=Ah h
 refine Al.pure Tryz.call162 (Uk p bb.Run db) rfl fun _ hr=>?_
 subst hr
 refine nS ?_
 refine j _ _ (qn ?_)
 revert h;refine ca rfl (fun hc h=>?_) fun hc h=>?_
 ·refine sq (ar rfl (qn (rt (br (qr (qr ?_))))))
  obtain rfl:=Aa h
  obtain rfl:=Ae az
  replace h:=Ao dj
  refine br (qr ?_)
  cases h;exact en Tryz.results76
 refine sk (bn (qn (ar rfl (qn ?_))))
 obtain rfl:=Aa h
 refine⟨(k1+1,(),()),⟨by dsimp only;omega,Aj az⟩,by dsimp only;omega,?_,?_⟩
 ·exact cuw cq
 exact cuw cq
def Lm (l:List C5) (k0:Nat) (ab:C5) (sv:Unit):Option (Out (Unit) (Int)):=
 (bif (decide (ab.Run<1))then some (Out.ret 2)else (bif (decide (9999<ab.Run))then some (Out.ret 2)else (bif (decide (ab.Groomed<(-1)))then some (Out.ret 2)else (bif (decide (20000000<ab.Groomed))then some (Out.ret 2)else (bif (decide (ab.Traffic<0))then some (Out.ret 2)else (bif (decide (1000000<ab.Traffic))then some (Out.ret 2)else (bif (decide (0<((k0:Nat):Int)))then (Dv l (IntKind.i64.wrap (((k0:Nat):Int) - 1))).bind fun bb=>(bif (decide (ab.Run≤bb.Run))then some (Out.ret 11)else some (Out.next ()))else some (Out.next ()))))))))
def Mg (l:List C5):Option (Int):=
 (bif (decide (64<((l.length:Nat):Int)))then some 4 else(An (Lm l) 0 l ()).bind fun o0=>o0.on fun s0=>some 0)
theorem Ze (l:List C5) {r:Int} (h:Mg l=some r):Ad Tryz.prog 77 [.sl 3 (l.map A1)] (·= .int .i64 r):=by
 refine Ad.nle (Ad.intro Tryz.func77 rfl rfl (by show _≤57;simp) ?_)
 unfold Mg at h
 refine nS (sq ?_)
 refine ar rfl (qn (sq (sq ?_)))
 refine rg rfl fun K j=>?_
 intro hm
 refine j _ _ (qn ?_)
 revert h;refine ca rfl (fun hc h=>?_) fun hc h=>?_
 ·refine sq (ar rfl (qn (rt (qr ?_))))
  cases h;exact en Tryz.results77
 refine sk (qn (sq (sq (rg rfl fun K j=>?_))))
 intro hm
 refine j _ _ (qn (bk ?_))
 obtain⟨o0,aa,ae⟩:=Ah h
 clear h
 refine AWP.Bw (ι:=Nat×(Unit)×(Unit)) (fun zz=>[(0,.sl 3 (l.map A1)),(8,.sl 3 (l.map A1)),(9,.int .i64 ((l.length:Nat):Int)),(10,.int .i64 ((zz.1:Nat):Int))]) (fun zz=>[]) (fun zz=>zz.1≤l.length∧An (Lm l) zz.1 ((l).drop zz.1) zz.2.1=some o0) (fun zz=>l.length - zz.1) (0,(),()) ⟨Nat.zero_le _,aa⟩ cu cu (fun x=>⟨rfl,rfl,rfl⟩) ?_
 clear aa
 rintro⟨k0,⟨⟩,⟨⟩⟩ ⟨bg,aa⟩
 dsimp only at bg aa ⊢
 refine sq (ar rfl (qn (sq ?_)))
 refine AWP.cond (Am (fun hc=>?_) (fun hc=>?_))
 rotate_left
 ·obtain rfl:=Bg aa (fun hl=>by have:=Ako hc;omega)
  have h:=Bf ae;try dsimp only at h
  have ag:l.length=k0:=by have:=Ako hc;omega
  subst ag
  refine xt (qe (qe (bs (qn (sq (ar rfl (qn (rt ?_))))))))
  cases h;exact en Tryz.results77
 have ah:k0<l.length:=by have:=Akp hc;omega
 obtain⟨ab,b0,aj,h,aa⟩:=Bc aa ah
 have aw:=A9 aj
 have ak:=wk (k:=k0) (by omega)
 unfold Lm at h;try dsimp only at h
 refine sk (qn (sq (bk (sq (rg rfl fun K j=>?_)))))
 refine Bo.of (f:=A1) (l:=l) aw ?_
 refine nS ?_
 refine j _ _ (qn (sq (sq ?_)))
 refine rg rfl fun K j=>?_
 revert h;refine gf (fun hc h=>?_) fun hc h=>?_
 rotate_left
 ·refine j _ _ (qn ?_)
  refine AWP.cond (Ai ?_)
  refine sq (ar rfl (qn (rt (qr (br (qr (qr ?_)))))))
  obtain rfl:=Aa h
  obtain rfl:=Ae aa
  replace h:=Ao ae
  refine br (qr ?_)
  cases h;exact en Tryz.results77
 revert h;refine gf (fun hc h=>?_) fun hc h=>?_
 rotate_left
 ·refine j _ _ (qn ?_)
  refine AWP.cond (Ai ?_)
  refine sq (ar rfl (qn (rt (qr (br (qr (qr ?_)))))))
  obtain rfl:=Aa h
  obtain rfl:=Ae aa
  replace h:=Ao ae
  refine br (qr ?_)
  cases h;exact en Tryz.results77
 revert h;refine gf (fun hc h=>?_) fun hc h=>?_
 rotate_left
 ·refine j _ _ (qn ?_)
  refine AWP.cond (Ai ?_)
  refine sq (ar rfl (qn (rt (qr (br (qr (qr ?_)))))))
  obtain rfl:=Aa h
  obtain rfl:=Ae aa
  replace h:=Ao ae
  refine br (qr ?_)
  cases h;exact en Tryz.results77
 revert h;refine gf (fun hc h=>?_) fun hc h=>?_
 rotate_left
 ·refine j _ _ (qn ?_)
  refine AWP.cond (Ai ?_)
  refine sq (ar rfl (qn (rt (qr (br (qr (qr ?_)))))))
  obtain rfl:=Aa h
  obtain rfl:=Ae aa
  replace h:=Ao ae
  refine br (qr ?_)
  cases h;exact en Tryz.results77
 revert h;refine gf (fun hc h=>?_) fun hc h=>?_
 rotate_left
 ·refine j _ _ (qn ?_)
  refine AWP.cond (Ai ?_)
  refine sq (ar rfl (qn (rt (qr (br (qr (qr ?_)))))))
  obtain rfl:=Aa h
  obtain rfl:=Ae aa
  replace h:=Ao ae
  refine br (qr ?_)
  cases h;exact en Tryz.results77
 refine j _ _ (qn ?_)
 revert h;refine ca rfl (fun hc h=>?_) fun hc h=>?_
 ·refine sq (ar rfl (qn (rt (qr (br (qr (qr ?_)))))))
  obtain rfl:=Aa h
  obtain rfl:=Ae aa
  replace h:=Ao ae
  refine br (qr ?_)
  cases h;exact en Tryz.results77
 refine sk (qn (sq ?_))
 refine AWP.draw Tryz.mixed (by kernel_rfl) ?_;intro K j
 refine nS ?_
 revert h;refine gt (fun hc h=>?_) fun hc h=>?_
 ·obtain⟨bb,du,h⟩:=Ah h
  refine Bo.of (f:=A1) (l:=l) du ?_
  refine nS ?_
  refine j _ _ _ (by kernel_rfl) ?_
  refine qn ?_
  revert h;refine ca rfl (fun hc h=>?_) fun hc h=>?_
  ·refine sq (ar rfl (qn (rt (br (qr (qr ?_))))))
   obtain rfl:=Aa h
   obtain rfl:=Ae aa
   replace h:=Ao ae
   refine br (qr ?_)
   cases h;exact en Tryz.results77
  refine sk (bn (qn (ar rfl (qn ?_))))
  obtain rfl:=Aa h
  refine⟨(k0+1,(),()),⟨by dsimp only;omega,Aj aa⟩,by dsimp only;omega,?_,?_⟩
  ·exact cuw ak
  exact cuw ak
 refine j _ _ _ (by kernel_rfl) ?_
 refine qn ?_
 refine AWP.cond (Bj ?_)
 refine sk (bn (qn (ar rfl (qn ?_))))
 obtain rfl:=Aa h
 refine⟨(k0+1,(),()),⟨by dsimp only;omega,Aj aa⟩,by dsimp only;omega,?_,?_⟩
 ·exact cuw ak
 exact cuw ak
def G8 (s_:Be):Option (Bool):=
 (bif (decide (1≤s_.ID))then (bif (decide (s_.ID≤9999))then (bif (decide (4≤s_.Limit))then (bif (decide (s_.Limit≤100000))then (bif (decide (0≤s_.Load))then (bif (decide (s_.Load≤100000))then (bif (decide ((-1)≤s_.Controlled))then some (decide (s_.Controlled≤20000000))else some false)else some false)else some false)else some false)else some false)else some false)else some false)
theorem Vn (s_:Be) {r:Bool} (h:G8 s_=some r):Ad Tryz.prog 163 [.agg (A3 s_)] (·= .bool r):=by
 refine Ad.nle (Ad.intro Tryz.func163 rfl rfl (by show _≤41;simp) ?_)
 unfold G8 at h
 refine nS (sq ?_)
 refine ar rfl (qn (sq ?_))
 refine rg rfl fun K j=>?_
 revert h;refine gt (fun hc h=>?_) fun hc h=>?_
 rotate_left
 ·refine j _ _ (qn (rt ?_))
  cases h;exact en Tryz.results163
 revert h;refine gt (fun hc h=>?_) fun hc h=>?_
 rotate_left
 ·refine j _ _ (qn (rt ?_))
  cases h;exact en Tryz.results163
 revert h;refine gt (fun hc h=>?_) fun hc h=>?_
 ·revert h;refine gt (fun hc h=>?_) fun hc h=>?_
  ·revert h;refine gt (fun hc h=>?_) fun hc h=>?_
   ·revert h;refine gt (fun hc h=>?_) fun hc h=>?_
    ·revert h;refine gt (fun hc h=>?_) fun hc h=>?_
     ·refine j _ _ (qn (rt ?_))
      cases h;exact en Tryz.results163
     refine j _ _ (qn (rt ?_))
     cases h;exact en Tryz.results163
    refine j _ _ (qn (rt ?_))
    cases h;exact en Tryz.results163
   refine j _ _ (qn (rt ?_))
   cases h;exact en Tryz.results163
  refine j _ _ (qn (rt ?_))
  cases h;exact en Tryz.results163
 refine j _ _ (qn (rt ?_))
 cases h;exact en Tryz.results163
def G9 (id_:Int) (k0:Nat) (ab:Be) (sv:Unit):Option (Out (Unit) (Int)):=
 (bif (decide (ab.ID=id_))then some (Out.ret ((k0:Nat):Int))else some (Out.next ()))
def Ik (l:List Be) (id_:Int):Option (Int):=
 (An (G9 id_) 0 l ()).bind fun o0=>o0.on fun s0=>some (-1)
theorem Yx (l:List Be) (id_:Int) {r:Int} (h:Ik l id_=some r):Ad Tryz.prog 164 [.sl 6 (l.map A3),.int .i64 id_] (·= .int .i64 r):=by
 refine Ad.nle (Ad.intro Tryz.func164 rfl rfl (by show _≤8;simp) ?_)
 unfold Ik at h
 refine nS (sq ?_)
 refine ar rfl (qn (sq ?_))
 refine rg rfl fun K j=>?_
 refine Al.inline Tryz.call245 Tryz.func245 rfl rfl (by show _≤19;simp) ?_
 refine nS (sq ?_)
 refine ar rfl (qn (sq (sq ?_)))
 refine rg rfl fun K j=>?_
 intro hm
 refine j _ _ (qn (bk ?_));clear j K
 obtain⟨o0,aa,ae⟩:=Ah h
 clear h
 refine AWP.Bw (ι:=Nat×(Unit)×(Unit)) (fun zz=>[(0,.sl 6 (l.map A3)),(1,.func 246 [.ptr 0 0]),(7,.int .i64 ((l.length:Nat):Int)),(8,.int .i64 ((zz.1:Nat):Int))]) (fun zz=>[.box [.int .i64 id_]]) (fun zz=>zz.1≤l.length∧An (G9 id_) zz.1 ((l).drop zz.1) zz.2.1=some o0) (fun zz=>l.length - zz.1) (0,(),()) ⟨Nat.zero_le _,aa⟩ cu cu (fun x=>⟨rfl,rfl,rfl⟩) ?_
 clear aa
 rintro⟨k0,⟨⟩,⟨⟩⟩ ⟨bg,aa⟩
 dsimp only at bg aa ⊢
 refine sq (ar rfl (qn (sq ?_)))
 refine AWP.cond (Am (fun hc=>?_) (fun hc=>?_))
 rotate_left
 ·obtain rfl:=Bg aa (fun hl=>by have:=Ako hc;omega)
  have h:=Bf ae;try dsimp only at h
  have ag:l.length=k0:=by have:=Ako hc;omega
  subst ag
  refine xt (qe (qe (bs (qn (sq (ar rfl (qn (rt ?_))))))))
  refine nSc Tryz.results245 ?_
  refine j _ _ (qn (rt ?_))
  cases h;exact en Tryz.results164
 have ah:k0<l.length:=by have:=Akp hc;omega
 obtain⟨ab,b0,aj,h,aa⟩:=Bc aa ah
 have aw:=A9 aj
 have ak:=wk (k:=k0) (by omega)
 unfold G9 at h;try dsimp only at h
 refine sk (qn (sq (bk (sq (ar rfl (qn (sq ?_)))))))
 refine rg rfl fun K j=>?_
 refine Bo.of (f:=A3) (l:=l) aw ?_
 refine nS ?_
 refine Al.inline Tryz.call246 Tryz.func246 rfl rfl (by show _≤8;simp) ?_
 refine nS (sq ?_)
 refine ar rfl (qn (sq ?_))
 refine ar rfl (qn (rt ?_))
 refine nSc Tryz.results246 ?_
 refine j _ _ (qn ?_);clear j K
 revert h;refine ca rfl (fun hc h=>?_) fun hc h=>?_
 ·refine sq (ar rfl (qn (rt (br (qr (qr ?_))))))
  obtain rfl:=Aa h
  obtain rfl:=Ae aa
  replace h:=Ao ae
  refine br (qr (nSc Tryz.results245 ?_))
  refine j _ _ (qn (rt ?_))
  cases h;exact en Tryz.results164
 refine sk (bn (qn (ar rfl (qn ?_))))
 obtain rfl:=Aa h
 refine⟨(k0+1,(),()),⟨by dsimp only;omega,Aj aa⟩,by dsimp only;omega,?_,?_⟩
 ·exact cuw ak
 exact cuw ak
def Em (l:List Int) (most:Int) (k0:Nat) (ab:Int) (sv:Unit):Option (Out (Unit) (Bool)):=
 (bif (decide (ab<1))then some (Out.ret false)else (bif (decide (most<ab))then some (Out.ret false)else (bif (decide (0<((k0:Nat):Int)))then (Dv l (IntKind.i64.wrap (((k0:Nat):Int) - 1))).bind fun bb=>(bif (decide (ab≤bb))then some (Out.ret false)else some (Out.next ()))else some (Out.next ()))))
def En (l:List Int) (most:Int):Option (Bool):=
 (An (Em l most) 0 l ()).bind fun o0=>o0.on fun s0=>some true
theorem Ma (l:List Int) (most:Int) {r:Bool} (h:En l most=some r):Ad Tryz.prog 165 [.sl 1 (l.map Bb),.int .i64 most] (·= .bool r):=by
 refine Ad.nle (Ad.intro Tryz.func165 rfl rfl (by show _≤35;simp) ?_)
 unfold En at h
 refine nS (sq ?_)
 refine ar rfl (qn (sq (sq ?_)))
 refine rg rfl fun K j=>?_
 intro hm
 refine j _ _ (qn (bk ?_))
 obtain⟨o0,aa,ae⟩:=Ah h
 clear h
 refine AWP.Bw (ι:=Nat×(Unit)×(Unit)) (fun zz=>[(0,.sl 1 (l.map Bb)),(1,.int .i64 most),(7,.sl 1 (l.map Bb)),(8,.int .i64 ((l.length:Nat):Int)),(9,.int .i64 ((zz.1:Nat):Int))]) (fun zz=>[]) (fun zz=>zz.1≤l.length∧An (Em l most) zz.1 ((l).drop zz.1) zz.2.1=some o0) (fun zz=>l.length - zz.1) (0,(),()) ⟨Nat.zero_le _,aa⟩ cu cu (fun x=>⟨rfl,rfl,rfl⟩) ?_
 clear aa
 rintro⟨k0,⟨⟩,⟨⟩⟩ ⟨bg,aa⟩
 dsimp only at bg aa ⊢
 refine sq (ar rfl (qn (sq ?_)))
 refine AWP.cond (Am (fun hc=>?_) (fun hc=>?_))
 rotate_left
 ·obtain rfl:=Bg aa (fun hl=>by have:=Ako hc;omega)
  have h:=Bf ae;try dsimp only at h
  have ag:l.length=k0:=by have:=Ako hc;omega
  subst ag
  refine xt (qe (qe (bs (qn (sq (ar rfl (qn (rt ?_))))))))
  cases h;exact en Tryz.results165
 have ah:k0<l.length:=by have:=Akp hc;omega
 obtain⟨ab,b0,aj,h,aa⟩:=Bc aa ah
 have aw:=A9 aj
 have ak:=wk (k:=k0) (by omega)
 unfold Em at h;try dsimp only at h
 refine sk (qn (sq (bk (sq (rg rfl fun K j=>?_)))))
 refine Bo.of (f:=Bb) (l:=l) aw ?_
 refine nS ?_
 refine j _ _ (qn (sq ?_))
 refine rg rfl fun K j=>?_
 revert h;refine gf (fun hc h=>?_) fun hc h=>?_
 rotate_left
 ·refine j _ _ (qn ?_)
  refine AWP.cond (Ai ?_)
  refine sq (ar rfl (qn (rt (br (qr (qr ?_))))))
  obtain rfl:=Aa h
  obtain rfl:=Ae aa
  replace h:=Ao ae
  refine br (qr ?_)
  cases h;exact en Tryz.results165
 revert h;refine gf (fun hc h=>?_) fun hc h=>?_
 rotate_left
 ·refine j _ _ (qn ?_)
  refine AWP.cond (Ai ?_)
  refine sq (ar rfl (qn (rt (br (qr (qr ?_))))))
  obtain rfl:=Aa h
  obtain rfl:=Ae aa
  replace h:=Ao ae
  refine br (qr ?_)
  cases h;exact en Tryz.results165
 revert h;refine gt (fun hc h=>?_) fun hc h=>?_
 ·obtain⟨bb,du,h⟩:=Ah h
  refine Bo.of (f:=Bb) (l:=l) du ?_
  refine nS ?_
  refine j _ _ (qn ?_)
  revert h;refine ca rfl (fun hc h=>?_) fun hc h=>?_
  ·refine sq (ar rfl (qn (rt (br (qr (qr ?_))))))
   obtain rfl:=Aa h
   obtain rfl:=Ae aa
   replace h:=Ao ae
   refine br (qr ?_)
   cases h;exact en Tryz.results165
  refine sk (bn (qn (ar rfl (qn ?_))))
  obtain rfl:=Aa h
  refine⟨(k0+1,(),()),⟨by dsimp only;omega,Aj aa⟩,by dsimp only;omega,?_,?_⟩
  ·exact cuw ak
  exact cuw ak
 refine j _ _ (qn ?_)
 refine AWP.cond (Bj ?_)
 refine sk (bn (qn (ar rfl (qn ?_))))
 obtain rfl:=Aa h
 refine⟨(k0+1,(),()),⟨by dsimp only;omega,Aj aa⟩,by dsimp only;omega,?_,?_⟩
 ·exact cuw ak
 exact cuw ak
def Fa (l:List Be) (k0:Nat) (ab:Be) (sv:Unit):Option (Out (Unit) (Int)):=
 (G8 ab).bind fun y3=>(bif (!y3)then some (Out.ret 2)else okB (decide (0≤((k0:Nat):Int)∧((k0:Nat):Int)≤((l.length:Nat):Int))) ((Ik (l.take k0) ab.ID).bind fun y4=>(bif (decide (0≤y4))then some (Out.ret 7)else (bif (decide (((ab.Zones.length:Nat):Int)=0))then some (Out.ret 1)else (En ab.Zones 32).bind fun y5=>(bif (!y5)then some (Out.ret 1)else (En ab.Lifts 9999).bind fun y6=>(bif (!y6)then some (Out.ret 1)else some (Out.next ())))))))
def Jv (l:List Be):Option (Int):=
 (bif (decide (32<((l.length:Nat):Int)))then some 4 else(An (Fa l) 0 l ()).bind fun o0=>o0.on fun s0=>some 0)
theorem Xp (l:List Be) {r:Int} (h:Jv l=some r):Ad Tryz.prog 78 [.sl 6 (l.map A3)] (·= .int .i64 r):=by
 refine Ad.nle (Ad.intro Tryz.func78 rfl rfl (by show _≤42;simp) ?_)
 unfold Jv at h
 refine nS (sq ?_)
 refine ar rfl (qn (sq (sq ?_)))
 refine rg rfl fun K j=>?_
 intro hm
 refine j _ _ (qn ?_)
 revert h;refine ca rfl (fun hc h=>?_) fun hc h=>?_
 ·refine sq (ar rfl (qn (rt (qr ?_))))
  cases h;exact en Tryz.results78
 refine sk (qn (sq (sq (rg rfl fun K j=>?_))))
 intro hm
 refine j _ _ (qn (bk ?_))
 obtain⟨o0,aa,ae⟩:=Ah h
 clear h
 refine AWP.Bw (ι:=Nat×(Unit)×(Unit)) (fun zz=>[(0,.sl 6 (l.map A3)),(8,.sl 6 (l.map A3)),(9,.int .i64 ((l.length:Nat):Int)),(10,.int .i64 ((zz.1:Nat):Int))]) (fun zz=>[]) (fun zz=>zz.1≤l.length∧An (Fa l) zz.1 ((l).drop zz.1) zz.2.1=some o0) (fun zz=>l.length - zz.1) (0,(),()) ⟨Nat.zero_le _,aa⟩ cu cu (fun x=>⟨rfl,rfl,rfl⟩) ?_
 clear aa
 rintro⟨k0,⟨⟩,⟨⟩⟩ ⟨bg,aa⟩
 dsimp only at bg aa ⊢
 refine sq (ar rfl (qn (sq ?_)))
 refine AWP.cond (Am (fun hc=>?_) (fun hc=>?_))
 rotate_left
 ·obtain rfl:=Bg aa (fun hl=>by have:=Ako hc;omega)
  have h:=Bf ae;try dsimp only at h
  have ag:l.length=k0:=by have:=Ako hc;omega
  subst ag
  refine xt (qe (qe (bs (qn (sq (ar rfl (qn (rt ?_))))))))
  cases h;exact en Tryz.results78
 have ah:k0<l.length:=by have:=Akp hc;omega
 obtain⟨ab,b0,aj,h,aa⟩:=Bc aa ah
 have aw:=A9 aj
 have ak:=wk (k:=k0) (by omega)
 unfold Fa at h;try dsimp only at h
 refine sk (qn (sq (bk (sq (rg rfl fun K j=>?_)))))
 refine Bo.of (f:=A3) (l:=l) aw ?_
 refine nS ?_
 refine j _ _ (qn (sq (sq ?_)))
 refine rg rfl fun K j=>?_
 obtain⟨y3,bx,h⟩:=Ah h
 refine Al.pure Tryz.call163 (Vn ab bx) rfl fun _ hr=>?_
 subst hr
 refine nS ?_
 refine j _ _ (qn ?_)
 revert h;refine ca rfl (fun hc h=>?_) fun hc h=>?_
 ·refine sq (ar rfl (qn (rt (qr (br (qr (qr ?_)))))))
  obtain rfl:=Aa h
  obtain rfl:=Ae aa
  replace h:=Ao ae
  refine br (qr ?_)
  cases h;exact en Tryz.results78
 refine sk (qn (sq (sq ?_)))
 refine AWP.draw Tryz.mixed (by kernel_rfl) ?_;intro K j
 refine nS ?_
 obtain⟨hk,h⟩:=Fz h
 intro hm
 (repeat(refine⟨by omega,?_⟩))
 obtain⟨y4,cn,h⟩:=Ah h
 refine Cf.pure Tryz.call164 (Yx (l.take k0) ab.ID cn) rfl ?_
 refine nS ?_
 refine j _ _ _ (by kernel_rfl) ?_
 refine qn ?_
 revert h;refine ca rfl (fun hc h=>?_) fun hc h=>?_
 ·refine sq (ar rfl (qn (rt (qr (br (qr (qr ?_)))))))
  obtain rfl:=Aa h
  obtain rfl:=Ae aa
  replace h:=Ao ae
  refine br (qr ?_)
  cases h;exact en Tryz.results78
 refine sk (qn (sq (rg rfl fun K j=>?_)))
 intro hm
 revert h;refine gf (fun hc h=>?_) fun hc h=>?_
 rotate_left
 ·refine j _ _ (qn ?_)
  refine AWP.cond (Ai ?_)
  refine sq (ar rfl (qn (rt (br (qr (qr ?_))))))
  obtain rfl:=Aa h
  obtain rfl:=Ae aa
  replace h:=Ao ae
  refine br (qr ?_)
  cases h;exact en Tryz.results78
 obtain⟨y5,db,h⟩:=Ah h
 refine Al.pure Tryz.call165 (Ma ab.Zones 32 db) rfl fun _ hr=>?_
 subst hr
 refine nS ?_
 revert h;refine gf (fun hc h=>?_) fun hc h=>?_
 ·obtain⟨y6,ey,h⟩:=Ah h
  refine Al.pure Tryz.call165 (Ma ab.Lifts 9999 ey) rfl fun _ hr=>?_
  subst hr
  refine nS ?_
  refine j _ _ (qn ?_)
  revert h;refine ca rfl (fun hc h=>?_) fun hc h=>?_
  ·refine sq (ar rfl (qn (rt (br (qr (qr ?_))))))
   obtain rfl:=Aa h
   obtain rfl:=Ae aa
   replace h:=Ao ae
   refine br (qr ?_)
   cases h;exact en Tryz.results78
  refine sk (bn (qn (ar rfl (qn ?_))))
  obtain rfl:=Aa h
  refine⟨(k0+1,(),()),⟨by dsimp only;omega,Aj aa⟩,by dsimp only;omega,?_,?_⟩
  ·exact cuw ak
  exact cuw ak
 refine j _ _ (qn ?_)
 refine AWP.cond (Ai ?_)
 refine sq (ar rfl (qn (rt (br (qr (qr ?_))))))
 obtain rfl:=Aa h
 obtain rfl:=Ae aa
 replace h:=Ao ae
 refine br (qr ?_)
 cases h;exact en Tryz.results78
def Ie (b:Bi):Option (Bool):=
 (bif (decide (b.Version<1))then some false else(bif (decide (1000000<b.Version))then some false else(bif (decide (b.Span.From<0))then some false else(bif (decide (b.Span.To≤b.Span.From))then some false else(bif (decide (20000000<b.Span.To))then some false else(bif (decide (b.Low<0))then some false else(bif (decide (b.High≤b.Low))then some false else(bif (decide (6000<b.High))then some false else(bif (decide (1≤b.Level))then some (decide (b.Level≤5))else some false)))))))))
theorem Wb (b:Bi) {r:Bool} (h:Ie b=some r):Ad Tryz.prog 166 [.agg (Ar b)] (·= .bool r):=by
 refine Ad.nle (Ad.intro Tryz.func166 rfl rfl (by show _≤53;simp) ?_)
 unfold Ie at h
 refine nS (sq ?_)
 refine ar rfl (qn (sq (sq ?_)))
 refine rg rfl fun K j=>?_
 revert h;refine gf (fun hc h=>?_) fun hc h=>?_
 rotate_left
 ·refine j _ _ (qn ?_)
  refine AWP.cond (Ai ?_)
  refine sq (ar rfl (qn (rt (qr ?_))))
  cases h;exact en Tryz.results166
 refine j _ _ (qn ?_)
 revert h;refine ca rfl (fun hc h=>?_) fun hc h=>?_
 ·refine sq (ar rfl (qn (rt (qr ?_))))
  cases h;exact en Tryz.results166
 refine sk (qn (sq (sq (rg rfl fun K j=>?_))))
 revert h;refine gf (fun hc h=>?_) fun hc h=>?_
 rotate_left
 ·refine j _ _ (qn ?_)
  refine AWP.cond (Ai ?_)
  refine sq (ar rfl (qn (rt (qr ?_))))
  cases h;exact en Tryz.results166
 revert h;refine gf (fun hc h=>?_) fun hc h=>?_
 rotate_left
 ·refine j _ _ (qn ?_)
  refine AWP.cond (Ai ?_)
  refine sq (ar rfl (qn (rt (qr ?_))))
  cases h;exact en Tryz.results166
 refine j _ _ (qn ?_)
 revert h;refine ca rfl (fun hc h=>?_) fun hc h=>?_
 ·refine sq (ar rfl (qn (rt (qr ?_))))
  cases h;exact en Tryz.results166
 refine sk (qn (sq (sq (rg rfl fun K j=>?_))))
 revert h;refine gf (fun hc h=>?_) fun hc h=>?_
 ·revert h;refine gf (fun hc h=>?_) fun hc h=>?_
  ·refine j _ _ (qn ?_)
   revert h;refine ca rfl (fun hc h=>?_) fun hc h=>?_
   ·refine sq (ar rfl (qn (rt (qr ?_))))
    cases h;exact en Tryz.results166
   refine sk (qn (sq (rg rfl fun K j=>?_)))
   revert h;refine gt (fun hc h=>?_) fun hc h=>?_
   ·refine j _ _ (qn (rt ?_))
    cases h;exact en Tryz.results166
   refine j _ _ (qn (rt ?_))
   cases h;exact en Tryz.results166
  refine j _ _ (qn ?_)
  refine AWP.cond (Ai ?_)
  refine sq (ar rfl (qn (rt (qr ?_))))
  cases h;exact en Tryz.results166
 refine j _ _ (qn ?_)
 refine AWP.cond (Ai ?_)
 refine sq (ar rfl (qn (rt (qr ?_))))
 cases h;exact en Tryz.results166
def Ja (zones:List Int) (k0:Nat) (ab:Int) (sv:Unit):Option (Out (Unit) (Bool)):=
 (bif (decide (ab<1))then some (Out.ret false)else (bif (decide (32<ab))then some (Out.ret false)else (bif (decide (0<((k0:Nat):Int)))then (Dv zones (IntKind.i64.wrap (((k0:Nat):Int) - 1))).bind fun bb=>(bif (decide (ab≤bb))then some (Out.ret false)else some (Out.next ()))else some (Out.next ()))))
def Md (zones:List Int):Option (Bool):=
 (An (Ja zones) 0 zones ()).bind fun o0=>o0.on fun s0=>some (decide (0<((zones.length:Nat):Int)))
theorem Ty (zones:List Int) {r:Bool} (h:Md zones=some r):Ad Tryz.prog 167 [.sl 1 (zones.map Bb)] (·= .bool r):=by
 refine Ad.nle (Ad.intro Tryz.func167 rfl rfl (by show _≤35;simp) ?_)
 unfold Md at h
 refine nS (sq ?_)
 refine ar rfl (qn (sq (sq ?_)))
 refine rg rfl fun K j=>?_
 intro hm
 refine j _ _ (qn (bk ?_))
 obtain⟨o0,aa,ae⟩:=Ah h
 clear h
 refine AWP.Bw (ι:=Nat×(Unit)×(Unit)) (fun zz=>[(0,.sl 1 (zones.map Bb)),(5,.sl 1 (zones.map Bb)),(6,.int .i64 ((zones.length:Nat):Int)),(7,.int .i64 ((zz.1:Nat):Int))]) (fun zz=>[]) (fun zz=>zz.1≤zones.length∧An (Ja zones) zz.1 ((zones).drop zz.1) zz.2.1=some o0) (fun zz=>zones.length - zz.1) (0,(),()) ⟨Nat.zero_le _,aa⟩ cu cu (fun x=>⟨rfl,rfl,rfl⟩) ?_
 clear aa
 rintro⟨k0,⟨⟩,⟨⟩⟩ ⟨bg,aa⟩
 dsimp only at bg aa ⊢
 refine sq (ar rfl (qn (sq ?_)))
 refine AWP.cond (Am (fun hc=>?_) (fun hc=>?_))
 rotate_left
 ·obtain rfl:=Bg aa (fun hl=>by have:=Ako hc;omega)
  have h:=Bf ae;try dsimp only at h
  have ag:zones.length=k0:=by have:=Ako hc;omega
  subst ag
  refine xt (qe (qe (bs (qn (sq (rg rfl fun K j=>?_))))))
  intro hm
  refine j _ _ (qn (rt ?_))
  cases h;exact en Tryz.results167
 have ah:k0<zones.length:=by have:=Akp hc;omega
 obtain⟨ab,b0,aj,h,aa⟩:=Bc aa ah
 have aw:=A9 aj
 have ak:=wk (k:=k0) (by omega)
 unfold Ja at h;try dsimp only at h
 refine sk (qn (sq (bk (sq (rg rfl fun K j=>?_)))))
 refine Bo.of (f:=Bb) (l:=zones) aw ?_
 refine nS ?_
 refine j _ _ (qn (sq ?_))
 refine rg rfl fun K j=>?_
 revert h;refine gf (fun hc h=>?_) fun hc h=>?_
 rotate_left
 ·refine j _ _ (qn ?_)
  refine AWP.cond (Ai ?_)
  refine sq (ar rfl (qn (rt (br (qr (qr ?_))))))
  obtain rfl:=Aa h
  obtain rfl:=Ae aa
  replace h:=Ao ae
  refine br (qr ?_)
  cases h;exact en Tryz.results167
 revert h;refine gf (fun hc h=>?_) fun hc h=>?_
 rotate_left
 ·refine j _ _ (qn ?_)
  refine AWP.cond (Ai ?_)
  refine sq (ar rfl (qn (rt (br (qr (qr ?_))))))
  obtain rfl:=Aa h
  obtain rfl:=Ae aa
  replace h:=Ao ae
  refine br (qr ?_)
  cases h;exact en Tryz.results167
 revert h;refine gt (fun hc h=>?_) fun hc h=>?_
 ·obtain⟨bb,du,h⟩:=Ah h
  refine Bo.of (f:=Bb) (l:=zones) du ?_
  refine nS ?_
  refine j _ _ (qn ?_)
  revert h;refine ca rfl (fun hc h=>?_) fun hc h=>?_
  ·refine sq (ar rfl (qn (rt (br (qr (qr ?_))))))
   obtain rfl:=Aa h
   obtain rfl:=Ae aa
   replace h:=Ao ae
   refine br (qr ?_)
   cases h;exact en Tryz.results167
  refine sk (bn (qn (ar rfl (qn ?_))))
  obtain rfl:=Aa h
  refine⟨(k0+1,(),()),⟨by dsimp only;omega,Aj aa⟩,by dsimp only;omega,?_,?_⟩
  ·exact cuw ak
  exact cuw ak
 refine j _ _ (qn ?_)
 refine AWP.cond (Bj ?_)
 refine sk (bn (qn (ar rfl (qn ?_))))
 obtain rfl:=Aa h
 refine⟨(k0+1,(),()),⟨by dsimp only;omega,Aj aa⟩,by dsimp only;omega,?_,?_⟩
 ·exact cuw ak
 exact cuw ak
def Ew (l:List Bi) (k0:Nat) (ab:Bi) (sv:Unit):Option (Out (Unit) (Int)):=
 (Ie ab).bind fun y3=>(bif (!y3)then some (Out.ret 2)else (Md ab.Zones).bind fun y4=>(bif (!y4)then some (Out.ret 1)else (bif (decide (0<((k0:Nat):Int)))then (Dv l (IntKind.i64.wrap (((k0:Nat):Int) - 1))).bind fun ch=>(bif (decide (ab.Version<ch.Version))then some (Out.ret 11)else some (Out.next ()))else some (Out.next ()))))
def Ig (l:List Bi):Option (Int):=
 (bif (decide (64<((l.length:Nat):Int)))then some 4 else(An (Ew l) 0 l ()).bind fun o0=>o0.on fun s0=>some 0)
theorem Yu (l:List Bi) {r:Int} (h:Ig l=some r):Ad Tryz.prog 79 [.sl 7 (l.map Ar)] (·= .int .i64 r):=by
 refine Ad.nle (Ad.intro Tryz.func79 rfl rfl (by show _≤36;simp) ?_)
 unfold Ig at h
 refine nS (sq ?_)
 refine ar rfl (qn (sq (sq ?_)))
 refine rg rfl fun K j=>?_
 intro hm
 refine j _ _ (qn ?_)
 revert h;refine ca rfl (fun hc h=>?_) fun hc h=>?_
 ·refine sq (ar rfl (qn (rt (qr ?_))))
  cases h;exact en Tryz.results79
 refine sk (qn (sq (sq (rg rfl fun K j=>?_))))
 intro hm
 refine j _ _ (qn (bk ?_))
 obtain⟨o0,aa,ae⟩:=Ah h
 clear h
 refine AWP.Bw (ι:=Nat×(Unit)×(Unit)) (fun zz=>[(0,.sl 7 (l.map Ar)),(8,.sl 7 (l.map Ar)),(9,.int .i64 ((l.length:Nat):Int)),(10,.int .i64 ((zz.1:Nat):Int))]) (fun zz=>[]) (fun zz=>zz.1≤l.length∧An (Ew l) zz.1 ((l).drop zz.1) zz.2.1=some o0) (fun zz=>l.length - zz.1) (0,(),()) ⟨Nat.zero_le _,aa⟩ cu cu (fun x=>⟨rfl,rfl,rfl⟩) ?_
 clear aa
 rintro⟨k0,⟨⟩,⟨⟩⟩ ⟨bg,aa⟩
 dsimp only at bg aa ⊢
 refine sq (ar rfl (qn (sq ?_)))
 refine AWP.cond (Am (fun hc=>?_) (fun hc=>?_))
 rotate_left
 ·obtain rfl:=Bg aa (fun hl=>by have:=Ako hc;omega)
  have h:=Bf ae;try dsimp only at h
  have ag:l.length=k0:=by have:=Ako hc;omega
  subst ag
  refine xt (qe (qe (bs (qn (sq (ar rfl (qn (rt ?_))))))))
  cases h;exact en Tryz.results79
 have ah:k0<l.length:=by have:=Akp hc;omega
 obtain⟨ab,b0,aj,h,aa⟩:=Bc aa ah
 have aw:=A9 aj
 have ak:=wk (k:=k0) (by omega)
 unfold Ew at h;try dsimp only at h
 refine sk (qn (sq (bk (sq (rg rfl fun K j=>?_)))))
 refine Bo.of (f:=Ar) (l:=l) aw ?_
 refine nS ?_
 refine j _ _ (qn (sq (sq ?_)))
 refine rg rfl fun K j=>?_
 obtain⟨y3,bx,h⟩:=Ah h
 refine Al.pure Tryz.call166 (Wb ab bx) rfl fun _ hr=>?_
 subst hr
 refine nS ?_
 refine j _ _ (qn ?_)
 revert h;refine ca rfl (fun hc h=>?_) fun hc h=>?_
 ·refine sq (ar rfl (qn (rt (qr (br (qr (qr ?_)))))))
  obtain rfl:=Aa h
  obtain rfl:=Ae aa
  replace h:=Ao ae
  refine br (qr ?_)
  cases h;exact en Tryz.results79
 refine sk (qn (sq (sq (rg rfl fun K j=>?_))))
 obtain⟨y4,cn,h⟩:=Ah h
 refine Al.pure Tryz.call167 (Ty ab.Zones cn) rfl fun _ hr=>?_
 subst hr
 refine nS ?_
 refine j _ _ (qn ?_)
 revert h;refine ca rfl (fun hc h=>?_) fun hc h=>?_
 ·refine sq (ar rfl (qn (rt (qr (br (qr (qr ?_)))))))
  obtain rfl:=Aa h
  obtain rfl:=Ae aa
  replace h:=Ao ae
  refine br (qr ?_)
  cases h;exact en Tryz.results79
 refine sk (qn (sq ?_))
 refine AWP.draw Tryz.mixed (by kernel_rfl) ?_;intro K j
 refine nS ?_
 revert h;refine gt (fun hc h=>?_) fun hc h=>?_
 ·obtain⟨ch,gn,h⟩:=Ah h
  refine Bo.of (f:=Ar) (l:=l) gn ?_
  refine nS ?_
  refine j _ _ _ (by kernel_rfl) ?_
  refine qn ?_
  revert h;refine ca rfl (fun hc h=>?_) fun hc h=>?_
  ·refine sq (ar rfl (qn (rt (br (qr (qr ?_))))))
   obtain rfl:=Aa h
   obtain rfl:=Ae aa
   replace h:=Ao ae
   refine br (qr ?_)
   cases h;exact en Tryz.results79
  refine sk (bn (qn (ar rfl (qn ?_))))
  obtain rfl:=Aa h
  refine⟨(k0+1,(),()),⟨by dsimp only;omega,Aj aa⟩,by dsimp only;omega,?_,?_⟩
  ·exact cuw ak
  exact cuw ak
 refine j _ _ _ (by kernel_rfl) ?_
 refine qn ?_
 refine AWP.cond (Bj ?_)
 refine sk (bn (qn (ar rfl (qn ?_))))
 obtain rfl:=Aa h
 refine⟨(k0+1,(),()),⟨by dsimp only;omega,Aj aa⟩,by dsimp only;omega,?_,?_⟩
 ·exact cuw ak
 exact cuw ak
def Mw (m:Bh):Option (Bool):=
 (bif (decide (m.ID<1))then some false else(bif (decide (9999<m.ID))then some false else(bif (decide (m.Slide<1))then some false else(bif (decide (9999<m.Slide))then some false else(bif (decide (m.By<1))then some false else(bif (decide (9999<m.By))then some false else(bif (decide (m.State<0))then some false else(bif (decide (6<m.State))then some false else(bif (decide (m.Since<0))then some false else(bif (decide (20000000<m.Since))then some false else(bif (decide (0≤m.Window.From))then (bif (decide (m.Window.From<m.Window.To))then some (decide (m.Window.To≤20000000))else some false)else some false)))))))))))
theorem Zx (m:Bh) {r:Bool} (h:Mw m=some r):Ad Tryz.prog 168 [.agg (Ap m)] (·= .bool r):=by
 refine Ad.nle (Ad.intro Tryz.func168 rfl rfl (by show _≤68;simp) ?_)
 unfold Mw at h
 refine nS (sq ?_)
 refine ar rfl (qn (sq (sq ?_)))
 refine rg rfl fun K j=>?_
 revert h;refine gf (fun hc h=>?_) fun hc h=>?_
 rotate_left
 ·refine j _ _ (qn ?_)
  refine AWP.cond (Ai ?_)
  refine sq (ar rfl (qn (rt (qr ?_))))
  cases h;exact en Tryz.results168
 revert h;refine gf (fun hc h=>?_) fun hc h=>?_
 rotate_left
 ·refine j _ _ (qn ?_)
  refine AWP.cond (Ai ?_)
  refine sq (ar rfl (qn (rt (qr ?_))))
  cases h;exact en Tryz.results168
 revert h;refine gf (fun hc h=>?_) fun hc h=>?_
 rotate_left
 ·refine j _ _ (qn ?_)
  refine AWP.cond (Ai ?_)
  refine sq (ar rfl (qn (rt (qr ?_))))
  cases h;exact en Tryz.results168
 revert h;refine gf (fun hc h=>?_) fun hc h=>?_
 rotate_left
 ·refine j _ _ (qn ?_)
  refine AWP.cond (Ai ?_)
  refine sq (ar rfl (qn (rt (qr ?_))))
  cases h;exact en Tryz.results168
 revert h;refine gf (fun hc h=>?_) fun hc h=>?_
 rotate_left
 ·refine j _ _ (qn ?_)
  refine AWP.cond (Ai ?_)
  refine sq (ar rfl (qn (rt (qr ?_))))
  cases h;exact en Tryz.results168
 refine j _ _ (qn ?_)
 revert h;refine ca rfl (fun hc h=>?_) fun hc h=>?_
 ·refine sq (ar rfl (qn (rt (qr ?_))))
  cases h;exact en Tryz.results168
 refine sk (qn (sq (sq (rg rfl fun K j=>?_))))
 revert h;refine gf (fun hc h=>?_) fun hc h=>?_
 rotate_left
 ·refine j _ _ (qn ?_)
  refine AWP.cond (Ai ?_)
  refine sq (ar rfl (qn (rt (qr ?_))))
  cases h;exact en Tryz.results168
 revert h;refine gf (fun hc h=>?_) fun hc h=>?_
 rotate_left
 ·refine j _ _ (qn ?_)
  refine AWP.cond (Ai ?_)
  refine sq (ar rfl (qn (rt (qr ?_))))
  cases h;exact en Tryz.results168
 revert h;refine gf (fun hc h=>?_) fun hc h=>?_
 ·refine j _ _ (qn ?_)
  revert h;refine ca rfl (fun hc h=>?_) fun hc h=>?_
  ·refine sq (ar rfl (qn (rt (qr ?_))))
   cases h;exact en Tryz.results168
  refine sk (qn (sq (rg rfl fun K j=>?_)))
  revert h;refine gt (fun hc h=>?_) fun hc h=>?_
  ·revert h;refine gt (fun hc h=>?_) fun hc h=>?_
   ·refine j _ _ (qn (rt ?_))
    cases h;exact en Tryz.results168
   refine j _ _ (qn (rt ?_))
   cases h;exact en Tryz.results168
  refine j _ _ (qn (rt ?_))
  cases h;exact en Tryz.results168
 refine j _ _ (qn ?_)
 refine AWP.cond (Ai ?_)
 refine sq (ar rfl (qn (rt (qr ?_))))
 cases h;exact en Tryz.results168
def Tz (id_:Int) (k0:Nat) (ab:Bh) (sv:Unit):Option (Out (Unit) (Int)):=
 (bif (decide (ab.ID=id_))then some (Out.ret ((k0:Nat):Int))else some (Out.next ()))
def Vm (l:List Bh) (id_:Int):Option (Int):=
 (An (Tz id_) 0 l ()).bind fun o0=>o0.on fun s0=>some (-1)
theorem fG (l:List Bh) (id_:Int) {r:Int} (h:Vm l id_=some r):Ad Tryz.prog 169 [.sl 7 (l.map Ap),.int .i64 id_] (·= .int .i64 r):=by
 refine Ad.nle (Ad.intro Tryz.func169 rfl rfl (by show _≤8;simp) ?_)
 unfold Vm at h
 refine nS (sq ?_)
 refine ar rfl (qn (sq ?_))
 refine rg rfl fun K j=>?_
 refine Al.inline Tryz.call247 Tryz.func247 rfl rfl (by show _≤19;simp) ?_
 refine nS (sq ?_)
 refine ar rfl (qn (sq (sq ?_)))
 refine rg rfl fun K j=>?_
 intro hm
 refine j _ _ (qn (bk ?_));clear j K
 obtain⟨o0,aa,ae⟩:=Ah h
 clear h
 refine AWP.Bw (ι:=Nat×(Unit)×(Unit)) (fun zz=>[(0,.sl 7 (l.map Ap)),(1,.func 248 [.ptr 0 0]),(7,.int .i64 ((l.length:Nat):Int)),(8,.int .i64 ((zz.1:Nat):Int))]) (fun zz=>[.box [.int .i64 id_]]) (fun zz=>zz.1≤l.length∧An (Tz id_) zz.1 ((l).drop zz.1) zz.2.1=some o0) (fun zz=>l.length - zz.1) (0,(),()) ⟨Nat.zero_le _,aa⟩ cu cu (fun x=>⟨rfl,rfl,rfl⟩) ?_
 clear aa
 rintro⟨k0,⟨⟩,⟨⟩⟩ ⟨bg,aa⟩
 dsimp only at bg aa ⊢
 refine sq (ar rfl (qn (sq ?_)))
 refine AWP.cond (Am (fun hc=>?_) (fun hc=>?_))
 rotate_left
 ·obtain rfl:=Bg aa (fun hl=>by have:=Ako hc;omega)
  have h:=Bf ae;try dsimp only at h
  have ag:l.length=k0:=by have:=Ako hc;omega
  subst ag
  refine xt (qe (qe (bs (qn (sq (ar rfl (qn (rt ?_))))))))
  refine nSc Tryz.results247 ?_
  refine j _ _ (qn (rt ?_))
  cases h;exact en Tryz.results169
 have ah:k0<l.length:=by have:=Akp hc;omega
 obtain⟨ab,b0,aj,h,aa⟩:=Bc aa ah
 have aw:=A9 aj
 have ak:=wk (k:=k0) (by omega)
 unfold Tz at h;try dsimp only at h
 refine sk (qn (sq (bk (sq (ar rfl (qn (sq ?_)))))))
 refine rg rfl fun K j=>?_
 refine Bo.of (f:=Ap) (l:=l) aw ?_
 refine nS ?_
 refine Al.inline Tryz.call248 Tryz.func248 rfl rfl (by show _≤8;simp) ?_
 refine nS (sq ?_)
 refine ar rfl (qn (sq ?_))
 refine ar rfl (qn (rt ?_))
 refine nSc Tryz.results248 ?_
 refine j _ _ (qn ?_);clear j K
 revert h;refine ca rfl (fun hc h=>?_) fun hc h=>?_
 ·refine sq (ar rfl (qn (rt (br (qr (qr ?_))))))
  obtain rfl:=Aa h
  obtain rfl:=Ae aa
  replace h:=Ao ae
  refine br (qr (nSc Tryz.results247 ?_))
  refine j _ _ (qn (rt ?_))
  cases h;exact en Tryz.results169
 refine sk (bn (qn (ar rfl (qn ?_))))
 obtain rfl:=Aa h
 refine⟨(k0+1,(),()),⟨by dsimp only;omega,Aj aa⟩,by dsimp only;omega,?_,?_⟩
 ·exact cuw ak
 exact cuw ak
def Ph (m:Bh):Option (Bool):=
 (bif (decide (m.State=0))then some true else(Jb m).bind fun y1=>some y1)
theorem V6 (m:Bh) {r:Bool} (h:Ph m=some r):Ad Tryz.prog 170 [.agg (Ap m)] (·= .bool r):=by
 refine Ad.nle (Ad.intro Tryz.func170 rfl rfl (by show _≤10;simp) ?_)
 unfold Ph at h
 refine nS (sq ?_)
 refine ar rfl (qn (sq ?_))
 refine rg rfl fun K j=>?_
 revert h;refine gf (fun hc h=>?_) fun hc h=>?_
 ·obtain⟨y1,bp,h⟩:=Ah h
  refine Al.pure Tryz.call249 (S7 m bp) rfl fun _ hr=>?_
  subst hr
  refine nS ?_
  refine j _ _ (qn (rt ?_))
  cases h;exact en Tryz.results170
 refine j _ _ (qn (rt ?_))
 cases h;exact en Tryz.results170
def Ij (l:List Bh) (k0:Nat) (ab:Bh) (k4:Nat) (_x:Unit) (sv:Unit):Option (Out (Unit) (Out (Unit) (Int))):=
 (Dv (l.take k0) ((k4:Nat):Int)).bind fun cx=>(Ph ab).bind fun y7=>(bif y7 then(Ph cx).bind fun y8=>(bif y8 then(bif (decide (cx.Slide=ab.Slide))then some (Out.ret (Out.ret 15))else some (Out.next ()))else some (Out.next ()))else some (Out.next ()))
def Oy (l:List Bh) (k0:Nat) (ab:Bh) (sv:Unit):Option (Out (Unit) (Int)):=
 (Mw ab).bind fun y3=>(bif (!y3)then some (Out.ret 2)else okB (decide (0≤((k0:Nat):Int)∧((k0:Nat):Int)≤((l.length:Nat):Int))) ((Vm (l.take k0) ab.ID).bind fun y4=>(bif (decide (0≤y4))then some (Out.ret 7)else okB (decide (0≤((k0:Nat):Int)∧((k0:Nat):Int)≤((l.length:Nat):Int))) ((Ki (Ij l k0 ab) k0 ()).bind fun o4=>o4.on fun s4=>some (Out.next ())))))
def Qd (l:List Bh):Option (Int):=
 (bif (decide (64<((l.length:Nat):Int)))then some 4 else(An (Oy l) 0 l ()).bind fun o0=>o0.on fun s0=>some 0)
theorem dL (l:List Bh) {r:Int} (h:Qd l=some r):Ad Tryz.prog 80 [.sl 7 (l.map Ap)] (·= .int .i64 r):=by
 refine Ad.nle (Ad.intro Tryz.func80 rfl rfl (by show _≤50;simp) ?_)
 unfold Qd at h
 refine nS (sq ?_)
 refine ar rfl (qn (sq (sq ?_)))
 refine rg rfl fun K j=>?_
 intro hm
 refine j _ _ (qn ?_)
 revert h;refine ca rfl (fun hc h=>?_) fun hc h=>?_
 ·refine sq (ar rfl (qn (rt (qr ?_))))
  cases h;exact en Tryz.results80
 refine sk (qn (sq (sq (rg rfl fun K j=>?_))))
 intro hm
 refine j _ _ (qn (bk ?_))
 obtain⟨o0,aa,ae⟩:=Ah h
 clear h
 refine AWP.Bw (ι:=Nat×(Unit)×(Unit)) (fun zz=>[(0,.sl 7 (l.map Ap)),(10,.sl 7 (l.map Ap)),(11,.int .i64 ((l.length:Nat):Int)),(12,.int .i64 ((zz.1:Nat):Int))]) (fun zz=>[]) (fun zz=>zz.1≤l.length∧An (Oy l) zz.1 ((l).drop zz.1) zz.2.1=some o0) (fun zz=>l.length - zz.1) (0,(),()) ⟨Nat.zero_le _,aa⟩ cu cu (fun x=>⟨rfl,rfl,rfl⟩) ?_
 clear aa
 rintro⟨k0,⟨⟩,⟨⟩⟩ ⟨bg,aa⟩
 dsimp only at bg aa ⊢
 refine sq (ar rfl (qn (sq ?_)))
 refine AWP.cond (Am (fun hc=>?_) (fun hc=>?_))
 rotate_left
 ·obtain rfl:=Bg aa (fun hl=>by have:=Ako hc;omega)
  have h:=Bf ae;try dsimp only at h
  have ag:l.length=k0:=by have:=Ako hc;omega
  subst ag
  refine xt (qe (qe (bs (qn (sq (ar rfl (qn (rt ?_))))))))
  cases h;exact en Tryz.results80
 have ah:k0<l.length:=by have:=Akp hc;omega
 obtain⟨ab,b0,aj,h,aa⟩:=Bc aa ah
 have aw:=A9 aj
 have ak:=wk (k:=k0) (by omega)
 unfold Oy at h;try dsimp only at h
 refine sk (qn (sq (bk (sq (rg rfl fun K j=>?_)))))
 refine Bo.of (f:=Ap) (l:=l) aw ?_
 refine nS ?_
 refine j _ _ (qn (sq (sq ?_)))
 refine rg rfl fun K j=>?_
 obtain⟨y3,bx,h⟩:=Ah h
 refine Al.pure Tryz.call168 (Zx ab bx) rfl fun _ hr=>?_
 subst hr
 refine nS ?_
 refine j _ _ (qn ?_)
 revert h;refine ca rfl (fun hc h=>?_) fun hc h=>?_
 ·refine sq (ar rfl (qn (rt (qr (br (qr (qr ?_)))))))
  obtain rfl:=Aa h
  obtain rfl:=Ae aa
  replace h:=Ao ae
  refine br (qr ?_)
  cases h;exact en Tryz.results80
 refine sk (qn (sq (sq ?_)))
 refine AWP.draw Tryz.mixed (by kernel_rfl) ?_;intro K j
 refine nS ?_
 obtain⟨hk,h⟩:=Fz h
 intro hm
 (repeat(refine⟨by omega,?_⟩))
 obtain⟨y4,cn,h⟩:=Ah h
 refine Cf.pure Tryz.call169 (fG (l.take k0) ab.ID cn) rfl ?_
 refine nS ?_
 refine j _ _ _ (by kernel_rfl) ?_
 refine qn ?_
 revert h;refine ca rfl (fun hc h=>?_) fun hc h=>?_
 ·refine sq (ar rfl (qn (rt (qr (br (qr (qr ?_)))))))
  obtain rfl:=Aa h
  obtain rfl:=Ae aa
  replace h:=Ao ae
  refine br (qr ?_)
  cases h;exact en Tryz.results80
 refine sk (qn (sq (rg rfl fun K j=>?_)))
 obtain⟨hk,h⟩:=Fz h
 intro hm
 (repeat(refine⟨by omega,?_⟩))
 intro hm
 refine j _ _ (qn (bk ?_))
 obtain⟨o4,cp,mo⟩:=Ah h
 clear h
 obtain⟨hn4,cp⟩:=S3 cp
 refine AWP.Bw (ι:=Nat×(Unit)×(Unit)) (fun zz=>[(0,.sl 7 (l.map Ap)),(4,.ptr 0 0),(10,.sl 7 (l.map Ap)),(11,.int .i64 ((l.length:Nat):Int)),(12,.int .i64 ((k0:Nat):Int)),(29,.sl 7 ((l.take k0).map Ap)),(30,.int .i64 ((k0:Nat):Int)),(31,.int .i64 ((zz.1:Nat):Int))]) (fun zz=>[.box [.int .i64 ab.ID,.int .i64 ab.Slide,.int .i64 ab.By,.int .i64 ab.State,.int .i64 ab.Since,.int .i64 ab.Window.From,.int .i64 ab.Window.To]]) (fun zz=>zz.1≤k0∧An (Ij l k0 ab) zz.1 ((List.replicate k0 ()).drop zz.1) zz.2.1=some o4) (fun zz=>k0 - zz.1) (0,(),()) ⟨Nat.zero_le _,cp⟩ cu cu (fun x=>⟨rfl,rfl,rfl⟩) ?_
 clear cp
 rintro⟨k4,⟨⟩,⟨⟩⟩ ⟨si,cp⟩
 dsimp only at si cp ⊢
 refine sq (ar rfl (qn (sq ?_)))
 refine AWP.cond (Am (fun hc=>?_) (fun hc=>?_))
 rotate_left
 ·obtain rfl:=Bg cp (fun hl=>by rw[Akx]at hl;have:=Ako hc;omega)
  have h:=Bf mo;try dsimp only at h
  have ag:k0=k4:=by have:=Ako hc;omega
  subst ag
  refine xt (qe (qe (bs (bn (qn (ar rfl (qn ?_)))))))
  obtain rfl:=Aa h
  refine⟨(k0+1,(),()),⟨by dsimp only;omega,Aj aa⟩,by dsimp only;omega,?_,?_⟩
  ·exact cuw ak
  exact cuw ak
 have js:k4<k0:=by have:=Akp hc;omega
 obtain⟨_,b4,_,h,cp⟩:=Bc cp (by rw[Akx];exact js)
 have ij:=wk (k:=k4) (by omega)
 unfold Ij at h;try dsimp only at h
 refine sk (qn (sq (bk (sq (rg rfl fun K j=>?_)))))
 obtain⟨cx,gm,h⟩:=Ah h
 refine Bo.of (f:=Ap) (l:=(l.take k0)) gm ?_
 refine nS ?_
 refine j _ _ (qn (sq ?_))
 refine rg rfl fun K j=>?_
 obtain⟨y7,eo,h⟩:=Ah h
 refine Al.pure Tryz.call170 (V6 ab eo) rfl fun _ hr=>?_
 subst hr
 refine nS ?_
 revert h;refine gt (fun hc h=>?_) fun hc h=>?_
 ·obtain⟨y8,fp,h⟩:=Ah h
  refine Al.pure Tryz.call170 (V6 cx fp) rfl fun _ hr=>?_
  subst hr
  refine nS ?_
  revert h;refine gt (fun hc h=>?_) fun hc h=>?_
  ·refine j _ _ (qn ?_)
   revert h;refine ca rfl (fun hc h=>?_) fun hc h=>?_
   ·refine sq (ar rfl (qn (rt (br (qr (qr ?_))))))
    obtain rfl:=Aa h
    obtain rfl:=Ae cp
    replace h:=Ao mo
    refine br (br (qr (qr ?_)))
    obtain rfl:=Aa h
    obtain rfl:=Ae aa
    replace h:=Ao ae
    refine br (qr ?_)
    cases h;exact en Tryz.results80
   refine sk (bn (qn (ar rfl (qn ?_))))
   obtain rfl:=Aa h
   refine⟨(k4+1,(),()),⟨by dsimp only;omega,Aj cp⟩,by dsimp only;omega,?_,?_⟩
   ·exact cuw ij
   exact cuw ij
  refine j _ _ (qn ?_)
  refine AWP.cond (Bj ?_)
  refine sk (bn (qn (ar rfl (qn ?_))))
  obtain rfl:=Aa h
  refine⟨(k4+1,(),()),⟨by dsimp only;omega,Aj cp⟩,by dsimp only;omega,?_,?_⟩
  ·exact cuw ij
  exact cuw ij
 refine j _ _ (qn ?_)
 refine AWP.cond (Bj ?_)
 refine sk (bn (qn (ar rfl (qn ?_))))
 obtain rfl:=Aa h
 refine⟨(k4+1,(),()),⟨by dsimp only;omega,Aj cp⟩,by dsimp only;omega,?_,?_⟩
 ·exact cuw ij
 exact cuw ij
def Qh (l:List Int) (k0:Nat) (ab:Int) (sv:Unit):Option (Out (Unit) (Bool)):=
 (bif (decide (ab<1))then some (Out.ret false)else (bif (decide (9999<ab))then some (Out.ret false)else (bif (decide (0<((k0:Nat):Int)))then (Dv l (IntKind.i64.wrap (((k0:Nat):Int) - 1))).bind fun bb=>(bif (decide (ab≤bb))then some (Out.ret false)else some (Out.next ()))else some (Out.next ()))))
def Qz (l:List Int):Option (Bool):=
 (An (Qh l) 0 l ()).bind fun o0=>o0.on fun s0=>some (decide (0<((l.length:Nat):Int)))
theorem Z7 (l:List Int) {r:Bool} (h:Qz l=some r):Ad Tryz.prog 171 [.sl 1 (l.map Bb)] (·= .bool r):=by
 refine Ad.nle (Ad.intro Tryz.func171 rfl rfl (by show _≤35;simp) ?_)
 unfold Qz at h
 refine nS (sq ?_)
 refine ar rfl (qn (sq (sq ?_)))
 refine rg rfl fun K j=>?_
 intro hm
 refine j _ _ (qn (bk ?_))
 obtain⟨o0,aa,ae⟩:=Ah h
 clear h
 refine AWP.Bw (ι:=Nat×(Unit)×(Unit)) (fun zz=>[(0,.sl 1 (l.map Bb)),(5,.sl 1 (l.map Bb)),(6,.int .i64 ((l.length:Nat):Int)),(7,.int .i64 ((zz.1:Nat):Int))]) (fun zz=>[]) (fun zz=>zz.1≤l.length∧An (Qh l) zz.1 ((l).drop zz.1) zz.2.1=some o0) (fun zz=>l.length - zz.1) (0,(),()) ⟨Nat.zero_le _,aa⟩ cu cu (fun x=>⟨rfl,rfl,rfl⟩) ?_
 clear aa
 rintro⟨k0,⟨⟩,⟨⟩⟩ ⟨bg,aa⟩
 dsimp only at bg aa ⊢
 refine sq (ar rfl (qn (sq ?_)))
 refine AWP.cond (Am (fun hc=>?_) (fun hc=>?_))
 rotate_left
 ·obtain rfl:=Bg aa (fun hl=>by have:=Ako hc;omega)
  have h:=Bf ae;try dsimp only at h
  have ag:l.length=k0:=by have:=Ako hc;omega
  subst ag
  refine xt (qe (qe (bs (qn (sq (rg rfl fun K j=>?_))))))
  intro hm
  refine j _ _ (qn (rt ?_))
  cases h;exact en Tryz.results171
 have ah:k0<l.length:=by have:=Akp hc;omega
 obtain⟨ab,b0,aj,h,aa⟩:=Bc aa ah
 have aw:=A9 aj
 have ak:=wk (k:=k0) (by omega)
 unfold Qh at h;try dsimp only at h
 refine sk (qn (sq (bk (sq (rg rfl fun K j=>?_)))))
 refine Bo.of (f:=Bb) (l:=l) aw ?_
 refine nS ?_
 refine j _ _ (qn (sq ?_))
 refine rg rfl fun K j=>?_
 revert h;refine gf (fun hc h=>?_) fun hc h=>?_
 rotate_left
 ·refine j _ _ (qn ?_)
  refine AWP.cond (Ai ?_)
  refine sq (ar rfl (qn (rt (br (qr (qr ?_))))))
  obtain rfl:=Aa h
  obtain rfl:=Ae aa
  replace h:=Ao ae
  refine br (qr ?_)
  cases h;exact en Tryz.results171
 revert h;refine gf (fun hc h=>?_) fun hc h=>?_
 rotate_left
 ·refine j _ _ (qn ?_)
  refine AWP.cond (Ai ?_)
  refine sq (ar rfl (qn (rt (br (qr (qr ?_))))))
  obtain rfl:=Aa h
  obtain rfl:=Ae aa
  replace h:=Ao ae
  refine br (qr ?_)
  cases h;exact en Tryz.results171
 revert h;refine gt (fun hc h=>?_) fun hc h=>?_
 ·obtain⟨bb,du,h⟩:=Ah h
  refine Bo.of (f:=Bb) (l:=l) du ?_
  refine nS ?_
  refine j _ _ (qn ?_)
  revert h;refine ca rfl (fun hc h=>?_) fun hc h=>?_
  ·refine sq (ar rfl (qn (rt (br (qr (qr ?_))))))
   obtain rfl:=Aa h
   obtain rfl:=Ae aa
   replace h:=Ao ae
   refine br (qr ?_)
   cases h;exact en Tryz.results171
  refine sk (bn (qn (ar rfl (qn ?_))))
  obtain rfl:=Aa h
  refine⟨(k0+1,(),()),⟨by dsimp only;omega,Aj aa⟩,by dsimp only;omega,?_,?_⟩
  ·exact cuw ak
  exact cuw ak
 refine j _ _ (qn ?_)
 refine AWP.cond (Bj ?_)
 refine sk (bn (qn (ar rfl (qn ?_))))
 obtain rfl:=Aa h
 refine⟨(k0+1,(),()),⟨by dsimp only;omega,Aj aa⟩,by dsimp only;omega,?_,?_⟩
 ·exact cuw ak
 exact cuw ak
def cmp_isNaN_int (x_:Int):Option (Bool):=
 some false
theorem Sd (x_:Int) {r:Bool} (h:cmp_isNaN_int x_=some r):Ad Tryz.prog 277 [.int .i64 x_] (·= .bool r):=by
 refine Ad.nle (Ad.intro Tryz.func277 rfl rfl (by show _≤6;simp) ?_)
 unfold cmp_isNaN_int at h
 refine nS (sq ?_)
 refine ar rfl (qn (sq ?_))
 refine ar rfl (qn (rt ?_))
 cases h;exact en Tryz.results277
def cmp_Less_int (x_:Int) (y:Int):Option (Bool):=
 (cmp_isNaN_int x_).bind fun y1=>(bif y1 then(cmp_isNaN_int y).bind fun y2=>(bif (!y2)then some true else some (decide (x_<y)))else some (decide (x_<y)))
theorem aX (x_:Int) (y:Int) {r:Bool} (h:cmp_Less_int x_ y=some r):Ad Tryz.prog 232 [.int .i64 x_,.int .i64 y] (·= .bool r):=by
 refine Ad.nle (Ad.intro Tryz.func232 rfl rfl (by show _≤17;simp) ?_)
 unfold cmp_Less_int at h
 refine nS (sq ?_)
 refine ar rfl (qn (sq ?_))
 refine rg rfl fun K j=>?_
 obtain⟨y1,bp,h⟩:=Ah h
 refine Al.pure Tryz.call277 (Sd x_ bp) rfl fun _ hr=>?_
 subst hr
 refine nS ?_
 revert h;refine gt (fun hc h=>?_) fun hc h=>?_
 ·obtain⟨y2,dn,h⟩:=Ah h
  refine Al.pure Tryz.call277 (Sd y dn) rfl fun _ hr=>?_
  subst hr
  refine nS ?_
  revert h;refine gf (fun hc h=>?_) fun hc h=>?_
  ·refine j _ _ (qn (rt ?_))
   cases h;exact en Tryz.results232
  refine j _ _ (qn (rt ?_))
  cases h;exact en Tryz.results232
 refine j _ _ (qn (rt ?_))
 cases h;exact en Tryz.results232
def Ln (x_:Int):Option (Bool):=
 some false
theorem O1 (x_:Int) {r:Bool} (h:Ln x_=some r):Ad Tryz.prog 285 [.int .i64 x_] (·= .bool r):=by
 refine Ad.nle (Ad.intro Tryz.func285 rfl rfl (by show _≤6;simp) ?_)
 unfold Ln at h
 refine nS (sq ?_)
 refine ar rfl (qn (sq ?_))
 refine ar rfl (qn (rt ?_))
 cases h;exact en Tryz.results285
def Dh (x_:List Int) (target:Int) (sv:Int×Int):Option (Out (Int×Int) (Int×Bool)):=
 (bif (decide (sv.1<sv.2))then (Dv x_ (IntKind.i64.wrap (fY (IntKind.u64.wrap (IntKind.i64.wrap (sv.1+sv.2))) 1))).bind fun au=>(cmp_Less_int au target).bind fun y5=>(bif y5 then some (Out.next ((IntKind.i64.wrap ((IntKind.i64.wrap (fY (IntKind.u64.wrap (IntKind.i64.wrap (sv.1+sv.2))) 1))+1)),sv.2))else some (Out.next (sv.1,(IntKind.i64.wrap (fY (IntKind.u64.wrap (IntKind.i64.wrap (sv.1+sv.2))) 1)))))else ((bif (decide (sv.1<((x_.length:Nat):Int)))then (Dv x_ sv.1).bind fun cx=>(bif (decide (cx=target))then some (sv.1,true)else (Ln cx).bind fun y7=>(bif y7 then(Ln target).bind fun y8=>some (sv.1,y8)else some (sv.1,false)))else some (sv.1,false))).bind fun q8=>some (Out.ret q8))
def Dx (x_:List Int) (target:Int):Option (Int×Bool):=
 (D6 (Dh x_ target) fuel (0,((x_.length:Nat):Int))).bind fun o2=>o2.on fun _=>none
theorem Nx (x_:List Int) (target:Int) {r:Int×Bool} (h:Dx x_ target=some r):Ad Tryz.prog 278 [.sl 1 (x_.map Bb),.int .i64 target] (·= .tuple [.int .i64 r.1,.bool r.2]):=by
 refine Ad.nle (Ad.intro Tryz.func278 rfl rfl (by show _≤54;simp) ?_)
 unfold Dx at h
 refine nS (sq ?_)
 refine ar rfl (qn (sq ?_))
 refine rg rfl fun K j=>?_
 intro hm
 refine j _ _ (qn (sq ?_))
 refine ar rfl (qn (sq (bk ?_)))
 obtain⟨o2,ao,ek⟩:=Ah h
 clear h
 refine AWP.Bw (ι:=Nat×(Int×Int)×(Unit)) (fun zz=>[(0,.sl 1 (x_.map Bb)),(1,.int .i64 target),(6,.int .i64 ((x_.length:Nat):Int)),(7,.int .i64 zz.2.1.1),(8,.int .i64 zz.2.1.2)]) (fun zz=>[]) (fun zz=>D6 (Dh x_ target) zz.1 zz.2.1=some o2) (fun zz=>zz.1) (fuel,(0,((x_.length:Nat):Int)),()) ao cu cu (fun x=>⟨rfl,rfl,rfl⟩) ?_
 clear ao
 rintro⟨n2,⟨i1,j2⟩,⟨⟩⟩ ao
 dsimp only at ao ⊢
 obtain⟨m2,b2,rfl,h,ao⟩:=Km ao
 unfold Dh at h;try dsimp only at h
 refine sq (sq (ar rfl (qn ?_)))
 revert h;refine ca rfl (fun hc h=>?_) fun hc h=>?_
 ·refine sk (qn (bk (sq (ar rfl (qn (sq ?_))))))
  refine rg rfl fun K j=>?_
  obtain⟨au,gp,h⟩:=Ah h
  refine Bo.of (f:=Bb) (l:=x_) gp ?_
  refine nS ?_
  obtain⟨y5,db,h⟩:=Ah h
  refine Al.pure Tryz.call232 (aX au target db) rfl fun _ hr=>?_
  subst hr
  refine nS ?_
  refine j _ _ (qn ?_)
  revert h;refine ca rfl (fun hc h=>?_) fun hc h=>?_
  ·refine ar rfl (bn (qn ?_))
   obtain rfl:=Aa h
   refine⟨(m2,((IntKind.i64.wrap ((IntKind.i64.wrap (fY (IntKind.u64.wrap (IntKind.i64.wrap (i1+j2))) 1))+1)),j2),()),Aj ao,by dsimp only;omega,?_,?_⟩
   ·exact cu
   exact cu
  refine ar rfl (bn (qn ?_))
  obtain rfl:=Aa h
  refine⟨(m2,(i1,(IntKind.i64.wrap (fY (IntKind.u64.wrap (IntKind.i64.wrap (i1+j2))) 1))),()),Aj ao,by dsimp only;omega,?_,?_⟩
  ·exact cu
  exact cu
 refine xt (qe (qe ?_))
 obtain⟨q8,hq,h⟩:=Ah h
 obtain rfl:=Aa h
 obtain rfl:=Ae ao
 replace h:=hq.trans (Ao ek)
 refine bs (qn (sq (rg rfl fun K j=>?_)))
 revert h;refine gt (fun hc h=>?_) fun hc h=>?_
 rotate_left
 ·refine j _ _ (qn (rt ?_))
  cases h;exact en Tryz.results278
 obtain⟨cx,gm,h⟩:=Ah h
 refine Bo.of (f:=Bb) (l:=x_) gm ?_
 refine nS ?_
 revert h;refine gf (fun hc h=>?_) fun hc h=>?_
 ·refine Bo.of (f:=Bb) (l:=x_) gm ?_
  refine nS ?_
  obtain⟨y7,eo,h⟩:=Ah h
  refine Al.pure Tryz.call285 (O1 cx eo) rfl fun _ hr=>?_
  subst hr
  refine nS ?_
  revert h;refine gt (fun hc h=>?_) fun hc h=>?_
  ·obtain⟨y8,fp,h⟩:=Ah h
   refine Al.pure Tryz.call285 (O1 target fp) rfl fun _ hr=>?_
   subst hr
   refine nS ?_
   refine j _ _ (qn (rt ?_))
   cases h;exact en Tryz.results278
  refine j _ _ (qn (rt ?_))
  cases h;exact en Tryz.results278
 refine j _ _ (qn (rt ?_))
 cases h;exact en Tryz.results278
def Ny (w:A8) (run:Int):Option (Bool):=
 (Dx w.Runs run).bind fun y1=>some y1.2
theorem Z6 (w:A8) (run:Int) {r:Bool} (h:Ny w run=some r):Ad Tryz.prog 253 [.agg (Ak w),.int .i64 run] (·= .bool r):=by
 refine Ad.nle (Ad.intro Tryz.func253 rfl rfl (by show _≤15;simp) ?_)
 unfold Ny at h
 refine nS (sq ?_)
 refine ar rfl (qn (sq ?_))
 refine rg rfl fun K j=>?_
 obtain⟨y1,bp,h⟩:=Ah h
 refine Al.pure Tryz.call278 (Nx w.Runs run bp) rfl fun _ hr=>?_
 subst hr
 refine nS ?_
 refine j _ _ (qn (sq ?_))
 refine ar rfl (qn (rt ?_))
 cases h;exact en Tryz.results253
def Gu (w:A8) (k0:Nat) (ab:Int) (sv:Unit):Option (Out (Unit) (Bool)):=
 (Ny w ab).bind fun y3=>(bif y3 then some (Out.ret (decide (0≤((k0:Nat):Int))))else some (Out.next ()))
def Kj (v:A8) (w:A8):Option (Bool):=
 (bif (decide (w.To≤v.From))then some false else(bif (decide (v.To≤w.From))then some false else(bif (decide (v.Groomer=w.Groomer))then some true else(An (Gu w) 0 v.Runs ()).bind fun o0=>o0.on fun s0=>some false)))
theorem Yn (v:A8) (w:A8) {r:Bool} (h:Kj v w=some r):Ad Tryz.prog 174 [.agg (Ak v),.agg (Ak w)] (·= .bool r):=by
 refine Ad.nle (Ad.intro Tryz.func174 rfl rfl (by show _≤28;simp) ?_)
 unfold Kj at h
 refine nS (sq ?_)
 refine ar rfl (qn (sq (sq ?_)))
 refine rg rfl fun K j=>?_
 revert h;refine gf (fun hc h=>?_) fun hc h=>?_
 rotate_left
 ·refine j _ _ (qn ?_)
  refine AWP.cond (Ai ?_)
  refine sq (ar rfl (qn (rt (qr ?_))))
  cases h;exact en Tryz.results174
 refine j _ _ (qn ?_)
 revert h;refine ca rfl (fun hc h=>?_) fun hc h=>?_
 ·refine sq (ar rfl (qn (rt (qr ?_))))
  cases h;exact en Tryz.results174
 refine sk (qn (sq (rg rfl fun K j=>?_)))
 revert h;refine gf (fun hc h=>?_) fun hc h=>?_
 rotate_left
 ·refine j _ _ (qn (rt ?_))
  cases h;exact en Tryz.results174
 refine Al.inline Tryz.call251 Tryz.func251 rfl rfl (by show _≤9;simp) ?_
 refine nS (sq ?_)
 refine ar rfl (qn (sq ?_))
 refine rg rfl fun K j=>?_
 refine Al.inline Tryz.call150 Tryz.func150 rfl rfl (by show _≤19;simp) ?_
 refine nS (sq ?_)
 refine ar rfl (qn (sq (sq ?_)))
 refine rg rfl fun K j=>?_
 intro hm
 refine j _ _ (qn (bk ?_));clear j K
 obtain⟨o0,aa,ae⟩:=Ah h
 clear h
 refine AWP.Bw (ι:=Nat×(Unit)×(Unit)) (fun zz=>[(0,.sl 1 (v.Runs.map Bb)),(1,.func 252 [.ptr 1 0]),(7,.int .i64 ((v.Runs.length:Nat):Int)),(8,.int .i64 ((zz.1:Nat):Int))]) (fun zz=>[.box [.int .i64 v.Groomer,.int .i64 v.From,.int .i64 v.To,.sl 1 (v.Runs.map Bb)],.box [.int .i64 w.Groomer,.int .i64 w.From,.int .i64 w.To,.sl 1 (w.Runs.map Bb)]]) (fun zz=>zz.1≤v.Runs.length∧An (Gu w) zz.1 ((v.Runs).drop zz.1) zz.2.1=some o0) (fun zz=>v.Runs.length - zz.1) (0,(),()) ⟨Nat.zero_le _,aa⟩ cu cu (fun x=>⟨rfl,rfl,rfl⟩) ?_
 clear aa
 rintro⟨k0,⟨⟩,⟨⟩⟩ ⟨bg,aa⟩
 dsimp only at bg aa ⊢
 refine sq (ar rfl (qn (sq ?_)))
 refine AWP.cond (Am (fun hc=>?_) (fun hc=>?_))
 rotate_left
 ·obtain rfl:=Bg aa (fun hl=>by have:=Ako hc;omega)
  have h:=Bf ae;try dsimp only at h
  have ag:v.Runs.length=k0:=by have:=Ako hc;omega
  subst ag
  refine xt (qe (qe (bs (qn (sq (ar rfl (qn (rt ?_))))))))
  refine nSc Tryz.results150 ?_
  refine j _ _ (qn (rt ?_));clear j K
  refine nSc Tryz.results251 ?_
  refine j _ _ (qn (rt ?_))
  cases h;exact en Tryz.results174
 have ah:k0<v.Runs.length:=by have:=Akp hc;omega
 obtain⟨ab,b0,aj,h,aa⟩:=Bc aa ah
 have aw:=A9 aj
 have ak:=wk (k:=k0) (by omega)
 unfold Gu at h;try dsimp only at h
 refine sk (qn (sq (bk (sq (ar rfl (qn (sq ?_)))))))
 refine rg rfl fun K j=>?_
 refine Bo.of (f:=Bb) (l:=v.Runs) aw ?_
 refine nS ?_
 refine Al.inline Tryz.call252 Tryz.func252 rfl rfl (by show _≤7;simp) ?_
 refine nS (sq ?_)
 refine ar rfl (qn (sq ?_))
 refine rg rfl fun K j=>?_
 obtain⟨y3,bx,h⟩:=Ah h
 refine Al.pure Tryz.call253 (Z6 w ab bx) rfl fun _ hr=>?_
 subst hr
 refine nS ?_
 refine j _ _ (qn (rt ?_));clear j K
 refine nSc Tryz.results252 ?_
 refine j _ _ (qn ?_);clear j K
 revert h;refine ca rfl (fun hc h=>?_) fun hc h=>?_
 ·refine sq (ar rfl (qn (rt (br (qr (qr ?_))))))
  obtain rfl:=Aa h
  obtain rfl:=Ae aa
  replace h:=Ao ae
  refine br (qr (nSc Tryz.results150 ?_))
  refine j _ _ (qn (rt ?_));clear j K
  refine nSc Tryz.results251 ?_
  refine j _ _ (qn (rt ?_))
  cases h;exact en Tryz.results174
 refine sk (bn (qn (ar rfl (qn ?_))))
 obtain rfl:=Aa h
 refine⟨(k0+1,(),()),⟨by dsimp only;omega,Aj aa⟩,by dsimp only;omega,?_,?_⟩
 ·exact cuw ak
 exact cuw ak
def Kl (l:List A8) (k0:Nat) (ab:A8) (k3:Nat) (_x:Unit) (sv:Unit):Option (Out (Unit) (Out (Unit) (Int))):=
 (Dv (l.take k0) ((k3:Nat):Int)).bind fun ch=>(Kj ch ab).bind fun y6=>(bif y6 then((bif (decide (0≤((k3:Nat):Int)))then some (Out.ret 15)else some (Out.next ()))).bind fun q6=>some (Out.ret q6)else some (Out.next ()))
def Hw (l:List A8) (k0:Nat) (ab:A8) (sv:Unit):Option (Out (Unit) (Int)):=
 (bif (decide (ab.Groomer<1))then some (Out.ret 2)else (bif (decide (9999<ab.Groomer))then some (Out.ret 2)else (bif (decide (ab.From<0))then some (Out.ret 2)else (bif (decide (ab.To≤ab.From))then some (Out.ret 2)else (bif (decide (20000000<ab.To))then some (Out.ret 2)else (Qz ab.Runs).bind fun y3=>(bif (!y3)then some (Out.ret 1)else okB (decide (0≤((k0:Nat):Int)∧((k0:Nat):Int)≤((l.length:Nat):Int))) ((Ki (Kl l k0 ab) k0 ()).bind fun o3=>o3.on fun s3=>some (Out.next ()))))))))
def Pv (l:List A8):Option (Int):=
 (bif (decide (16<((l.length:Nat):Int)))then some 4 else(An (Hw l) 0 l ()).bind fun o0=>o0.on fun s0=>some 0)
theorem bM (l:List A8) {r:Int} (h:Pv l=some r):Ad Tryz.prog 81 [.sl 4 (l.map Ak)] (·= .int .i64 r):=by
 refine Ad.nle (Ad.intro Tryz.func81 rfl rfl (by show _≤50;simp) ?_)
 unfold Pv at h
 refine nS (sq ?_)
 refine ar rfl (qn (sq (sq ?_)))
 refine rg rfl fun K j=>?_
 intro hm
 refine j _ _ (qn ?_)
 revert h;refine ca rfl (fun hc h=>?_) fun hc h=>?_
 ·refine sq (ar rfl (qn (rt (qr ?_))))
  cases h;exact en Tryz.results81
 refine sk (qn (sq (sq (rg rfl fun K j=>?_))))
 intro hm
 refine j _ _ (qn (bk ?_))
 obtain⟨o0,aa,ae⟩:=Ah h
 clear h
 refine AWP.Bw (ι:=Nat×(Unit)×(Unit)) (fun zz=>[(0,.sl 4 (l.map Ak)),(8,.sl 4 (l.map Ak)),(9,.int .i64 ((l.length:Nat):Int)),(10,.int .i64 ((zz.1:Nat):Int))]) (fun zz=>[]) (fun zz=>zz.1≤l.length∧An (Hw l) zz.1 ((l).drop zz.1) zz.2.1=some o0) (fun zz=>l.length - zz.1) (0,(),()) ⟨Nat.zero_le _,aa⟩ cu cu (fun x=>⟨rfl,rfl,rfl⟩) ?_
 clear aa
 rintro⟨k0,⟨⟩,⟨⟩⟩ ⟨bg,aa⟩
 dsimp only at bg aa ⊢
 refine sq (ar rfl (qn (sq ?_)))
 refine AWP.cond (Am (fun hc=>?_) (fun hc=>?_))
 rotate_left
 ·obtain rfl:=Bg aa (fun hl=>by have:=Ako hc;omega)
  have h:=Bf ae;try dsimp only at h
  have ag:l.length=k0:=by have:=Ako hc;omega
  subst ag
  refine xt (qe (qe (bs (qn (sq (ar rfl (qn (rt ?_))))))))
  cases h;exact en Tryz.results81
 have ah:k0<l.length:=by have:=Akp hc;omega
 obtain⟨ab,b0,aj,h,aa⟩:=Bc aa ah
 have aw:=A9 aj
 have ak:=wk (k:=k0) (by omega)
 unfold Hw at h;try dsimp only at h
 refine sk (qn (sq (bk (sq (rg rfl fun K j=>?_)))))
 refine Bo.of (f:=Ak) (l:=l) aw ?_
 refine nS ?_
 refine j _ _ (qn (sq (sq ?_)))
 refine rg rfl fun K j=>?_
 revert h;refine gf (fun hc h=>?_) fun hc h=>?_
 rotate_left
 ·refine j _ _ (qn ?_)
  refine AWP.cond (Ai ?_)
  refine sq (ar rfl (qn (rt (qr (br (qr (qr ?_)))))))
  obtain rfl:=Aa h
  obtain rfl:=Ae aa
  replace h:=Ao ae
  refine br (qr ?_)
  cases h;exact en Tryz.results81
 revert h;refine gf (fun hc h=>?_) fun hc h=>?_
 rotate_left
 ·refine j _ _ (qn ?_)
  refine AWP.cond (Ai ?_)
  refine sq (ar rfl (qn (rt (qr (br (qr (qr ?_)))))))
  obtain rfl:=Aa h
  obtain rfl:=Ae aa
  replace h:=Ao ae
  refine br (qr ?_)
  cases h;exact en Tryz.results81
 revert h;refine gf (fun hc h=>?_) fun hc h=>?_
 rotate_left
 ·refine j _ _ (qn ?_)
  refine AWP.cond (Ai ?_)
  refine sq (ar rfl (qn (rt (qr (br (qr (qr ?_)))))))
  obtain rfl:=Aa h
  obtain rfl:=Ae aa
  replace h:=Ao ae
  refine br (qr ?_)
  cases h;exact en Tryz.results81
 revert h;refine gf (fun hc h=>?_) fun hc h=>?_
 rotate_left
 ·refine j _ _ (qn ?_)
  refine AWP.cond (Ai ?_)
  refine sq (ar rfl (qn (rt (qr (br (qr (qr ?_)))))))
  obtain rfl:=Aa h
  obtain rfl:=Ae aa
  replace h:=Ao ae
  refine br (qr ?_)
  cases h;exact en Tryz.results81
 refine j _ _ (qn ?_)
 revert h;refine ca rfl (fun hc h=>?_) fun hc h=>?_
 ·refine sq (ar rfl (qn (rt (qr (br (qr (qr ?_)))))))
  obtain rfl:=Aa h
  obtain rfl:=Ae aa
  replace h:=Ao ae
  refine br (qr ?_)
  cases h;exact en Tryz.results81
 refine sk (qn (sq (sq (rg rfl fun K j=>?_))))
 obtain⟨y3,bx,h⟩:=Ah h
 refine Al.pure Tryz.call171 (Z7 ab.Runs bx) rfl fun _ hr=>?_
 subst hr
 refine nS ?_
 refine j _ _ (qn ?_)
 revert h;refine ca rfl (fun hc h=>?_) fun hc h=>?_
 ·refine sq (ar rfl (qn (rt (qr (br (qr (qr ?_)))))))
  obtain rfl:=Aa h
  obtain rfl:=Ae aa
  replace h:=Ao ae
  refine br (qr ?_)
  cases h;exact en Tryz.results81
 refine sk (qn (sq (rg rfl fun K j=>?_)))
 obtain⟨hk,h⟩:=Fz h
 intro hm
 (repeat(refine⟨by omega,?_⟩))
 refine Al.inline Tryz.call172 Tryz.func172 rfl rfl (by show _≤9;simp) ?_
 refine nS (sq ?_)
 refine ar rfl (qn (sq ?_))
 refine rg rfl fun K j=>?_
 refine Al.inline Tryz.call250 Tryz.func250 rfl rfl (by show _≤19;simp) ?_
 refine nS (sq ?_)
 refine ar rfl (qn (sq (sq ?_)))
 refine rg rfl fun K j=>?_
 intro hm
 refine j _ _ (qn (bk ?_));clear j K
 obtain⟨o3,bw,gw⟩:=Ah h
 clear h
 obtain⟨hn3,bw⟩:=S3 bw
 refine AWP.Bw (ι:=Nat×(Unit)×(Unit)) (fun zz=>[(0,.sl 4 ((l.take k0).map Ak)),(1,.func 173 [.ptr 0 0]),(7,.int .i64 ((k0:Nat):Int)),(8,.int .i64 ((zz.1:Nat):Int))]) (fun zz=>[.box [.int .i64 ab.Groomer,.int .i64 ab.From,.int .i64 ab.To,.sl 1 (ab.Runs.map Bb)]]) (fun zz=>zz.1≤k0∧An (Kl l k0 ab) zz.1 ((List.replicate k0 ()).drop zz.1) zz.2.1=some o3) (fun zz=>k0 - zz.1) (0,(),()) ⟨Nat.zero_le _,bw⟩ cu cu (fun x=>⟨rfl,rfl,rfl⟩) ?_
 clear bw
 rintro⟨k3,⟨⟩,⟨⟩⟩ ⟨nw,bw⟩
 dsimp only at nw bw ⊢
 refine sq (ar rfl (qn (sq ?_)))
 refine AWP.cond (Am (fun hc=>?_) (fun hc=>?_))
 rotate_left
 ·obtain rfl:=Bg bw (fun hl=>by rw[Akx]at hl;have:=Ako hc;omega)
  have h:=Bf gw;try dsimp only at h
  have ag:k0=k3:=by have:=Ako hc;omega
  subst ag
  refine xt (qe (qe (bs (qn (sq (ar rfl (qn (rt ?_))))))))
  refine nSc Tryz.results250 ?_
  refine j _ _ (qn (rt ?_));clear j K
  refine nSc Tryz.results172 ?_
  refine j _ _ (qn ?_)
  refine AWP.cond (Bj ?_)
  refine sk (bn (qn (ar rfl (qn ?_))))
  obtain rfl:=Aa h
  refine⟨(k0+1,(),()),⟨by dsimp only;omega,Aj aa⟩,by dsimp only;omega,?_,?_⟩
  ·exact cuw ak
  exact cuw ak
 have fe:k3<k0:=by have:=Akp hc;omega
 obtain⟨_,b3,_,h,bw⟩:=Bc bw (by rw[Akx];exact fe)
 have iz:=wk (k:=k3) (by omega)
 unfold Kl at h;try dsimp only at h
 refine sk (qn (sq (bk (sq (ar rfl (qn (sq ?_)))))))
 refine rg rfl fun K j=>?_
 obtain⟨ch,gn,h⟩:=Ah h
 refine Bo.of (f:=Ak) (l:=(l.take k0)) gn ?_
 refine nS ?_
 refine Al.inline Tryz.call173 Tryz.func173 rfl rfl (by show _≤7;simp) ?_
 refine nS (sq ?_)
 refine ar rfl (qn (sq ?_))
 refine rg rfl fun K j=>?_
 obtain⟨y6,ey,h⟩:=Ah h
 refine Al.pure Tryz.call174 (Yn ch ab ey) rfl fun _ hr=>?_
 subst hr
 refine nS ?_
 refine j _ _ (qn (rt ?_));clear j K
 refine nSc Tryz.results173 ?_
 refine j _ _ (qn ?_);clear j K
 revert h;refine ca rfl (fun hc h=>?_) fun hc h=>?_
 ·refine sq (ar rfl (qn (rt (br (qr (qr ?_))))))
  obtain⟨q6,hq,h⟩:=Ah h
  obtain rfl:=Aa h
  obtain rfl:=Ae bw
  replace h:=hq.trans (Ao gw)
  refine br (qr (nSc Tryz.results250 ?_))
  refine j _ _ (qn (rt ?_));clear j K
  refine nSc Tryz.results172 ?_
  refine j _ _ (qn ?_)
  revert h;refine ca rfl (fun hc h=>?_) fun hc h=>?_
  ·refine sq (ar rfl (qn (rt (br (qr (qr ?_))))))
   obtain rfl:=Aa h
   obtain rfl:=Ae aa
   replace h:=Ao ae
   refine br (qr ?_)
   cases h;exact en Tryz.results81
  refine sk (bn (qn (ar rfl (qn ?_))))
  obtain rfl:=Aa h
  refine⟨(k0+1,(),()),⟨by dsimp only;omega,Aj aa⟩,by dsimp only;omega,?_,?_⟩
  ·exact cuw ak
  exact cuw ak
 refine sk (bn (qn (ar rfl (qn ?_))))
 obtain rfl:=Aa h
 refine⟨(k3+1,(),()),⟨by dsimp only;omega,Aj bw⟩,by dsimp only;omega,?_,?_⟩
 ·exact cuw iz
 exact cuw iz
def Js (g_:Cb):Option (Bool):=
 (bif (decide (g_.ID<1))then some false else(bif (decide (9999<g_.ID))then some false else(bif (decide (g_.Node<1))then some false else(bif (decide (9999<g_.Node))then some false else(bif (decide (g_.Fuel<0))then some false else(bif (decide (1000000<g_.Fuel))then some false else(bif (decide (g_.State<0))then some false else(bif (decide (2<g_.State))then some false else(bif (decide (g_.Until<0))then some false else(bif (decide (20000000<g_.Until))then some false else(bif (decide (0≤g_.To))then (bif (decide (g_.To≤9999))then (bif (decide (0≤g_.Run))then some (decide (g_.Run≤9999))else some false)else some false)else some false)))))))))))
theorem W9 (g_:Cb) {r:Bool} (h:Js g_=some r):Ad Tryz.prog 175 [.agg (Ax g_)] (·= .bool r):=by
 refine Ad.nle (Ad.intro Tryz.func175 rfl rfl (by show _≤67;simp) ?_)
 unfold Js at h
 refine nS (sq ?_)
 refine ar rfl (qn (sq (sq ?_)))
 refine rg rfl fun K j=>?_
 revert h;refine gf (fun hc h=>?_) fun hc h=>?_
 rotate_left
 ·refine j _ _ (qn ?_)
  refine AWP.cond (Ai ?_)
  refine sq (ar rfl (qn (rt (qr ?_))))
  cases h;exact en Tryz.results175
 revert h;refine gf (fun hc h=>?_) fun hc h=>?_
 rotate_left
 ·refine j _ _ (qn ?_)
  refine AWP.cond (Ai ?_)
  refine sq (ar rfl (qn (rt (qr ?_))))
  cases h;exact en Tryz.results175
 revert h;refine gf (fun hc h=>?_) fun hc h=>?_
 rotate_left
 ·refine j _ _ (qn ?_)
  refine AWP.cond (Ai ?_)
  refine sq (ar rfl (qn (rt (qr ?_))))
  cases h;exact en Tryz.results175
 revert h;refine gf (fun hc h=>?_) fun hc h=>?_
 rotate_left
 ·refine j _ _ (qn ?_)
  refine AWP.cond (Ai ?_)
  refine sq (ar rfl (qn (rt (qr ?_))))
  cases h;exact en Tryz.results175
 revert h;refine gf (fun hc h=>?_) fun hc h=>?_
 rotate_left
 ·refine j _ _ (qn ?_)
  refine AWP.cond (Ai ?_)
  refine sq (ar rfl (qn (rt (qr ?_))))
  cases h;exact en Tryz.results175
 refine j _ _ (qn ?_)
 revert h;refine ca rfl (fun hc h=>?_) fun hc h=>?_
 ·refine sq (ar rfl (qn (rt (qr ?_))))
  cases h;exact en Tryz.results175
 refine sk (qn (sq (sq (rg rfl fun K j=>?_))))
 revert h;refine gf (fun hc h=>?_) fun hc h=>?_
 rotate_left
 ·refine j _ _ (qn ?_)
  refine AWP.cond (Ai ?_)
  refine sq (ar rfl (qn (rt (qr ?_))))
  cases h;exact en Tryz.results175
 revert h;refine gf (fun hc h=>?_) fun hc h=>?_
 rotate_left
 ·refine j _ _ (qn ?_)
  refine AWP.cond (Ai ?_)
  refine sq (ar rfl (qn (rt (qr ?_))))
  cases h;exact en Tryz.results175
 revert h;refine gf (fun hc h=>?_) fun hc h=>?_
 ·refine j _ _ (qn ?_)
  revert h;refine ca rfl (fun hc h=>?_) fun hc h=>?_
  ·refine sq (ar rfl (qn (rt (qr ?_))))
   cases h;exact en Tryz.results175
  refine sk (qn (sq (rg rfl fun K j=>?_)))
  revert h;refine gt (fun hc h=>?_) fun hc h=>?_
  ·revert h;refine gt (fun hc h=>?_) fun hc h=>?_
   ·revert h;refine gt (fun hc h=>?_) fun hc h=>?_
    ·refine j _ _ (qn (rt ?_))
     cases h;exact en Tryz.results175
    refine j _ _ (qn (rt ?_))
    cases h;exact en Tryz.results175
   refine j _ _ (qn (rt ?_))
   cases h;exact en Tryz.results175
  refine j _ _ (qn (rt ?_))
  cases h;exact en Tryz.results175
 refine j _ _ (qn ?_)
 refine AWP.cond (Ai ?_)
 refine sq (ar rfl (qn (rt (qr ?_))))
 cases h;exact en Tryz.results175
def Ia (k1:Nat) (bb:Cb) (sv:(List (Int×Bool))):Option (Out ((List (Int×Bool))) (Int)):=
 (Js bb).bind fun y4=>(bif (!y4)then some (Out.ret 2)else (bif (mget false sv bb.ID)then some (Out.ret 7)else (bif ((decide (bb.To≠0)) !=(decide (bb.State=1)))then some (Out.ret 10)else (bif ((decide (bb.Run≠0)) !=(decide (bb.State=2)))then some (Out.ret 10)else some (Out.next (mset sv bb.ID true))))))
def Ms (l:List Cb):Option (Int):=
 (bif (decide (16<((l.length:Nat):Int)))then some 4 else(An Ia 0 l []).bind fun o1=>o1.on fun s1=>some 0)
theorem Zs (l:List Cb) {r:Int} (h:Ms l=some r):Ad Tryz.prog 82 [.sl 8 (l.map Ax)] (·= .int .i64 r):=by
 refine Ad.nle (Ad.intro Tryz.func82 rfl rfl (by show _≤43;simp) ?_)
 unfold Ms at h
 refine nS (sq ?_)
 refine ar rfl (qn (sq (sq ?_)))
 refine rg rfl fun K j=>?_
 intro hm
 refine j _ _ (qn ?_)
 revert h;refine ca rfl (fun hc h=>?_) fun hc h=>?_
 ·refine sq (ar rfl (qn (rt (qr ?_))))
  cases h;exact en Tryz.results82
 refine sk (qn (sq (ar rfl (qn (sq (sq ?_))))))
 refine rg rfl fun K j=>?_
 intro hm
 refine j _ _ (qn (bk ?_))
 obtain⟨o1,az,dj⟩:=Ah h
 clear h
 refine AWP.Bw (ι:=Nat×((List (Int×Bool)))×(Unit)) (fun zz=>[(3,.map 0),(10,.sl 8 (l.map Ax)),(11,.int .i64 ((l.length:Nat):Int)),(12,.int .i64 ((zz.1:Nat):Int))]) (fun zz=>[.mp (mpE eN zz.2.1)]) (fun zz=>zz.1≤l.length∧An Ia zz.1 ((l).drop zz.1) zz.2.1=some o1) (fun zz=>l.length - zz.1) (0,[],()) ⟨Nat.zero_le _,az⟩ cu cu (fun x=>⟨rfl,rfl,rfl⟩) ?_
 clear az
 rintro⟨k1,seen1,⟨⟩⟩ ⟨jd,az⟩
 dsimp only at jd az ⊢
 refine sq (ar rfl (qn (sq ?_)))
 refine AWP.cond (Am (fun hc=>?_) (fun hc=>?_))
 rotate_left
 ·obtain rfl:=Bg az (fun hl=>by have:=Ako hc;omega)
  have h:=Bf dj;try dsimp only at h
  have ag:l.length=k1:=by have:=Ako hc;omega
  subst ag
  refine xt (qe (qe (bs (qn (sq (ar rfl (qn (rt ?_))))))))
  cases h;exact en Tryz.results82
 have dy:k1<l.length:=by have:=Akp hc;omega
 obtain⟨bb,b1,ei,h,az⟩:=Bc az dy
 have jc:=A9 ei
 have cq:=wk (k:=k1) (by omega)
 unfold Ia at h;try dsimp only at h
 refine sk (qn (sq (bk (sq (rg rfl fun K j=>?_)))))
 refine Bo.of (f:=Ax) (l:=l) jc ?_
 refine nS ?_
 refine j _ _ (qn (sq (sq ?_)))
 refine rg rfl fun K j=>?_
 obtain⟨y4,cn,h⟩:=Ah h
 refine Al.pure Tryz.call175 (W9 bb cn) rfl fun _ hr=>?_
 subst hr
 refine nS ?_
 refine j _ _ (qn ?_)
 revert h;refine ca rfl (fun hc h=>?_) fun hc h=>?_
 ·refine sq (ar rfl (qn (rt (qr (br (qr (qr ?_)))))))
  obtain rfl:=Aa h
  obtain rfl:=Ae az
  replace h:=Ao dj
  refine br (qr ?_)
  cases h;exact en Tryz.results82
 refine sk (qn (sq (sq (rg rfl fun K j=>?_))))
 refine Ex.of (f:=eN) (m:=seen1) (d:=false) rfl ?_
 refine nS ?_
 refine j _ _ (qn ?_)
 revert h;refine ca rfl (fun hc h=>?_) fun hc h=>?_
 ·refine sq (ar rfl (qn (rt (qr (br (qr (qr ?_)))))))
  obtain rfl:=Aa h
  obtain rfl:=Ae az
  replace h:=Ao dj
  refine br (qr ?_)
  cases h;exact en Tryz.results82
 refine sk (qn (sq (ar rfl (qn (sq ?_)))))
 refine rg rfl fun K j=>?_
 revert h;refine gf (fun hc h=>?_) fun hc h=>?_
 ·refine j _ _ (qn ?_)
  revert h;refine ca rfl (fun hc h=>?_) fun hc h=>?_
  ·refine sq (ar rfl (qn (rt (br (qr (qr ?_))))))
   obtain rfl:=Aa h
   obtain rfl:=Ae az
   replace h:=Ao dj
   refine br (qr ?_)
   cases h;exact en Tryz.results82
  refine sk (bn (qn (ar rfl (qn ?_))))
  obtain rfl:=Aa h
  refine⟨(k1+1,(mset seen1 bb.ID true),()),⟨by dsimp only;omega,Aj az⟩,by dsimp only;omega,?_,?_⟩
  ·exact cuw cq
  exact cuw cq
 refine j _ _ (qn ?_)
 refine AWP.cond (Ai ?_)
 refine sq (ar rfl (qn (rt (br (qr (qr ?_))))))
 obtain rfl:=Aa h
 obtain rfl:=Ae az
 replace h:=Ao dj
 refine br (qr ?_)
 cases h;exact en Tryz.results82
def Fh (f_:Af):Option (Int):=
 (Mf f_.Map).bind fun y1=>(bif (decide (y1≠0))then some y1 else(Mv f_.Closures).bind fun y2=>(bif (decide (y2≠0))then some y2 else(Ol f_.Patrol).bind fun y3=>(bif (decide (y3≠0))then some y3 else(Mg f_.Surfaces).bind fun y4=>(bif (decide (y4≠0))then some y4 else(Jv f_.Slides).bind fun y5=>(bif (decide (y5≠0))then some y5 else(Ig f_.Bulletin).bind fun y6=>(bif (decide (y6≠0))then some y6 else(Qd f_.Missions).bind fun y7=>(bif (decide (y7≠0))then some y7 else(Pv f_.Winches).bind fun y8=>(bif (decide (y8≠0))then some y8 else(Ms f_.Groomers).bind fun y9=>some y9))))))))
theorem Sn (f_:Af) {r:Int} (h:Fh f_=some r):Ad Tryz.prog 37 [.agg (Ce f_)] (·= .int .i64 r):=by
 refine Ad.nle (Ad.intro Tryz.func37 rfl rfl (by show _≤62;simp) ?_)
 unfold Fh at h
 refine nS (sq ?_)
 refine ar rfl (qn (sq (sq ?_)))
 refine rg rfl fun K j=>?_
 obtain⟨y1,bp,h⟩:=Ah h
 refine Al.pure Tryz.call74 (Zc f_.Map bp) rfl fun _ hr=>?_
 subst hr
 refine nS ?_
 refine j _ _ (qn (sq ?_))
 refine ar rfl (qn ?_)
 revert h;refine ca rfl (fun hc h=>?_) fun hc h=>?_
 ·refine sq (ar rfl (qn (rt (qr ?_))))
  cases h;exact en Tryz.results37
 refine sk (qn (sq (sq (rg rfl fun K j=>?_))))
 obtain⟨y2,dn,h⟩:=Ah h
 refine Al.pure Tryz.call75 (Zw f_.Closures dn) rfl fun _ hr=>?_
 subst hr
 refine nS ?_
 refine j _ _ (qn (sq ?_))
 refine ar rfl (qn ?_)
 revert h;refine ca rfl (fun hc h=>?_) fun hc h=>?_
 ·refine sq (ar rfl (qn (rt (qr ?_))))
  cases h;exact en Tryz.results37
 refine sk (qn (sq (sq (rg rfl fun K j=>?_))))
 obtain⟨y3,bx,h⟩:=Ah h
 refine Al.pure Tryz.call76 (aF f_.Patrol bx) rfl fun _ hr=>?_
 subst hr
 refine nS ?_
 refine j _ _ (qn (sq ?_))
 refine ar rfl (qn ?_)
 revert h;refine ca rfl (fun hc h=>?_) fun hc h=>?_
 ·refine sq (ar rfl (qn (rt (qr ?_))))
  cases h;exact en Tryz.results37
 refine sk (qn (sq (sq (rg rfl fun K j=>?_))))
 obtain⟨y4,cn,h⟩:=Ah h
 refine Al.pure Tryz.call77 (Ze f_.Surfaces cn) rfl fun _ hr=>?_
 subst hr
 refine nS ?_
 refine j _ _ (qn (sq ?_))
 refine ar rfl (qn ?_)
 revert h;refine ca rfl (fun hc h=>?_) fun hc h=>?_
 ·refine sq (ar rfl (qn (rt (qr ?_))))
  cases h;exact en Tryz.results37
 refine sk (qn (sq (sq (rg rfl fun K j=>?_))))
 obtain⟨y5,db,h⟩:=Ah h
 refine Al.pure Tryz.call78 (Xp f_.Slides db) rfl fun _ hr=>?_
 subst hr
 refine nS ?_
 refine j _ _ (qn (sq ?_))
 refine ar rfl (qn ?_)
 revert h;refine ca rfl (fun hc h=>?_) fun hc h=>?_
 ·refine sq (ar rfl (qn (rt (qr ?_))))
  cases h;exact en Tryz.results37
 refine sk (qn (sq (sq (rg rfl fun K j=>?_))))
 obtain⟨y6,ey,h⟩:=Ah h
 refine Al.pure Tryz.call79 (Yu f_.Bulletin ey) rfl fun _ hr=>?_
 subst hr
 refine nS ?_
 refine j _ _ (qn (sq ?_))
 refine ar rfl (qn ?_)
 revert h;refine ca rfl (fun hc h=>?_) fun hc h=>?_
 ·refine sq (ar rfl (qn (rt (qr ?_))))
  cases h;exact en Tryz.results37
 refine sk (qn (sq (sq (rg rfl fun K j=>?_))))
 obtain⟨y7,eo,h⟩:=Ah h
 refine Al.pure Tryz.call80 (dL f_.Missions eo) rfl fun _ hr=>?_
 subst hr
 refine nS ?_
 refine j _ _ (qn (sq ?_))
 refine ar rfl (qn ?_)
 revert h;refine ca rfl (fun hc h=>?_) fun hc h=>?_
 ·refine sq (ar rfl (qn (rt (qr ?_))))
  cases h;exact en Tryz.results37
 refine sk (qn (sq (sq (rg rfl fun K j=>?_))))
 obtain⟨y8,fp,h⟩:=Ah h
 refine Al.pure Tryz.call81 (bM f_.Winches fp) rfl fun _ hr=>?_
 subst hr
 refine nS ?_
 refine j _ _ (qn (sq ?_))
 refine ar rfl (qn ?_)
 revert h;refine ca rfl (fun hc h=>?_) fun hc h=>?_
 ·refine sq (ar rfl (qn (rt (qr ?_))))
  cases h;exact en Tryz.results37
 refine sk (qn (sq (rg rfl fun K j=>?_)))
 obtain⟨y9,ic,h⟩:=Ah h
 refine Al.pure Tryz.call82 (Zs f_.Groomers ic) rfl fun _ hr=>?_
 subst hr
 refine nS ?_
 refine j _ _ (qn (rt ?_))
 cases h;exact en Tryz.results37
def Qj (id_:Int) (k0:Nat) (ab:Co) (sv:Unit):Option (Out (Unit) (Co×Bool)):=
 (bif (decide (ab.ID=id_))then some (Out.ret (ab,true))else some (Out.next ()))
def N1 (m:Bd) (id_:Int):Option (Co×Bool):=
 (An (Qj id_) 0 m.Lifts ()).bind fun o0=>o0.on fun s0=>some ((Co.mk 0 0 0 0 0 0 0 0),false)
theorem Sr (m:Bd) (id_:Int) {r:Co×Bool} (h:N1 m id_=some r):Ad Tryz.prog 83 [.agg (Ct m),.int .i64 id_] (·= .tuple [.agg (A6 r.1),.bool r.2]):=by
 refine Ad.nle (Ad.intro Tryz.func83 rfl rfl (by show _≤22;simp) ?_)
 unfold N1 at h
 refine nS (sq ?_)
 refine ar rfl (qn (sq (sq ?_)))
 refine rg rfl fun K j=>?_
 intro hm
 refine j _ _ (qn (bk ?_))
 obtain⟨o0,aa,ae⟩:=Ah h
 clear h
 refine AWP.Bw (ι:=Nat×(Unit)×(Unit)) (fun zz=>[(1,.int .i64 id_),(4,.ptr 1 0),(9,.sl 8 (m.Lifts.map A6)),(10,.int .i64 ((m.Lifts.length:Nat):Int)),(11,.int .i64 ((zz.1:Nat):Int))]) (fun zz=>[.gone,.box [.int .i64 0,.int .i64 0,.int .i64 0,.int .i64 0,.int .i64 0,.int .i64 0,.int .i64 0,.int .i64 0]]) (fun zz=>zz.1≤m.Lifts.length∧An (Qj id_) zz.1 ((m.Lifts).drop zz.1) zz.2.1=some o0) (fun zz=>m.Lifts.length - zz.1) (0,(),()) ⟨Nat.zero_le _,aa⟩ cu cu (fun x=>⟨rfl,rfl,rfl⟩) ?_
 clear aa
 rintro⟨k0,⟨⟩,⟨⟩⟩ ⟨bg,aa⟩
 dsimp only at bg aa ⊢
 refine sq (ar rfl (qn (sq ?_)))
 refine AWP.cond (Am (fun hc=>?_) (fun hc=>?_))
 rotate_left
 ·obtain rfl:=Bg aa (fun hl=>by have:=Ako hc;omega)
  have h:=Bf ae;try dsimp only at h
  have ag:m.Lifts.length=k0:=by have:=Ako hc;omega
  subst ag
  refine xt (qe (qe (bs (qn (sq (ar rfl (qn (rt ?_))))))))
  cases h;exact en Tryz.results83
 have ah:k0<m.Lifts.length:=by have:=Akp hc;omega
 obtain⟨ab,b0,aj,h,aa⟩:=Bc aa ah
 have aw:=A9 aj
 have ak:=wk (k:=k0) (by omega)
 unfold Qj at h;try dsimp only at h
 refine sk (qn (sq (bk (sq (rg rfl fun K j=>?_)))))
 refine Bo.of (f:=A6) (l:=m.Lifts) aw ?_
 refine nS ?_
 refine j _ _ (qn (sq ?_))
 refine ar rfl (qn ?_)
 revert h;refine ca rfl (fun hc h=>?_) fun hc h=>?_
 ·refine sq (ar rfl (qn (rt (br (qr (qr ?_))))))
  obtain rfl:=Aa h
  obtain rfl:=Ae aa
  replace h:=Ao ae
  refine br (qr ?_)
  cases h;exact en Tryz.results83
 refine sk (bn (qn (ar rfl (qn ?_))))
 obtain rfl:=Aa h
 refine⟨(k0+1,(),()),⟨by dsimp only;omega,Aj aa⟩,by dsimp only;omega,?_,?_⟩
 ·exact cuw ak
 exact cuw ak
def Ek (f_:Af) (k0:Nat) (ab:Cs) (sv:Unit):Option (Out (Unit) (Int)):=
 (bif (decide (0<((k0:Nat):Int)))then (Dv f_.Lifts (IntKind.i64.wrap (((k0:Nat):Int) - 1))).bind fun bb=>(bif (decide (ab.Lift≤bb.Lift))then some (Out.ret 11)else (N1 f_.Map ab.Lift).bind fun y4=>(bif (!y4.2)then some (Out.ret 8)else (bif (decide (ab.Mode<0))then some (Out.ret 2)else (bif (decide (3<ab.Mode))then some (Out.ret 2)else some (Out.next ())))))else (N1 f_.Map ab.Lift).bind fun y5=>(bif (!y5.2)then some (Out.ret 8)else (bif (decide (ab.Mode<0))then some (Out.ret 2)else (bif (decide (3<ab.Mode))then some (Out.ret 2)else some (Out.next ())))))
def G1 (f_:Af):Option (Int):=
 (An (Ek f_) 0 f_.Lifts ()).bind fun o0=>o0.on fun s0=>some 0
theorem Sq (f_:Af) {r:Int} (h:G1 f_=some r):Ad Tryz.prog 38 [.agg (Ce f_)] (·= .int .i64 r):=by
 refine Ad.nle (Ad.intro Tryz.func38 rfl rfl (by show _≤48;simp) ?_)
 unfold G1 at h
 refine nS (sq ?_)
 refine ar rfl (qn (sq (sq ?_)))
 refine rg rfl fun K j=>?_
 intro hm
 refine j _ _ (qn (bk ?_))
 obtain⟨o0,aa,ae⟩:=Ah h
 clear h
 refine AWP.Bw (ι:=Nat×(Unit)×(Unit)) (fun zz=>[(1,.ptr 0 0),(8,.sl 2 (f_.Lifts.map Av)),(9,.int .i64 ((f_.Lifts.length:Nat):Int)),(10,.int .i64 ((zz.1:Nat):Int))]) (fun zz=>[.box [.sl 2 (f_.Map.Nodes.map A5),.sl 8 (f_.Map.Lifts.map A6),.sl 7 (f_.Map.Runs.map Ba),.sl 1 (f_.Map.Bases.map Bb),.sl 2 (f_.Lifts.map Av),.sl 4 (f_.Closures.map Au),.sl 4 (f_.Patrol.Bl.map Aq),.sl 3 (f_.Patrol.Hazards.map Ay),.sl 3 (f_.Surfaces.map A1),.sl 5 (f_.Packs.map Az),.sl 6 (f_.Slides.map A3),.sl 7 (f_.Bulletin.map Ar),.sl 7 (f_.Missions.map Ap),.sl 4 (f_.Winches.map Ak),.sl 8 (f_.Groomers.map Ax),.sl 3 (f_.Status.map Aw),.int .i64 f_.Depth,.int .i64 f_.Time]]) (fun zz=>zz.1≤f_.Lifts.length∧An (Ek f_) zz.1 ((f_.Lifts).drop zz.1) zz.2.1=some o0) (fun zz=>f_.Lifts.length - zz.1) (0,(),()) ⟨Nat.zero_le _,aa⟩ cu cu (fun x=>⟨rfl,rfl,rfl⟩) ?_
 clear aa
 rintro⟨k0,⟨⟩,⟨⟩⟩ ⟨bg,aa⟩
 dsimp only at bg aa ⊢
 refine sq (ar rfl (qn (sq ?_)))
 refine AWP.cond (Am (fun hc=>?_) (fun hc=>?_))
 rotate_left
 ·obtain rfl:=Bg aa (fun hl=>by have:=Ako hc;omega)
  have h:=Bf ae;try dsimp only at h
  have ag:f_.Lifts.length=k0:=by have:=Ako hc;omega
  subst ag
  refine xt (qe (qe (bs (qn (sq (ar rfl (qn (rt ?_))))))))
  cases h;exact en Tryz.results38
 have ah:k0<f_.Lifts.length:=by have:=Akp hc;omega
 obtain⟨ab,b0,aj,h,aa⟩:=Bc aa ah
 have aw:=A9 aj
 have ak:=wk (k:=k0) (by omega)
 unfold Ek at h;try dsimp only at h
 refine sk (qn (sq (bk (sq (rg rfl fun K j=>?_)))))
 refine Bo.of (f:=Av) (l:=f_.Lifts) aw ?_
 refine nS ?_
 refine j _ _ (qn (sq (sq ?_)))
 refine AWP.draw Tryz.mixed (by kernel_rfl) ?_;intro K j
 refine nS ?_
 revert h;refine gt (fun hc h=>?_) fun hc h=>?_
 ·obtain⟨bb,du,h⟩:=Ah h
  refine Bo.of (f:=Av) (l:=f_.Lifts) du ?_
  refine nS ?_
  refine j _ _ _ (by kernel_rfl) ?_
  refine qn ?_
  revert h;refine ca rfl (fun hc h=>?_) fun hc h=>?_
  ·refine sq (ar rfl (qn (rt (qr (br (qr (qr ?_)))))))
   obtain rfl:=Aa h
   obtain rfl:=Ae aa
   replace h:=Ao ae
   refine br (qr ?_)
   cases h;exact en Tryz.results38
  refine sk (qn (sq (sq (rg rfl fun K j=>?_))))
  obtain⟨y4,cn,h⟩:=Ah h
  refine Al.pure Tryz.call83 (Sr f_.Map ab.Lift cn) rfl fun _ hr=>?_
  subst hr
  refine nS ?_
  refine j _ _ (qn (sq ?_))
  refine ar rfl (qn ?_)
  revert h;refine ca rfl (fun hc h=>?_) fun hc h=>?_
  ·refine sq (ar rfl (qn (rt (qr (br (qr (qr ?_)))))))
   obtain rfl:=Aa h
   obtain rfl:=Ae aa
   replace h:=Ao ae
   refine br (qr ?_)
   cases h;exact en Tryz.results38
  refine sk (qn (sq (rg rfl fun K j=>?_)))
  revert h;refine gf (fun hc h=>?_) fun hc h=>?_
  ·refine j _ _ (qn ?_)
   revert h;refine ca rfl (fun hc h=>?_) fun hc h=>?_
   ·refine sq (ar rfl (qn (rt (br (qr (qr ?_))))))
    obtain rfl:=Aa h
    obtain rfl:=Ae aa
    replace h:=Ao ae
    refine br (qr ?_)
    cases h;exact en Tryz.results38
   refine sk (bn (qn (ar rfl (qn ?_))))
   obtain rfl:=Aa h
   refine⟨(k0+1,(),()),⟨by dsimp only;omega,Aj aa⟩,by dsimp only;omega,?_,?_⟩
   ·exact cuw ak
   exact cuw ak
  refine j _ _ (qn ?_)
  refine AWP.cond (Ai ?_)
  refine sq (ar rfl (qn (rt (br (qr (qr ?_))))))
  obtain rfl:=Aa h
  obtain rfl:=Ae aa
  replace h:=Ao ae
  refine br (qr ?_)
  cases h;exact en Tryz.results38
 refine j _ _ _ (by kernel_rfl) ?_
 refine qn ?_
 refine AWP.cond (Bj ?_)
 refine sk (qn (sq (sq (rg rfl fun K j=>?_))))
 obtain⟨y5,db,h⟩:=Ah h
 refine Al.pure Tryz.call83 (Sr f_.Map ab.Lift db) rfl fun _ hr=>?_
 subst hr
 refine nS ?_
 refine j _ _ (qn (sq ?_))
 refine ar rfl (qn ?_)
 revert h;refine ca rfl (fun hc h=>?_) fun hc h=>?_
 ·refine sq (ar rfl (qn (rt (qr (br (qr (qr ?_)))))))
  obtain rfl:=Aa h
  obtain rfl:=Ae aa
  replace h:=Ao ae
  refine br (qr ?_)
  cases h;exact en Tryz.results38
 refine sk (qn (sq (rg rfl fun K j=>?_)))
 revert h;refine gf (fun hc h=>?_) fun hc h=>?_
 ·refine j _ _ (qn ?_)
  revert h;refine ca rfl (fun hc h=>?_) fun hc h=>?_
  ·refine sq (ar rfl (qn (rt (br (qr (qr ?_))))))
   obtain rfl:=Aa h
   obtain rfl:=Ae aa
   replace h:=Ao ae
   refine br (qr ?_)
   cases h;exact en Tryz.results38
  refine sk (bn (qn (ar rfl (qn ?_))))
  obtain rfl:=Aa h
  refine⟨(k0+1,(),()),⟨by dsimp only;omega,Aj aa⟩,by dsimp only;omega,?_,?_⟩
  ·exact cuw ak
  exact cuw ak
 refine j _ _ (qn ?_)
 refine AWP.cond (Ai ?_)
 refine sq (ar rfl (qn (rt (br (qr (qr ?_))))))
 obtain rfl:=Aa h
 obtain rfl:=Ae aa
 replace h:=Ao ae
 refine br (qr ?_)
 cases h;exact en Tryz.results38
def Ej (f_:Af) (k0:Nat) (ab:C7) (sv:Unit):Option (Out (Unit) (Int)):=
 (bif (decide (ab.Area<1))then some (Out.ret 2)else (bif (decide (10000000<ab.Area))then some (Out.ret 2)else (Kp ab.Pack).bind fun y3=>(bif (!y3)then some (Out.ret 2)else (bif (decide (0<((k0:Nat):Int)))then (Dv f_.Packs (IntKind.i64.wrap (((k0:Nat):Int) - 1))).bind fun au=>(bif (decide (ab.Run≤au.Run))then some (Out.ret 11)else some (Out.next ()))else some (Out.next ())))))
def G0 (f_:Af):Option (Int):=
 (An (Ej f_) 0 f_.Packs ()).bind fun o0=>o0.on fun s0=>some 0
theorem Sp (f_:Af) {r:Int} (h:G0 f_=some r):Ad Tryz.prog 39 [.agg (Ce f_)] (·= .int .i64 r):=by
 refine Ad.nle (Ad.intro Tryz.func39 rfl rfl (by show _≤42;simp) ?_)
 unfold G0 at h
 refine nS (sq ?_)
 refine ar rfl (qn (sq (sq ?_)))
 refine rg rfl fun K j=>?_
 intro hm
 refine j _ _ (qn (bk ?_))
 obtain⟨o0,aa,ae⟩:=Ah h
 clear h
 refine AWP.Bw (ι:=Nat×(Unit)×(Unit)) (fun zz=>[(1,.ptr 0 0),(6,.sl 5 (f_.Packs.map Az)),(7,.int .i64 ((f_.Packs.length:Nat):Int)),(8,.int .i64 ((zz.1:Nat):Int))]) (fun zz=>[.box [.sl 2 (f_.Map.Nodes.map A5),.sl 8 (f_.Map.Lifts.map A6),.sl 7 (f_.Map.Runs.map Ba),.sl 1 (f_.Map.Bases.map Bb),.sl 2 (f_.Lifts.map Av),.sl 4 (f_.Closures.map Au),.sl 4 (f_.Patrol.Bl.map Aq),.sl 3 (f_.Patrol.Hazards.map Ay),.sl 3 (f_.Surfaces.map A1),.sl 5 (f_.Packs.map Az),.sl 6 (f_.Slides.map A3),.sl 7 (f_.Bulletin.map Ar),.sl 7 (f_.Missions.map Ap),.sl 4 (f_.Winches.map Ak),.sl 8 (f_.Groomers.map Ax),.sl 3 (f_.Status.map Aw),.int .i64 f_.Depth,.int .i64 f_.Time]]) (fun zz=>zz.1≤f_.Packs.length∧An (Ej f_) zz.1 ((f_.Packs).drop zz.1) zz.2.1=some o0) (fun zz=>f_.Packs.length - zz.1) (0,(),()) ⟨Nat.zero_le _,aa⟩ cu cu (fun x=>⟨rfl,rfl,rfl⟩) ?_
 clear aa
 rintro⟨k0,⟨⟩,⟨⟩⟩ ⟨bg,aa⟩
 dsimp only at bg aa ⊢
 refine sq (ar rfl (qn (sq ?_)))
 refine AWP.cond (Am (fun hc=>?_) (fun hc=>?_))
 rotate_left
 ·obtain rfl:=Bg aa (fun hl=>by have:=Ako hc;omega)
  have h:=Bf ae;try dsimp only at h
  have ag:f_.Packs.length=k0:=by have:=Ako hc;omega
  subst ag
  refine xt (qe (qe (bs (qn (sq (ar rfl (qn (rt ?_))))))))
  cases h;exact en Tryz.results39
 have ah:k0<f_.Packs.length:=by have:=Akp hc;omega
 obtain⟨ab,b0,aj,h,aa⟩:=Bc aa ah
 have aw:=A9 aj
 have ak:=wk (k:=k0) (by omega)
 unfold Ej at h;try dsimp only at h
 refine sk (qn (sq (bk (sq (rg rfl fun K j=>?_)))))
 refine Bo.of (f:=Az) (l:=f_.Packs) aw ?_
 refine nS ?_
 refine j _ _ (qn (sq (sq ?_)))
 refine rg rfl fun K j=>?_
 revert h;refine gf (fun hc h=>?_) fun hc h=>?_
 rotate_left
 ·refine j _ _ (qn ?_)
  refine AWP.cond (Ai ?_)
  refine sq (ar rfl (qn (rt (qr (br (qr (qr ?_)))))))
  obtain rfl:=Aa h
  obtain rfl:=Ae aa
  replace h:=Ao ae
  refine br (qr ?_)
  cases h;exact en Tryz.results39
 revert h;refine gf (fun hc h=>?_) fun hc h=>?_
 rotate_left
 ·refine j _ _ (qn ?_)
  refine AWP.cond (Ai ?_)
  refine sq (ar rfl (qn (rt (qr (br (qr (qr ?_)))))))
  obtain rfl:=Aa h
  obtain rfl:=Ae aa
  replace h:=Ao ae
  refine br (qr ?_)
  cases h;exact en Tryz.results39
 obtain⟨y3,bx,h⟩:=Ah h
 refine Al.pure Tryz.call84 (Qt ab.Pack bx) rfl fun _ hr=>?_
 subst hr
 refine nS ?_
 refine j _ _ (qn ?_)
 revert h;refine ca rfl (fun hc h=>?_) fun hc h=>?_
 ·refine sq (ar rfl (qn (rt (qr (br (qr (qr ?_)))))))
  obtain rfl:=Aa h
  obtain rfl:=Ae aa
  replace h:=Ao ae
  refine br (qr ?_)
  cases h;exact en Tryz.results39
 refine sk (qn (sq ?_))
 refine AWP.draw Tryz.mixed (by kernel_rfl) ?_;intro K j
 refine nS ?_
 revert h;refine gt (fun hc h=>?_) fun hc h=>?_
 ·obtain⟨au,gp,h⟩:=Ah h
  refine Bo.of (f:=Az) (l:=f_.Packs) gp ?_
  refine nS ?_
  refine j _ _ _ (by kernel_rfl) ?_
  refine qn ?_
  revert h;refine ca rfl (fun hc h=>?_) fun hc h=>?_
  ·refine sq (ar rfl (qn (rt (br (qr (qr ?_))))))
   obtain rfl:=Aa h
   obtain rfl:=Ae aa
   replace h:=Ao ae
   refine br (qr ?_)
   cases h;exact en Tryz.results39
  refine sk (bn (qn (ar rfl (qn ?_))))
  obtain rfl:=Aa h
  refine⟨(k0+1,(),()),⟨by dsimp only;omega,Aj aa⟩,by dsimp only;omega,?_,?_⟩
  ·exact cuw ak
  exact cuw ak
 refine j _ _ _ (by kernel_rfl) ?_
 refine qn ?_
 refine AWP.cond (Bj ?_)
 refine sk (bn (qn (ar rfl (qn ?_))))
 obtain rfl:=Aa h
 refine⟨(k0+1,(),()),⟨by dsimp only;omega,Aj aa⟩,by dsimp only;omega,?_,?_⟩
 ·exact cuw ak
 exact cuw ak
def Ed (f_:Af) (k0:Nat) (ab:A4) (sv:Unit):Option (Out (Unit) (Int)):=
 (bif (decide (0<((k0:Nat):Int)))then (Dv f_.Status (IntKind.i64.wrap (((k0:Nat):Int) - 1))).bind fun bb=>(bif (decide (ab.Run≤bb.Run))then some (Out.ret 11)else (Fb f_.Map ab.Run).bind fun y4=>(bif (!y4.2)then some (Out.ret 8)else (bif (decide (ab.Since<0))then some (Out.ret 2)else (bif (decide (20000000<ab.Since))then some (Out.ret 2)else some (Out.next ())))))else (Fb f_.Map ab.Run).bind fun y5=>(bif (!y5.2)then some (Out.ret 8)else (bif (decide (ab.Since<0))then some (Out.ret 2)else (bif (decide (20000000<ab.Since))then some (Out.ret 2)else some (Out.next ())))))
def Gl (f_:Af):Option (Int):=
 (An (Ed f_) 0 f_.Status ()).bind fun o0=>o0.on fun s0=>some 0
theorem R7 (f_:Af) {r:Int} (h:Gl f_=some r):Ad Tryz.prog 40 [.agg (Ce f_)] (·= .int .i64 r):=by
 refine Ad.nle (Ad.intro Tryz.func40 rfl rfl (by show _≤48;simp) ?_)
 unfold Gl at h
 refine nS (sq ?_)
 refine ar rfl (qn (sq (sq ?_)))
 refine rg rfl fun K j=>?_
 intro hm
 refine j _ _ (qn (bk ?_))
 obtain⟨o0,aa,ae⟩:=Ah h
 clear h
 refine AWP.Bw (ι:=Nat×(Unit)×(Unit)) (fun zz=>[(1,.ptr 0 0),(8,.sl 3 (f_.Status.map Aw)),(9,.int .i64 ((f_.Status.length:Nat):Int)),(10,.int .i64 ((zz.1:Nat):Int))]) (fun zz=>[.box [.sl 2 (f_.Map.Nodes.map A5),.sl 8 (f_.Map.Lifts.map A6),.sl 7 (f_.Map.Runs.map Ba),.sl 1 (f_.Map.Bases.map Bb),.sl 2 (f_.Lifts.map Av),.sl 4 (f_.Closures.map Au),.sl 4 (f_.Patrol.Bl.map Aq),.sl 3 (f_.Patrol.Hazards.map Ay),.sl 3 (f_.Surfaces.map A1),.sl 5 (f_.Packs.map Az),.sl 6 (f_.Slides.map A3),.sl 7 (f_.Bulletin.map Ar),.sl 7 (f_.Missions.map Ap),.sl 4 (f_.Winches.map Ak),.sl 8 (f_.Groomers.map Ax),.sl 3 (f_.Status.map Aw),.int .i64 f_.Depth,.int .i64 f_.Time]]) (fun zz=>zz.1≤f_.Status.length∧An (Ed f_) zz.1 ((f_.Status).drop zz.1) zz.2.1=some o0) (fun zz=>f_.Status.length - zz.1) (0,(),()) ⟨Nat.zero_le _,aa⟩ cu cu (fun x=>⟨rfl,rfl,rfl⟩) ?_
 clear aa
 rintro⟨k0,⟨⟩,⟨⟩⟩ ⟨bg,aa⟩
 dsimp only at bg aa ⊢
 refine sq (ar rfl (qn (sq ?_)))
 refine AWP.cond (Am (fun hc=>?_) (fun hc=>?_))
 rotate_left
 ·obtain rfl:=Bg aa (fun hl=>by have:=Ako hc;omega)
  have h:=Bf ae;try dsimp only at h
  have ag:f_.Status.length=k0:=by have:=Ako hc;omega
  subst ag
  refine xt (qe (qe (bs (qn (sq (ar rfl (qn (rt ?_))))))))
  cases h;exact en Tryz.results40
 have ah:k0<f_.Status.length:=by have:=Akp hc;omega
 obtain⟨ab,b0,aj,h,aa⟩:=Bc aa ah
 have aw:=A9 aj
 have ak:=wk (k:=k0) (by omega)
 unfold Ed at h;try dsimp only at h
 refine sk (qn (sq (bk (sq (rg rfl fun K j=>?_)))))
 refine Bo.of (f:=Aw) (l:=f_.Status) aw ?_
 refine nS ?_
 refine j _ _ (qn (sq (sq ?_)))
 refine AWP.draw Tryz.mixed (by kernel_rfl) ?_;intro K j
 refine nS ?_
 revert h;refine gt (fun hc h=>?_) fun hc h=>?_
 ·obtain⟨bb,du,h⟩:=Ah h
  refine Bo.of (f:=Aw) (l:=f_.Status) du ?_
  refine nS ?_
  refine j _ _ _ (by kernel_rfl) ?_
  refine qn ?_
  revert h;refine ca rfl (fun hc h=>?_) fun hc h=>?_
  ·refine sq (ar rfl (qn (rt (qr (br (qr (qr ?_)))))))
   obtain rfl:=Aa h
   obtain rfl:=Ae aa
   replace h:=Ao ae
   refine br (qr ?_)
   cases h;exact en Tryz.results40
  refine sk (qn (sq (sq (rg rfl fun K j=>?_))))
  obtain⟨y4,cn,h⟩:=Ah h
  refine Al.pure Tryz.call53 (Ei f_.Map ab.Run cn) rfl fun _ hr=>?_
  subst hr
  refine nS ?_
  refine j _ _ (qn (sq ?_))
  refine ar rfl (qn ?_)
  revert h;refine ca rfl (fun hc h=>?_) fun hc h=>?_
  ·refine sq (ar rfl (qn (rt (qr (br (qr (qr ?_)))))))
   obtain rfl:=Aa h
   obtain rfl:=Ae aa
   replace h:=Ao ae
   refine br (qr ?_)
   cases h;exact en Tryz.results40
  refine sk (qn (sq (rg rfl fun K j=>?_)))
  revert h;refine gf (fun hc h=>?_) fun hc h=>?_
  ·refine j _ _ (qn ?_)
   revert h;refine ca rfl (fun hc h=>?_) fun hc h=>?_
   ·refine sq (ar rfl (qn (rt (br (qr (qr ?_))))))
    obtain rfl:=Aa h
    obtain rfl:=Ae aa
    replace h:=Ao ae
    refine br (qr ?_)
    cases h;exact en Tryz.results40
   refine sk (bn (qn (ar rfl (qn ?_))))
   obtain rfl:=Aa h
   refine⟨(k0+1,(),()),⟨by dsimp only;omega,Aj aa⟩,by dsimp only;omega,?_,?_⟩
   ·exact cuw ak
   exact cuw ak
  refine j _ _ (qn ?_)
  refine AWP.cond (Ai ?_)
  refine sq (ar rfl (qn (rt (br (qr (qr ?_))))))
  obtain rfl:=Aa h
  obtain rfl:=Ae aa
  replace h:=Ao ae
  refine br (qr ?_)
  cases h;exact en Tryz.results40
 refine j _ _ _ (by kernel_rfl) ?_
 refine qn ?_
 refine AWP.cond (Bj ?_)
 refine sk (qn (sq (sq (rg rfl fun K j=>?_))))
 obtain⟨y5,db,h⟩:=Ah h
 refine Al.pure Tryz.call53 (Ei f_.Map ab.Run db) rfl fun _ hr=>?_
 subst hr
 refine nS ?_
 refine j _ _ (qn (sq ?_))
 refine ar rfl (qn ?_)
 revert h;refine ca rfl (fun hc h=>?_) fun hc h=>?_
 ·refine sq (ar rfl (qn (rt (qr (br (qr (qr ?_)))))))
  obtain rfl:=Aa h
  obtain rfl:=Ae aa
  replace h:=Ao ae
  refine br (qr ?_)
  cases h;exact en Tryz.results40
 refine sk (qn (sq (rg rfl fun K j=>?_)))
 revert h;refine gf (fun hc h=>?_) fun hc h=>?_
 ·refine j _ _ (qn ?_)
  revert h;refine ca rfl (fun hc h=>?_) fun hc h=>?_
  ·refine sq (ar rfl (qn (rt (br (qr (qr ?_))))))
   obtain rfl:=Aa h
   obtain rfl:=Ae aa
   replace h:=Ao ae
   refine br (qr ?_)
   cases h;exact en Tryz.results40
  refine sk (bn (qn (ar rfl (qn ?_))))
  obtain rfl:=Aa h
  refine⟨(k0+1,(),()),⟨by dsimp only;omega,Aj aa⟩,by dsimp only;omega,?_,?_⟩
  ·exact cuw ak
  exact cuw ak
 refine j _ _ (qn ?_)
 refine AWP.cond (Ai ?_)
 refine sq (ar rfl (qn (rt (br (qr (qr ?_))))))
 obtain rfl:=Aa h
 obtain rfl:=Ae aa
 replace h:=Ao ae
 refine br (qr ?_)
 cases h;exact en Tryz.results40
def Gr (f_:Af):Option (Int):=
 (Fh f_).bind fun y1=>(bif (decide (y1≠0))then some y1 else(bif (decide (32<((f_.Lifts.length:Nat):Int)))then some 4 else(bif (decide (64<((f_.Packs.length:Nat):Int)))then some 4 else(bif (decide (64<((f_.Status.length:Nat):Int)))then some 4 else(G1 f_).bind fun y2=>(bif (decide (y2≠0))then some y2 else(G0 f_).bind fun y3=>(bif (decide (y3≠0))then some y3 else(Gl f_).bind fun y4=>(bif (decide (y4≠0))then some y4 else(bif (decide (f_.Depth<0))then some 2 else(bif (decide (10000<f_.Depth))then some 2 else(bif (decide (f_.Time<0))then some 2 else(bif (decide (20000000<f_.Time))then some 2 else some 0)))))))))))
theorem W6 (f_:Af) {r:Int} (h:Gr f_=some r):Ad Tryz.prog 12 [.agg (Ce f_)] (·= .int .i64 r):=by
 refine Ad.nle (Ad.intro Tryz.func12 rfl rfl (by show _≤61;simp) ?_)
 unfold Gr at h
 refine nS (sq ?_)
 refine ar rfl (qn (sq (sq ?_)))
 refine rg rfl fun K j=>?_
 obtain⟨y1,bp,h⟩:=Ah h
 refine Al.pure Tryz.call37 (Sn f_ bp) rfl fun _ hr=>?_
 subst hr
 refine nS ?_
 refine j _ _ (qn (sq ?_))
 refine ar rfl (qn ?_)
 revert h;refine ca rfl (fun hc h=>?_) fun hc h=>?_
 ·refine sq (ar rfl (qn (rt (qr ?_))))
  cases h;exact en Tryz.results12
 refine sk (qn (sq (sq (rg rfl fun K j=>?_))))
 intro hm
 revert h;refine gf (fun hc h=>?_) fun hc h=>?_
 rotate_left
 ·refine j _ _ (qn ?_)
  refine AWP.cond (Ai ?_)
  refine sq (ar rfl (qn (rt (qr ?_))))
  cases h;exact en Tryz.results12
 intro hm
 revert h;refine gf (fun hc h=>?_) fun hc h=>?_
 rotate_left
 ·refine j _ _ (qn ?_)
  refine AWP.cond (Ai ?_)
  refine sq (ar rfl (qn (rt (qr ?_))))
  cases h;exact en Tryz.results12
 intro hm
 refine j _ _ (qn ?_)
 revert h;refine ca rfl (fun hc h=>?_) fun hc h=>?_
 ·refine sq (ar rfl (qn (rt (qr ?_))))
  cases h;exact en Tryz.results12
 refine sk (qn (sq (sq (rg rfl fun K j=>?_))))
 obtain⟨y2,dn,h⟩:=Ah h
 refine Al.pure Tryz.call38 (Sq f_ dn) rfl fun _ hr=>?_
 subst hr
 refine nS ?_
 refine j _ _ (qn (sq ?_))
 refine ar rfl (qn ?_)
 revert h;refine ca rfl (fun hc h=>?_) fun hc h=>?_
 ·refine sq (ar rfl (qn (rt (qr ?_))))
  cases h;exact en Tryz.results12
 refine sk (qn (sq (sq (rg rfl fun K j=>?_))))
 obtain⟨y3,bx,h⟩:=Ah h
 refine Al.pure Tryz.call39 (Sp f_ bx) rfl fun _ hr=>?_
 subst hr
 refine nS ?_
 refine j _ _ (qn (sq ?_))
 refine ar rfl (qn ?_)
 revert h;refine ca rfl (fun hc h=>?_) fun hc h=>?_
 ·refine sq (ar rfl (qn (rt (qr ?_))))
  cases h;exact en Tryz.results12
 refine sk (qn (sq (sq (rg rfl fun K j=>?_))))
 obtain⟨y4,cn,h⟩:=Ah h
 refine Al.pure Tryz.call40 (R7 f_ cn) rfl fun _ hr=>?_
 subst hr
 refine nS ?_
 refine j _ _ (qn (sq ?_))
 refine ar rfl (qn ?_)
 revert h;refine ca rfl (fun hc h=>?_) fun hc h=>?_
 ·refine sq (ar rfl (qn (rt (qr ?_))))
  cases h;exact en Tryz.results12
 refine sk (qn (sq (sq (rg rfl fun K j=>?_))))
 revert h;refine gf (fun hc h=>?_) fun hc h=>?_
 ·revert h;refine gf (fun hc h=>?_) fun hc h=>?_
  ·revert h;refine gf (fun hc h=>?_) fun hc h=>?_
   ·refine j _ _ (qn ?_)
    revert h;refine ca rfl (fun hc h=>?_) fun hc h=>?_
    ·refine sq (ar rfl (qn (rt (qr ?_))))
     cases h;exact en Tryz.results12
    refine sk (qn (sq (ar rfl (qn (rt ?_)))))
    cases h;exact en Tryz.results12
   refine j _ _ (qn ?_)
   refine AWP.cond (Ai ?_)
   refine sq (ar rfl (qn (rt (qr ?_))))
   cases h;exact en Tryz.results12
  refine j _ _ (qn ?_)
  refine AWP.cond (Ai ?_)
  refine sq (ar rfl (qn (rt (qr ?_))))
  cases h;exact en Tryz.results12
 refine j _ _ (qn ?_)
 refine AWP.cond (Ai ?_)
 refine sq (ar rfl (qn (rt (qr ?_))))
 cases h;exact en Tryz.results12
def Ou (f_:Af) (dv:List Int) (k9:Nat) (jn:Int) (sv:(List Int)):Option (Out ((List Int)) (Out ((List Int)) ((List Int)))):=
 (El f_ dv jn).bind fun dm=>(bif dm then chk (sv.length+1) (some (Out.next (sv++[jn])))else some (Out.next sv))
def Ov (f_:Af) (sv:(List Int)):Option (Out ((List Int)) ((List Int))):=
 (An (Ou f_ sv) 0 sv []).bind fun o9=>o9.on fun s9=>(bif (decide (((s9.length:Nat):Int)=((sv.length:Nat):Int)))then some (Out.ret s9)else some (Out.next s9))
def Ot (f_:Af) (cz:List Int) (uq:Nat) (ow:Int) (sv:(List Int)):Option (Out ((List Int)) (Out ((List Int)) ((List Int)))):=
 (El f_ cz ow).bind fun y29=>(bif y29 then chk (sv.length+1) (some (Out.next (sv++[ow])))else some (Out.next sv))
def Kd (f_:Af) (sv:(List Int)):Option (Out ((List Int)) ((List Int))):=
 (An (Ot f_ sv) 0 sv []).bind fun o26=>o26.on fun s26=>(bif (decide (((s26.length:Nat):Int)=((sv.length:Nat):Int)))then some (Out.ret s26)else some (Out.next s26))
def D9 (f_:Af) (sv:Int×Int×(List Int)):Option (Out (Int×Int×(List Int)) ((List Int))):=
 (bif (decide (sv.2.1<((sv.2.2.length:Nat):Int)))then (Dv sv.2.2 sv.2.1).bind fun kf=>(Dd f_ kf).bind fun lj=>(bif (!(decide (lj≠(0:Int))))then (Dv sv.2.2 sv.1).bind fun nm=>some (Out.next ((IntKind.i64.wrap (sv.1+(1:Int))),(IntKind.i64.wrap (sv.2.1+(1:Int))),(sv.2.2.set sv.1.toNat kf)))else some (Out.next (sv.1,(IntKind.i64.wrap (sv.2.1+(1:Int))),sv.2.2)))else (okB (decide ((0:Int)≤sv.1∧sv.1≤((sv.2.2.length:Nat):Int))) (okB (decide ((0:Int)≤sv.1∧sv.1≤((sv.2.2.length:Nat):Int))) ((D6 (Kd f_) fuel (((sv.2.2.take sv.1.toNat)++(List.replicate (sv.2.2.length - sv.1.toNat) (0:Int))).take sv.1.toNat)).bind fun o23=>o23.on fun _=>none))).bind fun q29=>some (Out.ret q29))
def Fq (f_:Af) (cy:List Int) (uo:Nat) (ov:Int) (sv:(List Int)):Option (Out ((List Int)) (Out ((List Int)) ((List Int)))):=
 (El f_ cy ov).bind fun fg=>(bif fg then chk (sv.length+1) (some (Out.next (sv++[ov])))else some (Out.next sv))
def D1 (f_:Af) (sv:(List Int)):Option (Out ((List Int)) ((List Int))):=
 (An (Fq f_ sv) 0 sv []).bind fun o36=>o36.on fun s36=>(bif (decide (((s36.length:Nat):Int)=((sv.length:Nat):Int)))then some (Out.ret s36)else some (Out.next s36))
def Fs (f_:Af) (y1:(List Int)) (k1:Nat) (bb:Int) (sv:Unit):Option (Out (Unit) ((List Int))):=
 (Dd f_ bb).bind fun y4=>(bif (decide (y4≠0))then ((bif (decide (((k1:Nat):Int)=(-1)))then (D6 (Ov f_) fuel (Cu (Dk y1))).bind fun o6=>o6.on fun _=>none else(D6 (D9 f_) fuel (((k1:Nat):Int),(IntKind.i64.wrap (((k1:Nat):Int)+1)),(Cu (Dk y1)))).bind fun o16=>o16.on fun _=>none)).bind fun q30=>some (Out.ret q30)else some (Out.next ()))
def Fi (f_:Af) (runs:List Int):Option ((List Int)):=
 (Cc runs).bind fun y1=>chk y1.length (chk y1.length ((An (Fs f_ y1) 0 (Cu (Dk y1)) ()).bind fun o1=>o1.on fun s1=>(D6 (D1 f_) fuel (Cu (Dk y1))).bind fun o33=>o33.on fun _=>none))
theorem P9 (f_:Af) (runs:List Int) {r:(List Int)} (h:Fi f_ runs=some r):Bu Tryz.prog 29 [.agg (Ce f_),.sl 1 (runs.map Bb)] (·= .sl 1 (r.map Bb)):=by
 refine Bu.nle (Bu.intro Tryz.func29 rfl rfl (by show _≤40;simp) ?_)
 unfold Fi at h
 refine nS (sq ?_)
 refine ar rfl (qn (sq ?_))
 refine rg rfl fun K j=>?_
 obtain⟨y1,bp,h⟩:=Ah h
 refine Al.row Tryz.call67 (Gn runs bp) rfl 1 rfl ?_
 (try simp +decide -implicitDefEqProofs only[go_sem,Aky])
 refine j _ _ (qn (sq ?_))
 refine rg rfl fun K j=>?_
 obtain⟨hk,h⟩:=Bx h
 refine Al.Dk Tryz.call68 Tryz.sorts68 rfl (by first | rfl | exact(Cy _).symm | (simp only[Akw,List.length_cons,List.length_nil,List.length_set,Akx]<;>omega)) hk ?_
 refine nS ?_
 refine j _ _ (qn (sq ?_))
 refine rg rfl fun K j=>?_
 obtain⟨hk,h⟩:=Bx h
 refine Al.Cu Tryz.call69 Tryz.compacts69 rfl (by first | rfl | exact(Cy _).symm | (simp only[Akw,List.length_cons,List.length_nil,List.length_set,Akx]<;>omega)) hk ?_
 refine nS ?_
 refine j _ _ (qn (sq ?_))
 refine rg rfl fun K j=>?_
 refine Al.inline Tryz.call70 Tryz.func70 rfl rfl (by show _≤42;simp) ?_
 refine nS (sq ?_)
 refine ar rfl (qn (sq ?_))
 refine rg rfl fun K j=>?_
 refine Al.inline Tryz.call150 Tryz.func150 rfl rfl (by show _≤19;simp) ?_
 refine nS (sq ?_)
 refine ar rfl (qn (sq (sq ?_)))
 refine rg rfl fun K j=>?_
 intro hm
 refine j _ _ (qn (bk ?_));clear j K
 obtain⟨o1,az,dj⟩:=Ah h
 clear h
 refine AWP.Bw (ι:=Nat×(Unit)×(Unit)) (fun zz=>[(0,.own 1 1 0 (Cu (Dk y1)).length),(1,.func 71 [.ptr 0 0]),(7,.int .i64 (((Cu (Dk y1)).length:Nat):Int)),(8,.int .i64 ((zz.1:Nat):Int))]) (fun zz=>[.box [.sl 2 (f_.Map.Nodes.map A5),.sl 8 (f_.Map.Lifts.map A6),.sl 7 (f_.Map.Runs.map Ba),.sl 1 (f_.Map.Bases.map Bb),.sl 2 (f_.Lifts.map Av),.sl 4 (f_.Closures.map Au),.sl 4 (f_.Patrol.Bl.map Aq),.sl 3 (f_.Patrol.Hazards.map Ay),.sl 3 (f_.Surfaces.map A1),.sl 5 (f_.Packs.map Az),.sl 6 (f_.Slides.map A3),.sl 7 (f_.Bulletin.map Ar),.sl 7 (f_.Missions.map Ap),.sl 4 (f_.Winches.map Ak),.sl 8 (f_.Groomers.map Ax),.sl 3 (f_.Status.map Aw),.int .i64 f_.Depth,.int .i64 f_.Time],.row 1 1 ((Cu (Dk y1)).map Bb)]) (fun zz=>zz.1≤(Cu (Dk y1)).length∧An (Fs f_ y1) zz.1 (((Cu (Dk y1))).drop zz.1) zz.2.1=some o1) (fun zz=>(Cu (Dk y1)).length - zz.1) (0,(),()) ⟨Nat.zero_le _,az⟩ cu cu (fun x=>⟨rfl,rfl,rfl⟩) ?_
 clear az
 rintro⟨k1,⟨⟩,⟨⟩⟩ ⟨jd,az⟩
 dsimp only at jd az ⊢
 refine sq (ar rfl (qn (sq ?_)))
 refine AWP.cond (Am (fun hc=>?_) (fun hc=>?_))
 rotate_left
 ·obtain rfl:=Bg az (fun hl=>by have:=Ako hc;omega)
  have h:=Bf dj;try dsimp only at h
  have ag:(Cu (Dk y1)).length=k1:=by have:=Ako hc;omega
  subst ag
  refine xt (qe (qe (bs (qn (sq (ar rfl (qn (rt ?_))))))))
  refine nSc Tryz.results150 ?_
  refine j _ _ (qn (sq (sq ?_)));clear j K
  refine ar rfl (qn ?_)
  refine AWP.cond (Ai ?_)
  refine sq (ar rfl (qn (rt (qr ?_))))
  refine nSc Tryz.results70 ?_
  refine j _ _ (qn (bk ?_))
  obtain⟨o33,kz,hO33⟩:=Ah h
  clear h
  refine AWP.tR (ι:=Nat×((List Int))×(Nat)) (fun zz=>[(2,.ptr 0 0),(5,.own 1 zz.2.2 0 zz.2.1.length)]) (fun zz=>[.box [.sl 2 (f_.Map.Nodes.map A5),.sl 8 (f_.Map.Lifts.map A6),.sl 7 (f_.Map.Runs.map Ba),.sl 1 (f_.Map.Bases.map Bb),.sl 2 (f_.Lifts.map Av),.sl 4 (f_.Closures.map Au),.sl 4 (f_.Patrol.Bl.map Aq),.sl 3 (f_.Patrol.Hazards.map Ay),.sl 3 (f_.Surfaces.map A1),.sl 5 (f_.Packs.map Az),.sl 6 (f_.Slides.map A3),.sl 7 (f_.Bulletin.map Ar),.sl 7 (f_.Missions.map Ap),.sl 4 (f_.Winches.map Ak),.sl 8 (f_.Groomers.map Ax),.sl 3 (f_.Status.map Aw),.int .i64 f_.Depth,.int .i64 f_.Time],.row zz.2.2 1 (zz.2.1.map Bb)]) (fun zz=>D6 (D1 f_) zz.1 zz.2.1=some o33) (fun zz=>zz.1) (fuel,(Cu (Dk y1)),1) kz cu cu (fun x=>⟨rfl,rfl,rfl⟩) ?_
  clear kz
  rintro⟨n33,cy,pa⟩ kz
  dsimp only at kz ⊢
  obtain⟨m33,b33,rfl,h,kz⟩:=Km kz
  unfold D1 at h;try dsimp only at h
  refine bk (sq (ar rfl (qn (sq (sq ?_)))))
  refine rg rfl fun K j=>?_
  intro hm
  refine j _ _ (qn (bk ?_))
  refine AWP.ghost 6 1 rfl (by decide) ?_
  obtain⟨o36,jt,hO36⟩:=Ah h
  clear h
  refine AWP.Bw (ι:=Nat×((List Int))×(Nat)) (fun zz=>[(2,.ptr 0 0),(5,.own 1 pa 0 cy.length),(6,.own 2 zz.2.2 0 zz.2.1.length),(18,.own 1 pa 0 cy.length),(19,.int .i64 ((cy.length:Nat):Int)),(20,.int .i64 ((zz.1:Nat):Int))]) (fun zz=>[.box [.sl 2 (f_.Map.Nodes.map A5),.sl 8 (f_.Map.Lifts.map A6),.sl 7 (f_.Map.Runs.map Ba),.sl 1 (f_.Map.Bases.map Bb),.sl 2 (f_.Lifts.map Av),.sl 4 (f_.Closures.map Au),.sl 4 (f_.Patrol.Bl.map Aq),.sl 3 (f_.Patrol.Hazards.map Ay),.sl 3 (f_.Surfaces.map A1),.sl 5 (f_.Packs.map Az),.sl 6 (f_.Slides.map A3),.sl 7 (f_.Bulletin.map Ar),.sl 7 (f_.Missions.map Ap),.sl 4 (f_.Winches.map Ak),.sl 8 (f_.Groomers.map Ax),.sl 3 (f_.Status.map Aw),.int .i64 f_.Depth,.int .i64 f_.Time],.row pa 1 (cy.map Bb),.row zz.2.2 1 (zz.2.1.map Bb)]) (fun zz=>zz.1≤cy.length∧An (Fq f_ cy) zz.1 ((cy).drop zz.1) zz.2.1=some o36) (fun zz=>cy.length - zz.1) (0,[],0) ⟨Nat.zero_le _,jt⟩ cu cu (fun x=>⟨rfl,rfl,rfl⟩) ?_
  clear jt
  rintro⟨uo,left35,im⟩ ⟨hk36,jt⟩
  dsimp only at hk36 jt ⊢
  refine sq (ar rfl (qn (sq ?_)))
  refine AWP.cond (Am (fun hc=>?_) (fun hc=>?_))
  ·have hlt36:uo<cy.length:=by have:=Akp hc;omega
   obtain⟨ov,b36,yw,h,jt⟩:=Bc jt hlt36
   have yx:=A9 yw
   have ru:=wk (k:=uo) (by omega)
   unfold Fq at h;try dsimp only at h
   refine sk (qn (sq (bk (sq (rg rfl fun K j=>?_)))))
   refine Lb yx (by first | rfl | exact(Cy _).symm | (simp only[Akw,List.length_cons,List.length_nil,List.length_set,Akx]<;>omega)) ?_
   refine nS ?_
   refine Dm.ofNat (f:=Bb) (l:=cy) (n:=uo) yx ?_
   refine nS ?_
   refine j _ _ (qn (sq ?_))
   refine rg rfl fun K j=>?_
   obtain⟨fg,ur,h⟩:=Ah h
   refine Al.snap Tryz.call49 (Gm f_ cy ov ur) (by simp +decide -implicitDefEqProofs only[go_sem]) (by rintro _ rfl;rfl) fun _ hr=>?_
   subst hr
   refine nS ?_
   refine j _ _ (qn ?_)
   revert h;refine ca rfl (fun hc h=>?_) fun hc h=>?_
   ·refine rg rfl fun K j=>?_
    obtain⟨hk,h⟩:=Bx h
    (repeat refine rp ?_);try simp +decide -implicitDefEqProofs only[go_sem]
    refine j _ _ (bn (qn ?_))
    refine ar rfl (qn ?_)
    obtain rfl:=Aa h
    refine⟨(uo+1,(left35++[ov]),(im+1)),⟨by dsimp only;omega,Aj jt⟩,by dsimp only;omega,?_,?_⟩
    ·exact cuw ru
    exact cuw ru
   refine sk (bn (qn (ar rfl (qn ?_))))
   obtain rfl:=Aa h
   refine⟨(uo+1,left35,im),⟨by dsimp only;omega,Aj jt⟩,by dsimp only;omega,?_,?_⟩
   ·exact cuw ru
   exact cuw ru
  obtain rfl:=Bg jt (fun hl=>by have:=Ako hc;omega)
  have h:=Bf hO36;try dsimp only at h
  have ag:cy.length=uo:=by have:=Ako hc;omega
  subst ag
  refine xt (qe (qe (bs (qn (sq (sq (rg rfl fun K j=>?_)))))))
  intro hm
  intro hm
  refine j _ _ (qn ?_)
  revert h;refine ca rfl (fun hc h=>?_) fun hc h=>?_
  ·refine sq (ar rfl (qn (rt (qr (br (qr ?_))))))
   obtain rfl:=Aa h
   obtain rfl:=Ae kz
   replace h:=Ao hO33
   refine br ?_
   cases h;exact en Tryz.results29
  refine sk (qn (ar rfl (bn (qn ?_))))
  obtain rfl:=Aa h
  refine⟨(m33,left35,im),Aj kz,by dsimp only;omega,_,_,Sub.swap 2 1 rfl rfl rfl,?_,?_⟩
  ·exact cu
  exact cu
 have dy:k1<(Cu (Dk y1)).length:=by have:=Akp hc;omega
 obtain⟨bb,b1,ei,h,az⟩:=Bc az dy
 have jc:=A9 ei
 have cq:=wk (k:=k1) (by omega)
 unfold Fs at h;try dsimp only at h
 refine sk (qn (sq (bk (sq (ar rfl (qn (sq ?_)))))))
 refine rg rfl fun K j=>?_
 refine Lb jc (by first | rfl | exact(Cy _).symm | (simp only[Akw,List.length_cons,List.length_nil,List.length_set,Akx]<;>omega)) ?_
 refine nS ?_
 refine Dm.ofNat (f:=Bb) (l:=(Cu (Dk y1))) (n:=k1) jc ?_
 refine nS ?_
 refine Al.inline Tryz.call71 Tryz.func71 rfl rfl (by show _≤8;simp) ?_
 refine nS (sq ?_)
 refine ar rfl (qn (sq ?_))
 refine rg rfl fun K j=>?_
 obtain⟨y4,cn,h⟩:=Ah h
 refine Al.pure Tryz.call48 (J5 f_ bb cn) rfl fun _ hr=>?_
 subst hr
 refine nS ?_
 refine j _ _ (qn (rt ?_));clear j K
 refine nSc Tryz.results71 ?_
 refine j _ _ (qn ?_);clear j K
 revert h;refine ca rfl (fun hc h=>?_) fun hc h=>?_
 ·refine sq (ar rfl (qn (rt (br (qr (qr ?_))))))
  obtain⟨q30,hq,h⟩:=Ah h
  obtain rfl:=Aa h
  obtain rfl:=Ae az
  replace h:=hq.trans (Ao dj)
  refine br (qr (nSc Tryz.results150 ?_))
  refine j _ _ (qn (sq (sq ?_)));clear j K
  refine ar rfl (qn ?_)
  revert h;refine ca rfl (fun hc h=>?_) fun hc h=>?_
  ·refine sq (ar rfl (qn (rt (qr ?_))))
   refine nSc Tryz.results70 ?_
   refine j _ _ (qn (bk ?_))
   obtain⟨o6,fm,rl⟩:=Ah h
   clear h
   refine AWP.tR (ι:=Nat×((List Int))×(Nat)) (fun zz=>[(2,.ptr 0 0),(5,.own 1 zz.2.2 0 zz.2.1.length)]) (fun zz=>[.box [.sl 2 (f_.Map.Nodes.map A5),.sl 8 (f_.Map.Lifts.map A6),.sl 7 (f_.Map.Runs.map Ba),.sl 1 (f_.Map.Bases.map Bb),.sl 2 (f_.Lifts.map Av),.sl 4 (f_.Closures.map Au),.sl 4 (f_.Patrol.Bl.map Aq),.sl 3 (f_.Patrol.Hazards.map Ay),.sl 3 (f_.Surfaces.map A1),.sl 5 (f_.Packs.map Az),.sl 6 (f_.Slides.map A3),.sl 7 (f_.Bulletin.map Ar),.sl 7 (f_.Missions.map Ap),.sl 4 (f_.Winches.map Ak),.sl 8 (f_.Groomers.map Ax),.sl 3 (f_.Status.map Aw),.int .i64 f_.Depth,.int .i64 f_.Time],.row zz.2.2 1 (zz.2.1.map Bb)]) (fun zz=>D6 (Ov f_) zz.1 zz.2.1=some o6) (fun zz=>zz.1) (fuel,(Cu (Dk y1)),1) fm cu cu (fun x=>⟨rfl,rfl,rfl⟩) ?_
   clear fm
   rintro⟨n6,dv,nr⟩ fm
   dsimp only at fm ⊢
   obtain⟨m6,b6,rfl,h,fm⟩:=Km fm
   unfold Ov at h;try dsimp only at h
   refine bk (sq (ar rfl (qn (sq (sq ?_)))))
   refine rg rfl fun K j=>?_
   intro hm
   refine j _ _ (qn (bk ?_))
   refine AWP.ghost 6 1 rfl (by decide) ?_
   obtain⟨o9,jg,hO9⟩:=Ah h
   clear h
   refine AWP.Bw (ι:=Nat×((List Int))×(Nat)) (fun zz=>[(2,.ptr 0 0),(5,.own 1 nr 0 dv.length),(6,.own 2 zz.2.2 0 zz.2.1.length),(18,.own 1 nr 0 dv.length),(19,.int .i64 ((dv.length:Nat):Int)),(20,.int .i64 ((zz.1:Nat):Int))]) (fun zz=>[.box [.sl 2 (f_.Map.Nodes.map A5),.sl 8 (f_.Map.Lifts.map A6),.sl 7 (f_.Map.Runs.map Ba),.sl 1 (f_.Map.Bases.map Bb),.sl 2 (f_.Lifts.map Av),.sl 4 (f_.Closures.map Au),.sl 4 (f_.Patrol.Bl.map Aq),.sl 3 (f_.Patrol.Hazards.map Ay),.sl 3 (f_.Surfaces.map A1),.sl 5 (f_.Packs.map Az),.sl 6 (f_.Slides.map A3),.sl 7 (f_.Bulletin.map Ar),.sl 7 (f_.Missions.map Ap),.sl 4 (f_.Winches.map Ak),.sl 8 (f_.Groomers.map Ax),.sl 3 (f_.Status.map Aw),.int .i64 f_.Depth,.int .i64 f_.Time],.row nr 1 (dv.map Bb),.row zz.2.2 1 (zz.2.1.map Bb)]) (fun zz=>zz.1≤dv.length∧An (Ou f_ dv) zz.1 ((dv).drop zz.1) zz.2.1=some o9) (fun zz=>dv.length - zz.1) (0,[],0) ⟨Nat.zero_le _,jg⟩ cu cu (fun x=>⟨rfl,rfl,rfl⟩) ?_
   clear jg
   rintro⟨k9,left8,uk⟩ ⟨hk9,jg⟩
   dsimp only at hk9 jg ⊢
   refine sq (ar rfl (qn (sq ?_)))
   refine AWP.cond (Am (fun hc=>?_) (fun hc=>?_))
   ·have vw:k9<dv.length:=by have:=Akp hc;omega
    obtain⟨jn,b9,hx9_,h,jg⟩:=Bc jg vw
    have hx9:=A9 hx9_
    have vk:=wk (k:=k9) (by omega)
    unfold Ou at h;try dsimp only at h
    refine sk (qn (sq (bk (sq (rg rfl fun K j=>?_)))))
    refine Lb hx9 (by first | rfl | exact(Cy _).symm | (simp only[Akw,List.length_cons,List.length_nil,List.length_set,Akx]<;>omega)) ?_
    refine nS ?_
    refine Dm.ofNat (f:=Bb) (l:=dv) (n:=k9) hx9 ?_
    refine nS ?_
    refine j _ _ (qn (sq ?_))
    refine rg rfl fun K j=>?_
    obtain⟨dm,ez,h⟩:=Ah h
    refine Al.snap Tryz.call49 (Gm f_ dv jn ez) (by simp +decide -implicitDefEqProofs only[go_sem]) (by rintro _ rfl;rfl) fun _ hr=>?_
    subst hr
    refine nS ?_
    refine j _ _ (qn ?_)
    revert h;refine ca rfl (fun hc h=>?_) fun hc h=>?_
    ·refine rg rfl fun K j=>?_
     obtain⟨hk,h⟩:=Bx h
     (repeat refine rp ?_);try simp +decide -implicitDefEqProofs only[go_sem]
     refine j _ _ (bn (qn ?_))
     refine ar rfl (qn ?_)
     obtain rfl:=Aa h
     refine⟨(k9+1,(left8++[jn]),(uk+1)),⟨by dsimp only;omega,Aj jg⟩,by dsimp only;omega,?_,?_⟩
     ·exact cuw vk
     exact cuw vk
    refine sk (bn (qn (ar rfl (qn ?_))))
    obtain rfl:=Aa h
    refine⟨(k9+1,left8,uk),⟨by dsimp only;omega,Aj jg⟩,by dsimp only;omega,?_,?_⟩
    ·exact cuw vk
    exact cuw vk
   obtain rfl:=Bg jg (fun hl=>by have:=Ako hc;omega)
   have h:=Bf hO9;try dsimp only at h
   have ag:dv.length=k9:=by have:=Ako hc;omega
   subst ag
   refine xt (qe (qe (bs (qn (sq (sq (rg rfl fun K j=>?_)))))))
   intro hm
   intro hm
   refine j _ _ (qn ?_)
   revert h;refine ca rfl (fun hc h=>?_) fun hc h=>?_
   ·refine sq (ar rfl (qn (rt (qr (br (qr ?_))))))
    obtain rfl:=Aa h
    obtain rfl:=Ae fm
    replace h:=Ao rl
    refine br ?_
    cases h;exact en Tryz.results29
   refine sk (qn (ar rfl (bn (qn ?_))))
   obtain rfl:=Aa h
   refine⟨(m6,left8,uk),Aj fm,by dsimp only;omega,_,_,Sub.swap 2 1 rfl rfl rfl,?_,?_⟩
   ·exact cu
   exact cu
  refine sk (qn (sq (sq (ar rfl (qn (bk ?_))))))
  obtain⟨o16,jx,hO16⟩:=Ah h
  clear h
  refine AWP.Bw (ι:=Nat×(Int×Int×(List Int))×(Nat)) (fun zz=>[(0,.own 1 zz.2.2 0 zz.2.1.2.2.length),(1,.func 71 [.ptr 0 0]),(5,.int .i64 zz.2.1.1),(6,.int .i64 zz.2.1.2.1)]) (fun zz=>[.box [.sl 2 (f_.Map.Nodes.map A5),.sl 8 (f_.Map.Lifts.map A6),.sl 7 (f_.Map.Runs.map Ba),.sl 1 (f_.Map.Bases.map Bb),.sl 2 (f_.Lifts.map Av),.sl 4 (f_.Closures.map Au),.sl 4 (f_.Patrol.Bl.map Aq),.sl 3 (f_.Patrol.Hazards.map Ay),.sl 3 (f_.Surfaces.map A1),.sl 5 (f_.Packs.map Az),.sl 6 (f_.Slides.map A3),.sl 7 (f_.Bulletin.map Ar),.sl 7 (f_.Missions.map Ap),.sl 4 (f_.Winches.map Ak),.sl 8 (f_.Groomers.map Ax),.sl 3 (f_.Status.map Aw),.int .i64 f_.Depth,.int .i64 f_.Time],.row zz.2.2 1 (zz.2.1.2.2.map Bb)]) (fun zz=>D6 (D9 f_) zz.1 zz.2.1=some o16) (fun zz=>zz.1) (fuel,(((k1:Nat):Int),(IntKind.i64.wrap (((k1:Nat):Int)+1)),(Cu (Dk y1))),1) jx cu cu (fun x=>⟨rfl,rfl,rfl⟩) ?_
  clear jx
  rintro⟨n16,⟨i13,j14,s_15⟩,pd⟩ jx
  dsimp only at jx ⊢
  obtain⟨m16,b16,rfl,h,jx⟩:=Km jx
  unfold D9 at h;try dsimp only at h
  refine sq (sq (rg rfl fun K j=>?_))
  intro hm
  refine j _ _ (qn ?_);clear j K
  revert h;refine ca rfl (fun hc h=>?_) fun hc h=>?_
  ·refine sk (qn (sq (bk (sq ?_))))
   refine rg rfl fun K j=>?_
   obtain⟨kf,tg,h⟩:=Ah h
   refine Lb tg (by first | rfl | exact(Cy _).symm | (simp only[Akw,List.length_cons,List.length_nil,List.length_set,Akx]<;>omega)) ?_
   refine nS ?_
   refine Dm.of (f:=Bb) (l:=s_15) (n:=j14) tg ?_
   refine nS ?_
   refine j _ _ (qn (sq ?_));clear j K
   refine rg rfl fun K j=>?_
   refine Al.inline Tryz.call71 Tryz.func71 rfl rfl (by show _≤8;simp) ?_
   refine nS (sq ?_)
   refine ar rfl (qn (sq ?_))
   refine rg rfl fun K j=>?_
   obtain⟨lj,ux,h⟩:=Ah h
   refine Al.pure Tryz.call48 (J5 f_ kf ux) rfl fun _ hr=>?_
   subst hr
   refine nS ?_
   refine j _ _ (qn (rt ?_));clear j K
   refine nSc Tryz.results71 ?_
   refine j _ _ (qn ?_);clear j K
   revert h;refine ca rfl (fun hc h=>?_) fun hc h=>?_
   ·refine sq ?_
    refine rg rfl fun K j=>?_
    obtain⟨nm,po,h⟩:=Ah h
    refine Lb po (by first | rfl | exact(Cy _).symm | (simp only[Akw,List.length_cons,List.length_nil,List.length_set,Akx]<;>omega)) ?_
    refine nS ?_
    refine Dm.of (f:=Bb) (l:=s_15) (n:=i13) po ?_
    have hs21:=Uo (y:=kf) po
    refine nS ?_
    refine j _ _ (qn ?_);clear j K
    refine ar rfl (bn (qn ?_))
    refine ar rfl (qn ?_)
    obtain rfl:=Aa h
    refine⟨(m16,((IntKind.i64.wrap (i13+1)),(IntKind.i64.wrap (j14+1)),(s_15.set i13.toNat kf)),pd),Aj jx,by dsimp only;omega,?_,?_⟩
    ·exact cu
    exact cu
   refine sk (bn (qn (ar rfl (qn ?_))))
   obtain rfl:=Aa h
   refine⟨(m16,(i13,(IntKind.i64.wrap (j14+1)),s_15),pd),Aj jx,by dsimp only;omega,?_,?_⟩
   ·exact cu
   exact cu
  refine xt (qe (qe ?_))
  obtain⟨q29,hq,h⟩:=Ah h
  obtain rfl:=Aa h
  obtain rfl:=Ae jx
  replace h:=hq.trans (Ao hO16)
  refine bs (qn (sq ?_))
  refine AWP.l4 ?_
  refine ALP.cut 3 (ALP.part rfl ?_);intro K j
  refine nS ?_
  obtain⟨hk,h⟩:=Fz h
  (repeat(refine⟨by omega,?_⟩))
  refine j _ _ ?_;clear j K
  refine ALP.clr (l:=s_15) rfl rfl Tryz.underlying25 (by kernel_rfl) rfl (by first | rfl | omega) ?_
  refine nS ?_
  refine ALP.last rfl ?_;intro K j
  refine nS ?_
  refine j _ _ (qn (sq ?_));clear j K
  refine rg rfl fun K j=>?_
  obtain⟨hk,h⟩:=Fz h
  (repeat(refine⟨by omega,?_⟩))
  refine j _ _ (qn ?_);clear j K
  refine AWP.sub (Sub.window 4 rfl rfl) ?_
  refine nS (rt ?_)
  refine nSc Tryz.results70 ?_
  refine j _ _ (qn (bk ?_))
  obtain⟨o23,dg,qs⟩:=Ah h
  clear h
  refine AWP.tR (ι:=Nat×((List Int))×(Nat)) (fun zz=>[(2,.ptr 0 0),(5,.own 1 zz.2.2 0 zz.2.1.length)]) (fun zz=>[.box [.sl 2 (f_.Map.Nodes.map A5),.sl 8 (f_.Map.Lifts.map A6),.sl 7 (f_.Map.Runs.map Ba),.sl 1 (f_.Map.Bases.map Bb),.sl 2 (f_.Lifts.map Av),.sl 4 (f_.Closures.map Au),.sl 4 (f_.Patrol.Bl.map Aq),.sl 3 (f_.Patrol.Hazards.map Ay),.sl 3 (f_.Surfaces.map A1),.sl 5 (f_.Packs.map Az),.sl 6 (f_.Slides.map A3),.sl 7 (f_.Bulletin.map Ar),.sl 7 (f_.Missions.map Ap),.sl 4 (f_.Winches.map Ak),.sl 8 (f_.Groomers.map Ax),.sl 3 (f_.Status.map Aw),.int .i64 f_.Depth,.int .i64 f_.Time],.row zz.2.2 1 (zz.2.1.map Bb)]) (fun zz=>D6 (Kd f_) zz.1 zz.2.1=some o23) (fun zz=>zz.1) (fuel,(((s_15.take i13.toNat)++(List.replicate (s_15.length - i13.toNat) (0:Int))).take i13.toNat),(pd+1)) dg cu cu (fun x=>⟨rfl,rfl,rfl⟩) ?_
  clear dg
  rintro⟨n23,cz,df⟩ dg
  dsimp only at dg ⊢
  obtain⟨m23,b23,rfl,h,dg⟩:=Km dg
  unfold Kd at h;try dsimp only at h
  refine bk (sq (ar rfl (qn (sq (sq ?_)))))
  refine rg rfl fun K j=>?_
  intro hm
  refine j _ _ (qn (bk ?_))
  refine AWP.ghost 6 1 rfl (by decide) ?_
  obtain⟨o26,ju,hO26⟩:=Ah h
  clear h
  refine AWP.Bw (ι:=Nat×((List Int))×(Nat)) (fun zz=>[(2,.ptr 0 0),(5,.own 1 df 0 cz.length),(6,.own 2 zz.2.2 0 zz.2.1.length),(18,.own 1 df 0 cz.length),(19,.int .i64 ((cz.length:Nat):Int)),(20,.int .i64 ((zz.1:Nat):Int))]) (fun zz=>[.box [.sl 2 (f_.Map.Nodes.map A5),.sl 8 (f_.Map.Lifts.map A6),.sl 7 (f_.Map.Runs.map Ba),.sl 1 (f_.Map.Bases.map Bb),.sl 2 (f_.Lifts.map Av),.sl 4 (f_.Closures.map Au),.sl 4 (f_.Patrol.Bl.map Aq),.sl 3 (f_.Patrol.Hazards.map Ay),.sl 3 (f_.Surfaces.map A1),.sl 5 (f_.Packs.map Az),.sl 6 (f_.Slides.map A3),.sl 7 (f_.Bulletin.map Ar),.sl 7 (f_.Missions.map Ap),.sl 4 (f_.Winches.map Ak),.sl 8 (f_.Groomers.map Ax),.sl 3 (f_.Status.map Aw),.int .i64 f_.Depth,.int .i64 f_.Time],.row df 1 (cz.map Bb),.row zz.2.2 1 (zz.2.1.map Bb)]) (fun zz=>zz.1≤cz.length∧An (Ot f_ cz) zz.1 ((cz).drop zz.1) zz.2.1=some o26) (fun zz=>cz.length - zz.1) (0,[],0) ⟨Nat.zero_le _,ju⟩ cu cu (fun x=>⟨rfl,rfl,rfl⟩) ?_
  clear ju
  rintro⟨uq,left25,pc⟩ ⟨hk26,ju⟩
  dsimp only at hk26 ju ⊢
  refine sq (ar rfl (qn (sq ?_)))
  refine AWP.cond (Am (fun hc=>?_) (fun hc=>?_))
  ·have hlt26:uq<cz.length:=by have:=Akp hc;omega
   obtain⟨ow,b26,zb,h,ju⟩:=Bc ju hlt26
   have zc:=A9 zb
   have ry:=wk (k:=uq) (by omega)
   unfold Ot at h;try dsimp only at h
   refine sk (qn (sq (bk (sq (rg rfl fun K j=>?_)))))
   refine Lb zc (by first | rfl | exact(Cy _).symm | (simp only[Akw,List.length_cons,List.length_nil,List.length_set,Akx]<;>omega)) ?_
   refine nS ?_
   refine Dm.ofNat (f:=Bb) (l:=cz) (n:=uq) zc ?_
   refine nS ?_
   refine j _ _ (qn (sq ?_))
   refine rg rfl fun K j=>?_
   obtain⟨y29,hy29,h⟩:=Ah h
   refine Al.snap Tryz.call49 (Gm f_ cz ow hy29) (by simp +decide -implicitDefEqProofs only[go_sem]) (by rintro _ rfl;rfl) fun _ hr=>?_
   subst hr
   refine nS ?_
   refine j _ _ (qn ?_)
   revert h;refine ca rfl (fun hc h=>?_) fun hc h=>?_
   ·refine rg rfl fun K j=>?_
    obtain⟨hk,h⟩:=Bx h
    (repeat refine rp ?_);try simp +decide -implicitDefEqProofs only[go_sem]
    refine j _ _ (bn (qn ?_))
    refine ar rfl (qn ?_)
    obtain rfl:=Aa h
    refine⟨(uq+1,(left25++[ow]),(pc+1)),⟨by dsimp only;omega,Aj ju⟩,by dsimp only;omega,?_,?_⟩
    ·exact cuw ry
    exact cuw ry
   refine sk (bn (qn (ar rfl (qn ?_))))
   obtain rfl:=Aa h
   refine⟨(uq+1,left25,pc),⟨by dsimp only;omega,Aj ju⟩,by dsimp only;omega,?_,?_⟩
   ·exact cuw ry
   exact cuw ry
  obtain rfl:=Bg ju (fun hl=>by have:=Ako hc;omega)
  have h:=Bf hO26;try dsimp only at h
  have ag:cz.length=uq:=by have:=Ako hc;omega
  subst ag
  refine xt (qe (qe (bs (qn (sq (sq (rg rfl fun K j=>?_)))))))
  intro hm
  intro hm
  refine j _ _ (qn ?_)
  revert h;refine ca rfl (fun hc h=>?_) fun hc h=>?_
  ·refine sq (ar rfl (qn (rt (qr (br (qr ?_))))))
   obtain rfl:=Aa h
   obtain rfl:=Ae dg
   replace h:=Ao qs
   refine br ?_
   cases h;exact en Tryz.results29
  refine sk (qn (ar rfl (bn (qn ?_))))
  obtain rfl:=Aa h
  refine⟨(m23,left25,pc),Aj dg,by dsimp only;omega,_,_,Sub.swap 2 1 rfl rfl rfl,?_,?_⟩
  ·exact cu
  exact cu
 refine sk (bn (qn (ar rfl (qn ?_))))
 obtain rfl:=Aa h
 refine⟨(k1+1,(),()),⟨by dsimp only;omega,Aj az⟩,by dsimp only;omega,?_,?_⟩
 ·exact cuw cq
 exact cuw cq
theorem Ys (f_:Af) (runs:List Int) {r:(List Int)} (h:Fi f_ runs=some r):Ad Tryz.prog 29 [.agg (Ce f_),.sl 1 (runs.map Bb)] (·= .sl 1 (r.map Bb)):=(P9 f_ runs h).pure
def Po (b:List Int) (k0:Nat) (ab:Int) (sv:Unit):Option (Out (Unit) (Bool)):=
 (Dv b ((k0:Nat):Int)).bind fun bb=>(bif (decide (ab≠bb))then some (Out.ret false)else some (Out.next ()))
def O7 (a:List Int) (b:List Int):Option (Bool):=
 (bif (decide (((a.length:Nat):Int)≠((b.length:Nat):Int)))then some false else(An (Po b) 0 a ()).bind fun o0=>o0.on fun s0=>some true)
theorem Ql (a:List Int) (b:List Int) {r:Bool} (h:O7 a b=some r):Ad Tryz.prog 15 [.sl 1 (a.map Bb),.sl 1 (b.map Bb)] (·= .bool r):=by
 refine Ad.nle (Ad.intro Tryz.func15 rfl rfl (by show _≤26;simp) ?_)
 unfold O7 at h
 refine nS (sq ?_)
 refine ar rfl (qn (sq (sq ?_)))
 refine rg rfl fun K j=>?_
 intro hm
 intro hm
 refine j _ _ (qn ?_)
 revert h;refine ca rfl (fun hc h=>?_) fun hc h=>?_
 ·refine sq (ar rfl (qn (rt (qr ?_))))
  cases h;exact en Tryz.results15
 refine sk (qn (sq (sq (ar rfl (qn (bk ?_))))))
 obtain⟨o0,aa,ae⟩:=Ah h
 clear h
 refine AWP.Bw (ι:=Nat×(Unit)×(Unit)) (fun zz=>[(0,.sl 1 (a.map Bb)),(1,.sl 1 (b.map Bb)),(5,.int .i64 ((zz.1:Nat):Int))]) (fun zz=>[]) (fun zz=>zz.1≤a.length∧An (Po b) zz.1 ((a).drop zz.1) zz.2.1=some o0) (fun zz=>a.length - zz.1) (0,(),()) ⟨Nat.zero_le _,aa⟩ cu cu (fun x=>⟨rfl,rfl,rfl⟩) ?_
 clear aa
 rintro⟨k0,⟨⟩,⟨⟩⟩ ⟨bg,aa⟩
 dsimp only at bg aa ⊢
 refine sq (sq (rg rfl fun K j=>?_))
 intro hm
 refine j _ _ (qn ?_)
 refine AWP.cond (Am (fun hc=>?_) (fun hc=>?_))
 rotate_left
 ·obtain rfl:=Bg aa (fun hl=>by have:=Ako hc;omega)
  have h:=Bf ae;try dsimp only at h
  have ag:a.length=k0:=by have:=Ako hc;omega
  subst ag
  refine xt (qe (qe (bs (qn (sq (ar rfl (qn (rt ?_))))))))
  cases h;exact en Tryz.results15
 have ah:k0<a.length:=by have:=Akp hc;omega
 obtain⟨ab,b0,aj,h,aa⟩:=Bc aa ah
 have aw:=A9 aj
 have ak:=wk (k:=k0) (by omega)
 unfold Po at h;try dsimp only at h
 refine sk (qn (sq (bk (sq ?_))))
 refine AWP.draw Tryz.mixed (by kernel_rfl) ?_;intro K j
 refine nS ?_
 refine Bo.of (f:=Bb) (l:=a) aw ?_
 refine nS ?_
 obtain⟨bb,du,h⟩:=Ah h
 refine Bo.of (f:=Bb) (l:=b) du ?_
 refine nS ?_
 refine j _ _ _ (by kernel_rfl) ?_
 refine qn ?_
 revert h;refine ca rfl (fun hc h=>?_) fun hc h=>?_
 ·refine sq (ar rfl (qn (rt (br (qr (qr ?_))))))
  obtain rfl:=Aa h
  obtain rfl:=Ae aa
  replace h:=Ao ae
  refine br (qr ?_)
  cases h;exact en Tryz.results15
 refine sk (bn (qn (ar rfl (qn ?_))))
 obtain rfl:=Aa h
 refine⟨(k0+1,(),()),⟨by dsimp only;omega,Aj aa⟩,by dsimp only;omega,?_,?_⟩
 ·exact cuw ak
 exact cuw ak
def G5 (f_:Af) (y1:(List Int)) (k1:Nat) (bb:Int) (sv:Unit):Option (Out (Unit) (Bool)):=
 (Cw f_ y1 bb).bind fun y4=>(bif (decide (y4≠0))then some (Out.ret false)else some (Out.next ()))
def C6 (f_:Af):Option (Bool):=
 (De f_).bind fun y1=>(An (G5 f_ y1) 0 y1 ()).bind fun o1=>o1.on fun s1=>some true
theorem E1 (f_:Af) {r:Bool} (h:C6 f_=some r):Ad Tryz.prog 22 [.agg (Ce f_)] (·= .bool r):=by
 refine Ad.nle (Ad.intro Tryz.func22 rfl rfl (by show _≤20;simp) ?_)
 unfold C6 at h
 refine nS (sq ?_)
 refine ar rfl (qn (sq ?_))
 refine rg rfl fun K j=>?_
 obtain⟨y1,bp,h⟩:=Ah h
 refine Al.pure Tryz.call20 (E7 f_ bp) rfl fun _ hr=>?_
 subst hr
 refine nS ?_
 refine j _ _ (qn (sq (sq ?_)))
 refine rg rfl fun K j=>?_
 intro hm
 refine j _ _ (qn (bk ?_))
 obtain⟨o1,az,dj⟩:=Ah h
 clear h
 refine AWP.Bw (ι:=Nat×(Unit)×(Unit)) (fun zz=>[(1,.ptr 0 0),(3,.sl 1 (y1.map Bb)),(8,.sl 1 (y1.map Bb)),(9,.int .i64 ((y1.length:Nat):Int)),(10,.int .i64 ((zz.1:Nat):Int))]) (fun zz=>[.box [.sl 2 (f_.Map.Nodes.map A5),.sl 8 (f_.Map.Lifts.map A6),.sl 7 (f_.Map.Runs.map Ba),.sl 1 (f_.Map.Bases.map Bb),.sl 2 (f_.Lifts.map Av),.sl 4 (f_.Closures.map Au),.sl 4 (f_.Patrol.Bl.map Aq),.sl 3 (f_.Patrol.Hazards.map Ay),.sl 3 (f_.Surfaces.map A1),.sl 5 (f_.Packs.map Az),.sl 6 (f_.Slides.map A3),.sl 7 (f_.Bulletin.map Ar),.sl 7 (f_.Missions.map Ap),.sl 4 (f_.Winches.map Ak),.sl 8 (f_.Groomers.map Ax),.sl 3 (f_.Status.map Aw),.int .i64 f_.Depth,.int .i64 f_.Time]]) (fun zz=>zz.1≤y1.length∧An (G5 f_ y1) zz.1 ((y1).drop zz.1) zz.2.1=some o1) (fun zz=>y1.length - zz.1) (0,(),()) ⟨Nat.zero_le _,az⟩ cu cu (fun x=>⟨rfl,rfl,rfl⟩) ?_
 clear az
 rintro⟨k1,⟨⟩,⟨⟩⟩ ⟨jd,az⟩
 dsimp only at jd az ⊢
 refine sq (ar rfl (qn (sq ?_)))
 refine AWP.cond (Am (fun hc=>?_) (fun hc=>?_))
 rotate_left
 ·obtain rfl:=Bg az (fun hl=>by have:=Ako hc;omega)
  have h:=Bf dj;try dsimp only at h
  have ag:y1.length=k1:=by have:=Ako hc;omega
  subst ag
  refine xt (qe (qe (bs (qn (sq (ar rfl (qn (rt ?_))))))))
  cases h;exact en Tryz.results22
 have dy:k1<y1.length:=by have:=Akp hc;omega
 obtain⟨bb,b1,ei,h,az⟩:=Bc az dy
 have jc:=A9 ei
 have cq:=wk (k:=k1) (by omega)
 unfold G5 at h;try dsimp only at h
 refine sk (qn (sq (bk (sq (rg rfl fun K j=>?_)))))
 refine Bo.of (f:=Bb) (l:=y1) jc ?_
 refine nS ?_
 refine j _ _ (qn (sq ?_))
 refine rg rfl fun K j=>?_
 obtain⟨y4,cn,h⟩:=Ah h
 refine Al.pure Tryz.call18 (Dt f_ y1 bb cn) rfl fun _ hr=>?_
 subst hr
 refine nS ?_
 refine j _ _ (qn ?_)
 revert h;refine ca rfl (fun hc h=>?_) fun hc h=>?_
 ·refine sq (ar rfl (qn (rt (br (qr (qr ?_))))))
  obtain rfl:=Aa h
  obtain rfl:=Ae az
  replace h:=Ao dj
  refine br (qr ?_)
  cases h;exact en Tryz.results22
 refine sk (bn (qn (ar rfl (qn ?_))))
 obtain rfl:=Aa h
 refine⟨(k1+1,(),()),⟨by dsimp only;omega,Aj az⟩,by dsimp only;omega,?_,?_⟩
 ·exact cuw cq
 exact cuw cq
def E0 (f_:Af) (y2:(List Int)) (ll:Nat) (uf:A4) (sv:(List A4)×(List Int)):Option (Out ((List A4)×(List Int)) (Af×(List Int))):=
 (Dv sv.1 ((ll:Nat):Int)).bind fun et=>(bif et.Open then(Br y2 et.Run).bind fun y42=>(bif (!y42)then chk (sv.2.length+1) (some (Out.next (((sv.1.set ll (A4.mk et.Run false et.Since)).set ll (A4.mk et.Run false f_.Time)),(sv.2++[et.Run]))))else some (Out.next (sv.1,sv.2)))else some (Out.next (sv.1,sv.2)))
def Hs (yg:Nat) (uh:A8) (sv:(List A8)):Option (Out ((List A8)) (Af×(List Int))):=
 (C8 uh).bind fun lv=>chk (sv.length+1) (some (Out.next (sv++[lv])))
def Ht (pf:Nat) (jm:Bi) (sv:(List Bi)):Option (Out ((List Bi)) (Af×(List Int))):=
 (C9 jm).bind fun ua=>chk (sv.length+1) (some (Out.next (sv++[ua])))
def Hu (yi:Nat) (nm:Be) (sv:(List Be)):Option (Out ((List Be)) (Af×(List Int))):=
 (Da nm).bind fun jl=>chk (sv.length+1) (some (Out.next (sv++[jl])))
def Hv (xe:Nat) (jb:Ch) (sv:(List Ch)):Option (Out ((List Ch)) (Af×(List Int))):=
 (Db jb).bind fun er=>chk (sv.length+1) (some (Out.next (sv++[er])))
def F9 (f_:Af):Option (Af×(List Int)):=
 (De f_).bind fun y1=>(Fi f_ y1).bind fun y2=>(Ci f_.Map.Nodes).bind fun y3=>(Cj f_.Map.Lifts).bind fun y4=>(Cm f_.Map.Runs).bind fun y5=>(Cc f_.Map.Bases).bind fun y6=>(Bv f_.Lifts).bind fun y7=>(B7 f_.Closures).bind fun y8=>chk f_.Patrol.Bl.length ((An Hv 0 f_.Patrol.Bl []).bind fun o10=>o10.on fun s10=>(B8 f_.Patrol.Hazards).bind fun jy=>(B3 f_.Surfaces).bind fun lk=>(B4 f_.Packs).bind fun oh=>chk f_.Slides.length ((An Hu 0 f_.Slides []).bind fun o18=>o18.on fun s18=>chk f_.Bulletin.length ((An Ht 0 f_.Bulletin []).bind fun o23=>o23.on fun s23=>(B5 f_.Missions).bind fun y27=>chk f_.Winches.length ((An Hs 0 f_.Winches []).bind fun o29=>o29.on fun s29=>(B6 f_.Groomers).bind fun y33=>(Cn f_.Status).bind fun qx=>(An (E0 f_ y2) 0 qx (qx,[])).bind fun o38=>o38.on fun s38=>some ((Af.mk (Bd.mk y3 y4 y5 y6) y7 y8 (B9.mk s10 jy) lk oh s18 s23 y27 s29 y33 s38.1 f_.Depth f_.Time),s38.2)))))
theorem O2 (f_:Af) {r:Af×(List Int)} (h:F9 f_=some r):Ad Tryz.prog 27 [.agg (Ce f_)] (·= .tuple [.agg (Ce r.1),.sl 1 (r.2.map Bb)]):=by
 refine Ad.nle (Ad.intro Tryz.func27 rfl rfl (by show _≤52;simp) ?_)
 unfold F9 at h
 refine nS (sq ?_)
 refine ar rfl (qn (sq ?_))
 refine AWP.draw Tryz.mixed (by kernel_rfl) ?_;intro K j
 refine nS ?_
 obtain⟨y1,bp,h⟩:=Ah h
 refine Cf.pure Tryz.call20 (E7 f_ bp) rfl ?_
 refine nS ?_
 obtain⟨y2,dn,h⟩:=Ah h
 refine Cf.pure Tryz.call29 (Ys f_ y1 dn) rfl ?_
 refine nS ?_
 refine j _ _ _ (by kernel_rfl) ?_
 refine qn (sq (rg rfl fun K j=>?_))
 refine Al.inline Tryz.call57 Tryz.func57 rfl rfl (by show _≤74;simp) ?_
 refine nS (sq ?_)
 refine ar rfl (qn (sq ?_))
 refine AWP.draw Tryz.mixed (by kernel_rfl) ?_;intro K j
 refine nS ?_
 obtain⟨y3,bx,h⟩:=Ah h
 refine Cf.pure Tryz.call122 (D7 f_.Map.Nodes bx) rfl ?_
 refine nS ?_
 obtain⟨y4,cn,h⟩:=Ah h
 refine Cf.pure Tryz.call123 (D8 f_.Map.Lifts cn) rfl ?_
 refine nS ?_
 obtain⟨y5,db,h⟩:=Ah h
 refine Cf.pure Tryz.call124 (Eh f_.Map.Runs db) rfl ?_
 refine nS ?_
 obtain⟨y6,ey,h⟩:=Ah h
 refine Cf.pure Tryz.call67 (Cx f_.Map.Bases ey) rfl ?_
 refine nS ?_
 refine j _ _ _ (by kernel_rfl) ?_;clear j K
 refine qn (sq (rg rfl fun K j=>?_))
 obtain⟨y7,eo,h⟩:=Ah h
 refine Al.pure Tryz.call125 (Di f_.Lifts eo) rfl fun _ hr=>?_
 subst hr
 refine nS ?_
 refine j _ _ (qn (sq ?_));clear j K
 refine rg rfl fun K j=>?_
 obtain⟨y8,fp,h⟩:=Ah h
 refine Al.pure Tryz.call126 (Ds f_.Closures fp) rfl fun _ hr=>?_
 subst hr
 refine nS ?_
 refine j _ _ (qn (sq ?_));clear j K
 refine rg rfl fun K j=>?_
 refine Al.inline Tryz.call127 Tryz.func127 rfl rfl (by show _≤25;simp) ?_
 refine nS (sq ?_)
 refine ar rfl (qn (sq ?_))
 refine rg rfl fun K j=>?_
 intro hm
 obtain⟨hk,h⟩:=Bx h
 (repeat refine rp ?_);try simp +decide -implicitDefEqProofs only[go_sem]
 refine j _ _ (qn (sq (sq ?_)));clear j K
 refine rg rfl fun K j=>?_
 intro hm
 refine j _ _ (qn (bk ?_));clear j K
 obtain⟨o10,lh,hO10⟩:=Ah h
 clear h
 refine AWP.Bw (ι:=Nat×((List Ch))×(Nat)) (fun zz=>[(1,.func 128 []),(5,.own 10 zz.2.2 0 zz.2.1.length),(11,.sl 4 (f_.Patrol.Bl.map Aq)),(12,.int .i64 ((f_.Patrol.Bl.length:Nat):Int)),(13,.int .i64 ((zz.1:Nat):Int))]) (fun zz=>[.box [.sl 2 (f_.Map.Nodes.map A5),.sl 8 (f_.Map.Lifts.map A6),.sl 7 (f_.Map.Runs.map Ba),.sl 1 (f_.Map.Bases.map Bb),.sl 2 (f_.Lifts.map Av),.sl 4 (f_.Closures.map Au),.sl 4 (f_.Patrol.Bl.map Aq),.sl 3 (f_.Patrol.Hazards.map Ay),.sl 3 (f_.Surfaces.map A1),.sl 5 (f_.Packs.map Az),.sl 6 (f_.Slides.map A3),.sl 7 (f_.Bulletin.map Ar),.sl 7 (f_.Missions.map Ap),.sl 4 (f_.Winches.map Ak),.sl 8 (f_.Groomers.map Ax),.sl 3 (f_.Status.map Aw),.int .i64 f_.Depth,.int .i64 f_.Time],.box [.nils,.nils,.nils,.nils,.nils,.nils,.nils,.nils,.nils,.nils,.nils,.nils,.nils,.nils,.nils,.nils,.int .i64 0,.int .i64 0],.gone,.gone,.box [.sl 2 (y3.map A5),.sl 8 (y4.map A6),.sl 7 (y5.map Ba),.sl 1 (y6.map Bb),.sl 2 (y7.map Av),.sl 4 (y8.map Au),.sl 4 (f_.Patrol.Bl.map Aq),.sl 3 (f_.Patrol.Hazards.map Ay),.sl 3 (f_.Surfaces.map A1),.sl 5 (f_.Packs.map Az),.sl 6 (f_.Slides.map A3),.sl 7 (f_.Bulletin.map Ar),.sl 7 (f_.Missions.map Ap),.sl 4 (f_.Winches.map Ak),.sl 8 (f_.Groomers.map Ax),.sl 3 (f_.Status.map Aw),.int .i64 f_.Depth,.int .i64 f_.Time],.box [.nils,.nils,.nils,.nils,.nils,.nils,.nils,.nils,.nils,.nils,.nils,.nils,.nils,.nils,.nils,.nils,.int .i64 0,.int .i64 0],.gone,.gone,.gone,.gone,.row zz.2.2 4 (zz.2.1.map Aq)]) (fun zz=>zz.1≤f_.Patrol.Bl.length∧An Hv zz.1 ((f_.Patrol.Bl).drop zz.1) zz.2.1=some o10) (fun zz=>f_.Patrol.Bl.length - zz.1) (0,[],0) ⟨Nat.zero_le _,lh⟩ cu cu (fun x=>⟨rfl,rfl,rfl⟩) ?_
 clear lh
 rintro⟨xe,jo,fx⟩ ⟨hk10,lh⟩
 dsimp only at hk10 lh ⊢
 refine sq (ar rfl (qn (sq ?_)))
 refine AWP.cond (Am (fun hc=>?_) (fun hc=>?_))
 ·have hlt10:xe<f_.Patrol.Bl.length:=by have:=Akp hc;omega
  obtain⟨jb,b10,zg,h,lh⟩:=Bc lh hlt10
  have hx10:=A9 zg
  have zt:=wk (k:=xe) (by omega)
  unfold Hv at h;try dsimp only at h
  refine sk (qn (sq (bk (sq (rg rfl fun K j=>?_)))))
  refine Bo.of (f:=Aq) (l:=f_.Patrol.Bl) hx10 ?_
  refine nS ?_
  refine j _ _ (qn ?_);clear j K
  refine rg rfl fun K j=>?_
  obtain⟨er,iu,h⟩:=Ah h
  refine Al.pure Tryz.call128 (Hk jb iu) rfl fun _ hr=>?_
  subst hr
  refine nS ?_
  obtain⟨hk,h⟩:=Bx h
  (repeat refine rp ?_);try simp +decide -implicitDefEqProofs only[go_sem]
  refine j _ _ (bn (qn ?_));clear j K
  refine ar rfl (qn ?_)
  obtain rfl:=Aa h
  refine⟨(xe+1,(jo++[er]),(fx+1)),⟨by dsimp only;omega,Aj lh⟩,by dsimp only;omega,?_,?_⟩
  ·exact cuw zt
  exact cuw zt
 obtain rfl:=Bg lh (fun hl=>by have:=Ako hc;omega)
 have h:=Bf hO10;try dsimp only at h
 have ag:f_.Patrol.Bl.length=xe:=by have:=Ako hc;omega
 subst ag
 refine xt (qe (qe (bs (qn (sq (ar rfl (qn (rt ?_))))))))
 refine nSc Tryz.results127 ?_
 refine j _ _ (qn (sq ?_));clear j K
 refine rg rfl fun K j=>?_
 obtain⟨jy,pj,h⟩:=Ah h
 refine Al.pure Tryz.call130 (Dy f_.Patrol.Hazards pj) rfl fun _ hr=>?_
 subst hr
 refine nS ?_
 refine j _ _ (qn (sq ?_));clear j K
 refine rg rfl fun K j=>?_
 obtain⟨lk,ph,h⟩:=Ah h
 refine Al.pure Tryz.call131 (Dn f_.Surfaces ph) rfl fun _ hr=>?_
 subst hr
 refine nS ?_
 refine j _ _ (qn (sq ?_));clear j K
 refine rg rfl fun K j=>?_
 obtain⟨oh,pg,h⟩:=Ah h
 refine Al.pure Tryz.call132 (Dp f_.Packs pg) rfl fun _ hr=>?_
 subst hr
 refine nS ?_
 refine j _ _ (qn (sq ?_));clear j K
 refine rg rfl fun K j=>?_
 refine Al.inline Tryz.call133 Tryz.func133 rfl rfl (by show _≤25;simp) ?_
 refine nS (sq ?_)
 refine ar rfl (qn (sq ?_))
 refine rg rfl fun K j=>?_
 intro hm
 obtain⟨hk,h⟩:=Bx h
 (repeat refine rp ?_);try simp +decide -implicitDefEqProofs only[go_sem]
 refine j _ _ (qn (sq (sq ?_)));clear j K
 refine rg rfl fun K j=>?_
 intro hm
 refine j _ _ (qn (bk ?_));clear j K
 obtain⟨o18,lf,hO18⟩:=Ah h
 clear h
 refine AWP.Bw (ι:=Nat×((List Be))×(Nat)) (fun zz=>[(1,.func 134 []),(5,.own 11 zz.2.2 0 zz.2.1.length),(11,.sl 6 (f_.Slides.map A3)),(12,.int .i64 ((f_.Slides.length:Nat):Int)),(13,.int .i64 ((zz.1:Nat):Int))]) (fun zz=>[.box [.sl 2 (f_.Map.Nodes.map A5),.sl 8 (f_.Map.Lifts.map A6),.sl 7 (f_.Map.Runs.map Ba),.sl 1 (f_.Map.Bases.map Bb),.sl 2 (f_.Lifts.map Av),.sl 4 (f_.Closures.map Au),.sl 4 (f_.Patrol.Bl.map Aq),.sl 3 (f_.Patrol.Hazards.map Ay),.sl 3 (f_.Surfaces.map A1),.sl 5 (f_.Packs.map Az),.sl 6 (f_.Slides.map A3),.sl 7 (f_.Bulletin.map Ar),.sl 7 (f_.Missions.map Ap),.sl 4 (f_.Winches.map Ak),.sl 8 (f_.Groomers.map Ax),.sl 3 (f_.Status.map Aw),.int .i64 f_.Depth,.int .i64 f_.Time],.box [.nils,.nils,.nils,.nils,.nils,.nils,.nils,.nils,.nils,.nils,.nils,.nils,.nils,.nils,.nils,.nils,.int .i64 0,.int .i64 0],.gone,.gone,.box [.sl 2 (y3.map A5),.sl 8 (y4.map A6),.sl 7 (y5.map Ba),.sl 1 (y6.map Bb),.sl 2 (y7.map Av),.sl 4 (y8.map Au),.own 10 fx 0 jo.length,.sl 3 (jy.map Ay),.sl 3 (lk.map A1),.sl 5 (oh.map Az),.sl 6 (f_.Slides.map A3),.sl 7 (f_.Bulletin.map Ar),.sl 7 (f_.Missions.map Ap),.sl 4 (f_.Winches.map Ak),.sl 8 (f_.Groomers.map Ax),.sl 3 (f_.Status.map Aw),.int .i64 f_.Depth,.int .i64 f_.Time],.box [.nils,.nils,.nils,.nils,.nils,.nils,.nils,.nils,.nils,.nils,.nils,.nils,.nils,.nils,.nils,.nils,.int .i64 0,.int .i64 0],.gone,.gone,.gone,.gone,.row fx 4 (jo.map Aq),.row zz.2.2 6 (zz.2.1.map A3)]) (fun zz=>zz.1≤f_.Slides.length∧An Hu zz.1 ((f_.Slides).drop zz.1) zz.2.1=some o18) (fun zz=>f_.Slides.length - zz.1) (0,[],0) ⟨Nat.zero_le _,lf⟩ cu cu (fun x=>⟨rfl,rfl,rfl⟩) ?_
 clear lf
 rintro⟨yi,ir,iq⟩ ⟨hk18,lf⟩
 dsimp only at hk18 lf ⊢
 refine sq (ar rfl (qn (sq ?_)))
 refine AWP.cond (Am (fun hc=>?_) (fun hc=>?_))
 ·have hlt18:yi<f_.Slides.length:=by have:=Akp hc;omega
  obtain⟨nm,b18,zd,h,lf⟩:=Bc lf hlt18
  have hx18:=A9 zd
  have zp:=wk (k:=yi) (by omega)
  unfold Hu at h;try dsimp only at h
  refine sk (qn (sq (bk (sq (rg rfl fun K j=>?_)))))
  refine Bo.of (f:=A3) (l:=f_.Slides) hx18 ?_
  refine nS ?_
  refine j _ _ (qn ?_);clear j K
  refine rg rfl fun K j=>?_
  obtain⟨jl,uw,h⟩:=Ah h
  refine Al.pure Tryz.call134 (Hj nm uw) rfl fun _ hr=>?_
  subst hr
  refine nS ?_
  obtain⟨hk,h⟩:=Bx h
  (repeat refine rp ?_);try simp +decide -implicitDefEqProofs only[go_sem]
  refine j _ _ (bn (qn ?_));clear j K
  refine ar rfl (qn ?_)
  obtain rfl:=Aa h
  refine⟨(yi+1,(ir++[jl]),(iq+1)),⟨by dsimp only;omega,Aj lf⟩,by dsimp only;omega,?_,?_⟩
  ·exact cuw zp
  exact cuw zp
 obtain rfl:=Bg lf (fun hl=>by have:=Ako hc;omega)
 have h:=Bf hO18;try dsimp only at h
 have ag:f_.Slides.length=yi:=by have:=Ako hc;omega
 subst ag
 refine xt (qe (qe (bs (qn (sq (ar rfl (qn (rt ?_))))))))
 refine nSc Tryz.results133 ?_
 refine j _ _ (qn (sq ?_));clear j K
 refine rg rfl fun K j=>?_
 refine Al.inline Tryz.call135 Tryz.func135 rfl rfl (by show _≤25;simp) ?_
 refine nS (sq ?_)
 refine ar rfl (qn (sq ?_))
 refine rg rfl fun K j=>?_
 intro hm
 obtain⟨hk,h⟩:=Bx h
 (repeat refine rp ?_);try simp +decide -implicitDefEqProofs only[go_sem]
 refine j _ _ (qn (sq (sq ?_)));clear j K
 refine rg rfl fun K j=>?_
 intro hm
 refine j _ _ (qn (bk ?_));clear j K
 obtain⟨o23,dg,qs⟩:=Ah h
 clear h
 refine AWP.Bw (ι:=Nat×((List Bi))×(Nat)) (fun zz=>[(1,.func 136 []),(5,.own 12 zz.2.2 0 zz.2.1.length),(11,.sl 7 (f_.Bulletin.map Ar)),(12,.int .i64 ((f_.Bulletin.length:Nat):Int)),(13,.int .i64 ((zz.1:Nat):Int))]) (fun zz=>[.box [.sl 2 (f_.Map.Nodes.map A5),.sl 8 (f_.Map.Lifts.map A6),.sl 7 (f_.Map.Runs.map Ba),.sl 1 (f_.Map.Bases.map Bb),.sl 2 (f_.Lifts.map Av),.sl 4 (f_.Closures.map Au),.sl 4 (f_.Patrol.Bl.map Aq),.sl 3 (f_.Patrol.Hazards.map Ay),.sl 3 (f_.Surfaces.map A1),.sl 5 (f_.Packs.map Az),.sl 6 (f_.Slides.map A3),.sl 7 (f_.Bulletin.map Ar),.sl 7 (f_.Missions.map Ap),.sl 4 (f_.Winches.map Ak),.sl 8 (f_.Groomers.map Ax),.sl 3 (f_.Status.map Aw),.int .i64 f_.Depth,.int .i64 f_.Time],.box [.nils,.nils,.nils,.nils,.nils,.nils,.nils,.nils,.nils,.nils,.nils,.nils,.nils,.nils,.nils,.nils,.int .i64 0,.int .i64 0],.gone,.gone,.box [.sl 2 (y3.map A5),.sl 8 (y4.map A6),.sl 7 (y5.map Ba),.sl 1 (y6.map Bb),.sl 2 (y7.map Av),.sl 4 (y8.map Au),.own 10 fx 0 jo.length,.sl 3 (jy.map Ay),.sl 3 (lk.map A1),.sl 5 (oh.map Az),.own 11 iq 0 ir.length,.sl 7 (f_.Bulletin.map Ar),.sl 7 (f_.Missions.map Ap),.sl 4 (f_.Winches.map Ak),.sl 8 (f_.Groomers.map Ax),.sl 3 (f_.Status.map Aw),.int .i64 f_.Depth,.int .i64 f_.Time],.box [.nils,.nils,.nils,.nils,.nils,.nils,.nils,.nils,.nils,.nils,.nils,.nils,.nils,.nils,.nils,.nils,.int .i64 0,.int .i64 0],.gone,.gone,.gone,.gone,.row fx 4 (jo.map Aq),.row iq 6 (ir.map A3),.row zz.2.2 7 (zz.2.1.map Ar)]) (fun zz=>zz.1≤f_.Bulletin.length∧An Ht zz.1 ((f_.Bulletin).drop zz.1) zz.2.1=some o23) (fun zz=>f_.Bulletin.length - zz.1) (0,[],0) ⟨Nat.zero_le _,dg⟩ cu cu (fun x=>⟨rfl,rfl,rfl⟩) ?_
 clear dg
 rintro⟨pf,da,df⟩ ⟨wa,dg⟩
 dsimp only at wa dg ⊢
 refine sq (ar rfl (qn (sq ?_)))
 refine AWP.cond (Am (fun hc=>?_) (fun hc=>?_))
 ·have qc:pf<f_.Bulletin.length:=by have:=Akp hc;omega
  obtain⟨jm,b23,pr,h,dg⟩:=Bc dg qc
  have vj:=A9 pr
  have pt:=wk (k:=pf) (by omega)
  unfold Ht at h;try dsimp only at h
  refine sk (qn (sq (bk (sq (rg rfl fun K j=>?_)))))
  refine Bo.of (f:=Ar) (l:=f_.Bulletin) vj ?_
  refine nS ?_
  refine j _ _ (qn ?_);clear j K
  refine rg rfl fun K j=>?_
  obtain⟨ua,uv,h⟩:=Ah h
  refine Al.pure Tryz.call136 (Hi jm uv) rfl fun _ hr=>?_
  subst hr
  refine nS ?_
  obtain⟨hk,h⟩:=Bx h
  (repeat refine rp ?_);try simp +decide -implicitDefEqProofs only[go_sem]
  refine j _ _ (bn (qn ?_));clear j K
  refine ar rfl (qn ?_)
  obtain rfl:=Aa h
  refine⟨(pf+1,(da++[ua]),(df+1)),⟨by dsimp only;omega,Aj dg⟩,by dsimp only;omega,?_,?_⟩
  ·exact cuw pt
  exact cuw pt
 obtain rfl:=Bg dg (fun hl=>by have:=Ako hc;omega)
 have h:=Bf qs;try dsimp only at h
 have ag:f_.Bulletin.length=pf:=by have:=Ako hc;omega
 subst ag
 refine xt (qe (qe (bs (qn (sq (ar rfl (qn (rt ?_))))))))
 refine nSc Tryz.results135 ?_
 refine j _ _ (qn (sq ?_));clear j K
 refine rg rfl fun K j=>?_
 obtain⟨y27,hy27,h⟩:=Ah h
 refine Al.pure Tryz.call137 (Dq f_.Missions hy27) rfl fun _ hr=>?_
 subst hr
 refine nS ?_
 refine j _ _ (qn (sq ?_));clear j K
 refine rg rfl fun K j=>?_
 refine Al.inline Tryz.call138 Tryz.func138 rfl rfl (by show _≤25;simp) ?_
 refine nS (sq ?_)
 refine ar rfl (qn (sq ?_))
 refine rg rfl fun K j=>?_
 intro hm
 obtain⟨hk,h⟩:=Bx h
 (repeat refine rp ?_);try simp +decide -implicitDefEqProofs only[go_sem]
 refine j _ _ (qn (sq (sq ?_)));clear j K
 refine rg rfl fun K j=>?_
 intro hm
 refine j _ _ (qn (bk ?_));clear j K
 obtain⟨o29,la,hO29⟩:=Ah h
 clear h
 refine AWP.Bw (ι:=Nat×((List A8))×(Nat)) (fun zz=>[(1,.func 139 []),(5,.own 13 zz.2.2 0 zz.2.1.length),(11,.sl 4 (f_.Winches.map Ak)),(12,.int .i64 ((f_.Winches.length:Nat):Int)),(13,.int .i64 ((zz.1:Nat):Int))]) (fun zz=>[.box [.sl 2 (f_.Map.Nodes.map A5),.sl 8 (f_.Map.Lifts.map A6),.sl 7 (f_.Map.Runs.map Ba),.sl 1 (f_.Map.Bases.map Bb),.sl 2 (f_.Lifts.map Av),.sl 4 (f_.Closures.map Au),.sl 4 (f_.Patrol.Bl.map Aq),.sl 3 (f_.Patrol.Hazards.map Ay),.sl 3 (f_.Surfaces.map A1),.sl 5 (f_.Packs.map Az),.sl 6 (f_.Slides.map A3),.sl 7 (f_.Bulletin.map Ar),.sl 7 (f_.Missions.map Ap),.sl 4 (f_.Winches.map Ak),.sl 8 (f_.Groomers.map Ax),.sl 3 (f_.Status.map Aw),.int .i64 f_.Depth,.int .i64 f_.Time],.box [.nils,.nils,.nils,.nils,.nils,.nils,.nils,.nils,.nils,.nils,.nils,.nils,.nils,.nils,.nils,.nils,.int .i64 0,.int .i64 0],.gone,.gone,.box [.sl 2 (y3.map A5),.sl 8 (y4.map A6),.sl 7 (y5.map Ba),.sl 1 (y6.map Bb),.sl 2 (y7.map Av),.sl 4 (y8.map Au),.own 10 fx 0 jo.length,.sl 3 (jy.map Ay),.sl 3 (lk.map A1),.sl 5 (oh.map Az),.own 11 iq 0 ir.length,.own 12 df 0 da.length,.sl 7 (y27.map Ap),.sl 4 (f_.Winches.map Ak),.sl 8 (f_.Groomers.map Ax),.sl 3 (f_.Status.map Aw),.int .i64 f_.Depth,.int .i64 f_.Time],.box [.nils,.nils,.nils,.nils,.nils,.nils,.nils,.nils,.nils,.nils,.nils,.nils,.nils,.nils,.nils,.nils,.int .i64 0,.int .i64 0],.gone,.gone,.gone,.gone,.row fx 4 (jo.map Aq),.row iq 6 (ir.map A3),.row df 7 (da.map Ar),.row zz.2.2 4 (zz.2.1.map Ak)]) (fun zz=>zz.1≤f_.Winches.length∧An Hs zz.1 ((f_.Winches).drop zz.1) zz.2.1=some o29) (fun zz=>f_.Winches.length - zz.1) (0,[],0) ⟨Nat.zero_le _,la⟩ cu cu (fun x=>⟨rfl,rfl,rfl⟩) ?_
 clear la
 rintro⟨yg,pe,pb⟩ ⟨hk29,la⟩
 dsimp only at hk29 la ⊢
 refine sq (ar rfl (qn (sq ?_)))
 refine AWP.cond (Am (fun hc=>?_) (fun hc=>?_))
 ·have hlt29:yg<f_.Winches.length:=by have:=Akp hc;omega
  obtain⟨uh,b29,yz,h,la⟩:=Bc la hlt29
  have hx29:=A9 yz
  have zm:=wk (k:=yg) (by omega)
  unfold Hs at h;try dsimp only at h
  refine sk (qn (sq (bk (sq (rg rfl fun K j=>?_)))))
  refine Bo.of (f:=Ak) (l:=f_.Winches) hx29 ?_
  refine nS ?_
  refine j _ _ (qn ?_);clear j K
  refine rg rfl fun K j=>?_
  obtain⟨lv,uu,h⟩:=Ah h
  refine Al.pure Tryz.call139 (Hh uh uu) rfl fun _ hr=>?_
  subst hr
  refine nS ?_
  obtain⟨hk,h⟩:=Bx h
  (repeat refine rp ?_);try simp +decide -implicitDefEqProofs only[go_sem]
  refine j _ _ (bn (qn ?_));clear j K
  refine ar rfl (qn ?_)
  obtain rfl:=Aa h
  refine⟨(yg+1,(pe++[lv]),(pb+1)),⟨by dsimp only;omega,Aj la⟩,by dsimp only;omega,?_,?_⟩
  ·exact cuw zm
  exact cuw zm
 obtain rfl:=Bg la (fun hl=>by have:=Ako hc;omega)
 have h:=Bf hO29;try dsimp only at h
 have ag:f_.Winches.length=yg:=by have:=Ako hc;omega
 subst ag
 refine xt (qe (qe (bs (qn (sq (ar rfl (qn (rt ?_))))))))
 refine nSc Tryz.results138 ?_
 refine j _ _ (qn (sq ?_));clear j K
 refine rg rfl fun K j=>?_
 obtain⟨y33,hy33,h⟩:=Ah h
 refine Al.pure Tryz.call140 (Dr f_.Groomers hy33) rfl fun _ hr=>?_
 subst hr
 refine nS ?_
 refine j _ _ (qn (sq ?_));clear j K
 refine rg rfl fun K j=>?_
 obtain⟨qx,hy34,h⟩:=Ah h
 refine Al.row Tryz.call141 (D3 f_.Status hy34) rfl 14 rfl ?_
 (try simp +decide -implicitDefEqProofs only[go_sem,Aky])
 refine j _ _ (qn (sq ?_));clear j K
 refine ar rfl (qn (rt ?_))
 refine nSc Tryz.results57 ?_
 refine j _ _ (qn (sq ?_))
 refine ar rfl (qn (sq (sq ?_)))
 refine rg rfl fun K j=>?_
 intro hm
 refine j _ _ (qn (bk ?_))
 refine AWP.ghost 6 1 rfl (by decide) ?_
 obtain⟨o38,jj,hO38⟩:=Ah h
 clear h
 refine AWP.Bw (ι:=Nat×((List A4)×(List Int))×(Nat×Nat)) (fun zz=>[(1,.ptr 0 0),(2,.ptr 1 0),(4,.sl 1 (y2.map Bb)),(5,.ptr 15 0),(6,.own 16 zz.2.2.2 0 zz.2.1.2.length),(16,.own 14 zz.2.2.1 0 zz.2.1.1.length),(17,.int .i64 ((qx.length:Nat):Int)),(18,.int .i64 ((zz.1:Nat):Int))]) (fun zz=>[.box [.sl 2 (f_.Map.Nodes.map A5),.sl 8 (f_.Map.Lifts.map A6),.sl 7 (f_.Map.Runs.map Ba),.sl 1 (f_.Map.Bases.map Bb),.sl 2 (f_.Lifts.map Av),.sl 4 (f_.Closures.map Au),.sl 4 (f_.Patrol.Bl.map Aq),.sl 3 (f_.Patrol.Hazards.map Ay),.sl 3 (f_.Surfaces.map A1),.sl 5 (f_.Packs.map Az),.sl 6 (f_.Slides.map A3),.sl 7 (f_.Bulletin.map Ar),.sl 7 (f_.Missions.map Ap),.sl 4 (f_.Winches.map Ak),.sl 8 (f_.Groomers.map Ax),.sl 3 (f_.Status.map Aw),.int .i64 f_.Depth,.int .i64 f_.Time],.box [.nils,.nils,.nils,.nils,.nils,.nils,.nils,.nils,.nils,.nils,.nils,.nils,.nils,.nils,.nils,.nils,.int .i64 0,.int .i64 0],.gone,.gone,.gone,.gone,.gone,.gone,.gone,.gone,.row fx 4 (jo.map Aq),.row iq 6 (ir.map A3),.row df 7 (da.map Ar),.row pb 4 (pe.map Ak),.row zz.2.2.1 3 (zz.2.1.1.map Aw),.box [.sl 2 (y3.map A5),.sl 8 (y4.map A6),.sl 7 (y5.map Ba),.sl 1 (y6.map Bb),.sl 2 (y7.map Av),.sl 4 (y8.map Au),.own 10 fx 0 jo.length,.sl 3 (jy.map Ay),.sl 3 (lk.map A1),.sl 5 (oh.map Az),.own 11 iq 0 ir.length,.own 12 df 0 da.length,.sl 7 (y27.map Ap),.own 13 pb 0 pe.length,.sl 8 (y33.map Ax),.own 14 zz.2.2.1 0 zz.2.1.1.length,.int .i64 f_.Depth,.int .i64 f_.Time],.row zz.2.2.2 1 (zz.2.1.2.map Bb)]) (fun zz=>zz.1≤qx.length∧An (E0 f_ y2) zz.1 ((qx).drop zz.1) zz.2.1=some o38) (fun zz=>qx.length - zz.1) (0,(qx,[]),(0,0)) ⟨Nat.zero_le _,jj⟩ cu cu (fun x=>⟨rfl,rfl,rfl⟩) ?_
 clear jj
 rintro⟨ll,⟨t16_35,closed37⟩,⟨im,oy⟩⟩ ⟨hk38,jj⟩
 dsimp only at hk38 jj ⊢
 refine sq (ar rfl (qn (sq ?_)))
 refine AWP.cond (Am (fun hc=>?_) (fun hc=>?_))
 rotate_left
 ·obtain rfl:=Bg jj (fun hl=>by have:=Ako hc;omega)
  have h:=Bf hO38;try dsimp only at h
  have ag:qx.length=ll:=by have:=Ako hc;omega
  subst ag
  refine xt (qe (qe (bs (qn (sq (ar rfl (qn (rt ?_))))))))
  cases h;exact en Tryz.results27
 have hlt38:ll<qx.length:=by have:=Akp hc;omega
 obtain⟨uf,b38,yv,h,jj⟩:=Bc jj hlt38
 have hx38:=A9 yv
 have nt:=wk (k:=ll) (by omega)
 unfold E0 at h;try dsimp only at h
 refine sk (qn (sq (bk (sq (rg rfl fun K j=>?_)))))
 obtain⟨et,ki,h⟩:=Ah h
 refine Lb ki (by first | rfl | exact(Cy _).symm | (simp only[Akw,List.length_cons,List.length_nil,List.length_set,Akx]<;>omega)) ?_
 refine nS ?_
 refine Dm.ofNat (f:=Aw) (l:=t16_35) (n:=ll) ki ?_
 refine nS ?_
 refine j _ _ (qn (sq ?_))
 refine rg rfl fun K j=>?_
 revert h;refine gt (fun hc h=>?_) fun hc h=>?_
 ·obtain⟨y42,hy42,h⟩:=Ah h
  refine Al.pure Tryz.call54 (Bt y2 et.Run hy42) rfl fun _ hr=>?_
  subst hr
  refine nS ?_
  refine j _ _ (qn ?_)
  revert h;refine ca rfl (fun hc h=>?_) fun hc h=>?_
  ·refine sq ?_
   refine rg rfl fun K j=>?_
   refine Lb ki (by first | rfl | exact(Cy _).symm | (simp only[Akw,List.length_cons,List.length_nil,List.length_set,Akx]<;>omega)) ?_
   refine nS ?_
   refine Dm.ofNat (f:=Aw) (l:=t16_35) (n:=ll) ki ?_
   have vp:=Uo (y:=(A4.mk et.Run false et.Since)) ki
   refine nS ?_
   refine j _ _ (qn (sq ?_))
   refine rg rfl fun K j=>?_
   refine Lb vp (by first | rfl | exact(Cy _).symm | (simp only[Akw,List.length_cons,List.length_nil,List.length_set,Akx]<;>omega)) ?_
   refine nS ?_
   refine Dm.ofNat (f:=Aw) (l:=(t16_35.set ll (A4.mk et.Run false et.Since))) (n:=ll) vp ?_
   have hs44:=Uo (y:=(A4.mk et.Run false f_.Time)) vp
   refine nS ?_
   refine j _ _ (qn ?_)
   refine rg rfl fun K j=>?_
   obtain⟨hk,h⟩:=Bx h
   (repeat refine rp ?_);try simp +decide -implicitDefEqProofs only[go_sem]
   refine j _ _ (bn (qn ?_))
   refine ar rfl (qn ?_)
   obtain rfl:=Aa h
   refine⟨(ll+1,(((t16_35.set ll (A4.mk et.Run false et.Since)).set ll (A4.mk et.Run false f_.Time)),(closed37++[et.Run])),(im,(oy+1))),⟨by dsimp only;omega,Aj jj⟩,by dsimp only;omega,?_,?_⟩
   ·exact cuw nt
   exact cuw nt
  refine sk (bn (qn (ar rfl (qn ?_))))
  obtain rfl:=Aa h
  refine⟨(ll+1,(t16_35,closed37),(im,oy)),⟨by dsimp only;omega,Aj jj⟩,by dsimp only;omega,?_,?_⟩
  ·exact cuw nt
  exact cuw nt
 refine j _ _ (qn ?_)
 refine AWP.cond (Bj ?_)
 refine sk (bn (qn (ar rfl (qn ?_))))
 obtain rfl:=Aa h
 refine⟨(ll+1,(t16_35,closed37),(im,oy)),⟨by dsimp only;omega,Aj jj⟩,by dsimp only;omega,?_,?_⟩
 ·exact cuw nt
 exact cuw nt
def P8:Option (Bool):=
 (Tr).bind fun y1=>(Ee y1 1).bind fun y2=>(Ee y1 2).bind fun y3=>(Gr y1).bind fun y4=>(bif (decide (y4≠0))then some false else(bif (decide (y2.2≠16))then some false else(bif (decide (y3.2≠16))then some false else(Fi y1 [(1:Int),2]).bind fun y5=>(O7 y5 [(1:Int),2]).bind fun y6=>(bif (!y6)then some false else(C6 (Af.mk y1.Map y1.Lifts y1.Closures y1.Patrol y1.Surfaces y1.Packs y1.Slides y1.Bulletin y1.Missions y1.Winches y1.Groomers [(A4.mk 1 true 0),(A4.mk 2 true 0)] y1.Depth y1.Time)).bind fun y7=>(bif (!y7)then some false else(De (Af.mk y1.Map y1.Lifts y1.Closures y1.Patrol y1.Surfaces y1.Packs y1.Slides y1.Bulletin y1.Missions y1.Winches y1.Groomers [(A4.mk 1 true 0),(A4.mk 2 true 0)] y1.Depth y1.Time)).bind fun y8=>(O7 y8 [(1:Int),2]).bind fun y9=>(bif (!y9)then some false else(F9 (Af.mk y1.Map y1.Lifts [(Bn.mk 1 2 1 0)] y1.Patrol y1.Surfaces y1.Packs y1.Slides y1.Bulletin y1.Missions y1.Winches y1.Groomers [(A4.mk 1 true 0),(A4.mk 2 true 0)] y1.Depth y1.Time)).bind fun cf=>(C6 (Af.mk y1.Map y1.Lifts [(Bn.mk 1 2 1 0)] y1.Patrol y1.Surfaces y1.Packs y1.Slides y1.Bulletin y1.Missions y1.Winches y1.Groomers [(A4.mk 1 true 0),(A4.mk 2 true 0)] y1.Depth y1.Time)).bind fun dd=>(bif dd then some false else(O7 cf.2 [(1:Int),2]).bind fun dm=>(bif (!dm)then some false else(De cf.1).bind fun er=>(bif (decide (((er.length:Nat):Int)≠0))then some false else(Cw (Af.mk y1.Map y1.Lifts y1.Closures (B9.mk y1.Patrol.Bl [(C4.mk 1 1 0)]) y1.Surfaces y1.Packs y1.Slides y1.Bulletin y1.Missions y1.Winches y1.Groomers y1.Status y1.Depth y1.Time) [(1:Int),2] 1).bind fun jy=>(bif (decide (jy=14))then (Cw (Af.mk y1.Map y1.Lifts y1.Closures y1.Patrol y1.Surfaces y1.Packs y1.Slides y1.Bulletin y1.Missions y1.Winches y1.Groomers y1.Status 1001 y1.Time) [(1:Int),2] 1).bind fun lk=>(bif (decide (lk=5))then (Cw (Af.mk y1.Map y1.Lifts y1.Closures y1.Patrol y1.Surfaces y1.Packs [(Be.mk 1 [(1:Int)] [] 100 100 (-1))] y1.Bulletin y1.Missions y1.Winches y1.Groomers y1.Status y1.Depth y1.Time) [(1:Int),2] 1).bind fun oh=>(bif (decide (oh=10))then (Cw y1 [(1:Int),2] 9).bind fun xw=>(bif (decide (xw=8))then (Cw y1 [(1:Int),2] 1).bind fun xd=>some (decide (xd=0))else some false)else some false)else some false)else some false))))))))))
theorem cY {r:Bool} (h:P8=some r):Ad Tryz.prog 10 [] (·= .bool r):=by
 refine Ad.nle (Ad.intro Tryz.func10 rfl rfl (by show _≤120;simp) ?_)
 unfold P8 at h
 refine nS (sq ?_)
 refine ar rfl (qn (sq ?_))
 refine rg rfl fun K j=>?_
 obtain⟨y1,bp,h⟩:=Ah h
 refine Al.pure Tryz.call36 (Zq bp) rfl fun _ hr=>?_
 subst hr
 refine nS ?_
 refine j _ _ (qn (sq ?_))
 refine rg rfl fun K j=>?_
 obtain⟨y2,dn,h⟩:=Ah h
 refine Al.pure Tryz.call24 (Mc y1 1 dn) rfl fun _ hr=>?_
 subst hr
 refine nS ?_
 refine j _ _ (qn (sq ?_))
 refine rg rfl fun K j=>?_
 obtain⟨y3,bx,h⟩:=Ah h
 refine Al.pure Tryz.call24 (Mc y1 2 bx) rfl fun _ hr=>?_
 subst hr
 refine nS ?_
 refine j _ _ (qn (sq (sq ?_)))
 refine rg rfl fun K j=>?_
 obtain⟨y4,cn,h⟩:=Ah h
 refine Al.pure Tryz.call12 (W6 y1 cn) rfl fun _ hr=>?_
 subst hr
 refine nS ?_
 revert h;refine gf (fun hc h=>?_) fun hc h=>?_
 rotate_left
 ·refine j _ _ (qn ?_)
  refine AWP.cond (Ai ?_)
  refine sq (ar rfl (qn (rt (qr ?_))))
  cases h;exact en Tryz.results10
 revert h;refine gf (fun hc h=>?_) fun hc h=>?_
 rotate_left
 ·refine j _ _ (qn ?_)
  refine AWP.cond (Ai ?_)
  refine sq (ar rfl (qn (rt (qr ?_))))
  cases h;exact en Tryz.results10
 revert h;refine gf (fun hc h=>?_) fun hc h=>?_
 rotate_left
 ·refine j _ _ (qn ?_)
  refine AWP.cond (Ai ?_)
  refine sq (ar rfl (qn (rt (qr ?_))))
  cases h;exact en Tryz.results10
 obtain⟨y5,db,h⟩:=Ah h
 refine Al.kD Tryz.call29 (P9 y1 [(1:Int),2] db) (by simp +decide -implicitDefEqProofs only[go_sem]) fun _ hr=>?_
 subst hr
 refine nS ?_
 obtain⟨y6,ey,h⟩:=Ah h
 refine Al.snap Tryz.call15 (Ql y5 [(1:Int),2] ey) (by simp +decide -implicitDefEqProofs only[go_sem]) (by rintro _ rfl;rfl) fun _ hr=>?_
 subst hr
 refine nS ?_
 refine j _ _ (qn ?_)
 revert h;refine ca rfl (fun hc h=>?_) fun hc h=>?_
 ·refine sq (ar rfl (qn (rt (qr ?_))))
  cases h;exact en Tryz.results10
 refine sk (qn (sq (ar rfl (qn (sq ?_)))))
 refine ar rfl (qn (sq (sq ?_)))
 refine rg rfl fun K j=>?_
 obtain⟨y7,eo,h⟩:=Ah h
 refine Al.snap Tryz.call22 (E1 (Af.mk y1.Map y1.Lifts y1.Closures y1.Patrol y1.Surfaces y1.Packs y1.Slides y1.Bulletin y1.Missions y1.Winches y1.Groomers [(A4.mk 1 true 0),(A4.mk 2 true 0)] y1.Depth y1.Time) eo) (by simp +decide -implicitDefEqProofs only[go_sem]) (by rintro _ rfl;rfl) fun _ hr=>?_
 subst hr
 refine nS ?_
 revert h;refine gf (fun hc h=>?_) fun hc h=>?_
 rotate_left
 ·refine j _ _ (qn ?_)
  refine AWP.cond (Ai ?_)
  refine sq (ar rfl (qn (rt (qr ?_))))
  cases h;exact en Tryz.results10
 obtain⟨y8,fp,h⟩:=Ah h
 refine Al.kD Tryz.call20 (Qx (Af.mk y1.Map y1.Lifts y1.Closures y1.Patrol y1.Surfaces y1.Packs y1.Slides y1.Bulletin y1.Missions y1.Winches y1.Groomers [(A4.mk 1 true 0),(A4.mk 2 true 0)] y1.Depth y1.Time) fp) (by simp +decide -implicitDefEqProofs only[go_sem]) fun _ hr=>?_
 subst hr
 refine nS ?_
 obtain⟨y9,ic,h⟩:=Ah h
 refine Al.snap Tryz.call15 (Ql y8 [(1:Int),2] ic) (by simp +decide -implicitDefEqProofs only[go_sem]) (by rintro _ rfl;rfl) fun _ hr=>?_
 subst hr
 refine nS ?_
 refine j _ _ (qn ?_)
 revert h;refine ca rfl (fun hc h=>?_) fun hc h=>?_
 ·refine sq (ar rfl (qn (rt (qr ?_))))
  cases h;exact en Tryz.results10
 refine sk (qn (sq (ar rfl (qn (sq ?_)))))
 refine AWP.l4 ?_
 refine ALP.cut 1 (ALP.part rfl ?_);intro K j
 refine nS ?_
 refine j _ _ ?_
 refine ALP.sub (Sub.Ea 8 rfl) ?_
 refine nS ?_
 refine ALP.sub (Sub.Ea 6 rfl) ?_
 refine nS ?_
 refine ALP.last rfl ?_;intro K j
 refine nS ?_
 obtain⟨cf,dt,h⟩:=Ah h
 refine Al.pure Tryz.call27 (O2 (Af.mk y1.Map y1.Lifts [(Bn.mk 1 2 1 0)] y1.Patrol y1.Surfaces y1.Packs y1.Slides y1.Bulletin y1.Missions y1.Winches y1.Groomers [(A4.mk 1 true 0),(A4.mk 2 true 0)] y1.Depth y1.Time) dt) rfl fun _ hr=>?_
 subst hr
 refine nS ?_
 refine j _ _ (qn (sq (sq ?_)))
 refine rg rfl fun K j=>?_
 obtain⟨dd,eh,h⟩:=Ah h
 refine Al.pure Tryz.call22 (E1 (Af.mk y1.Map y1.Lifts [(Bn.mk 1 2 1 0)] y1.Patrol y1.Surfaces y1.Packs y1.Slides y1.Bulletin y1.Missions y1.Winches y1.Groomers [(A4.mk 1 true 0),(A4.mk 2 true 0)] y1.Depth y1.Time) eh) rfl fun _ hr=>?_
 subst hr
 refine nS ?_
 revert h;refine gf (fun hc h=>?_) fun hc h=>?_
 rotate_left
 ·refine j _ _ (qn ?_)
  refine AWP.cond (Ai ?_)
  refine sq (ar rfl (qn (rt (qr ?_))))
  cases h;exact en Tryz.results10
 obtain⟨dm,ez,h⟩:=Ah h
 refine Al.snap Tryz.call15 (Ql cf.2 [(1:Int),2] ez) (by simp +decide -implicitDefEqProofs only[go_sem]) (by rintro _ rfl;rfl) fun _ hr=>?_
 subst hr
 refine nS ?_
 revert h;refine gf (fun hc h=>?_) fun hc h=>?_
 rotate_left
 ·refine j _ _ (qn ?_)
  refine AWP.cond (Ai ?_)
  refine sq (ar rfl (qn (rt (qr ?_))))
  cases h;exact en Tryz.results10
 obtain⟨er,iu,h⟩:=Ah h
 refine Al.pure Tryz.call20 (E7 cf.1 iu) rfl fun _ hr=>?_
 subst hr
 refine nS ?_
 intro hm
 refine j _ _ (qn ?_)
 revert h;refine ca rfl (fun hc h=>?_) fun hc h=>?_
 ·refine sq (ar rfl (qn (rt (qr ?_))))
  cases h;exact en Tryz.results10
 refine sk (qn (sq (ar rfl (qn (sq ?_)))))
 refine ar rfl (qn (sq ?_))
 refine ar rfl (qn (sq ?_))
 refine ar rfl (qn (sq ?_))
 refine ar rfl (qn (sq ?_))
 refine AWP.l4 ?_
 refine ALP.cut 2 (ALP.part rfl ?_);intro K j
 refine nS ?_
 refine j _ _ ?_
 refine ALP.sub (Sub.Ea 14 rfl) ?_
 refine nS ?_
 refine ALP.last rfl ?_;intro K j
 refine nS ?_
 refine j _ _ (qn ?_)
 refine AWP.sub (Sub.denil 15 ([(Be.mk (1:Int) [(1:Int)] [] (100:Int) (100:Int) (-1:Int))].map A3) rfl (by simp +decide -implicitDefEqProofs only[go_sem,Eg,Ac.int.injEq,Int.natCast_zero,List.replicate_zero,List.length_take,List.length_drop,Ac.own.injEq,reduceCtorEq,Int.reduceAdd,Sl,Sm,Pd,Sk,Pc,xN,Pc,Pd])) ?_
 refine nS (sq ?_)
 refine ar rfl (qn (sq ?_))
 refine rg rfl fun K j=>?_
 obtain⟨jy,pj,h⟩:=Ah h
 refine Al.snap Tryz.call18 (Dt (Af.mk y1.Map y1.Lifts y1.Closures (B9.mk y1.Patrol.Bl [(C4.mk 1 1 0)]) y1.Surfaces y1.Packs y1.Slides y1.Bulletin y1.Missions y1.Winches y1.Groomers y1.Status y1.Depth y1.Time) [(1:Int),2] 1 pj) (by simp +decide -implicitDefEqProofs only[go_sem]) (by rintro _ rfl;rfl) fun _ hr=>?_
 subst hr
 refine nS ?_
 revert h;refine gt (fun hc h=>?_) fun hc h=>?_
 rotate_left
 ·refine j _ _ (qn (rt ?_))
  cases h;exact en Tryz.results10
 obtain⟨lk,ph,h⟩:=Ah h
 refine Al.snap Tryz.call18 (Dt (Af.mk y1.Map y1.Lifts y1.Closures y1.Patrol y1.Surfaces y1.Packs y1.Slides y1.Bulletin y1.Missions y1.Winches y1.Groomers y1.Status 1001 y1.Time) [(1:Int),2] 1 ph) (by simp +decide -implicitDefEqProofs only[go_sem]) (by rintro _ rfl;rfl) fun _ hr=>?_
 subst hr
 refine nS ?_
 revert h;refine gt (fun hc h=>?_) fun hc h=>?_
 rotate_left
 ·refine j _ _ (qn (rt ?_))
  cases h;exact en Tryz.results10
 obtain⟨oh,pg,h⟩:=Ah h
 refine Al.snap Tryz.call18 (Dt (Af.mk y1.Map y1.Lifts y1.Closures y1.Patrol y1.Surfaces y1.Packs [(Be.mk 1 [(1:Int)] [] 100 100 (-1))] y1.Bulletin y1.Missions y1.Winches y1.Groomers y1.Status y1.Depth y1.Time) [(1:Int),2] 1 pg) (by simp +decide -implicitDefEqProofs only[go_sem]) (by rintro _ rfl;rfl) fun _ hr=>?_
 subst hr
 refine nS ?_
 revert h;refine gt (fun hc h=>?_) fun hc h=>?_
 ·obtain⟨xw,uz,h⟩:=Ah h
  refine Al.snap Tryz.call18 (Dt y1 [(1:Int),2] 9 uz) (by simp +decide -implicitDefEqProofs only[go_sem]) (by rintro _ rfl;rfl) fun _ hr=>?_
  subst hr
  refine nS ?_
  revert h;refine gt (fun hc h=>?_) fun hc h=>?_
  ·obtain⟨xd,uy,h⟩:=Ah h
   refine Al.snap Tryz.call18 (Dt y1 [(1:Int),2] 1 uy) (by simp +decide -implicitDefEqProofs only[go_sem]) (by rintro _ rfl;rfl) fun _ hr=>?_
   subst hr
   refine nS ?_
   refine j _ _ (qn (rt ?_))
   cases h;exact en Tryz.results10
  refine j _ _ (qn (rt ?_))
  cases h;exact en Tryz.results10
 refine j _ _ (qn (rt ?_))
 cases h;exact en Tryz.results10
def Lc (f_:Af):Option (Bool):=
 (bif (decide (12<((f_.Map.Nodes.length:Nat):Int)))then some false else(bif (decide (12<((f_.Map.Lifts.length:Nat):Int)))then some false else(bif (decide (12<((f_.Map.Runs.length:Nat):Int)))then some false else(bif (decide (12<((f_.Map.Bases.length:Nat):Int)))then some false else(bif (decide (12<((f_.Lifts.length:Nat):Int)))then some false else(bif (decide (12<((f_.Closures.length:Nat):Int)))then some false else(bif (decide (12<((f_.Patrol.Bl.length:Nat):Int)))then some false else(bif (decide (12<((f_.Patrol.Hazards.length:Nat):Int)))then some false else(bif (decide (12<((f_.Surfaces.length:Nat):Int)))then some false else(bif (decide (12<((f_.Packs.length:Nat):Int)))then some false else(bif (decide (12<((f_.Slides.length:Nat):Int)))then some false else(bif (decide (12<((f_.Bulletin.length:Nat):Int)))then some false else(bif (decide (((f_.Missions.length:Nat):Int)≤12))then (bif (decide (((f_.Winches.length:Nat):Int)≤12))then (bif (decide (((f_.Groomers.length:Nat):Int)≤12))then some (decide (((f_.Status.length:Nat):Int)≤12))else some false)else some false)else some false)))))))))))))
theorem cW (f_:Af) {r:Bool} (h:Lc f_=some r):Ad Tryz.prog 11 [.agg (Ce f_)] (·= .bool r):=by
 refine Ad.nle (Ad.intro Tryz.func11 rfl rfl (by show _≤99;simp) ?_)
 unfold Lc at h
 refine nS (sq ?_)
 refine ar rfl (qn (sq (sq ?_)))
 refine rg rfl fun K j=>?_
 intro hm
 revert h;refine gf (fun hc h=>?_) fun hc h=>?_
 rotate_left
 ·refine j _ _ (qn ?_)
  refine AWP.cond (Ai ?_)
  refine sq (ar rfl (qn (rt (qr ?_))))
  cases h;exact en Tryz.results11
 intro hm
 revert h;refine gf (fun hc h=>?_) fun hc h=>?_
 rotate_left
 ·refine j _ _ (qn ?_)
  refine AWP.cond (Ai ?_)
  refine sq (ar rfl (qn (rt (qr ?_))))
  cases h;exact en Tryz.results11
 intro hm
 revert h;refine gf (fun hc h=>?_) fun hc h=>?_
 rotate_left
 ·refine j _ _ (qn ?_)
  refine AWP.cond (Ai ?_)
  refine sq (ar rfl (qn (rt (qr ?_))))
  cases h;exact en Tryz.results11
 intro hm
 revert h;refine gf (fun hc h=>?_) fun hc h=>?_
 rotate_left
 ·refine j _ _ (qn ?_)
  refine AWP.cond (Ai ?_)
  refine sq (ar rfl (qn (rt (qr ?_))))
  cases h;exact en Tryz.results11
 intro hm
 revert h;refine gf (fun hc h=>?_) fun hc h=>?_
 rotate_left
 ·refine j _ _ (qn ?_)
  refine AWP.cond (Ai ?_)
  refine sq (ar rfl (qn (rt (qr ?_))))
  cases h;exact en Tryz.results11
 intro hm
 refine j _ _ (qn ?_)
 revert h;refine ca rfl (fun hc h=>?_) fun hc h=>?_
 ·refine sq (ar rfl (qn (rt (qr ?_))))
  cases h;exact en Tryz.results11
 refine sk (qn (sq (sq (rg rfl fun K j=>?_))))
 intro hm
 revert h;refine gf (fun hc h=>?_) fun hc h=>?_
 rotate_left
 ·refine j _ _ (qn ?_)
  refine AWP.cond (Ai ?_)
  refine sq (ar rfl (qn (rt (qr ?_))))
  cases h;exact en Tryz.results11
 intro hm
 revert h;refine gf (fun hc h=>?_) fun hc h=>?_
 rotate_left
 ·refine j _ _ (qn ?_)
  refine AWP.cond (Ai ?_)
  refine sq (ar rfl (qn (rt (qr ?_))))
  cases h;exact en Tryz.results11
 intro hm
 revert h;refine gf (fun hc h=>?_) fun hc h=>?_
 rotate_left
 ·refine j _ _ (qn ?_)
  refine AWP.cond (Ai ?_)
  refine sq (ar rfl (qn (rt (qr ?_))))
  cases h;exact en Tryz.results11
 intro hm
 revert h;refine gf (fun hc h=>?_) fun hc h=>?_
 rotate_left
 ·refine j _ _ (qn ?_)
  refine AWP.cond (Ai ?_)
  refine sq (ar rfl (qn (rt (qr ?_))))
  cases h;exact en Tryz.results11
 intro hm
 revert h;refine gf (fun hc h=>?_) fun hc h=>?_
 rotate_left
 ·refine j _ _ (qn ?_)
  refine AWP.cond (Ai ?_)
  refine sq (ar rfl (qn (rt (qr ?_))))
  cases h;exact en Tryz.results11
 intro hm
 refine j _ _ (qn ?_)
 revert h;refine ca rfl (fun hc h=>?_) fun hc h=>?_
 ·refine sq (ar rfl (qn (rt (qr ?_))))
  cases h;exact en Tryz.results11
 refine sk (qn (sq (rg rfl fun K j=>?_)))
 intro hm
 revert h;refine gt (fun hc h=>?_) fun hc h=>?_
 ·intro hm
  revert h;refine gt (fun hc h=>?_) fun hc h=>?_
  ·intro hm
   revert h;refine gt (fun hc h=>?_) fun hc h=>?_
   ·intro hm
    refine j _ _ (qn (rt ?_))
    cases h;exact en Tryz.results11
   refine j _ _ (qn (rt ?_))
   cases h;exact en Tryz.results11
  refine j _ _ (qn (rt ?_))
  cases h;exact en Tryz.results11
 refine j _ _ (qn (rt ?_))
 cases h;exact en Tryz.results11
def Fg (n_:Int) (lo:Int) (hi:Int):Option (Bool):=
 (bif (decide (lo≤n_))then some (decide (n_≤hi))else some false)
theorem Dl (n_:Int) (lo:Int) (hi:Int) {r:Bool} (h:Fg n_ lo hi=some r):Ad Tryz.prog 254 [.int .i64 n_,.int .i64 lo,.int .i64 hi] (·= .bool r):=by
 refine Ad.nle (Ad.intro Tryz.func254 rfl rfl (by show _≤15;simp) ?_)
 unfold Fg at h
 refine nS (sq ?_)
 refine ar rfl (qn (sq ?_))
 refine rg rfl fun K j=>?_
 revert h;refine gt (fun hc h=>?_) fun hc h=>?_
 ·refine j _ _ (qn (rt ?_))
  cases h;exact en Tryz.results254
 refine j _ _ (qn (rt ?_))
 cases h;exact en Tryz.results254
def Rw (l:List Cr) (k0:Nat) (ab:Cr) (sv:Unit):Option (Out (Unit) (Int)):=
 (Fg ab.ID 1 9999).bind fun y3=>(bif (!y3)then some (Out.ret 2)else (Fg ab.Alt 0 5000).bind fun y4=>(bif (!y4)then some (Out.ret 2)else (bif (decide (0<((k0:Nat):Int)))then (Dv l (IntKind.i64.wrap (((k0:Nat):Int) - 1))).bind fun ch=>(bif (decide (ab.ID≤ch.ID))then some (Out.ret 7)else some (Out.next ()))else some (Out.next ()))))
def Sy (l:List Cr):Option (Int):=
 (An (Rw l) 0 l ()).bind fun o0=>o0.on fun s0=>some 0
theorem cO (l:List Cr) {r:Int} (h:Sy l=some r):Ad Tryz.prog 177 [.sl 2 (l.map A5)] (·= .int .i64 r):=by
 refine Ad.nle (Ad.intro Tryz.func177 rfl rfl (by show _≤42;simp) ?_)
 unfold Sy at h
 refine nS (sq ?_)
 refine ar rfl (qn (sq (sq ?_)))
 refine ar rfl (qn (bk ?_))
 obtain⟨o0,aa,ae⟩:=Ah h
 clear h
 refine AWP.Bw (ι:=Nat×(Unit)×(Unit)) (fun zz=>[(0,.sl 2 (l.map A5)),(3,.int .i64 ((zz.1:Nat):Int))]) (fun zz=>[]) (fun zz=>zz.1≤l.length∧An (Rw l) zz.1 ((l).drop zz.1) zz.2.1=some o0) (fun zz=>l.length - zz.1) (0,(),()) ⟨Nat.zero_le _,aa⟩ cu cu (fun x=>⟨rfl,rfl,rfl⟩) ?_
 clear aa
 rintro⟨k0,⟨⟩,⟨⟩⟩ ⟨bg,aa⟩
 dsimp only at bg aa ⊢
 refine sq (sq (rg rfl fun K j=>?_))
 intro hm
 refine j _ _ (qn ?_)
 refine AWP.cond (Am (fun hc=>?_) (fun hc=>?_))
 rotate_left
 ·obtain rfl:=Bg aa (fun hl=>by have:=Ako hc;omega)
  have h:=Bf ae;try dsimp only at h
  have ag:l.length=k0:=by have:=Ako hc;omega
  subst ag
  refine xt (qe (qe (bs (qn (sq (ar rfl (qn (rt ?_))))))))
  cases h;exact en Tryz.results177
 have ah:k0<l.length:=by have:=Akp hc;omega
 obtain⟨ab,b0,aj,h,aa⟩:=Bc aa ah
 have aw:=A9 aj
 have ak:=wk (k:=k0) (by omega)
 unfold Rw at h;try dsimp only at h
 refine sk (qn (sq (bk (sq (sq (rg rfl fun K j=>?_))))))
 refine Bo.of (f:=A5) (l:=l) aw ?_
 refine nS ?_
 obtain⟨y3,bx,h⟩:=Ah h
 refine Al.pure Tryz.call254 (Dl ab.ID 1 9999 bx) rfl fun _ hr=>?_
 subst hr
 refine nS ?_
 revert h;refine gf (fun hc h=>?_) fun hc h=>?_
 rotate_left
 ·refine j _ _ (qn ?_)
  refine AWP.cond (Ai ?_)
  refine sq (ar rfl (qn (rt (qr (br (qr (qr ?_)))))))
  obtain rfl:=Aa h
  obtain rfl:=Ae aa
  replace h:=Ao ae
  refine br (qr ?_)
  cases h;exact en Tryz.results177
 refine Bo.of (f:=A5) (l:=l) aw ?_
 refine nS ?_
 obtain⟨y4,cn,h⟩:=Ah h
 refine Al.pure Tryz.call254 (Dl ab.Alt 0 5000 cn) rfl fun _ hr=>?_
 subst hr
 refine nS ?_
 refine j _ _ (qn ?_)
 revert h;refine ca rfl (fun hc h=>?_) fun hc h=>?_
 ·refine sq (ar rfl (qn (rt (qr (br (qr (qr ?_)))))))
  obtain rfl:=Aa h
  obtain rfl:=Ae aa
  replace h:=Ao ae
  refine br (qr ?_)
  cases h;exact en Tryz.results177
 refine sk (qn (sq ?_))
 refine AWP.draw Tryz.mixed (by kernel_rfl) ?_;intro K j
 refine nS ?_
 revert h;refine gt (fun hc h=>?_) fun hc h=>?_
 ·refine Bo.of (f:=A5) (l:=l) aw ?_
  refine nS ?_
  obtain⟨ch,gn,h⟩:=Ah h
  refine Bo.of (f:=A5) (l:=l) gn ?_
  refine nS ?_
  refine j _ _ _ (by kernel_rfl) ?_
  refine qn ?_
  revert h;refine ca rfl (fun hc h=>?_) fun hc h=>?_
  ·refine sq (ar rfl (qn (rt (br (qr (qr ?_))))))
   obtain rfl:=Aa h
   obtain rfl:=Ae aa
   replace h:=Ao ae
   refine br (qr ?_)
   cases h;exact en Tryz.results177
  refine sk (bn (qn (ar rfl (qn ?_))))
  obtain rfl:=Aa h
  refine⟨(k0+1,(),()),⟨by dsimp only;omega,Aj aa⟩,by dsimp only;omega,?_,?_⟩
  ·exact cuw ak
  exact cuw ak
 refine j _ _ _ (by kernel_rfl) ?_
 refine qn ?_
 refine AWP.cond (Bj ?_)
 refine sk (bn (qn (ar rfl (qn ?_))))
 obtain rfl:=Aa h
 refine⟨(k0+1,(),()),⟨by dsimp only;omega,Aj aa⟩,by dsimp only;omega,?_,?_⟩
 ·exact cuw ak
 exact cuw ak
def Tm (id_:Int) (k0:Nat) (ab:Cr) (sv:Unit):Option (Out (Unit) (Cr×Bool)):=
 (bif (decide (ab.ID=id_))then some (Out.ret (ab,true))else some (Out.next ()))
def Et (m:Bd) (id_:Int):Option (Cr×Bool):=
 (An (Tm id_) 0 m.Nodes ()).bind fun o0=>o0.on fun s0=>some ((Cr.mk 0 0),false)
theorem Qp (m:Bd) (id_:Int) {r:Cr×Bool} (h:Et m id_=some r):Ad Tryz.prog 98 [.agg (Ct m),.int .i64 id_] (·= .tuple [.agg (A5 r.1),.bool r.2]):=by
 refine Ad.nle (Ad.intro Tryz.func98 rfl rfl (by show _≤28;simp) ?_)
 unfold Et at h
 refine nS (sq ?_)
 refine ar rfl (qn (sq (sq ?_)))
 refine ar rfl (qn (bk ?_))
 obtain⟨o0,aa,ae⟩:=Ah h
 clear h
 refine AWP.Bw (ι:=Nat×(Unit)×(Unit)) (fun zz=>[(1,.int .i64 id_),(2,.ptr 0 0),(4,.ptr 1 0),(6,.int .i64 ((zz.1:Nat):Int))]) (fun zz=>[.box [.sl 2 (m.Nodes.map A5),.sl 8 (m.Lifts.map A6),.sl 7 (m.Runs.map Ba),.sl 1 (m.Bases.map Bb)],.box [.int .i64 0,.int .i64 0]]) (fun zz=>zz.1≤m.Nodes.length∧An (Tm id_) zz.1 ((m.Nodes).drop zz.1) zz.2.1=some o0) (fun zz=>m.Nodes.length - zz.1) (0,(),()) ⟨Nat.zero_le _,aa⟩ cu cu (fun x=>⟨rfl,rfl,rfl⟩) ?_
 clear aa
 rintro⟨k0,⟨⟩,⟨⟩⟩ ⟨bg,aa⟩
 dsimp only at bg aa ⊢
 refine sq (sq (rg rfl fun K j=>?_))
 intro hm
 refine j _ _ (qn ?_)
 refine AWP.cond (Am (fun hc=>?_) (fun hc=>?_))
 rotate_left
 ·obtain rfl:=Bg aa (fun hl=>by have:=Ako hc;omega)
  have h:=Bf ae;try dsimp only at h
  have ag:m.Nodes.length=k0:=by have:=Ako hc;omega
  subst ag
  refine xt (qe (qe (bs (qn (sq (ar rfl (qn (rt ?_))))))))
  cases h;exact en Tryz.results98
 have ah:k0<m.Nodes.length:=by have:=Akp hc;omega
 obtain⟨ab,b0,aj,h,aa⟩:=Bc aa ah
 have aw:=A9 aj
 have ak:=wk (k:=k0) (by omega)
 unfold Tm at h;try dsimp only at h
 refine sk (qn (sq (bk (sq (rg rfl fun K j=>?_)))))
 refine Bo.of (f:=A5) (l:=m.Nodes) aw ?_
 refine nS ?_
 refine j _ _ (qn ?_)
 revert h;refine ca rfl (fun hc h=>?_) fun hc h=>?_
 ·refine sq ?_
  refine rg rfl fun K j=>?_
  refine Bo.of (f:=A5) (l:=m.Nodes) aw ?_
  refine nS ?_
  refine j _ _ (qn (rt (br (qr (qr ?_)))))
  obtain rfl:=Aa h
  obtain rfl:=Ae aa
  replace h:=Ao ae
  refine br (qr ?_)
  cases h;exact en Tryz.results98
 refine sk (bn (qn (ar rfl (qn ?_))))
 obtain rfl:=Aa h
 refine⟨(k0+1,(),()),⟨by dsimp only;omega,Aj aa⟩,by dsimp only;omega,?_,?_⟩
 ·exact cuw ak
 exact cuw ak
def Gy (m:Bd) (from_:Int) (to_:Int):Option (Int):=
 (Et m from_).bind fun y1=>(Et m to_).bind fun y2=>(bif (!y1.2)then some 8 else(bif (!y2.2)then some 8 else(bif (decide (y2.1.Alt≤y1.1.Alt))then some 11 else some 0)))
theorem Ls (m:Bd) (from_:Int) (to_:Int) {r:Int} (h:Gy m from_ to_=some r):Ad Tryz.prog 255 [.agg (Ct m),.int .i64 from_,.int .i64 to_] (·= .int .i64 r):=by
 refine Ad.nle (Ad.intro Tryz.func255 rfl rfl (by show _≤34;simp) ?_)
 unfold Gy at h
 refine nS (sq ?_)
 refine ar rfl (qn (sq ?_))
 refine rg rfl fun K j=>?_
 obtain⟨y1,bp,h⟩:=Ah h
 refine Al.pure Tryz.call98 (Qp m from_ bp) rfl fun _ hr=>?_
 subst hr
 refine nS ?_
 refine j _ _ (qn (sq ?_))
 refine rg rfl fun K j=>?_
 obtain⟨y2,dn,h⟩:=Ah h
 refine Al.pure Tryz.call98 (Qp m to_ dn) rfl fun _ hr=>?_
 subst hr
 refine nS ?_
 refine j _ _ (qn (sq (sq ?_)))
 refine rg rfl fun K j=>?_
 revert h;refine gf (fun hc h=>?_) fun hc h=>?_
 ·refine j _ _ (qn ?_)
  revert h;refine ca rfl (fun hc h=>?_) fun hc h=>?_
  ·refine sq (ar rfl (qn (rt (qr ?_))))
   cases h;exact en Tryz.results255
  refine sk (qn (sq (sq (ar rfl (qn ?_)))))
  revert h;refine ca rfl (fun hc h=>?_) fun hc h=>?_
  ·refine sq (ar rfl (qn (rt (qr ?_))))
   cases h;exact en Tryz.results255
  refine sk (qn (sq (ar rfl (qn (rt ?_)))))
  cases h;exact en Tryz.results255
 refine j _ _ (qn ?_)
 refine AWP.cond (Ai ?_)
 refine sq (ar rfl (qn (rt (qr ?_))))
 cases h;exact en Tryz.results255
def H9 (x_:Co):Option (Bool):=
 nz x_.Spacing ((bif (decide ((Int.tmod (IntKind.i64.wrap (2*x_.Length)) x_.Spacing)=0))then nz x_.Spacing ((Fg (IntKind.i64.wrap (Int.tdiv (IntKind.i64.wrap (2*x_.Length)) x_.Spacing)) 1 200).bind fun y1=>some y1)else some false))
theorem Qu (x_:Co) {r:Bool} (h:H9 x_=some r):Ad Tryz.prog 256 [.agg (A6 x_)] (·= .bool r):=by
 refine Ad.nle (Ad.intro Tryz.func256 rfl rfl (by show _≤19;simp) ?_)
 unfold H9 at h
 refine nS (sq ?_)
 refine ar rfl (qn (sq ?_))
 refine rg rfl fun K j=>?_
 obtain⟨hk,h⟩:=oI h
 refine⟨hk,?_⟩
 revert h;refine gt (fun hc h=>?_) fun hc h=>?_
 ·obtain⟨hk,h⟩:=oI h
  refine⟨hk,?_⟩
  obtain⟨y1,bp,h⟩:=Ah h
  refine Al.pure Tryz.call254 (Dl (IntKind.i64.wrap (Int.tdiv (IntKind.i64.wrap (2*x_.Length)) x_.Spacing)) 1 200 bp) rfl fun _ hr=>?_
  subst hr
  refine nS ?_
  refine j _ _ (qn (rt ?_))
  cases h;exact en Tryz.results256
 refine j _ _ (qn (rt ?_))
 cases h;exact en Tryz.results256
def K8 (m:Bd) (k0:Nat) (ab:Co) (sv:Unit):Option (Out (Unit) (Int)):=
 (Fg ab.ID 1 9999).bind fun y3=>(bif (!y3)then some (Out.ret 2)else (Fg ab.Operator 1 8).bind fun y4=>(bif (!y4)then some (Out.ret 2)else (Fg ab.Length 10 6000).bind fun y5=>(bif (!y5)then some (Out.ret 2)else (Fg ab.Speed 500 12000).bind fun y6=>(bif (!y6)then some (Out.ret 2)else (Fg ab.Seats 1 16).bind fun y7=>(bif (!y7)then some (Out.ret 2)else (Fg ab.Spacing 5 1000).bind fun y8=>(bif (!y8)then some (Out.ret 2)else (bif (decide (0<((k0:Nat):Int)))then (Dv m.Lifts (IntKind.i64.wrap (((k0:Nat):Int) - 1))).bind fun ke=>(bif (decide (ab.ID≤ke.ID))then some (Out.ret 7)else (Gy m ab.From ab.To).bind fun cf=>(bif (decide (cf≠0))then some (Out.ret cf)else (H9 ab).bind fun dd=>(bif (!dd)then some (Out.ret 1)else some (Out.next ()))))else (Gy m ab.From ab.To).bind fun dm=>(bif (decide (dm≠0))then some (Out.ret dm)else (H9 ab).bind fun er=>(bif (!er)then some (Out.ret 1)else some (Out.next ()))))))))))
def P4 (m:Bd):Option (Int):=
 (An (K8 m) 0 m.Lifts ()).bind fun o0=>o0.on fun s0=>some 0
theorem cP (m:Bd) {r:Int} (h:P4 m=some r):Ad Tryz.prog 178 [.agg (Ct m)] (·= .int .i64 r):=by
 refine Ad.nle (Ad.intro Tryz.func178 rfl rfl (by show _≤78;simp) ?_)
 unfold P4 at h
 refine nS (sq ?_)
 refine ar rfl (qn (sq (sq ?_)))
 refine ar rfl (qn (bk ?_))
 obtain⟨o0,aa,ae⟩:=Ah h
 clear h
 refine AWP.Bw (ι:=Nat×(Unit)×(Unit)) (fun zz=>[(1,.ptr 0 0),(3,.int .i64 ((zz.1:Nat):Int))]) (fun zz=>[.box [.sl 2 (m.Nodes.map A5),.sl 8 (m.Lifts.map A6),.sl 7 (m.Runs.map Ba),.sl 1 (m.Bases.map Bb)]]) (fun zz=>zz.1≤m.Lifts.length∧An (K8 m) zz.1 ((m.Lifts).drop zz.1) zz.2.1=some o0) (fun zz=>m.Lifts.length - zz.1) (0,(),()) ⟨Nat.zero_le _,aa⟩ cu cu (fun x=>⟨rfl,rfl,rfl⟩) ?_
 clear aa
 rintro⟨k0,⟨⟩,⟨⟩⟩ ⟨bg,aa⟩
 dsimp only at bg aa ⊢
 refine sq (sq (rg rfl fun K j=>?_))
 intro hm
 refine j _ _ (qn ?_)
 refine AWP.cond (Am (fun hc=>?_) (fun hc=>?_))
 rotate_left
 ·obtain rfl:=Bg aa (fun hl=>by have:=Ako hc;omega)
  have h:=Bf ae;try dsimp only at h
  have ag:m.Lifts.length=k0:=by have:=Ako hc;omega
  subst ag
  refine xt (qe (qe (bs (qn (sq (ar rfl (qn (rt ?_))))))))
  cases h;exact en Tryz.results178
 have ah:k0<m.Lifts.length:=by have:=Akp hc;omega
 obtain⟨ab,b0,aj,h,aa⟩:=Bc aa ah
 have aw:=A9 aj
 have ak:=wk (k:=k0) (by omega)
 unfold K8 at h;try dsimp only at h
 refine sk (qn (sq (bk (sq (rg rfl fun K j=>?_)))))
 refine Bo.of (f:=A6) (l:=m.Lifts) aw ?_
 refine nS ?_
 refine j _ _ (qn (sq (sq ?_)))
 refine rg rfl fun K j=>?_
 obtain⟨y3,bx,h⟩:=Ah h
 refine Al.pure Tryz.call254 (Dl ab.ID 1 9999 bx) rfl fun _ hr=>?_
 subst hr
 refine nS ?_
 revert h;refine gf (fun hc h=>?_) fun hc h=>?_
 rotate_left
 ·refine j _ _ (qn ?_)
  refine AWP.cond (Ai ?_)
  refine sq (ar rfl (qn (rt (qr (br (qr (qr ?_)))))))
  obtain rfl:=Aa h
  obtain rfl:=Ae aa
  replace h:=Ao ae
  refine br (qr ?_)
  cases h;exact en Tryz.results178
 obtain⟨y4,cn,h⟩:=Ah h
 refine Al.pure Tryz.call254 (Dl ab.Operator 1 8 cn) rfl fun _ hr=>?_
 subst hr
 refine nS ?_
 revert h;refine gf (fun hc h=>?_) fun hc h=>?_
 rotate_left
 ·refine j _ _ (qn ?_)
  refine AWP.cond (Ai ?_)
  refine sq (ar rfl (qn (rt (qr (br (qr (qr ?_)))))))
  obtain rfl:=Aa h
  obtain rfl:=Ae aa
  replace h:=Ao ae
  refine br (qr ?_)
  cases h;exact en Tryz.results178
 obtain⟨y5,db,h⟩:=Ah h
 refine Al.pure Tryz.call254 (Dl ab.Length 10 6000 db) rfl fun _ hr=>?_
 subst hr
 refine nS ?_
 revert h;refine gf (fun hc h=>?_) fun hc h=>?_
 rotate_left
 ·refine j _ _ (qn ?_)
  refine AWP.cond (Ai ?_)
  refine sq (ar rfl (qn (rt (qr (br (qr (qr ?_)))))))
  obtain rfl:=Aa h
  obtain rfl:=Ae aa
  replace h:=Ao ae
  refine br (qr ?_)
  cases h;exact en Tryz.results178
 obtain⟨y6,ey,h⟩:=Ah h
 refine Al.pure Tryz.call254 (Dl ab.Speed 500 12000 ey) rfl fun _ hr=>?_
 subst hr
 refine nS ?_
 revert h;refine gf (fun hc h=>?_) fun hc h=>?_
 rotate_left
 ·refine j _ _ (qn ?_)
  refine AWP.cond (Ai ?_)
  refine sq (ar rfl (qn (rt (qr (br (qr (qr ?_)))))))
  obtain rfl:=Aa h
  obtain rfl:=Ae aa
  replace h:=Ao ae
  refine br (qr ?_)
  cases h;exact en Tryz.results178
 obtain⟨y7,eo,h⟩:=Ah h
 refine Al.pure Tryz.call254 (Dl ab.Seats 1 16 eo) rfl fun _ hr=>?_
 subst hr
 refine nS ?_
 revert h;refine gf (fun hc h=>?_) fun hc h=>?_
 rotate_left
 ·refine j _ _ (qn ?_)
  refine AWP.cond (Ai ?_)
  refine sq (ar rfl (qn (rt (qr (br (qr (qr ?_)))))))
  obtain rfl:=Aa h
  obtain rfl:=Ae aa
  replace h:=Ao ae
  refine br (qr ?_)
  cases h;exact en Tryz.results178
 obtain⟨y8,fp,h⟩:=Ah h
 refine Al.pure Tryz.call254 (Dl ab.Spacing 5 1000 fp) rfl fun _ hr=>?_
 subst hr
 refine nS ?_
 refine j _ _ (qn ?_)
 revert h;refine ca rfl (fun hc h=>?_) fun hc h=>?_
 ·refine sq (ar rfl (qn (rt (qr (br (qr (qr ?_)))))))
  obtain rfl:=Aa h
  obtain rfl:=Ae aa
  replace h:=Ao ae
  refine br (qr ?_)
  cases h;exact en Tryz.results178
 refine sk (qn (sq (sq ?_)))
 refine AWP.draw Tryz.mixed (by kernel_rfl) ?_;intro K j
 refine nS ?_
 revert h;refine gt (fun hc h=>?_) fun hc h=>?_
 ·obtain⟨ke,vd,h⟩:=Ah h
  refine Bo.of (f:=A6) (l:=m.Lifts) vd ?_
  refine nS ?_
  refine j _ _ _ (by kernel_rfl) ?_
  refine qn ?_
  revert h;refine ca rfl (fun hc h=>?_) fun hc h=>?_
  ·refine sq (ar rfl (qn (rt (qr (br (qr (qr ?_)))))))
   obtain rfl:=Aa h
   obtain rfl:=Ae aa
   replace h:=Ao ae
   refine br (qr ?_)
   cases h;exact en Tryz.results178
  refine sk (qn (sq (sq (rg rfl fun K j=>?_))))
  obtain⟨cf,dt,h⟩:=Ah h
  refine Al.pure Tryz.call255 (Ls m ab.From ab.To dt) rfl fun _ hr=>?_
  subst hr
  refine nS ?_
  refine j _ _ (qn (sq ?_))
  refine ar rfl (qn ?_)
  revert h;refine ca rfl (fun hc h=>?_) fun hc h=>?_
  ·refine sq (ar rfl (qn (rt (qr (br (qr (qr ?_)))))))
   obtain rfl:=Aa h
   obtain rfl:=Ae aa
   replace h:=Ao ae
   refine br (qr ?_)
   cases h;exact en Tryz.results178
  refine sk (qn (sq (rg rfl fun K j=>?_)))
  obtain⟨dd,eh,h⟩:=Ah h
  refine Al.pure Tryz.call256 (Qu ab eh) rfl fun _ hr=>?_
  subst hr
  refine nS ?_
  refine j _ _ (qn ?_)
  revert h;refine ca rfl (fun hc h=>?_) fun hc h=>?_
  ·refine sq (ar rfl (qn (rt (br (qr (qr ?_))))))
   obtain rfl:=Aa h
   obtain rfl:=Ae aa
   replace h:=Ao ae
   refine br (qr ?_)
   cases h;exact en Tryz.results178
  refine sk (bn (qn (ar rfl (qn ?_))))
  obtain rfl:=Aa h
  refine⟨(k0+1,(),()),⟨by dsimp only;omega,Aj aa⟩,by dsimp only;omega,?_,?_⟩
  ·exact cuw ak
  exact cuw ak
 refine j _ _ _ (by kernel_rfl) ?_
 refine qn ?_
 refine AWP.cond (Bj ?_)
 refine sk (qn (sq (sq (rg rfl fun K j=>?_))))
 obtain⟨dm,ez,h⟩:=Ah h
 refine Al.pure Tryz.call255 (Ls m ab.From ab.To ez) rfl fun _ hr=>?_
 subst hr
 refine nS ?_
 refine j _ _ (qn (sq ?_))
 refine ar rfl (qn ?_)
 revert h;refine ca rfl (fun hc h=>?_) fun hc h=>?_
 ·refine sq (ar rfl (qn (rt (qr (br (qr (qr ?_)))))))
  obtain rfl:=Aa h
  obtain rfl:=Ae aa
  replace h:=Ao ae
  refine br (qr ?_)
  cases h;exact en Tryz.results178
 refine sk (qn (sq (rg rfl fun K j=>?_)))
 obtain⟨er,iu,h⟩:=Ah h
 refine Al.pure Tryz.call256 (Qu ab iu) rfl fun _ hr=>?_
 subst hr
 refine nS ?_
 refine j _ _ (qn ?_)
 revert h;refine ca rfl (fun hc h=>?_) fun hc h=>?_
 ·refine sq (ar rfl (qn (rt (br (qr (qr ?_))))))
  obtain rfl:=Aa h
  obtain rfl:=Ae aa
  replace h:=Ao ae
  refine br (qr ?_)
  cases h;exact en Tryz.results178
 refine sk (bn (qn (ar rfl (qn ?_))))
 obtain rfl:=Aa h
 refine⟨(k0+1,(),()),⟨by dsimp only;omega,Aj aa⟩,by dsimp only;omega,?_,?_⟩
 ·exact cuw ak
 exact cuw ak
def Mp (m:Bd) (k0:Nat) (ab:Cq) (sv:Unit):Option (Out (Unit) (Int)):=
 (Fg ab.ID 1 9999).bind fun y3=>(bif (!y3)then some (Out.ret 2)else (Fg ab.Operator 1 8).bind fun y4=>(bif (!y4)then some (Out.ret 2)else (Fg ab.Grade 1 4).bind fun y5=>(bif (!y5)then some (Out.ret 2)else (Fg ab.Zone 1 32).bind fun y6=>(bif (!y6)then some (Out.ret 2)else (Fg ab.Length 10 20000).bind fun y7=>(bif (!y7)then some (Out.ret 2)else (bif (decide (0<((k0:Nat):Int)))then (Dv m.Runs (IntKind.i64.wrap (((k0:Nat):Int) - 1))).bind fun dz=>(bif (decide (ab.ID≤dz.ID))then some (Out.ret 7)else (Gy m ab.To ab.From).bind fun y9=>(bif (decide (y9≠0))then some (Out.ret y9)else some (Out.next ())))else (Gy m ab.To ab.From).bind fun cf=>(bif (decide (cf≠0))then some (Out.ret cf)else some (Out.next ()))))))))
def Rv (m:Bd):Option (Int):=
 (An (Mp m) 0 m.Runs ()).bind fun o0=>o0.on fun s0=>some 0
theorem fA (m:Bd) {r:Int} (h:Rv m=some r):Ad Tryz.prog 179 [.agg (Ct m)] (·= .int .i64 r):=by
 refine Ad.nle (Ad.intro Tryz.func179 rfl rfl (by show _≤69;simp) ?_)
 unfold Rv at h
 refine nS (sq ?_)
 refine ar rfl (qn (sq (sq ?_)))
 refine ar rfl (qn (bk ?_))
 obtain⟨o0,aa,ae⟩:=Ah h
 clear h
 refine AWP.Bw (ι:=Nat×(Unit)×(Unit)) (fun zz=>[(1,.ptr 0 0),(3,.int .i64 ((zz.1:Nat):Int))]) (fun zz=>[.box [.sl 2 (m.Nodes.map A5),.sl 8 (m.Lifts.map A6),.sl 7 (m.Runs.map Ba),.sl 1 (m.Bases.map Bb)]]) (fun zz=>zz.1≤m.Runs.length∧An (Mp m) zz.1 ((m.Runs).drop zz.1) zz.2.1=some o0) (fun zz=>m.Runs.length - zz.1) (0,(),()) ⟨Nat.zero_le _,aa⟩ cu cu (fun x=>⟨rfl,rfl,rfl⟩) ?_
 clear aa
 rintro⟨k0,⟨⟩,⟨⟩⟩ ⟨bg,aa⟩
 dsimp only at bg aa ⊢
 refine sq (sq (rg rfl fun K j=>?_))
 intro hm
 refine j _ _ (qn ?_)
 refine AWP.cond (Am (fun hc=>?_) (fun hc=>?_))
 rotate_left
 ·obtain rfl:=Bg aa (fun hl=>by have:=Ako hc;omega)
  have h:=Bf ae;try dsimp only at h
  have ag:m.Runs.length=k0:=by have:=Ako hc;omega
  subst ag
  refine xt (qe (qe (bs (qn (sq (ar rfl (qn (rt ?_))))))))
  cases h;exact en Tryz.results179
 have ah:k0<m.Runs.length:=by have:=Akp hc;omega
 obtain⟨ab,b0,aj,h,aa⟩:=Bc aa ah
 have aw:=A9 aj
 have ak:=wk (k:=k0) (by omega)
 unfold Mp at h;try dsimp only at h
 refine sk (qn (sq (bk (sq (rg rfl fun K j=>?_)))))
 refine Bo.of (f:=Ba) (l:=m.Runs) aw ?_
 refine nS ?_
 refine j _ _ (qn (sq (sq ?_)))
 refine rg rfl fun K j=>?_
 obtain⟨y3,bx,h⟩:=Ah h
 refine Al.pure Tryz.call254 (Dl ab.ID 1 9999 bx) rfl fun _ hr=>?_
 subst hr
 refine nS ?_
 revert h;refine gf (fun hc h=>?_) fun hc h=>?_
 rotate_left
 ·refine j _ _ (qn ?_)
  refine AWP.cond (Ai ?_)
  refine sq (ar rfl (qn (rt (qr (br (qr (qr ?_)))))))
  obtain rfl:=Aa h
  obtain rfl:=Ae aa
  replace h:=Ao ae
  refine br (qr ?_)
  cases h;exact en Tryz.results179
 obtain⟨y4,cn,h⟩:=Ah h
 refine Al.pure Tryz.call254 (Dl ab.Operator 1 8 cn) rfl fun _ hr=>?_
 subst hr
 refine nS ?_
 revert h;refine gf (fun hc h=>?_) fun hc h=>?_
 rotate_left
 ·refine j _ _ (qn ?_)
  refine AWP.cond (Ai ?_)
  refine sq (ar rfl (qn (rt (qr (br (qr (qr ?_)))))))
  obtain rfl:=Aa h
  obtain rfl:=Ae aa
  replace h:=Ao ae
  refine br (qr ?_)
  cases h;exact en Tryz.results179
 obtain⟨y5,db,h⟩:=Ah h
 refine Al.pure Tryz.call254 (Dl ab.Grade 1 4 db) rfl fun _ hr=>?_
 subst hr
 refine nS ?_
 revert h;refine gf (fun hc h=>?_) fun hc h=>?_
 rotate_left
 ·refine j _ _ (qn ?_)
  refine AWP.cond (Ai ?_)
  refine sq (ar rfl (qn (rt (qr (br (qr (qr ?_)))))))
  obtain rfl:=Aa h
  obtain rfl:=Ae aa
  replace h:=Ao ae
  refine br (qr ?_)
  cases h;exact en Tryz.results179
 obtain⟨y6,ey,h⟩:=Ah h
 refine Al.pure Tryz.call254 (Dl ab.Zone 1 32 ey) rfl fun _ hr=>?_
 subst hr
 refine nS ?_
 revert h;refine gf (fun hc h=>?_) fun hc h=>?_
 rotate_left
 ·refine j _ _ (qn ?_)
  refine AWP.cond (Ai ?_)
  refine sq (ar rfl (qn (rt (qr (br (qr (qr ?_)))))))
  obtain rfl:=Aa h
  obtain rfl:=Ae aa
  replace h:=Ao ae
  refine br (qr ?_)
  cases h;exact en Tryz.results179
 obtain⟨y7,eo,h⟩:=Ah h
 refine Al.pure Tryz.call254 (Dl ab.Length 10 20000 eo) rfl fun _ hr=>?_
 subst hr
 refine nS ?_
 refine j _ _ (qn ?_)
 revert h;refine ca rfl (fun hc h=>?_) fun hc h=>?_
 ·refine sq (ar rfl (qn (rt (qr (br (qr (qr ?_)))))))
  obtain rfl:=Aa h
  obtain rfl:=Ae aa
  replace h:=Ao ae
  refine br (qr ?_)
  cases h;exact en Tryz.results179
 refine sk (qn (sq (sq ?_)))
 refine AWP.draw Tryz.mixed (by kernel_rfl) ?_;intro K j
 refine nS ?_
 revert h;refine gt (fun hc h=>?_) fun hc h=>?_
 ·obtain⟨dz,lz,h⟩:=Ah h
  refine Bo.of (f:=Ba) (l:=m.Runs) lz ?_
  refine nS ?_
  refine j _ _ _ (by kernel_rfl) ?_
  refine qn ?_
  revert h;refine ca rfl (fun hc h=>?_) fun hc h=>?_
  ·refine sq (ar rfl (qn (rt (qr (br (qr (qr ?_)))))))
   obtain rfl:=Aa h
   obtain rfl:=Ae aa
   replace h:=Ao ae
   refine br (qr ?_)
   cases h;exact en Tryz.results179
  refine sk (qn (sq (rg rfl fun K j=>?_)))
  obtain⟨y9,ic,h⟩:=Ah h
  refine Al.pure Tryz.call255 (Ls m ab.To ab.From ic) rfl fun _ hr=>?_
  subst hr
  refine nS ?_
  refine j _ _ (qn (sq ?_))
  refine ar rfl (qn ?_)
  revert h;refine ca rfl (fun hc h=>?_) fun hc h=>?_
  ·refine sq (ar rfl (qn (rt (br (qr (qr ?_))))))
   obtain rfl:=Aa h
   obtain rfl:=Ae aa
   replace h:=Ao ae
   refine br (qr ?_)
   cases h;exact en Tryz.results179
  refine sk (bn (qn (ar rfl (qn ?_))))
  obtain rfl:=Aa h
  refine⟨(k0+1,(),()),⟨by dsimp only;omega,Aj aa⟩,by dsimp only;omega,?_,?_⟩
  ·exact cuw ak
  exact cuw ak
 refine j _ _ _ (by kernel_rfl) ?_
 refine qn ?_
 refine AWP.cond (Bj ?_)
 refine sk (qn (sq (rg rfl fun K j=>?_)))
 obtain⟨cf,dt,h⟩:=Ah h
 refine Al.pure Tryz.call255 (Ls m ab.To ab.From dt) rfl fun _ hr=>?_
 subst hr
 refine nS ?_
 refine j _ _ (qn (sq ?_))
 refine ar rfl (qn ?_)
 revert h;refine ca rfl (fun hc h=>?_) fun hc h=>?_
 ·refine sq (ar rfl (qn (rt (br (qr (qr ?_))))))
  obtain rfl:=Aa h
  obtain rfl:=Ae aa
  replace h:=Ao ae
  refine br (qr ?_)
  cases h;exact en Tryz.results179
 refine sk (bn (qn (ar rfl (qn ?_))))
 obtain rfl:=Aa h
 refine⟨(k0+1,(),()),⟨by dsimp only;omega,Aj aa⟩,by dsimp only;omega,?_,?_⟩
 ·exact cuw ak
 exact cuw ak
def Es (m:Bd) (k1:Nat) (_x:Unit) (sv:Unit):Option (Out (Unit) (Int)):=
 (Dv m.Bases (((k1:Nat):Int)+1)).bind fun bb=>(Dv m.Bases (IntKind.i64.wrap ((((k1:Nat):Int)+1) - 1))).bind fun au=>(bif (decide (bb≤au))then some (Out.ret 7)else some (Out.next ()))
def Rx (m:Bd):Option (Int):=
 (Ki (Es m) (m.Bases.length - 1) ()).bind fun o1=>o1.on fun s1=>some 0
def Oi (m:Bd) (k4:Nat) (cx:Int) (sv:Unit):Option (Out (Unit) (Int)):=
 (Et m cx).bind fun y7=>(bif (!y7.2)then some (Out.ret 8)else some (Out.next ()))
def P5 (m:Bd):Option (Int):=
 (bif (decide (((m.Bases.length:Nat):Int)=0))then some 8 else(An (Oi m) 0 m.Bases ()).bind fun o4=>o4.on fun s4=>Rx m)
theorem cQ (m:Bd) {r:Int} (h:P5 m=some r):Ad Tryz.prog 180 [.agg (Ct m)] (·= .int .i64 r):=by
 refine Ad.nle (Ad.intro Tryz.func180 rfl rfl (by show _≤49;simp) ?_)
 unfold P5 at h
 refine nS (sq ?_)
 refine ar rfl (qn (sq (sq ?_)))
 refine rg rfl fun K j=>?_
 intro hm
 refine j _ _ (qn ?_)
 revert h;refine ca rfl (fun hc h=>?_) fun hc h=>?_
 ·refine sq (ar rfl (qn (rt (qr ?_))))
  cases h;exact en Tryz.results180
 refine sk (qn ?_)
 refine AWP.Mz (ι:=(Unit)×(Unit)) (fun zz=>[(1,.ptr 0 0)]) (fun zz=>[.box [.sl 2 (m.Nodes.map A5),.sl 8 (m.Lifts.map A6),.sl 7 (m.Runs.map Ba),.sl 1 (m.Bases.map Bb)]]) (fun zz=>Rx m=some r) (fun zz=>⟨rfl,rfl,rfl⟩) ?_ ?_
 ·refine sq (ar rfl (qn (bk ?_)))
  obtain⟨o4,cp,mo⟩:=Ah h
  clear h
  refine AWP.Bw (ι:=Nat×(Unit)×(Unit)) (fun zz=>[(1,.ptr 0 0),(3,.int .i64 ((zz.1:Nat):Int))]) (fun zz=>[.box [.sl 2 (m.Nodes.map A5),.sl 8 (m.Lifts.map A6),.sl 7 (m.Runs.map Ba),.sl 1 (m.Bases.map Bb)]]) (fun zz=>zz.1≤m.Bases.length∧An (Oi m) zz.1 ((m.Bases).drop zz.1) zz.2.1=some o4) (fun zz=>m.Bases.length - zz.1) (0,(),()) ⟨Nat.zero_le _,cp⟩ cu cu (fun x=>⟨rfl,rfl,rfl⟩) ?_
  clear cp
  rintro⟨k4,⟨⟩,⟨⟩⟩ ⟨si,cp⟩
  dsimp only at si cp ⊢
  refine sq (sq (rg rfl fun K j=>?_))
  intro hm
  refine j _ _ (qn ?_)
  refine AWP.cond (Am (fun hc=>?_) (fun hc=>?_))
  rotate_left
  ·obtain rfl:=Bg cp (fun hl=>by have:=Ako hc;omega)
   have h:=Bf mo;try dsimp only at h
   have ag:m.Bases.length=k4:=by have:=Ako hc;omega
   subst ag
   refine xt (qe (qe (bs (qn ?_))))
   exact⟨((),()),h,cu,cu⟩
  have js:k4<m.Bases.length:=by have:=Akp hc;omega
  obtain⟨cx,b4,ma,h,cp⟩:=Bc cp js
  have vi:=A9 ma
  have ij:=wk (k:=k4) (by omega)
  unfold Oi at h;try dsimp only at h
  refine sk (qn (sq (bk (sq ?_))))
  refine AWP.draw Tryz.mixed (by kernel_rfl) ?_;intro K j
  refine nS ?_
  refine Bo.of (f:=Bb) (l:=m.Bases) vi ?_
  refine nS ?_
  obtain⟨y7,eo,h⟩:=Ah h
  refine Cf.pure Tryz.call98 (Qp m cx eo) rfl ?_
  refine nS ?_
  refine j _ _ _ (by kernel_rfl) ?_
  refine qn (sq (ar rfl (qn ?_)))
  revert h;refine ca rfl (fun hc h=>?_) fun hc h=>?_
  ·refine sq (ar rfl (qn (rt (br (qr (qr ?_))))))
   obtain rfl:=Aa h
   obtain rfl:=Ae cp
   replace h:=Ao mo
   refine br (qr ?_)
   cases h;exact en Tryz.results180
  refine sk (bn (qn (ar rfl (qn ?_))))
  obtain rfl:=Aa h
  refine⟨(k4+1,(),()),⟨by dsimp only;omega,Aj cp⟩,by dsimp only;omega,?_,?_⟩
  ·exact cuw ij
  exact cuw ij
 rintro⟨⟨⟩,⟨⟩⟩ h
 try dsimp only at h ⊢
 unfold Rx at h;try dsimp only at h
 refine sq (sq (ar rfl (qn (bk ?_))))
 obtain⟨o1,az,dj⟩:=Ah h
 clear h
 obtain⟨hn1,az⟩:=S3 az
 refine AWP.Bw (ι:=Nat×(Unit)×(Unit)) (fun zz=>[(1,.ptr 0 0),(6,.int .i64 (((zz.1:Nat):Int)+(1:Int)))]) (fun zz=>[.box [.sl 2 (m.Nodes.map A5),.sl 8 (m.Lifts.map A6),.sl 7 (m.Runs.map Ba),.sl 1 (m.Bases.map Bb)]]) (fun zz=>zz.1≤(m.Bases.length - 1)∧An (Es m) zz.1 ((List.replicate (m.Bases.length - 1) ()).drop zz.1) zz.2.1=some o1) (fun zz=>(m.Bases.length - 1) - zz.1) (0,(),()) ⟨Nat.zero_le _,az⟩ cu cu (fun x=>⟨rfl,rfl,rfl⟩) ?_
 clear az
 rintro⟨k1,⟨⟩,⟨⟩⟩ ⟨jd,az⟩
 dsimp only at jd az ⊢
 refine sq (sq (rg rfl fun K j=>?_))
 intro hm
 refine j _ _ (qn ?_)
 refine AWP.cond (Am (fun hc=>?_) (fun hc=>?_))
 rotate_left
 ·obtain rfl:=Bg az (fun hl=>by rw[Akx]at hl;have:=Ako hc;omega)
  have h:=Bf dj;try dsimp only at h
  have ag:(m.Bases.length - 1)=k1:=by have:=Ako hc;omega
  subst ag
  refine xt (qe (qe (bs (qn (sq (ar rfl (qn (rt ?_))))))))
  cases h;exact en Tryz.results180
 have dy:k1<(m.Bases.length - 1):=by have:=Akp hc;omega
 obtain⟨_,b1,_,h,az⟩:=Bc az (by rw[Akx];exact dy)
 have cq:IntKind.i64.wrap ((((k1:Nat):Int)+1)+1)=(((k1:Nat):Int)+1+1):=by rw[wrap_i64]<;>omega
 unfold Es at h;try dsimp only at h
 refine sk (qn (sq (bk (sq ?_))))
 refine AWP.draw Tryz.mixed (by kernel_rfl) ?_;intro K j
 refine nS ?_
 obtain⟨bb,du,h⟩:=Ah h
 refine Bo.of (f:=Bb) (l:=m.Bases) du ?_
 refine nS ?_
 obtain⟨au,gp,h⟩:=Ah h
 refine Bo.of (f:=Bb) (l:=m.Bases) gp ?_
 refine nS ?_
 refine j _ _ _ (by kernel_rfl) ?_
 refine qn ?_
 revert h;refine ca rfl (fun hc h=>?_) fun hc h=>?_
 ·refine sq (ar rfl (qn (rt (br (qr (qr ?_))))))
  obtain rfl:=Aa h
  obtain rfl:=Ae az
  replace h:=Ao dj
  refine br (qr ?_)
  cases h;exact en Tryz.results180
 refine sk (bn (qn (ar rfl (qn ?_))))
 obtain rfl:=Aa h
 refine⟨(k1+1,(),()),⟨by dsimp only;omega,Aj az⟩,by dsimp only;omega,?_,?_⟩
 ·exact cuw cq
 exact cuw cq
def I4 (m:Bd):Option (Int):=
 (bif (decide (64<((m.Nodes.length:Nat):Int)))then some 4 else(bif (decide (32<((m.Lifts.length:Nat):Int)))then some 4 else(bif (decide (64<((m.Runs.length:Nat):Int)))then some 4 else(bif (decide (64<((m.Bases.length:Nat):Int)))then some 4 else(Sy m.Nodes).bind fun y1=>(bif (decide (y1≠0))then some y1 else(P4 m).bind fun y2=>(bif (decide (y2≠0))then some y2 else(Rv m).bind fun y3=>(bif (decide (y3≠0))then some y3 else(P5 m).bind fun y4=>some y4)))))))
theorem cR (m:Bd) {r:Int} (h:I4 m=some r):Ad Tryz.prog 85 [.agg (Ct m)] (·= .int .i64 r):=by
 refine Ad.nle (Ad.intro Tryz.func85 rfl rfl (by show _≤46;simp) ?_)
 unfold I4 at h
 refine nS (sq ?_)
 refine ar rfl (qn (sq (sq ?_)))
 refine rg rfl fun K j=>?_
 intro hm
 revert h;refine gf (fun hc h=>?_) fun hc h=>?_
 rotate_left
 ·refine j _ _ (qn ?_)
  refine AWP.cond (Ai ?_)
  refine sq (ar rfl (qn (rt (qr ?_))))
  cases h;exact en Tryz.results85
 intro hm
 revert h;refine gf (fun hc h=>?_) fun hc h=>?_
 rotate_left
 ·refine j _ _ (qn ?_)
  refine AWP.cond (Ai ?_)
  refine sq (ar rfl (qn (rt (qr ?_))))
  cases h;exact en Tryz.results85
 intro hm
 revert h;refine gf (fun hc h=>?_) fun hc h=>?_
 rotate_left
 ·refine j _ _ (qn ?_)
  refine AWP.cond (Ai ?_)
  refine sq (ar rfl (qn (rt (qr ?_))))
  cases h;exact en Tryz.results85
 intro hm
 refine j _ _ (qn ?_)
 revert h;refine ca rfl (fun hc h=>?_) fun hc h=>?_
 ·refine sq (ar rfl (qn (rt (qr ?_))))
  cases h;exact en Tryz.results85
 refine sk (qn (sq (sq (rg rfl fun K j=>?_))))
 obtain⟨y1,bp,h⟩:=Ah h
 refine Al.pure Tryz.call177 (cO m.Nodes bp) rfl fun _ hr=>?_
 subst hr
 refine nS ?_
 refine j _ _ (qn (sq ?_))
 refine ar rfl (qn ?_)
 revert h;refine ca rfl (fun hc h=>?_) fun hc h=>?_
 ·refine sq (ar rfl (qn (rt (qr ?_))))
  cases h;exact en Tryz.results85
 refine sk (qn (sq (sq (rg rfl fun K j=>?_))))
 obtain⟨y2,dn,h⟩:=Ah h
 refine Al.pure Tryz.call178 (cP m dn) rfl fun _ hr=>?_
 subst hr
 refine nS ?_
 refine j _ _ (qn (sq ?_))
 refine ar rfl (qn ?_)
 revert h;refine ca rfl (fun hc h=>?_) fun hc h=>?_
 ·refine sq (ar rfl (qn (rt (qr ?_))))
  cases h;exact en Tryz.results85
 refine sk (qn (sq (sq (rg rfl fun K j=>?_))))
 obtain⟨y3,bx,h⟩:=Ah h
 refine Al.pure Tryz.call179 (fA m bx) rfl fun _ hr=>?_
 subst hr
 refine nS ?_
 refine j _ _ (qn (sq ?_))
 refine ar rfl (qn ?_)
 revert h;refine ca rfl (fun hc h=>?_) fun hc h=>?_
 ·refine sq (ar rfl (qn (rt (qr ?_))))
  cases h;exact en Tryz.results85
 refine sk (qn (sq (rg rfl fun K j=>?_)))
 obtain⟨y4,cn,h⟩:=Ah h
 refine Al.pure Tryz.call180 (cQ m cn) rfl fun _ hr=>?_
 subst hr
 refine nS ?_
 refine j _ _ (qn (rt ?_))
 cases h;exact en Tryz.results85
def Re (c:Bn):Option (Bool):=
 (bif (decide (1≤c.Kind))then (bif (decide (c.Kind≤3))then (bif (decide (1≤c.Target))then (bif (decide (c.Target≤9999))then (bif (decide (1≤c.By))then (bif (decide (c.By≤6))then (bif (decide (0≤c.Since))then some (decide (c.Since≤20000000))else some false)else some false)else some false)else some false)else some false)else some false)else some false)
theorem gD (c:Bn) {r:Bool} (h:Re c=some r):Ad Tryz.prog 181 [.agg (Au c)] (·= .bool r):=by
 refine Ad.nle (Ad.intro Tryz.func181 rfl rfl (by show _≤41;simp) ?_)
 unfold Re at h
 refine nS (sq ?_)
 refine ar rfl (qn (sq ?_))
 refine rg rfl fun K j=>?_
 revert h;refine gt (fun hc h=>?_) fun hc h=>?_
 rotate_left
 ·refine j _ _ (qn (rt ?_))
  cases h;exact en Tryz.results181
 revert h;refine gt (fun hc h=>?_) fun hc h=>?_
 rotate_left
 ·refine j _ _ (qn (rt ?_))
  cases h;exact en Tryz.results181
 revert h;refine gt (fun hc h=>?_) fun hc h=>?_
 ·revert h;refine gt (fun hc h=>?_) fun hc h=>?_
  ·revert h;refine gt (fun hc h=>?_) fun hc h=>?_
   ·revert h;refine gt (fun hc h=>?_) fun hc h=>?_
    ·revert h;refine gt (fun hc h=>?_) fun hc h=>?_
     ·refine j _ _ (qn (rt ?_))
      cases h;exact en Tryz.results181
     refine j _ _ (qn (rt ?_))
     cases h;exact en Tryz.results181
    refine j _ _ (qn (rt ?_))
    cases h;exact en Tryz.results181
   refine j _ _ (qn (rt ?_))
   cases h;exact en Tryz.results181
  refine j _ _ (qn (rt ?_))
  cases h;exact en Tryz.results181
 refine j _ _ (qn (rt ?_))
 cases h;exact en Tryz.results181
def Fc (kind:Int) (target:Int) (by_:Int) (k0:Nat) (ab:Bn) (sv:Unit):Option (Out (Unit) (Int)):=
 (bif (decide (ab.Kind=kind))then (bif (decide (ab.Target=target))then (bif (decide (ab.By=by_))then some (Out.ret ((k0:Nat):Int))else some (Out.next ()))else some (Out.next ()))else some (Out.next ()))
def F4 (l:List Bn) (kind:Int) (target:Int) (by_:Int):Option (Int):=
 (An (Fc kind target by_) 0 l ()).bind fun o0=>o0.on fun s0=>some (-1)
theorem cA (l:List Bn) (kind:Int) (target:Int) (by_:Int) {r:Int} (h:F4 l kind target by_=some r):Ad Tryz.prog 182 [.sl 4 (l.map Au),.int .i64 kind,.int .i64 target,.int .i64 by_] (·= .int .i64 r):=by
 refine Ad.nle (Ad.intro Tryz.func182 rfl rfl (by show _≤42;simp) ?_)
 unfold F4 at h
 refine nS (sq ?_)
 refine ar rfl (qn (sq (sq ?_)))
 refine ar rfl (qn (bk ?_))
 obtain⟨o0,aa,ae⟩:=Ah h
 clear h
 refine AWP.Bw (ι:=Nat×(Unit)×(Unit)) (fun zz=>[(0,.sl 4 (l.map Au)),(1,.int .i64 kind),(2,.int .i64 target),(3,.int .i64 by_),(9,.int .i64 ((zz.1:Nat):Int))]) (fun zz=>[]) (fun zz=>zz.1≤l.length∧An (Fc kind target by_) zz.1 ((l).drop zz.1) zz.2.1=some o0) (fun zz=>l.length - zz.1) (0,(),()) ⟨Nat.zero_le _,aa⟩ cu cu (fun x=>⟨rfl,rfl,rfl⟩) ?_
 clear aa
 rintro⟨k0,⟨⟩,⟨⟩⟩ ⟨bg,aa⟩
 dsimp only at bg aa ⊢
 refine sq (sq (rg rfl fun K j=>?_))
 intro hm
 refine j _ _ (qn ?_)
 refine AWP.cond (Am (fun hc=>?_) (fun hc=>?_))
 rotate_left
 ·obtain rfl:=Bg aa (fun hl=>by have:=Ako hc;omega)
  have h:=Bf ae;try dsimp only at h
  have ag:l.length=k0:=by have:=Ako hc;omega
  subst ag
  refine xt (qe (qe (bs (qn (sq (ar rfl (qn (rt ?_))))))))
  cases h;exact en Tryz.results182
 have ah:k0<l.length:=by have:=Akp hc;omega
 obtain⟨ab,b0,aj,h,aa⟩:=Bc aa ah
 have aw:=A9 aj
 have ak:=wk (k:=k0) (by omega)
 unfold Fc at h;try dsimp only at h
 refine sk (qn (sq (bk (sq (rg rfl fun K j=>?_)))))
 refine Bo.of (f:=Au) (l:=l) aw ?_
 refine nS ?_
 revert h;refine gt (fun hc h=>?_) fun hc h=>?_
 ·refine Bo.of (f:=Au) (l:=l) aw ?_
  refine nS ?_
  revert h;refine gt (fun hc h=>?_) fun hc h=>?_
  ·refine Bo.of (f:=Au) (l:=l) aw ?_
   refine nS ?_
   refine j _ _ (qn ?_)
   revert h;refine ca rfl (fun hc h=>?_) fun hc h=>?_
   ·refine sq (ar rfl (qn (rt (br (qr (qr ?_))))))
    obtain rfl:=Aa h
    obtain rfl:=Ae aa
    replace h:=Ao ae
    refine br (qr ?_)
    cases h;exact en Tryz.results182
   refine sk (bn (qn (ar rfl (qn ?_))))
   obtain rfl:=Aa h
   refine⟨(k0+1,(),()),⟨by dsimp only;omega,Aj aa⟩,by dsimp only;omega,?_,?_⟩
   ·exact cuw ak
   exact cuw ak
  refine j _ _ (qn ?_)
  refine AWP.cond (Bj ?_)
  refine sk (bn (qn (ar rfl (qn ?_))))
  obtain rfl:=Aa h
  refine⟨(k0+1,(),()),⟨by dsimp only;omega,Aj aa⟩,by dsimp only;omega,?_,?_⟩
  ·exact cuw ak
  exact cuw ak
 refine j _ _ (qn ?_)
 refine AWP.cond (Bj ?_)
 refine sk (bn (qn (ar rfl (qn ?_))))
 obtain rfl:=Aa h
 refine⟨(k0+1,(),()),⟨by dsimp only;omega,Aj aa⟩,by dsimp only;omega,?_,?_⟩
 ·exact cuw ak
 exact cuw ak
def H4 (l:List Bn) (k0:Nat) (ab:Bn) (sv:Unit):Option (Out (Unit) (Int)):=
 (Re ab).bind fun y3=>(bif (!y3)then some (Out.ret 2)else okB (decide (0≤((k0:Nat):Int)∧((k0:Nat):Int)≤((l.length:Nat):Int))) ((F4 (l.take k0) ab.Kind ab.Target ab.By).bind fun y4=>(bif (decide (0≤y4))then some (Out.ret 7)else some (Out.next ()))))
def Ix (l:List Bn):Option (Int):=
 (bif (decide (200<((l.length:Nat):Int)))then some 4 else(An (H4 l) 0 l ()).bind fun o0=>o0.on fun s0=>some 0)
theorem bZ (l:List Bn) {r:Int} (h:Ix l=some r):Ad Tryz.prog 86 [.sl 4 (l.map Au)] (·= .int .i64 r):=by
 refine Ad.nle (Ad.intro Tryz.func86 rfl rfl (by show _≤39;simp) ?_)
 unfold Ix at h
 refine nS (sq ?_)
 refine ar rfl (qn (sq (sq ?_)))
 refine rg rfl fun K j=>?_
 intro hm
 refine j _ _ (qn ?_)
 revert h;refine ca rfl (fun hc h=>?_) fun hc h=>?_
 ·refine sq (ar rfl (qn (rt (qr ?_))))
  cases h;exact en Tryz.results86
 refine sk (qn (sq (sq (ar rfl (qn (bk ?_))))))
 obtain⟨o0,aa,ae⟩:=Ah h
 clear h
 refine AWP.Bw (ι:=Nat×(Unit)×(Unit)) (fun zz=>[(0,.sl 4 (l.map Au)),(3,.int .i64 ((zz.1:Nat):Int))]) (fun zz=>[]) (fun zz=>zz.1≤l.length∧An (H4 l) zz.1 ((l).drop zz.1) zz.2.1=some o0) (fun zz=>l.length - zz.1) (0,(),()) ⟨Nat.zero_le _,aa⟩ cu cu (fun x=>⟨rfl,rfl,rfl⟩) ?_
 clear aa
 rintro⟨k0,⟨⟩,⟨⟩⟩ ⟨bg,aa⟩
 dsimp only at bg aa ⊢
 refine sq (sq (rg rfl fun K j=>?_))
 intro hm
 refine j _ _ (qn ?_)
 refine AWP.cond (Am (fun hc=>?_) (fun hc=>?_))
 rotate_left
 ·obtain rfl:=Bg aa (fun hl=>by have:=Ako hc;omega)
  have h:=Bf ae;try dsimp only at h
  have ag:l.length=k0:=by have:=Ako hc;omega
  subst ag
  refine xt (qe (qe (bs (qn (sq (ar rfl (qn (rt ?_))))))))
  cases h;exact en Tryz.results86
 have ah:k0<l.length:=by have:=Akp hc;omega
 obtain⟨ab,b0,aj,h,aa⟩:=Bc aa ah
 have aw:=A9 aj
 have ak:=wk (k:=k0) (by omega)
 unfold H4 at h;try dsimp only at h
 refine sk (qn (sq (bk (sq (sq (rg rfl fun K j=>?_))))))
 refine Bo.of (f:=Au) (l:=l) aw ?_
 refine nS ?_
 obtain⟨y3,bx,h⟩:=Ah h
 refine Al.pure Tryz.call181 (gD ab bx) rfl fun _ hr=>?_
 subst hr
 refine nS ?_
 refine j _ _ (qn ?_)
 revert h;refine ca rfl (fun hc h=>?_) fun hc h=>?_
 ·refine sq (ar rfl (qn (rt (qr (br (qr (qr ?_)))))))
  obtain rfl:=Aa h
  obtain rfl:=Ae aa
  replace h:=Ao ae
  refine br (qr ?_)
  cases h;exact en Tryz.results86
 refine sk (qn (sq ?_))
 refine AWP.draw Tryz.mixed (by kernel_rfl) ?_;intro K j
 refine nS ?_
 obtain⟨hk,h⟩:=Fz h
 intro hm
 (repeat(refine⟨by omega,?_⟩))
 refine Bo.of (f:=Au) (l:=l) aw ?_
 refine nS ?_
 refine Bo.of (f:=Au) (l:=l) aw ?_
 refine nS ?_
 refine Bo.of (f:=Au) (l:=l) aw ?_
 refine nS ?_
 obtain⟨y4,cn,h⟩:=Ah h
 refine Cf.pure Tryz.call182 (cA (l.take k0) ab.Kind ab.Target ab.By cn) rfl ?_
 refine nS ?_
 refine j _ _ _ (by kernel_rfl) ?_
 refine qn ?_
 revert h;refine ca rfl (fun hc h=>?_) fun hc h=>?_
 ·refine sq (ar rfl (qn (rt (br (qr (qr ?_))))))
  obtain rfl:=Aa h
  obtain rfl:=Ae aa
  replace h:=Ao ae
  refine br (qr ?_)
  cases h;exact en Tryz.results86
 refine sk (bn (qn (ar rfl (qn ?_))))
 obtain rfl:=Aa h
 refine⟨(k0+1,(),()),⟨by dsimp only;omega,Aj aa⟩,by dsimp only;omega,?_,?_⟩
 ·exact cuw ak
 exact cuw ak
def P2 (n_:Int) (lo:Int) (hi:Int):Option (Bool):=
 (bif (decide (lo≤n_))then some (decide (n_≤hi))else some false)
theorem Pp (n_:Int) (lo:Int) (hi:Int) {r:Bool} (h:P2 n_ lo hi=some r):Ad Tryz.prog 257 [.int .i64 n_,.int .i64 lo,.int .i64 hi] (·= .bool r):=by
 refine Ad.nle (Ad.intro Tryz.func257 rfl rfl (by show _≤15;simp) ?_)
 unfold P2 at h
 refine nS (sq ?_)
 refine ar rfl (qn (sq ?_))
 refine rg rfl fun K j=>?_
 revert h;refine gt (fun hc h=>?_) fun hc h=>?_
 ·refine j _ _ (qn (rt ?_))
  cases h;exact en Tryz.results257
 refine j _ _ (qn (rt ?_))
 cases h;exact en Tryz.results257
def U1 (n_:Int) (k0:Nat) (ab:Int) (sv:Unit):Option (Out (Unit) (Bool)):=
 (bif (decide (ab=n_))then some (Out.ret true)else some (Out.next ()))
def Uh (l:List Int) (n_:Int):Option (Bool):=
 (An (U1 n_) 0 l ()).bind fun o0=>o0.on fun s0=>some false
theorem Wx (l:List Int) (n_:Int) {r:Bool} (h:Uh l n_=some r):Ad Tryz.prog 258 [.sl 1 (l.map Bb),.int .i64 n_] (·= .bool r):=by
 refine Ad.nle (Ad.intro Tryz.func258 rfl rfl (by show _≤18;simp) ?_)
 unfold Uh at h
 refine nS (sq ?_)
 refine ar rfl (qn (sq (sq ?_)))
 refine ar rfl (qn (bk ?_))
 obtain⟨o0,aa,ae⟩:=Ah h
 clear h
 refine AWP.Bw (ι:=Nat×(Unit)×(Unit)) (fun zz=>[(0,.sl 1 (l.map Bb)),(1,.int .i64 n_),(5,.int .i64 ((zz.1:Nat):Int))]) (fun zz=>[]) (fun zz=>zz.1≤l.length∧An (U1 n_) zz.1 ((l).drop zz.1) zz.2.1=some o0) (fun zz=>l.length - zz.1) (0,(),()) ⟨Nat.zero_le _,aa⟩ cu cu (fun x=>⟨rfl,rfl,rfl⟩) ?_
 clear aa
 rintro⟨k0,⟨⟩,⟨⟩⟩ ⟨bg,aa⟩
 dsimp only at bg aa ⊢
 refine sq (sq (rg rfl fun K j=>?_))
 intro hm
 refine j _ _ (qn ?_)
 refine AWP.cond (Am (fun hc=>?_) (fun hc=>?_))
 rotate_left
 ·obtain rfl:=Bg aa (fun hl=>by have:=Ako hc;omega)
  have h:=Bf ae;try dsimp only at h
  have ag:l.length=k0:=by have:=Ako hc;omega
  subst ag
  refine xt (qe (qe (bs (qn (sq (ar rfl (qn (rt ?_))))))))
  cases h;exact en Tryz.results258
 have ah:k0<l.length:=by have:=Akp hc;omega
 obtain⟨ab,b0,aj,h,aa⟩:=Bc aa ah
 have aw:=A9 aj
 have ak:=wk (k:=k0) (by omega)
 unfold U1 at h;try dsimp only at h
 refine sk (qn (sq (bk (sq (rg rfl fun K j=>?_)))))
 refine Bo.of (f:=Bb) (l:=l) aw ?_
 refine nS ?_
 refine j _ _ (qn ?_)
 revert h;refine ca rfl (fun hc h=>?_) fun hc h=>?_
 ·refine sq (ar rfl (qn (rt (br (qr (qr ?_))))))
  obtain rfl:=Aa h
  obtain rfl:=Ae aa
  replace h:=Ao ae
  refine br (qr ?_)
  cases h;exact en Tryz.results258
 refine sk (bn (qn (ar rfl (qn ?_))))
 obtain rfl:=Aa h
 refine⟨(k0+1,(),()),⟨by dsimp only;omega,Aj aa⟩,by dsimp only;omega,?_,?_⟩
 ·exact cuw ak
 exact cuw ak
def Oh (l:Bq) (k2:Nat) (au:F2) (sv:Unit):Option (Out (Unit) (Int)):=
 (Uh l.Items au.Item).bind fun y5=>(bif (!y5)then some (Out.ret 8)else (P2 au.By 1 9999).bind fun y6=>(bif (!y6)then some (Out.ret 17)else (P2 au.At 0 20000000).bind fun y7=>(bif (!y7)then some (Out.ret 2)else (bif (decide (0<((k2:Nat):Int)))then (Dv l.Signs (IntKind.i64.wrap (((k2:Nat):Int) - 1))).bind fun dz=>(bif (decide (au.At<dz.At))then some (Out.ret 11)else some (Out.next ()))else some (Out.next ())))))
def Oe (l:Bq):Option (Int):=
 (An (Oh l) 0 l.Signs ()).bind fun o2=>o2.on fun s2=>some 0
def Og (l:Bq) (k8:Nat) (ib:Int) (sv:Unit):Option (Out (Unit) (Int)):=
 (P2 ib 1 9999).bind fun dd=>(bif (!dd)then some (Out.ret 2)else okB (decide (0≤((k8:Nat):Int)∧((k8:Nat):Int)≤((l.Items.length:Nat):Int))) ((Uh (l.Items.take k8) ib).bind fun dm=>(bif dm then some (Out.ret 7)else some (Out.next ()))))
def Gx (l:Bq):Option (Int):=
 (bif (decide (64<((l.Items.length:Nat):Int)))then some 4 else(bif (decide (200<((l.Signs.length:Nat):Int)))then some 4 else(P2 l.Every 1 604800).bind fun y1=>(bif (!y1)then some 2 else(An (Og l) 0 l.Items ()).bind fun o8=>o8.on fun s8=>Oe l)))
theorem Ug (l:Bq) {r:Int} (h:Gx l=some r):Ad Tryz.prog 183 [.agg (Fu l)] (·= .int .i64 r):=by
 refine Ad.nle (Ad.intro Tryz.func183 rfl rfl (by show _≤88;simp) ?_)
 unfold Gx at h
 refine nS (sq ?_)
 refine ar rfl (qn (sq (sq ?_)))
 refine rg rfl fun K j=>?_
 intro hm
 revert h;refine gf (fun hc h=>?_) fun hc h=>?_
 rotate_left
 ·refine j _ _ (qn ?_)
  refine AWP.cond (Ai ?_)
  refine sq (ar rfl (qn (rt (qr ?_))))
  cases h;exact en Tryz.results183
 intro hm
 refine j _ _ (qn ?_)
 revert h;refine ca rfl (fun hc h=>?_) fun hc h=>?_
 ·refine sq (ar rfl (qn (rt (qr ?_))))
  cases h;exact en Tryz.results183
 refine sk (qn (sq (sq (rg rfl fun K j=>?_))))
 obtain⟨y1,bp,h⟩:=Ah h
 refine Al.pure Tryz.call257 (Pp l.Every 1 604800 bp) rfl fun _ hr=>?_
 subst hr
 refine nS ?_
 refine j _ _ (qn ?_)
 revert h;refine ca rfl (fun hc h=>?_) fun hc h=>?_
 ·refine sq (ar rfl (qn (rt (qr ?_))))
  cases h;exact en Tryz.results183
 refine sk (qn ?_)
 refine AWP.Mz (ι:=(Unit)×(Unit)) (fun zz=>[(1,.ptr 0 0)]) (fun zz=>[.box [.sl 1 (l.Items.map Bb),.int .i64 l.Every,.sl 3 (l.Signs.map Cl)]]) (fun zz=>Oe l=some r) (fun zz=>⟨rfl,rfl,rfl⟩) ?_ ?_
 ·refine sq (ar rfl (qn (bk ?_)))
  obtain⟨o8,ik,sw⟩:=Ah h
  clear h
  refine AWP.Bw (ι:=Nat×(Unit)×(Unit)) (fun zz=>[(1,.ptr 0 0),(3,.int .i64 ((zz.1:Nat):Int))]) (fun zz=>[.box [.sl 1 (l.Items.map Bb),.int .i64 l.Every,.sl 3 (l.Signs.map Cl)]]) (fun zz=>zz.1≤l.Items.length∧An (Og l) zz.1 ((l.Items).drop zz.1) zz.2.1=some o8) (fun zz=>l.Items.length - zz.1) (0,(),()) ⟨Nat.zero_le _,ik⟩ cu cu (fun x=>⟨rfl,rfl,rfl⟩) ?_
  clear ik
  rintro⟨k8,⟨⟩,⟨⟩⟩ ⟨hk8,ik⟩
  dsimp only at hk8 ik ⊢
  refine sq (sq (rg rfl fun K j=>?_))
  intro hm
  refine j _ _ (qn ?_)
  refine AWP.cond (Am (fun hc=>?_) (fun hc=>?_))
  rotate_left
  ·obtain rfl:=Bg ik (fun hl=>by have:=Ako hc;omega)
   have h:=Bf sw;try dsimp only at h
   have ag:l.Items.length=k8:=by have:=Ako hc;omega
   subst ag
   refine xt (qe (qe (bs (qn ?_))))
   exact⟨((),()),h,cu,cu⟩
  have vx:k8<l.Items.length:=by have:=Akp hc;omega
  obtain⟨ib,b8,ve,h,ik⟩:=Bc ik vx
  have vf:=A9 ve
  have vl:=wk (k:=k8) (by omega)
  unfold Og at h;try dsimp only at h
  refine sk (qn (sq (bk (sq (sq (rg rfl fun K j=>?_))))))
  refine Bo.of (f:=Bb) (l:=l.Items) vf ?_
  refine nS ?_
  obtain⟨dd,eh,h⟩:=Ah h
  refine Al.pure Tryz.call257 (Pp ib 1 9999 eh) rfl fun _ hr=>?_
  subst hr
  refine nS ?_
  refine j _ _ (qn ?_)
  revert h;refine ca rfl (fun hc h=>?_) fun hc h=>?_
  ·refine sq (ar rfl (qn (rt (qr (br (qr (qr ?_)))))))
   obtain rfl:=Aa h
   obtain rfl:=Ae ik
   replace h:=Ao sw
   refine br (qr ?_)
   cases h;exact en Tryz.results183
  refine sk (qn (sq ?_))
  refine AWP.draw Tryz.mixed (by kernel_rfl) ?_;intro K j
  refine nS ?_
  obtain⟨hk,h⟩:=Fz h
  intro hm
  (repeat(refine⟨by omega,?_⟩))
  refine Bo.of (f:=Bb) (l:=l.Items) vf ?_
  refine nS ?_
  obtain⟨dm,ez,h⟩:=Ah h
  refine Cf.pure Tryz.call258 (Wx (l.Items.take k8) ib ez) rfl ?_
  refine nS ?_
  refine j _ _ _ (by kernel_rfl) ?_
  refine qn ?_
  revert h;refine ca rfl (fun hc h=>?_) fun hc h=>?_
  ·refine sq (ar rfl (qn (rt (br (qr (qr ?_))))))
   obtain rfl:=Aa h
   obtain rfl:=Ae ik
   replace h:=Ao sw
   refine br (qr ?_)
   cases h;exact en Tryz.results183
  refine sk (bn (qn (ar rfl (qn ?_))))
  obtain rfl:=Aa h
  refine⟨(k8+1,(),()),⟨by dsimp only;omega,Aj ik⟩,by dsimp only;omega,?_,?_⟩
  ·exact cuw vl
  exact cuw vl
 rintro⟨⟨⟩,⟨⟩⟩ h
 try dsimp only at h ⊢
 unfold Oe at h;try dsimp only at h
 refine sq (sq (ar rfl (qn (bk ?_))))
 obtain⟨o2,ao,ek⟩:=Ah h
 clear h
 refine AWP.Bw (ι:=Nat×(Unit)×(Unit)) (fun zz=>[(1,.ptr 0 0),(4,.int .i64 ((zz.1:Nat):Int))]) (fun zz=>[.box [.sl 1 (l.Items.map Bb),.int .i64 l.Every,.sl 3 (l.Signs.map Cl)]]) (fun zz=>zz.1≤l.Signs.length∧An (Oh l) zz.1 ((l.Signs).drop zz.1) zz.2.1=some o2) (fun zz=>l.Signs.length - zz.1) (0,(),()) ⟨Nat.zero_le _,ao⟩ cu cu (fun x=>⟨rfl,rfl,rfl⟩) ?_
 clear ao
 rintro⟨k2,⟨⟩,⟨⟩⟩ ⟨dp,ao⟩
 dsimp only at dp ao ⊢
 refine sq (sq (rg rfl fun K j=>?_))
 intro hm
 refine j _ _ (qn ?_)
 refine AWP.cond (Am (fun hc=>?_) (fun hc=>?_))
 rotate_left
 ·obtain rfl:=Bg ao (fun hl=>by have:=Ako hc;omega)
  have h:=Bf ek;try dsimp only at h
  have ag:l.Signs.length=k2:=by have:=Ako hc;omega
  subst ag
  refine xt (qe (qe (bs (qn (sq (ar rfl (qn (rt ?_))))))))
  cases h;exact en Tryz.results183
 have ck:k2<l.Signs.length:=by have:=Akp hc;omega
 obtain⟨au,b2,dh,h,ao⟩:=Bc ao ck
 have ie:=A9 dh
 have bq:=wk (k:=k2) (by omega)
 unfold Oh at h;try dsimp only at h
 refine sk (qn (sq (bk (sq (rg rfl fun K j=>?_)))))
 refine Bo.of (f:=Cl) (l:=l.Signs) ie ?_
 refine nS ?_
 refine j _ _ (qn (bk (sq ?_)))
 refine rg rfl fun K j=>?_
 obtain⟨y5,db,h⟩:=Ah h
 refine Al.pure Tryz.call258 (Wx l.Items au.Item db) rfl fun _ hr=>?_
 subst hr
 refine nS ?_
 refine j _ _ (qn ?_)
 revert h;refine ca rfl (fun hc h=>?_) fun hc h=>?_
 ·refine sq (ar rfl (qn (rt (br (br (qr (qr ?_)))))))
  obtain rfl:=Aa h
  obtain rfl:=Ae ao
  replace h:=Ao ek
  refine br (qr ?_)
  cases h;exact en Tryz.results183
 refine sq (rg rfl fun K j=>?_)
 obtain⟨y6,ey,h⟩:=Ah h
 refine Al.pure Tryz.call257 (Pp au.By 1 9999 ey) rfl fun _ hr=>?_
 subst hr
 refine nS ?_
 refine j _ _ (qn ?_)
 revert h;refine ca rfl (fun hc h=>?_) fun hc h=>?_
 ·refine sq (ar rfl (qn (rt (br (br (qr (qr ?_)))))))
  obtain rfl:=Aa h
  obtain rfl:=Ae ao
  replace h:=Ao ek
  refine br (qr ?_)
  cases h;exact en Tryz.results183
 refine sq (rg rfl fun K j=>?_)
 obtain⟨y7,eo,h⟩:=Ah h
 refine Al.pure Tryz.call257 (Pp au.At 0 20000000 eo) rfl fun _ hr=>?_
 subst hr
 refine nS ?_
 refine j _ _ (qn ?_)
 revert h;refine ca rfl (fun hc h=>?_) fun hc h=>?_
 ·refine sq (ar rfl (qn (rt (br (br (qr (qr ?_)))))))
  obtain rfl:=Aa h
  obtain rfl:=Ae ao
  replace h:=Ao ek
  refine br (qr ?_)
  cases h;exact en Tryz.results183
 refine sq ?_
 refine AWP.draw Tryz.mixed (by kernel_rfl) ?_;intro K j
 refine nS ?_
 revert h;refine gt (fun hc h=>?_) fun hc h=>?_
 ·obtain⟨dz,lz,h⟩:=Ah h
  refine Bo.of (f:=Cl) (l:=l.Signs) lz ?_
  refine nS ?_
  refine j _ _ _ (by kernel_rfl) ?_
  refine qn ?_
  revert h;refine ca rfl (fun hc h=>?_) fun hc h=>?_
  ·refine sq (ar rfl (qn (rt (br (br (qr (qr ?_)))))))
   obtain rfl:=Aa h
   obtain rfl:=Ae ao
   replace h:=Ao ek
   refine br (qr ?_)
   cases h;exact en Tryz.results183
  refine sk (bn (bn (qn (ar rfl (qn ?_)))))
  obtain rfl:=Aa h
  refine⟨(k2+1,(),()),⟨by dsimp only;omega,Aj ao⟩,by dsimp only;omega,?_,?_⟩
  ·exact cuw bq
  exact cuw bq
 refine j _ _ _ (by kernel_rfl) ?_
 refine qn ?_
 refine AWP.cond (Bj ?_)
 refine sk (bn (bn (qn (ar rfl (qn ?_)))))
 obtain rfl:=Aa h
 refine⟨(k2+1,(),()),⟨by dsimp only;omega,Aj ao⟩,by dsimp only;omega,?_,?_⟩
 ·exact cuw bq
 exact cuw bq
def Nm (run:Int) (k0:Nat) (ab:Ch) (sv:Unit):Option (Out (Unit) (Int)):=
 (bif (decide (ab.Run=run))then some (Out.ret ((k0:Nat):Int))else some (Out.next ()))
def N7 (p:B9) (run:Int):Option (Int):=
 (An (Nm run) 0 p.Bl ()).bind fun o0=>o0.on fun s0=>some (-1)
theorem jR (p:B9) (run:Int) {r:Int} (h:N7 p run=some r):Ad Tryz.prog 184 [.agg (I9 p),.int .i64 run] (·= .int .i64 r):=by
 refine Ad.nle (Ad.intro Tryz.func184 rfl rfl (by show _≤22;simp) ?_)
 unfold N7 at h
 refine nS (sq ?_)
 refine ar rfl (qn (sq (sq ?_)))
 refine ar rfl (qn (bk ?_))
 obtain⟨o0,aa,ae⟩:=Ah h
 clear h
 refine AWP.Bw (ι:=Nat×(Unit)×(Unit)) (fun zz=>[(1,.int .i64 run),(2,.ptr 0 0),(5,.int .i64 ((zz.1:Nat):Int))]) (fun zz=>[.box [.sl 4 (p.Bl.map Aq),.sl 3 (p.Hazards.map Ay)]]) (fun zz=>zz.1≤p.Bl.length∧An (Nm run) zz.1 ((p.Bl).drop zz.1) zz.2.1=some o0) (fun zz=>p.Bl.length - zz.1) (0,(),()) ⟨Nat.zero_le _,aa⟩ cu cu (fun x=>⟨rfl,rfl,rfl⟩) ?_
 clear aa
 rintro⟨k0,⟨⟩,⟨⟩⟩ ⟨bg,aa⟩
 dsimp only at bg aa ⊢
 refine sq (sq (rg rfl fun K j=>?_))
 intro hm
 refine j _ _ (qn ?_)
 refine AWP.cond (Am (fun hc=>?_) (fun hc=>?_))
 rotate_left
 ·obtain rfl:=Bg aa (fun hl=>by have:=Ako hc;omega)
  have h:=Bf ae;try dsimp only at h
  have ag:p.Bl.length=k0:=by have:=Ako hc;omega
  subst ag
  refine xt (qe (qe (bs (qn (sq (ar rfl (qn (rt ?_))))))))
  cases h;exact en Tryz.results184
 have ah:k0<p.Bl.length:=by have:=Akp hc;omega
 obtain⟨ab,b0,aj,h,aa⟩:=Bc aa ah
 have aw:=A9 aj
 have ak:=wk (k:=k0) (by omega)
 unfold Nm at h;try dsimp only at h
 refine sk (qn (sq (bk (sq (rg rfl fun K j=>?_)))))
 refine Bo.of (f:=Aq) (l:=p.Bl) aw ?_
 refine nS ?_
 refine j _ _ (qn ?_)
 revert h;refine ca rfl (fun hc h=>?_) fun hc h=>?_
 ·refine sq (ar rfl (qn (rt (br (qr (qr ?_))))))
  obtain rfl:=Aa h
  obtain rfl:=Ae aa
  replace h:=Ao ae
  refine br (qr ?_)
  cases h;exact en Tryz.results184
 refine sk (bn (qn (ar rfl (qn ?_))))
 obtain rfl:=Aa h
 refine⟨(k0+1,(),()),⟨by dsimp only;omega,Aj aa⟩,by dsimp only;omega,?_,?_⟩
 ·exact cuw ak
 exact cuw ak
def Ky (p:B9) (bb:C4) (k3:Nat) (_x:Unit) (sv:Unit):Option (Out (Unit) (Out (Unit) (Int))):=
 (Dv p.Hazards ((k3:Nat):Int)).bind fun ch=>(bif (decide (ch.ID=bb.ID))then some (Out.ret (Out.ret 7))else some (Out.next ()))
def N9 (p:B9) (k1:Nat) (bb:C4) (sv:Unit):Option (Out (Unit) (Int)):=
 (bif (decide (bb.ID<1))then some (Out.ret 2)else (bif (decide (9999<bb.ID))then some (Out.ret 2)else (bif (decide (bb.At<0))then some (Out.ret 2)else (bif (decide (20000000<bb.At))then some (Out.ret 2)else (Ki (Ky p bb) k1 ()).bind fun o3=>o3.on fun s3=>(N7 p bb.Run).bind fun y6=>(bif (decide (y6<0))then some (Out.ret 8)else some (Out.next ()))))))
def N8 (p:B9):Option (Int):=
 (An (N9 p) 0 p.Hazards ()).bind fun o1=>o1.on fun s1=>some 0
def H3 (p:B9) (k6:Nat) (dz:Ch) (sv:Unit):Option (Out (Unit) (Int)):=
 (bif (decide (dz.Run<1))then some (Out.ret 2)else (bif (decide (9999<dz.Run))then some (Out.ret 2)else (bif (decide (0<((k6:Nat):Int)))then (Dv p.Bl (IntKind.i64.wrap (((k6:Nat):Int) - 1))).bind fun ke=>(bif (decide (dz.Run≤ke.Run))then some (Out.ret 11)else (Gx dz.List_).bind fun cf=>(bif (decide (cf≠0))then some (Out.ret cf)else some (Out.next ())))else (Gx dz.List_).bind fun dd=>(bif (decide (dd≠0))then some (Out.ret dd)else some (Out.next ())))))
def Iw (p:B9):Option (Int):=
 (bif (decide (64<((p.Bl.length:Nat):Int)))then some 4 else(bif (decide (200<((p.Hazards.length:Nat):Int)))then some 4 else(An (H3 p) 0 p.Bl ()).bind fun o6=>o6.on fun s6=>N8 p))
theorem bX (p:B9) {r:Int} (h:Iw p=some r):Ad Tryz.prog 87 [.agg (I9 p)] (·= .int .i64 r):=by
 refine Ad.nle (Ad.intro Tryz.func87 rfl rfl (by show _≤118;simp) ?_)
 unfold Iw at h
 refine nS (sq ?_)
 refine ar rfl (qn (sq (sq ?_)))
 refine rg rfl fun K j=>?_
 intro hm
 revert h;refine gf (fun hc h=>?_) fun hc h=>?_
 rotate_left
 ·refine j _ _ (qn ?_)
  refine AWP.cond (Ai ?_)
  refine sq (ar rfl (qn (rt (qr ?_))))
  cases h;exact en Tryz.results87
 intro hm
 refine j _ _ (qn ?_)
 revert h;refine ca rfl (fun hc h=>?_) fun hc h=>?_
 ·refine sq (ar rfl (qn (rt (qr ?_))))
  cases h;exact en Tryz.results87
 refine sk (qn ?_)
 refine AWP.Mz (ι:=(Unit)×(Unit)) (fun zz=>[(1,.ptr 0 0)]) (fun zz=>[.box [.sl 4 (p.Bl.map Aq),.sl 3 (p.Hazards.map Ay)]]) (fun zz=>N8 p=some r) (fun zz=>⟨rfl,rfl,rfl⟩) ?_ ?_
 ·refine sq (ar rfl (qn (bk ?_)))
  obtain⟨o6,fm,rl⟩:=Ah h
  clear h
  refine AWP.Bw (ι:=Nat×(Unit)×(Unit)) (fun zz=>[(1,.ptr 0 0),(3,.int .i64 ((zz.1:Nat):Int))]) (fun zz=>[.box [.sl 4 (p.Bl.map Aq),.sl 3 (p.Hazards.map Ay)]]) (fun zz=>zz.1≤p.Bl.length∧An (H3 p) zz.1 ((p.Bl).drop zz.1) zz.2.1=some o6) (fun zz=>p.Bl.length - zz.1) (0,(),()) ⟨Nat.zero_le _,fm⟩ cu cu (fun x=>⟨rfl,rfl,rfl⟩) ?_
  clear fm
  rintro⟨k6,⟨⟩,⟨⟩⟩ ⟨hk6,fm⟩
  dsimp only at hk6 fm ⊢
  refine sq (sq (rg rfl fun K j=>?_))
  intro hm
  refine j _ _ (qn ?_)
  refine AWP.cond (Am (fun hc=>?_) (fun hc=>?_))
  rotate_left
  ·obtain rfl:=Bg fm (fun hl=>by have:=Ako hc;omega)
   have h:=Bf rl;try dsimp only at h
   have ag:p.Bl.length=k6:=by have:=Ako hc;omega
   subst ag
   refine xt (qe (qe (bs (qn ?_))))
   exact⟨((),()),h,cu,cu⟩
  have vy:k6<p.Bl.length:=by have:=Akp hc;omega
  obtain⟨dz,b6,vg,h,fm⟩:=Bc fm vy
  have vh:=A9 vg
  have vm:=wk (k:=k6) (by omega)
  unfold H3 at h;try dsimp only at h
  refine sk (qn (sq (bk (sq (sq (rg rfl fun K j=>?_))))))
  refine Bo.of (f:=Aq) (l:=p.Bl) vh ?_
  refine nS ?_
  revert h;refine gf (fun hc h=>?_) fun hc h=>?_
  rotate_left
  ·refine j _ _ (qn ?_)
   refine AWP.cond (Ai ?_)
   refine sq (ar rfl (qn (rt (qr (br (qr (qr ?_)))))))
   obtain rfl:=Aa h
   obtain rfl:=Ae fm
   replace h:=Ao rl
   refine br (qr ?_)
   cases h;exact en Tryz.results87
  refine Bo.of (f:=Aq) (l:=p.Bl) vh ?_
  refine nS ?_
  refine j _ _ (qn ?_)
  revert h;refine ca rfl (fun hc h=>?_) fun hc h=>?_
  ·refine sq (ar rfl (qn (rt (qr (br (qr (qr ?_)))))))
   obtain rfl:=Aa h
   obtain rfl:=Ae fm
   replace h:=Ao rl
   refine br (qr ?_)
   cases h;exact en Tryz.results87
  refine sk (qn (sq (sq ?_)))
  refine AWP.draw Tryz.mixed (by kernel_rfl) ?_;intro K j
  refine nS ?_
  revert h;refine gt (fun hc h=>?_) fun hc h=>?_
  ·refine Bo.of (f:=Aq) (l:=p.Bl) vh ?_
   refine nS ?_
   obtain⟨ke,vd,h⟩:=Ah h
   refine Bo.of (f:=Aq) (l:=p.Bl) vd ?_
   refine nS ?_
   refine j _ _ _ (by kernel_rfl) ?_
   refine qn ?_
   revert h;refine ca rfl (fun hc h=>?_) fun hc h=>?_
   ·refine sq (ar rfl (qn (rt (qr (br (qr (qr ?_)))))))
    obtain rfl:=Aa h
    obtain rfl:=Ae fm
    replace h:=Ao rl
    refine br (qr ?_)
    cases h;exact en Tryz.results87
   refine sk (qn (sq (rg rfl fun K j=>?_)))
   refine Bo.of (f:=Aq) (l:=p.Bl) vh ?_
   refine nS ?_
   obtain⟨cf,dt,h⟩:=Ah h
   refine Al.pure Tryz.call183 (Ug dz.List_ dt) rfl fun _ hr=>?_
   subst hr
   refine nS ?_
   refine j _ _ (qn (sq ?_))
   refine ar rfl (qn ?_)
   revert h;refine ca rfl (fun hc h=>?_) fun hc h=>?_
   ·refine sq (ar rfl (qn (rt (br (qr (qr ?_))))))
    obtain rfl:=Aa h
    obtain rfl:=Ae fm
    replace h:=Ao rl
    refine br (qr ?_)
    cases h;exact en Tryz.results87
   refine sk (bn (qn (ar rfl (qn ?_))))
   obtain rfl:=Aa h
   refine⟨(k6+1,(),()),⟨by dsimp only;omega,Aj fm⟩,by dsimp only;omega,?_,?_⟩
   ·exact cuw vm
   exact cuw vm
  refine j _ _ _ (by kernel_rfl) ?_
  refine qn ?_
  refine AWP.cond (Bj ?_)
  refine sk (qn (sq (rg rfl fun K j=>?_)))
  refine Bo.of (f:=Aq) (l:=p.Bl) vh ?_
  refine nS ?_
  obtain⟨dd,eh,h⟩:=Ah h
  refine Al.pure Tryz.call183 (Ug dz.List_ eh) rfl fun _ hr=>?_
  subst hr
  refine nS ?_
  refine j _ _ (qn (sq ?_))
  refine ar rfl (qn ?_)
  revert h;refine ca rfl (fun hc h=>?_) fun hc h=>?_
  ·refine sq (ar rfl (qn (rt (br (qr (qr ?_))))))
   obtain rfl:=Aa h
   obtain rfl:=Ae fm
   replace h:=Ao rl
   refine br (qr ?_)
   cases h;exact en Tryz.results87
  refine sk (bn (qn (ar rfl (qn ?_))))
  obtain rfl:=Aa h
  refine⟨(k6+1,(),()),⟨by dsimp only;omega,Aj fm⟩,by dsimp only;omega,?_,?_⟩
  ·exact cuw vm
  exact cuw vm
 rintro⟨⟨⟩,⟨⟩⟩ h
 try dsimp only at h ⊢
 unfold N8 at h;try dsimp only at h
 refine sq (sq (ar rfl (qn (bk ?_))))
 obtain⟨o1,az,dj⟩:=Ah h
 clear h
 refine AWP.Bw (ι:=Nat×(Unit)×(Unit)) (fun zz=>[(1,.ptr 0 0),(5,.int .i64 ((zz.1:Nat):Int))]) (fun zz=>[.box [.sl 4 (p.Bl.map Aq),.sl 3 (p.Hazards.map Ay)]]) (fun zz=>zz.1≤p.Hazards.length∧An (N9 p) zz.1 ((p.Hazards).drop zz.1) zz.2.1=some o1) (fun zz=>p.Hazards.length - zz.1) (0,(),()) ⟨Nat.zero_le _,az⟩ cu cu (fun x=>⟨rfl,rfl,rfl⟩) ?_
 clear az
 rintro⟨k1,⟨⟩,⟨⟩⟩ ⟨jd,az⟩
 dsimp only at jd az ⊢
 refine sq (sq (rg rfl fun K j=>?_))
 intro hm
 refine j _ _ (qn ?_)
 refine AWP.cond (Am (fun hc=>?_) (fun hc=>?_))
 rotate_left
 ·obtain rfl:=Bg az (fun hl=>by have:=Ako hc;omega)
  have h:=Bf dj;try dsimp only at h
  have ag:p.Hazards.length=k1:=by have:=Ako hc;omega
  subst ag
  refine xt (qe (qe (bs (qn (sq (ar rfl (qn (rt ?_))))))))
  cases h;exact en Tryz.results87
 have dy:k1<p.Hazards.length:=by have:=Akp hc;omega
 obtain⟨bb,b1,ei,h,az⟩:=Bc az dy
 have jc:=A9 ei
 have cq:=wk (k:=k1) (by omega)
 unfold N9 at h;try dsimp only at h
 refine sk (qn (sq (bk (sq (rg rfl fun K j=>?_)))))
 refine Bo.of (f:=Ay) (l:=p.Hazards) jc ?_
 refine nS ?_
 refine j _ _ (qn (sq (sq ?_)))
 refine rg rfl fun K j=>?_
 revert h;refine gf (fun hc h=>?_) fun hc h=>?_
 rotate_left
 ·refine j _ _ (qn ?_)
  refine AWP.cond (Ai ?_)
  refine sq (ar rfl (qn (rt (qr (br (qr (qr ?_)))))))
  obtain rfl:=Aa h
  obtain rfl:=Ae az
  replace h:=Ao dj
  refine br (qr ?_)
  cases h;exact en Tryz.results87
 revert h;refine gf (fun hc h=>?_) fun hc h=>?_
 rotate_left
 ·refine j _ _ (qn ?_)
  refine AWP.cond (Ai ?_)
  refine sq (ar rfl (qn (rt (qr (br (qr (qr ?_)))))))
  obtain rfl:=Aa h
  obtain rfl:=Ae az
  replace h:=Ao dj
  refine br (qr ?_)
  cases h;exact en Tryz.results87
 revert h;refine gf (fun hc h=>?_) fun hc h=>?_
 rotate_left
 ·refine j _ _ (qn ?_)
  refine AWP.cond (Ai ?_)
  refine sq (ar rfl (qn (rt (qr (br (qr (qr ?_)))))))
  obtain rfl:=Aa h
  obtain rfl:=Ae az
  replace h:=Ao dj
  refine br (qr ?_)
  cases h;exact en Tryz.results87
 refine j _ _ (qn ?_)
 revert h;refine ca rfl (fun hc h=>?_) fun hc h=>?_
 ·refine sq (ar rfl (qn (rt (qr (br (qr (qr ?_)))))))
  obtain rfl:=Aa h
  obtain rfl:=Ae az
  replace h:=Ao dj
  refine br (qr ?_)
  cases h;exact en Tryz.results87
 refine sk (qn (sq (sq (ar rfl (qn (bk ?_))))))
 obtain⟨o3,bw,gw⟩:=Ah h
 clear h
 obtain⟨hn3,bw⟩:=S3 bw
 refine AWP.Bw (ι:=Nat×(Unit)×(Unit)) (fun zz=>[(1,.ptr 0 0),(5,.int .i64 ((k1:Nat):Int)),(6,.ptr 1 0),(7,.int .i64 ((zz.1:Nat):Int))]) (fun zz=>[.box [.sl 4 (p.Bl.map Aq),.sl 3 (p.Hazards.map Ay)],.box [.int .i64 bb.ID,.int .i64 bb.Run,.int .i64 bb.At]]) (fun zz=>zz.1≤k1∧An (Ky p bb) zz.1 ((List.replicate k1 ()).drop zz.1) zz.2.1=some o3) (fun zz=>k1 - zz.1) (0,(),()) ⟨Nat.zero_le _,bw⟩ cu cu (fun x=>⟨rfl,rfl,rfl⟩) ?_
 clear bw
 rintro⟨k3,⟨⟩,⟨⟩⟩ ⟨nw,bw⟩
 dsimp only at nw bw ⊢
 refine sq (sq (ar rfl (qn ?_)))
 refine AWP.cond (Am (fun hc=>?_) (fun hc=>?_))
 ·have fe:k3<k1:=by have:=Akp hc;omega
  obtain⟨_,b3,_,h,bw⟩:=Bc bw (by rw[Akx];exact fe)
  have iz:=wk (k:=k3) (by omega)
  unfold Ky at h;try dsimp only at h
  refine sk (qn (sq (bk (sq ?_))))
  refine AWP.draw Tryz.mixed (by kernel_rfl) ?_;intro K j
  refine nS ?_
  obtain⟨ch,gn,h⟩:=Ah h
  refine Bo.of (f:=Ay) (l:=p.Hazards) gn ?_
  refine nS ?_
  refine j _ _ _ (by kernel_rfl) ?_
  refine qn ?_
  revert h;refine ca rfl (fun hc h=>?_) fun hc h=>?_
  ·refine sq (ar rfl (qn (rt (br (qr (qr ?_))))))
   obtain rfl:=Aa h
   obtain rfl:=Ae bw
   replace h:=Ao gw
   refine br (qr (br (qr (qr ?_))))
   obtain rfl:=Aa h
   obtain rfl:=Ae az
   replace h:=Ao dj
   refine br (qr ?_)
   cases h;exact en Tryz.results87
  refine sk (bn (qn (ar rfl (qn ?_))))
  obtain rfl:=Aa h
  refine⟨(k3+1,(),()),⟨by dsimp only;omega,Aj bw⟩,by dsimp only;omega,?_,?_⟩
  ·exact cuw iz
  exact cuw iz
 obtain rfl:=Bg bw (fun hl=>by rw[Akx]at hl;have:=Ako hc;omega)
 have h:=Bf gw;try dsimp only at h
 have ag:k1=k3:=by have:=Ako hc;omega
 subst ag
 refine xt (qe (qe (bs (qn (sq (rg rfl fun K j=>?_))))))
 obtain⟨y6,ey,h⟩:=Ah h
 refine Al.pure Tryz.call184 (jR p bb.Run ey) rfl fun _ hr=>?_
 subst hr
 refine nS ?_
 refine j _ _ (qn ?_)
 revert h;refine ca rfl (fun hc h=>?_) fun hc h=>?_
 ·refine sq (ar rfl (qn (rt (br (qr (qr ?_))))))
  obtain rfl:=Aa h
  obtain rfl:=Ae az
  replace h:=Ao dj
  refine br (qr ?_)
  cases h;exact en Tryz.results87
 refine sk (bn (qn (ar rfl (qn ?_))))
 obtain rfl:=Aa h
 refine⟨(k1+1,(),()),⟨by dsimp only;omega,Aj az⟩,by dsimp only;omega,?_,?_⟩
 ·exact cuw cq
 exact cuw cq
def Rr (l:List C5) (k0:Nat) (ab:C5) (sv:Unit):Option (Out (Unit) (Int)):=
 (bif (decide (ab.Run<1))then some (Out.ret 2)else (bif (decide (9999<ab.Run))then some (Out.ret 2)else (bif (decide (ab.Groomed<(-1)))then some (Out.ret 2)else (bif (decide (20000000<ab.Groomed))then some (Out.ret 2)else (bif (decide (ab.Traffic<0))then some (Out.ret 2)else (bif (decide (1000000<ab.Traffic))then some (Out.ret 2)else (bif (decide (0<((k0:Nat):Int)))then (Dv l (IntKind.i64.wrap (((k0:Nat):Int) - 1))).bind fun bb=>(bif (decide (ab.Run≤bb.Run))then some (Out.ret 11)else some (Out.next ()))else some (Out.next ()))))))))
def Pz (l:List C5):Option (Int):=
 (bif (decide (64<((l.length:Nat):Int)))then some 4 else(An (Rr l) 0 l ()).bind fun o0=>o0.on fun s0=>some 0)
theorem cH (l:List C5) {r:Int} (h:Pz l=some r):Ad Tryz.prog 88 [.sl 3 (l.map A1)] (·= .int .i64 r):=by
 refine Ad.nle (Ad.intro Tryz.func88 rfl rfl (by show _≤59;simp) ?_)
 unfold Pz at h
 refine nS (sq ?_)
 refine ar rfl (qn (sq (sq ?_)))
 refine rg rfl fun K j=>?_
 intro hm
 refine j _ _ (qn ?_)
 revert h;refine ca rfl (fun hc h=>?_) fun hc h=>?_
 ·refine sq (ar rfl (qn (rt (qr ?_))))
  cases h;exact en Tryz.results88
 refine sk (qn (sq (sq (ar rfl (qn (bk ?_))))))
 obtain⟨o0,aa,ae⟩:=Ah h
 clear h
 refine AWP.Bw (ι:=Nat×(Unit)×(Unit)) (fun zz=>[(0,.sl 3 (l.map A1)),(3,.int .i64 ((zz.1:Nat):Int))]) (fun zz=>[]) (fun zz=>zz.1≤l.length∧An (Rr l) zz.1 ((l).drop zz.1) zz.2.1=some o0) (fun zz=>l.length - zz.1) (0,(),()) ⟨Nat.zero_le _,aa⟩ cu cu (fun x=>⟨rfl,rfl,rfl⟩) ?_
 clear aa
 rintro⟨k0,⟨⟩,⟨⟩⟩ ⟨bg,aa⟩
 dsimp only at bg aa ⊢
 refine sq (sq (rg rfl fun K j=>?_))
 intro hm
 refine j _ _ (qn ?_)
 refine AWP.cond (Am (fun hc=>?_) (fun hc=>?_))
 rotate_left
 ·obtain rfl:=Bg aa (fun hl=>by have:=Ako hc;omega)
  have h:=Bf ae;try dsimp only at h
  have ag:l.length=k0:=by have:=Ako hc;omega
  subst ag
  refine xt (qe (qe (bs (qn (sq (ar rfl (qn (rt ?_))))))))
  cases h;exact en Tryz.results88
 have ah:k0<l.length:=by have:=Akp hc;omega
 obtain⟨ab,b0,aj,h,aa⟩:=Bc aa ah
 have aw:=A9 aj
 have ak:=wk (k:=k0) (by omega)
 unfold Rr at h;try dsimp only at h
 refine sk (qn (sq (bk (sq (rg rfl fun K j=>?_)))))
 refine Bo.of (f:=A1) (l:=l) aw ?_
 refine nS ?_
 refine j _ _ (qn (sq (sq ?_)))
 refine rg rfl fun K j=>?_
 revert h;refine gf (fun hc h=>?_) fun hc h=>?_
 rotate_left
 ·refine j _ _ (qn ?_)
  refine AWP.cond (Ai ?_)
  refine sq (ar rfl (qn (rt (qr (br (qr (qr ?_)))))))
  obtain rfl:=Aa h
  obtain rfl:=Ae aa
  replace h:=Ao ae
  refine br (qr ?_)
  cases h;exact en Tryz.results88
 revert h;refine gf (fun hc h=>?_) fun hc h=>?_
 rotate_left
 ·refine j _ _ (qn ?_)
  refine AWP.cond (Ai ?_)
  refine sq (ar rfl (qn (rt (qr (br (qr (qr ?_)))))))
  obtain rfl:=Aa h
  obtain rfl:=Ae aa
  replace h:=Ao ae
  refine br (qr ?_)
  cases h;exact en Tryz.results88
 revert h;refine gf (fun hc h=>?_) fun hc h=>?_
 rotate_left
 ·refine j _ _ (qn ?_)
  refine AWP.cond (Ai ?_)
  refine sq (ar rfl (qn (rt (qr (br (qr (qr ?_)))))))
  obtain rfl:=Aa h
  obtain rfl:=Ae aa
  replace h:=Ao ae
  refine br (qr ?_)
  cases h;exact en Tryz.results88
 revert h;refine gf (fun hc h=>?_) fun hc h=>?_
 rotate_left
 ·refine j _ _ (qn ?_)
  refine AWP.cond (Ai ?_)
  refine sq (ar rfl (qn (rt (qr (br (qr (qr ?_)))))))
  obtain rfl:=Aa h
  obtain rfl:=Ae aa
  replace h:=Ao ae
  refine br (qr ?_)
  cases h;exact en Tryz.results88
 revert h;refine gf (fun hc h=>?_) fun hc h=>?_
 rotate_left
 ·refine j _ _ (qn ?_)
  refine AWP.cond (Ai ?_)
  refine sq (ar rfl (qn (rt (qr (br (qr (qr ?_)))))))
  obtain rfl:=Aa h
  obtain rfl:=Ae aa
  replace h:=Ao ae
  refine br (qr ?_)
  cases h;exact en Tryz.results88
 refine j _ _ (qn ?_)
 revert h;refine ca rfl (fun hc h=>?_) fun hc h=>?_
 ·refine sq (ar rfl (qn (rt (qr (br (qr (qr ?_)))))))
  obtain rfl:=Aa h
  obtain rfl:=Ae aa
  replace h:=Ao ae
  refine br (qr ?_)
  cases h;exact en Tryz.results88
 refine sk (qn (sq ?_))
 refine AWP.draw Tryz.mixed (by kernel_rfl) ?_;intro K j
 refine nS ?_
 revert h;refine gt (fun hc h=>?_) fun hc h=>?_
 ·obtain⟨bb,du,h⟩:=Ah h
  refine Bo.of (f:=A1) (l:=l) du ?_
  refine nS ?_
  refine j _ _ _ (by kernel_rfl) ?_
  refine qn ?_
  revert h;refine ca rfl (fun hc h=>?_) fun hc h=>?_
  ·refine sq (ar rfl (qn (rt (br (qr (qr ?_))))))
   obtain rfl:=Aa h
   obtain rfl:=Ae aa
   replace h:=Ao ae
   refine br (qr ?_)
   cases h;exact en Tryz.results88
  refine sk (bn (qn (ar rfl (qn ?_))))
  obtain rfl:=Aa h
  refine⟨(k0+1,(),()),⟨by dsimp only;omega,Aj aa⟩,by dsimp only;omega,?_,?_⟩
  ·exact cuw ak
  exact cuw ak
 refine j _ _ _ (by kernel_rfl) ?_
 refine qn ?_
 refine AWP.cond (Bj ?_)
 refine sk (bn (qn (ar rfl (qn ?_))))
 obtain rfl:=Aa h
 refine⟨(k0+1,(),()),⟨by dsimp only;omega,Aj aa⟩,by dsimp only;omega,?_,?_⟩
 ·exact cuw ak
 exact cuw ak
def Qn (l:List Int) (most:Int) (k0:Nat) (ab:Int) (sv:Unit):Option (Out (Unit) (Bool)):=
 (bif (decide (ab<1))then some (Out.ret false)else (bif (decide (most<ab))then some (Out.ret false)else (bif (decide (0<((k0:Nat):Int)))then (Dv l (IntKind.i64.wrap (((k0:Nat):Int) - 1))).bind fun bb=>(bif (decide (ab≤bb))then some (Out.ret false)else some (Out.next ()))else some (Out.next ()))))
def Oc (l:List Int) (most:Int):Option (Bool):=
 (An (Qn l most) 0 l ()).bind fun o0=>o0.on fun s0=>some true
theorem Sx (l:List Int) (most:Int) {r:Bool} (h:Oc l most=some r):Ad Tryz.prog 185 [.sl 1 (l.map Bb),.int .i64 most] (·= .bool r):=by
 refine Ad.nle (Ad.intro Tryz.func185 rfl rfl (by show _≤41;simp) ?_)
 unfold Oc at h
 refine nS (sq ?_)
 refine ar rfl (qn (sq (sq ?_)))
 refine ar rfl (qn (bk ?_))
 obtain⟨o0,aa,ae⟩:=Ah h
 clear h
 refine AWP.Bw (ι:=Nat×(Unit)×(Unit)) (fun zz=>[(0,.sl 1 (l.map Bb)),(1,.int .i64 most),(5,.int .i64 ((zz.1:Nat):Int))]) (fun zz=>[]) (fun zz=>zz.1≤l.length∧An (Qn l most) zz.1 ((l).drop zz.1) zz.2.1=some o0) (fun zz=>l.length - zz.1) (0,(),()) ⟨Nat.zero_le _,aa⟩ cu cu (fun x=>⟨rfl,rfl,rfl⟩) ?_
 clear aa
 rintro⟨k0,⟨⟩,⟨⟩⟩ ⟨bg,aa⟩
 dsimp only at bg aa ⊢
 refine sq (sq (rg rfl fun K j=>?_))
 intro hm
 refine j _ _ (qn ?_)
 refine AWP.cond (Am (fun hc=>?_) (fun hc=>?_))
 rotate_left
 ·obtain rfl:=Bg aa (fun hl=>by have:=Ako hc;omega)
  have h:=Bf ae;try dsimp only at h
  have ag:l.length=k0:=by have:=Ako hc;omega
  subst ag
  refine xt (qe (qe (bs (qn (sq (ar rfl (qn (rt ?_))))))))
  cases h;exact en Tryz.results185
 have ah:k0<l.length:=by have:=Akp hc;omega
 obtain⟨ab,b0,aj,h,aa⟩:=Bc aa ah
 have aw:=A9 aj
 have ak:=wk (k:=k0) (by omega)
 unfold Qn at h;try dsimp only at h
 refine sk (qn (sq (bk (sq ?_))))
 refine AWP.draw Tryz.mixed (by kernel_rfl) ?_;intro K j
 refine nS ?_
 refine Bo.of (f:=Bb) (l:=l) aw ?_
 refine nS ?_
 revert h;refine gf (fun hc h=>?_) fun hc h=>?_
 rotate_left
 ·refine j _ _ _ (by kernel_rfl) ?_
  refine qn ?_
  refine AWP.cond (Ai ?_)
  refine sq (ar rfl (qn (rt (br (qr (qr ?_))))))
  obtain rfl:=Aa h
  obtain rfl:=Ae aa
  replace h:=Ao ae
  refine br (qr ?_)
  cases h;exact en Tryz.results185
 refine Bo.of (f:=Bb) (l:=l) aw ?_
 refine nS ?_
 revert h;refine gf (fun hc h=>?_) fun hc h=>?_
 rotate_left
 ·refine j _ _ _ (by kernel_rfl) ?_
  refine qn ?_
  refine AWP.cond (Ai ?_)
  refine sq (ar rfl (qn (rt (br (qr (qr ?_))))))
  obtain rfl:=Aa h
  obtain rfl:=Ae aa
  replace h:=Ao ae
  refine br (qr ?_)
  cases h;exact en Tryz.results185
 revert h;refine gt (fun hc h=>?_) fun hc h=>?_
 ·refine Bo.of (f:=Bb) (l:=l) aw ?_
  refine nS ?_
  obtain⟨bb,du,h⟩:=Ah h
  refine Bo.of (f:=Bb) (l:=l) du ?_
  refine nS ?_
  refine j _ _ _ (by kernel_rfl) ?_
  refine qn ?_
  revert h;refine ca rfl (fun hc h=>?_) fun hc h=>?_
  ·refine sq (ar rfl (qn (rt (br (qr (qr ?_))))))
   obtain rfl:=Aa h
   obtain rfl:=Ae aa
   replace h:=Ao ae
   refine br (qr ?_)
   cases h;exact en Tryz.results185
  refine sk (bn (qn (ar rfl (qn ?_))))
  obtain rfl:=Aa h
  refine⟨(k0+1,(),()),⟨by dsimp only;omega,Aj aa⟩,by dsimp only;omega,?_,?_⟩
  ·exact cuw ak
  exact cuw ak
 refine j _ _ _ (by kernel_rfl) ?_
 refine qn ?_
 refine AWP.cond (Bj ?_)
 refine sk (bn (qn (ar rfl (qn ?_))))
 obtain rfl:=Aa h
 refine⟨(k0+1,(),()),⟨by dsimp only;omega,Aj aa⟩,by dsimp only;omega,?_,?_⟩
 ·exact cuw ak
 exact cuw ak
end
end Go.Proofs.YtjopghiagoidgaaGreat
