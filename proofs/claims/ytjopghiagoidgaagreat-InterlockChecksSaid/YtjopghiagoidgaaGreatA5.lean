/- Our own texts: a layer of abstract values over the model, the walks of the functions, the plain laws; joined and shortened by a small program of our own (wip/dce2.py, wip/pack.py). -/
import Derived.Test.YtjopghiagoidgaaGreatA4
import Derived.Calls
import Derived.Tactics2
import Derived.Below
import Derived.Deep.LoopGhost
import Derived.KernelRfl
import Derived.Laws.Shifts
import Derived.Laws.CopyRow
import Derived.Laws.AppendOwn
import Derived.Laws.MakeOwn
import Derived.Laws.StructEq
import Derived.Maps.RangeRun
import Derived.Lib.SliceRun
import Derived.TacticsIn
import Derived.OrdersIn
import Derived.Sort.LoopGhostIn
import Derived.RangeFuncRecord
import Derived.Orders
import Derived.ProofKit
import Derived.OpenShut
import Derived.ShutString
import Derived.ChangeOld
import Derived.Carry
import Derived.WideShapes
import Derived.ChangeArms
import Derived.ChangeShapes
import Derived.Handed
import Derived.JoinedOf
import Derived.Sort.Grow
import Derived.Lib.SlicesCompact
import Derived.Lib.SlKeysI
import Derived.Maps.Own
import Derived.WideKeyRuns
import Derived.Test.YtjopghiagoidgaaGreatChecked
import Derived.Test.YtjopghiagoidgaaGreatProg
import Derived.Shelf.SortM.Plain
import Derived.Shelf.SortM.SortNone
import Derived.Shelf.SlIterI.Nil
import Derived.Shelf.Slices.CompactI
namespace Go.Proofs.YtjopghiagoidgaaGreat
open Go Go.Ab
attribute [local irreducible] AWP An B7 Ad Go.Ab.Sub alist dlist Bn Dd Dy Gt
set_option maxRecDepth 100000
set_option maxHeartbeats 4000000
set_option linter.unusedSimpArgs false
set_option linter.unusedVariables false
noncomputable section
def Sy (id_:Int) (k0:Nat) (x_2:Cc) (sv:Unit):Option (Out (Unit) (Cc×Bool)):=
 (bif (decide (x_2.ID=id_))then some (Out.ret (x_2,true))else some (Out.next ()))
def Uj (m:Ba) (id_:Int):Option (Cc×Bool):=
 (Am (Sy id_) 0 m.Lifts ()).bind fun o0=>o0.on fun s0=>some ((Cc.mk 0 0 0 0 0 0 0 0),false)
theorem Vf (m:Ba) (id_:Int) {r:Cc×Bool} (h:Uj m id_=some r):Ad Tryz.prog 42 [.agg (Ce m),.int .i64 id_] (·= .tuple [.agg (A7 r.1),.bool r.2]):=by
 refine Ad.nle (Ad.intro Tryz.func42 rfl rfl (by show _≤28;simp) ?_)
 unfold Uj at h
 refine nS (sq ?_)
 refine ar rfl (qn (sq (sq ?_)))
 refine ar rfl (qn (bk ?_))
 obtain⟨o0,hJ0,hO0⟩:=Ah h
 clear h
 refine AWP.Bw (ι:=Nat×(Unit)×(Unit)) (fun zz=>[(1,.int .i64 id_),(2,.ptr 0 0),(4,.ptr 1 0),(6,.int .i64 ((zz.1:Nat):Int))]) (fun zz=>[.box [.sl 2 (m.Nodes.map A6),.sl 8 (m.Lifts.map A7),.sl 7 (m.Runs.map Bd),.sl 1 (m.Bases.map A5)],.box [.int .i64 0,.int .i64 0,.int .i64 0,.int .i64 0,.int .i64 0,.int .i64 0,.int .i64 0,.int .i64 0]]) (fun zz=>zz.1≤m.Lifts.length∧Am (Sy id_) zz.1 ((m.Lifts).drop zz.1) zz.2.1=some o0) (fun zz=>m.Lifts.length - zz.1) (0,(),()) ⟨Nat.zero_le _,hJ0⟩ cu cu (fun x=>⟨rfl,rfl,rfl⟩) ?_
 clear hJ0
 rintro⟨k0,⟨⟩,⟨⟩⟩ ⟨hk0,hJ0⟩
 dsimp only at hk0 hJ0 ⊢
 refine sq (sq ?_)
 refine rg rfl fun K j=>?_
 intro hm
 refine j _ _ (qn ?_)
 refine AWP.cond (Ak (fun hc=>?_) (fun hc=>?_))
 rotate_left
 ·obtain rfl:=Bf hJ0 (fun hl=>by have:=Ah9 hc;omega)
  have h:=Be hO0;try dsimp only at h
  have hkl:m.Lifts.length=k0:=by have:=Ah9 hc;omega
  subst hkl
  refine xt (qe (qe (bs (qn (sq (ar rfl (qn (rt ?_))))))))
  cases h;exact en Tryz.results42
 have hlt0:k0<m.Lifts.length:=by have:=Aia hc;omega
 obtain⟨x_2,b0,hx0_,h,hJ0⟩:=A9 hJ0 hlt0
 have hx0:=Ay hx0_
 have hw0:=wk (k:=k0) (by omega)
 unfold Sy at h;try dsimp only at h
 refine sk (qn (sq (bk (sq ?_))))
 refine rg rfl fun K j=>?_
 refine Bn.of (f:=A7) (l:=m.Lifts) hx0 ?_
 refine nS ?_
 refine j _ _ (qn ?_)
 revert h;refine ca rfl (fun hc h=>?_) fun hc h=>?_
 ·refine sq ?_
  refine rg rfl fun K j=>?_
  refine Bn.of (f:=A7) (l:=m.Lifts) hx0 ?_
  refine nS ?_
  refine j _ _ (qn (rt (br (qr (qr ?_)))))
  obtain rfl:=Aa h
  obtain rfl:=Ae hJ0
  replace h:=Al hO0
  refine br (qr ?_)
  cases h;exact en Tryz.results42
 refine sk (bn (qn (ar rfl (qn ?_))))
 obtain rfl:=Aa h
 refine⟨(k0+1,(),()),⟨by dsimp only;omega,Ai hJ0⟩,by dsimp only;omega,?_,?_⟩
 ·exact cuw hw0
 exact cuw hw0
def Tt (n_:Int) (lo:Int) (hi:Int):Option (Bool):=
 (bif (decide (lo≤n_))then some (decide (n_≤hi))else some false)
theorem Sw (n_:Int) (lo:Int) (hi:Int) {r:Bool} (h:Tt n_ lo hi=some r):Ad Tryz.prog 94 [.int .i64 n_,.int .i64 lo,.int .i64 hi] (·= .bool r):=by
 refine Ad.nle (Ad.intro Tryz.func94 rfl rfl (by show _≤15;simp) ?_)
 unfold Tt at h
 refine nS (sq ?_)
 refine ar rfl (qn (sq ?_))
 refine rg rfl fun K j=>?_
 revert h;refine gt (fun hc h=>?_) fun hc h=>?_
 ·refine j _ _ (qn (rt ?_))
  cases h;exact en Tryz.results94
 refine j _ _ (qn (rt ?_))
 cases h;exact en Tryz.results94
def Ke (p:Fi):Option (Bool):=
 (Tt p.Natural 0 20000).bind fun y1=>(bif y1 then(Tt p.Machine 0 20000).bind fun y2=>(bif y2 then(Tt p.Density 50 900).bind fun y3=>some y3 else some false)else some false)
theorem bO (p:Fi) {r:Bool} (h:Ke p=some r):Ad Tryz.prog 43 [.agg (Ob p)] (·= .bool r):=by
 refine Ad.nle (Ad.intro Tryz.func43 rfl rfl (by show _≤16;simp) ?_)
 unfold Ke at h
 refine nS (sq ?_)
 refine ar rfl (qn (sq ?_))
 refine rg rfl fun K j=>?_
 obtain⟨y1,hy1,h⟩:=Ah h
 refine An.pure Tryz.call94 (Sw p.Natural 0 20000 hy1) rfl fun _ hr=>?_
 subst hr
 refine nS ?_
 revert h;refine gt (fun hc h=>?_) fun hc h=>?_
 ·obtain⟨y2,hy2,h⟩:=Ah h
  refine An.pure Tryz.call94 (Sw p.Machine 0 20000 hy2) rfl fun _ hr=>?_
  subst hr
  refine nS ?_
  revert h;refine gt (fun hc h=>?_) fun hc h=>?_
  ·obtain⟨y3,hy3,h⟩:=Ah h
   refine An.pure Tryz.call94 (Sw p.Density 50 900 hy3) rfl fun _ hr=>?_
   subst hr
   refine nS ?_
   refine j _ _ (qn (rt ?_))
   cases h;exact en Tryz.results43
  refine j _ _ (qn (rt ?_))
  cases h;exact en Tryz.results43
 refine j _ _ (qn (rt ?_))
 cases h;exact en Tryz.results43
def Ui (id_:Int) (k0:Nat) (x_2:Cd) (sv:Unit):Option (Out (Unit) (Cd×Bool)):=
 (bif (decide (x_2.ID=id_))then some (Out.ret (x_2,true))else some (Out.next ()))
def K0 (m:Ba) (id_:Int):Option (Cd×Bool):=
 (Am (Ui id_) 0 m.Runs ()).bind fun o0=>o0.on fun s0=>some ((Cd.mk 0 0 0 0 0 0 0),false)
theorem V8 (m:Ba) (id_:Int) {r:Cd×Bool} (h:K0 m id_=some r):Ad Tryz.prog 32 [.agg (Ce m),.int .i64 id_] (·= .tuple [.agg (Bd r.1),.bool r.2]):=by
 refine Ad.nle (Ad.intro Tryz.func32 rfl rfl (by show _≤28;simp) ?_)
 unfold K0 at h
 refine nS (sq ?_)
 refine ar rfl (qn (sq (sq ?_)))
 refine ar rfl (qn (bk ?_))
 obtain⟨o0,hJ0,hO0⟩:=Ah h
 clear h
 refine AWP.Bw (ι:=Nat×(Unit)×(Unit)) (fun zz=>[(1,.int .i64 id_),(2,.ptr 0 0),(4,.ptr 1 0),(6,.int .i64 ((zz.1:Nat):Int))]) (fun zz=>[.box [.sl 2 (m.Nodes.map A6),.sl 8 (m.Lifts.map A7),.sl 7 (m.Runs.map Bd),.sl 1 (m.Bases.map A5)],.box [.int .i64 0,.int .i64 0,.int .i64 0,.int .i64 0,.int .i64 0,.int .i64 0,.int .i64 0]]) (fun zz=>zz.1≤m.Runs.length∧Am (Ui id_) zz.1 ((m.Runs).drop zz.1) zz.2.1=some o0) (fun zz=>m.Runs.length - zz.1) (0,(),()) ⟨Nat.zero_le _,hJ0⟩ cu cu (fun x=>⟨rfl,rfl,rfl⟩) ?_
 clear hJ0
 rintro⟨k0,⟨⟩,⟨⟩⟩ ⟨hk0,hJ0⟩
 dsimp only at hk0 hJ0 ⊢
 refine sq (sq ?_)
 refine rg rfl fun K j=>?_
 intro hm
 refine j _ _ (qn ?_)
 refine AWP.cond (Ak (fun hc=>?_) (fun hc=>?_))
 rotate_left
 ·obtain rfl:=Bf hJ0 (fun hl=>by have:=Ah9 hc;omega)
  have h:=Be hO0;try dsimp only at h
  have hkl:m.Runs.length=k0:=by have:=Ah9 hc;omega
  subst hkl
  refine xt (qe (qe (bs (qn (sq (ar rfl (qn (rt ?_))))))))
  cases h;exact en Tryz.results32
 have hlt0:k0<m.Runs.length:=by have:=Aia hc;omega
 obtain⟨x_2,b0,hx0_,h,hJ0⟩:=A9 hJ0 hlt0
 have hx0:=Ay hx0_
 have hw0:=wk (k:=k0) (by omega)
 unfold Ui at h;try dsimp only at h
 refine sk (qn (sq (bk (sq ?_))))
 refine rg rfl fun K j=>?_
 refine Bn.of (f:=Bd) (l:=m.Runs) hx0 ?_
 refine nS ?_
 refine j _ _ (qn ?_)
 revert h;refine ca rfl (fun hc h=>?_) fun hc h=>?_
 ·refine sq ?_
  refine rg rfl fun K j=>?_
  refine Bn.of (f:=Bd) (l:=m.Runs) hx0 ?_
  refine nS ?_
  refine j _ _ (qn (rt (br (qr (qr ?_)))))
  obtain rfl:=Aa h
  obtain rfl:=Ae hJ0
  replace h:=Al hO0
  refine br (qr ?_)
  cases h;exact en Tryz.results32
 refine sk (bn (qn (ar rfl (qn ?_))))
 obtain rfl:=Aa h
 refine⟨(k0+1,(),()),⟨by dsimp only;omega,Ai hJ0⟩,by dsimp only;omega,?_,?_⟩
 ·exact cuw hw0
 exact cuw hw0
def J5 (f_:Aj) (k3:Nat) (x_5:Bi) (sv:Unit):Option (Out (Unit) (Int)):=
 (bif (decide (0<((k3:Nat):Int)))then (Dh f_.Status (IntKind.i64.wrap (((k3:Nat):Int) - 1))).bind fun x_6=>(bif (decide (x_5.Run≤x_6.Run))then some (Out.ret 11)else (K0 f_.Map x_5.Run).bind fun y7=>(bif (!y7.2)then some (Out.ret 8)else (bif (decide (x_5.Since<0))then some (Out.ret 2)else (bif (decide (20000000<x_5.Since))then some (Out.ret 2)else some (Out.next ())))))else (K0 f_.Map x_5.Run).bind fun y8=>(bif (!y8.2)then some (Out.ret 8)else (bif (decide (x_5.Since<0))then some (Out.ret 2)else (bif (decide (20000000<x_5.Since))then some (Out.ret 2)else some (Out.next ())))))
def J2 (f_:Aj):Option (Int):=
 (Am (J5 f_) 0 f_.Status ()).bind fun o3=>o3.on fun s3=>(bif (decide (f_.Depth<0))then some 2 else(bif (decide (10000<f_.Depth))then some 2 else(bif (decide (f_.Time<0))then some 2 else(bif (decide (20000000<f_.Time))then some 2 else some 0))))
def J4 (f_:Aj) (k8:Nat) (x_10:C0) (sv:Unit):Option (Out (Unit) (Int)):=
 (bif (decide (x_10.Area<1))then some (Out.ret 2)else (bif (decide (10000000<x_10.Area))then some (Out.ret 2)else (Ke x_10.Pack).bind fun y11=>(bif (!y11)then some (Out.ret 2)else (bif (decide (0<((k8:Nat):Int)))then (Dh f_.Packs (IntKind.i64.wrap (((k8:Nat):Int) - 1))).bind fun x_12=>(bif (decide (x_10.Run≤x_12.Run))then some (Out.ret 11)else some (Out.next ()))else some (Out.next ())))))
def J3 (f_:Aj):Option (Int):=
 (Am (J4 f_) 0 f_.Packs ()).bind fun o8=>o8.on fun s8=>J2 f_
def Nb (f_:Aj) (k12:Nat) (x_14:Cr) (sv:Unit):Option (Out (Unit) (Int)):=
 (bif (decide (0<((k12:Nat):Int)))then (Dh f_.Lifts (IntKind.i64.wrap (((k12:Nat):Int) - 1))).bind fun x_15=>(bif (decide (x_14.Lift≤x_15.Lift))then some (Out.ret 11)else (Uj f_.Map x_14.Lift).bind fun y16=>(bif (!y16.2)then some (Out.ret 8)else (bif (decide (x_14.Mode<0))then some (Out.ret 2)else (bif (decide (3<x_14.Mode))then some (Out.ret 2)else some (Out.next ())))))else (Uj f_.Map x_14.Lift).bind fun y17=>(bif (!y17.2)then some (Out.ret 8)else (bif (decide (x_14.Mode<0))then some (Out.ret 2)else (bif (decide (3<x_14.Mode))then some (Out.ret 2)else some (Out.next ())))))
def Hv (f_:Aj):Option (Int):=
 (J1 f_).bind fun y1=>(bif (decide (y1≠0))then some y1 else(bif (decide (32<((f_.Lifts.length:Nat):Int)))then some 4 else(bif (decide (64<((f_.Packs.length:Nat):Int)))then some 4 else(bif (decide (64<((f_.Status.length:Nat):Int)))then some 4 else(Am (Nb f_) 0 f_.Lifts ()).bind fun o12=>o12.on fun s12=>J3 f_))))
theorem aW (f_:Aj) {r:Int} (h:Hv f_=some r):Ad Tryz.prog 13 [.agg (B5 f_)] (·= .int .i64 r):=by
 refine Ad.nle (Ad.intro Tryz.func13 rfl rfl (by show _≤211;simp) ?_)
 unfold Hv at h
 refine nS (sq ?_)
 refine ar rfl (qn (sq (sq ?_)))
 refine rg rfl fun K j=>?_
 obtain⟨y1,hy1,h⟩:=Ah h
 refine An.pure Tryz.call41 (aV f_ hy1) rfl fun _ hr=>?_
 subst hr
 refine nS ?_
 refine j _ _ (qn (sq ?_))
 refine ar rfl (qn ?_)
 revert h;refine ca rfl (fun hc h=>?_) fun hc h=>?_
 ·refine sq (ar rfl (qn (rt (qr ?_))))
  cases h;exact en Tryz.results13
 refine sk (qn (sq (sq ?_)))
 refine rg rfl fun K j=>?_
 intro hm
 revert h;refine gf (fun hc h=>?_) fun hc h=>?_
 rotate_left
 ·refine j _ _ (qn ?_)
  refine AWP.cond (Af ?_)
  refine sq (ar rfl (qn (rt (qr ?_))))
  cases h;exact en Tryz.results13
 intro hm
 revert h;refine gf (fun hc h=>?_) fun hc h=>?_
 rotate_left
 ·refine j _ _ (qn ?_)
  refine AWP.cond (Af ?_)
  refine sq (ar rfl (qn (rt (qr ?_))))
  cases h;exact en Tryz.results13
 intro hm
 refine j _ _ (qn ?_)
 revert h;refine ca rfl (fun hc h=>?_) fun hc h=>?_
 ·refine sq (ar rfl (qn (rt (qr ?_))))
  cases h;exact en Tryz.results13
 refine sk (qn ?_)
 refine AWP.L3 (ι:=(Unit)×(Unit)) (fun zz=>[(1,.ptr 0 0)]) (fun zz=>[.box [.sl 2 (f_.Map.Nodes.map A6),.sl 8 (f_.Map.Lifts.map A7),.sl 7 (f_.Map.Runs.map Bd),.sl 1 (f_.Map.Bases.map A5),.sl 2 (f_.Lifts.map Ax),.sl 4 (f_.Closures.map Au),.sl 4 (f_.Patrol.Bv.map Av),.sl 3 (f_.Patrol.Hazards.map A1),.sl 3 (f_.Surfaces.map A8),.sl 5 (f_.Packs.map A3),.sl 6 (f_.Slides.map Bb),.sl 7 (f_.Bulletin.map Aw),.sl 7 (f_.Missions.map Aq),.sl 4 (f_.Winches.map Ap),.sl 8 (f_.Groomers.map A2),.sl 3 (f_.Status.map A4),.int .i64 f_.Depth,.int .i64 f_.Time]]) (fun zz=>J3 f_=some r) (fun zz=>⟨rfl,rfl,rfl⟩) ?_ ?_
 ·refine sq (ar rfl (qn (bk ?_)))
  obtain⟨o12,hJ12,hO12⟩:=Ah h
  clear h
  refine AWP.Bw (ι:=Nat×(Unit)×(Unit)) (fun zz=>[(1,.ptr 0 0),(4,.int .i64 ((zz.1:Nat):Int))]) (fun zz=>[.box [.sl 2 (f_.Map.Nodes.map A6),.sl 8 (f_.Map.Lifts.map A7),.sl 7 (f_.Map.Runs.map Bd),.sl 1 (f_.Map.Bases.map A5),.sl 2 (f_.Lifts.map Ax),.sl 4 (f_.Closures.map Au),.sl 4 (f_.Patrol.Bv.map Av),.sl 3 (f_.Patrol.Hazards.map A1),.sl 3 (f_.Surfaces.map A8),.sl 5 (f_.Packs.map A3),.sl 6 (f_.Slides.map Bb),.sl 7 (f_.Bulletin.map Aw),.sl 7 (f_.Missions.map Aq),.sl 4 (f_.Winches.map Ap),.sl 8 (f_.Groomers.map A2),.sl 3 (f_.Status.map A4),.int .i64 f_.Depth,.int .i64 f_.Time]]) (fun zz=>zz.1≤f_.Lifts.length∧Am (Nb f_) zz.1 ((f_.Lifts).drop zz.1) zz.2.1=some o12) (fun zz=>f_.Lifts.length - zz.1) (0,(),()) ⟨Nat.zero_le _,hJ12⟩ cu cu (fun x=>⟨rfl,rfl,rfl⟩) ?_
  clear hJ12
  rintro⟨k12,⟨⟩,⟨⟩⟩ ⟨hk12,hJ12⟩
  dsimp only at hk12 hJ12 ⊢
  refine sq (sq ?_)
  refine rg rfl fun K j=>?_
  intro hm
  refine j _ _ (qn ?_)
  refine AWP.cond (Ak (fun hc=>?_) (fun hc=>?_))
  rotate_left
  ·obtain rfl:=Bf hJ12 (fun hl=>by have:=Ah9 hc;omega)
   have h:=Be hO12;try dsimp only at h
   have hkl:f_.Lifts.length=k12:=by have:=Ah9 hc;omega
   subst hkl
   refine xt (qe (qe (bs (qn ?_))))
   exact⟨((),()),h,cu,cu⟩
  have hlt12:k12<f_.Lifts.length:=by have:=Aia hc;omega
  obtain⟨x_14,b12,hx12_,h,hJ12⟩:=A9 hJ12 hlt12
  have hx12:=Ay hx12_
  have hw12:=wk (k:=k12) (by omega)
  unfold Nb at h;try dsimp only at h
  refine sk (qn (sq (bk (sq (sq ?_)))))
  refine AWP.draw Tryz.mixed (by kernel_rfl) ?_;intro K j
  refine nS ?_
  revert h;refine gt (fun hc h=>?_) fun hc h=>?_
  ·refine Bn.of (f:=Ax) (l:=f_.Lifts) hx12 ?_
   refine nS ?_
   obtain⟨x_15,hx_15,h⟩:=Ah h
   refine Bn.of (f:=Ax) (l:=f_.Lifts) hx_15 ?_
   refine nS ?_
   refine j _ _ _ (by kernel_rfl) ?_
   refine qn ?_
   revert h;refine ca rfl (fun hc h=>?_) fun hc h=>?_
   ·refine sq (ar rfl (qn (rt (qr (br (qr (qr ?_)))))))
    obtain rfl:=Aa h
    obtain rfl:=Ae hJ12
    replace h:=Al hO12
    refine br (qr ?_)
    cases h;exact en Tryz.results13
   refine sk (qn (sq (sq ?_)))
   refine AWP.draw Tryz.mixed (by kernel_rfl) ?_;intro K j
   refine nS ?_
   refine Bn.of (f:=Ax) (l:=f_.Lifts) hx12 ?_
   refine nS ?_
   obtain⟨y16,hy16,h⟩:=Ah h
   refine B7.pure Tryz.call42 (Vf f_.Map x_14.Lift hy16) rfl ?_
   refine nS ?_
   refine j _ _ _ (by kernel_rfl) ?_
   refine qn (sq (ar rfl (qn ?_)))
   revert h;refine ca rfl (fun hc h=>?_) fun hc h=>?_
   ·refine sq (ar rfl (qn (rt (qr (br (qr (qr ?_)))))))
    obtain rfl:=Aa h
    obtain rfl:=Ae hJ12
    replace h:=Al hO12
    refine br (qr ?_)
    cases h;exact en Tryz.results13
   refine sk (qn (sq ?_))
   refine rg rfl fun K j=>?_
   refine Bn.of (f:=Ax) (l:=f_.Lifts) hx12 ?_
   refine nS ?_
   revert h;refine gf (fun hc h=>?_) fun hc h=>?_
   ·refine Bn.of (f:=Ax) (l:=f_.Lifts) hx12 ?_
    refine nS ?_
    refine j _ _ (qn ?_)
    revert h;refine ca rfl (fun hc h=>?_) fun hc h=>?_
    ·refine sq (ar rfl (qn (rt (br (qr (qr ?_))))))
     obtain rfl:=Aa h
     obtain rfl:=Ae hJ12
     replace h:=Al hO12
     refine br (qr ?_)
     cases h;exact en Tryz.results13
    refine sk (bn (qn (ar rfl (qn ?_))))
    obtain rfl:=Aa h
    refine⟨(k12+1,(),()),⟨by dsimp only;omega,Ai hJ12⟩,by dsimp only;omega,?_,?_⟩
    ·exact cuw hw12
    exact cuw hw12
   refine j _ _ (qn ?_)
   refine AWP.cond (Af ?_)
   refine sq (ar rfl (qn (rt (br (qr (qr ?_))))))
   obtain rfl:=Aa h
   obtain rfl:=Ae hJ12
   replace h:=Al hO12
   refine br (qr ?_)
   cases h;exact en Tryz.results13
  refine j _ _ _ (by kernel_rfl) ?_
  refine qn ?_
  refine AWP.cond (Bj ?_)
  refine sk (qn (sq (sq ?_)))
  refine AWP.draw Tryz.mixed (by kernel_rfl) ?_;intro K j
  refine nS ?_
  refine Bn.of (f:=Ax) (l:=f_.Lifts) hx12 ?_
  refine nS ?_
  obtain⟨y17,hy17,h⟩:=Ah h
  refine B7.pure Tryz.call42 (Vf f_.Map x_14.Lift hy17) rfl ?_
  refine nS ?_
  refine j _ _ _ (by kernel_rfl) ?_
  refine qn (sq (ar rfl (qn ?_)))
  revert h;refine ca rfl (fun hc h=>?_) fun hc h=>?_
  ·refine sq (ar rfl (qn (rt (qr (br (qr (qr ?_)))))))
   obtain rfl:=Aa h
   obtain rfl:=Ae hJ12
   replace h:=Al hO12
   refine br (qr ?_)
   cases h;exact en Tryz.results13
  refine sk (qn (sq ?_))
  refine rg rfl fun K j=>?_
  refine Bn.of (f:=Ax) (l:=f_.Lifts) hx12 ?_
  refine nS ?_
  revert h;refine gf (fun hc h=>?_) fun hc h=>?_
  ·refine Bn.of (f:=Ax) (l:=f_.Lifts) hx12 ?_
   refine nS ?_
   refine j _ _ (qn ?_)
   revert h;refine ca rfl (fun hc h=>?_) fun hc h=>?_
   ·refine sq (ar rfl (qn (rt (br (qr (qr ?_))))))
    obtain rfl:=Aa h
    obtain rfl:=Ae hJ12
    replace h:=Al hO12
    refine br (qr ?_)
    cases h;exact en Tryz.results13
   refine sk (bn (qn (ar rfl (qn ?_))))
   obtain rfl:=Aa h
   refine⟨(k12+1,(),()),⟨by dsimp only;omega,Ai hJ12⟩,by dsimp only;omega,?_,?_⟩
   ·exact cuw hw12
   exact cuw hw12
  refine j _ _ (qn ?_)
  refine AWP.cond (Af ?_)
  refine sq (ar rfl (qn (rt (br (qr (qr ?_))))))
  obtain rfl:=Aa h
  obtain rfl:=Ae hJ12
  replace h:=Al hO12
  refine br (qr ?_)
  cases h;exact en Tryz.results13
 rintro⟨⟨⟩,⟨⟩⟩ h
 try dsimp only at h ⊢
 unfold J3 at h;try dsimp only at h
 refine AWP.L3 (ι:=(Unit)×(Unit)) (fun zz=>[(1,.ptr 0 0)]) (fun zz=>[.box [.sl 2 (f_.Map.Nodes.map A6),.sl 8 (f_.Map.Lifts.map A7),.sl 7 (f_.Map.Runs.map Bd),.sl 1 (f_.Map.Bases.map A5),.sl 2 (f_.Lifts.map Ax),.sl 4 (f_.Closures.map Au),.sl 4 (f_.Patrol.Bv.map Av),.sl 3 (f_.Patrol.Hazards.map A1),.sl 3 (f_.Surfaces.map A8),.sl 5 (f_.Packs.map A3),.sl 6 (f_.Slides.map Bb),.sl 7 (f_.Bulletin.map Aw),.sl 7 (f_.Missions.map Aq),.sl 4 (f_.Winches.map Ap),.sl 8 (f_.Groomers.map A2),.sl 3 (f_.Status.map A4),.int .i64 f_.Depth,.int .i64 f_.Time]]) (fun zz=>J2 f_=some r) (fun zz=>⟨rfl,rfl,rfl⟩) ?_ ?_
 ·refine sq (ar rfl (qn (bk ?_)))
  obtain⟨o8,hJ8,hO8⟩:=Ah h
  clear h
  refine AWP.Bw (ι:=Nat×(Unit)×(Unit)) (fun zz=>[(1,.ptr 0 0),(7,.int .i64 ((zz.1:Nat):Int))]) (fun zz=>[.box [.sl 2 (f_.Map.Nodes.map A6),.sl 8 (f_.Map.Lifts.map A7),.sl 7 (f_.Map.Runs.map Bd),.sl 1 (f_.Map.Bases.map A5),.sl 2 (f_.Lifts.map Ax),.sl 4 (f_.Closures.map Au),.sl 4 (f_.Patrol.Bv.map Av),.sl 3 (f_.Patrol.Hazards.map A1),.sl 3 (f_.Surfaces.map A8),.sl 5 (f_.Packs.map A3),.sl 6 (f_.Slides.map Bb),.sl 7 (f_.Bulletin.map Aw),.sl 7 (f_.Missions.map Aq),.sl 4 (f_.Winches.map Ap),.sl 8 (f_.Groomers.map A2),.sl 3 (f_.Status.map A4),.int .i64 f_.Depth,.int .i64 f_.Time]]) (fun zz=>zz.1≤f_.Packs.length∧Am (J4 f_) zz.1 ((f_.Packs).drop zz.1) zz.2.1=some o8) (fun zz=>f_.Packs.length - zz.1) (0,(),()) ⟨Nat.zero_le _,hJ8⟩ cu cu (fun x=>⟨rfl,rfl,rfl⟩) ?_
  clear hJ8
  rintro⟨k8,⟨⟩,⟨⟩⟩ ⟨hk8,hJ8⟩
  dsimp only at hk8 hJ8 ⊢
  refine sq (sq ?_)
  refine rg rfl fun K j=>?_
  intro hm
  refine j _ _ (qn ?_)
  refine AWP.cond (Ak (fun hc=>?_) (fun hc=>?_))
  rotate_left
  ·obtain rfl:=Bf hJ8 (fun hl=>by have:=Ah9 hc;omega)
   have h:=Be hO8;try dsimp only at h
   have hkl:f_.Packs.length=k8:=by have:=Ah9 hc;omega
   subst hkl
   refine xt (qe (qe (bs (qn ?_))))
   exact⟨((),()),h,cu,cu⟩
  have hlt8:k8<f_.Packs.length:=by have:=Aia hc;omega
  obtain⟨x_10,b8,hx8_,h,hJ8⟩:=A9 hJ8 hlt8
  have hx8:=Ay hx8_
  have hw8:=wk (k:=k8) (by omega)
  unfold J4 at h;try dsimp only at h
  refine sk (qn (sq (bk (sq (sq ?_)))))
  refine rg rfl fun K j=>?_
  refine Bn.of (f:=A3) (l:=f_.Packs) hx8 ?_
  refine nS ?_
  revert h;refine gf (fun hc h=>?_) fun hc h=>?_
  rotate_left
  ·refine j _ _ (qn ?_)
   refine AWP.cond (Af ?_)
   refine sq (ar rfl (qn (rt (qr (br (qr (qr ?_)))))))
   obtain rfl:=Aa h
   obtain rfl:=Ae hJ8
   replace h:=Al hO8
   refine br (qr ?_)
   cases h;exact en Tryz.results13
  refine Bn.of (f:=A3) (l:=f_.Packs) hx8 ?_
  refine nS ?_
  revert h;refine gf (fun hc h=>?_) fun hc h=>?_
  rotate_left
  ·refine j _ _ (qn ?_)
   refine AWP.cond (Af ?_)
   refine sq (ar rfl (qn (rt (qr (br (qr (qr ?_)))))))
   obtain rfl:=Aa h
   obtain rfl:=Ae hJ8
   replace h:=Al hO8
   refine br (qr ?_)
   cases h;exact en Tryz.results13
  refine Bn.of (f:=A3) (l:=f_.Packs) hx8 ?_
  refine nS ?_
  obtain⟨y11,hy11,h⟩:=Ah h
  refine An.pure Tryz.call43 (bO x_10.Pack hy11) rfl fun _ hr=>?_
  subst hr
  refine nS ?_
  refine j _ _ (qn ?_)
  revert h;refine ca rfl (fun hc h=>?_) fun hc h=>?_
  ·refine sq (ar rfl (qn (rt (qr (br (qr (qr ?_)))))))
   obtain rfl:=Aa h
   obtain rfl:=Ae hJ8
   replace h:=Al hO8
   refine br (qr ?_)
   cases h;exact en Tryz.results13
  refine sk (qn (sq ?_))
  refine AWP.draw Tryz.mixed (by kernel_rfl) ?_;intro K j
  refine nS ?_
  revert h;refine gt (fun hc h=>?_) fun hc h=>?_
  ·refine Bn.of (f:=A3) (l:=f_.Packs) hx8 ?_
   refine nS ?_
   obtain⟨x_12,hx_12,h⟩:=Ah h
   refine Bn.of (f:=A3) (l:=f_.Packs) hx_12 ?_
   refine nS ?_
   refine j _ _ _ (by kernel_rfl) ?_
   refine qn ?_
   revert h;refine ca rfl (fun hc h=>?_) fun hc h=>?_
   ·refine sq (ar rfl (qn (rt (br (qr (qr ?_))))))
    obtain rfl:=Aa h
    obtain rfl:=Ae hJ8
    replace h:=Al hO8
    refine br (qr ?_)
    cases h;exact en Tryz.results13
   refine sk (bn (qn (ar rfl (qn ?_))))
   obtain rfl:=Aa h
   refine⟨(k8+1,(),()),⟨by dsimp only;omega,Ai hJ8⟩,by dsimp only;omega,?_,?_⟩
   ·exact cuw hw8
   exact cuw hw8
  refine j _ _ _ (by kernel_rfl) ?_
  refine qn ?_
  refine AWP.cond (Bj ?_)
  refine sk (bn (qn (ar rfl (qn ?_))))
  obtain rfl:=Aa h
  refine⟨(k8+1,(),()),⟨by dsimp only;omega,Ai hJ8⟩,by dsimp only;omega,?_,?_⟩
  ·exact cuw hw8
  exact cuw hw8
 rintro⟨⟨⟩,⟨⟩⟩ h
 try dsimp only at h ⊢
 unfold J2 at h;try dsimp only at h
 refine sq (sq (ar rfl (qn (bk ?_))))
 obtain⟨o3,hJ3,hO3⟩:=Ah h
 clear h
 refine AWP.Bw (ι:=Nat×(Unit)×(Unit)) (fun zz=>[(1,.ptr 0 0),(8,.int .i64 ((zz.1:Nat):Int))]) (fun zz=>[.box [.sl 2 (f_.Map.Nodes.map A6),.sl 8 (f_.Map.Lifts.map A7),.sl 7 (f_.Map.Runs.map Bd),.sl 1 (f_.Map.Bases.map A5),.sl 2 (f_.Lifts.map Ax),.sl 4 (f_.Closures.map Au),.sl 4 (f_.Patrol.Bv.map Av),.sl 3 (f_.Patrol.Hazards.map A1),.sl 3 (f_.Surfaces.map A8),.sl 5 (f_.Packs.map A3),.sl 6 (f_.Slides.map Bb),.sl 7 (f_.Bulletin.map Aw),.sl 7 (f_.Missions.map Aq),.sl 4 (f_.Winches.map Ap),.sl 8 (f_.Groomers.map A2),.sl 3 (f_.Status.map A4),.int .i64 f_.Depth,.int .i64 f_.Time]]) (fun zz=>zz.1≤f_.Status.length∧Am (J5 f_) zz.1 ((f_.Status).drop zz.1) zz.2.1=some o3) (fun zz=>f_.Status.length - zz.1) (0,(),()) ⟨Nat.zero_le _,hJ3⟩ cu cu (fun x=>⟨rfl,rfl,rfl⟩) ?_
 clear hJ3
 rintro⟨k3,⟨⟩,⟨⟩⟩ ⟨hk3,hJ3⟩
 dsimp only at hk3 hJ3 ⊢
 refine sq (sq ?_)
 refine rg rfl fun K j=>?_
 intro hm
 refine j _ _ (qn ?_)
 refine AWP.cond (Ak (fun hc=>?_) (fun hc=>?_))
 rotate_left
 ·obtain rfl:=Bf hJ3 (fun hl=>by have:=Ah9 hc;omega)
  have h:=Be hO3;try dsimp only at h
  have hkl:f_.Status.length=k3:=by have:=Ah9 hc;omega
  subst hkl
  refine xt (qe (qe (bs (qn (sq (sq ?_))))))
  refine rg rfl fun K j=>?_
  revert h;refine gf (fun hc h=>?_) fun hc h=>?_
  ·revert h;refine gf (fun hc h=>?_) fun hc h=>?_
   ·revert h;refine gf (fun hc h=>?_) fun hc h=>?_
    ·refine j _ _ (qn ?_)
     revert h;refine ca rfl (fun hc h=>?_) fun hc h=>?_
     ·refine sq (ar rfl (qn (rt (qr ?_))))
      cases h;exact en Tryz.results13
     refine sk (qn (sq (ar rfl (qn (rt ?_)))))
     cases h;exact en Tryz.results13
    refine j _ _ (qn ?_)
    refine AWP.cond (Af ?_)
    refine sq (ar rfl (qn (rt (qr ?_))))
    cases h;exact en Tryz.results13
   refine j _ _ (qn ?_)
   refine AWP.cond (Af ?_)
   refine sq (ar rfl (qn (rt (qr ?_))))
   cases h;exact en Tryz.results13
  refine j _ _ (qn ?_)
  refine AWP.cond (Af ?_)
  refine sq (ar rfl (qn (rt (qr ?_))))
  cases h;exact en Tryz.results13
 have hlt3:k3<f_.Status.length:=by have:=Aia hc;omega
 obtain⟨x_5,b3,hx3_,h,hJ3⟩:=A9 hJ3 hlt3
 have hx3:=Ay hx3_
 have hw3:=wk (k:=k3) (by omega)
 unfold J5 at h;try dsimp only at h
 refine sk (qn (sq (bk (sq (sq ?_)))))
 refine AWP.draw Tryz.mixed (by kernel_rfl) ?_;intro K j
 refine nS ?_
 revert h;refine gt (fun hc h=>?_) fun hc h=>?_
 ·refine Bn.of (f:=A4) (l:=f_.Status) hx3 ?_
  refine nS ?_
  obtain⟨x_6,hx_6,h⟩:=Ah h
  refine Bn.of (f:=A4) (l:=f_.Status) hx_6 ?_
  refine nS ?_
  refine j _ _ _ (by kernel_rfl) ?_
  refine qn ?_
  revert h;refine ca rfl (fun hc h=>?_) fun hc h=>?_
  ·refine sq (ar rfl (qn (rt (qr (br (qr (qr ?_)))))))
   obtain rfl:=Aa h
   obtain rfl:=Ae hJ3
   replace h:=Al hO3
   refine br (qr ?_)
   cases h;exact en Tryz.results13
  refine sk (qn (sq (sq ?_)))
  refine AWP.draw Tryz.mixed (by kernel_rfl) ?_;intro K j
  refine nS ?_
  refine Bn.of (f:=A4) (l:=f_.Status) hx3 ?_
  refine nS ?_
  obtain⟨y7,hy7,h⟩:=Ah h
  refine B7.pure Tryz.call32 (V8 f_.Map x_5.Run hy7) rfl ?_
  refine nS ?_
  refine j _ _ _ (by kernel_rfl) ?_
  refine qn (sq (ar rfl (qn ?_)))
  revert h;refine ca rfl (fun hc h=>?_) fun hc h=>?_
  ·refine sq (ar rfl (qn (rt (qr (br (qr (qr ?_)))))))
   obtain rfl:=Aa h
   obtain rfl:=Ae hJ3
   replace h:=Al hO3
   refine br (qr ?_)
   cases h;exact en Tryz.results13
  refine sk (qn (sq ?_))
  refine rg rfl fun K j=>?_
  refine Bn.of (f:=A4) (l:=f_.Status) hx3 ?_
  refine nS ?_
  revert h;refine gf (fun hc h=>?_) fun hc h=>?_
  ·refine Bn.of (f:=A4) (l:=f_.Status) hx3 ?_
   refine nS ?_
   refine j _ _ (qn ?_)
   revert h;refine ca rfl (fun hc h=>?_) fun hc h=>?_
   ·refine sq (ar rfl (qn (rt (br (qr (qr ?_))))))
    obtain rfl:=Aa h
    obtain rfl:=Ae hJ3
    replace h:=Al hO3
    refine br (qr ?_)
    cases h;exact en Tryz.results13
   refine sk (bn (qn (ar rfl (qn ?_))))
   obtain rfl:=Aa h
   refine⟨(k3+1,(),()),⟨by dsimp only;omega,Ai hJ3⟩,by dsimp only;omega,?_,?_⟩
   ·exact cuw hw3
   exact cuw hw3
  refine j _ _ (qn ?_)
  refine AWP.cond (Af ?_)
  refine sq (ar rfl (qn (rt (br (qr (qr ?_))))))
  obtain rfl:=Aa h
  obtain rfl:=Ae hJ3
  replace h:=Al hO3
  refine br (qr ?_)
  cases h;exact en Tryz.results13
 refine j _ _ _ (by kernel_rfl) ?_
 refine qn ?_
 refine AWP.cond (Bj ?_)
 refine sk (qn (sq (sq ?_)))
 refine AWP.draw Tryz.mixed (by kernel_rfl) ?_;intro K j
 refine nS ?_
 refine Bn.of (f:=A4) (l:=f_.Status) hx3 ?_
 refine nS ?_
 obtain⟨y8,hy8,h⟩:=Ah h
 refine B7.pure Tryz.call32 (V8 f_.Map x_5.Run hy8) rfl ?_
 refine nS ?_
 refine j _ _ _ (by kernel_rfl) ?_
 refine qn (sq (ar rfl (qn ?_)))
 revert h;refine ca rfl (fun hc h=>?_) fun hc h=>?_
 ·refine sq (ar rfl (qn (rt (qr (br (qr (qr ?_)))))))
  obtain rfl:=Aa h
  obtain rfl:=Ae hJ3
  replace h:=Al hO3
  refine br (qr ?_)
  cases h;exact en Tryz.results13
 refine sk (qn (sq ?_))
 refine rg rfl fun K j=>?_
 refine Bn.of (f:=A4) (l:=f_.Status) hx3 ?_
 refine nS ?_
 revert h;refine gf (fun hc h=>?_) fun hc h=>?_
 ·refine Bn.of (f:=A4) (l:=f_.Status) hx3 ?_
  refine nS ?_
  refine j _ _ (qn ?_)
  revert h;refine ca rfl (fun hc h=>?_) fun hc h=>?_
  ·refine sq (ar rfl (qn (rt (br (qr (qr ?_))))))
   obtain rfl:=Aa h
   obtain rfl:=Ae hJ3
   replace h:=Al hO3
   refine br (qr ?_)
   cases h;exact en Tryz.results13
  refine sk (bn (qn (ar rfl (qn ?_))))
  obtain rfl:=Aa h
  refine⟨(k3+1,(),()),⟨by dsimp only;omega,Ai hJ3⟩,by dsimp only;omega,?_,?_⟩
  ·exact cuw hw3
  exact cuw hw3
 refine j _ _ (qn ?_)
 refine AWP.cond (Af ?_)
 refine sq (ar rfl (qn (rt (br (qr (qr ?_))))))
 obtain rfl:=Aa h
 obtain rfl:=Ae hJ3
 replace h:=Al hO3
 refine br (qr ?_)
 cases h;exact en Tryz.results13
def F4 (f_:Aj):Option (Bool):=
 (Pc).bind fun y1=>(bif (!y1)then some false else(Kj (Aj.mk f_.Map [] f_.Closures f_.Patrol f_.Surfaces [] f_.Slides f_.Bulletin f_.Missions f_.Winches f_.Groomers [] f_.Depth f_.Time)).bind fun y2=>(bif (!y2)then some true else(bif (decide (70<((f_.Lifts.length:Nat):Int)))then some true else(bif (decide (70<((f_.Packs.length:Nat):Int)))then some true else(bif (decide (70<((f_.Status.length:Nat):Int)))then some true else(E9 f_).bind fun y3=>(Hv f_).bind fun y4=>some (decide (y3=y4)))))))
theorem Rf (f_:Aj) {r:Bool} (h:F4 f_=some r):Ad Tryz.prog 3 [.agg (B5 f_)] (·= .bool r):=by
 refine Ad.nle (Ad.intro Tryz.func3 rfl rfl (by show _≤36;simp) ?_)
 unfold F4 at h
 refine nS (sq ?_)
 refine ar rfl (qn (sq (sq ?_)))
 refine rg rfl fun K j=>?_
 obtain⟨y1,hy1,h⟩:=Ah h
 refine An.pure Tryz.call10 (bW hy1) rfl fun _ hr=>?_
 subst hr
 refine nS ?_
 refine j _ _ (qn ?_)
 revert h;refine ca rfl (fun hc h=>?_) fun hc h=>?_
 ·refine sq (ar rfl (qn (rt (qr ?_))))
  cases h;exact en Tryz.results3
 refine sk (qn (sq (ar rfl (qn (sq ?_)))))
 refine ar rfl (qn (sq ?_))
 refine ar rfl (qn (sq ?_))
 refine ar rfl (qn (sq (sq ?_)))
 refine rg rfl fun K j=>?_
 obtain⟨y2,hy2,h⟩:=Ah h
 refine An.pure Tryz.call11 (Ad.Ad3 (args:=[.agg [.sl 2 (f_.Map.Nodes.map A6),.sl 8 (f_.Map.Lifts.map A7),.sl 7 (f_.Map.Runs.map Bd),.sl 1 (f_.Map.Bases.map A5),.nils,.sl 4 (f_.Closures.map Au),.sl 4 (f_.Patrol.Bv.map Av),.sl 3 (f_.Patrol.Hazards.map A1),.sl 3 (f_.Surfaces.map A8),.nils,.sl 6 (f_.Slides.map Bb),.sl 7 (f_.Bulletin.map Aw),.sl 7 (f_.Missions.map Aq),.sl 4 (f_.Winches.map Ap),.sl 8 (f_.Groomers.map A2),.nils,.int .i64 f_.Depth,.int .i64 f_.Time]]) (by simp +decide -implicitDefEqProofs only[go_sem,Dl,Ac.int.injEq,Int.natCast_zero,List.replicate_zero,List.length_take,List.length_drop,Ac.own.injEq,reduceCtorEq,Int.reduceAdd,Tx,Ty,Pw,Tw,Pv]) (bV (Aj.mk f_.Map [] f_.Closures f_.Patrol f_.Surfaces [] f_.Slides f_.Bulletin f_.Missions f_.Winches f_.Groomers [] f_.Depth f_.Time) hy2)) rfl fun _ hr=>?_
 subst hr
 refine nS ?_
 revert h;refine gf (fun hc h=>?_) fun hc h=>?_
 rotate_left
 ·refine j _ _ (qn ?_)
  refine AWP.cond (Af ?_)
  refine sq (ar rfl (qn (rt (qr ?_))))
  cases h;exact en Tryz.results3
 intro hm
 revert h;refine gf (fun hc h=>?_) fun hc h=>?_
 rotate_left
 ·refine j _ _ (qn ?_)
  refine AWP.cond (Af ?_)
  refine sq (ar rfl (qn (rt (qr ?_))))
  cases h;exact en Tryz.results3
 intro hm
 revert h;refine gf (fun hc h=>?_) fun hc h=>?_
 ·intro hm
  refine j _ _ (qn ?_)
  revert h;refine ca rfl (fun hc h=>?_) fun hc h=>?_
  ·refine sq (ar rfl (qn (rt (qr ?_))))
   cases h;exact en Tryz.results3
  refine sk (qn (sq ?_))
  refine AWP.draw Tryz.mixed (by kernel_rfl) ?_;intro K j
  refine nS ?_
  obtain⟨y3,hy3,h⟩:=Ah h
  refine B7.pure Tryz.call12 (Pd f_ hy3) rfl ?_
  refine nS ?_
  obtain⟨y4,hy4,h⟩:=Ah h
  refine B7.pure Tryz.call13 (aW f_ hy4) rfl ?_
  refine nS ?_
  refine j _ _ _ (by kernel_rfl) ?_
  refine qn (rt ?_)
  cases h;exact en Tryz.results3
 refine j _ _ (qn ?_)
 refine AWP.cond (Af ?_)
 refine sq (ar rfl (qn (rt (qr ?_))))
 cases h;exact en Tryz.results3
def Mr (m:Ba) (node:Int):Option (Int):=
 (Eb m node).bind fun y1=>some y1.1.Alt
def Qd (b:Bl) (t:Int):Option (Bool):=
 (bif (decide (b.Span.From≤t))then some (decide (t<b.Span.To))else some false)
def Ky (t:Int) (k1:Nat) (x_3:Bl) (sv:Int):Option (Out (Int) (Int)):=
 (Qd x_3 t).bind fun y4=>(bif y4 then some (Out.next (if sv<x_3.Version then x_3.Version else sv))else some (Out.next sv))
def Lq (l:List Bl) (t:Int):Option (Int):=
 (Am (Ky t) 0 l 0).bind fun o1=>o1.on fun s1=>some s1
def kD (n_:Int) (k0:Nat) (x_2:Int) (sv:Unit):Option (Out (Unit) (Bool)):=
 (bif (decide (x_2=n_))then some (Out.ret true)else some (Out.next ()))
def iV (l:List Int) (n_:Int):Option (Bool):=
 (Am (kD n_) 0 l ()).bind fun o0=>o0.on fun s0=>some false
def V3 (l:List Bl) (zone:Int) (low:Int) (high:Int) (t:Int) (k1:Nat) (x_3:Bl) (sv:Int):Option (Out (Int) (Int)):=
 (Qd x_3 t).bind fun y4=>(bif y4 then(Lq l t).bind fun y5=>(bif (decide (x_3.Version=y5))then (iV x_3.Zones zone).bind fun y6=>(bif y6 then(bif (decide (x_3.Low<high))then (bif (decide (low<x_3.High))then some (Out.next (if sv<x_3.Level then x_3.Level else sv))else some (Out.next sv))else some (Out.next sv))else some (Out.next sv))else some (Out.next sv))else some (Out.next sv))
def V4 (l:List Bl) (zone:Int) (low:Int) (high:Int) (t:Int):Option (Int):=
 (Am (V3 l zone low high t) 0 l 0).bind fun o1=>o1.on fun s1=>some s1
def L4 (f_:Aj) (k2:Nat) (k5:Nat) (x_7:Cd) (sv:Int×Int):Option (Out (Int×Int) (Out ((List Int)) ((List Int)))):=
 (bif (decide (x_7.Zone≠(((k2:Nat):Int)+1)))then some (Out.next (sv.1,sv.2))else (Mr f_.Map x_7.To).bind fun y8=>(bif (decide (y8<sv.1))then (Mr f_.Map x_7.To).bind fun y9=>(Mr f_.Map x_7.From).bind fun y10=>(bif (decide (sv.2<y10))then (Mr f_.Map x_7.From).bind fun y11=>some (Out.next (y9,y11))else some (Out.next (y9,sv.2)))else (Mr f_.Map x_7.From).bind fun y12=>(bif (decide (sv.2<y12))then (Mr f_.Map x_7.From).bind fun y13=>some (Out.next (sv.1,y13))else some (Out.next (sv.1,sv.2)))))
def F7 (f_:Aj) (k2:Nat) (_x:Unit) (sv:(List Int)):Option (Out ((List Int)) ((List Int))):=
 (Am (L4 f_ k2) 0 f_.Map.Runs (9999,(-1))).bind fun o5=>o5.on fun s5=>(bif (decide (0≤s5.2))then (V4 f_.Bulletin (((k2:Nat):Int)+1) s5.1 s5.2 f_.Time).bind fun y14=>chk (sv.length+1) (some (Out.next (sv++[y14])))else chk (sv.length+1) (some (Out.next (sv++[(0:Int)]))))
def Qc (f_:Aj):Option ((List Int)):=
 (Jr (F7 f_) 32 []).bind fun o2=>o2.on fun s2=>some s2
def V0 (l:List Bk) (kind:Int) (target:Int) (k2:Nat) (_x:Unit) (sv:(List Int)):Option (Out ((List Int)) ((List Int))):=
 (Fk l kind target (((k2:Nat):Int)+1)).bind fun y4=>(bif (decide (0≤y4))then chk (sv.length+1) (some (Out.next (sv++[(((k2:Nat):Int)+1)])))else some (Out.next sv))
def Zq (l:List Bk) (kind:Int) (target:Int):Option ((List Int)):=
 (Jr (V0 l kind target) 6 []).bind fun o2=>o2.on fun s2=>some s2
def aZ (m:Ba) (l:List Bk) (run:Int):Option (Bool):=
 (K0 m run).bind fun y1=>(bif y1.2 then(Zq l 1 run).bind fun y2=>(bif (decide (0<((y2.length:Nat):Int)))then some true else(Zq l 3 y1.1.Zone).bind fun y3=>some (decide (0<((y3.length:Nat):Int))))else some false)
def dB (run:Int) (k0:Nat) (x_2:B3) (sv:Unit):Option (Out (Unit) (Bool)):=
 (bif (decide (x_2.State=2))then (bif (decide (x_2.Run=run))then some (Out.ret true)else some (Out.next ()))else some (Out.next ()))
def eX (l:List B3) (run:Int):Option (Bool):=
 (Am (dB run) 0 l ()).bind fun o0=>o0.on fun s0=>some false
def Q1 (t:Int) (out1:List Int) (k2:Nat) (k3:Nat) (x_5:Az) (sv:Unit):Option (Out (Unit) (Out ((List Int)) ((List Int)))):=
 (bif (decide (x_5.From≤t))then (bif (decide (t<x_5.To))then (Qo x_5.Runs (((k2:Nat):Int)+1)).bind fun y6=>(bif y6 then chk (out1.length+1) (some (Out.ret (Out.next (out1++[(((k2:Nat):Int)+1)]))))else some (Out.next ()))else some (Out.next ()))else some (Out.next ()))
def Q2 (l:List Az) (t:Int) (k2:Nat) (_x:Unit) (sv:(List Int)):Option (Out ((List Int)) ((List Int))):=
 (Am (Q1 t sv k2) 0 l ()).bind fun o3=>o3.on fun s3=>some (Out.next sv)
def V5 (l:List Az) (t:Int):Option ((List Int)):=
 (Jr (Q2 l t) 9999 []).bind fun o2=>o2.on fun s2=>some s2
def l6 (n_:Int) (k0:Nat) (x_2:Int) (sv:Unit):Option (Out (Unit) (Bool)):=
 (bif (decide (x_2=n_))then some (Out.ret true)else some (Out.next ()))
def J6 (l:List Int) (n_:Int):Option (Bool):=
 (Am (l6 n_) 0 l ()).bind fun o0=>o0.on fun s0=>some false
def L5 (last1:Int) (k5:Nat) (x_7:Bg) (sv:Int):Option (Out (Int) (Out (Int×(List Int)) ((List Int)))):=
 (Mj x_7).bind fun y8=>(bif y8 then(bif (decide (x_7.State≠0))then (bif (decide (last1<x_7.Slide))then (bif (decide (sv=0))then some (Out.next x_7.Slide)else (bif (decide (x_7.Slide<sv))then some (Out.next x_7.Slide)else some (Out.next sv)))else some (Out.next sv))else some (Out.next sv))else some (Out.next sv))
def Pr (l:List Bg) (sv:Int×(List Int)):Option (Out (Int×(List Int)) ((List Int))):=
 (Am (L5 sv.1) 0 l 0).bind fun o5=>o5.on fun s5=>(bif (decide (s5=0))then some (Out.ret sv.2)else chk (sv.2.length+1) (some (Out.next (s5,(sv.2++[s5])))))
def Uc (l:List Bg):Option ((List Int)):=
 (D8 (Pr l) fuel (0,[])).bind fun o3=>o3.on fun _=>none
def Tp (zone:Int) (y1:(List Int)) (k1:Nat) (x_3:Bc) (sv:Unit):Option (Out (Unit) (Bool)):=
 (J6 y1 x_3.ID).bind fun y4=>(bif y4 then(J6 x_3.Zones zone).bind fun y5=>(bif y5 then some (Out.ret true)else some (Out.next ()))else some (Out.next ()))
def Sq (f_:Aj) (zone:Int):Option (Bool):=
 (Uc f_.Missions).bind fun y1=>(Am (Tp zone y1) 0 f_.Slides ()).bind fun o1=>o1.on fun s1=>some false
def Qz (levels:List Int) (k1:Nat) (x_3:Int) (sv:Int):Option (Out (Int) (Int)):=
 (bif (decide (x_3≤((levels.length:Nat):Int)))then (Dh levels (IntKind.i64.wrap (x_3 - 1))).bind fun x_4=>(bif (decide (((k1:Nat):Int)=0))then some (Out.next x_4)else (bif (decide (sv<x_4))then some (Out.next x_4)else some (Out.next sv)))else (bif (decide (((k1:Nat):Int)=0))then some (Out.next 0)else (bif (decide (sv<0))then some (Out.next 0)else some (Out.next sv))))
def dA (s_:Bc) (levels:List Int):Option (Int):=
 (Am (Qz levels) 0 s_.Zones 0).bind fun o1=>o1.on fun s1=>some s1
def Qy (s_:Bc) (levels:List Int):Option (Bool):=
 (dA s_ levels).bind fun y1=>(bif (decide (4<y1))then some true else(bif (decide (y1=4))then some (decide ((IntKind.i64.wrap (Int.tdiv s_.Limit 4))≤s_.Load))else (bif (decide (y1=3))then some (decide ((IntKind.i64.wrap (Int.tdiv s_.Limit 2))≤s_.Load))else some (decide (s_.Limit≤s_.Load)))))
def Qx (at_10:Int) (sv:Int×(List Int)):Option (Out (Int×(List Int)) (Out ((List Int)) (Out ((List Int)) ((List Int))))):=
 (bif (decide (at_10<sv.1))then (Dh sv.2 (IntKind.i64.wrap (sv.1 - 1))).bind fun x_17=>(Dh sv.2 sv.1).bind fun x_18=>(Dh (sv.2.set sv.1.toNat x_17) (IntKind.i64.wrap (sv.1 - 1))).bind fun x_20=>some (Out.next ((IntKind.i64.wrap (sv.1 - 1)),((sv.2.set sv.1.toNat x_17).set (IntKind.i64.wrap (sv.1 - 1)).toNat x_18)))else some (Out.ret (Out.next sv.2)))
def J8 (out6:List Int) (x_9:Int) (at_10:Int):Option (Out ((List Int)) (Out ((List Int)) ((List Int)))):=
 chk (out6.length+1) ((D8 (Qx at_10) fuel ((IntKind.i64.wrap ((((out6.length+1):Nat):Int) - 1)),(out6++[x_9]))).bind fun o15=>o15.on fun _=>none)
def Nj (out6:List Int) (x_9:Int) (at_10:Int):Option (Out ((List Int)) (Out ((List Int)) ((List Int)))):=
 (bif (decide (at_10<((out6.length:Nat):Int)))then (Dh out6 at_10).bind fun x_22=>(bif (decide (x_22=x_9))then some (Out.next out6)else J8 out6 x_9 at_10)else J8 out6 x_9 at_10)
def Qw (out6:List Int) (x_9:Int) (sv:Int):Option (Out (Int) (Out ((List Int)) (Out ((List Int)) ((List Int))))):=
 (bif (decide (sv<((out6.length:Nat):Int)))then (Dh out6 sv).bind fun x_25=>(bif (decide (x_25<x_9))then some (Out.next (IntKind.i64.wrap (sv+1)))else (Nj out6 x_9 sv).bind fun q25=>some (Out.ret q25))else (bif false then some (Out.next (IntKind.i64.wrap (sv+1)))else (Nj out6 x_9 sv).bind fun q26=>some (Out.ret q26)))
def G9 (k7:Nat) (x_9:Int) (sv:(List Int)):Option (Out ((List Int)) (Out ((List Int)) ((List Int)))):=
 (D8 (Qw sv x_9) fuel 0).bind fun o23=>o23.on fun _=>none
def V1 (levels:List Int) (k2:Nat) (x_4:Bc) (sv:(List Int)):Option (Out ((List Int)) ((List Int))):=
 (Qy x_4 levels).bind fun y5=>(bif y5 then(Am G9 0 x_4.Zones sv).bind fun o7=>o7.on fun s7=>some (Out.next s7)else some (Out.next sv))
def V2 (l:List Bc) (levels:List Int):Option ((List Int)):=
 (Am (V1 levels) 0 l []).bind fun o2=>o2.on fun s2=>some s2
def Ue (l:Bp) (item:Int) (t:Int) (k1:Nat) (x_3:Fh) (sv:Int):Option (Out (Int) (Int)):=
 (bif (decide (x_3.Item=item))then (bif (decide (x_3.At≤t))then (bif (decide (t<(IntKind.i64.wrap (x_3.At+l.Every))))then some (Out.next (if sv<(IntKind.i64.wrap (x_3.At+l.Every))then (IntKind.i64.wrap (x_3.At+l.Every))else sv))else some (Out.next sv))else some (Out.next sv))else some (Out.next sv))
def bN (l:Bp) (item:Int) (t:Int):Option (Int):=
 (Am (Ue l item t) 0 l.Signs t).bind fun o1=>o1.on fun s1=>some s1
def Sv (l:Bp) (t:Int) (k2:Nat) (x_4:Int) (sv:(List Int)):Option (Out ((List Int)) ((List Int))):=
 (bN l x_4 t).bind fun y5=>(bif (decide (y5=t))then chk (sv.length+1) (some (Out.next (sv++[x_4])))else some (Out.next sv))
def Yu (l:Bp) (t:Int):Option ((List Int)):=
 (Am (Sv l t) 0 l.Items []).bind fun o2=>o2.on fun s2=>some s2
def Ug (l:Bp) (t:Int):Option (Bool):=
 (Yu l t).bind fun y1=>some (decide (((y1.length:Nat):Int)=0))
def Vz (run:Int) (k3:Nat) (x_5:Cv) (sv:Unit):Option (Out (Unit) (Bool)):=
 (bif (decide (x_5.Run=run))then some (Out.ret false)else some (Out.next ()))
def R6 (p:Ca) (run:Int) (t:Int):Option (Bool):=
 (Nc p run).bind fun y1=>(bif (decide (y1<0))then some false else(Dh p.Bv y1).bind fun x_2=>(Ug x_2.List_ t).bind fun y3=>(bif (!y3)then some false else(Am (Vz run) 0 p.Hazards ()).bind fun o3=>o3.on fun s3=>some true))
def V7 (p:Fi):Option (Int×Int):=
 (Ke p).bind fun y1=>(bif (!y1)then some (0,1)else nz p.Density (some ((IntKind.i64.wrap (Int.tdiv (IntKind.i64.wrap ((IntKind.i64.wrap (p.Natural+p.Machine))*1000)) p.Density)),0)))
def Yc (f_:Aj) (run:Int) (k0:Nat) (x_2:C0) (sv:Unit):Option (Out (Unit) (Bool)):=
 (bif (decide (x_2.Run=run))then (V7 x_2.Pack).bind fun y3=>some (Out.ret (decide (f_.Depth≤y3.1)))else some (Out.next ()))
def Ua (f_:Aj) (run:Int):Option (Bool):=
 (Am (Yc f_ run) 0 f_.Packs ()).bind fun o0=>o0.on fun s0=>some false
def R5 (f_:Aj) (x_:Cd):Option (Int):=
 (aZ f_.Map f_.Closures x_.ID).bind fun y1=>(bif y1 then some 13 else(eX f_.Groomers x_.ID).bind fun y2=>(bif y2 then some 15 else(V5 f_.Winches f_.Time).bind fun y3=>(J6 y3 x_.ID).bind fun y4=>(bif y4 then some 15 else(Sq f_ x_.Zone).bind fun y5=>(bif y5 then some 15 else(Qc f_).bind fun y6=>(V2 f_.Slides y6).bind fun y7=>(J6 y7 x_.Zone).bind fun y8=>(bif y8 then some 10 else(R6 f_.Patrol x_.ID f_.Time).bind fun y9=>(bif (!y9)then some 14 else(Ua f_ x_.ID).bind fun y10=>(bif (!y10)then some 5 else some 0)))))))
def Vd (k2:Nat) (x_4:Cr) (sv:(List Int)):Option (Out ((List Int)) ((List Int))):=
 (bif (decide (x_4.Mode=1))then chk (sv.length+1) (some (Out.next (sv++[x_4.Lift])))else some (Out.next sv))
def Na (f_:Aj):Option ((List Int)):=
 (Am Vd 0 f_.Lifts []).bind fun o2=>o2.on fun s2=>some s2
def kE (n_:Int) (k0:Nat) (x_2:Int) (sv:Unit):Option (Out (Unit) (Bool)):=
 (bif (decide (x_2=n_))then some (Out.ret true)else some (Out.next ()))
def Tu (l:List Int) (n_:Int):Option (Bool):=
 (Am (kE n_) 0 l ()).bind fun o0=>o0.on fun s0=>some false
def Ye (runs:List Int) (k2:Nat) (x_4:Cd) (sv:(List Ar)):Option (Out ((List Ar)) ((List Ar))):=
 (Tu runs x_4.ID).bind fun y5=>(bif y5 then chk (sv.length+1) (some (Out.next (sv++[(Ar.mk x_4.ID x_4.From x_4.To x_4.Length)])))else some (Out.next sv))
def Uh (m:Ba) (runs:List Int):Option ((List Ar)):=
 (Am (Ye runs) 0 m.Runs []).bind fun o2=>o2.on fun s2=>some s2
def Ul (n_:Int) (k3:Nat) (x_5:Int) (sv:Bool×(List Int)):Option (Out (Bool×(List Int)) ((List Int))):=
 (bif (!sv.1)then (bif (decide (n_≤x_5))then (bif (decide (n_<x_5))then chk (sv.2.length+1) (chk ((sv.2.length+1)+1) (some (Out.next (true,((sv.2++[n_])++[x_5])))))else chk (sv.2.length+1) (some (Out.next (true,(sv.2++[x_5])))))else chk (sv.2.length+1) (some (Out.next (sv.1,(sv.2++[x_5])))))else chk (sv.2.length+1) (some (Out.next (sv.1,(sv.2++[x_5])))))
def Xg (l:List Int) (n_:Int):Option ((List Int)):=
 (Am (Ul n_) 0 l (false,[])).bind fun o3=>o3.on fun s3=>(bif (!s3.1)then chk (s3.2.length+1) (some (s3.2++[n_]))else some s3.2)
def No (k6:Nat) (x_8:Ar) (sv:(List Int)):Option (Out ((List Int)) (Out ((List Int)×Int) ((List Int)))):=
 (Tu sv x_8.From).bind fun y9=>(bif y9 then(Xg sv x_8.To).bind fun y10=>some (Out.next y10)else some (Out.next sv))
def Q9 (l:List Ar) (sv:(List Int)×Int):Option (Out ((List Int)×Int) ((List Int))):=
 (bif (decide (sv.2<((sv.1.length:Nat):Int)))then (Am No 0 l sv.1).bind fun o6=>o6.on fun s6=>some (Out.next (s6,((sv.1.length:Nat):Int)))else some (Out.ret sv.1))
def Q7 (l:List Ar) (out1:List Int):Option ((List Int)):=
 (D8 (Q9 l) fuel (out1,(-1))).bind fun o4=>o4.on fun _=>none
def Q8 (k11:Nat) (x_13:Int) (sv:(List Int)):Option (Out ((List Int)) ((List Int))):=
 (Xg sv x_13).bind fun y14=>some (Out.next y14)
def O8 (l:List Ar) (from_:List Int):Option ((List Int)):=
 (Am Q8 0 from_ []).bind fun o11=>o11.on fun s11=>Q7 l s11
def Mk (lifts:List Int) (k3:Nat) (x_5:Cc) (sv:(List Ar)):Option (Out ((List Ar)) ((List Int))):=
 (Tu lifts x_5.ID).bind fun y6=>(bif y6 then chk (sv.length+1) (some (Out.next (sv++[(Ar.mk 0 x_5.From x_5.To 0)])))else some (Out.next sv))
def Pt (m:Ba) (lifts:List Int) (runs:List Int):Option ((List Int)):=
 (Uh m runs).bind fun y1=>chk y1.length ((Am (Mk lifts) 0 m.Lifts y1).bind fun o3=>o3.on fun s3=>(O8 s3 m.Bases).bind fun y7=>some y7)
def O5 (m:Ba) (lifts:List Int) (runs:List Int) (run:Int):Option (Bool):=
 (K0 m run).bind fun y1=>(bif y1.2 then(Pt m lifts runs).bind fun y2=>(Tu y2 y1.1.From).bind fun y3=>some y3 else some false)
def Vg (k2:Nat) (x_4:Ar) (sv:(List Ar)):Option (Out ((List Ar)) ((List Ar))):=
 chk (sv.length+1) (some (Out.next (sv++[(Ar.mk x_4.ID x_4.To x_4.From x_4.Cost)])))
def Uk (l:List Ar):Option ((List Ar)):=
 (Am Vg 0 l []).bind fun o2=>o2.on fun s2=>some s2
def Yv (l:List Ar) (to_:List Int):Option ((List Int)):=
 (Uk l).bind fun y1=>(O8 y1 to_).bind fun y2=>some y2
def Q3 (m:Ba) (runs:List Int):Option ((List Int)):=
 (Uh m runs).bind fun y1=>(Yv y1 m.Bases).bind fun y2=>some y2
def Tq (f_:Aj) (open_:List Int) (run:Int):Option (Int):=
 (K0 f_.Map run).bind fun y1=>(bif (!y1.2)then some 8 else(R5 f_ y1.1).bind fun y2=>(bif (decide (y2≠0))then some y2 else(Na f_).bind fun y3=>(O5 f_.Map y3 open_ run).bind fun y4=>(bif (!y4)then some 16 else(Q3 f_.Map open_).bind fun y5=>(J6 y5 y1.1.To).bind fun y6=>(bif (!y6)then some 16 else some 0))))
def kC (k2:Nat) (x_4:Bi) (sv:(List Int)):Option (Out ((List Int)) ((List Int))):=
 (bif x_4.Open then chk (sv.length+1) (some (Out.next (sv++[x_4.Run])))else some (Out.next sv))
def aX (f_:Aj):Option ((List Int)):=
 (Am kC 0 f_.Status []).bind fun o2=>o2.on fun s2=>some s2
def Yd (f_:Aj) (y1:(List Int)) (k1:Nat) (x_3:Int) (sv:Unit):Option (Out (Unit) (Bool)):=
 (Tq f_ y1 x_3).bind fun y4=>(bif (decide (y4≠0))then some (Out.ret false)else some (Out.next ()))
def Ys (f_:Aj):Option (Bool):=
 (aX f_).bind fun y1=>(Am (Yd f_ y1) 0 y1 ()).bind fun o1=>o1.on fun s1=>some true
def St (f_:Aj) (now4:List Int) (y7:(List Int)) (y8:(List Int)) (k10:Nat) (x_12:Int) (sv:(List Int)):Option (Out ((List Int)) (Out ((List Int)) ((List Int)))):=
 (K0 f_.Map x_12).bind fun y13=>(O5 f_.Map y7 now4 x_12).bind fun y14=>(bif y14 then(J6 y8 y13.1.To).bind fun y15=>(bif y15 then chk (sv.length+1) (some (Out.next (sv++[x_12])))else some (Out.next sv))else some (Out.next sv))
def Su (f_:Aj) (k5:Nat) (_x:Unit) (sv:(List Int)):Option (Out ((List Int)) ((List Int))):=
 (Na f_).bind fun y7=>(Q3 f_.Map sv).bind fun y8=>(Am (St f_ sv y7 y8) 0 sv []).bind fun o10=>o10.on fun s10=>some (Out.next s10)
def Sr (f_:Aj) (now1:List Int):Option ((List Int)):=
 (Jr (Su f_) (f_.Map.Runs.length+1) now1).bind fun o5=>o5.on fun s5=>some s5
def Ss (f_:Aj) (runs:List Int) (k17:Nat) (x_19:Cd) (sv:(List Int)):Option (Out ((List Int)) ((List Int))):=
 (J6 runs x_19.ID).bind fun y20=>(bif y20 then(R5 f_ x_19).bind fun y21=>(bif (decide (y21=0))then chk (sv.length+1) (some (Out.next (sv++[x_19.ID])))else some (Out.next sv))else some (Out.next sv))
def Yt (f_:Aj) (runs:List Int):Option ((List Int)):=
 (Am (Ss f_ runs) 0 f_.Map.Runs []).bind fun o17=>o17.on fun s17=>Sr f_ s17
def Pp (f_:Aj) (y2:(List Int)) (k6:Nat) (x_8:Bi) (sv:(List Bi)×(List Int)):Option (Out ((List Bi)×(List Int)) (Aj×(List Int))):=
 (bif x_8.Open then(J6 y2 x_8.Run).bind fun y9=>(bif (!y9)then chk (sv.2.length+1) (chk (sv.1.length+1) (some (Out.next ((sv.1++[(Bi.mk x_8.Run false f_.Time)]),(sv.2++[x_8.Run])))))else chk (sv.1.length+1) (some (Out.next ((sv.1++[(Bi.mk x_8.Run true x_8.Since)]),sv.2))))else chk (sv.1.length+1) (some (Out.next ((sv.1++[(Bi.mk x_8.Run false x_8.Since)]),sv.2))))
def Ub (f_:Aj):Option (Aj×(List Int)):=
 (aX f_).bind fun y1=>(Yt f_ y1).bind fun y2=>(Am (Pp f_ y2) 0 f_.Status ([],[])).bind fun o6=>o6.on fun s6=>some ((Aj.mk f_.Map f_.Lifts f_.Closures f_.Patrol f_.Surfaces f_.Packs f_.Slides f_.Bulletin f_.Missions f_.Winches f_.Groomers s6.1 f_.Depth f_.Time),s6.2)
end
end Go.Proofs.YtjopghiagoidgaaGreat
namespace Go.Proofs.YtjopghiagoidgaaGreat
open Go Go.Ab
set_option linter.unusedSimpArgs false
set_option linter.unusedVariables false
inductive Rch (l:List Ar) (S:Int→Prop):Int→Prop
  | base {n:Int}:S n→Rch l S n
  | step {e:Ar}:e∈l→Rch l S e.From→Rch l S e.To
theorem Rch.mono {l l':List Ar} {S T:Int→Prop} (hl:∀ e∈l,e∈l') (hS:∀ n,S n→T n) {n:Int} (h:Rch l S n):Rch l' T n:=by
  induction h with
  | base h=>exact .base (hS _ h)
  | step he _ ih=>exact .step (hl _ he) ih
structure Ov (l:List Ar) (f r:List Int):Prop where
  inc:Inc r
  mem:∀ n,n∈r↔Rch l (·∈f) n
theorem Ov.unique {l:List Ar} {f r r':List Int} (h:Ov l f r) (h':Ov l f r'):r=r':=
  Qe h.inc h'.inc fun x=>by rw[h.mem,h'.mem]
theorem Ov.of_closed {l:List Ar} {f r:List Int} (h:Inc r) (h1:∀ n∈r,Rch l (·∈f) n) (h2:∀ n∈f,n∈r) (h3:∀ e∈l,e.From∈r→e.To∈r):Ov l f r:=
  ⟨h,fun n=>⟨h1 n,fun hr=>by
    induction hr with
    | base h=>exact h2 _ h
    | step he _ ih=>exact h3 _ he ih⟩⟩
theorem Qp {l:List Ar} {f:List Int} {n:Int} (h:Rch l (·∈f) n):n∈f++l.map (·.To):=by
  cases h with
  | base h=>exact List.mem_append.2 (.inl h)
  | step he _=>exact List.mem_append.2 (.inr (List.mem_map_of_mem he))
def Zj (e:Ar):Ar:=⟨e.ID,e.To,e.From,e.Cost⟩
def turn (l:List Ar):List Ar:=l.map Zj
theorem vA {l:List Ar} {e:Ar}:e∈turn l↔Zj e∈l:=by
  unfold turn
  rw[List.mem_map]
  constructor
  ·rintro⟨x,hx,rfl⟩;exact hx
  ·intro h;exact⟨Zj e,h,rfl⟩
def I4 (l:List Ar):Int→List Ar→Int→Prop
  | n,[],t=>n=t
  | n,e::es,t=>e∈l∧e.From=n∧I4 l e.To es t
def ecost (es:List Ar):Int:=(es.map (·.Cost)).sum
theorem Od (e:Ar) (es:List Ar):ecost (e::es)=e.Cost+ecost es:=by simp[ecost]
theorem jS:∀ (a b:List Ar),ecost (a++b)=ecost a+ecost b
  | [],b=>by simp[ecost]
  | e::a,b=>by rw[List.cons_append,Od,Od,jS a b];omega
theorem Xv {l:List Ar}:∀ {a b:List Ar} {n t:Int},I4 l n (a++b) t↔∃ m,I4 l n a m∧I4 l m b t
  | [],b,n,t=>by simp[I4]
  | e::a,b,n,t=>by
    simp only[List.cons_append,I4,Xv (a:=a)]
    constructor
    ·rintro⟨h1,h2,m,h3,h4⟩;exact⟨m,⟨h1,h2,h3⟩,h4⟩
    ·rintro⟨m,⟨h1,h2,h3⟩,h4⟩;exact⟨h1,h2,m,h3,h4⟩
theorem I4.mem {l:List Ar}:∀ {es:List Ar} {n t:Int},I4 l n es t→∀ e∈es,e∈l
  | [],n,t,h,e,he=>by simp at he
  | x::es,n,t,h,e,he=>by
    rcases List.mem_cons.1 he with rfl | he
    ·exact h.1
    ·exact I4.mem h.2.2 e he
theorem I4.mono {l l':List Ar} (hs:∀ e∈l,e∈l'):∀ {es:List Ar} {n t:Int},I4 l n es t→I4 l' n es t
  | [],n,t,h=>h
  | x::es,n,t,h=>⟨hs _ h.1,h.2.1,I4.mono hs h.2.2⟩
def lexle (a b:Int×Nat):Prop:=a.1<b.1∨(a.1=b.1∧a.2≤b.2)
theorem lexle.refl (a:Int×Nat):lexle a a:=.inr ⟨rfl,Nat.le_refl _⟩
theorem lexle.trans {a b c:Int×Nat} (h:lexle a b) (k:lexle b c):lexle a c:=by
  unfold lexle at *;omega
theorem lexle.antisymm {a b:Int×Nat} (h:lexle a b) (k:lexle b a):a=b:=by
  obtain⟨a1,a2⟩:=a;obtain⟨b1,b2⟩:=b
  unfold lexle at *
  simp only at h k
  have h1:a1=b1:=by omega
  have h2:a2=b2:=by omega
  rw[h1,h2]
theorem lexle.add {a b:Int×Nat} (h:lexle a b) (c:Int):lexle (a.1+c,a.2+1) (b.1+c,b.2+1):=by
  unfold lexle at *;simp only;omega
theorem lexle.sub {a b:Int×Nat} {c:Int} (h:lexle (a.1+c,a.2+1) (b.1+c,b.2+1)):lexle a b:=by
  unfold lexle at *;simp only at h;omega
def cst (es:List Ar):Int×Nat:=(ecost es,es.length)
theorem Z8 (e:Ar) (es:List Ar):cst (e::es)=((cst es).1+e.Cost,(cst es).2+1):=by
  unfold cst;rw[Od,Int.add_comm];rfl
theorem jT {α:Type} [DecidableEq α]:∀ {es:List α},¬ es.Nodup→∃ a e b d,es=a++e::(b++e::d)
  | [],h=>absurd List.nodup_nil h
  | x::es,h=>by
    by_cases hx:x∈es
    ·obtain⟨b,d,rfl⟩:=List.append_of_mem hx
     exact⟨[],x,b,d,rfl⟩
    ·have:¬ es.Nodup:=fun hn=>h (List.nodup_cons.2 ⟨hx,hn⟩)
     obtain⟨a,e,b,d,rfl⟩:=jT this
     exact⟨x::a,e,b,d,rfl⟩
theorem shorten {l:List Ar} (h0:∀ e∈l,0≤e.Cost):∀ (k:Nat) {n t:Int} {es:List Ar},es.length≤k→I4 l n es t→∃ es',I4 l n es' t∧es'.length≤l.length∧lexle (cst es') (cst es)
  | 0,n,t,es,hk,h=>⟨es,h,by omega,.refl _⟩
  | k+1,n,t,es,hk,h=>by
    by_cases hn:es.Nodup
    ·exact⟨es,h,I6 hn (I4.mem h),.refl _⟩
    ·obtain⟨a,e,b,d,rfl⟩:=jT hn
     obtain⟨m,h1,h2,h3,h4⟩:=Xv.1 h
     obtain⟨m',h5,h6,h7,h8⟩:=Xv.1 h4
     have hc:I4 l n (a++e::d) t:=Xv.2 ⟨m,h1,h2,h3,h8⟩
     obtain⟨es',g1,g2,g3⟩:=shorten h0 k (by simp at hk ⊢;omega) hc
     refine⟨es',g1,g2,g3.trans ?_⟩
     have hb:0≤ecost b:=by
       have:∀ {b:List Ar},(∀ e∈b,0≤e.Cost)→0≤ecost b:=by
         intro b
         induction b with
         | nil=>intro _;simp[ecost]
         | cons x b ih=>intro h;rw[Od];have:=h x (by simp);have:=ih fun y hy=>h y (List.mem_cons_of_mem _ hy);omega
       exact this fun x hx=>h0 x (I4.mem h5 x hx)
     have he:=h0 e h2
     unfold lexle cst
     simp only[jS,Od,List.length_append,List.length_cons]
     omega
structure cV (l:List Ar) (t n:Int) (p:Int×Nat):Prop where
  walk:∃ es,I4 l n es t∧p=cst es
  least:∀ es,I4 l n es t→lexle p (cst es)
theorem cV.unique {l:List Ar} {t n:Int} {p q:Int×Nat} (h:cV l t n p) (k:cV l t n q):p=q:=by
  obtain⟨es,h1,h2⟩:=h.walk
  obtain⟨es',k1,k2⟩:=k.walk
  exact(k2 ▸ h.least es' k1).antisymm (h2 ▸ k.least es h1)
theorem cV.zB {l:List Ar} (h0:∀ e∈l,0≤e.Cost) {t:Int}:cV l t t (0,0):=by
  refine⟨⟨[],rfl,rfl⟩,fun es h=>?_⟩
  have:0≤ecost es:=by
    have:∀ {b:List Ar},(∀ e∈b,0≤e.Cost)→0≤ecost b:=by
      intro b
      induction b with
      | nil=>intro _;simp[ecost]
      | cons x b ih=>intro h;rw[Od];have:=h x (by simp);have:=ih fun y hy=>h y (List.mem_cons_of_mem _ hy);omega
    exact this fun x hx=>h0 x (I4.mem h x hx)
  unfold lexle cst;simp only;omega
def Good (l:List Ar) (t n:Int) (e:Ar):Prop:=e∈l∧e.From=n∧∃ p,cV l t e.To p∧cV l t n (p.1+e.Cost,p.2+1)
theorem cV.step {l:List Ar} {t n:Int} {p:Int×Nat} (h:cV l t n p) (hn:n≠t):∃ e,Good l t n e:=by
  obtain⟨es,h1,h2⟩:=h.walk
  cases es with
  | nil=>exact absurd h1 hn
  | cons e es=>
    refine⟨e,h1.1,h1.2.1,cst es,⟨⟨es,h1.2.2,rfl⟩,fun es' h'=>?_⟩,by rw[← Z8,← h2];exact h⟩
    have:=h.least (e::es') ⟨h1.1,h1.2.1,h'⟩
    rw[h2,Z8,Z8]at this
    exact this.sub
inductive Qi (l:List Ar) (t:Int):Int→List Int→Prop
  | done:Qi l t t []
  | step {n:Int} {i:Nat} {e:Ar} {ids:List Int}:n≠t→l[i]? =some e→Good l t n e→(∀ j e',j<i→l[j]? =some e'→¬ Good l t n e')→Qi l t e.To ids→Qi l t n (e.ID::ids)
theorem Qi.unique {l:List Ar} {t n:Int} {a b:List Int} (h:Qi l t n a) (k:Qi l t n b):a=b:=by
  induction h generalizing b with
  | done=>
    cases k with
    | done=>rfl
    | step hn=>exact absurd rfl hn
  | @step n i e ids hn hi hg hf _ ih=>
    cases k with
    | done=>exact absurd rfl hn
    | @step _ i' e' ids' hn' hi' hg' hf' hr'=>
      have:i=i':=by
        rcases Nat.lt_trichotomy i i' with h | h | h
        ·exact absurd hg (hf' i e h hi)
        ·exact h
        ·exact absurd hg' (hf i' e' h hi')
      subst this
      rw[hi]at hi'
      obtain rfl:=Option.some.inj hi'
      rw[ih hr']
theorem Qi.walk {l:List Ar} {t n:Int} {ids:List Int} (h:Qi l t n ids) {p:Int×Nat} (hb:cV l t n p) (h0:∀ e∈l,0≤e.Cost):∃ es,I4 l n es t∧es.map (·.ID)=ids∧cst es=p:=by
  induction h generalizing p with
  | done=>exact ⟨[],rfl,rfl,(cV.zB h0).unique hb⟩
  | @step n i e ids hn hi hg hf _ ih=>
    obtain⟨g1,g2,q,g3,g4⟩:=hg
    obtain⟨es,e1,e2,e3⟩:=ih g3
    exact⟨e::es,⟨g1,g2,e1⟩,by rw[List.map_cons,e2],by rw[Z8,e3];exact g4.unique hb⟩
inductive oD (l:List Ar) (f t:Int):List Int×Int×Bool→Prop
  | none:(∀ es,¬ I4 l f es t)→oD l f t ([],0,false)
  | some {p:Int×Nat} {ids:List Int}:cV l t f p→Qi l t f ids→oD l f t (ids,p.1,true)
theorem oD.unique {l:List Ar} {f t:Int} {r r':List Int×Int×Bool} (h:oD l f t r) (k:oD l f t r'):r=r':=by
  cases h with
  | none h=>
    cases k with
    | none=>rfl
    | some hb=>obtain ⟨es,h1,_⟩:=hb.walk;exact absurd h1 (h es)
  | some hb hp=>
    cases k with
    | none k=>obtain ⟨es,h1,_⟩:=hb.walk;exact absurd h1 (k es)
    | some kb kp=>rw[hb.unique kb,hp.unique kp]
abbrev Tab:=Int→Option (Int×Nat)
def lexlt (a b:Int×Nat):Prop:=a.1<b.1∨(a.1=b.1∧a.2<b.2)
instance (a b:Int×Nat):Decidable (lexlt a b):=by unfold lexlt;infer_instance
def TLe (x y:Option (Int×Nat)):Prop:=∀ b,y=some b→∃ a,x=some a∧lexle a b
theorem TLe.refl (x:Option (Int×Nat)):TLe x x:=fun b h=>⟨b,h,.refl b⟩
theorem TLe.trans {x y z:Option (Int×Nat)} (h:TLe x y) (k:TLe y z):TLe x z:=fun b hb=>by
  obtain⟨a,h1,h2⟩:=k b hb
  obtain⟨c,h3,h4⟩:=h a h1
  exact⟨c,h3,h4.trans h2⟩
def Cov (l:List Ar) (t:Int) (T:Tab) (i:Nat):Prop:=∀ n es,I4 l n es t→es.length≤i→TLe (T n) (some (cst es))
theorem Cov.all {l:List Ar} (h0:∀ e∈l,0≤e.Cost) {t:Int} {T:Tab} {i:Nat} (h:Cov l t T i) (hi:l.length≤i):∀ j,Cov l t T j:=by
  intro j n es hc _
  obtain⟨es',g1,g2,g3⟩:=shorten h0 _ (Nat.le_refl _) hc
  refine(h n es' g1 (by omega)).trans fun b hb=>?_
  obtain rfl:=Option.some.inj hb
  exact⟨_,rfl,g3⟩
structure Exact (l:List Ar) (t:Int) (T:Tab):Prop where
  best:∀ n p,T n=some p↔cV l t n p
  cov:∀ i,Cov l t T i
theorem Exact.none {l:List Ar} {t:Int} {T:Tab} (h:Exact l t T) {n:Int} (hn:T n=none):∀ es,¬ I4 l n es t:=fun es hc=>by
  obtain⟨a,h1,_⟩:=h.cov es.length n es hc (Nat.le_refl _) _ rfl
  rw[hn]at h1;cases h1
theorem back_eq {l:List Ar} (hl:l.length≤100000) (f:List Int):Mm l f=E2 (turn l) f:=by
  unfold Mm Er
  rw[Ci (by omega),Option.bind_some]
  obtain⟨s,h1,h2,h3⟩:=Ds (ρ:=List Int) (step:=Gq) (l:=l) (s:=l) (fun k s=>s.length=l.length∧∀ i e,l[i]? =some e→s[i]? =some (if i<k then Zj e else e)) ⟨rfl,fun i e h=>by simpa using h⟩ (fun k x s hk ⟨i1,i2⟩=>by
    have hlt:=(List.getElem?_eq_some_iff.1 hk).1
    have hx:=i2 k x hk
    rw[if_neg (Nat.lt_irrefl k)]at hx
    refine⟨(s.set k (Ar.mk x.ID x.To x.To x.Cost)).set k (Zj x),?_,by simp[i1],fun i e he=>?_⟩
    ·unfold Gq
     rw[Ay hx,Option.bind_some];rfl
    ·rw[List.set_set]
     by_cases h:k=i
     ·subst h
      rw[hk]at he;obtain rfl:=Option.some.inj he
      rw[List.getElem?_set_self (by omega),if_pos (by omega)]
     ·rw[List.getElem?_set_ne h,i2 i e he]
      by_cases h2:i<k
      ·rw[if_pos h2,if_pos (by omega)]
      ·rw[if_neg h2,if_neg (by omega)])
  rw[h1]
  have:s=turn l:=by
    apply List.ext_getElem?
    intro i
    unfold turn
    rw[List.getElem?_map]
    by_cases hi:i<l.length
    ·have he:=Aid hi
     rw[h3 i _ he,he,if_pos hi];rfl
    ·rw[List.getElem?_eq_none (by omega),List.getElem?_eq_none (by omega)];rfl
  subst this
  show(E2 (turn l) f).bind _=_
  cases E2 (turn l) f<;>rfl
theorem fJ (l:List Ar) (n:Int):mget [] (Bz l) n=(l.filter fun e=>decide (e.From=n)).map (·.To):=by
  have key:∀ (l:List Ar) (g:List (Int×List Int)),mget [] (l.foldl (fun g e=>gadd g e.From e.To) g) n=mget [] g n++(l.filter fun e=>decide (e.From=n)).map (·.To):=by
    intro l
    induction l with
    | nil=>intro g;simp
    | cons e l ih=>
      intro g
      rw[List.foldl_cons,ih,sJ]
      by_cases h:e.From=n<;>simp[h]
  have:=key l []
  simpa[mget,Bz]using this
theorem iB (l:List Ar) (m:List (Int×Bool)) (i:List Int) (x:Int) (hi:i.length≤549755813888) :
    Ed l (m,i++[x])=bif (!(mget false m x))then chk (i.length+(mget [] (Bz l) x).length) (some (Out.next (mset m x true,i++mget [] (Bz l) x)))else some (Out.next (m,i)):=by
  unfold Ed
  have e1:IntKind.i64.wrap ((((i++[x]).length:Nat):Int) - 1)=((i.length:Nat):Int):=by
    rw[wrap_i64]<;>simp<;>omega
  simp only[e1]
  rw[Aib (show(0:Int)<(((i++[x]).length:Nat):Int) by simp),cond_true,Ay (x:=x) (by simp),Option.bind_some,N9 (by simp;omega)]
  simp[List.take_left]
theorem l7 {l:List Ar} {f:List Int} (hl:l.length≤100000) (hf:f.length≤100000) (hE:∀ e∈l,I64 e.To) (hF:∀ n∈f,I64 n):∃ r,E2 l f=some r∧Ov l f r:=by
  have hlen:∀ n,(mget [] (Bz l) n).length≤l.length:=fun n=>by
    rw[fJ,List.length_map];exact List.length_filter_le _ _
  have hC:(f++l.map (·.To)).length=f.length+l.length:=by simp
  have hB:(f.length+l.length)*(l.length+1)+f.length≤30000000000:=by
    have:=Nat.mul_le_mul (show f.length+l.length≤200000 by omega) (show l.length+1≤100001 by omega)
    omega
  obtain⟨r,h1,h2⟩:=H3 (step:=Ed l)
    (fun s=>(mkeys s.1).Nodup∧(∀ n,mget false s.1 n=true↔n∈mkeys s.1)∧(∀ n∈mkeys s.1,Rch l (·∈f) n)∧(∀ n∈s.2,Rch l (·∈f) n)∧(∀ n∈f,n∈mkeys s.1∨n∈s.2)∧(∀ e∈l,e.From∈mkeys s.1→e.To∈mkeys s.1∨e.To∈s.2)∧
      (f.length+l.length - s.1.length)*(l.length+1)+s.2.length≤30000000000)
    (fun r=>Ov l f r) (fun s=>(f.length+l.length - s.1.length)*(l.length+1)+s.2.length) (fun s ⟨i1,i2,i3,i4,i5,i6,i7⟩=>by
      obtain⟨m,o⟩:=s
      simp only at i1 i2 i3 i4 i5 i6 i7 ⊢
      have hk:m.length≤f.length+l.length:=by
        have:=I6 i1 (b:=f++l.map (·.To)) fun n hn=>Qp (i3 n hn)
        rw[hC]at this
        simpa[mkeys]using this
      have ho:o=[]∨∃ i x,o=i++[x]:=by
        rcases List.eq_nil_or_concat o with h | ⟨i,x,h⟩
        ·exact .inl h
        ·exact .inr ⟨i,x,by rw[h,List.concat_eq_append]⟩
      rcases ho with rfl | ⟨i,x,rfl⟩
      ·refine .inr ⟨Da (mkeys m),?_,?_⟩
       ·unfold Ed
        have hr:∀ k∈mkeys m, -9223372036854775808≤k∧k≤9223372036854775807:=fun k hk=>by
          rcases List.mem_append.1 (Qp (i3 k hk))with h | h
          ·exact hF k h
          ·obtain⟨e,he,rfl⟩:=List.mem_map.1 h;exact hE e he
        simp only[List.length_nil,Int.natCast_zero,Int.lt_irrefl,decide_false,cond_false]
        rw[N9 hr,Ci (by omega)];rfl
       ·refine .of_closed (r5 i1) (fun n hn=>i3 n ((Mq _ _).1 hn)) (fun n hn=>(Mq _ _).2 ?_) (fun e he hm=>(Mq _ _).2 ?_)
        ·simpa using i5 n hn
        ·simpa using i6 e he ((Mq _ _).1 hm)
      ·simp only[List.length_append,List.length_cons,List.length_nil]at i7
       rw[iB l m i x (by omega)]
       have hx:=i4 x (by simp)
       cases hb:mget false m x with
       | false=>
         have hnew:x ∉ mkeys m:=fun h=>by rw[(i2 x).2 h]at hb;cases hb
         have hlx:=hlen x
         have hle:m.length+1≤f.length+l.length:=by
           have hn:(x::mkeys m).Nodup:=List.nodup_cons.2 ⟨hnew,i1⟩
           have:=I6 hn (b:=f++l.map (·.To)) fun n hn=>by
             rcases List.mem_cons.1 hn with rfl | hn
             ·exact Qp hx
             ·exact Qp (i3 n hn)
           rw[hC]at this
           simpa[mkeys]using this
         have hml:(mset m x true).length=m.length+1:=by
           have hh:mhas m x=false:=by
             cases h:mhas m x with
             | false=>rfl
             | true=>exact absurd ((fL m x).1 h) hnew
           rw[mK,hh];rfl
         have hk2:mkeys (mset m x true)=mkeys m++[x]:=by rw[Xj,if_neg hnew]
         obtain⟨d,hd⟩:∃ d,f.length+l.length=m.length+1+d:=⟨_,(Nat.add_sub_cancel' hle).symm⟩
         have e1:f.length+l.length - m.length=d+1:=by omega
         have e2:f.length+l.length - (m.length+1)=d:=by omega
         rw[e1,Nat.succ_mul]at i7
         simp only[Bool.not_false,cond_true]
         rw[Ci (by omega)]
         refine .inl ⟨_,rfl,⟨pI i1 _ _,fun n=>?_,fun n hn=>?_,fun n hn=>?_,fun n hn=>?_,fun e he hm=>?_,?_⟩,?_⟩
         ·simp only[hk2,Xk,List.mem_append,List.mem_singleton]
          by_cases h:x=n
          ·simp[h]
          ·rw[if_neg h,i2];exact⟨.inl,fun h'=>h'.elim id fun h'=>absurd h'.symm h⟩
         ·simp only[hk2,List.mem_append,List.mem_singleton]at hn
          rcases hn with hn | rfl
          ·exact i3 n hn
          ·exact hx
         ·rcases List.mem_append.1 hn with hn | hn
          ·exact i4 n (by simp[hn])
          ·rw[fJ]at hn
           obtain⟨e,he,rfl⟩:=List.mem_map.1 hn
           have:=List.mem_filter.1 he
           have hfx:=Aia this.2
           exact .step this.1 (hfx ▸ hx)
         ·simp only[hk2,List.mem_append,List.mem_singleton]
          rcases i5 n hn with h | h
          ·exact .inl (.inl h)
          ·rcases List.mem_append.1 h with h | h
           ·exact .inr (.inl h)
           ·exact .inl (.inr (by simpa using h))
         ·simp only[hk2,List.mem_append,List.mem_singleton]at hm ⊢
          rcases hm with hm | hm
          ·rcases i6 e he hm with h | h
           ·exact .inl (.inl h)
           ·rcases List.mem_append.1 h with h | h
            ·exact .inr (.inl h)
            ·exact .inl (.inr (by simpa using h))
          ·refine .inr (.inr ?_)
           rw[fJ]
           exact List.mem_map.2 ⟨e,List.mem_filter.2 ⟨he,Aib hm⟩,rfl⟩
         ·simp only[hml,e2,List.length_append];omega
         ·simp only[hml,e1,e2,List.length_append,Nat.succ_mul,List.length_cons,List.length_nil];omega
       | true=>
         have hold:=(i2 x).1 hb
         refine .inl ⟨_,rfl,⟨i1,i2,i3,fun n hn=>i4 n (by simp[hn]),fun n hn=>?_,fun e he hm=>?_,?_⟩,?_⟩
         ·rcases i5 n hn with h | h
          ·exact .inl h
          ·rcases List.mem_append.1 h with h | h
           ·exact .inr h
           ·exact .inl (by rw[show n=x by simpa using h];exact hold)
         ·rcases i6 e he hm with h | h
          ·exact .inl h
          ·rcases List.mem_append.1 h with h | h
           ·exact .inr h
           ·exact .inl (by rw[show e.To=x by simpa using h];exact hold)
         ·simp only;omega
         ·simp only[List.length_append,List.length_cons,List.length_nil];omega)
    fuel ([],f) ⟨by simp[mkeys],by simp[mget,mkeys],by simp[mkeys],fun n hn=>.base hn,fun n hn=>.inr hn,by simp[mkeys],by simpa using hB⟩ (by show _<1099511627776;simp only[List.length_nil,Nat.sub_zero];omega)
  refine⟨r,?_,h2⟩
  unfold E2 B6
  rw[Ci (by omega),Ci (by omega),Option.bind_some,h1];rfl
def Eh (n_:Int) (least:Int) (most:Int):Option (Bool):=
  (bif (decide (least≤n_))then some (decide (n_≤most))else some false)
def N5 (m:Ba) (k0:Nat) (x_2:Ck) (sv:Unit):Option (Out (Unit) (Int)):=
  (Eh x_2.ID (1:Int) (9999:Int)).bind fun y3=>(bif (!y3)then some (Out.ret (2:Int))else (Eh x_2.Alt (0:Int) (5000:Int)).bind fun y4=>(bif (!y4)then some (Out.ret (2:Int))else (bif (decide ((0:Int)<((k0:Nat):Int)))then (Dh m.Nodes (IntKind.i64.wrap (((k0:Nat):Int) - (1:Int)))).bind fun x_5=>(bif (decide (x_2.ID≤x_5.ID))then some (Out.ret (7:Int))else some (Out.next ()))else some (Out.next ()))))
def Sn (m:Ba):Option (Int):=
  (Am (N5 m) 0 m.Nodes ()).bind fun o0=>o0.on fun s0=>some (0:Int)
def Kr (m:Ba) (x_2:Cc):Option (Out (Unit) (Int)):=
  (Eb m x_2.From).bind fun y10=>(Eb m x_2.To).bind fun y11=>(bif (!y10.2)then some (Out.ret (8:Int))else (bif (!y11.2)then some (Out.ret (8:Int))else (bif (decide (y11.1.Alt≤y10.1.Alt))then some (Out.ret (11:Int))else nz x_2.Spacing ((bif (decide ((Int.tmod (IntKind.i64.wrap ((2:Int)*x_2.Length)) x_2.Spacing)≠(0:Int)))then some (Out.ret (1:Int))else nz x_2.Spacing ((Eh (IntKind.i64.wrap (Int.tdiv (IntKind.i64.wrap ((2:Int)*x_2.Length)) x_2.Spacing)) (1:Int) (200:Int)).bind fun y12=>(bif (!y12)then some (Out.ret (1:Int))else some (Out.next ()))))))))
def G3 (m:Ba) (k0:Nat) (x_2:Cc) (sv:Unit):Option (Out (Unit) (Int)):=
  (Eh x_2.ID (1:Int) (9999:Int)).bind fun y3=>(bif (!y3)then some (Out.ret (2:Int))else (Eh x_2.Operator (1:Int) (8:Int)).bind fun y4=>(bif (!y4)then some (Out.ret (2:Int))else (Eh x_2.Length (10:Int) (6000:Int)).bind fun y5=>(bif (!y5)then some (Out.ret (2:Int))else (Eh x_2.Speed (500:Int) (12000:Int)).bind fun y6=>(bif (!y6)then some (Out.ret (2:Int))else (Eh x_2.Seats (1:Int) (16:Int)).bind fun y7=>(bif (!y7)then some (Out.ret (2:Int))else (Eh x_2.Spacing (5:Int) (1000:Int)).bind fun y8=>(bif (!y8)then some (Out.ret (2:Int))else (bif (decide ((0:Int)<((k0:Nat):Int)))then (Dh m.Lifts (IntKind.i64.wrap (((k0:Nat):Int) - (1:Int)))).bind fun x_13=>(bif (decide (x_2.ID≤x_13.ID))then some (Out.ret (7:Int))else Kr m x_2)else Kr m x_2)))))))
def Ol (m:Ba):Option (Int):=
  (Am (G3 m) 0 m.Lifts ()).bind fun o0=>o0.on fun s0=>some (0:Int)
def Ij (m:Ba) (k0:Nat) (x_2:Cd) (sv:Unit):Option (Out (Unit) (Int)):=
  (Eh x_2.ID (1:Int) (9999:Int)).bind fun y3=>(bif (!y3)then some (Out.ret (2:Int))else (Eh x_2.Operator (1:Int) (8:Int)).bind fun y4=>(bif (!y4)then some (Out.ret (2:Int))else (Eh x_2.Grade (1:Int) (4:Int)).bind fun y5=>(bif (!y5)then some (Out.ret (2:Int))else (Eh x_2.Zone (1:Int) (32:Int)).bind fun y6=>(bif (!y6)then some (Out.ret (2:Int))else (Eh x_2.Length (10:Int) (20000:Int)).bind fun y7=>(bif (!y7)then some (Out.ret (2:Int))else (bif (decide ((0:Int)<((k0:Nat):Int)))then (Dh m.Runs (IntKind.i64.wrap (((k0:Nat):Int) - (1:Int)))).bind fun x_8=>(bif (decide (x_2.ID≤x_8.ID))then some (Out.ret (7:Int))else (Eb m x_2.From).bind fun y9=>(Eb m x_2.To).bind fun y10=>(bif (!y9.2)then some (Out.ret (8:Int))else (bif (!y10.2)then some (Out.ret (8:Int))else (bif (decide (y9.1.Alt≤y10.1.Alt))then some (Out.ret (11:Int))else some (Out.next ())))))else (Eb m x_2.From).bind fun y11=>(Eb m x_2.To).bind fun y12=>(bif (!y11.2)then some (Out.ret (8:Int))else (bif (!y12.2)then some (Out.ret (8:Int))else (bif (decide (y11.1.Alt≤y12.1.Alt))then some (Out.ret (11:Int))else some (Out.next ()))))))))))
def P8 (m:Ba):Option (Int):=
  (Am (Ij m) 0 m.Runs ()).bind fun o0=>o0.on fun s0=>some (0:Int)
def G4 (m:Ba) (k1:Nat) (x_3:Int) (sv:Unit):Option (Out (Unit) (Int)):=
  (bif (decide ((0:Int)<((k1:Nat):Int)))then (Dh m.Bases (IntKind.i64.wrap (((k1:Nat):Int) - (1:Int)))).bind fun x_4=>(bif (decide (x_3≤x_4))then some (Out.ret (7:Int))else some (Out.next ()))else some (Out.next ()))
def aP (m:Ba):Option (Int):=
  (Am (G4 m) 0 m.Bases ()).bind fun o1=>o1.on fun s1=>some (0:Int)
def Fo (m:Ba) (k4:Nat) (x_6:Int) (sv:Unit):Option (Out (Unit) (Int)):=
  (Eb m x_6).bind fun y7=>(bif (!y7.2)then some (Out.ret (8:Int))else some (Out.next ()))
def Sp (m:Ba):Option (Int):=
  (bif (decide (((m.Bases.length:Nat):Int)=(0:Int)))then some (8:Int)else (Am (Fo m) 0 m.Bases ()).bind fun o4=>o4.on fun s4=>aP m)
def eM (m:Ba):Option (Int):=
  (bif (decide ((64:Int)<((m.Nodes.length:Nat):Int)))then some (4:Int)else (bif (decide ((32:Int)<((m.Lifts.length:Nat):Int)))then some (4:Int)else (bif (decide ((64:Int)<((m.Runs.length:Nat):Int)))then some (4:Int)else (bif (decide ((64:Int)<((m.Bases.length:Nat):Int)))then some (4:Int)else (Sn m).bind fun y1=>(bif (decide (y1≠(0:Int)))then some y1 else(Ol m).bind fun y2=>(bif (decide (y2≠(0:Int)))then some y2 else(P8 m).bind fun y3=>(bif (decide (y3≠(0:Int)))then some y3 else(Sp m).bind fun y4=>some y4)))))))
def Wn {α:Type} (idf:α→Int) (d:α) (l:List α) (id:Int):α×Bool:=match l.find? (fun x=>decide (idf x=id))with | some x=>(x,true) | none=>(d,false)
def Cw (m:Ba) (id:Int):Ck×Bool:=Wn Ck.ID ⟨0,0⟩ m.Nodes id
def zY (m:Ba) (id:Int):Cc×Bool:=Wn Cc.ID ⟨0,0,0,0,0,0,0,0⟩ m.Lifts id
def Jq (m:Ba) (id:Int):Cd×Bool:=Wn Cd.ID ⟨0,0,0,0,0,0,0⟩ m.Runs id
theorem Wm {α:Type} {idf:α→Int} {d:α} {l:List α} {id:Int} {step:Nat→α→Unit→Option (Out Unit (α×Bool))} (hs:∀ k x,x∈l→step k x ()=bif decide (idf x=id)then some (.ret (x,true))else some (.next ())) :
    ((Am step 0 l ()).bind fun o=>o.on fun _=>some (d,false))=some (Wn idf d l id):=by
  rw[Fl (fun x=>decide (idf x=id)) (fun x=>(x,true)) hs,Wn]
  cases l.find? (fun x=>decide (idf x=id))<;>rfl
theorem gF {α:Type} {idf:α→Int} {d:α} {l:List α} {id:Int} (h:(Wn idf d l id).2=true):(Wn idf d l id).1∈l∧idf (Wn idf d l id).1=id:=by
  unfold Wn at h ⊢
  split
  ·rename_i x hx
   exact⟨List.mem_of_find?_eq_some hx,by simpa using List.find?_some hx⟩
  ·rename_i hx;rw[hx]at h;cases h
theorem tE {α:Type} {idf:α→Int} {d:α} {l:List α} {x:α} (h:x∈l):(Wn idf d l (idf x)).2=true:=by
  unfold Wn
  split
  ·rfl
  ·rename_i hx
   have:=List.find?_eq_none.1 hx x h
   simp at this
theorem Yz {m:Ba} {id:Int} (h:(Cw m id).2=true):(Cw m id).1∈m.Nodes∧(Cw m id).1.ID=id:=gF h
theorem aS {m:Ba} {id:Int} (h:(Jq m id).2=true):(Jq m id).1∈m.Runs∧(Jq m id).1.ID=id:=gF h
theorem Gp (m:Ba) (id:Int):Eb m id=some (Cw m id):=Wm fun _ _ _=>rfl
theorem Ql (n lo hi:Int):Eh n lo hi=some (decide (lo≤n∧n≤hi)):=by
  unfold Eh
  by_cases h:lo≤n
  ·simp[h]
  ·simp[h]
theorem vM (n lo hi:Int):Ez n lo hi=some (decide (lo≤n∧n≤hi)):=Ql n lo hi
def Ko {α:Type} (idf:α→Int) (l:List α):Prop:=∀ k x y,l[k+1]? =some x→l[k]? =some y→idf y<idf x
def before {α ρ:Type} (idf:α→Int) (l:List α) (k:Nat) (x:α) (bad good:Option (Out Unit ρ)):Option (Out Unit ρ):=
  bif decide (0<((k:Nat):Int))then (Dh l (IntKind.i64.wrap ((k:Int) - 1))).bind fun y=>bif decide (idf x≤idf y)then bad else good else good
theorem Xw {α ρ:Type} {idf:α→Int} {l:List α} {k:Nat} {x:α} {bad good:Option (Out Unit ρ)} (hk:l[k]? =some x) (hl:l.length≤100000) :
    ((∀ y,0<k→l[k - 1]? =some y→idf y<idf x)∧before idf l k x bad good=good)∨(¬ (∀ y,0<k→l[k - 1]? =some y→idf y<idf x)∧before idf l k x bad good=bad):=by
  have hlt:=(List.getElem?_eq_some_iff.1 hk).1
  unfold before
  by_cases h0:0<k
  ·rw[Aib (by omega),cond_true,Qj h0 (by omega),Xl (by omega)]
   have hy:l[k - 1]? =some l[k - 1]:=Aid (by omega)
   show(_∧(bif decide (idf x≤idf l[k - 1])then bad else good)=_)∨(_∧(bif decide (idf x≤idf l[k - 1])then bad else good)=_)
   by_cases hle:idf x≤idf l[k - 1]
   ·rw[Aib hle,cond_true]
    refine .inr ⟨fun h=>?_,rfl⟩
    have:=h _ h0 hy
    omega
   ·rw[Aic hle,cond_false]
    refine .inl ⟨fun y _ hy'=>?_,rfl⟩
    rw[hy]at hy'
    obtain rfl:=Option.some.inj hy'
    omega
  ·rw[Aic (by omega),cond_false]
   exact .inl ⟨fun y h=>absurd h h0,rfl⟩
theorem T8 {α:Type} {idf:α→Int} {l:List α}:Ko idf l↔∀ (k:Nat) x,l[k]? =some x→∀ y,0<k→l[k - 1]? =some y→idf y<idf x:=by
  constructor
  ·intro h k x hx y h0 hy
   refine h (k - 1) x y ?_ hy
   rwa [show k - 1+1=k by omega]
  ·intro h k x y hx hy
   exact h (k+1) x hx y (by omega) (by simpa using hy)
def wS (x:Ck):Prop:=(1≤x.ID∧x.ID≤9999)∧(0≤x.Alt∧x.Alt≤5000)
def aL (m:Ba) (a b:Int):Prop:=(Cw m a).2=true∧(Cw m b).2=true∧(Cw m a).1.Alt<(Cw m b).1.Alt
def x4 (x:Cc):Prop:=(1≤x.ID∧x.ID≤9999)∧(1≤x.Operator∧x.Operator≤8)∧(10≤x.Length∧x.Length≤6000)∧(500≤x.Speed∧x.Speed≤12000)∧(1≤x.Seats∧x.Seats≤16)∧(5≤x.Spacing∧x.Spacing≤1000)
def aM (x:Cc):Prop:=(2*x.Length).tmod x.Spacing=0∧1≤(2*x.Length).tdiv x.Spacing∧(2*x.Length).tdiv x.Spacing≤200
def wT (m:Ba) (x:Cc):Prop:=x4 x∧aL m x.From x.To∧aM x
def zF (x:Cd):Prop:=(1≤x.ID∧x.ID≤9999)∧(1≤x.Operator∧x.Operator≤8)∧(1≤x.Grade∧x.Grade≤4)∧(1≤x.Zone∧x.Zone≤32)∧(10≤x.Length∧x.Length≤20000)
def yC (m:Ba) (x:Cd):Prop:=zF x∧aL m x.To x.From
structure Kp (m:Ba):Prop where
  lenN:m.Nodes.length≤64
  lenL:m.Lifts.length≤32
  lenR:m.Runs.length≤64
  lenB:m.Bases.length≤64
  nodes:∀ x∈m.Nodes,wS x
  nodesR:Ko Ck.ID m.Nodes
  lifts:∀ x∈m.Lifts,wT m x
  liftsR:Ko Cc.ID m.Lifts
  runs:∀ x∈m.Runs,yC m x
  runsR:Ko Cd.ID m.Runs
  some:m.Bases≠[]
  bases:∀ b∈m.Bases,(Cw m b).2=true
  basesR:Ko (fun b:Int=>b) m.Bases
theorem tests {α:Type} {step:Nat→α→Unit→Option (Out Unit Int)} {l:List α} (ok:Nat→α→Prop) (hs:∀ k x,l[k]? =some x→(step k x ()=some (.next ())∧ok k x)∨(∃ r,step k x ()=some (.ret r)∧r≠0∧¬ ok k x)) :
    ∃ r,((Am step 0 l ()).bind fun o=>o.on fun _=>some 0)=some r∧(r=0↔∀ k x,l[k]? =some x→ok k x):=by
  rcases E7 (step:=step) (l:=l) (s:=()) (fun k _=>∀ i x,i<k→l[i]? =some x→ok i x) (fun r=>r≠0∧∃ k x,l[k]? =some x∧¬ ok k x) (fun i x h=>by omega) (fun k x u hk hI=>by
    rcases hs k x hk with⟨h1,h2⟩ | ⟨r,h1,h2,h3⟩
    ·refine .inl ⟨(),h1,fun i y hi hy=>?_⟩
     by_cases h:i=k
     ·subst h;rw[hk]at hy;obtain rfl:=Option.some.inj hy;exact h2
     ·exact hI i y (by omega) hy
    ·exact .inr ⟨r,h1,h2,k,x,hk,h3⟩)with ⟨u,h1,h2⟩ | ⟨r,h1,h2,k,x,hk,h3⟩
  ·refine⟨0,by rw[h1];rfl,fun _ k x hk=>h2 k x (List.getElem?_eq_some_iff.1 hk).1 hk,fun _=>rfl⟩
  ·refine⟨r,by rw[h1];rfl,fun h=>absurd h h2,fun h=>absurd (h k x hk) h3⟩
theorem lC {α:Type} {l:List α} {P:α→Prop} {Q:Nat→α→Prop}:(∀ (k:Nat) x,l[k]? =some x→P x∧Q k x)↔(∀ x∈l,P x)∧∀ (k:Nat) x,l[k]? =some x→Q k x:=by
  constructor
  ·intro h
   refine⟨fun x hx=>?_,fun k x hk=>(h k x hk).2⟩
   obtain⟨k,hk⟩:=List.getElem?_of_mem hx
   exact(h k x hk).1
  ·intro h k x hk
   exact⟨h.1 x (Aie hk),h.2 k x hk⟩
theorem gZ (m:Ba) (hl:m.Nodes.length≤64):∃ r,Sn m=some r∧(r=0↔(∀ x∈m.Nodes,wS x)∧Ko Ck.ID m.Nodes):=by
  rw[T8,← lC]
  refine tests _ fun k x hk=>?_
  have hb:N5 m k x ()=(bif !decide (1≤x.ID∧x.ID≤9999)then some (Out.ret 2)else bif !decide (0≤x.Alt∧x.Alt≤5000)then some (Out.ret 2)else before Ck.ID m.Nodes k x (some (Out.ret 7)) (some (Out.next ()))):=by
    simp only[N5,Ql,Option.bind_some];rfl
  rw[hb]
  by_cases h1:1≤x.ID∧x.ID≤9999
  ·by_cases h2:0≤x.Alt∧x.Alt≤5000
   ·rw[Aib h1,Aib h2]
    rcases Xw (idf:=Ck.ID) (bad:=some (Out.ret (7:Int))) (good:=some (Out.next ())) hk (by omega)with ⟨h3,e⟩ | ⟨h3,e⟩
    ·exact .inl ⟨e,⟨h1,h2⟩,h3⟩
    ·exact .inr ⟨7,e,by decide,fun h=>h3 h.2⟩
   ·rw[Aib h1,Aic h2]
    exact .inr ⟨2,rfl,by decide,fun h=>h2 h.1.2⟩
  ·rw[Aic h1]
   exact .inr ⟨2,rfl,by decide,fun h=>h1 h.1.1⟩
theorem eY (m:Ba):R8 m.Nodes=Sn m:=rfl
theorem zH {n:Int} (h:10≤n∧n≤6000):IntKind.i64.wrap (2*n)=2*n:=by rw[wrap_i64]<;>omega
theorem oK {a b:Int} (ha:0≤a) (hb:0<b):0≤a.tdiv b∧a.tdiv b≤a:=by
  rw[Int.tdiv_eq_ediv_of_nonneg ha]
  exact⟨Int.ediv_nonneg ha (by omega),Int.ediv_le_self _ ha⟩
theorem rT {n s:Int} (h:10≤n∧n≤6000) (hs:5≤s∧s≤1000):IntKind.i64.wrap ((2*n).tdiv s)=(2*n).tdiv s:=by
  have:=oK (a:=2*n) (b:=s) (by omega) (by omega)
  rw[wrap_i64]<;>omega
def leads (m:Ba) (a b:Int) (good:Option (Out Unit Int)):Option (Out Unit Int):=
  bif !(Cw m a).2 then some (.ret 8)else bif !(Cw m b).2 then some (.ret 8)else bif decide ((Cw m b).1.Alt≤(Cw m a).1.Alt)then some (.ret 11)else good
theorem mQ (m:Ba) (a b:Int) (good:Option (Out Unit Int)):(aL m a b∧leads m a b good=good)∨(¬ aL m a b∧∃ r,leads m a b good=some (.ret r)∧r≠0):=by
  unfold leads aL
  cases h1:(Cw m a).2 with
  | false=>exact .inr ⟨by simp,8,rfl,by decide⟩
  | true=>
    cases h2:(Cw m b).2 with
    | false=>exact .inr ⟨by simp,8,rfl,by decide⟩
    | true=>
      by_cases h3:(Cw m b).1.Alt≤(Cw m a).1.Alt
      ·rw[Aib h3]
       exact .inr ⟨fun h=>by omega,11,rfl,by decide⟩
      ·rw[Aic h3]
       exact .inl ⟨⟨rfl,rfl,by omega⟩,rfl⟩
def carr (x:Cc) (good:Option (Out Unit Int)):Option (Out Unit Int):=
  nz x.Spacing (bif decide ((IntKind.i64.wrap (2*x.Length)).tmod x.Spacing≠0)then some (.ret 1)else nz x.Spacing (bif !decide (1≤IntKind.i64.wrap ((IntKind.i64.wrap (2*x.Length)).tdiv x.Spacing)∧IntKind.i64.wrap ((IntKind.i64.wrap (2*x.Length)).tdiv x.Spacing)≤200)then some (.ret 1)else good))
theorem xU {x:Cc} (hl:10≤x.Length∧x.Length≤6000) (hs:5≤x.Spacing∧x.Spacing≤1000) (good:Option (Out Unit Int)):(aM x∧carr x good=good)∨(¬ aM x∧∃ r,carr x good=some (.ret r)∧r≠0):=by
  unfold carr aM
  rw[fD (by omega),fD (by omega),zH hl,rT hl hs]
  by_cases h1:(2*x.Length).tmod x.Spacing=0
  ·rw[Aic (by simpa using h1)]
   by_cases h2:1≤(2*x.Length).tdiv x.Spacing∧(2*x.Length).tdiv x.Spacing≤200
   ·rw[Aib h2];exact .inl ⟨⟨h1,h2.1,h2.2⟩,rfl⟩
   ·rw[Aic h2];exact .inr ⟨fun h=>h2 h.2,1,rfl,by decide⟩
  ·rw[Aib (by simpa using h1)];exact .inr ⟨fun h=>h1 h.1,1,rfl,by decide⟩
theorem hG (m:Ba) (hl:m.Lifts.length≤32):∃ r,Ol m=some r∧(r=0↔(∀ x∈m.Lifts,wT m x)∧Ko Cc.ID m.Lifts):=by
  rw[T8,← lC]
  refine tests _ fun k x hk=>?_
  have hb:G3 m k x ()=(bif !decide (1≤x.ID∧x.ID≤9999)then some (Out.ret 2)else bif !decide (1≤x.Operator∧x.Operator≤8)then some (Out.ret 2)else bif !decide (10≤x.Length∧x.Length≤6000)then some (Out.ret 2)else
   bif !decide (500≤x.Speed∧x.Speed≤12000)then some (Out.ret 2)else bif !decide (1≤x.Seats∧x.Seats≤16)then some (Out.ret 2)else bif !decide (5≤x.Spacing∧x.Spacing≤1000)then some (Out.ret 2)else
   before Cc.ID m.Lifts k x (some (Out.ret 7)) (leads m x.From x.To (carr x (some (.next ()))))):=by
    simp only[G3,Kr,Ql,Gp,Option.bind_some];rfl
  rw[hb]
  by_cases h1:1≤x.ID∧x.ID≤9999
  case neg=>rw[Aic h1];exact .inr ⟨2,rfl,by decide,fun h=>h1 h.1.1.1⟩
  by_cases h2:1≤x.Operator∧x.Operator≤8
  case neg=>rw[Aib h1,Aic h2];exact .inr ⟨2,rfl,by decide,fun h=>h2 h.1.1.2.1⟩
  by_cases h3:10≤x.Length∧x.Length≤6000
  case neg=>rw[Aib h1,Aib h2,Aic h3];exact .inr ⟨2,rfl,by decide,fun h=>h3 h.1.1.2.2.1⟩
  by_cases h4:500≤x.Speed∧x.Speed≤12000
  case neg=>rw[Aib h1,Aib h2,Aib h3,Aic h4];exact .inr ⟨2,rfl,by decide,fun h=>h4 h.1.1.2.2.2.1⟩
  by_cases h5:1≤x.Seats∧x.Seats≤16
  case neg=>rw[Aib h1,Aib h2,Aib h3,Aib h4,Aic h5];exact .inr ⟨2,rfl,by decide,fun h=>h5 h.1.1.2.2.2.2.1⟩
  by_cases h6:5≤x.Spacing∧x.Spacing≤1000
  case neg=>rw[Aib h1,Aib h2,Aib h3,Aib h4,Aib h5,Aic h6];exact .inr ⟨2,rfl,by decide,fun h=>h6 h.1.1.2.2.2.2.2⟩
  rw[Aib h1,Aib h2,Aib h3,Aib h4,Aib h5,Aib h6]
  rcases Xw (idf:=Cc.ID) (bad:=some (Out.ret (7:Int))) (good:=leads m x.From x.To (carr x (some (.next ())))) hk (by omega)with ⟨h7,e⟩ | ⟨h7,e⟩
  case inr=>exact .inr ⟨7,e,by decide,fun h=>h7 h.2⟩
  rcases mQ m x.From x.To (carr x (some (.next ())))with ⟨h8,e2⟩ | ⟨h8,r,e2,hr⟩
  case inr=>exact .inr ⟨r,e.trans e2,hr,fun h=>h8 h.1.2.1⟩
  rcases xU h3 h6 (some (.next ()))with ⟨h9,e3⟩ | ⟨h9,r,e3,hr⟩
  case inr=>exact .inr ⟨r,e.trans (e2.trans e3),hr,fun h=>h9 h.1.2.2⟩
  exact .inl ⟨e.trans (e2.trans e3),⟨⟨h1,h2,h3,h4,h5,h6⟩,h8,h9⟩,h7⟩
theorem j7 (m:Ba) (hl:m.Runs.length≤64):∃ r,P8 m=some r∧(r=0↔(∀ x∈m.Runs,yC m x)∧Ko Cd.ID m.Runs):=by
  rw[T8,← lC]
  refine tests _ fun k x hk=>?_
  have hlead:∀ (good:Option (Out Unit Int)),(bif !(Cw m x.From).2 then some (.ret 8)else bif !(Cw m x.To).2 then some (.ret 8)else bif decide ((Cw m x.From).1.Alt≤(Cw m x.To).1.Alt)then some (.ret 11)else good)=leads m x.To x.From good:=by
    intro good
    unfold leads
    cases(Cw m x.From).2<;>cases (Cw m x.To).2<;>rfl
  have hb:Ij m k x ()=(bif !decide (1≤x.ID∧x.ID≤9999)then some (Out.ret 2)else bif !decide (1≤x.Operator∧x.Operator≤8)then some (Out.ret 2)else bif !decide (1≤x.Grade∧x.Grade≤4)then some (Out.ret 2)else
   bif !decide (1≤x.Zone∧x.Zone≤32)then some (Out.ret 2)else bif !decide (10≤x.Length∧x.Length≤20000)then some (Out.ret 2)else
   before Cd.ID m.Runs k x (some (Out.ret 7)) (leads m x.To x.From (some (.next ())))):=by
    simp only[Ij,Ql,Gp,Option.bind_some,hlead];rfl
  rw[hb]
  by_cases h1:1≤x.ID∧x.ID≤9999
  case neg=>rw[Aic h1];exact .inr ⟨2,rfl,by decide,fun h=>h1 h.1.1.1⟩
  by_cases h2:1≤x.Operator∧x.Operator≤8
  case neg=>rw[Aib h1,Aic h2];exact .inr ⟨2,rfl,by decide,fun h=>h2 h.1.1.2.1⟩
  by_cases h3:1≤x.Grade∧x.Grade≤4
  case neg=>rw[Aib h1,Aib h2,Aic h3];exact .inr ⟨2,rfl,by decide,fun h=>h3 h.1.1.2.2.1⟩
  by_cases h4:1≤x.Zone∧x.Zone≤32
  case neg=>rw[Aib h1,Aib h2,Aib h3,Aic h4];exact .inr ⟨2,rfl,by decide,fun h=>h4 h.1.1.2.2.2.1⟩
  by_cases h5:10≤x.Length∧x.Length≤20000
  case neg=>rw[Aib h1,Aib h2,Aib h3,Aib h4,Aic h5];exact .inr ⟨2,rfl,by decide,fun h=>h5 h.1.1.2.2.2.2⟩
  rw[Aib h1,Aib h2,Aib h3,Aib h4,Aib h5]
  rcases Xw (idf:=Cd.ID) (bad:=some (Out.ret (7:Int))) (good:=leads m x.To x.From (some (.next ()))) hk (by omega)with ⟨h7,e⟩ | ⟨h7,e⟩
  case inr=>exact .inr ⟨7,e,by decide,fun h=>h7 h.2⟩
  rcases mQ m x.To x.From (some (.next ()))with ⟨h8,e2⟩ | ⟨h8,r,e2,hr⟩
  case inr=>exact .inr ⟨r,e.trans e2,hr,fun h=>h8 h.1.2⟩
  exact .inl ⟨e.trans e2,⟨⟨h1,h2,h3,h4,h5⟩,h8⟩,h7⟩
theorem oJ {α:Type} {step:Nat→α→Unit→Option (Out Unit Int)} {l:List α} (e:Int) (ok:Nat→α→Prop) (hs:∀ k x,l[k]? =some x→(step k x ()=some (.next ())∧ok k x)∨(step k x ()=some (.ret e)∧¬ ok k x)) :
    (Am step 0 l ()=some (.next ())∧∀ k x,l[k]? =some x→ok k x)∨(Am step 0 l ()=some (.ret e)∧¬ ∀ k x,l[k]? =some x→ok k x):=by
  rcases E7 (step:=step) (l:=l) (s:=()) (fun k _=>∀ i x,i<k→l[i]? =some x→ok i x) (fun r=>r=e∧∃ k x,l[k]? =some x∧¬ ok k x) (fun i x h=>by omega) (fun k x u hk hI=>by
    rcases hs k x hk with⟨h1,h2⟩ | ⟨h1,h3⟩
    ·refine .inl ⟨(),h1,fun i y hi hy=>?_⟩
     by_cases h:i=k
     ·subst h;rw[hk]at hy;obtain rfl:=Option.some.inj hy;exact h2
     ·exact hI i y (by omega) hy
    ·exact .inr ⟨e,h1,rfl,k,x,hk,h3⟩)with ⟨u,h1,h2⟩ | ⟨r,h1,h2,k,x,hk,h3⟩
  ·exact .inl ⟨h1,fun k x hk=>h2 k x (List.getElem?_eq_some_iff.1 hk).1 hk⟩
  ·subst h2;exact .inr ⟨h1,fun h=>h3 (h k x hk)⟩
theorem y0 (m:Ba):(Am (Fo m) 0 m.Bases ()=some (.next ())∧∀ b∈m.Bases,(Cw m b).2=true)∨(Am (Fo m) 0 m.Bases ()=some (.ret 8)∧¬ ∀ b∈m.Bases,(Cw m b).2=true):=by
  have h:=oJ (step:=Fo m) (l:=m.Bases) 8 (fun _ b=>(Cw m b).2=true) (fun k x hk=>by
    simp only[Fo,Gp,Option.bind_some]
    cases(Cw m x).2<;>simp)
  have e:(∀ (k:Nat) x,m.Bases[k]? =some x→(Cw m x).2=true)↔∀ b∈m.Bases,(Cw m b).2=true:=
    ⟨fun h b hb=>by obtain⟨k,hk⟩:=List.getElem?_of_mem hb;exact h k b hk,fun h k x hk=>h x (Aie hk)⟩
  rwa [e]at h
theorem yZ (m:Ba) (hl:m.Bases.length≤64):(Am (G4 m) 0 m.Bases ()=some (.next ())∧Ko (fun b:Int=>b) m.Bases)∨(Am (G4 m) 0 m.Bases ()=some (.ret 7)∧¬ Ko (fun b:Int=>b) m.Bases):=by
  rw[T8]
  refine oJ _ _ fun k x hk=>?_
  rcases Xw (idf:=fun b:Int=>b) (bad:=some (Out.ret (7:Int))) (good:=some (Out.next ())) hk (by omega)with ⟨h,e⟩ | ⟨h,e⟩
  ·exact .inl ⟨e,h⟩
  ·exact .inr ⟨e,h⟩
theorem rN (m:Ba) (hl:m.Bases.length≤64):(Jr (Ea m) (m.Bases.length - 1) ()=some (.next ())∧Ko (fun b:Int=>b) m.Bases)∨(Jr (Ea m) (m.Bases.length - 1) ()=some (.ret 7)∧¬ Ko (fun b:Int=>b) m.Bases):=by
  have hn:m.Bases.length - 1≤9223372036854775807:=by omega
  rw[Jr,if_pos hn]
  have h:=oJ (step:=Ea m) (l:=List.replicate (m.Bases.length - 1) ()) 7 (fun k _=>∀ x y,m.Bases[k+1]? =some x→m.Bases[k]? =some y→y<x) (fun k u hk=>by
    have hk:=S7 hk
    have h1:m.Bases[k+1]? =some m.Bases[k+1]:=Aid (by omega)
    have h2:m.Bases[k]? =some m.Bases[k]:=Aid (by omega)
    have e1:Dh m.Bases ((k:Int)+1)=some m.Bases[k+1]:=Qf (by omega) h1
    have e2:Dh m.Bases (IntKind.i64.wrap ((k:Int)+1 - 1))=some m.Bases[k]:=Qf (by rw[wrap_i64]<;>omega) h2
    simp only[Ea,e1,e2,Option.bind_some]
    by_cases hle:m.Bases[k+1]≤m.Bases[k]
    ·rw[Aib hle]
     exact .inr ⟨rfl,fun h=>by have:=h _ _ h1 h2;omega⟩
    ·rw[Aic hle]
     refine .inl ⟨rfl,fun x y hx hy=>?_⟩
     rw[h1]at hx;rw[h2]at hy
     obtain rfl:=Option.some.inj hx;obtain rfl:=Option.some.inj hy
     omega)
  have e:(∀ (k:Nat) (u:Unit),(List.replicate (m.Bases.length - 1) ())[k]? =some u→∀ x y,m.Bases[k+1]? =some x→m.Bases[k]? =some y→y<x)↔Ko (fun b:Int=>b) m.Bases:=by
    constructor
    ·intro h k x y hx hy
     have:=(List.getElem?_eq_some_iff.1 hx).1
     exact h k () (by rw[List.getElem?_replicate,if_pos (by omega)]) x y hx hy
    ·intro h k _ _ x y hx hy
     exact h k x y hx hy
  rwa [e]at h
theorem hN (m:Ba) (hl:m.Bases.length≤64):∃ r,Sp m=some r∧O7 m=some r∧(r=0↔m.Bases≠[]∧(∀ b∈m.Bases,(Cw m b).2=true)∧Ko (fun b:Int=>b) m.Bases):=by
  unfold Sp O7
  by_cases h0:m.Bases=[]
  ·exact⟨8,by simp[h0],by simp[h0],by simp[h0]⟩
  have hlen:¬ ((m.Bases.length:Nat):Int)=0:=by
    have:=List.length_pos_iff.2 h0;omega
  rw[Aic hlen,cond_false,cond_false]
  have e1:Am (Nn m) 0 m.Bases ()=Am (Fo m) 0 m.Bases ():=rfl
  rw[e1]
  rcases y0 m with⟨h1,h2⟩ | ⟨h1,h2⟩
  case inr=>exact ⟨8,by rw[h1];rfl,by rw[h1];rfl,by simp[h2]⟩
  rcases yZ m hl with⟨h3,h4⟩ | ⟨h3,h4⟩
  ·rcases rN m hl with⟨h5,h6⟩ | ⟨h5,h6⟩
   ·refine⟨0,?_,?_,fun _=>⟨h0,h2,h4⟩,fun _=>rfl⟩
    ·rw[h1];show((Am (G4 m) 0 m.Bases ()).bind fun o=>o.on fun _=>some 0)=_;rw[h3];rfl
    ·rw[h1];show((Jr (Ea m) (m.Bases.length - 1) ()).bind fun o=>o.on fun _=>some 0)=_;rw[h5];rfl
   ·exact absurd h4 h6
  ·rcases rN m hl with⟨h5,h6⟩ | ⟨h5,h6⟩
   ·exact absurd h6 h4
   ·refine⟨7,?_,?_,fun h=>by omega,fun h=>absurd h.2.2 h4⟩
    ·rw[h1];show((Am (G4 m) 0 m.Bases ()).bind fun o=>o.on fun _=>some 0)=_;rw[h3];rfl
    ·rw[h1];show((Jr (Ea m) (m.Bases.length - 1) ()).bind fun o=>o.on fun _=>some 0)=_;rw[h5];rfl
theorem uV (m:Ba) (a b:Int):Gb m a b=some (if(Cw m a).2=false then 8 else if(Cw m b).2=false then 8 else if(Cw m b).1.Alt≤(Cw m a).1.Alt then 11 else 0):=by
  unfold Gb
  simp only[Gp,Option.bind_some]
  cases(Cw m a).2<;>cases (Cw m b).2<;>simp
  by_cases h:(Cw m b).1.Alt≤(Cw m a).1.Alt
  ·simp[h]
  ·simp[h]
theorem c7 (m:Ba) (a b:Int) (good:Option (Out Unit Int)):((Gb m a b).bind fun y=>bif decide (y≠0)then some (Out.ret y)else good)=leads m a b good:=by
  rw[uV]
  unfold leads
  cases(Cw m a).2
  ·rfl
  cases(Cw m b).2
  ·rfl
  show(bif decide ((if(Cw m b).1.Alt≤(Cw m a).1.Alt then(11:Int)else 0)≠0)then some (Out.ret (if(Cw m b).1.Alt≤(Cw m a).1.Alt then(11:Int)else 0))else good)=bif decide ((Cw m b).1.Alt≤(Cw m a).1.Alt)then some (Out.ret 11)else good
  by_cases h:(Cw m b).1.Alt≤(Cw m a).1.Alt
  ·rw[if_pos h,Aib h];rfl
  ·rw[if_neg h,Aic h];rfl
theorem wB (x:Cc) (good:Option (Out Unit Int)):((Hc x).bind fun y=>bif !y then some (Out.ret 1)else good)=carr x good:=by
  unfold Hc carr
  simp only[vM]
  by_cases hs:x.Spacing=0
  ·simp[nz,hs]
  rw[fD hs,fD hs,fD hs,fD hs]
  by_cases h:(IntKind.i64.wrap (2*x.Length)).tmod x.Spacing=0
  ·have e1:decide ((IntKind.i64.wrap (2*x.Length)).tmod x.Spacing=0)=true:=Aib h
   have e2:decide ((IntKind.i64.wrap (2*x.Length)).tmod x.Spacing≠0)=false:=Aic (by simpa using h)
   rw[e1,e2];rfl
  ·have e1:decide ((IntKind.i64.wrap (2*x.Length)).tmod x.Spacing=0)=false:=Aic h
   have e2:decide ((IntKind.i64.wrap (2*x.Length)).tmod x.Spacing≠0)=true:=Aib h
   rw[e1,e2];rfl
theorem eZ (m:Ba):O6 m=Ol m:=by
  have h:Kf m=G3 m:=by
    funext k x u
    simp only[Kf,vM,Option.bind_some,c7,wB,G3,Kr,Ql,Gp]
    rfl
  unfold O6 Ol
  rw[h]
theorem iA (m:Ba):Q4 m=P8 m:=by
  have hlead:∀ (a b:Int) (good:Option (Out Unit Int)),(bif !(Cw m b).2 then some (.ret 8)else bif !(Cw m a).2 then some (.ret 8)else bif decide ((Cw m b).1.Alt≤(Cw m a).1.Alt)then some (.ret 11)else good)=leads m a b good:=by
    intro a b good
    unfold leads
    cases(Cw m a).2<;>cases (Cw m b).2<;>rfl
  have h:Ls m=Ij m:=by
    funext k x u
    simp only[Ls,vM,Option.bind_some,c7,Ij,Ql,Gp,hlead]
  unfold Q4 P8
  rw[h]
theorem Vw (m:Ba):∃ r,eM m=some r∧H0 m=some r∧(r=0↔Kp m):=by
  unfold eM H0
  by_cases h1:(64:Int)<((m.Nodes.length:Nat):Int)
  ·rw[Aib h1];exact⟨4,rfl,rfl,fun h=>by omega,fun h=>by have:=h.lenN;omega⟩
  by_cases h2:(32:Int)<((m.Lifts.length:Nat):Int)
  ·rw[Aic h1,Aib h2];exact⟨4,rfl,rfl,fun h=>by omega,fun h=>by have:=h.lenL;omega⟩
  by_cases h3:(64:Int)<((m.Runs.length:Nat):Int)
  ·rw[Aic h1,Aic h2,Aib h3];exact⟨4,rfl,rfl,fun h=>by omega,fun h=>by have:=h.lenR;omega⟩
  by_cases h4:(64:Int)<((m.Bases.length:Nat):Int)
  ·rw[Aic h1,Aic h2,Aic h3,Aib h4];exact⟨4,rfl,rfl,fun h=>by omega,fun h=>by have:=h.lenB;omega⟩
  rw[Aic h1,Aic h2,Aic h3,Aic h4]
  obtain⟨r1,e1,i1⟩:=gZ m (by omega)
  obtain⟨r2,e2,i2⟩:=hG m (by omega)
  obtain⟨r3,e3,i3⟩:=j7 m (by omega)
  obtain⟨r4,e4,e4',i4⟩:=hN m (by omega)
  simp only[cond_false,eY,eZ,iA,e1,e2,e3,e4,e4',Option.bind_some]
  by_cases z1:r1=0
  case neg=>rw[Aib z1];exact⟨r1,rfl,rfl,fun h=>absurd h z1,fun h=>absurd (i1.2 ⟨h.nodes,h.nodesR⟩) z1⟩
  by_cases z2:r2=0
  case neg=>rw[Aic (by simpa using z1),Aib z2];exact⟨r2,rfl,rfl,fun h=>absurd h z2,fun h=>absurd (i2.2 ⟨h.lifts,h.liftsR⟩) z2⟩
  by_cases z3:r3=0
  case neg=>rw[Aic (by simpa using z1),Aic (by simpa using z2),Aib z3];exact⟨r3,rfl,rfl,fun h=>absurd h z3,fun h=>absurd (i3.2 ⟨h.runs,h.runsR⟩) z3⟩
  rw[Aic (by simpa using z1),Aic (by simpa using z2),Aic (by simpa using z3)]
  refine⟨r4,rfl,rfl,fun h=>?_,fun h=>i4.2 ⟨h.some,h.bases,h.basesR⟩⟩
  have g1:=i1.1 z1;have g2:=i2.1 z2;have g3:=i3.1 z3;have g4:=i4.1 h
  exact⟨by omega,by omega,by omega,by omega,g1.1,g1.2,g2.1,g2.2,g3.1,g3.2,g4.1,g4.2.1,g4.2.2⟩
theorem oV (m:Ba):∃ r,H0 m=some r∧(r=0↔Kp m):=by
  obtain⟨r,_,h1,h2⟩:=Vw m
  exact⟨r,h1,h2⟩
theorem eD (l:List Int) (n:Int):Tu l n=some (decide (n∈l)):=Wf fun k x hx=>rfl
theorem put_eq {l:List Int} (h:Inc l) (hl:l.length≤100000000) (n:Int):∃ r,Xg l n=some r∧Inc r∧(∀ x,x∈r↔x∈l∨x=n):=by
  have hpw:=List.pairwise_iff_getElem.1 h
  obtain⟨s,h1,h2,h3,h4,h5,h6⟩:=Ds (ρ:=List Int) (step:=Ul n) (l:=l) (s:=(false,[])) (fun k s=>Inc s.2∧(∀ y∈s.2,(y∈l.take k∨(y=n∧∀ z∈l.drop k,n<z)))∧(∀ x,x∈s.2↔x∈l.take k∨(s.1=true∧x=n))∧(s.1=false→∀ x∈l.take k,x<n)∧s.2.length≤k+1)
    ⟨List.Pairwise.nil,by simp,by simp,by simp,by simp⟩ (fun k x s hk ⟨i1,i2,i3,i4,i5⟩=>by
      obtain⟨d,o⟩:=s
      simp only at i1 i2 i3 i4 i5
      have hlt:=(List.getElem?_eq_some_iff.1 hk).1
      have hx:l[k]=x:=(List.getElem?_eq_some_iff.1 hk).2
      have tk:∀ y∈l.take k,y<x:=fun y hy=>by
        obtain⟨i,hi,rfl⟩:=List.getElem_of_mem hy
        rw[List.length_take]at hi
        rw[List.getElem_take,← hx]
        exact hpw i k (by omega) hlt (by omega)
      have dk:l.drop k=x::l.drop (k+1):=by rw[List.drop_eq_getElem_cons hlt,hx]
      have dk1:∀ z∈l.drop (k+1),x<z:=fun z hz=>by
        obtain⟨i,hi,rfl⟩:=List.getElem_of_mem hz
        rw[List.length_drop]at hi
        rw[List.getElem_drop,← hx]
        exact hpw k (k+1+i) hlt (by omega) (by omega)
      have ts:=Bx hk
      have olt:∀ y∈o,(d=true→y<x)∧(d=false→y<x∧y<n):=fun y hy=>by
        refine⟨fun _=>?_,fun hd=>?_⟩
        ·rcases i2 y hy with h | ⟨rfl,h⟩
         ·exact tk y h
         ·exact h x (by rw[dk];simp)
        ·rcases(i3 y).1 hy with h | ⟨h,_⟩
         ·exact⟨tk y h,i4 hd y h⟩
         ·rw[hd]at h;cases h
      have app:∀ {o:List Int} {z:Int},Inc o→(∀ y∈o,y<z)→Inc (o++[z]):=fun ho hz=>by
        unfold Inc
        rw[List.pairwise_append]
        refine⟨ho,by simp,fun a ha b hb=>?_⟩
        simp at hb;subst hb;exact hz a ha
      unfold Ul
      simp only
      cases d with
      | true=>
        simp only[Bool.not_true,cond_false]
        rw[Ci (by omega)]
        refine⟨_,rfl,app i1 fun y hy=>(olt y hy).1 rfl,fun y hy=>?_,fun y=>?_,(fun h=>by cases h),by simp;omega⟩
        ·rw[ts]
         rcases List.mem_append.1 hy with hy | hy
         ·rcases i2 y hy with h | ⟨h,h'⟩
          ·exact .inl (List.mem_append.2 (.inl h))
          ·exact .inr ⟨h,fun z hz=>h' z (by rw[dk];exact List.mem_cons_of_mem _ hz)⟩
         ·exact .inl (List.mem_append.2 (.inr hy))
        ·simp only[ts,List.mem_append,i3,List.mem_singleton]
         constructor
         ·rintro((h | h) | h)
          ·exact .inl (.inl h)
          ·exact .inr h
          ·exact .inl (.inr h)
         ·rintro((h | h) | h)
          ·exact .inl (.inl h)
          ·exact .inr h
          ·exact .inl (.inr h)
      | false=>
        simp only[Bool.not_false,cond_true]
        have hok:o.length≤k:=by
          have:=I6 i1.nodup (b:=l.take k) fun z hz=>by
            rcases(i3 z).1 hz with h | ⟨h,_⟩
            ·exact h
            ·cases h
          rw[List.length_take]at this;omega
        by_cases c1:n≤x
        ·rw[Aib c1,cond_true]
         by_cases c2:n<x
         ·rw[Aib c2,cond_true,Ci (by omega),Ci (by omega)]
          refine⟨_,rfl,app (app i1 fun y hy=>((olt y hy).2 rfl).2) fun y hy=>?_,fun y hy=>?_,fun y=>?_,(fun h=>by cases h),by simp;omega⟩
          ·rcases List.mem_append.1 hy with hy | hy
           ·exact((olt y hy).2 rfl).1
           ·simp at hy;subst hy;exact c2
          ·rw[ts]
           simp only[List.mem_append,List.mem_singleton]at hy ⊢
           rcases hy with(hy | hy) | hy
           ·rcases i2 y hy with h | ⟨h,h'⟩
            ·exact .inl (.inl h)
            ·exact .inr ⟨h,fun z hz=>h' z (by rw[dk];exact List.mem_cons_of_mem _ hz)⟩
           ·exact .inr ⟨hy,fun z hz=>by have:=dk1 z hz;omega⟩
           ·exact .inl (.inr hy)
          ·simp only[ts,List.mem_append,i3,List.mem_singleton]
           constructor
           ·rintro(((h | ⟨h,_⟩) | h) | h)
            ·exact .inl (.inl h)
            ·cases h
            ·exact .inr ⟨trivial,h⟩
            ·exact .inl (.inr h)
           ·rintro((h | h) | ⟨_,h⟩)
            ·exact .inl (.inl (.inl h))
            ·exact .inr h
            ·exact .inl (.inr h)
         ·have e:x=n:=by omega
          rw[Aic c2,cond_false,Ci (by omega)]
          refine⟨_,rfl,app i1 fun y hy=>((olt y hy).2 rfl).1,fun y hy=>?_,fun y=>?_,(fun h=>by cases h),by simp;omega⟩
          ·rw[ts]
           simp only[List.mem_append,List.mem_singleton]at hy ⊢
           rcases hy with hy | hy
           ·rcases i2 y hy with h | ⟨h,h'⟩
            ·exact .inl (.inl h)
            ·exact .inr ⟨h,fun z hz=>h' z (by rw[dk];exact List.mem_cons_of_mem _ hz)⟩
           ·exact .inl (.inr hy)
          ·simp only[ts,List.mem_append,i3,List.mem_singleton]
           constructor
           ·rintro((h | ⟨h,_⟩) | h)
            ·exact .inl (.inl h)
            ·cases h
            ·exact .inl (.inr h)
           ·rintro((h | h) | ⟨_,h⟩)
            ·exact .inl (.inl h)
            ·exact .inr h
            ·exact .inr (by rw[e];exact h)
        ·rw[Aic c1,cond_false,Ci (by omega)]
         refine⟨_,rfl,app i1 fun y hy=>((olt y hy).2 rfl).1,fun y hy=>?_,fun y=>?_,fun _ y hy=>?_,by simp;omega⟩
         ·rw[ts]
          simp only[List.mem_append,List.mem_singleton]at hy ⊢
          rcases hy with hy | hy
          ·rcases i2 y hy with h | ⟨h,h'⟩
           ·exact .inl (.inl h)
           ·exact .inr ⟨h,fun z hz=>h' z (by rw[dk];exact List.mem_cons_of_mem _ hz)⟩
          ·exact .inl (.inr hy)
         ·simp only[ts,List.mem_append,i3,List.mem_singleton]
          constructor
          ·rintro((h | ⟨h,_⟩) | h)
           ·exact .inl (.inl h)
           ·cases h
           ·exact .inl (.inr h)
          ·rintro((h | h) | ⟨h,_⟩)
           ·exact .inl (.inl h)
           ·exact .inr h
           ·cases h
         ·rw[ts]at hy
          rcases List.mem_append.1 hy with hy | hy
          ·exact i4 rfl y hy
          ·simp at hy;subst hy;omega)
  rw[List.take_length]at h4 h5
  unfold Xg
  rw[h1]
  show ∃ r,(bif (!s.1)then _ else _)=some r∧_
  cases hd:s.1 with
  | true=>
    refine⟨s.2,rfl,h2,fun x=>?_⟩
    rw[h4,hd];simp
  | false=>
    rw[Bool.not_false,cond_true,Ci (by omega)]
    refine⟨_,rfl,?_,fun x=>?_⟩
    ·unfold Inc
     rw[List.pairwise_append]
     refine⟨h2,by simp,fun a ha b hb=>?_⟩
     simp at hb;subst hb
     rcases(h4 a).1 ha with h | ⟨h,_⟩
     ·exact h5 hd a h
     ·rw[hd]at h;cases h
    ·simp only[List.mem_append,List.mem_singleton,h4,hd];simp
theorem yJ {l r:List Int} {n:Int} (h:Inc l) (hr:Inc r) (hm:∀ x,x∈r↔x∈l∨x=n) (hn:n∈l):r=l:=
  Qe hr h fun x=>by rw[hm];exact⟨fun h=>h.elim id fun h=>h ▸ hn,.inl⟩
theorem w4 {l r:List Int} {n:Int} (h:Inc l) (hr:Inc r) (hm:∀ x,x∈r↔x∈l∨x=n) (hn:n ∉ l):r.length=l.length+1:=by
  have h1:(n::l).Nodup:=List.nodup_cons.2 ⟨hn,h.nodup⟩
  have a:=I6 h1 (b:=r) fun x hx=>by rw[hm];rcases List.mem_cons.1 hx with h | h;exact .inr h;exact .inl h
  have b:=I6 hr.nodup (b:=n::l) fun x hx=>by rcases(hm x).1 hx with h | h;exact List.mem_cons_of_mem _ h;exact h ▸ List.mem_cons_self
  simp at a b;omega
theorem mB {l:List Ar} {f out:List Int} (h:Inc out) (hr:∀ n∈out,Rch l (·∈f) n) (hC:(f++l.map (·.To)).length≤1000000) :
    ∃ s,Am No 0 l out=some (.next s)∧Inc s∧(∀ n∈s,Rch l (·∈f) n)∧(∀ n∈out,n∈s)∧((s=out∧∀ e∈l,e.From∈out→e.To∈out)∨out.length<s.length):=by
  obtain⟨s,h1,h2,h3,h4,h5⟩:=Ds (ρ:=Out (List Int×Int) (List Int)) (step:=No) (l:=l) (s:=out) (fun k s=>Inc s∧(∀ n∈s,Rch l (·∈f) n)∧(∀ n∈out,n∈s)∧((s=out∧∀ e∈l.take k,e.From∈out→e.To∈out)∨out.length<s.length))
    ⟨h,hr,fun n h=>h,.inl ⟨rfl,by simp⟩⟩ (fun k e s hk ⟨i1,i2,i3,i4⟩=>by
      have he:=Aie hk
      unfold No
      rw[eD,Option.bind_some]
      have hlen:s.length≤1000000:=Nat.le_trans (I6 i1.nodup fun n hn=>Qp (i2 n hn)) hC
      by_cases hf:e.From∈s
      ·obtain⟨r,g1,g2,g3⟩:=put_eq i1 (by omega) e.To
       rw[Aib hf,cond_true,g1]
       refine⟨r,rfl,g2,fun n hn=>?_,fun n hn=>(g3 n).2 (.inl (i3 n hn)),?_⟩
       ·rcases(g3 n).1 hn with h | rfl
        ·exact i2 n h
        ·exact .step he (i2 _ hf)
       ·by_cases ht:e.To∈s
        ·obtain rfl:=yJ i1 g2 g3 ht
         rcases i4 with⟨rfl,h⟩ | h
         ·refine .inl ⟨rfl,fun x hx=>?_⟩
          rw[Bx hk]at hx
          rcases List.mem_append.1 hx with hx | hx
          ·exact h x hx
          ·simp at hx;subst hx;exact fun _=>ht
         ·exact .inr h
        ·have:=w4 i1 g2 g3 ht
         refine .inr ?_
         rcases i4 with⟨rfl,_⟩ | h<;>omega
      ·rw[Aic hf,cond_false]
       refine⟨s,rfl,i1,i2,i3,?_⟩
       rcases i4 with⟨rfl,h⟩ | h
       ·refine .inl ⟨rfl,fun x hx=>?_⟩
        rw[Bx hk]at hx
        rcases List.mem_append.1 hx with hx | hx
        ·exact h x hx
        ·simp at hx;subst hx;exact fun h=>absurd h hf
       ·exact .inr h)
  rw[List.take_length]at h5
  exact⟨s,h1,h2,h3,h4,h5⟩
theorem iX {l:List Ar} {f:List Int} (hl:l.length≤100000) (hf:f.length≤100000):∃ r,O8 l f=some r∧Ov l f r:=by
  have hC:(f++l.map (·.To)).length≤1000000:=by simp;omega
  obtain⟨s,h1,h2,h3⟩:=Ds (ρ:=List Int) (step:=Q8) (l:=f) (s:=[]) (fun k s=>Inc s∧∀ x,x∈s↔x∈f.take k) ⟨List.Pairwise.nil,by simp⟩ (fun k x s hk ⟨i1,i2⟩=>by
    have hlen:s.length≤100000:=Nat.le_trans (I6 i1.nodup (b:=f) fun n hn=>List.mem_of_mem_take ((i2 n).1 hn)) hf
    obtain⟨r,g1,g2,g3⟩:=put_eq i1 (by omega) x
    refine⟨r,by unfold Q8;rw[g1];rfl,g2,fun y=>?_⟩
    rw[g3,i2,Bx hk];simp)
  rw[List.take_length]at h3
  have s1:∀ n∈s,Rch l (·∈f) n:=fun n hn=>.base ((h3 n).1 hn)
  unfold O8
  rw[h1]
  show ∃ r,Q7 l s=some r∧_
  unfold Q7
  have hlen:∀ o:List Int,Inc o→(∀ n∈o,Rch l (·∈f) n)→o.length≤1000000:=fun o ho hr=>Nat.le_trans (I6 ho.nodup fun n hn=>Qp (hr n hn)) hC
  obtain⟨r,g1,g2⟩:=H3 (step:=Q9 l) (fun st=>Inc st.1∧(∀ n∈st.1,Rch l (·∈f) n)∧(∀ n∈f,n∈st.1)∧st.2≤(st.1.length:Int)∧(st.2=(st.1.length:Int)→∀ e∈l,e.From∈st.1→e.To∈st.1)) (fun r=>Ov l f r)
    (fun st=>2*(1000000 - st.1.length)+if st.2<(st.1.length:Int)then 1 else 0) (fun st ⟨i1,i2,i3,i4,i5⟩=>by
      obtain⟨o,w⟩:=st
      simp only at i1 i2 i3 i4 i5 ⊢
      unfold Q9
      simp only
      by_cases hw:w<(o.length:Int)
      ·obtain⟨s,e1,e2,e3,e4,e5⟩:=mB i1 i2 hC
       rw[Aib hw,cond_true,e1]
       have:=hlen s e2 e3
       have:=hlen o i1 i2
       refine .inl ⟨_,rfl,⟨e2,e3,fun n hn=>e4 n (i3 n hn),?_,fun hh=>?_⟩,?_⟩
       ·simp only
        rcases e5 with⟨rfl,_⟩ | h<;>omega
       ·rcases e5 with⟨rfl,h⟩ | h
        ·exact h
        ·simp only at hh;omega
       ·simp only
        rw[if_pos hw]
        rcases e5 with⟨rfl,_⟩ | h
        ·rw[if_neg (by omega)];omega
        ·rw[if_pos (by omega)];omega
      ·rw[Aic hw,cond_false]
       exact .inr ⟨o,rfl,.of_closed i1 i2 i3 (i5 (by omega))⟩) fuel (s, -1) ⟨h2,s1,fun n hn=>(h3 n).2 hn,by simp only;omega,fun h=>by simp only at h;omega⟩ (by show _<1099511627776;simp only;split<;>omega)
  rw[g1]
  exact⟨r,rfl,g2⟩
theorem pA {l:List Ar} (hl:l.length≤100000):Uk l=some (turn l):=by
  unfold Uk
  rw[Cz (step:=Vg) (fun _=>true) Zj (by omega) (fun k x s hx=>rfl),List.filter_eq_self.2 (fun a _=>rfl)];rfl
theorem uZ {l:List Ar} {f:List Int} (hl:l.length≤100000) (hf:f.length≤100000):∃ r,Yv l f=some r∧Ov (turn l) f r:=by
  obtain⟨r,h1,h2⟩:=iX (l:=turn l) (f:=f) (by simpa[turn]using hl) hf
  refine⟨r,?_,h2⟩
  unfold Yv
  rw[pA hl,Option.bind_some,h1];rfl
theorem contains_eq (l:List Int) (v:Int):Bq l v=some (decide (v∈l)):=by
  unfold Bq F3
  rcases E7 (step:=Dt v) (l:=l) (s:=()) (fun k _=>v ∉ l.take k) (fun r=>v∈l∧0≤r) (by simp) (fun k x u hk hI=>by
    unfold Dt
    by_cases e:v=x
    ·rw[Aib e];exact .inr ⟨_,rfl,e ▸ Aie hk,by omega⟩
    ·rw[Aic e]
     refine .inl ⟨(),rfl,?_⟩
     rw[Bx hk];simp[hI,e])with ⟨u,h1,h2⟩ | ⟨r,h1,h2,h3⟩
  ·rw[List.take_length]at h2
   rw[h1,Aic h2];rfl
  ·rw[h1,Aib h2]
   show some (decide (0≤r))=some true
   rw[Aib h3]
def wV (x:Cd):Ar:=⟨x.ID,x.From,x.To,x.Length⟩
def rA (x:Cc):Ar:=⟨x.ID,x.From,x.To,x.Length⟩
def Rm (m:Ba) (runs:List Int):List Ar:=(m.Runs.filter fun x=>decide (x.ID∈runs)).map wV
def upE (m:Ba) (lifts:List Int):List Ar:=(m.Lifts.filter fun x=>decide (x.ID∈lifts)).map rA
theorem sK {m:Ba} {runs:List Int} {e:Ar}:e∈Rm m runs↔∃ x∈m.Runs,x.ID∈runs∧wV x=e:=by
  unfold Rm
  simp only[List.mem_map,List.mem_filter,decide_eq_true_eq,and_assoc]
theorem kL {m:Ba} {lifts:List Int} {e:Ar}:e∈upE m lifts↔∃ x∈m.Lifts,x.ID∈lifts∧rA x=e:=by
  unfold upE
  simp only[List.mem_map,List.mem_filter,decide_eq_true_eq,and_assoc]
theorem eE {m:Ba} (M:Kp m) {n:Int} (h:(Cw m n).2=true):1≤n∧n≤9999:=by
  obtain⟨h1,h2⟩:=Yz h
  have:=(M.nodes _ h1).1
  rw[h2]at this;exact this
theorem gK {m:Ba} (M:Kp m) {runs:List Int} {e:Ar} (h:e∈Rm m runs):(Cw m e.From).2=true∧(Cw m e.To).2=true∧10≤e.Cost∧e.Cost≤20000:=by
  obtain⟨x,hx,_,rfl⟩:=sK.1 h
  have:=M.runs x hx
  exact⟨this.2.2.1,this.2.1,this.1.2.2.2.2.1,this.1.2.2.2.2.2⟩
theorem uG {m:Ba} (M:Kp m) {lifts:List Int} {e:Ar} (h:e∈upE m lifts):(Cw m e.From).2=true∧(Cw m e.To).2=true:=by
  obtain⟨x,hx,_,rfl⟩:=kL.1 h
  have:=M.lifts x hx
  exact⟨this.2.1.1,this.2.1.2.1⟩
theorem Z7 {m:Ba} (M:Kp m) (runs:List Int):(Rm m runs).length≤64:=by
  unfold Rm;rw[List.length_map];exact Nat.le_trans (List.length_filter_le _ _) M.lenR
theorem yG {m:Ba} (M:Kp m) (lifts:List Int):(upE m lifts).length≤32:=by
  unfold upE;rw[List.length_map];exact Nat.le_trans (List.length_filter_le _ _) M.lenL
theorem rH {m:Ba} (M:Kp m) (runs:List Int):H4 m runs=some (Rm m runs):=by
  have:=M.lenR
  unfold H4
  rw[Cz (fun x=>decide (x.ID∈runs)) wV (by omega) (fun k x s hx=>by unfold L0;rw[contains_eq];rfl)];rfl
theorem l8 {m:Ba} (M:Kp m) (runs:List Int):Uh m runs=some (Rm m runs):=by
  have:=M.lenR
  unfold Uh
  rw[Cz (fun x=>decide (x.ID∈runs)) wV (by omega) (fun k x s hx=>by unfold Ye;rw[eD];rfl)];rfl
theorem zI {m:Ba} (M:Kp m) (lifts:List Int):N6 m lifts=some (upE m lifts):=by
  have:=M.lenL
  unfold N6
  rw[Cz (fun x=>decide (x.ID∈lifts)) rA (by omega) (fun k x s hx=>by unfold Om;rw[contains_eq];rfl)];rfl
def Jh (a b:List Ar):Prop:=a.map (fun e=>(e.From,e.To))=b.map (fun e=>(e.From,e.To))
theorem Jh.rch {a b:List Ar} (h:Jh a b) {S:Int→Prop} {n:Int} (hr:Rch a S n):Rch b S n:=by
  induction hr with
  | base h=>exact .base h
  | @step e he _ ih=>
    have:(e.From,e.To)∈a.map fun e=>(e.From,e.To):=List.mem_map.2 ⟨e,he,rfl⟩
    rw[h]at this
    obtain⟨e',he',hh⟩:=List.mem_map.1 this
    rw[Prod.mk.injEq]at hh
    rw[← hh.2]
    exact .step he' (by rw[hh.1];exact ih)
theorem Jh.turn {a b:List Ar} (h:Jh a b):Jh (turn a) (turn b):=by
  unfold Jh Proofs.YtjopghiagoidgaaGreat.turn at *
  rw[List.map_map,List.map_map]
  have e:∀ l:List Ar,l.map ((fun e:Ar=>(e.From,e.To))∘Zj)=(l.map fun e=>(e.From,e.To)).map Prod.swap:=fun l=>by rw[List.map_map];rfl
  rw[e,e,h]
theorem bX (l s:List Ar) (hl:s.length+l.length≤100000):∃ s',Am Kq 0 l s=some (.next s')∧Jh s' (s++l):=by
  obtain⟨s',h1,h2⟩:=Ds (ρ:=Out (List Ar) (List Ar)) (step:=Kq) (l:=l) (s:=s) (fun k t=>Jh t (s++l.take k)) (by simp[Jh]) (fun k e t hk hI=>by
    have hlt:=(List.getElem?_eq_some_iff.1 hk).1
    have hlen:=congrArg List.length hI
    simp at hlen
    refine⟨_,by unfold Kq;rw[Ci (by omega)],?_⟩
    unfold Jh at *
    rw[Bx hk,← List.append_assoc,List.map_append,List.map_append,hI];rfl)
  rw[List.take_length]at h2
  exact⟨s',h1,h2⟩
theorem Jh.len {a b:List Ar} (h:Jh a b):a.length=b.length:=by
  have:=congrArg List.length h;simpa using this
theorem zZ {a b:List Ar} (ha:a.length≤1000) (hb:b.length≤1000):∃ r,Mp [a,b]=some r∧Jh r (a++b):=by
  obtain⟨s1,h1,h2⟩:=bX a [] (by simp;omega)
  have l1:=h2.len
  simp at l1
  obtain⟨s2,h3,h4⟩:=bX b s1 (by omega)
  refine⟨s2,?_,?_⟩
  ·unfold Mp Am M5
   rw[h1]
   simp only[Option.bind_some,Out.on,Out.cont,Am,h3]
  ·unfold Jh at *
   rw[h4,List.map_append,h2,List.nil_append,List.map_append]
theorem z6 {a:List Ar} (ha:a.length≤1000):∃ r,Mp [a]=some r∧Jh r a:=by
  obtain⟨s1,h1,h2⟩:=bX a [] (by simp;omega)
  refine⟨s1,?_,by simpa using h2⟩
  unfold Mp Am M5
  rw[h1];rfl
def RR (m:Ba) (lifts runs:List Int) (n:Int):Prop:=Rch (upE m lifts++Rm m runs) (·∈m.Bases) n
def HH (m:Ba) (runs:List Int) (n:Int):Prop:=Rch (turn (Rm m runs)) (·∈m.Bases) n
structure Va (P:Int→Prop) (r:List Int):Prop where
  inc:Inc r
  mem:∀ n,n∈r↔P n
theorem Va.unique {P:Int→Prop} {r r':List Int} (h:Va P r) (h':Va P r'):r=r':=Qe h.inc h'.inc fun n=>by rw[h.mem,h'.mem]
theorem rM {m:Ba} (M:Kp m):∀ n∈m.Bases,I64 n:=fun n hn=>by have:=eE M (M.bases n hn);exact⟨by omega,by omega⟩
theorem kF {m:Ba} (M:Kp m) (lifts runs:List Int):∃ r,G2 m lifts runs=some r∧Va (RR m lifts runs) r:=by
  have hb:=M.lenB
  have h1:=yG M lifts
  have h2:=Z7 M runs
  obtain⟨j,e1,e2⟩:=zZ (a:=upE m lifts) (b:=Rm m runs) (by omega) (by omega)
  have hl:=e2.len
  rw[List.length_append]at hl
  obtain⟨r,e3,e4⟩:=l7 (l:=j) (f:=m.Bases) (by omega) (by omega) (fun e he=>by
    have:(e.From,e.To)∈j.map fun e=>(e.From,e.To):=List.mem_map.2 ⟨e,he,rfl⟩
    rw[e2]at this
    obtain⟨e',he',hh⟩:=List.mem_map.1 this
    rw[Prod.mk.injEq]at hh
    rw[← hh.2]
    rcases List.mem_append.1 he' with he' | he'
    ·have:=eE M (uG M he').2;exact⟨by omega,by omega⟩
    ·have:=eE M (gK M he').2.1;exact⟨by omega,by omega⟩) (rM M)
  refine⟨r,?_,e4.inc,fun n=>?_⟩
  ·unfold G2
   rw[zI M,Option.bind_some,rH M,Option.bind_some,e1,Option.bind_some,e3];rfl
  ·rw[e4.mem];exact⟨fun h=>e2.rch h,fun h=>Jh.rch e2.symm h⟩
theorem gY {m:Ba} (M:Kp m) (lifts runs:List Int):∃ r,Pt m lifts runs=some r∧Va (RR m lifts runs) r:=by
  have hb:=M.lenB
  have hL:=M.lenL
  have h2:=Z7 M runs
  obtain⟨s,g1,g2⟩:=Ds (ρ:=List Int) (step:=Mk lifts) (l:=m.Lifts) (s:=Rm m runs) (fun k s=>s=Rm m runs++((m.Lifts.take k).filter fun x=>decide (x.ID∈lifts)).map fun x=>Ar.mk 0 x.From x.To 0) (by simp) (fun k x s hk hI=>by
    have hlt:=(List.getElem?_eq_some_iff.1 hk).1
    have hlen:s.length≤1000:=by
      rw[hI,List.length_append,List.length_map]
      have:=List.length_filter_le (fun x:Cc=>decide (x.ID∈lifts)) (m.Lifts.take k)
      rw[List.length_take]at this;omega
    unfold Mk
    rw[eD,Option.bind_some]
    by_cases hx:x.ID∈lifts
    ·rw[Aib hx,cond_true,Ci (by omega)]
     refine⟨_,rfl,?_⟩
     rw[Bx hk,List.filter_append,List.filter_cons_of_pos (by simpa using hx),List.filter_nil,List.map_append,hI];simp
    ·rw[Aic hx,cond_false]
     refine⟨_,rfl,?_⟩
     rw[Bx hk,List.filter_append,List.filter_cons_of_neg (by simpa using hx),List.filter_nil,List.append_nil,hI])
  rw[List.take_length]at g2
  have hlen:s.length≤1000:=by
    rw[g2,List.length_append,List.length_map]
    have:=List.length_filter_le (fun x:Cc=>decide (x.ID∈lifts)) m.Lifts
    omega
  obtain⟨r,e3,e4⟩:=iX (l:=s) (f:=m.Bases) (by omega) (by omega)
  refine⟨r,?_,e4.inc,fun n=>?_⟩
  ·unfold Pt
   rw[l8 M,Option.bind_some,Ci (by omega),g1]
   show(O8 s m.Bases).bind _=_
   rw[e3];rfl
  ·rw[e4.mem]
   constructor
   ·intro h
    refine Jh.rch (a:=upE m lifts++Rm m runs) rfl ?_
    induction h with
    | base h=>exact .base h
    | step he _ ih=>
      rw[g2]at he
      rcases List.mem_append.1 he with he | he
      ·exact .step (List.mem_append.2 (.inr he)) ih
      ·obtain⟨x,hx,rfl⟩:=List.mem_map.1 he
       have hx:=List.mem_filter.1 hx
       exact Rch.step (e:=rA x) (List.mem_append.2 (.inl (kL.2 ⟨x,hx.1,by simpa using hx.2,rfl⟩))) ih
   ·intro h
    unfold RR at h
    induction h with
    | base h=>exact .base h
    | step he _ ih=>
      rcases List.mem_append.1 he with he | he
      ·obtain⟨x,hx,hi,rfl⟩:=kL.1 he
       refine Rch.step (e:=Ar.mk 0 x.From x.To 0) ?_ ih
       rw[g2]
       exact List.mem_append.2 (.inr (List.mem_map.2 ⟨x,List.mem_filter.2 ⟨hx,by simpa using hi⟩,rfl⟩))
      ·exact Rch.step (by rw[g2];exact List.mem_append.2 (.inl he)) ih
theorem xG {m:Ba} (M:Kp m) (runs:List Int):∃ r,Qm m runs=some r∧Va (HH m runs) r:=by
  have hb:=M.lenB
  have h2:=Z7 M runs
  obtain⟨j,e1,e2⟩:=z6 (a:=Rm m runs) (by omega)
  have hl:=e2.len
  obtain⟨r,e3,e4⟩:=l7 (l:=turn j) (f:=m.Bases) (by simp[turn];omega) (by omega) (fun e he=>by
    have he:=vA.1 he
    have:((Zj e).From,(Zj e).To)∈j.map fun e=>(e.From,e.To):=List.mem_map.2 ⟨_,he,rfl⟩
    rw[e2]at this
    obtain⟨e',he',hh⟩:=List.mem_map.1 this
    rw[Prod.mk.injEq]at hh
    have:e.To=e'.From:=hh.1.symm
    rw[this]
    have:=eE M (gK M he').1;exact⟨by omega,by omega⟩) (rM M)
  refine⟨r,?_,e4.inc,fun n=>?_⟩
  ·unfold Qm
   rw[rH M,Option.bind_some,e1,Option.bind_some,back_eq (by omega),e3];rfl
  ·rw[e4.mem];exact⟨fun h=>e2.turn.rch h,fun h=>Jh.rch e2.turn.symm h⟩
theorem lV {m:Ba} (M:Kp m) (runs:List Int):∃ r,Q3 m runs=some r∧Va (HH m runs) r:=by
  have hb:=M.lenB
  have h2:=Z7 M runs
  obtain⟨r,e3,e4⟩:=uZ (l:=Rm m runs) (f:=m.Bases) (by omega) (by omega)
  refine⟨r,?_,e4.inc,e4.mem⟩
  unfold Q3
  rw[l8 M,Option.bind_some,e3];rfl
theorem oS {α:Type} {idf:α→Int} {l:List α} (h:Ko idf l) {a b:α} (ha:a∈l) (hb:b∈l) (e:idf a=idf b):a=b:=by
  have key:∀ (d i:Nat) (hj:i+d+1<l.length),idf (l[i]'(by omega))<idf l[i+d+1]:=by
    intro d
    induction d with
    | zero=>
      intro i hj
      exact h i _ _ (Aid (by omega)) (Aid (by omega))
    | succ d ih=>
      intro i hj
      have h1:=ih i (by omega)
      have h2:=h (i+d+1) l[i+(d+1)+1] l[i+d+1] (by rw[Aid (by omega)];rfl) (Aid (by omega))
      omega
  obtain⟨i,hi,rfl⟩:=List.getElem_of_mem ha
  obtain⟨j,hj,rfl⟩:=List.getElem_of_mem hb
  rcases Nat.lt_trichotomy i j with h1 | h1 | h1
  ·have:=key (j - i - 1) i (by omega)
   simp only[show i+(j - i - 1)+1=j by omega]at this;omega
  ·subst h1;rfl
  ·have:=key (i - j - 1) j (by omega)
   simp only[show j+(i - j - 1)+1=i by omega]at this;omega
end Go.Proofs.YtjopghiagoidgaaGreat
namespace Go.Proofs.YtjopghiagoidgaaGreat.W46
open Go Go.Ab
set_option linter.unusedSimpArgs false
set_option linter.unusedVariables false
theorem rU {a:Int} (h0:0≤a) (h1:a≤4611686018427387904):IntKind.i64.wrap (eQ (IntKind.u64.wrap (IntKind.i64.wrap a)) 1)=a / 2:=by
  have e1:IntKind.i64.wrap a=a:=by rw[wrap_i64]<;>omega
  have e2:IntKind.u64.wrap a=a:=by rw[IntKind.wrap_u64];omega
  have e3:eQ a 1=a / 2:=by unfold eQ;simp
  rw[e1,e2,e3,wrap_i64]<;>omega
theorem xC (x y:Int):cmp_Less_int x y=some (decide (x<y)):=rfl
theorem Zz {xs:List Int} (hi:Inc xs) {i j:Nat} {x y:Int} (hx:xs[i]? =some x) (hy:xs[j]? =some y) (h:i<j):x<y:=by
  obtain⟨h1,rfl⟩:=List.getElem?_eq_some_iff.1 hx
  obtain⟨h2,rfl⟩:=List.getElem?_eq_some_iff.1 hy
  exact(List.pairwise_iff_getElem.1 hi) i j h1 h2 h
theorem r7 {xs:List Int} (hi:Inc xs) (hl:xs.length≤549755813888) (t:Int):∃ i,Dg xs t=some (i,decide (t∈xs)):=by
  obtain⟨r,h1,h2⟩:=H3 (step:=C7 xs t)
    (fun s=>0≤s.1∧s.1≤s.2∧s.2≤xs.length∧(∀ (k:Nat) x,(k:Int)<s.1→xs[k]? =some x→x<t)∧(∀ (k:Nat) x,s.2≤(k:Int)→xs[k]? =some x→t≤x))
    (fun r=>r.2=decide (t∈xs)) (fun s=>(s.2 - s.1).toNat) (by
      rintro⟨i,j⟩ ⟨h0,h1,h2,h3,h4⟩
      dsimp only at h0 h1 h2 h3 h4
      unfold C7
      dsimp only
      by_cases hij:i<j
      ·rw[Aib hij,cond_true,rU (by omega) (by omega)]
       have hm:((i+j) / 2).toNat<xs.length:=by omega
       have hmm:(i+j) / 2=(((i+j) / 2).toNat:Int):=by omega
       have hx:xs[((i+j) / 2).toNat]? =some xs[((i+j) / 2).toNat]:=Aid hm
       generalize xs[((i+j) / 2).toNat]=x at hx
       rw[Qf hmm hx,Option.bind_some,xC,Option.bind_some]
       by_cases hlt:x<t
       ·rw[Aib hlt,cond_true,wrap_i64 (by omega) (by omega)]
        refine .inl ⟨_,rfl,⟨by dsimp only;omega,by dsimp only;omega,h2,fun k y hk hy=>?_,h4⟩,by dsimp only;omega⟩
        dsimp only at hk
        by_cases e:k=((i+j) / 2).toNat
        ·subst e;rw[hx]at hy;obtain rfl:=Option.some.inj hy;exact hlt
        ·have:=Zz hi hy hx (by omega);omega
       ·rw[Aic hlt,cond_false]
        refine .inl ⟨_,rfl,⟨h0,by dsimp only;omega,by dsimp only;omega,h3,fun k y hk hy=>?_⟩,by dsimp only;omega⟩
        dsimp only at hk
        by_cases e:k=((i+j) / 2).toNat
        ·subst e;rw[hx]at hy;obtain rfl:=Option.some.inj hy;omega
        ·have:=Zz hi hx hy (by omega);omega
      ·rw[Aic hij,cond_false]
       have e:j=i:=by omega
       subst e
       right
       by_cases hlen:j<(xs.length:Int)
       ·rw[Aib hlen,cond_true]
        have hjj:j=(j.toNat:Int):=by omega
        have hx:xs[j.toNat]? =some xs[j.toNat]:=Aid (by omega)
        generalize xs[j.toNat]=x at hx
        rw[Qf hjj hx,Option.bind_some]
        by_cases hxt:x=t
        ·rw[Aib hxt,cond_true]
         subst hxt
         exact⟨_,rfl,(Aib (Aie hx)).symm⟩
        ·rw[Aic hxt,cond_false]
         refine⟨_,rfl,(Aic fun hm=>?_).symm⟩
         obtain⟨k,hk⟩:=List.mem_iff_getElem?.1 hm
         by_cases h5:(k:Int)<j
         ·have:=h3 k t h5 hk;omega
         ·have h6:=h4 j.toNat x (by omega) hx
          by_cases e:k=j.toNat
          ·subst e;rw[hx]at hk;exact hxt (Option.some.inj hk)
          ·have:=Zz hi hx hk (by omega);omega
       ·rw[Aic hlen,cond_false]
        refine⟨_,rfl,(Aic fun hm=>?_).symm⟩
        obtain⟨k,hk⟩:=List.mem_iff_getElem?.1 hm
        have:=(List.getElem?_eq_some_iff.1 hk).1
        have:=h3 k t (by omega) hk;omega)
    fuel (0,(xs.length:Int)) ⟨by simp,by simp,by simp,fun k x hk _=>by simp at hk;omega,fun k x hk hx=>by have:=(List.getElem?_eq_some_iff.1 hx).1;simp at hk;omega⟩ (by unfold fuel;simp;omega)
  refine⟨r.1,?_⟩
  unfold Dg
  rw[h1,← h2];rfl
theorem rY {w:Az} (hi:Inc w.Runs) (hl:w.Runs.length≤549755813888) (n:Int):M4 w n=some (decide (n∈w.Runs)):=by
  obtain⟨i,h⟩:=r7 hi hl n
  unfold M4;rw[h];rfl
structure gU (l:List Int):Prop where
  ne:l≠[]
  inc:Inc l
  lo:∀ x∈l,1≤x
  hi:∀ x∈l,x≤9999
theorem pN {l:List Int} (h:∀ (k:Nat) (x y:Int),l[k+1]? =some x→l[k]? =some y→y<x):Inc l:=by
  unfold Inc
  rw[List.pairwise_iff_getElem]
  have key:∀ (d i:Nat) (hj:i+d+1<l.length),l[i]'(by omega)<l[i+d+1]:=by
    intro d
    induction d with
    | zero=>
      intro i hj
      exact h i _ _ (Aid (by omega)) (Aid (by omega))
    | succ d ih=>
      intro i hj
      have h1:=ih i (by omega)
      have h2:=h (i+d+1) l[i+(d+1)+1] l[i+d+1] (by rw[Aid (by omega)];rfl) (Aid (by omega))
      omega
  intro i j hi hj hlt
  have:=key (j - i - 1) i (by omega)
  simpa[show i+(j - i - 1)+1=j by omega]using this
theorem qY {l:List Int} (hl:l.length≤9223372036854775807):∃ b,N8 l=some b∧(b=true↔gU l):=by
  unfold N8
  rcases E7 (step:=Lr l) (l:=l) (s:=()) (fun k _=>∀ (i:Nat) x,i<k→l[i]? =some x→1≤x∧x≤9999∧∀ y,0<i→l[i - 1]? =some y→y<x) (fun r=>r=false∧¬ gU l)
    (fun i x h=>by omega) (fun k x u hk hI=>by
      have hlt:=(List.getElem?_eq_some_iff.1 hk).1
      unfold Lr
      by_cases h1:x<1
      ·rw[Aib h1]
       exact .inr ⟨_,rfl,rfl,fun h=>by have:=h.lo x (Aie hk);omega⟩
      rw[Aic h1,cond_false]
      by_cases h2:9999<x
      ·rw[Aib h2]
       exact .inr ⟨_,rfl,rfl,fun h=>by have:=h.hi x (Aie hk);omega⟩
      rw[Aic h2,cond_false]
      by_cases h3:(0:Int)<(k:Int)
      ·rw[Aib h3,cond_true,Qj (by omega) (by omega)]
       have hy:l[k - 1]? =some l[k - 1]:=Aid (by omega)
       generalize l[k - 1]=y at hy
       rw[Ay hy,Option.bind_some]
       by_cases h4:x≤y
       ·rw[Aib h4]
        refine .inr ⟨_,rfl,rfl,fun h=>?_⟩
        have:=Zz h.inc hy hk (by omega);omega
       ·rw[Aic h4]
        refine .inl ⟨_,rfl,fun i z hi hz=>?_⟩
        by_cases e:i=k
        ·subst e;rw[hk]at hz;obtain rfl:=Option.some.inj hz
         exact⟨by omega,by omega,fun y' _ hy'=>by rw[hy]at hy';obtain rfl:=Option.some.inj hy';omega⟩
        ·exact hI i z (by omega) hz
      ·rw[Aic h3]
       refine .inl ⟨_,rfl,fun i z hi hz=>?_⟩
       have e:i=k:=by omega
       subst e;rw[hk]at hz;obtain rfl:=Option.some.inj hz
       exact⟨by omega,by omega,fun y' h _=>by omega⟩)with ⟨s',h1,h2⟩ | ⟨r,h1,rfl,h2⟩
  ·rw[h1]
   refine⟨_,rfl,?_⟩
   rw[decide_eq_true_eq]
   have hmem:∀ x∈l,1≤x∧x≤9999:=fun x hx=>by
     obtain⟨i,hi⟩:=List.mem_iff_getElem?.1 hx
     have:=h2 i x (List.getElem?_eq_some_iff.1 hi).1 hi
     exact⟨this.1,this.2.1⟩
   constructor
   ·intro h
    refine⟨fun e=>by rw[e]at h;simp at h,pN fun k x y hx hy=>?_,fun x hx=>(hmem x hx).1,fun x hx=>(hmem x hx).2⟩
    exact(h2 (k+1) x (List.getElem?_eq_some_iff.1 hx).1 hx).2.2 y (by omega) (by simpa using hy)
   ·intro h
    have:=List.length_pos_iff.2 h.ne
    omega
  ·rw[h1]
   exact⟨false,rfl,by simp[h2]⟩
theorem fQ {l:List Int} (h:Inc l) (lo:∀ x∈l,1≤x):∀ (k:Nat) (x:Int),l[k]? =some x→(k:Int)+1≤x
  | 0,x,hx=>by have:=lo x (Aie hx);omega
  | k+1,x,hx=>by
    have hlt:=(List.getElem?_eq_some_iff.1 hx).1
    have hy:l[k]? =some l[k]:=Aid (by omega)
    have h1:=fQ h lo k _ hy
    have h2:=Zz h hy hx (by omega)
    omega
theorem gU.len {l:List Int} (h:gU l):l.length≤9999:=by
  by_cases e:l.length=0
  ·omega
  ·have hx:l[l.length - 1]? =some (l[l.length - 1]'(by omega)):=Aid (by omega)
   have h1:=fQ h.inc h.lo _ _ hx
   have h2:=h.hi _ (Aie hx)
   omega
theorem Xe (l:List Int):P7 l=N8 l:=rfl
theorem has_eq (l:List Int) (n:Int):Qo l n=some (decide (n∈l)):=by
  unfold Qo
  exact Wf fun k x hx=>rfl
def clash (a b:Az):Bool:=decide (a.From<b.To)&&decide (b.From<a.To)&&(decide (a.Groomer=b.Groomer)||a.Runs.any fun x=>decide (x∈b.Runs))
theorem iW (a b:Az):O2 a b=some (clash a b):=by
  unfold O2 clash
  by_cases h1:b.To≤a.From
  ·rw[Aib h1,Aic (show ¬ a.From<b.To by omega)];rfl
  rw[Aic h1,Aib (show a.From<b.To by omega),cond_false]
  by_cases h2:a.To≤b.From
  ·rw[Aib h2,Aic (show ¬ b.From<a.To by omega)];rfl
  rw[Aic h2,Aib (show b.From<a.To by omega),cond_false]
  rw[Fl (step:=Ka b) (fun x=>decide (x∈b.Runs)) (fun _=>true) (fun k x hx=>by unfold Ka;rw[has_eq];rfl)]
  cases hf:a.Runs.find? fun x=>decide (x∈b.Runs)with
  | some x=>
    have:(a.Runs.any fun x=>decide (x∈b.Runs))=true:=List.any_eq_true.2 ⟨x,List.mem_of_find?_eq_some hf,List.find?_some (p:=fun x=>decide (x∈b.Runs)) hf⟩
    rw[this];simp[Out.on]
  | none=>
    have:(a.Runs.any fun x=>decide (x∈b.Runs))=false:=List.any_eq_false.2 fun x hx=>by simpa using List.find?_eq_none.1 hf x hx
    rw[this];simp[Out.on]
theorem nL {a b:Az} (hi:Inc b.Runs) (hl:b.Runs.length≤549755813888):Js a b=some (clash a b):=by
  unfold Js clash
  by_cases h1:b.To≤a.From
  ·rw[Aib h1,Aic (show ¬ a.From<b.To by omega)];rfl
  rw[Aic h1,Aib (show a.From<b.To by omega),cond_false]
  by_cases h2:a.To≤b.From
  ·rw[Aib h2,Aic (show ¬ b.From<a.To by omega)];rfl
  rw[Aic h2,Aib (show b.From<a.To by omega),cond_false]
  by_cases h3:a.Groomer=b.Groomer
  ·rw[Aib h3];rfl
  rw[Aic h3,cond_false]
  rw[Fl (step:=F9 b) (fun x=>decide (x∈b.Runs)) (fun _=>true) (fun k x hx=>by
   unfold F9;rw[rY hi hl,Option.bind_some,Aib (show(0:Int)≤(k:Int) by omega)])]
  cases hf:a.Runs.find? fun x=>decide (x∈b.Runs)with
  | some x=>
    have:(a.Runs.any fun x=>decide (x∈b.Runs))=true:=List.any_eq_true.2 ⟨x,List.mem_of_find?_eq_some hf,List.find?_some (p:=fun x=>decide (x∈b.Runs)) hf⟩
    rw[this];simp[Out.on]
  | none=>
    have:(a.Runs.any fun x=>decide (x∈b.Runs))=false:=List.any_eq_false.2 fun x hx=>by simpa using List.find?_eq_none.1 hf x hx
    rw[this];simp[Out.on]
structure wQ (w:Az):Prop where
  g1:1≤w.Groomer
  g2:w.Groomer≤9999
  f0:0≤w.From
  ft:w.From<w.To
  t1:w.To≤20000000
  runs:gU w.Runs
structure eK (l:List Az):Prop where
  len:l.length≤16
  rope:∀ w∈l,wQ w
  apart:l.Pairwise fun a b=>clash a b=false
theorem vL {l:List Az} {x:Az} {k:Nat} (hk:k≤l.length) (hl:l.length≤16) :
    (Jr (D9 l x) k ()=some (.next ())∧∀ (j:Nat) w,j<k→l[j]? =some w→clash w x=false)∨(Jr (D9 l x) k ()=some (.ret (.ret 15))∧∃ (j:Nat) (w:Az),j<k∧l[j]? =some w∧clash w x=true):=by
  rcases Wl (n:=k) (step:=D9 l x) (s:=()) (by omega) (fun i _=>∀ (j:Nat) w,j<i→l[j]? =some w→clash w x=false) (fun r=>r= .ret 15∧∃ (j:Nat) (w:Az),j<k∧l[j]? =some w∧clash w x=true)
    (fun j w h=>by omega) (fun i s hi hI=>by
      have hw:l[i]? =some l[i]:=Aid (by omega)
      generalize l[i]=w at hw
      unfold D9
      rw[Ay hw,Option.bind_some,iW,Option.bind_some]
      cases hc:clash w x with
      | true=>exact .inr ⟨_,rfl,rfl,i,w,hi,hw,hc⟩
      | false=>
        refine .inl ⟨(),rfl,fun j w' hj hw'=>?_⟩
        by_cases e:j=i
        ·subst e;rw[hw]at hw';obtain rfl:=Option.some.inj hw';exact hc
        ·exact hI j w' (by omega) hw')with ⟨s',h1,h2⟩ | ⟨r,h1,rfl,h2⟩
  ·exact .inl ⟨h1,h2⟩
  ·exact .inr ⟨h1,h2⟩
theorem step_eq {l:List Az} {x:Az} {k:Nat} (hk:l[k]? =some x) (hl:l.length≤16) (hr:x.Runs.length≤9223372036854775807):G1 l k x ()=Ey l k x ():=by
  have hlt:=(List.getElem?_eq_some_iff.1 hk).1
  unfold G1 Ey
  obtain⟨b,hb,hbr⟩:=qY hr
  rw[Xe,hb,Option.bind_some,Option.bind_some]
  cases b with
  | false=>rfl
  | true=>
    have hinc:=(hbr.1 rfl).inc
    have hin:Jr (Ju l k x) k ()=Jr (D9 l x) k ():=by
      unfold Jr
      rw[if_pos (by omega),if_pos (by omega)]
      refine K9 fun i u s hi=>?_
      have hik:i<k:=S7 hi
      have hw:l[i]? =some l[i]:=Aid (by omega)
      generalize l[i]=w at hw
      have hw':(l.take k)[i]? =some w:=by rw[List.getElem?_take,if_pos hik];exact hw
      unfold Ju D9
      rw[Ay hw,Ay hw',Option.bind_some,Option.bind_some,nL hinc (by have:=(hbr.1 rfl).len;omega),iW,Aib (show(0:Int)≤(i:Int) by omega)]
      cases clash w x<;>rfl
    rw[hin,N9 (show(0:Int)≤(k:Int)∧(k:Int)≤(l.length:Int) by omega)]
theorem lU {l:List Az} (hr:∀ w∈l,w.Runs.length≤9223372036854775807):∃ e,Mv l=some e∧Ox l=some e∧(e=0↔eK l):=by
  unfold Ox Mv
  by_cases h16:(16:Int)<(l.length:Int)
  ·rw[Aib h16]
   exact⟨4,rfl,rfl,by simp,fun h=>by have:=h.len;omega⟩
  rw[Aic h16,cond_false,cond_false]
  rw[K9 (step:=G1 l) (step':=Ey l) fun i x s hi=>step_eq hi (by omega) (hr x (Aie hi))]
  rcases E7 (step:=Ey l) (l:=l) (s:=()) (fun k _=>∀ (i:Nat) w,i<k→l[i]? =some w→wQ w∧∀ (j:Nat) v,j<i→l[j]? =some v→clash v w=false) (fun r=>r≠0∧¬ eK l)
    (fun i w h=>by omega) (fun k x u hk hI=>by
      have hlt:=(List.getElem?_eq_some_iff.1 hk).1
      have hmem:=Aie hk
      unfold Ey
      by_cases h1:x.Groomer<1
      ·rw[Aib h1];exact .inr ⟨_,rfl,by simp,fun h=>by have:=(h.rope x hmem).g1;omega⟩
      rw[Aic h1,cond_false]
      by_cases h2:9999<x.Groomer
      ·rw[Aib h2];exact .inr ⟨_,rfl,by simp,fun h=>by have:=(h.rope x hmem).g2;omega⟩
      rw[Aic h2,cond_false]
      by_cases h3:x.From<0
      ·rw[Aib h3];exact .inr ⟨_,rfl,by simp,fun h=>by have:=(h.rope x hmem).f0;omega⟩
      rw[Aic h3,cond_false]
      by_cases h4:x.To≤x.From
      ·rw[Aib h4];exact .inr ⟨_,rfl,by simp,fun h=>by have:=(h.rope x hmem).ft;omega⟩
      rw[Aic h4,cond_false]
      by_cases h5:20000000<x.To
      ·rw[Aib h5];exact .inr ⟨_,rfl,by simp,fun h=>by have:=(h.rope x hmem).t1;omega⟩
      rw[Aic h5,cond_false]
      obtain⟨b,hb,hbr⟩:=qY (hr x hmem)
      rw[hb,Option.bind_some]
      cases b with
      | false=>exact .inr ⟨1,rfl,by simp,fun h=>by have:=hbr.2 (h.rope x hmem).runs;cases this⟩
      | true=>
        rcases vL (l:=l) (x:=x) (k:=k) (by omega) (by omega)with ⟨h6,h7⟩ | ⟨h6,j,w,hj,hw,hc⟩
        ·refine .inl ⟨(),by rw[h6];rfl,fun i w hi hw=>?_⟩
         by_cases e:i=k
         ·subst e;rw[hk]at hw;obtain rfl:=Option.some.inj hw
          exact⟨⟨by omega,by omega,by omega,by omega,by omega,hbr.1 rfl⟩,h7⟩
         ·exact hI i w (by omega) hw
        ·refine .inr ⟨15,by rw[h6];rfl,by simp,fun h=>?_⟩
         obtain⟨h8,rfl⟩:=List.getElem?_eq_some_iff.1 hw
         obtain⟨h9,rfl⟩:=List.getElem?_eq_some_iff.1 hk
         have:=(List.pairwise_iff_getElem.1 h.apart) j k h8 h9 hj
         rw[this]at hc;cases hc)with ⟨s',h1,h2⟩ | ⟨r,h1,h2,h3⟩
  ·rw[h1]
   refine⟨0,rfl,rfl,fun _=>?_,fun _=>rfl⟩
   refine⟨by omega,fun w hw=>?_,?_⟩
   ·obtain⟨i,hi⟩:=List.mem_iff_getElem?.1 hw
    exact(h2 i w (List.getElem?_eq_some_iff.1 hi).1 hi).1
   ·rw[List.pairwise_iff_getElem]
    intro i j hi hj hij
    exact(h2 j _ hj (Aid hj)).2 i _ hij (Aid hi)
  ·rw[h1]
   exact⟨r,rfl,rfl,fun e=>absurd e h2,fun h=>absurd h h3⟩
structure Few (l:List Az):Prop where
  len:l.length≤40
  runs:∀ w∈l,w.Runs.length≤10000
def atT (l:List Az) (t:Int):List Az:=l.filter fun w=>decide (w.From≤t)&&decide (t<w.To)
def J0 (l:List Az) (t:Int):List Int:=(atT l t).flatMap (·.Runs)
theorem kM {l:List Az} {t:Int} {w:Az}:w∈atT l t↔w∈l∧w.From≤t∧t<w.To:=by simp[atT]
theorem Uq {l:List Az} {t n:Int}:n∈J0 l t↔∃ w∈l,(w.From≤t∧t<w.To)∧n∈w.Runs:=by
  unfold J0
  rw[List.mem_flatMap]
  constructor
  ·rintro⟨w,hw,hn⟩;exact⟨w,(kM.1 hw).1,(kM.1 hw).2,hn⟩
  ·rintro⟨w,hw,ht,hn⟩;exact⟨w,kM.2 ⟨hw,ht⟩,hn⟩
theorem fO {l:List Az} {t:Int} (h:∀ w∈l,w.Runs.length≤10000):(J0 l t).length≤10000*l.length:=by
  induction l with
  | nil=>simp[J0,atT]
  | cons w l ih=>
    have ih:=ih fun w hw=>h w (List.mem_cons_of_mem _ hw)
    have hw:=h w (by simp)
    unfold J0 atT at ih ⊢
    rw[List.filter_cons]
    split
    ·rw[List.flatMap_cons,List.length_append,List.length_cons];omega
    ·rw[List.length_cons];omega
theorem lP (l:List Az) (x:Az) (t:Int):J0 (l++[x]) t=if x.From≤t∧t<x.To then J0 l t++x.Runs else J0 l t:=by
  unfold J0 atT
  rw[List.filter_append]
  by_cases h:x.From≤t∧t<x.To
  ·rw[if_pos h,List.filter_cons_of_pos (by simp[h]),List.filter_nil,List.flatMap_append];simp
  ·rw[if_neg h,List.filter_cons_of_neg (by simpa using h),List.filter_nil,List.append_nil]
theorem uM {l:List Az} (h:Few l) (t:Int):Ow l t=some (norm (J0 l t)):=by
  unfold Ow
  obtain⟨s',h1,h2⟩:=Ds (step:=Jt t) (l:=l) (s:=[]) (fun k s=>s=J0 (l.take k) t) (by simp[J0,atT]) (fun k x s hk hI=>by
    have hlt:=(List.getElem?_eq_some_iff.1 hk).1
    have hlen:s.length≤10000*k:=by
      rw[hI]
      have:=fO (l:=l.take k) (t:=t) fun w hw=>h.runs w (List.mem_of_mem_take hw)
      rw[List.length_take]at this;omega
    have hx:=h.runs x (Aie hk)
    have hl:=h.len
    rw[Bx hk,lP]
    unfold Jt
    by_cases h1:x.From≤t
    ·rw[Aib h1,cond_true]
     by_cases h2:t<x.To
     ·rw[Aib h2,cond_true,Ci (by omega),if_pos ⟨h1,h2⟩,hI]
      exact⟨_,rfl,rfl⟩
     ·rw[Aic h2,cond_false,if_neg (fun h=>h2 h.2)]
      exact⟨_,rfl,hI⟩
    ·rw[Aic h1,cond_false,if_neg (fun h=>h1 h.1)]
     exact⟨_,rfl,hI⟩)
  rw[List.take_length]at h2
  have hl:=fO (l:=l) (t:=t) h.runs
  have:=h.len
  rw[h1,Option.bind_some]
  show chk s'.length _=_
  rw[h2,Ci (by omega),Ci (by omega)];rfl
theorem r9 {l:List Az} (hr:eK l) (t:Int):V5 l t=some (norm (J0 l t)):=by
  unfold V5
  obtain⟨s',h1,h2,h3,h4⟩:=Z2 (ρ:=List Int) (n:=9999) (step:=Q2 l t) (s:=[]) (by omega) (fun k s=>Inc s∧s.length≤k∧∀ n,n∈s↔(n≤k∧n∈J0 l t))
    ⟨List.Pairwise.nil,by simp,fun n=>by
      constructor
      ·intro h;simp at h
      ·rintro⟨h,hn⟩
       obtain⟨w,hw,_,hm⟩:=Uq.1 hn
       have:=(hr.rope w hw).runs.lo n hm;simp at h;omega⟩ (fun k s hk hI=>by
    obtain⟨i1,i2,i3⟩:=hI
    unfold Q2
    rw[Fl (step:=Q1 t s k) (fun w=>decide (w.From≤t)&&(decide (t<w.To)&&decide (((k:Nat):Int)+1∈w.Runs))) (fun _=>.next (s++[((k:Nat):Int)+1])) (fun j w hw=>by
     unfold Q1
     rw[has_eq]
     by_cases h1:w.From≤t<;>by_cases h2:t<w.To<;>by_cases h3:((k:Nat):Int)+1∈w.Runs<;>simp[h1,h2,h3,Ci (show s.length+1≤549755813888 by omega)])]
    have old:∀ n,n∈J0 l t→n≤((k+1:Nat):Int)→n≤(k:Int)∨n=(k:Int)+1:=fun n _ h=>by omega
    cases hf:l.find? (fun w=>decide (w.From≤t)&&(decide (t<w.To)&&decide (((k:Nat):Int)+1∈w.Runs)))with
    | some w=>
      have hp:=List.find?_some hf
      have hw:=List.mem_of_find?_eq_some hf
      simp only[Bool.and_eq_true,decide_eq_true_eq]at hp
      have hin:((k:Nat):Int)+1∈J0 l t:=Uq.2 ⟨w,hw,⟨hp.1,hp.2.1⟩,hp.2.2⟩
      refine⟨_,rfl,?_,by simp;omega,fun n=>?_⟩
      ·unfold Inc
       rw[List.pairwise_append]
       exact⟨i1,by simp,fun a ha b hb=>by simp at hb;have:=((i3 a).1 ha).1;omega⟩
      ·rw[List.mem_append,i3,List.mem_singleton]
       constructor
       ·rintro(h | rfl)
        ·exact⟨by omega,h.2⟩
        ·exact⟨by omega,hin⟩
       ·rintro⟨h,hn⟩
        rcases old n hn h with h | h
        ·exact .inl ⟨h,hn⟩
        ·exact .inr h
    | none=>
      refine⟨_,rfl,i1,by omega,fun n=>?_⟩
      rw[i3]
      constructor
      ·rintro⟨h,hn⟩;exact⟨by omega,hn⟩
      ·rintro⟨h,hn⟩
       rcases old n hn h with h | rfl
       ·exact⟨h,hn⟩
       ·obtain⟨w,hw,ht,hm⟩:=Uq.1 hn
        have:=List.find?_eq_none.1 hf w hw
        simp[ht.1,ht.2,hm]at this)
  rw[h1,Option.bind_some]
  show some s'=_
  congr 1
  refine Qe h2 (Wa _) fun n=>?_
  rw[V9,h4]
  refine⟨fun h=>h.2,fun h=>⟨?_,h⟩⟩
  obtain⟨w,hw,_,hm⟩:=Uq.1 h
  exact(hr.rope w hw).runs.hi n hm
end Go.Proofs.YtjopghiagoidgaaGreat.W46
namespace Go.Proofs.YtjopghiagoidgaaGreat.S50
open Go Go.Ab
set_option linter.unusedSimpArgs false
set_option linter.unusedVariables false
section
variable {α σ ρ:Type}
theorem Pg {step step':Nat→α→σ→Option (Out σ ρ)}:∀ {l:List α} {k:Nat},(∀ i x s,l[i]? =some x→step (k+i) x s=step' (k+i) x s)→∀ s,Am step k l s=Am step' k l s
  | [],k,h,s=>rfl
  | x::r,k,h,s=>by
    have h0:=h 0 x s rfl
    rw[Nat.add_zero]at h0
    rw[Am,Am,h0]
    have ih:∀ s,Am step (k+1) r s=Am step' (k+1) r s:=Pg (l:=r) (k:=k+1) (fun i y s hy=>by
      have:=h (i+1) y s (by simpa using hy)
      rwa [show k+(i+1)=k+1+i by omega]at this)
    cases step' k x s with
    | none=>rfl
    | some o=>cases o with
      | next s'=>exact ih s'
      | ret r=>rfl
theorem K9 {step step':Nat→α→σ→Option (Out σ ρ)} {l:List α} {s:σ} (h:∀ i x s,l[i]? =some x→step i x s=step' i x s):Am step 0 l s=Am step' 0 l s:=
  Pg (k:=0) (fun i x s hx=>by rw[Nat.zero_add];exact h i x s hx) s
end
def Small (l:List Bc):Prop:=l.length≤50∧∀ s∈l,s.Zones.length≤100∧True
def Inc (l:List Int):Prop:=l.Pairwise (·< ·)
def Sm (most:Int) (l:List Int):Prop:=(∀ x∈l,1≤x∧x≤most)∧Inc l
instance (most:Int) (l:List Int):Decidable (Sm most l):=by unfold Sm Inc;infer_instance
theorem kR {l:List Int} (h:∀ k x y,l[k+1]? =some x→l[k]? =some y→y<x):Inc l:=by
  unfold Inc
  rw[List.pairwise_iff_getElem]
  have key:∀ (d i:Nat) (hj:i+d+1<l.length),l[i]'(by omega)<l[i+d+1]:=by
    intro d
    induction d with
    | zero=>
      intro i hj
      exact h i _ _ (Aid (by omega)) (Aid (by omega))
    | succ d ih=>
      intro i hj
      have h1:=ih i (by omega)
      have h2:=h (i+d+1) l[i+(d+1)+1] l[i+d+1] (by rw[Aid (by omega)];rfl) (Aid (by omega))
      omega
  intro i j hi hj hlt
  have:=key (j - i - 1) i (by omega)
  simpa[show i+(j - i - 1)+1=j by omega]using this
theorem sX {l:List Int} (h:Inc l) {k:Nat} {x y:Int} (hx:l[k+1]? =some x) (hy:l[k]? =some y):y<x:=by
  unfold Inc at h
  rw[List.pairwise_iff_getElem]at h
  obtain⟨h1,rfl⟩:=List.getElem?_eq_some_iff.1 hx
  obtain⟨h2,rfl⟩:=List.getElem?_eq_some_iff.1 hy
  exact h k (k+1) h2 h1 (by omega)
theorem S6 (l:List Int) (most:Int) (hl:l.length≤9223372036854775807):D6 l most=some (decide (Sm most l)):=by
  unfold D6
  rcases E7 (step:=D5 l most) (l:=l) (s:=()) (fun k _=>(∀ i x,i<k→l[i]? =some x→1≤x∧x≤most)∧∀ i x y,i+1<k→l[i+1]? =some x→l[i]? =some y→y<x)
    (fun r=>r=false∧¬ Sm most l) ⟨fun i x h=>by omega,fun i x y h=>by omega⟩ (fun k x u hk ⟨hI1,hI2⟩=>by
      have hlt:=(List.getElem?_eq_some_iff.1 hk).1
      have hm:=Aie hk
      unfold D5
      by_cases h1:x<1
      ·rw[Aib h1];exact .inr ⟨false,rfl,rfl,fun h=>by have:=h.1 x hm;omega⟩
      rw[Aic h1,cond_false]
      by_cases h2:most<x
      ·rw[Aib h2];exact .inr ⟨false,rfl,rfl,fun h=>by have:=h.1 x hm;omega⟩
      rw[Aic h2,cond_false]
      have hI1':∀ i y,i<k+1→l[i]? =some y→1≤y∧y≤most:=fun i y hi hy=>by
        by_cases e:i=k
        ·subst e;rw[hk]at hy;obtain rfl:=Option.some.inj hy;omega
        ·exact hI1 i y (by omega) hy
      by_cases h3:(0:Int)<(k:Int)
      ·rw[Aib h3,cond_true,Qj (by omega) (by omega),Xl (k:=k - 1) (by omega),Option.bind_some]
       have hp:l[k - 1]? =some l[k - 1]:=Aid (by omega)
       by_cases h4:x≤l[k - 1]
       ·rw[Aib h4]
        refine .inr ⟨false,rfl,rfl,fun h=>?_⟩
        have:=sX h.2 (k:=k - 1) (by rw[Nat.sub_add_cancel (by omega)];exact hk) hp
        omega
       ·rw[Aic h4]
        refine .inl ⟨(),rfl,hI1',fun i a b hi ha hb=>?_⟩
        by_cases e:i+1=k
        ·rw[e,hk]at ha;obtain rfl:=Option.some.inj ha
         obtain rfl:i=k - 1:=by omega
         rw[hp]at hb;obtain rfl:=Option.some.inj hb;omega
        ·exact hI2 i a b (by omega) ha hb
      ·rw[Aic h3]
       exact .inl ⟨(),rfl,hI1',fun i a b hi ha hb=>by omega⟩)with ⟨u,h1,h2,h3⟩ | ⟨r,h1,h2,h3⟩
  ·have:Sm most l:=⟨fun x hx=>by
     obtain⟨i,hi,rfl⟩:=List.getElem_of_mem hx
     exact h2 i _ hi (Aid hi),kR fun k x y hx hy=>h3 k x y (List.getElem?_eq_some_iff.1 hx).1 hx hy⟩
   rw[h1,Aib this];rfl
  ·subst h2
   rw[h1,Aic h3];rfl
theorem Xe (l:List Int) (most:Int) (hl:l.length≤9223372036854775807):Ni l most=some (decide (Sm most l)):=S6 l most hl
theorem find_eq (l:List Bc) (n:Int):(Hn l n=some (-1)∧∀ x∈l,x.ID≠n)∨(∃ (k:Nat) (x:Bc),Hn l n=some (k:Int)∧l[k]? =some x∧x.ID=n∧∀ j y,j<k→l[j]? =some y→y.ID≠n):=by
  unfold Hn
  rcases E7 (step:=Gj n) (l:=l) (s:=()) (fun k _=>∀ i x,i<k→l[i]? =some x→x.ID≠n)
    (fun r=>∃ (k:Nat) (x:Bc),r=(k:Int)∧l[k]? =some x∧x.ID=n∧∀ j y,j<k→l[j]? =some y→y.ID≠n) (fun i x h=>by omega) (fun k x u hk hI=>by
      unfold Gj
      by_cases e:x.ID=n
      ·rw[Aib e];exact .inr ⟨_,rfl,k,x,rfl,hk,e,hI⟩
      ·rw[Aic e]
       refine .inl ⟨(),rfl,fun i y hi hy=>?_⟩
       by_cases h:i=k
       ·subst h;rw[hk]at hy;obtain rfl:=Option.some.inj hy;exact e
       ·exact hI i y (by omega) hy)with ⟨u,h1,h2⟩ | ⟨r,h1,k,x,rfl,h2,h3,h4⟩
  ·refine .inl ⟨by rw[h1];rfl,fun x hx=>?_⟩
   obtain⟨i,hi,rfl⟩:=List.getElem_of_mem hx
   exact h2 i _ hi (Aid hi)
  ·exact .inr ⟨k,x,by rw[h1];rfl,h2,h3,h4⟩
def InR (s:Bc):Prop:=1≤s.ID∧s.ID≤9999∧4≤s.Limit∧s.Limit≤100000∧0≤s.Load∧s.Load≤100000∧-1≤s.Controlled∧s.Controlled≤20000000
instance (s:Bc):Decidable (InR s):=by unfold InR;infer_instance
def Bv (s:Bc):Prop:=s.Zones≠[]∧Sm 32 s.Zones∧Sm 9999 s.Lifts
instance (s:Bc):Decidable (Bv s):=by unfold Bv;infer_instance
def jZ (l:List Bc) (k:Nat) (s:Bc):Prop:=∃ y∈l.take k,y.ID=s.ID
instance (l:List Bc) (k:Nat) (s:Bc):Decidable (jZ l k s):=by unfold jZ;infer_instance
def Wp (l:List Bc) (k:Nat) (s:Bc):Option Int:=if ¬ InR s then some 2 else if jZ l k s then some 7 else if ¬ Bv s then some 1 else none
def ans (o:Option Int):Option (Out Unit Int):=match o with | none=>some (.next ()) | some e=>some (.ret e)
theorem pO (s:Bc):Gi s=some (decide (InR s)):=by
  unfold Gi InR
  by_cases h1:1≤s.ID<;>by_cases h2:s.ID≤9999<;>by_cases h3:4≤s.Limit<;>by_cases h4:s.Limit≤100000<;>by_cases h5:0≤s.Load<;>by_cases h6:s.Load≤100000<;>by_cases h7: -1≤s.Controlled<;>simp[h1,h2,h3,h4,h5,h6,h7]
theorem jD (s:Bc):decide (((s.Zones.length:Nat):Int)=(0:Int))=decide (s.Zones=[]):=by
  cases s.Zones<;>simp<;>omega
theorem oU (l:List Bc) (hl:l.length≤9223372036854775807) (k:Nat) (x:Bc) (hk:l[k]? =some x) (hz:x.Zones.length≤9223372036854775807) (hf:x.Lifts.length≤9223372036854775807) :
    Eu l k x ()=ans (Wp l k x):=by
  have hlt:=(List.getElem?_eq_some_iff.1 hk).1
  unfold Eu Wp
  rw[pO,Option.bind_some]
  by_cases h1:InR x
  ·rw[Aib h1,Bool.not_true,cond_false,N9 ⟨by omega,by omega⟩,if_neg (by simpa using h1)]
   rcases find_eq (l.take k) x.ID with⟨h2,h3⟩ | ⟨j,y,h2,h3,h4,_⟩
   ·rw[h2,Option.bind_some,if_neg (fun⟨y,hy,e⟩=>h3 y hy e)]
    show(bif decide (((x.Zones.length:Nat):Int)=(0:Int))then _ else _)=_
    rw[jD,S6 _ _ hz,S6 _ _ hf]
    unfold Bv
    by_cases h5:x.Zones=[]<;>by_cases h6:Sm 32 x.Zones<;>by_cases h7:Sm 9999 x.Lifts<;>simp[h5,h6,h7,ans]
   ·rw[h2,Option.bind_some,Aib (Int.natCast_nonneg j),cond_true,if_pos ⟨y,Aie h3,h4⟩];rfl
  ·rw[Aic h1,if_pos h1];rfl
theorem sB (l:List Bc) (k:Nat) (x:Bc) (hk:k<l.length) (hl:l.length≤9223372036854775807) :
    (jZ l k x∧Jr (Fv l x) k ()=some (.ret (.ret 7)))∨(¬ jZ l k x∧Jr (Fv l x) k ()=some (.next ())):=by
  rcases Wl (step:=Fv l x) (n:=k) (s:=()) (by omega) (fun i _=>∀ j y,j<i→l[j]? =some y→y.ID≠x.ID) (fun r=>r= .ret 7∧jZ l k x) (fun j y h=>by omega) (fun i u hi hI=>by
    unfold Fv
    have hy:l[i]? =some l[i]:=Aid (by omega)
    rw[Ay hy,Option.bind_some]
    by_cases e:l[i].ID=x.ID
    ·rw[Aib e]
     refine .inr ⟨_,rfl,rfl,l[i],Aie (i:=i) ?_,e⟩
     rw[List.getElem?_take,if_pos hi];exact hy
    ·rw[Aic e]
     refine .inl ⟨(),rfl,fun j y hj hy'=>?_⟩
     by_cases h:j=i
     ·subst h;rw[hy]at hy';obtain rfl:=Option.some.inj hy';exact e
     ·exact hI j y (by omega) hy')with ⟨u,h1,h2⟩ | ⟨r,h1,h2,h3⟩
  ·refine .inr ⟨fun⟨y,hy,e⟩=>?_,h1⟩
   obtain⟨j,hj,rfl⟩:=List.getElem_of_mem hy
   rw[List.length_take]at hj
   rw[List.getElem_take]at e
   exact h2 j _ (by omega) (Aid (by omega)) e
  ·subst h2;exact .inl ⟨h3,h1⟩
theorem hX (l:List Bc) (hl:l.length≤9223372036854775807) (k:Nat) (x:Bc) (hk:l[k]? =some x) (hz:x.Zones.length≤9223372036854775807) (hf:x.Lifts.length≤9223372036854775807) :
    Ha l k x ()=ans (Wp l k x):=by
  have hlt:=(List.getElem?_eq_some_iff.1 hk).1
  unfold Ha Wp
  by_cases h1:InR x
  ·obtain⟨a1,a2,a3,a4,a5,a6,a7,a8⟩:=h1
   rw[Aic (by omega),cond_false,Aic (by omega),cond_false,Aic (by omega),cond_false,Aic (by omega),cond_false,Aic (by omega),cond_false,
    Aic (by omega),cond_false,Aic (by omega),cond_false,Aic (by omega),cond_false,if_neg (fun hn=>hn (show InR x from⟨a1,a2,a3,a4,a5,a6,a7,a8⟩))]
   rcases sB l k x hlt hl with⟨h2,h3⟩ | ⟨h2,h3⟩
   ·rw[h3,if_pos h2];rfl
   ·rw[h3,if_neg h2,Option.bind_some]
    show(bif decide (((x.Zones.length:Nat):Int)=(0:Int))then _ else _)=_
    rw[jD,Xe _ _ hz,Xe _ _ hf]
    unfold Bv
    by_cases h5:x.Zones=[]<;>by_cases h6:Sm 32 x.Zones<;>by_cases h7:Sm 9999 x.Lifts<;>simp[h5,h6,h7,ans]
  ·rw[if_pos h1]
   by_cases b1:x.ID<1
   ·rw[Aib b1];rfl
   rw[Aic b1,cond_false]
   by_cases b2:9999<x.ID
   ·rw[Aib b2];rfl
   rw[Aic b2,cond_false]
   by_cases b3:x.Limit<4
   ·rw[Aib b3];rfl
   rw[Aic b3,cond_false]
   by_cases b4:100000<x.Limit
   ·rw[Aib b4];rfl
   rw[Aic b4,cond_false]
   by_cases b5:x.Load<0
   ·rw[Aib b5];rfl
   rw[Aic b5,cond_false]
   by_cases b6:100000<x.Load
   ·rw[Aib b6];rfl
   rw[Aic b6,cond_false]
   by_cases b7:x.Controlled < -1
   ·rw[Aib b7];rfl
   rw[Aic b7,cond_false]
   by_cases b8:20000000<x.Controlled
   ·rw[Aib b8];rfl
   exact absurd (show InR x from⟨by omega,by omega,by omega,by omega,by omega,by omega,by omega,by omega⟩) h1
def aK (l:List Bc):Prop:=l.length≤32∧∀ k x,l[k]? =some x→Wp l k x=none
def zG (l:List Bc):Prop:=l.length≤9223372036854775807∧∀ s∈l,s.Zones.length≤9223372036854775807∧s.Lifts.length≤9223372036854775807
theorem wJ (l:List Bc) (g:Nat→Bc→Option Int):∃ r,((Am (fun k x (_:Unit)=>ans (g k x)) 0 l ()).bind fun o=>o.on fun _=>some (0:Int))=some r∧((∀ k x,l[k]? =some x→g k x≠some 0)→(r=0↔∀ k x,l[k]? =some x→g k x=none)):=by
  rcases E7 (step:=fun k x (_:Unit)=>ans (g k x)) (l:=l) (s:=()) (fun i _=>∀ k x,k<i→l[k]? =some x→g k x=none) (fun r=>∃ k x,l[k]? =some x∧g k x=some r) (fun k x h=>by omega) (fun k x u hk hI=>by
    cases hg:g k x with
    | none=>
      refine .inl ⟨(),by simp only[hg,ans],fun i y hi hy=>?_⟩
      by_cases e:i=k
      ·subst e;rw[hk]at hy;obtain rfl:=Option.some.inj hy;exact hg
      ·exact hI i y (by omega) hy
    | some e=>exact .inr ⟨e,by simp only[hg,ans],k,x,hk,hg⟩)with ⟨u,h1,h2⟩ | ⟨r,h1,k,x,h2,h3⟩
  ·exact⟨0,by rw[h1];rfl,fun _=>⟨fun _ k x hx=>h2 k x (List.getElem?_eq_some_iff.1 hx).1 hx,fun _=>rfl⟩⟩
  ·refine⟨r,by rw[h1];rfl,fun hn=>⟨fun e=>?_,fun h=>?_⟩⟩
   ·subst e;exact absurd h3 (hn k x h2)
   ·rw[h k x h2]at h3;cases h3
theorem vX (l:List Bc) (k:Nat) (x:Bc):Wp l k x≠some 0:=by
  unfold Wp;split<;>(try split)<;>(try split)<;>simp
theorem Vw (l:List Bc) (h:zG l):∃ r,Iz l=some r∧Mu l=some r∧(r=0↔aK l):=by
  unfold Iz Mu
  by_cases hl:(32:Int)<((l.length:Nat):Int)
  ·rw[Aib hl]
   exact⟨4,rfl,rfl,fun e=>by omega,fun h=>by have:=h.1;omega⟩
  ·rw[Aic hl,cond_false,cond_false]
   rw[K9 (step:=Eu l) (step':=fun k x (_:Unit)=>ans (Wp l k x)) (fun k x u hx=>oU l h.1 k x hx (h.2 x (Aie hx)).1 (h.2 x (Aie hx)).2),
    K9 (step:=Ha l) (step':=fun k x (_:Unit)=>ans (Wp l k x)) (fun k x u hx=>hX l h.1 k x hx (h.2 x (Aie hx)).1 (h.2 x (Aie hx)).2)]
   obtain⟨r,h1,h2⟩:=wJ l (Wp l)
   refine⟨r,h1,h1,(h2 fun k x _=>vX l k x).trans ⟨fun h=>⟨by omega,h⟩,fun h=>h.2⟩⟩
theorem aK.at {l:List Bc} (h:aK l) {x:Bc} (hx:x∈l):InR x∧Bv x:=by
  obtain⟨k,hk,rfl⟩:=List.getElem_of_mem hx
  have:=h.2 k _ (Aid hk)
  unfold Wp at this
  split at this
  ·cases this
  ·split at this
   ·cases this
   ·split at this
    ·cases this
    ·rename_i a b c;exact⟨by simpa using a,by simpa using c⟩
theorem wrap_small {n:Int} (h: -9223372036854775808≤n) (h2:n≤9223372036854775807):IntKind.i64.wrap n=n:=by simp[IntKind.wrap,IntKind.bits,IntKind.signed]<;>omega
def lvl (levels:List Int) (z:Int):Int:=if 1≤z then(levels[(z - 1).toNat]?).getD 0 else 0
def Wc (levels:List Int):List Int→Int
  | []=>0
  | z::r=>r.foldl (fun a z=>if a<lvl levels z then lvl levels z else a) (lvl levels z)
theorem sP (levels:List Int) (zs:List Int) (z:Int):Wc levels (zs++[z])=if zs=[]∨Wc levels zs<lvl levels z then lvl levels z else Wc levels zs:=by
  cases zs with
  | nil=>rfl
  | cons y r=>
    simp only[List.cons_append,Wc,List.foldl_append,List.foldl_cons,List.foldl_nil,reduceCtorEq,false_or]
theorem vB {levels:List Int} {z:Int} (hl:levels.length≤9223372036854775807) (h1:1≤z) (h2:z≤(levels.length:Int)):Dh levels (IntKind.i64.wrap (z - 1))=some (lvl levels z):=by
  rw[wrap_small (by omega) (by omega)]
  have hlt:(z - 1).toNat<levels.length:=by omega
  unfold lvl
  rw[if_pos h1,Aid hlt]
  exact Qf (k:=(z - 1).toNat) (by omega) (Aid hlt)
theorem kN {levels:List Int} {z:Int} (h:¬ (1≤z∧z≤(levels.length:Int))):lvl levels z=0:=by
  unfold lvl
  by_cases h1:1≤z
  ·rw[if_pos h1,List.getElem?_eq_none (by omega)];rfl
  ·rw[if_neg h1]
theorem Wb (k:Nat) (v sv:Int):(bif (decide (((k:Nat):Int)=(0:Int)))then some (Out.next v)else (bif (decide (sv<v))then some (Out.next v)else some (Out.next sv)):Option (Out Int Int))=some (.next (if k=0∨sv<v then v else sv)):=by
  by_cases h1:k=0
  ·rw[Aib (by omega),if_pos (.inl h1)];rfl
  ·rw[Aic (by omega),cond_false]
   by_cases h2:sv<v
   ·rw[Aib h2,if_pos (.inr h2)];rfl
   ·rw[Aic h2,if_neg (by omega)];rfl
theorem pL {levels:List Int} (hl:levels.length≤9223372036854775807) (k:Nat) (x sv:Int):Fz levels k x sv=some (.next (if k=0∨sv<lvl levels x then lvl levels x else sv)):=by
  unfold Fz
  by_cases h1:1≤x
  ·rw[Aib h1,cond_true]
   by_cases h2:x≤(levels.length:Int)
   ·rw[Aib h2,cond_true,vB hl h1 h2,Option.bind_some];exact Wb k _ sv
   ·rw[Aic h2,cond_false,kN (fun h=>h2 h.2)];exact Wb k _ sv
  ·rw[Aic h1,cond_false,kN (fun h=>h1 h.1)];exact Wb k _ sv
theorem hY {levels:List Int} (hl:levels.length≤9223372036854775807) (k:Nat) (x sv:Int) (h1:1≤x):Qz levels k x sv=some (.next (if k=0∨sv<lvl levels x then lvl levels x else sv)):=by
  unfold Qz
  by_cases h2:x≤(levels.length:Int)
  ·rw[Aib h2,cond_true,vB hl h1 h2,Option.bind_some];exact Wb k _ sv
  ·rw[Aic h2,cond_false,kN (fun h=>h2 h.2)];exact Wb k _ sv
theorem mP {step:Nat→Int→Int→Option (Out Int Int)} {levels zs:List Int} (hs:∀ k x sv,x∈zs→step k x sv=some (.next (if k=0∨sv<lvl levels x then lvl levels x else sv))) :
    ((Am step 0 zs 0).bind fun o=>o.on fun s=>some s)=some (Wc levels zs):=by
  obtain⟨s',h1,h2⟩:=Ds (step:=step) (l:=zs) (s:=0) (fun k s=>s=Wc levels (zs.take k)) rfl (fun k x s hk hI=>by
    have hlt:=(List.getElem?_eq_some_iff.1 hk).1
    rw[hs k x s (Aie hk)]
    refine⟨_,rfl,?_⟩
    rw[List.take_add_one,hk,hI]
    show _=Wc levels (zs.take k++[x])
    rw[sP]
    have:zs.take k=[]↔k=0:=by
      constructor
      ·intro h
       have:=congrArg List.length h
       simp at this
       rcases this with h | h
       ·exact h
       ·subst h;simp at hlt
      ·intro h;subst h;rfl
    simp only[this])
  rw[h1,h2,List.take_length];rfl
theorem vE (s:Bc) {levels:List Int} (hl:levels.length≤9223372036854775807):Mc s levels=some (Wc levels s.Zones):=
  mP fun k x sv _=>pL hl k x sv
theorem l5 (s:Bc) {levels:List Int} (hl:levels.length≤9223372036854775807) (hz:∀ z∈s.Zones,1≤z):dA s levels=some (Wc levels s.Zones):=
  mP fun k x sv hx=>hY hl k x sv (hz x hx)
def Ya (s:Bc) (levels:List Int):Prop:=
  s.Limit≤s.Load∨(Wc levels s.Zones=3∧s.Limit / 2≤s.Load)∨(Wc levels s.Zones=4∧s.Limit / 4≤s.Load)∨4<Wc levels s.Zones
instance (s:Bc) (levels:List Int):Decidable (Ya s levels):=by unfold Ya;infer_instance
theorem eI {n d:Int} (h0:0≤n) (h1:n≤100000) (hd:1≤d):IntKind.i64.wrap (Int.tdiv n d)=n / d:=by
  have h2:n / d≤n:=Int.ediv_le_self d h0
  have h3:0≤n / d:=Int.ediv_nonneg h0 (by omega)
  rw[Int.tdiv_eq_ediv_of_nonneg h0,wrap_small (by omega) (by omega)]
theorem lJ {s:Bc} (hr:InR s) {levels:List Int} (hl:levels.length≤9223372036854775807):Fy s levels=some (decide (Ya s levels)):=by
  unfold InR at hr
  unfold Fy
  rw[vE s hl,eI (by omega) (by omega) (by omega),eI (by omega) (by omega) (by omega)]
  by_cases h1:s.Limit≤s.Load
  ·rw[Aib h1,Aib (show Ya s levels from .inl h1)];rfl
  rw[Aic h1,cond_false,Option.bind_some]
  by_cases h2:Wc levels s.Zones=3
  ·rw[Aib h2,cond_true]
   refine congrArg some (decide_eq_decide.2 ?_)
   unfold Ya;omega
  rw[Aic h2,cond_false]
  by_cases h3:Wc levels s.Zones=4
  ·rw[Aib h3,cond_true]
   refine congrArg some (decide_eq_decide.2 ?_)
   unfold Ya;omega
  rw[Aic h3,cond_false]
  refine congrArg some (decide_eq_decide.2 ?_)
  unfold Ya;omega
theorem eU {s:Bc} (hr:InR s) {levels:List Int} (hl:levels.length≤9223372036854775807) (hz:∀ z∈s.Zones,1≤z):Qy s levels=some (decide (Ya s levels)):=by
  unfold InR at hr
  unfold Qy
  rw[l5 s hl hz,eI (by omega) (by omega) (by omega),eI (by omega) (by omega) (by omega),Option.bind_some]
  by_cases h1:4<Wc levels s.Zones
  ·rw[Aib h1,Aib (show Ya s levels from .inr (.inr (.inr h1)))];rfl
  rw[Aic h1,cond_false]
  by_cases h3:Wc levels s.Zones=4
  ·rw[Aib h3,cond_true]
   refine congrArg some (decide_eq_decide.2 ?_)
   unfold Ya;omega
  rw[Aic h3,cond_false]
  by_cases h2:Wc levels s.Zones=3
  ·rw[Aib h2,cond_true]
   refine congrArg some (decide_eq_decide.2 ?_)
   unfold Ya;omega
  rw[Aic h2,cond_false]
  refine congrArg some (decide_eq_decide.2 ?_)
  unfold Ya;omega
theorem Qe:∀ {a b:List Int},Inc a→Inc b→(∀ x,x∈a↔x∈b)→a=b
  | [],[],_,_,_=>rfl
  | [],y::s,_,_,h=>absurd ((h y).2 (by simp)) (by simp)
  | x::r,[],_,_,h=>absurd ((h x).1 (by simp)) (by simp)
  | x::r,y::s,ha,hb,h=>by
    obtain⟨ha1,ha2⟩:=List.pairwise_cons.1 ha
    obtain⟨hb1,hb2⟩:=List.pairwise_cons.1 hb
    have e:x=y:=by
      rcases List.mem_cons.1 ((h x).1 (by simp))with e | h1
      ·exact e
      ·rcases List.mem_cons.1 ((h y).2 (by simp))with e | h2
       ·exact e.symm
       ·have:=ha1 y h2;have:=hb1 x h1;omega
    subst e
    rw[Qe ha2 hb2 (fun z=>?_)]
    constructor
    ·intro hz
     rcases List.mem_cons.1 ((h z).1 (List.mem_cons_of_mem _ hz))with e | h1
     ·have:=ha1 z hz;omega
     ·exact h1
    ·intro hz
     rcases List.mem_cons.1 ((h z).2 (List.mem_cons_of_mem _ hz))with e | h1
     ·have:=hb1 z hz;omega
     ·exact h1
def norm (xs:List Int):List Int:=Cg (Da xs)
theorem P9 (xs:List Int):(Da xs).Pairwise (·≤·):=by
  have:=List.pairwise_mergeSort (le:=fun x y:Int=>decide (x≤y)) (fun a b c h1 h2=>by simp at *;omega) (fun a b=>by simp;omega) xs
  exact this.imp (fun h=>by simpa using h)
theorem Mq (xs:List Int) (a:Int):a∈Da xs↔a∈xs:=(List.mergeSort_perm xs _).mem_iff
theorem Fg {zs:List Int} {j:Nat} (h:j<zs.length):zs.toArray[j]! =zs[j]:=by simp[h]
theorem Wq {zs:List Int} (a:Int):a∈Cg zs↔a∈zs:=by
  unfold Cg Lib.compact Lib.compactUpTo
  rw[List.mem_map]
  constructor
  ·rintro⟨j,hj,rfl⟩
   have h1:=List.mem_range.1 (List.mem_filter.1 hj).1
   rw[Fg h1];exact List.getElem_mem h1
  ·intro ha
   obtain⟨i,hi,rfl⟩:=List.getElem_of_mem ha
   induction i with
   | zero=>exact ⟨0,List.mem_filter.2 ⟨List.mem_range.2 hi,by simp[Lib.keeps]⟩,Fg hi⟩
   | succ i ih=>
     by_cases e:zs[i+1]=zs[i]
     ·rw[e];exact ih (by omega) (List.getElem_mem _)
     ·refine⟨i+1,List.mem_filter.2 ⟨List.mem_range.2 hi,?_⟩,Fg hi⟩
      unfold Lib.keeps
      rw[Fg hi,Nat.add_sub_cancel,Fg (show i<zs.length by omega)]
      exact Aib (.inr e)
theorem Wr {zs:List Int} (h:zs.Pairwise (·≤·)):Inc (Cg zs):=by
  unfold Cg Lib.compact Lib.compactUpTo Inc
  rw[List.pairwise_map]
  refine(List.pairwise_lt_range.filter _).imp_of_mem (fun {i j} hi hj hlt=>?_)
  obtain⟨hj1,hj2⟩:=List.mem_filter.1 hj
  have hj1:=List.mem_range.1 hj1
  rw[Fg (show i<zs.length by omega),Fg hj1]
  unfold Lib.keeps at hj2
  have hne:=Aia hj2
  rw[Fg hj1,Fg (show j - 1<zs.length by omega)]at hne
  rw[List.pairwise_iff_getElem]at h
  have h1:=h (j - 1) j (by omega) hj1 (by omega)
  rcases Nat.lt_or_ge i (j - 1)with hh | hh
  ·have:=h i (j - 1) (by omega) (by omega) hh;omega
  ·have e:i=j - 1:=by omega
   subst e;omega
theorem Wa (xs:List Int):Inc (norm xs):=Wr (P9 xs)
theorem V9 (xs:List Int) (a:Int):a∈norm xs↔a∈xs:=by unfold norm;rw[Wq,Mq]
theorem gather {step:Nat→Bc→List Int→Option (Out (List Int) (List Int))} {l:List Bc} (f:Bc→List Int) (p:Bc→Bool) (hl:l.length≤50) (hf:∀ x∈l,(f x).length≤100)
    (hs:∀ k x s,x∈l→step k x s=bif p x then chk (s.length+(f x).length) (some (Out.next (s++f x)))else some (Out.next s)) :
    ((Am step 0 l []).bind fun o2=>o2.on fun s2=>chk s2.length (chk s2.length (some (Cg (Da s2)))))=some (norm ((l.filter p).flatMap f)):=by
  obtain⟨s',h1,h2,h3⟩:=Ds (step:=step) (l:=l) (s:=[]) (fun k s=>s=((l.take k).filter p).flatMap f∧s.length≤100*k) ⟨by simp,by simp⟩ (fun k x s hk ⟨hI,hn⟩=>by
    have hlt:=(List.getElem?_eq_some_iff.1 hk).1
    have hx:=Aie hk
    have:=hf x hx
    rw[hs k x s hx]
    cases hp:p x with
    | true=>
      rw[cond_true,Ci (by omega)]
      refine⟨_,rfl,?_,by rw[List.length_append];omega⟩
      rw[List.take_add_one,hk,hI];simp[hp]
    | false=>
      rw[cond_false]
      refine⟨_,rfl,?_,by omega⟩
      rw[List.take_add_one,hk,hI];simp[hp])
  rw[h1]
  show chk s'.length (chk s'.length _)=_
  rw[Ci (by omega),Ci (by omega),h2,List.take_length];rfl
theorem uC {l:List Bc} {levels:List Int} (hs:Small l) (hr:∀ x∈l,InR x) (hl:levels.length≤9223372036854775807):F8 l levels=some (norm ((l.filter fun x=>decide (Ya x levels)).flatMap Bc.Zones)):=
  gather Bc.Zones (fun x=>decide (Ya x levels)) hs.1 (fun x hx=>(hs.2 x hx).1) (fun k x s hx=>by
    unfold Ig;rw[lJ (hr x hx) hl,Option.bind_some])
theorem uN (a b:List Int) (x y:Int):((a++y::x::b).set (a.length+1) y).set a.length x=a++x::y::b:=by
  simp[List.set_append]
theorem vK {at_:Nat} {out:List Int} {x:Int} (hat:at_≤out.length) (hlen:out.length≤100000000) :
    ∃ a b,J8 out x (at_:Int)=some (.next (a++x::b))∧a++b=out∧a.length=at_:=by
  unfold J8
  rw[Ci (by omega),wrap_small (by omega) (by omega)]
  obtain⟨r,h1,a,b,h2,h3,h4⟩:=H3 (step:=Qx (at_:Int)) (fun s=>∃ a b:List Int,s=((a.length:Int),a++x::b)∧a++b=out∧at_≤a.length)
    (fun r=>∃ a b,r= .next (a++x::b)∧a++b=out∧a.length=at_) (fun s=>s.1.toNat) (fun s hI=>by
      obtain⟨a,b,rfl,hab,ha⟩:=hI
      unfold Qx
      show(∃ s',(bif decide ((at_:Int)<((a.length:Nat):Int))then _ else _)=_∧_)∨_
      by_cases hlt:at_<a.length
      ·rw[Aib (by omega),cond_true]
       rcases List.eq_nil_or_concat a with e | ⟨a',y,e⟩
       ·subst e;simp at hlt
       ·rw[List.concat_eq_append]at e
        subst e
        have hl':(a'++[y]).length=a'.length+1:=by simp
        rw[hl']at hlt ha
        have hle:a'.length+1≤out.length:=by rw[← hab];simp
        have e1:a'++[y]++x::b=a'++y::x::b:=by simp
        have g1:(a'++y::x::b)[a'.length]? =some y:=by simp
        have g2:(a'++y::x::b)[a'.length+1]? =some x:=by simp
        have g3:((a'++y::x::b).set (a'.length+1) y)[a'.length]? =some y:=by rw[List.getElem?_set_ne (by omega)];exact g1
        simp only[hl',e1,Qj (show 0<a'.length+1 by omega) (by omega),Nat.add_sub_cancel,Ay g1,Ay g2,Option.bind_some,Int.toNat_natCast,Ay g3,uN]
        exact .inl ⟨_,rfl,⟨a',y::b,rfl,by rw[← hab];simp,by omega⟩,by omega⟩
      ·rw[Aic (by omega),cond_false]
       exact .inr ⟨_,rfl,a,b,rfl,hab,by omega⟩) fuel ((out.length:Int),out++[x]) ⟨out,[],rfl,by simp,hat⟩ (by show out.length<fuel;unfold fuel;omega)
  refine⟨a,b,?_,h3,h4⟩
  rw[show((((out.length+1:Nat):Int)) - 1)=(out.length:Int) by omega,h1,h2];rfl
theorem sR (k:Nat) (x:Int) {out:List Int} (hi:Inc out) (hlen:out.length≤100000000) :
    ∃ out',G9 k x out=some (.next out')∧Inc out'∧(∀ a,a∈out'↔a∈out∨a=x)∧out'.length≤out.length+1:=by
  unfold G9
  obtain⟨r,h1,out',h2,h3⟩:=H3 (step:=Qw out x) (fun(s:Int)=>∃ n:Nat,s=(n:Int)∧n≤out.length∧∀ i y,i<n→out[i]? =some y→y<x)
    (fun r=>∃ out',r= .next out'∧Inc out'∧(∀ a,a∈out'↔a∈out∨a=x)∧out'.length≤out.length+1) (fun s=>out.length - s.toNat) (fun s hI=>by
      obtain⟨n,rfl,hn,hI⟩:=hI
      have hins:(∀ y,out[n]? =some y→x<y)→∃ out',J8 out x (n:Int)=some (.next out')∧Inc out'∧(∀ a,a∈out'↔a∈out∨a=x)∧out'.length≤out.length+1:=fun hgt=>by
        obtain⟨a,b,g1,g2,g3⟩:=vK (x:=x) hn hlen
        refine⟨_,g1,?_,fun c=>?_,by rw[← g2];simp;omega⟩
        ·subst g2
         unfold Inc at hi ⊢
         obtain⟨p1,p2,p3⟩:=List.pairwise_append.1 hi
         have hb:∀ y∈b,x<y:=fun y hy=>by
           cases b with
           | nil=>cases hy
           | cons z b'=>
             have hz:x<z:=hgt z (by rw[← g3];simp)
             rcases List.mem_cons.1 hy with e | hy
             ·subst e;exact hz
             ·have:=(List.pairwise_cons.1 p2).1 y hy;omega
         have ha:∀ y∈a,y<x:=fun y hy=>by
           obtain⟨i,hi',rfl⟩:=List.getElem_of_mem hy
           exact hI i _ (by omega) (by rw[List.getElem?_append_left hi'];exact Aid hi')
         refine List.pairwise_append.2 ⟨p1,List.pairwise_cons.2 ⟨hb,p2⟩,fun y hy z hz=>?_⟩
         rcases List.mem_cons.1 hz with e | hz
         ·subst e;exact ha y hy
         ·exact p3 y hy z hz
        ·subst g2;simp only[List.mem_append,List.mem_cons]
         constructor
         ·rintro(h | h | h)
          ·exact .inl (.inl h)
          ·exact .inr h
          ·exact .inl (.inr h)
         ·rintro((h | h) | h)
          ·exact .inl h
          ·exact .inr (.inr h)
          ·exact .inr (.inl h)
      unfold Qw
      by_cases hlt:n<out.length
      ·rw[Aib (by omega),cond_true,Xl hlt,Option.bind_some]
       have hg:out[n]? =some out[n]:=Aid hlt
       by_cases hx:out[n]< x
       ·rw[Aib hx,cond_true,Qk (by omega)]
        refine .inl ⟨_,rfl,⟨n+1,rfl,by omega,fun i y hi' hy=>?_⟩,by omega⟩
        by_cases e:i=n
        ·subst e;rw[hg]at hy;obtain rfl:=Option.some.inj hy;exact hx
        ·exact hI i y (by omega) hy
       ·rw[Aic hx,cond_false]
        unfold Nj
        rw[Aib (by omega),cond_true,Xl hlt,Option.bind_some]
        by_cases e:out[n]=x
        ·rw[Aib e,cond_true]
         refine .inr ⟨_,rfl,out,rfl,hi,fun a=>⟨.inl,fun h=>?_⟩,by omega⟩
         rcases h with h | h
         ·exact h
         ·rw[h,← e];exact List.getElem_mem hlt
        ·rw[Aic e,cond_false]
         obtain⟨out',g1,g2⟩:=hins (fun y hy=>by rw[hg]at hy;obtain rfl:=Option.some.inj hy;omega)
         rw[g1]
         exact .inr ⟨_,rfl,out',rfl,g2⟩
      ·rw[Aic (by omega),cond_false,cond_false]
       unfold Nj
       rw[Aic (by omega),cond_false]
       obtain⟨out',g1,g2⟩:=hins (fun y hy=>by rw[List.getElem?_eq_none (by omega)]at hy;cases hy)
       rw[g1]
       exact .inr ⟨_,rfl,out',rfl,g2⟩) fuel 0 ⟨0,rfl,by omega,fun i y h=>by omega⟩ (by show out.length - 0<fuel;unfold fuel;omega)
  exact⟨out',by rw[h1,h2];rfl,h3⟩
theorem sU (zs:List Int) {out:List Int} (hi:Inc out) (hlen:out.length+zs.length≤100000000) :
    ∃ out',Am G9 0 zs out=some (.next out')∧Inc out'∧(∀ a,a∈out'↔a∈out∨a∈zs)∧out'.length≤out.length+zs.length:=by
  obtain⟨s',h1,h2,h3,h4⟩:=Ds (step:=G9) (l:=zs) (s:=out) (fun k s=>Inc s∧(∀ a,a∈s↔a∈out∨a∈zs.take k)∧s.length≤out.length+k) ⟨hi,by simp,by omega⟩ (fun k x s hk ⟨hI1,hI2,hI3⟩=>by
    have hlt:=(List.getElem?_eq_some_iff.1 hk).1
    obtain⟨out',g1,g2,g3,g4⟩:=sR k x hI1 (by omega)
    refine⟨out',g1,g2,fun a=>?_,by omega⟩
    rw[g3,hI2,List.take_add_one,hk]
    simp[or_assoc])
  rw[List.take_length]at h3
  exact⟨s',h1,h2,h3,h4⟩
theorem refgather {step:Nat→Bc→List Int→Option (Out (List Int) (List Int))} {l:List Bc} (f:Bc→List Int) (p:Bc→Bool) (hl:l.length≤50) (hf:∀ x∈l,(f x).length≤100)
    (hs:∀ k x s,x∈l→step k x s=bif p x then(Am G9 0 (f x) s).bind fun o7=>o7.on fun s7=>some (Out.next s7)else some (Out.next s)) :
    ((Am step 0 l []).bind fun o2=>o2.on fun s2=>some s2)=some (norm ((l.filter p).flatMap f)):=by
  obtain⟨s',h1,h2,h3,h4⟩:=Ds (step:=step) (l:=l) (s:=[]) (fun k s=>Inc s∧(∀ a,a∈s↔a∈((l.take k).filter p).flatMap f)∧s.length≤100*k) ⟨List.Pairwise.nil,by simp,by simp⟩ (fun k x s hk ⟨hI1,hI2,hI3⟩=>by
    have hlt:=(List.getElem?_eq_some_iff.1 hk).1
    have hx:=Aie hk
    have:=hf x hx
    rw[hs k x s hx]
    cases hp:p x with
    | true=>
      rw[cond_true]
      obtain⟨out',g1,g2,g3,g4⟩:=sU (f x) hI1 (by omega)
      refine⟨out',by rw[g1];rfl,g2,fun a=>?_,by omega⟩
      rw[g3,hI2,List.take_add_one,hk];simp[hp]
    | false=>
      rw[cond_false]
      refine⟨_,rfl,hI1,fun a=>?_,by omega⟩
      rw[hI2,List.take_add_one,hk];simp[hp])
  rw[List.take_length]at h3
  rw[h1]
  show some s'=_
  rw[Qe h2 (Wa _) (fun a=>by rw[h3,V9])]
theorem l4 {l:List Bc} {levels:List Int} (hs:Small l) (hr:aK l) (hl:levels.length≤9223372036854775807):V2 l levels=some (norm ((l.filter fun x=>decide (Ya x levels)).flatMap Bc.Zones)):=
  refgather Bc.Zones (fun x=>decide (Ya x levels)) hs.1 (fun x hx=>(hs.2 x hx).1) (fun k x s hx=>by
    unfold V1;rw[eU (hr.at hx).1 hl (fun z hz=>((hr.at hx).2.2.1.1 z hz).1),Option.bind_some])
end Go.Proofs.YtjopghiagoidgaaGreat.S50
namespace Go.Proofs.YtjopghiagoidgaaGreat
open Go Go.Ab
set_option linter.unusedSimpArgs false
set_option linter.unusedVariables false
def Ag {α:Type} (a b:Option α):Prop:=∃ r,a=some r∧b=some r
theorem Ag.some {α:Type} (x:α):Ag (some x) (some x):=⟨x,rfl,rfl⟩
theorem Ag.refl {α:Type} {a:Option α} (h:∃ x,a=Option.some x):Ag a a:=by obtain⟨x,h⟩:=h;exact⟨x,h,h⟩
theorem Ag.symm {α:Type} {a b:Option α} (h:Ag a b):Ag b a:=by obtain⟨x,h,k⟩:=h;exact⟨x,k,h⟩
theorem Ag.trans {α:Type} {a b c:Option α} (h:Ag a b) (k:Ag b c):Ag a c:=by
  obtain⟨x,h1,h2⟩:=h;obtain⟨y,k1,k2⟩:=k
  rw[h2]at k1;obtain rfl:=Option.some.inj k1
  exact⟨x,h1,k2⟩
theorem Ag.eq {α:Type} {a b:Option α} (h:Ag a b):a=b:=by obtain⟨x,h1,h2⟩:=h;rw[h1,h2]
theorem Ag.of {α:Type} {a b:Option α} (h:∃ x,a=Option.some x) (e:a=b):Ag a b:=by obtain⟨x,h⟩:=h;exact⟨x,h,by rw[← e];exact h⟩
theorem Ag.bind {α β:Type} {a b:Option α} {f g:α→Option β} (h:Ag a b) (k:∀ x,a=Option.some x→b=Option.some x→Ag (f x) (g x)):Ag (a.bind f) (b.bind g):=by
  obtain⟨x,h1,h2⟩:=h
  have:=k x h1 h2
  rw[h1,h2];exact this
theorem Ag.bif {α:Type} {c d:Bool} {a b a' b':Option α} (hc:c=d) (h:c=true→Ag a b) (k:c=false→Ag a' b'):Ag (bif c then a else a') (bif d then b else b'):=by
  subst hc
  cases c with
  | true=>exact h rfl
  | false=>exact k rfl
theorem jQ {α σ ρ:Type} {step:Nat→α→σ→Option (Out σ ρ)}:∀ {l:List α} {k:Nat},(∀ i x s,l[i]? =Option.some x→∃ o,step (k+i) x s=Option.some o)→∀ s,∃ o,Am step k l s=Option.some o
  | [],k,_,s=>⟨_,rfl⟩
  | x::l,k,h,s=>by
    obtain⟨o,ho⟩:=h 0 x s rfl
    rw[Nat.add_zero]at ho
    rw[Am,ho]
    cases o with
    | ret r=>exact ⟨_,rfl⟩
    | next s'=>exact jQ (fun i y s hy=>by have:=h (i+1) y s (by simpa using hy);rwa [show k+(i+1)=k+1+i by omega]at this) s'
theorem Ag.vV {α σ ρ:Type} {step step':Nat→α→σ→Option (Out σ ρ)}:∀ {l:List α} {k:Nat},(∀ i x s,l[i]? =Option.some x→Ag (step (k+i) x s) (step' (k+i) x s))→∀ s,Ag (Am step k l s) (Am step' k l s)
  | [],k,_,s=>⟨_,rfl,rfl⟩
  | x::l,k,h,s=>by
    obtain⟨o,ho,ho'⟩:=h 0 x s rfl
    rw[Nat.add_zero]at ho ho'
    rw[Am,Am,ho,ho']
    cases o with
    | ret r=>exact ⟨_,rfl,rfl⟩
    | next s'=>exact Ag.vV (fun i y s hy=>by have:=h (i+1) y s (by simpa using hy);rwa [show k+(i+1)=k+1+i by omega]at this) s'
theorem Ag.Am {α σ ρ:Type} {step step':Nat→α→σ→Option (Out σ ρ)} {l:List α} {s:σ} (h:∀ i x s,l[i]? =Option.some x→Ag (step i x s) (step' i x s)):Ag (Am step 0 l s) (Am step' 0 l s):=
  Ag.vV (fun i x s hx=>by rw[Nat.zero_add];exact h i x s hx) s
theorem Ag.on {σ ρ:Type} {o:Out σ ρ} {f g:σ→Option ρ} (h:∀ s,o= .next s→Ag (f s) (g s)):Ag (o.on f) (o.on g):=by
  cases o with
  | ret r=>exact ⟨_,rfl,rfl⟩
  | next s=>exact h s rfl
theorem bY {α:Type} {l:List α} {k:Nat} (hk:k<l.length) (h0:0<k) (hl:l.length≤9223372036854775807):∃ x,Dh l (IntKind.i64.wrap ((k:Int) - 1))=Option.some x∧l[k - 1]? =Option.some x:=by
  have hx:l[k - 1]? =Option.some (l[k - 1]'(by omega)):=Aid (by omega)
  exact⟨_,Qf (Qj h0 (by omega)) hx,hx⟩
def Tot {α:Type} (a:Option α):Prop:=∃ r,a=Option.some r
theorem Tot.some {α:Type} (x:α):Tot (Option.some x):=⟨x,rfl⟩
theorem Tot.bif {α:Type} {c:Bool} {a b:Option α} (h:c=true→Tot a) (k:c=false→Tot b):Tot (bif c then a else b):=by
  cases c with
  | true=>exact h rfl
  | false=>exact k rfl
theorem Tot.bind {α β:Type} {a:Option α} {f:α→Option β} (h:Tot a) (k:∀ x,a=Option.some x→Tot (f x)):Tot (a.bind f):=by
  obtain⟨x,h⟩:=h
  have:=k x h
  rw[h];exact this
theorem Tot.on {σ ρ:Type} {o:Out σ ρ} {f:σ→Option ρ} (h:∀ s,Tot (f s)):Tot (o.on f):=by
  cases o with
  | ret r=>exact ⟨_,rfl⟩
  | next s=>exact h s
theorem Tot.Am {α σ ρ:Type} {step:Nat→α→σ→Option (Out σ ρ)} {l:List α} {s:σ} (h:∀ i x s,l[i]? =Option.some x→Tot (step i x s)):Tot (Am step 0 l s):=
  jQ (fun i x s hx=>by rw[Nat.zero_add];exact h i x s hx) s
theorem Tot.pred {α β:Type} {l:List α} {k:Nat} {f:α→Option β} (hk:k<l.length) (h0:decide ((0:Int)<((k:Nat):Int))=true) (hl:l.length≤9223372036854775807) (h:∀ y,Tot (f y)):Tot ((Dh l (IntKind.i64.wrap (((k:Nat):Int) - (1:Int)))).bind f):=by
  obtain⟨x,h1,_⟩:=bY hk (by have:=Aia h0;omega) hl
  rw[h1];exact h x
theorem Ag.mF {α:Type} {a b:Option α} (h:Tot a) (e:a=b):Ag a b:=Ag.of h e
def Df {σ ρ:Type} (P:ρ→Prop) (o:Option (Out σ ρ)):Prop:=∀ r,o=Option.some (.ret r)→P r
theorem Df.next {σ ρ:Type} {P:ρ→Prop} (s:σ):Df P (Option.some (Out.next s)):=by intro r h;cases h
theorem Df.ret {σ ρ:Type} {P:ρ→Prop} {r:ρ} (h:P r):Df (σ:=σ) P (Option.some (Out.ret r)):=by intro r' h';cases h';exact h
theorem Df.bif {σ ρ:Type} {P:ρ→Prop} {c:Bool} {a b:Option (Out σ ρ)} (h:c=true→Df P a) (k:c=false→Df P b):Df P (bif c then a else b):=by
  cases c with
  | true=>exact h rfl
  | false=>exact k rfl
theorem Df.bind {α σ ρ:Type} {P:ρ→Prop} {a:Option α} {f:α→Option (Out σ ρ)} (h:∀ x,a=Option.some x→Df P (f x)):Df P (a.bind f):=by
  intro r hr
  obtain⟨x,h1,h2⟩:=Ah hr
  exact h x h1 r h2
theorem Df.okB {σ ρ:Type} {P:ρ→Prop} {c:Bool} {o:Option (Out σ ρ)} (h:Df P o):Df P (okB c o):=by
  cases c with
  | true=>exact h
  | false=>intro r h';cases h'
theorem Df.Am {α σ ρ:Type} {P:ρ→Prop} {step:Nat→α→σ→Option (Out σ ρ)} (h:∀ i x s,Df P (step i x s)):∀ {l:List α} {k:Nat} {s:σ},Df P (Am step k l s)
  | [],k,s=>Df.next _
  | x::l,k,s=>by
    intro r hr
    rw[Go.Ab.Am]at hr
    obtain⟨o,h1,h2⟩:=Ah hr
    cases o with
    | ret q=>exact h k x s r (by rw[h1];exact h2 ▸ rfl)
    | next s'=>exact Df.Am h r h2
theorem oO {σ:Type} {o:Option (Out σ Int)} {rest:Option Int} (h:Df (·≠0) o):((o.bind fun x=>x.on fun _=>Option.some (0:Int)).bind fun y=>bif decide (y≠(0:Int))then Option.some y else rest)=o.bind fun x=>x.on fun _=>rest:=by
  cases o with
  | none=>rfl
  | some x=>
    cases x with
    | next s=>rfl
    | ret r=>
      have:=h r rfl
      show(bif decide (r≠0)then Option.some r else rest)=Option.some r
      rw[Aib this];rfl
theorem kY {α:Type} {n lo hi:Int} {a b:α}:(bif decide (n<lo)then a else(bif decide (hi<n)then a else b))=(bif !decide (lo≤n∧n≤hi)then a else b):=by
  by_cases h1:n<lo
  ·rw[Aib h1,Aic (p:=lo≤n∧n≤hi) (by omega)];rfl
  ·by_cases h2:hi<n
   ·rw[Aic h1,Aib h2,Aic (by omega)];rfl
   ·rw[Aic h1,Aic h2,Aib (by omega)];rfl
theorem bf {p q:Prop} [Decidable p] [Decidable q]:(bif decide p then Option.some false else Option.some (decide q))=Option.some (decide (¬p∧q)):=by
  by_cases h1:p<;>by_cases h2:q<;>simp[h1,h2]
theorem bt {p q:Prop} [Decidable p] [Decidable q]:(bif decide p then Option.some (decide q)else Option.some false)=Option.some (decide (p∧q)):=by
  by_cases h1:p<;>by_cases h2:q<;>simp[h1,h2]
theorem ba {α:Type} {p q:Prop} [Decidable p] [Decidable q] {a b:α}:(bif !decide p then a else(bif !decide q then a else b))=(bif !decide (p∧q)then a else b):=by
  by_cases h1:p<;>by_cases h2:q<;>simp[h1,h2]
theorem rJ {α:Type} {x y:Int} {a b:α}:(bif decide (x<y)then a else b)=(bif !decide (y≤x)then a else b):=by
  by_cases h:x<y
  ·rw[Aib h,Aic (by omega)];rfl
  ·rw[Aic h,Aib (by omega)];rfl
theorem xV {α:Type} {x y:Int} {a b:α}:(bif decide (x≤y)then a else b)=(bif !decide (y<x)then a else b):=by
  by_cases h:x≤y
  ·rw[Aib h,Aic (by omega)];rfl
  ·rw[Aic h,Aib (by omega)];rfl
theorem in2 {lo n hi:Int}:(bif (decide (lo≤n))then Option.some (decide (n≤hi))else Option.some false)=Option.some (decide (lo≤n∧n≤hi)):=bt
theorem jP {α σ τ ρ:Type} {step:Nat→α→σ→Option (Out σ ρ)} {step':Nat→α→τ→Option (Out τ ρ)} (l:List α) (R:Nat→σ→τ→Prop)
    (hs:∀ i x s t,l[i]? =Option.some x→R i s t→(∃ s' t',step i x s=Option.some (.next s')∧step' i x t=Option.some (.next t')∧R (i+1) s' t')∨(∃ r,step i x s=Option.some (.ret r)∧step' i x t=Option.some (.ret r))) :
    ∀ (n k:Nat) (s:σ) (t:τ),l.length - k=n→k≤l.length→R k s t→(∃ s' t',Am step k (l.drop k) s=Option.some (.next s')∧Am step' k (l.drop k) t=Option.some (.next t')∧R l.length s' t')∨(∃ r,Am step k (l.drop k) s=Option.some (.ret r)∧Am step' k (l.drop k) t=Option.some (.ret r))
  | 0,k,s,t,hn,hk,hR=>by
    have:k=l.length:=by omega
    subst this
    rw[List.drop_length]
    exact .inl ⟨s,t,rfl,rfl,hR⟩
  | n+1,k,s,t,hn,hk,hR=>by
    have hlt:k<l.length:=by omega
    rw[List.drop_eq_getElem_cons hlt]
    rcases hs k _ s t (Aid hlt) hR with⟨s',t',h1,h2,h3⟩ | ⟨r,h1,h2⟩
    ·rcases jP l R hs n (k+1) s' t' (by omega) hlt h3 with⟨s2,t2,h4,h5,h6⟩ | ⟨r,h4,h5⟩
     ·exact .inl ⟨s2,t2,by rw[Go.Ab.Am,h1];exact h4,by rw[Go.Ab.Am,h2];exact h5,h6⟩
     ·exact .inr ⟨r,by rw[Go.Ab.Am,h1];exact h4,by rw[Go.Ab.Am,h2];exact h5⟩
    ·exact .inr ⟨r,by rw[Go.Ab.Am,h1];rfl,by rw[Go.Ab.Am,h2];rfl⟩
theorem pJ (c:Bk):Qn c=some (decide (1≤c.Kind∧c.Kind≤3∧1≤c.Target∧c.Target≤9999∧1≤c.By∧c.By≤6∧0≤c.Since∧c.Since≤20000000)):=by
  unfold Qn;simp only[bt]
theorem wA (l:List Bk) (a b c:Int):Ny l ⟨a,b,c⟩=Fk l a b c:=by
  have:Iy ⟨a,b,c⟩=Ew a b c:=by
    funext k x s
    unfold Iy Ew I8
    rw[Option.bind_some]
    dsimp only
    cases decide (x.Kind=a)<;>cases decide (x.Target=b)<;>cases decide (x.By=c)<;>rfl
  unfold Ny Fk;rw[this]
theorem sC (l:List Bk) (a b c:Int):Tot (Fk l a b c):=by
  unfold Fk
  refine Tot.bind (Tot.Am fun i x s _=>?_) fun o _=>Tot.on fun _=>Tot.some _
  unfold Ew
  repeat' first | exact Tot.some _ | refine Tot.bif (fun _=>?_) (fun _=>?_)
theorem pW (l:List Bk) (hl:l.length≤1000):Ag (Lw l) (Hx l):=by
  unfold Lw Hx
  refine Ag.bif rfl (fun _=>Ag.some _) fun _=>?_
  refine Ag.bind (Ag.Am fun i x s hx=>?_) fun o _ _=>Ag.on fun _ _=>Ag.some _
  have hi:=(List.getElem?_eq_some_iff.1 hx).1
  unfold La G7
  refine Ag.bind (a:=Ma x) (b:=Qn x) ⟨_,pJ x,pJ x⟩ fun y _ _=>?_
  refine Ag.bif rfl (fun _=>Ag.some _) fun _=>?_
  rw[N9 (by omega),N9 (by omega)]
  unfold I8
  rw[Option.bind_some,wA]
  exact Ag.bind (Ag.refl (sC _ _ _ _)) fun y _ _=>Ag.bif rfl (fun _=>Ag.some _) fun _=>Ag.some _
theorem mT (l:List Int) (n:Int):Ts l n=some (decide (n∈l)):=Wf fun k x hx=>rfl
theorem eG (n lo hi:Int):O4 n lo hi=some (decide (lo≤n∧n≤hi)):=by unfold O4;exact in2
theorem pM (l:Bp) (h1:l.Items.length≤9223372036854775807) (h2:l.Signs.length≤9223372036854775807):Ag (I7 l) (Ga l):=by
  unfold I7 Ga
  refine Ag.bif rfl (fun _=>Ag.some _) fun hl1=>?_
  refine Ag.bif rfl (fun _=>Ag.some _) fun hl2=>?_
  have hl1:=Ah9 hl1
  have hl2:=Ah9 hl2
  rw[kY,eG,Option.bind_some]
  refine Ag.bif rfl (fun _=>Ag.some _) fun _=>?_
  refine Ag.bind (Ag.Am fun i x s hx=>?_) fun o _ _=>Ag.on fun _ _=>?_
  ·have hi:=(List.getElem?_eq_some_iff.1 hx).1
   unfold K6 Nl
   rw[kY,eG,Option.bind_some]
   refine Ag.bif rfl (fun _=>Ag.some _) fun _=>?_
   rw[N9 (by omega),N9 (by omega)]
   simp only[contains_eq,mT,Option.bind_some]
   exact Ag.bif rfl (fun _=>Ag.some _) fun _=>Ag.some _
  ·unfold K5 Nk
   refine Ag.bind (Ag.Am fun i x s hx=>?_) fun o _ _=>Ag.on fun _ _=>Ag.some _
   have hi:=(List.getElem?_eq_some_iff.1 hx).1
   unfold K7 Nm
   simp only[contains_eq,mT,Option.bind_some]
   refine Ag.bif rfl (fun _=>Ag.some _) fun _=>?_
   rw[kY,eG,Option.bind_some]
   refine Ag.bif rfl (fun _=>Ag.some _) fun _=>?_
   rw[kY,eG,Option.bind_some]
   refine Ag.bif rfl (fun _=>Ag.some _) fun _=>?_
   refine Ag.bif rfl (fun h0=>?_) fun _=>Ag.some _
   refine Ag.refl ?_
   exact Tot.pred hi h0 (by omega) fun y=>Tot.bif (fun _=>Tot.some _) fun _=>Tot.some _
theorem mS {l:Bp} (h:Ga l=some 0):l.Items.length≤64∧l.Signs.length≤200:=by
  unfold Ga at h
  by_cases h1:((64:Int)<((l.Items.length:Nat):Int))
  ·rw[Aib h1]at h;cases h
  ·by_cases h2:((200:Int)<((l.Signs.length:Nat):Int))
   ·rw[Aic h1,Aib h2]at h;cases h
   ·omega
theorem kU (l:List Cv) (n:Int):Lt l n=some (match l.findIdx? (fun x=>decide (x.ID=n))with | some k=>(k:Int) | none=> -1):=by
  unfold Lt
  have key:∀ (l:List Cv) (k:Nat),Am (Fp n) k l ()=match l.findIdx? (fun x=>decide (x.ID=n))with | some j=>some (.ret ((j+k:Nat):Int)) | none=>some (.next ()):=by
    intro l
    induction l with
    | nil=>intro k;rfl
    | cons x l ih=>
      intro k
      rw[Am,List.findIdx?_cons]
      unfold Fp
      cases hx:decide (x.ID=n)with
      | true=>simp[Out.cont]
      | false=>
        rw[cond_false,Option.bind_some]
        show Am (Fp n) (k+1) l ()=_
        rw[ih (k+1)]
        cases l.findIdx? (fun x=>decide (x.ID=n))with
        | none=>rfl
        | some j=>simp;omega
  rw[key l 0]
  cases l.findIdx? (fun x=>decide (x.ID=n))with
  | none=>rfl
  | some j=>rfl
theorem sD (p:Ca) (h1:p.Bv.length≤1000) (h2:p.Hazards.length≤1000) (h3:∀ x∈p.Bv,x.List_.Items.length≤9223372036854775807∧x.List_.Signs.length≤9223372036854775807):Ag (Np p) (Hw p):=by
  unfold Np Hw
  refine Ag.bif rfl (fun _=>Ag.some _) fun _=>?_
  refine Ag.bif rfl (fun _=>Ag.some _) fun _=>?_
  refine Ag.bind (Ag.Am fun i x s hx=>?_) fun o _ _=>Ag.on fun _ _=>?_
  ·have hi:=(List.getElem?_eq_some_iff.1 hx).1
   have hI:=pM x.List_ (h3 x (Aie hx)).1 (h3 x (Aie hx)).2
   unfold L7 G6
   refine Ag.bif rfl (fun _=>Ag.some _) fun _=>?_
   refine Ag.bif rfl (fun _=>Ag.some _) fun _=>?_
   refine Ag.bif rfl (fun h0=>?_) fun _=>?_
   ·obtain⟨y,hy,_⟩:=bY hi (by have:=Aia h0;omega) (by omega)
    refine Ag.bind ⟨y,hy,hy⟩ fun y _ _=>?_
    refine Ag.bif rfl (fun _=>Ag.some _) fun _=>?_
    exact Ag.bind hI fun z _ _=>Ag.bif rfl (fun _=>Ag.some _) fun _=>Ag.some _
   ·exact Ag.bind hI fun z _ _=>Ag.bif rfl (fun _=>Ag.some _) fun _=>Ag.some _
  ·unfold L6 Nd
   refine Ag.bind (Ag.Am fun i x s hx=>?_) fun o _ _=>Ag.on fun _ _=>Ag.some _
   have hi:=(List.getElem?_eq_some_iff.1 hx).1
   have hat:Tot (Nc p x.Run):=by
     unfold Nc
     refine Tot.bind (Tot.Am fun i x s _=>?_) fun o _=>Tot.on fun _=>Tot.some _
     unfold Ms
     exact Tot.bif (fun _=>Tot.some _) fun _=>Tot.some _
   unfold L8 Nf
   refine Ag.bif rfl (fun _=>Ag.some _) fun _=>?_
   refine Ag.bif rfl (fun _=>Ag.some _) fun _=>?_
   refine Ag.bif rfl (fun _=>Ag.some _) fun _=>?_
   refine Ag.bif rfl (fun _=>Ag.some _) fun _=>?_
   rw[N9 (by omega),kU,Option.bind_some]
   have hat2:Ag ((Kg p x.Run).bind fun y5=>(bif (decide (y5<(0:Int)))then some (Out.ret (8:Int))else some (Out.next ()))) ((Nc p x.Run).bind fun y6=>(bif (decide (y6<(0:Int)))then some (Out.ret (8:Int))else some (Out.next ()))):=
     Ag.bind (a:=Kg p x.Run) (b:=Nc p x.Run) (Ag.refl hat) fun z _ _=>Ag.bif rfl (fun _=>Ag.some _) fun _=>Ag.some _
   rcases Wl (step:=J7 p x) (n:=i) (s:=()) (by omega) (fun j _=>∀ y∈p.Hazards.take j,y.ID≠x.ID) (fun r=>r= .ret 7∧∃ y∈p.Hazards.take i,y.ID=x.ID) (by simp) (fun j s hj hI=>by
       have hy:p.Hazards[j]? =some (p.Hazards[j]'(by omega)):=Aid (by omega)
       generalize (p.Hazards[j]'(by omega))=y at hy
       unfold J7
       rw[Qf rfl hy,Option.bind_some]
       by_cases e:y.ID=x.ID
       ·rw[Aib e]
        exact .inr ⟨_,rfl,rfl,y,Aie (by rw[List.getElem?_take,if_pos hj];exact hy),e⟩
       ·rw[Aic e]
        refine .inl ⟨_,rfl,fun z hz=>?_⟩
        rw[Bx hy,List.mem_append,List.mem_singleton]at hz
        rcases hz with hz | rfl
        ·exact hI z hz
        ·exact e)with ⟨s',e1,e2⟩ | ⟨r,e1,rfl,e2⟩
   ·have e3:(p.Hazards.take i).findIdx? (fun y=>decide (y.ID=x.ID))=none:=by
      rw[List.findIdx?_eq_none_iff];intro y hy;simpa using e2 y hy
    rw[e1,e3]
    exact hat2
   ·rw[e1]
    cases e3:(p.Hazards.take i).findIdx? (fun y=>decide (y.ID=x.ID))with
    | none=>
      rw[List.findIdx?_eq_none_iff]at e3
      obtain⟨y,hy,e⟩:=e2
      have:=e3 y hy;simp[e]at this
    | some j=>
      show Ag (bif decide ((0:Int)≤((j:Nat):Int))then _ else _) _
      rw[Aib (Int.natCast_nonneg j)]
      exact Ag.some _
theorem oN (l:List Cx) (hl:l.length≤1000):Ag (Lk l) (O1 l):=by
  refine Ag.mF ?_ rfl
  unfold Lk
  refine Tot.bif (fun _=>Tot.some _) fun _=>?_
  refine Tot.bind (Tot.Am fun i x s hx=>?_) fun o _=>Tot.on fun _=>Tot.some _
  have hi:=(List.getElem?_eq_some_iff.1 hx).1
  unfold Kt
  repeat' first | exact Tot.some _ | (refine Tot.pred hi ‹_› (by omega) fun y=>?_) | refine Tot.bif (fun h0=>?_) (fun _=>?_)
theorem lH (l:List Int) (hl:l.length≤9223372036854775807):Tot (J9 l):=by
  unfold J9
  refine Tot.bind (Tot.Am fun i x s hx=>?_) fun o _=>Tot.on fun _=>Tot.some _
  have hi:=(List.getElem?_eq_some_iff.1 hx).1
  unfold Hb
  repeat' first | exact Tot.some _ | (refine Tot.pred hi ‹_› (by omega) fun y=>?_) | refine Tot.bif (fun h0=>?_) (fun _=>?_)
def oG (b:Bl):Prop:=1≤b.Version∧b.Version≤1000000∧0≤b.Span.From∧b.Span.From<b.Span.To∧b.Span.To≤20000000∧0≤b.Low∧b.Low<b.High∧b.High≤6000∧1≤b.Level∧b.Level≤5
instance (b:Bl):Decidable (oG b):=by unfold oG;infer_instance
theorem wC (b:Bl):Hi b=some (decide (oG b)):=by
  unfold Hi;simp only[bf,bt]
  congr 1
  rw[decide_eq_decide];unfold oG;omega
theorem iG (l:List Bl) (i:Nat) (x:Bl):Ee l i x ()=Ex l i x ():=by
  unfold Ee Ex
  rw[wC,Option.bind_some]
  by_cases h:oG x
  ·obtain⟨h1,h2,h3,h4,h5,h6,h7,h8,h9,h10⟩:=id h
   rw[Aib h,Aic (p:=x.Version<1) (by omega),Aic (p:=(1000000:Int)<x.Version) (by omega),Aic (p:=x.Span.From<0) (by omega),Aic (p:=x.Span.To≤x.Span.From) (by omega),Aic (p:=(20000000:Int)<x.Span.To) (by omega),Aic (p:=x.Low<0) (by omega),Aic (p:=x.High≤x.Low) (by omega),Aic (p:=(6000:Int)<x.High) (by omega),Aic (p:=x.Level<1) (by omega),Aic (p:=(5:Int)<x.Level) (by omega)]
   rfl
  ·rw[Aic h]
   show some (Out.ret (2:Int))=_
   by_cases h1:x.Version<1
   ·rw[Aib h1];rfl
   rw[Aic h1]
   by_cases h2:(1000000:Int)<x.Version
   ·rw[Aib h2];rfl
   rw[Aic h2]
   by_cases h3:x.Span.From<0
   ·rw[Aib h3];rfl
   rw[Aic h3]
   by_cases h4:x.Span.To≤x.Span.From
   ·rw[Aib h4];rfl
   rw[Aic h4]
   by_cases h5:(20000000:Int)<x.Span.To
   ·rw[Aib h5];rfl
   rw[Aic h5]
   by_cases h6:x.Low<0
   ·rw[Aib h6];rfl
   rw[Aic h6]
   by_cases h7:x.High≤x.Low
   ·rw[Aib h7];rfl
   rw[Aic h7]
   by_cases h8:(6000:Int)<x.High
   ·rw[Aib h8];rfl
   rw[Aic h8]
   by_cases h9:x.Level<1
   ·rw[Aib h9];rfl
   rw[Aic h9]
   by_cases h10:(5:Int)<x.Level
   ·rw[Aib h10];rfl
   exact absurd ⟨by omega,by omega,by omega,by omega,by omega,by omega,by omega,by omega,by omega,by omega⟩ h
theorem nO (l:List Bl) (hl:l.length≤1000) (hz:∀ b∈l,b.Zones.length≤9223372036854775807):Ag (Hj l) (Hz l):=by
  refine Ag.mF ?_ ?_
  ·unfold Hj
   refine Tot.bif (fun _=>Tot.some _) fun _=>?_
   refine Tot.bind (Tot.Am fun i x s hx=>?_) fun o _=>Tot.on fun _=>Tot.some _
   have hi:=(List.getElem?_eq_some_iff.1 hx).1
   unfold Ee
   rw[wC,Option.bind_some]
   refine Tot.bif (fun _=>Tot.some _) fun _=>?_
   refine Tot.bind (lH x.Zones (hz x (Aie hx))) fun y _=>?_
   refine Tot.bif (fun _=>Tot.some _) fun _=>?_
   refine Tot.bif (fun h0=>?_) fun _=>Tot.some _
   exact Tot.pred hi h0 (by omega) fun y=>Tot.bif (fun _=>Tot.some _) fun _=>Tot.some _
  ·unfold Hj Hz
   have:Ee l=Ex l:=by funext i x s;exact iG l i x
   rw[this]
theorem kS (n lo hi:Int):Lp n lo hi=some (decide (lo≤n∧n≤hi)):=by unfold Lp;exact in2
theorem xE (n lo hi:Int):Kc n lo hi=some (decide (lo≤n∧n≤hi)):=by unfold Kc;exact in2
def j1 (m:Bg):Prop:=1≤m.ID∧m.ID≤9999∧1≤m.Slide∧m.Slide≤9999∧1≤m.By∧m.By≤9999∧0≤m.State∧m.State≤6∧0≤m.Since∧m.Since≤20000000∧0≤m.Window.From∧m.Window.From<m.Window.To∧m.Window.To≤20000000
instance (m:Bg):Decidable (j1 m):=by unfold j1;infer_instance
theorem yM (m:Bg):Lx m=some (decide (j1 m)):=by
  unfold Lx;simp only[bf,bt]
  congr 1
  rw[decide_eq_decide];unfold j1;omega
theorem nQ (m:Bg):Og m=some (decide (0≤m.State∧m.State≤4)):=by
  unfold Og Ie Ep
  by_cases h0:m.State=0
  ·rw[Aib h0,Aib (p:=0≤m.State∧m.State≤4) (by omega)];rfl
  ·by_cases h1:m.State=1
   ·rw[Aic h0,Aib h1,Aib (p:=0≤m.State∧m.State≤4) (by omega)];rfl
   ·by_cases h2:m.State=2
    ·rw[Aic h0,Aic h1,Aib h2,Aib (p:=0≤m.State∧m.State≤4) (by omega)];rfl
    ·by_cases h3:m.State=3
     ·rw[Aic h0,Aic h1,Aic h2,Aib h3,Aib (p:=0≤m.State∧m.State≤4) (by omega)];rfl
     ·by_cases h4:m.State=4
      ·rw[Aic h0,Aic h1,Aic h2,Aic h3,Aib h4,Aib (p:=0≤m.State∧m.State≤4) (by omega)];rfl
      ·rw[Aic h0,Aic h1,Aic h2,Aic h3,Aic h4,Aic (p:=0≤m.State∧m.State≤4) (by omega)];rfl
theorem eR (m:Bg):Mj m=some (decide (0≤m.State∧m.State≤4)):=by unfold Mj;rw[kS];rfl
def opn (m:Bg):Bool:=decide (0≤m.State∧m.State≤4)
theorem uL (l:List Bg) (s:Int):O0 l s=some (l.any fun x=>opn x&&decide (x.Slide=s)):=by
  unfold O0
  rw[Fl (fun x=>opn x&&decide (x.Slide=s)) (fun _=>true) (fun k x _=>by
   unfold Ng;rw[eR,Option.bind_some];show(bif opn x then _ else _)=_
   cases opn x<;>cases decide (x.Slide=s)<;>rfl)]
  cases h:l.find? (fun x=>opn x&&decide (x.Slide=s))with
  | none=>
    have:(l.any fun x=>opn x&&decide (x.Slide=s))=false:=by
      rw[List.any_eq_false];rw[List.find?_eq_none]at h;exact h
    rw[this];rfl
  | some x=>
    have:(l.any fun x=>opn x&&decide (x.Slide=s))=true:=by
      rw[List.any_eq_true];exact⟨x,List.mem_of_find?_eq_some h,List.find?_some (p:=fun x=>opn x&&decide (x.Slide=s)) h⟩
    rw[this];rfl
theorem qA (l:List Bg) (i:Nat) (x:Bg) (hi:i<l.length) (hl:l.length≤1000) :
    ((Jr (Hm l i x) i ()).bind fun o4=>o4.on fun s4=>some (Out.next ()))=(some (bif opn x&&((l.take i).any fun y=>opn y&&decide (y.Slide=x.Slide))then Out.ret (15:Int)else Out.next ()):Option (Out Unit Int)):=by
  rcases Wl (step:=Hm l i x) (n:=i) (s:=()) (by omega) (fun j _=>∀ y∈l.take j,¬ (opn x=true∧opn y=true∧y.Slide=x.Slide)) (fun r=>r= .ret 15∧∃ y∈l.take i,opn x=true∧opn y=true∧y.Slide=x.Slide) (by simp) (fun j s hj hI=>by
      have hy:l[j]? =some (l[j]'(by omega)):=Aid (by omega)
      generalize (l[j]'(by omega))=y at hy
      have hyt:(l.take i)[j]? =some y:=by rw[List.getElem?_take,if_pos hj];exact hy
      unfold Hm
      rw[Qf rfl hyt,Option.bind_some,nQ,nQ,Option.bind_some,Option.bind_some]
      show(∃ s',(bif opn x then bif opn y then _ else _ else _)=_∧_)∨(∃ r,(bif opn x then bif opn y then _ else _ else _)=_∧_)
      by_cases e:opn x=true∧opn y=true∧y.Slide=x.Slide
      ·rw[e.1,e.2.1,Aib e.2.2]
       exact .inr ⟨_,rfl,rfl,y,Aie hyt,e.1 ▸ e⟩
      ·refine .inl ⟨(),?_,fun z hz=>?_⟩
       ·cases h1:opn x with
        | false=>rfl
        | true=>
          cases h2:opn y with
          | false=>rfl
          | true=>rw[Aic (fun h3=>e ⟨h1,h2,h3⟩)];rfl
       ·rw[Bx hy,List.mem_append,List.mem_singleton]at hz
        rcases hz with hz | rfl
        ·exact hI z hz
        ·exact e)with ⟨s',e1,e2⟩ | ⟨r,e1,rfl,y,hy,e2,e3,e4⟩
  ·rw[e1]
   have:(opn x&&((l.take i).any fun y=>opn y&&decide (y.Slide=x.Slide)))=false:=by
     rw[Bool.and_eq_false_iff]
     by_cases hx:opn x=true
     ·right
      rw[List.any_eq_false]
      intro y hy h
      simp at h
      exact e2 y hy ⟨hx,h.1,h.2⟩
     ·left;simpa using hx
   rw[this];rfl
  ·rw[e1]
   have:(opn x&&((l.take i).any fun y=>opn y&&decide (y.Slide=x.Slide)))=true:=by
     rw[Bool.and_eq_true]
     exact⟨e2,List.any_eq_true.2 ⟨y,hy,by simp[e3,e4]⟩⟩
   rw[this];rfl
theorem sW (l:List Bg) (n:Int):Tot (Mt l n):=by
  unfold Mt
  refine Tot.bind (Tot.Am fun i x s _=>?_) fun o _=>Tot.on fun _=>Tot.some _
  unfold Nh
  exact Tot.bif (fun _=>Tot.some _) fun _=>Tot.some _
theorem wD (l:List Bg) (hl:l.length≤1000):Ag (Pj l) (Hy l):=by
  unfold Pj Hy
  refine Ag.bif rfl (fun _=>Ag.some _) fun _=>?_
  refine Ag.bind (Ag.Am fun i x s hx=>?_) fun o _ _=>Ag.on fun _ _=>Ag.some _
  have hi:=(List.getElem?_eq_some_iff.1 hx).1
  unfold Nz G8
  simp only[yM,kS,Option.bind_some]
  rw[rJ (x:=x.Window.From),xV (x:=x.Window.To),rJ (y:=x.Window.To)]
  simp only[ba]
  rw[show decide (j1 x)=decide ((1≤x.ID∧x.ID≤9999)∧(1≤x.Slide∧x.Slide≤9999)∧(1≤x.By∧x.By≤9999)∧(0≤x.State∧x.State≤6)∧(0≤x.Since∧x.Since≤20000000)∧0≤x.Window.From∧x.Window.From<x.Window.To∧x.Window.To≤20000000) from by rw[decide_eq_decide];unfold j1;omega]
  refine Ag.bif rfl (fun _=>Ag.some _) fun _=>?_
  have ho:∀ {α:Type} (o:Option α),okB (decide ((0:Int)≤((i:Nat):Int)∧((i:Nat):Int)≤((l.length:Nat):Int))) o=o:=fun o=>N9 (by omega)
  simp only[ho]
  refine Ag.bind (a:=Uy (l.take i) x.ID) (b:=Mt (l.take i) x.ID) (Ag.refl (sW _ _)) fun y _ _=>?_
  refine Ag.bif rfl (fun _=>Ag.some _) fun _=>?_
  rw[qA l i x hi hl,eR,Option.bind_some]
  show Ag _ (bif opn x then _ else _)
  cases h:opn x with
  | false=>exact Ag.some _
  | true=>
    rw[cond_true,uL,Option.bind_some,Bool.true_and]
    cases((l.take i).any fun y=>opn y&&decide (y.Slide=x.Slide))<;>exact Ag.some _
def j4 (g:B3):Prop:=1≤g.ID∧g.ID≤9999∧1≤g.Node∧g.Node≤9999∧0≤g.Fuel∧g.Fuel≤1000000∧0≤g.State∧g.State≤2∧0≤g.Until∧g.Until≤20000000∧0≤g.To∧g.To≤9999∧0≤g.Run∧g.Run≤9999
instance (m:B3):Decidable (j4 m):=by unfold j4;infer_instance
theorem yR (m:B3):Iw m=some (decide (j4 m)):=by
  unfold Iw;simp only[bf,bt]
  congr 1
  rw[decide_eq_decide];unfold j4;omega
theorem mU (l:List B3) (n:Int):∃ r,O3 l n=some r∧(0≤r↔∃ x∈l,x.ID=n):=by
  unfold O3
  rcases E7 (step:=Kb n) (l:=l) (s:=()) (fun k _=>∀ x∈l.take k,x.ID≠n) (fun r=>0≤r∧∃ x∈l,x.ID=n) (by simp) (fun k x s hk hI=>by
      unfold Kb
      by_cases e:x.ID=n
      ·rw[Aib e];exact .inr ⟨_,rfl,by omega,x,Aie hk,e⟩
      ·rw[Aic e]
       refine .inl ⟨_,rfl,fun z hz=>?_⟩
       rw[Bx hk,List.mem_append,List.mem_singleton]at hz
       rcases hz with hz | rfl
       ·exact hI z hz
       ·exact e)with ⟨s',e1,e2⟩ | ⟨r,e1,e2,e3⟩
  ·rw[List.take_length]at e2
   rw[e1]
   exact⟨_,rfl,by constructor
                  ·intro h;exact absurd h (by decide)
                  ·rintro⟨x,hx,e⟩;exact absurd e (e2 x hx)⟩
  ·rw[e1];exact⟨r,rfl,fun _=>e3,fun _=>e2⟩
theorem pP (l:List B3) (hl:l.length≤1000):Ag (Lu l) (Mw l):=by
  unfold Lu Mw
  refine Ag.bif rfl (fun _=>Ag.some _) fun _=>?_
  have key:=jP (step:=Hf) (step':=Kd l) l (fun k sv _=>∀ n,mget false sv n=decide (∃ x∈l.take k,x.ID=n)) (fun i x sv t hx hR=>by
    have hi:=(List.getElem?_eq_some_iff.1 hx).1
    unfold Hf Kd
    simp only[yR,xE,Option.bind_some,ba]
    rw[show decide (j4 x)=decide ((1≤x.ID∧x.ID≤9999)∧(1≤x.Node∧x.Node≤9999)∧(0≤x.Fuel∧x.Fuel≤1000000)∧(0≤x.State∧x.State≤2)∧(0≤x.Until∧x.Until≤20000000)∧(0≤x.To∧x.To≤9999)∧0≤x.Run∧x.Run≤9999) from by rw[decide_eq_decide];unfold j4;omega]
    rw[N9 (by omega)]
    obtain⟨r,h1,h2⟩:=mU (l.take i) x.ID
    rw[h1,Option.bind_some,hR,show decide ((0:Int)≤r)=decide (∃ y∈l.take i,y.ID=x.ID) from by rw[decide_eq_decide];exact h2]
    generalize (!decide ((1≤x.ID∧x.ID≤9999)∧(1≤x.Node∧x.Node≤9999)∧(0≤x.Fuel∧x.Fuel≤1000000)∧(0≤x.State∧x.State≤2)∧(0≤x.Until∧x.Until≤20000000)∧(0≤x.To∧x.To≤9999)∧0≤x.Run∧x.Run≤9999))=b1
    generalize hb2:decide (∃ y∈l.take i,y.ID=x.ID)=b2
    generalize (decide (x.To≠0) !=decide (x.State=1))=b3
    generalize (decide (x.Run≠0) !=decide (x.State=2))=b4
    cases b1 with
    | true=>exact .inr ⟨_,rfl,rfl⟩
    | false=>
      cases b2 with
      | true=>exact .inr ⟨_,rfl,rfl⟩
      | false=>
        cases b3 with
        | true=>exact .inr ⟨_,rfl,rfl⟩
        | false=>
          cases b4 with
          | true=>exact .inr ⟨_,rfl,rfl⟩
          | false=>
            refine .inl ⟨_,_,rfl,rfl,fun n=>?_⟩
            rw[Xk,hR]
            by_cases e:x.ID=n
            ·subst e
             rw[if_pos rfl,eq_comm,decide_eq_true_iff]
             exact⟨x,by rw[Bx hx];simp,rfl⟩
            ·rw[if_neg e,decide_eq_decide,Bx hx]
             constructor
             ·rintro⟨y,hy,e'⟩;exact⟨y,List.mem_append_left _ hy,e'⟩
             ·rintro⟨y,hy,e'⟩
              rw[List.mem_append,List.mem_singleton]at hy
              rcases hy with hy | rfl
              ·exact⟨y,hy,e'⟩
              ·exact absurd e' e) l.length 0 [] () rfl (Nat.zero_le _) (fun n=>by simp[mget])
  rw[List.drop_zero]at key
  rcases key with⟨s',t',h1,h2,_⟩ | ⟨r,h1,h2⟩
  ·rw[h1,h2];exact Ag.some _
  ·rw[h1,h2];exact Ag.some _
theorem yH (m:Ba):eM m=Lj m:=rfl
theorem yN (m:Ba):Ag (Lj m) (H0 m):=by
  obtain⟨r,h1,h2,_⟩:=Vw m
  exact⟨r,by rw[← yH];exact h1,h2⟩
theorem Rx (m:Ba) (id:Int):Ev m id=some (Jq m id):=Wm fun _ _ _=>rfl
theorem Zn (m:Ba) (id:Int):K0 m id=some (Jq m id):=Wm fun _ _ _=>rfl
theorem uK (m:Ba) (id:Int):M7 m id=some (zY m id):=Wm fun _ _ _=>rfl
theorem uJ (m:Ba) (id:Int):Dw m id=some (Cw m id):=Wm fun _ _ _=>rfl
structure qP (f:Aj):Prop where
  closures:f.Closures.length≤12
  lists:f.Patrol.Bv.length≤12
  hazards:f.Patrol.Hazards.length≤12
  surfaces:f.Surfaces.length≤12
  slides:f.Slides.length≤12
  bulletin:f.Bulletin.length≤12
  missions:f.Missions.length≤12
  winches:f.Winches.length≤12
  groomers:f.Groomers.length≤12
structure uA (f:Aj):Prop where
  items:∀ x∈f.Patrol.Bv,x.List_.Items.length≤9223372036854775807∧x.List_.Signs.length≤9223372036854775807
  zones:∀ x∈f.Slides,x.Zones.length≤9223372036854775807∧x.Lifts.length≤9223372036854775807
  bzones:∀ x∈f.Bulletin,x.Zones.length≤9223372036854775807
  runs:∀ x∈f.Winches,x.Runs.length≤9223372036854775807
theorem u1 (f:Aj) (h:qP f) (hi:uA f):Ag (E0 f) (J1 f):=by
  obtain⟨y1,a1,b1⟩:=yN f.Map
  obtain⟨y2,a2,b2⟩:=pW f.Closures (by have:=h.closures;omega)
  obtain⟨y3,a3,b3⟩:=sD f.Patrol (by have:=h.lists;omega) (by have:=h.hazards;omega) (fun x hx=>by have:=hi.items x hx;omega)
  obtain⟨y4,a4,b4⟩:=oN f.Surfaces (by have:=h.surfaces;omega)
  obtain⟨y5,a5,b5,_⟩:=S50.Vw f.Slides ⟨by have:=h.slides;omega,hi.zones⟩
  obtain⟨y6,a6,b6⟩:=nO f.Bulletin (by have:=h.bulletin;omega) hi.bzones
  obtain⟨y7,a7,b7⟩:=wD f.Missions (by have:=h.missions;omega)
  obtain⟨y8,b8,a8,_⟩:=W46.lU hi.runs
  obtain⟨y9,a9,b9⟩:=pP f.Groomers (by have:=h.groomers;omega)
  unfold E0 J1
  simp only[a1,a2,a3,a4,a5,a6,a7,a8,a9,b1,b2,b3,b4,b5,b6,b7,b8,b9,Option.bind_some]
  have st:∀ (k:Nat) y,[y1,y2,y3,y4,y5,y6,y7,y8,y9][k]? =some y→∀ s:Unit,Fu y1 y2 y3 y4 y5 y6 y7 y8 y9 k () s=(bif decide (y≠0)then some (Out.ret y)else some (Out.next ())):=by
    intro k y hk s
    unfold Fu
    rw[Qf rfl hk];rfl
  unfold Jr
  rw[if_pos (by decide),show List.replicate 9 ()=[(),(),(),(),(),(),(),(),()] from rfl]
  simp only[Am,Nat.zero_add,Nat.reduceAdd]
  simp only[st 0 y1 rfl,st 1 y2 rfl,st 2 y3 rfl,st 3 y4 rfl,st 4 y5 rfl,st 5 y6 rfl,st 6 y7 rfl,st 7 y8 rfl,st 8 y9 rfl]
  by_cases e9:y9=0
  ·subst e9
   cases decide (y1≠0)
   rotate_left
   ·exact⟨_,rfl,rfl⟩
   cases decide (y2≠0)
   rotate_left
   ·exact⟨_,rfl,rfl⟩
   cases decide (y3≠0)
   rotate_left
   ·exact⟨_,rfl,rfl⟩
   cases decide (y4≠0)
   rotate_left
   ·exact⟨_,rfl,rfl⟩
   cases decide (y5≠0)
   rotate_left
   ·exact⟨_,rfl,rfl⟩
   cases decide (y6≠0)
   rotate_left
   ·exact⟨_,rfl,rfl⟩
   cases decide (y7≠0)
   rotate_left
   ·exact⟨_,rfl,rfl⟩
   cases decide (y8≠0)
   rotate_left
   ·exact⟨_,rfl,rfl⟩
   exact⟨_,rfl,rfl⟩
  ·rw[Aib (p:=y9≠0) e9]
   cases decide (y1≠0)
   rotate_left
   ·exact⟨_,rfl,rfl⟩
   cases decide (y2≠0)
   rotate_left
   ·exact⟨_,rfl,rfl⟩
   cases decide (y3≠0)
   rotate_left
   ·exact⟨_,rfl,rfl⟩
   cases decide (y4≠0)
   rotate_left
   ·exact⟨_,rfl,rfl⟩
   cases decide (y5≠0)
   rotate_left
   ·exact⟨_,rfl,rfl⟩
   cases decide (y6≠0)
   rotate_left
   ·exact⟨_,rfl,rfl⟩
   cases decide (y7≠0)
   rotate_left
   ·exact⟨_,rfl,rfl⟩
   cases decide (y8≠0)
   rotate_left
   ·exact⟨_,rfl,rfl⟩
   exact⟨_,rfl,rfl⟩
theorem jA (p:Fi):Jx p=Ke p:=rfl
theorem kI (p:Fi):Ke p=some (decide ((0≤p.Natural∧p.Natural≤20000)∧(0≤p.Machine∧p.Machine≤20000)∧50≤p.Density∧p.Density≤900)):=by
  unfold Ke Tt
  simp only[bt,Option.bind_some]
theorem jO (f:Aj) (h:qP f) (hi:uA f) (h1:f.Lifts.length≤100) (h2:f.Packs.length≤100) (h3:f.Status.length≤100):Ag (E9 f) (Hv f):=by
  unfold E9 Hv
  refine Ag.bind (u1 f h hi) fun y _ _=>?_
  refine Ag.bif rfl (fun _=>Ag.some _) fun _=>?_
  refine Ag.bif rfl (fun _=>Ag.some _) fun _=>?_
  refine Ag.bif rfl (fun _=>Ag.some _) fun _=>?_
  refine Ag.bif rfl (fun _=>Ag.some _) fun _=>?_
  unfold Ge
  rw[oO (Df.Am fun i x s=>by
   unfold D3
   repeat' first | exact Df.ret (by decide) | exact Df.next _ | refine Df.bif (fun _=>?_) (fun _=>?_) | refine Df.bind fun _ _=>?_)]
  refine Ag.bind (Ag.Am fun i x s hx=>?_) fun o _ _=>Ag.on fun _ _=>?_
  ·have hi':=(List.getElem?_eq_some_iff.1 hx).1
   refine Ag.mF ?_ rfl
   unfold D3
   rw[uK,Option.bind_some]
   repeat' first | exact Tot.some _ | (refine Tot.pred hi' ‹_› (by omega) fun y=>?_) | refine Tot.bif (fun h0=>?_) (fun _=>?_)
  unfold Gd J3
  rw[oO (Df.Am fun i x s=>by
   unfold D2
   repeat' first | exact Df.ret (by decide) | exact Df.next _ | refine Df.bif (fun _=>?_) (fun _=>?_) | refine Df.bind fun _ _=>?_)]
  refine Ag.bind (Ag.Am fun i x s hx=>?_) fun o _ _=>Ag.on fun _ _=>?_
  ·have hi':=(List.getElem?_eq_some_iff.1 hx).1
   refine Ag.mF ?_ rfl
   unfold D2
   rw[jA,kI,Option.bind_some]
   repeat' first | exact Tot.some _ | (refine Tot.pred hi' ‹_› (by omega) fun y=>?_) | refine Tot.bif (fun h0=>?_) (fun _=>?_)
  unfold F5 J2
  rw[oO (Df.Am fun i x s=>by
   unfold Dv
   repeat' first | exact Df.ret (by decide) | exact Df.next _ | refine Df.bif (fun _=>?_) (fun _=>?_) | refine Df.bind fun _ _=>?_)]
  refine Ag.bind (Ag.Am fun i x s hx=>?_) fun o _ _=>Ag.on fun _ _=>?_
  ·have hi':=(List.getElem?_eq_some_iff.1 hx).1
   refine Ag.mF ?_ rfl
   unfold Dv
   rw[Rx,Option.bind_some]
   repeat' first | exact Tot.some _ | (refine Tot.pred hi' ‹_› (by omega) fun y=>?_) | refine Tot.bif (fun h0=>?_) (fun _=>?_)
  refine Ag.refl ?_
  repeat' first | exact Tot.some _ | refine Tot.bif (fun h0=>?_) (fun _=>?_)
def stp (L:List Int→Int→Bool) (s:List Int):List Int:=s.filter (L s)
def iter (L:List Int→Int→Bool):Nat→List Int→List Int
  | 0,s=>s
  | n+1,s=>iter L n (stp L s)
section
variable {L:List Int→Int→Bool}
theorem eC (s:List Int):(stp L s).Sublist s:=List.filter_sublist
theorem qV {s:List Int} (h:(stp L s).length=s.length):stp L s=s:=(eC s).eq_of_length h
theorem Wd {s:List Int} (h:stp L s=s):∀ n,iter L n s=s
  | 0=>rfl
  | n+1=>by rw[iter,h];exact Wd h n
theorem Sa:∀ (n:Nat) (s:List Int),s.length≤n→stp L (iter L n s)=iter L n s
  | 0,s,h=>by
    have:s=[]:=List.eq_nil_of_length_eq_zero (by omega)
    subst this;rfl
  | n+1,s,h=>by
    by_cases e:stp L s=s
    ·rw[Wd e];exact e
    ·have h1:=(eC (L:=L) s).length_le
     have h2:(stp L s).length≠s.length:=fun h=>e (qV h)
     exact Sa n _ (by omega)
theorem fP:∀ (n m:Nat) (s:List Int),iter L (n+m) s=iter L m (iter L n s)
  | 0,m,s=>by rw[Nat.zero_add];rfl
  | n+1,m,s=>by rw[Nat.succ_add];exact fP n m _
theorem iter_eq {s:List Int} {n m:Nat} (hn:stp L (iter L n s)=iter L n s) (hm:stp L (iter L m s)=iter L m s):iter L n s=iter L m s:=by
  have h1:=Wd hn m
  have h2:=Wd hm n
  rw[← fP]at h1 h2
  rw[← h1,Nat.add_comm,h2]
theorem mR:∀ (n:Nat) (s:List Int),(iter L n s).Sublist s
  | 0,s=>List.Sublist.refl _
  | n+1,s=>(mR n _).trans (eC s)
def gfp (L:List Int→Int→Bool) (s:List Int):List Int:=iter L s.length s
theorem pQ (s:List Int):stp L (gfp L s)=gfp L s:=Sa _ _ (Nat.le_refl _)
theorem dD {s:List Int} {n:Nat} (h:stp L (iter L n s)=iter L n s):iter L n s=gfp L s:=iter_eq h (pQ s)
end
theorem T5 {α:Type} {step:Nat→α→Unit→Option (Out Unit Bool)} {l:List α} (p:α→Bool) (hs:∀ k x,x∈l→step k x ()=bif p x then some (.ret true)else some (.next ())) :
    ((Am step 0 l ()).bind fun o=>o.on fun _=>some false)=some (l.any p):=by
  rw[Fl p (fun _=>true) hs]
  cases h:l.find? p with
  | none=>
    have:l.any p=false:=by rw[List.any_eq_false];rw[List.find?_eq_none]at h;exact h
    rw[this];rfl
  | some x=>
    have:l.any p=true:=by rw[List.any_eq_true];exact⟨x,List.mem_of_find?_eq_some h,List.find?_some h⟩
    rw[this];rfl
theorem rC {α:Type} {step:Nat→α→Unit→Option (Out Unit Int)} {l:List α} (p:α→Bool) (hs:∀ k x,x∈l→step k x ()=bif p x then some (.ret ((k:Nat):Int))else some (.next ())) :
    ∃ r,((Am step 0 l ()).bind fun o=>o.on fun _=>some (-1:Int))=some r∧((r= -1∧∀ x∈l,p x=false)∨∃ (k:Nat) (x:α),r=(k:Int)∧l[k]? =some x∧p x=true):=by
  rcases E7 (step:=step) (l:=l) (s:=()) (fun k _=>∀ x∈l.take k,p x=false) (fun r=>∃ (k:Nat) (x:α),r=(k:Int)∧l[k]? =some x∧p x=true) (by simp) (fun k x s hk hI=>by
      rw[hs k x (Aie hk)]
      cases h:p x with
      | true=>exact .inr ⟨_,rfl,k,x,rfl,hk,h⟩
      | false=>
        refine .inl ⟨_,rfl,fun z hz=>?_⟩
        rw[Bx hk,List.mem_append,List.mem_singleton]at hz
        rcases hz with hz | rfl
        ·exact hI z hz
        ·exact h)with ⟨s',e1,e2⟩ | ⟨r,e1,e2⟩
  ·rw[List.take_length]at e2
   rw[e1];exact⟨_,rfl,.inl ⟨rfl,e2⟩⟩
  ·rw[e1];exact⟨r,rfl,.inr e2⟩
def clo (l:List Bk) (kind target:Int):Bool:=l.any fun c=>decide (c.Kind=kind)&&decide (c.Target=target)
theorem jW (l:List Bk) (kind target:Int):Hh l kind target=some (clo l kind target):=by
  unfold Hh clo
  refine T5 _ fun k x _=>?_
  unfold Jm
  rw[Aib (Int.natCast_nonneg k)]
  cases decide (x.Kind=kind)<;>cases decide (x.Target=target)<;>rfl
theorem pC (l:List Bk) (a b c:Int):∃ r,Fk l a b c=some r∧(0≤r↔∃ x∈l,x.Kind=a∧x.Target=b∧x.By=c):=by
  unfold Fk
  obtain⟨r,h1,h2⟩:=rC (step:=Ew a b c) (l:=l) (fun x=>decide (x.Kind=a)&&(decide (x.Target=b)&&decide (x.By=c))) (fun k x _=>by
    unfold Ew
    cases decide (x.Kind=a)<;>cases decide (x.Target=b)<;>cases decide (x.By=c)<;>rfl)
  refine⟨r,h1,?_⟩
  rcases h2 with⟨rfl,h2⟩ | ⟨k,x,rfl,h3,h4⟩
  ·constructor
   ·intro h;exact absurd h (by decide)
   ·rintro⟨x,hx,e1,e2,e3⟩
    have:=h2 x hx
    simp[e1,e2,e3]at this
  ·simp at h4
   exact⟨fun _=>⟨x,Aie h3,h4.1,h4.2.1,h4.2.2⟩,fun _=>Int.natCast_nonneg k⟩
theorem of_eq {l:List Bk} (hb:∀ c∈l,1≤c.By∧c.By≤6) (kind target:Int):∃ r,Zq l kind target=some r∧decide ((0:Int)<((r.length:Nat):Int))=clo l kind target:=by
  unfold Zq
  obtain⟨s',h1,h2,h3⟩:=Z2 (ρ:=List Int) (n:=6) (step:=V0 l kind target) (s:=[]) (by omega) (fun k s=>s.length≤k∧(s≠[]↔∃ x∈l,x.Kind=kind∧x.Target=target∧x.By≤k)) ⟨by simp,by
      constructor
      ·intro h;exact absurd rfl h
      ·rintro⟨x,hx,_,_,h⟩;have:=(hb x hx).1;omega⟩ (fun k s hk ⟨hI1,hI2⟩=>by
    obtain⟨r,h1,h2⟩:=pC l kind target (((k:Nat):Int)+1)
    unfold V0
    rw[h1,Option.bind_some]
    by_cases h:0≤r
    ·rw[Aib h,cond_true,Ci (by omega)]
     refine⟨_,rfl,by simp;omega,?_⟩
     obtain⟨x,hx,e1,e2,e3⟩:=h2.1 h
     exact⟨fun _=>⟨x,hx,e1,e2,by rw[e3];omega⟩,fun _=>by simp⟩
    ·rw[Aic h]
     refine⟨_,rfl,by omega,?_⟩
     rw[hI2]
     constructor
     ·rintro⟨x,hx,e1,e2,e3⟩;exact⟨x,hx,e1,e2,by omega⟩
     ·rintro⟨x,hx,e1,e2,e3⟩
      refine⟨x,hx,e1,e2,?_⟩
      by_cases e:x.By=(k:Int)+1
      ·exact absurd (h2.2 ⟨x,hx,e1,e2,e⟩) h
      ·omega)
  rw[h1]
  refine⟨s',rfl,?_⟩
  have:(0:Int)<((s'.length:Nat):Int)↔s'≠[]:=by
    constructor
    ·intro h e;subst e;simp at h
    ·intro h;have:=List.length_pos_iff.2 h;omega
  unfold clo
  rw[Bool.eq_iff_iff,decide_eq_true_iff,this,h3,List.any_eq_true]
  constructor
  ·rintro⟨x,hx,e1,e2,_⟩;exact⟨x,hx,by simp[e1,e2]⟩
  ·rintro⟨x,hx,e⟩;simp at e;exact⟨x,hx,e.1,e.2,(hb x hx).2⟩
theorem xQ (m:Ba) (l:List Bk) (run:Int) (h:(Jq m run).2=true):Ph m l run=some (clo l 1 run||clo l 3 (Jq m run).1.Zone):=by
  unfold Ph
  rw[Rx,Option.bind_some,h,cond_true,jW,jW,Option.bind_some]
  cases clo l 1 run<;>rfl
theorem uY {m:Ba} {l:List Bk} (hb:∀ c∈l,1≤c.By∧c.By≤6) (run:Int) (h:(Jq m run).2=true):aZ m l run=some (clo l 1 run||clo l 3 (Jq m run).1.Zone):=by
  obtain⟨r1,h1,h2⟩:=of_eq hb 1 run
  obtain⟨r3,h3,h4⟩:=of_eq hb 3 (Jq m run).1.Zone
  unfold aZ
  rw[Zn,Option.bind_some,h,cond_true,h1,Option.bind_some,h2,h3,Option.bind_some,h4]
  cases clo l 1 run<;>rfl
def gon (l:List B3) (run:Int):Bool:=l.any fun g=>decide (g.State=2)&&decide (g.Run=run)
theorem yS (l:List B3) (run:Int):Rj l run=some (gon l run):=by
  unfold Rj gon
  refine T5 _ fun k x _=>?_
  unfold Ot
  rw[Aib (Int.natCast_nonneg k)]
  cases decide (x.State=2)<;>cases decide (x.Run=run)<;>rfl
theorem wY (l:List B3) (run:Int):eX l run=some (gon l run):=by
  unfold eX gon
  refine T5 _ fun k x _=>?_
  unfold dB
  cases decide (x.State=2)<;>cases decide (x.Run=run)<;>rfl
theorem Yq (l:List Int) (n:Int):J6 l n=some (decide (n∈l)):=Wf fun k x hx=>rfl
def act (m:Bg):Bool:=decide (1≤m.State∧m.State≤4)
theorem zE (m:Bg):Ie m=some (act m):=by
  unfold Ie Ep act
  by_cases h1:m.State=1
  ·rw[Aib h1,Aib (p:=1≤m.State∧m.State≤4) (by omega)];rfl
  ·by_cases h2:m.State=2
   ·rw[Aic h1,Aib h2,Aib (p:=1≤m.State∧m.State≤4) (by omega)];rfl
   ·by_cases h3:m.State=3
    ·rw[Aic h1,Aic h2,Aib h3,Aib (p:=1≤m.State∧m.State≤4) (by omega)];rfl
    ·by_cases h4:m.State=4
     ·rw[Aic h1,Aic h2,Aic h3,Aib h4,Aib (p:=1≤m.State∧m.State≤4) (by omega)];rfl
     ·rw[Aic h1,Aic h2,Aic h3,Aic h4,Aic (p:=1≤m.State∧m.State≤4) (by omega)];rfl
def acts (l:List Bg):List Int:=(l.filter act).map Bg.Slide
theorem qC {l:List Bg} (hl:l.length≤1000):Lc l=some (Da (acts l)):=by
  unfold Lc
  rw[Cz (p:=act) (g:=Bg.Slide) (by omega) (fun k x s _=>by unfold Mb;rw[zE,Option.bind_some])]
  show chk (acts l).length _=_
  rw[Ci (by have:=List.length_filter_le act l;unfold acts;rw[List.length_map];omega)];rfl
theorem kG (l:List Bg) (last:Int) (h0:0≤last) (hr:∀ m∈l,1≤m.Slide):∃ s,Am (L5 last) 0 l 0=some (.next s)∧((s=0∧∀ n∈acts l,n≤last)∨(s∈acts l∧last<s∧∀ n∈acts l,last<n→s≤n)):=by
  obtain⟨s',h1,h2⟩:=Ds (ρ:=Out (Int×List Int) (List Int)) (step:=L5 last) (l:=l) (s:=0) (fun k s=>(s=0∧∀ n∈acts (l.take k),n≤last)∨(s∈acts (l.take k)∧last<s∧∀ n∈acts (l.take k),last<n→s≤n)) (.inl ⟨rfl,by simp[acts]⟩) (fun k x s hk hI=>by
    have hx:=Aie hk
    have hx1:=hr x hx
    have e:acts (l.take (k+1))=acts (l.take k)++(if act x=true then [x.Slide]else []):=by
      unfold acts;rw[Bx hk,List.filter_append,List.map_append]
      cases h:act x<;>simp[h]
    unfold L5
    rw[eR,Option.bind_some,e]
    by_cases ha:1≤x.State∧x.State≤4
    ·have hact:act x=true:=Aib ha
     rw[Aib (p:=0≤x.State∧x.State≤4) (by omega),Aib (p:=x.State≠0) (by omega),if_pos hact]
     simp only[cond_true]
     by_cases hl:last<x.Slide
     ·rw[Aib hl,cond_true]
      by_cases hs:s=0
      ·rw[Aib hs]
       refine⟨_,rfl,.inr ⟨by simp,hl,fun n hn hln=>?_⟩⟩
       rcases hI with⟨_,hI⟩ | ⟨hI1,hI2,_⟩
       ·rw[List.mem_append,List.mem_singleton]at hn
        rcases hn with hn | rfl
        ·have:=hI n hn;omega
        ·exact Int.le_refl _
       ·omega
      ·rw[Aic hs,cond_false]
       rcases hI with⟨h,_⟩ | ⟨hI1,hI2,hI3⟩
       ·exact absurd h hs
       by_cases hlt:x.Slide<s
       ·rw[Aib hlt]
        refine⟨_,rfl,.inr ⟨by simp,hl,fun n hn hln=>?_⟩⟩
        rw[List.mem_append,List.mem_singleton]at hn
        rcases hn with hn | rfl
        ·have:=hI3 n hn hln;omega
        ·exact Int.le_refl _
       ·rw[Aic hlt]
        refine⟨_,rfl,.inr ⟨List.mem_append_left _ hI1,hI2,fun n hn hln=>?_⟩⟩
        rw[List.mem_append,List.mem_singleton]at hn
        rcases hn with hn | rfl
        ·exact hI3 n hn hln
        ·omega
     ·rw[Aic hl]
      refine⟨_,rfl,?_⟩
      rcases hI with⟨h,hI⟩ | ⟨hI1,hI2,hI3⟩
      ·refine .inl ⟨h,fun n hn=>?_⟩
       rw[List.mem_append,List.mem_singleton]at hn
       rcases hn with hn | rfl
       ·exact hI n hn
       ·omega
      ·refine .inr ⟨List.mem_append_left _ hI1,hI2,fun n hn hln=>?_⟩
       rw[List.mem_append,List.mem_singleton]at hn
       rcases hn with hn | rfl
       ·exact hI3 n hn hln
       ·omega
    ·have hact:¬ act x=true:=by unfold act;simpa using ha
     rw[if_neg hact,List.append_nil]
     by_cases h1:0≤x.State∧x.State≤4
     ·rw[Aib h1,Aic (p:=x.State≠0) (by omega)];exact⟨_,rfl,hI⟩
     ·rw[Aic h1];exact⟨_,rfl,hI⟩)
  rw[List.take_length]at h2
  exact⟨s',h1,h2⟩
theorem oZ {l:List Bg} (hr:∀ m∈l,1≤m.Slide∧m.Slide≤9999):∃ r,Uc l=some r∧∀ n,n∈r↔n∈acts l:=by
  have hacts:∀ n∈acts l,1≤n∧n≤9999:=by
    intro n hn
    unfold acts at hn
    obtain⟨m,hm,rfl⟩:=List.mem_map.1 hn
    exact hr m (List.mem_filter.1 hm).1
  unfold Uc
  obtain⟨r,h1,h2⟩:=H3 (step:=Pr l) (fun s=>0≤s.1∧s.1≤9999∧(s.2.length:Int)≤s.1∧∀ n,n∈s.2↔n∈acts l∧n≤s.1) (fun r=>∀ n,n∈r↔n∈acts l) (fun s=>(9999 - s.1).toNat) (by
      rintro⟨last,out⟩ ⟨i0,i1,i2,i3⟩
      dsimp only at i0 i1 i2 i3
      obtain⟨s,e1,e2⟩:=kG l last i0 (fun m hm=>(hr m hm).1)
      unfold Pr
      dsimp only
      rw[e1,Option.bind_some]
      show(∃ s',(bif decide (s=0)then _ else _)=_∧_)∨(∃ r,(bif decide (s=0)then _ else _)=_∧_)
      rcases e2 with⟨rfl,e2⟩ | ⟨e2,e3,e4⟩
      ·exact .inr ⟨out,rfl,fun n=>by rw[i3];exact⟨fun h=>h.1,fun h=>⟨h,e2 n h⟩⟩⟩
      ·have hb:=hacts s e2
       rw[Aic (by omega),cond_false,Ci (by omega)]
       refine .inl ⟨_,rfl,⟨by dsimp only;omega,by dsimp only;omega,by dsimp only;rw[List.length_append,List.length_singleton];omega,fun n=>?_⟩,by dsimp only;omega⟩
       dsimp only
       rw[List.mem_append,List.mem_singleton,i3]
       constructor
       ·rintro(⟨h,h'⟩ | rfl)
        ·exact⟨h,by omega⟩
        ·exact⟨e2,Int.le_refl _⟩
       ·rintro⟨h,h'⟩
        by_cases hn:n≤last
        ·exact .inl ⟨h,hn⟩
        ·right;have:=e4 n h (by omega);omega) fuel (0,[]) ⟨by simp,by simp,by simp,fun n=>by simp;intro h;have:=hacts n h;omega⟩ (by unfold fuel;dsimp only;omega)
  rw[h1]
  exact⟨r,rfl,h2⟩
def blasted (f:Aj) (zone:Int):Bool:=f.Slides.any fun s=>decide (s.ID∈acts f.Missions)&&decide (zone∈s.Zones)
theorem pZ (f:Aj) (zone:Int) (hl:f.Missions.length≤1000):Gh f zone=some (blasted f zone):=by
  unfold Gh blasted
  rw[qC hl,Option.bind_some]
  refine T5 _ fun k x _=>?_
  unfold Gg
  simp only[contains_eq,Option.bind_some,Mq]
  rw[Aib (Int.natCast_nonneg k)]
  cases decide (x.ID∈acts f.Missions)<;>cases decide (zone∈x.Zones)<;>rfl
theorem l9 (f:Aj) (zone:Int) (hr:∀ m∈f.Missions,1≤m.Slide∧m.Slide≤9999):Sq f zone=some (blasted f zone):=by
  obtain⟨r,h1,h2⟩:=oZ hr
  unfold Sq blasted
  rw[h1,Option.bind_some]
  refine T5 _ fun k x _=>?_
  unfold Tp
  simp only[Yq,Option.bind_some,h2]
  cases decide (x.ID∈acts f.Missions)<;>cases decide (zone∈x.Zones)<;>rfl
def iP (s:Gm) (t:Int):Bool:=decide (s.From≤t∧t<s.To)
theorem rK (s:Gm) (t:Int):Lb s t=some (iP s t):=by unfold Lb iP;exact bt
theorem cH (b:Bl) (t:Int):Qd b t=some (iP b.Span t):=by unfold Qd iP;exact bt
theorem xP (l:List Bl) (t:Int):Tot (Lq l t):=by
  unfold Lq
  refine Tot.bind (Tot.Am fun i x s _=>?_) fun o _=>Tot.on fun _=>Tot.some _
  unfold Ky
  rw[cH,Option.bind_some]
  exact Tot.bif (fun _=>Tot.some _) fun _=>Tot.some _
theorem yW (l:List Bl) (t:Int):Hl l t=Lq l t:=by
  have:Fe t=Ky t:=by
    funext k x sv
    unfold Fe Ky
    rw[rK,cH,Option.bind_some,Option.bind_some]
    cases iP x.Span t with
    | false=>rfl
    | true=>
      rw[cond_true,cond_true]
      by_cases h:sv<x.Version
      ·rw[Aib h,if_pos h];rfl
      ·rw[Aic h,if_neg h];rfl
  unfold Hl Lq;rw[this]
theorem vO (l:List Int) (n:Int):iV l n=some (decide (n∈l)):=Wf fun k x hx=>rfl
theorem jX (l:List Bl) (zone low high t:Int):Ag (Hk l zone low high t) (V4 l zone low high t):=by
  obtain⟨c,hc⟩:=xP l t
  unfold Hk V4
  rw[yW,hc,Option.bind_some]
  refine Ag.bind (Ag.Am fun i x s hx=>?_) fun o _ _=>Ag.on fun _ _=>Ag.some _
  unfold Jn V3
  simp only[rK,cH,hc,vO,contains_eq,Option.bind_some]
  generalize decide (x.Version=c)=b1
  generalize iP x.Span t=b2
  generalize decide (zone∈x.Zones)=b3
  generalize decide (x.Low<high)=b4
  generalize decide (low<x.High)=b5
  by_cases h:s<x.Level
  ·rw[Aib h,if_pos h]
   cases b1<;>cases b2<;>cases b3<;>cases b4<;>cases b5<;>exact ⟨_,rfl,rfl⟩
  ·rw[Aic h,if_neg h]
   cases b1<;>cases b2<;>cases b3<;>cases b4<;>cases b5<;>exact ⟨_,rfl,rfl⟩
def Kl (m:Ba) (n:Int):Int:=(Cw m n).1.Alt
theorem zD (m:Ba) (n:Int):Mr m n=some (Kl m n):=by unfold Mr Kl;rw[Gp];rfl
def sL (m:Ba) (x:Cd) (s:Int):Int:=if Kl m x.To<s then Kl m x.To else s
def fT (m:Ba) (x:Cd) (s:Int):Int:=if s<Kl m x.From then Kl m x.From else s
def FF (m:Ba) (l:List Cd):Int×Int:=l.foldl (fun s x=>(sL m x s.1,fT m x s.2)) (9999, -1)
theorem rR (m:Ba) (l:List Cd) (x:Cd):FF m (l++[x])=(sL m x (FF m l).1,fT m x (FF m l).2):=by unfold FF;rw[List.foldl_append];rfl
theorem lQ {m:Ba} (M:Kp m) {x:Cd} (hx:x∈m.Runs):(0≤Kl m x.To∧Kl m x.To≤5000)∧0≤Kl m x.From∧Kl m x.From≤5000:=by
  have h:=(M.runs x hx).2
  have h1:=Yz h.1
  have h2:=Yz h.2.1
  exact⟨(M.nodes _ h1.1).2,(M.nodes _ h2.1).2⟩
theorem iS (f:Aj) (k:Nat):Am (L4 f k) 0 f.Map.Runs (9999, -1)=some (.next (FF f.Map (f.Map.Runs.filter fun x=>decide (x.Zone=(k:Int)+1)))):=by
  obtain⟨s',h1,h2⟩:=Ds (ρ:=Out (List Int) (List Int)) (step:=L4 f k) (l:=f.Map.Runs) (s:=(9999, -1)) (fun j s=>s=FF f.Map ((f.Map.Runs.take j).filter fun x=>decide (x.Zone=(k:Int)+1))) rfl (fun j x s hj hI=>by
    unfold L4
    simp only[zD,Option.bind_some]
    rw[Bx hj,List.filter_append]
    by_cases hz:x.Zone=(k:Int)+1
    ·rw[Aic (p:=x.Zone≠(k:Int)+1) (fun h=>h hz),cond_false,List.filter_cons_of_pos (by simpa using hz),List.filter_nil,rR,← hI]
     unfold sL fT
     by_cases h1:Kl f.Map x.To<s.1
     ·rw[Aib h1,cond_true,if_pos h1]
      by_cases h2:s.2<Kl f.Map x.From
      ·rw[Aib h2,if_pos h2];exact⟨_,rfl,rfl⟩
      ·rw[Aic h2,if_neg h2];exact⟨_,rfl,rfl⟩
     ·rw[Aic h1,cond_false,if_neg h1]
      by_cases h2:s.2<Kl f.Map x.From
      ·rw[Aib h2,if_pos h2];exact⟨_,rfl,rfl⟩
      ·rw[Aic h2,if_neg h2];exact⟨_,rfl,rfl⟩
    ·rw[Aib (p:=x.Zone≠(k:Int)+1) hz,List.filter_cons_of_neg (by simpa using hz),List.filter_nil,List.append_nil]
     exact⟨_,rfl,hI⟩)
  rw[h1,h2,List.take_length]
theorem lR {m:Ba} (M:Kp m) {x:Cd} (hx:x∈m.Runs):Jq m x.ID=(x,true):=by
  have h:(Jq m x.ID).2=true:=tE hx
  have h1:=aS h
  have h2:=oS M.runsR h1.1 hx h1.2
  exact Prod.ext h2 h
theorem uI {m:Ba} (M:Kp m) (z:Int):Ks m z=some ((m.Runs.filter fun x=>decide (x.Zone=z)).map Cd.ID):=by
  unfold Ks
  rw[Cz (step:=Lz z) (p:=fun x=>decide (x.Zone=z)) (g:=Cd.ID) (by have:=M.lenR;omega) (fun k x s _=>rfl)]
  rfl
theorem xZ {m:Ba} (M:Kp m) (z:Int):Fc m z=some (bif (m.Runs.filter fun x=>decide (x.Zone=z)).isEmpty then(0,0,false)else ((FF m (m.Runs.filter fun x=>decide (x.Zone=z))).1,(FF m (m.Runs.filter fun x=>decide (x.Zone=z))).2,true)):=by
  unfold Fc
  rw[uI M,Option.bind_some]
  generalize hR:(m.Runs.filter fun x=>decide (x.Zone=z))=R
  have hsub:∀ x∈R,x∈m.Runs:=fun x hx=>by rw[← hR]at hx;exact(List.mem_filter.1 hx).1
  obtain⟨s',h1,h2⟩:=Ds (ρ:=Int×Int×Bool) (step:=Ec m) (l:=R.map Cd.ID) (s:=((0:Int),(0:Int),false)) (fun j s=>s=bif (R.take j).isEmpty then(0,0,false)else ((FF m (R.take j)).1,(FF m (R.take j)).2,true)) rfl (fun j id s hj hI=>by
    rw[List.getElem?_map]at hj
    obtain⟨x,hx,rfl⟩:=Option.map_eq_some_iff.1 hj
    have hm:=hsub x (Aie hx)
    have ha:=lQ M hm
    unfold Ec
    simp only[Rx,uJ,Option.bind_some,lR M hm]
    rw[Bx hx,rR]
    have hne:(R.take j++[x]).isEmpty=false:=by simp
    rw[hne,cond_false]
    change ∃ s',(bif (!s.2.2)then some (Out.next ((if Kl m x.To<Kl m x.To then Kl m x.To else Kl m x.To),(if Kl m x.From<Kl m x.From then Kl m x.From else Kl m x.From),true))else some (Out.next ((if Kl m x.To<s.1 then Kl m x.To else s.1),(if s.2.1<Kl m x.From then Kl m x.From else s.2.1),s.2.2)))=_∧_
    cases hE:(R.take j).isEmpty with
    | true=>
      rw[hE]at hI
      have e0:R.take j=[]:=by simpa using hE
      subst hI
      rw[e0]
      refine⟨_,rfl,?_⟩
      have e1:sL m x 9999=Kl m x.To:=if_pos (by omega)
      have e2:fT m x (-1)=Kl m x.From:=if_pos (by omega)
      show((if Kl m x.To<Kl m x.To then Kl m x.To else Kl m x.To),(if Kl m x.From<Kl m x.From then Kl m x.From else Kl m x.From),true)=(sL m x 9999,fT m x (-1),true)
      rw[e1,e2];simp only[ite_self]
    | false=>
      rw[hE]at hI
      subst hI
      exact⟨_,rfl,rfl⟩)
  rw[h1]
  rw[List.length_map,List.take_length]at h2
  rw[h2]
  cases R.isEmpty<;>rfl
theorem x5 {m:Ba} (M:Kp m) {R:List Cd} (hR:∀ x∈R,x∈m.Runs):R≠[]→0≤(FF m R).2:=by
  have key:∀ (l:List Cd) (s:Int×Int),(∀ x∈l,x∈m.Runs)→(l≠[]∨0≤s.2)→0≤(l.foldl (fun s x=>(sL m x s.1,fT m x s.2)) s).2:=by
    intro l
    induction l with
    | nil=>intro s _ h;rcases h with h | h;exact absurd rfl h;exact h
    | cons x l ih=>
      intro s hl h
      rw[List.foldl_cons]
      refine ih _ (fun y hy=>hl y (List.mem_cons_of_mem _ hy)) (.inr ?_)
      have:=(lQ M (hl x (by simp))).2
      dsimp only;unfold fT
      split<;>omega
  intro h
  exact key R _ hR (.inl h)
theorem sO {f:Aj} (M:Kp f.Map):∃ L,Et f=some L∧Qc f=some L∧L.length=32:=by
  have hstep:∀ k s,Eo f k () s=F7 f k () s:=by
    intro k s
    unfold Eo F7
    rw[xZ M,iS,Option.bind_some,Option.bind_some]
    show(bif (bif _ then _ else _:Int×Int×Bool).2.2 then _ else _)=(bif _ then _ else _)
    generalize hR:(f.Map.Runs.filter fun x=>decide (x.Zone=(k:Int)+1))=R
    have hsub:∀ x∈R,x∈f.Map.Runs:=fun x hx=>by rw[← hR]at hx;exact(List.mem_filter.1 hx).1
    cases R with
    | nil=>rfl
    | cons x R=>
      have hh:=x5 M hsub (by simp)
      rw[Aib hh]
      show(Hk _ _ _ _ _).bind _=_
      rw[(jX f.Bulletin _ _ _ _).eq]
      rfl
  obtain⟨s',h1,h2⟩:=Z2 (ρ:=List Int) (n:=32) (step:=F7 f) (s:=[]) (by omega) (fun k s=>s.length=k) rfl (fun k s hk hI=>by
    unfold F7
    rw[iS,Option.bind_some]
    show ∃ s',(bif _ then _ else _)=_∧_
    cases decide ((0:Int)≤(FF f.Map (f.Map.Runs.filter fun x=>decide (x.Zone=(k:Int)+1))).2)with
    | true=>
      obtain⟨n,_,hn⟩:=jX f.Bulletin ((k:Int)+1) (FF f.Map (f.Map.Runs.filter fun x=>decide (x.Zone=(k:Int)+1))).1 (FF f.Map (f.Map.Runs.filter fun x=>decide (x.Zone=(k:Int)+1))).2 f.Time
      rw[cond_true,hn,Option.bind_some,Ci (by omega)]
      exact⟨_,rfl,by simp[hI]⟩
    | false=>
      rw[cond_false,Ci (by omega)]
      exact⟨_,rfl,by simp[hI]⟩)
  have he:Jr (Eo f) 32 []=Jr (F7 f) 32 []:=by
    unfold Jr
    rw[if_pos (by decide),if_pos (by decide)]
    exact S50.K9 fun i x s _=>hstep i s
  refine⟨s',?_,?_,h2⟩
  ·unfold Et
   rw[xR (by omega),he,h1];rfl
  ·unfold Qc
   rw[h1];rfl
theorem w8 {σ:Type} {o:Option (Out σ Int)} {rest:σ→Option Int} (h:Df (·≠0) o) (e:(o.bind fun x=>x.on rest)=some 0):∃ s,o=some (.next s)∧rest s=some 0:=by
  obtain⟨x,h1,h2⟩:=Ah e
  cases x with
  | ret r=>obtain rfl:=Option.some.inj h2;exact absurd rfl (h 0 h1)
  | next s=>exact ⟨s,h1,h2⟩
theorem My {α:Type} {step:Nat→α→Unit→Option (Out Unit Int)} {l:List α} {rest:Unit→Option Int} (hr:∀ i x s,Df (·≠0) (step i x s)) (e:((Am step 0 l ()).bind fun o=>o.on rest)=some 0):(∀ i x,l[i]? =some x→step i x ()=some (.next ()))∧rest ()=some 0:=by
  obtain⟨s,h1,h2⟩:=w8 (Df.Am hr) e
  refine⟨fun i x hx=>?_,h2⟩
  have:=Xo.1 h1 i x hx
  rwa [Nat.zero_add]at this
theorem bz {c:Bool} {e:Int} {b:Option Int} (h:(bif c then some e else b)=some 0) (he:e≠0):c=false∧b=some 0:=by
  cases c with
  | false=>exact ⟨rfl,h⟩
  | true=>exact absurd (Option.some.inj h) he
theorem bn {c:Bool} {e:Int} {b:Option (Out Unit Int)} (h:(bif c then some (.ret e)else b)=some (.next ())):c=false∧b=some (.next ()):=by
  cases c with
  | false=>exact ⟨rfl,h⟩
  | true=>cases h
theorem bnot {p:Prop} [Decidable p] (h:(!decide p)=false):p:=by simpa using h
theorem yX {l:List Bk} (e:Hx l=some 0):∀ c∈l,1≤c.By∧c.By≤6:=by
  unfold Hx at e
  obtain⟨_,e⟩:=bz e (by decide)
  obtain⟨h,_⟩:=My (fun i x s=>by
    unfold G7
    repeat' first | exact Df.ret (by decide) | exact Df.next _ | refine Df.okB ?_ | refine Df.bif (fun _=>?_) (fun _=>?_) | refine Df.bind fun _ _=>?_) e
  intro c hc
  obtain⟨i,hi⟩:=List.mem_iff_getElem?.1 hc
  have:=h i c hi
  unfold G7 at this
  rw[pJ,Option.bind_some]at this
  have:=bnot (bn this).1
  omega
theorem vD {p:Ca} (e:Hw p=some 0):p.Bv.length≤64∧p.Hazards.length≤200∧∀ x∈p.Bv,x.List_.Items.length≤64∧x.List_.Signs.length≤200:=by
  unfold Hw at e
  obtain⟨h1,e⟩:=bz e (by decide)
  obtain⟨h2,e⟩:=bz e (by decide)
  have h1:=Ah9 h1
  have h2:=Ah9 h2
  obtain⟨h,_⟩:=My (fun i x s=>by
    unfold G6
    repeat' first | exact Df.ret (by decide) | exact Df.ret (Aia ‹_›) | exact Df.next _ | refine Df.bif (fun _=>?_) (fun _=>?_) | refine Df.bind fun _ _=>?_) e
  refine⟨by omega,by omega,fun x hx=>?_⟩
  obtain⟨i,hi⟩:=List.mem_iff_getElem?.1 hx
  have:=h i x hi
  unfold G6 at this
  obtain⟨_,this⟩:=bn this
  obtain⟨_,this⟩:=bn this
  have fin:∀ {o:Option (Out Unit Int)},o=some (.next ())→o=((Ga x.List_).bind fun y10=>bif decide (y10≠(0:Int))then some (Out.ret y10)else some (Out.next ()))→x.List_.Items.length≤64∧x.List_.Signs.length≤200:=by
    intro o ho h
    rw[ho]at h
    obtain⟨y,hy,h⟩:=Ah h.symm
    have hy0:=(bn h).1
    have:y=0:=by simpa using hy0
    subst this
    exact mS hy
  cases hc:decide ((0:Int)<((i:Nat):Int))with
  | true=>
    rw[hc]at this
    obtain⟨y,_,this⟩:=Ah this
    exact fin (bn this).2 rfl
  | false=>
    rw[hc]at this
    exact fin this rfl
theorem yL {l:List Bg} (e:Hy l=some 0):l.length≤64∧∀ m∈l,1≤m.Slide∧m.Slide≤9999:=by
  unfold Hy at e
  obtain⟨h1,e⟩:=bz e (by decide)
  have h1:=Ah9 h1
  obtain⟨h,_⟩:=My (fun i x s=>by
    unfold G8
    repeat' first | exact Df.ret (by decide) | exact Df.next _ | refine Df.okB ?_ | refine Df.bif (fun _=>?_) (fun _=>?_) | refine Df.bind fun _ _=>?_) e
  refine⟨by omega,fun c hc=>?_⟩
  obtain⟨i,hi⟩:=List.mem_iff_getElem?.1 hc
  have:=h i c hi
  unfold G8 at this
  simp only[kS,Option.bind_some]at this
  exact bnot (bn (bn this).2).1
theorem lI {l:List Int} (hl:l.length≤9223372036854775807) (e:J9 l=some true):l.length≤32:=by
  unfold J9 at e
  obtain⟨o,h1,h2⟩:=Ah e
  cases o with
  | ret r=>
    have:r=false:=Df.Am (P:=fun r=>r=false) (fun i x s=>by
      unfold Hb
      repeat' first | exact Df.ret rfl | exact Df.next _ | refine Df.bif (fun _=>?_) (fun _=>?_) | refine Df.bind fun _ _=>?_) r h1
    subst this;cases h2
  | next s=>
    have hs:=Xo.1 h1
    have key:∀ (i:Nat) (x:Int),l[i]? =some x→(1≤x∧x≤32)∧∀ y,0<i→l[i - 1]? =some y→y<x:=by
      intro i x hx
      have hlt:=(List.getElem?_eq_some_iff.1 hx).1
      have h:=hs i x hx
      rw[Nat.zero_add]at h
      unfold Hb at h
      have bf':∀ {c:Bool} {b:Option (Out Unit Bool)},(bif c then some (.ret false)else b)=some (.next ())→c=false∧b=some (.next ()):=fun {c b} h=>by
        cases c with
        | false=>exact ⟨rfl,h⟩
        | true=>cases h
      obtain⟨c1,h⟩:=bf' h
      obtain⟨c2,h⟩:=bf' h
      have c1:=Ah9 c1
      have c2:=Ah9 c2
      refine⟨by omega,fun y h0 hy=>?_⟩
      rw[Aib (by omega),cond_true,Qj h0 (by omega),Ay hy,Option.bind_some]at h
      have:=Ah9 (bf' h).1
      omega
    have hinc:Inc l:=W46.pN fun k x y hx hy=>(key (k+1) x hx).2 y (by omega) (by simpa using hy)
    by_cases e0:l.length=0
    ·omega
    ·have hx:l[l.length - 1]? =some (l[l.length - 1]'(by omega)):=Aid (by omega)
     have g1:=W46.fQ hinc (fun x hx=>by obtain⟨i,hi⟩:=List.mem_iff_getElem?.1 hx;exact(key i x hi).1.1) _ _ hx
     have g2:=(key _ _ hx).1.2
     omega
theorem yY {l:List Bl} (hl:∀ b∈l,b.Zones.length≤9223372036854775807) (e:Hz l=some 0):∀ b∈l,b.Zones.length≤32:=by
  unfold Hz at e
  obtain⟨_,e⟩:=bz e (by decide)
  obtain⟨h,_⟩:=My (fun i x s=>by
    unfold Ex
    repeat' first | exact Df.ret (by decide) | exact Df.next _ | refine Df.bif (fun _=>?_) (fun _=>?_) | refine Df.bind fun _ _=>?_) e
  intro b hb
  obtain⟨i,hi⟩:=List.mem_iff_getElem?.1 hb
  have:=h i b hi
  unfold Ex at this
  obtain⟨y,h1,h2⟩:=Ah (bn (bn (bn (bn (bn (bn (bn (bn (bn (bn this).2).2).2).2).2).2).2).2).2).2
  have hy:=(bn h2).1
  have:y=true:=by simpa using hy
  subst this
  exact lI (hl b hb) h1
theorem u0 {f:Aj} (e:J1 f=some 0):H0 f.Map=some 0∧Hx f.Closures=some 0∧Hw f.Patrol=some 0∧O1 f.Surfaces=some 0∧Mu f.Slides=some 0∧Hz f.Bulletin=some 0∧Hy f.Missions=some 0∧Mv f.Winches=some 0∧Mw f.Groomers=some 0:=by
  unfold J1 at e
  obtain⟨y1,h1,e⟩:=Ah e
  obtain⟨y2,h2,e⟩:=Ah e
  obtain⟨y3,h3,e⟩:=Ah e
  obtain⟨y4,h4,e⟩:=Ah e
  obtain⟨y5,h5,e⟩:=Ah e
  obtain⟨y6,h6,e⟩:=Ah e
  obtain⟨y7,h7,e⟩:=Ah e
  obtain⟨y8,h8,e⟩:=Ah e
  obtain⟨y9,h9,e⟩:=Ah e
  unfold Jr at e
  rw[if_pos (by decide)]at e
  obtain⟨h,_⟩:=My (fun i x s=>by
    unfold Fu
    refine Df.bind fun y hy=>?_
    exact Df.bif (fun hc=>Df.ret (Aia hc)) fun _=>Df.next _) e
  have key:∀ (k:Nat) y,k<9→[y1,y2,y3,y4,y5,y6,y7,y8,y9][k]? =some y→y=0:=by
    intro k y hk hy
    have:=h k () (by rw[List.getElem?_replicate,if_pos hk])
    unfold Fu at this
    rw[Ay hy,Option.bind_some]at this
    simpa using(bn this).1
  have k1:=key 0 y1 (by decide) rfl
  have k2:=key 1 y2 (by decide) rfl
  have k3:=key 2 y3 (by decide) rfl
  have k4:=key 3 y4 (by decide) rfl
  have k5:=key 4 y5 (by decide) rfl
  have k6:=key 5 y6 (by decide) rfl
  have k7:=key 6 y7 (by decide) rfl
  have k8:=key 7 y8 (by decide) rfl
  have k9:=key 8 y9 (by decide) rfl
  subst k1 k2 k3 k4 k5 k6 k7 k8 k9
  exact⟨h1,h2,h3,h4,h5,h6,h7,h8,h9⟩
structure FOK (f:Aj):Prop where
  map:Kp f.Map
  clo:∀ c∈f.Closures,1≤c.By∧c.By≤6
  lists:∀ x∈f.Patrol.Bv,x.List_.Items.length≤64∧x.List_.Signs.length≤200
  listsL:f.Patrol.Bv.length≤64
  slides:S50.aK f.Slides
  misL:f.Missions.length≤64
  mis:∀ m∈f.Missions,1≤m.Slide∧m.Slide≤9999
  ropes:W46.eK f.Winches
  bul:∀ b∈f.Bulletin,b.Zones.length≤32
  packs:∀ p∈f.Packs,(0≤p.Pack.Natural∧p.Pack.Natural≤20000)∧(0≤p.Pack.Machine∧p.Pack.Machine≤20000)∧50≤p.Pack.Density∧p.Pack.Density≤900
  liftsL:f.Lifts.length≤32
  packsL:f.Packs.length≤64
  statL:f.Status.length≤64
  stat:∀ x∈f.Status,(Jq f.Map x.Run).2=true
  statR:Ko Bi.Run f.Status
theorem yV {f:Aj} (hi:uA f) (hs:f.Slides.length≤9223372036854775807) (e:Hv f=some 0):FOK f:=by
  unfold Hv at e
  obtain⟨y,hp,e⟩:=Ah e
  have hy:y=0:=by
    by_cases h:y=0
    ·exact h
    ·rw[Aib (p:=y≠0) h]at e
     exact Option.some.inj e
  subst hy
  rw[show decide ((0:Int)≠0)=false from rfl,cond_false]at e
  obtain⟨p1,p2,p3,p4,p5,p6,p7,p8,p9⟩:=u0 hp
  obtain⟨l1,e⟩:=bz e (by decide)
  obtain⟨l2,e⟩:=bz e (by decide)
  obtain⟨l3,e⟩:=bz e (by decide)
  have l1:=Ah9 l1
  have l2:=Ah9 l2
  have l3:=Ah9 l3
  obtain⟨_,e⟩:=My (fun i x s=>by
    unfold Nb
    repeat' first | exact Df.ret (by decide) | exact Df.next _ | refine Df.bif (fun _=>?_) (fun _=>?_) | refine Df.bind fun _ _=>?_) e
  unfold J3 at e
  obtain⟨hpk,e⟩:=My (fun i x s=>by
    unfold J4
    repeat' first | exact Df.ret (by decide) | exact Df.next _ | refine Df.bif (fun _=>?_) (fun _=>?_) | refine Df.bind fun _ _=>?_) e
  unfold J2 at e
  obtain⟨hst,_⟩:=My (fun i x s=>by
    unfold J5
    repeat' first | exact Df.ret (by decide) | exact Df.next _ | refine Df.bif (fun _=>?_) (fun _=>?_) | refine Df.bind fun _ _=>?_) e
  obtain⟨r10,a1,a2⟩:=oV f.Map
  rw[p1]at a1;obtain rfl:=Option.some.inj a1
  obtain⟨r50,b1,b2,b3⟩:=S50.Vw f.Slides ⟨hs,hi.zones⟩
  rw[p5]at b2;obtain rfl:=Option.some.inj b2
  obtain⟨r46,c1,c2,c3⟩:=W46.lU hi.runs
  rw[p8]at c1;obtain rfl:=Option.some.inj c1
  have hP:=vD p3
  have hM:=yL p7
  have stat:∀ (i:Nat) (x:Bi),f.Status[i]? =some x→(Jq f.Map x.Run).2=true∧∀ y,0<i→f.Status[i - 1]? =some y→y.Run<x.Run:=by
    intro i x hx
    have hlt:=(List.getElem?_eq_some_iff.1 hx).1
    have h:=hst i x hx
    unfold J5 at h
    rw[Zn,Option.bind_some]at h
    by_cases h0:(0:Int)<((i:Nat):Int)
    ·rw[Aib h0,cond_true]at h
     obtain⟨y,h1,h2⟩:=bY hlt (by omega) (by omega)
     rw[h1,Option.bind_some]at h
     obtain⟨g1,h⟩:=bn h
     have g2:=(bn h).1
     refine⟨by simpa using g2,fun z _ hz=>?_⟩
     rw[h2]at hz;obtain rfl:=Option.some.inj hz
     have:=Ah9 g1;omega
    ·rw[Aic h0,cond_false]at h
     have g2:=(bn h).1
     exact⟨by simpa using g2,fun z h _=>by omega⟩
  refine⟨a2.1 rfl,yX p2,hP.2.2,hP.1,b3.1 rfl,hM.1,hM.2,c3.1 rfl,yY hi.bzones p6,fun p hp=>?_,by omega,by omega,by omega,fun x hx=>?_,?_⟩
  ·obtain⟨i,hi⟩:=List.mem_iff_getElem?.1 hp
   have:=hpk i p hi
   unfold J4 at this
   obtain⟨_,this⟩:=bn this
   obtain⟨_,this⟩:=bn this
   rw[kI,Option.bind_some]at this
   exact bnot (bn this).1
  ·obtain⟨i,hi⟩:=List.mem_iff_getElem?.1 hx
   exact(stat i x hi).1
  ·exact fun k x y hx hy=>(stat (k+1) x hx).2 y (by omega) (by simpa using hy)
theorem xL {f:Aj} (h:U8 f):uA f:=by
  obtain⟨_,_,_,h4,_,_,h7,h8,_,h10,_⟩:=h
  exact⟨fun x hx=>⟨(h4.1.2 x hx).2.1.1,(h4.1.2 x hx).2.2.2.1⟩,fun x hx=>⟨(h7.2 x hx).2.1.1,(h7.2 x hx).2.2.1.1⟩,fun x hx=>(h8.2 x hx).2.2.2.2.1.1,fun x hx=>(h10.2 x hx).2.2.2.1⟩
def signed (l:Bp) (t x:Int) (s:Fh):Bool:=decide (s.Item=x)&&(decide (s.At≤t)&&decide (t<IntKind.i64.wrap (s.At+l.Every)))
def opens (l:Bp) (t:Int):List Int:=l.Items.filter fun x=>!l.Signs.any (signed l t x)
theorem vH {l:Bp} (t:Int) (h:l.Items.length≤1000):K8 l t=some (opens l t):=by
  unfold K8
  rw[Cz (step:=Iv l t) (p:=fun x=>!l.Signs.any (signed l t x)) (g:=id) (by omega) (fun k x s hx=>by
   unfold Iv
   rw[Fl (step:=Iu l t s x) (signed l t x) (fun _=>Out.next s) (fun k' y _=>by
    unfold Iu signed
    rw[Aib (Int.natCast_nonneg k')]
    cases decide (y.Item=x)<;>cases decide (y.At≤t)<;>cases decide (t<IntKind.i64.wrap (y.At+l.Every))<;>rfl)]
   cases hf:l.Signs.find? (signed l t x)with
   | none=>
     have:l.Signs.any (signed l t x)=false:=by rw[List.any_eq_false];exact List.find?_eq_none.1 hf
     rw[this];rfl
   | some y=>
     have:l.Signs.any (signed l t x)=true:=by rw[List.any_eq_true];exact⟨y,List.mem_of_find?_eq_some hf,List.find?_some hf⟩
     rw[this];rfl)]
  rw[List.map_id];rfl
theorem w0 (l:Bp) (x t:Int):∃ r,bN l x t=some r∧decide (r=t)= !l.Signs.any (signed l t x):=by
  unfold bN
  obtain⟨s',h1,h2,h3⟩:=Ds (ρ:=Int) (step:=Ue l x t) (l:=l.Signs) (s:=t) (fun k s=>t≤s∧(s=t↔∀ y∈l.Signs.take k,signed l t x y=false)) ⟨Int.le_refl _,by simp⟩ (fun k y s hk ⟨i1,i2⟩=>by
    have fin:∀ s2,t≤s2→(s2=t↔s=t∧signed l t x y=false)→(t≤s2∧(s2=t↔∀ z∈l.Signs.take (k+1),signed l t x z=false)):=fun s2 a b=>by
      refine⟨a,?_⟩
      rw[b,i2,Bx hk]
      constructor
      ·rintro⟨h1,h2⟩ z hz
       rw[List.mem_append,List.mem_singleton]at hz
       rcases hz with hz | rfl
       ·exact h1 z hz
       ·exact h2
      ·intro h
       exact⟨fun z hz=>h z (List.mem_append_left _ hz),h y (by simp)⟩
    unfold Ue
    by_cases c1:y.Item=x
    ·by_cases c2:y.At≤t
     ·by_cases c3:t<IntKind.i64.wrap (y.At+l.Every)
      ·rw[Aib c1,Aib c2,Aib c3]
       refine⟨_,rfl,fin _ (by split<;>omega) ?_⟩
       have:signed l t x y=true:=by unfold signed;rw[Aib c1,Aib c2,Aib c3];rfl
       rw[this]
       constructor
       ·intro h;split at h<;>omega
       ·rintro⟨_,h⟩;cases h
      ·rw[Aib c1,Aib c2,Aic c3]
       refine⟨_,rfl,fin _ i1 ?_⟩
       have:signed l t x y=false:=by unfold signed;rw[Aib c1,Aib c2,Aic c3];rfl
       rw[this];simp
     ·rw[Aib c1,Aic c2]
      refine⟨_,rfl,fin _ i1 ?_⟩
      have:signed l t x y=false:=by unfold signed;rw[Aic c2];simp
      rw[this];simp
    ·rw[Aic c1]
     refine⟨_,rfl,fin _ i1 ?_⟩
     have:signed l t x y=false:=by unfold signed;rw[Aic c1];rfl
     rw[this];simp)
  rw[List.take_length]at h3
  rw[h1]
  refine⟨s',rfl,?_⟩
  rw[Bool.eq_iff_iff,decide_eq_true_iff,h3,Bool.not_eq_true',List.any_eq_false]
  simp
theorem oQ {l:Bp} (t:Int) (h:l.Items.length≤1000):Yu l t=some (opens l t):=by
  unfold Yu
  rw[Cz (step:=Sv l t) (p:=fun x=>!l.Signs.any (signed l t x)) (g:=id) (by omega) (fun k x s hx=>by
   unfold Sv
   obtain⟨r,h1,h2⟩:=w0 l x t
   rw[h1,Option.bind_some,h2];rfl)]
  rw[List.map_id];rfl
theorem xO {l:Bp} (t:Int) (h:l.Items.length≤1000):Nx l t=Ug l t∧Tot (Ug l t):=by
  unfold Nx Ug
  rw[vH t h,oQ t h]
  exact⟨rfl,Tot.some _⟩
theorem uX {p:Ca} (run t:Int) (h:∀ x∈p.Bv,x.List_.Items.length≤64):Ag (K3 p run t) (R6 p run t):=by
  obtain⟨r,h1,h2⟩:=rC (step:=Ms run) (l:=p.Bv) (fun x=>decide (x.Run=run)) (fun k x _=>by unfold Ms;rfl)
  have e2:Nc p run=some r:=h1
  have e1:Kg p run=some r:=h1
  unfold K3 R6
  rw[e1,e2,Option.bind_some,Option.bind_some]
  rcases h2 with⟨rfl,_⟩ | ⟨k,x,rfl,hx,_⟩
  ·exact Ag.some _
  ·rw[Aic (p:=((k:Nat):Int)<0) (by omega),cond_false,cond_false,Ay hx,Option.bind_some,Option.bind_some]
   obtain⟨d1,d2⟩:=xO (l:=x.List_) t (by have:=h x (Aie hx);omega)
   rw[d1]
   refine Ag.bind (Ag.refl d2) fun y _ _=>Ag.bif rfl (fun _=>Ag.some _) fun _=>?_
   refine Ag.bind (Ag.Am fun i z s _=>?_) fun o _ _=>Ag.on fun _ _=>Ag.some _
   unfold L9 Vz
   rw[Aib (Int.natCast_nonneg i)]
   exact Ag.bif rfl (fun _=>Ag.some _) fun _=>Ag.some _
theorem v8 {p:Fi} (h:(0≤p.Natural∧p.Natural≤20000)∧(0≤p.Machine∧p.Machine≤20000)∧50≤p.Density∧p.Density≤900):∃ d,Jy p=some (d,0)∧V7 p=some (d,0):=by
  unfold Jy V7 M9
  rw[jA,kI,Aib h]
  simp only[Option.bind_some,Bool.not_true,cond_false]
  rw[fD (by omega)]
  exact⟨_,rfl,rfl⟩
theorem pU {f:Aj} (F:FOK f) (run:Int):Ag (E4 f run) (Ua f run):=by
  unfold E4 Ua
  refine Ag.bind (Ag.Am fun i x s hx=>?_) fun o _ _=>Ag.on fun _ _=>Ag.some _
  unfold Gf Yc
  refine Ag.bif rfl (fun _=>?_) fun _=>Ag.some _
  obtain⟨d,h1,h2⟩:=v8 (F.packs x (Aie hx))
  rw[h1,h2,Aic (p:=((i:Nat):Int)<0) (by omega)]
  exact⟨_,rfl,rfl⟩
theorem FOK.few {f:Aj} (F:FOK f):W46.Few f.Winches:=⟨by have:=F.ropes.len;omega,fun w hw=>by have:=(F.ropes.rope w hw).runs.len;omega⟩
theorem sY {most:Int} {l:List Int} (h:S50.Sm most l) (hm:most≤100):l.length≤100:=by
  by_cases e:l.length=0
  ·omega
  ·have hx:l[l.length - 1]? =some (l[l.length - 1]'(by omega)):=Aid (by omega)
   have h1:=W46.fQ h.2 (fun x hx=>(h.1 x hx).1) _ _ hx
   have h2:=(h.1 _ (Aie hx)).2
   omega
theorem FOK.small {f:Aj} (F:FOK f):S50.Small f.Slides:=⟨by have:=F.slides.1;omega,fun s hs=>⟨sY (F.slides.at hs).2.2.1 (by decide),trivial⟩⟩
theorem wZ {f:Aj} (F:FOK f) (run zone:Int) :
    Ag ((Et f).bind fun y5=>(F8 f.Slides y5).bind fun y6=>(Bq y6 zone).bind fun y7=>(bif y7 then some (10:Int)else (K3 f.Patrol run f.Time).bind fun y8=>(bif (!y8)then some (14:Int)else (E4 f run).bind fun y9=>(bif (!y9)then some (5:Int)else some (0:Int)))))
     ((Qc f).bind fun y6=>(V2 f.Slides y6).bind fun y7=>(J6 y7 zone).bind fun y8=>(bif y8 then some (10:Int)else (R6 f.Patrol run f.Time).bind fun y9=>(bif (!y9)then some (14:Int)else (Ua f run).bind fun y10=>(bif (!y10)then some (5:Int)else some (0:Int))))):=by
  obtain⟨L,h1,h2,h3⟩:=sO F.map
  rw[h1,h2,Option.bind_some,Option.bind_some,S50.uC F.small (fun x hx=>(F.slides.at hx).1) (by omega),S50.l4 F.small F.slides (by omega),Option.bind_some,Option.bind_some,contains_eq,Yq,Option.bind_some,Option.bind_some]
  refine Ag.bif rfl (fun _=>Ag.some _) fun _=>?_
  refine Ag.bind (uX run f.Time fun x hx=>(F.lists x hx).1) fun y _ _=>Ag.bif rfl (fun _=>Ag.some _) fun _=>?_
  exact Ag.bind (pU F run) fun y _ _=>Ag.bif rfl (fun _=>Ag.some _) fun _=>Ag.some _
theorem Si {f:Aj} {run:Int} (h:(Jq f.Map run).2=false):Cy f run=some 8:=by
  unfold Cy
  rw[Rx,Option.bind_some,h];rfl
theorem cL {f:Aj} (F:FOK f) {run:Int} (h:(Jq f.Map run).2=true):Ag (Cy f run) (R5 f (Jq f.Map run).1):=by
  have hID:=(aS h).2
  unfold Cy R5
  rw[Rx,Option.bind_some,h,Bool.not_true,cond_false,hID]
  rw[xQ f.Map f.Closures run h,uY F.clo run h,Option.bind_some,Option.bind_some]
  refine Ag.bif rfl (fun _=>Ag.some _) fun _=>?_
  rw[yS,wY,Option.bind_some,Option.bind_some,W46.uM F.few,W46.r9 F.ropes,Option.bind_some,Option.bind_some,contains_eq,Yq,Option.bind_some,Option.bind_some]
  rw[pZ f _ (by have:=F.misL;omega),l9 f _ F.mis,Option.bind_some,Option.bind_some]
  unfold Em
  have R:=wZ F run (Jq f.Map run).1.Zone
  cases gon f.Groomers run with
  | true=>exact Ag.some _
  | false=>
    cases decide (run∈norm (W46.J0 f.Winches f.Time))with
    | true=>exact Ag.some _
    | false=>
      cases blasted f (Jq f.Map run).1.Zone with
      | true=>exact Ag.some _
      | false=>exact R
theorem gL {f:Aj} (F:FOK f) (run:Int):Tot (Cy f run):=by
  cases h:(Jq f.Map run).2 with
  | false=>exact ⟨8,Si h⟩
  | true=>obtain ⟨e,h1,_⟩:=cL F h;exact⟨e,h1⟩
def Fa (f:Aj) (run:Int):Bool:=decide (Cy f run=some 0)
theorem vS {f:Aj} {run:Int} (h:Fa f run=true):(Jq f.Map run).2=true:=by
  cases e:(Jq f.Map run).2 with
  | true=>rfl
  | false=>unfold Fa at h;rw[Si e]at h;cases h
theorem Xn {f:Aj} {run e:Int} (h:Cy f run=some e):Fa f run=decide (e=0):=by
  unfold Fa;rw[h];simp
def pub (f:Aj):List Int:=(f.Lifts.filter fun x=>decide (x.Mode=1)).map Cr.Lift
theorem bT {f:Aj} (F:FOK f):Fq f=some (pub f)∧Na f=some (pub f):=by
  have:=F.liftsL
  constructor
  ·unfold Fq
   rw[Cz (step:=Gw) (p:=fun x=>decide (x.Mode=1)) (g:=Cr.Lift) (by omega) (fun k x s _=>rfl)];rfl
  ·unfold Na
   rw[Cz (step:=Vd) (p:=fun x=>decide (x.Mode=1)) (g:=Cr.Lift) (by omega) (fun k x s _=>rfl)];rfl
theorem cF {m:Ba} (M:Kp m) (lifts runs:List Int) (run:Int):∃ b,Qt m lifts runs run=some b∧O5 m lifts runs run=some b∧(b=true↔(Jq m run).2=true∧RR m lifts runs (Jq m run).1.From):=by
  obtain⟨a,e1,f1⟩:=kF M lifts runs
  obtain⟨a',e2,f2⟩:=gY M lifts runs
  obtain rfl:=f1.unique f2
  unfold Qt O5
  rw[Rx,Zn,Option.bind_some,Option.bind_some]
  cases h:(Jq m run).2 with
  | false=>exact ⟨false,rfl,rfl,by simp⟩
  | true=>exact ⟨decide ((Jq m run).1.From∈a),by simp[e1,contains_eq],by simp[e2,eD],by simp[f1.mem]⟩
def Lnk (f:Aj) (op:List Int) (run:Int):Prop:=((Jq f.Map run).2=true∧RR f.Map (pub f) op (Jq f.Map run).1.From)∧HH f.Map op (Jq f.Map run).1.To
noncomputable def lnk (f:Aj) (op:List Int) (run:Int):Bool:=@decide (Lnk f op run) (Classical.propDecidable _)
theorem Tz {f:Aj} {op:List Int} {run:Int}:lnk f op run=true↔Lnk f op run:=by unfold lnk;exact @decide_eq_true_iff _ (Classical.propDecidable _)
theorem jE {f:Aj} (F:FOK f) (op:List Int) (run:Int):D4 f op run=some (lnk f op run):=by
  obtain⟨b,h1,_,h3⟩:=cF F.map (pub f) op run
  obtain⟨r,g1,g2⟩:=xG F.map op
  unfold D4
  rw[Rx,Option.bind_some,(bT F).1,Option.bind_some,h1,Option.bind_some,g1,Option.bind_some,contains_eq,Option.bind_some]
  cases b with
  | false=>
    have:lnk f op run=false:=by
      rw[Bool.eq_false_iff];intro h;have:=h3.2 (Tz.1 h).1;cases this
    rw[this];rfl
  | true=>
    rw[cond_true]
    congr 1
    rw[Bool.eq_iff_iff,decide_eq_true_iff,Tz,g2.mem]
    exact⟨fun h=>⟨h3.1 rfl,h⟩,fun h=>h.2⟩
theorem oR {f:Aj} (F:FOK f) (op:List Int) {run:Int} {α:Type} (A B:Option α):((Na f).bind fun y3=>(O5 f.Map y3 op run).bind fun y4=>(bif (!y4)then A else(Q3 f.Map op).bind fun y5=>(J6 y5 (Jq f.Map run).1.To).bind fun y6=>(bif (!y6)then A else B)))=(bif lnk f op run then B else A):=by
  obtain⟨b,_,h1,h3⟩:=cF F.map (pub f) op run
  obtain⟨r,g1,g2⟩:=lV F.map op
  rw[(bT F).2,Option.bind_some,h1,Option.bind_some,g1,Option.bind_some,Yq,Option.bind_some]
  cases b with
  | false=>
    have:lnk f op run=false:=by
      rw[Bool.eq_false_iff];intro h;have:=h3.2 (Tz.1 h).1;cases this
    rw[this];rfl
  | true=>
    have:lnk f op run=decide ((Jq f.Map run).1.To∈r):=by
      rw[Bool.eq_iff_iff,decide_eq_true_iff,Tz,g2.mem]
      exact⟨fun h=>h.2,fun h=>⟨h3.1 rfl,h⟩⟩
    rw[this]
    cases decide ((Jq f.Map run).1.To∈r)<;>rfl
noncomputable def x7 (f:Aj) (op:List Int) (run:Int):Bool:=Fa f run&&lnk f op run
theorem uE {f:Aj} (F:FOK f) (op:List Int) (run:Int):∃ e,Dc f op run=some e∧Tq f op run=some e∧decide (e=0)=x7 f op run:=by
  unfold Dc Tq x7
  rw[Zn,Option.bind_some]
  cases h:(Jq f.Map run).2 with
  | false=>
    rw[Xn (Si h),Si h]
    exact⟨8,rfl,rfl,rfl⟩
  | true=>
    obtain⟨e,h1,h2⟩:=cL F h
    rw[Xn h1,h1,h2,Option.bind_some,Bool.not_true,cond_false,Option.bind_some]
    by_cases h0:e=0
    ·subst h0
     rw[show decide ((0:Int)≠0)=false from rfl,cond_false,cond_false,oR F op,jE F,Option.bind_some]
     cases lnk f op run with
     | true=>exact ⟨0,rfl,rfl,rfl⟩
     | false=>exact ⟨16,rfl,rfl,rfl⟩
    ·rw[Aib (p:=e≠0) h0,Aic h0]
     exact⟨e,rfl,rfl,by rw[Aic h0];rfl⟩
theorem xI {L:List Int→Int→Bool} (s:List Int):gfp L (stp L s)=gfp L s:=by
  have h1:stp L (iter L ((stp L s).length+1) s)=iter L ((stp L s).length+1) s:=Sa (L:=L) _ (stp L s) (Nat.le_refl _)
  exact dD h1
theorem Oe {l:List Int} (h:l.length≤549755813888):B6 l=some l:=by unfold B6;rw[Ci h]
theorem xD {f:Aj} (F:FOK f) {s:List Int} (h:s.length≤1000):Am (E5 f s) 0 s []=some (.next (stp (lnk f) s)):=by
  rw[Cz (step:=E5 f s) (p:=lnk f s) (g:=id) (by omega) (fun k x t _=>by unfold E5;rw[jE F,Option.bind_some];rfl),List.map_id];rfl
theorem jF {f:Aj} (F:FOK f) {s:List Int} (h:s.length≤1000):D8 (Dj f) fuel s=some (.ret (gfp (lnk f) s)):=by
  obtain⟨r,h1,h2⟩:=H3 (step:=Dj f) (fun t=>t.length≤1000∧gfp (lnk f) t=gfp (lnk f) s) (fun r=>r=gfp (lnk f) s) (fun t=>t.length) (by
    rintro t ⟨i1,i2⟩
    have hl:=(eC (L:=lnk f) t).length_le
    unfold Dj
    rw[xD F i1,Option.bind_some]
    show(∃ s',(bif _ then _ else _)=_∧_)∨(∃ r,(bif _ then _ else _)=_∧_)
    by_cases e:(stp (lnk f) t).length=t.length
    ·rw[Aib (by omega)]
     refine .inr ⟨_,rfl,?_⟩
     have e2:=qV e
     rw[e2,← i2]
     exact(Wd e2 _).symm
    ·rw[Aic (by omega)]
     exact .inl ⟨_,rfl,⟨by omega,by rw[xI,i2]⟩,by omega⟩) fuel s ⟨h,rfl⟩ (by unfold fuel;omega)
  rw[h1,h2]
theorem vG {f:Aj} (F:FOK f) {s:List Int} (h:s.length≤1000) {k:Nat} {x:Int} (hk:s[k]? =some x) (hx:Fa f x=false) (hb:(s.take k).filter (Fa f)=s.take k) :
    D8 (Dq f) fuel ((k:Int),(k:Int)+1,s)=some (.ret (gfp (lnk f) (s.filter (Fa f)))):=by
  have hlt:=(List.getElem?_eq_some_iff.1 hk).1
  obtain⟨r,h1,h2⟩:=H3 (step:=Dq f) (fun v=>∃ i j:Nat,v.1=(i:Int)∧v.2.1=(j:Int)∧i<j∧j≤s.length∧v.2.2.length=s.length∧v.2.2.take i=(s.take j).filter (Fa f)∧v.2.2.drop j=s.drop j) (fun r=>r=gfp (lnk f) (s.filter (Fa f))) (fun v=>(s.length - v.2.1).toNat) (by
    rintro⟨iv,jv,l⟩ ⟨i,j,rfl,rfl,hij,hj,hl,ht,hd⟩
    dsimp only at *
    unfold Dq
    dsimp only
    by_cases hjn:j<l.length
    ·rw[Aib (by omega),cond_true]
     have hy:l[j]? =some (l[j]'hjn):=Aid hjn
     generalize l[j]'hjn=y at hy
     have hys:s[j]? =some y:=by
       have:(l.drop j)[0]? =some y:=by rw[List.getElem?_drop];exact hy
       rw[hd,List.getElem?_drop]at this;exact this
     obtain⟨e,he⟩:=gL F y
     rw[Ay hy,Option.bind_some,he,Option.bind_some]
     have hfr:(!decide (e≠0))=Fa f y:=by rw[Xn he];by_cases e0:e=0<;>simp[e0]
     have wi:IntKind.i64.wrap ((i:Int)+1)=((i+1:Nat):Int):=Qk (by omega)
     have wj:IntKind.i64.wrap ((j:Int)+1)=((j+1:Nat):Int):=Qk (by omega)
     have hts:(s.take (j+1)).filter (Fa f)=(s.take j).filter (Fa f)++[y].filter (Fa f):=by rw[Bx hys,List.filter_append]
     rw[hfr,wi,wj]
     have hd2:∀ l':List Int,l'.drop j=s.drop j→l'.drop (j+1)=s.drop (j+1):=fun l' h=>by
       have:=congrArg (List.drop 1) h
       rwa [List.drop_drop,List.drop_drop]at this
     cases hf:Fa f y with
     | false=>
       rw[cond_false]
       refine .inl ⟨_,rfl,⟨i,j+1,rfl,rfl,by omega,by omega,hl,?_,hd2 _ hd⟩,by dsimp only;omega⟩
       rw[hts,ht,List.filter_cons_of_neg (by rw[hf];decide),List.filter_nil,List.append_nil]
     | true=>
       rw[cond_true]
       have hi:l[i]? =some (l[i]'(by omega)):=Aid (by omega)
       rw[Ay hi,Option.bind_some]
       refine .inl ⟨_,rfl,⟨i+1,j+1,rfl,rfl,by omega,by omega,by simp[hl],?_,?_⟩,by dsimp only;omega⟩
       ·rw[hts,List.filter_cons_of_pos hf,List.filter_nil,← ht,Int.toNat_natCast]
        have hi2:(l.set i y)[i]? =some y:=by rw[List.getElem?_set_self (by omega)]
        rw[Bx hi2,List.take_set_of_le (Nat.le_refl _)]
       ·rw[Int.toNat_natCast]
        refine hd2 _ ?_
        rw[List.drop_set_of_lt hij];exact hd
    ·have e:j=s.length:=by omega
     subst e
     rw[Aic (by omega),cond_false,N9 (by omega),N9 (by omega),Int.toNat_natCast]
     rw[List.take_length]at ht
     have hti:((l.take i)++(List.replicate (l.length - i) (0:Int))).take i=s.filter (Fa f):=by
       rw[List.take_append_of_le_length (by rw[List.length_take];omega),List.take_take,Nat.min_self,ht]
     rw[hti]
     have:=jF F (s:=s.filter (Fa f)) (by have:=List.length_filter_le (Fa f) s;omega)
     have e5:Jk f=Dj f:=rfl
     rw[e5,this]
     exact .inr ⟨_,rfl,rfl⟩) fuel ((k:Int),(k:Int)+1,s) ⟨k,k+1,rfl,rfl,by omega,by omega,rfl,(by dsimp only;rw[Bx hk,List.filter_append,hb,List.filter_cons_of_neg (by rw[hx];decide),List.filter_nil,List.append_nil]),rfl⟩ (by unfold fuel;dsimp only;omega)
  ·rw[h1,h2]
noncomputable def Zv (f:Aj) (runs:List Int):List Int:=gfp (lnk f) ((norm runs).filter (Fa f))
theorem u5 (xs:List Int):(norm xs).length≤xs.length:=I6 (Wa xs).nodup fun x hx=>(V9 xs x).1 hx
theorem rB {f:Aj} (F:FOK f) {runs:List Int} (h:runs.length≤1000):E1 f runs=some (Zv f runs):=by
  have hl:=u5 runs
  unfold E1
  rw[Oe (by omega),Option.bind_some,Ci (by omega),Ci (by omega)]
  show((Am (E6 f runs) 0 (norm runs) ()).bind fun o1=>o1.on fun s1=>(D8 (Dj f) fuel (norm runs)).bind fun o33=>o33.on fun _=>none)=_
  rcases E7 (step:=E6 f runs) (l:=norm runs) (s:=()) (fun k _=>((norm runs).take k).filter (Fa f)=(norm runs).take k) (fun r=>r=Zv f runs) rfl (fun k x u hk hI=>by
    have hlt:=(List.getElem?_eq_some_iff.1 hk).1
    obtain⟨e,he⟩:=gL F x
    unfold E6
    rw[he,Option.bind_some]
    by_cases e0:e=0
    ·rw[Aic (p:=e≠0) (fun h=>h e0)]
     refine .inl ⟨_,rfl,?_⟩
     have hf:Fa f x=true:=by rw[Xn he,Aib e0]
     rw[Bx hk,List.filter_append,hI,List.filter_cons_of_pos hf,List.filter_nil]
    ·rw[Aib (p:=e≠0) e0,cond_true,Aic (p:=((k:Nat):Int)= -1) (by omega),cond_false]
     have hf:Fa f x=false:=by rw[Xn he,Aic e0]
     have key:=vG F (s:=norm runs) (by omega) hk hf hI
     have hw:IntKind.i64.wrap (((k:Nat):Int)+1)=(k:Int)+1:=by rw[Qk (by omega)];rfl
     change (∃ s',((D8 (Dq f) fuel (((k:Nat):Int),IntKind.i64.wrap (((k:Nat):Int)+1),norm runs)).bind fun o16=>o16.on fun _=>none).bind (fun q30=>some (Out.ret q30))=_∧_)∨(∃ r,((D8 (Dq f) fuel (((k:Nat):Int),IntKind.i64.wrap (((k:Nat):Int)+1),norm runs)).bind fun o16=>o16.on fun _=>none).bind (fun q30=>some (Out.ret q30))=_∧_)
     rw[hw,key]
     exact .inr ⟨_,rfl,rfl⟩)with ⟨s',h1,h2⟩ | ⟨r,h1,rfl⟩
  ·rw[List.take_length]at h2
   rw[h1]
   show(D8 (Dj f) fuel (norm runs)).bind _=_
   rw[jF F (by omega)]
   unfold Zv
   rw[h2];rfl
  ·rw[h1];rfl
theorem oT {α:Type} {idf:α→Int} {l:List α} (h:Ko idf l):Inc (l.map idf):=W46.pN fun k x y hx hy=>by
  rw[List.getElem?_map]at hx hy
  obtain⟨a,ha,rfl⟩:=Option.map_eq_some_iff.1 hx
  obtain⟨b,hb,rfl⟩:=Option.map_eq_some_iff.1 hy
  exact h k a b ha hb
theorem sZ {l:List Int} (h:Inc l) (p:Int→Bool):Inc (l.filter p):=List.Pairwise.filter p h
theorem yQ {l l':List Int} (h:Inc l) (hs:l'.Sublist l):Inc l':=List.Pairwise.sublist hs h
theorem sV {L:List Int→Int→Bool} (n:Nat) (s:List Int):iter L (n+1) s=stp L (iter L n s):=by rw[fP n 1 s];rfl
theorem lT {f:Aj} (F:FOK f) (runs:List Int):Yt f runs=some (Zv f runs):=by
  have hR:=F.map.lenR
  unfold Yt
  rw[Cz (step:=Ss f runs) (p:=fun x=>decide (x.ID∈runs)&&Fa f x.ID) (g:=Cd.ID) (by omega) (fun k x t hx=>by
   unfold Ss
   have hm:=lR F.map hx
   have h1:=cL F (run:=x.ID) (by rw[hm])
   rw[hm]at h1
   obtain⟨e,h2,h3⟩:=h1
   rw[Yq,Option.bind_some,h3,Option.bind_some,Xn h2]
   cases decide (x.ID∈runs)<;>rfl)]
  show Sr f _=_
  generalize hnow:(f.Map.Runs.filter fun x=>decide (x.ID∈runs)&&Fa f x.ID).map Cd.ID=now
  have hlen:now.length≤f.Map.Runs.length:=by rw[← hnow,List.length_map];exact List.length_filter_le _ _
  have heq:now=(norm runs).filter (Fa f):=by
    refine Qe ?_ (sZ (Wa runs) _) fun x=>?_
    ·rw[← hnow]
     exact yQ (oT F.map.runsR) (List.filter_sublist.map _)
    ·rw[← hnow,List.mem_map,List.mem_filter,V9]
     constructor
     ·rintro⟨y,hy,rfl⟩
      rw[List.mem_filter,Bool.and_eq_true,decide_eq_true_iff]at hy
      exact hy.2
     ·rintro⟨h1,h2⟩
      have hr:=aS (vS h2)
      refine⟨(Jq f.Map x).1,List.mem_filter.2 ⟨hr.1,?_⟩,hr.2⟩
      rw[hr.2,Aib h1,h2];rfl
  unfold Sr
  obtain⟨s',h1,h2⟩:=Z2 (ρ:=List Int) (n:=f.Map.Runs.length+1) (step:=Su f) (s:=now) (by omega) (fun k s=>s=iter (lnk f) k now) rfl (fun k s hk hI=>by
    have hs:s.length≤64:=by rw[hI];exact Nat.le_trans (mR _ _).length_le (by omega)
    refine⟨stp (lnk f) s,?_,by rw[hI,← sV]⟩
    obtain⟨r,g1,g2⟩:=lV F.map s
    unfold Su
    rw[(bT F).2,Option.bind_some,g1,Option.bind_some]
    rw[Cz (step:=St f s (pub f) r) (p:=lnk f s) (g:=id) (by omega) (fun k x t hx=>by
     obtain⟨b,_,f1,f3⟩:=cF F.map (pub f) s x
     unfold St
     rw[Zn,Option.bind_some,f1,Option.bind_some,Yq,Option.bind_some]
     cases b with
     | false=>
       have:lnk f s x=false:=by
         rw[Bool.eq_false_iff];intro h;have:=f3.2 (Tz.1 h).1;cases this
       rw[this];rfl
     | true=>
       have:lnk f s x=decide ((Jq f.Map x).1.To∈r):=by
         rw[Bool.eq_iff_iff,decide_eq_true_iff,Tz,g2.mem]
         exact⟨fun h=>h.2,fun h=>⟨f3.1 rfl,h⟩⟩
       rw[this];rfl),List.map_id]
    rfl)
  rw[h1,h2]
  show some (iter (lnk f) (f.Map.Runs.length+1) now)=_
  rw[dD (Sa (f.Map.Runs.length+1) now (by omega)),heq];rfl
theorem kQ (a b:List Int):N7 a b=some (decide (a=b)):=
  uR fun k x y hx hy=>by unfold Oo;rw[Ay hy];rfl
theorem fR {most:Int} {l:List Int} (h:S50.Sm most l):(l.length:Int)≤most∨l.length=0:=by
  by_cases e:l.length=0
  ·exact .inr e
  ·left
   have hx:l[l.length - 1]? =some (l[l.length - 1]'(by omega)):=Aid (by omega)
   have h1:=W46.fQ h.2 (fun x hx=>(h.1 x hx).1) _ _ hx
   have h2:=(h.1 _ (Aie hx)).2
   omega
theorem Xt {α ρ:Type} {step:Nat→α→List α→Option (Out (List α) ρ)} {c:α→Option α} {l:List α} (hl:l.length≤1000) (hs:∀ k x s,step k x s=(c x).bind fun y=>chk (s.length+1) (some (.next (s++[y])))) (hc:∀ x∈l,c x=some x):Am step 0 l []=some (.next l):=by
  rw[Cz (p:=fun _=>true) (g:=id) (by omega) (fun k x s hx=>by rw[hs,hc x hx];rfl),List.map_id,List.filter_eq_self.2 (fun _ _=>rfl)]
theorem Aae {x:Cj} (h:x.List_.Items.length≤64∧x.List_.Signs.length≤200):El x=some x:=by
  unfold El C4
  rw[Oe (by omega),Option.bind_some,Ci (by omega)];rfl
theorem Aad {x:Bc} (h:S50.Bv x):Ek x=some x:=by
  have h1:=fR h.2.1
  have h2:=fR h.2.2
  unfold Ek
  rw[Oe (by omega),Option.bind_some,Oe (by omega)];rfl
theorem Aac {x:Bl} (h:x.Zones.length≤32):Ej x=some x:=by
  unfold Ej
  rw[Oe (by omega)];rfl
theorem Aab {x:Az} (h:x.Runs.length≤9999):Ei x=some x:=by
  unfold Ei
  rw[Oe (by omega)];rfl
def fF (l:List Bi):List Int:=(l.filter fun x=>x.Open).map Bi.Run
theorem u4 (l:List Bi):(fF l).length≤l.length:=by unfold fF;rw[List.length_map];exact List.length_filter_le _ _
theorem fE {f:Aj} (h:f.Status.length≤1000):Dp f=some (fF f.Status):=by
  unfold Dp
  rw[Cz (step:=Fs) (p:=fun x=>x.Open) (g:=Bi.Run) (by omega) (fun k x s _=>rfl)];rfl
theorem q0 {f:Aj} (h:f.Status.length≤1000):aX f=some (fF f.Status):=fE h
def N3 (K:List Int) (x:Bi):Bool:=x.Open&&!decide (x.Run∈K)
def gW (K:List Int) (t:Int) (x:Bi):Bi:=bif N3 K x then⟨x.Run,false,t⟩else x
def uD (f:Aj) (l:List Bi):Aj:=Aj.mk f.Map f.Lifts f.Closures f.Patrol f.Surfaces f.Packs f.Slides f.Bulletin f.Missions f.Winches f.Groomers l f.Depth f.Time
theorem uF (f:Aj) (K:List Int) {l:List Bi} (hl:l.length≤1000):Am (En f K) 0 l (l,[])=some (.next (l.map (gW K f.Time),(l.filter (N3 K)).map Bi.Run)):=by
  obtain⟨s',h1,h2⟩:=Ds (ρ:=Aj×List Int) (step:=En f K) (l:=l) (s:=(l,[])) (fun k s=>s=((l.take k).map (gW K f.Time)++l.drop k,((l.take k).filter (N3 K)).map Bi.Run)) (by simp) (fun k x s hk hI=>by
    have hlt:=(List.getElem?_eq_some_iff.1 hk).1
    have hlen:((l.take k).map (gW K f.Time)).length=k:=by simp;omega
    have hx:s.1[k]? =some x:=by
      rw[hI];dsimp only
      rw[List.getElem?_append_right (by omega),hlen,Nat.sub_self,List.getElem?_drop];exact hk
    have hs2:s.2.length≤k:=by
      rw[hI];dsimp only
      rw[List.length_map]
      have:=List.length_filter_le (N3 K) (l.take k)
      rw[List.length_take]at this;omega
    have hset:∀ y:Bi,s.1.set k y=(l.take k).map (gW K f.Time)++y::l.drop (k+1):=fun y=>by
      rw[hI];dsimp only
      rw[List.set_append_right _ _ (by omega),hlen,Nat.sub_self,List.drop_eq_getElem_cons hlt];rfl
    have hsame:s.1=(l.take k).map (gW K f.Time)++x::l.drop (k+1):=by
      rw[hI];dsimp only
      rw[List.drop_eq_getElem_cons hlt]
      rw[Aid hlt]at hk
      rw[Option.some.inj hk]
    unfold En
    rw[Ay hx,Option.bind_some,contains_eq,Option.bind_some]
    rw[Bx hk,List.map_append,List.filter_append,List.map_append,List.append_assoc]
    have hu:gW K f.Time x=bif N3 K x then⟨x.Run,false,f.Time⟩else x:=rfl
    have hsh:N3 K x=(x.Open&&!decide (x.Run∈K)):=rfl
    cases ho:x.Open with
    | false=>
      rw[ho]at hsh
      have hsh:N3 K x=false:=hsh
      rw[cond_false,List.filter_cons_of_neg (by rw[hsh];decide)]
      rw[hsh]at hu
      refine⟨_,rfl,?_⟩
      rw[Prod.mk.injEq]
      exact⟨by rw[hsame];simp[hu],by rw[hI];simp⟩
    | true=>
      rw[ho,Bool.true_and]at hsh
      rw[cond_true]
      cases hd:decide (x.Run∈K)with
      | true=>
        rw[hd]at hsh
        have hsh:N3 K x=false:=hsh
        rw[List.filter_cons_of_neg (by rw[hsh];decide)]
        rw[hsh]at hu
        refine⟨_,rfl,?_⟩
        rw[Prod.mk.injEq]
        exact⟨by rw[hsame];simp[hu],by rw[hI];simp⟩
      | false=>
        rw[hd]at hsh
        have hsh:N3 K x=true:=hsh
        rw[List.filter_cons_of_pos hsh]
        rw[hsh]at hu
        rw[Bool.not_false,cond_true,Ci (by omega)]
        refine⟨_,rfl,?_⟩
        rw[Prod.mk.injEq]
        exact⟨by rw[List.set_set,hset];simp[hu],by rw[hI];simp⟩)
  rw[List.take_length,List.drop_length,List.append_nil]at h2
  rw[h1,h2]
theorem rV {f:Aj} (F:FOK f) (W:qP f):Hd f=some (uD f (f.Status.map (gW (Zv f (fF f.Status)) f.Time)),(f.Status.filter (N3 (Zv f (fF f.Status)))).map Bi.Run):=by
  have M:=F.map
  have hS:=F.statL
  have hn:=u4 f.Status
  have:=M.lenN
  have:=M.lenL
  have:=M.lenR
  have:=M.lenB
  have:=F.liftsL
  have:=F.packsL
  have:=F.listsL
  have:=F.misL
  have:=W.closures
  have:=W.hazards
  have:=W.surfaces
  have:=W.slides
  have:=W.bulletin
  have:=W.winches
  have:=W.groomers
  have q1:=Xt (ρ:=Aj×List Int) (step:=G0) (c:=El) (l:=f.Patrol.Bv) (by omega) (fun k x s=>rfl) (fun x hx=>Aae (F.lists x hx))
  have q2:=Xt (ρ:=Aj×List Int) (step:=Gz) (c:=Ek) (l:=f.Slides) (by omega) (fun k x s=>rfl) (fun x hx=>Aad (F.slides.at hx).2)
  have q3:=Xt (ρ:=Aj×List Int) (step:=Gy) (c:=Ej) (l:=f.Bulletin) (by omega) (fun k x s=>rfl) (fun x hx=>Aac (F.bul x hx))
  have q4:=Xt (ρ:=Aj×List Int) (step:=Gx) (c:=Ei) (l:=f.Winches) (by omega) (fun k x s=>rfl) (fun x hx=>Aab (F.ropes.rope x hx).runs.len)
  unfold Hd
  rw[fE (by omega),Option.bind_some,rB F (by omega),Option.bind_some]
  unfold C5 C6 De Cf Cq Cu Cm Cn Co Cp Du
  rw[Ci (n:=f.Map.Nodes.length) (by omega),Option.bind_some,Ci (n:=f.Map.Lifts.length) (by omega),Option.bind_some,Ci (n:=f.Map.Runs.length) (by omega),Option.bind_some,Oe (by omega),Option.bind_some,
   Ci (n:=f.Lifts.length) (by omega),Option.bind_some,Ci (n:=f.Closures.length) (by omega),Option.bind_some,Ci (n:=f.Patrol.Bv.length) (by omega),q1,Option.bind_some]
  show(chk f.Patrol.Hazards.length (some f.Patrol.Hazards)).bind _=_
  rw[Ci (n:=f.Patrol.Hazards.length) (by omega),Option.bind_some,Ci (n:=f.Surfaces.length) (by omega),Option.bind_some,Ci (n:=f.Packs.length) (by omega),Option.bind_some,Ci (n:=f.Slides.length) (by omega),q2,Option.bind_some]
  show chk f.Bulletin.length _=_
  rw[Ci (n:=f.Bulletin.length) (by omega),q3,Option.bind_some]
  show(chk f.Missions.length (some f.Missions)).bind _=_
  rw[Ci (n:=f.Missions.length) (by omega),Option.bind_some,Ci (n:=f.Winches.length) (by omega),q4,Option.bind_some]
  show(chk f.Groomers.length (some f.Groomers)).bind _=_
  rw[Ci (n:=f.Groomers.length) (by omega),Option.bind_some,Ci (n:=f.Status.length) (by omega),Option.bind_some,uF f _ (by omega)]
  rfl
theorem oP {f:Aj} (F:FOK f):Ub f=some (uD f (f.Status.map (gW (Zv f (fF f.Status)) f.Time)),(f.Status.filter (N3 (Zv f (fF f.Status)))).map Bi.Run):=by
  have hS:=F.statL
  unfold Ub
  rw[q0 (by omega),Option.bind_some,lT F,Option.bind_some]
  generalize Zv f (fF f.Status)=K
  obtain⟨s',h1,h2⟩:=Ds (ρ:=Aj×List Int) (step:=Pp f K) (l:=f.Status) (s:=([],[])) (fun k s=>s=((f.Status.take k).map (gW K f.Time),((f.Status.take k).filter (N3 K)).map Bi.Run)) rfl (fun k x s hk hI=>by
    have hlt:=(List.getElem?_eq_some_iff.1 hk).1
    have hs1:s.1.length≤k:=by rw[hI];simp;omega
    have hs2:s.2.length≤k:=by
      rw[hI];dsimp only
      rw[List.length_map]
      have:=List.length_filter_le (N3 K) (f.Status.take k)
      rw[List.length_take]at this;omega
    unfold Pp
    rw[Yq,Option.bind_some,Bx hk,List.map_append,List.filter_append,List.map_append]
    have hu:gW K f.Time x=bif N3 K x then⟨x.Run,false,f.Time⟩else x:=rfl
    have hsh:N3 K x=(x.Open&&!decide (x.Run∈K)):=rfl
    obtain⟨xr,xo,xs⟩:=x
    dsimp only at *
    cases xo with
    | false=>
      have hsh:N3 K ⟨xr,false,xs⟩=false:=hsh
      rw[cond_false,Ci (by omega),List.filter_cons_of_neg (by rw[hsh];decide)]
      rw[hsh]at hu
      refine⟨_,rfl,?_⟩
      rw[Prod.mk.injEq]
      exact⟨by rw[hI];simp[hu],by rw[hI];simp⟩
    | true=>
      rw[Bool.true_and]at hsh
      rw[cond_true]
      cases hd:decide (xr∈K)with
      | true=>
        rw[hd]at hsh
        have hsh:N3 K ⟨xr,true,xs⟩=false:=hsh
        rw[List.filter_cons_of_neg (by rw[hsh];decide)]
        rw[hsh]at hu
        rw[Bool.not_true,cond_false,Ci (by omega)]
        refine⟨_,rfl,?_⟩
        rw[Prod.mk.injEq]
        exact⟨by rw[hI];simp[hu],by rw[hI];simp⟩
      | false=>
        rw[hd]at hsh
        have hsh:N3 K ⟨xr,true,xs⟩=true:=hsh
        rw[List.filter_cons_of_pos hsh]
        rw[hsh]at hu
        rw[Bool.not_false,cond_true,Ci (by omega),Ci (by omega)]
        refine⟨_,rfl,?_⟩
        rw[Prod.mk.injEq]
        exact⟨by rw[hI];simp[hu],by rw[hI];simp⟩)
  rw[List.take_length]at h2
  rw[h1,h2];rfl
theorem bff {α:Type} {c:Bool} {a b r:α} (hc:c=false) (h:b=r):(bif c then a else b)=r:=by subst hc;exact h
theorem bft {α:Type} {c:Bool} {a b r:α} (hc:c=true) (h:a=r):(bif c then a else b)=r:=by subst hc;exact h
theorem wU {f:Aj} (F:FOK f):Ag (Fx f) (Ys f):=by
  have:=F.statL
  unfold Fx Ys
  rw[fE (by omega),q0 (by omega),Option.bind_some,Option.bind_some]
  refine Ag.bind (Ag.Am fun i x s _=>?_) fun o _ _=>Ag.on fun _ _=>Ag.some _
  obtain⟨e,h1,h2,_⟩:=uE F (fF f.Status) x
  unfold Ji Yd
  rw[h1,h2]
  exact Ag.bif rfl (fun _=>Ag.some _) fun _=>Ag.some _
theorem iR {f:Aj} (F:FOK f) {b:Bool} (h:Ys f=some b):Fx f=some b:=by rw[(wU F).eq,h]
theorem Th {f:Aj} (F:FOK f) {op:List Int} {run e:Int} (h:Tq f op run=some e):Dc f op run=some e:=by
  obtain⟨e',h1,h2,_⟩:=uE F op run
  rw[h]at h2;rw[h1,Option.some.inj h2]
def z54:Aj:=Aj.mk (Ba.mk [] [] [] []) [] [] (Ca.mk [] []) [] [] [] [] [] [] [] [] (0:Int) (0:Int)
theorem mD {f:Aj} (F:FOK f) (hs:f.Status=[]) {run e:Int} (hr:(Jq f.Map run).2=true) (he:e≠0) (h:Tq f [run] run=some e):He f run=some (z54,e):=by
  unfold He
  rw[Rx,Option.bind_some,hr,fE (by rw[hs];decide),Option.bind_some,contains_eq,Option.bind_some,hs]
  refine bff rfl (bff rfl ?_)
  refine Ef (x:=.next ()) rfl ?_
  rw[Out.on]
  refine bff rfl ?_
  rw[Ci (by decide)]
  show(Dc f [run] run).bind _=_
  rw[Th F h,Option.bind_some]
  exact bft (Aib he) rfl
def D7:Aj:=(Aj.mk (Ba.mk [(Ck.mk (1:Int) (1000:Int)),(Ck.mk (2:Int) (2000:Int)),(Ck.mk (3:Int) (1500:Int))] [(Cc.mk (1:Int) (1:Int) (1:Int) (2:Int) (1000:Int) (5000:Int) (4:Int) (50:Int))] [(Cd.mk (1:Int) (1:Int) (2:Int) (3:Int) (2:Int) (1:Int) (800:Int)),(Cd.mk (2:Int) (1:Int) (3:Int) (1:Int) (2:Int) (1:Int) (800:Int))] [(1:Int)]) [(Cr.mk (1:Int) (1:Int))] [] (Ca.mk [(Cj.mk (1:Int) (Bp.mk [] (60:Int) [])),(Cj.mk (2:Int) (Bp.mk [] (60:Int) []))] []) [] [(C0.mk (1:Int) (100:Int) (Fi.mk (0:Int) (450:Int) (450:Int))),(C0.mk (2:Int) (100:Int) (Fi.mk (0:Int) (450:Int) (450:Int)))] [] [] [] [] [] [] (300:Int) (0:Int))
def zJ:List Bi:=[(Bi.mk (1:Int) true (0:Int)),(Bi.mk (2:Int) true (0:Int))]
def exA:Aj:=uD D7 zJ
def exB:Aj:=Aj.mk D7.Map D7.Lifts [(Bk.mk (1:Int) (2:Int) (1:Int) (0:Int))] D7.Patrol D7.Surfaces D7.Packs D7.Slides D7.Bulletin D7.Missions D7.Winches D7.Groomers zJ D7.Depth D7.Time
def exH:Aj:=Aj.mk D7.Map D7.Lifts D7.Closures (Ca.mk D7.Patrol.Bv [(Cv.mk (1:Int) (1:Int) (0:Int))]) D7.Surfaces D7.Packs D7.Slides D7.Bulletin D7.Missions D7.Winches D7.Groomers D7.Status D7.Depth D7.Time
def exD:Aj:=Aj.mk D7.Map D7.Lifts D7.Closures D7.Patrol D7.Surfaces D7.Packs D7.Slides D7.Bulletin D7.Missions D7.Winches D7.Groomers D7.Status (1001:Int) D7.Time
def exS:Aj:=Aj.mk D7.Map D7.Lifts D7.Closures D7.Patrol D7.Surfaces D7.Packs [(Bc.mk (1:Int) [(1:Int)] [] (100:Int) (100:Int) (-1:Int))] D7.Bulletin D7.Missions D7.Winches D7.Groomers D7.Status D7.Depth D7.Time
theorem exI {f:Aj} (h1:f.Patrol.Bv=D7.Patrol.Bv) (h2:f.Slides=[]∨f.Slides=[(Bc.mk (1:Int) [(1:Int)] [] (100:Int) (100:Int) (-1:Int))]) (h3:f.Bulletin=[]) (h4:f.Winches=[]):uA f∧f.Slides.length≤9223372036854775807:=by
  refine⟨⟨?_,?_,?_,?_⟩,?_⟩
  ·rw[h1];simp[D7]
  ·rcases h2 with h2 | h2<;>rw[h2]<;>simp
  ·rw[h3];simp
  ·rw[h4];simp
  ·rcases h2 with h2 | h2<;>rw[h2]<;>simp
theorem tF {f:Aj} (h:uA f∧f.Slides.length≤9223372036854775807) (e:Hv f=some 0):FOK f:=yV h.1 h.2 e
theorem F0:FOK D7:=tF (exI rfl (.inl rfl) rfl rfl) (by decide +kernel)
theorem FA:FOK exA:=tF (exI rfl (.inl rfl) rfl rfl) (by decide +kernel)
theorem FB:FOK exB:=tF (exI rfl (.inl rfl) rfl rfl) (by decide +kernel)
theorem FH:FOK exH:=tF (exI rfl (.inl rfl) rfl rfl) (by decide +kernel)
theorem FD:FOK exD:=tF (exI rfl (.inl rfl) rfl rfl) (by decide +kernel)
theorem FS:FOK exS:=tF (exI rfl (.inr rfl) rfl rfl) (by decide +kernel)
theorem W0:qP D7:=⟨by decide,by decide,by decide,by decide,by decide,by decide,by decide,by decide,by decide⟩
theorem WB:qP exB:=⟨by decide,by decide,by decide,by decide,by decide,by decide,by decide,by decide,by decide⟩
theorem x1:Pc=some true:=by
  have o1:=mD F0 rfl (run:=1) (e:=16) (by decide +kernel) (by decide) (by decide +kernel)
  have o2:=mD F0 rfl (run:=2) (e:=16) (by decide +kernel) (by decide) (by decide +kernel)
  have hR:E9 D7=some 0:=by
    rw[(jO D7 W0 (exI rfl (.inl rfl) rfl rfl).1 (by decide) (by decide) (by decide)).eq];decide +kernel
  have hK:E1 D7 [1,2]=some [1,2]:=by
    rw[rB F0 (by decide),← lT F0];decide +kernel
  have hU:=rV FB WB
  rw[← oP FB]at hU
  have hU2:(Ub exB).map (fun p=>(p.2,fF p.1.Status,decide (p.1.Status.length≤1000)))=some ([1,2],[],true):=by decide +kernel
  obtain⟨p,hp,hq⟩:=Option.map_eq_some_iff.1 hU2
  rw[hp]at hU
  rw[Prod.mk.injEq,Prod.mk.injEq]at hq
  unfold Pc
  refine Ef (x:=D7) rfl ?_
  refine Ef o1 ?_
  refine Ef o2 ?_
  refine Ef hR ?_
  refine bff rfl (bff rfl (bff rfl ?_))
  refine Ef hK ?_
  refine Ef (kQ _ _) ?_
  refine bff rfl ?_
  refine Ef (iR FA (b:=true) (by decide +kernel)) ?_
  refine bff rfl ?_
  refine Ef (x:=[1,2]) rfl ?_
  refine Ef (kQ _ _) ?_
  refine bff rfl ?_
  refine Ef hU ?_
  refine Ef (iR FB (b:=false) (by decide +kernel)) ?_
  refine bff rfl ?_
  refine Ef (kQ _ _) ?_
  rw[hq.1]
  refine bff rfl ?_
  refine Ef (fE (Aia hq.2.2)) ?_
  rw[hq.2.1]
  refine bff rfl ?_
  refine Ef (Th FH (e:=14) (by decide +kernel)) ?_
  refine bft rfl ?_
  refine Ef (Th FD (e:=5) (by decide +kernel)) ?_
  refine bft rfl ?_
  refine Ef (Th FS (e:=10) (by decide +kernel)) ?_
  refine bft rfl ?_
  refine Ef (Th F0 (e:=8) (by decide +kernel)) ?_
  refine bft rfl ?_
  refine Ef (Th F0 (e:=0) (by decide +kernel)) ?_
  rfl
theorem r6 (f:Aj):Tot (Kj f):=by
  unfold Kj
  repeat' first | exact Tot.some _ | refine Tot.bif (fun _=>?_) (fun _=>?_)
theorem bfs {c:Bool} {b:Option Bool} (h:(bif c then some false else b)=some true):c=false∧b=some true:=by
  cases c with
  | false=>exact ⟨rfl,h⟩
  | true=>cases h
theorem bts {c:Bool} {b:Option Bool} (h:(bif c then b else some false)=some true):c=true∧b=some true:=by
  cases c with
  | true=>exact ⟨rfl,h⟩
  | false=>cases h
theorem uO {f:Aj} (h:Kj f=some true):qP f∧f.Lifts.length≤12∧f.Packs.length≤12∧f.Status.length≤12:=by
  unfold Kj at h
  obtain⟨_,h⟩:=bfs h
  obtain⟨_,h⟩:=bfs h
  obtain⟨_,h⟩:=bfs h
  obtain⟨_,h⟩:=bfs h
  obtain⟨a1,h⟩:=bfs h
  obtain⟨a2,h⟩:=bfs h
  obtain⟨a3,h⟩:=bfs h
  obtain⟨a4,h⟩:=bfs h
  obtain⟨a5,h⟩:=bfs h
  obtain⟨a6,h⟩:=bfs h
  obtain⟨a7,h⟩:=bfs h
  obtain⟨a8,h⟩:=bfs h
  obtain⟨a9,h⟩:=bts h
  obtain⟨a10,h⟩:=bts h
  obtain⟨a11,h⟩:=bts h
  have a12:=Aia (Option.some.inj h)
  have a1:=Ah9 a1
  have a2:=Ah9 a2
  have a3:=Ah9 a3
  have a4:=Ah9 a4
  have a5:=Ah9 a5
  have a6:=Ah9 a6
  have a7:=Ah9 a7
  have a8:=Ah9 a8
  have a9:=Aia a9
  have a10:=Aia a10
  have a11:=Aia a11
  exact⟨⟨by omega,by omega,by omega,by omega,by omega,by omega,by omega,by omega,by omega⟩,by omega,by omega,by omega⟩
theorem Re (f:Aj) (h:U8 f):F4 f=some true:=by
  unfold F4
  refine Ef x1 (bff rfl ?_)
  obtain⟨b,hb⟩:=r6 (Aj.mk f.Map [] f.Closures f.Patrol f.Surfaces [] f.Slides f.Bulletin f.Missions f.Winches f.Groomers [] f.Depth f.Time)
  refine Ef hb ?_
  cases b with
  | false=>rfl
  | true=>
    obtain⟨W,_⟩:=uO hb
    have W:qP f:=⟨W.closures,W.lists,W.hazards,W.surfaces,W.slides,W.bulletin,W.missions,W.winches,W.groomers⟩
    refine bff rfl ?_
    cases l1:decide ((70:Int)<((f.Lifts.length:Nat):Int))with
    | true=>rfl
    | false=>
    cases l2:decide ((70:Int)<((f.Packs.length:Nat):Int))with
    | true=>rfl
    | false=>
    cases l3:decide ((70:Int)<((f.Status.length:Nat):Int))with
    | true=>rfl
    | false=>
    have l1:=Ah9 l1
    have l2:=Ah9 l2
    have l3:=Ah9 l3
    obtain⟨e,h1,h2⟩:=jO f W (xL h) (by omega) (by omega) (by omega)
    refine bff rfl (bff rfl (bff rfl ?_))
    refine Ef h1 (Ef h2 ?_)
    rw[Aib rfl]
end Go.Proofs.YtjopghiagoidgaaGreat
