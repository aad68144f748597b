/- Our own texts: a layer of abstract values over the model, the walks of the functions, the plain laws; joined and shortened by a small program of our own (wip/dce2.py, wip/pack.py). -/
import Derived.Test.YtjopghiagoidgaaGreatA3
import Derived.Calls
import Derived.Tactics2
import Derived.Below
import Derived.Deep.LoopGhost
import Derived.KernelRfl
import Derived.Laws.Shifts
import Derived.Laws.CopyRow
import Derived.Laws.AppendOwn
import Derived.Laws.MakeOwn
import Derived.Laws.StructEq
import Derived.Maps.RangeRun
import Derived.Lib.SliceRun
import Derived.TacticsIn
import Derived.OrdersIn
import Derived.Sort.LoopGhostIn
import Derived.RangeFuncRecord
import Derived.Orders
import Derived.ProofKit
import Derived.OpenShut
import Derived.ShutString
import Derived.ChangeOld
import Derived.Carry
import Derived.WideShapes
import Derived.ChangeArms
import Derived.ChangeShapes
import Derived.Handed
import Derived.JoinedOf
import Derived.Sort.Grow
import Derived.Lib.SlicesCompact
import Derived.Lib.SlKeysI
import Derived.Maps.Own
import Derived.WideKeyRuns
import Derived.Test.YtjopghiagoidgaaGreatChecked
import Derived.Test.YtjopghiagoidgaaGreatProg
import Derived.Shelf.SortM.Plain
import Derived.Shelf.SortM.SortNone
import Derived.Shelf.SlIterI.Nil
import Derived.Shelf.Slices.CompactI
namespace Go.Proofs.YtjopghiagoidgaaGreat
open Go Go.Ab
attribute [local irreducible] AWP An B7 Ad Go.Ab.Sub alist dlist Bn Df D7 G5
set_option maxRecDepth 100000
set_option maxHeartbeats 4000000
set_option linter.unusedSimpArgs false
set_option linter.unusedVariables false
noncomputable section
def Hq (k1:Nat) (x_3:B4) (sv:(List (Int×Bool))):Option (Out ((List (Int×Bool))) (Int)):=
 (Jd x_3).bind fun y4=>(bif (!y4)then some (Out.ret 2)else (bif (mget false sv x_3.ID)then some (Out.ret 7)else (bif ((decide (x_3.To≠0)) !=(decide (x_3.State=1)))then some (Out.ret 10)else (bif ((decide (x_3.Run≠0)) !=(decide (x_3.State=2)))then some (Out.ret 10)else some (Out.next (mset sv x_3.ID true))))))
def Mc (l:List B4):Option (Int):=
 (bif (decide (16<((l.length:Nat):Int)))then some 4 else(Al Hq 0 l []).bind fun o1=>o1.on fun s1=>some 0)
theorem Zp (l:List B4) {r:Int} (h:Mc l=some r):Ad Tryz.prog 82 [.sl 8 (l.map Ay)] (·= .int .i64 r):=by
 refine Ad.nle (Ad.intro Tryz.func82 rfl rfl (by show _≤43;simp) ?_)
 unfold Mc at h
 refine nS (sq ?_)
 refine ar rfl (qn (sq (sq ?_)))
 refine rg rfl fun K j=>?_
 intro hm
 refine j _ _ (qn ?_)
 revert h;refine ca rfl (fun hc h=>?_) fun hc h=>?_
 ·refine sq (ar rfl (qn (rt (qr ?_))))
  cases h;exact en Tryz.results82
 refine sk (qn (sq (ar rfl (qn (sq (sq ?_))))))
 refine rg rfl fun K j=>?_
 intro hm
 refine j _ _ (qn (bk ?_))
 obtain⟨o1,hJ1,hO1⟩:=Af h
 clear h
 refine AWP.Bw (ι:=Nat×((List (Int×Bool)))×(Unit)) (fun zz=>[(3,.map 0),(10,.sl 8 (l.map Ay)),(11,.int .i64 ((l.length:Nat):Int)),(12,.int .i64 ((zz.1:Nat):Int))]) (fun zz=>[.mp (mpE Y2 zz.2.1)]) (fun zz=>zz.1≤l.length∧Al Hq zz.1 ((l).drop zz.1) zz.2.1=some o1) (fun zz=>l.length - zz.1) (0,[],()) ⟨Nat.zero_le _,hJ1⟩ cu cu (fun x=>⟨rfl,rfl,rfl⟩) ?_
 clear hJ1
 rintro⟨k1,seen1,⟨⟩⟩ ⟨hk1,hJ1⟩
 dsimp only at hk1 hJ1 ⊢
 refine sq (ar rfl (qn (sq ?_)))
 refine AWP.cond (Ak (fun hc=>?_) (fun hc=>?_))
 rotate_left
 ·obtain rfl:=Bf hJ1 (fun hl=>by have:=Ai7 hc;omega)
  have h:=Be hO1;try dsimp only at h
  have hkl:l.length=k1:=by have:=Ai7 hc;omega
  subst hkl
  refine xt (qe (qe (bs (qn (sq (ar rfl (qn (rt ?_))))))))
  cases h;exact en Tryz.results82
 have hlt1:k1<l.length:=by have:=Ai8 hc;omega
 obtain⟨x_3,b1,hx1_,h,hJ1⟩:=Ba hJ1 hlt1
 have hx1:=A2 hx1_
 have hw1:=wk (k:=k1) (by omega)
 unfold Hq at h;try dsimp only at h
 refine sk (qn (sq (bk (sq ?_))))
 refine rg rfl fun K j=>?_
 refine Bn.of (f:=Ay) (l:=l) hx1 ?_
 refine nS ?_
 refine j _ _ (qn (sq (sq ?_)))
 refine rg rfl fun K j=>?_
 obtain⟨y4,hy4,h⟩:=Af h
 refine An.pure Tryz.call175 (W4 x_3 hy4) rfl fun _ hr=>?_
 subst hr
 refine nS ?_
 refine j _ _ (qn ?_)
 revert h;refine ca rfl (fun hc h=>?_) fun hc h=>?_
 ·refine sq (ar rfl (qn (rt (qr (br (qr (qr ?_)))))))
  obtain rfl:=Aa h
  obtain rfl:=Ae hJ1
  replace h:=Am hO1
  refine br (qr ?_)
  cases h;exact en Tryz.results82
 refine sk (qn (sq (sq ?_)))
 refine rg rfl fun K j=>?_
 refine D7.of (f:=Y2) (m:=seen1) (d:=false) rfl ?_
 refine nS ?_
 refine j _ _ (qn ?_)
 revert h;refine ca rfl (fun hc h=>?_) fun hc h=>?_
 ·refine sq (ar rfl (qn (rt (qr (br (qr (qr ?_)))))))
  obtain rfl:=Aa h
  obtain rfl:=Ae hJ1
  replace h:=Am hO1
  refine br (qr ?_)
  cases h;exact en Tryz.results82
 refine sk (qn (sq (ar rfl (qn (sq ?_)))))
 refine rg rfl fun K j=>?_
 revert h;refine gf (fun hc h=>?_) fun hc h=>?_
 ·refine j _ _ (qn ?_)
  revert h;refine ca rfl (fun hc h=>?_) fun hc h=>?_
  ·refine sq (ar rfl (qn (rt (br (qr (qr ?_))))))
   obtain rfl:=Aa h
   obtain rfl:=Ae hJ1
   replace h:=Am hO1
   refine br (qr ?_)
   cases h;exact en Tryz.results82
  refine sk (bn (qn (ar rfl (qn ?_))))
  obtain rfl:=Aa h
  refine⟨(k1+1,(mset seen1 x_3.ID true),()),⟨by dsimp only;omega,Ai hJ1⟩,by dsimp only;omega,?_,?_⟩
  ·exact cuw hw1
  exact cuw hw1
 refine j _ _ (qn ?_)
 refine AWP.cond (Ah ?_)
 refine sq (ar rfl (qn (rt (br (qr (qr ?_))))))
 obtain rfl:=Aa h
 obtain rfl:=Ae hJ1
 replace h:=Am hO1
 refine br (qr ?_)
 cases h;exact en Tryz.results82
def Fa (f_:Aj):Option (Int):=
 (Lz f_.Map).bind fun y1=>(bif (decide (y1≠0))then some y1 else(Me f_.Closures).bind fun y2=>(bif (decide (y2≠0))then some y2 else(N6 f_.Patrol).bind fun y3=>(bif (decide (y3≠0))then some y3 else(L0 f_.Surfaces).bind fun y4=>(bif (decide (y4≠0))then some y4 else(Jg f_.Slides).bind fun y5=>(bif (decide (y5≠0))then some y5 else(Hu f_.Bulletin).bind fun y6=>(bif (decide (y6≠0))then some y6 else(P3 f_.Missions).bind fun y7=>(bif (decide (y7≠0))then some y7 else(Pm f_.Winches).bind fun y8=>(bif (decide (y8≠0))then some y8 else(Mc f_.Groomers).bind fun y9=>some y9))))))))
theorem Sj (f_:Aj) {r:Int} (h:Fa f_=some r):Ad Tryz.prog 37 [.agg (B3 f_)] (·= .int .i64 r):=by
 refine Ad.nle (Ad.intro Tryz.func37 rfl rfl (by show _≤62;simp) ?_)
 unfold Fa at h
 refine nS (sq ?_)
 refine ar rfl (qn (sq (sq ?_)))
 refine rg rfl fun K j=>?_
 obtain⟨y1,hy1,h⟩:=Af h
 refine An.pure Tryz.call74 (Y7 f_.Map hy1) rfl fun _ hr=>?_
 subst hr
 refine nS ?_
 refine j _ _ (qn (sq ?_))
 refine ar rfl (qn ?_)
 revert h;refine ca rfl (fun hc h=>?_) fun hc h=>?_
 ·refine sq (ar rfl (qn (rt (qr ?_))))
  cases h;exact en Tryz.results37
 refine sk (qn (sq (sq ?_)))
 refine rg rfl fun K j=>?_
 obtain⟨y2,hy2,h⟩:=Af h
 refine An.pure Tryz.call75 (Zu f_.Closures hy2) rfl fun _ hr=>?_
 subst hr
 refine nS ?_
 refine j _ _ (qn (sq ?_))
 refine ar rfl (qn ?_)
 revert h;refine ca rfl (fun hc h=>?_) fun hc h=>?_
 ·refine sq (ar rfl (qn (rt (qr ?_))))
  cases h;exact en Tryz.results37
 refine sk (qn (sq (sq ?_)))
 refine rg rfl fun K j=>?_
 obtain⟨y3,hy3,h⟩:=Af h
 refine An.pure Tryz.call76 (aD f_.Patrol hy3) rfl fun _ hr=>?_
 subst hr
 refine nS ?_
 refine j _ _ (qn (sq ?_))
 refine ar rfl (qn ?_)
 revert h;refine ca rfl (fun hc h=>?_) fun hc h=>?_
 ·refine sq (ar rfl (qn (rt (qr ?_))))
  cases h;exact en Tryz.results37
 refine sk (qn (sq (sq ?_)))
 refine rg rfl fun K j=>?_
 obtain⟨y4,hy4,h⟩:=Af h
 refine An.pure Tryz.call77 (Y9 f_.Surfaces hy4) rfl fun _ hr=>?_
 subst hr
 refine nS ?_
 refine j _ _ (qn (sq ?_))
 refine ar rfl (qn ?_)
 revert h;refine ca rfl (fun hc h=>?_) fun hc h=>?_
 ·refine sq (ar rfl (qn (rt (qr ?_))))
  cases h;exact en Tryz.results37
 refine sk (qn (sq (sq ?_)))
 refine rg rfl fun K j=>?_
 obtain⟨y5,hy5,h⟩:=Af h
 refine An.pure Tryz.call78 (Xj f_.Slides hy5) rfl fun _ hr=>?_
 subst hr
 refine nS ?_
 refine j _ _ (qn (sq ?_))
 refine ar rfl (qn ?_)
 revert h;refine ca rfl (fun hc h=>?_) fun hc h=>?_
 ·refine sq (ar rfl (qn (rt (qr ?_))))
  cases h;exact en Tryz.results37
 refine sk (qn (sq (sq ?_)))
 refine rg rfl fun K j=>?_
 obtain⟨y6,hy6,h⟩:=Af h
 refine An.pure Tryz.call79 (Yq f_.Bulletin hy6) rfl fun _ hr=>?_
 subst hr
 refine nS ?_
 refine j _ _ (qn (sq ?_))
 refine ar rfl (qn ?_)
 revert h;refine ca rfl (fun hc h=>?_) fun hc h=>?_
 ·refine sq (ar rfl (qn (rt (qr ?_))))
  cases h;exact en Tryz.results37
 refine sk (qn (sq (sq ?_)))
 refine rg rfl fun K j=>?_
 obtain⟨y7,hy7,h⟩:=Af h
 refine An.pure Tryz.call80 (dE f_.Missions hy7) rfl fun _ hr=>?_
 subst hr
 refine nS ?_
 refine j _ _ (qn (sq ?_))
 refine ar rfl (qn ?_)
 revert h;refine ca rfl (fun hc h=>?_) fun hc h=>?_
 ·refine sq (ar rfl (qn (rt (qr ?_))))
  cases h;exact en Tryz.results37
 refine sk (qn (sq (sq ?_)))
 refine rg rfl fun K j=>?_
 obtain⟨y8,hy8,h⟩:=Af h
 refine An.pure Tryz.call81 (bK f_.Winches hy8) rfl fun _ hr=>?_
 subst hr
 refine nS ?_
 refine j _ _ (qn (sq ?_))
 refine ar rfl (qn ?_)
 revert h;refine ca rfl (fun hc h=>?_) fun hc h=>?_
 ·refine sq (ar rfl (qn (rt (qr ?_))))
  cases h;exact en Tryz.results37
 refine sk (qn (sq ?_))
 refine rg rfl fun K j=>?_
 obtain⟨y9,hy9,h⟩:=Af h
 refine An.pure Tryz.call82 (Zp f_.Groomers hy9) rfl fun _ hr=>?_
 subst hr
 refine nS ?_
 refine j _ _ (qn (rt ?_))
 cases h;exact en Tryz.results37
def P8 (id_:Int) (k0:Nat) (x_2:Cc) (sv:Unit):Option (Out (Unit) (Cc×Bool)):=
 (bif (decide (x_2.ID=id_))then some (Out.ret (x_2,true))else some (Out.next ()))
def Np (m:Bb) (id_:Int):Option (Cc×Bool):=
 (Al (P8 id_) 0 m.Lifts ()).bind fun o0=>o0.on fun s0=>some ((Cc.mk 0 0 0 0 0 0 0 0),false)
theorem Sn (m:Bb) (id_:Int) {r:Cc×Bool} (h:Np m id_=some r):Ad Tryz.prog 83 [.agg (Cf m),.int .i64 id_] (·= .tuple [.agg (A7 r.1),.bool r.2]):=by
 refine Ad.nle (Ad.intro Tryz.func83 rfl rfl (by show _≤22;simp) ?_)
 unfold Np at h
 refine nS (sq ?_)
 refine ar rfl (qn (sq (sq ?_)))
 refine rg rfl fun K j=>?_
 intro hm
 refine j _ _ (qn (bk ?_))
 obtain⟨o0,hJ0,hO0⟩:=Af h
 clear h
 refine AWP.Bw (ι:=Nat×(Unit)×(Unit)) (fun zz=>[(1,.int .i64 id_),(4,.ptr 1 0),(9,.sl 8 (m.Lifts.map A7)),(10,.int .i64 ((m.Lifts.length:Nat):Int)),(11,.int .i64 ((zz.1:Nat):Int))]) (fun zz=>[.gone,.box [.int .i64 0,.int .i64 0,.int .i64 0,.int .i64 0,.int .i64 0,.int .i64 0,.int .i64 0,.int .i64 0]]) (fun zz=>zz.1≤m.Lifts.length∧Al (P8 id_) zz.1 ((m.Lifts).drop zz.1) zz.2.1=some o0) (fun zz=>m.Lifts.length - zz.1) (0,(),()) ⟨Nat.zero_le _,hJ0⟩ cu cu (fun x=>⟨rfl,rfl,rfl⟩) ?_
 clear hJ0
 rintro⟨k0,⟨⟩,⟨⟩⟩ ⟨hk0,hJ0⟩
 dsimp only at hk0 hJ0 ⊢
 refine sq (ar rfl (qn (sq ?_)))
 refine AWP.cond (Ak (fun hc=>?_) (fun hc=>?_))
 rotate_left
 ·obtain rfl:=Bf hJ0 (fun hl=>by have:=Ai7 hc;omega)
  have h:=Be hO0;try dsimp only at h
  have hkl:m.Lifts.length=k0:=by have:=Ai7 hc;omega
  subst hkl
  refine xt (qe (qe (bs (qn (sq (ar rfl (qn (rt ?_))))))))
  cases h;exact en Tryz.results83
 have hlt0:k0<m.Lifts.length:=by have:=Ai8 hc;omega
 obtain⟨x_2,b0,hx0_,h,hJ0⟩:=Ba hJ0 hlt0
 have hx0:=A2 hx0_
 have hw0:=wk (k:=k0) (by omega)
 unfold P8 at h;try dsimp only at h
 refine sk (qn (sq (bk (sq ?_))))
 refine rg rfl fun K j=>?_
 refine Bn.of (f:=A7) (l:=m.Lifts) hx0 ?_
 refine nS ?_
 refine j _ _ (qn (sq ?_))
 refine ar rfl (qn ?_)
 revert h;refine ca rfl (fun hc h=>?_) fun hc h=>?_
 ·refine sq (ar rfl (qn (rt (br (qr (qr ?_))))))
  obtain rfl:=Aa h
  obtain rfl:=Ae hJ0
  replace h:=Am hO0
  refine br (qr ?_)
  cases h;exact en Tryz.results83
 refine sk (bn (qn (ar rfl (qn ?_))))
 obtain rfl:=Aa h
 refine⟨(k0+1,(),()),⟨by dsimp only;omega,Ai hJ0⟩,by dsimp only;omega,?_,?_⟩
 ·exact cuw hw0
 exact cuw hw0
def Ec (f_:Aj) (k0:Nat) (x_2:Cr) (sv:Unit):Option (Out (Unit) (Int)):=
 (bif (decide (0<((k0:Nat):Int)))then (Dk f_.Lifts (IntKind.i64.wrap (((k0:Nat):Int) - 1))).bind fun x_3=>(bif (decide (x_2.Lift≤x_3.Lift))then some (Out.ret 11)else (Np f_.Map x_2.Lift).bind fun y4=>(bif (!y4.2)then some (Out.ret 8)else (bif (decide (x_2.Mode<0))then some (Out.ret 2)else (bif (decide (3<x_2.Mode))then some (Out.ret 2)else some (Out.next ())))))else (Np f_.Map x_2.Lift).bind fun y5=>(bif (!y5.2)then some (Out.ret 8)else (bif (decide (x_2.Mode<0))then some (Out.ret 2)else (bif (decide (3<x_2.Mode))then some (Out.ret 2)else some (Out.next ())))))
def Gp (f_:Aj):Option (Int):=
 (Al (Ec f_) 0 f_.Lifts ()).bind fun o0=>o0.on fun s0=>some 0
theorem Sl (f_:Aj) {r:Int} (h:Gp f_=some r):Ad Tryz.prog 38 [.agg (B3 f_)] (·= .int .i64 r):=by
 refine Ad.nle (Ad.intro Tryz.func38 rfl rfl (by show _≤48;simp) ?_)
 unfold Gp at h
 refine nS (sq ?_)
 refine ar rfl (qn (sq (sq ?_)))
 refine rg rfl fun K j=>?_
 intro hm
 refine j _ _ (qn (bk ?_))
 obtain⟨o0,hJ0,hO0⟩:=Af h
 clear h
 refine AWP.Bw (ι:=Nat×(Unit)×(Unit)) (fun zz=>[(1,.ptr 0 0),(8,.sl 2 (f_.Lifts.map Av)),(9,.int .i64 ((f_.Lifts.length:Nat):Int)),(10,.int .i64 ((zz.1:Nat):Int))]) (fun zz=>[.box [.sl 2 (f_.Map.Nodes.map A6),.sl 8 (f_.Map.Lifts.map A7),.sl 7 (f_.Map.Runs.map Bc),.sl 1 (f_.Map.Bases.map A5),.sl 2 (f_.Lifts.map Av),.sl 4 (f_.Closures.map Aq),.sl 4 (f_.Patrol.Bt.map Au),.sl 3 (f_.Patrol.Hazards.map Az),.sl 3 (f_.Surfaces.map A3),.sl 5 (f_.Packs.map A1),.sl 6 (f_.Slides.map A9),.sl 7 (f_.Bulletin.map Aw),.sl 7 (f_.Missions.map Ap),.sl 4 (f_.Winches.map Ao),.sl 8 (f_.Groomers.map Ay),.sl 3 (f_.Status.map A4),.int .i64 f_.Depth,.int .i64 f_.Time]]) (fun zz=>zz.1≤f_.Lifts.length∧Al (Ec f_) zz.1 ((f_.Lifts).drop zz.1) zz.2.1=some o0) (fun zz=>f_.Lifts.length - zz.1) (0,(),()) ⟨Nat.zero_le _,hJ0⟩ cu cu (fun x=>⟨rfl,rfl,rfl⟩) ?_
 clear hJ0
 rintro⟨k0,⟨⟩,⟨⟩⟩ ⟨hk0,hJ0⟩
 dsimp only at hk0 hJ0 ⊢
 refine sq (ar rfl (qn (sq ?_)))
 refine AWP.cond (Ak (fun hc=>?_) (fun hc=>?_))
 rotate_left
 ·obtain rfl:=Bf hJ0 (fun hl=>by have:=Ai7 hc;omega)
  have h:=Be hO0;try dsimp only at h
  have hkl:f_.Lifts.length=k0:=by have:=Ai7 hc;omega
  subst hkl
  refine xt (qe (qe (bs (qn (sq (ar rfl (qn (rt ?_))))))))
  cases h;exact en Tryz.results38
 have hlt0:k0<f_.Lifts.length:=by have:=Ai8 hc;omega
 obtain⟨x_2,b0,hx0_,h,hJ0⟩:=Ba hJ0 hlt0
 have hx0:=A2 hx0_
 have hw0:=wk (k:=k0) (by omega)
 unfold Ec at h;try dsimp only at h
 refine sk (qn (sq (bk (sq ?_))))
 refine rg rfl fun K j=>?_
 refine Bn.of (f:=Av) (l:=f_.Lifts) hx0 ?_
 refine nS ?_
 refine j _ _ (qn (sq (sq ?_)))
 refine AWP.draw Tryz.mixed (by kernel_rfl) ?_;intro K j
 refine nS ?_
 revert h;refine gt (fun hc h=>?_) fun hc h=>?_
 ·obtain⟨x_3,hx_3,h⟩:=Af h
  refine Bn.of (f:=Av) (l:=f_.Lifts) hx_3 ?_
  refine nS ?_
  refine j _ _ _ (by kernel_rfl) ?_
  refine qn ?_
  revert h;refine ca rfl (fun hc h=>?_) fun hc h=>?_
  ·refine sq (ar rfl (qn (rt (qr (br (qr (qr ?_)))))))
   obtain rfl:=Aa h
   obtain rfl:=Ae hJ0
   replace h:=Am hO0
   refine br (qr ?_)
   cases h;exact en Tryz.results38
  refine sk (qn (sq (sq ?_)))
  refine rg rfl fun K j=>?_
  obtain⟨y4,hy4,h⟩:=Af h
  refine An.pure Tryz.call83 (Sn f_.Map x_2.Lift hy4) rfl fun _ hr=>?_
  subst hr
  refine nS ?_
  refine j _ _ (qn (sq ?_))
  refine ar rfl (qn ?_)
  revert h;refine ca rfl (fun hc h=>?_) fun hc h=>?_
  ·refine sq (ar rfl (qn (rt (qr (br (qr (qr ?_)))))))
   obtain rfl:=Aa h
   obtain rfl:=Ae hJ0
   replace h:=Am hO0
   refine br (qr ?_)
   cases h;exact en Tryz.results38
  refine sk (qn (sq ?_))
  refine rg rfl fun K j=>?_
  revert h;refine gf (fun hc h=>?_) fun hc h=>?_
  ·refine j _ _ (qn ?_)
   revert h;refine ca rfl (fun hc h=>?_) fun hc h=>?_
   ·refine sq (ar rfl (qn (rt (br (qr (qr ?_))))))
    obtain rfl:=Aa h
    obtain rfl:=Ae hJ0
    replace h:=Am hO0
    refine br (qr ?_)
    cases h;exact en Tryz.results38
   refine sk (bn (qn (ar rfl (qn ?_))))
   obtain rfl:=Aa h
   refine⟨(k0+1,(),()),⟨by dsimp only;omega,Ai hJ0⟩,by dsimp only;omega,?_,?_⟩
   ·exact cuw hw0
   exact cuw hw0
  refine j _ _ (qn ?_)
  refine AWP.cond (Ah ?_)
  refine sq (ar rfl (qn (rt (br (qr (qr ?_))))))
  obtain rfl:=Aa h
  obtain rfl:=Ae hJ0
  replace h:=Am hO0
  refine br (qr ?_)
  cases h;exact en Tryz.results38
 refine j _ _ _ (by kernel_rfl) ?_
 refine qn ?_
 refine AWP.cond (Bi ?_)
 refine sk (qn (sq (sq ?_)))
 refine rg rfl fun K j=>?_
 obtain⟨y5,hy5,h⟩:=Af h
 refine An.pure Tryz.call83 (Sn f_.Map x_2.Lift hy5) rfl fun _ hr=>?_
 subst hr
 refine nS ?_
 refine j _ _ (qn (sq ?_))
 refine ar rfl (qn ?_)
 revert h;refine ca rfl (fun hc h=>?_) fun hc h=>?_
 ·refine sq (ar rfl (qn (rt (qr (br (qr (qr ?_)))))))
  obtain rfl:=Aa h
  obtain rfl:=Ae hJ0
  replace h:=Am hO0
  refine br (qr ?_)
  cases h;exact en Tryz.results38
 refine sk (qn (sq ?_))
 refine rg rfl fun K j=>?_
 revert h;refine gf (fun hc h=>?_) fun hc h=>?_
 ·refine j _ _ (qn ?_)
  revert h;refine ca rfl (fun hc h=>?_) fun hc h=>?_
  ·refine sq (ar rfl (qn (rt (br (qr (qr ?_))))))
   obtain rfl:=Aa h
   obtain rfl:=Ae hJ0
   replace h:=Am hO0
   refine br (qr ?_)
   cases h;exact en Tryz.results38
  refine sk (bn (qn (ar rfl (qn ?_))))
  obtain rfl:=Aa h
  refine⟨(k0+1,(),()),⟨by dsimp only;omega,Ai hJ0⟩,by dsimp only;omega,?_,?_⟩
  ·exact cuw hw0
  exact cuw hw0
 refine j _ _ (qn ?_)
 refine AWP.cond (Ah ?_)
 refine sq (ar rfl (qn (rt (br (qr (qr ?_))))))
 obtain rfl:=Aa h
 obtain rfl:=Ae hJ0
 replace h:=Am hO0
 refine br (qr ?_)
 cases h;exact en Tryz.results38
def Eb (f_:Aj) (k0:Nat) (x_2:C6) (sv:Unit):Option (Out (Unit) (Int)):=
 (bif (decide (x_2.Area<1))then some (Out.ret 2)else (bif (decide (10000000<x_2.Area))then some (Out.ret 2)else (Kc x_2.Pack).bind fun y3=>(bif (!y3)then some (Out.ret 2)else (bif (decide (0<((k0:Nat):Int)))then (Dk f_.Packs (IntKind.i64.wrap (((k0:Nat):Int) - 1))).bind fun x_4=>(bif (decide (x_2.Run≤x_4.Run))then some (Out.ret 11)else some (Out.next ()))else some (Out.next ())))))
def Gn (f_:Aj):Option (Int):=
 (Al (Eb f_) 0 f_.Packs ()).bind fun o0=>o0.on fun s0=>some 0
theorem Sk (f_:Aj) {r:Int} (h:Gn f_=some r):Ad Tryz.prog 39 [.agg (B3 f_)] (·= .int .i64 r):=by
 refine Ad.nle (Ad.intro Tryz.func39 rfl rfl (by show _≤42;simp) ?_)
 unfold Gn at h
 refine nS (sq ?_)
 refine ar rfl (qn (sq (sq ?_)))
 refine rg rfl fun K j=>?_
 intro hm
 refine j _ _ (qn (bk ?_))
 obtain⟨o0,hJ0,hO0⟩:=Af h
 clear h
 refine AWP.Bw (ι:=Nat×(Unit)×(Unit)) (fun zz=>[(1,.ptr 0 0),(6,.sl 5 (f_.Packs.map A1)),(7,.int .i64 ((f_.Packs.length:Nat):Int)),(8,.int .i64 ((zz.1:Nat):Int))]) (fun zz=>[.box [.sl 2 (f_.Map.Nodes.map A6),.sl 8 (f_.Map.Lifts.map A7),.sl 7 (f_.Map.Runs.map Bc),.sl 1 (f_.Map.Bases.map A5),.sl 2 (f_.Lifts.map Av),.sl 4 (f_.Closures.map Aq),.sl 4 (f_.Patrol.Bt.map Au),.sl 3 (f_.Patrol.Hazards.map Az),.sl 3 (f_.Surfaces.map A3),.sl 5 (f_.Packs.map A1),.sl 6 (f_.Slides.map A9),.sl 7 (f_.Bulletin.map Aw),.sl 7 (f_.Missions.map Ap),.sl 4 (f_.Winches.map Ao),.sl 8 (f_.Groomers.map Ay),.sl 3 (f_.Status.map A4),.int .i64 f_.Depth,.int .i64 f_.Time]]) (fun zz=>zz.1≤f_.Packs.length∧Al (Eb f_) zz.1 ((f_.Packs).drop zz.1) zz.2.1=some o0) (fun zz=>f_.Packs.length - zz.1) (0,(),()) ⟨Nat.zero_le _,hJ0⟩ cu cu (fun x=>⟨rfl,rfl,rfl⟩) ?_
 clear hJ0
 rintro⟨k0,⟨⟩,⟨⟩⟩ ⟨hk0,hJ0⟩
 dsimp only at hk0 hJ0 ⊢
 refine sq (ar rfl (qn (sq ?_)))
 refine AWP.cond (Ak (fun hc=>?_) (fun hc=>?_))
 rotate_left
 ·obtain rfl:=Bf hJ0 (fun hl=>by have:=Ai7 hc;omega)
  have h:=Be hO0;try dsimp only at h
  have hkl:f_.Packs.length=k0:=by have:=Ai7 hc;omega
  subst hkl
  refine xt (qe (qe (bs (qn (sq (ar rfl (qn (rt ?_))))))))
  cases h;exact en Tryz.results39
 have hlt0:k0<f_.Packs.length:=by have:=Ai8 hc;omega
 obtain⟨x_2,b0,hx0_,h,hJ0⟩:=Ba hJ0 hlt0
 have hx0:=A2 hx0_
 have hw0:=wk (k:=k0) (by omega)
 unfold Eb at h;try dsimp only at h
 refine sk (qn (sq (bk (sq ?_))))
 refine rg rfl fun K j=>?_
 refine Bn.of (f:=A1) (l:=f_.Packs) hx0 ?_
 refine nS ?_
 refine j _ _ (qn (sq (sq ?_)))
 refine rg rfl fun K j=>?_
 revert h;refine gf (fun hc h=>?_) fun hc h=>?_
 rotate_left
 ·refine j _ _ (qn ?_)
  refine AWP.cond (Ah ?_)
  refine sq (ar rfl (qn (rt (qr (br (qr (qr ?_)))))))
  obtain rfl:=Aa h
  obtain rfl:=Ae hJ0
  replace h:=Am hO0
  refine br (qr ?_)
  cases h;exact en Tryz.results39
 revert h;refine gf (fun hc h=>?_) fun hc h=>?_
 rotate_left
 ·refine j _ _ (qn ?_)
  refine AWP.cond (Ah ?_)
  refine sq (ar rfl (qn (rt (qr (br (qr (qr ?_)))))))
  obtain rfl:=Aa h
  obtain rfl:=Ae hJ0
  replace h:=Am hO0
  refine br (qr ?_)
  cases h;exact en Tryz.results39
 obtain⟨y3,hy3,h⟩:=Af h
 refine An.pure Tryz.call84 (Qk x_2.Pack hy3) rfl fun _ hr=>?_
 subst hr
 refine nS ?_
 refine j _ _ (qn ?_)
 revert h;refine ca rfl (fun hc h=>?_) fun hc h=>?_
 ·refine sq (ar rfl (qn (rt (qr (br (qr (qr ?_)))))))
  obtain rfl:=Aa h
  obtain rfl:=Ae hJ0
  replace h:=Am hO0
  refine br (qr ?_)
  cases h;exact en Tryz.results39
 refine sk (qn (sq ?_))
 refine AWP.draw Tryz.mixed (by kernel_rfl) ?_;intro K j
 refine nS ?_
 revert h;refine gt (fun hc h=>?_) fun hc h=>?_
 ·obtain⟨x_4,hx_4,h⟩:=Af h
  refine Bn.of (f:=A1) (l:=f_.Packs) hx_4 ?_
  refine nS ?_
  refine j _ _ _ (by kernel_rfl) ?_
  refine qn ?_
  revert h;refine ca rfl (fun hc h=>?_) fun hc h=>?_
  ·refine sq (ar rfl (qn (rt (br (qr (qr ?_))))))
   obtain rfl:=Aa h
   obtain rfl:=Ae hJ0
   replace h:=Am hO0
   refine br (qr ?_)
   cases h;exact en Tryz.results39
  refine sk (bn (qn (ar rfl (qn ?_))))
  obtain rfl:=Aa h
  refine⟨(k0+1,(),()),⟨by dsimp only;omega,Ai hJ0⟩,by dsimp only;omega,?_,?_⟩
  ·exact cuw hw0
  exact cuw hw0
 refine j _ _ _ (by kernel_rfl) ?_
 refine qn ?_
 refine AWP.cond (Bi ?_)
 refine sk (bn (qn (ar rfl (qn ?_))))
 obtain rfl:=Aa h
 refine⟨(k0+1,(),()),⟨by dsimp only;omega,Ai hJ0⟩,by dsimp only;omega,?_,?_⟩
 ·exact cuw hw0
 exact cuw hw0
def D4 (f_:Aj) (k0:Nat) (x_2:Bj) (sv:Unit):Option (Out (Unit) (Int)):=
 (bif (decide (0<((k0:Nat):Int)))then (Dk f_.Status (IntKind.i64.wrap (((k0:Nat):Int) - 1))).bind fun x_3=>(bif (decide (x_2.Run≤x_3.Run))then some (Out.ret 11)else (E4 f_.Map x_2.Run).bind fun y4=>(bif (!y4.2)then some (Out.ret 8)else (bif (decide (x_2.Since<0))then some (Out.ret 2)else (bif (decide (20000000<x_2.Since))then some (Out.ret 2)else some (Out.next ())))))else (E4 f_.Map x_2.Run).bind fun y5=>(bif (!y5.2)then some (Out.ret 8)else (bif (decide (x_2.Since<0))then some (Out.ret 2)else (bif (decide (20000000<x_2.Since))then some (Out.ret 2)else some (Out.next ())))))
def Ge (f_:Aj):Option (Int):=
 (Al (D4 f_) 0 f_.Status ()).bind fun o0=>o0.on fun s0=>some 0
theorem R1 (f_:Aj) {r:Int} (h:Ge f_=some r):Ad Tryz.prog 40 [.agg (B3 f_)] (·= .int .i64 r):=by
 refine Ad.nle (Ad.intro Tryz.func40 rfl rfl (by show _≤48;simp) ?_)
 unfold Ge at h
 refine nS (sq ?_)
 refine ar rfl (qn (sq (sq ?_)))
 refine rg rfl fun K j=>?_
 intro hm
 refine j _ _ (qn (bk ?_))
 obtain⟨o0,hJ0,hO0⟩:=Af h
 clear h
 refine AWP.Bw (ι:=Nat×(Unit)×(Unit)) (fun zz=>[(1,.ptr 0 0),(8,.sl 3 (f_.Status.map A4)),(9,.int .i64 ((f_.Status.length:Nat):Int)),(10,.int .i64 ((zz.1:Nat):Int))]) (fun zz=>[.box [.sl 2 (f_.Map.Nodes.map A6),.sl 8 (f_.Map.Lifts.map A7),.sl 7 (f_.Map.Runs.map Bc),.sl 1 (f_.Map.Bases.map A5),.sl 2 (f_.Lifts.map Av),.sl 4 (f_.Closures.map Aq),.sl 4 (f_.Patrol.Bt.map Au),.sl 3 (f_.Patrol.Hazards.map Az),.sl 3 (f_.Surfaces.map A3),.sl 5 (f_.Packs.map A1),.sl 6 (f_.Slides.map A9),.sl 7 (f_.Bulletin.map Aw),.sl 7 (f_.Missions.map Ap),.sl 4 (f_.Winches.map Ao),.sl 8 (f_.Groomers.map Ay),.sl 3 (f_.Status.map A4),.int .i64 f_.Depth,.int .i64 f_.Time]]) (fun zz=>zz.1≤f_.Status.length∧Al (D4 f_) zz.1 ((f_.Status).drop zz.1) zz.2.1=some o0) (fun zz=>f_.Status.length - zz.1) (0,(),()) ⟨Nat.zero_le _,hJ0⟩ cu cu (fun x=>⟨rfl,rfl,rfl⟩) ?_
 clear hJ0
 rintro⟨k0,⟨⟩,⟨⟩⟩ ⟨hk0,hJ0⟩
 dsimp only at hk0 hJ0 ⊢
 refine sq (ar rfl (qn (sq ?_)))
 refine AWP.cond (Ak (fun hc=>?_) (fun hc=>?_))
 rotate_left
 ·obtain rfl:=Bf hJ0 (fun hl=>by have:=Ai7 hc;omega)
  have h:=Be hO0;try dsimp only at h
  have hkl:f_.Status.length=k0:=by have:=Ai7 hc;omega
  subst hkl
  refine xt (qe (qe (bs (qn (sq (ar rfl (qn (rt ?_))))))))
  cases h;exact en Tryz.results40
 have hlt0:k0<f_.Status.length:=by have:=Ai8 hc;omega
 obtain⟨x_2,b0,hx0_,h,hJ0⟩:=Ba hJ0 hlt0
 have hx0:=A2 hx0_
 have hw0:=wk (k:=k0) (by omega)
 unfold D4 at h;try dsimp only at h
 refine sk (qn (sq (bk (sq ?_))))
 refine rg rfl fun K j=>?_
 refine Bn.of (f:=A4) (l:=f_.Status) hx0 ?_
 refine nS ?_
 refine j _ _ (qn (sq (sq ?_)))
 refine AWP.draw Tryz.mixed (by kernel_rfl) ?_;intro K j
 refine nS ?_
 revert h;refine gt (fun hc h=>?_) fun hc h=>?_
 ·obtain⟨x_3,hx_3,h⟩:=Af h
  refine Bn.of (f:=A4) (l:=f_.Status) hx_3 ?_
  refine nS ?_
  refine j _ _ _ (by kernel_rfl) ?_
  refine qn ?_
  revert h;refine ca rfl (fun hc h=>?_) fun hc h=>?_
  ·refine sq (ar rfl (qn (rt (qr (br (qr (qr ?_)))))))
   obtain rfl:=Aa h
   obtain rfl:=Ae hJ0
   replace h:=Am hO0
   refine br (qr ?_)
   cases h;exact en Tryz.results40
  refine sk (qn (sq (sq ?_)))
  refine rg rfl fun K j=>?_
  obtain⟨y4,hy4,h⟩:=Af h
  refine An.pure Tryz.call53 (D9 f_.Map x_2.Run hy4) rfl fun _ hr=>?_
  subst hr
  refine nS ?_
  refine j _ _ (qn (sq ?_))
  refine ar rfl (qn ?_)
  revert h;refine ca rfl (fun hc h=>?_) fun hc h=>?_
  ·refine sq (ar rfl (qn (rt (qr (br (qr (qr ?_)))))))
   obtain rfl:=Aa h
   obtain rfl:=Ae hJ0
   replace h:=Am hO0
   refine br (qr ?_)
   cases h;exact en Tryz.results40
  refine sk (qn (sq ?_))
  refine rg rfl fun K j=>?_
  revert h;refine gf (fun hc h=>?_) fun hc h=>?_
  ·refine j _ _ (qn ?_)
   revert h;refine ca rfl (fun hc h=>?_) fun hc h=>?_
   ·refine sq (ar rfl (qn (rt (br (qr (qr ?_))))))
    obtain rfl:=Aa h
    obtain rfl:=Ae hJ0
    replace h:=Am hO0
    refine br (qr ?_)
    cases h;exact en Tryz.results40
   refine sk (bn (qn (ar rfl (qn ?_))))
   obtain rfl:=Aa h
   refine⟨(k0+1,(),()),⟨by dsimp only;omega,Ai hJ0⟩,by dsimp only;omega,?_,?_⟩
   ·exact cuw hw0
   exact cuw hw0
  refine j _ _ (qn ?_)
  refine AWP.cond (Ah ?_)
  refine sq (ar rfl (qn (rt (br (qr (qr ?_))))))
  obtain rfl:=Aa h
  obtain rfl:=Ae hJ0
  replace h:=Am hO0
  refine br (qr ?_)
  cases h;exact en Tryz.results40
 refine j _ _ _ (by kernel_rfl) ?_
 refine qn ?_
 refine AWP.cond (Bi ?_)
 refine sk (qn (sq (sq ?_)))
 refine rg rfl fun K j=>?_
 obtain⟨y5,hy5,h⟩:=Af h
 refine An.pure Tryz.call53 (D9 f_.Map x_2.Run hy5) rfl fun _ hr=>?_
 subst hr
 refine nS ?_
 refine j _ _ (qn (sq ?_))
 refine ar rfl (qn ?_)
 revert h;refine ca rfl (fun hc h=>?_) fun hc h=>?_
 ·refine sq (ar rfl (qn (rt (qr (br (qr (qr ?_)))))))
  obtain rfl:=Aa h
  obtain rfl:=Ae hJ0
  replace h:=Am hO0
  refine br (qr ?_)
  cases h;exact en Tryz.results40
 refine sk (qn (sq ?_))
 refine rg rfl fun K j=>?_
 revert h;refine gf (fun hc h=>?_) fun hc h=>?_
 ·refine j _ _ (qn ?_)
  revert h;refine ca rfl (fun hc h=>?_) fun hc h=>?_
  ·refine sq (ar rfl (qn (rt (br (qr (qr ?_))))))
   obtain rfl:=Aa h
   obtain rfl:=Ae hJ0
   replace h:=Am hO0
   refine br (qr ?_)
   cases h;exact en Tryz.results40
  refine sk (bn (qn (ar rfl (qn ?_))))
  obtain rfl:=Aa h
  refine⟨(k0+1,(),()),⟨by dsimp only;omega,Ai hJ0⟩,by dsimp only;omega,?_,?_⟩
  ·exact cuw hw0
  exact cuw hw0
 refine j _ _ (qn ?_)
 refine AWP.cond (Ah ?_)
 refine sq (ar rfl (qn (rt (br (qr (qr ?_))))))
 obtain rfl:=Aa h
 obtain rfl:=Ae hJ0
 replace h:=Am hO0
 refine br (qr ?_)
 cases h;exact en Tryz.results40
def Gh (f_:Aj):Option (Int):=
 (Fa f_).bind fun y1=>(bif (decide (y1≠0))then some y1 else(bif (decide (32<((f_.Lifts.length:Nat):Int)))then some 4 else(bif (decide (64<((f_.Packs.length:Nat):Int)))then some 4 else(bif (decide (64<((f_.Status.length:Nat):Int)))then some 4 else(Gp f_).bind fun y2=>(bif (decide (y2≠0))then some y2 else(Gn f_).bind fun y3=>(bif (decide (y3≠0))then some y3 else(Ge f_).bind fun y4=>(bif (decide (y4≠0))then some y4 else(bif (decide (f_.Depth<0))then some 2 else(bif (decide (10000<f_.Depth))then some 2 else(bif (decide (f_.Time<0))then some 2 else(bif (decide (20000000<f_.Time))then some 2 else some 0)))))))))))
theorem Wz (f_:Aj) {r:Int} (h:Gh f_=some r):Ad Tryz.prog 12 [.agg (B3 f_)] (·= .int .i64 r):=by
 refine Ad.nle (Ad.intro Tryz.func12 rfl rfl (by show _≤61;simp) ?_)
 unfold Gh at h
 refine nS (sq ?_)
 refine ar rfl (qn (sq (sq ?_)))
 refine rg rfl fun K j=>?_
 obtain⟨y1,hy1,h⟩:=Af h
 refine An.pure Tryz.call37 (Sj f_ hy1) rfl fun _ hr=>?_
 subst hr
 refine nS ?_
 refine j _ _ (qn (sq ?_))
 refine ar rfl (qn ?_)
 revert h;refine ca rfl (fun hc h=>?_) fun hc h=>?_
 ·refine sq (ar rfl (qn (rt (qr ?_))))
  cases h;exact en Tryz.results12
 refine sk (qn (sq (sq ?_)))
 refine rg rfl fun K j=>?_
 intro hm
 revert h;refine gf (fun hc h=>?_) fun hc h=>?_
 rotate_left
 ·refine j _ _ (qn ?_)
  refine AWP.cond (Ah ?_)
  refine sq (ar rfl (qn (rt (qr ?_))))
  cases h;exact en Tryz.results12
 intro hm
 revert h;refine gf (fun hc h=>?_) fun hc h=>?_
 rotate_left
 ·refine j _ _ (qn ?_)
  refine AWP.cond (Ah ?_)
  refine sq (ar rfl (qn (rt (qr ?_))))
  cases h;exact en Tryz.results12
 intro hm
 refine j _ _ (qn ?_)
 revert h;refine ca rfl (fun hc h=>?_) fun hc h=>?_
 ·refine sq (ar rfl (qn (rt (qr ?_))))
  cases h;exact en Tryz.results12
 refine sk (qn (sq (sq ?_)))
 refine rg rfl fun K j=>?_
 obtain⟨y2,hy2,h⟩:=Af h
 refine An.pure Tryz.call38 (Sl f_ hy2) rfl fun _ hr=>?_
 subst hr
 refine nS ?_
 refine j _ _ (qn (sq ?_))
 refine ar rfl (qn ?_)
 revert h;refine ca rfl (fun hc h=>?_) fun hc h=>?_
 ·refine sq (ar rfl (qn (rt (qr ?_))))
  cases h;exact en Tryz.results12
 refine sk (qn (sq (sq ?_)))
 refine rg rfl fun K j=>?_
 obtain⟨y3,hy3,h⟩:=Af h
 refine An.pure Tryz.call39 (Sk f_ hy3) rfl fun _ hr=>?_
 subst hr
 refine nS ?_
 refine j _ _ (qn (sq ?_))
 refine ar rfl (qn ?_)
 revert h;refine ca rfl (fun hc h=>?_) fun hc h=>?_
 ·refine sq (ar rfl (qn (rt (qr ?_))))
  cases h;exact en Tryz.results12
 refine sk (qn (sq (sq ?_)))
 refine rg rfl fun K j=>?_
 obtain⟨y4,hy4,h⟩:=Af h
 refine An.pure Tryz.call40 (R1 f_ hy4) rfl fun _ hr=>?_
 subst hr
 refine nS ?_
 refine j _ _ (qn (sq ?_))
 refine ar rfl (qn ?_)
 revert h;refine ca rfl (fun hc h=>?_) fun hc h=>?_
 ·refine sq (ar rfl (qn (rt (qr ?_))))
  cases h;exact en Tryz.results12
 refine sk (qn (sq (sq ?_)))
 refine rg rfl fun K j=>?_
 revert h;refine gf (fun hc h=>?_) fun hc h=>?_
 ·revert h;refine gf (fun hc h=>?_) fun hc h=>?_
  ·revert h;refine gf (fun hc h=>?_) fun hc h=>?_
   ·refine j _ _ (qn ?_)
    revert h;refine ca rfl (fun hc h=>?_) fun hc h=>?_
    ·refine sq (ar rfl (qn (rt (qr ?_))))
     cases h;exact en Tryz.results12
    refine sk (qn (sq (ar rfl (qn (rt ?_)))))
    cases h;exact en Tryz.results12
   refine j _ _ (qn ?_)
   refine AWP.cond (Ah ?_)
   refine sq (ar rfl (qn (rt (qr ?_))))
   cases h;exact en Tryz.results12
  refine j _ _ (qn ?_)
  refine AWP.cond (Ah ?_)
  refine sq (ar rfl (qn (rt (qr ?_))))
  cases h;exact en Tryz.results12
 refine j _ _ (qn ?_)
 refine AWP.cond (Ah ?_)
 refine sq (ar rfl (qn (rt (qr ?_))))
 cases h;exact en Tryz.results12
def Oe (f_:Aj) (set_5:List Int) (k9:Nat) (x_11:Int) (sv:(List Int)):Option (Out ((List Int)) (Out ((List Int)) ((List Int)))):=
 (Ed f_ set_5 x_11).bind fun y12=>(bif y12 then chk (sv.length+1) (some (Out.next (sv++[x_11])))else some (Out.next sv))
def Og (f_:Aj) (sv:(List Int)):Option (Out ((List Int)) ((List Int))):=
 (Al (Oe f_ sv) 0 sv []).bind fun o9=>o9.on fun s9=>(bif (decide (((s9.length:Nat):Int)=((sv.length:Nat):Int)))then some (Out.ret s9)else some (Out.next s9))
def Od (f_:Aj) (set_22:List Int) (k26:Nat) (x_28:Int) (sv:(List Int)):Option (Out ((List Int)) (Out ((List Int)) ((List Int)))):=
 (Ed f_ set_22 x_28).bind fun y29=>(bif y29 then chk (sv.length+1) (some (Out.next (sv++[x_28])))else some (Out.next sv))
def Jz (f_:Aj) (sv:(List Int)):Option (Out ((List Int)) ((List Int))):=
 (Al (Od f_ sv) 0 sv []).bind fun o26=>o26.on fun s26=>(bif (decide (((s26.length:Nat):Int)=((sv.length:Nat):Int)))then some (Out.ret s26)else some (Out.next s26))
def Dz (f_:Aj) (sv:Int×Int×(List Int)):Option (Out (Int×Int×(List Int)) ((List Int))):=
 (bif (decide (sv.2.1<((sv.2.2.length:Nat):Int)))then (Dk sv.2.2 sv.2.1).bind fun x_18=>(Cz f_ x_18).bind fun y19=>(bif (!(decide (y19≠(0:Int))))then (Dk sv.2.2 sv.1).bind fun x_20=>some (Out.next ((IntKind.i64.wrap (sv.1+(1:Int))),(IntKind.i64.wrap (sv.2.1+(1:Int))),(sv.2.2.set sv.1.toNat x_18)))else some (Out.next (sv.1,(IntKind.i64.wrap (sv.2.1+(1:Int))),sv.2.2)))else (okB (decide ((0:Int)≤sv.1∧sv.1≤((sv.2.2.length:Nat):Int))) (okB (decide ((0:Int)≤sv.1∧sv.1≤((sv.2.2.length:Nat):Int))) ((D8 (Jz f_) fuel (((sv.2.2.take sv.1.toNat)++(List.replicate (sv.2.2.length - sv.1.toNat) (0:Int))).take sv.1.toNat)).bind fun o23=>o23.on fun _=>none))).bind fun q29=>some (Out.ret q29))
def Fi (f_:Aj) (set_32:List Int) (k36:Nat) (x_38:Int) (sv:(List Int)):Option (Out ((List Int)) (Out ((List Int)) ((List Int)))):=
 (Ed f_ set_32 x_38).bind fun y39=>(bif y39 then chk (sv.length+1) (some (Out.next (sv++[x_38])))else some (Out.next sv))
def Dm (f_:Aj) (sv:(List Int)):Option (Out ((List Int)) ((List Int))):=
 (Al (Fi f_ sv) 0 sv []).bind fun o36=>o36.on fun s36=>(bif (decide (((s36.length:Nat):Int)=((sv.length:Nat):Int)))then some (Out.ret s36)else some (Out.next s36))
def Fj (f_:Aj) (y1:(List Int)) (k1:Nat) (x_3:Int) (sv:Unit):Option (Out (Unit) ((List Int))):=
 (Cz f_ x_3).bind fun y4=>(bif (decide (y4≠0))then ((bif (decide (((k1:Nat):Int)=(-1)))then (D8 (Og f_) fuel (Ch (Dd y1))).bind fun o6=>o6.on fun _=>none else(D8 (Dz f_) fuel (((k1:Nat):Int),(IntKind.i64.wrap (((k1:Nat):Int)+1)),(Ch (Dd y1)))).bind fun o16=>o16.on fun _=>none)).bind fun q30=>some (Out.ret q30)else some (Out.next ()))
def Dw (f_:Aj) (runs:List Int):Option ((List Int)):=
 (B8 runs).bind fun y1=>chk y1.length (chk y1.length ((Al (Fj f_ y1) 0 (Ch (Dd y1)) ()).bind fun o1=>o1.on fun s1=>(D8 (Dm f_) fuel (Ch (Dd y1))).bind fun o33=>o33.on fun _=>none))
theorem Gt (f_:Aj) (runs:List Int) {r:(List Int)} (h:Dw f_ runs=some r):Bp Tryz.prog 29 [.agg (B3 f_),.sl 1 (runs.map A5)] (·= .sl 1 (r.map A5)):=by
 refine Bp.nle (Bp.intro Tryz.func29 rfl rfl (by show _≤40;simp) ?_)
 unfold Dw at h
 refine nS (sq ?_)
 refine ar rfl (qn (sq ?_))
 refine rg rfl fun K j=>?_
 obtain⟨y1,hy1,h⟩:=Af h
 refine An.row Tryz.call67 (E0 runs hy1) rfl 1 rfl ?_
 (try simp +decide -implicitDefEqProofs only[go_sem,List.length_map])
 refine j _ _ (qn (sq ?_))
 refine rg rfl fun K j=>?_
 obtain⟨hk,h⟩:=B6 h
 refine An.Dd Tryz.call68 Tryz.sorts68 rfl (by first | rfl | exact(Cl _).symm | (simp only[List.length_append,List.length_cons,List.length_nil,List.length_set,List.length_replicate]<;>omega)) hk ?_
 refine nS ?_
 refine j _ _ (qn (sq ?_))
 refine rg rfl fun K j=>?_
 obtain⟨hk,h⟩:=B6 h
 refine An.Ch Tryz.call69 Tryz.compacts69 rfl (by first | rfl | exact(Cl _).symm | (simp only[List.length_append,List.length_cons,List.length_nil,List.length_set,List.length_replicate]<;>omega)) hk ?_
 refine nS ?_
 refine j _ _ (qn (sq ?_))
 refine rg rfl fun K j=>?_
 refine An.inline Tryz.call70 Tryz.func70 rfl rfl (by show _≤42;simp) ?_
 refine nS (sq ?_)
 refine ar rfl (qn (sq ?_))
 refine rg rfl fun K j=>?_
 refine An.inline Tryz.call150 Tryz.func150 rfl rfl (by show _≤19;simp) ?_
 refine nS (sq ?_)
 refine ar rfl (qn (sq (sq ?_)))
 refine rg rfl fun K j=>?_
 intro hm
 refine j _ _ (qn (bk ?_));clear j K
 obtain⟨o1,hJ1,hO1⟩:=Af h
 clear h
 refine AWP.Bw (ι:=Nat×(Unit)×(Unit)) (fun zz=>[(0,.own 1 1 0 (Ch (Dd y1)).length),(1,.func 71 [.ptr 0 0]),(7,.int .i64 (((Ch (Dd y1)).length:Nat):Int)),(8,.int .i64 ((zz.1:Nat):Int))]) (fun zz=>[.box [.sl 2 (f_.Map.Nodes.map A6),.sl 8 (f_.Map.Lifts.map A7),.sl 7 (f_.Map.Runs.map Bc),.sl 1 (f_.Map.Bases.map A5),.sl 2 (f_.Lifts.map Av),.sl 4 (f_.Closures.map Aq),.sl 4 (f_.Patrol.Bt.map Au),.sl 3 (f_.Patrol.Hazards.map Az),.sl 3 (f_.Surfaces.map A3),.sl 5 (f_.Packs.map A1),.sl 6 (f_.Slides.map A9),.sl 7 (f_.Bulletin.map Aw),.sl 7 (f_.Missions.map Ap),.sl 4 (f_.Winches.map Ao),.sl 8 (f_.Groomers.map Ay),.sl 3 (f_.Status.map A4),.int .i64 f_.Depth,.int .i64 f_.Time],.row 1 1 ((Ch (Dd y1)).map A5)]) (fun zz=>zz.1≤(Ch (Dd y1)).length∧Al (Fj f_ y1) zz.1 (((Ch (Dd y1))).drop zz.1) zz.2.1=some o1) (fun zz=>(Ch (Dd y1)).length - zz.1) (0,(),()) ⟨Nat.zero_le _,hJ1⟩ cu cu (fun x=>⟨rfl,rfl,rfl⟩) ?_
 clear hJ1
 rintro⟨k1,⟨⟩,⟨⟩⟩ ⟨hk1,hJ1⟩
 dsimp only at hk1 hJ1 ⊢
 refine sq (ar rfl (qn (sq ?_)))
 refine AWP.cond (Ak (fun hc=>?_) (fun hc=>?_))
 rotate_left
 ·obtain rfl:=Bf hJ1 (fun hl=>by have:=Ai7 hc;omega)
  have h:=Be hO1;try dsimp only at h
  have hkl:(Ch (Dd y1)).length=k1:=by have:=Ai7 hc;omega
  subst hkl
  refine xt (qe (qe (bs (qn (sq (ar rfl (qn (rt ?_))))))))
  refine nSc Tryz.results150 ?_
  refine j _ _ (qn (sq (sq ?_)));clear j K
  refine ar rfl (qn ?_)
  refine AWP.cond (Ah ?_)
  refine sq (ar rfl (qn (rt (qr ?_))))
  refine nSc Tryz.results70 ?_
  refine j _ _ (qn (bk ?_))
  obtain⟨o33,hJ33,hO33⟩:=Af h
  clear h
  refine AWP.nQ (ι:=Nat×((List Int))×(Nat)) (fun zz=>[(2,.ptr 0 0),(5,.own 1 zz.2.2 0 zz.2.1.length)]) (fun zz=>[.box [.sl 2 (f_.Map.Nodes.map A6),.sl 8 (f_.Map.Lifts.map A7),.sl 7 (f_.Map.Runs.map Bc),.sl 1 (f_.Map.Bases.map A5),.sl 2 (f_.Lifts.map Av),.sl 4 (f_.Closures.map Aq),.sl 4 (f_.Patrol.Bt.map Au),.sl 3 (f_.Patrol.Hazards.map Az),.sl 3 (f_.Surfaces.map A3),.sl 5 (f_.Packs.map A1),.sl 6 (f_.Slides.map A9),.sl 7 (f_.Bulletin.map Aw),.sl 7 (f_.Missions.map Ap),.sl 4 (f_.Winches.map Ao),.sl 8 (f_.Groomers.map Ay),.sl 3 (f_.Status.map A4),.int .i64 f_.Depth,.int .i64 f_.Time],.row zz.2.2 1 (zz.2.1.map A5)]) (fun zz=>D8 (Dm f_) zz.1 zz.2.1=some o33) (fun zz=>zz.1) (fuel,(Ch (Dd y1)),1) hJ33 cu cu (fun x=>⟨rfl,rfl,rfl⟩) ?_
  clear hJ33
  rintro⟨n33,set_32,ver33⟩ hJ33
  dsimp only at hJ33 ⊢
  obtain⟨m33,b33,rfl,h,hJ33⟩:=J9 hJ33
  unfold Dm at h;try dsimp only at h
  refine bk (sq (ar rfl (qn (sq (sq ?_)))))
  refine rg rfl fun K j=>?_
  intro hm
  refine j _ _ (qn (bk ?_))
  refine AWP.ghost 6 1 rfl (by decide) ?_
  obtain⟨o36,hJ36,hO36⟩:=Af h
  clear h
  refine AWP.Bw (ι:=Nat×((List Int))×(Nat)) (fun zz=>[(2,.ptr 0 0),(5,.own 1 ver33 0 set_32.length),(6,.own 2 zz.2.2 0 zz.2.1.length),(18,.own 1 ver33 0 set_32.length),(19,.int .i64 ((set_32.length:Nat):Int)),(20,.int .i64 ((zz.1:Nat):Int))]) (fun zz=>[.box [.sl 2 (f_.Map.Nodes.map A6),.sl 8 (f_.Map.Lifts.map A7),.sl 7 (f_.Map.Runs.map Bc),.sl 1 (f_.Map.Bases.map A5),.sl 2 (f_.Lifts.map Av),.sl 4 (f_.Closures.map Aq),.sl 4 (f_.Patrol.Bt.map Au),.sl 3 (f_.Patrol.Hazards.map Az),.sl 3 (f_.Surfaces.map A3),.sl 5 (f_.Packs.map A1),.sl 6 (f_.Slides.map A9),.sl 7 (f_.Bulletin.map Aw),.sl 7 (f_.Missions.map Ap),.sl 4 (f_.Winches.map Ao),.sl 8 (f_.Groomers.map Ay),.sl 3 (f_.Status.map A4),.int .i64 f_.Depth,.int .i64 f_.Time],.row ver33 1 (set_32.map A5),.row zz.2.2 1 (zz.2.1.map A5)]) (fun zz=>zz.1≤set_32.length∧Al (Fi f_ set_32) zz.1 ((set_32).drop zz.1) zz.2.1=some o36) (fun zz=>set_32.length - zz.1) (0,[],0) ⟨Nat.zero_le _,hJ36⟩ cu cu (fun x=>⟨rfl,rfl,rfl⟩) ?_
  clear hJ36
  rintro⟨k36,left35,ver36⟩ ⟨hk36,hJ36⟩
  dsimp only at hk36 hJ36 ⊢
  refine sq (ar rfl (qn (sq ?_)))
  refine AWP.cond (Ak (fun hc=>?_) (fun hc=>?_))
  ·have hlt36:k36<set_32.length:=by have:=Ai8 hc;omega
   obtain⟨x_38,b36,hx36_,h,hJ36⟩:=Ba hJ36 hlt36
   have hx36:=A2 hx36_
   have hw36:=wk (k:=k36) (by omega)
   unfold Fi at h;try dsimp only at h
   refine sk (qn (sq (bk (sq ?_))))
   refine rg rfl fun K j=>?_
   refine Kw hx36 (by first | rfl | exact(Cl _).symm | (simp only[List.length_append,List.length_cons,List.length_nil,List.length_set,List.length_replicate]<;>omega)) ?_
   refine nS ?_
   refine Df.ofNat (f:=A5) (l:=set_32) (n:=k36) hx36 ?_
   refine nS ?_
   refine j _ _ (qn (sq ?_))
   refine rg rfl fun K j=>?_
   obtain⟨y39,hy39,h⟩:=Af h
   refine An.snap Tryz.call49 (Gf f_ set_32 x_38 hy39) (by simp +decide -implicitDefEqProofs only[go_sem]) (by rintro _ rfl;rfl) fun _ hr=>?_
   subst hr
   refine nS ?_
   refine j _ _ (qn ?_)
   revert h;refine ca rfl (fun hc h=>?_) fun hc h=>?_
   ·refine rg rfl fun K j=>?_
    obtain⟨hk,h⟩:=B6 h
    (repeat refine rp ?_);try simp +decide -implicitDefEqProofs only[go_sem]
    refine j _ _ (bn (qn ?_))
    refine ar rfl (qn ?_)
    obtain rfl:=Aa h
    refine⟨(k36+1,(left35++[x_38]),(ver36+1)),⟨by dsimp only;omega,Ai hJ36⟩,by dsimp only;omega,?_,?_⟩
    ·exact cuw hw36
    exact cuw hw36
   refine sk (bn (qn (ar rfl (qn ?_))))
   obtain rfl:=Aa h
   refine⟨(k36+1,left35,ver36),⟨by dsimp only;omega,Ai hJ36⟩,by dsimp only;omega,?_,?_⟩
   ·exact cuw hw36
   exact cuw hw36
  obtain rfl:=Bf hJ36 (fun hl=>by have:=Ai7 hc;omega)
  have h:=Be hO36;try dsimp only at h
  have hkl:set_32.length=k36:=by have:=Ai7 hc;omega
  subst hkl
  refine xt (qe (qe (bs (qn (sq (sq ?_))))))
  refine rg rfl fun K j=>?_
  intro hm
  intro hm
  refine j _ _ (qn ?_)
  revert h;refine ca rfl (fun hc h=>?_) fun hc h=>?_
  ·refine sq (ar rfl (qn (rt (qr (br (qr ?_))))))
   obtain rfl:=Aa h
   obtain rfl:=Ae hJ33
   replace h:=Am hO33
   refine br ?_
   cases h;exact en Tryz.results29
  refine sk (qn (ar rfl (bn (qn ?_))))
  obtain rfl:=Aa h
  refine⟨(m33,left35,ver36),Ai hJ33,by dsimp only;omega,_,_,Sub.swap 2 1 rfl rfl rfl,?_,?_⟩
  ·exact cu
  exact cu
 have hlt1:k1<(Ch (Dd y1)).length:=by have:=Ai8 hc;omega
 obtain⟨x_3,b1,hx1_,h,hJ1⟩:=Ba hJ1 hlt1
 have hx1:=A2 hx1_
 have hw1:=wk (k:=k1) (by omega)
 unfold Fj at h;try dsimp only at h
 refine sk (qn (sq (bk (sq (ar rfl (qn (sq ?_)))))))
 refine rg rfl fun K j=>?_
 refine Kw hx1 (by first | rfl | exact(Cl _).symm | (simp only[List.length_append,List.length_cons,List.length_nil,List.length_set,List.length_replicate]<;>omega)) ?_
 refine nS ?_
 refine Df.ofNat (f:=A5) (l:=(Ch (Dd y1))) (n:=k1) hx1 ?_
 refine nS ?_
 refine An.inline Tryz.call71 Tryz.func71 rfl rfl (by show _≤8;simp) ?_
 refine nS (sq ?_)
 refine ar rfl (qn (sq ?_))
 refine rg rfl fun K j=>?_
 obtain⟨y4,hy4,h⟩:=Af h
 refine An.pure Tryz.call48 (Ju f_ x_3 hy4) rfl fun _ hr=>?_
 subst hr
 refine nS ?_
 refine j _ _ (qn (rt ?_));clear j K
 refine nSc Tryz.results71 ?_
 refine j _ _ (qn ?_);clear j K
 revert h;refine ca rfl (fun hc h=>?_) fun hc h=>?_
 ·refine sq (ar rfl (qn (rt (br (qr (qr ?_))))))
  obtain⟨q30,hq,h⟩:=Af h
  obtain rfl:=Aa h
  obtain rfl:=Ae hJ1
  replace h:=hq.trans (Am hO1)
  refine br (qr (nSc Tryz.results150 ?_))
  refine j _ _ (qn (sq (sq ?_)));clear j K
  refine ar rfl (qn ?_)
  revert h;refine ca rfl (fun hc h=>?_) fun hc h=>?_
  ·refine sq (ar rfl (qn (rt (qr ?_))))
   refine nSc Tryz.results70 ?_
   refine j _ _ (qn (bk ?_))
   obtain⟨o6,hJ6,hO6⟩:=Af h
   clear h
   refine AWP.nQ (ι:=Nat×((List Int))×(Nat)) (fun zz=>[(2,.ptr 0 0),(5,.own 1 zz.2.2 0 zz.2.1.length)]) (fun zz=>[.box [.sl 2 (f_.Map.Nodes.map A6),.sl 8 (f_.Map.Lifts.map A7),.sl 7 (f_.Map.Runs.map Bc),.sl 1 (f_.Map.Bases.map A5),.sl 2 (f_.Lifts.map Av),.sl 4 (f_.Closures.map Aq),.sl 4 (f_.Patrol.Bt.map Au),.sl 3 (f_.Patrol.Hazards.map Az),.sl 3 (f_.Surfaces.map A3),.sl 5 (f_.Packs.map A1),.sl 6 (f_.Slides.map A9),.sl 7 (f_.Bulletin.map Aw),.sl 7 (f_.Missions.map Ap),.sl 4 (f_.Winches.map Ao),.sl 8 (f_.Groomers.map Ay),.sl 3 (f_.Status.map A4),.int .i64 f_.Depth,.int .i64 f_.Time],.row zz.2.2 1 (zz.2.1.map A5)]) (fun zz=>D8 (Og f_) zz.1 zz.2.1=some o6) (fun zz=>zz.1) (fuel,(Ch (Dd y1)),1) hJ6 cu cu (fun x=>⟨rfl,rfl,rfl⟩) ?_
   clear hJ6
   rintro⟨n6,set_5,ver6⟩ hJ6
   dsimp only at hJ6 ⊢
   obtain⟨m6,b6,rfl,h,hJ6⟩:=J9 hJ6
   unfold Og at h;try dsimp only at h
   refine bk (sq (ar rfl (qn (sq (sq ?_)))))
   refine rg rfl fun K j=>?_
   intro hm
   refine j _ _ (qn (bk ?_))
   refine AWP.ghost 6 1 rfl (by decide) ?_
   obtain⟨o9,hJ9,hO9⟩:=Af h
   clear h
   refine AWP.Bw (ι:=Nat×((List Int))×(Nat)) (fun zz=>[(2,.ptr 0 0),(5,.own 1 ver6 0 set_5.length),(6,.own 2 zz.2.2 0 zz.2.1.length),(18,.own 1 ver6 0 set_5.length),(19,.int .i64 ((set_5.length:Nat):Int)),(20,.int .i64 ((zz.1:Nat):Int))]) (fun zz=>[.box [.sl 2 (f_.Map.Nodes.map A6),.sl 8 (f_.Map.Lifts.map A7),.sl 7 (f_.Map.Runs.map Bc),.sl 1 (f_.Map.Bases.map A5),.sl 2 (f_.Lifts.map Av),.sl 4 (f_.Closures.map Aq),.sl 4 (f_.Patrol.Bt.map Au),.sl 3 (f_.Patrol.Hazards.map Az),.sl 3 (f_.Surfaces.map A3),.sl 5 (f_.Packs.map A1),.sl 6 (f_.Slides.map A9),.sl 7 (f_.Bulletin.map Aw),.sl 7 (f_.Missions.map Ap),.sl 4 (f_.Winches.map Ao),.sl 8 (f_.Groomers.map Ay),.sl 3 (f_.Status.map A4),.int .i64 f_.Depth,.int .i64 f_.Time],.row ver6 1 (set_5.map A5),.row zz.2.2 1 (zz.2.1.map A5)]) (fun zz=>zz.1≤set_5.length∧Al (Oe f_ set_5) zz.1 ((set_5).drop zz.1) zz.2.1=some o9) (fun zz=>set_5.length - zz.1) (0,[],0) ⟨Nat.zero_le _,hJ9⟩ cu cu (fun x=>⟨rfl,rfl,rfl⟩) ?_
   clear hJ9
   rintro⟨k9,left8,ver9⟩ ⟨hk9,hJ9⟩
   dsimp only at hk9 hJ9 ⊢
   refine sq (ar rfl (qn (sq ?_)))
   refine AWP.cond (Ak (fun hc=>?_) (fun hc=>?_))
   ·have hlt9:k9<set_5.length:=by have:=Ai8 hc;omega
    obtain⟨x_11,b9,hx9_,h,hJ9⟩:=Ba hJ9 hlt9
    have hx9:=A2 hx9_
    have hw9:=wk (k:=k9) (by omega)
    unfold Oe at h;try dsimp only at h
    refine sk (qn (sq (bk (sq ?_))))
    refine rg rfl fun K j=>?_
    refine Kw hx9 (by first | rfl | exact(Cl _).symm | (simp only[List.length_append,List.length_cons,List.length_nil,List.length_set,List.length_replicate]<;>omega)) ?_
    refine nS ?_
    refine Df.ofNat (f:=A5) (l:=set_5) (n:=k9) hx9 ?_
    refine nS ?_
    refine j _ _ (qn (sq ?_))
    refine rg rfl fun K j=>?_
    obtain⟨y12,hy12,h⟩:=Af h
    refine An.snap Tryz.call49 (Gf f_ set_5 x_11 hy12) (by simp +decide -implicitDefEqProofs only[go_sem]) (by rintro _ rfl;rfl) fun _ hr=>?_
    subst hr
    refine nS ?_
    refine j _ _ (qn ?_)
    revert h;refine ca rfl (fun hc h=>?_) fun hc h=>?_
    ·refine rg rfl fun K j=>?_
     obtain⟨hk,h⟩:=B6 h
     (repeat refine rp ?_);try simp +decide -implicitDefEqProofs only[go_sem]
     refine j _ _ (bn (qn ?_))
     refine ar rfl (qn ?_)
     obtain rfl:=Aa h
     refine⟨(k9+1,(left8++[x_11]),(ver9+1)),⟨by dsimp only;omega,Ai hJ9⟩,by dsimp only;omega,?_,?_⟩
     ·exact cuw hw9
     exact cuw hw9
    refine sk (bn (qn (ar rfl (qn ?_))))
    obtain rfl:=Aa h
    refine⟨(k9+1,left8,ver9),⟨by dsimp only;omega,Ai hJ9⟩,by dsimp only;omega,?_,?_⟩
    ·exact cuw hw9
    exact cuw hw9
   obtain rfl:=Bf hJ9 (fun hl=>by have:=Ai7 hc;omega)
   have h:=Be hO9;try dsimp only at h
   have hkl:set_5.length=k9:=by have:=Ai7 hc;omega
   subst hkl
   refine xt (qe (qe (bs (qn (sq (sq ?_))))))
   refine rg rfl fun K j=>?_
   intro hm
   intro hm
   refine j _ _ (qn ?_)
   revert h;refine ca rfl (fun hc h=>?_) fun hc h=>?_
   ·refine sq (ar rfl (qn (rt (qr (br (qr ?_))))))
    obtain rfl:=Aa h
    obtain rfl:=Ae hJ6
    replace h:=Am hO6
    refine br ?_
    cases h;exact en Tryz.results29
   refine sk (qn (ar rfl (bn (qn ?_))))
   obtain rfl:=Aa h
   refine⟨(m6,left8,ver9),Ai hJ6,by dsimp only;omega,_,_,Sub.swap 2 1 rfl rfl rfl,?_,?_⟩
   ·exact cu
   exact cu
  refine sk (qn (sq (sq (ar rfl (qn (bk ?_))))))
  obtain⟨o16,hJ16,hO16⟩:=Af h
  clear h
  refine AWP.Bw (ι:=Nat×(Int×Int×(List Int))×(Nat)) (fun zz=>[(0,.own 1 zz.2.2 0 zz.2.1.2.2.length),(1,.func 71 [.ptr 0 0]),(5,.int .i64 zz.2.1.1),(6,.int .i64 zz.2.1.2.1)]) (fun zz=>[.box [.sl 2 (f_.Map.Nodes.map A6),.sl 8 (f_.Map.Lifts.map A7),.sl 7 (f_.Map.Runs.map Bc),.sl 1 (f_.Map.Bases.map A5),.sl 2 (f_.Lifts.map Av),.sl 4 (f_.Closures.map Aq),.sl 4 (f_.Patrol.Bt.map Au),.sl 3 (f_.Patrol.Hazards.map Az),.sl 3 (f_.Surfaces.map A3),.sl 5 (f_.Packs.map A1),.sl 6 (f_.Slides.map A9),.sl 7 (f_.Bulletin.map Aw),.sl 7 (f_.Missions.map Ap),.sl 4 (f_.Winches.map Ao),.sl 8 (f_.Groomers.map Ay),.sl 3 (f_.Status.map A4),.int .i64 f_.Depth,.int .i64 f_.Time],.row zz.2.2 1 (zz.2.1.2.2.map A5)]) (fun zz=>D8 (Dz f_) zz.1 zz.2.1=some o16) (fun zz=>zz.1) (fuel,(((k1:Nat):Int),(IntKind.i64.wrap (((k1:Nat):Int)+1)),(Ch (Dd y1))),1) hJ16 cu cu (fun x=>⟨rfl,rfl,rfl⟩) ?_
  clear hJ16
  rintro⟨n16,⟨i13,j14,s_15⟩,ver16⟩ hJ16
  dsimp only at hJ16 ⊢
  obtain⟨m16,b16,rfl,h,hJ16⟩:=J9 hJ16
  unfold Dz at h;try dsimp only at h
  refine sq (sq ?_)
  refine rg rfl fun K j=>?_
  intro hm
  refine j _ _ (qn ?_);clear j K
  revert h;refine ca rfl (fun hc h=>?_) fun hc h=>?_
  ·refine sk (qn (sq (bk (sq ?_))))
   refine rg rfl fun K j=>?_
   obtain⟨x_18,hx_18,h⟩:=Af h
   refine Kw hx_18 (by first | rfl | exact(Cl _).symm | (simp only[List.length_append,List.length_cons,List.length_nil,List.length_set,List.length_replicate]<;>omega)) ?_
   refine nS ?_
   refine Df.of (f:=A5) (l:=s_15) (n:=j14) hx_18 ?_
   refine nS ?_
   refine j _ _ (qn (sq ?_));clear j K
   refine rg rfl fun K j=>?_
   refine An.inline Tryz.call71 Tryz.func71 rfl rfl (by show _≤8;simp) ?_
   refine nS (sq ?_)
   refine ar rfl (qn (sq ?_))
   refine rg rfl fun K j=>?_
   obtain⟨y19,hy19,h⟩:=Af h
   refine An.pure Tryz.call48 (Ju f_ x_18 hy19) rfl fun _ hr=>?_
   subst hr
   refine nS ?_
   refine j _ _ (qn (rt ?_));clear j K
   refine nSc Tryz.results71 ?_
   refine j _ _ (qn ?_);clear j K
   revert h;refine ca rfl (fun hc h=>?_) fun hc h=>?_
   ·refine sq ?_
    refine rg rfl fun K j=>?_
    obtain⟨x_20,hx_20,h⟩:=Af h
    refine Kw hx_20 (by first | rfl | exact(Cl _).symm | (simp only[List.length_append,List.length_cons,List.length_nil,List.length_set,List.length_replicate]<;>omega)) ?_
    refine nS ?_
    refine Df.of (f:=A5) (l:=s_15) (n:=i13) hx_20 ?_
    have hs21:=R4 (y:=x_18) hx_20
    refine nS ?_
    refine j _ _ (qn ?_);clear j K
    refine ar rfl (bn (qn ?_))
    refine ar rfl (qn ?_)
    obtain rfl:=Aa h
    refine⟨(m16,((IntKind.i64.wrap (i13+1)),(IntKind.i64.wrap (j14+1)),(s_15.set i13.toNat x_18)),ver16),Ai hJ16,by dsimp only;omega,?_,?_⟩
    ·exact cu
    exact cu
   refine sk (bn (qn (ar rfl (qn ?_))))
   obtain rfl:=Aa h
   refine⟨(m16,(i13,(IntKind.i64.wrap (j14+1)),s_15),ver16),Ai hJ16,by dsimp only;omega,?_,?_⟩
   ·exact cu
   exact cu
  refine xt (qe (qe ?_))
  obtain⟨q29,hq,h⟩:=Af h
  obtain rfl:=Aa h
  obtain rfl:=Ae hJ16
  replace h:=hq.trans (Am hO16)
  refine bs (qn (sq ?_))
  refine AWP.lI ?_
  refine ALP.cut 3 (ALP.part rfl ?_);intro K j
  refine nS ?_
  obtain⟨hk,h⟩:=Hp h
  (repeat(refine⟨by omega,?_⟩))
  refine j _ _ ?_;clear j K
  refine ALP.clr (l:=s_15) rfl rfl Tryz.underlying25 (by kernel_rfl) rfl (by first | rfl | omega) ?_
  refine nS ?_
  refine ALP.last rfl ?_;intro K j
  refine nS ?_
  refine j _ _ (qn (sq ?_));clear j K
  refine rg rfl fun K j=>?_
  obtain⟨hk,h⟩:=Hp h
  (repeat(refine⟨by omega,?_⟩))
  refine j _ _ (qn ?_);clear j K
  refine AWP.sub (Sub.window 4 rfl rfl) ?_
  refine nS (rt ?_)
  refine nSc Tryz.results70 ?_
  refine j _ _ (qn (bk ?_))
  obtain⟨o23,hJ23,hO23⟩:=Af h
  clear h
  refine AWP.nQ (ι:=Nat×((List Int))×(Nat)) (fun zz=>[(2,.ptr 0 0),(5,.own 1 zz.2.2 0 zz.2.1.length)]) (fun zz=>[.box [.sl 2 (f_.Map.Nodes.map A6),.sl 8 (f_.Map.Lifts.map A7),.sl 7 (f_.Map.Runs.map Bc),.sl 1 (f_.Map.Bases.map A5),.sl 2 (f_.Lifts.map Av),.sl 4 (f_.Closures.map Aq),.sl 4 (f_.Patrol.Bt.map Au),.sl 3 (f_.Patrol.Hazards.map Az),.sl 3 (f_.Surfaces.map A3),.sl 5 (f_.Packs.map A1),.sl 6 (f_.Slides.map A9),.sl 7 (f_.Bulletin.map Aw),.sl 7 (f_.Missions.map Ap),.sl 4 (f_.Winches.map Ao),.sl 8 (f_.Groomers.map Ay),.sl 3 (f_.Status.map A4),.int .i64 f_.Depth,.int .i64 f_.Time],.row zz.2.2 1 (zz.2.1.map A5)]) (fun zz=>D8 (Jz f_) zz.1 zz.2.1=some o23) (fun zz=>zz.1) (fuel,(((s_15.take i13.toNat)++(List.replicate (s_15.length - i13.toNat) (0:Int))).take i13.toNat),(ver16+1)) hJ23 cu cu (fun x=>⟨rfl,rfl,rfl⟩) ?_
  clear hJ23
  rintro⟨n23,set_22,ver23⟩ hJ23
  dsimp only at hJ23 ⊢
  obtain⟨m23,b23,rfl,h,hJ23⟩:=J9 hJ23
  unfold Jz at h;try dsimp only at h
  refine bk (sq (ar rfl (qn (sq (sq ?_)))))
  refine rg rfl fun K j=>?_
  intro hm
  refine j _ _ (qn (bk ?_))
  refine AWP.ghost 6 1 rfl (by decide) ?_
  obtain⟨o26,hJ26,hO26⟩:=Af h
  clear h
  refine AWP.Bw (ι:=Nat×((List Int))×(Nat)) (fun zz=>[(2,.ptr 0 0),(5,.own 1 ver23 0 set_22.length),(6,.own 2 zz.2.2 0 zz.2.1.length),(18,.own 1 ver23 0 set_22.length),(19,.int .i64 ((set_22.length:Nat):Int)),(20,.int .i64 ((zz.1:Nat):Int))]) (fun zz=>[.box [.sl 2 (f_.Map.Nodes.map A6),.sl 8 (f_.Map.Lifts.map A7),.sl 7 (f_.Map.Runs.map Bc),.sl 1 (f_.Map.Bases.map A5),.sl 2 (f_.Lifts.map Av),.sl 4 (f_.Closures.map Aq),.sl 4 (f_.Patrol.Bt.map Au),.sl 3 (f_.Patrol.Hazards.map Az),.sl 3 (f_.Surfaces.map A3),.sl 5 (f_.Packs.map A1),.sl 6 (f_.Slides.map A9),.sl 7 (f_.Bulletin.map Aw),.sl 7 (f_.Missions.map Ap),.sl 4 (f_.Winches.map Ao),.sl 8 (f_.Groomers.map Ay),.sl 3 (f_.Status.map A4),.int .i64 f_.Depth,.int .i64 f_.Time],.row ver23 1 (set_22.map A5),.row zz.2.2 1 (zz.2.1.map A5)]) (fun zz=>zz.1≤set_22.length∧Al (Od f_ set_22) zz.1 ((set_22).drop zz.1) zz.2.1=some o26) (fun zz=>set_22.length - zz.1) (0,[],0) ⟨Nat.zero_le _,hJ26⟩ cu cu (fun x=>⟨rfl,rfl,rfl⟩) ?_
  clear hJ26
  rintro⟨k26,left25,ver26⟩ ⟨hk26,hJ26⟩
  dsimp only at hk26 hJ26 ⊢
  refine sq (ar rfl (qn (sq ?_)))
  refine AWP.cond (Ak (fun hc=>?_) (fun hc=>?_))
  ·have hlt26:k26<set_22.length:=by have:=Ai8 hc;omega
   obtain⟨x_28,b26,hx26_,h,hJ26⟩:=Ba hJ26 hlt26
   have hx26:=A2 hx26_
   have hw26:=wk (k:=k26) (by omega)
   unfold Od at h;try dsimp only at h
   refine sk (qn (sq (bk (sq ?_))))
   refine rg rfl fun K j=>?_
   refine Kw hx26 (by first | rfl | exact(Cl _).symm | (simp only[List.length_append,List.length_cons,List.length_nil,List.length_set,List.length_replicate]<;>omega)) ?_
   refine nS ?_
   refine Df.ofNat (f:=A5) (l:=set_22) (n:=k26) hx26 ?_
   refine nS ?_
   refine j _ _ (qn (sq ?_))
   refine rg rfl fun K j=>?_
   obtain⟨y29,hy29,h⟩:=Af h
   refine An.snap Tryz.call49 (Gf f_ set_22 x_28 hy29) (by simp +decide -implicitDefEqProofs only[go_sem]) (by rintro _ rfl;rfl) fun _ hr=>?_
   subst hr
   refine nS ?_
   refine j _ _ (qn ?_)
   revert h;refine ca rfl (fun hc h=>?_) fun hc h=>?_
   ·refine rg rfl fun K j=>?_
    obtain⟨hk,h⟩:=B6 h
    (repeat refine rp ?_);try simp +decide -implicitDefEqProofs only[go_sem]
    refine j _ _ (bn (qn ?_))
    refine ar rfl (qn ?_)
    obtain rfl:=Aa h
    refine⟨(k26+1,(left25++[x_28]),(ver26+1)),⟨by dsimp only;omega,Ai hJ26⟩,by dsimp only;omega,?_,?_⟩
    ·exact cuw hw26
    exact cuw hw26
   refine sk (bn (qn (ar rfl (qn ?_))))
   obtain rfl:=Aa h
   refine⟨(k26+1,left25,ver26),⟨by dsimp only;omega,Ai hJ26⟩,by dsimp only;omega,?_,?_⟩
   ·exact cuw hw26
   exact cuw hw26
  obtain rfl:=Bf hJ26 (fun hl=>by have:=Ai7 hc;omega)
  have h:=Be hO26;try dsimp only at h
  have hkl:set_22.length=k26:=by have:=Ai7 hc;omega
  subst hkl
  refine xt (qe (qe (bs (qn (sq (sq ?_))))))
  refine rg rfl fun K j=>?_
  intro hm
  intro hm
  refine j _ _ (qn ?_)
  revert h;refine ca rfl (fun hc h=>?_) fun hc h=>?_
  ·refine sq (ar rfl (qn (rt (qr (br (qr ?_))))))
   obtain rfl:=Aa h
   obtain rfl:=Ae hJ23
   replace h:=Am hO23
   refine br ?_
   cases h;exact en Tryz.results29
  refine sk (qn (ar rfl (bn (qn ?_))))
  obtain rfl:=Aa h
  refine⟨(m23,left25,ver26),Ai hJ23,by dsimp only;omega,_,_,Sub.swap 2 1 rfl rfl rfl,?_,?_⟩
  ·exact cu
  exact cu
 refine sk (bn (qn (ar rfl (qn ?_))))
 obtain rfl:=Aa h
 refine⟨(k1+1,(),()),⟨by dsimp only;omega,Ai hJ1⟩,by dsimp only;omega,?_,?_⟩
 ·exact cuw hw1
 exact cuw hw1
theorem Qo (f_:Aj) (runs:List Int) {r:(List Int)} (h:Dw f_ runs=some r):Ad Tryz.prog 29 [.agg (B3 f_),.sl 1 (runs.map A5)] (·= .sl 1 (r.map A5)):=(Gt f_ runs h).pure
def Pd (b:List Int) (k0:Nat) (x_2:Int) (sv:Unit):Option (Out (Unit) (Bool)):=
 (Dk b ((k0:Nat):Int)).bind fun x_3=>(bif (decide (x_2≠x_3))then some (Out.ret false)else some (Out.next ()))
def My (a:List Int) (b:List Int):Option (Bool):=
 (bif (decide (((a.length:Nat):Int)≠((b.length:Nat):Int)))then some false else(Al (Pd b) 0 a ()).bind fun o0=>o0.on fun s0=>some true)
theorem Mk (a:List Int) (b:List Int) {r:Bool} (h:My a b=some r):Ad Tryz.prog 15 [.sl 1 (a.map A5),.sl 1 (b.map A5)] (·= .bool r):=by
 refine Ad.nle (Ad.intro Tryz.func15 rfl rfl (by show _≤26;simp) ?_)
 unfold My at h
 refine nS (sq ?_)
 refine ar rfl (qn (sq (sq ?_)))
 refine rg rfl fun K j=>?_
 intro hm
 intro hm
 refine j _ _ (qn ?_)
 revert h;refine ca rfl (fun hc h=>?_) fun hc h=>?_
 ·refine sq (ar rfl (qn (rt (qr ?_))))
  cases h;exact en Tryz.results15
 refine sk (qn (sq (sq (ar rfl (qn (bk ?_))))))
 obtain⟨o0,hJ0,hO0⟩:=Af h
 clear h
 refine AWP.Bw (ι:=Nat×(Unit)×(Unit)) (fun zz=>[(0,.sl 1 (a.map A5)),(1,.sl 1 (b.map A5)),(5,.int .i64 ((zz.1:Nat):Int))]) (fun zz=>[]) (fun zz=>zz.1≤a.length∧Al (Pd b) zz.1 ((a).drop zz.1) zz.2.1=some o0) (fun zz=>a.length - zz.1) (0,(),()) ⟨Nat.zero_le _,hJ0⟩ cu cu (fun x=>⟨rfl,rfl,rfl⟩) ?_
 clear hJ0
 rintro⟨k0,⟨⟩,⟨⟩⟩ ⟨hk0,hJ0⟩
 dsimp only at hk0 hJ0 ⊢
 refine sq (sq ?_)
 refine rg rfl fun K j=>?_
 intro hm
 refine j _ _ (qn ?_)
 refine AWP.cond (Ak (fun hc=>?_) (fun hc=>?_))
 rotate_left
 ·obtain rfl:=Bf hJ0 (fun hl=>by have:=Ai7 hc;omega)
  have h:=Be hO0;try dsimp only at h
  have hkl:a.length=k0:=by have:=Ai7 hc;omega
  subst hkl
  refine xt (qe (qe (bs (qn (sq (ar rfl (qn (rt ?_))))))))
  cases h;exact en Tryz.results15
 have hlt0:k0<a.length:=by have:=Ai8 hc;omega
 obtain⟨x_2,b0,hx0_,h,hJ0⟩:=Ba hJ0 hlt0
 have hx0:=A2 hx0_
 have hw0:=wk (k:=k0) (by omega)
 unfold Pd at h;try dsimp only at h
 refine sk (qn (sq (bk (sq ?_))))
 refine AWP.draw Tryz.mixed (by kernel_rfl) ?_;intro K j
 refine nS ?_
 refine Bn.of (f:=A5) (l:=a) hx0 ?_
 refine nS ?_
 obtain⟨x_3,hx_3,h⟩:=Af h
 refine Bn.of (f:=A5) (l:=b) hx_3 ?_
 refine nS ?_
 refine j _ _ _ (by kernel_rfl) ?_
 refine qn ?_
 revert h;refine ca rfl (fun hc h=>?_) fun hc h=>?_
 ·refine sq (ar rfl (qn (rt (br (qr (qr ?_))))))
  obtain rfl:=Aa h
  obtain rfl:=Ae hJ0
  replace h:=Am hO0
  refine br (qr ?_)
  cases h;exact en Tryz.results15
 refine sk (bn (qn (ar rfl (qn ?_))))
 obtain rfl:=Aa h
 refine⟨(k0+1,(),()),⟨by dsimp only;omega,Ai hJ0⟩,by dsimp only;omega,?_,?_⟩
 ·exact cuw hw0
 exact cuw hw0
def Jx (f_:Aj) (y1:(List Int)) (k1:Nat) (x_3:Int) (sv:Unit):Option (Out (Unit) (Bool)):=
 (Cw f_ y1 x_3).bind fun y4=>(bif (decide (y4≠0))then some (Out.ret false)else some (Out.next ()))
def Dv (f_:Aj):Option (Bool):=
 (C4 f_).bind fun y1=>(Al (Jx f_ y1) 0 y1 ()).bind fun o1=>o1.on fun s1=>some true
theorem Ew (f_:Aj) {r:Bool} (h:Dv f_=some r):Ad Tryz.prog 22 [.agg (B3 f_)] (·= .bool r):=by
 refine Ad.nle (Ad.intro Tryz.func22 rfl rfl (by show _≤20;simp) ?_)
 unfold Dv at h
 refine nS (sq ?_)
 refine ar rfl (qn (sq ?_))
 refine rg rfl fun K j=>?_
 obtain⟨y1,hy1,h⟩:=Af h
 refine An.pure Tryz.call20 (E1 f_ hy1) rfl fun _ hr=>?_
 subst hr
 refine nS ?_
 refine j _ _ (qn (sq (sq ?_)))
 refine rg rfl fun K j=>?_
 intro hm
 refine j _ _ (qn (bk ?_))
 obtain⟨o1,hJ1,hO1⟩:=Af h
 clear h
 refine AWP.Bw (ι:=Nat×(Unit)×(Unit)) (fun zz=>[(1,.ptr 0 0),(3,.sl 1 (y1.map A5)),(8,.sl 1 (y1.map A5)),(9,.int .i64 ((y1.length:Nat):Int)),(10,.int .i64 ((zz.1:Nat):Int))]) (fun zz=>[.box [.sl 2 (f_.Map.Nodes.map A6),.sl 8 (f_.Map.Lifts.map A7),.sl 7 (f_.Map.Runs.map Bc),.sl 1 (f_.Map.Bases.map A5),.sl 2 (f_.Lifts.map Av),.sl 4 (f_.Closures.map Aq),.sl 4 (f_.Patrol.Bt.map Au),.sl 3 (f_.Patrol.Hazards.map Az),.sl 3 (f_.Surfaces.map A3),.sl 5 (f_.Packs.map A1),.sl 6 (f_.Slides.map A9),.sl 7 (f_.Bulletin.map Aw),.sl 7 (f_.Missions.map Ap),.sl 4 (f_.Winches.map Ao),.sl 8 (f_.Groomers.map Ay),.sl 3 (f_.Status.map A4),.int .i64 f_.Depth,.int .i64 f_.Time]]) (fun zz=>zz.1≤y1.length∧Al (Jx f_ y1) zz.1 ((y1).drop zz.1) zz.2.1=some o1) (fun zz=>y1.length - zz.1) (0,(),()) ⟨Nat.zero_le _,hJ1⟩ cu cu (fun x=>⟨rfl,rfl,rfl⟩) ?_
 clear hJ1
 rintro⟨k1,⟨⟩,⟨⟩⟩ ⟨hk1,hJ1⟩
 dsimp only at hk1 hJ1 ⊢
 refine sq (ar rfl (qn (sq ?_)))
 refine AWP.cond (Ak (fun hc=>?_) (fun hc=>?_))
 rotate_left
 ·obtain rfl:=Bf hJ1 (fun hl=>by have:=Ai7 hc;omega)
  have h:=Be hO1;try dsimp only at h
  have hkl:y1.length=k1:=by have:=Ai7 hc;omega
  subst hkl
  refine xt (qe (qe (bs (qn (sq (ar rfl (qn (rt ?_))))))))
  cases h;exact en Tryz.results22
 have hlt1:k1<y1.length:=by have:=Ai8 hc;omega
 obtain⟨x_3,b1,hx1_,h,hJ1⟩:=Ba hJ1 hlt1
 have hx1:=A2 hx1_
 have hw1:=wk (k:=k1) (by omega)
 unfold Jx at h;try dsimp only at h
 refine sk (qn (sq (bk (sq ?_))))
 refine rg rfl fun K j=>?_
 refine Bn.of (f:=A5) (l:=y1) hx1 ?_
 refine nS ?_
 refine j _ _ (qn (sq ?_))
 refine rg rfl fun K j=>?_
 obtain⟨y4,hy4,h⟩:=Af h
 refine An.pure Tryz.call18 (C0 f_ y1 x_3 hy4) rfl fun _ hr=>?_
 subst hr
 refine nS ?_
 refine j _ _ (qn ?_)
 revert h;refine ca rfl (fun hc h=>?_) fun hc h=>?_
 ·refine sq (ar rfl (qn (rt (br (qr (qr ?_))))))
  obtain rfl:=Aa h
  obtain rfl:=Ae hJ1
  replace h:=Am hO1
  refine br (qr ?_)
  cases h;exact en Tryz.results22
 refine sk (bn (qn (ar rfl (qn ?_))))
 obtain rfl:=Aa h
 refine⟨(k1+1,(),()),⟨by dsimp only;omega,Ai hJ1⟩,by dsimp only;omega,?_,?_⟩
 ·exact cuw hw1
 exact cuw hw1
def C8 (s_:List Ck):Option (List Ck):=chk s_.length (some s_)
theorem L5 (s_:List Ck) {r:List Ck} (h:C8 s_=some r):Dc Tryz.prog 122 [.sl 2 (s_.map A6)] 2 (r.map A6):=by
 have hk:=(B6 h).1
 have hr:r=s_:=Aa (B6 h).2
 rw[hr];clear hr h
 refine Dc.of ?_
 refine Ci.weak (R:=fun q H=>∃ v rest,q= .own 0 v 0 (s_.map A6).length∧H= .row v 2 (s_.map A6)::rest) (Ci.intro Tryz.func122 rfl rfl (by show _≤8;simp) ?_) (fun q H hq=>?_)
 ·refine nS (sq ?_)
  refine ar rfl (qn (sq (sq ?_)))
  refine rg rfl fun K j=>?_
  intro bnil hb
  refine nS ?_
  refine j _ _ (qn ?_)
  refine AWP.cond (Ak (fun hc=>?_) (fun hc=>?_))
  ·have hx0:s_=[]:=Classical.byContradiction fun hne=>by have:=hb (by simpa using hne);simp[this]at hc
   subst hx0
   refine sq (ar rfl (qn ?_))
   refine AWP.ghost 2 2 rfl (by decide) ?_
   refine nS (rt (qr ?_))
   refine nSc Tryz.results122 ?_
   refine⟨_,_,?_,rfl⟩
   (try simp +decide -implicitDefEqProofs only[go_sem,List.length_map,List.length_append,List.length_cons,List.length_nil,List.length_set,List.length_replicate]);try rfl
  clear hc
  refine sk (qn (sq ?_))
  refine rg rfl fun K j=>?_
  (repeat refine rp ?_);try simp +decide -implicitDefEqProofs only[go_sem]
  refine j _ _ (qn (rt ?_))
  refine nSc Tryz.results122 ?_
  refine⟨_,_,?_,rfl⟩
  (try simp +decide -implicitDefEqProofs only[go_sem,List.length_map,List.length_append,List.length_cons,List.length_nil,List.length_set,List.length_replicate]);try rfl
 obtain⟨v,rest,rfl,rfl⟩:=hq
 exact⟨[.row v 2 (s_.map A6)],⟨⟨rfl,rfl,rfl⟩,by cases rest<;>trivial⟩,rfl,rfl,⟨v,rfl,rfl⟩⟩
theorem Ld (s_:List Ck) {r:List Ck} (h:C8 s_=some r):Bp Tryz.prog 122 [.sl 2 (s_.map A6)] (·= .sl 2 (r.map A6)):=Bp.nle (Ci.fresh (Ci.mono (L5 s_ h) fun q H=>by rintro⟨rfl,rfl⟩;simp +decide -implicitDefEqProofs only[go_sem,Dj,Ac.int.injEq,Int.natCast_zero,List.replicate_zero,List.length_take,List.length_drop,Ac.own.injEq,reduceCtorEq,Int.reduceAdd,Sh,Si,Oz,Sg,Oy,List.length_map]))
theorem Lu (s_:List Ck) {r:List Ck} (h:C8 s_=some r):Ad Tryz.prog 122 [.sl 2 (s_.map A6)] (·= .sl 2 (r.map A6)):=(Ld s_ h).pure
def C9 (s_:List Cc):Option (List Cc):=chk s_.length (some s_)
theorem L6 (s_:List Cc) {r:List Cc} (h:C9 s_=some r):Dc Tryz.prog 123 [.sl 8 (s_.map A7)] 8 (r.map A7):=by
 have hk:=(B6 h).1
 have hr:r=s_:=Aa (B6 h).2
 rw[hr];clear hr h
 refine Dc.of ?_
 refine Ci.weak (R:=fun q H=>∃ v rest,q= .own 0 v 0 (s_.map A7).length∧H= .row v 8 (s_.map A7)::rest) (Ci.intro Tryz.func123 rfl rfl (by show _≤8;simp) ?_) (fun q H hq=>?_)
 ·refine nS (sq ?_)
  refine ar rfl (qn (sq (sq ?_)))
  refine rg rfl fun K j=>?_
  intro bnil hb
  refine nS ?_
  refine j _ _ (qn ?_)
  refine AWP.cond (Ak (fun hc=>?_) (fun hc=>?_))
  ·have hx0:s_=[]:=Classical.byContradiction fun hne=>by have:=hb (by simpa using hne);simp[this]at hc
   subst hx0
   refine sq (ar rfl (qn ?_))
   refine AWP.ghost 2 8 rfl (by decide) ?_
   refine nS (rt (qr ?_))
   refine nSc Tryz.results123 ?_
   refine⟨_,_,?_,rfl⟩
   (try simp +decide -implicitDefEqProofs only[go_sem,List.length_map,List.length_append,List.length_cons,List.length_nil,List.length_set,List.length_replicate]);try rfl
  clear hc
  refine sk (qn (sq ?_))
  refine rg rfl fun K j=>?_
  (repeat refine rp ?_);try simp +decide -implicitDefEqProofs only[go_sem]
  refine j _ _ (qn (rt ?_))
  refine nSc Tryz.results123 ?_
  refine⟨_,_,?_,rfl⟩
  (try simp +decide -implicitDefEqProofs only[go_sem,List.length_map,List.length_append,List.length_cons,List.length_nil,List.length_set,List.length_replicate]);try rfl
 obtain⟨v,rest,rfl,rfl⟩:=hq
 exact⟨[.row v 8 (s_.map A7)],⟨⟨rfl,rfl,rfl⟩,by cases rest<;>trivial⟩,rfl,rfl,⟨v,rfl,rfl⟩⟩
theorem Le (s_:List Cc) {r:List Cc} (h:C9 s_=some r):Bp Tryz.prog 123 [.sl 8 (s_.map A7)] (·= .sl 8 (r.map A7)):=Bp.nle (Ci.fresh (Ci.mono (L6 s_ h) fun q H=>by rintro⟨rfl,rfl⟩;simp +decide -implicitDefEqProofs only[go_sem,Dj,Ac.int.injEq,Int.natCast_zero,List.replicate_zero,List.length_take,List.length_drop,Ac.own.injEq,reduceCtorEq,Int.reduceAdd,Sh,Si,Oz,Sg,Oy,List.length_map]))
theorem Lv (s_:List Cc) {r:List Cc} (h:C9 s_=some r):Ad Tryz.prog 123 [.sl 8 (s_.map A7)] (·= .sl 8 (r.map A7)):=(Le s_ h).pure
def Dg (s_:List Cd):Option (List Cd):=chk s_.length (some s_)
theorem Nk (s_:List Cd) {r:List Cd} (h:Dg s_=some r):Dc Tryz.prog 124 [.sl 7 (s_.map Bc)] 7 (r.map Bc):=by
 have hk:=(B6 h).1
 have hr:r=s_:=Aa (B6 h).2
 rw[hr];clear hr h
 refine Dc.of ?_
 refine Ci.weak (R:=fun q H=>∃ v rest,q= .own 0 v 0 (s_.map Bc).length∧H= .row v 7 (s_.map Bc)::rest) (Ci.intro Tryz.func124 rfl rfl (by show _≤8;simp) ?_) (fun q H hq=>?_)
 ·refine nS (sq ?_)
  refine ar rfl (qn (sq (sq ?_)))
  refine rg rfl fun K j=>?_
  intro bnil hb
  refine nS ?_
  refine j _ _ (qn ?_)
  refine AWP.cond (Ak (fun hc=>?_) (fun hc=>?_))
  ·have hx0:s_=[]:=Classical.byContradiction fun hne=>by have:=hb (by simpa using hne);simp[this]at hc
   subst hx0
   refine sq (ar rfl (qn ?_))
   refine AWP.ghost 2 7 rfl (by decide) ?_
   refine nS (rt (qr ?_))
   refine nSc Tryz.results124 ?_
   refine⟨_,_,?_,rfl⟩
   (try simp +decide -implicitDefEqProofs only[go_sem,List.length_map,List.length_append,List.length_cons,List.length_nil,List.length_set,List.length_replicate]);try rfl
  clear hc
  refine sk (qn (sq ?_))
  refine rg rfl fun K j=>?_
  (repeat refine rp ?_);try simp +decide -implicitDefEqProofs only[go_sem]
  refine j _ _ (qn (rt ?_))
  refine nSc Tryz.results124 ?_
  refine⟨_,_,?_,rfl⟩
  (try simp +decide -implicitDefEqProofs only[go_sem,List.length_map,List.length_append,List.length_cons,List.length_nil,List.length_set,List.length_replicate]);try rfl
 obtain⟨v,rest,rfl,rfl⟩:=hq
 exact⟨[.row v 7 (s_.map Bc)],⟨⟨rfl,rfl,rfl⟩,by cases rest<;>trivial⟩,rfl,rfl,⟨v,rfl,rfl⟩⟩
theorem L4 (s_:List Cd) {r:List Cd} (h:Dg s_=some r):Bp Tryz.prog 124 [.sl 7 (s_.map Bc)] (·= .sl 7 (r.map Bc)):=Bp.nle (Ci.fresh (Ci.mono (Nk s_ h) fun q H=>by rintro⟨rfl,rfl⟩;simp +decide -implicitDefEqProofs only[go_sem,Dj,Ac.int.injEq,Int.natCast_zero,List.replicate_zero,List.length_take,List.length_drop,Ac.own.injEq,reduceCtorEq,Int.reduceAdd,Sh,Si,Oz,Sg,Oy,List.length_map]))
theorem Mx (s_:List Cd) {r:List Cd} (h:Dg s_=some r):Ad Tryz.prog 124 [.sl 7 (s_.map Bc)] (·= .sl 7 (r.map Bc)):=(L4 s_ h).pure
def Cg (s_:List Cr):Option (List Cr):=chk s_.length (some s_)
theorem H5 (s_:List Cr) {r:List Cr} (h:Cg s_=some r):Dc Tryz.prog 125 [.sl 2 (s_.map Av)] 2 (r.map Av):=by
 have hk:=(B6 h).1
 have hr:r=s_:=Aa (B6 h).2
 rw[hr];clear hr h
 refine Dc.of ?_
 refine Ci.weak (R:=fun q H=>∃ v rest,q= .own 0 v 0 (s_.map Av).length∧H= .row v 2 (s_.map Av)::rest) (Ci.intro Tryz.func125 rfl rfl (by show _≤8;simp) ?_) (fun q H hq=>?_)
 ·refine nS (sq ?_)
  refine ar rfl (qn (sq (sq ?_)))
  refine rg rfl fun K j=>?_
  intro bnil hb
  refine nS ?_
  refine j _ _ (qn ?_)
  refine AWP.cond (Ak (fun hc=>?_) (fun hc=>?_))
  ·have hx0:s_=[]:=Classical.byContradiction fun hne=>by have:=hb (by simpa using hne);simp[this]at hc
   subst hx0
   refine sq (ar rfl (qn ?_))
   refine AWP.ghost 2 2 rfl (by decide) ?_
   refine nS (rt (qr ?_))
   refine nSc Tryz.results125 ?_
   refine⟨_,_,?_,rfl⟩
   (try simp +decide -implicitDefEqProofs only[go_sem,List.length_map,List.length_append,List.length_cons,List.length_nil,List.length_set,List.length_replicate]);try rfl
  clear hc
  refine sk (qn (sq ?_))
  refine rg rfl fun K j=>?_
  (repeat refine rp ?_);try simp +decide -implicitDefEqProofs only[go_sem]
  refine j _ _ (qn (rt ?_))
  refine nSc Tryz.results125 ?_
  refine⟨_,_,?_,rfl⟩
  (try simp +decide -implicitDefEqProofs only[go_sem,List.length_map,List.length_append,List.length_cons,List.length_nil,List.length_set,List.length_replicate]);try rfl
 obtain⟨v,rest,rfl,rfl⟩:=hq
 exact⟨[.row v 2 (s_.map Av)],⟨⟨rfl,rfl,rfl⟩,by cases rest<;>trivial⟩,rfl,rfl,⟨v,rfl,rfl⟩⟩
theorem G6 (s_:List Cr) {r:List Cr} (h:Cg s_=some r):Bp Tryz.prog 125 [.sl 2 (s_.map Av)] (·= .sl 2 (r.map Av)):=Bp.nle (Ci.fresh (Ci.mono (H5 s_ h) fun q H=>by rintro⟨rfl,rfl⟩;simp +decide -implicitDefEqProofs only[go_sem,Dj,Ac.int.injEq,Int.natCast_zero,List.replicate_zero,List.length_take,List.length_drop,Ac.own.injEq,reduceCtorEq,Int.reduceAdd,Sh,Si,Oz,Sg,Oy,List.length_map]))
theorem Hh (s_:List Cr) {r:List Cr} (h:Cg s_=some r):Ad Tryz.prog 125 [.sl 2 (s_.map Av)] (·= .sl 2 (r.map Av)):=(G6 s_ h).pure
def Cq (s_:List Bk):Option (List Bk):=chk s_.length (some s_)
theorem I7 (s_:List Bk) {r:List Bk} (h:Cq s_=some r):Dc Tryz.prog 126 [.sl 4 (s_.map Aq)] 4 (r.map Aq):=by
 have hk:=(B6 h).1
 have hr:r=s_:=Aa (B6 h).2
 rw[hr];clear hr h
 refine Dc.of ?_
 refine Ci.weak (R:=fun q H=>∃ v rest,q= .own 0 v 0 (s_.map Aq).length∧H= .row v 4 (s_.map Aq)::rest) (Ci.intro Tryz.func126 rfl rfl (by show _≤8;simp) ?_) (fun q H hq=>?_)
 ·refine nS (sq ?_)
  refine ar rfl (qn (sq (sq ?_)))
  refine rg rfl fun K j=>?_
  intro bnil hb
  refine nS ?_
  refine j _ _ (qn ?_)
  refine AWP.cond (Ak (fun hc=>?_) (fun hc=>?_))
  ·have hx0:s_=[]:=Classical.byContradiction fun hne=>by have:=hb (by simpa using hne);simp[this]at hc
   subst hx0
   refine sq (ar rfl (qn ?_))
   refine AWP.ghost 2 4 rfl (by decide) ?_
   refine nS (rt (qr ?_))
   refine nSc Tryz.results126 ?_
   refine⟨_,_,?_,rfl⟩
   (try simp +decide -implicitDefEqProofs only[go_sem,List.length_map,List.length_append,List.length_cons,List.length_nil,List.length_set,List.length_replicate]);try rfl
  clear hc
  refine sk (qn (sq ?_))
  refine rg rfl fun K j=>?_
  (repeat refine rp ?_);try simp +decide -implicitDefEqProofs only[go_sem]
  refine j _ _ (qn (rt ?_))
  refine nSc Tryz.results126 ?_
  refine⟨_,_,?_,rfl⟩
  (try simp +decide -implicitDefEqProofs only[go_sem,List.length_map,List.length_append,List.length_cons,List.length_nil,List.length_set,List.length_replicate]);try rfl
 obtain⟨v,rest,rfl,rfl⟩:=hq
 exact⟨[.row v 4 (s_.map Aq)],⟨⟨rfl,rfl,rfl⟩,by cases rest<;>trivial⟩,rfl,rfl,⟨v,rfl,rfl⟩⟩
theorem H7 (s_:List Bk) {r:List Bk} (h:Cq s_=some r):Bp Tryz.prog 126 [.sl 4 (s_.map Aq)] (·= .sl 4 (r.map Aq)):=Bp.nle (Ci.fresh (Ci.mono (I7 s_ h) fun q H=>by rintro⟨rfl,rfl⟩;simp +decide -implicitDefEqProofs only[go_sem,Dj,Ac.int.injEq,Int.natCast_zero,List.replicate_zero,List.length_take,List.length_drop,Ac.own.injEq,reduceCtorEq,Int.reduceAdd,Sh,Si,Oz,Sg,Oy,List.length_map]))
theorem Il (s_:List Bk) {r:List Bk} (h:Cq s_=some r):Ad Tryz.prog 126 [.sl 4 (s_.map Aq)] (·= .sl 4 (r.map Aq)):=(H7 s_ h).pure
def C7 (s_:List Ft):Option (List Ft):=chk s_.length (some s_)
theorem L3 (s_:List Ft) {r:List Ft} (h:C7 s_=some r):Dc Tryz.prog 129 [.sl 3 (s_.map B9)] 3 (r.map B9):=by
 have hk:=(B6 h).1
 have hr:r=s_:=Aa (B6 h).2
 rw[hr];clear hr h
 refine Dc.of ?_
 refine Ci.weak (R:=fun q H=>∃ v rest,q= .own 0 v 0 (s_.map B9).length∧H= .row v 3 (s_.map B9)::rest) (Ci.intro Tryz.func129 rfl rfl (by show _≤8;simp) ?_) (fun q H hq=>?_)
 ·refine nS (sq ?_)
  refine ar rfl (qn (sq (sq ?_)))
  refine rg rfl fun K j=>?_
  intro bnil hb
  refine nS ?_
  refine j _ _ (qn ?_)
  refine AWP.cond (Ak (fun hc=>?_) (fun hc=>?_))
  ·have hx0:s_=[]:=Classical.byContradiction fun hne=>by have:=hb (by simpa using hne);simp[this]at hc
   subst hx0
   refine sq (ar rfl (qn ?_))
   refine AWP.ghost 2 3 rfl (by decide) ?_
   refine nS (rt (qr ?_))
   refine nSc Tryz.results129 ?_
   refine⟨_,_,?_,rfl⟩
   (try simp +decide -implicitDefEqProofs only[go_sem,List.length_map,List.length_append,List.length_cons,List.length_nil,List.length_set,List.length_replicate]);try rfl
  clear hc
  refine sk (qn (sq ?_))
  refine rg rfl fun K j=>?_
  (repeat refine rp ?_);try simp +decide -implicitDefEqProofs only[go_sem]
  refine j _ _ (qn (rt ?_))
  refine nSc Tryz.results129 ?_
  refine⟨_,_,?_,rfl⟩
  (try simp +decide -implicitDefEqProofs only[go_sem,List.length_map,List.length_append,List.length_cons,List.length_nil,List.length_set,List.length_replicate]);try rfl
 obtain⟨v,rest,rfl,rfl⟩:=hq
 exact⟨[.row v 3 (s_.map B9)],⟨⟨rfl,rfl,rfl⟩,by cases rest<;>trivial⟩,rfl,rfl,⟨v,rfl,rfl⟩⟩
theorem Lc (s_:List Ft) {r:List Ft} (h:C7 s_=some r):Bp Tryz.prog 129 [.sl 3 (s_.map B9)] (·= .sl 3 (r.map B9)):=Bp.nle (Ci.fresh (Ci.mono (L3 s_ h) fun q H=>by rintro⟨rfl,rfl⟩;simp +decide -implicitDefEqProofs only[go_sem,Dj,Ac.int.injEq,Int.natCast_zero,List.replicate_zero,List.length_take,List.length_drop,Ac.own.injEq,reduceCtorEq,Int.reduceAdd,Sh,Si,Oz,Sg,Oy,List.length_map]))
theorem Lt (s_:List Ft) {r:List Ft} (h:C7 s_=some r):Ad Tryz.prog 129 [.sl 3 (s_.map B9)] (·= .sl 3 (r.map B9)):=(Lc s_ h).pure
def Et (l:Cj):Option (Cj):=
 (B8 l.List_.Items).bind fun y1=>(C7 l.List_.Signs).bind fun y2=>some (Cj.mk l.Run (Bq.mk y1 l.List_.Every y2))
theorem Tt (l:Cj) {r:Cj} (h:Et l=some r):Ad Tryz.prog 128 [.agg (Au l)] (·= .agg (Au r)):=by
 refine Ad.nle (Ad.intro Tryz.func128 rfl rfl (by show _≤16;simp) ?_)
 unfold Et at h
 refine nS (sq ?_)
 refine ar rfl (qn (sq ?_))
 refine rg rfl fun K j=>?_
 obtain⟨y1,hy1,h⟩:=Af h
 refine An.pure Tryz.call67 (Db l.List_.Items hy1) rfl fun _ hr=>?_
 subst hr
 refine nS ?_
 refine j _ _ (qn (sq ?_))
 refine rg rfl fun K j=>?_
 obtain⟨y2,hy2,h⟩:=Af h
 refine An.pure Tryz.call129 (Lt l.List_.Signs hy2) rfl fun _ hr=>?_
 subst hr
 refine nS ?_
 refine j _ _ (qn (sq ?_))
 refine ar rfl (qn (rt ?_))
 cases h;exact en Tryz.results128
def Cu (s_:List Cv):Option (List Cv):=chk s_.length (some s_)
theorem J4 (s_:List Cv) {r:List Cv} (h:Cu s_=some r):Dc Tryz.prog 130 [.sl 3 (s_.map Az)] 3 (r.map Az):=by
 have hk:=(B6 h).1
 have hr:r=s_:=Aa (B6 h).2
 rw[hr];clear hr h
 refine Dc.of ?_
 refine Ci.weak (R:=fun q H=>∃ v rest,q= .own 0 v 0 (s_.map Az).length∧H= .row v 3 (s_.map Az)::rest) (Ci.intro Tryz.func130 rfl rfl (by show _≤8;simp) ?_) (fun q H hq=>?_)
 ·refine nS (sq ?_)
  refine ar rfl (qn (sq (sq ?_)))
  refine rg rfl fun K j=>?_
  intro bnil hb
  refine nS ?_
  refine j _ _ (qn ?_)
  refine AWP.cond (Ak (fun hc=>?_) (fun hc=>?_))
  ·have hx0:s_=[]:=Classical.byContradiction fun hne=>by have:=hb (by simpa using hne);simp[this]at hc
   subst hx0
   refine sq (ar rfl (qn ?_))
   refine AWP.ghost 2 3 rfl (by decide) ?_
   refine nS (rt (qr ?_))
   refine nSc Tryz.results130 ?_
   refine⟨_,_,?_,rfl⟩
   (try simp +decide -implicitDefEqProofs only[go_sem,List.length_map,List.length_append,List.length_cons,List.length_nil,List.length_set,List.length_replicate]);try rfl
  clear hc
  refine sk (qn (sq ?_))
  refine rg rfl fun K j=>?_
  (repeat refine rp ?_);try simp +decide -implicitDefEqProofs only[go_sem]
  refine j _ _ (qn (rt ?_))
  refine nSc Tryz.results130 ?_
  refine⟨_,_,?_,rfl⟩
  (try simp +decide -implicitDefEqProofs only[go_sem,List.length_map,List.length_append,List.length_cons,List.length_nil,List.length_set,List.length_replicate]);try rfl
 obtain⟨v,rest,rfl,rfl⟩:=hq
 exact⟨[.row v 3 (s_.map Az)],⟨⟨rfl,rfl,rfl⟩,by cases rest<;>trivial⟩,rfl,rfl,⟨v,rfl,rfl⟩⟩
theorem I5 (s_:List Cv) {r:List Cv} (h:Cu s_=some r):Bp Tryz.prog 130 [.sl 3 (s_.map Az)] (·= .sl 3 (r.map Az)):=Bp.nle (Ci.fresh (Ci.mono (J4 s_ h) fun q H=>by rintro⟨rfl,rfl⟩;simp +decide -implicitDefEqProofs only[go_sem,Dj,Ac.int.injEq,Int.natCast_zero,List.replicate_zero,List.length_take,List.length_drop,Ac.own.injEq,reduceCtorEq,Int.reduceAdd,Sh,Si,Oz,Sg,Oy,List.length_map]))
theorem Js (s_:List Cv) {r:List Cv} (h:Cu s_=some r):Ad Tryz.prog 130 [.sl 3 (s_.map Az)] (·= .sl 3 (r.map Az)):=(I5 s_ h).pure
def Cm (s_:List Cy):Option (List Cy):=chk s_.length (some s_)
theorem Iy (s_:List Cy) {r:List Cy} (h:Cm s_=some r):Dc Tryz.prog 131 [.sl 3 (s_.map A3)] 3 (r.map A3):=by
 have hk:=(B6 h).1
 have hr:r=s_:=Aa (B6 h).2
 rw[hr];clear hr h
 refine Dc.of ?_
 refine Ci.weak (R:=fun q H=>∃ v rest,q= .own 0 v 0 (s_.map A3).length∧H= .row v 3 (s_.map A3)::rest) (Ci.intro Tryz.func131 rfl rfl (by show _≤8;simp) ?_) (fun q H hq=>?_)
 ·refine nS (sq ?_)
  refine ar rfl (qn (sq (sq ?_)))
  refine rg rfl fun K j=>?_
  intro bnil hb
  refine nS ?_
  refine j _ _ (qn ?_)
  refine AWP.cond (Ak (fun hc=>?_) (fun hc=>?_))
  ·have hx0:s_=[]:=Classical.byContradiction fun hne=>by have:=hb (by simpa using hne);simp[this]at hc
   subst hx0
   refine sq (ar rfl (qn ?_))
   refine AWP.ghost 2 3 rfl (by decide) ?_
   refine nS (rt (qr ?_))
   refine nSc Tryz.results131 ?_
   refine⟨_,_,?_,rfl⟩
   (try simp +decide -implicitDefEqProofs only[go_sem,List.length_map,List.length_append,List.length_cons,List.length_nil,List.length_set,List.length_replicate]);try rfl
  clear hc
  refine sk (qn (sq ?_))
  refine rg rfl fun K j=>?_
  (repeat refine rp ?_);try simp +decide -implicitDefEqProofs only[go_sem]
  refine j _ _ (qn (rt ?_))
  refine nSc Tryz.results131 ?_
  refine⟨_,_,?_,rfl⟩
  (try simp +decide -implicitDefEqProofs only[go_sem,List.length_map,List.length_append,List.length_cons,List.length_nil,List.length_set,List.length_replicate]);try rfl
 obtain⟨v,rest,rfl,rfl⟩:=hq
 exact⟨[.row v 3 (s_.map A3)],⟨⟨rfl,rfl,rfl⟩,by cases rest<;>trivial⟩,rfl,rfl,⟨v,rfl,rfl⟩⟩
theorem H0 (s_:List Cy) {r:List Cy} (h:Cm s_=some r):Bp Tryz.prog 131 [.sl 3 (s_.map A3)] (·= .sl 3 (r.map A3)):=Bp.nle (Ci.fresh (Ci.mono (Iy s_ h) fun q H=>by rintro⟨rfl,rfl⟩;simp +decide -implicitDefEqProofs only[go_sem,Dj,Ac.int.injEq,Int.natCast_zero,List.replicate_zero,List.length_take,List.length_drop,Ac.own.injEq,reduceCtorEq,Int.reduceAdd,Sh,Si,Oz,Sg,Oy,List.length_map]))
theorem Ih (s_:List Cy) {r:List Cy} (h:Cm s_=some r):Ad Tryz.prog 131 [.sl 3 (s_.map A3)] (·= .sl 3 (r.map A3)):=(H0 s_ h).pure
def Cn (s_:List C6):Option (List C6):=chk s_.length (some s_)
theorem Iz (s_:List C6) {r:List C6} (h:Cn s_=some r):Dc Tryz.prog 132 [.sl 5 (s_.map A1)] 5 (r.map A1):=by
 have hk:=(B6 h).1
 have hr:r=s_:=Aa (B6 h).2
 rw[hr];clear hr h
 refine Dc.of ?_
 refine Ci.weak (R:=fun q H=>∃ v rest,q= .own 0 v 0 (s_.map A1).length∧H= .row v 5 (s_.map A1)::rest) (Ci.intro Tryz.func132 rfl rfl (by show _≤8;simp) ?_) (fun q H hq=>?_)
 ·refine nS (sq ?_)
  refine ar rfl (qn (sq (sq ?_)))
  refine rg rfl fun K j=>?_
  intro bnil hb
  refine nS ?_
  refine j _ _ (qn ?_)
  refine AWP.cond (Ak (fun hc=>?_) (fun hc=>?_))
  ·have hx0:s_=[]:=Classical.byContradiction fun hne=>by have:=hb (by simpa using hne);simp[this]at hc
   subst hx0
   refine sq (ar rfl (qn ?_))
   refine AWP.ghost 2 5 rfl (by decide) ?_
   refine nS (rt (qr ?_))
   refine nSc Tryz.results132 ?_
   refine⟨_,_,?_,rfl⟩
   (try simp +decide -implicitDefEqProofs only[go_sem,List.length_map,List.length_append,List.length_cons,List.length_nil,List.length_set,List.length_replicate]);try rfl
  clear hc
  refine sk (qn (sq ?_))
  refine rg rfl fun K j=>?_
  (repeat refine rp ?_);try simp +decide -implicitDefEqProofs only[go_sem]
  refine j _ _ (qn (rt ?_))
  refine nSc Tryz.results132 ?_
  refine⟨_,_,?_,rfl⟩
  (try simp +decide -implicitDefEqProofs only[go_sem,List.length_map,List.length_append,List.length_cons,List.length_nil,List.length_set,List.length_replicate]);try rfl
 obtain⟨v,rest,rfl,rfl⟩:=hq
 exact⟨[.row v 5 (s_.map A1)],⟨⟨rfl,rfl,rfl⟩,by cases rest<;>trivial⟩,rfl,rfl,⟨v,rfl,rfl⟩⟩
theorem H3 (s_:List C6) {r:List C6} (h:Cn s_=some r):Bp Tryz.prog 132 [.sl 5 (s_.map A1)] (·= .sl 5 (r.map A1)):=Bp.nle (Ci.fresh (Ci.mono (Iz s_ h) fun q H=>by rintro⟨rfl,rfl⟩;simp +decide -implicitDefEqProofs only[go_sem,Dj,Ac.int.injEq,Int.natCast_zero,List.replicate_zero,List.length_take,List.length_drop,Ac.own.injEq,reduceCtorEq,Int.reduceAdd,Sh,Si,Oz,Sg,Oy,List.length_map]))
theorem Ii (s_:List C6) {r:List C6} (h:Cn s_=some r):Ad Tryz.prog 132 [.sl 5 (s_.map A1)] (·= .sl 5 (r.map A1)):=(H3 s_ h).pure
def Es (s_:Bd):Option (Bd):=
 (B8 s_.Zones).bind fun y1=>(B8 s_.Lifts).bind fun y2=>some (Bd.mk s_.ID y1 y2 s_.Limit s_.Load s_.Controlled)
theorem Ts (s_:Bd) {r:Bd} (h:Es s_=some r):Ad Tryz.prog 134 [.agg (A9 s_)] (·= .agg (A9 r)):=by
 refine Ad.nle (Ad.intro Tryz.func134 rfl rfl (by show _≤12;simp) ?_)
 unfold Es at h
 refine nS (sq ?_)
 refine ar rfl (qn (sq ?_))
 refine rg rfl fun K j=>?_
 obtain⟨y1,hy1,h⟩:=Af h
 refine An.pure Tryz.call67 (Db s_.Zones hy1) rfl fun _ hr=>?_
 subst hr
 refine nS ?_
 refine j _ _ (qn (sq ?_))
 refine rg rfl fun K j=>?_
 obtain⟨y2,hy2,h⟩:=Af h
 refine An.pure Tryz.call67 (Db s_.Lifts hy2) rfl fun _ hr=>?_
 subst hr
 refine nS ?_
 refine j _ _ (qn (sq ?_))
 refine ar rfl (qn (rt ?_))
 cases h;exact en Tryz.results134
def Er (b:Bl):Option (Bl):=
 (B8 b.Zones).bind fun y1=>some (Bl.mk b.Version b.Span b.Low b.High y1 b.Level)
theorem Tr (b:Bl) {r:Bl} (h:Er b=some r):Ad Tryz.prog 136 [.agg (Aw b)] (·= .agg (Aw r)):=by
 refine Ad.nle (Ad.intro Tryz.func136 rfl rfl (by show _≤8;simp) ?_)
 unfold Er at h
 refine nS (sq ?_)
 refine ar rfl (qn (sq ?_))
 refine rg rfl fun K j=>?_
 obtain⟨y1,hy1,h⟩:=Af h
 refine An.pure Tryz.call67 (Db b.Zones hy1) rfl fun _ hr=>?_
 subst hr
 refine nS ?_
 refine j _ _ (qn (sq ?_))
 refine ar rfl (qn (rt ?_))
 cases h;exact en Tryz.results136
def Co (s_:List Bg):Option (List Bg):=chk s_.length (some s_)
theorem I4 (s_:List Bg) {r:List Bg} (h:Co s_=some r):Dc Tryz.prog 137 [.sl 7 (s_.map Ap)] 7 (r.map Ap):=by
 have hk:=(B6 h).1
 have hr:r=s_:=Aa (B6 h).2
 rw[hr];clear hr h
 refine Dc.of ?_
 refine Ci.weak (R:=fun q H=>∃ v rest,q= .own 0 v 0 (s_.map Ap).length∧H= .row v 7 (s_.map Ap)::rest) (Ci.intro Tryz.func137 rfl rfl (by show _≤8;simp) ?_) (fun q H hq=>?_)
 ·refine nS (sq ?_)
  refine ar rfl (qn (sq (sq ?_)))
  refine rg rfl fun K j=>?_
  intro bnil hb
  refine nS ?_
  refine j _ _ (qn ?_)
  refine AWP.cond (Ak (fun hc=>?_) (fun hc=>?_))
  ·have hx0:s_=[]:=Classical.byContradiction fun hne=>by have:=hb (by simpa using hne);simp[this]at hc
   subst hx0
   refine sq (ar rfl (qn ?_))
   refine AWP.ghost 2 7 rfl (by decide) ?_
   refine nS (rt (qr ?_))
   refine nSc Tryz.results137 ?_
   refine⟨_,_,?_,rfl⟩
   (try simp +decide -implicitDefEqProofs only[go_sem,List.length_map,List.length_append,List.length_cons,List.length_nil,List.length_set,List.length_replicate]);try rfl
  clear hc
  refine sk (qn (sq ?_))
  refine rg rfl fun K j=>?_
  (repeat refine rp ?_);try simp +decide -implicitDefEqProofs only[go_sem]
  refine j _ _ (qn (rt ?_))
  refine nSc Tryz.results137 ?_
  refine⟨_,_,?_,rfl⟩
  (try simp +decide -implicitDefEqProofs only[go_sem,List.length_map,List.length_append,List.length_cons,List.length_nil,List.length_set,List.length_replicate]);try rfl
 obtain⟨v,rest,rfl,rfl⟩:=hq
 exact⟨[.row v 7 (s_.map Ap)],⟨⟨rfl,rfl,rfl⟩,by cases rest<;>trivial⟩,rfl,rfl,⟨v,rfl,rfl⟩⟩
theorem H4 (s_:List Bg) {r:List Bg} (h:Co s_=some r):Bp Tryz.prog 137 [.sl 7 (s_.map Ap)] (·= .sl 7 (r.map Ap)):=Bp.nle (Ci.fresh (Ci.mono (I4 s_ h) fun q H=>by rintro⟨rfl,rfl⟩;simp +decide -implicitDefEqProofs only[go_sem,Dj,Ac.int.injEq,Int.natCast_zero,List.replicate_zero,List.length_take,List.length_drop,Ac.own.injEq,reduceCtorEq,Int.reduceAdd,Sh,Si,Oz,Sg,Oy,List.length_map]))
theorem Ij (s_:List Bg) {r:List Bg} (h:Co s_=some r):Ad Tryz.prog 137 [.sl 7 (s_.map Ap)] (·= .sl 7 (r.map Ap)):=(H4 s_ h).pure
def Ep (w:A8):Option (A8):=
 (B8 w.Runs).bind fun y1=>some (A8.mk w.Groomer w.From w.To y1)
theorem Tq (w:A8) {r:A8} (h:Ep w=some r):Ad Tryz.prog 139 [.agg (Ao w)] (·= .agg (Ao r)):=by
 refine Ad.nle (Ad.intro Tryz.func139 rfl rfl (by show _≤8;simp) ?_)
 unfold Ep at h
 refine nS (sq ?_)
 refine ar rfl (qn (sq ?_))
 refine rg rfl fun K j=>?_
 obtain⟨y1,hy1,h⟩:=Af h
 refine An.pure Tryz.call67 (Db w.Runs hy1) rfl fun _ hr=>?_
 subst hr
 refine nS ?_
 refine j _ _ (qn (sq ?_))
 refine ar rfl (qn (rt ?_))
 cases h;exact en Tryz.results139
def Cp (s_:List B4):Option (List B4):=chk s_.length (some s_)
theorem I6 (s_:List B4) {r:List B4} (h:Cp s_=some r):Dc Tryz.prog 140 [.sl 8 (s_.map Ay)] 8 (r.map Ay):=by
 have hk:=(B6 h).1
 have hr:r=s_:=Aa (B6 h).2
 rw[hr];clear hr h
 refine Dc.of ?_
 refine Ci.weak (R:=fun q H=>∃ v rest,q= .own 0 v 0 (s_.map Ay).length∧H= .row v 8 (s_.map Ay)::rest) (Ci.intro Tryz.func140 rfl rfl (by show _≤8;simp) ?_) (fun q H hq=>?_)
 ·refine nS (sq ?_)
  refine ar rfl (qn (sq (sq ?_)))
  refine rg rfl fun K j=>?_
  intro bnil hb
  refine nS ?_
  refine j _ _ (qn ?_)
  refine AWP.cond (Ak (fun hc=>?_) (fun hc=>?_))
  ·have hx0:s_=[]:=Classical.byContradiction fun hne=>by have:=hb (by simpa using hne);simp[this]at hc
   subst hx0
   refine sq (ar rfl (qn ?_))
   refine AWP.ghost 2 8 rfl (by decide) ?_
   refine nS (rt (qr ?_))
   refine nSc Tryz.results140 ?_
   refine⟨_,_,?_,rfl⟩
   (try simp +decide -implicitDefEqProofs only[go_sem,List.length_map,List.length_append,List.length_cons,List.length_nil,List.length_set,List.length_replicate]);try rfl
  clear hc
  refine sk (qn (sq ?_))
  refine rg rfl fun K j=>?_
  (repeat refine rp ?_);try simp +decide -implicitDefEqProofs only[go_sem]
  refine j _ _ (qn (rt ?_))
  refine nSc Tryz.results140 ?_
  refine⟨_,_,?_,rfl⟩
  (try simp +decide -implicitDefEqProofs only[go_sem,List.length_map,List.length_append,List.length_cons,List.length_nil,List.length_set,List.length_replicate]);try rfl
 obtain⟨v,rest,rfl,rfl⟩:=hq
 exact⟨[.row v 8 (s_.map Ay)],⟨⟨rfl,rfl,rfl⟩,by cases rest<;>trivial⟩,rfl,rfl,⟨v,rfl,rfl⟩⟩
theorem H6 (s_:List B4) {r:List B4} (h:Cp s_=some r):Bp Tryz.prog 140 [.sl 8 (s_.map Ay)] (·= .sl 8 (r.map Ay)):=Bp.nle (Ci.fresh (Ci.mono (I6 s_ h) fun q H=>by rintro⟨rfl,rfl⟩;simp +decide -implicitDefEqProofs only[go_sem,Dj,Ac.int.injEq,Int.natCast_zero,List.replicate_zero,List.length_take,List.length_drop,Ac.own.injEq,reduceCtorEq,Int.reduceAdd,Sh,Si,Oz,Sg,Oy,List.length_map]))
theorem Ik (s_:List B4) {r:List B4} (h:Cp s_=some r):Ad Tryz.prog 140 [.sl 8 (s_.map Ay)] (·= .sl 8 (r.map Ay)):=(H6 s_ h).pure
def D3 (s_:List Bj):Option (List Bj):=chk s_.length (some s_)
theorem J3 (s_:List Bj) {r:List Bj} (h:D3 s_=some r):Dc Tryz.prog 141 [.sl 3 (s_.map A4)] 3 (r.map A4):=by
 have hk:=(B6 h).1
 have hr:r=s_:=Aa (B6 h).2
 rw[hr];clear hr h
 refine Dc.of ?_
 refine Ci.weak (R:=fun q H=>∃ v rest,q= .own 0 v 0 (s_.map A4).length∧H= .row v 3 (s_.map A4)::rest) (Ci.intro Tryz.func141 rfl rfl (by show _≤8;simp) ?_) (fun q H hq=>?_)
 ·refine nS (sq ?_)
  refine ar rfl (qn (sq (sq ?_)))
  refine rg rfl fun K j=>?_
  intro bnil hb
  refine nS ?_
  refine j _ _ (qn ?_)
  refine AWP.cond (Ak (fun hc=>?_) (fun hc=>?_))
  ·have hx0:s_=[]:=Classical.byContradiction fun hne=>by have:=hb (by simpa using hne);simp[this]at hc
   subst hx0
   refine sq (ar rfl (qn ?_))
   refine AWP.ghost 2 3 rfl (by decide) ?_
   refine nS (rt (qr ?_))
   refine nSc Tryz.results141 ?_
   refine⟨_,_,?_,rfl⟩
   (try simp +decide -implicitDefEqProofs only[go_sem,List.length_map,List.length_append,List.length_cons,List.length_nil,List.length_set,List.length_replicate]);try rfl
  clear hc
  refine sk (qn (sq ?_))
  refine rg rfl fun K j=>?_
  (repeat refine rp ?_);try simp +decide -implicitDefEqProofs only[go_sem]
  refine j _ _ (qn (rt ?_))
  refine nSc Tryz.results141 ?_
  refine⟨_,_,?_,rfl⟩
  (try simp +decide -implicitDefEqProofs only[go_sem,List.length_map,List.length_append,List.length_cons,List.length_nil,List.length_set,List.length_replicate]);try rfl
 obtain⟨v,rest,rfl,rfl⟩:=hq
 exact⟨[.row v 3 (s_.map A4)],⟨⟨rfl,rfl,rfl⟩,by cases rest<;>trivial⟩,rfl,rfl,⟨v,rfl,rfl⟩⟩
def Ev (f_:Aj) (y2:(List Int)) (k38:Nat) (x_40:Bj) (sv:(List Bj)×(List Int)):Option (Out ((List Bj)×(List Int)) (Aj×(List Int))):=
 (Dk sv.1 ((k38:Nat):Int)).bind fun x_41=>(bif x_41.Open then(Br y2 x_41.Run).bind fun y42=>(bif (!y42)then chk (sv.2.length+1) (some (Out.next (((sv.1.set k38 (Bj.mk x_41.Run false x_41.Since)).set k38 (Bj.mk x_41.Run false f_.Time)),(sv.2++[x_41.Run]))))else some (Out.next (sv.1,sv.2)))else some (Out.next (sv.1,sv.2)))
def G9 (k29:Nat) (x_31:A8) (sv:(List A8)):Option (Out ((List A8)) (Aj×(List Int))):=
 (Ep x_31).bind fun y32=>chk (sv.length+1) (some (Out.next (sv++[y32])))
def Ha (k23:Nat) (x_25:Bl) (sv:(List Bl)):Option (Out ((List Bl)) (Aj×(List Int))):=
 (Er x_25).bind fun y26=>chk (sv.length+1) (some (Out.next (sv++[y26])))
def Hb (k18:Nat) (x_20:Bd) (sv:(List Bd)):Option (Out ((List Bd)) (Aj×(List Int))):=
 (Es x_20).bind fun y21=>chk (sv.length+1) (some (Out.next (sv++[y21])))
def Hc (k10:Nat) (x_12:Cj) (sv:(List Cj)):Option (Out ((List Cj)) (Aj×(List Int))):=
 (Et x_12).bind fun y13=>chk (sv.length+1) (some (Out.next (sv++[y13])))
def F2 (f_:Aj):Option (Aj×(List Int)):=
 (C4 f_).bind fun y1=>(Dw f_ y1).bind fun y2=>(C8 f_.Map.Nodes).bind fun y3=>(C9 f_.Map.Lifts).bind fun y4=>(Dg f_.Map.Runs).bind fun y5=>(B8 f_.Map.Bases).bind fun y6=>(Cg f_.Lifts).bind fun y7=>(Cq f_.Closures).bind fun y8=>chk f_.Patrol.Bt.length ((Al Hc 0 f_.Patrol.Bt []).bind fun o10=>o10.on fun s10=>(Cu f_.Patrol.Hazards).bind fun y14=>(Cm f_.Surfaces).bind fun y15=>(Cn f_.Packs).bind fun y16=>chk f_.Slides.length ((Al Hb 0 f_.Slides []).bind fun o18=>o18.on fun s18=>chk f_.Bulletin.length ((Al Ha 0 f_.Bulletin []).bind fun o23=>o23.on fun s23=>(Co f_.Missions).bind fun y27=>chk f_.Winches.length ((Al G9 0 f_.Winches []).bind fun o29=>o29.on fun s29=>(Cp f_.Groomers).bind fun y33=>(D3 f_.Status).bind fun y34=>(Al (Ev f_ y2) 0 y34 (y34,[])).bind fun o38=>o38.on fun s38=>some ((Aj.mk (Bb.mk y3 y4 y5 y6) y7 y8 (Ca.mk s10 y14) y15 y16 s18 s23 y27 s29 y33 s38.1 f_.Depth f_.Time),s38.2)))))
theorem Oq (f_:Aj) {r:Aj×(List Int)} (h:F2 f_=some r):Ad Tryz.prog 27 [.agg (B3 f_)] (·= .tuple [.agg (B3 r.1),.sl 1 (r.2.map A5)]):=by
 refine Ad.nle (Ad.intro Tryz.func27 rfl rfl (by show _≤52;simp) ?_)
 unfold F2 at h
 refine nS (sq ?_)
 refine ar rfl (qn (sq ?_))
 refine AWP.draw Tryz.mixed (by kernel_rfl) ?_;intro K j
 refine nS ?_
 obtain⟨y1,hy1,h⟩:=Af h
 refine B7.pure Tryz.call20 (E1 f_ hy1) rfl ?_
 refine nS ?_
 obtain⟨y2,hy2,h⟩:=Af h
 refine B7.pure Tryz.call29 (Qo f_ y1 hy2) rfl ?_
 refine nS ?_
 refine j _ _ _ (by kernel_rfl) ?_
 refine qn (sq ?_)
 refine rg rfl fun K j=>?_
 refine An.inline Tryz.call57 Tryz.func57 rfl rfl (by show _≤74;simp) ?_
 refine nS (sq ?_)
 refine ar rfl (qn (sq ?_))
 refine AWP.draw Tryz.mixed (by kernel_rfl) ?_;intro K j
 refine nS ?_
 obtain⟨y3,hy3,h⟩:=Af h
 refine B7.pure Tryz.call122 (Lu f_.Map.Nodes hy3) rfl ?_
 refine nS ?_
 obtain⟨y4,hy4,h⟩:=Af h
 refine B7.pure Tryz.call123 (Lv f_.Map.Lifts hy4) rfl ?_
 refine nS ?_
 obtain⟨y5,hy5,h⟩:=Af h
 refine B7.pure Tryz.call124 (Mx f_.Map.Runs hy5) rfl ?_
 refine nS ?_
 obtain⟨y6,hy6,h⟩:=Af h
 refine B7.pure Tryz.call67 (Db f_.Map.Bases hy6) rfl ?_
 refine nS ?_
 refine j _ _ _ (by kernel_rfl) ?_;clear j K
 refine qn (sq ?_)
 refine rg rfl fun K j=>?_
 obtain⟨y7,hy7,h⟩:=Af h
 refine An.pure Tryz.call125 (Hh f_.Lifts hy7) rfl fun _ hr=>?_
 subst hr
 refine nS ?_
 refine j _ _ (qn (sq ?_));clear j K
 refine rg rfl fun K j=>?_
 obtain⟨y8,hy8,h⟩:=Af h
 refine An.pure Tryz.call126 (Il f_.Closures hy8) rfl fun _ hr=>?_
 subst hr
 refine nS ?_
 refine j _ _ (qn (sq ?_));clear j K
 refine rg rfl fun K j=>?_
 refine An.inline Tryz.call127 Tryz.func127 rfl rfl (by show _≤25;simp) ?_
 refine nS (sq ?_)
 refine ar rfl (qn (sq ?_))
 refine rg rfl fun K j=>?_
 intro hm
 obtain⟨hk,h⟩:=B6 h
 (repeat refine rp ?_);try simp +decide -implicitDefEqProofs only[go_sem]
 refine j _ _ (qn (sq (sq ?_)));clear j K
 refine rg rfl fun K j=>?_
 intro hm
 refine j _ _ (qn (bk ?_));clear j K
 obtain⟨o10,hJ10,hO10⟩:=Af h
 clear h
 refine AWP.Bw (ι:=Nat×((List Cj))×(Nat)) (fun zz=>[(1,.func 128 []),(5,.own 10 zz.2.2 0 zz.2.1.length),(11,.sl 4 (f_.Patrol.Bt.map Au)),(12,.int .i64 ((f_.Patrol.Bt.length:Nat):Int)),(13,.int .i64 ((zz.1:Nat):Int))]) (fun zz=>[.box [.sl 2 (f_.Map.Nodes.map A6),.sl 8 (f_.Map.Lifts.map A7),.sl 7 (f_.Map.Runs.map Bc),.sl 1 (f_.Map.Bases.map A5),.sl 2 (f_.Lifts.map Av),.sl 4 (f_.Closures.map Aq),.sl 4 (f_.Patrol.Bt.map Au),.sl 3 (f_.Patrol.Hazards.map Az),.sl 3 (f_.Surfaces.map A3),.sl 5 (f_.Packs.map A1),.sl 6 (f_.Slides.map A9),.sl 7 (f_.Bulletin.map Aw),.sl 7 (f_.Missions.map Ap),.sl 4 (f_.Winches.map Ao),.sl 8 (f_.Groomers.map Ay),.sl 3 (f_.Status.map A4),.int .i64 f_.Depth,.int .i64 f_.Time],.box [.nils,.nils,.nils,.nils,.nils,.nils,.nils,.nils,.nils,.nils,.nils,.nils,.nils,.nils,.nils,.nils,.int .i64 0,.int .i64 0],.gone,.gone,.box [.sl 2 (y3.map A6),.sl 8 (y4.map A7),.sl 7 (y5.map Bc),.sl 1 (y6.map A5),.sl 2 (y7.map Av),.sl 4 (y8.map Aq),.sl 4 (f_.Patrol.Bt.map Au),.sl 3 (f_.Patrol.Hazards.map Az),.sl 3 (f_.Surfaces.map A3),.sl 5 (f_.Packs.map A1),.sl 6 (f_.Slides.map A9),.sl 7 (f_.Bulletin.map Aw),.sl 7 (f_.Missions.map Ap),.sl 4 (f_.Winches.map Ao),.sl 8 (f_.Groomers.map Ay),.sl 3 (f_.Status.map A4),.int .i64 f_.Depth,.int .i64 f_.Time],.box [.nils,.nils,.nils,.nils,.nils,.nils,.nils,.nils,.nils,.nils,.nils,.nils,.nils,.nils,.nils,.nils,.int .i64 0,.int .i64 0],.gone,.gone,.gone,.gone,.row zz.2.2 4 (zz.2.1.map Au)]) (fun zz=>zz.1≤f_.Patrol.Bt.length∧Al Hc zz.1 ((f_.Patrol.Bt).drop zz.1) zz.2.1=some o10) (fun zz=>f_.Patrol.Bt.length - zz.1) (0,[],0) ⟨Nat.zero_le _,hJ10⟩ cu cu (fun x=>⟨rfl,rfl,rfl⟩) ?_
 clear hJ10
 rintro⟨k10,out9,ver10⟩ ⟨hk10,hJ10⟩
 dsimp only at hk10 hJ10 ⊢
 refine sq (ar rfl (qn (sq ?_)))
 refine AWP.cond (Ak (fun hc=>?_) (fun hc=>?_))
 ·have hlt10:k10<f_.Patrol.Bt.length:=by have:=Ai8 hc;omega
  obtain⟨x_12,b10,hx10_,h,hJ10⟩:=Ba hJ10 hlt10
  have hx10:=A2 hx10_
  have hw10:=wk (k:=k10) (by omega)
  unfold Hc at h;try dsimp only at h
  refine sk (qn (sq (bk (sq ?_))))
  refine rg rfl fun K j=>?_
  refine Bn.of (f:=Au) (l:=f_.Patrol.Bt) hx10 ?_
  refine nS ?_
  refine j _ _ (qn ?_);clear j K
  refine rg rfl fun K j=>?_
  obtain⟨y13,hy13,h⟩:=Af h
  refine An.pure Tryz.call128 (Tt x_12 hy13) rfl fun _ hr=>?_
  subst hr
  refine nS ?_
  obtain⟨hk,h⟩:=B6 h
  (repeat refine rp ?_);try simp +decide -implicitDefEqProofs only[go_sem]
  refine j _ _ (bn (qn ?_));clear j K
  refine ar rfl (qn ?_)
  obtain rfl:=Aa h
  refine⟨(k10+1,(out9++[y13]),(ver10+1)),⟨by dsimp only;omega,Ai hJ10⟩,by dsimp only;omega,?_,?_⟩
  ·exact cuw hw10
  exact cuw hw10
 obtain rfl:=Bf hJ10 (fun hl=>by have:=Ai7 hc;omega)
 have h:=Be hO10;try dsimp only at h
 have hkl:f_.Patrol.Bt.length=k10:=by have:=Ai7 hc;omega
 subst hkl
 refine xt (qe (qe (bs (qn (sq (ar rfl (qn (rt ?_))))))))
 refine nSc Tryz.results127 ?_
 refine j _ _ (qn (sq ?_));clear j K
 refine rg rfl fun K j=>?_
 obtain⟨y14,hy14,h⟩:=Af h
 refine An.pure Tryz.call130 (Js f_.Patrol.Hazards hy14) rfl fun _ hr=>?_
 subst hr
 refine nS ?_
 refine j _ _ (qn (sq ?_));clear j K
 refine rg rfl fun K j=>?_
 obtain⟨y15,hy15,h⟩:=Af h
 refine An.pure Tryz.call131 (Ih f_.Surfaces hy15) rfl fun _ hr=>?_
 subst hr
 refine nS ?_
 refine j _ _ (qn (sq ?_));clear j K
 refine rg rfl fun K j=>?_
 obtain⟨y16,hy16,h⟩:=Af h
 refine An.pure Tryz.call132 (Ii f_.Packs hy16) rfl fun _ hr=>?_
 subst hr
 refine nS ?_
 refine j _ _ (qn (sq ?_));clear j K
 refine rg rfl fun K j=>?_
 refine An.inline Tryz.call133 Tryz.func133 rfl rfl (by show _≤25;simp) ?_
 refine nS (sq ?_)
 refine ar rfl (qn (sq ?_))
 refine rg rfl fun K j=>?_
 intro hm
 obtain⟨hk,h⟩:=B6 h
 (repeat refine rp ?_);try simp +decide -implicitDefEqProofs only[go_sem]
 refine j _ _ (qn (sq (sq ?_)));clear j K
 refine rg rfl fun K j=>?_
 intro hm
 refine j _ _ (qn (bk ?_));clear j K
 obtain⟨o18,hJ18,hO18⟩:=Af h
 clear h
 refine AWP.Bw (ι:=Nat×((List Bd))×(Nat)) (fun zz=>[(1,.func 134 []),(5,.own 11 zz.2.2 0 zz.2.1.length),(11,.sl 6 (f_.Slides.map A9)),(12,.int .i64 ((f_.Slides.length:Nat):Int)),(13,.int .i64 ((zz.1:Nat):Int))]) (fun zz=>[.box [.sl 2 (f_.Map.Nodes.map A6),.sl 8 (f_.Map.Lifts.map A7),.sl 7 (f_.Map.Runs.map Bc),.sl 1 (f_.Map.Bases.map A5),.sl 2 (f_.Lifts.map Av),.sl 4 (f_.Closures.map Aq),.sl 4 (f_.Patrol.Bt.map Au),.sl 3 (f_.Patrol.Hazards.map Az),.sl 3 (f_.Surfaces.map A3),.sl 5 (f_.Packs.map A1),.sl 6 (f_.Slides.map A9),.sl 7 (f_.Bulletin.map Aw),.sl 7 (f_.Missions.map Ap),.sl 4 (f_.Winches.map Ao),.sl 8 (f_.Groomers.map Ay),.sl 3 (f_.Status.map A4),.int .i64 f_.Depth,.int .i64 f_.Time],.box [.nils,.nils,.nils,.nils,.nils,.nils,.nils,.nils,.nils,.nils,.nils,.nils,.nils,.nils,.nils,.nils,.int .i64 0,.int .i64 0],.gone,.gone,.box [.sl 2 (y3.map A6),.sl 8 (y4.map A7),.sl 7 (y5.map Bc),.sl 1 (y6.map A5),.sl 2 (y7.map Av),.sl 4 (y8.map Aq),.own 10 ver10 0 out9.length,.sl 3 (y14.map Az),.sl 3 (y15.map A3),.sl 5 (y16.map A1),.sl 6 (f_.Slides.map A9),.sl 7 (f_.Bulletin.map Aw),.sl 7 (f_.Missions.map Ap),.sl 4 (f_.Winches.map Ao),.sl 8 (f_.Groomers.map Ay),.sl 3 (f_.Status.map A4),.int .i64 f_.Depth,.int .i64 f_.Time],.box [.nils,.nils,.nils,.nils,.nils,.nils,.nils,.nils,.nils,.nils,.nils,.nils,.nils,.nils,.nils,.nils,.int .i64 0,.int .i64 0],.gone,.gone,.gone,.gone,.row ver10 4 (out9.map Au),.row zz.2.2 6 (zz.2.1.map A9)]) (fun zz=>zz.1≤f_.Slides.length∧Al Hb zz.1 ((f_.Slides).drop zz.1) zz.2.1=some o18) (fun zz=>f_.Slides.length - zz.1) (0,[],0) ⟨Nat.zero_le _,hJ18⟩ cu cu (fun x=>⟨rfl,rfl,rfl⟩) ?_
 clear hJ18
 rintro⟨k18,out17,ver18⟩ ⟨hk18,hJ18⟩
 dsimp only at hk18 hJ18 ⊢
 refine sq (ar rfl (qn (sq ?_)))
 refine AWP.cond (Ak (fun hc=>?_) (fun hc=>?_))
 ·have hlt18:k18<f_.Slides.length:=by have:=Ai8 hc;omega
  obtain⟨x_20,b18,hx18_,h,hJ18⟩:=Ba hJ18 hlt18
  have hx18:=A2 hx18_
  have hw18:=wk (k:=k18) (by omega)
  unfold Hb at h;try dsimp only at h
  refine sk (qn (sq (bk (sq ?_))))
  refine rg rfl fun K j=>?_
  refine Bn.of (f:=A9) (l:=f_.Slides) hx18 ?_
  refine nS ?_
  refine j _ _ (qn ?_);clear j K
  refine rg rfl fun K j=>?_
  obtain⟨y21,hy21,h⟩:=Af h
  refine An.pure Tryz.call134 (Ts x_20 hy21) rfl fun _ hr=>?_
  subst hr
  refine nS ?_
  obtain⟨hk,h⟩:=B6 h
  (repeat refine rp ?_);try simp +decide -implicitDefEqProofs only[go_sem]
  refine j _ _ (bn (qn ?_));clear j K
  refine ar rfl (qn ?_)
  obtain rfl:=Aa h
  refine⟨(k18+1,(out17++[y21]),(ver18+1)),⟨by dsimp only;omega,Ai hJ18⟩,by dsimp only;omega,?_,?_⟩
  ·exact cuw hw18
  exact cuw hw18
 obtain rfl:=Bf hJ18 (fun hl=>by have:=Ai7 hc;omega)
 have h:=Be hO18;try dsimp only at h
 have hkl:f_.Slides.length=k18:=by have:=Ai7 hc;omega
 subst hkl
 refine xt (qe (qe (bs (qn (sq (ar rfl (qn (rt ?_))))))))
 refine nSc Tryz.results133 ?_
 refine j _ _ (qn (sq ?_));clear j K
 refine rg rfl fun K j=>?_
 refine An.inline Tryz.call135 Tryz.func135 rfl rfl (by show _≤25;simp) ?_
 refine nS (sq ?_)
 refine ar rfl (qn (sq ?_))
 refine rg rfl fun K j=>?_
 intro hm
 obtain⟨hk,h⟩:=B6 h
 (repeat refine rp ?_);try simp +decide -implicitDefEqProofs only[go_sem]
 refine j _ _ (qn (sq (sq ?_)));clear j K
 refine rg rfl fun K j=>?_
 intro hm
 refine j _ _ (qn (bk ?_));clear j K
 obtain⟨o23,hJ23,hO23⟩:=Af h
 clear h
 refine AWP.Bw (ι:=Nat×((List Bl))×(Nat)) (fun zz=>[(1,.func 136 []),(5,.own 12 zz.2.2 0 zz.2.1.length),(11,.sl 7 (f_.Bulletin.map Aw)),(12,.int .i64 ((f_.Bulletin.length:Nat):Int)),(13,.int .i64 ((zz.1:Nat):Int))]) (fun zz=>[.box [.sl 2 (f_.Map.Nodes.map A6),.sl 8 (f_.Map.Lifts.map A7),.sl 7 (f_.Map.Runs.map Bc),.sl 1 (f_.Map.Bases.map A5),.sl 2 (f_.Lifts.map Av),.sl 4 (f_.Closures.map Aq),.sl 4 (f_.Patrol.Bt.map Au),.sl 3 (f_.Patrol.Hazards.map Az),.sl 3 (f_.Surfaces.map A3),.sl 5 (f_.Packs.map A1),.sl 6 (f_.Slides.map A9),.sl 7 (f_.Bulletin.map Aw),.sl 7 (f_.Missions.map Ap),.sl 4 (f_.Winches.map Ao),.sl 8 (f_.Groomers.map Ay),.sl 3 (f_.Status.map A4),.int .i64 f_.Depth,.int .i64 f_.Time],.box [.nils,.nils,.nils,.nils,.nils,.nils,.nils,.nils,.nils,.nils,.nils,.nils,.nils,.nils,.nils,.nils,.int .i64 0,.int .i64 0],.gone,.gone,.box [.sl 2 (y3.map A6),.sl 8 (y4.map A7),.sl 7 (y5.map Bc),.sl 1 (y6.map A5),.sl 2 (y7.map Av),.sl 4 (y8.map Aq),.own 10 ver10 0 out9.length,.sl 3 (y14.map Az),.sl 3 (y15.map A3),.sl 5 (y16.map A1),.own 11 ver18 0 out17.length,.sl 7 (f_.Bulletin.map Aw),.sl 7 (f_.Missions.map Ap),.sl 4 (f_.Winches.map Ao),.sl 8 (f_.Groomers.map Ay),.sl 3 (f_.Status.map A4),.int .i64 f_.Depth,.int .i64 f_.Time],.box [.nils,.nils,.nils,.nils,.nils,.nils,.nils,.nils,.nils,.nils,.nils,.nils,.nils,.nils,.nils,.nils,.int .i64 0,.int .i64 0],.gone,.gone,.gone,.gone,.row ver10 4 (out9.map Au),.row ver18 6 (out17.map A9),.row zz.2.2 7 (zz.2.1.map Aw)]) (fun zz=>zz.1≤f_.Bulletin.length∧Al Ha zz.1 ((f_.Bulletin).drop zz.1) zz.2.1=some o23) (fun zz=>f_.Bulletin.length - zz.1) (0,[],0) ⟨Nat.zero_le _,hJ23⟩ cu cu (fun x=>⟨rfl,rfl,rfl⟩) ?_
 clear hJ23
 rintro⟨k23,out22,ver23⟩ ⟨hk23,hJ23⟩
 dsimp only at hk23 hJ23 ⊢
 refine sq (ar rfl (qn (sq ?_)))
 refine AWP.cond (Ak (fun hc=>?_) (fun hc=>?_))
 ·have hlt23:k23<f_.Bulletin.length:=by have:=Ai8 hc;omega
  obtain⟨x_25,b23,hx23_,h,hJ23⟩:=Ba hJ23 hlt23
  have hx23:=A2 hx23_
  have hw23:=wk (k:=k23) (by omega)
  unfold Ha at h;try dsimp only at h
  refine sk (qn (sq (bk (sq ?_))))
  refine rg rfl fun K j=>?_
  refine Bn.of (f:=Aw) (l:=f_.Bulletin) hx23 ?_
  refine nS ?_
  refine j _ _ (qn ?_);clear j K
  refine rg rfl fun K j=>?_
  obtain⟨y26,hy26,h⟩:=Af h
  refine An.pure Tryz.call136 (Tr x_25 hy26) rfl fun _ hr=>?_
  subst hr
  refine nS ?_
  obtain⟨hk,h⟩:=B6 h
  (repeat refine rp ?_);try simp +decide -implicitDefEqProofs only[go_sem]
  refine j _ _ (bn (qn ?_));clear j K
  refine ar rfl (qn ?_)
  obtain rfl:=Aa h
  refine⟨(k23+1,(out22++[y26]),(ver23+1)),⟨by dsimp only;omega,Ai hJ23⟩,by dsimp only;omega,?_,?_⟩
  ·exact cuw hw23
  exact cuw hw23
 obtain rfl:=Bf hJ23 (fun hl=>by have:=Ai7 hc;omega)
 have h:=Be hO23;try dsimp only at h
 have hkl:f_.Bulletin.length=k23:=by have:=Ai7 hc;omega
 subst hkl
 refine xt (qe (qe (bs (qn (sq (ar rfl (qn (rt ?_))))))))
 refine nSc Tryz.results135 ?_
 refine j _ _ (qn (sq ?_));clear j K
 refine rg rfl fun K j=>?_
 obtain⟨y27,hy27,h⟩:=Af h
 refine An.pure Tryz.call137 (Ij f_.Missions hy27) rfl fun _ hr=>?_
 subst hr
 refine nS ?_
 refine j _ _ (qn (sq ?_));clear j K
 refine rg rfl fun K j=>?_
 refine An.inline Tryz.call138 Tryz.func138 rfl rfl (by show _≤25;simp) ?_
 refine nS (sq ?_)
 refine ar rfl (qn (sq ?_))
 refine rg rfl fun K j=>?_
 intro hm
 obtain⟨hk,h⟩:=B6 h
 (repeat refine rp ?_);try simp +decide -implicitDefEqProofs only[go_sem]
 refine j _ _ (qn (sq (sq ?_)));clear j K
 refine rg rfl fun K j=>?_
 intro hm
 refine j _ _ (qn (bk ?_));clear j K
 obtain⟨o29,hJ29,hO29⟩:=Af h
 clear h
 refine AWP.Bw (ι:=Nat×((List A8))×(Nat)) (fun zz=>[(1,.func 139 []),(5,.own 13 zz.2.2 0 zz.2.1.length),(11,.sl 4 (f_.Winches.map Ao)),(12,.int .i64 ((f_.Winches.length:Nat):Int)),(13,.int .i64 ((zz.1:Nat):Int))]) (fun zz=>[.box [.sl 2 (f_.Map.Nodes.map A6),.sl 8 (f_.Map.Lifts.map A7),.sl 7 (f_.Map.Runs.map Bc),.sl 1 (f_.Map.Bases.map A5),.sl 2 (f_.Lifts.map Av),.sl 4 (f_.Closures.map Aq),.sl 4 (f_.Patrol.Bt.map Au),.sl 3 (f_.Patrol.Hazards.map Az),.sl 3 (f_.Surfaces.map A3),.sl 5 (f_.Packs.map A1),.sl 6 (f_.Slides.map A9),.sl 7 (f_.Bulletin.map Aw),.sl 7 (f_.Missions.map Ap),.sl 4 (f_.Winches.map Ao),.sl 8 (f_.Groomers.map Ay),.sl 3 (f_.Status.map A4),.int .i64 f_.Depth,.int .i64 f_.Time],.box [.nils,.nils,.nils,.nils,.nils,.nils,.nils,.nils,.nils,.nils,.nils,.nils,.nils,.nils,.nils,.nils,.int .i64 0,.int .i64 0],.gone,.gone,.box [.sl 2 (y3.map A6),.sl 8 (y4.map A7),.sl 7 (y5.map Bc),.sl 1 (y6.map A5),.sl 2 (y7.map Av),.sl 4 (y8.map Aq),.own 10 ver10 0 out9.length,.sl 3 (y14.map Az),.sl 3 (y15.map A3),.sl 5 (y16.map A1),.own 11 ver18 0 out17.length,.own 12 ver23 0 out22.length,.sl 7 (y27.map Ap),.sl 4 (f_.Winches.map Ao),.sl 8 (f_.Groomers.map Ay),.sl 3 (f_.Status.map A4),.int .i64 f_.Depth,.int .i64 f_.Time],.box [.nils,.nils,.nils,.nils,.nils,.nils,.nils,.nils,.nils,.nils,.nils,.nils,.nils,.nils,.nils,.nils,.int .i64 0,.int .i64 0],.gone,.gone,.gone,.gone,.row ver10 4 (out9.map Au),.row ver18 6 (out17.map A9),.row ver23 7 (out22.map Aw),.row zz.2.2 4 (zz.2.1.map Ao)]) (fun zz=>zz.1≤f_.Winches.length∧Al G9 zz.1 ((f_.Winches).drop zz.1) zz.2.1=some o29) (fun zz=>f_.Winches.length - zz.1) (0,[],0) ⟨Nat.zero_le _,hJ29⟩ cu cu (fun x=>⟨rfl,rfl,rfl⟩) ?_
 clear hJ29
 rintro⟨k29,out28,ver29⟩ ⟨hk29,hJ29⟩
 dsimp only at hk29 hJ29 ⊢
 refine sq (ar rfl (qn (sq ?_)))
 refine AWP.cond (Ak (fun hc=>?_) (fun hc=>?_))
 ·have hlt29:k29<f_.Winches.length:=by have:=Ai8 hc;omega
  obtain⟨x_31,b29,hx29_,h,hJ29⟩:=Ba hJ29 hlt29
  have hx29:=A2 hx29_
  have hw29:=wk (k:=k29) (by omega)
  unfold G9 at h;try dsimp only at h
  refine sk (qn (sq (bk (sq ?_))))
  refine rg rfl fun K j=>?_
  refine Bn.of (f:=Ao) (l:=f_.Winches) hx29 ?_
  refine nS ?_
  refine j _ _ (qn ?_);clear j K
  refine rg rfl fun K j=>?_
  obtain⟨y32,hy32,h⟩:=Af h
  refine An.pure Tryz.call139 (Tq x_31 hy32) rfl fun _ hr=>?_
  subst hr
  refine nS ?_
  obtain⟨hk,h⟩:=B6 h
  (repeat refine rp ?_);try simp +decide -implicitDefEqProofs only[go_sem]
  refine j _ _ (bn (qn ?_));clear j K
  refine ar rfl (qn ?_)
  obtain rfl:=Aa h
  refine⟨(k29+1,(out28++[y32]),(ver29+1)),⟨by dsimp only;omega,Ai hJ29⟩,by dsimp only;omega,?_,?_⟩
  ·exact cuw hw29
  exact cuw hw29
 obtain rfl:=Bf hJ29 (fun hl=>by have:=Ai7 hc;omega)
 have h:=Be hO29;try dsimp only at h
 have hkl:f_.Winches.length=k29:=by have:=Ai7 hc;omega
 subst hkl
 refine xt (qe (qe (bs (qn (sq (ar rfl (qn (rt ?_))))))))
 refine nSc Tryz.results138 ?_
 refine j _ _ (qn (sq ?_));clear j K
 refine rg rfl fun K j=>?_
 obtain⟨y33,hy33,h⟩:=Af h
 refine An.pure Tryz.call140 (Ik f_.Groomers hy33) rfl fun _ hr=>?_
 subst hr
 refine nS ?_
 refine j _ _ (qn (sq ?_));clear j K
 refine rg rfl fun K j=>?_
 obtain⟨y34,hy34,h⟩:=Af h
 refine An.row Tryz.call141 (J3 f_.Status hy34) rfl 14 rfl ?_
 (try simp +decide -implicitDefEqProofs only[go_sem,List.length_map])
 refine j _ _ (qn (sq ?_));clear j K
 refine ar rfl (qn (rt ?_))
 refine nSc Tryz.results57 ?_
 refine j _ _ (qn (sq ?_))
 refine ar rfl (qn (sq (sq ?_)))
 refine rg rfl fun K j=>?_
 intro hm
 refine j _ _ (qn (bk ?_))
 refine AWP.ghost 6 1 rfl (by decide) ?_
 obtain⟨o38,hJ38,hO38⟩:=Af h
 clear h
 refine AWP.Bw (ι:=Nat×((List Bj)×(List Int))×(Nat×Nat)) (fun zz=>[(1,.ptr 0 0),(2,.ptr 1 0),(4,.sl 1 (y2.map A5)),(5,.ptr 15 0),(6,.own 16 zz.2.2.2 0 zz.2.1.2.length),(16,.own 14 zz.2.2.1 0 zz.2.1.1.length),(17,.int .i64 ((y34.length:Nat):Int)),(18,.int .i64 ((zz.1:Nat):Int))]) (fun zz=>[.box [.sl 2 (f_.Map.Nodes.map A6),.sl 8 (f_.Map.Lifts.map A7),.sl 7 (f_.Map.Runs.map Bc),.sl 1 (f_.Map.Bases.map A5),.sl 2 (f_.Lifts.map Av),.sl 4 (f_.Closures.map Aq),.sl 4 (f_.Patrol.Bt.map Au),.sl 3 (f_.Patrol.Hazards.map Az),.sl 3 (f_.Surfaces.map A3),.sl 5 (f_.Packs.map A1),.sl 6 (f_.Slides.map A9),.sl 7 (f_.Bulletin.map Aw),.sl 7 (f_.Missions.map Ap),.sl 4 (f_.Winches.map Ao),.sl 8 (f_.Groomers.map Ay),.sl 3 (f_.Status.map A4),.int .i64 f_.Depth,.int .i64 f_.Time],.box [.nils,.nils,.nils,.nils,.nils,.nils,.nils,.nils,.nils,.nils,.nils,.nils,.nils,.nils,.nils,.nils,.int .i64 0,.int .i64 0],.gone,.gone,.gone,.gone,.gone,.gone,.gone,.gone,.row ver10 4 (out9.map Au),.row ver18 6 (out17.map A9),.row ver23 7 (out22.map Aw),.row ver29 4 (out28.map Ao),.row zz.2.2.1 3 (zz.2.1.1.map A4),.box [.sl 2 (y3.map A6),.sl 8 (y4.map A7),.sl 7 (y5.map Bc),.sl 1 (y6.map A5),.sl 2 (y7.map Av),.sl 4 (y8.map Aq),.own 10 ver10 0 out9.length,.sl 3 (y14.map Az),.sl 3 (y15.map A3),.sl 5 (y16.map A1),.own 11 ver18 0 out17.length,.own 12 ver23 0 out22.length,.sl 7 (y27.map Ap),.own 13 ver29 0 out28.length,.sl 8 (y33.map Ay),.own 14 zz.2.2.1 0 zz.2.1.1.length,.int .i64 f_.Depth,.int .i64 f_.Time],.row zz.2.2.2 1 (zz.2.1.2.map A5)]) (fun zz=>zz.1≤y34.length∧Al (Ev f_ y2) zz.1 ((y34).drop zz.1) zz.2.1=some o38) (fun zz=>y34.length - zz.1) (0,(y34,[]),(0,0)) ⟨Nat.zero_le _,hJ38⟩ cu cu (fun x=>⟨rfl,rfl,rfl⟩) ?_
 clear hJ38
 rintro⟨k38,⟨t16_35,closed37⟩,⟨ver36,ver38⟩⟩ ⟨hk38,hJ38⟩
 dsimp only at hk38 hJ38 ⊢
 refine sq (ar rfl (qn (sq ?_)))
 refine AWP.cond (Ak (fun hc=>?_) (fun hc=>?_))
 rotate_left
 ·obtain rfl:=Bf hJ38 (fun hl=>by have:=Ai7 hc;omega)
  have h:=Be hO38;try dsimp only at h
  have hkl:y34.length=k38:=by have:=Ai7 hc;omega
  subst hkl
  refine xt (qe (qe (bs (qn (sq (ar rfl (qn (rt ?_))))))))
  cases h;exact en Tryz.results27
 have hlt38:k38<y34.length:=by have:=Ai8 hc;omega
 obtain⟨x_40,b38,hx38_,h,hJ38⟩:=Ba hJ38 hlt38
 have hx38:=A2 hx38_
 have hw38:=wk (k:=k38) (by omega)
 unfold Ev at h;try dsimp only at h
 refine sk (qn (sq (bk (sq ?_))))
 refine rg rfl fun K j=>?_
 obtain⟨x_41,hx_41,h⟩:=Af h
 refine Kw hx_41 (by first | rfl | exact(Cl _).symm | (simp only[List.length_append,List.length_cons,List.length_nil,List.length_set,List.length_replicate]<;>omega)) ?_
 refine nS ?_
 refine Df.ofNat (f:=A4) (l:=t16_35) (n:=k38) hx_41 ?_
 refine nS ?_
 refine j _ _ (qn (sq ?_))
 refine rg rfl fun K j=>?_
 revert h;refine gt (fun hc h=>?_) fun hc h=>?_
 ·obtain⟨y42,hy42,h⟩:=Af h
  refine An.pure Tryz.call54 (Bu y2 x_41.Run hy42) rfl fun _ hr=>?_
  subst hr
  refine nS ?_
  refine j _ _ (qn ?_)
  revert h;refine ca rfl (fun hc h=>?_) fun hc h=>?_
  ·refine sq ?_
   refine rg rfl fun K j=>?_
   refine Kw hx_41 (by first | rfl | exact(Cl _).symm | (simp only[List.length_append,List.length_cons,List.length_nil,List.length_set,List.length_replicate]<;>omega)) ?_
   refine nS ?_
   refine Df.ofNat (f:=A4) (l:=t16_35) (n:=k38) hx_41 ?_
   have hs43:=R4 (y:=(Bj.mk x_41.Run false x_41.Since)) hx_41
   refine nS ?_
   refine j _ _ (qn (sq ?_))
   refine rg rfl fun K j=>?_
   refine Kw hs43 (by first | rfl | exact(Cl _).symm | (simp only[List.length_append,List.length_cons,List.length_nil,List.length_set,List.length_replicate]<;>omega)) ?_
   refine nS ?_
   refine Df.ofNat (f:=A4) (l:=(t16_35.set k38 (Bj.mk x_41.Run false x_41.Since))) (n:=k38) hs43 ?_
   have hs44:=R4 (y:=(Bj.mk x_41.Run false f_.Time)) hs43
   refine nS ?_
   refine j _ _ (qn ?_)
   refine rg rfl fun K j=>?_
   obtain⟨hk,h⟩:=B6 h
   (repeat refine rp ?_);try simp +decide -implicitDefEqProofs only[go_sem]
   refine j _ _ (bn (qn ?_))
   refine ar rfl (qn ?_)
   obtain rfl:=Aa h
   refine⟨(k38+1,(((t16_35.set k38 (Bj.mk x_41.Run false x_41.Since)).set k38 (Bj.mk x_41.Run false f_.Time)),(closed37++[x_41.Run])),(ver36,(ver38+1))),⟨by dsimp only;omega,Ai hJ38⟩,by dsimp only;omega,?_,?_⟩
   ·exact cuw hw38
   exact cuw hw38
  refine sk (bn (qn (ar rfl (qn ?_))))
  obtain rfl:=Aa h
  refine⟨(k38+1,(t16_35,closed37),(ver36,ver38)),⟨by dsimp only;omega,Ai hJ38⟩,by dsimp only;omega,?_,?_⟩
  ·exact cuw hw38
  exact cuw hw38
 refine j _ _ (qn ?_)
 refine AWP.cond (Bi ?_)
 refine sk (bn (qn (ar rfl (qn ?_))))
 obtain rfl:=Aa h
 refine⟨(k38+1,(t16_35,closed37),(ver36,ver38)),⟨by dsimp only;omega,Ai hJ38⟩,by dsimp only;omega,?_,?_⟩
 ·exact cuw hw38
 exact cuw hw38
def Ng:Option (Bool):=
 (Tp).bind fun y1=>(F8 y1 1).bind fun y2=>(F8 y1 2).bind fun y3=>(Gh y1).bind fun y4=>(bif (decide (y4≠0))then some false else(bif (decide (y2.2≠16))then some false else(bif (decide (y3.2≠16))then some false else(Dw y1 [(1:Int),2]).bind fun y5=>(My y5 [(1:Int),2]).bind fun y6=>(bif (!y6)then some false else(Dv (Aj.mk y1.Map y1.Lifts y1.Closures y1.Patrol y1.Surfaces y1.Packs y1.Slides y1.Bulletin y1.Missions y1.Winches y1.Groomers [(Bj.mk 1 true 0),(Bj.mk 2 true 0)] y1.Depth y1.Time)).bind fun y7=>(bif (!y7)then some false else(C4 (Aj.mk y1.Map y1.Lifts y1.Closures y1.Patrol y1.Surfaces y1.Packs y1.Slides y1.Bulletin y1.Missions y1.Winches y1.Groomers [(Bj.mk 1 true 0),(Bj.mk 2 true 0)] y1.Depth y1.Time)).bind fun y8=>(My y8 [(1:Int),2]).bind fun y9=>(bif (!y9)then some false else(F2 (Aj.mk y1.Map y1.Lifts [(Bk.mk 1 2 1 0)] y1.Patrol y1.Surfaces y1.Packs y1.Slides y1.Bulletin y1.Missions y1.Winches y1.Groomers [(Bj.mk 1 true 0),(Bj.mk 2 true 0)] y1.Depth y1.Time)).bind fun y10=>(Dv (Aj.mk y1.Map y1.Lifts [(Bk.mk 1 2 1 0)] y1.Patrol y1.Surfaces y1.Packs y1.Slides y1.Bulletin y1.Missions y1.Winches y1.Groomers [(Bj.mk 1 true 0),(Bj.mk 2 true 0)] y1.Depth y1.Time)).bind fun y11=>(bif y11 then some false else(My y10.2 [(1:Int),2]).bind fun y12=>(bif (!y12)then some false else(C4 y10.1).bind fun y13=>(bif (decide (((y13.length:Nat):Int)≠0))then some false else(Cw (Aj.mk y1.Map y1.Lifts y1.Closures (Ca.mk y1.Patrol.Bt [(Cv.mk 1 1 0)]) y1.Surfaces y1.Packs y1.Slides y1.Bulletin y1.Missions y1.Winches y1.Groomers y1.Status y1.Depth y1.Time) [(1:Int),2] 1).bind fun y14=>(bif (decide (y14=14))then (Cw (Aj.mk y1.Map y1.Lifts y1.Closures y1.Patrol y1.Surfaces y1.Packs y1.Slides y1.Bulletin y1.Missions y1.Winches y1.Groomers y1.Status 1001 y1.Time) [(1:Int),2] 1).bind fun y15=>(bif (decide (y15=5))then (Cw (Aj.mk y1.Map y1.Lifts y1.Closures y1.Patrol y1.Surfaces y1.Packs [(Bd.mk 1 [(1:Int)] [] 100 100 (-1))] y1.Bulletin y1.Missions y1.Winches y1.Groomers y1.Status y1.Depth y1.Time) [(1:Int),2] 1).bind fun y16=>(bif (decide (y16=10))then (Cw y1 [(1:Int),2] 9).bind fun y17=>(bif (decide (y17=8))then (Cw y1 [(1:Int),2] 1).bind fun y18=>some (decide (y18=0))else some false)else some false)else some false)else some false))))))))))
theorem Un {r:Bool} (h:Ng=some r):Ad Tryz.prog 10 [] (·= .bool r):=by
 refine Ad.nle (Ad.intro Tryz.func10 rfl rfl (by show _≤120;simp) ?_)
 unfold Ng at h
 refine nS (sq ?_)
 refine ar rfl (qn (sq ?_))
 refine rg rfl fun K j=>?_
 obtain⟨y1,hy1,h⟩:=Af h
 refine An.pure Tryz.call36 (Zm hy1) rfl fun _ hr=>?_
 subst hr
 refine nS ?_
 refine j _ _ (qn (sq ?_))
 refine rg rfl fun K j=>?_
 obtain⟨y2,hy2,h⟩:=Af h
 refine An.pure Tryz.call24 (Lw y1 1 hy2) rfl fun _ hr=>?_
 subst hr
 refine nS ?_
 refine j _ _ (qn (sq ?_))
 refine rg rfl fun K j=>?_
 obtain⟨y3,hy3,h⟩:=Af h
 refine An.pure Tryz.call24 (Lw y1 2 hy3) rfl fun _ hr=>?_
 subst hr
 refine nS ?_
 refine j _ _ (qn (sq (sq ?_)))
 refine rg rfl fun K j=>?_
 obtain⟨y4,hy4,h⟩:=Af h
 refine An.pure Tryz.call12 (Wz y1 hy4) rfl fun _ hr=>?_
 subst hr
 refine nS ?_
 revert h;refine gf (fun hc h=>?_) fun hc h=>?_
 rotate_left
 ·refine j _ _ (qn ?_)
  refine AWP.cond (Ah ?_)
  refine sq (ar rfl (qn (rt (qr ?_))))
  cases h;exact en Tryz.results10
 revert h;refine gf (fun hc h=>?_) fun hc h=>?_
 rotate_left
 ·refine j _ _ (qn ?_)
  refine AWP.cond (Ah ?_)
  refine sq (ar rfl (qn (rt (qr ?_))))
  cases h;exact en Tryz.results10
 revert h;refine gf (fun hc h=>?_) fun hc h=>?_
 rotate_left
 ·refine j _ _ (qn ?_)
  refine AWP.cond (Ah ?_)
  refine sq (ar rfl (qn (rt (qr ?_))))
  cases h;exact en Tryz.results10
 obtain⟨y5,hy5,h⟩:=Af h
 refine An.Z9 Tryz.call29 (Gt y1 [(1:Int),2] hy5) (by simp +decide -implicitDefEqProofs only[go_sem]) fun _ hr=>?_
 subst hr
 refine nS ?_
 obtain⟨y6,hy6,h⟩:=Af h
 refine An.snap Tryz.call15 (Mk y5 [(1:Int),2] hy6) (by simp +decide -implicitDefEqProofs only[go_sem]) (by rintro _ rfl;rfl) fun _ hr=>?_
 subst hr
 refine nS ?_
 refine j _ _ (qn ?_)
 revert h;refine ca rfl (fun hc h=>?_) fun hc h=>?_
 ·refine sq (ar rfl (qn (rt (qr ?_))))
  cases h;exact en Tryz.results10
 refine sk (qn (sq (ar rfl (qn (sq ?_)))))
 refine ar rfl (qn (sq (sq ?_)))
 refine rg rfl fun K j=>?_
 obtain⟨y7,hy7,h⟩:=Af h
 refine An.snap Tryz.call22 (Ew (Aj.mk y1.Map y1.Lifts y1.Closures y1.Patrol y1.Surfaces y1.Packs y1.Slides y1.Bulletin y1.Missions y1.Winches y1.Groomers [(Bj.mk 1 true 0),(Bj.mk 2 true 0)] y1.Depth y1.Time) hy7) (by simp +decide -implicitDefEqProofs only[go_sem]) (by rintro _ rfl;rfl) fun _ hr=>?_
 subst hr
 refine nS ?_
 revert h;refine gf (fun hc h=>?_) fun hc h=>?_
 rotate_left
 ·refine j _ _ (qn ?_)
  refine AWP.cond (Ah ?_)
  refine sq (ar rfl (qn (rt (qr ?_))))
  cases h;exact en Tryz.results10
 obtain⟨y8,hy8,h⟩:=Af h
 refine An.Z9 Tryz.call20 (Qn (Aj.mk y1.Map y1.Lifts y1.Closures y1.Patrol y1.Surfaces y1.Packs y1.Slides y1.Bulletin y1.Missions y1.Winches y1.Groomers [(Bj.mk 1 true 0),(Bj.mk 2 true 0)] y1.Depth y1.Time) hy8) (by simp +decide -implicitDefEqProofs only[go_sem]) fun _ hr=>?_
 subst hr
 refine nS ?_
 obtain⟨y9,hy9,h⟩:=Af h
 refine An.snap Tryz.call15 (Mk y8 [(1:Int),2] hy9) (by simp +decide -implicitDefEqProofs only[go_sem]) (by rintro _ rfl;rfl) fun _ hr=>?_
 subst hr
 refine nS ?_
 refine j _ _ (qn ?_)
 revert h;refine ca rfl (fun hc h=>?_) fun hc h=>?_
 ·refine sq (ar rfl (qn (rt (qr ?_))))
  cases h;exact en Tryz.results10
 refine sk (qn (sq (ar rfl (qn (sq ?_)))))
 refine AWP.lI ?_
 refine ALP.cut 1 (ALP.part rfl ?_);intro K j
 refine nS ?_
 refine j _ _ ?_
 refine ALP.sub (Sub.D1 8 rfl) ?_
 refine nS ?_
 refine ALP.sub (Sub.D1 6 rfl) ?_
 refine nS ?_
 refine ALP.last rfl ?_;intro K j
 refine nS ?_
 obtain⟨y10,hy10,h⟩:=Af h
 refine An.pure Tryz.call27 (Oq (Aj.mk y1.Map y1.Lifts [(Bk.mk 1 2 1 0)] y1.Patrol y1.Surfaces y1.Packs y1.Slides y1.Bulletin y1.Missions y1.Winches y1.Groomers [(Bj.mk 1 true 0),(Bj.mk 2 true 0)] y1.Depth y1.Time) hy10) rfl fun _ hr=>?_
 subst hr
 refine nS ?_
 refine j _ _ (qn (sq (sq ?_)))
 refine rg rfl fun K j=>?_
 obtain⟨y11,hy11,h⟩:=Af h
 refine An.pure Tryz.call22 (Ew (Aj.mk y1.Map y1.Lifts [(Bk.mk 1 2 1 0)] y1.Patrol y1.Surfaces y1.Packs y1.Slides y1.Bulletin y1.Missions y1.Winches y1.Groomers [(Bj.mk 1 true 0),(Bj.mk 2 true 0)] y1.Depth y1.Time) hy11) rfl fun _ hr=>?_
 subst hr
 refine nS ?_
 revert h;refine gf (fun hc h=>?_) fun hc h=>?_
 rotate_left
 ·refine j _ _ (qn ?_)
  refine AWP.cond (Ah ?_)
  refine sq (ar rfl (qn (rt (qr ?_))))
  cases h;exact en Tryz.results10
 obtain⟨y12,hy12,h⟩:=Af h
 refine An.snap Tryz.call15 (Mk y10.2 [(1:Int),2] hy12) (by simp +decide -implicitDefEqProofs only[go_sem]) (by rintro _ rfl;rfl) fun _ hr=>?_
 subst hr
 refine nS ?_
 revert h;refine gf (fun hc h=>?_) fun hc h=>?_
 rotate_left
 ·refine j _ _ (qn ?_)
  refine AWP.cond (Ah ?_)
  refine sq (ar rfl (qn (rt (qr ?_))))
  cases h;exact en Tryz.results10
 obtain⟨y13,hy13,h⟩:=Af h
 refine An.pure Tryz.call20 (E1 y10.1 hy13) rfl fun _ hr=>?_
 subst hr
 refine nS ?_
 intro hm
 refine j _ _ (qn ?_)
 revert h;refine ca rfl (fun hc h=>?_) fun hc h=>?_
 ·refine sq (ar rfl (qn (rt (qr ?_))))
  cases h;exact en Tryz.results10
 refine sk (qn (sq (ar rfl (qn (sq ?_)))))
 refine ar rfl (qn (sq ?_))
 refine ar rfl (qn (sq ?_))
 refine ar rfl (qn (sq ?_))
 refine ar rfl (qn (sq ?_))
 refine AWP.lI ?_
 refine ALP.cut 2 (ALP.part rfl ?_);intro K j
 refine nS ?_
 refine j _ _ ?_
 refine ALP.sub (Sub.D1 14 rfl) ?_
 refine nS ?_
 refine ALP.last rfl ?_;intro K j
 refine nS ?_
 refine j _ _ (qn ?_)
 refine AWP.sub (Sub.denil 15 ([(Bd.mk (1:Int) [(1:Int)] [] (100:Int) (100:Int) (-1:Int))].map A9) rfl (by simp +decide -implicitDefEqProofs only[go_sem,Dj,Ac.int.injEq,Int.natCast_zero,List.replicate_zero,List.length_take,List.length_drop,Ac.own.injEq,reduceCtorEq,Int.reduceAdd,Sh,Si,Oz,Sg,Oy,wD,Oy,Oz])) ?_
 refine nS (sq ?_)
 refine ar rfl (qn (sq ?_))
 refine rg rfl fun K j=>?_
 obtain⟨y14,hy14,h⟩:=Af h
 refine An.snap Tryz.call18 (C0 (Aj.mk y1.Map y1.Lifts y1.Closures (Ca.mk y1.Patrol.Bt [(Cv.mk 1 1 0)]) y1.Surfaces y1.Packs y1.Slides y1.Bulletin y1.Missions y1.Winches y1.Groomers y1.Status y1.Depth y1.Time) [(1:Int),2] 1 hy14) (by simp +decide -implicitDefEqProofs only[go_sem]) (by rintro _ rfl;rfl) fun _ hr=>?_
 subst hr
 refine nS ?_
 revert h;refine gt (fun hc h=>?_) fun hc h=>?_
 rotate_left
 ·refine j _ _ (qn (rt ?_))
  cases h;exact en Tryz.results10
 obtain⟨y15,hy15,h⟩:=Af h
 refine An.snap Tryz.call18 (C0 (Aj.mk y1.Map y1.Lifts y1.Closures y1.Patrol y1.Surfaces y1.Packs y1.Slides y1.Bulletin y1.Missions y1.Winches y1.Groomers y1.Status 1001 y1.Time) [(1:Int),2] 1 hy15) (by simp +decide -implicitDefEqProofs only[go_sem]) (by rintro _ rfl;rfl) fun _ hr=>?_
 subst hr
 refine nS ?_
 revert h;refine gt (fun hc h=>?_) fun hc h=>?_
 rotate_left
 ·refine j _ _ (qn (rt ?_))
  cases h;exact en Tryz.results10
 obtain⟨y16,hy16,h⟩:=Af h
 refine An.snap Tryz.call18 (C0 (Aj.mk y1.Map y1.Lifts y1.Closures y1.Patrol y1.Surfaces y1.Packs [(Bd.mk 1 [(1:Int)] [] 100 100 (-1))] y1.Bulletin y1.Missions y1.Winches y1.Groomers y1.Status y1.Depth y1.Time) [(1:Int),2] 1 hy16) (by simp +decide -implicitDefEqProofs only[go_sem]) (by rintro _ rfl;rfl) fun _ hr=>?_
 subst hr
 refine nS ?_
 revert h;refine gt (fun hc h=>?_) fun hc h=>?_
 ·obtain⟨y17,hy17,h⟩:=Af h
  refine An.snap Tryz.call18 (C0 y1 [(1:Int),2] 9 hy17) (by simp +decide -implicitDefEqProofs only[go_sem]) (by rintro _ rfl;rfl) fun _ hr=>?_
  subst hr
  refine nS ?_
  revert h;refine gt (fun hc h=>?_) fun hc h=>?_
  ·obtain⟨y18,hy18,h⟩:=Af h
   refine An.snap Tryz.call18 (C0 y1 [(1:Int),2] 1 hy18) (by simp +decide -implicitDefEqProofs only[go_sem]) (by rintro _ rfl;rfl) fun _ hr=>?_
   subst hr
   refine nS ?_
   refine j _ _ (qn (rt ?_))
   cases h;exact en Tryz.results10
  refine j _ _ (qn (rt ?_))
  cases h;exact en Tryz.results10
 refine j _ _ (qn (rt ?_))
 cases h;exact en Tryz.results10
def Kx (f_:Aj):Option (Bool):=
 (bif (decide (12<((f_.Map.Nodes.length:Nat):Int)))then some false else(bif (decide (12<((f_.Map.Lifts.length:Nat):Int)))then some false else(bif (decide (12<((f_.Map.Runs.length:Nat):Int)))then some false else(bif (decide (12<((f_.Map.Bases.length:Nat):Int)))then some false else(bif (decide (12<((f_.Lifts.length:Nat):Int)))then some false else(bif (decide (12<((f_.Closures.length:Nat):Int)))then some false else(bif (decide (12<((f_.Patrol.Bt.length:Nat):Int)))then some false else(bif (decide (12<((f_.Patrol.Hazards.length:Nat):Int)))then some false else(bif (decide (12<((f_.Surfaces.length:Nat):Int)))then some false else(bif (decide (12<((f_.Packs.length:Nat):Int)))then some false else(bif (decide (12<((f_.Slides.length:Nat):Int)))then some false else(bif (decide (12<((f_.Bulletin.length:Nat):Int)))then some false else(bif (decide (((f_.Missions.length:Nat):Int)≤12))then (bif (decide (((f_.Winches.length:Nat):Int)≤12))then (bif (decide (((f_.Groomers.length:Nat):Int)≤12))then some (decide (((f_.Status.length:Nat):Int)≤12))else some false)else some false)else some false)))))))))))))
theorem cU (f_:Aj) {r:Bool} (h:Kx f_=some r):Ad Tryz.prog 11 [.agg (B3 f_)] (·= .bool r):=by
 refine Ad.nle (Ad.intro Tryz.func11 rfl rfl (by show _≤99;simp) ?_)
 unfold Kx at h
 refine nS (sq ?_)
 refine ar rfl (qn (sq (sq ?_)))
 refine rg rfl fun K j=>?_
 intro hm
 revert h;refine gf (fun hc h=>?_) fun hc h=>?_
 rotate_left
 ·refine j _ _ (qn ?_)
  refine AWP.cond (Ah ?_)
  refine sq (ar rfl (qn (rt (qr ?_))))
  cases h;exact en Tryz.results11
 intro hm
 revert h;refine gf (fun hc h=>?_) fun hc h=>?_
 rotate_left
 ·refine j _ _ (qn ?_)
  refine AWP.cond (Ah ?_)
  refine sq (ar rfl (qn (rt (qr ?_))))
  cases h;exact en Tryz.results11
 intro hm
 revert h;refine gf (fun hc h=>?_) fun hc h=>?_
 rotate_left
 ·refine j _ _ (qn ?_)
  refine AWP.cond (Ah ?_)
  refine sq (ar rfl (qn (rt (qr ?_))))
  cases h;exact en Tryz.results11
 intro hm
 revert h;refine gf (fun hc h=>?_) fun hc h=>?_
 rotate_left
 ·refine j _ _ (qn ?_)
  refine AWP.cond (Ah ?_)
  refine sq (ar rfl (qn (rt (qr ?_))))
  cases h;exact en Tryz.results11
 intro hm
 revert h;refine gf (fun hc h=>?_) fun hc h=>?_
 rotate_left
 ·refine j _ _ (qn ?_)
  refine AWP.cond (Ah ?_)
  refine sq (ar rfl (qn (rt (qr ?_))))
  cases h;exact en Tryz.results11
 intro hm
 refine j _ _ (qn ?_)
 revert h;refine ca rfl (fun hc h=>?_) fun hc h=>?_
 ·refine sq (ar rfl (qn (rt (qr ?_))))
  cases h;exact en Tryz.results11
 refine sk (qn (sq (sq ?_)))
 refine rg rfl fun K j=>?_
 intro hm
 revert h;refine gf (fun hc h=>?_) fun hc h=>?_
 rotate_left
 ·refine j _ _ (qn ?_)
  refine AWP.cond (Ah ?_)
  refine sq (ar rfl (qn (rt (qr ?_))))
  cases h;exact en Tryz.results11
 intro hm
 revert h;refine gf (fun hc h=>?_) fun hc h=>?_
 rotate_left
 ·refine j _ _ (qn ?_)
  refine AWP.cond (Ah ?_)
  refine sq (ar rfl (qn (rt (qr ?_))))
  cases h;exact en Tryz.results11
 intro hm
 revert h;refine gf (fun hc h=>?_) fun hc h=>?_
 rotate_left
 ·refine j _ _ (qn ?_)
  refine AWP.cond (Ah ?_)
  refine sq (ar rfl (qn (rt (qr ?_))))
  cases h;exact en Tryz.results11
 intro hm
 revert h;refine gf (fun hc h=>?_) fun hc h=>?_
 rotate_left
 ·refine j _ _ (qn ?_)
  refine AWP.cond (Ah ?_)
  refine sq (ar rfl (qn (rt (qr ?_))))
  cases h;exact en Tryz.results11
 intro hm
 revert h;refine gf (fun hc h=>?_) fun hc h=>?_
 rotate_left
 ·refine j _ _ (qn ?_)
  refine AWP.cond (Ah ?_)
  refine sq (ar rfl (qn (rt (qr ?_))))
  cases h;exact en Tryz.results11
 intro hm
 refine j _ _ (qn ?_)
 revert h;refine ca rfl (fun hc h=>?_) fun hc h=>?_
 ·refine sq (ar rfl (qn (rt (qr ?_))))
  cases h;exact en Tryz.results11
 refine sk (qn (sq ?_))
 refine rg rfl fun K j=>?_
 intro hm
 revert h;refine gt (fun hc h=>?_) fun hc h=>?_
 ·intro hm
  revert h;refine gt (fun hc h=>?_) fun hc h=>?_
  ·intro hm
   revert h;refine gt (fun hc h=>?_) fun hc h=>?_
   ·intro hm
    refine j _ _ (qn (rt ?_))
    cases h;exact en Tryz.results11
   refine j _ _ (qn (rt ?_))
   cases h;exact en Tryz.results11
  refine j _ _ (qn (rt ?_))
  cases h;exact en Tryz.results11
 refine j _ _ (qn (rt ?_))
 cases h;exact en Tryz.results11
def E9 (n_:Int) (lo:Int) (hi:Int):Option (Bool):=
 (bif (decide (lo≤n_))then some (decide (n_≤hi))else some false)
theorem De (n_:Int) (lo:Int) (hi:Int) {r:Bool} (h:E9 n_ lo hi=some r):Ad Tryz.prog 254 [.int .i64 n_,.int .i64 lo,.int .i64 hi] (·= .bool r):=by
 refine Ad.nle (Ad.intro Tryz.func254 rfl rfl (by show _≤15;simp) ?_)
 unfold E9 at h
 refine nS (sq ?_)
 refine ar rfl (qn (sq ?_))
 refine rg rfl fun K j=>?_
 revert h;refine gt (fun hc h=>?_) fun hc h=>?_
 ·refine j _ _ (qn (rt ?_))
  cases h;exact en Tryz.results254
 refine j _ _ (qn (rt ?_))
 cases h;exact en Tryz.results254
def Rp (l:List Ck) (k0:Nat) (x_2:Ck) (sv:Unit):Option (Out (Unit) (Int)):=
 (E9 x_2.ID 1 9999).bind fun y3=>(bif (!y3)then some (Out.ret 2)else (E9 x_2.Alt 0 5000).bind fun y4=>(bif (!y4)then some (Out.ret 2)else (bif (decide (0<((k0:Nat):Int)))then (Dk l (IntKind.i64.wrap (((k0:Nat):Int) - 1))).bind fun x_5=>(bif (decide (x_2.ID≤x_5.ID))then some (Out.ret 7)else some (Out.next ()))else some (Out.next ()))))
def Sw (l:List Ck):Option (Int):=
 (Al (Rp l) 0 l ()).bind fun o0=>o0.on fun s0=>some 0
theorem cM (l:List Ck) {r:Int} (h:Sw l=some r):Ad Tryz.prog 177 [.sl 2 (l.map A6)] (·= .int .i64 r):=by
 refine Ad.nle (Ad.intro Tryz.func177 rfl rfl (by show _≤42;simp) ?_)
 unfold Sw at h
 refine nS (sq ?_)
 refine ar rfl (qn (sq (sq ?_)))
 refine ar rfl (qn (bk ?_))
 obtain⟨o0,hJ0,hO0⟩:=Af h
 clear h
 refine AWP.Bw (ι:=Nat×(Unit)×(Unit)) (fun zz=>[(0,.sl 2 (l.map A6)),(3,.int .i64 ((zz.1:Nat):Int))]) (fun zz=>[]) (fun zz=>zz.1≤l.length∧Al (Rp l) zz.1 ((l).drop zz.1) zz.2.1=some o0) (fun zz=>l.length - zz.1) (0,(),()) ⟨Nat.zero_le _,hJ0⟩ cu cu (fun x=>⟨rfl,rfl,rfl⟩) ?_
 clear hJ0
 rintro⟨k0,⟨⟩,⟨⟩⟩ ⟨hk0,hJ0⟩
 dsimp only at hk0 hJ0 ⊢
 refine sq (sq ?_)
 refine rg rfl fun K j=>?_
 intro hm
 refine j _ _ (qn ?_)
 refine AWP.cond (Ak (fun hc=>?_) (fun hc=>?_))
 rotate_left
 ·obtain rfl:=Bf hJ0 (fun hl=>by have:=Ai7 hc;omega)
  have h:=Be hO0;try dsimp only at h
  have hkl:l.length=k0:=by have:=Ai7 hc;omega
  subst hkl
  refine xt (qe (qe (bs (qn (sq (ar rfl (qn (rt ?_))))))))
  cases h;exact en Tryz.results177
 have hlt0:k0<l.length:=by have:=Ai8 hc;omega
 obtain⟨x_2,b0,hx0_,h,hJ0⟩:=Ba hJ0 hlt0
 have hx0:=A2 hx0_
 have hw0:=wk (k:=k0) (by omega)
 unfold Rp at h;try dsimp only at h
 refine sk (qn (sq (bk (sq (sq ?_)))))
 refine rg rfl fun K j=>?_
 refine Bn.of (f:=A6) (l:=l) hx0 ?_
 refine nS ?_
 obtain⟨y3,hy3,h⟩:=Af h
 refine An.pure Tryz.call254 (De x_2.ID 1 9999 hy3) rfl fun _ hr=>?_
 subst hr
 refine nS ?_
 revert h;refine gf (fun hc h=>?_) fun hc h=>?_
 rotate_left
 ·refine j _ _ (qn ?_)
  refine AWP.cond (Ah ?_)
  refine sq (ar rfl (qn (rt (qr (br (qr (qr ?_)))))))
  obtain rfl:=Aa h
  obtain rfl:=Ae hJ0
  replace h:=Am hO0
  refine br (qr ?_)
  cases h;exact en Tryz.results177
 refine Bn.of (f:=A6) (l:=l) hx0 ?_
 refine nS ?_
 obtain⟨y4,hy4,h⟩:=Af h
 refine An.pure Tryz.call254 (De x_2.Alt 0 5000 hy4) rfl fun _ hr=>?_
 subst hr
 refine nS ?_
 refine j _ _ (qn ?_)
 revert h;refine ca rfl (fun hc h=>?_) fun hc h=>?_
 ·refine sq (ar rfl (qn (rt (qr (br (qr (qr ?_)))))))
  obtain rfl:=Aa h
  obtain rfl:=Ae hJ0
  replace h:=Am hO0
  refine br (qr ?_)
  cases h;exact en Tryz.results177
 refine sk (qn (sq ?_))
 refine AWP.draw Tryz.mixed (by kernel_rfl) ?_;intro K j
 refine nS ?_
 revert h;refine gt (fun hc h=>?_) fun hc h=>?_
 ·refine Bn.of (f:=A6) (l:=l) hx0 ?_
  refine nS ?_
  obtain⟨x_5,hx_5,h⟩:=Af h
  refine Bn.of (f:=A6) (l:=l) hx_5 ?_
  refine nS ?_
  refine j _ _ _ (by kernel_rfl) ?_
  refine qn ?_
  revert h;refine ca rfl (fun hc h=>?_) fun hc h=>?_
  ·refine sq (ar rfl (qn (rt (br (qr (qr ?_))))))
   obtain rfl:=Aa h
   obtain rfl:=Ae hJ0
   replace h:=Am hO0
   refine br (qr ?_)
   cases h;exact en Tryz.results177
  refine sk (bn (qn (ar rfl (qn ?_))))
  obtain rfl:=Aa h
  refine⟨(k0+1,(),()),⟨by dsimp only;omega,Ai hJ0⟩,by dsimp only;omega,?_,?_⟩
  ·exact cuw hw0
  exact cuw hw0
 refine j _ _ _ (by kernel_rfl) ?_
 refine qn ?_
 refine AWP.cond (Bi ?_)
 refine sk (bn (qn (ar rfl (qn ?_))))
 obtain rfl:=Aa h
 refine⟨(k0+1,(),()),⟨by dsimp only;omega,Ai hJ0⟩,by dsimp only;omega,?_,?_⟩
 ·exact cuw hw0
 exact cuw hw0
def Tl (id_:Int) (k0:Nat) (x_2:Ck) (sv:Unit):Option (Out (Unit) (Ck×Bool)):=
 (bif (decide (x_2.ID=id_))then some (Out.ret (x_2,true))else some (Out.next ()))
def Ej (m:Bb) (id_:Int):Option (Ck×Bool):=
 (Al (Tl id_) 0 m.Nodes ()).bind fun o0=>o0.on fun s0=>some ((Ck.mk 0 0),false)
theorem Qd (m:Bb) (id_:Int) {r:Ck×Bool} (h:Ej m id_=some r):Ad Tryz.prog 98 [.agg (Cf m),.int .i64 id_] (·= .tuple [.agg (A6 r.1),.bool r.2]):=by
 refine Ad.nle (Ad.intro Tryz.func98 rfl rfl (by show _≤28;simp) ?_)
 unfold Ej at h
 refine nS (sq ?_)
 refine ar rfl (qn (sq (sq ?_)))
 refine ar rfl (qn (bk ?_))
 obtain⟨o0,hJ0,hO0⟩:=Af h
 clear h
 refine AWP.Bw (ι:=Nat×(Unit)×(Unit)) (fun zz=>[(1,.int .i64 id_),(2,.ptr 0 0),(4,.ptr 1 0),(6,.int .i64 ((zz.1:Nat):Int))]) (fun zz=>[.box [.sl 2 (m.Nodes.map A6),.sl 8 (m.Lifts.map A7),.sl 7 (m.Runs.map Bc),.sl 1 (m.Bases.map A5)],.box [.int .i64 0,.int .i64 0]]) (fun zz=>zz.1≤m.Nodes.length∧Al (Tl id_) zz.1 ((m.Nodes).drop zz.1) zz.2.1=some o0) (fun zz=>m.Nodes.length - zz.1) (0,(),()) ⟨Nat.zero_le _,hJ0⟩ cu cu (fun x=>⟨rfl,rfl,rfl⟩) ?_
 clear hJ0
 rintro⟨k0,⟨⟩,⟨⟩⟩ ⟨hk0,hJ0⟩
 dsimp only at hk0 hJ0 ⊢
 refine sq (sq ?_)
 refine rg rfl fun K j=>?_
 intro hm
 refine j _ _ (qn ?_)
 refine AWP.cond (Ak (fun hc=>?_) (fun hc=>?_))
 rotate_left
 ·obtain rfl:=Bf hJ0 (fun hl=>by have:=Ai7 hc;omega)
  have h:=Be hO0;try dsimp only at h
  have hkl:m.Nodes.length=k0:=by have:=Ai7 hc;omega
  subst hkl
  refine xt (qe (qe (bs (qn (sq (ar rfl (qn (rt ?_))))))))
  cases h;exact en Tryz.results98
 have hlt0:k0<m.Nodes.length:=by have:=Ai8 hc;omega
 obtain⟨x_2,b0,hx0_,h,hJ0⟩:=Ba hJ0 hlt0
 have hx0:=A2 hx0_
 have hw0:=wk (k:=k0) (by omega)
 unfold Tl at h;try dsimp only at h
 refine sk (qn (sq (bk (sq ?_))))
 refine rg rfl fun K j=>?_
 refine Bn.of (f:=A6) (l:=m.Nodes) hx0 ?_
 refine nS ?_
 refine j _ _ (qn ?_)
 revert h;refine ca rfl (fun hc h=>?_) fun hc h=>?_
 ·refine sq ?_
  refine rg rfl fun K j=>?_
  refine Bn.of (f:=A6) (l:=m.Nodes) hx0 ?_
  refine nS ?_
  refine j _ _ (qn (rt (br (qr (qr ?_)))))
  obtain rfl:=Aa h
  obtain rfl:=Ae hJ0
  replace h:=Am hO0
  refine br (qr ?_)
  cases h;exact en Tryz.results98
 refine sk (bn (qn (ar rfl (qn ?_))))
 obtain rfl:=Aa h
 refine⟨(k0+1,(),()),⟨by dsimp only;omega,Ai hJ0⟩,by dsimp only;omega,?_,?_⟩
 ·exact cuw hw0
 exact cuw hw0
def Gl (m:Bb) (from_:Int) (to_:Int):Option (Int):=
 (Ej m from_).bind fun y1=>(Ej m to_).bind fun y2=>(bif (!y1.2)then some 8 else(bif (!y2.2)then some 8 else(bif (decide (y2.1.Alt≤y1.1.Alt))then some 11 else some 0)))
theorem Lh (m:Bb) (from_:Int) (to_:Int) {r:Int} (h:Gl m from_ to_=some r):Ad Tryz.prog 255 [.agg (Cf m),.int .i64 from_,.int .i64 to_] (·= .int .i64 r):=by
 refine Ad.nle (Ad.intro Tryz.func255 rfl rfl (by show _≤34;simp) ?_)
 unfold Gl at h
 refine nS (sq ?_)
 refine ar rfl (qn (sq ?_))
 refine rg rfl fun K j=>?_
 obtain⟨y1,hy1,h⟩:=Af h
 refine An.pure Tryz.call98 (Qd m from_ hy1) rfl fun _ hr=>?_
 subst hr
 refine nS ?_
 refine j _ _ (qn (sq ?_))
 refine rg rfl fun K j=>?_
 obtain⟨y2,hy2,h⟩:=Af h
 refine An.pure Tryz.call98 (Qd m to_ hy2) rfl fun _ hr=>?_
 subst hr
 refine nS ?_
 refine j _ _ (qn (sq (sq ?_)))
 refine rg rfl fun K j=>?_
 revert h;refine gf (fun hc h=>?_) fun hc h=>?_
 ·refine j _ _ (qn ?_)
  revert h;refine ca rfl (fun hc h=>?_) fun hc h=>?_
  ·refine sq (ar rfl (qn (rt (qr ?_))))
   cases h;exact en Tryz.results255
  refine sk (qn (sq (sq (ar rfl (qn ?_)))))
  revert h;refine ca rfl (fun hc h=>?_) fun hc h=>?_
  ·refine sq (ar rfl (qn (rt (qr ?_))))
   cases h;exact en Tryz.results255
  refine sk (qn (sq (ar rfl (qn (rt ?_)))))
  cases h;exact en Tryz.results255
 refine j _ _ (qn ?_)
 refine AWP.cond (Ah ?_)
 refine sq (ar rfl (qn (rt (qr ?_))))
 cases h;exact en Tryz.results255
def Ho (x_:Cc):Option (Bool):=
 nz x_.Spacing ((bif (decide ((Int.tmod (IntKind.i64.wrap (2*x_.Length)) x_.Spacing)=0))then nz x_.Spacing ((E9 (IntKind.i64.wrap (Int.tdiv (IntKind.i64.wrap (2*x_.Length)) x_.Spacing)) 1 200).bind fun y1=>some y1)else some false))
theorem Ql (x_:Cc) {r:Bool} (h:Ho x_=some r):Ad Tryz.prog 256 [.agg (A7 x_)] (·= .bool r):=by
 refine Ad.nle (Ad.intro Tryz.func256 rfl rfl (by show _≤19;simp) ?_)
 unfold Ho at h
 refine nS (sq ?_)
 refine ar rfl (qn (sq ?_))
 refine rg rfl fun K j=>?_
 obtain⟨hk,h⟩:=nI h
 refine⟨hk,?_⟩
 revert h;refine gt (fun hc h=>?_) fun hc h=>?_
 ·obtain⟨hk,h⟩:=nI h
  refine⟨hk,?_⟩
  obtain⟨y1,hy1,h⟩:=Af h
  refine An.pure Tryz.call254 (De (IntKind.i64.wrap (Int.tdiv (IntKind.i64.wrap (2*x_.Length)) x_.Spacing)) 1 200 hy1) rfl fun _ hr=>?_
  subst hr
  refine nS ?_
  refine j _ _ (qn (rt ?_))
  cases h;exact en Tryz.results256
 refine j _ _ (qn (rt ?_))
 cases h;exact en Tryz.results256
def Kt (m:Bb) (k0:Nat) (x_2:Cc) (sv:Unit):Option (Out (Unit) (Int)):=
 (E9 x_2.ID 1 9999).bind fun y3=>(bif (!y3)then some (Out.ret 2)else (E9 x_2.Operator 1 8).bind fun y4=>(bif (!y4)then some (Out.ret 2)else (E9 x_2.Length 10 6000).bind fun y5=>(bif (!y5)then some (Out.ret 2)else (E9 x_2.Speed 500 12000).bind fun y6=>(bif (!y6)then some (Out.ret 2)else (E9 x_2.Seats 1 16).bind fun y7=>(bif (!y7)then some (Out.ret 2)else (E9 x_2.Spacing 5 1000).bind fun y8=>(bif (!y8)then some (Out.ret 2)else (bif (decide (0<((k0:Nat):Int)))then (Dk m.Lifts (IntKind.i64.wrap (((k0:Nat):Int) - 1))).bind fun x_9=>(bif (decide (x_2.ID≤x_9.ID))then some (Out.ret 7)else (Gl m x_2.From x_2.To).bind fun y10=>(bif (decide (y10≠0))then some (Out.ret y10)else (Ho x_2).bind fun y11=>(bif (!y11)then some (Out.ret 1)else some (Out.next ()))))else (Gl m x_2.From x_2.To).bind fun y12=>(bif (decide (y12≠0))then some (Out.ret y12)else (Ho x_2).bind fun y13=>(bif (!y13)then some (Out.ret 1)else some (Out.next ()))))))))))
def Pv (m:Bb):Option (Int):=
 (Al (Kt m) 0 m.Lifts ()).bind fun o0=>o0.on fun s0=>some 0
theorem cN (m:Bb) {r:Int} (h:Pv m=some r):Ad Tryz.prog 178 [.agg (Cf m)] (·= .int .i64 r):=by
 refine Ad.nle (Ad.intro Tryz.func178 rfl rfl (by show _≤78;simp) ?_)
 unfold Pv at h
 refine nS (sq ?_)
 refine ar rfl (qn (sq (sq ?_)))
 refine ar rfl (qn (bk ?_))
 obtain⟨o0,hJ0,hO0⟩:=Af h
 clear h
 refine AWP.Bw (ι:=Nat×(Unit)×(Unit)) (fun zz=>[(1,.ptr 0 0),(3,.int .i64 ((zz.1:Nat):Int))]) (fun zz=>[.box [.sl 2 (m.Nodes.map A6),.sl 8 (m.Lifts.map A7),.sl 7 (m.Runs.map Bc),.sl 1 (m.Bases.map A5)]]) (fun zz=>zz.1≤m.Lifts.length∧Al (Kt m) zz.1 ((m.Lifts).drop zz.1) zz.2.1=some o0) (fun zz=>m.Lifts.length - zz.1) (0,(),()) ⟨Nat.zero_le _,hJ0⟩ cu cu (fun x=>⟨rfl,rfl,rfl⟩) ?_
 clear hJ0
 rintro⟨k0,⟨⟩,⟨⟩⟩ ⟨hk0,hJ0⟩
 dsimp only at hk0 hJ0 ⊢
 refine sq (sq ?_)
 refine rg rfl fun K j=>?_
 intro hm
 refine j _ _ (qn ?_)
 refine AWP.cond (Ak (fun hc=>?_) (fun hc=>?_))
 rotate_left
 ·obtain rfl:=Bf hJ0 (fun hl=>by have:=Ai7 hc;omega)
  have h:=Be hO0;try dsimp only at h
  have hkl:m.Lifts.length=k0:=by have:=Ai7 hc;omega
  subst hkl
  refine xt (qe (qe (bs (qn (sq (ar rfl (qn (rt ?_))))))))
  cases h;exact en Tryz.results178
 have hlt0:k0<m.Lifts.length:=by have:=Ai8 hc;omega
 obtain⟨x_2,b0,hx0_,h,hJ0⟩:=Ba hJ0 hlt0
 have hx0:=A2 hx0_
 have hw0:=wk (k:=k0) (by omega)
 unfold Kt at h;try dsimp only at h
 refine sk (qn (sq (bk (sq ?_))))
 refine rg rfl fun K j=>?_
 refine Bn.of (f:=A7) (l:=m.Lifts) hx0 ?_
 refine nS ?_
 refine j _ _ (qn (sq (sq ?_)))
 refine rg rfl fun K j=>?_
 obtain⟨y3,hy3,h⟩:=Af h
 refine An.pure Tryz.call254 (De x_2.ID 1 9999 hy3) rfl fun _ hr=>?_
 subst hr
 refine nS ?_
 revert h;refine gf (fun hc h=>?_) fun hc h=>?_
 rotate_left
 ·refine j _ _ (qn ?_)
  refine AWP.cond (Ah ?_)
  refine sq (ar rfl (qn (rt (qr (br (qr (qr ?_)))))))
  obtain rfl:=Aa h
  obtain rfl:=Ae hJ0
  replace h:=Am hO0
  refine br (qr ?_)
  cases h;exact en Tryz.results178
 obtain⟨y4,hy4,h⟩:=Af h
 refine An.pure Tryz.call254 (De x_2.Operator 1 8 hy4) rfl fun _ hr=>?_
 subst hr
 refine nS ?_
 revert h;refine gf (fun hc h=>?_) fun hc h=>?_
 rotate_left
 ·refine j _ _ (qn ?_)
  refine AWP.cond (Ah ?_)
  refine sq (ar rfl (qn (rt (qr (br (qr (qr ?_)))))))
  obtain rfl:=Aa h
  obtain rfl:=Ae hJ0
  replace h:=Am hO0
  refine br (qr ?_)
  cases h;exact en Tryz.results178
 obtain⟨y5,hy5,h⟩:=Af h
 refine An.pure Tryz.call254 (De x_2.Length 10 6000 hy5) rfl fun _ hr=>?_
 subst hr
 refine nS ?_
 revert h;refine gf (fun hc h=>?_) fun hc h=>?_
 rotate_left
 ·refine j _ _ (qn ?_)
  refine AWP.cond (Ah ?_)
  refine sq (ar rfl (qn (rt (qr (br (qr (qr ?_)))))))
  obtain rfl:=Aa h
  obtain rfl:=Ae hJ0
  replace h:=Am hO0
  refine br (qr ?_)
  cases h;exact en Tryz.results178
 obtain⟨y6,hy6,h⟩:=Af h
 refine An.pure Tryz.call254 (De x_2.Speed 500 12000 hy6) rfl fun _ hr=>?_
 subst hr
 refine nS ?_
 revert h;refine gf (fun hc h=>?_) fun hc h=>?_
 rotate_left
 ·refine j _ _ (qn ?_)
  refine AWP.cond (Ah ?_)
  refine sq (ar rfl (qn (rt (qr (br (qr (qr ?_)))))))
  obtain rfl:=Aa h
  obtain rfl:=Ae hJ0
  replace h:=Am hO0
  refine br (qr ?_)
  cases h;exact en Tryz.results178
 obtain⟨y7,hy7,h⟩:=Af h
 refine An.pure Tryz.call254 (De x_2.Seats 1 16 hy7) rfl fun _ hr=>?_
 subst hr
 refine nS ?_
 revert h;refine gf (fun hc h=>?_) fun hc h=>?_
 rotate_left
 ·refine j _ _ (qn ?_)
  refine AWP.cond (Ah ?_)
  refine sq (ar rfl (qn (rt (qr (br (qr (qr ?_)))))))
  obtain rfl:=Aa h
  obtain rfl:=Ae hJ0
  replace h:=Am hO0
  refine br (qr ?_)
  cases h;exact en Tryz.results178
 obtain⟨y8,hy8,h⟩:=Af h
 refine An.pure Tryz.call254 (De x_2.Spacing 5 1000 hy8) rfl fun _ hr=>?_
 subst hr
 refine nS ?_
 refine j _ _ (qn ?_)
 revert h;refine ca rfl (fun hc h=>?_) fun hc h=>?_
 ·refine sq (ar rfl (qn (rt (qr (br (qr (qr ?_)))))))
  obtain rfl:=Aa h
  obtain rfl:=Ae hJ0
  replace h:=Am hO0
  refine br (qr ?_)
  cases h;exact en Tryz.results178
 refine sk (qn (sq (sq ?_)))
 refine AWP.draw Tryz.mixed (by kernel_rfl) ?_;intro K j
 refine nS ?_
 revert h;refine gt (fun hc h=>?_) fun hc h=>?_
 ·obtain⟨x_9,hx_9,h⟩:=Af h
  refine Bn.of (f:=A7) (l:=m.Lifts) hx_9 ?_
  refine nS ?_
  refine j _ _ _ (by kernel_rfl) ?_
  refine qn ?_
  revert h;refine ca rfl (fun hc h=>?_) fun hc h=>?_
  ·refine sq (ar rfl (qn (rt (qr (br (qr (qr ?_)))))))
   obtain rfl:=Aa h
   obtain rfl:=Ae hJ0
   replace h:=Am hO0
   refine br (qr ?_)
   cases h;exact en Tryz.results178
  refine sk (qn (sq (sq ?_)))
  refine rg rfl fun K j=>?_
  obtain⟨y10,hy10,h⟩:=Af h
  refine An.pure Tryz.call255 (Lh m x_2.From x_2.To hy10) rfl fun _ hr=>?_
  subst hr
  refine nS ?_
  refine j _ _ (qn (sq ?_))
  refine ar rfl (qn ?_)
  revert h;refine ca rfl (fun hc h=>?_) fun hc h=>?_
  ·refine sq (ar rfl (qn (rt (qr (br (qr (qr ?_)))))))
   obtain rfl:=Aa h
   obtain rfl:=Ae hJ0
   replace h:=Am hO0
   refine br (qr ?_)
   cases h;exact en Tryz.results178
  refine sk (qn (sq ?_))
  refine rg rfl fun K j=>?_
  obtain⟨y11,hy11,h⟩:=Af h
  refine An.pure Tryz.call256 (Ql x_2 hy11) rfl fun _ hr=>?_
  subst hr
  refine nS ?_
  refine j _ _ (qn ?_)
  revert h;refine ca rfl (fun hc h=>?_) fun hc h=>?_
  ·refine sq (ar rfl (qn (rt (br (qr (qr ?_))))))
   obtain rfl:=Aa h
   obtain rfl:=Ae hJ0
   replace h:=Am hO0
   refine br (qr ?_)
   cases h;exact en Tryz.results178
  refine sk (bn (qn (ar rfl (qn ?_))))
  obtain rfl:=Aa h
  refine⟨(k0+1,(),()),⟨by dsimp only;omega,Ai hJ0⟩,by dsimp only;omega,?_,?_⟩
  ·exact cuw hw0
  exact cuw hw0
 refine j _ _ _ (by kernel_rfl) ?_
 refine qn ?_
 refine AWP.cond (Bi ?_)
 refine sk (qn (sq (sq ?_)))
 refine rg rfl fun K j=>?_
 obtain⟨y12,hy12,h⟩:=Af h
 refine An.pure Tryz.call255 (Lh m x_2.From x_2.To hy12) rfl fun _ hr=>?_
 subst hr
 refine nS ?_
 refine j _ _ (qn (sq ?_))
 refine ar rfl (qn ?_)
 revert h;refine ca rfl (fun hc h=>?_) fun hc h=>?_
 ·refine sq (ar rfl (qn (rt (qr (br (qr (qr ?_)))))))
  obtain rfl:=Aa h
  obtain rfl:=Ae hJ0
  replace h:=Am hO0
  refine br (qr ?_)
  cases h;exact en Tryz.results178
 refine sk (qn (sq ?_))
 refine rg rfl fun K j=>?_
 obtain⟨y13,hy13,h⟩:=Af h
 refine An.pure Tryz.call256 (Ql x_2 hy13) rfl fun _ hr=>?_
 subst hr
 refine nS ?_
 refine j _ _ (qn ?_)
 revert h;refine ca rfl (fun hc h=>?_) fun hc h=>?_
 ·refine sq (ar rfl (qn (rt (br (qr (qr ?_))))))
  obtain rfl:=Aa h
  obtain rfl:=Ae hJ0
  replace h:=Am hO0
  refine br (qr ?_)
  cases h;exact en Tryz.results178
 refine sk (bn (qn (ar rfl (qn ?_))))
 obtain rfl:=Aa h
 refine⟨(k0+1,(),()),⟨by dsimp only;omega,Ai hJ0⟩,by dsimp only;omega,?_,?_⟩
 ·exact cuw hw0
 exact cuw hw0
def Ma (m:Bb) (k0:Nat) (x_2:Cd) (sv:Unit):Option (Out (Unit) (Int)):=
 (E9 x_2.ID 1 9999).bind fun y3=>(bif (!y3)then some (Out.ret 2)else (E9 x_2.Operator 1 8).bind fun y4=>(bif (!y4)then some (Out.ret 2)else (E9 x_2.Grade 1 4).bind fun y5=>(bif (!y5)then some (Out.ret 2)else (E9 x_2.Zone 1 32).bind fun y6=>(bif (!y6)then some (Out.ret 2)else (E9 x_2.Length 10 20000).bind fun y7=>(bif (!y7)then some (Out.ret 2)else (bif (decide (0<((k0:Nat):Int)))then (Dk m.Runs (IntKind.i64.wrap (((k0:Nat):Int) - 1))).bind fun x_8=>(bif (decide (x_2.ID≤x_8.ID))then some (Out.ret 7)else (Gl m x_2.To x_2.From).bind fun y9=>(bif (decide (y9≠0))then some (Out.ret y9)else some (Out.next ())))else (Gl m x_2.To x_2.From).bind fun y10=>(bif (decide (y10≠0))then some (Out.ret y10)else some (Out.next ()))))))))
def Ro (m:Bb):Option (Int):=
 (Al (Ma m) 0 m.Runs ()).bind fun o0=>o0.on fun s0=>some 0
theorem eR (m:Bb) {r:Int} (h:Ro m=some r):Ad Tryz.prog 179 [.agg (Cf m)] (·= .int .i64 r):=by
 refine Ad.nle (Ad.intro Tryz.func179 rfl rfl (by show _≤69;simp) ?_)
 unfold Ro at h
 refine nS (sq ?_)
 refine ar rfl (qn (sq (sq ?_)))
 refine ar rfl (qn (bk ?_))
 obtain⟨o0,hJ0,hO0⟩:=Af h
 clear h
 refine AWP.Bw (ι:=Nat×(Unit)×(Unit)) (fun zz=>[(1,.ptr 0 0),(3,.int .i64 ((zz.1:Nat):Int))]) (fun zz=>[.box [.sl 2 (m.Nodes.map A6),.sl 8 (m.Lifts.map A7),.sl 7 (m.Runs.map Bc),.sl 1 (m.Bases.map A5)]]) (fun zz=>zz.1≤m.Runs.length∧Al (Ma m) zz.1 ((m.Runs).drop zz.1) zz.2.1=some o0) (fun zz=>m.Runs.length - zz.1) (0,(),()) ⟨Nat.zero_le _,hJ0⟩ cu cu (fun x=>⟨rfl,rfl,rfl⟩) ?_
 clear hJ0
 rintro⟨k0,⟨⟩,⟨⟩⟩ ⟨hk0,hJ0⟩
 dsimp only at hk0 hJ0 ⊢
 refine sq (sq ?_)
 refine rg rfl fun K j=>?_
 intro hm
 refine j _ _ (qn ?_)
 refine AWP.cond (Ak (fun hc=>?_) (fun hc=>?_))
 rotate_left
 ·obtain rfl:=Bf hJ0 (fun hl=>by have:=Ai7 hc;omega)
  have h:=Be hO0;try dsimp only at h
  have hkl:m.Runs.length=k0:=by have:=Ai7 hc;omega
  subst hkl
  refine xt (qe (qe (bs (qn (sq (ar rfl (qn (rt ?_))))))))
  cases h;exact en Tryz.results179
 have hlt0:k0<m.Runs.length:=by have:=Ai8 hc;omega
 obtain⟨x_2,b0,hx0_,h,hJ0⟩:=Ba hJ0 hlt0
 have hx0:=A2 hx0_
 have hw0:=wk (k:=k0) (by omega)
 unfold Ma at h;try dsimp only at h
 refine sk (qn (sq (bk (sq ?_))))
 refine rg rfl fun K j=>?_
 refine Bn.of (f:=Bc) (l:=m.Runs) hx0 ?_
 refine nS ?_
 refine j _ _ (qn (sq (sq ?_)))
 refine rg rfl fun K j=>?_
 obtain⟨y3,hy3,h⟩:=Af h
 refine An.pure Tryz.call254 (De x_2.ID 1 9999 hy3) rfl fun _ hr=>?_
 subst hr
 refine nS ?_
 revert h;refine gf (fun hc h=>?_) fun hc h=>?_
 rotate_left
 ·refine j _ _ (qn ?_)
  refine AWP.cond (Ah ?_)
  refine sq (ar rfl (qn (rt (qr (br (qr (qr ?_)))))))
  obtain rfl:=Aa h
  obtain rfl:=Ae hJ0
  replace h:=Am hO0
  refine br (qr ?_)
  cases h;exact en Tryz.results179
 obtain⟨y4,hy4,h⟩:=Af h
 refine An.pure Tryz.call254 (De x_2.Operator 1 8 hy4) rfl fun _ hr=>?_
 subst hr
 refine nS ?_
 revert h;refine gf (fun hc h=>?_) fun hc h=>?_
 rotate_left
 ·refine j _ _ (qn ?_)
  refine AWP.cond (Ah ?_)
  refine sq (ar rfl (qn (rt (qr (br (qr (qr ?_)))))))
  obtain rfl:=Aa h
  obtain rfl:=Ae hJ0
  replace h:=Am hO0
  refine br (qr ?_)
  cases h;exact en Tryz.results179
 obtain⟨y5,hy5,h⟩:=Af h
 refine An.pure Tryz.call254 (De x_2.Grade 1 4 hy5) rfl fun _ hr=>?_
 subst hr
 refine nS ?_
 revert h;refine gf (fun hc h=>?_) fun hc h=>?_
 rotate_left
 ·refine j _ _ (qn ?_)
  refine AWP.cond (Ah ?_)
  refine sq (ar rfl (qn (rt (qr (br (qr (qr ?_)))))))
  obtain rfl:=Aa h
  obtain rfl:=Ae hJ0
  replace h:=Am hO0
  refine br (qr ?_)
  cases h;exact en Tryz.results179
 obtain⟨y6,hy6,h⟩:=Af h
 refine An.pure Tryz.call254 (De x_2.Zone 1 32 hy6) rfl fun _ hr=>?_
 subst hr
 refine nS ?_
 revert h;refine gf (fun hc h=>?_) fun hc h=>?_
 rotate_left
 ·refine j _ _ (qn ?_)
  refine AWP.cond (Ah ?_)
  refine sq (ar rfl (qn (rt (qr (br (qr (qr ?_)))))))
  obtain rfl:=Aa h
  obtain rfl:=Ae hJ0
  replace h:=Am hO0
  refine br (qr ?_)
  cases h;exact en Tryz.results179
 obtain⟨y7,hy7,h⟩:=Af h
 refine An.pure Tryz.call254 (De x_2.Length 10 20000 hy7) rfl fun _ hr=>?_
 subst hr
 refine nS ?_
 refine j _ _ (qn ?_)
 revert h;refine ca rfl (fun hc h=>?_) fun hc h=>?_
 ·refine sq (ar rfl (qn (rt (qr (br (qr (qr ?_)))))))
  obtain rfl:=Aa h
  obtain rfl:=Ae hJ0
  replace h:=Am hO0
  refine br (qr ?_)
  cases h;exact en Tryz.results179
 refine sk (qn (sq (sq ?_)))
 refine AWP.draw Tryz.mixed (by kernel_rfl) ?_;intro K j
 refine nS ?_
 revert h;refine gt (fun hc h=>?_) fun hc h=>?_
 ·obtain⟨x_8,hx_8,h⟩:=Af h
  refine Bn.of (f:=Bc) (l:=m.Runs) hx_8 ?_
  refine nS ?_
  refine j _ _ _ (by kernel_rfl) ?_
  refine qn ?_
  revert h;refine ca rfl (fun hc h=>?_) fun hc h=>?_
  ·refine sq (ar rfl (qn (rt (qr (br (qr (qr ?_)))))))
   obtain rfl:=Aa h
   obtain rfl:=Ae hJ0
   replace h:=Am hO0
   refine br (qr ?_)
   cases h;exact en Tryz.results179
  refine sk (qn (sq ?_))
  refine rg rfl fun K j=>?_
  obtain⟨y9,hy9,h⟩:=Af h
  refine An.pure Tryz.call255 (Lh m x_2.To x_2.From hy9) rfl fun _ hr=>?_
  subst hr
  refine nS ?_
  refine j _ _ (qn (sq ?_))
  refine ar rfl (qn ?_)
  revert h;refine ca rfl (fun hc h=>?_) fun hc h=>?_
  ·refine sq (ar rfl (qn (rt (br (qr (qr ?_))))))
   obtain rfl:=Aa h
   obtain rfl:=Ae hJ0
   replace h:=Am hO0
   refine br (qr ?_)
   cases h;exact en Tryz.results179
  refine sk (bn (qn (ar rfl (qn ?_))))
  obtain rfl:=Aa h
  refine⟨(k0+1,(),()),⟨by dsimp only;omega,Ai hJ0⟩,by dsimp only;omega,?_,?_⟩
  ·exact cuw hw0
  exact cuw hw0
 refine j _ _ _ (by kernel_rfl) ?_
 refine qn ?_
 refine AWP.cond (Bi ?_)
 refine sk (qn (sq ?_))
 refine rg rfl fun K j=>?_
 obtain⟨y10,hy10,h⟩:=Af h
 refine An.pure Tryz.call255 (Lh m x_2.To x_2.From hy10) rfl fun _ hr=>?_
 subst hr
 refine nS ?_
 refine j _ _ (qn (sq ?_))
 refine ar rfl (qn ?_)
 revert h;refine ca rfl (fun hc h=>?_) fun hc h=>?_
 ·refine sq (ar rfl (qn (rt (br (qr (qr ?_))))))
  obtain rfl:=Aa h
  obtain rfl:=Ae hJ0
  replace h:=Am hO0
  refine br (qr ?_)
  cases h;exact en Tryz.results179
 refine sk (bn (qn (ar rfl (qn ?_))))
 obtain rfl:=Aa h
 refine⟨(k0+1,(),()),⟨by dsimp only;omega,Ai hJ0⟩,by dsimp only;omega,?_,?_⟩
 ·exact cuw hw0
 exact cuw hw0
def Ei (m:Bb) (k1:Nat) (_x:Unit) (sv:Unit):Option (Out (Unit) (Int)):=
 (Dk m.Bases (((k1:Nat):Int)+1)).bind fun x_3=>(Dk m.Bases (IntKind.i64.wrap ((((k1:Nat):Int)+1) - 1))).bind fun x_4=>(bif (decide (x_3≤x_4))then some (Out.ret 7)else some (Out.next ()))
def Rq (m:Bb):Option (Int):=
 (J5 (Ei m) (m.Bases.length - 1) ()).bind fun o1=>o1.on fun s1=>some 0
def N4 (m:Bb) (k4:Nat) (x_6:Int) (sv:Unit):Option (Out (Unit) (Int)):=
 (Ej m x_6).bind fun y7=>(bif (!y7.2)then some (Out.ret 8)else some (Out.next ()))
def Pw (m:Bb):Option (Int):=
 (bif (decide (((m.Bases.length:Nat):Int)=0))then some 8 else(Al (N4 m) 0 m.Bases ()).bind fun o4=>o4.on fun s4=>Rq m)
theorem cO (m:Bb) {r:Int} (h:Pw m=some r):Ad Tryz.prog 180 [.agg (Cf m)] (·= .int .i64 r):=by
 refine Ad.nle (Ad.intro Tryz.func180 rfl rfl (by show _≤49;simp) ?_)
 unfold Pw at h
 refine nS (sq ?_)
 refine ar rfl (qn (sq (sq ?_)))
 refine rg rfl fun K j=>?_
 intro hm
 refine j _ _ (qn ?_)
 revert h;refine ca rfl (fun hc h=>?_) fun hc h=>?_
 ·refine sq (ar rfl (qn (rt (qr ?_))))
  cases h;exact en Tryz.results180
 refine sk (qn ?_)
 refine AWP.Lf (ι:=(Unit)×(Unit)) (fun zz=>[(1,.ptr 0 0)]) (fun zz=>[.box [.sl 2 (m.Nodes.map A6),.sl 8 (m.Lifts.map A7),.sl 7 (m.Runs.map Bc),.sl 1 (m.Bases.map A5)]]) (fun zz=>Rq m=some r) (fun zz=>⟨rfl,rfl,rfl⟩) ?_ ?_
 ·refine sq (ar rfl (qn (bk ?_)))
  obtain⟨o4,hJ4,hO4⟩:=Af h
  clear h
  refine AWP.Bw (ι:=Nat×(Unit)×(Unit)) (fun zz=>[(1,.ptr 0 0),(3,.int .i64 ((zz.1:Nat):Int))]) (fun zz=>[.box [.sl 2 (m.Nodes.map A6),.sl 8 (m.Lifts.map A7),.sl 7 (m.Runs.map Bc),.sl 1 (m.Bases.map A5)]]) (fun zz=>zz.1≤m.Bases.length∧Al (N4 m) zz.1 ((m.Bases).drop zz.1) zz.2.1=some o4) (fun zz=>m.Bases.length - zz.1) (0,(),()) ⟨Nat.zero_le _,hJ4⟩ cu cu (fun x=>⟨rfl,rfl,rfl⟩) ?_
  clear hJ4
  rintro⟨k4,⟨⟩,⟨⟩⟩ ⟨hk4,hJ4⟩
  dsimp only at hk4 hJ4 ⊢
  refine sq (sq ?_)
  refine rg rfl fun K j=>?_
  intro hm
  refine j _ _ (qn ?_)
  refine AWP.cond (Ak (fun hc=>?_) (fun hc=>?_))
  rotate_left
  ·obtain rfl:=Bf hJ4 (fun hl=>by have:=Ai7 hc;omega)
   have h:=Be hO4;try dsimp only at h
   have hkl:m.Bases.length=k4:=by have:=Ai7 hc;omega
   subst hkl
   refine xt (qe (qe (bs (qn ?_))))
   exact⟨((),()),h,cu,cu⟩
  have hlt4:k4<m.Bases.length:=by have:=Ai8 hc;omega
  obtain⟨x_6,b4,hx4_,h,hJ4⟩:=Ba hJ4 hlt4
  have hx4:=A2 hx4_
  have hw4:=wk (k:=k4) (by omega)
  unfold N4 at h;try dsimp only at h
  refine sk (qn (sq (bk (sq ?_))))
  refine AWP.draw Tryz.mixed (by kernel_rfl) ?_;intro K j
  refine nS ?_
  refine Bn.of (f:=A5) (l:=m.Bases) hx4 ?_
  refine nS ?_
  obtain⟨y7,hy7,h⟩:=Af h
  refine B7.pure Tryz.call98 (Qd m x_6 hy7) rfl ?_
  refine nS ?_
  refine j _ _ _ (by kernel_rfl) ?_
  refine qn (sq (ar rfl (qn ?_)))
  revert h;refine ca rfl (fun hc h=>?_) fun hc h=>?_
  ·refine sq (ar rfl (qn (rt (br (qr (qr ?_))))))
   obtain rfl:=Aa h
   obtain rfl:=Ae hJ4
   replace h:=Am hO4
   refine br (qr ?_)
   cases h;exact en Tryz.results180
  refine sk (bn (qn (ar rfl (qn ?_))))
  obtain rfl:=Aa h
  refine⟨(k4+1,(),()),⟨by dsimp only;omega,Ai hJ4⟩,by dsimp only;omega,?_,?_⟩
  ·exact cuw hw4
  exact cuw hw4
 rintro⟨⟨⟩,⟨⟩⟩ h
 try dsimp only at h ⊢
 unfold Rq at h;try dsimp only at h
 refine sq (sq (ar rfl (qn (bk ?_))))
 obtain⟨o1,hJ1,hO1⟩:=Af h
 clear h
 obtain⟨hn1,hJ1⟩:=S1 hJ1
 refine AWP.Bw (ι:=Nat×(Unit)×(Unit)) (fun zz=>[(1,.ptr 0 0),(6,.int .i64 (((zz.1:Nat):Int)+(1:Int)))]) (fun zz=>[.box [.sl 2 (m.Nodes.map A6),.sl 8 (m.Lifts.map A7),.sl 7 (m.Runs.map Bc),.sl 1 (m.Bases.map A5)]]) (fun zz=>zz.1≤(m.Bases.length - 1)∧Al (Ei m) zz.1 ((List.replicate (m.Bases.length - 1) ()).drop zz.1) zz.2.1=some o1) (fun zz=>(m.Bases.length - 1) - zz.1) (0,(),()) ⟨Nat.zero_le _,hJ1⟩ cu cu (fun x=>⟨rfl,rfl,rfl⟩) ?_
 clear hJ1
 rintro⟨k1,⟨⟩,⟨⟩⟩ ⟨hk1,hJ1⟩
 dsimp only at hk1 hJ1 ⊢
 refine sq (sq ?_)
 refine rg rfl fun K j=>?_
 intro hm
 refine j _ _ (qn ?_)
 refine AWP.cond (Ak (fun hc=>?_) (fun hc=>?_))
 rotate_left
 ·obtain rfl:=Bf hJ1 (fun hl=>by rw[List.length_replicate]at hl;have:=Ai7 hc;omega)
  have h:=Be hO1;try dsimp only at h
  have hkl:(m.Bases.length - 1)=k1:=by have:=Ai7 hc;omega
  subst hkl
  refine xt (qe (qe (bs (qn (sq (ar rfl (qn (rt ?_))))))))
  cases h;exact en Tryz.results180
 have hlt1:k1<(m.Bases.length - 1):=by have:=Ai8 hc;omega
 obtain⟨_,b1,_,h,hJ1⟩:=Ba hJ1 (by rw[List.length_replicate];exact hlt1)
 have hw1:IntKind.i64.wrap ((((k1:Nat):Int)+1)+1)=(((k1:Nat):Int)+1+1):=by rw[wrap_i64]<;>omega
 unfold Ei at h;try dsimp only at h
 refine sk (qn (sq (bk (sq ?_))))
 refine AWP.draw Tryz.mixed (by kernel_rfl) ?_;intro K j
 refine nS ?_
 obtain⟨x_3,hx_3,h⟩:=Af h
 refine Bn.of (f:=A5) (l:=m.Bases) hx_3 ?_
 refine nS ?_
 obtain⟨x_4,hx_4,h⟩:=Af h
 refine Bn.of (f:=A5) (l:=m.Bases) hx_4 ?_
 refine nS ?_
 refine j _ _ _ (by kernel_rfl) ?_
 refine qn ?_
 revert h;refine ca rfl (fun hc h=>?_) fun hc h=>?_
 ·refine sq (ar rfl (qn (rt (br (qr (qr ?_))))))
  obtain rfl:=Aa h
  obtain rfl:=Ae hJ1
  replace h:=Am hO1
  refine br (qr ?_)
  cases h;exact en Tryz.results180
 refine sk (bn (qn (ar rfl (qn ?_))))
 obtain rfl:=Aa h
 refine⟨(k1+1,(),()),⟨by dsimp only;omega,Ai hJ1⟩,by dsimp only;omega,?_,?_⟩
 ·exact cuw hw1
 exact cuw hw1
def Ie (m:Bb):Option (Int):=
 (bif (decide (64<((m.Nodes.length:Nat):Int)))then some 4 else(bif (decide (32<((m.Lifts.length:Nat):Int)))then some 4 else(bif (decide (64<((m.Runs.length:Nat):Int)))then some 4 else(bif (decide (64<((m.Bases.length:Nat):Int)))then some 4 else(Sw m.Nodes).bind fun y1=>(bif (decide (y1≠0))then some y1 else(Pv m).bind fun y2=>(bif (decide (y2≠0))then some y2 else(Ro m).bind fun y3=>(bif (decide (y3≠0))then some y3 else(Pw m).bind fun y4=>some y4)))))))
theorem cP (m:Bb) {r:Int} (h:Ie m=some r):Ad Tryz.prog 85 [.agg (Cf m)] (·= .int .i64 r):=by
 refine Ad.nle (Ad.intro Tryz.func85 rfl rfl (by show _≤46;simp) ?_)
 unfold Ie at h
 refine nS (sq ?_)
 refine ar rfl (qn (sq (sq ?_)))
 refine rg rfl fun K j=>?_
 intro hm
 revert h;refine gf (fun hc h=>?_) fun hc h=>?_
 rotate_left
 ·refine j _ _ (qn ?_)
  refine AWP.cond (Ah ?_)
  refine sq (ar rfl (qn (rt (qr ?_))))
  cases h;exact en Tryz.results85
 intro hm
 revert h;refine gf (fun hc h=>?_) fun hc h=>?_
 rotate_left
 ·refine j _ _ (qn ?_)
  refine AWP.cond (Ah ?_)
  refine sq (ar rfl (qn (rt (qr ?_))))
  cases h;exact en Tryz.results85
 intro hm
 revert h;refine gf (fun hc h=>?_) fun hc h=>?_
 rotate_left
 ·refine j _ _ (qn ?_)
  refine AWP.cond (Ah ?_)
  refine sq (ar rfl (qn (rt (qr ?_))))
  cases h;exact en Tryz.results85
 intro hm
 refine j _ _ (qn ?_)
 revert h;refine ca rfl (fun hc h=>?_) fun hc h=>?_
 ·refine sq (ar rfl (qn (rt (qr ?_))))
  cases h;exact en Tryz.results85
 refine sk (qn (sq (sq ?_)))
 refine rg rfl fun K j=>?_
 obtain⟨y1,hy1,h⟩:=Af h
 refine An.pure Tryz.call177 (cM m.Nodes hy1) rfl fun _ hr=>?_
 subst hr
 refine nS ?_
 refine j _ _ (qn (sq ?_))
 refine ar rfl (qn ?_)
 revert h;refine ca rfl (fun hc h=>?_) fun hc h=>?_
 ·refine sq (ar rfl (qn (rt (qr ?_))))
  cases h;exact en Tryz.results85
 refine sk (qn (sq (sq ?_)))
 refine rg rfl fun K j=>?_
 obtain⟨y2,hy2,h⟩:=Af h
 refine An.pure Tryz.call178 (cN m hy2) rfl fun _ hr=>?_
 subst hr
 refine nS ?_
 refine j _ _ (qn (sq ?_))
 refine ar rfl (qn ?_)
 revert h;refine ca rfl (fun hc h=>?_) fun hc h=>?_
 ·refine sq (ar rfl (qn (rt (qr ?_))))
  cases h;exact en Tryz.results85
 refine sk (qn (sq (sq ?_)))
 refine rg rfl fun K j=>?_
 obtain⟨y3,hy3,h⟩:=Af h
 refine An.pure Tryz.call179 (eR m hy3) rfl fun _ hr=>?_
 subst hr
 refine nS ?_
 refine j _ _ (qn (sq ?_))
 refine ar rfl (qn ?_)
 revert h;refine ca rfl (fun hc h=>?_) fun hc h=>?_
 ·refine sq (ar rfl (qn (rt (qr ?_))))
  cases h;exact en Tryz.results85
 refine sk (qn (sq ?_))
 refine rg rfl fun K j=>?_
 obtain⟨y4,hy4,h⟩:=Af h
 refine An.pure Tryz.call180 (cO m hy4) rfl fun _ hr=>?_
 subst hr
 refine nS ?_
 refine j _ _ (qn (rt ?_))
 cases h;exact en Tryz.results85
def Q5 (c:Bk):Option (Bool):=
 (bif (decide (1≤c.Kind))then (bif (decide (c.Kind≤3))then (bif (decide (1≤c.Target))then (bif (decide (c.Target≤9999))then (bif (decide (1≤c.By))then (bif (decide (c.By≤6))then (bif (decide (0≤c.Since))then some (decide (c.Since≤20000000))else some false)else some false)else some false)else some false)else some false)else some false)else some false)
theorem fS (c:Bk) {r:Bool} (h:Q5 c=some r):Ad Tryz.prog 181 [.agg (Aq c)] (·= .bool r):=by
 refine Ad.nle (Ad.intro Tryz.func181 rfl rfl (by show _≤41;simp) ?_)
 unfold Q5 at h
 refine nS (sq ?_)
 refine ar rfl (qn (sq ?_))
 refine rg rfl fun K j=>?_
 revert h;refine gt (fun hc h=>?_) fun hc h=>?_
 rotate_left
 ·refine j _ _ (qn (rt ?_))
  cases h;exact en Tryz.results181
 revert h;refine gt (fun hc h=>?_) fun hc h=>?_
 rotate_left
 ·refine j _ _ (qn (rt ?_))
  cases h;exact en Tryz.results181
 revert h;refine gt (fun hc h=>?_) fun hc h=>?_
 ·revert h;refine gt (fun hc h=>?_) fun hc h=>?_
  ·revert h;refine gt (fun hc h=>?_) fun hc h=>?_
   ·revert h;refine gt (fun hc h=>?_) fun hc h=>?_
    ·revert h;refine gt (fun hc h=>?_) fun hc h=>?_
     ·refine j _ _ (qn (rt ?_))
      cases h;exact en Tryz.results181
     refine j _ _ (qn (rt ?_))
     cases h;exact en Tryz.results181
    refine j _ _ (qn (rt ?_))
    cases h;exact en Tryz.results181
   refine j _ _ (qn (rt ?_))
   cases h;exact en Tryz.results181
  refine j _ _ (qn (rt ?_))
  cases h;exact en Tryz.results181
 refine j _ _ (qn (rt ?_))
 cases h;exact en Tryz.results181
def E6 (kind:Int) (target:Int) (by_:Int) (k0:Nat) (x_2:Bk) (sv:Unit):Option (Out (Unit) (Int)):=
 (bif (decide (x_2.Kind=kind))then (bif (decide (x_2.Target=target))then (bif (decide (x_2.By=by_))then some (Out.ret ((k0:Nat):Int))else some (Out.next ()))else some (Out.next ()))else some (Out.next ()))
def Fw (l:List Bk) (kind:Int) (target:Int) (by_:Int):Option (Int):=
 (Al (E6 kind target by_) 0 l ()).bind fun o0=>o0.on fun s0=>some (-1)
theorem bY (l:List Bk) (kind:Int) (target:Int) (by_:Int) {r:Int} (h:Fw l kind target by_=some r):Ad Tryz.prog 182 [.sl 4 (l.map Aq),.int .i64 kind,.int .i64 target,.int .i64 by_] (·= .int .i64 r):=by
 refine Ad.nle (Ad.intro Tryz.func182 rfl rfl (by show _≤42;simp) ?_)
 unfold Fw at h
 refine nS (sq ?_)
 refine ar rfl (qn (sq (sq ?_)))
 refine ar rfl (qn (bk ?_))
 obtain⟨o0,hJ0,hO0⟩:=Af h
 clear h
 refine AWP.Bw (ι:=Nat×(Unit)×(Unit)) (fun zz=>[(0,.sl 4 (l.map Aq)),(1,.int .i64 kind),(2,.int .i64 target),(3,.int .i64 by_),(9,.int .i64 ((zz.1:Nat):Int))]) (fun zz=>[]) (fun zz=>zz.1≤l.length∧Al (E6 kind target by_) zz.1 ((l).drop zz.1) zz.2.1=some o0) (fun zz=>l.length - zz.1) (0,(),()) ⟨Nat.zero_le _,hJ0⟩ cu cu (fun x=>⟨rfl,rfl,rfl⟩) ?_
 clear hJ0
 rintro⟨k0,⟨⟩,⟨⟩⟩ ⟨hk0,hJ0⟩
 dsimp only at hk0 hJ0 ⊢
 refine sq (sq ?_)
 refine rg rfl fun K j=>?_
 intro hm
 refine j _ _ (qn ?_)
 refine AWP.cond (Ak (fun hc=>?_) (fun hc=>?_))
 rotate_left
 ·obtain rfl:=Bf hJ0 (fun hl=>by have:=Ai7 hc;omega)
  have h:=Be hO0;try dsimp only at h
  have hkl:l.length=k0:=by have:=Ai7 hc;omega
  subst hkl
  refine xt (qe (qe (bs (qn (sq (ar rfl (qn (rt ?_))))))))
  cases h;exact en Tryz.results182
 have hlt0:k0<l.length:=by have:=Ai8 hc;omega
 obtain⟨x_2,b0,hx0_,h,hJ0⟩:=Ba hJ0 hlt0
 have hx0:=A2 hx0_
 have hw0:=wk (k:=k0) (by omega)
 unfold E6 at h;try dsimp only at h
 refine sk (qn (sq (bk (sq ?_))))
 refine rg rfl fun K j=>?_
 refine Bn.of (f:=Aq) (l:=l) hx0 ?_
 refine nS ?_
 revert h;refine gt (fun hc h=>?_) fun hc h=>?_
 ·refine Bn.of (f:=Aq) (l:=l) hx0 ?_
  refine nS ?_
  revert h;refine gt (fun hc h=>?_) fun hc h=>?_
  ·refine Bn.of (f:=Aq) (l:=l) hx0 ?_
   refine nS ?_
   refine j _ _ (qn ?_)
   revert h;refine ca rfl (fun hc h=>?_) fun hc h=>?_
   ·refine sq (ar rfl (qn (rt (br (qr (qr ?_))))))
    obtain rfl:=Aa h
    obtain rfl:=Ae hJ0
    replace h:=Am hO0
    refine br (qr ?_)
    cases h;exact en Tryz.results182
   refine sk (bn (qn (ar rfl (qn ?_))))
   obtain rfl:=Aa h
   refine⟨(k0+1,(),()),⟨by dsimp only;omega,Ai hJ0⟩,by dsimp only;omega,?_,?_⟩
   ·exact cuw hw0
   exact cuw hw0
  refine j _ _ (qn ?_)
  refine AWP.cond (Bi ?_)
  refine sk (bn (qn (ar rfl (qn ?_))))
  obtain rfl:=Aa h
  refine⟨(k0+1,(),()),⟨by dsimp only;omega,Ai hJ0⟩,by dsimp only;omega,?_,?_⟩
  ·exact cuw hw0
  exact cuw hw0
 refine j _ _ (qn ?_)
 refine AWP.cond (Bi ?_)
 refine sk (bn (qn (ar rfl (qn ?_))))
 obtain rfl:=Aa h
 refine⟨(k0+1,(),()),⟨by dsimp only;omega,Ai hJ0⟩,by dsimp only;omega,?_,?_⟩
 ·exact cuw hw0
 exact cuw hw0
def Hj (l:List Bk) (k0:Nat) (x_2:Bk) (sv:Unit):Option (Out (Unit) (Int)):=
 (Q5 x_2).bind fun y3=>(bif (!y3)then some (Out.ret 2)else okB (decide (0≤((k0:Nat):Int)∧((k0:Nat):Int)≤((l.length:Nat):Int))) ((Fw (l.take k0) x_2.Kind x_2.Target x_2.By).bind fun y4=>(bif (decide (0≤y4))then some (Out.ret 7)else some (Out.next ()))))
def Ia (l:List Bk):Option (Int):=
 (bif (decide (200<((l.length:Nat):Int)))then some 4 else(Al (Hj l) 0 l ()).bind fun o0=>o0.on fun s0=>some 0)
theorem bX (l:List Bk) {r:Int} (h:Ia l=some r):Ad Tryz.prog 86 [.sl 4 (l.map Aq)] (·= .int .i64 r):=by
 refine Ad.nle (Ad.intro Tryz.func86 rfl rfl (by show _≤39;simp) ?_)
 unfold Ia at h
 refine nS (sq ?_)
 refine ar rfl (qn (sq (sq ?_)))
 refine rg rfl fun K j=>?_
 intro hm
 refine j _ _ (qn ?_)
 revert h;refine ca rfl (fun hc h=>?_) fun hc h=>?_
 ·refine sq (ar rfl (qn (rt (qr ?_))))
  cases h;exact en Tryz.results86
 refine sk (qn (sq (sq (ar rfl (qn (bk ?_))))))
 obtain⟨o0,hJ0,hO0⟩:=Af h
 clear h
 refine AWP.Bw (ι:=Nat×(Unit)×(Unit)) (fun zz=>[(0,.sl 4 (l.map Aq)),(3,.int .i64 ((zz.1:Nat):Int))]) (fun zz=>[]) (fun zz=>zz.1≤l.length∧Al (Hj l) zz.1 ((l).drop zz.1) zz.2.1=some o0) (fun zz=>l.length - zz.1) (0,(),()) ⟨Nat.zero_le _,hJ0⟩ cu cu (fun x=>⟨rfl,rfl,rfl⟩) ?_
 clear hJ0
 rintro⟨k0,⟨⟩,⟨⟩⟩ ⟨hk0,hJ0⟩
 dsimp only at hk0 hJ0 ⊢
 refine sq (sq ?_)
 refine rg rfl fun K j=>?_
 intro hm
 refine j _ _ (qn ?_)
 refine AWP.cond (Ak (fun hc=>?_) (fun hc=>?_))
 rotate_left
 ·obtain rfl:=Bf hJ0 (fun hl=>by have:=Ai7 hc;omega)
  have h:=Be hO0;try dsimp only at h
  have hkl:l.length=k0:=by have:=Ai7 hc;omega
  subst hkl
  refine xt (qe (qe (bs (qn (sq (ar rfl (qn (rt ?_))))))))
  cases h;exact en Tryz.results86
 have hlt0:k0<l.length:=by have:=Ai8 hc;omega
 obtain⟨x_2,b0,hx0_,h,hJ0⟩:=Ba hJ0 hlt0
 have hx0:=A2 hx0_
 have hw0:=wk (k:=k0) (by omega)
 unfold Hj at h;try dsimp only at h
 refine sk (qn (sq (bk (sq (sq ?_)))))
 refine rg rfl fun K j=>?_
 refine Bn.of (f:=Aq) (l:=l) hx0 ?_
 refine nS ?_
 obtain⟨y3,hy3,h⟩:=Af h
 refine An.pure Tryz.call181 (fS x_2 hy3) rfl fun _ hr=>?_
 subst hr
 refine nS ?_
 refine j _ _ (qn ?_)
 revert h;refine ca rfl (fun hc h=>?_) fun hc h=>?_
 ·refine sq (ar rfl (qn (rt (qr (br (qr (qr ?_)))))))
  obtain rfl:=Aa h
  obtain rfl:=Ae hJ0
  replace h:=Am hO0
  refine br (qr ?_)
  cases h;exact en Tryz.results86
 refine sk (qn (sq ?_))
 refine AWP.draw Tryz.mixed (by kernel_rfl) ?_;intro K j
 refine nS ?_
 obtain⟨hk,h⟩:=Hp h
 intro hm
 (repeat(refine⟨by omega,?_⟩))
 refine Bn.of (f:=Aq) (l:=l) hx0 ?_
 refine nS ?_
 refine Bn.of (f:=Aq) (l:=l) hx0 ?_
 refine nS ?_
 refine Bn.of (f:=Aq) (l:=l) hx0 ?_
 refine nS ?_
 obtain⟨y4,hy4,h⟩:=Af h
 refine B7.pure Tryz.call182 (bY (l.take k0) x_2.Kind x_2.Target x_2.By hy4) rfl ?_
 refine nS ?_
 refine j _ _ _ (by kernel_rfl) ?_
 refine qn ?_
 revert h;refine ca rfl (fun hc h=>?_) fun hc h=>?_
 ·refine sq (ar rfl (qn (rt (br (qr (qr ?_))))))
  obtain rfl:=Aa h
  obtain rfl:=Ae hJ0
  replace h:=Am hO0
  refine br (qr ?_)
  cases h;exact en Tryz.results86
 refine sk (bn (qn (ar rfl (qn ?_))))
 obtain rfl:=Aa h
 refine⟨(k0+1,(),()),⟨by dsimp only;omega,Ai hJ0⟩,by dsimp only;omega,?_,?_⟩
 ·exact cuw hw0
 exact cuw hw0
def Pt (n_:Int) (lo:Int) (hi:Int):Option (Bool):=
 (bif (decide (lo≤n_))then some (decide (n_≤hi))else some false)
theorem Pf (n_:Int) (lo:Int) (hi:Int) {r:Bool} (h:Pt n_ lo hi=some r):Ad Tryz.prog 257 [.int .i64 n_,.int .i64 lo,.int .i64 hi] (·= .bool r):=by
 refine Ad.nle (Ad.intro Tryz.func257 rfl rfl (by show _≤15;simp) ?_)
 unfold Pt at h
 refine nS (sq ?_)
 refine ar rfl (qn (sq ?_))
 refine rg rfl fun K j=>?_
 revert h;refine gt (fun hc h=>?_) fun hc h=>?_
 ·refine j _ _ (qn (rt ?_))
  cases h;exact en Tryz.results257
 refine j _ _ (qn (rt ?_))
 cases h;exact en Tryz.results257
def U3 (n_:Int) (k0:Nat) (x_2:Int) (sv:Unit):Option (Out (Unit) (Bool)):=
 (bif (decide (x_2=n_))then some (Out.ret true)else some (Out.next ()))
def Uh (l:List Int) (n_:Int):Option (Bool):=
 (Al (U3 n_) 0 l ()).bind fun o0=>o0.on fun s0=>some false
theorem Wt (l:List Int) (n_:Int) {r:Bool} (h:Uh l n_=some r):Ad Tryz.prog 258 [.sl 1 (l.map A5),.int .i64 n_] (·= .bool r):=by
 refine Ad.nle (Ad.intro Tryz.func258 rfl rfl (by show _≤18;simp) ?_)
 unfold Uh at h
 refine nS (sq ?_)
 refine ar rfl (qn (sq (sq ?_)))
 refine ar rfl (qn (bk ?_))
 obtain⟨o0,hJ0,hO0⟩:=Af h
 clear h
 refine AWP.Bw (ι:=Nat×(Unit)×(Unit)) (fun zz=>[(0,.sl 1 (l.map A5)),(1,.int .i64 n_),(5,.int .i64 ((zz.1:Nat):Int))]) (fun zz=>[]) (fun zz=>zz.1≤l.length∧Al (U3 n_) zz.1 ((l).drop zz.1) zz.2.1=some o0) (fun zz=>l.length - zz.1) (0,(),()) ⟨Nat.zero_le _,hJ0⟩ cu cu (fun x=>⟨rfl,rfl,rfl⟩) ?_
 clear hJ0
 rintro⟨k0,⟨⟩,⟨⟩⟩ ⟨hk0,hJ0⟩
 dsimp only at hk0 hJ0 ⊢
 refine sq (sq ?_)
 refine rg rfl fun K j=>?_
 intro hm
 refine j _ _ (qn ?_)
 refine AWP.cond (Ak (fun hc=>?_) (fun hc=>?_))
 rotate_left
 ·obtain rfl:=Bf hJ0 (fun hl=>by have:=Ai7 hc;omega)
  have h:=Be hO0;try dsimp only at h
  have hkl:l.length=k0:=by have:=Ai7 hc;omega
  subst hkl
  refine xt (qe (qe (bs (qn (sq (ar rfl (qn (rt ?_))))))))
  cases h;exact en Tryz.results258
 have hlt0:k0<l.length:=by have:=Ai8 hc;omega
 obtain⟨x_2,b0,hx0_,h,hJ0⟩:=Ba hJ0 hlt0
 have hx0:=A2 hx0_
 have hw0:=wk (k:=k0) (by omega)
 unfold U3 at h;try dsimp only at h
 refine sk (qn (sq (bk (sq ?_))))
 refine rg rfl fun K j=>?_
 refine Bn.of (f:=A5) (l:=l) hx0 ?_
 refine nS ?_
 refine j _ _ (qn ?_)
 revert h;refine ca rfl (fun hc h=>?_) fun hc h=>?_
 ·refine sq (ar rfl (qn (rt (br (qr (qr ?_))))))
  obtain rfl:=Aa h
  obtain rfl:=Ae hJ0
  replace h:=Am hO0
  refine br (qr ?_)
  cases h;exact en Tryz.results258
 refine sk (bn (qn (ar rfl (qn ?_))))
 obtain rfl:=Aa h
 refine⟨(k0+1,(),()),⟨by dsimp only;omega,Ai hJ0⟩,by dsimp only;omega,?_,?_⟩
 ·exact cuw hw0
 exact cuw hw0
def N3 (l:Bq) (k2:Nat) (x_4:Ft) (sv:Unit):Option (Out (Unit) (Int)):=
 (Uh l.Items x_4.Item).bind fun y5=>(bif (!y5)then some (Out.ret 8)else (Pt x_4.By 1 9999).bind fun y6=>(bif (!y6)then some (Out.ret 17)else (Pt x_4.At 0 20000000).bind fun y7=>(bif (!y7)then some (Out.ret 2)else (bif (decide (0<((k2:Nat):Int)))then (Dk l.Signs (IntKind.i64.wrap (((k2:Nat):Int) - 1))).bind fun x_8=>(bif (decide (x_4.At<x_8.At))then some (Out.ret 11)else some (Out.next ()))else some (Out.next ())))))
def N1 (l:Bq):Option (Int):=
 (Al (N3 l) 0 l.Signs ()).bind fun o2=>o2.on fun s2=>some 0
def N2 (l:Bq) (k8:Nat) (x_10:Int) (sv:Unit):Option (Out (Unit) (Int)):=
 (Pt x_10 1 9999).bind fun y11=>(bif (!y11)then some (Out.ret 2)else okB (decide (0≤((k8:Nat):Int)∧((k8:Nat):Int)≤((l.Items.length:Nat):Int))) ((Uh (l.Items.take k8) x_10).bind fun y12=>(bif y12 then some (Out.ret 7)else some (Out.next ()))))
def Gk (l:Bq):Option (Int):=
 (bif (decide (64<((l.Items.length:Nat):Int)))then some 4 else(bif (decide (200<((l.Signs.length:Nat):Int)))then some 4 else(Pt l.Every 1 604800).bind fun y1=>(bif (!y1)then some 2 else(Al (N2 l) 0 l.Items ()).bind fun o8=>o8.on fun s8=>N1 l)))
theorem Ug (l:Bq) {r:Int} (h:Gk l=some r):Ad Tryz.prog 183 [.agg (Fm l)] (·= .int .i64 r):=by
 refine Ad.nle (Ad.intro Tryz.func183 rfl rfl (by show _≤88;simp) ?_)
 unfold Gk at h
 refine nS (sq ?_)
 refine ar rfl (qn (sq (sq ?_)))
 refine rg rfl fun K j=>?_
 intro hm
 revert h;refine gf (fun hc h=>?_) fun hc h=>?_
 rotate_left
 ·refine j _ _ (qn ?_)
  refine AWP.cond (Ah ?_)
  refine sq (ar rfl (qn (rt (qr ?_))))
  cases h;exact en Tryz.results183
 intro hm
 refine j _ _ (qn ?_)
 revert h;refine ca rfl (fun hc h=>?_) fun hc h=>?_
 ·refine sq (ar rfl (qn (rt (qr ?_))))
  cases h;exact en Tryz.results183
 refine sk (qn (sq (sq ?_)))
 refine rg rfl fun K j=>?_
 obtain⟨y1,hy1,h⟩:=Af h
 refine An.pure Tryz.call257 (Pf l.Every 1 604800 hy1) rfl fun _ hr=>?_
 subst hr
 refine nS ?_
 refine j _ _ (qn ?_)
 revert h;refine ca rfl (fun hc h=>?_) fun hc h=>?_
 ·refine sq (ar rfl (qn (rt (qr ?_))))
  cases h;exact en Tryz.results183
 refine sk (qn ?_)
 refine AWP.Lf (ι:=(Unit)×(Unit)) (fun zz=>[(1,.ptr 0 0)]) (fun zz=>[.box [.sl 1 (l.Items.map A5),.int .i64 l.Every,.sl 3 (l.Signs.map B9)]]) (fun zz=>N1 l=some r) (fun zz=>⟨rfl,rfl,rfl⟩) ?_ ?_
 ·refine sq (ar rfl (qn (bk ?_)))
  obtain⟨o8,hJ8,hO8⟩:=Af h
  clear h
  refine AWP.Bw (ι:=Nat×(Unit)×(Unit)) (fun zz=>[(1,.ptr 0 0),(3,.int .i64 ((zz.1:Nat):Int))]) (fun zz=>[.box [.sl 1 (l.Items.map A5),.int .i64 l.Every,.sl 3 (l.Signs.map B9)]]) (fun zz=>zz.1≤l.Items.length∧Al (N2 l) zz.1 ((l.Items).drop zz.1) zz.2.1=some o8) (fun zz=>l.Items.length - zz.1) (0,(),()) ⟨Nat.zero_le _,hJ8⟩ cu cu (fun x=>⟨rfl,rfl,rfl⟩) ?_
  clear hJ8
  rintro⟨k8,⟨⟩,⟨⟩⟩ ⟨hk8,hJ8⟩
  dsimp only at hk8 hJ8 ⊢
  refine sq (sq ?_)
  refine rg rfl fun K j=>?_
  intro hm
  refine j _ _ (qn ?_)
  refine AWP.cond (Ak (fun hc=>?_) (fun hc=>?_))
  rotate_left
  ·obtain rfl:=Bf hJ8 (fun hl=>by have:=Ai7 hc;omega)
   have h:=Be hO8;try dsimp only at h
   have hkl:l.Items.length=k8:=by have:=Ai7 hc;omega
   subst hkl
   refine xt (qe (qe (bs (qn ?_))))
   exact⟨((),()),h,cu,cu⟩
  have hlt8:k8<l.Items.length:=by have:=Ai8 hc;omega
  obtain⟨x_10,b8,hx8_,h,hJ8⟩:=Ba hJ8 hlt8
  have hx8:=A2 hx8_
  have hw8:=wk (k:=k8) (by omega)
  unfold N2 at h;try dsimp only at h
  refine sk (qn (sq (bk (sq (sq ?_)))))
  refine rg rfl fun K j=>?_
  refine Bn.of (f:=A5) (l:=l.Items) hx8 ?_
  refine nS ?_
  obtain⟨y11,hy11,h⟩:=Af h
  refine An.pure Tryz.call257 (Pf x_10 1 9999 hy11) rfl fun _ hr=>?_
  subst hr
  refine nS ?_
  refine j _ _ (qn ?_)
  revert h;refine ca rfl (fun hc h=>?_) fun hc h=>?_
  ·refine sq (ar rfl (qn (rt (qr (br (qr (qr ?_)))))))
   obtain rfl:=Aa h
   obtain rfl:=Ae hJ8
   replace h:=Am hO8
   refine br (qr ?_)
   cases h;exact en Tryz.results183
  refine sk (qn (sq ?_))
  refine AWP.draw Tryz.mixed (by kernel_rfl) ?_;intro K j
  refine nS ?_
  obtain⟨hk,h⟩:=Hp h
  intro hm
  (repeat(refine⟨by omega,?_⟩))
  refine Bn.of (f:=A5) (l:=l.Items) hx8 ?_
  refine nS ?_
  obtain⟨y12,hy12,h⟩:=Af h
  refine B7.pure Tryz.call258 (Wt (l.Items.take k8) x_10 hy12) rfl ?_
  refine nS ?_
  refine j _ _ _ (by kernel_rfl) ?_
  refine qn ?_
  revert h;refine ca rfl (fun hc h=>?_) fun hc h=>?_
  ·refine sq (ar rfl (qn (rt (br (qr (qr ?_))))))
   obtain rfl:=Aa h
   obtain rfl:=Ae hJ8
   replace h:=Am hO8
   refine br (qr ?_)
   cases h;exact en Tryz.results183
  refine sk (bn (qn (ar rfl (qn ?_))))
  obtain rfl:=Aa h
  refine⟨(k8+1,(),()),⟨by dsimp only;omega,Ai hJ8⟩,by dsimp only;omega,?_,?_⟩
  ·exact cuw hw8
  exact cuw hw8
 rintro⟨⟨⟩,⟨⟩⟩ h
 try dsimp only at h ⊢
 unfold N1 at h;try dsimp only at h
 refine sq (sq (ar rfl (qn (bk ?_))))
 obtain⟨o2,hJ2,hO2⟩:=Af h
 clear h
 refine AWP.Bw (ι:=Nat×(Unit)×(Unit)) (fun zz=>[(1,.ptr 0 0),(4,.int .i64 ((zz.1:Nat):Int))]) (fun zz=>[.box [.sl 1 (l.Items.map A5),.int .i64 l.Every,.sl 3 (l.Signs.map B9)]]) (fun zz=>zz.1≤l.Signs.length∧Al (N3 l) zz.1 ((l.Signs).drop zz.1) zz.2.1=some o2) (fun zz=>l.Signs.length - zz.1) (0,(),()) ⟨Nat.zero_le _,hJ2⟩ cu cu (fun x=>⟨rfl,rfl,rfl⟩) ?_
 clear hJ2
 rintro⟨k2,⟨⟩,⟨⟩⟩ ⟨hk2,hJ2⟩
 dsimp only at hk2 hJ2 ⊢
 refine sq (sq ?_)
 refine rg rfl fun K j=>?_
 intro hm
 refine j _ _ (qn ?_)
 refine AWP.cond (Ak (fun hc=>?_) (fun hc=>?_))
 rotate_left
 ·obtain rfl:=Bf hJ2 (fun hl=>by have:=Ai7 hc;omega)
  have h:=Be hO2;try dsimp only at h
  have hkl:l.Signs.length=k2:=by have:=Ai7 hc;omega
  subst hkl
  refine xt (qe (qe (bs (qn (sq (ar rfl (qn (rt ?_))))))))
  cases h;exact en Tryz.results183
 have hlt2:k2<l.Signs.length:=by have:=Ai8 hc;omega
 obtain⟨x_4,b2,hx2_,h,hJ2⟩:=Ba hJ2 hlt2
 have hx2:=A2 hx2_
 have hw2:=wk (k:=k2) (by omega)
 unfold N3 at h;try dsimp only at h
 refine sk (qn (sq (bk (sq ?_))))
 refine rg rfl fun K j=>?_
 refine Bn.of (f:=B9) (l:=l.Signs) hx2 ?_
 refine nS ?_
 refine j _ _ (qn (bk (sq ?_)))
 refine rg rfl fun K j=>?_
 obtain⟨y5,hy5,h⟩:=Af h
 refine An.pure Tryz.call258 (Wt l.Items x_4.Item hy5) rfl fun _ hr=>?_
 subst hr
 refine nS ?_
 refine j _ _ (qn ?_)
 revert h;refine ca rfl (fun hc h=>?_) fun hc h=>?_
 ·refine sq (ar rfl (qn (rt (br (br (qr (qr ?_)))))))
  obtain rfl:=Aa h
  obtain rfl:=Ae hJ2
  replace h:=Am hO2
  refine br (qr ?_)
  cases h;exact en Tryz.results183
 refine sq ?_
 refine rg rfl fun K j=>?_
 obtain⟨y6,hy6,h⟩:=Af h
 refine An.pure Tryz.call257 (Pf x_4.By 1 9999 hy6) rfl fun _ hr=>?_
 subst hr
 refine nS ?_
 refine j _ _ (qn ?_)
 revert h;refine ca rfl (fun hc h=>?_) fun hc h=>?_
 ·refine sq (ar rfl (qn (rt (br (br (qr (qr ?_)))))))
  obtain rfl:=Aa h
  obtain rfl:=Ae hJ2
  replace h:=Am hO2
  refine br (qr ?_)
  cases h;exact en Tryz.results183
 refine sq ?_
 refine rg rfl fun K j=>?_
 obtain⟨y7,hy7,h⟩:=Af h
 refine An.pure Tryz.call257 (Pf x_4.At 0 20000000 hy7) rfl fun _ hr=>?_
 subst hr
 refine nS ?_
 refine j _ _ (qn ?_)
 revert h;refine ca rfl (fun hc h=>?_) fun hc h=>?_
 ·refine sq (ar rfl (qn (rt (br (br (qr (qr ?_)))))))
  obtain rfl:=Aa h
  obtain rfl:=Ae hJ2
  replace h:=Am hO2
  refine br (qr ?_)
  cases h;exact en Tryz.results183
 refine sq ?_
 refine AWP.draw Tryz.mixed (by kernel_rfl) ?_;intro K j
 refine nS ?_
 revert h;refine gt (fun hc h=>?_) fun hc h=>?_
 ·obtain⟨x_8,hx_8,h⟩:=Af h
  refine Bn.of (f:=B9) (l:=l.Signs) hx_8 ?_
  refine nS ?_
  refine j _ _ _ (by kernel_rfl) ?_
  refine qn ?_
  revert h;refine ca rfl (fun hc h=>?_) fun hc h=>?_
  ·refine sq (ar rfl (qn (rt (br (br (qr (qr ?_)))))))
   obtain rfl:=Aa h
   obtain rfl:=Ae hJ2
   replace h:=Am hO2
   refine br (qr ?_)
   cases h;exact en Tryz.results183
  refine sk (bn (bn (qn (ar rfl (qn ?_)))))
  obtain rfl:=Aa h
  refine⟨(k2+1,(),()),⟨by dsimp only;omega,Ai hJ2⟩,by dsimp only;omega,?_,?_⟩
  ·exact cuw hw2
  exact cuw hw2
 refine j _ _ _ (by kernel_rfl) ?_
 refine qn ?_
 refine AWP.cond (Bi ?_)
 refine sk (bn (bn (qn (ar rfl (qn ?_)))))
 obtain rfl:=Aa h
 refine⟨(k2+1,(),()),⟨by dsimp only;omega,Ai hJ2⟩,by dsimp only;omega,?_,?_⟩
 ·exact cuw hw2
 exact cuw hw2
def M8 (run:Int) (k0:Nat) (x_2:Cj) (sv:Unit):Option (Out (Unit) (Int)):=
 (bif (decide (x_2.Run=run))then some (Out.ret ((k0:Nat):Int))else some (Out.next ()))
def Nu (p:Ca) (run:Int):Option (Int):=
 (Al (M8 run) 0 p.Bt ()).bind fun o0=>o0.on fun s0=>some (-1)
theorem jD (p:Ca) (run:Int) {r:Int} (h:Nu p run=some r):Ad Tryz.prog 184 [.agg (Ip p),.int .i64 run] (·= .int .i64 r):=by
 refine Ad.nle (Ad.intro Tryz.func184 rfl rfl (by show _≤22;simp) ?_)
 unfold Nu at h
 refine nS (sq ?_)
 refine ar rfl (qn (sq (sq ?_)))
 refine ar rfl (qn (bk ?_))
 obtain⟨o0,hJ0,hO0⟩:=Af h
 clear h
 refine AWP.Bw (ι:=Nat×(Unit)×(Unit)) (fun zz=>[(1,.int .i64 run),(2,.ptr 0 0),(5,.int .i64 ((zz.1:Nat):Int))]) (fun zz=>[.box [.sl 4 (p.Bt.map Au),.sl 3 (p.Hazards.map Az)]]) (fun zz=>zz.1≤p.Bt.length∧Al (M8 run) zz.1 ((p.Bt).drop zz.1) zz.2.1=some o0) (fun zz=>p.Bt.length - zz.1) (0,(),()) ⟨Nat.zero_le _,hJ0⟩ cu cu (fun x=>⟨rfl,rfl,rfl⟩) ?_
 clear hJ0
 rintro⟨k0,⟨⟩,⟨⟩⟩ ⟨hk0,hJ0⟩
 dsimp only at hk0 hJ0 ⊢
 refine sq (sq ?_)
 refine rg rfl fun K j=>?_
 intro hm
 refine j _ _ (qn ?_)
 refine AWP.cond (Ak (fun hc=>?_) (fun hc=>?_))
 rotate_left
 ·obtain rfl:=Bf hJ0 (fun hl=>by have:=Ai7 hc;omega)
  have h:=Be hO0;try dsimp only at h
  have hkl:p.Bt.length=k0:=by have:=Ai7 hc;omega
  subst hkl
  refine xt (qe (qe (bs (qn (sq (ar rfl (qn (rt ?_))))))))
  cases h;exact en Tryz.results184
 have hlt0:k0<p.Bt.length:=by have:=Ai8 hc;omega
 obtain⟨x_2,b0,hx0_,h,hJ0⟩:=Ba hJ0 hlt0
 have hx0:=A2 hx0_
 have hw0:=wk (k:=k0) (by omega)
 unfold M8 at h;try dsimp only at h
 refine sk (qn (sq (bk (sq ?_))))
 refine rg rfl fun K j=>?_
 refine Bn.of (f:=Au) (l:=p.Bt) hx0 ?_
 refine nS ?_
 refine j _ _ (qn ?_)
 revert h;refine ca rfl (fun hc h=>?_) fun hc h=>?_
 ·refine sq (ar rfl (qn (rt (br (qr (qr ?_))))))
  obtain rfl:=Aa h
  obtain rfl:=Ae hJ0
  replace h:=Am hO0
  refine br (qr ?_)
  cases h;exact en Tryz.results184
 refine sk (bn (qn (ar rfl (qn ?_))))
 obtain rfl:=Aa h
 refine⟨(k0+1,(),()),⟨by dsimp only;omega,Ai hJ0⟩,by dsimp only;omega,?_,?_⟩
 ·exact cuw hw0
 exact cuw hw0
def Kl (p:Ca) (x_3:Cv) (k3:Nat) (_x:Unit) (sv:Unit):Option (Out (Unit) (Out (Unit) (Int))):=
 (Dk p.Hazards ((k3:Nat):Int)).bind fun x_5=>(bif (decide (x_5.ID=x_3.ID))then some (Out.ret (Out.ret 7))else some (Out.next ()))
def Nw (p:Ca) (k1:Nat) (x_3:Cv) (sv:Unit):Option (Out (Unit) (Int)):=
 (bif (decide (x_3.ID<1))then some (Out.ret 2)else (bif (decide (9999<x_3.ID))then some (Out.ret 2)else (bif (decide (x_3.At<0))then some (Out.ret 2)else (bif (decide (20000000<x_3.At))then some (Out.ret 2)else (J5 (Kl p x_3) k1 ()).bind fun o3=>o3.on fun s3=>(Nu p x_3.Run).bind fun y6=>(bif (decide (y6<0))then some (Out.ret 8)else some (Out.next ()))))))
def Nv (p:Ca):Option (Int):=
 (Al (Nw p) 0 p.Hazards ()).bind fun o1=>o1.on fun s1=>some 0
def Hi (p:Ca) (k6:Nat) (x_8:Cj) (sv:Unit):Option (Out (Unit) (Int)):=
 (bif (decide (x_8.Run<1))then some (Out.ret 2)else (bif (decide (9999<x_8.Run))then some (Out.ret 2)else (bif (decide (0<((k6:Nat):Int)))then (Dk p.Bt (IntKind.i64.wrap (((k6:Nat):Int) - 1))).bind fun x_9=>(bif (decide (x_8.Run≤x_9.Run))then some (Out.ret 11)else (Gk x_8.List_).bind fun y10=>(bif (decide (y10≠0))then some (Out.ret y10)else some (Out.next ())))else (Gk x_8.List_).bind fun y11=>(bif (decide (y11≠0))then some (Out.ret y11)else some (Out.next ())))))
def H9 (p:Ca):Option (Int):=
 (bif (decide (64<((p.Bt.length:Nat):Int)))then some 4 else(bif (decide (200<((p.Hazards.length:Nat):Int)))then some 4 else(Al (Hi p) 0 p.Bt ()).bind fun o6=>o6.on fun s6=>Nv p))
theorem bV (p:Ca) {r:Int} (h:H9 p=some r):Ad Tryz.prog 87 [.agg (Ip p)] (·= .int .i64 r):=by
 refine Ad.nle (Ad.intro Tryz.func87 rfl rfl (by show _≤118;simp) ?_)
 unfold H9 at h
 refine nS (sq ?_)
 refine ar rfl (qn (sq (sq ?_)))
 refine rg rfl fun K j=>?_
 intro hm
 revert h;refine gf (fun hc h=>?_) fun hc h=>?_
 rotate_left
 ·refine j _ _ (qn ?_)
  refine AWP.cond (Ah ?_)
  refine sq (ar rfl (qn (rt (qr ?_))))
  cases h;exact en Tryz.results87
 intro hm
 refine j _ _ (qn ?_)
 revert h;refine ca rfl (fun hc h=>?_) fun hc h=>?_
 ·refine sq (ar rfl (qn (rt (qr ?_))))
  cases h;exact en Tryz.results87
 refine sk (qn ?_)
 refine AWP.Lf (ι:=(Unit)×(Unit)) (fun zz=>[(1,.ptr 0 0)]) (fun zz=>[.box [.sl 4 (p.Bt.map Au),.sl 3 (p.Hazards.map Az)]]) (fun zz=>Nv p=some r) (fun zz=>⟨rfl,rfl,rfl⟩) ?_ ?_
 ·refine sq (ar rfl (qn (bk ?_)))
  obtain⟨o6,hJ6,hO6⟩:=Af h
  clear h
  refine AWP.Bw (ι:=Nat×(Unit)×(Unit)) (fun zz=>[(1,.ptr 0 0),(3,.int .i64 ((zz.1:Nat):Int))]) (fun zz=>[.box [.sl 4 (p.Bt.map Au),.sl 3 (p.Hazards.map Az)]]) (fun zz=>zz.1≤p.Bt.length∧Al (Hi p) zz.1 ((p.Bt).drop zz.1) zz.2.1=some o6) (fun zz=>p.Bt.length - zz.1) (0,(),()) ⟨Nat.zero_le _,hJ6⟩ cu cu (fun x=>⟨rfl,rfl,rfl⟩) ?_
  clear hJ6
  rintro⟨k6,⟨⟩,⟨⟩⟩ ⟨hk6,hJ6⟩
  dsimp only at hk6 hJ6 ⊢
  refine sq (sq ?_)
  refine rg rfl fun K j=>?_
  intro hm
  refine j _ _ (qn ?_)
  refine AWP.cond (Ak (fun hc=>?_) (fun hc=>?_))
  rotate_left
  ·obtain rfl:=Bf hJ6 (fun hl=>by have:=Ai7 hc;omega)
   have h:=Be hO6;try dsimp only at h
   have hkl:p.Bt.length=k6:=by have:=Ai7 hc;omega
   subst hkl
   refine xt (qe (qe (bs (qn ?_))))
   exact⟨((),()),h,cu,cu⟩
  have hlt6:k6<p.Bt.length:=by have:=Ai8 hc;omega
  obtain⟨x_8,b6,hx6_,h,hJ6⟩:=Ba hJ6 hlt6
  have hx6:=A2 hx6_
  have hw6:=wk (k:=k6) (by omega)
  unfold Hi at h;try dsimp only at h
  refine sk (qn (sq (bk (sq (sq ?_)))))
  refine rg rfl fun K j=>?_
  refine Bn.of (f:=Au) (l:=p.Bt) hx6 ?_
  refine nS ?_
  revert h;refine gf (fun hc h=>?_) fun hc h=>?_
  rotate_left
  ·refine j _ _ (qn ?_)
   refine AWP.cond (Ah ?_)
   refine sq (ar rfl (qn (rt (qr (br (qr (qr ?_)))))))
   obtain rfl:=Aa h
   obtain rfl:=Ae hJ6
   replace h:=Am hO6
   refine br (qr ?_)
   cases h;exact en Tryz.results87
  refine Bn.of (f:=Au) (l:=p.Bt) hx6 ?_
  refine nS ?_
  refine j _ _ (qn ?_)
  revert h;refine ca rfl (fun hc h=>?_) fun hc h=>?_
  ·refine sq (ar rfl (qn (rt (qr (br (qr (qr ?_)))))))
   obtain rfl:=Aa h
   obtain rfl:=Ae hJ6
   replace h:=Am hO6
   refine br (qr ?_)
   cases h;exact en Tryz.results87
  refine sk (qn (sq (sq ?_)))
  refine AWP.draw Tryz.mixed (by kernel_rfl) ?_;intro K j
  refine nS ?_
  revert h;refine gt (fun hc h=>?_) fun hc h=>?_
  ·refine Bn.of (f:=Au) (l:=p.Bt) hx6 ?_
   refine nS ?_
   obtain⟨x_9,hx_9,h⟩:=Af h
   refine Bn.of (f:=Au) (l:=p.Bt) hx_9 ?_
   refine nS ?_
   refine j _ _ _ (by kernel_rfl) ?_
   refine qn ?_
   revert h;refine ca rfl (fun hc h=>?_) fun hc h=>?_
   ·refine sq (ar rfl (qn (rt (qr (br (qr (qr ?_)))))))
    obtain rfl:=Aa h
    obtain rfl:=Ae hJ6
    replace h:=Am hO6
    refine br (qr ?_)
    cases h;exact en Tryz.results87
   refine sk (qn (sq ?_))
   refine rg rfl fun K j=>?_
   refine Bn.of (f:=Au) (l:=p.Bt) hx6 ?_
   refine nS ?_
   obtain⟨y10,hy10,h⟩:=Af h
   refine An.pure Tryz.call183 (Ug x_8.List_ hy10) rfl fun _ hr=>?_
   subst hr
   refine nS ?_
   refine j _ _ (qn (sq ?_))
   refine ar rfl (qn ?_)
   revert h;refine ca rfl (fun hc h=>?_) fun hc h=>?_
   ·refine sq (ar rfl (qn (rt (br (qr (qr ?_))))))
    obtain rfl:=Aa h
    obtain rfl:=Ae hJ6
    replace h:=Am hO6
    refine br (qr ?_)
    cases h;exact en Tryz.results87
   refine sk (bn (qn (ar rfl (qn ?_))))
   obtain rfl:=Aa h
   refine⟨(k6+1,(),()),⟨by dsimp only;omega,Ai hJ6⟩,by dsimp only;omega,?_,?_⟩
   ·exact cuw hw6
   exact cuw hw6
  refine j _ _ _ (by kernel_rfl) ?_
  refine qn ?_
  refine AWP.cond (Bi ?_)
  refine sk (qn (sq ?_))
  refine rg rfl fun K j=>?_
  refine Bn.of (f:=Au) (l:=p.Bt) hx6 ?_
  refine nS ?_
  obtain⟨y11,hy11,h⟩:=Af h
  refine An.pure Tryz.call183 (Ug x_8.List_ hy11) rfl fun _ hr=>?_
  subst hr
  refine nS ?_
  refine j _ _ (qn (sq ?_))
  refine ar rfl (qn ?_)
  revert h;refine ca rfl (fun hc h=>?_) fun hc h=>?_
  ·refine sq (ar rfl (qn (rt (br (qr (qr ?_))))))
   obtain rfl:=Aa h
   obtain rfl:=Ae hJ6
   replace h:=Am hO6
   refine br (qr ?_)
   cases h;exact en Tryz.results87
  refine sk (bn (qn (ar rfl (qn ?_))))
  obtain rfl:=Aa h
  refine⟨(k6+1,(),()),⟨by dsimp only;omega,Ai hJ6⟩,by dsimp only;omega,?_,?_⟩
  ·exact cuw hw6
  exact cuw hw6
 rintro⟨⟨⟩,⟨⟩⟩ h
 try dsimp only at h ⊢
 unfold Nv at h;try dsimp only at h
 refine sq (sq (ar rfl (qn (bk ?_))))
 obtain⟨o1,hJ1,hO1⟩:=Af h
 clear h
 refine AWP.Bw (ι:=Nat×(Unit)×(Unit)) (fun zz=>[(1,.ptr 0 0),(5,.int .i64 ((zz.1:Nat):Int))]) (fun zz=>[.box [.sl 4 (p.Bt.map Au),.sl 3 (p.Hazards.map Az)]]) (fun zz=>zz.1≤p.Hazards.length∧Al (Nw p) zz.1 ((p.Hazards).drop zz.1) zz.2.1=some o1) (fun zz=>p.Hazards.length - zz.1) (0,(),()) ⟨Nat.zero_le _,hJ1⟩ cu cu (fun x=>⟨rfl,rfl,rfl⟩) ?_
 clear hJ1
 rintro⟨k1,⟨⟩,⟨⟩⟩ ⟨hk1,hJ1⟩
 dsimp only at hk1 hJ1 ⊢
 refine sq (sq ?_)
 refine rg rfl fun K j=>?_
 intro hm
 refine j _ _ (qn ?_)
 refine AWP.cond (Ak (fun hc=>?_) (fun hc=>?_))
 rotate_left
 ·obtain rfl:=Bf hJ1 (fun hl=>by have:=Ai7 hc;omega)
  have h:=Be hO1;try dsimp only at h
  have hkl:p.Hazards.length=k1:=by have:=Ai7 hc;omega
  subst hkl
  refine xt (qe (qe (bs (qn (sq (ar rfl (qn (rt ?_))))))))
  cases h;exact en Tryz.results87
 have hlt1:k1<p.Hazards.length:=by have:=Ai8 hc;omega
 obtain⟨x_3,b1,hx1_,h,hJ1⟩:=Ba hJ1 hlt1
 have hx1:=A2 hx1_
 have hw1:=wk (k:=k1) (by omega)
 unfold Nw at h;try dsimp only at h
 refine sk (qn (sq (bk (sq ?_))))
 refine rg rfl fun K j=>?_
 refine Bn.of (f:=Az) (l:=p.Hazards) hx1 ?_
 refine nS ?_
 refine j _ _ (qn (sq (sq ?_)))
 refine rg rfl fun K j=>?_
 revert h;refine gf (fun hc h=>?_) fun hc h=>?_
 rotate_left
 ·refine j _ _ (qn ?_)
  refine AWP.cond (Ah ?_)
  refine sq (ar rfl (qn (rt (qr (br (qr (qr ?_)))))))
  obtain rfl:=Aa h
  obtain rfl:=Ae hJ1
  replace h:=Am hO1
  refine br (qr ?_)
  cases h;exact en Tryz.results87
 revert h;refine gf (fun hc h=>?_) fun hc h=>?_
 rotate_left
 ·refine j _ _ (qn ?_)
  refine AWP.cond (Ah ?_)
  refine sq (ar rfl (qn (rt (qr (br (qr (qr ?_)))))))
  obtain rfl:=Aa h
  obtain rfl:=Ae hJ1
  replace h:=Am hO1
  refine br (qr ?_)
  cases h;exact en Tryz.results87
 revert h;refine gf (fun hc h=>?_) fun hc h=>?_
 rotate_left
 ·refine j _ _ (qn ?_)
  refine AWP.cond (Ah ?_)
  refine sq (ar rfl (qn (rt (qr (br (qr (qr ?_)))))))
  obtain rfl:=Aa h
  obtain rfl:=Ae hJ1
  replace h:=Am hO1
  refine br (qr ?_)
  cases h;exact en Tryz.results87
 refine j _ _ (qn ?_)
 revert h;refine ca rfl (fun hc h=>?_) fun hc h=>?_
 ·refine sq (ar rfl (qn (rt (qr (br (qr (qr ?_)))))))
  obtain rfl:=Aa h
  obtain rfl:=Ae hJ1
  replace h:=Am hO1
  refine br (qr ?_)
  cases h;exact en Tryz.results87
 refine sk (qn (sq (sq (ar rfl (qn (bk ?_))))))
 obtain⟨o3,hJ3,hO3⟩:=Af h
 clear h
 obtain⟨hn3,hJ3⟩:=S1 hJ3
 refine AWP.Bw (ι:=Nat×(Unit)×(Unit)) (fun zz=>[(1,.ptr 0 0),(5,.int .i64 ((k1:Nat):Int)),(6,.ptr 1 0),(7,.int .i64 ((zz.1:Nat):Int))]) (fun zz=>[.box [.sl 4 (p.Bt.map Au),.sl 3 (p.Hazards.map Az)],.box [.int .i64 x_3.ID,.int .i64 x_3.Run,.int .i64 x_3.At]]) (fun zz=>zz.1≤k1∧Al (Kl p x_3) zz.1 ((List.replicate k1 ()).drop zz.1) zz.2.1=some o3) (fun zz=>k1 - zz.1) (0,(),()) ⟨Nat.zero_le _,hJ3⟩ cu cu (fun x=>⟨rfl,rfl,rfl⟩) ?_
 clear hJ3
 rintro⟨k3,⟨⟩,⟨⟩⟩ ⟨hk3,hJ3⟩
 dsimp only at hk3 hJ3 ⊢
 refine sq (sq (ar rfl (qn ?_)))
 refine AWP.cond (Ak (fun hc=>?_) (fun hc=>?_))
 ·have hlt3:k3<k1:=by have:=Ai8 hc;omega
  obtain⟨_,b3,_,h,hJ3⟩:=Ba hJ3 (by rw[List.length_replicate];exact hlt3)
  have hw3:=wk (k:=k3) (by omega)
  unfold Kl at h;try dsimp only at h
  refine sk (qn (sq (bk (sq ?_))))
  refine AWP.draw Tryz.mixed (by kernel_rfl) ?_;intro K j
  refine nS ?_
  obtain⟨x_5,hx_5,h⟩:=Af h
  refine Bn.of (f:=Az) (l:=p.Hazards) hx_5 ?_
  refine nS ?_
  refine j _ _ _ (by kernel_rfl) ?_
  refine qn ?_
  revert h;refine ca rfl (fun hc h=>?_) fun hc h=>?_
  ·refine sq (ar rfl (qn (rt (br (qr (qr ?_))))))
   obtain rfl:=Aa h
   obtain rfl:=Ae hJ3
   replace h:=Am hO3
   refine br (qr (br (qr (qr ?_))))
   obtain rfl:=Aa h
   obtain rfl:=Ae hJ1
   replace h:=Am hO1
   refine br (qr ?_)
   cases h;exact en Tryz.results87
  refine sk (bn (qn (ar rfl (qn ?_))))
  obtain rfl:=Aa h
  refine⟨(k3+1,(),()),⟨by dsimp only;omega,Ai hJ3⟩,by dsimp only;omega,?_,?_⟩
  ·exact cuw hw3
  exact cuw hw3
 obtain rfl:=Bf hJ3 (fun hl=>by rw[List.length_replicate]at hl;have:=Ai7 hc;omega)
 have h:=Be hO3;try dsimp only at h
 have hkl:k1=k3:=by have:=Ai7 hc;omega
 subst hkl
 refine xt (qe (qe (bs (qn (sq ?_)))))
 refine rg rfl fun K j=>?_
 obtain⟨y6,hy6,h⟩:=Af h
 refine An.pure Tryz.call184 (jD p x_3.Run hy6) rfl fun _ hr=>?_
 subst hr
 refine nS ?_
 refine j _ _ (qn ?_)
 revert h;refine ca rfl (fun hc h=>?_) fun hc h=>?_
 ·refine sq (ar rfl (qn (rt (br (qr (qr ?_))))))
  obtain rfl:=Aa h
  obtain rfl:=Ae hJ1
  replace h:=Am hO1
  refine br (qr ?_)
  cases h;exact en Tryz.results87
 refine sk (bn (qn (ar rfl (qn ?_))))
 obtain rfl:=Aa h
 refine⟨(k1+1,(),()),⟨by dsimp only;omega,Ai hJ1⟩,by dsimp only;omega,?_,?_⟩
 ·exact cuw hw1
 exact cuw hw1
def Rk (l:List Cy) (k0:Nat) (x_2:Cy) (sv:Unit):Option (Out (Unit) (Int)):=
 (bif (decide (x_2.Run<1))then some (Out.ret 2)else (bif (decide (9999<x_2.Run))then some (Out.ret 2)else (bif (decide (x_2.Groomed<(-1)))then some (Out.ret 2)else (bif (decide (20000000<x_2.Groomed))then some (Out.ret 2)else (bif (decide (x_2.Traffic<0))then some (Out.ret 2)else (bif (decide (1000000<x_2.Traffic))then some (Out.ret 2)else (bif (decide (0<((k0:Nat):Int)))then (Dk l (IntKind.i64.wrap (((k0:Nat):Int) - 1))).bind fun x_3=>(bif (decide (x_2.Run≤x_3.Run))then some (Out.ret 11)else some (Out.next ()))else some (Out.next ()))))))))
def Pq (l:List Cy):Option (Int):=
 (bif (decide (64<((l.length:Nat):Int)))then some 4 else(Al (Rk l) 0 l ()).bind fun o0=>o0.on fun s0=>some 0)
theorem cF (l:List Cy) {r:Int} (h:Pq l=some r):Ad Tryz.prog 88 [.sl 3 (l.map A3)] (·= .int .i64 r):=by
 refine Ad.nle (Ad.intro Tryz.func88 rfl rfl (by show _≤59;simp) ?_)
 unfold Pq at h
 refine nS (sq ?_)
 refine ar rfl (qn (sq (sq ?_)))
 refine rg rfl fun K j=>?_
 intro hm
 refine j _ _ (qn ?_)
 revert h;refine ca rfl (fun hc h=>?_) fun hc h=>?_
 ·refine sq (ar rfl (qn (rt (qr ?_))))
  cases h;exact en Tryz.results88
 refine sk (qn (sq (sq (ar rfl (qn (bk ?_))))))
 obtain⟨o0,hJ0,hO0⟩:=Af h
 clear h
 refine AWP.Bw (ι:=Nat×(Unit)×(Unit)) (fun zz=>[(0,.sl 3 (l.map A3)),(3,.int .i64 ((zz.1:Nat):Int))]) (fun zz=>[]) (fun zz=>zz.1≤l.length∧Al (Rk l) zz.1 ((l).drop zz.1) zz.2.1=some o0) (fun zz=>l.length - zz.1) (0,(),()) ⟨Nat.zero_le _,hJ0⟩ cu cu (fun x=>⟨rfl,rfl,rfl⟩) ?_
 clear hJ0
 rintro⟨k0,⟨⟩,⟨⟩⟩ ⟨hk0,hJ0⟩
 dsimp only at hk0 hJ0 ⊢
 refine sq (sq ?_)
 refine rg rfl fun K j=>?_
 intro hm
 refine j _ _ (qn ?_)
 refine AWP.cond (Ak (fun hc=>?_) (fun hc=>?_))
 rotate_left
 ·obtain rfl:=Bf hJ0 (fun hl=>by have:=Ai7 hc;omega)
  have h:=Be hO0;try dsimp only at h
  have hkl:l.length=k0:=by have:=Ai7 hc;omega
  subst hkl
  refine xt (qe (qe (bs (qn (sq (ar rfl (qn (rt ?_))))))))
  cases h;exact en Tryz.results88
 have hlt0:k0<l.length:=by have:=Ai8 hc;omega
 obtain⟨x_2,b0,hx0_,h,hJ0⟩:=Ba hJ0 hlt0
 have hx0:=A2 hx0_
 have hw0:=wk (k:=k0) (by omega)
 unfold Rk at h;try dsimp only at h
 refine sk (qn (sq (bk (sq ?_))))
 refine rg rfl fun K j=>?_
 refine Bn.of (f:=A3) (l:=l) hx0 ?_
 refine nS ?_
 refine j _ _ (qn (sq (sq ?_)))
 refine rg rfl fun K j=>?_
 revert h;refine gf (fun hc h=>?_) fun hc h=>?_
 rotate_left
 ·refine j _ _ (qn ?_)
  refine AWP.cond (Ah ?_)
  refine sq (ar rfl (qn (rt (qr (br (qr (qr ?_)))))))
  obtain rfl:=Aa h
  obtain rfl:=Ae hJ0
  replace h:=Am hO0
  refine br (qr ?_)
  cases h;exact en Tryz.results88
 revert h;refine gf (fun hc h=>?_) fun hc h=>?_
 rotate_left
 ·refine j _ _ (qn ?_)
  refine AWP.cond (Ah ?_)
  refine sq (ar rfl (qn (rt (qr (br (qr (qr ?_)))))))
  obtain rfl:=Aa h
  obtain rfl:=Ae hJ0
  replace h:=Am hO0
  refine br (qr ?_)
  cases h;exact en Tryz.results88
 revert h;refine gf (fun hc h=>?_) fun hc h=>?_
 rotate_left
 ·refine j _ _ (qn ?_)
  refine AWP.cond (Ah ?_)
  refine sq (ar rfl (qn (rt (qr (br (qr (qr ?_)))))))
  obtain rfl:=Aa h
  obtain rfl:=Ae hJ0
  replace h:=Am hO0
  refine br (qr ?_)
  cases h;exact en Tryz.results88
 revert h;refine gf (fun hc h=>?_) fun hc h=>?_
 rotate_left
 ·refine j _ _ (qn ?_)
  refine AWP.cond (Ah ?_)
  refine sq (ar rfl (qn (rt (qr (br (qr (qr ?_)))))))
  obtain rfl:=Aa h
  obtain rfl:=Ae hJ0
  replace h:=Am hO0
  refine br (qr ?_)
  cases h;exact en Tryz.results88
 revert h;refine gf (fun hc h=>?_) fun hc h=>?_
 rotate_left
 ·refine j _ _ (qn ?_)
  refine AWP.cond (Ah ?_)
  refine sq (ar rfl (qn (rt (qr (br (qr (qr ?_)))))))
  obtain rfl:=Aa h
  obtain rfl:=Ae hJ0
  replace h:=Am hO0
  refine br (qr ?_)
  cases h;exact en Tryz.results88
 refine j _ _ (qn ?_)
 revert h;refine ca rfl (fun hc h=>?_) fun hc h=>?_
 ·refine sq (ar rfl (qn (rt (qr (br (qr (qr ?_)))))))
  obtain rfl:=Aa h
  obtain rfl:=Ae hJ0
  replace h:=Am hO0
  refine br (qr ?_)
  cases h;exact en Tryz.results88
 refine sk (qn (sq ?_))
 refine AWP.draw Tryz.mixed (by kernel_rfl) ?_;intro K j
 refine nS ?_
 revert h;refine gt (fun hc h=>?_) fun hc h=>?_
 ·obtain⟨x_3,hx_3,h⟩:=Af h
  refine Bn.of (f:=A3) (l:=l) hx_3 ?_
  refine nS ?_
  refine j _ _ _ (by kernel_rfl) ?_
  refine qn ?_
  revert h;refine ca rfl (fun hc h=>?_) fun hc h=>?_
  ·refine sq (ar rfl (qn (rt (br (qr (qr ?_))))))
   obtain rfl:=Aa h
   obtain rfl:=Ae hJ0
   replace h:=Am hO0
   refine br (qr ?_)
   cases h;exact en Tryz.results88
  refine sk (bn (qn (ar rfl (qn ?_))))
  obtain rfl:=Aa h
  refine⟨(k0+1,(),()),⟨by dsimp only;omega,Ai hJ0⟩,by dsimp only;omega,?_,?_⟩
  ·exact cuw hw0
  exact cuw hw0
 refine j _ _ _ (by kernel_rfl) ?_
 refine qn ?_
 refine AWP.cond (Bi ?_)
 refine sk (bn (qn (ar rfl (qn ?_))))
 obtain rfl:=Aa h
 refine⟨(k0+1,(),()),⟨by dsimp only;omega,Ai hJ0⟩,by dsimp only;omega,?_,?_⟩
 ·exact cuw hw0
 exact cuw hw0
def Qb (l:List Int) (most:Int) (k0:Nat) (x_2:Int) (sv:Unit):Option (Out (Unit) (Bool)):=
 (bif (decide (x_2<1))then some (Out.ret false)else (bif (decide (most<x_2))then some (Out.ret false)else (bif (decide (0<((k0:Nat):Int)))then (Dk l (IntKind.i64.wrap (((k0:Nat):Int) - 1))).bind fun x_3=>(bif (decide (x_2≤x_3))then some (Out.ret false)else some (Out.next ()))else some (Out.next ()))))
def Nz (l:List Int) (most:Int):Option (Bool):=
 (Al (Qb l most) 0 l ()).bind fun o0=>o0.on fun s0=>some true
theorem Sv (l:List Int) (most:Int) {r:Bool} (h:Nz l most=some r):Ad Tryz.prog 185 [.sl 1 (l.map A5),.int .i64 most] (·= .bool r):=by
 refine Ad.nle (Ad.intro Tryz.func185 rfl rfl (by show _≤41;simp) ?_)
 unfold Nz at h
 refine nS (sq ?_)
 refine ar rfl (qn (sq (sq ?_)))
 refine ar rfl (qn (bk ?_))
 obtain⟨o0,hJ0,hO0⟩:=Af h
 clear h
 refine AWP.Bw (ι:=Nat×(Unit)×(Unit)) (fun zz=>[(0,.sl 1 (l.map A5)),(1,.int .i64 most),(5,.int .i64 ((zz.1:Nat):Int))]) (fun zz=>[]) (fun zz=>zz.1≤l.length∧Al (Qb l most) zz.1 ((l).drop zz.1) zz.2.1=some o0) (fun zz=>l.length - zz.1) (0,(),()) ⟨Nat.zero_le _,hJ0⟩ cu cu (fun x=>⟨rfl,rfl,rfl⟩) ?_
 clear hJ0
 rintro⟨k0,⟨⟩,⟨⟩⟩ ⟨hk0,hJ0⟩
 dsimp only at hk0 hJ0 ⊢
 refine sq (sq ?_)
 refine rg rfl fun K j=>?_
 intro hm
 refine j _ _ (qn ?_)
 refine AWP.cond (Ak (fun hc=>?_) (fun hc=>?_))
 rotate_left
 ·obtain rfl:=Bf hJ0 (fun hl=>by have:=Ai7 hc;omega)
  have h:=Be hO0;try dsimp only at h
  have hkl:l.length=k0:=by have:=Ai7 hc;omega
  subst hkl
  refine xt (qe (qe (bs (qn (sq (ar rfl (qn (rt ?_))))))))
  cases h;exact en Tryz.results185
 have hlt0:k0<l.length:=by have:=Ai8 hc;omega
 obtain⟨x_2,b0,hx0_,h,hJ0⟩:=Ba hJ0 hlt0
 have hx0:=A2 hx0_
 have hw0:=wk (k:=k0) (by omega)
 unfold Qb at h;try dsimp only at h
 refine sk (qn (sq (bk (sq ?_))))
 refine AWP.draw Tryz.mixed (by kernel_rfl) ?_;intro K j
 refine nS ?_
 refine Bn.of (f:=A5) (l:=l) hx0 ?_
 refine nS ?_
 revert h;refine gf (fun hc h=>?_) fun hc h=>?_
 rotate_left
 ·refine j _ _ _ (by kernel_rfl) ?_
  refine qn ?_
  refine AWP.cond (Ah ?_)
  refine sq (ar rfl (qn (rt (br (qr (qr ?_))))))
  obtain rfl:=Aa h
  obtain rfl:=Ae hJ0
  replace h:=Am hO0
  refine br (qr ?_)
  cases h;exact en Tryz.results185
 refine Bn.of (f:=A5) (l:=l) hx0 ?_
 refine nS ?_
 revert h;refine gf (fun hc h=>?_) fun hc h=>?_
 rotate_left
 ·refine j _ _ _ (by kernel_rfl) ?_
  refine qn ?_
  refine AWP.cond (Ah ?_)
  refine sq (ar rfl (qn (rt (br (qr (qr ?_))))))
  obtain rfl:=Aa h
  obtain rfl:=Ae hJ0
  replace h:=Am hO0
  refine br (qr ?_)
  cases h;exact en Tryz.results185
 revert h;refine gt (fun hc h=>?_) fun hc h=>?_
 ·refine Bn.of (f:=A5) (l:=l) hx0 ?_
  refine nS ?_
  obtain⟨x_3,hx_3,h⟩:=Af h
  refine Bn.of (f:=A5) (l:=l) hx_3 ?_
  refine nS ?_
  refine j _ _ _ (by kernel_rfl) ?_
  refine qn ?_
  revert h;refine ca rfl (fun hc h=>?_) fun hc h=>?_
  ·refine sq (ar rfl (qn (rt (br (qr (qr ?_))))))
   obtain rfl:=Aa h
   obtain rfl:=Ae hJ0
   replace h:=Am hO0
   refine br (qr ?_)
   cases h;exact en Tryz.results185
  refine sk (bn (qn (ar rfl (qn ?_))))
  obtain rfl:=Aa h
  refine⟨(k0+1,(),()),⟨by dsimp only;omega,Ai hJ0⟩,by dsimp only;omega,?_,?_⟩
  ·exact cuw hw0
  exact cuw hw0
 refine j _ _ _ (by kernel_rfl) ?_
 refine qn ?_
 refine AWP.cond (Bi ?_)
 refine sk (bn (qn (ar rfl (qn ?_))))
 obtain rfl:=Aa h
 refine⟨(k0+1,(),()),⟨by dsimp only;omega,Ai hJ0⟩,by dsimp only;omega,?_,?_⟩
 ·exact cuw hw0
 exact cuw hw0
def F6 (l:List Bd) (x_2:Bd) (k2:Nat) (_x:Unit) (sv:Unit):Option (Out (Unit) (Out (Unit) (Int))):=
 (Dk l ((k2:Nat):Int)).bind fun x_4=>(bif (decide (x_4.ID=x_2.ID))then some (Out.ret (Out.ret 7))else some (Out.next ()))
def Hm (l:List Bd) (k0:Nat) (x_2:Bd) (sv:Unit):Option (Out (Unit) (Int)):=
 (bif (decide (x_2.ID<1))then some (Out.ret 2)else (bif (decide (9999<x_2.ID))then some (Out.ret 2)else (bif (decide (x_2.Limit<4))then some (Out.ret 2)else (bif (decide (100000<x_2.Limit))then some (Out.ret 2)else (bif (decide (x_2.Load<0))then some (Out.ret 2)else (bif (decide (100000<x_2.Load))then some (Out.ret 2)else (bif (decide (x_2.Controlled<(-1)))then some (Out.ret 2)else (bif (decide (20000000<x_2.Controlled))then some (Out.ret 2)else (J5 (F6 l x_2) k0 ()).bind fun o2=>o2.on fun s2=>(bif (decide (((x_2.Zones.length:Nat):Int)=0))then some (Out.ret 1)else (Nz x_2.Zones 32).bind fun y5=>(bif (!y5)then some (Out.ret 1)else (Nz x_2.Lifts 9999).bind fun y6=>(bif (!y6)then some (Out.ret 1)else some (Out.next ()))))))))))))
def Na (l:List Bd):Option (Int):=
 (bif (decide (32<((l.length:Nat):Int)))then some 4 else(Al (Hm l) 0 l ()).bind fun o0=>o0.on fun s0=>some 0)
theorem cC (l:List Bd) {r:Int} (h:Na l=some r):Ad Tryz.prog 89 [.sl 6 (l.map A9)] (·= .int .i64 r):=by
 refine Ad.nle (Ad.intro Tryz.func89 rfl rfl (by show _≤86;simp) ?_)
 unfold Na at h
 refine nS (sq ?_)
 refine ar rfl (qn (sq (sq ?_)))
 refine rg rfl fun K j=>?_
 intro hm
 refine j _ _ (qn ?_)
 revert h;refine ca rfl (fun hc h=>?_) fun hc h=>?_
 ·refine sq (ar rfl (qn (rt (qr ?_))))
  cases h;exact en Tryz.results89
 refine sk (qn (sq (sq (ar rfl (qn (bk ?_))))))
 obtain⟨o0,hJ0,hO0⟩:=Af h
 clear h
 refine AWP.Bw (ι:=Nat×(Unit)×(Unit)) (fun zz=>[(0,.sl 6 (l.map A9)),(3,.int .i64 ((zz.1:Nat):Int))]) (fun zz=>[]) (fun zz=>zz.1≤l.length∧Al (Hm l) zz.1 ((l).drop zz.1) zz.2.1=some o0) (fun zz=>l.length - zz.1) (0,(),()) ⟨Nat.zero_le _,hJ0⟩ cu cu (fun x=>⟨rfl,rfl,rfl⟩) ?_
 clear hJ0
 rintro⟨k0,⟨⟩,⟨⟩⟩ ⟨hk0,hJ0⟩
 dsimp only at hk0 hJ0 ⊢
 refine sq (sq ?_)
 refine rg rfl fun K j=>?_
 intro hm
 refine j _ _ (qn ?_)
 refine AWP.cond (Ak (fun hc=>?_) (fun hc=>?_))
 rotate_left
 ·obtain rfl:=Bf hJ0 (fun hl=>by have:=Ai7 hc;omega)
  have h:=Be hO0;try dsimp only at h
  have hkl:l.length=k0:=by have:=Ai7 hc;omega
  subst hkl
  refine xt (qe (qe (bs (qn (sq (ar rfl (qn (rt ?_))))))))
  cases h;exact en Tryz.results89
 have hlt0:k0<l.length:=by have:=Ai8 hc;omega
 obtain⟨x_2,b0,hx0_,h,hJ0⟩:=Ba hJ0 hlt0
 have hx0:=A2 hx0_
 have hw0:=wk (k:=k0) (by omega)
 unfold Hm at h;try dsimp only at h
 refine sk (qn (sq (bk (sq ?_))))
 refine rg rfl fun K j=>?_
 refine Bn.of (f:=A9) (l:=l) hx0 ?_
 refine nS ?_
 refine j _ _ (qn (sq (sq ?_)))
 refine rg rfl fun K j=>?_
 revert h;refine gf (fun hc h=>?_) fun hc h=>?_
 rotate_left
 ·refine j _ _ (qn ?_)
  refine AWP.cond (Ah ?_)
  refine sq (ar rfl (qn (rt (qr (br (qr (qr ?_)))))))
  obtain rfl:=Aa h
  obtain rfl:=Ae hJ0
  replace h:=Am hO0
  refine br (qr ?_)
  cases h;exact en Tryz.results89
 revert h;refine gf (fun hc h=>?_) fun hc h=>?_
 rotate_left
 ·refine j _ _ (qn ?_)
  refine AWP.cond (Ah ?_)
  refine sq (ar rfl (qn (rt (qr (br (qr (qr ?_)))))))
  obtain rfl:=Aa h
  obtain rfl:=Ae hJ0
  replace h:=Am hO0
  refine br (qr ?_)
  cases h;exact en Tryz.results89
 revert h;refine gf (fun hc h=>?_) fun hc h=>?_
 rotate_left
 ·refine j _ _ (qn ?_)
  refine AWP.cond (Ah ?_)
  refine sq (ar rfl (qn (rt (qr (br (qr (qr ?_)))))))
  obtain rfl:=Aa h
  obtain rfl:=Ae hJ0
  replace h:=Am hO0
  refine br (qr ?_)
  cases h;exact en Tryz.results89
 revert h;refine gf (fun hc h=>?_) fun hc h=>?_
 rotate_left
 ·refine j _ _ (qn ?_)
  refine AWP.cond (Ah ?_)
  refine sq (ar rfl (qn (rt (qr (br (qr (qr ?_)))))))
  obtain rfl:=Aa h
  obtain rfl:=Ae hJ0
  replace h:=Am hO0
  refine br (qr ?_)
  cases h;exact en Tryz.results89
 revert h;refine gf (fun hc h=>?_) fun hc h=>?_
 rotate_left
 ·refine j _ _ (qn ?_)
  refine AWP.cond (Ah ?_)
  refine sq (ar rfl (qn (rt (qr (br (qr (qr ?_)))))))
  obtain rfl:=Aa h
  obtain rfl:=Ae hJ0
  replace h:=Am hO0
  refine br (qr ?_)
  cases h;exact en Tryz.results89
 revert h;refine gf (fun hc h=>?_) fun hc h=>?_
 rotate_left
 ·refine j _ _ (qn ?_)
  refine AWP.cond (Ah ?_)
  refine sq (ar rfl (qn (rt (qr (br (qr (qr ?_)))))))
  obtain rfl:=Aa h
  obtain rfl:=Ae hJ0
  replace h:=Am hO0
  refine br (qr ?_)
  cases h;exact en Tryz.results89
 revert h;refine gf (fun hc h=>?_) fun hc h=>?_
 rotate_left
 ·refine j _ _ (qn ?_)
  refine AWP.cond (Ah ?_)
  refine sq (ar rfl (qn (rt (qr (br (qr (qr ?_)))))))
  obtain rfl:=Aa h
  obtain rfl:=Ae hJ0
  replace h:=Am hO0
  refine br (qr ?_)
  cases h;exact en Tryz.results89
 refine j _ _ (qn ?_)
 revert h;refine ca rfl (fun hc h=>?_) fun hc h=>?_
 ·refine sq (ar rfl (qn (rt (qr (br (qr (qr ?_)))))))
  obtain rfl:=Aa h
  obtain rfl:=Ae hJ0
  replace h:=Am hO0
  refine br (qr ?_)
  cases h;exact en Tryz.results89
 refine sk (qn (sq (sq (ar rfl (qn (bk ?_))))))
 obtain⟨o2,hJ2,hO2⟩:=Af h
 clear h
 obtain⟨hn2,hJ2⟩:=S1 hJ2
 refine AWP.Bw (ι:=Nat×(Unit)×(Unit)) (fun zz=>[(0,.sl 6 (l.map A9)),(3,.int .i64 ((k0:Nat):Int)),(4,.ptr 0 0),(5,.int .i64 ((zz.1:Nat):Int))]) (fun zz=>[.box [.int .i64 x_2.ID,.sl 1 (x_2.Zones.map A5),.sl 1 (x_2.Lifts.map A5),.int .i64 x_2.Limit,.int .i64 x_2.Load,.int .i64 x_2.Controlled]]) (fun zz=>zz.1≤k0∧Al (F6 l x_2) zz.1 ((List.replicate k0 ()).drop zz.1) zz.2.1=some o2) (fun zz=>k0 - zz.1) (0,(),()) ⟨Nat.zero_le _,hJ2⟩ cu cu (fun x=>⟨rfl,rfl,rfl⟩) ?_
 clear hJ2
 rintro⟨k2,⟨⟩,⟨⟩⟩ ⟨hk2,hJ2⟩
 dsimp only at hk2 hJ2 ⊢
 refine sq (sq (ar rfl (qn ?_)))
 refine AWP.cond (Ak (fun hc=>?_) (fun hc=>?_))
 ·have hlt2:k2<k0:=by have:=Ai8 hc;omega
  obtain⟨_,b2,_,h,hJ2⟩:=Ba hJ2 (by rw[List.length_replicate];exact hlt2)
  have hw2:=wk (k:=k2) (by omega)
  unfold F6 at h;try dsimp only at h
  refine sk (qn (sq (bk (sq ?_))))
  refine AWP.draw Tryz.mixed (by kernel_rfl) ?_;intro K j
  refine nS ?_
  obtain⟨x_4,hx_4,h⟩:=Af h
  refine Bn.of (f:=A9) (l:=l) hx_4 ?_
  refine nS ?_
  refine j _ _ _ (by kernel_rfl) ?_
  refine qn ?_
  revert h;refine ca rfl (fun hc h=>?_) fun hc h=>?_
  ·refine sq (ar rfl (qn (rt (br (qr (qr ?_))))))
   obtain rfl:=Aa h
   obtain rfl:=Ae hJ2
   replace h:=Am hO2
   refine br (qr (br (qr (qr ?_))))
   obtain rfl:=Aa h
   obtain rfl:=Ae hJ0
   replace h:=Am hO0
   refine br (qr ?_)
   cases h;exact en Tryz.results89
  refine sk (bn (qn (ar rfl (qn ?_))))
  obtain rfl:=Aa h
  refine⟨(k2+1,(),()),⟨by dsimp only;omega,Ai hJ2⟩,by dsimp only;omega,?_,?_⟩
  ·exact cuw hw2
  exact cuw hw2
 obtain rfl:=Bf hJ2 (fun hl=>by rw[List.length_replicate]at hl;have:=Ai7 hc;omega)
 have h:=Be hO2;try dsimp only at h
 have hkl:k0=k2:=by have:=Ai7 hc;omega
 subst hkl
 refine xt (qe (qe (bs (qn (sq ?_)))))
 refine rg rfl fun K j=>?_
 intro hm
 revert h;refine gf (fun hc h=>?_) fun hc h=>?_
 rotate_left
 ·refine j _ _ (qn ?_)
  refine AWP.cond (Ah ?_)
  refine sq (ar rfl (qn (rt (br (qr (qr ?_))))))
  obtain rfl:=Aa h
  obtain rfl:=Ae hJ0
  replace h:=Am hO0
  refine br (qr ?_)
  cases h;exact en Tryz.results89
 obtain⟨y5,hy5,h⟩:=Af h
 refine An.pure Tryz.call185 (Sv x_2.Zones 32 hy5) rfl fun _ hr=>?_
 subst hr
 refine nS ?_
 revert h;refine gf (fun hc h=>?_) fun hc h=>?_
 ·obtain⟨y6,hy6,h⟩:=Af h
  refine An.pure Tryz.call185 (Sv x_2.Lifts 9999 hy6) rfl fun _ hr=>?_
  subst hr
  refine nS ?_
  refine j _ _ (qn ?_)
  revert h;refine ca rfl (fun hc h=>?_) fun hc h=>?_
  ·refine sq (ar rfl (qn (rt (br (qr (qr ?_))))))
   obtain rfl:=Aa h
   obtain rfl:=Ae hJ0
   replace h:=Am hO0
   refine br (qr ?_)
   cases h;exact en Tryz.results89
  refine sk (bn (qn (ar rfl (qn ?_))))
  obtain rfl:=Aa h
  refine⟨(k0+1,(),()),⟨by dsimp only;omega,Ai hJ0⟩,by dsimp only;omega,?_,?_⟩
  ·exact cuw hw0
  exact cuw hw0
 refine j _ _ (qn ?_)
 refine AWP.cond (Ah ?_)
 refine sq (ar rfl (qn (rt (br (qr (qr ?_))))))
 obtain rfl:=Aa h
 obtain rfl:=Ae hJ0
 replace h:=Am hO0
 refine br (qr ?_)
 cases h;exact en Tryz.results89
def Hn (l:List Int) (k0:Nat) (x_2:Int) (sv:Unit):Option (Out (Unit) (Bool)):=
 (bif (decide (x_2<1))then some (Out.ret false)else (bif (decide (32<x_2))then some (Out.ret false)else (bif (decide (0<((k0:Nat):Int)))then (Dk l (IntKind.i64.wrap (((k0:Nat):Int) - 1))).bind fun x_3=>(bif (decide (x_2≤x_3))then some (Out.ret false)else some (Out.next ()))else some (Out.next ()))))
def Kn (l:List Int):Option (Bool):=
 (Al (Hn l) 0 l ()).bind fun o0=>o0.on fun s0=>some (decide (0<((l.length:Nat):Int)))
theorem cD (l:List Int) {r:Bool} (h:Kn l=some r):Ad Tryz.prog 186 [.sl 1 (l.map A5)] (·= .bool r):=by
 refine Ad.nle (Ad.intro Tryz.func186 rfl rfl (by show _≤41;simp) ?_)
 unfold Kn at h
 refine nS (sq ?_)
 refine ar rfl (qn (sq (sq ?_)))
 refine ar rfl (qn (bk ?_))
 obtain⟨o0,hJ0,hO0⟩:=Af h
 clear h
 refine AWP.Bw (ι:=Nat×(Unit)×(Unit)) (fun zz=>[(0,.sl 1 (l.map A5)),(3,.int .i64 ((zz.1:Nat):Int))]) (fun zz=>[]) (fun zz=>zz.1≤l.length∧Al (Hn l) zz.1 ((l).drop zz.1) zz.2.1=some o0) (fun zz=>l.length - zz.1) (0,(),()) ⟨Nat.zero_le _,hJ0⟩ cu cu (fun x=>⟨rfl,rfl,rfl⟩) ?_
 clear hJ0
 rintro⟨k0,⟨⟩,⟨⟩⟩ ⟨hk0,hJ0⟩
 dsimp only at hk0 hJ0 ⊢
 refine sq (sq ?_)
 refine rg rfl fun K j=>?_
 intro hm
 refine j _ _ (qn ?_)
 refine AWP.cond (Ak (fun hc=>?_) (fun hc=>?_))
 rotate_left
 ·obtain rfl:=Bf hJ0 (fun hl=>by have:=Ai7 hc;omega)
  have h:=Be hO0;try dsimp only at h
  have hkl:l.length=k0:=by have:=Ai7 hc;omega
  subst hkl
  refine xt (qe (qe (bs (qn (sq ?_)))))
  refine rg rfl fun K j=>?_
  intro hm
  refine j _ _ (qn (rt ?_))
  cases h;exact en Tryz.results186
 have hlt0:k0<l.length:=by have:=Ai8 hc;omega
 obtain⟨x_2,b0,hx0_,h,hJ0⟩:=Ba hJ0 hlt0
 have hx0:=A2 hx0_
 have hw0:=wk (k:=k0) (by omega)
 unfold Hn at h;try dsimp only at h
 refine sk (qn (sq (bk (sq ?_))))
 refine AWP.draw Tryz.mixed (by kernel_rfl) ?_;intro K j
 refine nS ?_
 refine Bn.of (f:=A5) (l:=l) hx0 ?_
 refine nS ?_
 revert h;refine gf (fun hc h=>?_) fun hc h=>?_
 rotate_left
 ·refine j _ _ _ (by kernel_rfl) ?_
  refine qn ?_
  refine AWP.cond (Ah ?_)
  refine sq (ar rfl (qn (rt (br (qr (qr ?_))))))
  obtain rfl:=Aa h
  obtain rfl:=Ae hJ0
  replace h:=Am hO0
  refine br (qr ?_)
  cases h;exact en Tryz.results186
 refine Bn.of (f:=A5) (l:=l) hx0 ?_
 refine nS ?_
 revert h;refine gf (fun hc h=>?_) fun hc h=>?_
 rotate_left
 ·refine j _ _ _ (by kernel_rfl) ?_
  refine qn ?_
  refine AWP.cond (Ah ?_)
  refine sq (ar rfl (qn (rt (br (qr (qr ?_))))))
  obtain rfl:=Aa h
  obtain rfl:=Ae hJ0
  replace h:=Am hO0
  refine br (qr ?_)
  cases h;exact en Tryz.results186
 revert h;refine gt (fun hc h=>?_) fun hc h=>?_
 ·refine Bn.of (f:=A5) (l:=l) hx0 ?_
  refine nS ?_
  obtain⟨x_3,hx_3,h⟩:=Af h
  refine Bn.of (f:=A5) (l:=l) hx_3 ?_
  refine nS ?_
  refine j _ _ _ (by kernel_rfl) ?_
  refine qn ?_
  revert h;refine ca rfl (fun hc h=>?_) fun hc h=>?_
  ·refine sq (ar rfl (qn (rt (br (qr (qr ?_))))))
   obtain rfl:=Aa h
   obtain rfl:=Ae hJ0
   replace h:=Am hO0
   refine br (qr ?_)
   cases h;exact en Tryz.results186
  refine sk (bn (qn (ar rfl (qn ?_))))
  obtain rfl:=Aa h
  refine⟨(k0+1,(),()),⟨by dsimp only;omega,Ai hJ0⟩,by dsimp only;omega,?_,?_⟩
  ·exact cuw hw0
  exact cuw hw0
 refine j _ _ _ (by kernel_rfl) ?_
 refine qn ?_
 refine AWP.cond (Bi ?_)
 refine sk (bn (qn (ar rfl (qn ?_))))
 obtain rfl:=Aa h
 refine⟨(k0+1,(),()),⟨by dsimp only;omega,Ai hJ0⟩,by dsimp only;omega,?_,?_⟩
 ·exact cuw hw0
 exact cuw hw0
def E7 (l:List Bl) (k0:Nat) (x_2:Bl) (sv:Unit):Option (Out (Unit) (Int)):=
 (bif (decide (x_2.Version<1))then some (Out.ret 2)else (bif (decide (1000000<x_2.Version))then some (Out.ret 2)else (bif (decide (x_2.Span.From<0))then some (Out.ret 2)else (bif (decide (x_2.Span.To≤x_2.Span.From))then some (Out.ret 2)else (bif (decide (20000000<x_2.Span.To))then some (Out.ret 2)else (bif (decide (x_2.Low<0))then some (Out.ret 2)else (bif (decide (x_2.High≤x_2.Low))then some (Out.ret 2)else (bif (decide (6000<x_2.High))then some (Out.ret 2)else (bif (decide (x_2.Level<1))then some (Out.ret 2)else (bif (decide (5<x_2.Level))then some (Out.ret 2)else (Kn x_2.Zones).bind fun y3=>(bif (!y3)then some (Out.ret 1)else (bif (decide (0<((k0:Nat):Int)))then (Dk l (IntKind.i64.wrap (((k0:Nat):Int) - 1))).bind fun x_4=>(bif (decide (x_2.Version<x_4.Version))then some (Out.ret 11)else some (Out.next ()))else some (Out.next ())))))))))))))
def Ic (l:List Bl):Option (Int):=
 (bif (decide (64<((l.length:Nat):Int)))then some 4 else(Al (E7 l) 0 l ()).bind fun o0=>o0.on fun s0=>some 0)
theorem cE (l:List Bl) {r:Int} (h:Ic l=some r):Ad Tryz.prog 90 [.sl 7 (l.map Aw)] (·= .int .i64 r):=by
 refine Ad.nle (Ad.intro Tryz.func90 rfl rfl (by show _≤91;simp) ?_)
 unfold Ic at h
 refine nS (sq ?_)
 refine ar rfl (qn (sq (sq ?_)))
 refine rg rfl fun K j=>?_
 intro hm
 refine j _ _ (qn ?_)
 revert h;refine ca rfl (fun hc h=>?_) fun hc h=>?_
 ·refine sq (ar rfl (qn (rt (qr ?_))))
  cases h;exact en Tryz.results90
 refine sk (qn (sq (sq (ar rfl (qn (bk ?_))))))
 obtain⟨o0,hJ0,hO0⟩:=Af h
 clear h
 refine AWP.Bw (ι:=Nat×(Unit)×(Unit)) (fun zz=>[(0,.sl 7 (l.map Aw)),(3,.int .i64 ((zz.1:Nat):Int))]) (fun zz=>[]) (fun zz=>zz.1≤l.length∧Al (E7 l) zz.1 ((l).drop zz.1) zz.2.1=some o0) (fun zz=>l.length - zz.1) (0,(),()) ⟨Nat.zero_le _,hJ0⟩ cu cu (fun x=>⟨rfl,rfl,rfl⟩) ?_
 clear hJ0
 rintro⟨k0,⟨⟩,⟨⟩⟩ ⟨hk0,hJ0⟩
 dsimp only at hk0 hJ0 ⊢
 refine sq (sq ?_)
 refine rg rfl fun K j=>?_
 intro hm
 refine j _ _ (qn ?_)
 refine AWP.cond (Ak (fun hc=>?_) (fun hc=>?_))
 rotate_left
 ·obtain rfl:=Bf hJ0 (fun hl=>by have:=Ai7 hc;omega)
  have h:=Be hO0;try dsimp only at h
  have hkl:l.length=k0:=by have:=Ai7 hc;omega
  subst hkl
  refine xt (qe (qe (bs (qn (sq (ar rfl (qn (rt ?_))))))))
  cases h;exact en Tryz.results90
 have hlt0:k0<l.length:=by have:=Ai8 hc;omega
 obtain⟨x_2,b0,hx0_,h,hJ0⟩:=Ba hJ0 hlt0
 have hx0:=A2 hx0_
 have hw0:=wk (k:=k0) (by omega)
 unfold E7 at h;try dsimp only at h
 refine sk (qn (sq (bk (sq ?_))))
 refine rg rfl fun K j=>?_
 refine Bn.of (f:=Aw) (l:=l) hx0 ?_
 refine nS ?_
 refine j _ _ (qn (sq (sq ?_)))
 refine rg rfl fun K j=>?_
 revert h;refine gf (fun hc h=>?_) fun hc h=>?_
 rotate_left
 ·refine j _ _ (qn ?_)
  refine AWP.cond (Ah ?_)
  refine sq (ar rfl (qn (rt (qr (br (qr (qr ?_)))))))
  obtain rfl:=Aa h
  obtain rfl:=Ae hJ0
  replace h:=Am hO0
  refine br (qr ?_)
  cases h;exact en Tryz.results90
 revert h;refine gf (fun hc h=>?_) fun hc h=>?_
 rotate_left
 ·refine j _ _ (qn ?_)
  refine AWP.cond (Ah ?_)
  refine sq (ar rfl (qn (rt (qr (br (qr (qr ?_)))))))
  obtain rfl:=Aa h
  obtain rfl:=Ae hJ0
  replace h:=Am hO0
  refine br (qr ?_)
  cases h;exact en Tryz.results90
 revert h;refine gf (fun hc h=>?_) fun hc h=>?_
 rotate_left
 ·refine j _ _ (qn ?_)
  refine AWP.cond (Ah ?_)
  refine sq (ar rfl (qn (rt (qr (br (qr (qr ?_)))))))
  obtain rfl:=Aa h
  obtain rfl:=Ae hJ0
  replace h:=Am hO0
  refine br (qr ?_)
  cases h;exact en Tryz.results90
 revert h;refine gf (fun hc h=>?_) fun hc h=>?_
 rotate_left
 ·refine j _ _ (qn ?_)
  refine AWP.cond (Ah ?_)
  refine sq (ar rfl (qn (rt (qr (br (qr (qr ?_)))))))
  obtain rfl:=Aa h
  obtain rfl:=Ae hJ0
  replace h:=Am hO0
  refine br (qr ?_)
  cases h;exact en Tryz.results90
 revert h;refine gf (fun hc h=>?_) fun hc h=>?_
 rotate_left
 ·refine j _ _ (qn ?_)
  refine AWP.cond (Ah ?_)
  refine sq (ar rfl (qn (rt (qr (br (qr (qr ?_)))))))
  obtain rfl:=Aa h
  obtain rfl:=Ae hJ0
  replace h:=Am hO0
  refine br (qr ?_)
  cases h;exact en Tryz.results90
 revert h;refine gf (fun hc h=>?_) fun hc h=>?_
 rotate_left
 ·refine j _ _ (qn ?_)
  refine AWP.cond (Ah ?_)
  refine sq (ar rfl (qn (rt (qr (br (qr (qr ?_)))))))
  obtain rfl:=Aa h
  obtain rfl:=Ae hJ0
  replace h:=Am hO0
  refine br (qr ?_)
  cases h;exact en Tryz.results90
 revert h;refine gf (fun hc h=>?_) fun hc h=>?_
 rotate_left
 ·refine j _ _ (qn ?_)
  refine AWP.cond (Ah ?_)
  refine sq (ar rfl (qn (rt (qr (br (qr (qr ?_)))))))
  obtain rfl:=Aa h
  obtain rfl:=Ae hJ0
  replace h:=Am hO0
  refine br (qr ?_)
  cases h;exact en Tryz.results90
 revert h;refine gf (fun hc h=>?_) fun hc h=>?_
 rotate_left
 ·refine j _ _ (qn ?_)
  refine AWP.cond (Ah ?_)
  refine sq (ar rfl (qn (rt (qr (br (qr (qr ?_)))))))
  obtain rfl:=Aa h
  obtain rfl:=Ae hJ0
  replace h:=Am hO0
  refine br (qr ?_)
  cases h;exact en Tryz.results90
 revert h;refine gf (fun hc h=>?_) fun hc h=>?_
 rotate_left
 ·refine j _ _ (qn ?_)
  refine AWP.cond (Ah ?_)
  refine sq (ar rfl (qn (rt (qr (br (qr (qr ?_)))))))
  obtain rfl:=Aa h
  obtain rfl:=Ae hJ0
  replace h:=Am hO0
  refine br (qr ?_)
  cases h;exact en Tryz.results90
 refine j _ _ (qn ?_)
 revert h;refine ca rfl (fun hc h=>?_) fun hc h=>?_
 ·refine sq (ar rfl (qn (rt (qr (br (qr (qr ?_)))))))
  obtain rfl:=Aa h
  obtain rfl:=Ae hJ0
  replace h:=Am hO0
  refine br (qr ?_)
  cases h;exact en Tryz.results90
 refine sk (qn (sq (sq ?_)))
 refine rg rfl fun K j=>?_
 obtain⟨y3,hy3,h⟩:=Af h
 refine An.pure Tryz.call186 (cD x_2.Zones hy3) rfl fun _ hr=>?_
 subst hr
 refine nS ?_
 refine j _ _ (qn ?_)
 revert h;refine ca rfl (fun hc h=>?_) fun hc h=>?_
 ·refine sq (ar rfl (qn (rt (qr (br (qr (qr ?_)))))))
  obtain rfl:=Aa h
  obtain rfl:=Ae hJ0
  replace h:=Am hO0
  refine br (qr ?_)
  cases h;exact en Tryz.results90
 refine sk (qn (sq ?_))
 refine AWP.draw Tryz.mixed (by kernel_rfl) ?_;intro K j
 refine nS ?_
 revert h;refine gt (fun hc h=>?_) fun hc h=>?_
 ·obtain⟨x_4,hx_4,h⟩:=Af h
  refine Bn.of (f:=Aw) (l:=l) hx_4 ?_
  refine nS ?_
  refine j _ _ _ (by kernel_rfl) ?_
  refine qn ?_
  revert h;refine ca rfl (fun hc h=>?_) fun hc h=>?_
  ·refine sq (ar rfl (qn (rt (br (qr (qr ?_))))))
   obtain rfl:=Aa h
   obtain rfl:=Ae hJ0
   replace h:=Am hO0
   refine br (qr ?_)
   cases h;exact en Tryz.results90
  refine sk (bn (qn (ar rfl (qn ?_))))
  obtain rfl:=Aa h
  refine⟨(k0+1,(),()),⟨by dsimp only;omega,Ai hJ0⟩,by dsimp only;omega,?_,?_⟩
  ·exact cuw hw0
  exact cuw hw0
 refine j _ _ _ (by kernel_rfl) ?_
 refine qn ?_
 refine AWP.cond (Bi ?_)
 refine sk (bn (qn (ar rfl (qn ?_))))
 obtain rfl:=Aa h
 refine⟨(k0+1,(),()),⟨by dsimp only;omega,Ai hJ0⟩,by dsimp only;omega,?_,?_⟩
 ·exact cuw hw0
 exact cuw hw0
def L7 (n_:Int) (lo:Int) (hi:Int):Option (Bool):=
 (bif (decide (lo≤n_))then some (decide (n_≤hi))else some false)
theorem Ji (n_:Int) (lo:Int) (hi:Int) {r:Bool} (h:L7 n_ lo hi=some r):Ad Tryz.prog 187 [.int .i64 n_,.int .i64 lo,.int .i64 hi] (·= .bool r):=by
 refine Ad.nle (Ad.intro Tryz.func187 rfl rfl (by show _≤15;simp) ?_)
 unfold L7 at h
 refine nS (sq ?_)
 refine ar rfl (qn (sq ?_))
 refine rg rfl fun K j=>?_
 revert h;refine gt (fun hc h=>?_) fun hc h=>?_
 ·refine j _ _ (qn (rt ?_))
  cases h;exact en Tryz.results187
 refine j _ _ (qn (rt ?_))
 cases h;exact en Tryz.results187
def Ny (id_:Int) (k0:Nat) (x_2:Bg) (sv:Unit):Option (Out (Unit) (Int)):=
 (bif (decide (x_2.ID=id_))then some (Out.ret ((k0:Nat):Int))else some (Out.next ()))
def M9 (l:List Bg) (id_:Int):Option (Int):=
 (Al (Ny id_) 0 l ()).bind fun o0=>o0.on fun s0=>some (-1)
theorem cA (l:List Bg) (id_:Int) {r:Int} (h:M9 l id_=some r):Ad Tryz.prog 188 [.sl 7 (l.map Ap),.int .i64 id_] (·= .int .i64 r):=by
 refine Ad.nle (Ad.intro Tryz.func188 rfl rfl (by show _≤20;simp) ?_)
 unfold M9 at h
 refine nS (sq ?_)
 refine ar rfl (qn (sq (sq ?_)))
 refine ar rfl (qn (bk ?_))
 obtain⟨o0,hJ0,hO0⟩:=Af h
 clear h
 refine AWP.Bw (ι:=Nat×(Unit)×(Unit)) (fun zz=>[(0,.sl 7 (l.map Ap)),(1,.int .i64 id_),(5,.int .i64 ((zz.1:Nat):Int))]) (fun zz=>[]) (fun zz=>zz.1≤l.length∧Al (Ny id_) zz.1 ((l).drop zz.1) zz.2.1=some o0) (fun zz=>l.length - zz.1) (0,(),()) ⟨Nat.zero_le _,hJ0⟩ cu cu (fun x=>⟨rfl,rfl,rfl⟩) ?_
 clear hJ0
 rintro⟨k0,⟨⟩,⟨⟩⟩ ⟨hk0,hJ0⟩
 dsimp only at hk0 hJ0 ⊢
 refine sq (sq ?_)
 refine rg rfl fun K j=>?_
 intro hm
 refine j _ _ (qn ?_)
 refine AWP.cond (Ak (fun hc=>?_) (fun hc=>?_))
 rotate_left
 ·obtain rfl:=Bf hJ0 (fun hl=>by have:=Ai7 hc;omega)
  have h:=Be hO0;try dsimp only at h
  have hkl:l.length=k0:=by have:=Ai7 hc;omega
  subst hkl
  refine xt (qe (qe (bs (qn (sq (ar rfl (qn (rt ?_))))))))
  cases h;exact en Tryz.results188
 have hlt0:k0<l.length:=by have:=Ai8 hc;omega
 obtain⟨x_2,b0,hx0_,h,hJ0⟩:=Ba hJ0 hlt0
 have hx0:=A2 hx0_
 have hw0:=wk (k:=k0) (by omega)
 unfold Ny at h;try dsimp only at h
 refine sk (qn (sq (bk (sq ?_))))
 refine rg rfl fun K j=>?_
 refine Bn.of (f:=Ap) (l:=l) hx0 ?_
 refine nS ?_
 refine j _ _ (qn ?_)
 revert h;refine ca rfl (fun hc h=>?_) fun hc h=>?_
 ·refine sq (ar rfl (qn (rt (br (qr (qr ?_))))))
  obtain rfl:=Aa h
  obtain rfl:=Ae hJ0
  replace h:=Am hO0
  refine br (qr ?_)
  cases h;exact en Tryz.results188
 refine sk (bn (qn (ar rfl (qn ?_))))
 obtain rfl:=Aa h
 refine⟨(k0+1,(),()),⟨by dsimp only;omega,Ai hJ0⟩,by dsimp only;omega,?_,?_⟩
 ·exact cuw hw0
 exact cuw hw0
def Mz (m:Bg):Option (Bool):=
 (L7 m.State 0 4).bind fun y1=>some y1
theorem V1 (m:Bg) {r:Bool} (h:Mz m=some r):Ad Tryz.prog 189 [.agg (Ap m)] (·= .bool r):=by
 refine Ad.nle (Ad.intro Tryz.func189 rfl rfl (by show _≤6;simp) ?_)
 unfold Mz at h
 refine nS (sq ?_)
 refine ar rfl (qn (sq ?_))
 refine rg rfl fun K j=>?_
 obtain⟨y1,hy1,h⟩:=Af h
 refine An.pure Tryz.call187 (Ji m.State 0 4 hy1) rfl fun _ hr=>?_
 subst hr
 refine nS ?_
 refine j _ _ (qn (rt ?_))
 cases h;exact en Tryz.results189
def Nx (slide:Int) (k0:Nat) (x_2:Bg) (sv:Unit):Option (Out (Unit) (Bool)):=
 (Mz x_2).bind fun y3=>(bif y3 then(bif (decide (x_2.Slide=slide))then some (Out.ret true)else some (Out.next ()))else some (Out.next ()))
def Pp (l:List Bg) (slide:Int):Option (Bool):=
 (Al (Nx slide) 0 l ()).bind fun o0=>o0.on fun s0=>some false
theorem bZ (l:List Bg) (slide:Int) {r:Bool} (h:Pp l slide=some r):Ad Tryz.prog 190 [.sl 7 (l.map Ap),.int .i64 slide] (·= .bool r):=by
 refine Ad.nle (Ad.intro Tryz.func190 rfl rfl (by show _≤26;simp) ?_)
 unfold Pp at h
 refine nS (sq ?_)
 refine ar rfl (qn (sq (sq ?_)))
 refine ar rfl (qn (bk ?_))
 obtain⟨o0,hJ0,hO0⟩:=Af h
 clear h
 refine AWP.Bw (ι:=Nat×(Unit)×(Unit)) (fun zz=>[(0,.sl 7 (l.map Ap)),(1,.int .i64 slide),(5,.int .i64 ((zz.1:Nat):Int))]) (fun zz=>[]) (fun zz=>zz.1≤l.length∧Al (Nx slide) zz.1 ((l).drop zz.1) zz.2.1=some o0) (fun zz=>l.length - zz.1) (0,(),()) ⟨Nat.zero_le _,hJ0⟩ cu cu (fun x=>⟨rfl,rfl,rfl⟩) ?_
 clear hJ0
 rintro⟨k0,⟨⟩,⟨⟩⟩ ⟨hk0,hJ0⟩
 dsimp only at hk0 hJ0 ⊢
 refine sq (sq ?_)
 refine rg rfl fun K j=>?_
 intro hm
 refine j _ _ (qn ?_)
 refine AWP.cond (Ak (fun hc=>?_) (fun hc=>?_))
 rotate_left
 ·obtain rfl:=Bf hJ0 (fun hl=>by have:=Ai7 hc;omega)
  have h:=Be hO0;try dsimp only at h
  have hkl:l.length=k0:=by have:=Ai7 hc;omega
  subst hkl
  refine xt (qe (qe (bs (qn (sq (ar rfl (qn (rt ?_))))))))
  cases h;exact en Tryz.results190
 have hlt0:k0<l.length:=by have:=Ai8 hc;omega
 obtain⟨x_2,b0,hx0_,h,hJ0⟩:=Ba hJ0 hlt0
 have hx0:=A2 hx0_
 have hw0:=wk (k:=k0) (by omega)
 unfold Nx at h;try dsimp only at h
 refine sk (qn (sq (bk (sq ?_))))
 refine rg rfl fun K j=>?_
 refine Bn.of (f:=Ap) (l:=l) hx0 ?_
 refine nS ?_
 obtain⟨y3,hy3,h⟩:=Af h
 refine An.pure Tryz.call189 (V1 x_2 hy3) rfl fun _ hr=>?_
 subst hr
 refine nS ?_
 revert h;refine gt (fun hc h=>?_) fun hc h=>?_
 ·refine Bn.of (f:=Ap) (l:=l) hx0 ?_
  refine nS ?_
  refine j _ _ (qn ?_)
  revert h;refine ca rfl (fun hc h=>?_) fun hc h=>?_
  ·refine sq (ar rfl (qn (rt (br (qr (qr ?_))))))
   obtain rfl:=Aa h
   obtain rfl:=Ae hJ0
   replace h:=Am hO0
   refine br (qr ?_)
   cases h;exact en Tryz.results190
  refine sk (bn (qn (ar rfl (qn ?_))))
  obtain rfl:=Aa h
  refine⟨(k0+1,(),()),⟨by dsimp only;omega,Ai hJ0⟩,by dsimp only;omega,?_,?_⟩
  ·exact cuw hw0
  exact cuw hw0
 refine j _ _ (qn ?_)
 refine AWP.cond (Bi ?_)
 refine sk (bn (qn (ar rfl (qn ?_))))
 obtain rfl:=Aa h
 refine⟨(k0+1,(),()),⟨by dsimp only;omega,Ai hJ0⟩,by dsimp only;omega,?_,?_⟩
 ·exact cuw hw0
 exact cuw hw0
def Hk (l:List Bg) (k0:Nat) (x_2:Bg) (sv:Unit):Option (Out (Unit) (Int)):=
 (L7 x_2.ID 1 9999).bind fun y3=>(bif (!y3)then some (Out.ret 2)else (L7 x_2.Slide 1 9999).bind fun y4=>(bif (!y4)then some (Out.ret 2)else (L7 x_2.By 1 9999).bind fun y5=>(bif (!y5)then some (Out.ret 2)else (L7 x_2.State 0 6).bind fun y6=>(bif (!y6)then some (Out.ret 2)else (L7 x_2.Since 0 20000000).bind fun y7=>(bif (!y7)then some (Out.ret 2)else (bif (decide (x_2.Window.From<0))then some (Out.ret 2)else (bif (decide (x_2.Window.To≤x_2.Window.From))then some (Out.ret 2)else (bif (decide (20000000<x_2.Window.To))then some (Out.ret 2)else okB (decide (0≤((k0:Nat):Int)∧((k0:Nat):Int)≤((l.length:Nat):Int))) ((M9 (l.take k0) x_2.ID).bind fun y8=>(bif (decide (0≤y8))then some (Out.ret 7)else (Mz x_2).bind fun y9=>(bif y9 then okB (decide (0≤((k0:Nat):Int)∧((k0:Nat):Int)≤((l.length:Nat):Int))) ((Pp (l.take k0) x_2.Slide).bind fun y10=>(bif y10 then some (Out.ret 15)else some (Out.next ())))else some (Out.next ()))))))))))))
def Ib (l:List Bg):Option (Int):=
 (bif (decide (64<((l.length:Nat):Int)))then some 4 else(Al (Hk l) 0 l ()).bind fun o0=>o0.on fun s0=>some 0)
theorem cB (l:List Bg) {r:Int} (h:Ib l=some r):Ad Tryz.prog 91 [.sl 7 (l.map Ap)] (·= .int .i64 r):=by
 refine Ad.nle (Ad.intro Tryz.func91 rfl rfl (by show _≤86;simp) ?_)
 unfold Ib at h
 refine nS (sq ?_)
 refine ar rfl (qn (sq (sq ?_)))
 refine rg rfl fun K j=>?_
 intro hm
 refine j _ _ (qn ?_)
 revert h;refine ca rfl (fun hc h=>?_) fun hc h=>?_
 ·refine sq (ar rfl (qn (rt (qr ?_))))
  cases h;exact en Tryz.results91
 refine sk (qn (sq (sq (ar rfl (qn (bk ?_))))))
 obtain⟨o0,hJ0,hO0⟩:=Af h
 clear h
 refine AWP.Bw (ι:=Nat×(Unit)×(Unit)) (fun zz=>[(0,.sl 7 (l.map Ap)),(3,.int .i64 ((zz.1:Nat):Int))]) (fun zz=>[]) (fun zz=>zz.1≤l.length∧Al (Hk l) zz.1 ((l).drop zz.1) zz.2.1=some o0) (fun zz=>l.length - zz.1) (0,(),()) ⟨Nat.zero_le _,hJ0⟩ cu cu (fun x=>⟨rfl,rfl,rfl⟩) ?_
 clear hJ0
 rintro⟨k0,⟨⟩,⟨⟩⟩ ⟨hk0,hJ0⟩
 dsimp only at hk0 hJ0 ⊢
 refine sq (sq ?_)
 refine rg rfl fun K j=>?_
 intro hm
 refine j _ _ (qn ?_)
 refine AWP.cond (Ak (fun hc=>?_) (fun hc=>?_))
 rotate_left
 ·obtain rfl:=Bf hJ0 (fun hl=>by have:=Ai7 hc;omega)
  have h:=Be hO0;try dsimp only at h
  have hkl:l.length=k0:=by have:=Ai7 hc;omega
  subst hkl
  refine xt (qe (qe (bs (qn (sq (ar rfl (qn (rt ?_))))))))
  cases h;exact en Tryz.results91
 have hlt0:k0<l.length:=by have:=Ai8 hc;omega
 obtain⟨x_2,b0,hx0_,h,hJ0⟩:=Ba hJ0 hlt0
 have hx0:=A2 hx0_
 have hw0:=wk (k:=k0) (by omega)
 unfold Hk at h;try dsimp only at h
 refine sk (qn (sq (bk (sq ?_))))
 refine rg rfl fun K j=>?_
 refine Bn.of (f:=Ap) (l:=l) hx0 ?_
 refine nS ?_
 refine j _ _ (qn (sq ?_))
 refine ar rfl (qn (bk (sq ?_)))
 refine rg rfl fun K j=>?_
 obtain⟨y3,hy3,h⟩:=Af h
 refine An.pure Tryz.call187 (Ji x_2.ID 1 9999 hy3) rfl fun _ hr=>?_
 subst hr
 refine nS ?_
 revert h;refine gf (fun hc h=>?_) fun hc h=>?_
 rotate_left
 ·refine j _ _ (qn ?_)
  refine AWP.cond (Ah ?_)
  refine sq (ar rfl (qn (rt (br (br (qr (qr ?_)))))))
  obtain rfl:=Aa h
  obtain rfl:=Ae hJ0
  replace h:=Am hO0
  refine br (qr ?_)
  cases h;exact en Tryz.results91
 obtain⟨y4,hy4,h⟩:=Af h
 refine An.pure Tryz.call187 (Ji x_2.Slide 1 9999 hy4) rfl fun _ hr=>?_
 subst hr
 refine nS ?_
 revert h;refine gf (fun hc h=>?_) fun hc h=>?_
 rotate_left
 ·refine j _ _ (qn ?_)
  refine AWP.cond (Ah ?_)
  refine sq (ar rfl (qn (rt (br (br (qr (qr ?_)))))))
  obtain rfl:=Aa h
  obtain rfl:=Ae hJ0
  replace h:=Am hO0
  refine br (qr ?_)
  cases h;exact en Tryz.results91
 obtain⟨y5,hy5,h⟩:=Af h
 refine An.pure Tryz.call187 (Ji x_2.By 1 9999 hy5) rfl fun _ hr=>?_
 subst hr
 refine nS ?_
 revert h;refine gf (fun hc h=>?_) fun hc h=>?_
 rotate_left
 ·refine j _ _ (qn ?_)
  refine AWP.cond (Ah ?_)
  refine sq (ar rfl (qn (rt (br (br (qr (qr ?_)))))))
  obtain rfl:=Aa h
  obtain rfl:=Ae hJ0
  replace h:=Am hO0
  refine br (qr ?_)
  cases h;exact en Tryz.results91
 obtain⟨y6,hy6,h⟩:=Af h
 refine An.pure Tryz.call187 (Ji x_2.State 0 6 hy6) rfl fun _ hr=>?_
 subst hr
 refine nS ?_
 revert h;refine gf (fun hc h=>?_) fun hc h=>?_
 rotate_left
 ·refine j _ _ (qn ?_)
  refine AWP.cond (Ah ?_)
  refine sq (ar rfl (qn (rt (br (br (qr (qr ?_)))))))
  obtain rfl:=Aa h
  obtain rfl:=Ae hJ0
  replace h:=Am hO0
  refine br (qr ?_)
  cases h;exact en Tryz.results91
 obtain⟨y7,hy7,h⟩:=Af h
 refine An.pure Tryz.call187 (Ji x_2.Since 0 20000000 hy7) rfl fun _ hr=>?_
 subst hr
 refine nS ?_
 revert h;refine gf (fun hc h=>?_) fun hc h=>?_
 rotate_left
 ·refine j _ _ (qn ?_)
  refine AWP.cond (Ah ?_)
  refine sq (ar rfl (qn (rt (br (br (qr (qr ?_)))))))
  obtain rfl:=Aa h
  obtain rfl:=Ae hJ0
  replace h:=Am hO0
  refine br (qr ?_)
  cases h;exact en Tryz.results91
 revert h;refine gf (fun hc h=>?_) fun hc h=>?_
 rotate_left
 ·refine j _ _ (qn ?_)
  refine AWP.cond (Ah ?_)
  refine sq (ar rfl (qn (rt (br (br (qr (qr ?_)))))))
  obtain rfl:=Aa h
  obtain rfl:=Ae hJ0
  replace h:=Am hO0
  refine br (qr ?_)
  cases h;exact en Tryz.results91
 revert h;refine gf (fun hc h=>?_) fun hc h=>?_
 rotate_left
 ·refine j _ _ (qn ?_)
  refine AWP.cond (Ah ?_)
  refine sq (ar rfl (qn (rt (br (br (qr (qr ?_)))))))
  obtain rfl:=Aa h
  obtain rfl:=Ae hJ0
  replace h:=Am hO0
  refine br (qr ?_)
  cases h;exact en Tryz.results91
 refine j _ _ (qn ?_)
 revert h;refine ca rfl (fun hc h=>?_) fun hc h=>?_
 ·refine sq (ar rfl (qn (rt (br (br (qr (qr ?_)))))))
  obtain rfl:=Aa h
  obtain rfl:=Ae hJ0
  replace h:=Am hO0
  refine br (qr ?_)
  cases h;exact en Tryz.results91
 refine sq ?_
 refine AWP.draw Tryz.mixed (by kernel_rfl) ?_;intro K j
 refine nS ?_
 obtain⟨hk,h⟩:=Hp h
 intro hm
 (repeat(refine⟨by omega,?_⟩))
 obtain⟨y8,hy8,h⟩:=Af h
 refine B7.pure Tryz.call188 (cA (l.take k0) x_2.ID hy8) rfl ?_
 refine nS ?_
 refine j _ _ _ (by kernel_rfl) ?_
 refine qn ?_
 revert h;refine ca rfl (fun hc h=>?_) fun hc h=>?_
 ·refine sq (ar rfl (qn (rt (br (br (qr (qr ?_)))))))
  obtain rfl:=Aa h
  obtain rfl:=Ae hJ0
  replace h:=Am hO0
  refine br (qr ?_)
  cases h;exact en Tryz.results91
 refine sq ?_
 refine AWP.draw Tryz.mixed (by kernel_rfl) ?_;intro K j
 refine nS ?_
 obtain⟨y9,hy9,h⟩:=Af h
 refine B7.pure Tryz.call189 (V1 x_2 hy9) rfl ?_
 refine nS ?_
 revert h;refine gt (fun hc h=>?_) fun hc h=>?_
 ·obtain⟨hk,h⟩:=Hp h
  intro hm
  (repeat(refine⟨by omega,?_⟩))
  obtain⟨y10,hy10,h⟩:=Af h
  refine B7.pure Tryz.call190 (bZ (l.take k0) x_2.Slide hy10) rfl ?_
  refine nS ?_
  refine j _ _ _ (by kernel_rfl) ?_
  refine qn ?_
  revert h;refine ca rfl (fun hc h=>?_) fun hc h=>?_
  ·refine sq (ar rfl (qn (rt (br (br (qr (qr ?_)))))))
   obtain rfl:=Aa h
   obtain rfl:=Ae hJ0
   replace h:=Am hO0
   refine br (qr ?_)
   cases h;exact en Tryz.results91
  refine sk (bn (bn (qn (ar rfl (qn ?_)))))
  obtain rfl:=Aa h
  refine⟨(k0+1,(),()),⟨by dsimp only;omega,Ai hJ0⟩,by dsimp only;omega,?_,?_⟩
  ·exact cuw hw0
  exact cuw hw0
 refine j _ _ _ (by kernel_rfl) ?_
 refine qn ?_
 refine AWP.cond (Bi ?_)
 refine sk (bn (bn (qn (ar rfl (qn ?_)))))
 obtain rfl:=Aa h
 refine⟨(k0+1,(),()),⟨by dsimp only;omega,Ai hJ0⟩,by dsimp only;omega,?_,?_⟩
 ·exact cuw hw0
 exact cuw hw0
def L9 (l:List Int) (k0:Nat) (x_2:Int) (sv:Unit):Option (Out (Unit) (Bool)):=
 (bif (decide (x_2<1))then some (Out.ret false)else (bif (decide (9999<x_2))then some (Out.ret false)else (bif (decide (0<((k0:Nat):Int)))then (Dk l (IntKind.i64.wrap (((k0:Nat):Int) - 1))).bind fun x_3=>(bif (decide (x_2≤x_3))then some (Out.ret false)else some (Out.next ()))else some (Out.next ()))))
def Ow (l:List Int):Option (Bool):=
 (Al (L9 l) 0 l ()).bind fun o0=>o0.on fun s0=>some (decide (0<((l.length:Nat):Int)))
theorem eQ (l:List Int) {r:Bool} (h:Ow l=some r):Ad Tryz.prog 191 [.sl 1 (l.map A5)] (·= .bool r):=by
 refine Ad.nle (Ad.intro Tryz.func191 rfl rfl (by show _≤41;simp) ?_)
 unfold Ow at h
 refine nS (sq ?_)
 refine ar rfl (qn (sq (sq ?_)))
 refine ar rfl (qn (bk ?_))
 obtain⟨o0,hJ0,hO0⟩:=Af h
 clear h
 refine AWP.Bw (ι:=Nat×(Unit)×(Unit)) (fun zz=>[(0,.sl 1 (l.map A5)),(3,.int .i64 ((zz.1:Nat):Int))]) (fun zz=>[]) (fun zz=>zz.1≤l.length∧Al (L9 l) zz.1 ((l).drop zz.1) zz.2.1=some o0) (fun zz=>l.length - zz.1) (0,(),()) ⟨Nat.zero_le _,hJ0⟩ cu cu (fun x=>⟨rfl,rfl,rfl⟩) ?_
 clear hJ0
 rintro⟨k0,⟨⟩,⟨⟩⟩ ⟨hk0,hJ0⟩
 dsimp only at hk0 hJ0 ⊢
 refine sq (sq ?_)
 refine rg rfl fun K j=>?_
 intro hm
 refine j _ _ (qn ?_)
 refine AWP.cond (Ak (fun hc=>?_) (fun hc=>?_))
 rotate_left
 ·obtain rfl:=Bf hJ0 (fun hl=>by have:=Ai7 hc;omega)
  have h:=Be hO0;try dsimp only at h
  have hkl:l.length=k0:=by have:=Ai7 hc;omega
  subst hkl
  refine xt (qe (qe (bs (qn (sq ?_)))))
  refine rg rfl fun K j=>?_
  intro hm
  refine j _ _ (qn (rt ?_))
  cases h;exact en Tryz.results191
 have hlt0:k0<l.length:=by have:=Ai8 hc;omega
 obtain⟨x_2,b0,hx0_,h,hJ0⟩:=Ba hJ0 hlt0
 have hx0:=A2 hx0_
 have hw0:=wk (k:=k0) (by omega)
 unfold L9 at h;try dsimp only at h
 refine sk (qn (sq (bk (sq ?_))))
 refine AWP.draw Tryz.mixed (by kernel_rfl) ?_;intro K j
 refine nS ?_
 refine Bn.of (f:=A5) (l:=l) hx0 ?_
 refine nS ?_
 revert h;refine gf (fun hc h=>?_) fun hc h=>?_
 rotate_left
 ·refine j _ _ _ (by kernel_rfl) ?_
  refine qn ?_
  refine AWP.cond (Ah ?_)
  refine sq (ar rfl (qn (rt (br (qr (qr ?_))))))
  obtain rfl:=Aa h
  obtain rfl:=Ae hJ0
  replace h:=Am hO0
  refine br (qr ?_)
  cases h;exact en Tryz.results191
 refine Bn.of (f:=A5) (l:=l) hx0 ?_
 refine nS ?_
 revert h;refine gf (fun hc h=>?_) fun hc h=>?_
 rotate_left
 ·refine j _ _ _ (by kernel_rfl) ?_
  refine qn ?_
  refine AWP.cond (Ah ?_)
  refine sq (ar rfl (qn (rt (br (qr (qr ?_))))))
  obtain rfl:=Aa h
  obtain rfl:=Ae hJ0
  replace h:=Am hO0
  refine br (qr ?_)
  cases h;exact en Tryz.results191
 revert h;refine gt (fun hc h=>?_) fun hc h=>?_
 ·refine Bn.of (f:=A5) (l:=l) hx0 ?_
  refine nS ?_
  obtain⟨x_3,hx_3,h⟩:=Af h
  refine Bn.of (f:=A5) (l:=l) hx_3 ?_
  refine nS ?_
  refine j _ _ _ (by kernel_rfl) ?_
  refine qn ?_
  revert h;refine ca rfl (fun hc h=>?_) fun hc h=>?_
  ·refine sq (ar rfl (qn (rt (br (qr (qr ?_))))))
   obtain rfl:=Aa h
   obtain rfl:=Ae hJ0
   replace h:=Am hO0
   refine br (qr ?_)
   cases h;exact en Tryz.results191
  refine sk (bn (qn (ar rfl (qn ?_))))
  obtain rfl:=Aa h
  refine⟨(k0+1,(),()),⟨by dsimp only;omega,Ai hJ0⟩,by dsimp only;omega,?_,?_⟩
  ·exact cuw hw0
  exact cuw hw0
 refine j _ _ _ (by kernel_rfl) ?_
 refine qn ?_
 refine AWP.cond (Bi ?_)
 refine sk (bn (qn (ar rfl (qn ?_))))
 obtain rfl:=Aa h
 refine⟨(k0+1,(),()),⟨by dsimp only;omega,Ai hJ0⟩,by dsimp only;omega,?_,?_⟩
 ·exact cuw hw0
 exact cuw hw0
def U1 (n_:Int) (k0:Nat) (x_2:Int) (sv:Unit):Option (Out (Unit) (Bool)):=
 (bif (decide (x_2=n_))then some (Out.ret true)else some (Out.next ()))
def Q6 (l:List Int) (n_:Int):Option (Bool):=
 (Al (U1 n_) 0 l ()).bind fun o0=>o0.on fun s0=>some false
theorem fT (l:List Int) (n_:Int) {r:Bool} (h:Q6 l n_=some r):Ad Tryz.prog 217 [.sl 1 (l.map A5),.int .i64 n_] (·= .bool r):=by
 refine Ad.nle (Ad.intro Tryz.func217 rfl rfl (by show _≤18;simp) ?_)
 unfold Q6 at h
 refine nS (sq ?_)
 refine ar rfl (qn (sq (sq ?_)))
 refine ar rfl (qn (bk ?_))
 obtain⟨o0,hJ0,hO0⟩:=Af h
 clear h
 refine AWP.Bw (ι:=Nat×(Unit)×(Unit)) (fun zz=>[(0,.sl 1 (l.map A5)),(1,.int .i64 n_),(5,.int .i64 ((zz.1:Nat):Int))]) (fun zz=>[]) (fun zz=>zz.1≤l.length∧Al (U1 n_) zz.1 ((l).drop zz.1) zz.2.1=some o0) (fun zz=>l.length - zz.1) (0,(),()) ⟨Nat.zero_le _,hJ0⟩ cu cu (fun x=>⟨rfl,rfl,rfl⟩) ?_
 clear hJ0
 rintro⟨k0,⟨⟩,⟨⟩⟩ ⟨hk0,hJ0⟩
 dsimp only at hk0 hJ0 ⊢
 refine sq (sq ?_)
 refine rg rfl fun K j=>?_
 intro hm
 refine j _ _ (qn ?_)
 refine AWP.cond (Ak (fun hc=>?_) (fun hc=>?_))
 rotate_left
 ·obtain rfl:=Bf hJ0 (fun hl=>by have:=Ai7 hc;omega)
  have h:=Be hO0;try dsimp only at h
  have hkl:l.length=k0:=by have:=Ai7 hc;omega
  subst hkl
  refine xt (qe (qe (bs (qn (sq (ar rfl (qn (rt ?_))))))))
  cases h;exact en Tryz.results217
 have hlt0:k0<l.length:=by have:=Ai8 hc;omega
 obtain⟨x_2,b0,hx0_,h,hJ0⟩:=Ba hJ0 hlt0
 have hx0:=A2 hx0_
 have hw0:=wk (k:=k0) (by omega)
 unfold U1 at h;try dsimp only at h
 refine sk (qn (sq (bk (sq ?_))))
 refine rg rfl fun K j=>?_
 refine Bn.of (f:=A5) (l:=l) hx0 ?_
 refine nS ?_
 refine j _ _ (qn ?_)
 revert h;refine ca rfl (fun hc h=>?_) fun hc h=>?_
 ·refine sq (ar rfl (qn (rt (br (qr (qr ?_))))))
  obtain rfl:=Aa h
  obtain rfl:=Ae hJ0
  replace h:=Am hO0
  refine br (qr ?_)
  cases h;exact en Tryz.results217
 refine sk (bn (qn (ar rfl (qn ?_))))
 obtain rfl:=Aa h
 refine⟨(k0+1,(),()),⟨by dsimp only;omega,Ai hJ0⟩,by dsimp only;omega,?_,?_⟩
 ·exact cuw hw0
 exact cuw hw0
def Ko (b:A8) (k0:Nat) (x_2:Int) (sv:Unit):Option (Out (Unit) (Bool)):=
 (Q6 b.Runs x_2).bind fun y3=>(bif y3 then some (Out.ret true)else some (Out.next ()))
def Pr (a:A8) (b:A8):Option (Bool):=
 (bif (decide (b.To≤a.From))then some false else(bif (decide (a.To≤b.From))then some false else(Al (Ko b) 0 a.Runs ()).bind fun o0=>o0.on fun s0=>some (decide (a.Groomer=b.Groomer))))
theorem cG (a:A8) (b:A8) {r:Bool} (h:Pr a b=some r):Ad Tryz.prog 192 [.agg (Ao a),.agg (Ao b)] (·= .bool r):=by
 refine Ad.nle (Ad.intro Tryz.func192 rfl rfl (by show _≤38;simp) ?_)
 unfold Pr at h
 refine nS (sq ?_)
 refine ar rfl (qn (sq (sq ?_)))
 refine rg rfl fun K j=>?_
 revert h;refine gf (fun hc h=>?_) fun hc h=>?_
 rotate_left
 ·refine j _ _ (qn ?_)
  refine AWP.cond (Ah ?_)
  refine sq (ar rfl (qn (rt (qr ?_))))
  cases h;exact en Tryz.results192
 refine j _ _ (qn ?_)
 revert h;refine ca rfl (fun hc h=>?_) fun hc h=>?_
 ·refine sq (ar rfl (qn (rt (qr ?_))))
  cases h;exact en Tryz.results192
 refine sk (qn (sq (sq (ar rfl (qn (bk ?_))))))
 obtain⟨o0,hJ0,hO0⟩:=Af h
 clear h
 refine AWP.Bw (ι:=Nat×(Unit)×(Unit)) (fun zz=>[(2,.ptr 0 0),(3,.ptr 1 0),(5,.int .i64 ((zz.1:Nat):Int))]) (fun zz=>[.box [.int .i64 a.Groomer,.int .i64 a.From,.int .i64 a.To,.sl 1 (a.Runs.map A5)],.box [.int .i64 b.Groomer,.int .i64 b.From,.int .i64 b.To,.sl 1 (b.Runs.map A5)]]) (fun zz=>zz.1≤a.Runs.length∧Al (Ko b) zz.1 ((a.Runs).drop zz.1) zz.2.1=some o0) (fun zz=>a.Runs.length - zz.1) (0,(),()) ⟨Nat.zero_le _,hJ0⟩ cu cu (fun x=>⟨rfl,rfl,rfl⟩) ?_
 clear hJ0
 rintro⟨k0,⟨⟩,⟨⟩⟩ ⟨hk0,hJ0⟩
 dsimp only at hk0 hJ0 ⊢
 refine sq (sq ?_)
 refine rg rfl fun K j=>?_
 intro hm
 refine j _ _ (qn ?_)
 refine AWP.cond (Ak (fun hc=>?_) (fun hc=>?_))
 rotate_left
 ·obtain rfl:=Bf hJ0 (fun hl=>by have:=Ai7 hc;omega)
  have h:=Be hO0;try dsimp only at h
  have hkl:a.Runs.length=k0:=by have:=Ai7 hc;omega
  subst hkl
  refine xt (qe (qe (bs (qn (sq (ar rfl (qn (rt ?_))))))))
  cases h;exact en Tryz.results192
 have hlt0:k0<a.Runs.length:=by have:=Ai8 hc;omega
 obtain⟨x_2,b0,hx0_,h,hJ0⟩:=Ba hJ0 hlt0
 have hx0:=A2 hx0_
 have hw0:=wk (k:=k0) (by omega)
 unfold Ko at h;try dsimp only at h
 refine sk (qn (sq (bk (sq ?_))))
 refine AWP.draw Tryz.mixed (by kernel_rfl) ?_;intro K j
 refine nS ?_
 refine Bn.of (f:=A5) (l:=a.Runs) hx0 ?_
 refine nS ?_
 obtain⟨y3,hy3,h⟩:=Af h
 refine B7.pure Tryz.call217 (fT b.Runs x_2 hy3) rfl ?_
 refine nS ?_
 refine j _ _ _ (by kernel_rfl) ?_
 refine qn ?_
 revert h;refine ca rfl (fun hc h=>?_) fun hc h=>?_
 ·refine sq (ar rfl (qn (rt (br (qr (qr ?_))))))
  obtain rfl:=Aa h
  obtain rfl:=Ae hJ0
  replace h:=Am hO0
  refine br (qr ?_)
  cases h;exact en Tryz.results192
 refine sk (bn (qn (ar rfl (qn ?_))))
 obtain rfl:=Aa h
 refine⟨(k0+1,(),()),⟨by dsimp only;omega,Ai hJ0⟩,by dsimp only;omega,?_,?_⟩
 ·exact cuw hw0
 exact cuw hw0
def Eh (l:List A8) (x_2:A8) (k3:Nat) (_x:Unit) (sv:Unit):Option (Out (Unit) (Out (Unit) (Int))):=
 (Dk l ((k3:Nat):Int)).bind fun x_5=>(Pr x_5 x_2).bind fun y6=>(bif y6 then some (Out.ret (Out.ret 15))else some (Out.next ()))
def E8 (l:List A8) (k0:Nat) (x_2:A8) (sv:Unit):Option (Out (Unit) (Int)):=
 (bif (decide (x_2.Groomer<1))then some (Out.ret 2)else (bif (decide (9999<x_2.Groomer))then some (Out.ret 2)else (bif (decide (x_2.From<0))then some (Out.ret 2)else (bif (decide (x_2.To≤x_2.From))then some (Out.ret 2)else (bif (decide (20000000<x_2.To))then some (Out.ret 2)else (Ow x_2.Runs).bind fun y3=>(bif (!y3)then some (Out.ret 1)else (J5 (Eh l x_2) k0 ()).bind fun o3=>o3.on fun s3=>some (Out.next ())))))))
def Nb (l:List A8):Option (Int):=
 (bif (decide (16<((l.length:Nat):Int)))then some 4 else(Al (E8 l) 0 l ()).bind fun o0=>o0.on fun s0=>some 0)
theorem cH (l:List A8) {r:Int} (h:Nb l=some r):Ad Tryz.prog 92 [.sl 4 (l.map Ao)] (·= .int .i64 r):=by
 refine Ad.nle (Ad.intro Tryz.func92 rfl rfl (by show _≤59;simp) ?_)
 unfold Nb at h
 refine nS (sq ?_)
 refine ar rfl (qn (sq (sq ?_)))
 refine rg rfl fun K j=>?_
 intro hm
 refine j _ _ (qn ?_)
 revert h;refine ca rfl (fun hc h=>?_) fun hc h=>?_
 ·refine sq (ar rfl (qn (rt (qr ?_))))
  cases h;exact en Tryz.results92
 refine sk (qn (sq (sq (ar rfl (qn (bk ?_))))))
 obtain⟨o0,hJ0,hO0⟩:=Af h
 clear h
 refine AWP.Bw (ι:=Nat×(Unit)×(Unit)) (fun zz=>[(0,.sl 4 (l.map Ao)),(3,.int .i64 ((zz.1:Nat):Int))]) (fun zz=>[]) (fun zz=>zz.1≤l.length∧Al (E8 l) zz.1 ((l).drop zz.1) zz.2.1=some o0) (fun zz=>l.length - zz.1) (0,(),()) ⟨Nat.zero_le _,hJ0⟩ cu cu (fun x=>⟨rfl,rfl,rfl⟩) ?_
 clear hJ0
 rintro⟨k0,⟨⟩,⟨⟩⟩ ⟨hk0,hJ0⟩
 dsimp only at hk0 hJ0 ⊢
 refine sq (sq ?_)
 refine rg rfl fun K j=>?_
 intro hm
 refine j _ _ (qn ?_)
 refine AWP.cond (Ak (fun hc=>?_) (fun hc=>?_))
 rotate_left
 ·obtain rfl:=Bf hJ0 (fun hl=>by have:=Ai7 hc;omega)
  have h:=Be hO0;try dsimp only at h
  have hkl:l.length=k0:=by have:=Ai7 hc;omega
  subst hkl
  refine xt (qe (qe (bs (qn (sq (ar rfl (qn (rt ?_))))))))
  cases h;exact en Tryz.results92
 have hlt0:k0<l.length:=by have:=Ai8 hc;omega
 obtain⟨x_2,b0,hx0_,h,hJ0⟩:=Ba hJ0 hlt0
 have hx0:=A2 hx0_
 have hw0:=wk (k:=k0) (by omega)
 unfold E8 at h;try dsimp only at h
 refine sk (qn (sq (bk (sq ?_))))
 refine rg rfl fun K j=>?_
 refine Bn.of (f:=Ao) (l:=l) hx0 ?_
 refine nS ?_
 refine j _ _ (qn (sq (sq ?_)))
 refine rg rfl fun K j=>?_
 revert h;refine gf (fun hc h=>?_) fun hc h=>?_
 rotate_left
 ·refine j _ _ (qn ?_)
  refine AWP.cond (Ah ?_)
  refine sq (ar rfl (qn (rt (qr (br (qr (qr ?_)))))))
  obtain rfl:=Aa h
  obtain rfl:=Ae hJ0
  replace h:=Am hO0
  refine br (qr ?_)
  cases h;exact en Tryz.results92
 revert h;refine gf (fun hc h=>?_) fun hc h=>?_
 rotate_left
 ·refine j _ _ (qn ?_)
  refine AWP.cond (Ah ?_)
  refine sq (ar rfl (qn (rt (qr (br (qr (qr ?_)))))))
  obtain rfl:=Aa h
  obtain rfl:=Ae hJ0
  replace h:=Am hO0
  refine br (qr ?_)
  cases h;exact en Tryz.results92
 revert h;refine gf (fun hc h=>?_) fun hc h=>?_
 rotate_left
 ·refine j _ _ (qn ?_)
  refine AWP.cond (Ah ?_)
  refine sq (ar rfl (qn (rt (qr (br (qr (qr ?_)))))))
  obtain rfl:=Aa h
  obtain rfl:=Ae hJ0
  replace h:=Am hO0
  refine br (qr ?_)
  cases h;exact en Tryz.results92
 revert h;refine gf (fun hc h=>?_) fun hc h=>?_
 rotate_left
 ·refine j _ _ (qn ?_)
  refine AWP.cond (Ah ?_)
  refine sq (ar rfl (qn (rt (qr (br (qr (qr ?_)))))))
  obtain rfl:=Aa h
  obtain rfl:=Ae hJ0
  replace h:=Am hO0
  refine br (qr ?_)
  cases h;exact en Tryz.results92
 refine j _ _ (qn ?_)
 revert h;refine ca rfl (fun hc h=>?_) fun hc h=>?_
 ·refine sq (ar rfl (qn (rt (qr (br (qr (qr ?_)))))))
  obtain rfl:=Aa h
  obtain rfl:=Ae hJ0
  replace h:=Am hO0
  refine br (qr ?_)
  cases h;exact en Tryz.results92
 refine sk (qn (sq (sq ?_)))
 refine rg rfl fun K j=>?_
 obtain⟨y3,hy3,h⟩:=Af h
 refine An.pure Tryz.call191 (eQ x_2.Runs hy3) rfl fun _ hr=>?_
 subst hr
 refine nS ?_
 refine j _ _ (qn ?_)
 revert h;refine ca rfl (fun hc h=>?_) fun hc h=>?_
 ·refine sq (ar rfl (qn (rt (qr (br (qr (qr ?_)))))))
  obtain rfl:=Aa h
  obtain rfl:=Ae hJ0
  replace h:=Am hO0
  refine br (qr ?_)
  cases h;exact en Tryz.results92
 refine sk (qn (sq (ar rfl (qn (bk ?_)))))
 obtain⟨o3,hJ3,hO3⟩:=Af h
 clear h
 obtain⟨hn3,hJ3⟩:=S1 hJ3
 refine AWP.Bw (ι:=Nat×(Unit)×(Unit)) (fun zz=>[(0,.sl 4 (l.map Ao)),(3,.int .i64 ((k0:Nat):Int)),(4,.ptr 0 0),(5,.int .i64 ((zz.1:Nat):Int))]) (fun zz=>[.box [.int .i64 x_2.Groomer,.int .i64 x_2.From,.int .i64 x_2.To,.sl 1 (x_2.Runs.map A5)]]) (fun zz=>zz.1≤k0∧Al (Eh l x_2) zz.1 ((List.replicate k0 ()).drop zz.1) zz.2.1=some o3) (fun zz=>k0 - zz.1) (0,(),()) ⟨Nat.zero_le _,hJ3⟩ cu cu (fun x=>⟨rfl,rfl,rfl⟩) ?_
 clear hJ3
 rintro⟨k3,⟨⟩,⟨⟩⟩ ⟨hk3,hJ3⟩
 dsimp only at hk3 hJ3 ⊢
 refine sq (sq (ar rfl (qn ?_)))
 refine AWP.cond (Ak (fun hc=>?_) (fun hc=>?_))
 rotate_left
 ·obtain rfl:=Bf hJ3 (fun hl=>by rw[List.length_replicate]at hl;have:=Ai7 hc;omega)
  have h:=Be hO3;try dsimp only at h
  have hkl:k0=k3:=by have:=Ai7 hc;omega
  subst hkl
  refine xt (qe (qe (bs (bn (qn (ar rfl (qn ?_)))))))
  obtain rfl:=Aa h
  refine⟨(k0+1,(),()),⟨by dsimp only;omega,Ai hJ0⟩,by dsimp only;omega,?_,?_⟩
  ·exact cuw hw0
  exact cuw hw0
 have hlt3:k3<k0:=by have:=Ai8 hc;omega
 obtain⟨_,b3,_,h,hJ3⟩:=Ba hJ3 (by rw[List.length_replicate];exact hlt3)
 have hw3:=wk (k:=k3) (by omega)
 unfold Eh at h;try dsimp only at h
 refine sk (qn (sq (bk (sq ?_))))
 refine AWP.draw Tryz.mixed (by kernel_rfl) ?_;intro K j
 refine nS ?_
 obtain⟨x_5,hx_5,h⟩:=Af h
 refine Bn.of (f:=Ao) (l:=l) hx_5 ?_
 refine nS ?_
 obtain⟨y6,hy6,h⟩:=Af h
 refine B7.pure Tryz.call192 (cG x_5 x_2 hy6) rfl ?_
 refine nS ?_
 refine j _ _ _ (by kernel_rfl) ?_
 refine qn ?_
 revert h;refine ca rfl (fun hc h=>?_) fun hc h=>?_
 ·refine sq (ar rfl (qn (rt (br (qr (qr ?_))))))
  obtain rfl:=Aa h
  obtain rfl:=Ae hJ3
  replace h:=Am hO3
  refine br (br (qr (qr ?_)))
  obtain rfl:=Aa h
  obtain rfl:=Ae hJ0
  replace h:=Am hO0
  refine br (qr ?_)
  cases h;exact en Tryz.results92
 refine sk (bn (qn (ar rfl (qn ?_))))
 obtain rfl:=Aa h
 refine⟨(k3+1,(),()),⟨by dsimp only;omega,Ai hJ3⟩,by dsimp only;omega,?_,?_⟩
 ·exact cuw hw3
 exact cuw hw3
def Kq (n_:Int) (lo:Int) (hi:Int):Option (Bool):=
 (bif (decide (lo≤n_))then some (decide (n_≤hi))else some false)
theorem G0 (n_:Int) (lo:Int) (hi:Int) {r:Bool} (h:Kq n_ lo hi=some r):Ad Tryz.prog 193 [.int .i64 n_,.int .i64 lo,.int .i64 hi] (·= .bool r):=by
 refine Ad.nle (Ad.intro Tryz.func193 rfl rfl (by show _≤15;simp) ?_)
 unfold Kq at h
 refine nS (sq ?_)
 refine ar rfl (qn (sq ?_))
 refine rg rfl fun K j=>?_
 revert h;refine gt (fun hc h=>?_) fun hc h=>?_
 ·refine j _ _ (qn (rt ?_))
  cases h;exact en Tryz.results193
 refine j _ _ (qn (rt ?_))
 cases h;exact en Tryz.results193
def Kp (id_:Int) (k0:Nat) (x_2:B4) (sv:Unit):Option (Out (Unit) (Int)):=
 (bif (decide (x_2.ID=id_))then some (Out.ret ((k0:Nat):Int))else some (Out.next ()))
def Ps (l:List B4) (id_:Int):Option (Int):=
 (Al (Kp id_) 0 l ()).bind fun o0=>o0.on fun s0=>some (-1)
theorem cI (l:List B4) (id_:Int) {r:Int} (h:Ps l id_=some r):Ad Tryz.prog 194 [.sl 8 (l.map Ay),.int .i64 id_] (·= .int .i64 r):=by
 refine Ad.nle (Ad.intro Tryz.func194 rfl rfl (by show _≤20;simp) ?_)
 unfold Ps at h
 refine nS (sq ?_)
 refine ar rfl (qn (sq (sq ?_)))
 refine ar rfl (qn (bk ?_))
 obtain⟨o0,hJ0,hO0⟩:=Af h
 clear h
 refine AWP.Bw (ι:=Nat×(Unit)×(Unit)) (fun zz=>[(0,.sl 8 (l.map Ay)),(1,.int .i64 id_),(5,.int .i64 ((zz.1:Nat):Int))]) (fun zz=>[]) (fun zz=>zz.1≤l.length∧Al (Kp id_) zz.1 ((l).drop zz.1) zz.2.1=some o0) (fun zz=>l.length - zz.1) (0,(),()) ⟨Nat.zero_le _,hJ0⟩ cu cu (fun x=>⟨rfl,rfl,rfl⟩) ?_
 clear hJ0
 rintro⟨k0,⟨⟩,⟨⟩⟩ ⟨hk0,hJ0⟩
 dsimp only at hk0 hJ0 ⊢
 refine sq (sq ?_)
 refine rg rfl fun K j=>?_
 intro hm
 refine j _ _ (qn ?_)
 refine AWP.cond (Ak (fun hc=>?_) (fun hc=>?_))
 rotate_left
 ·obtain rfl:=Bf hJ0 (fun hl=>by have:=Ai7 hc;omega)
  have h:=Be hO0;try dsimp only at h
  have hkl:l.length=k0:=by have:=Ai7 hc;omega
  subst hkl
  refine xt (qe (qe (bs (qn (sq (ar rfl (qn (rt ?_))))))))
  cases h;exact en Tryz.results194
 have hlt0:k0<l.length:=by have:=Ai8 hc;omega
 obtain⟨x_2,b0,hx0_,h,hJ0⟩:=Ba hJ0 hlt0
 have hx0:=A2 hx0_
 have hw0:=wk (k:=k0) (by omega)
 unfold Kp at h;try dsimp only at h
 refine sk (qn (sq (bk (sq ?_))))
 refine rg rfl fun K j=>?_
 refine Bn.of (f:=Ay) (l:=l) hx0 ?_
 refine nS ?_
 refine j _ _ (qn ?_)
 revert h;refine ca rfl (fun hc h=>?_) fun hc h=>?_
 ·refine sq (ar rfl (qn (rt (br (qr (qr ?_))))))
  obtain rfl:=Aa h
  obtain rfl:=Ae hJ0
  replace h:=Am hO0
  refine br (qr ?_)
  cases h;exact en Tryz.results194
 refine sk (bn (qn (ar rfl (qn ?_))))
 obtain rfl:=Aa h
 refine⟨(k0+1,(),()),⟨by dsimp only;omega,Ai hJ0⟩,by dsimp only;omega,?_,?_⟩
 ·exact cuw hw0
 exact cuw hw0
def Kr (l:List B4) (k0:Nat) (x_2:B4) (sv:Unit):Option (Out (Unit) (Int)):=
 (Kq x_2.ID 1 9999).bind fun y3=>(bif (!y3)then some (Out.ret 2)else (Kq x_2.Node 1 9999).bind fun y4=>(bif (!y4)then some (Out.ret 2)else (Kq x_2.Fuel 0 1000000).bind fun y5=>(bif (!y5)then some (Out.ret 2)else (Kq x_2.State 0 2).bind fun y6=>(bif (!y6)then some (Out.ret 2)else (Kq x_2.Until 0 20000000).bind fun y7=>(bif (!y7)then some (Out.ret 2)else (Kq x_2.To 0 9999).bind fun y8=>(bif (!y8)then some (Out.ret 2)else (Kq x_2.Run 0 9999).bind fun y9=>(bif (!y9)then some (Out.ret 2)else okB (decide (0≤((k0:Nat):Int)∧((k0:Nat):Int)≤((l.length:Nat):Int))) ((Ps (l.take k0) x_2.ID).bind fun y10=>(bif (decide (0≤y10))then some (Out.ret 7)else (bif ((decide (x_2.To≠0)) !=(decide (x_2.State=1)))then some (Out.ret 10)else (bif ((decide (x_2.Run≠0)) !=(decide (x_2.State=2)))then some (Out.ret 10)else some (Out.next ()))))))))))))
def Nc (l:List B4):Option (Int):=
 (bif (decide (16<((l.length:Nat):Int)))then some 4 else(Al (Kr l) 0 l ()).bind fun o0=>o0.on fun s0=>some 0)
theorem cJ (l:List B4) {r:Int} (h:Nc l=some r):Ad Tryz.prog 93 [.sl 8 (l.map Ay)] (·= .int .i64 r):=by
 refine Ad.nle (Ad.intro Tryz.func93 rfl rfl (by show _≤81;simp) ?_)
 unfold Nc at h
 refine nS (sq ?_)
 refine ar rfl (qn (sq (sq ?_)))
 refine rg rfl fun K j=>?_
 intro hm
 refine j _ _ (qn ?_)
 revert h;refine ca rfl (fun hc h=>?_) fun hc h=>?_
 ·refine sq (ar rfl (qn (rt (qr ?_))))
  cases h;exact en Tryz.results93
 refine sk (qn (sq (sq (ar rfl (qn (bk ?_))))))
 obtain⟨o0,hJ0,hO0⟩:=Af h
 clear h
 refine AWP.Bw (ι:=Nat×(Unit)×(Unit)) (fun zz=>[(0,.sl 8 (l.map Ay)),(3,.int .i64 ((zz.1:Nat):Int))]) (fun zz=>[]) (fun zz=>zz.1≤l.length∧Al (Kr l) zz.1 ((l).drop zz.1) zz.2.1=some o0) (fun zz=>l.length - zz.1) (0,(),()) ⟨Nat.zero_le _,hJ0⟩ cu cu (fun x=>⟨rfl,rfl,rfl⟩) ?_
 clear hJ0
 rintro⟨k0,⟨⟩,⟨⟩⟩ ⟨hk0,hJ0⟩
 dsimp only at hk0 hJ0 ⊢
 refine sq (sq ?_)
 refine rg rfl fun K j=>?_
 intro hm
 refine j _ _ (qn ?_)
 refine AWP.cond (Ak (fun hc=>?_) (fun hc=>?_))
 rotate_left
 ·obtain rfl:=Bf hJ0 (fun hl=>by have:=Ai7 hc;omega)
  have h:=Be hO0;try dsimp only at h
  have hkl:l.length=k0:=by have:=Ai7 hc;omega
  subst hkl
  refine xt (qe (qe (bs (qn (sq (ar rfl (qn (rt ?_))))))))
  cases h;exact en Tryz.results93
 have hlt0:k0<l.length:=by have:=Ai8 hc;omega
 obtain⟨x_2,b0,hx0_,h,hJ0⟩:=Ba hJ0 hlt0
 have hx0:=A2 hx0_
 have hw0:=wk (k:=k0) (by omega)
 unfold Kr at h;try dsimp only at h
 refine sk (qn (sq (bk (sq ?_))))
 refine rg rfl fun K j=>?_
 refine Bn.of (f:=Ay) (l:=l) hx0 ?_
 refine nS ?_
 refine j _ _ (qn (sq (sq ?_)))
 refine rg rfl fun K j=>?_
 obtain⟨y3,hy3,h⟩:=Af h
 refine An.pure Tryz.call193 (G0 x_2.ID 1 9999 hy3) rfl fun _ hr=>?_
 subst hr
 refine nS ?_
 revert h;refine gf (fun hc h=>?_) fun hc h=>?_
 rotate_left
 ·refine j _ _ (qn ?_)
  refine AWP.cond (Ah ?_)
  refine sq (ar rfl (qn (rt (qr (br (qr (qr ?_)))))))
  obtain rfl:=Aa h
  obtain rfl:=Ae hJ0
  replace h:=Am hO0
  refine br (qr ?_)
  cases h;exact en Tryz.results93
 obtain⟨y4,hy4,h⟩:=Af h
 refine An.pure Tryz.call193 (G0 x_2.Node 1 9999 hy4) rfl fun _ hr=>?_
 subst hr
 refine nS ?_
 revert h;refine gf (fun hc h=>?_) fun hc h=>?_
 rotate_left
 ·refine j _ _ (qn ?_)
  refine AWP.cond (Ah ?_)
  refine sq (ar rfl (qn (rt (qr (br (qr (qr ?_)))))))
  obtain rfl:=Aa h
  obtain rfl:=Ae hJ0
  replace h:=Am hO0
  refine br (qr ?_)
  cases h;exact en Tryz.results93
 obtain⟨y5,hy5,h⟩:=Af h
 refine An.pure Tryz.call193 (G0 x_2.Fuel 0 1000000 hy5) rfl fun _ hr=>?_
 subst hr
 refine nS ?_
 revert h;refine gf (fun hc h=>?_) fun hc h=>?_
 rotate_left
 ·refine j _ _ (qn ?_)
  refine AWP.cond (Ah ?_)
  refine sq (ar rfl (qn (rt (qr (br (qr (qr ?_)))))))
  obtain rfl:=Aa h
  obtain rfl:=Ae hJ0
  replace h:=Am hO0
  refine br (qr ?_)
  cases h;exact en Tryz.results93
 obtain⟨y6,hy6,h⟩:=Af h
 refine An.pure Tryz.call193 (G0 x_2.State 0 2 hy6) rfl fun _ hr=>?_
 subst hr
 refine nS ?_
 revert h;refine gf (fun hc h=>?_) fun hc h=>?_
 rotate_left
 ·refine j _ _ (qn ?_)
  refine AWP.cond (Ah ?_)
  refine sq (ar rfl (qn (rt (qr (br (qr (qr ?_)))))))
  obtain rfl:=Aa h
  obtain rfl:=Ae hJ0
  replace h:=Am hO0
  refine br (qr ?_)
  cases h;exact en Tryz.results93
 obtain⟨y7,hy7,h⟩:=Af h
 refine An.pure Tryz.call193 (G0 x_2.Until 0 20000000 hy7) rfl fun _ hr=>?_
 subst hr
 refine nS ?_
 revert h;refine gf (fun hc h=>?_) fun hc h=>?_
 rotate_left
 ·refine j _ _ (qn ?_)
  refine AWP.cond (Ah ?_)
  refine sq (ar rfl (qn (rt (qr (br (qr (qr ?_)))))))
  obtain rfl:=Aa h
  obtain rfl:=Ae hJ0
  replace h:=Am hO0
  refine br (qr ?_)
  cases h;exact en Tryz.results93
 obtain⟨y8,hy8,h⟩:=Af h
 refine An.pure Tryz.call193 (G0 x_2.To 0 9999 hy8) rfl fun _ hr=>?_
 subst hr
 refine nS ?_
 revert h;refine gf (fun hc h=>?_) fun hc h=>?_
 rotate_left
 ·refine j _ _ (qn ?_)
  refine AWP.cond (Ah ?_)
  refine sq (ar rfl (qn (rt (qr (br (qr (qr ?_)))))))
  obtain rfl:=Aa h
  obtain rfl:=Ae hJ0
  replace h:=Am hO0
  refine br (qr ?_)
  cases h;exact en Tryz.results93
 obtain⟨y9,hy9,h⟩:=Af h
 refine An.pure Tryz.call193 (G0 x_2.Run 0 9999 hy9) rfl fun _ hr=>?_
 subst hr
 refine nS ?_
 refine j _ _ (qn ?_)
 revert h;refine ca rfl (fun hc h=>?_) fun hc h=>?_
 ·refine sq (ar rfl (qn (rt (qr (br (qr (qr ?_)))))))
  obtain rfl:=Aa h
  obtain rfl:=Ae hJ0
  replace h:=Am hO0
  refine br (qr ?_)
  cases h;exact en Tryz.results93
 refine sk (qn (sq (sq ?_)))
 refine AWP.draw Tryz.mixed (by kernel_rfl) ?_;intro K j
 refine nS ?_
 obtain⟨hk,h⟩:=Hp h
 intro hm
 (repeat(refine⟨by omega,?_⟩))
 obtain⟨y10,hy10,h⟩:=Af h
 refine B7.pure Tryz.call194 (cI (l.take k0) x_2.ID hy10) rfl ?_
 refine nS ?_
 refine j _ _ _ (by kernel_rfl) ?_
 refine qn ?_
 revert h;refine ca rfl (fun hc h=>?_) fun hc h=>?_
 ·refine sq (ar rfl (qn (rt (qr (br (qr (qr ?_)))))))
  obtain rfl:=Aa h
  obtain rfl:=Ae hJ0
  replace h:=Am hO0
  refine br (qr ?_)
  cases h;exact en Tryz.results93
 refine sk (qn (sq ?_))
 refine rg rfl fun K j=>?_
 revert h;refine gf (fun hc h=>?_) fun hc h=>?_
 ·refine j _ _ (qn ?_)
  revert h;refine ca rfl (fun hc h=>?_) fun hc h=>?_
  ·refine sq (ar rfl (qn (rt (br (qr (qr ?_))))))
   obtain rfl:=Aa h
   obtain rfl:=Ae hJ0
   replace h:=Am hO0
   refine br (qr ?_)
   cases h;exact en Tryz.results93
  refine sk (bn (qn (ar rfl (qn ?_))))
  obtain rfl:=Aa h
  refine⟨(k0+1,(),()),⟨by dsimp only;omega,Ai hJ0⟩,by dsimp only;omega,?_,?_⟩
  ·exact cuw hw0
  exact cuw hw0
 refine j _ _ (qn ?_)
 refine AWP.cond (Ah ?_)
 refine sq (ar rfl (qn (rt (br (qr (qr ?_))))))
 obtain rfl:=Aa h
 obtain rfl:=Ae hJ0
 replace h:=Am hO0
 refine br (qr ?_)
 cases h;exact en Tryz.results93
def F5 (y1:Int) (y2:Int) (y3:Int) (y4:Int) (y5:Int) (y6:Int) (y7:Int) (y8:Int) (y9:Int) (k9:Nat) (_x:Unit) (sv:Unit):Option (Out (Unit) (Int)):=
 (Dk [y1,y2,y3,y4,y5,y6,y7,y8,y9] ((k9:Nat):Int)).bind fun x_11=>(bif (decide (x_11≠0))then some (Out.ret x_11)else some (Out.next ()))
def Kg (f_:Aj):Option (Int):=
 (Ie f_.Map).bind fun y1=>(Ia f_.Closures).bind fun y2=>(H9 f_.Patrol).bind fun y3=>(Pq f_.Surfaces).bind fun y4=>(Na f_.Slides).bind fun y5=>(Ic f_.Bulletin).bind fun y6=>(Ib f_.Missions).bind fun y7=>(Nb f_.Winches).bind fun y8=>(Nc f_.Groomers).bind fun y9=>(J5 (F5 y1 y2 y3 y4 y5 y6 y7 y8 y9) 9 ()).bind fun o9=>o9.on fun s9=>some 0
theorem bS (f_:Aj) {r:Int} (h:Kg f_=some r):Ad Tryz.prog 41 [.agg (B3 f_)] (·= .int .i64 r):=by
 refine Ad.nle (Ad.intro Tryz.func41 rfl rfl (by show _≤48;simp) ?_)
 unfold Kg at h
 refine nS (sq ?_)
 refine ar rfl (qn (sq ?_))
 refine AWP.draw Tryz.mixed (by kernel_rfl) ?_;intro K j
 refine nS ?_
 obtain⟨y1,hy1,h⟩:=Af h
 refine B7.pure Tryz.call85 (cP f_.Map hy1) rfl ?_
 refine nS ?_
 obtain⟨y2,hy2,h⟩:=Af h
 refine B7.pure Tryz.call86 (bX f_.Closures hy2) rfl ?_
 refine nS ?_
 obtain⟨y3,hy3,h⟩:=Af h
 refine B7.pure Tryz.call87 (bV f_.Patrol hy3) rfl ?_
 refine nS ?_
 obtain⟨y4,hy4,h⟩:=Af h
 refine B7.pure Tryz.call88 (cF f_.Surfaces hy4) rfl ?_
 refine nS ?_
 obtain⟨y5,hy5,h⟩:=Af h
 refine B7.pure Tryz.call89 (cC f_.Slides hy5) rfl ?_
 refine nS ?_
 obtain⟨y6,hy6,h⟩:=Af h
 refine B7.pure Tryz.call90 (cE f_.Bulletin hy6) rfl ?_
 refine nS ?_
 obtain⟨y7,hy7,h⟩:=Af h
 refine B7.pure Tryz.call91 (cB f_.Missions hy7) rfl ?_
 refine nS ?_
 obtain⟨y8,hy8,h⟩:=Af h
 refine B7.pure Tryz.call92 (cH f_.Winches hy8) rfl ?_
 refine nS ?_
 obtain⟨y9,hy9,h⟩:=Af h
 refine B7.pure Tryz.call93 (cJ f_.Groomers hy9) rfl ?_
 refine nS ?_
 refine j _ _ _ (by kernel_rfl) ?_
 refine qn (sq (sq (ar rfl (qn (bk ?_)))))
 obtain⟨o9,hJ9,hO9⟩:=Af h
 clear h
 obtain⟨hn9,hJ9⟩:=S1 hJ9
 refine AWP.Bw (ι:=Nat×(Unit)×(Unit)) (fun zz=>[(3,.own 10 0 0 9),(4,.int .i64 ((zz.1:Nat):Int))]) (fun zz=>[.gone,.gone,.gone,.gone,.gone,.gone,.gone,.gone,.gone,.gone,.row 0 1 ([y1,y2,y3,y4,y5,y6,y7,y8,y9].map A5)]) (fun zz=>zz.1≤9∧Al (F5 y1 y2 y3 y4 y5 y6 y7 y8 y9) zz.1 ((List.replicate 9 ()).drop zz.1) zz.2.1=some o9) (fun zz=>9 - zz.1) (0,(),()) ⟨Nat.zero_le _,hJ9⟩ cu cu (fun x=>⟨rfl,rfl,rfl⟩) ?_
 clear hJ9
 rintro⟨k9,⟨⟩,⟨⟩⟩ ⟨hk9,hJ9⟩
 dsimp only at hk9 hJ9 ⊢
 refine sq (sq (ar rfl (qn ?_)))
 refine AWP.cond (Ak (fun hc=>?_) (fun hc=>?_))
 rotate_left
 ·obtain rfl:=Bf hJ9 (fun hl=>by rw[List.length_replicate]at hl;have:=Ai7 hc;omega)
  have h:=Be hO9;try dsimp only at h
  have hkl:9=k9:=by have:=Ai7 hc;omega
  subst hkl
  refine xt (qe (qe (bs (qn (sq (ar rfl (qn (rt ?_))))))))
  cases h;exact en Tryz.results41
 have hlt9:k9<9:=by have:=Ai8 hc;omega
 obtain⟨_,b9,_,h,hJ9⟩:=Ba hJ9 (by rw[List.length_replicate];exact hlt9)
 have hw9:=wk (k:=k9) (by omega)
 unfold F5 at h;try dsimp only at h
 refine sk (qn (sq (bk (sq ?_))))
 refine rg rfl fun K j=>?_
 obtain⟨x_11,hx_11,h⟩:=Af h
 refine Kw hx_11 (by first | rfl | exact(Cl _).symm | (simp only[List.length_append,List.length_cons,List.length_nil,List.length_set,List.length_replicate]<;>omega)) ?_
 refine nS ?_
 refine Df.ofNat (f:=A5) (l:=[y1,y2,y3,y4,y5,y6,y7,y8,y9]) (n:=k9) hx_11 ?_
 refine nS ?_
 refine j _ _ (qn ?_)
 revert h;refine ca rfl (fun hc h=>?_) fun hc h=>?_
 ·refine sq ?_
  refine rg rfl fun K j=>?_
  refine Kw hx_11 (by first | rfl | exact(Cl _).symm | (simp only[List.length_append,List.length_cons,List.length_nil,List.length_set,List.length_replicate]<;>omega)) ?_
  refine nS ?_
  refine Df.ofNat (f:=A5) (l:=[y1,y2,y3,y4,y5,y6,y7,y8,y9]) (n:=k9) hx_11 ?_
  refine nS ?_
  refine j _ _ (qn (rt (br (qr (qr ?_)))))
  obtain rfl:=Aa h
  obtain rfl:=Ae hJ9
  replace h:=Am hO9
  refine br (qr ?_)
  cases h;exact en Tryz.results41
 refine sk (bn (qn (ar rfl (qn ?_))))
 obtain rfl:=Aa h
 refine⟨(k9+1,(),()),⟨by dsimp only;omega,Ai hJ9⟩,by dsimp only;omega,?_,?_⟩
 ·exact cuw hw9
 exact cuw hw9
def Tm (id_:Int) (k0:Nat) (x_2:Cc) (sv:Unit):Option (Out (Unit) (Cc×Bool)):=
 (bif (decide (x_2.ID=id_))then some (Out.ret (x_2,true))else some (Out.next ()))
def U7 (m:Bb) (id_:Int):Option (Cc×Bool):=
 (Al (Tm id_) 0 m.Lifts ()).bind fun o0=>o0.on fun s0=>some ((Cc.mk 0 0 0 0 0 0 0 0),false)
theorem V2 (m:Bb) (id_:Int) {r:Cc×Bool} (h:U7 m id_=some r):Ad Tryz.prog 42 [.agg (Cf m),.int .i64 id_] (·= .tuple [.agg (A7 r.1),.bool r.2]):=by
 refine Ad.nle (Ad.intro Tryz.func42 rfl rfl (by show _≤28;simp) ?_)
 unfold U7 at h
 refine nS (sq ?_)
 refine ar rfl (qn (sq (sq ?_)))
 refine ar rfl (qn (bk ?_))
 obtain⟨o0,hJ0,hO0⟩:=Af h
 clear h
 refine AWP.Bw (ι:=Nat×(Unit)×(Unit)) (fun zz=>[(1,.int .i64 id_),(2,.ptr 0 0),(4,.ptr 1 0),(6,.int .i64 ((zz.1:Nat):Int))]) (fun zz=>[.box [.sl 2 (m.Nodes.map A6),.sl 8 (m.Lifts.map A7),.sl 7 (m.Runs.map Bc),.sl 1 (m.Bases.map A5)],.box [.int .i64 0,.int .i64 0,.int .i64 0,.int .i64 0,.int .i64 0,.int .i64 0,.int .i64 0,.int .i64 0]]) (fun zz=>zz.1≤m.Lifts.length∧Al (Tm id_) zz.1 ((m.Lifts).drop zz.1) zz.2.1=some o0) (fun zz=>m.Lifts.length - zz.1) (0,(),()) ⟨Nat.zero_le _,hJ0⟩ cu cu (fun x=>⟨rfl,rfl,rfl⟩) ?_
 clear hJ0
 rintro⟨k0,⟨⟩,⟨⟩⟩ ⟨hk0,hJ0⟩
 dsimp only at hk0 hJ0 ⊢
 refine sq (sq ?_)
 refine rg rfl fun K j=>?_
 intro hm
 refine j _ _ (qn ?_)
 refine AWP.cond (Ak (fun hc=>?_) (fun hc=>?_))
 rotate_left
 ·obtain rfl:=Bf hJ0 (fun hl=>by have:=Ai7 hc;omega)
  have h:=Be hO0;try dsimp only at h
  have hkl:m.Lifts.length=k0:=by have:=Ai7 hc;omega
  subst hkl
  refine xt (qe (qe (bs (qn (sq (ar rfl (qn (rt ?_))))))))
  cases h;exact en Tryz.results42
 have hlt0:k0<m.Lifts.length:=by have:=Ai8 hc;omega
 obtain⟨x_2,b0,hx0_,h,hJ0⟩:=Ba hJ0 hlt0
 have hx0:=A2 hx0_
 have hw0:=wk (k:=k0) (by omega)
 unfold Tm at h;try dsimp only at h
 refine sk (qn (sq (bk (sq ?_))))
 refine rg rfl fun K j=>?_
 refine Bn.of (f:=A7) (l:=m.Lifts) hx0 ?_
 refine nS ?_
 refine j _ _ (qn ?_)
 revert h;refine ca rfl (fun hc h=>?_) fun hc h=>?_
 ·refine sq ?_
  refine rg rfl fun K j=>?_
  refine Bn.of (f:=A7) (l:=m.Lifts) hx0 ?_
  refine nS ?_
  refine j _ _ (qn (rt (br (qr (qr ?_)))))
  obtain rfl:=Aa h
  obtain rfl:=Ae hJ0
  replace h:=Am hO0
  refine br (qr ?_)
  cases h;exact en Tryz.results42
 refine sk (bn (qn (ar rfl (qn ?_))))
 obtain rfl:=Aa h
 refine⟨(k0+1,(),()),⟨by dsimp only;omega,Ai hJ0⟩,by dsimp only;omega,?_,?_⟩
 ·exact cuw hw0
 exact cuw hw0
def Ui (n_:Int) (lo:Int) (hi:Int):Option (Bool):=
 (bif (decide (lo≤n_))then some (decide (n_≤hi))else some false)
theorem Tk (n_:Int) (lo:Int) (hi:Int) {r:Bool} (h:Ui n_ lo hi=some r):Ad Tryz.prog 94 [.int .i64 n_,.int .i64 lo,.int .i64 hi] (·= .bool r):=by
 refine Ad.nle (Ad.intro Tryz.func94 rfl rfl (by show _≤15;simp) ?_)
 unfold Ui at h
 refine nS (sq ?_)
 refine ar rfl (qn (sq ?_))
 refine rg rfl fun K j=>?_
 revert h;refine gt (fun hc h=>?_) fun hc h=>?_
 ·refine j _ _ (qn (rt ?_))
  cases h;exact en Tryz.results94
 refine j _ _ (qn (rt ?_))
 cases h;exact en Tryz.results94
def Ks (p:Fu):Option (Bool):=
 (Ui p.Natural 0 20000).bind fun y1=>(bif y1 then(Ui p.Machine 0 20000).bind fun y2=>(bif y2 then(Ui p.Density 50 900).bind fun y3=>some y3 else some false)else some false)
theorem cL (p:Fu) {r:Bool} (h:Ks p=some r):Ad Tryz.prog 43 [.agg (O0 p)] (·= .bool r):=by
 refine Ad.nle (Ad.intro Tryz.func43 rfl rfl (by show _≤16;simp) ?_)
 unfold Ks at h
 refine nS (sq ?_)
 refine ar rfl (qn (sq ?_))
 refine rg rfl fun K j=>?_
 obtain⟨y1,hy1,h⟩:=Af h
 refine An.pure Tryz.call94 (Tk p.Natural 0 20000 hy1) rfl fun _ hr=>?_
 subst hr
 refine nS ?_
 revert h;refine gt (fun hc h=>?_) fun hc h=>?_
 ·obtain⟨y2,hy2,h⟩:=Af h
  refine An.pure Tryz.call94 (Tk p.Machine 0 20000 hy2) rfl fun _ hr=>?_
  subst hr
  refine nS ?_
  revert h;refine gt (fun hc h=>?_) fun hc h=>?_
  ·obtain⟨y3,hy3,h⟩:=Af h
   refine An.pure Tryz.call94 (Tk p.Density 50 900 hy3) rfl fun _ hr=>?_
   subst hr
   refine nS ?_
   refine j _ _ (qn (rt ?_))
   cases h;exact en Tryz.results43
  refine j _ _ (qn (rt ?_))
  cases h;exact en Tryz.results43
 refine j _ _ (qn (rt ?_))
 cases h;exact en Tryz.results43
def U6 (id_:Int) (k0:Nat) (x_2:Cd) (sv:Unit):Option (Out (Unit) (Cd×Bool)):=
 (bif (decide (x_2.ID=id_))then some (Out.ret (x_2,true))else some (Out.next ()))
def Jj (m:Bb) (id_:Int):Option (Cd×Bool):=
 (Al (U6 id_) 0 m.Runs ()).bind fun o0=>o0.on fun s0=>some ((Cd.mk 0 0 0 0 0 0 0),false)
theorem Rr (m:Bb) (id_:Int) {r:Cd×Bool} (h:Jj m id_=some r):Ad Tryz.prog 32 [.agg (Cf m),.int .i64 id_] (·= .tuple [.agg (Bc r.1),.bool r.2]):=by
 refine Ad.nle (Ad.intro Tryz.func32 rfl rfl (by show _≤28;simp) ?_)
 unfold Jj at h
 refine nS (sq ?_)
 refine ar rfl (qn (sq (sq ?_)))
 refine ar rfl (qn (bk ?_))
 obtain⟨o0,hJ0,hO0⟩:=Af h
 clear h
 refine AWP.Bw (ι:=Nat×(Unit)×(Unit)) (fun zz=>[(1,.int .i64 id_),(2,.ptr 0 0),(4,.ptr 1 0),(6,.int .i64 ((zz.1:Nat):Int))]) (fun zz=>[.box [.sl 2 (m.Nodes.map A6),.sl 8 (m.Lifts.map A7),.sl 7 (m.Runs.map Bc),.sl 1 (m.Bases.map A5)],.box [.int .i64 0,.int .i64 0,.int .i64 0,.int .i64 0,.int .i64 0,.int .i64 0,.int .i64 0]]) (fun zz=>zz.1≤m.Runs.length∧Al (U6 id_) zz.1 ((m.Runs).drop zz.1) zz.2.1=some o0) (fun zz=>m.Runs.length - zz.1) (0,(),()) ⟨Nat.zero_le _,hJ0⟩ cu cu (fun x=>⟨rfl,rfl,rfl⟩) ?_
 clear hJ0
 rintro⟨k0,⟨⟩,⟨⟩⟩ ⟨hk0,hJ0⟩
 dsimp only at hk0 hJ0 ⊢
 refine sq (sq ?_)
 refine rg rfl fun K j=>?_
 intro hm
 refine j _ _ (qn ?_)
 refine AWP.cond (Ak (fun hc=>?_) (fun hc=>?_))
 rotate_left
 ·obtain rfl:=Bf hJ0 (fun hl=>by have:=Ai7 hc;omega)
  have h:=Be hO0;try dsimp only at h
  have hkl:m.Runs.length=k0:=by have:=Ai7 hc;omega
  subst hkl
  refine xt (qe (qe (bs (qn (sq (ar rfl (qn (rt ?_))))))))
  cases h;exact en Tryz.results32
 have hlt0:k0<m.Runs.length:=by have:=Ai8 hc;omega
 obtain⟨x_2,b0,hx0_,h,hJ0⟩:=Ba hJ0 hlt0
 have hx0:=A2 hx0_
 have hw0:=wk (k:=k0) (by omega)
 unfold U6 at h;try dsimp only at h
 refine sk (qn (sq (bk (sq ?_))))
 refine rg rfl fun K j=>?_
 refine Bn.of (f:=Bc) (l:=m.Runs) hx0 ?_
 refine nS ?_
 refine j _ _ (qn ?_)
 revert h;refine ca rfl (fun hc h=>?_) fun hc h=>?_
 ·refine sq ?_
  refine rg rfl fun K j=>?_
  refine Bn.of (f:=Bc) (l:=m.Runs) hx0 ?_
  refine nS ?_
  refine j _ _ (qn (rt (br (qr (qr ?_)))))
  obtain rfl:=Aa h
  obtain rfl:=Ae hJ0
  replace h:=Am hO0
  refine br (qr ?_)
  cases h;exact en Tryz.results32
 refine sk (bn (qn (ar rfl (qn ?_))))
 obtain rfl:=Aa h
 refine⟨(k0+1,(),()),⟨by dsimp only;omega,Ai hJ0⟩,by dsimp only;omega,?_,?_⟩
 ·exact cuw hw0
 exact cuw hw0
def Kk (f_:Aj) (k3:Nat) (x_5:Bj) (sv:Unit):Option (Out (Unit) (Int)):=
 (bif (decide (0<((k3:Nat):Int)))then (Dk f_.Status (IntKind.i64.wrap (((k3:Nat):Int) - 1))).bind fun x_6=>(bif (decide (x_5.Run≤x_6.Run))then some (Out.ret 11)else (Jj f_.Map x_5.Run).bind fun y7=>(bif (!y7.2)then some (Out.ret 8)else (bif (decide (x_5.Since<0))then some (Out.ret 2)else (bif (decide (20000000<x_5.Since))then some (Out.ret 2)else some (Out.next ())))))else (Jj f_.Map x_5.Run).bind fun y8=>(bif (!y8.2)then some (Out.ret 8)else (bif (decide (x_5.Since<0))then some (Out.ret 2)else (bif (decide (20000000<x_5.Since))then some (Out.ret 2)else some (Out.next ())))))
def Kh (f_:Aj):Option (Int):=
 (Al (Kk f_) 0 f_.Status ()).bind fun o3=>o3.on fun s3=>(bif (decide (f_.Depth<0))then some 2 else(bif (decide (10000<f_.Depth))then some 2 else(bif (decide (f_.Time<0))then some 2 else(bif (decide (20000000<f_.Time))then some 2 else some 0))))
def Kj (f_:Aj) (k8:Nat) (x_10:C6) (sv:Unit):Option (Out (Unit) (Int)):=
 (bif (decide (x_10.Area<1))then some (Out.ret 2)else (bif (decide (10000000<x_10.Area))then some (Out.ret 2)else (Ks x_10.Pack).bind fun y11=>(bif (!y11)then some (Out.ret 2)else (bif (decide (0<((k8:Nat):Int)))then (Dk f_.Packs (IntKind.i64.wrap (((k8:Nat):Int) - 1))).bind fun x_12=>(bif (decide (x_10.Run≤x_12.Run))then some (Out.ret 11)else some (Out.next ()))else some (Out.next ())))))
def Ki (f_:Aj):Option (Int):=
 (Al (Kj f_) 0 f_.Packs ()).bind fun o8=>o8.on fun s8=>Kh f_
def Nt (f_:Aj) (k12:Nat) (x_14:Cr) (sv:Unit):Option (Out (Unit) (Int)):=
 (bif (decide (0<((k12:Nat):Int)))then (Dk f_.Lifts (IntKind.i64.wrap (((k12:Nat):Int) - 1))).bind fun x_15=>(bif (decide (x_14.Lift≤x_15.Lift))then some (Out.ret 11)else (U7 f_.Map x_14.Lift).bind fun y16=>(bif (!y16.2)then some (Out.ret 8)else (bif (decide (x_14.Mode<0))then some (Out.ret 2)else (bif (decide (3<x_14.Mode))then some (Out.ret 2)else some (Out.next ())))))else (U7 f_.Map x_14.Lift).bind fun y17=>(bif (!y17.2)then some (Out.ret 8)else (bif (decide (x_14.Mode<0))then some (Out.ret 2)else (bif (decide (3<x_14.Mode))then some (Out.ret 2)else some (Out.next ())))))
def H8 (f_:Aj):Option (Int):=
 (Kg f_).bind fun y1=>(bif (decide (y1≠0))then some y1 else(bif (decide (32<((f_.Lifts.length:Nat):Int)))then some 4 else(bif (decide (64<((f_.Packs.length:Nat):Int)))then some 4 else(bif (decide (64<((f_.Status.length:Nat):Int)))then some 4 else(Al (Nt f_) 0 f_.Lifts ()).bind fun o12=>o12.on fun s12=>Ki f_))))
theorem bT (f_:Aj) {r:Int} (h:H8 f_=some r):Ad Tryz.prog 13 [.agg (B3 f_)] (·= .int .i64 r):=by
 refine Ad.nle (Ad.intro Tryz.func13 rfl rfl (by show _≤211;simp) ?_)
 unfold H8 at h
 refine nS (sq ?_)
 refine ar rfl (qn (sq (sq ?_)))
 refine rg rfl fun K j=>?_
 obtain⟨y1,hy1,h⟩:=Af h
 refine An.pure Tryz.call41 (bS f_ hy1) rfl fun _ hr=>?_
 subst hr
 refine nS ?_
 refine j _ _ (qn (sq ?_))
 refine ar rfl (qn ?_)
 revert h;refine ca rfl (fun hc h=>?_) fun hc h=>?_
 ·refine sq (ar rfl (qn (rt (qr ?_))))
  cases h;exact en Tryz.results13
 refine sk (qn (sq (sq ?_)))
 refine rg rfl fun K j=>?_
 intro hm
 revert h;refine gf (fun hc h=>?_) fun hc h=>?_
 rotate_left
 ·refine j _ _ (qn ?_)
  refine AWP.cond (Ah ?_)
  refine sq (ar rfl (qn (rt (qr ?_))))
  cases h;exact en Tryz.results13
 intro hm
 revert h;refine gf (fun hc h=>?_) fun hc h=>?_
 rotate_left
 ·refine j _ _ (qn ?_)
  refine AWP.cond (Ah ?_)
  refine sq (ar rfl (qn (rt (qr ?_))))
  cases h;exact en Tryz.results13
 intro hm
 refine j _ _ (qn ?_)
 revert h;refine ca rfl (fun hc h=>?_) fun hc h=>?_
 ·refine sq (ar rfl (qn (rt (qr ?_))))
  cases h;exact en Tryz.results13
 refine sk (qn ?_)
 refine AWP.Lf (ι:=(Unit)×(Unit)) (fun zz=>[(1,.ptr 0 0)]) (fun zz=>[.box [.sl 2 (f_.Map.Nodes.map A6),.sl 8 (f_.Map.Lifts.map A7),.sl 7 (f_.Map.Runs.map Bc),.sl 1 (f_.Map.Bases.map A5),.sl 2 (f_.Lifts.map Av),.sl 4 (f_.Closures.map Aq),.sl 4 (f_.Patrol.Bt.map Au),.sl 3 (f_.Patrol.Hazards.map Az),.sl 3 (f_.Surfaces.map A3),.sl 5 (f_.Packs.map A1),.sl 6 (f_.Slides.map A9),.sl 7 (f_.Bulletin.map Aw),.sl 7 (f_.Missions.map Ap),.sl 4 (f_.Winches.map Ao),.sl 8 (f_.Groomers.map Ay),.sl 3 (f_.Status.map A4),.int .i64 f_.Depth,.int .i64 f_.Time]]) (fun zz=>Ki f_=some r) (fun zz=>⟨rfl,rfl,rfl⟩) ?_ ?_
 ·refine sq (ar rfl (qn (bk ?_)))
  obtain⟨o12,hJ12,hO12⟩:=Af h
  clear h
  refine AWP.Bw (ι:=Nat×(Unit)×(Unit)) (fun zz=>[(1,.ptr 0 0),(4,.int .i64 ((zz.1:Nat):Int))]) (fun zz=>[.box [.sl 2 (f_.Map.Nodes.map A6),.sl 8 (f_.Map.Lifts.map A7),.sl 7 (f_.Map.Runs.map Bc),.sl 1 (f_.Map.Bases.map A5),.sl 2 (f_.Lifts.map Av),.sl 4 (f_.Closures.map Aq),.sl 4 (f_.Patrol.Bt.map Au),.sl 3 (f_.Patrol.Hazards.map Az),.sl 3 (f_.Surfaces.map A3),.sl 5 (f_.Packs.map A1),.sl 6 (f_.Slides.map A9),.sl 7 (f_.Bulletin.map Aw),.sl 7 (f_.Missions.map Ap),.sl 4 (f_.Winches.map Ao),.sl 8 (f_.Groomers.map Ay),.sl 3 (f_.Status.map A4),.int .i64 f_.Depth,.int .i64 f_.Time]]) (fun zz=>zz.1≤f_.Lifts.length∧Al (Nt f_) zz.1 ((f_.Lifts).drop zz.1) zz.2.1=some o12) (fun zz=>f_.Lifts.length - zz.1) (0,(),()) ⟨Nat.zero_le _,hJ12⟩ cu cu (fun x=>⟨rfl,rfl,rfl⟩) ?_
  clear hJ12
  rintro⟨k12,⟨⟩,⟨⟩⟩ ⟨hk12,hJ12⟩
  dsimp only at hk12 hJ12 ⊢
  refine sq (sq ?_)
  refine rg rfl fun K j=>?_
  intro hm
  refine j _ _ (qn ?_)
  refine AWP.cond (Ak (fun hc=>?_) (fun hc=>?_))
  rotate_left
  ·obtain rfl:=Bf hJ12 (fun hl=>by have:=Ai7 hc;omega)
   have h:=Be hO12;try dsimp only at h
   have hkl:f_.Lifts.length=k12:=by have:=Ai7 hc;omega
   subst hkl
   refine xt (qe (qe (bs (qn ?_))))
   exact⟨((),()),h,cu,cu⟩
  have hlt12:k12<f_.Lifts.length:=by have:=Ai8 hc;omega
  obtain⟨x_14,b12,hx12_,h,hJ12⟩:=Ba hJ12 hlt12
  have hx12:=A2 hx12_
  have hw12:=wk (k:=k12) (by omega)
  unfold Nt at h;try dsimp only at h
  refine sk (qn (sq (bk (sq (sq ?_)))))
  refine AWP.draw Tryz.mixed (by kernel_rfl) ?_;intro K j
  refine nS ?_
  revert h;refine gt (fun hc h=>?_) fun hc h=>?_
  ·refine Bn.of (f:=Av) (l:=f_.Lifts) hx12 ?_
   refine nS ?_
   obtain⟨x_15,hx_15,h⟩:=Af h
   refine Bn.of (f:=Av) (l:=f_.Lifts) hx_15 ?_
   refine nS ?_
   refine j _ _ _ (by kernel_rfl) ?_
   refine qn ?_
   revert h;refine ca rfl (fun hc h=>?_) fun hc h=>?_
   ·refine sq (ar rfl (qn (rt (qr (br (qr (qr ?_)))))))
    obtain rfl:=Aa h
    obtain rfl:=Ae hJ12
    replace h:=Am hO12
    refine br (qr ?_)
    cases h;exact en Tryz.results13
   refine sk (qn (sq (sq ?_)))
   refine AWP.draw Tryz.mixed (by kernel_rfl) ?_;intro K j
   refine nS ?_
   refine Bn.of (f:=Av) (l:=f_.Lifts) hx12 ?_
   refine nS ?_
   obtain⟨y16,hy16,h⟩:=Af h
   refine B7.pure Tryz.call42 (V2 f_.Map x_14.Lift hy16) rfl ?_
   refine nS ?_
   refine j _ _ _ (by kernel_rfl) ?_
   refine qn (sq (ar rfl (qn ?_)))
   revert h;refine ca rfl (fun hc h=>?_) fun hc h=>?_
   ·refine sq (ar rfl (qn (rt (qr (br (qr (qr ?_)))))))
    obtain rfl:=Aa h
    obtain rfl:=Ae hJ12
    replace h:=Am hO12
    refine br (qr ?_)
    cases h;exact en Tryz.results13
   refine sk (qn (sq ?_))
   refine rg rfl fun K j=>?_
   refine Bn.of (f:=Av) (l:=f_.Lifts) hx12 ?_
   refine nS ?_
   revert h;refine gf (fun hc h=>?_) fun hc h=>?_
   ·refine Bn.of (f:=Av) (l:=f_.Lifts) hx12 ?_
    refine nS ?_
    refine j _ _ (qn ?_)
    revert h;refine ca rfl (fun hc h=>?_) fun hc h=>?_
    ·refine sq (ar rfl (qn (rt (br (qr (qr ?_))))))
     obtain rfl:=Aa h
     obtain rfl:=Ae hJ12
     replace h:=Am hO12
     refine br (qr ?_)
     cases h;exact en Tryz.results13
    refine sk (bn (qn (ar rfl (qn ?_))))
    obtain rfl:=Aa h
    refine⟨(k12+1,(),()),⟨by dsimp only;omega,Ai hJ12⟩,by dsimp only;omega,?_,?_⟩
    ·exact cuw hw12
    exact cuw hw12
   refine j _ _ (qn ?_)
   refine AWP.cond (Ah ?_)
   refine sq (ar rfl (qn (rt (br (qr (qr ?_))))))
   obtain rfl:=Aa h
   obtain rfl:=Ae hJ12
   replace h:=Am hO12
   refine br (qr ?_)
   cases h;exact en Tryz.results13
  refine j _ _ _ (by kernel_rfl) ?_
  refine qn ?_
  refine AWP.cond (Bi ?_)
  refine sk (qn (sq (sq ?_)))
  refine AWP.draw Tryz.mixed (by kernel_rfl) ?_;intro K j
  refine nS ?_
  refine Bn.of (f:=Av) (l:=f_.Lifts) hx12 ?_
  refine nS ?_
  obtain⟨y17,hy17,h⟩:=Af h
  refine B7.pure Tryz.call42 (V2 f_.Map x_14.Lift hy17) rfl ?_
  refine nS ?_
  refine j _ _ _ (by kernel_rfl) ?_
  refine qn (sq (ar rfl (qn ?_)))
  revert h;refine ca rfl (fun hc h=>?_) fun hc h=>?_
  ·refine sq (ar rfl (qn (rt (qr (br (qr (qr ?_)))))))
   obtain rfl:=Aa h
   obtain rfl:=Ae hJ12
   replace h:=Am hO12
   refine br (qr ?_)
   cases h;exact en Tryz.results13
  refine sk (qn (sq ?_))
  refine rg rfl fun K j=>?_
  refine Bn.of (f:=Av) (l:=f_.Lifts) hx12 ?_
  refine nS ?_
  revert h;refine gf (fun hc h=>?_) fun hc h=>?_
  ·refine Bn.of (f:=Av) (l:=f_.Lifts) hx12 ?_
   refine nS ?_
   refine j _ _ (qn ?_)
   revert h;refine ca rfl (fun hc h=>?_) fun hc h=>?_
   ·refine sq (ar rfl (qn (rt (br (qr (qr ?_))))))
    obtain rfl:=Aa h
    obtain rfl:=Ae hJ12
    replace h:=Am hO12
    refine br (qr ?_)
    cases h;exact en Tryz.results13
   refine sk (bn (qn (ar rfl (qn ?_))))
   obtain rfl:=Aa h
   refine⟨(k12+1,(),()),⟨by dsimp only;omega,Ai hJ12⟩,by dsimp only;omega,?_,?_⟩
   ·exact cuw hw12
   exact cuw hw12
  refine j _ _ (qn ?_)
  refine AWP.cond (Ah ?_)
  refine sq (ar rfl (qn (rt (br (qr (qr ?_))))))
  obtain rfl:=Aa h
  obtain rfl:=Ae hJ12
  replace h:=Am hO12
  refine br (qr ?_)
  cases h;exact en Tryz.results13
 rintro⟨⟨⟩,⟨⟩⟩ h
 try dsimp only at h ⊢
 unfold Ki at h;try dsimp only at h
 refine AWP.Lf (ι:=(Unit)×(Unit)) (fun zz=>[(1,.ptr 0 0)]) (fun zz=>[.box [.sl 2 (f_.Map.Nodes.map A6),.sl 8 (f_.Map.Lifts.map A7),.sl 7 (f_.Map.Runs.map Bc),.sl 1 (f_.Map.Bases.map A5),.sl 2 (f_.Lifts.map Av),.sl 4 (f_.Closures.map Aq),.sl 4 (f_.Patrol.Bt.map Au),.sl 3 (f_.Patrol.Hazards.map Az),.sl 3 (f_.Surfaces.map A3),.sl 5 (f_.Packs.map A1),.sl 6 (f_.Slides.map A9),.sl 7 (f_.Bulletin.map Aw),.sl 7 (f_.Missions.map Ap),.sl 4 (f_.Winches.map Ao),.sl 8 (f_.Groomers.map Ay),.sl 3 (f_.Status.map A4),.int .i64 f_.Depth,.int .i64 f_.Time]]) (fun zz=>Kh f_=some r) (fun zz=>⟨rfl,rfl,rfl⟩) ?_ ?_
 ·refine sq (ar rfl (qn (bk ?_)))
  obtain⟨o8,hJ8,hO8⟩:=Af h
  clear h
  refine AWP.Bw (ι:=Nat×(Unit)×(Unit)) (fun zz=>[(1,.ptr 0 0),(7,.int .i64 ((zz.1:Nat):Int))]) (fun zz=>[.box [.sl 2 (f_.Map.Nodes.map A6),.sl 8 (f_.Map.Lifts.map A7),.sl 7 (f_.Map.Runs.map Bc),.sl 1 (f_.Map.Bases.map A5),.sl 2 (f_.Lifts.map Av),.sl 4 (f_.Closures.map Aq),.sl 4 (f_.Patrol.Bt.map Au),.sl 3 (f_.Patrol.Hazards.map Az),.sl 3 (f_.Surfaces.map A3),.sl 5 (f_.Packs.map A1),.sl 6 (f_.Slides.map A9),.sl 7 (f_.Bulletin.map Aw),.sl 7 (f_.Missions.map Ap),.sl 4 (f_.Winches.map Ao),.sl 8 (f_.Groomers.map Ay),.sl 3 (f_.Status.map A4),.int .i64 f_.Depth,.int .i64 f_.Time]]) (fun zz=>zz.1≤f_.Packs.length∧Al (Kj f_) zz.1 ((f_.Packs).drop zz.1) zz.2.1=some o8) (fun zz=>f_.Packs.length - zz.1) (0,(),()) ⟨Nat.zero_le _,hJ8⟩ cu cu (fun x=>⟨rfl,rfl,rfl⟩) ?_
  clear hJ8
  rintro⟨k8,⟨⟩,⟨⟩⟩ ⟨hk8,hJ8⟩
  dsimp only at hk8 hJ8 ⊢
  refine sq (sq ?_)
  refine rg rfl fun K j=>?_
  intro hm
  refine j _ _ (qn ?_)
  refine AWP.cond (Ak (fun hc=>?_) (fun hc=>?_))
  rotate_left
  ·obtain rfl:=Bf hJ8 (fun hl=>by have:=Ai7 hc;omega)
   have h:=Be hO8;try dsimp only at h
   have hkl:f_.Packs.length=k8:=by have:=Ai7 hc;omega
   subst hkl
   refine xt (qe (qe (bs (qn ?_))))
   exact⟨((),()),h,cu,cu⟩
  have hlt8:k8<f_.Packs.length:=by have:=Ai8 hc;omega
  obtain⟨x_10,b8,hx8_,h,hJ8⟩:=Ba hJ8 hlt8
  have hx8:=A2 hx8_
  have hw8:=wk (k:=k8) (by omega)
  unfold Kj at h;try dsimp only at h
  refine sk (qn (sq (bk (sq (sq ?_)))))
  refine rg rfl fun K j=>?_
  refine Bn.of (f:=A1) (l:=f_.Packs) hx8 ?_
  refine nS ?_
  revert h;refine gf (fun hc h=>?_) fun hc h=>?_
  rotate_left
  ·refine j _ _ (qn ?_)
   refine AWP.cond (Ah ?_)
   refine sq (ar rfl (qn (rt (qr (br (qr (qr ?_)))))))
   obtain rfl:=Aa h
   obtain rfl:=Ae hJ8
   replace h:=Am hO8
   refine br (qr ?_)
   cases h;exact en Tryz.results13
  refine Bn.of (f:=A1) (l:=f_.Packs) hx8 ?_
  refine nS ?_
  revert h;refine gf (fun hc h=>?_) fun hc h=>?_
  rotate_left
  ·refine j _ _ (qn ?_)
   refine AWP.cond (Ah ?_)
   refine sq (ar rfl (qn (rt (qr (br (qr (qr ?_)))))))
   obtain rfl:=Aa h
   obtain rfl:=Ae hJ8
   replace h:=Am hO8
   refine br (qr ?_)
   cases h;exact en Tryz.results13
  refine Bn.of (f:=A1) (l:=f_.Packs) hx8 ?_
  refine nS ?_
  obtain⟨y11,hy11,h⟩:=Af h
  refine An.pure Tryz.call43 (cL x_10.Pack hy11) rfl fun _ hr=>?_
  subst hr
  refine nS ?_
  refine j _ _ (qn ?_)
  revert h;refine ca rfl (fun hc h=>?_) fun hc h=>?_
  ·refine sq (ar rfl (qn (rt (qr (br (qr (qr ?_)))))))
   obtain rfl:=Aa h
   obtain rfl:=Ae hJ8
   replace h:=Am hO8
   refine br (qr ?_)
   cases h;exact en Tryz.results13
  refine sk (qn (sq ?_))
  refine AWP.draw Tryz.mixed (by kernel_rfl) ?_;intro K j
  refine nS ?_
  revert h;refine gt (fun hc h=>?_) fun hc h=>?_
  ·refine Bn.of (f:=A1) (l:=f_.Packs) hx8 ?_
   refine nS ?_
   obtain⟨x_12,hx_12,h⟩:=Af h
   refine Bn.of (f:=A1) (l:=f_.Packs) hx_12 ?_
   refine nS ?_
   refine j _ _ _ (by kernel_rfl) ?_
   refine qn ?_
   revert h;refine ca rfl (fun hc h=>?_) fun hc h=>?_
   ·refine sq (ar rfl (qn (rt (br (qr (qr ?_))))))
    obtain rfl:=Aa h
    obtain rfl:=Ae hJ8
    replace h:=Am hO8
    refine br (qr ?_)
    cases h;exact en Tryz.results13
   refine sk (bn (qn (ar rfl (qn ?_))))
   obtain rfl:=Aa h
   refine⟨(k8+1,(),()),⟨by dsimp only;omega,Ai hJ8⟩,by dsimp only;omega,?_,?_⟩
   ·exact cuw hw8
   exact cuw hw8
  refine j _ _ _ (by kernel_rfl) ?_
  refine qn ?_
  refine AWP.cond (Bi ?_)
  refine sk (bn (qn (ar rfl (qn ?_))))
  obtain rfl:=Aa h
  refine⟨(k8+1,(),()),⟨by dsimp only;omega,Ai hJ8⟩,by dsimp only;omega,?_,?_⟩
  ·exact cuw hw8
  exact cuw hw8
 rintro⟨⟨⟩,⟨⟩⟩ h
 try dsimp only at h ⊢
 unfold Kh at h;try dsimp only at h
 refine sq (sq (ar rfl (qn (bk ?_))))
 obtain⟨o3,hJ3,hO3⟩:=Af h
 clear h
 refine AWP.Bw (ι:=Nat×(Unit)×(Unit)) (fun zz=>[(1,.ptr 0 0),(8,.int .i64 ((zz.1:Nat):Int))]) (fun zz=>[.box [.sl 2 (f_.Map.Nodes.map A6),.sl 8 (f_.Map.Lifts.map A7),.sl 7 (f_.Map.Runs.map Bc),.sl 1 (f_.Map.Bases.map A5),.sl 2 (f_.Lifts.map Av),.sl 4 (f_.Closures.map Aq),.sl 4 (f_.Patrol.Bt.map Au),.sl 3 (f_.Patrol.Hazards.map Az),.sl 3 (f_.Surfaces.map A3),.sl 5 (f_.Packs.map A1),.sl 6 (f_.Slides.map A9),.sl 7 (f_.Bulletin.map Aw),.sl 7 (f_.Missions.map Ap),.sl 4 (f_.Winches.map Ao),.sl 8 (f_.Groomers.map Ay),.sl 3 (f_.Status.map A4),.int .i64 f_.Depth,.int .i64 f_.Time]]) (fun zz=>zz.1≤f_.Status.length∧Al (Kk f_) zz.1 ((f_.Status).drop zz.1) zz.2.1=some o3) (fun zz=>f_.Status.length - zz.1) (0,(),()) ⟨Nat.zero_le _,hJ3⟩ cu cu (fun x=>⟨rfl,rfl,rfl⟩) ?_
 clear hJ3
 rintro⟨k3,⟨⟩,⟨⟩⟩ ⟨hk3,hJ3⟩
 dsimp only at hk3 hJ3 ⊢
 refine sq (sq ?_)
 refine rg rfl fun K j=>?_
 intro hm
 refine j _ _ (qn ?_)
 refine AWP.cond (Ak (fun hc=>?_) (fun hc=>?_))
 rotate_left
 ·obtain rfl:=Bf hJ3 (fun hl=>by have:=Ai7 hc;omega)
  have h:=Be hO3;try dsimp only at h
  have hkl:f_.Status.length=k3:=by have:=Ai7 hc;omega
  subst hkl
  refine xt (qe (qe (bs (qn (sq (sq ?_))))))
  refine rg rfl fun K j=>?_
  revert h;refine gf (fun hc h=>?_) fun hc h=>?_
  ·revert h;refine gf (fun hc h=>?_) fun hc h=>?_
   ·revert h;refine gf (fun hc h=>?_) fun hc h=>?_
    ·refine j _ _ (qn ?_)
     revert h;refine ca rfl (fun hc h=>?_) fun hc h=>?_
     ·refine sq (ar rfl (qn (rt (qr ?_))))
      cases h;exact en Tryz.results13
     refine sk (qn (sq (ar rfl (qn (rt ?_)))))
     cases h;exact en Tryz.results13
    refine j _ _ (qn ?_)
    refine AWP.cond (Ah ?_)
    refine sq (ar rfl (qn (rt (qr ?_))))
    cases h;exact en Tryz.results13
   refine j _ _ (qn ?_)
   refine AWP.cond (Ah ?_)
   refine sq (ar rfl (qn (rt (qr ?_))))
   cases h;exact en Tryz.results13
  refine j _ _ (qn ?_)
  refine AWP.cond (Ah ?_)
  refine sq (ar rfl (qn (rt (qr ?_))))
  cases h;exact en Tryz.results13
 have hlt3:k3<f_.Status.length:=by have:=Ai8 hc;omega
 obtain⟨x_5,b3,hx3_,h,hJ3⟩:=Ba hJ3 hlt3
 have hx3:=A2 hx3_
 have hw3:=wk (k:=k3) (by omega)
 unfold Kk at h;try dsimp only at h
 refine sk (qn (sq (bk (sq (sq ?_)))))
 refine AWP.draw Tryz.mixed (by kernel_rfl) ?_;intro K j
 refine nS ?_
 revert h;refine gt (fun hc h=>?_) fun hc h=>?_
 ·refine Bn.of (f:=A4) (l:=f_.Status) hx3 ?_
  refine nS ?_
  obtain⟨x_6,hx_6,h⟩:=Af h
  refine Bn.of (f:=A4) (l:=f_.Status) hx_6 ?_
  refine nS ?_
  refine j _ _ _ (by kernel_rfl) ?_
  refine qn ?_
  revert h;refine ca rfl (fun hc h=>?_) fun hc h=>?_
  ·refine sq (ar rfl (qn (rt (qr (br (qr (qr ?_)))))))
   obtain rfl:=Aa h
   obtain rfl:=Ae hJ3
   replace h:=Am hO3
   refine br (qr ?_)
   cases h;exact en Tryz.results13
  refine sk (qn (sq (sq ?_)))
  refine AWP.draw Tryz.mixed (by kernel_rfl) ?_;intro K j
  refine nS ?_
  refine Bn.of (f:=A4) (l:=f_.Status) hx3 ?_
  refine nS ?_
  obtain⟨y7,hy7,h⟩:=Af h
  refine B7.pure Tryz.call32 (Rr f_.Map x_5.Run hy7) rfl ?_
  refine nS ?_
  refine j _ _ _ (by kernel_rfl) ?_
  refine qn (sq (ar rfl (qn ?_)))
  revert h;refine ca rfl (fun hc h=>?_) fun hc h=>?_
  ·refine sq (ar rfl (qn (rt (qr (br (qr (qr ?_)))))))
   obtain rfl:=Aa h
   obtain rfl:=Ae hJ3
   replace h:=Am hO3
   refine br (qr ?_)
   cases h;exact en Tryz.results13
  refine sk (qn (sq ?_))
  refine rg rfl fun K j=>?_
  refine Bn.of (f:=A4) (l:=f_.Status) hx3 ?_
  refine nS ?_
  revert h;refine gf (fun hc h=>?_) fun hc h=>?_
  ·refine Bn.of (f:=A4) (l:=f_.Status) hx3 ?_
   refine nS ?_
   refine j _ _ (qn ?_)
   revert h;refine ca rfl (fun hc h=>?_) fun hc h=>?_
   ·refine sq (ar rfl (qn (rt (br (qr (qr ?_))))))
    obtain rfl:=Aa h
    obtain rfl:=Ae hJ3
    replace h:=Am hO3
    refine br (qr ?_)
    cases h;exact en Tryz.results13
   refine sk (bn (qn (ar rfl (qn ?_))))
   obtain rfl:=Aa h
   refine⟨(k3+1,(),()),⟨by dsimp only;omega,Ai hJ3⟩,by dsimp only;omega,?_,?_⟩
   ·exact cuw hw3
   exact cuw hw3
  refine j _ _ (qn ?_)
  refine AWP.cond (Ah ?_)
  refine sq (ar rfl (qn (rt (br (qr (qr ?_))))))
  obtain rfl:=Aa h
  obtain rfl:=Ae hJ3
  replace h:=Am hO3
  refine br (qr ?_)
  cases h;exact en Tryz.results13
 refine j _ _ _ (by kernel_rfl) ?_
 refine qn ?_
 refine AWP.cond (Bi ?_)
 refine sk (qn (sq (sq ?_)))
 refine AWP.draw Tryz.mixed (by kernel_rfl) ?_;intro K j
 refine nS ?_
 refine Bn.of (f:=A4) (l:=f_.Status) hx3 ?_
 refine nS ?_
 obtain⟨y8,hy8,h⟩:=Af h
 refine B7.pure Tryz.call32 (Rr f_.Map x_5.Run hy8) rfl ?_
 refine nS ?_
 refine j _ _ _ (by kernel_rfl) ?_
 refine qn (sq (ar rfl (qn ?_)))
 revert h;refine ca rfl (fun hc h=>?_) fun hc h=>?_
 ·refine sq (ar rfl (qn (rt (qr (br (qr (qr ?_)))))))
  obtain rfl:=Aa h
  obtain rfl:=Ae hJ3
  replace h:=Am hO3
  refine br (qr ?_)
  cases h;exact en Tryz.results13
 refine sk (qn (sq ?_))
 refine rg rfl fun K j=>?_
 refine Bn.of (f:=A4) (l:=f_.Status) hx3 ?_
 refine nS ?_
 revert h;refine gf (fun hc h=>?_) fun hc h=>?_
 ·refine Bn.of (f:=A4) (l:=f_.Status) hx3 ?_
  refine nS ?_
  refine j _ _ (qn ?_)
  revert h;refine ca rfl (fun hc h=>?_) fun hc h=>?_
  ·refine sq (ar rfl (qn (rt (br (qr (qr ?_))))))
   obtain rfl:=Aa h
   obtain rfl:=Ae hJ3
   replace h:=Am hO3
   refine br (qr ?_)
   cases h;exact en Tryz.results13
  refine sk (bn (qn (ar rfl (qn ?_))))
  obtain rfl:=Aa h
  refine⟨(k3+1,(),()),⟨by dsimp only;omega,Ai hJ3⟩,by dsimp only;omega,?_,?_⟩
  ·exact cuw hw3
  exact cuw hw3
 refine j _ _ (qn ?_)
 refine AWP.cond (Ah ?_)
 refine sq (ar rfl (qn (rt (br (qr (qr ?_))))))
 obtain rfl:=Aa h
 obtain rfl:=Ae hJ3
 replace h:=Am hO3
 refine br (qr ?_)
 cases h;exact en Tryz.results13
def Ky (f_:Aj) (l:List Int):Option (Bool):=
 (bif (decide (((l.length:Nat):Int)≤40))then (Kx f_).bind fun y1=>(bif y1 then(H8 f_).bind fun y2=>some (decide (y2=0))else some false)else some false)
theorem Um (f_:Aj) (l:List Int) {r:Bool} (h:Ky f_ l=some r):Ad Tryz.prog 14 [.agg (B3 f_),.sl 1 (l.map A5)] (·= .bool r):=by
 refine Ad.nle (Ad.intro Tryz.func14 rfl rfl (by show _≤17;simp) ?_)
 unfold Ky at h
 refine nS (sq ?_)
 refine ar rfl (qn (sq ?_))
 refine rg rfl fun K j=>?_
 intro hm
 revert h;refine gt (fun hc h=>?_) fun hc h=>?_
 ·obtain⟨y1,hy1,h⟩:=Af h
  refine An.pure Tryz.call11 (cU f_ hy1) rfl fun _ hr=>?_
  subst hr
  refine nS ?_
  revert h;refine gt (fun hc h=>?_) fun hc h=>?_
  ·obtain⟨y2,hy2,h⟩:=Af h
   refine An.pure Tryz.call13 (bT f_ hy2) rfl fun _ hr=>?_
   subst hr
   refine nS ?_
   refine j _ _ (qn (rt ?_))
   cases h;exact en Tryz.results14
  refine j _ _ (qn (rt ?_))
  cases h;exact en Tryz.results14
 refine j _ _ (qn (rt ?_))
 cases h;exact en Tryz.results14
def M7 (m:Bb) (node:Int):Option (Int):=
 (Ej m node).bind fun y1=>some y1.1.Alt
end
end Go.Proofs.YtjopghiagoidgaaGreat
