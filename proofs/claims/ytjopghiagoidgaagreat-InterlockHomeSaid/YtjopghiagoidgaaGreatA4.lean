/- Our own texts: a layer of abstract values over the model, the walks of the functions, the plain laws; joined and shortened by a small program of our own (wip/dce2.py, wip/pack.py). -/
import Derived.Test.YtjopghiagoidgaaGreatA3
import Derived.Calls
import Derived.Tactics2
import Derived.Below
import Derived.Deep.LoopGhost
import Derived.KernelRfl
import Derived.Laws.Shifts
import Derived.Laws.CopyRow
import Derived.Laws.AppendOwn
import Derived.Laws.MakeOwn
import Derived.Laws.StructEq
import Derived.Maps.RangeRun
import Derived.Lib.SliceRun
import Derived.TacticsIn
import Derived.OrdersIn
import Derived.Sort.LoopGhostIn
import Derived.RangeFuncRecord
import Derived.Orders
import Derived.ProofKit
import Derived.OpenShut
import Derived.ShutString
import Derived.ChangeOld
import Derived.Carry
import Derived.WideShapes
import Derived.ChangeArms
import Derived.ChangeShapes
import Derived.Handed
import Derived.JoinedOf
import Derived.Sort.Grow
import Derived.Lib.SlicesCompact
import Derived.Lib.SlKeysI
import Derived.Maps.Own
import Derived.WideKeyRuns
import Derived.Test.YtjopghiagoidgaaGreatChecked
import Derived.Test.YtjopghiagoidgaaGreatProg
import Derived.Shelf.SortM.Plain
import Derived.Shelf.SortM.SortNone
import Derived.Shelf.SlIterI.Nil
import Derived.Shelf.Slices.CompactI
namespace Go.Proofs.YtjopghiagoidgaaGreat
open Go Go.Ab
attribute [local irreducible] AWP An B7 Ad Go.Ab.Sub alist dlist Bn De D1 Gy
set_option maxRecDepth 100000
set_option maxHeartbeats 4000000
set_option linter.unusedSimpArgs false
set_option linter.unusedVariables false
noncomputable section
def Hk (k1:Nat) (x_3:B5) (sv:(List (Int×Bool))):Option (Out ((List (Int×Bool))) (Int)):=
 (I6 x_3).bind fun y4=>(bif (!y4)then some (Out.ret 2)else (bif (mget false sv x_3.ID)then some (Out.ret 7)else (bif ((decide (x_3.To≠0)) !=(decide (x_3.State=1)))then some (Out.ret 10)else (bif ((decide (x_3.Run≠0)) !=(decide (x_3.State=2)))then some (Out.ret 10)else some (Out.next (mset sv x_3.ID true))))))
def Md (l:List B5):Option (Int):=
 (bif (decide (16<((l.length:Nat):Int)))then some 4 else(Am Hk 0 l []).bind fun o1=>o1.on fun s1=>some 0)
theorem Zj (l:List B5) {r:Int} (h:Md l=some r):Ad Tryz.prog 82 [.sl 8 (l.map A1)] (·= .int .i64 r):=by
 refine Ad.nle (Ad.intro Tryz.func82 rfl rfl (by show _≤43;simp) ?_)
 unfold Md at h
 refine nS (sq ?_)
 refine ar rfl (qn (sq (sq ?_)))
 refine rg rfl fun K j=>?_
 intro hm
 refine j _ _ (qn ?_)
 revert h;refine ca rfl (fun hc h=>?_) fun hc h=>?_
 ·refine sq (ar rfl (qn (rt (qr ?_))))
  cases h;exact en Tryz.results82
 refine sk (qn (sq (ar rfl (qn (sq (sq ?_))))))
 refine rg rfl fun K j=>?_
 intro hm
 refine j _ _ (qn (bk ?_))
 obtain⟨o1,hJ1,hO1⟩:=Af h
 clear h
 refine AWP.Bw (ι:=Nat×((List (Int×Bool)))×(Unit)) (fun zz=>[(3,.map 0),(10,.sl 8 (l.map A1)),(11,.int .i64 ((l.length:Nat):Int)),(12,.int .i64 ((zz.1:Nat):Int))]) (fun zz=>[.mp (mpE Yy zz.2.1)]) (fun zz=>zz.1≤l.length∧Am Hk zz.1 ((l).drop zz.1) zz.2.1=some o1) (fun zz=>l.length - zz.1) (0,[],()) ⟨Nat.zero_le _,hJ1⟩ cu cu (fun x=>⟨rfl,rfl,rfl⟩) ?_
 clear hJ1
 rintro⟨k1,seen1,⟨⟩⟩ ⟨hk1,hJ1⟩
 dsimp only at hk1 hJ1 ⊢
 refine sq (ar rfl (qn (sq ?_)))
 refine AWP.cond (Ak (fun hc=>?_) (fun hc=>?_))
 rotate_left
 ·obtain rfl:=Bf hJ1 (fun hl=>by have:=Aiz hc;omega)
  have h:=Be hO1;try dsimp only at h
  have hkl:l.length=k1:=by have:=Aiz hc;omega
  subst hkl
  refine xt (qe (qe (bs (qn (sq (ar rfl (qn (rt ?_))))))))
  cases h;exact en Tryz.results82
 have hlt1:k1<l.length:=by have:=Ai0 hc;omega
 obtain⟨x_3,b1,hx1_,h,hJ1⟩:=A9 hJ1 hlt1
 have hx1:=Ay hx1_
 have hw1:=wk (k:=k1) (by omega)
 unfold Hk at h;try dsimp only at h
 refine sk (qn (sq (bk (sq ?_))))
 refine rg rfl fun K j=>?_
 refine Bn.of (f:=A1) (l:=l) hx1 ?_
 refine nS ?_
 refine j _ _ (qn (sq (sq ?_)))
 refine rg rfl fun K j=>?_
 obtain⟨y4,hy4,h⟩:=Af h
 refine An.pure Tryz.call175 (Wy x_3 hy4) rfl fun _ hr=>?_
 subst hr
 refine nS ?_
 refine j _ _ (qn ?_)
 revert h;refine ca rfl (fun hc h=>?_) fun hc h=>?_
 ·refine sq (ar rfl (qn (rt (qr (br (qr (qr ?_)))))))
  obtain rfl:=Aa h
  obtain rfl:=Ae hJ1
  replace h:=Al hO1
  refine br (qr ?_)
  cases h;exact en Tryz.results82
 refine sk (qn (sq (sq ?_)))
 refine rg rfl fun K j=>?_
 refine D1.of (f:=Yy) (m:=seen1) (d:=false) rfl ?_
 refine nS ?_
 refine j _ _ (qn ?_)
 revert h;refine ca rfl (fun hc h=>?_) fun hc h=>?_
 ·refine sq (ar rfl (qn (rt (qr (br (qr (qr ?_)))))))
  obtain rfl:=Aa h
  obtain rfl:=Ae hJ1
  replace h:=Al hO1
  refine br (qr ?_)
  cases h;exact en Tryz.results82
 refine sk (qn (sq (ar rfl (qn (sq ?_)))))
 refine rg rfl fun K j=>?_
 revert h;refine gf (fun hc h=>?_) fun hc h=>?_
 ·refine j _ _ (qn ?_)
  revert h;refine ca rfl (fun hc h=>?_) fun hc h=>?_
  ·refine sq (ar rfl (qn (rt (br (qr (qr ?_))))))
   obtain rfl:=Aa h
   obtain rfl:=Ae hJ1
   replace h:=Al hO1
   refine br (qr ?_)
   cases h;exact en Tryz.results82
  refine sk (bn (qn (ar rfl (qn ?_))))
  obtain rfl:=Aa h
  refine⟨(k1+1,(mset seen1 x_3.ID true),()),⟨by dsimp only;omega,Ai hJ1⟩,by dsimp only;omega,?_,?_⟩
  ·exact cuw hw1
  exact cuw hw1
 refine j _ _ (qn ?_)
 refine AWP.cond (Ah ?_)
 refine sq (ar rfl (qn (rt (br (qr (qr ?_))))))
 obtain rfl:=Aa h
 obtain rfl:=Ae hJ1
 replace h:=Al hO1
 refine br (qr ?_)
 cases h;exact en Tryz.results82
def E5 (f_:Aj):Option (Int):=
 (Lz f_.Map).bind fun y1=>(bif (decide (y1≠0))then some y1 else(Mf f_.Closures).bind fun y2=>(bif (decide (y2≠0))then some y2 else(N7 f_.Patrol).bind fun y3=>(bif (decide (y3≠0))then some y3 else(L0 f_.Surfaces).bind fun y4=>(bif (decide (y4≠0))then some y4 else(I9 f_.Slides).bind fun y5=>(bif (decide (y5≠0))then some y5 else(Ho f_.Bulletin).bind fun y6=>(bif (decide (y6≠0))then some y6 else(P4 f_.Missions).bind fun y7=>(bif (decide (y7≠0))then some y7 else(Pn f_.Winches).bind fun y8=>(bif (decide (y8≠0))then some y8 else(Md f_.Groomers).bind fun y9=>some y9))))))))
theorem Se (f_:Aj) {r:Int} (h:E5 f_=some r):Ad Tryz.prog 37 [.agg (B3 f_)] (·= .int .i64 r):=by
 refine Ad.nle (Ad.intro Tryz.func37 rfl rfl (by show _≤62;simp) ?_)
 unfold E5 at h
 refine nS (sq ?_)
 refine ar rfl (qn (sq (sq ?_)))
 refine rg rfl fun K j=>?_
 obtain⟨y1,hy1,h⟩:=Af h
 refine An.pure Tryz.call74 (Y3 f_.Map hy1) rfl fun _ hr=>?_
 subst hr
 refine nS ?_
 refine j _ _ (qn (sq ?_))
 refine ar rfl (qn ?_)
 revert h;refine ca rfl (fun hc h=>?_) fun hc h=>?_
 ·refine sq (ar rfl (qn (rt (qr ?_))))
  cases h;exact en Tryz.results37
 refine sk (qn (sq (sq ?_)))
 refine rg rfl fun K j=>?_
 obtain⟨y2,hy2,h⟩:=Af h
 refine An.pure Tryz.call75 (Zo f_.Closures hy2) rfl fun _ hr=>?_
 subst hr
 refine nS ?_
 refine j _ _ (qn (sq ?_))
 refine ar rfl (qn ?_)
 revert h;refine ca rfl (fun hc h=>?_) fun hc h=>?_
 ·refine sq (ar rfl (qn (rt (qr ?_))))
  cases h;exact en Tryz.results37
 refine sk (qn (sq (sq ?_)))
 refine rg rfl fun K j=>?_
 obtain⟨y3,hy3,h⟩:=Af h
 refine An.pure Tryz.call76 (Z7 f_.Patrol hy3) rfl fun _ hr=>?_
 subst hr
 refine nS ?_
 refine j _ _ (qn (sq ?_))
 refine ar rfl (qn ?_)
 revert h;refine ca rfl (fun hc h=>?_) fun hc h=>?_
 ·refine sq (ar rfl (qn (rt (qr ?_))))
  cases h;exact en Tryz.results37
 refine sk (qn (sq (sq ?_)))
 refine rg rfl fun K j=>?_
 obtain⟨y4,hy4,h⟩:=Af h
 refine An.pure Tryz.call77 (Y5 f_.Surfaces hy4) rfl fun _ hr=>?_
 subst hr
 refine nS ?_
 refine j _ _ (qn (sq ?_))
 refine ar rfl (qn ?_)
 revert h;refine ca rfl (fun hc h=>?_) fun hc h=>?_
 ·refine sq (ar rfl (qn (rt (qr ?_))))
  cases h;exact en Tryz.results37
 refine sk (qn (sq (sq ?_)))
 refine rg rfl fun K j=>?_
 obtain⟨y5,hy5,h⟩:=Af h
 refine An.pure Tryz.call78 (Xf f_.Slides hy5) rfl fun _ hr=>?_
 subst hr
 refine nS ?_
 refine j _ _ (qn (sq ?_))
 refine ar rfl (qn ?_)
 revert h;refine ca rfl (fun hc h=>?_) fun hc h=>?_
 ·refine sq (ar rfl (qn (rt (qr ?_))))
  cases h;exact en Tryz.results37
 refine sk (qn (sq (sq ?_)))
 refine rg rfl fun K j=>?_
 obtain⟨y6,hy6,h⟩:=Af h
 refine An.pure Tryz.call79 (Ym f_.Bulletin hy6) rfl fun _ hr=>?_
 subst hr
 refine nS ?_
 refine j _ _ (qn (sq ?_))
 refine ar rfl (qn ?_)
 revert h;refine ca rfl (fun hc h=>?_) fun hc h=>?_
 ·refine sq (ar rfl (qn (rt (qr ?_))))
  cases h;exact en Tryz.results37
 refine sk (qn (sq (sq ?_)))
 refine rg rfl fun K j=>?_
 obtain⟨y7,hy7,h⟩:=Af h
 refine An.pure Tryz.call80 (c9 f_.Missions hy7) rfl fun _ hr=>?_
 subst hr
 refine nS ?_
 refine j _ _ (qn (sq ?_))
 refine ar rfl (qn ?_)
 revert h;refine ca rfl (fun hc h=>?_) fun hc h=>?_
 ·refine sq (ar rfl (qn (rt (qr ?_))))
  cases h;exact en Tryz.results37
 refine sk (qn (sq (sq ?_)))
 refine rg rfl fun K j=>?_
 obtain⟨y8,hy8,h⟩:=Af h
 refine An.pure Tryz.call81 (bD f_.Winches hy8) rfl fun _ hr=>?_
 subst hr
 refine nS ?_
 refine j _ _ (qn (sq ?_))
 refine ar rfl (qn ?_)
 revert h;refine ca rfl (fun hc h=>?_) fun hc h=>?_
 ·refine sq (ar rfl (qn (rt (qr ?_))))
  cases h;exact en Tryz.results37
 refine sk (qn (sq ?_))
 refine rg rfl fun K j=>?_
 obtain⟨y9,hy9,h⟩:=Af h
 refine An.pure Tryz.call82 (Zj f_.Groomers hy9) rfl fun _ hr=>?_
 subst hr
 refine nS ?_
 refine j _ _ (qn (rt ?_))
 cases h;exact en Tryz.results37
def P9 (id_:Int) (k0:Nat) (x_2:Cc) (sv:Unit):Option (Out (Unit) (Cc×Bool)):=
 (bif (decide (x_2.ID=id_))then some (Out.ret (x_2,true))else some (Out.next ()))
def Nq (m:Bb) (id_:Int):Option (Cc×Bool):=
 (Am (P9 id_) 0 m.Lifts ()).bind fun o0=>o0.on fun s0=>some ((Cc.mk 0 0 0 0 0 0 0 0),false)
theorem Si (m:Bb) (id_:Int) {r:Cc×Bool} (h:Nq m id_=some r):Ad Tryz.prog 83 [.agg (Cd m),.int .i64 id_] (·= .tuple [.agg (A7 r.1),.bool r.2]):=by
 refine Ad.nle (Ad.intro Tryz.func83 rfl rfl (by show _≤22;simp) ?_)
 unfold Nq at h
 refine nS (sq ?_)
 refine ar rfl (qn (sq (sq ?_)))
 refine rg rfl fun K j=>?_
 intro hm
 refine j _ _ (qn (bk ?_))
 obtain⟨o0,hJ0,hO0⟩:=Af h
 clear h
 refine AWP.Bw (ι:=Nat×(Unit)×(Unit)) (fun zz=>[(1,.int .i64 id_),(4,.ptr 1 0),(9,.sl 8 (m.Lifts.map A7)),(10,.int .i64 ((m.Lifts.length:Nat):Int)),(11,.int .i64 ((zz.1:Nat):Int))]) (fun zz=>[.gone,.box [.int .i64 0,.int .i64 0,.int .i64 0,.int .i64 0,.int .i64 0,.int .i64 0,.int .i64 0,.int .i64 0]]) (fun zz=>zz.1≤m.Lifts.length∧Am (P9 id_) zz.1 ((m.Lifts).drop zz.1) zz.2.1=some o0) (fun zz=>m.Lifts.length - zz.1) (0,(),()) ⟨Nat.zero_le _,hJ0⟩ cu cu (fun x=>⟨rfl,rfl,rfl⟩) ?_
 clear hJ0
 rintro⟨k0,⟨⟩,⟨⟩⟩ ⟨hk0,hJ0⟩
 dsimp only at hk0 hJ0 ⊢
 refine sq (ar rfl (qn (sq ?_)))
 refine AWP.cond (Ak (fun hc=>?_) (fun hc=>?_))
 rotate_left
 ·obtain rfl:=Bf hJ0 (fun hl=>by have:=Aiz hc;omega)
  have h:=Be hO0;try dsimp only at h
  have hkl:m.Lifts.length=k0:=by have:=Aiz hc;omega
  subst hkl
  refine xt (qe (qe (bs (qn (sq (ar rfl (qn (rt ?_))))))))
  cases h;exact en Tryz.results83
 have hlt0:k0<m.Lifts.length:=by have:=Ai0 hc;omega
 obtain⟨x_2,b0,hx0_,h,hJ0⟩:=A9 hJ0 hlt0
 have hx0:=Ay hx0_
 have hw0:=wk (k:=k0) (by omega)
 unfold P9 at h;try dsimp only at h
 refine sk (qn (sq (bk (sq ?_))))
 refine rg rfl fun K j=>?_
 refine Bn.of (f:=A7) (l:=m.Lifts) hx0 ?_
 refine nS ?_
 refine j _ _ (qn (sq ?_))
 refine ar rfl (qn ?_)
 revert h;refine ca rfl (fun hc h=>?_) fun hc h=>?_
 ·refine sq (ar rfl (qn (rt (br (qr (qr ?_))))))
  obtain rfl:=Aa h
  obtain rfl:=Ae hJ0
  replace h:=Al hO0
  refine br (qr ?_)
  cases h;exact en Tryz.results83
 refine sk (bn (qn (ar rfl (qn ?_))))
 obtain rfl:=Aa h
 refine⟨(k0+1,(),()),⟨by dsimp only;omega,Ai hJ0⟩,by dsimp only;omega,?_,?_⟩
 ·exact cuw hw0
 exact cuw hw0
def D6 (f_:Aj) (k0:Nat) (x_2:Cr) (sv:Unit):Option (Out (Unit) (Int)):=
 (bif (decide (0<((k0:Nat):Int)))then (Dk f_.Lifts (IntKind.i64.wrap (((k0:Nat):Int) - 1))).bind fun x_3=>(bif (decide (x_2.Lift≤x_3.Lift))then some (Out.ret 11)else (Nq f_.Map x_2.Lift).bind fun y4=>(bif (!y4.2)then some (Out.ret 8)else (bif (decide (x_2.Mode<0))then some (Out.ret 2)else (bif (decide (3<x_2.Mode))then some (Out.ret 2)else some (Out.next ())))))else (Nq f_.Map x_2.Lift).bind fun y5=>(bif (!y5.2)then some (Out.ret 8)else (bif (decide (x_2.Mode<0))then some (Out.ret 2)else (bif (decide (3<x_2.Mode))then some (Out.ret 2)else some (Out.next ())))))
def Gj (f_:Aj):Option (Int):=
 (Am (D6 f_) 0 f_.Lifts ()).bind fun o0=>o0.on fun s0=>some 0
theorem Sg (f_:Aj) {r:Int} (h:Gj f_=some r):Ad Tryz.prog 38 [.agg (B3 f_)] (·= .int .i64 r):=by
 refine Ad.nle (Ad.intro Tryz.func38 rfl rfl (by show _≤48;simp) ?_)
 unfold Gj at h
 refine nS (sq ?_)
 refine ar rfl (qn (sq (sq ?_)))
 refine rg rfl fun K j=>?_
 intro hm
 refine j _ _ (qn (bk ?_))
 obtain⟨o0,hJ0,hO0⟩:=Af h
 clear h
 refine AWP.Bw (ι:=Nat×(Unit)×(Unit)) (fun zz=>[(1,.ptr 0 0),(8,.sl 2 (f_.Lifts.map Aw)),(9,.int .i64 ((f_.Lifts.length:Nat):Int)),(10,.int .i64 ((zz.1:Nat):Int))]) (fun zz=>[.box [.sl 2 (f_.Map.Nodes.map A6),.sl 8 (f_.Map.Lifts.map A7),.sl 7 (f_.Map.Runs.map Bc),.sl 1 (f_.Map.Bases.map A2),.sl 2 (f_.Lifts.map Aw),.sl 4 (f_.Closures.map Au),.sl 4 (f_.Patrol.Bu.map Av),.sl 3 (f_.Patrol.Hazards.map Az),.sl 3 (f_.Surfaces.map A4),.sl 5 (f_.Packs.map A3),.sl 6 (f_.Slides.map Ba),.sl 7 (f_.Bulletin.map Ax),.sl 7 (f_.Missions.map Ap),.sl 4 (f_.Winches.map Ao),.sl 8 (f_.Groomers.map A1),.sl 3 (f_.Status.map A5),.int .i64 f_.Depth,.int .i64 f_.Time]]) (fun zz=>zz.1≤f_.Lifts.length∧Am (D6 f_) zz.1 ((f_.Lifts).drop zz.1) zz.2.1=some o0) (fun zz=>f_.Lifts.length - zz.1) (0,(),()) ⟨Nat.zero_le _,hJ0⟩ cu cu (fun x=>⟨rfl,rfl,rfl⟩) ?_
 clear hJ0
 rintro⟨k0,⟨⟩,⟨⟩⟩ ⟨hk0,hJ0⟩
 dsimp only at hk0 hJ0 ⊢
 refine sq (ar rfl (qn (sq ?_)))
 refine AWP.cond (Ak (fun hc=>?_) (fun hc=>?_))
 rotate_left
 ·obtain rfl:=Bf hJ0 (fun hl=>by have:=Aiz hc;omega)
  have h:=Be hO0;try dsimp only at h
  have hkl:f_.Lifts.length=k0:=by have:=Aiz hc;omega
  subst hkl
  refine xt (qe (qe (bs (qn (sq (ar rfl (qn (rt ?_))))))))
  cases h;exact en Tryz.results38
 have hlt0:k0<f_.Lifts.length:=by have:=Ai0 hc;omega
 obtain⟨x_2,b0,hx0_,h,hJ0⟩:=A9 hJ0 hlt0
 have hx0:=Ay hx0_
 have hw0:=wk (k:=k0) (by omega)
 unfold D6 at h;try dsimp only at h
 refine sk (qn (sq (bk (sq ?_))))
 refine rg rfl fun K j=>?_
 refine Bn.of (f:=Aw) (l:=f_.Lifts) hx0 ?_
 refine nS ?_
 refine j _ _ (qn (sq (sq ?_)))
 refine AWP.draw Tryz.mixed (by kernel_rfl) ?_;intro K j
 refine nS ?_
 revert h;refine gt (fun hc h=>?_) fun hc h=>?_
 ·obtain⟨x_3,hx_3,h⟩:=Af h
  refine Bn.of (f:=Aw) (l:=f_.Lifts) hx_3 ?_
  refine nS ?_
  refine j _ _ _ (by kernel_rfl) ?_
  refine qn ?_
  revert h;refine ca rfl (fun hc h=>?_) fun hc h=>?_
  ·refine sq (ar rfl (qn (rt (qr (br (qr (qr ?_)))))))
   obtain rfl:=Aa h
   obtain rfl:=Ae hJ0
   replace h:=Al hO0
   refine br (qr ?_)
   cases h;exact en Tryz.results38
  refine sk (qn (sq (sq ?_)))
  refine rg rfl fun K j=>?_
  obtain⟨y4,hy4,h⟩:=Af h
  refine An.pure Tryz.call83 (Si f_.Map x_2.Lift hy4) rfl fun _ hr=>?_
  subst hr
  refine nS ?_
  refine j _ _ (qn (sq ?_))
  refine ar rfl (qn ?_)
  revert h;refine ca rfl (fun hc h=>?_) fun hc h=>?_
  ·refine sq (ar rfl (qn (rt (qr (br (qr (qr ?_)))))))
   obtain rfl:=Aa h
   obtain rfl:=Ae hJ0
   replace h:=Al hO0
   refine br (qr ?_)
   cases h;exact en Tryz.results38
  refine sk (qn (sq ?_))
  refine rg rfl fun K j=>?_
  revert h;refine gf (fun hc h=>?_) fun hc h=>?_
  ·refine j _ _ (qn ?_)
   revert h;refine ca rfl (fun hc h=>?_) fun hc h=>?_
   ·refine sq (ar rfl (qn (rt (br (qr (qr ?_))))))
    obtain rfl:=Aa h
    obtain rfl:=Ae hJ0
    replace h:=Al hO0
    refine br (qr ?_)
    cases h;exact en Tryz.results38
   refine sk (bn (qn (ar rfl (qn ?_))))
   obtain rfl:=Aa h
   refine⟨(k0+1,(),()),⟨by dsimp only;omega,Ai hJ0⟩,by dsimp only;omega,?_,?_⟩
   ·exact cuw hw0
   exact cuw hw0
  refine j _ _ (qn ?_)
  refine AWP.cond (Ah ?_)
  refine sq (ar rfl (qn (rt (br (qr (qr ?_))))))
  obtain rfl:=Aa h
  obtain rfl:=Ae hJ0
  replace h:=Al hO0
  refine br (qr ?_)
  cases h;exact en Tryz.results38
 refine j _ _ _ (by kernel_rfl) ?_
 refine qn ?_
 refine AWP.cond (Bk ?_)
 refine sk (qn (sq (sq ?_)))
 refine rg rfl fun K j=>?_
 obtain⟨y5,hy5,h⟩:=Af h
 refine An.pure Tryz.call83 (Si f_.Map x_2.Lift hy5) rfl fun _ hr=>?_
 subst hr
 refine nS ?_
 refine j _ _ (qn (sq ?_))
 refine ar rfl (qn ?_)
 revert h;refine ca rfl (fun hc h=>?_) fun hc h=>?_
 ·refine sq (ar rfl (qn (rt (qr (br (qr (qr ?_)))))))
  obtain rfl:=Aa h
  obtain rfl:=Ae hJ0
  replace h:=Al hO0
  refine br (qr ?_)
  cases h;exact en Tryz.results38
 refine sk (qn (sq ?_))
 refine rg rfl fun K j=>?_
 revert h;refine gf (fun hc h=>?_) fun hc h=>?_
 ·refine j _ _ (qn ?_)
  revert h;refine ca rfl (fun hc h=>?_) fun hc h=>?_
  ·refine sq (ar rfl (qn (rt (br (qr (qr ?_))))))
   obtain rfl:=Aa h
   obtain rfl:=Ae hJ0
   replace h:=Al hO0
   refine br (qr ?_)
   cases h;exact en Tryz.results38
  refine sk (bn (qn (ar rfl (qn ?_))))
  obtain rfl:=Aa h
  refine⟨(k0+1,(),()),⟨by dsimp only;omega,Ai hJ0⟩,by dsimp only;omega,?_,?_⟩
  ·exact cuw hw0
  exact cuw hw0
 refine j _ _ (qn ?_)
 refine AWP.cond (Ah ?_)
 refine sq (ar rfl (qn (rt (br (qr (qr ?_))))))
 obtain rfl:=Aa h
 obtain rfl:=Ae hJ0
 replace h:=Al hO0
 refine br (qr ?_)
 cases h;exact en Tryz.results38
def D5 (f_:Aj) (k0:Nat) (x_2:C5) (sv:Unit):Option (Out (Unit) (Int)):=
 (bif (decide (x_2.Area<1))then some (Out.ret 2)else (bif (decide (10000000<x_2.Area))then some (Out.ret 2)else (J7 x_2.Pack).bind fun y3=>(bif (!y3)then some (Out.ret 2)else (bif (decide (0<((k0:Nat):Int)))then (Dk f_.Packs (IntKind.i64.wrap (((k0:Nat):Int) - 1))).bind fun x_4=>(bif (decide (x_2.Run≤x_4.Run))then some (Out.ret 11)else some (Out.next ()))else some (Out.next ())))))
def Gi (f_:Aj):Option (Int):=
 (Am (D5 f_) 0 f_.Packs ()).bind fun o0=>o0.on fun s0=>some 0
theorem Sf (f_:Aj) {r:Int} (h:Gi f_=some r):Ad Tryz.prog 39 [.agg (B3 f_)] (·= .int .i64 r):=by
 refine Ad.nle (Ad.intro Tryz.func39 rfl rfl (by show _≤42;simp) ?_)
 unfold Gi at h
 refine nS (sq ?_)
 refine ar rfl (qn (sq (sq ?_)))
 refine rg rfl fun K j=>?_
 intro hm
 refine j _ _ (qn (bk ?_))
 obtain⟨o0,hJ0,hO0⟩:=Af h
 clear h
 refine AWP.Bw (ι:=Nat×(Unit)×(Unit)) (fun zz=>[(1,.ptr 0 0),(6,.sl 5 (f_.Packs.map A3)),(7,.int .i64 ((f_.Packs.length:Nat):Int)),(8,.int .i64 ((zz.1:Nat):Int))]) (fun zz=>[.box [.sl 2 (f_.Map.Nodes.map A6),.sl 8 (f_.Map.Lifts.map A7),.sl 7 (f_.Map.Runs.map Bc),.sl 1 (f_.Map.Bases.map A2),.sl 2 (f_.Lifts.map Aw),.sl 4 (f_.Closures.map Au),.sl 4 (f_.Patrol.Bu.map Av),.sl 3 (f_.Patrol.Hazards.map Az),.sl 3 (f_.Surfaces.map A4),.sl 5 (f_.Packs.map A3),.sl 6 (f_.Slides.map Ba),.sl 7 (f_.Bulletin.map Ax),.sl 7 (f_.Missions.map Ap),.sl 4 (f_.Winches.map Ao),.sl 8 (f_.Groomers.map A1),.sl 3 (f_.Status.map A5),.int .i64 f_.Depth,.int .i64 f_.Time]]) (fun zz=>zz.1≤f_.Packs.length∧Am (D5 f_) zz.1 ((f_.Packs).drop zz.1) zz.2.1=some o0) (fun zz=>f_.Packs.length - zz.1) (0,(),()) ⟨Nat.zero_le _,hJ0⟩ cu cu (fun x=>⟨rfl,rfl,rfl⟩) ?_
 clear hJ0
 rintro⟨k0,⟨⟩,⟨⟩⟩ ⟨hk0,hJ0⟩
 dsimp only at hk0 hJ0 ⊢
 refine sq (ar rfl (qn (sq ?_)))
 refine AWP.cond (Ak (fun hc=>?_) (fun hc=>?_))
 rotate_left
 ·obtain rfl:=Bf hJ0 (fun hl=>by have:=Aiz hc;omega)
  have h:=Be hO0;try dsimp only at h
  have hkl:f_.Packs.length=k0:=by have:=Aiz hc;omega
  subst hkl
  refine xt (qe (qe (bs (qn (sq (ar rfl (qn (rt ?_))))))))
  cases h;exact en Tryz.results39
 have hlt0:k0<f_.Packs.length:=by have:=Ai0 hc;omega
 obtain⟨x_2,b0,hx0_,h,hJ0⟩:=A9 hJ0 hlt0
 have hx0:=Ay hx0_
 have hw0:=wk (k:=k0) (by omega)
 unfold D5 at h;try dsimp only at h
 refine sk (qn (sq (bk (sq ?_))))
 refine rg rfl fun K j=>?_
 refine Bn.of (f:=A3) (l:=f_.Packs) hx0 ?_
 refine nS ?_
 refine j _ _ (qn (sq (sq ?_)))
 refine rg rfl fun K j=>?_
 revert h;refine gf (fun hc h=>?_) fun hc h=>?_
 rotate_left
 ·refine j _ _ (qn ?_)
  refine AWP.cond (Ah ?_)
  refine sq (ar rfl (qn (rt (qr (br (qr (qr ?_)))))))
  obtain rfl:=Aa h
  obtain rfl:=Ae hJ0
  replace h:=Al hO0
  refine br (qr ?_)
  cases h;exact en Tryz.results39
 revert h;refine gf (fun hc h=>?_) fun hc h=>?_
 rotate_left
 ·refine j _ _ (qn ?_)
  refine AWP.cond (Ah ?_)
  refine sq (ar rfl (qn (rt (qr (br (qr (qr ?_)))))))
  obtain rfl:=Aa h
  obtain rfl:=Ae hJ0
  replace h:=Al hO0
  refine br (qr ?_)
  cases h;exact en Tryz.results39
 obtain⟨y3,hy3,h⟩:=Af h
 refine An.pure Tryz.call84 (Qk x_2.Pack hy3) rfl fun _ hr=>?_
 subst hr
 refine nS ?_
 refine j _ _ (qn ?_)
 revert h;refine ca rfl (fun hc h=>?_) fun hc h=>?_
 ·refine sq (ar rfl (qn (rt (qr (br (qr (qr ?_)))))))
  obtain rfl:=Aa h
  obtain rfl:=Ae hJ0
  replace h:=Al hO0
  refine br (qr ?_)
  cases h;exact en Tryz.results39
 refine sk (qn (sq ?_))
 refine AWP.draw Tryz.mixed (by kernel_rfl) ?_;intro K j
 refine nS ?_
 revert h;refine gt (fun hc h=>?_) fun hc h=>?_
 ·obtain⟨x_4,hx_4,h⟩:=Af h
  refine Bn.of (f:=A3) (l:=f_.Packs) hx_4 ?_
  refine nS ?_
  refine j _ _ _ (by kernel_rfl) ?_
  refine qn ?_
  revert h;refine ca rfl (fun hc h=>?_) fun hc h=>?_
  ·refine sq (ar rfl (qn (rt (br (qr (qr ?_))))))
   obtain rfl:=Aa h
   obtain rfl:=Ae hJ0
   replace h:=Al hO0
   refine br (qr ?_)
   cases h;exact en Tryz.results39
  refine sk (bn (qn (ar rfl (qn ?_))))
  obtain rfl:=Aa h
  refine⟨(k0+1,(),()),⟨by dsimp only;omega,Ai hJ0⟩,by dsimp only;omega,?_,?_⟩
  ·exact cuw hw0
  exact cuw hw0
 refine j _ _ _ (by kernel_rfl) ?_
 refine qn ?_
 refine AWP.cond (Bk ?_)
 refine sk (bn (qn (ar rfl (qn ?_))))
 obtain rfl:=Aa h
 refine⟨(k0+1,(),()),⟨by dsimp only;omega,Ai hJ0⟩,by dsimp only;omega,?_,?_⟩
 ·exact cuw hw0
 exact cuw hw0
def Dw (f_:Aj) (k0:Nat) (x_2:Bi) (sv:Unit):Option (Out (Unit) (Int)):=
 (bif (decide (0<((k0:Nat):Int)))then (Dk f_.Status (IntKind.i64.wrap (((k0:Nat):Int) - 1))).bind fun x_3=>(bif (decide (x_2.Run≤x_3.Run))then some (Out.ret 11)else (E0 f_.Map x_2.Run).bind fun y4=>(bif (!y4.2)then some (Out.ret 8)else (bif (decide (x_2.Since<0))then some (Out.ret 2)else (bif (decide (20000000<x_2.Since))then some (Out.ret 2)else some (Out.next ())))))else (E0 f_.Map x_2.Run).bind fun y5=>(bif (!y5.2)then some (Out.ret 8)else (bif (decide (x_2.Since<0))then some (Out.ret 2)else (bif (decide (20000000<x_2.Since))then some (Out.ret 2)else some (Out.next ())))))
def F9 (f_:Aj):Option (Int):=
 (Am (Dw f_) 0 f_.Status ()).bind fun o0=>o0.on fun s0=>some 0
theorem Rx (f_:Aj) {r:Int} (h:F9 f_=some r):Ad Tryz.prog 40 [.agg (B3 f_)] (·= .int .i64 r):=by
 refine Ad.nle (Ad.intro Tryz.func40 rfl rfl (by show _≤48;simp) ?_)
 unfold F9 at h
 refine nS (sq ?_)
 refine ar rfl (qn (sq (sq ?_)))
 refine rg rfl fun K j=>?_
 intro hm
 refine j _ _ (qn (bk ?_))
 obtain⟨o0,hJ0,hO0⟩:=Af h
 clear h
 refine AWP.Bw (ι:=Nat×(Unit)×(Unit)) (fun zz=>[(1,.ptr 0 0),(8,.sl 3 (f_.Status.map A5)),(9,.int .i64 ((f_.Status.length:Nat):Int)),(10,.int .i64 ((zz.1:Nat):Int))]) (fun zz=>[.box [.sl 2 (f_.Map.Nodes.map A6),.sl 8 (f_.Map.Lifts.map A7),.sl 7 (f_.Map.Runs.map Bc),.sl 1 (f_.Map.Bases.map A2),.sl 2 (f_.Lifts.map Aw),.sl 4 (f_.Closures.map Au),.sl 4 (f_.Patrol.Bu.map Av),.sl 3 (f_.Patrol.Hazards.map Az),.sl 3 (f_.Surfaces.map A4),.sl 5 (f_.Packs.map A3),.sl 6 (f_.Slides.map Ba),.sl 7 (f_.Bulletin.map Ax),.sl 7 (f_.Missions.map Ap),.sl 4 (f_.Winches.map Ao),.sl 8 (f_.Groomers.map A1),.sl 3 (f_.Status.map A5),.int .i64 f_.Depth,.int .i64 f_.Time]]) (fun zz=>zz.1≤f_.Status.length∧Am (Dw f_) zz.1 ((f_.Status).drop zz.1) zz.2.1=some o0) (fun zz=>f_.Status.length - zz.1) (0,(),()) ⟨Nat.zero_le _,hJ0⟩ cu cu (fun x=>⟨rfl,rfl,rfl⟩) ?_
 clear hJ0
 rintro⟨k0,⟨⟩,⟨⟩⟩ ⟨hk0,hJ0⟩
 dsimp only at hk0 hJ0 ⊢
 refine sq (ar rfl (qn (sq ?_)))
 refine AWP.cond (Ak (fun hc=>?_) (fun hc=>?_))
 rotate_left
 ·obtain rfl:=Bf hJ0 (fun hl=>by have:=Aiz hc;omega)
  have h:=Be hO0;try dsimp only at h
  have hkl:f_.Status.length=k0:=by have:=Aiz hc;omega
  subst hkl
  refine xt (qe (qe (bs (qn (sq (ar rfl (qn (rt ?_))))))))
  cases h;exact en Tryz.results40
 have hlt0:k0<f_.Status.length:=by have:=Ai0 hc;omega
 obtain⟨x_2,b0,hx0_,h,hJ0⟩:=A9 hJ0 hlt0
 have hx0:=Ay hx0_
 have hw0:=wk (k:=k0) (by omega)
 unfold Dw at h;try dsimp only at h
 refine sk (qn (sq (bk (sq ?_))))
 refine rg rfl fun K j=>?_
 refine Bn.of (f:=A5) (l:=f_.Status) hx0 ?_
 refine nS ?_
 refine j _ _ (qn (sq (sq ?_)))
 refine AWP.draw Tryz.mixed (by kernel_rfl) ?_;intro K j
 refine nS ?_
 revert h;refine gt (fun hc h=>?_) fun hc h=>?_
 ·obtain⟨x_3,hx_3,h⟩:=Af h
  refine Bn.of (f:=A5) (l:=f_.Status) hx_3 ?_
  refine nS ?_
  refine j _ _ _ (by kernel_rfl) ?_
  refine qn ?_
  revert h;refine ca rfl (fun hc h=>?_) fun hc h=>?_
  ·refine sq (ar rfl (qn (rt (qr (br (qr (qr ?_)))))))
   obtain rfl:=Aa h
   obtain rfl:=Ae hJ0
   replace h:=Al hO0
   refine br (qr ?_)
   cases h;exact en Tryz.results40
  refine sk (qn (sq (sq ?_)))
  refine rg rfl fun K j=>?_
  obtain⟨y4,hy4,h⟩:=Af h
  refine An.pure Tryz.call53 (D3 f_.Map x_2.Run hy4) rfl fun _ hr=>?_
  subst hr
  refine nS ?_
  refine j _ _ (qn (sq ?_))
  refine ar rfl (qn ?_)
  revert h;refine ca rfl (fun hc h=>?_) fun hc h=>?_
  ·refine sq (ar rfl (qn (rt (qr (br (qr (qr ?_)))))))
   obtain rfl:=Aa h
   obtain rfl:=Ae hJ0
   replace h:=Al hO0
   refine br (qr ?_)
   cases h;exact en Tryz.results40
  refine sk (qn (sq ?_))
  refine rg rfl fun K j=>?_
  revert h;refine gf (fun hc h=>?_) fun hc h=>?_
  ·refine j _ _ (qn ?_)
   revert h;refine ca rfl (fun hc h=>?_) fun hc h=>?_
   ·refine sq (ar rfl (qn (rt (br (qr (qr ?_))))))
    obtain rfl:=Aa h
    obtain rfl:=Ae hJ0
    replace h:=Al hO0
    refine br (qr ?_)
    cases h;exact en Tryz.results40
   refine sk (bn (qn (ar rfl (qn ?_))))
   obtain rfl:=Aa h
   refine⟨(k0+1,(),()),⟨by dsimp only;omega,Ai hJ0⟩,by dsimp only;omega,?_,?_⟩
   ·exact cuw hw0
   exact cuw hw0
  refine j _ _ (qn ?_)
  refine AWP.cond (Ah ?_)
  refine sq (ar rfl (qn (rt (br (qr (qr ?_))))))
  obtain rfl:=Aa h
  obtain rfl:=Ae hJ0
  replace h:=Al hO0
  refine br (qr ?_)
  cases h;exact en Tryz.results40
 refine j _ _ _ (by kernel_rfl) ?_
 refine qn ?_
 refine AWP.cond (Bk ?_)
 refine sk (qn (sq (sq ?_)))
 refine rg rfl fun K j=>?_
 obtain⟨y5,hy5,h⟩:=Af h
 refine An.pure Tryz.call53 (D3 f_.Map x_2.Run hy5) rfl fun _ hr=>?_
 subst hr
 refine nS ?_
 refine j _ _ (qn (sq ?_))
 refine ar rfl (qn ?_)
 revert h;refine ca rfl (fun hc h=>?_) fun hc h=>?_
 ·refine sq (ar rfl (qn (rt (qr (br (qr (qr ?_)))))))
  obtain rfl:=Aa h
  obtain rfl:=Ae hJ0
  replace h:=Al hO0
  refine br (qr ?_)
  cases h;exact en Tryz.results40
 refine sk (qn (sq ?_))
 refine rg rfl fun K j=>?_
 revert h;refine gf (fun hc h=>?_) fun hc h=>?_
 ·refine j _ _ (qn ?_)
  revert h;refine ca rfl (fun hc h=>?_) fun hc h=>?_
  ·refine sq (ar rfl (qn (rt (br (qr (qr ?_))))))
   obtain rfl:=Aa h
   obtain rfl:=Ae hJ0
   replace h:=Al hO0
   refine br (qr ?_)
   cases h;exact en Tryz.results40
  refine sk (bn (qn (ar rfl (qn ?_))))
  obtain rfl:=Aa h
  refine⟨(k0+1,(),()),⟨by dsimp only;omega,Ai hJ0⟩,by dsimp only;omega,?_,?_⟩
  ·exact cuw hw0
  exact cuw hw0
 refine j _ _ (qn ?_)
 refine AWP.cond (Ah ?_)
 refine sq (ar rfl (qn (rt (br (qr (qr ?_))))))
 obtain rfl:=Aa h
 obtain rfl:=Ae hJ0
 replace h:=Al hO0
 refine br (qr ?_)
 cases h;exact en Tryz.results40
def Gc (f_:Aj):Option (Int):=
 (E5 f_).bind fun y1=>(bif (decide (y1≠0))then some y1 else(bif (decide (32<((f_.Lifts.length:Nat):Int)))then some 4 else(bif (decide (64<((f_.Packs.length:Nat):Int)))then some 4 else(bif (decide (64<((f_.Status.length:Nat):Int)))then some 4 else(Gj f_).bind fun y2=>(bif (decide (y2≠0))then some y2 else(Gi f_).bind fun y3=>(bif (decide (y3≠0))then some y3 else(F9 f_).bind fun y4=>(bif (decide (y4≠0))then some y4 else(bif (decide (f_.Depth<0))then some 2 else(bif (decide (10000<f_.Depth))then some 2 else(bif (decide (f_.Time<0))then some 2 else(bif (decide (20000000<f_.Time))then some 2 else some 0)))))))))))
theorem Wv (f_:Aj) {r:Int} (h:Gc f_=some r):Ad Tryz.prog 12 [.agg (B3 f_)] (·= .int .i64 r):=by
 refine Ad.nle (Ad.intro Tryz.func12 rfl rfl (by show _≤61;simp) ?_)
 unfold Gc at h
 refine nS (sq ?_)
 refine ar rfl (qn (sq (sq ?_)))
 refine rg rfl fun K j=>?_
 obtain⟨y1,hy1,h⟩:=Af h
 refine An.pure Tryz.call37 (Se f_ hy1) rfl fun _ hr=>?_
 subst hr
 refine nS ?_
 refine j _ _ (qn (sq ?_))
 refine ar rfl (qn ?_)
 revert h;refine ca rfl (fun hc h=>?_) fun hc h=>?_
 ·refine sq (ar rfl (qn (rt (qr ?_))))
  cases h;exact en Tryz.results12
 refine sk (qn (sq (sq ?_)))
 refine rg rfl fun K j=>?_
 intro hm
 revert h;refine gf (fun hc h=>?_) fun hc h=>?_
 rotate_left
 ·refine j _ _ (qn ?_)
  refine AWP.cond (Ah ?_)
  refine sq (ar rfl (qn (rt (qr ?_))))
  cases h;exact en Tryz.results12
 intro hm
 revert h;refine gf (fun hc h=>?_) fun hc h=>?_
 rotate_left
 ·refine j _ _ (qn ?_)
  refine AWP.cond (Ah ?_)
  refine sq (ar rfl (qn (rt (qr ?_))))
  cases h;exact en Tryz.results12
 intro hm
 refine j _ _ (qn ?_)
 revert h;refine ca rfl (fun hc h=>?_) fun hc h=>?_
 ·refine sq (ar rfl (qn (rt (qr ?_))))
  cases h;exact en Tryz.results12
 refine sk (qn (sq (sq ?_)))
 refine rg rfl fun K j=>?_
 obtain⟨y2,hy2,h⟩:=Af h
 refine An.pure Tryz.call38 (Sg f_ hy2) rfl fun _ hr=>?_
 subst hr
 refine nS ?_
 refine j _ _ (qn (sq ?_))
 refine ar rfl (qn ?_)
 revert h;refine ca rfl (fun hc h=>?_) fun hc h=>?_
 ·refine sq (ar rfl (qn (rt (qr ?_))))
  cases h;exact en Tryz.results12
 refine sk (qn (sq (sq ?_)))
 refine rg rfl fun K j=>?_
 obtain⟨y3,hy3,h⟩:=Af h
 refine An.pure Tryz.call39 (Sf f_ hy3) rfl fun _ hr=>?_
 subst hr
 refine nS ?_
 refine j _ _ (qn (sq ?_))
 refine ar rfl (qn ?_)
 revert h;refine ca rfl (fun hc h=>?_) fun hc h=>?_
 ·refine sq (ar rfl (qn (rt (qr ?_))))
  cases h;exact en Tryz.results12
 refine sk (qn (sq (sq ?_)))
 refine rg rfl fun K j=>?_
 obtain⟨y4,hy4,h⟩:=Af h
 refine An.pure Tryz.call40 (Rx f_ hy4) rfl fun _ hr=>?_
 subst hr
 refine nS ?_
 refine j _ _ (qn (sq ?_))
 refine ar rfl (qn ?_)
 revert h;refine ca rfl (fun hc h=>?_) fun hc h=>?_
 ·refine sq (ar rfl (qn (rt (qr ?_))))
  cases h;exact en Tryz.results12
 refine sk (qn (sq (sq ?_)))
 refine rg rfl fun K j=>?_
 revert h;refine gf (fun hc h=>?_) fun hc h=>?_
 ·revert h;refine gf (fun hc h=>?_) fun hc h=>?_
  ·revert h;refine gf (fun hc h=>?_) fun hc h=>?_
   ·refine j _ _ (qn ?_)
    revert h;refine ca rfl (fun hc h=>?_) fun hc h=>?_
    ·refine sq (ar rfl (qn (rt (qr ?_))))
     cases h;exact en Tryz.results12
    refine sk (qn (sq (ar rfl (qn (rt ?_)))))
    cases h;exact en Tryz.results12
   refine j _ _ (qn ?_)
   refine AWP.cond (Ah ?_)
   refine sq (ar rfl (qn (rt (qr ?_))))
   cases h;exact en Tryz.results12
  refine j _ _ (qn ?_)
  refine AWP.cond (Ah ?_)
  refine sq (ar rfl (qn (rt (qr ?_))))
  cases h;exact en Tryz.results12
 refine j _ _ (qn ?_)
 refine AWP.cond (Ah ?_)
 refine sq (ar rfl (qn (rt (qr ?_))))
 cases h;exact en Tryz.results12
def Od (f_:Aj) (set_5:List Int) (k9:Nat) (x_11:Int) (sv:(List Int)):Option (Out ((List Int)) (Out ((List Int)) ((List Int)))):=
 (D7 f_ set_5 x_11).bind fun y12=>(bif y12 then chk (sv.length+1) (some (Out.next (sv++[x_11])))else some (Out.next sv))
def Oe (f_:Aj) (sv:(List Int)):Option (Out ((List Int)) ((List Int))):=
 (Am (Od f_ sv) 0 sv []).bind fun o9=>o9.on fun s9=>(bif (decide (((s9.length:Nat):Int)=((sv.length:Nat):Int)))then some (Out.ret s9)else some (Out.next s9))
def Oc (f_:Aj) (set_22:List Int) (k26:Nat) (x_28:Int) (sv:(List Int)):Option (Out ((List Int)) (Out ((List Int)) ((List Int)))):=
 (D7 f_ set_22 x_28).bind fun y29=>(bif y29 then chk (sv.length+1) (some (Out.next (sv++[x_28])))else some (Out.next sv))
def Jt (f_:Aj) (sv:(List Int)):Option (Out ((List Int)) ((List Int))):=
 (Am (Oc f_ sv) 0 sv []).bind fun o26=>o26.on fun s26=>(bif (decide (((s26.length:Nat):Int)=((sv.length:Nat):Int)))then some (Out.ret s26)else some (Out.next s26))
def Dr (f_:Aj) (sv:Int×Int×(List Int)):Option (Out (Int×Int×(List Int)) ((List Int))):=
 (bif (decide (sv.2.1<((sv.2.2.length:Nat):Int)))then (Dk sv.2.2 sv.2.1).bind fun x_18=>(Cz f_ x_18).bind fun y19=>(bif (!(decide (y19≠(0:Int))))then (Dk sv.2.2 sv.1).bind fun x_20=>some (Out.next ((IntKind.i64.wrap (sv.1+(1:Int))),(IntKind.i64.wrap (sv.2.1+(1:Int))),(sv.2.2.set sv.1.toNat x_18)))else some (Out.next (sv.1,(IntKind.i64.wrap (sv.2.1+(1:Int))),sv.2.2)))else (okB (decide ((0:Int)≤sv.1∧sv.1≤((sv.2.2.length:Nat):Int))) (okB (decide ((0:Int)≤sv.1∧sv.1≤((sv.2.2.length:Nat):Int))) ((Ea (Jt f_) fuel (((sv.2.2.take sv.1.toNat)++(List.replicate (sv.2.2.length - sv.1.toNat) (0:Int))).take sv.1.toNat)).bind fun o23=>o23.on fun _=>none))).bind fun q29=>some (Out.ret q29))
def Fb (f_:Aj) (set_32:List Int) (k36:Nat) (x_38:Int) (sv:(List Int)):Option (Out ((List Int)) (Out ((List Int)) ((List Int)))):=
 (D7 f_ set_32 x_38).bind fun y39=>(bif y39 then chk (sv.length+1) (some (Out.next (sv++[x_38])))else some (Out.next sv))
def Dm (f_:Aj) (sv:(List Int)):Option (Out ((List Int)) ((List Int))):=
 (Am (Fb f_ sv) 0 sv []).bind fun o36=>o36.on fun s36=>(bif (decide (((s36.length:Nat):Int)=((sv.length:Nat):Int)))then some (Out.ret s36)else some (Out.next s36))
def Fc (f_:Aj) (y1:(List Int)) (k1:Nat) (x_3:Int) (sv:Unit):Option (Out (Unit) ((List Int))):=
 (Cz f_ x_3).bind fun y4=>(bif (decide (y4≠0))then ((bif (decide (((k1:Nat):Int)=(-1)))then (Ea (Oe f_) fuel (Cg (Dc y1))).bind fun o6=>o6.on fun _=>none else(Ea (Dr f_) fuel (((k1:Nat):Int),(IntKind.i64.wrap (((k1:Nat):Int)+1)),(Cg (Dc y1)))).bind fun o16=>o16.on fun _=>none)).bind fun q30=>some (Out.ret q30)else some (Out.next ()))
def E6 (f_:Aj) (runs:List Int):Option ((List Int)):=
 (B8 runs).bind fun y1=>chk y1.length (chk y1.length ((Am (Fc f_ y1) 0 (Cg (Dc y1)) ()).bind fun o1=>o1.on fun s1=>(Ea (Dm f_) fuel (Cg (Dc y1))).bind fun o33=>o33.on fun _=>none))
theorem P0 (f_:Aj) (runs:List Int) {r:(List Int)} (h:E6 f_ runs=some r):Bo Tryz.prog 29 [.agg (B3 f_),.sl 1 (runs.map A2)] (·= .sl 1 (r.map A2)):=by
 refine Bo.nle (Bo.intro Tryz.func29 rfl rfl (by show _≤40;simp) ?_)
 unfold E6 at h
 refine nS (sq ?_)
 refine ar rfl (qn (sq ?_))
 refine rg rfl fun K j=>?_
 obtain⟨y1,hy1,h⟩:=Af h
 refine An.row Tryz.call67 (Ew runs hy1) rfl 1 rfl ?_
 (try simp +decide -implicitDefEqProofs only[go_sem,List.length_map])
 refine j _ _ (qn (sq ?_))
 refine rg rfl fun K j=>?_
 obtain⟨hk,h⟩:=B4 h
 refine An.Dc Tryz.call68 Tryz.sorts68 rfl (by first | rfl | exact(Cl _).symm | (simp only[List.length_append,List.length_cons,List.length_nil,List.length_set,List.length_replicate]<;>omega)) hk ?_
 refine nS ?_
 refine j _ _ (qn (sq ?_))
 refine rg rfl fun K j=>?_
 obtain⟨hk,h⟩:=B4 h
 refine An.Cg Tryz.call69 Tryz.compacts69 rfl (by first | rfl | exact(Cl _).symm | (simp only[List.length_append,List.length_cons,List.length_nil,List.length_set,List.length_replicate]<;>omega)) hk ?_
 refine nS ?_
 refine j _ _ (qn (sq ?_))
 refine rg rfl fun K j=>?_
 refine An.inline Tryz.call70 Tryz.func70 rfl rfl (by show _≤42;simp) ?_
 refine nS (sq ?_)
 refine ar rfl (qn (sq ?_))
 refine rg rfl fun K j=>?_
 refine An.inline Tryz.call150 Tryz.func150 rfl rfl (by show _≤19;simp) ?_
 refine nS (sq ?_)
 refine ar rfl (qn (sq (sq ?_)))
 refine rg rfl fun K j=>?_
 intro hm
 refine j _ _ (qn (bk ?_));clear j K
 obtain⟨o1,hJ1,hO1⟩:=Af h
 clear h
 refine AWP.Bw (ι:=Nat×(Unit)×(Unit)) (fun zz=>[(0,.own 1 1 0 (Cg (Dc y1)).length),(1,.func 71 [.ptr 0 0]),(7,.int .i64 (((Cg (Dc y1)).length:Nat):Int)),(8,.int .i64 ((zz.1:Nat):Int))]) (fun zz=>[.box [.sl 2 (f_.Map.Nodes.map A6),.sl 8 (f_.Map.Lifts.map A7),.sl 7 (f_.Map.Runs.map Bc),.sl 1 (f_.Map.Bases.map A2),.sl 2 (f_.Lifts.map Aw),.sl 4 (f_.Closures.map Au),.sl 4 (f_.Patrol.Bu.map Av),.sl 3 (f_.Patrol.Hazards.map Az),.sl 3 (f_.Surfaces.map A4),.sl 5 (f_.Packs.map A3),.sl 6 (f_.Slides.map Ba),.sl 7 (f_.Bulletin.map Ax),.sl 7 (f_.Missions.map Ap),.sl 4 (f_.Winches.map Ao),.sl 8 (f_.Groomers.map A1),.sl 3 (f_.Status.map A5),.int .i64 f_.Depth,.int .i64 f_.Time],.row 1 1 ((Cg (Dc y1)).map A2)]) (fun zz=>zz.1≤(Cg (Dc y1)).length∧Am (Fc f_ y1) zz.1 (((Cg (Dc y1))).drop zz.1) zz.2.1=some o1) (fun zz=>(Cg (Dc y1)).length - zz.1) (0,(),()) ⟨Nat.zero_le _,hJ1⟩ cu cu (fun x=>⟨rfl,rfl,rfl⟩) ?_
 clear hJ1
 rintro⟨k1,⟨⟩,⟨⟩⟩ ⟨hk1,hJ1⟩
 dsimp only at hk1 hJ1 ⊢
 refine sq (ar rfl (qn (sq ?_)))
 refine AWP.cond (Ak (fun hc=>?_) (fun hc=>?_))
 rotate_left
 ·obtain rfl:=Bf hJ1 (fun hl=>by have:=Aiz hc;omega)
  have h:=Be hO1;try dsimp only at h
  have hkl:(Cg (Dc y1)).length=k1:=by have:=Aiz hc;omega
  subst hkl
  refine xt (qe (qe (bs (qn (sq (ar rfl (qn (rt ?_))))))))
  refine nSc Tryz.results150 ?_
  refine j _ _ (qn (sq (sq ?_)));clear j K
  refine ar rfl (qn ?_)
  refine AWP.cond (Ah ?_)
  refine sq (ar rfl (qn (rt (qr ?_))))
  refine nSc Tryz.results70 ?_
  refine j _ _ (qn (bk ?_))
  obtain⟨o33,hJ33,hO33⟩:=Af h
  clear h
  refine AWP.nI (ι:=Nat×((List Int))×(Nat)) (fun zz=>[(2,.ptr 0 0),(5,.own 1 zz.2.2 0 zz.2.1.length)]) (fun zz=>[.box [.sl 2 (f_.Map.Nodes.map A6),.sl 8 (f_.Map.Lifts.map A7),.sl 7 (f_.Map.Runs.map Bc),.sl 1 (f_.Map.Bases.map A2),.sl 2 (f_.Lifts.map Aw),.sl 4 (f_.Closures.map Au),.sl 4 (f_.Patrol.Bu.map Av),.sl 3 (f_.Patrol.Hazards.map Az),.sl 3 (f_.Surfaces.map A4),.sl 5 (f_.Packs.map A3),.sl 6 (f_.Slides.map Ba),.sl 7 (f_.Bulletin.map Ax),.sl 7 (f_.Missions.map Ap),.sl 4 (f_.Winches.map Ao),.sl 8 (f_.Groomers.map A1),.sl 3 (f_.Status.map A5),.int .i64 f_.Depth,.int .i64 f_.Time],.row zz.2.2 1 (zz.2.1.map A2)]) (fun zz=>Ea (Dm f_) zz.1 zz.2.1=some o33) (fun zz=>zz.1) (fuel,(Cg (Dc y1)),1) hJ33 cu cu (fun x=>⟨rfl,rfl,rfl⟩) ?_
  clear hJ33
  rintro⟨n33,set_32,ver33⟩ hJ33
  dsimp only at hJ33 ⊢
  obtain⟨m33,b33,rfl,h,hJ33⟩:=J4 hJ33
  unfold Dm at h;try dsimp only at h
  refine bk (sq (ar rfl (qn (sq (sq ?_)))))
  refine rg rfl fun K j=>?_
  intro hm
  refine j _ _ (qn (bk ?_))
  refine AWP.ghost 6 1 rfl (by decide) ?_
  obtain⟨o36,hJ36,hO36⟩:=Af h
  clear h
  refine AWP.Bw (ι:=Nat×((List Int))×(Nat)) (fun zz=>[(2,.ptr 0 0),(5,.own 1 ver33 0 set_32.length),(6,.own 2 zz.2.2 0 zz.2.1.length),(18,.own 1 ver33 0 set_32.length),(19,.int .i64 ((set_32.length:Nat):Int)),(20,.int .i64 ((zz.1:Nat):Int))]) (fun zz=>[.box [.sl 2 (f_.Map.Nodes.map A6),.sl 8 (f_.Map.Lifts.map A7),.sl 7 (f_.Map.Runs.map Bc),.sl 1 (f_.Map.Bases.map A2),.sl 2 (f_.Lifts.map Aw),.sl 4 (f_.Closures.map Au),.sl 4 (f_.Patrol.Bu.map Av),.sl 3 (f_.Patrol.Hazards.map Az),.sl 3 (f_.Surfaces.map A4),.sl 5 (f_.Packs.map A3),.sl 6 (f_.Slides.map Ba),.sl 7 (f_.Bulletin.map Ax),.sl 7 (f_.Missions.map Ap),.sl 4 (f_.Winches.map Ao),.sl 8 (f_.Groomers.map A1),.sl 3 (f_.Status.map A5),.int .i64 f_.Depth,.int .i64 f_.Time],.row ver33 1 (set_32.map A2),.row zz.2.2 1 (zz.2.1.map A2)]) (fun zz=>zz.1≤set_32.length∧Am (Fb f_ set_32) zz.1 ((set_32).drop zz.1) zz.2.1=some o36) (fun zz=>set_32.length - zz.1) (0,[],0) ⟨Nat.zero_le _,hJ36⟩ cu cu (fun x=>⟨rfl,rfl,rfl⟩) ?_
  clear hJ36
  rintro⟨k36,left35,ver36⟩ ⟨hk36,hJ36⟩
  dsimp only at hk36 hJ36 ⊢
  refine sq (ar rfl (qn (sq ?_)))
  refine AWP.cond (Ak (fun hc=>?_) (fun hc=>?_))
  ·have hlt36:k36<set_32.length:=by have:=Ai0 hc;omega
   obtain⟨x_38,b36,hx36_,h,hJ36⟩:=A9 hJ36 hlt36
   have hx36:=Ay hx36_
   have hw36:=wk (k:=k36) (by omega)
   unfold Fb at h;try dsimp only at h
   refine sk (qn (sq (bk (sq ?_))))
   refine rg rfl fun K j=>?_
   refine Kw hx36 (by first | rfl | exact(Cl _).symm | (simp only[List.length_append,List.length_cons,List.length_nil,List.length_set,List.length_replicate]<;>omega)) ?_
   refine nS ?_
   refine De.ofNat (f:=A2) (l:=set_32) (n:=k36) hx36 ?_
   refine nS ?_
   refine j _ _ (qn (sq ?_))
   refine rg rfl fun K j=>?_
   obtain⟨y39,hy39,h⟩:=Af h
   refine An.snap Tryz.call49 (Ga f_ set_32 x_38 hy39) (by simp +decide -implicitDefEqProofs only[go_sem]) (by rintro _ rfl;rfl) fun _ hr=>?_
   subst hr
   refine nS ?_
   refine j _ _ (qn ?_)
   revert h;refine ca rfl (fun hc h=>?_) fun hc h=>?_
   ·refine rg rfl fun K j=>?_
    obtain⟨hk,h⟩:=B4 h
    (repeat refine rp ?_);try simp +decide -implicitDefEqProofs only[go_sem]
    refine j _ _ (bn (qn ?_))
    refine ar rfl (qn ?_)
    obtain rfl:=Aa h
    refine⟨(k36+1,(left35++[x_38]),(ver36+1)),⟨by dsimp only;omega,Ai hJ36⟩,by dsimp only;omega,?_,?_⟩
    ·exact cuw hw36
    exact cuw hw36
   refine sk (bn (qn (ar rfl (qn ?_))))
   obtain rfl:=Aa h
   refine⟨(k36+1,left35,ver36),⟨by dsimp only;omega,Ai hJ36⟩,by dsimp only;omega,?_,?_⟩
   ·exact cuw hw36
   exact cuw hw36
  obtain rfl:=Bf hJ36 (fun hl=>by have:=Aiz hc;omega)
  have h:=Be hO36;try dsimp only at h
  have hkl:set_32.length=k36:=by have:=Aiz hc;omega
  subst hkl
  refine xt (qe (qe (bs (qn (sq (sq ?_))))))
  refine rg rfl fun K j=>?_
  intro hm
  intro hm
  refine j _ _ (qn ?_)
  revert h;refine ca rfl (fun hc h=>?_) fun hc h=>?_
  ·refine sq (ar rfl (qn (rt (qr (br (qr ?_))))))
   obtain rfl:=Aa h
   obtain rfl:=Ae hJ33
   replace h:=Al hO33
   refine br ?_
   cases h;exact en Tryz.results29
  refine sk (qn (ar rfl (bn (qn ?_))))
  obtain rfl:=Aa h
  refine⟨(m33,left35,ver36),Ai hJ33,by dsimp only;omega,_,_,Sub.swap 2 1 rfl rfl rfl,?_,?_⟩
  ·exact cu
  exact cu
 have hlt1:k1<(Cg (Dc y1)).length:=by have:=Ai0 hc;omega
 obtain⟨x_3,b1,hx1_,h,hJ1⟩:=A9 hJ1 hlt1
 have hx1:=Ay hx1_
 have hw1:=wk (k:=k1) (by omega)
 unfold Fc at h;try dsimp only at h
 refine sk (qn (sq (bk (sq (ar rfl (qn (sq ?_)))))))
 refine rg rfl fun K j=>?_
 refine Kw hx1 (by first | rfl | exact(Cl _).symm | (simp only[List.length_append,List.length_cons,List.length_nil,List.length_set,List.length_replicate]<;>omega)) ?_
 refine nS ?_
 refine De.ofNat (f:=A2) (l:=(Cg (Dc y1))) (n:=k1) hx1 ?_
 refine nS ?_
 refine An.inline Tryz.call71 Tryz.func71 rfl rfl (by show _≤8;simp) ?_
 refine nS (sq ?_)
 refine ar rfl (qn (sq ?_))
 refine rg rfl fun K j=>?_
 obtain⟨y4,hy4,h⟩:=Af h
 refine An.pure Tryz.call48 (Jn f_ x_3 hy4) rfl fun _ hr=>?_
 subst hr
 refine nS ?_
 refine j _ _ (qn (rt ?_));clear j K
 refine nSc Tryz.results71 ?_
 refine j _ _ (qn ?_);clear j K
 revert h;refine ca rfl (fun hc h=>?_) fun hc h=>?_
 ·refine sq (ar rfl (qn (rt (br (qr (qr ?_))))))
  obtain⟨q30,hq,h⟩:=Af h
  obtain rfl:=Aa h
  obtain rfl:=Ae hJ1
  replace h:=hq.trans (Al hO1)
  refine br (qr (nSc Tryz.results150 ?_))
  refine j _ _ (qn (sq (sq ?_)));clear j K
  refine ar rfl (qn ?_)
  revert h;refine ca rfl (fun hc h=>?_) fun hc h=>?_
  ·refine sq (ar rfl (qn (rt (qr ?_))))
   refine nSc Tryz.results70 ?_
   refine j _ _ (qn (bk ?_))
   obtain⟨o6,hJ6,hO6⟩:=Af h
   clear h
   refine AWP.nI (ι:=Nat×((List Int))×(Nat)) (fun zz=>[(2,.ptr 0 0),(5,.own 1 zz.2.2 0 zz.2.1.length)]) (fun zz=>[.box [.sl 2 (f_.Map.Nodes.map A6),.sl 8 (f_.Map.Lifts.map A7),.sl 7 (f_.Map.Runs.map Bc),.sl 1 (f_.Map.Bases.map A2),.sl 2 (f_.Lifts.map Aw),.sl 4 (f_.Closures.map Au),.sl 4 (f_.Patrol.Bu.map Av),.sl 3 (f_.Patrol.Hazards.map Az),.sl 3 (f_.Surfaces.map A4),.sl 5 (f_.Packs.map A3),.sl 6 (f_.Slides.map Ba),.sl 7 (f_.Bulletin.map Ax),.sl 7 (f_.Missions.map Ap),.sl 4 (f_.Winches.map Ao),.sl 8 (f_.Groomers.map A1),.sl 3 (f_.Status.map A5),.int .i64 f_.Depth,.int .i64 f_.Time],.row zz.2.2 1 (zz.2.1.map A2)]) (fun zz=>Ea (Oe f_) zz.1 zz.2.1=some o6) (fun zz=>zz.1) (fuel,(Cg (Dc y1)),1) hJ6 cu cu (fun x=>⟨rfl,rfl,rfl⟩) ?_
   clear hJ6
   rintro⟨n6,set_5,ver6⟩ hJ6
   dsimp only at hJ6 ⊢
   obtain⟨m6,b6,rfl,h,hJ6⟩:=J4 hJ6
   unfold Oe at h;try dsimp only at h
   refine bk (sq (ar rfl (qn (sq (sq ?_)))))
   refine rg rfl fun K j=>?_
   intro hm
   refine j _ _ (qn (bk ?_))
   refine AWP.ghost 6 1 rfl (by decide) ?_
   obtain⟨o9,hJ9,hO9⟩:=Af h
   clear h
   refine AWP.Bw (ι:=Nat×((List Int))×(Nat)) (fun zz=>[(2,.ptr 0 0),(5,.own 1 ver6 0 set_5.length),(6,.own 2 zz.2.2 0 zz.2.1.length),(18,.own 1 ver6 0 set_5.length),(19,.int .i64 ((set_5.length:Nat):Int)),(20,.int .i64 ((zz.1:Nat):Int))]) (fun zz=>[.box [.sl 2 (f_.Map.Nodes.map A6),.sl 8 (f_.Map.Lifts.map A7),.sl 7 (f_.Map.Runs.map Bc),.sl 1 (f_.Map.Bases.map A2),.sl 2 (f_.Lifts.map Aw),.sl 4 (f_.Closures.map Au),.sl 4 (f_.Patrol.Bu.map Av),.sl 3 (f_.Patrol.Hazards.map Az),.sl 3 (f_.Surfaces.map A4),.sl 5 (f_.Packs.map A3),.sl 6 (f_.Slides.map Ba),.sl 7 (f_.Bulletin.map Ax),.sl 7 (f_.Missions.map Ap),.sl 4 (f_.Winches.map Ao),.sl 8 (f_.Groomers.map A1),.sl 3 (f_.Status.map A5),.int .i64 f_.Depth,.int .i64 f_.Time],.row ver6 1 (set_5.map A2),.row zz.2.2 1 (zz.2.1.map A2)]) (fun zz=>zz.1≤set_5.length∧Am (Od f_ set_5) zz.1 ((set_5).drop zz.1) zz.2.1=some o9) (fun zz=>set_5.length - zz.1) (0,[],0) ⟨Nat.zero_le _,hJ9⟩ cu cu (fun x=>⟨rfl,rfl,rfl⟩) ?_
   clear hJ9
   rintro⟨k9,left8,ver9⟩ ⟨hk9,hJ9⟩
   dsimp only at hk9 hJ9 ⊢
   refine sq (ar rfl (qn (sq ?_)))
   refine AWP.cond (Ak (fun hc=>?_) (fun hc=>?_))
   ·have hlt9:k9<set_5.length:=by have:=Ai0 hc;omega
    obtain⟨x_11,b9,hx9_,h,hJ9⟩:=A9 hJ9 hlt9
    have hx9:=Ay hx9_
    have hw9:=wk (k:=k9) (by omega)
    unfold Od at h;try dsimp only at h
    refine sk (qn (sq (bk (sq ?_))))
    refine rg rfl fun K j=>?_
    refine Kw hx9 (by first | rfl | exact(Cl _).symm | (simp only[List.length_append,List.length_cons,List.length_nil,List.length_set,List.length_replicate]<;>omega)) ?_
    refine nS ?_
    refine De.ofNat (f:=A2) (l:=set_5) (n:=k9) hx9 ?_
    refine nS ?_
    refine j _ _ (qn (sq ?_))
    refine rg rfl fun K j=>?_
    obtain⟨y12,hy12,h⟩:=Af h
    refine An.snap Tryz.call49 (Ga f_ set_5 x_11 hy12) (by simp +decide -implicitDefEqProofs only[go_sem]) (by rintro _ rfl;rfl) fun _ hr=>?_
    subst hr
    refine nS ?_
    refine j _ _ (qn ?_)
    revert h;refine ca rfl (fun hc h=>?_) fun hc h=>?_
    ·refine rg rfl fun K j=>?_
     obtain⟨hk,h⟩:=B4 h
     (repeat refine rp ?_);try simp +decide -implicitDefEqProofs only[go_sem]
     refine j _ _ (bn (qn ?_))
     refine ar rfl (qn ?_)
     obtain rfl:=Aa h
     refine⟨(k9+1,(left8++[x_11]),(ver9+1)),⟨by dsimp only;omega,Ai hJ9⟩,by dsimp only;omega,?_,?_⟩
     ·exact cuw hw9
     exact cuw hw9
    refine sk (bn (qn (ar rfl (qn ?_))))
    obtain rfl:=Aa h
    refine⟨(k9+1,left8,ver9),⟨by dsimp only;omega,Ai hJ9⟩,by dsimp only;omega,?_,?_⟩
    ·exact cuw hw9
    exact cuw hw9
   obtain rfl:=Bf hJ9 (fun hl=>by have:=Aiz hc;omega)
   have h:=Be hO9;try dsimp only at h
   have hkl:set_5.length=k9:=by have:=Aiz hc;omega
   subst hkl
   refine xt (qe (qe (bs (qn (sq (sq ?_))))))
   refine rg rfl fun K j=>?_
   intro hm
   intro hm
   refine j _ _ (qn ?_)
   revert h;refine ca rfl (fun hc h=>?_) fun hc h=>?_
   ·refine sq (ar rfl (qn (rt (qr (br (qr ?_))))))
    obtain rfl:=Aa h
    obtain rfl:=Ae hJ6
    replace h:=Al hO6
    refine br ?_
    cases h;exact en Tryz.results29
   refine sk (qn (ar rfl (bn (qn ?_))))
   obtain rfl:=Aa h
   refine⟨(m6,left8,ver9),Ai hJ6,by dsimp only;omega,_,_,Sub.swap 2 1 rfl rfl rfl,?_,?_⟩
   ·exact cu
   exact cu
  refine sk (qn (sq (sq (ar rfl (qn (bk ?_))))))
  obtain⟨o16,hJ16,hO16⟩:=Af h
  clear h
  refine AWP.Bw (ι:=Nat×(Int×Int×(List Int))×(Nat)) (fun zz=>[(0,.own 1 zz.2.2 0 zz.2.1.2.2.length),(1,.func 71 [.ptr 0 0]),(5,.int .i64 zz.2.1.1),(6,.int .i64 zz.2.1.2.1)]) (fun zz=>[.box [.sl 2 (f_.Map.Nodes.map A6),.sl 8 (f_.Map.Lifts.map A7),.sl 7 (f_.Map.Runs.map Bc),.sl 1 (f_.Map.Bases.map A2),.sl 2 (f_.Lifts.map Aw),.sl 4 (f_.Closures.map Au),.sl 4 (f_.Patrol.Bu.map Av),.sl 3 (f_.Patrol.Hazards.map Az),.sl 3 (f_.Surfaces.map A4),.sl 5 (f_.Packs.map A3),.sl 6 (f_.Slides.map Ba),.sl 7 (f_.Bulletin.map Ax),.sl 7 (f_.Missions.map Ap),.sl 4 (f_.Winches.map Ao),.sl 8 (f_.Groomers.map A1),.sl 3 (f_.Status.map A5),.int .i64 f_.Depth,.int .i64 f_.Time],.row zz.2.2 1 (zz.2.1.2.2.map A2)]) (fun zz=>Ea (Dr f_) zz.1 zz.2.1=some o16) (fun zz=>zz.1) (fuel,(((k1:Nat):Int),(IntKind.i64.wrap (((k1:Nat):Int)+1)),(Cg (Dc y1))),1) hJ16 cu cu (fun x=>⟨rfl,rfl,rfl⟩) ?_
  clear hJ16
  rintro⟨n16,⟨i13,j14,s_15⟩,ver16⟩ hJ16
  dsimp only at hJ16 ⊢
  obtain⟨m16,b16,rfl,h,hJ16⟩:=J4 hJ16
  unfold Dr at h;try dsimp only at h
  refine sq (sq ?_)
  refine rg rfl fun K j=>?_
  intro hm
  refine j _ _ (qn ?_);clear j K
  revert h;refine ca rfl (fun hc h=>?_) fun hc h=>?_
  ·refine sk (qn (sq (bk (sq ?_))))
   refine rg rfl fun K j=>?_
   obtain⟨x_18,hx_18,h⟩:=Af h
   refine Kw hx_18 (by first | rfl | exact(Cl _).symm | (simp only[List.length_append,List.length_cons,List.length_nil,List.length_set,List.length_replicate]<;>omega)) ?_
   refine nS ?_
   refine De.of (f:=A2) (l:=s_15) (n:=j14) hx_18 ?_
   refine nS ?_
   refine j _ _ (qn (sq ?_));clear j K
   refine rg rfl fun K j=>?_
   refine An.inline Tryz.call71 Tryz.func71 rfl rfl (by show _≤8;simp) ?_
   refine nS (sq ?_)
   refine ar rfl (qn (sq ?_))
   refine rg rfl fun K j=>?_
   obtain⟨y19,hy19,h⟩:=Af h
   refine An.pure Tryz.call48 (Jn f_ x_18 hy19) rfl fun _ hr=>?_
   subst hr
   refine nS ?_
   refine j _ _ (qn (rt ?_));clear j K
   refine nSc Tryz.results71 ?_
   refine j _ _ (qn ?_);clear j K
   revert h;refine ca rfl (fun hc h=>?_) fun hc h=>?_
   ·refine sq ?_
    refine rg rfl fun K j=>?_
    obtain⟨x_20,hx_20,h⟩:=Af h
    refine Kw hx_20 (by first | rfl | exact(Cl _).symm | (simp only[List.length_append,List.length_cons,List.length_nil,List.length_set,List.length_replicate]<;>omega)) ?_
    refine nS ?_
    refine De.of (f:=A2) (l:=s_15) (n:=i13) hx_20 ?_
    have hs21:=Rz (y:=x_18) hx_20
    refine nS ?_
    refine j _ _ (qn ?_);clear j K
    refine ar rfl (bn (qn ?_))
    refine ar rfl (qn ?_)
    obtain rfl:=Aa h
    refine⟨(m16,((IntKind.i64.wrap (i13+1)),(IntKind.i64.wrap (j14+1)),(s_15.set i13.toNat x_18)),ver16),Ai hJ16,by dsimp only;omega,?_,?_⟩
    ·exact cu
    exact cu
   refine sk (bn (qn (ar rfl (qn ?_))))
   obtain rfl:=Aa h
   refine⟨(m16,(i13,(IntKind.i64.wrap (j14+1)),s_15),ver16),Ai hJ16,by dsimp only;omega,?_,?_⟩
   ·exact cu
   exact cu
  refine xt (qe (qe ?_))
  obtain⟨q29,hq,h⟩:=Af h
  obtain rfl:=Aa h
  obtain rfl:=Ae hJ16
  replace h:=hq.trans (Al hO16)
  refine bs (qn (sq ?_))
  refine AWP.lC ?_
  refine ALP.cut 3 (ALP.part rfl ?_);intro K j
  refine nS ?_
  obtain⟨hk,h⟩:=Jm h
  (repeat(refine⟨by omega,?_⟩))
  refine j _ _ ?_;clear j K
  refine ALP.clr (l:=s_15) rfl rfl Tryz.underlying25 (by kernel_rfl) rfl (by first | rfl | omega) ?_
  refine nS ?_
  refine ALP.last rfl ?_;intro K j
  refine nS ?_
  refine j _ _ (qn (sq ?_));clear j K
  refine rg rfl fun K j=>?_
  obtain⟨hk,h⟩:=Jm h
  (repeat(refine⟨by omega,?_⟩))
  refine j _ _ (qn ?_);clear j K
  refine AWP.sub (Sub.window 4 rfl rfl) ?_
  refine nS (rt ?_)
  refine nSc Tryz.results70 ?_
  refine j _ _ (qn (bk ?_))
  obtain⟨o23,hJ23,hO23⟩:=Af h
  clear h
  refine AWP.nI (ι:=Nat×((List Int))×(Nat)) (fun zz=>[(2,.ptr 0 0),(5,.own 1 zz.2.2 0 zz.2.1.length)]) (fun zz=>[.box [.sl 2 (f_.Map.Nodes.map A6),.sl 8 (f_.Map.Lifts.map A7),.sl 7 (f_.Map.Runs.map Bc),.sl 1 (f_.Map.Bases.map A2),.sl 2 (f_.Lifts.map Aw),.sl 4 (f_.Closures.map Au),.sl 4 (f_.Patrol.Bu.map Av),.sl 3 (f_.Patrol.Hazards.map Az),.sl 3 (f_.Surfaces.map A4),.sl 5 (f_.Packs.map A3),.sl 6 (f_.Slides.map Ba),.sl 7 (f_.Bulletin.map Ax),.sl 7 (f_.Missions.map Ap),.sl 4 (f_.Winches.map Ao),.sl 8 (f_.Groomers.map A1),.sl 3 (f_.Status.map A5),.int .i64 f_.Depth,.int .i64 f_.Time],.row zz.2.2 1 (zz.2.1.map A2)]) (fun zz=>Ea (Jt f_) zz.1 zz.2.1=some o23) (fun zz=>zz.1) (fuel,(((s_15.take i13.toNat)++(List.replicate (s_15.length - i13.toNat) (0:Int))).take i13.toNat),(ver16+1)) hJ23 cu cu (fun x=>⟨rfl,rfl,rfl⟩) ?_
  clear hJ23
  rintro⟨n23,set_22,ver23⟩ hJ23
  dsimp only at hJ23 ⊢
  obtain⟨m23,b23,rfl,h,hJ23⟩:=J4 hJ23
  unfold Jt at h;try dsimp only at h
  refine bk (sq (ar rfl (qn (sq (sq ?_)))))
  refine rg rfl fun K j=>?_
  intro hm
  refine j _ _ (qn (bk ?_))
  refine AWP.ghost 6 1 rfl (by decide) ?_
  obtain⟨o26,hJ26,hO26⟩:=Af h
  clear h
  refine AWP.Bw (ι:=Nat×((List Int))×(Nat)) (fun zz=>[(2,.ptr 0 0),(5,.own 1 ver23 0 set_22.length),(6,.own 2 zz.2.2 0 zz.2.1.length),(18,.own 1 ver23 0 set_22.length),(19,.int .i64 ((set_22.length:Nat):Int)),(20,.int .i64 ((zz.1:Nat):Int))]) (fun zz=>[.box [.sl 2 (f_.Map.Nodes.map A6),.sl 8 (f_.Map.Lifts.map A7),.sl 7 (f_.Map.Runs.map Bc),.sl 1 (f_.Map.Bases.map A2),.sl 2 (f_.Lifts.map Aw),.sl 4 (f_.Closures.map Au),.sl 4 (f_.Patrol.Bu.map Av),.sl 3 (f_.Patrol.Hazards.map Az),.sl 3 (f_.Surfaces.map A4),.sl 5 (f_.Packs.map A3),.sl 6 (f_.Slides.map Ba),.sl 7 (f_.Bulletin.map Ax),.sl 7 (f_.Missions.map Ap),.sl 4 (f_.Winches.map Ao),.sl 8 (f_.Groomers.map A1),.sl 3 (f_.Status.map A5),.int .i64 f_.Depth,.int .i64 f_.Time],.row ver23 1 (set_22.map A2),.row zz.2.2 1 (zz.2.1.map A2)]) (fun zz=>zz.1≤set_22.length∧Am (Oc f_ set_22) zz.1 ((set_22).drop zz.1) zz.2.1=some o26) (fun zz=>set_22.length - zz.1) (0,[],0) ⟨Nat.zero_le _,hJ26⟩ cu cu (fun x=>⟨rfl,rfl,rfl⟩) ?_
  clear hJ26
  rintro⟨k26,left25,ver26⟩ ⟨hk26,hJ26⟩
  dsimp only at hk26 hJ26 ⊢
  refine sq (ar rfl (qn (sq ?_)))
  refine AWP.cond (Ak (fun hc=>?_) (fun hc=>?_))
  ·have hlt26:k26<set_22.length:=by have:=Ai0 hc;omega
   obtain⟨x_28,b26,hx26_,h,hJ26⟩:=A9 hJ26 hlt26
   have hx26:=Ay hx26_
   have hw26:=wk (k:=k26) (by omega)
   unfold Oc at h;try dsimp only at h
   refine sk (qn (sq (bk (sq ?_))))
   refine rg rfl fun K j=>?_
   refine Kw hx26 (by first | rfl | exact(Cl _).symm | (simp only[List.length_append,List.length_cons,List.length_nil,List.length_set,List.length_replicate]<;>omega)) ?_
   refine nS ?_
   refine De.ofNat (f:=A2) (l:=set_22) (n:=k26) hx26 ?_
   refine nS ?_
   refine j _ _ (qn (sq ?_))
   refine rg rfl fun K j=>?_
   obtain⟨y29,hy29,h⟩:=Af h
   refine An.snap Tryz.call49 (Ga f_ set_22 x_28 hy29) (by simp +decide -implicitDefEqProofs only[go_sem]) (by rintro _ rfl;rfl) fun _ hr=>?_
   subst hr
   refine nS ?_
   refine j _ _ (qn ?_)
   revert h;refine ca rfl (fun hc h=>?_) fun hc h=>?_
   ·refine rg rfl fun K j=>?_
    obtain⟨hk,h⟩:=B4 h
    (repeat refine rp ?_);try simp +decide -implicitDefEqProofs only[go_sem]
    refine j _ _ (bn (qn ?_))
    refine ar rfl (qn ?_)
    obtain rfl:=Aa h
    refine⟨(k26+1,(left25++[x_28]),(ver26+1)),⟨by dsimp only;omega,Ai hJ26⟩,by dsimp only;omega,?_,?_⟩
    ·exact cuw hw26
    exact cuw hw26
   refine sk (bn (qn (ar rfl (qn ?_))))
   obtain rfl:=Aa h
   refine⟨(k26+1,left25,ver26),⟨by dsimp only;omega,Ai hJ26⟩,by dsimp only;omega,?_,?_⟩
   ·exact cuw hw26
   exact cuw hw26
  obtain rfl:=Bf hJ26 (fun hl=>by have:=Aiz hc;omega)
  have h:=Be hO26;try dsimp only at h
  have hkl:set_22.length=k26:=by have:=Aiz hc;omega
  subst hkl
  refine xt (qe (qe (bs (qn (sq (sq ?_))))))
  refine rg rfl fun K j=>?_
  intro hm
  intro hm
  refine j _ _ (qn ?_)
  revert h;refine ca rfl (fun hc h=>?_) fun hc h=>?_
  ·refine sq (ar rfl (qn (rt (qr (br (qr ?_))))))
   obtain rfl:=Aa h
   obtain rfl:=Ae hJ23
   replace h:=Al hO23
   refine br ?_
   cases h;exact en Tryz.results29
  refine sk (qn (ar rfl (bn (qn ?_))))
  obtain rfl:=Aa h
  refine⟨(m23,left25,ver26),Ai hJ23,by dsimp only;omega,_,_,Sub.swap 2 1 rfl rfl rfl,?_,?_⟩
  ·exact cu
  exact cu
 refine sk (bn (qn (ar rfl (qn ?_))))
 obtain rfl:=Aa h
 refine⟨(k1+1,(),()),⟨by dsimp only;omega,Ai hJ1⟩,by dsimp only;omega,?_,?_⟩
 ·exact cuw hw1
 exact cuw hw1
theorem Yk (f_:Aj) (runs:List Int) {r:(List Int)} (h:E6 f_ runs=some r):Ad Tryz.prog 29 [.agg (B3 f_),.sl 1 (runs.map A2)] (·= .sl 1 (r.map A2)):=(P0 f_ runs h).pure
def Pe (b:List Int) (k0:Nat) (x_2:Int) (sv:Unit):Option (Out (Unit) (Bool)):=
 (Dk b ((k0:Nat):Int)).bind fun x_3=>(bif (decide (x_2≠x_3))then some (Out.ret false)else some (Out.next ()))
def Ov (a:List Int) (b:List Int):Option (Bool):=
 (bif (decide (((a.length:Nat):Int)≠((b.length:Nat):Int)))then some false else(Am (Pe b) 0 a ()).bind fun o0=>o0.on fun s0=>some true)
theorem Qb (a:List Int) (b:List Int) {r:Bool} (h:Ov a b=some r):Ad Tryz.prog 15 [.sl 1 (a.map A2),.sl 1 (b.map A2)] (·= .bool r):=by
 refine Ad.nle (Ad.intro Tryz.func15 rfl rfl (by show _≤26;simp) ?_)
 unfold Ov at h
 refine nS (sq ?_)
 refine ar rfl (qn (sq (sq ?_)))
 refine rg rfl fun K j=>?_
 intro hm
 intro hm
 refine j _ _ (qn ?_)
 revert h;refine ca rfl (fun hc h=>?_) fun hc h=>?_
 ·refine sq (ar rfl (qn (rt (qr ?_))))
  cases h;exact en Tryz.results15
 refine sk (qn (sq (sq (ar rfl (qn (bk ?_))))))
 obtain⟨o0,hJ0,hO0⟩:=Af h
 clear h
 refine AWP.Bw (ι:=Nat×(Unit)×(Unit)) (fun zz=>[(0,.sl 1 (a.map A2)),(1,.sl 1 (b.map A2)),(5,.int .i64 ((zz.1:Nat):Int))]) (fun zz=>[]) (fun zz=>zz.1≤a.length∧Am (Pe b) zz.1 ((a).drop zz.1) zz.2.1=some o0) (fun zz=>a.length - zz.1) (0,(),()) ⟨Nat.zero_le _,hJ0⟩ cu cu (fun x=>⟨rfl,rfl,rfl⟩) ?_
 clear hJ0
 rintro⟨k0,⟨⟩,⟨⟩⟩ ⟨hk0,hJ0⟩
 dsimp only at hk0 hJ0 ⊢
 refine sq (sq ?_)
 refine rg rfl fun K j=>?_
 intro hm
 refine j _ _ (qn ?_)
 refine AWP.cond (Ak (fun hc=>?_) (fun hc=>?_))
 rotate_left
 ·obtain rfl:=Bf hJ0 (fun hl=>by have:=Aiz hc;omega)
  have h:=Be hO0;try dsimp only at h
  have hkl:a.length=k0:=by have:=Aiz hc;omega
  subst hkl
  refine xt (qe (qe (bs (qn (sq (ar rfl (qn (rt ?_))))))))
  cases h;exact en Tryz.results15
 have hlt0:k0<a.length:=by have:=Ai0 hc;omega
 obtain⟨x_2,b0,hx0_,h,hJ0⟩:=A9 hJ0 hlt0
 have hx0:=Ay hx0_
 have hw0:=wk (k:=k0) (by omega)
 unfold Pe at h;try dsimp only at h
 refine sk (qn (sq (bk (sq ?_))))
 refine AWP.draw Tryz.mixed (by kernel_rfl) ?_;intro K j
 refine nS ?_
 refine Bn.of (f:=A2) (l:=a) hx0 ?_
 refine nS ?_
 obtain⟨x_3,hx_3,h⟩:=Af h
 refine Bn.of (f:=A2) (l:=b) hx_3 ?_
 refine nS ?_
 refine j _ _ _ (by kernel_rfl) ?_
 refine qn ?_
 revert h;refine ca rfl (fun hc h=>?_) fun hc h=>?_
 ·refine sq (ar rfl (qn (rt (br (qr (qr ?_))))))
  obtain rfl:=Aa h
  obtain rfl:=Ae hJ0
  replace h:=Al hO0
  refine br (qr ?_)
  cases h;exact en Tryz.results15
 refine sk (bn (qn (ar rfl (qn ?_))))
 obtain rfl:=Aa h
 refine⟨(k0+1,(),()),⟨by dsimp only;omega,Ai hJ0⟩,by dsimp only;omega,?_,?_⟩
 ·exact cuw hw0
 exact cuw hw0
def Jr (f_:Aj) (y1:(List Int)) (k1:Nat) (x_3:Int) (sv:Unit):Option (Out (Unit) (Bool)):=
 (C0 f_ y1 x_3).bind fun y4=>(bif (decide (y4≠0))then some (Out.ret false)else some (Out.next ()))
def Dp (f_:Aj):Option (Bool):=
 (Cw f_).bind fun y1=>(Am (Jr f_ y1) 0 y1 ()).bind fun o1=>o1.on fun s1=>some true
theorem Es (f_:Aj) {r:Bool} (h:Dp f_=some r):Ad Tryz.prog 22 [.agg (B3 f_)] (·= .bool r):=by
 refine Ad.nle (Ad.intro Tryz.func22 rfl rfl (by show _≤20;simp) ?_)
 unfold Dp at h
 refine nS (sq ?_)
 refine ar rfl (qn (sq ?_))
 refine rg rfl fun K j=>?_
 obtain⟨y1,hy1,h⟩:=Af h
 refine An.pure Tryz.call20 (D2 f_ hy1) rfl fun _ hr=>?_
 subst hr
 refine nS ?_
 refine j _ _ (qn (sq (sq ?_)))
 refine rg rfl fun K j=>?_
 intro hm
 refine j _ _ (qn (bk ?_))
 obtain⟨o1,hJ1,hO1⟩:=Af h
 clear h
 refine AWP.Bw (ι:=Nat×(Unit)×(Unit)) (fun zz=>[(1,.ptr 0 0),(3,.sl 1 (y1.map A2)),(8,.sl 1 (y1.map A2)),(9,.int .i64 ((y1.length:Nat):Int)),(10,.int .i64 ((zz.1:Nat):Int))]) (fun zz=>[.box [.sl 2 (f_.Map.Nodes.map A6),.sl 8 (f_.Map.Lifts.map A7),.sl 7 (f_.Map.Runs.map Bc),.sl 1 (f_.Map.Bases.map A2),.sl 2 (f_.Lifts.map Aw),.sl 4 (f_.Closures.map Au),.sl 4 (f_.Patrol.Bu.map Av),.sl 3 (f_.Patrol.Hazards.map Az),.sl 3 (f_.Surfaces.map A4),.sl 5 (f_.Packs.map A3),.sl 6 (f_.Slides.map Ba),.sl 7 (f_.Bulletin.map Ax),.sl 7 (f_.Missions.map Ap),.sl 4 (f_.Winches.map Ao),.sl 8 (f_.Groomers.map A1),.sl 3 (f_.Status.map A5),.int .i64 f_.Depth,.int .i64 f_.Time]]) (fun zz=>zz.1≤y1.length∧Am (Jr f_ y1) zz.1 ((y1).drop zz.1) zz.2.1=some o1) (fun zz=>y1.length - zz.1) (0,(),()) ⟨Nat.zero_le _,hJ1⟩ cu cu (fun x=>⟨rfl,rfl,rfl⟩) ?_
 clear hJ1
 rintro⟨k1,⟨⟩,⟨⟩⟩ ⟨hk1,hJ1⟩
 dsimp only at hk1 hJ1 ⊢
 refine sq (ar rfl (qn (sq ?_)))
 refine AWP.cond (Ak (fun hc=>?_) (fun hc=>?_))
 rotate_left
 ·obtain rfl:=Bf hJ1 (fun hl=>by have:=Aiz hc;omega)
  have h:=Be hO1;try dsimp only at h
  have hkl:y1.length=k1:=by have:=Aiz hc;omega
  subst hkl
  refine xt (qe (qe (bs (qn (sq (ar rfl (qn (rt ?_))))))))
  cases h;exact en Tryz.results22
 have hlt1:k1<y1.length:=by have:=Ai0 hc;omega
 obtain⟨x_3,b1,hx1_,h,hJ1⟩:=A9 hJ1 hlt1
 have hx1:=Ay hx1_
 have hw1:=wk (k:=k1) (by omega)
 unfold Jr at h;try dsimp only at h
 refine sk (qn (sq (bk (sq ?_))))
 refine rg rfl fun K j=>?_
 refine Bn.of (f:=A2) (l:=y1) hx1 ?_
 refine nS ?_
 refine j _ _ (qn (sq ?_))
 refine rg rfl fun K j=>?_
 obtain⟨y4,hy4,h⟩:=Af h
 refine An.pure Tryz.call18 (Dh f_ y1 x_3 hy4) rfl fun _ hr=>?_
 subst hr
 refine nS ?_
 refine j _ _ (qn ?_)
 revert h;refine ca rfl (fun hc h=>?_) fun hc h=>?_
 ·refine sq (ar rfl (qn (rt (br (qr (qr ?_))))))
  obtain rfl:=Aa h
  obtain rfl:=Ae hJ1
  replace h:=Al hO1
  refine br (qr ?_)
  cases h;exact en Tryz.results22
 refine sk (bn (qn (ar rfl (qn ?_))))
 obtain rfl:=Aa h
 refine⟨(k1+1,(),()),⟨by dsimp only;omega,Ai hJ1⟩,by dsimp only;omega,?_,?_⟩
 ·exact cuw hw1
 exact cuw hw1
def C7 (s_:List Ck):Option (List Ck):=chk s_.length (some s_)
theorem L5 (s_:List Ck) {r:List Ck} (h:C7 s_=some r):Db Tryz.prog 122 [.sl 2 (s_.map A6)] 2 (r.map A6):=by
 have hk:=(B4 h).1
 have hr:r=s_:=Aa (B4 h).2
 rw[hr];clear hr h
 refine Db.of ?_
 refine Ch.weak (R:=fun q H=>∃ v rest,q= .own 0 v 0 (s_.map A6).length∧H= .row v 2 (s_.map A6)::rest) (Ch.intro Tryz.func122 rfl rfl (by show _≤8;simp) ?_) (fun q H hq=>?_)
 ·refine nS (sq ?_)
  refine ar rfl (qn (sq (sq ?_)))
  refine rg rfl fun K j=>?_
  intro bnil hb
  refine nS ?_
  refine j _ _ (qn ?_)
  refine AWP.cond (Ak (fun hc=>?_) (fun hc=>?_))
  ·have hx0:s_=[]:=Classical.byContradiction fun hne=>by have:=hb (by simpa using hne);simp[this]at hc
   subst hx0
   refine sq (ar rfl (qn ?_))
   refine AWP.ghost 2 2 rfl (by decide) ?_
   refine nS (rt (qr ?_))
   refine nSc Tryz.results122 ?_
   refine⟨_,_,?_,rfl⟩
   (try simp +decide -implicitDefEqProofs only[go_sem,List.length_map,List.length_append,List.length_cons,List.length_nil,List.length_set,List.length_replicate]);try rfl
  clear hc
  refine sk (qn (sq ?_))
  refine rg rfl fun K j=>?_
  (repeat refine rp ?_);try simp +decide -implicitDefEqProofs only[go_sem]
  refine j _ _ (qn (rt ?_))
  refine nSc Tryz.results122 ?_
  refine⟨_,_,?_,rfl⟩
  (try simp +decide -implicitDefEqProofs only[go_sem,List.length_map,List.length_append,List.length_cons,List.length_nil,List.length_set,List.length_replicate]);try rfl
 obtain⟨v,rest,rfl,rfl⟩:=hq
 exact⟨[.row v 2 (s_.map A6)],⟨⟨rfl,rfl,rfl⟩,by cases rest<;>trivial⟩,rfl,rfl,⟨v,rfl,rfl⟩⟩
theorem Lc (s_:List Ck) {r:List Ck} (h:C7 s_=some r):Bo Tryz.prog 122 [.sl 2 (s_.map A6)] (·= .sl 2 (r.map A6)):=Bo.nle (Ch.fresh (Ch.mono (L5 s_ h) fun q H=>by rintro⟨rfl,rfl⟩;simp +decide -implicitDefEqProofs only[go_sem,Dg,Ac.int.injEq,Int.natCast_zero,List.replicate_zero,List.length_take,List.length_drop,Ac.own.injEq,reduceCtorEq,Int.reduceAdd,Ru,Rv,Om,Rt,Ol,List.length_map]))
theorem Lu (s_:List Ck) {r:List Ck} (h:C7 s_=some r):Ad Tryz.prog 122 [.sl 2 (s_.map A6)] (·= .sl 2 (r.map A6)):=(Lc s_ h).pure
def C8 (s_:List Cc):Option (List Cc):=chk s_.length (some s_)
theorem L6 (s_:List Cc) {r:List Cc} (h:C8 s_=some r):Db Tryz.prog 123 [.sl 8 (s_.map A7)] 8 (r.map A7):=by
 have hk:=(B4 h).1
 have hr:r=s_:=Aa (B4 h).2
 rw[hr];clear hr h
 refine Db.of ?_
 refine Ch.weak (R:=fun q H=>∃ v rest,q= .own 0 v 0 (s_.map A7).length∧H= .row v 8 (s_.map A7)::rest) (Ch.intro Tryz.func123 rfl rfl (by show _≤8;simp) ?_) (fun q H hq=>?_)
 ·refine nS (sq ?_)
  refine ar rfl (qn (sq (sq ?_)))
  refine rg rfl fun K j=>?_
  intro bnil hb
  refine nS ?_
  refine j _ _ (qn ?_)
  refine AWP.cond (Ak (fun hc=>?_) (fun hc=>?_))
  ·have hx0:s_=[]:=Classical.byContradiction fun hne=>by have:=hb (by simpa using hne);simp[this]at hc
   subst hx0
   refine sq (ar rfl (qn ?_))
   refine AWP.ghost 2 8 rfl (by decide) ?_
   refine nS (rt (qr ?_))
   refine nSc Tryz.results123 ?_
   refine⟨_,_,?_,rfl⟩
   (try simp +decide -implicitDefEqProofs only[go_sem,List.length_map,List.length_append,List.length_cons,List.length_nil,List.length_set,List.length_replicate]);try rfl
  clear hc
  refine sk (qn (sq ?_))
  refine rg rfl fun K j=>?_
  (repeat refine rp ?_);try simp +decide -implicitDefEqProofs only[go_sem]
  refine j _ _ (qn (rt ?_))
  refine nSc Tryz.results123 ?_
  refine⟨_,_,?_,rfl⟩
  (try simp +decide -implicitDefEqProofs only[go_sem,List.length_map,List.length_append,List.length_cons,List.length_nil,List.length_set,List.length_replicate]);try rfl
 obtain⟨v,rest,rfl,rfl⟩:=hq
 exact⟨[.row v 8 (s_.map A7)],⟨⟨rfl,rfl,rfl⟩,by cases rest<;>trivial⟩,rfl,rfl,⟨v,rfl,rfl⟩⟩
theorem Ld (s_:List Cc) {r:List Cc} (h:C8 s_=some r):Bo Tryz.prog 123 [.sl 8 (s_.map A7)] (·= .sl 8 (r.map A7)):=Bo.nle (Ch.fresh (Ch.mono (L6 s_ h) fun q H=>by rintro⟨rfl,rfl⟩;simp +decide -implicitDefEqProofs only[go_sem,Dg,Ac.int.injEq,Int.natCast_zero,List.replicate_zero,List.length_take,List.length_drop,Ac.own.injEq,reduceCtorEq,Int.reduceAdd,Ru,Rv,Om,Rt,Ol,List.length_map]))
theorem Lv (s_:List Cc) {r:List Cc} (h:C8 s_=some r):Ad Tryz.prog 123 [.sl 8 (s_.map A7)] (·= .sl 8 (r.map A7)):=(Ld s_ h).pure
def Df (s_:List Ce):Option (List Ce):=chk s_.length (some s_)
theorem Nl (s_:List Ce) {r:List Ce} (h:Df s_=some r):Db Tryz.prog 124 [.sl 7 (s_.map Bc)] 7 (r.map Bc):=by
 have hk:=(B4 h).1
 have hr:r=s_:=Aa (B4 h).2
 rw[hr];clear hr h
 refine Db.of ?_
 refine Ch.weak (R:=fun q H=>∃ v rest,q= .own 0 v 0 (s_.map Bc).length∧H= .row v 7 (s_.map Bc)::rest) (Ch.intro Tryz.func124 rfl rfl (by show _≤8;simp) ?_) (fun q H hq=>?_)
 ·refine nS (sq ?_)
  refine ar rfl (qn (sq (sq ?_)))
  refine rg rfl fun K j=>?_
  intro bnil hb
  refine nS ?_
  refine j _ _ (qn ?_)
  refine AWP.cond (Ak (fun hc=>?_) (fun hc=>?_))
  ·have hx0:s_=[]:=Classical.byContradiction fun hne=>by have:=hb (by simpa using hne);simp[this]at hc
   subst hx0
   refine sq (ar rfl (qn ?_))
   refine AWP.ghost 2 7 rfl (by decide) ?_
   refine nS (rt (qr ?_))
   refine nSc Tryz.results124 ?_
   refine⟨_,_,?_,rfl⟩
   (try simp +decide -implicitDefEqProofs only[go_sem,List.length_map,List.length_append,List.length_cons,List.length_nil,List.length_set,List.length_replicate]);try rfl
  clear hc
  refine sk (qn (sq ?_))
  refine rg rfl fun K j=>?_
  (repeat refine rp ?_);try simp +decide -implicitDefEqProofs only[go_sem]
  refine j _ _ (qn (rt ?_))
  refine nSc Tryz.results124 ?_
  refine⟨_,_,?_,rfl⟩
  (try simp +decide -implicitDefEqProofs only[go_sem,List.length_map,List.length_append,List.length_cons,List.length_nil,List.length_set,List.length_replicate]);try rfl
 obtain⟨v,rest,rfl,rfl⟩:=hq
 exact⟨[.row v 7 (s_.map Bc)],⟨⟨rfl,rfl,rfl⟩,by cases rest<;>trivial⟩,rfl,rfl,⟨v,rfl,rfl⟩⟩
theorem L4 (s_:List Ce) {r:List Ce} (h:Df s_=some r):Bo Tryz.prog 124 [.sl 7 (s_.map Bc)] (·= .sl 7 (r.map Bc)):=Bo.nle (Ch.fresh (Ch.mono (Nl s_ h) fun q H=>by rintro⟨rfl,rfl⟩;simp +decide -implicitDefEqProofs only[go_sem,Dg,Ac.int.injEq,Int.natCast_zero,List.replicate_zero,List.length_take,List.length_drop,Ac.own.injEq,reduceCtorEq,Int.reduceAdd,Ru,Rv,Om,Rt,Ol,List.length_map]))
theorem My (s_:List Ce) {r:List Ce} (h:Df s_=some r):Ad Tryz.prog 124 [.sl 7 (s_.map Bc)] (·= .sl 7 (r.map Bc)):=(L4 s_ h).pure
def Cf (s_:List Cr):Option (List Cr):=chk s_.length (some s_)
theorem Hx (s_:List Cr) {r:List Cr} (h:Cf s_=some r):Db Tryz.prog 125 [.sl 2 (s_.map Aw)] 2 (r.map Aw):=by
 have hk:=(B4 h).1
 have hr:r=s_:=Aa (B4 h).2
 rw[hr];clear hr h
 refine Db.of ?_
 refine Ch.weak (R:=fun q H=>∃ v rest,q= .own 0 v 0 (s_.map Aw).length∧H= .row v 2 (s_.map Aw)::rest) (Ch.intro Tryz.func125 rfl rfl (by show _≤8;simp) ?_) (fun q H hq=>?_)
 ·refine nS (sq ?_)
  refine ar rfl (qn (sq (sq ?_)))
  refine rg rfl fun K j=>?_
  intro bnil hb
  refine nS ?_
  refine j _ _ (qn ?_)
  refine AWP.cond (Ak (fun hc=>?_) (fun hc=>?_))
  ·have hx0:s_=[]:=Classical.byContradiction fun hne=>by have:=hb (by simpa using hne);simp[this]at hc
   subst hx0
   refine sq (ar rfl (qn ?_))
   refine AWP.ghost 2 2 rfl (by decide) ?_
   refine nS (rt (qr ?_))
   refine nSc Tryz.results125 ?_
   refine⟨_,_,?_,rfl⟩
   (try simp +decide -implicitDefEqProofs only[go_sem,List.length_map,List.length_append,List.length_cons,List.length_nil,List.length_set,List.length_replicate]);try rfl
  clear hc
  refine sk (qn (sq ?_))
  refine rg rfl fun K j=>?_
  (repeat refine rp ?_);try simp +decide -implicitDefEqProofs only[go_sem]
  refine j _ _ (qn (rt ?_))
  refine nSc Tryz.results125 ?_
  refine⟨_,_,?_,rfl⟩
  (try simp +decide -implicitDefEqProofs only[go_sem,List.length_map,List.length_append,List.length_cons,List.length_nil,List.length_set,List.length_replicate]);try rfl
 obtain⟨v,rest,rfl,rfl⟩:=hq
 exact⟨[.row v 2 (s_.map Aw)],⟨⟨rfl,rfl,rfl⟩,by cases rest<;>trivial⟩,rfl,rfl,⟨v,rfl,rfl⟩⟩
theorem Gz (s_:List Cr) {r:List Cr} (h:Cf s_=some r):Bo Tryz.prog 125 [.sl 2 (s_.map Aw)] (·= .sl 2 (r.map Aw)):=Bo.nle (Ch.fresh (Ch.mono (Hx s_ h) fun q H=>by rintro⟨rfl,rfl⟩;simp +decide -implicitDefEqProofs only[go_sem,Dg,Ac.int.injEq,Int.natCast_zero,List.replicate_zero,List.length_take,List.length_drop,Ac.own.injEq,reduceCtorEq,Int.reduceAdd,Ru,Rv,Om,Rt,Ol,List.length_map]))
theorem Hb (s_:List Cr) {r:List Cr} (h:Cf s_=some r):Ad Tryz.prog 125 [.sl 2 (s_.map Aw)] (·= .sl 2 (r.map Aw)):=(Gz s_ h).pure
def Cq (s_:List Bl):Option (List Bl):=chk s_.length (some s_)
theorem Iy (s_:List Bl) {r:List Bl} (h:Cq s_=some r):Db Tryz.prog 126 [.sl 4 (s_.map Au)] 4 (r.map Au):=by
 have hk:=(B4 h).1
 have hr:r=s_:=Aa (B4 h).2
 rw[hr];clear hr h
 refine Db.of ?_
 refine Ch.weak (R:=fun q H=>∃ v rest,q= .own 0 v 0 (s_.map Au).length∧H= .row v 4 (s_.map Au)::rest) (Ch.intro Tryz.func126 rfl rfl (by show _≤8;simp) ?_) (fun q H hq=>?_)
 ·refine nS (sq ?_)
  refine ar rfl (qn (sq (sq ?_)))
  refine rg rfl fun K j=>?_
  intro bnil hb
  refine nS ?_
  refine j _ _ (qn ?_)
  refine AWP.cond (Ak (fun hc=>?_) (fun hc=>?_))
  ·have hx0:s_=[]:=Classical.byContradiction fun hne=>by have:=hb (by simpa using hne);simp[this]at hc
   subst hx0
   refine sq (ar rfl (qn ?_))
   refine AWP.ghost 2 4 rfl (by decide) ?_
   refine nS (rt (qr ?_))
   refine nSc Tryz.results126 ?_
   refine⟨_,_,?_,rfl⟩
   (try simp +decide -implicitDefEqProofs only[go_sem,List.length_map,List.length_append,List.length_cons,List.length_nil,List.length_set,List.length_replicate]);try rfl
  clear hc
  refine sk (qn (sq ?_))
  refine rg rfl fun K j=>?_
  (repeat refine rp ?_);try simp +decide -implicitDefEqProofs only[go_sem]
  refine j _ _ (qn (rt ?_))
  refine nSc Tryz.results126 ?_
  refine⟨_,_,?_,rfl⟩
  (try simp +decide -implicitDefEqProofs only[go_sem,List.length_map,List.length_append,List.length_cons,List.length_nil,List.length_set,List.length_replicate]);try rfl
 obtain⟨v,rest,rfl,rfl⟩:=hq
 exact⟨[.row v 4 (s_.map Au)],⟨⟨rfl,rfl,rfl⟩,by cases rest<;>trivial⟩,rfl,rfl,⟨v,rfl,rfl⟩⟩
theorem Hz (s_:List Bl) {r:List Bl} (h:Cq s_=some r):Bo Tryz.prog 126 [.sl 4 (s_.map Au)] (·= .sl 4 (r.map Au)):=Bo.nle (Ch.fresh (Ch.mono (Iy s_ h) fun q H=>by rintro⟨rfl,rfl⟩;simp +decide -implicitDefEqProofs only[go_sem,Dg,Ac.int.injEq,Int.natCast_zero,List.replicate_zero,List.length_take,List.length_drop,Ac.own.injEq,reduceCtorEq,Int.reduceAdd,Ru,Rv,Om,Rt,Ol,List.length_map]))
theorem Ig (s_:List Bl) {r:List Bl} (h:Cq s_=some r):Ad Tryz.prog 126 [.sl 4 (s_.map Au)] (·= .sl 4 (r.map Au)):=(Hz s_ h).pure
def C6 (s_:List Fl):Option (List Fl):=chk s_.length (some s_)
theorem L3 (s_:List Fl) {r:List Fl} (h:C6 s_=some r):Db Tryz.prog 129 [.sl 3 (s_.map B9)] 3 (r.map B9):=by
 have hk:=(B4 h).1
 have hr:r=s_:=Aa (B4 h).2
 rw[hr];clear hr h
 refine Db.of ?_
 refine Ch.weak (R:=fun q H=>∃ v rest,q= .own 0 v 0 (s_.map B9).length∧H= .row v 3 (s_.map B9)::rest) (Ch.intro Tryz.func129 rfl rfl (by show _≤8;simp) ?_) (fun q H hq=>?_)
 ·refine nS (sq ?_)
  refine ar rfl (qn (sq (sq ?_)))
  refine rg rfl fun K j=>?_
  intro bnil hb
  refine nS ?_
  refine j _ _ (qn ?_)
  refine AWP.cond (Ak (fun hc=>?_) (fun hc=>?_))
  ·have hx0:s_=[]:=Classical.byContradiction fun hne=>by have:=hb (by simpa using hne);simp[this]at hc
   subst hx0
   refine sq (ar rfl (qn ?_))
   refine AWP.ghost 2 3 rfl (by decide) ?_
   refine nS (rt (qr ?_))
   refine nSc Tryz.results129 ?_
   refine⟨_,_,?_,rfl⟩
   (try simp +decide -implicitDefEqProofs only[go_sem,List.length_map,List.length_append,List.length_cons,List.length_nil,List.length_set,List.length_replicate]);try rfl
  clear hc
  refine sk (qn (sq ?_))
  refine rg rfl fun K j=>?_
  (repeat refine rp ?_);try simp +decide -implicitDefEqProofs only[go_sem]
  refine j _ _ (qn (rt ?_))
  refine nSc Tryz.results129 ?_
  refine⟨_,_,?_,rfl⟩
  (try simp +decide -implicitDefEqProofs only[go_sem,List.length_map,List.length_append,List.length_cons,List.length_nil,List.length_set,List.length_replicate]);try rfl
 obtain⟨v,rest,rfl,rfl⟩:=hq
 exact⟨[.row v 3 (s_.map B9)],⟨⟨rfl,rfl,rfl⟩,by cases rest<;>trivial⟩,rfl,rfl,⟨v,rfl,rfl⟩⟩
theorem Lb (s_:List Fl) {r:List Fl} (h:C6 s_=some r):Bo Tryz.prog 129 [.sl 3 (s_.map B9)] (·= .sl 3 (r.map B9)):=Bo.nle (Ch.fresh (Ch.mono (L3 s_ h) fun q H=>by rintro⟨rfl,rfl⟩;simp +decide -implicitDefEqProofs only[go_sem,Dg,Ac.int.injEq,Int.natCast_zero,List.replicate_zero,List.length_take,List.length_drop,Ac.own.injEq,reduceCtorEq,Int.reduceAdd,Ru,Rv,Om,Rt,Ol,List.length_map]))
theorem Lt (s_:List Fl) {r:List Fl} (h:C6 s_=some r):Ad Tryz.prog 129 [.sl 3 (s_.map B9)] (·= .sl 3 (r.map B9)):=(Lb s_ h).pure
def Eo (l:Cj):Option (Cj):=
 (B8 l.List_.Items).bind fun y1=>(C6 l.List_.Signs).bind fun y2=>some (Cj.mk l.Run (Br.mk y1 l.List_.Every y2))
theorem Tp (l:Cj) {r:Cj} (h:Eo l=some r):Ad Tryz.prog 128 [.agg (Av l)] (·= .agg (Av r)):=by
 refine Ad.nle (Ad.intro Tryz.func128 rfl rfl (by show _≤16;simp) ?_)
 unfold Eo at h
 refine nS (sq ?_)
 refine ar rfl (qn (sq ?_))
 refine rg rfl fun K j=>?_
 obtain⟨y1,hy1,h⟩:=Af h
 refine An.pure Tryz.call67 (Da l.List_.Items hy1) rfl fun _ hr=>?_
 subst hr
 refine nS ?_
 refine j _ _ (qn (sq ?_))
 refine rg rfl fun K j=>?_
 obtain⟨y2,hy2,h⟩:=Af h
 refine An.pure Tryz.call129 (Lt l.List_.Signs hy2) rfl fun _ hr=>?_
 subst hr
 refine nS ?_
 refine j _ _ (qn (sq ?_))
 refine ar rfl (qn (rt ?_))
 cases h;exact en Tryz.results128
def Cu (s_:List Cv):Option (List Cv):=chk s_.length (some s_)
theorem Jy (s_:List Cv) {r:List Cv} (h:Cu s_=some r):Db Tryz.prog 130 [.sl 3 (s_.map Az)] 3 (r.map Az):=by
 have hk:=(B4 h).1
 have hr:r=s_:=Aa (B4 h).2
 rw[hr];clear hr h
 refine Db.of ?_
 refine Ch.weak (R:=fun q H=>∃ v rest,q= .own 0 v 0 (s_.map Az).length∧H= .row v 3 (s_.map Az)::rest) (Ch.intro Tryz.func130 rfl rfl (by show _≤8;simp) ?_) (fun q H hq=>?_)
 ·refine nS (sq ?_)
  refine ar rfl (qn (sq (sq ?_)))
  refine rg rfl fun K j=>?_
  intro bnil hb
  refine nS ?_
  refine j _ _ (qn ?_)
  refine AWP.cond (Ak (fun hc=>?_) (fun hc=>?_))
  ·have hx0:s_=[]:=Classical.byContradiction fun hne=>by have:=hb (by simpa using hne);simp[this]at hc
   subst hx0
   refine sq (ar rfl (qn ?_))
   refine AWP.ghost 2 3 rfl (by decide) ?_
   refine nS (rt (qr ?_))
   refine nSc Tryz.results130 ?_
   refine⟨_,_,?_,rfl⟩
   (try simp +decide -implicitDefEqProofs only[go_sem,List.length_map,List.length_append,List.length_cons,List.length_nil,List.length_set,List.length_replicate]);try rfl
  clear hc
  refine sk (qn (sq ?_))
  refine rg rfl fun K j=>?_
  (repeat refine rp ?_);try simp +decide -implicitDefEqProofs only[go_sem]
  refine j _ _ (qn (rt ?_))
  refine nSc Tryz.results130 ?_
  refine⟨_,_,?_,rfl⟩
  (try simp +decide -implicitDefEqProofs only[go_sem,List.length_map,List.length_append,List.length_cons,List.length_nil,List.length_set,List.length_replicate]);try rfl
 obtain⟨v,rest,rfl,rfl⟩:=hq
 exact⟨[.row v 3 (s_.map Az)],⟨⟨rfl,rfl,rfl⟩,by cases rest<;>trivial⟩,rfl,rfl,⟨v,rfl,rfl⟩⟩
theorem Iw (s_:List Cv) {r:List Cv} (h:Cu s_=some r):Bo Tryz.prog 130 [.sl 3 (s_.map Az)] (·= .sl 3 (r.map Az)):=Bo.nle (Ch.fresh (Ch.mono (Jy s_ h) fun q H=>by rintro⟨rfl,rfl⟩;simp +decide -implicitDefEqProofs only[go_sem,Dg,Ac.int.injEq,Int.natCast_zero,List.replicate_zero,List.length_take,List.length_drop,Ac.own.injEq,reduceCtorEq,Int.reduceAdd,Ru,Rv,Om,Rt,Ol,List.length_map]))
theorem Jl (s_:List Cv) {r:List Cv} (h:Cu s_=some r):Ad Tryz.prog 130 [.sl 3 (s_.map Az)] (·= .sl 3 (r.map Az)):=(Iw s_ h).pure
def Cm (s_:List Cy):Option (List Cy):=chk s_.length (some s_)
theorem It (s_:List Cy) {r:List Cy} (h:Cm s_=some r):Db Tryz.prog 131 [.sl 3 (s_.map A4)] 3 (r.map A4):=by
 have hk:=(B4 h).1
 have hr:r=s_:=Aa (B4 h).2
 rw[hr];clear hr h
 refine Db.of ?_
 refine Ch.weak (R:=fun q H=>∃ v rest,q= .own 0 v 0 (s_.map A4).length∧H= .row v 3 (s_.map A4)::rest) (Ch.intro Tryz.func131 rfl rfl (by show _≤8;simp) ?_) (fun q H hq=>?_)
 ·refine nS (sq ?_)
  refine ar rfl (qn (sq (sq ?_)))
  refine rg rfl fun K j=>?_
  intro bnil hb
  refine nS ?_
  refine j _ _ (qn ?_)
  refine AWP.cond (Ak (fun hc=>?_) (fun hc=>?_))
  ·have hx0:s_=[]:=Classical.byContradiction fun hne=>by have:=hb (by simpa using hne);simp[this]at hc
   subst hx0
   refine sq (ar rfl (qn ?_))
   refine AWP.ghost 2 3 rfl (by decide) ?_
   refine nS (rt (qr ?_))
   refine nSc Tryz.results131 ?_
   refine⟨_,_,?_,rfl⟩
   (try simp +decide -implicitDefEqProofs only[go_sem,List.length_map,List.length_append,List.length_cons,List.length_nil,List.length_set,List.length_replicate]);try rfl
  clear hc
  refine sk (qn (sq ?_))
  refine rg rfl fun K j=>?_
  (repeat refine rp ?_);try simp +decide -implicitDefEqProofs only[go_sem]
  refine j _ _ (qn (rt ?_))
  refine nSc Tryz.results131 ?_
  refine⟨_,_,?_,rfl⟩
  (try simp +decide -implicitDefEqProofs only[go_sem,List.length_map,List.length_append,List.length_cons,List.length_nil,List.length_set,List.length_replicate]);try rfl
 obtain⟨v,rest,rfl,rfl⟩:=hq
 exact⟨[.row v 3 (s_.map A4)],⟨⟨rfl,rfl,rfl⟩,by cases rest<;>trivial⟩,rfl,rfl,⟨v,rfl,rfl⟩⟩
theorem Hu (s_:List Cy) {r:List Cy} (h:Cm s_=some r):Bo Tryz.prog 131 [.sl 3 (s_.map A4)] (·= .sl 3 (r.map A4)):=Bo.nle (Ch.fresh (Ch.mono (It s_ h) fun q H=>by rintro⟨rfl,rfl⟩;simp +decide -implicitDefEqProofs only[go_sem,Dg,Ac.int.injEq,Int.natCast_zero,List.replicate_zero,List.length_take,List.length_drop,Ac.own.injEq,reduceCtorEq,Int.reduceAdd,Ru,Rv,Om,Rt,Ol,List.length_map]))
theorem Ia (s_:List Cy) {r:List Cy} (h:Cm s_=some r):Ad Tryz.prog 131 [.sl 3 (s_.map A4)] (·= .sl 3 (r.map A4)):=(Hu s_ h).pure
def Cn (s_:List C5):Option (List C5):=chk s_.length (some s_)
theorem Iu (s_:List C5) {r:List C5} (h:Cn s_=some r):Db Tryz.prog 132 [.sl 5 (s_.map A3)] 5 (r.map A3):=by
 have hk:=(B4 h).1
 have hr:r=s_:=Aa (B4 h).2
 rw[hr];clear hr h
 refine Db.of ?_
 refine Ch.weak (R:=fun q H=>∃ v rest,q= .own 0 v 0 (s_.map A3).length∧H= .row v 5 (s_.map A3)::rest) (Ch.intro Tryz.func132 rfl rfl (by show _≤8;simp) ?_) (fun q H hq=>?_)
 ·refine nS (sq ?_)
  refine ar rfl (qn (sq (sq ?_)))
  refine rg rfl fun K j=>?_
  intro bnil hb
  refine nS ?_
  refine j _ _ (qn ?_)
  refine AWP.cond (Ak (fun hc=>?_) (fun hc=>?_))
  ·have hx0:s_=[]:=Classical.byContradiction fun hne=>by have:=hb (by simpa using hne);simp[this]at hc
   subst hx0
   refine sq (ar rfl (qn ?_))
   refine AWP.ghost 2 5 rfl (by decide) ?_
   refine nS (rt (qr ?_))
   refine nSc Tryz.results132 ?_
   refine⟨_,_,?_,rfl⟩
   (try simp +decide -implicitDefEqProofs only[go_sem,List.length_map,List.length_append,List.length_cons,List.length_nil,List.length_set,List.length_replicate]);try rfl
  clear hc
  refine sk (qn (sq ?_))
  refine rg rfl fun K j=>?_
  (repeat refine rp ?_);try simp +decide -implicitDefEqProofs only[go_sem]
  refine j _ _ (qn (rt ?_))
  refine nSc Tryz.results132 ?_
  refine⟨_,_,?_,rfl⟩
  (try simp +decide -implicitDefEqProofs only[go_sem,List.length_map,List.length_append,List.length_cons,List.length_nil,List.length_set,List.length_replicate]);try rfl
 obtain⟨v,rest,rfl,rfl⟩:=hq
 exact⟨[.row v 5 (s_.map A3)],⟨⟨rfl,rfl,rfl⟩,by cases rest<;>trivial⟩,rfl,rfl,⟨v,rfl,rfl⟩⟩
theorem Hv (s_:List C5) {r:List C5} (h:Cn s_=some r):Bo Tryz.prog 132 [.sl 5 (s_.map A3)] (·= .sl 5 (r.map A3)):=Bo.nle (Ch.fresh (Ch.mono (Iu s_ h) fun q H=>by rintro⟨rfl,rfl⟩;simp +decide -implicitDefEqProofs only[go_sem,Dg,Ac.int.injEq,Int.natCast_zero,List.replicate_zero,List.length_take,List.length_drop,Ac.own.injEq,reduceCtorEq,Int.reduceAdd,Ru,Rv,Om,Rt,Ol,List.length_map]))
theorem Ib (s_:List C5) {r:List C5} (h:Cn s_=some r):Ad Tryz.prog 132 [.sl 5 (s_.map A3)] (·= .sl 5 (r.map A3)):=(Hv s_ h).pure
def En (s_:Bd):Option (Bd):=
 (B8 s_.Zones).bind fun y1=>(B8 s_.Lifts).bind fun y2=>some (Bd.mk s_.ID y1 y2 s_.Limit s_.Load s_.Controlled)
theorem Tn (s_:Bd) {r:Bd} (h:En s_=some r):Ad Tryz.prog 134 [.agg (Ba s_)] (·= .agg (Ba r)):=by
 refine Ad.nle (Ad.intro Tryz.func134 rfl rfl (by show _≤12;simp) ?_)
 unfold En at h
 refine nS (sq ?_)
 refine ar rfl (qn (sq ?_))
 refine rg rfl fun K j=>?_
 obtain⟨y1,hy1,h⟩:=Af h
 refine An.pure Tryz.call67 (Da s_.Zones hy1) rfl fun _ hr=>?_
 subst hr
 refine nS ?_
 refine j _ _ (qn (sq ?_))
 refine rg rfl fun K j=>?_
 obtain⟨y2,hy2,h⟩:=Af h
 refine An.pure Tryz.call67 (Da s_.Lifts hy2) rfl fun _ hr=>?_
 subst hr
 refine nS ?_
 refine j _ _ (qn (sq ?_))
 refine ar rfl (qn (rt ?_))
 cases h;exact en Tryz.results134
def Em (b:Bp):Option (Bp):=
 (B8 b.Zones).bind fun y1=>some (Bp.mk b.Version b.Span b.Low b.High y1 b.Level)
theorem Tm (b:Bp) {r:Bp} (h:Em b=some r):Ad Tryz.prog 136 [.agg (Ax b)] (·= .agg (Ax r)):=by
 refine Ad.nle (Ad.intro Tryz.func136 rfl rfl (by show _≤8;simp) ?_)
 unfold Em at h
 refine nS (sq ?_)
 refine ar rfl (qn (sq ?_))
 refine rg rfl fun K j=>?_
 obtain⟨y1,hy1,h⟩:=Af h
 refine An.pure Tryz.call67 (Da b.Zones hy1) rfl fun _ hr=>?_
 subst hr
 refine nS ?_
 refine j _ _ (qn (sq ?_))
 refine ar rfl (qn (rt ?_))
 cases h;exact en Tryz.results136
def Co (s_:List Bh):Option (List Bh):=chk s_.length (some s_)
theorem Iv (s_:List Bh) {r:List Bh} (h:Co s_=some r):Db Tryz.prog 137 [.sl 7 (s_.map Ap)] 7 (r.map Ap):=by
 have hk:=(B4 h).1
 have hr:r=s_:=Aa (B4 h).2
 rw[hr];clear hr h
 refine Db.of ?_
 refine Ch.weak (R:=fun q H=>∃ v rest,q= .own 0 v 0 (s_.map Ap).length∧H= .row v 7 (s_.map Ap)::rest) (Ch.intro Tryz.func137 rfl rfl (by show _≤8;simp) ?_) (fun q H hq=>?_)
 ·refine nS (sq ?_)
  refine ar rfl (qn (sq (sq ?_)))
  refine rg rfl fun K j=>?_
  intro bnil hb
  refine nS ?_
  refine j _ _ (qn ?_)
  refine AWP.cond (Ak (fun hc=>?_) (fun hc=>?_))
  ·have hx0:s_=[]:=Classical.byContradiction fun hne=>by have:=hb (by simpa using hne);simp[this]at hc
   subst hx0
   refine sq (ar rfl (qn ?_))
   refine AWP.ghost 2 7 rfl (by decide) ?_
   refine nS (rt (qr ?_))
   refine nSc Tryz.results137 ?_
   refine⟨_,_,?_,rfl⟩
   (try simp +decide -implicitDefEqProofs only[go_sem,List.length_map,List.length_append,List.length_cons,List.length_nil,List.length_set,List.length_replicate]);try rfl
  clear hc
  refine sk (qn (sq ?_))
  refine rg rfl fun K j=>?_
  (repeat refine rp ?_);try simp +decide -implicitDefEqProofs only[go_sem]
  refine j _ _ (qn (rt ?_))
  refine nSc Tryz.results137 ?_
  refine⟨_,_,?_,rfl⟩
  (try simp +decide -implicitDefEqProofs only[go_sem,List.length_map,List.length_append,List.length_cons,List.length_nil,List.length_set,List.length_replicate]);try rfl
 obtain⟨v,rest,rfl,rfl⟩:=hq
 exact⟨[.row v 7 (s_.map Ap)],⟨⟨rfl,rfl,rfl⟩,by cases rest<;>trivial⟩,rfl,rfl,⟨v,rfl,rfl⟩⟩
theorem Hw (s_:List Bh) {r:List Bh} (h:Co s_=some r):Bo Tryz.prog 137 [.sl 7 (s_.map Ap)] (·= .sl 7 (r.map Ap)):=Bo.nle (Ch.fresh (Ch.mono (Iv s_ h) fun q H=>by rintro⟨rfl,rfl⟩;simp +decide -implicitDefEqProofs only[go_sem,Dg,Ac.int.injEq,Int.natCast_zero,List.replicate_zero,List.length_take,List.length_drop,Ac.own.injEq,reduceCtorEq,Int.reduceAdd,Ru,Rv,Om,Rt,Ol,List.length_map]))
theorem Ic (s_:List Bh) {r:List Bh} (h:Co s_=some r):Ad Tryz.prog 137 [.sl 7 (s_.map Ap)] (·= .sl 7 (r.map Ap)):=(Hw s_ h).pure
def El (w:A8):Option (A8):=
 (B8 w.Runs).bind fun y1=>some (A8.mk w.Groomer w.From w.To y1)
theorem Tl (w:A8) {r:A8} (h:El w=some r):Ad Tryz.prog 139 [.agg (Ao w)] (·= .agg (Ao r)):=by
 refine Ad.nle (Ad.intro Tryz.func139 rfl rfl (by show _≤8;simp) ?_)
 unfold El at h
 refine nS (sq ?_)
 refine ar rfl (qn (sq ?_))
 refine rg rfl fun K j=>?_
 obtain⟨y1,hy1,h⟩:=Af h
 refine An.pure Tryz.call67 (Da w.Runs hy1) rfl fun _ hr=>?_
 subst hr
 refine nS ?_
 refine j _ _ (qn (sq ?_))
 refine ar rfl (qn (rt ?_))
 cases h;exact en Tryz.results139
def Cp (s_:List B5):Option (List B5):=chk s_.length (some s_)
theorem Ix (s_:List B5) {r:List B5} (h:Cp s_=some r):Db Tryz.prog 140 [.sl 8 (s_.map A1)] 8 (r.map A1):=by
 have hk:=(B4 h).1
 have hr:r=s_:=Aa (B4 h).2
 rw[hr];clear hr h
 refine Db.of ?_
 refine Ch.weak (R:=fun q H=>∃ v rest,q= .own 0 v 0 (s_.map A1).length∧H= .row v 8 (s_.map A1)::rest) (Ch.intro Tryz.func140 rfl rfl (by show _≤8;simp) ?_) (fun q H hq=>?_)
 ·refine nS (sq ?_)
  refine ar rfl (qn (sq (sq ?_)))
  refine rg rfl fun K j=>?_
  intro bnil hb
  refine nS ?_
  refine j _ _ (qn ?_)
  refine AWP.cond (Ak (fun hc=>?_) (fun hc=>?_))
  ·have hx0:s_=[]:=Classical.byContradiction fun hne=>by have:=hb (by simpa using hne);simp[this]at hc
   subst hx0
   refine sq (ar rfl (qn ?_))
   refine AWP.ghost 2 8 rfl (by decide) ?_
   refine nS (rt (qr ?_))
   refine nSc Tryz.results140 ?_
   refine⟨_,_,?_,rfl⟩
   (try simp +decide -implicitDefEqProofs only[go_sem,List.length_map,List.length_append,List.length_cons,List.length_nil,List.length_set,List.length_replicate]);try rfl
  clear hc
  refine sk (qn (sq ?_))
  refine rg rfl fun K j=>?_
  (repeat refine rp ?_);try simp +decide -implicitDefEqProofs only[go_sem]
  refine j _ _ (qn (rt ?_))
  refine nSc Tryz.results140 ?_
  refine⟨_,_,?_,rfl⟩
  (try simp +decide -implicitDefEqProofs only[go_sem,List.length_map,List.length_append,List.length_cons,List.length_nil,List.length_set,List.length_replicate]);try rfl
 obtain⟨v,rest,rfl,rfl⟩:=hq
 exact⟨[.row v 8 (s_.map A1)],⟨⟨rfl,rfl,rfl⟩,by cases rest<;>trivial⟩,rfl,rfl,⟨v,rfl,rfl⟩⟩
theorem Hy (s_:List B5) {r:List B5} (h:Cp s_=some r):Bo Tryz.prog 140 [.sl 8 (s_.map A1)] (·= .sl 8 (r.map A1)):=Bo.nle (Ch.fresh (Ch.mono (Ix s_ h) fun q H=>by rintro⟨rfl,rfl⟩;simp +decide -implicitDefEqProofs only[go_sem,Dg,Ac.int.injEq,Int.natCast_zero,List.replicate_zero,List.length_take,List.length_drop,Ac.own.injEq,reduceCtorEq,Int.reduceAdd,Ru,Rv,Om,Rt,Ol,List.length_map]))
theorem Ie (s_:List B5) {r:List B5} (h:Cp s_=some r):Ad Tryz.prog 140 [.sl 8 (s_.map A1)] (·= .sl 8 (r.map A1)):=(Hy s_ h).pure
def Dv (s_:List Bi):Option (List Bi):=chk s_.length (some s_)
theorem Jx (s_:List Bi) {r:List Bi} (h:Dv s_=some r):Db Tryz.prog 141 [.sl 3 (s_.map A5)] 3 (r.map A5):=by
 have hk:=(B4 h).1
 have hr:r=s_:=Aa (B4 h).2
 rw[hr];clear hr h
 refine Db.of ?_
 refine Ch.weak (R:=fun q H=>∃ v rest,q= .own 0 v 0 (s_.map A5).length∧H= .row v 3 (s_.map A5)::rest) (Ch.intro Tryz.func141 rfl rfl (by show _≤8;simp) ?_) (fun q H hq=>?_)
 ·refine nS (sq ?_)
  refine ar rfl (qn (sq (sq ?_)))
  refine rg rfl fun K j=>?_
  intro bnil hb
  refine nS ?_
  refine j _ _ (qn ?_)
  refine AWP.cond (Ak (fun hc=>?_) (fun hc=>?_))
  ·have hx0:s_=[]:=Classical.byContradiction fun hne=>by have:=hb (by simpa using hne);simp[this]at hc
   subst hx0
   refine sq (ar rfl (qn ?_))
   refine AWP.ghost 2 3 rfl (by decide) ?_
   refine nS (rt (qr ?_))
   refine nSc Tryz.results141 ?_
   refine⟨_,_,?_,rfl⟩
   (try simp +decide -implicitDefEqProofs only[go_sem,List.length_map,List.length_append,List.length_cons,List.length_nil,List.length_set,List.length_replicate]);try rfl
  clear hc
  refine sk (qn (sq ?_))
  refine rg rfl fun K j=>?_
  (repeat refine rp ?_);try simp +decide -implicitDefEqProofs only[go_sem]
  refine j _ _ (qn (rt ?_))
  refine nSc Tryz.results141 ?_
  refine⟨_,_,?_,rfl⟩
  (try simp +decide -implicitDefEqProofs only[go_sem,List.length_map,List.length_append,List.length_cons,List.length_nil,List.length_set,List.length_replicate]);try rfl
 obtain⟨v,rest,rfl,rfl⟩:=hq
 exact⟨[.row v 3 (s_.map A5)],⟨⟨rfl,rfl,rfl⟩,by cases rest<;>trivial⟩,rfl,rfl,⟨v,rfl,rfl⟩⟩
def Er (f_:Aj) (y2:(List Int)) (k38:Nat) (x_40:Bi) (sv:(List Bi)×(List Int)):Option (Out ((List Bi)×(List Int)) (Aj×(List Int))):=
 (Dk sv.1 ((k38:Nat):Int)).bind fun x_41=>(bif x_41.Open then(Bs y2 x_41.Run).bind fun y42=>(bif (!y42)then chk (sv.2.length+1) (some (Out.next (((sv.1.set k38 (Bi.mk x_41.Run false x_41.Since)).set k38 (Bi.mk x_41.Run false f_.Time)),(sv.2++[x_41.Run]))))else some (Out.next (sv.1,sv.2)))else some (Out.next (sv.1,sv.2)))
def G3 (k29:Nat) (x_31:A8) (sv:(List A8)):Option (Out ((List A8)) (Aj×(List Int))):=
 (El x_31).bind fun y32=>chk (sv.length+1) (some (Out.next (sv++[y32])))
def G4 (k23:Nat) (x_25:Bp) (sv:(List Bp)):Option (Out ((List Bp)) (Aj×(List Int))):=
 (Em x_25).bind fun y26=>chk (sv.length+1) (some (Out.next (sv++[y26])))
def G5 (k18:Nat) (x_20:Bd) (sv:(List Bd)):Option (Out ((List Bd)) (Aj×(List Int))):=
 (En x_20).bind fun y21=>chk (sv.length+1) (some (Out.next (sv++[y21])))
def G6 (k10:Nat) (x_12:Cj) (sv:(List Cj)):Option (Out ((List Cj)) (Aj×(List Int))):=
 (Eo x_12).bind fun y13=>chk (sv.length+1) (some (Out.next (sv++[y13])))
def Ex (f_:Aj):Option (Aj×(List Int)):=
 (Cw f_).bind fun y1=>(E6 f_ y1).bind fun y2=>(C7 f_.Map.Nodes).bind fun y3=>(C8 f_.Map.Lifts).bind fun y4=>(Df f_.Map.Runs).bind fun y5=>(B8 f_.Map.Bases).bind fun y6=>(Cf f_.Lifts).bind fun y7=>(Cq f_.Closures).bind fun y8=>chk f_.Patrol.Bu.length ((Am G6 0 f_.Patrol.Bu []).bind fun o10=>o10.on fun s10=>(Cu f_.Patrol.Hazards).bind fun y14=>(Cm f_.Surfaces).bind fun y15=>(Cn f_.Packs).bind fun y16=>chk f_.Slides.length ((Am G5 0 f_.Slides []).bind fun o18=>o18.on fun s18=>chk f_.Bulletin.length ((Am G4 0 f_.Bulletin []).bind fun o23=>o23.on fun s23=>(Co f_.Missions).bind fun y27=>chk f_.Winches.length ((Am G3 0 f_.Winches []).bind fun o29=>o29.on fun s29=>(Cp f_.Groomers).bind fun y33=>(Dv f_.Status).bind fun y34=>(Am (Er f_ y2) 0 y34 (y34,[])).bind fun o38=>o38.on fun s38=>some ((Aj.mk (Bb.mk y3 y4 y5 y6) y7 y8 (Ca.mk s10 y14) y15 y16 s18 s23 y27 s29 y33 s38.1 f_.Depth f_.Time),s38.2)))))
theorem Jo (f_:Aj) {r:Aj×(List Int)} (h:Ex f_=some r):Ad Tryz.prog 27 [.agg (B3 f_)] (·= .tuple [.agg (B3 r.1),.sl 1 (r.2.map A2)]):=by
 refine Ad.nle (Ad.intro Tryz.func27 rfl rfl (by show _≤52;simp) ?_)
 unfold Ex at h
 refine nS (sq ?_)
 refine ar rfl (qn (sq ?_))
 refine AWP.draw Tryz.mixed (by kernel_rfl) ?_;intro K j
 refine nS ?_
 obtain⟨y1,hy1,h⟩:=Af h
 refine B7.pure Tryz.call20 (D2 f_ hy1) rfl ?_
 refine nS ?_
 obtain⟨y2,hy2,h⟩:=Af h
 refine B7.pure Tryz.call29 (Yk f_ y1 hy2) rfl ?_
 refine nS ?_
 refine j _ _ _ (by kernel_rfl) ?_
 refine qn (sq ?_)
 refine rg rfl fun K j=>?_
 refine An.inline Tryz.call57 Tryz.func57 rfl rfl (by show _≤74;simp) ?_
 refine nS (sq ?_)
 refine ar rfl (qn (sq ?_))
 refine AWP.draw Tryz.mixed (by kernel_rfl) ?_;intro K j
 refine nS ?_
 obtain⟨y3,hy3,h⟩:=Af h
 refine B7.pure Tryz.call122 (Lu f_.Map.Nodes hy3) rfl ?_
 refine nS ?_
 obtain⟨y4,hy4,h⟩:=Af h
 refine B7.pure Tryz.call123 (Lv f_.Map.Lifts hy4) rfl ?_
 refine nS ?_
 obtain⟨y5,hy5,h⟩:=Af h
 refine B7.pure Tryz.call124 (My f_.Map.Runs hy5) rfl ?_
 refine nS ?_
 obtain⟨y6,hy6,h⟩:=Af h
 refine B7.pure Tryz.call67 (Da f_.Map.Bases hy6) rfl ?_
 refine nS ?_
 refine j _ _ _ (by kernel_rfl) ?_;clear j K
 refine qn (sq ?_)
 refine rg rfl fun K j=>?_
 obtain⟨y7,hy7,h⟩:=Af h
 refine An.pure Tryz.call125 (Hb f_.Lifts hy7) rfl fun _ hr=>?_
 subst hr
 refine nS ?_
 refine j _ _ (qn (sq ?_));clear j K
 refine rg rfl fun K j=>?_
 obtain⟨y8,hy8,h⟩:=Af h
 refine An.pure Tryz.call126 (Ig f_.Closures hy8) rfl fun _ hr=>?_
 subst hr
 refine nS ?_
 refine j _ _ (qn (sq ?_));clear j K
 refine rg rfl fun K j=>?_
 refine An.inline Tryz.call127 Tryz.func127 rfl rfl (by show _≤25;simp) ?_
 refine nS (sq ?_)
 refine ar rfl (qn (sq ?_))
 refine rg rfl fun K j=>?_
 intro hm
 obtain⟨hk,h⟩:=B4 h
 (repeat refine rp ?_);try simp +decide -implicitDefEqProofs only[go_sem]
 refine j _ _ (qn (sq (sq ?_)));clear j K
 refine rg rfl fun K j=>?_
 intro hm
 refine j _ _ (qn (bk ?_));clear j K
 obtain⟨o10,hJ10,hO10⟩:=Af h
 clear h
 refine AWP.Bw (ι:=Nat×((List Cj))×(Nat)) (fun zz=>[(1,.func 128 []),(5,.own 10 zz.2.2 0 zz.2.1.length),(11,.sl 4 (f_.Patrol.Bu.map Av)),(12,.int .i64 ((f_.Patrol.Bu.length:Nat):Int)),(13,.int .i64 ((zz.1:Nat):Int))]) (fun zz=>[.box [.sl 2 (f_.Map.Nodes.map A6),.sl 8 (f_.Map.Lifts.map A7),.sl 7 (f_.Map.Runs.map Bc),.sl 1 (f_.Map.Bases.map A2),.sl 2 (f_.Lifts.map Aw),.sl 4 (f_.Closures.map Au),.sl 4 (f_.Patrol.Bu.map Av),.sl 3 (f_.Patrol.Hazards.map Az),.sl 3 (f_.Surfaces.map A4),.sl 5 (f_.Packs.map A3),.sl 6 (f_.Slides.map Ba),.sl 7 (f_.Bulletin.map Ax),.sl 7 (f_.Missions.map Ap),.sl 4 (f_.Winches.map Ao),.sl 8 (f_.Groomers.map A1),.sl 3 (f_.Status.map A5),.int .i64 f_.Depth,.int .i64 f_.Time],.box [.nils,.nils,.nils,.nils,.nils,.nils,.nils,.nils,.nils,.nils,.nils,.nils,.nils,.nils,.nils,.nils,.int .i64 0,.int .i64 0],.gone,.gone,.box [.sl 2 (y3.map A6),.sl 8 (y4.map A7),.sl 7 (y5.map Bc),.sl 1 (y6.map A2),.sl 2 (y7.map Aw),.sl 4 (y8.map Au),.sl 4 (f_.Patrol.Bu.map Av),.sl 3 (f_.Patrol.Hazards.map Az),.sl 3 (f_.Surfaces.map A4),.sl 5 (f_.Packs.map A3),.sl 6 (f_.Slides.map Ba),.sl 7 (f_.Bulletin.map Ax),.sl 7 (f_.Missions.map Ap),.sl 4 (f_.Winches.map Ao),.sl 8 (f_.Groomers.map A1),.sl 3 (f_.Status.map A5),.int .i64 f_.Depth,.int .i64 f_.Time],.box [.nils,.nils,.nils,.nils,.nils,.nils,.nils,.nils,.nils,.nils,.nils,.nils,.nils,.nils,.nils,.nils,.int .i64 0,.int .i64 0],.gone,.gone,.gone,.gone,.row zz.2.2 4 (zz.2.1.map Av)]) (fun zz=>zz.1≤f_.Patrol.Bu.length∧Am G6 zz.1 ((f_.Patrol.Bu).drop zz.1) zz.2.1=some o10) (fun zz=>f_.Patrol.Bu.length - zz.1) (0,[],0) ⟨Nat.zero_le _,hJ10⟩ cu cu (fun x=>⟨rfl,rfl,rfl⟩) ?_
 clear hJ10
 rintro⟨k10,out9,ver10⟩ ⟨hk10,hJ10⟩
 dsimp only at hk10 hJ10 ⊢
 refine sq (ar rfl (qn (sq ?_)))
 refine AWP.cond (Ak (fun hc=>?_) (fun hc=>?_))
 ·have hlt10:k10<f_.Patrol.Bu.length:=by have:=Ai0 hc;omega
  obtain⟨x_12,b10,hx10_,h,hJ10⟩:=A9 hJ10 hlt10
  have hx10:=Ay hx10_
  have hw10:=wk (k:=k10) (by omega)
  unfold G6 at h;try dsimp only at h
  refine sk (qn (sq (bk (sq ?_))))
  refine rg rfl fun K j=>?_
  refine Bn.of (f:=Av) (l:=f_.Patrol.Bu) hx10 ?_
  refine nS ?_
  refine j _ _ (qn ?_);clear j K
  refine rg rfl fun K j=>?_
  obtain⟨y13,hy13,h⟩:=Af h
  refine An.pure Tryz.call128 (Tp x_12 hy13) rfl fun _ hr=>?_
  subst hr
  refine nS ?_
  obtain⟨hk,h⟩:=B4 h
  (repeat refine rp ?_);try simp +decide -implicitDefEqProofs only[go_sem]
  refine j _ _ (bn (qn ?_));clear j K
  refine ar rfl (qn ?_)
  obtain rfl:=Aa h
  refine⟨(k10+1,(out9++[y13]),(ver10+1)),⟨by dsimp only;omega,Ai hJ10⟩,by dsimp only;omega,?_,?_⟩
  ·exact cuw hw10
  exact cuw hw10
 obtain rfl:=Bf hJ10 (fun hl=>by have:=Aiz hc;omega)
 have h:=Be hO10;try dsimp only at h
 have hkl:f_.Patrol.Bu.length=k10:=by have:=Aiz hc;omega
 subst hkl
 refine xt (qe (qe (bs (qn (sq (ar rfl (qn (rt ?_))))))))
 refine nSc Tryz.results127 ?_
 refine j _ _ (qn (sq ?_));clear j K
 refine rg rfl fun K j=>?_
 obtain⟨y14,hy14,h⟩:=Af h
 refine An.pure Tryz.call130 (Jl f_.Patrol.Hazards hy14) rfl fun _ hr=>?_
 subst hr
 refine nS ?_
 refine j _ _ (qn (sq ?_));clear j K
 refine rg rfl fun K j=>?_
 obtain⟨y15,hy15,h⟩:=Af h
 refine An.pure Tryz.call131 (Ia f_.Surfaces hy15) rfl fun _ hr=>?_
 subst hr
 refine nS ?_
 refine j _ _ (qn (sq ?_));clear j K
 refine rg rfl fun K j=>?_
 obtain⟨y16,hy16,h⟩:=Af h
 refine An.pure Tryz.call132 (Ib f_.Packs hy16) rfl fun _ hr=>?_
 subst hr
 refine nS ?_
 refine j _ _ (qn (sq ?_));clear j K
 refine rg rfl fun K j=>?_
 refine An.inline Tryz.call133 Tryz.func133 rfl rfl (by show _≤25;simp) ?_
 refine nS (sq ?_)
 refine ar rfl (qn (sq ?_))
 refine rg rfl fun K j=>?_
 intro hm
 obtain⟨hk,h⟩:=B4 h
 (repeat refine rp ?_);try simp +decide -implicitDefEqProofs only[go_sem]
 refine j _ _ (qn (sq (sq ?_)));clear j K
 refine rg rfl fun K j=>?_
 intro hm
 refine j _ _ (qn (bk ?_));clear j K
 obtain⟨o18,hJ18,hO18⟩:=Af h
 clear h
 refine AWP.Bw (ι:=Nat×((List Bd))×(Nat)) (fun zz=>[(1,.func 134 []),(5,.own 11 zz.2.2 0 zz.2.1.length),(11,.sl 6 (f_.Slides.map Ba)),(12,.int .i64 ((f_.Slides.length:Nat):Int)),(13,.int .i64 ((zz.1:Nat):Int))]) (fun zz=>[.box [.sl 2 (f_.Map.Nodes.map A6),.sl 8 (f_.Map.Lifts.map A7),.sl 7 (f_.Map.Runs.map Bc),.sl 1 (f_.Map.Bases.map A2),.sl 2 (f_.Lifts.map Aw),.sl 4 (f_.Closures.map Au),.sl 4 (f_.Patrol.Bu.map Av),.sl 3 (f_.Patrol.Hazards.map Az),.sl 3 (f_.Surfaces.map A4),.sl 5 (f_.Packs.map A3),.sl 6 (f_.Slides.map Ba),.sl 7 (f_.Bulletin.map Ax),.sl 7 (f_.Missions.map Ap),.sl 4 (f_.Winches.map Ao),.sl 8 (f_.Groomers.map A1),.sl 3 (f_.Status.map A5),.int .i64 f_.Depth,.int .i64 f_.Time],.box [.nils,.nils,.nils,.nils,.nils,.nils,.nils,.nils,.nils,.nils,.nils,.nils,.nils,.nils,.nils,.nils,.int .i64 0,.int .i64 0],.gone,.gone,.box [.sl 2 (y3.map A6),.sl 8 (y4.map A7),.sl 7 (y5.map Bc),.sl 1 (y6.map A2),.sl 2 (y7.map Aw),.sl 4 (y8.map Au),.own 10 ver10 0 out9.length,.sl 3 (y14.map Az),.sl 3 (y15.map A4),.sl 5 (y16.map A3),.sl 6 (f_.Slides.map Ba),.sl 7 (f_.Bulletin.map Ax),.sl 7 (f_.Missions.map Ap),.sl 4 (f_.Winches.map Ao),.sl 8 (f_.Groomers.map A1),.sl 3 (f_.Status.map A5),.int .i64 f_.Depth,.int .i64 f_.Time],.box [.nils,.nils,.nils,.nils,.nils,.nils,.nils,.nils,.nils,.nils,.nils,.nils,.nils,.nils,.nils,.nils,.int .i64 0,.int .i64 0],.gone,.gone,.gone,.gone,.row ver10 4 (out9.map Av),.row zz.2.2 6 (zz.2.1.map Ba)]) (fun zz=>zz.1≤f_.Slides.length∧Am G5 zz.1 ((f_.Slides).drop zz.1) zz.2.1=some o18) (fun zz=>f_.Slides.length - zz.1) (0,[],0) ⟨Nat.zero_le _,hJ18⟩ cu cu (fun x=>⟨rfl,rfl,rfl⟩) ?_
 clear hJ18
 rintro⟨k18,out17,ver18⟩ ⟨hk18,hJ18⟩
 dsimp only at hk18 hJ18 ⊢
 refine sq (ar rfl (qn (sq ?_)))
 refine AWP.cond (Ak (fun hc=>?_) (fun hc=>?_))
 ·have hlt18:k18<f_.Slides.length:=by have:=Ai0 hc;omega
  obtain⟨x_20,b18,hx18_,h,hJ18⟩:=A9 hJ18 hlt18
  have hx18:=Ay hx18_
  have hw18:=wk (k:=k18) (by omega)
  unfold G5 at h;try dsimp only at h
  refine sk (qn (sq (bk (sq ?_))))
  refine rg rfl fun K j=>?_
  refine Bn.of (f:=Ba) (l:=f_.Slides) hx18 ?_
  refine nS ?_
  refine j _ _ (qn ?_);clear j K
  refine rg rfl fun K j=>?_
  obtain⟨y21,hy21,h⟩:=Af h
  refine An.pure Tryz.call134 (Tn x_20 hy21) rfl fun _ hr=>?_
  subst hr
  refine nS ?_
  obtain⟨hk,h⟩:=B4 h
  (repeat refine rp ?_);try simp +decide -implicitDefEqProofs only[go_sem]
  refine j _ _ (bn (qn ?_));clear j K
  refine ar rfl (qn ?_)
  obtain rfl:=Aa h
  refine⟨(k18+1,(out17++[y21]),(ver18+1)),⟨by dsimp only;omega,Ai hJ18⟩,by dsimp only;omega,?_,?_⟩
  ·exact cuw hw18
  exact cuw hw18
 obtain rfl:=Bf hJ18 (fun hl=>by have:=Aiz hc;omega)
 have h:=Be hO18;try dsimp only at h
 have hkl:f_.Slides.length=k18:=by have:=Aiz hc;omega
 subst hkl
 refine xt (qe (qe (bs (qn (sq (ar rfl (qn (rt ?_))))))))
 refine nSc Tryz.results133 ?_
 refine j _ _ (qn (sq ?_));clear j K
 refine rg rfl fun K j=>?_
 refine An.inline Tryz.call135 Tryz.func135 rfl rfl (by show _≤25;simp) ?_
 refine nS (sq ?_)
 refine ar rfl (qn (sq ?_))
 refine rg rfl fun K j=>?_
 intro hm
 obtain⟨hk,h⟩:=B4 h
 (repeat refine rp ?_);try simp +decide -implicitDefEqProofs only[go_sem]
 refine j _ _ (qn (sq (sq ?_)));clear j K
 refine rg rfl fun K j=>?_
 intro hm
 refine j _ _ (qn (bk ?_));clear j K
 obtain⟨o23,hJ23,hO23⟩:=Af h
 clear h
 refine AWP.Bw (ι:=Nat×((List Bp))×(Nat)) (fun zz=>[(1,.func 136 []),(5,.own 12 zz.2.2 0 zz.2.1.length),(11,.sl 7 (f_.Bulletin.map Ax)),(12,.int .i64 ((f_.Bulletin.length:Nat):Int)),(13,.int .i64 ((zz.1:Nat):Int))]) (fun zz=>[.box [.sl 2 (f_.Map.Nodes.map A6),.sl 8 (f_.Map.Lifts.map A7),.sl 7 (f_.Map.Runs.map Bc),.sl 1 (f_.Map.Bases.map A2),.sl 2 (f_.Lifts.map Aw),.sl 4 (f_.Closures.map Au),.sl 4 (f_.Patrol.Bu.map Av),.sl 3 (f_.Patrol.Hazards.map Az),.sl 3 (f_.Surfaces.map A4),.sl 5 (f_.Packs.map A3),.sl 6 (f_.Slides.map Ba),.sl 7 (f_.Bulletin.map Ax),.sl 7 (f_.Missions.map Ap),.sl 4 (f_.Winches.map Ao),.sl 8 (f_.Groomers.map A1),.sl 3 (f_.Status.map A5),.int .i64 f_.Depth,.int .i64 f_.Time],.box [.nils,.nils,.nils,.nils,.nils,.nils,.nils,.nils,.nils,.nils,.nils,.nils,.nils,.nils,.nils,.nils,.int .i64 0,.int .i64 0],.gone,.gone,.box [.sl 2 (y3.map A6),.sl 8 (y4.map A7),.sl 7 (y5.map Bc),.sl 1 (y6.map A2),.sl 2 (y7.map Aw),.sl 4 (y8.map Au),.own 10 ver10 0 out9.length,.sl 3 (y14.map Az),.sl 3 (y15.map A4),.sl 5 (y16.map A3),.own 11 ver18 0 out17.length,.sl 7 (f_.Bulletin.map Ax),.sl 7 (f_.Missions.map Ap),.sl 4 (f_.Winches.map Ao),.sl 8 (f_.Groomers.map A1),.sl 3 (f_.Status.map A5),.int .i64 f_.Depth,.int .i64 f_.Time],.box [.nils,.nils,.nils,.nils,.nils,.nils,.nils,.nils,.nils,.nils,.nils,.nils,.nils,.nils,.nils,.nils,.int .i64 0,.int .i64 0],.gone,.gone,.gone,.gone,.row ver10 4 (out9.map Av),.row ver18 6 (out17.map Ba),.row zz.2.2 7 (zz.2.1.map Ax)]) (fun zz=>zz.1≤f_.Bulletin.length∧Am G4 zz.1 ((f_.Bulletin).drop zz.1) zz.2.1=some o23) (fun zz=>f_.Bulletin.length - zz.1) (0,[],0) ⟨Nat.zero_le _,hJ23⟩ cu cu (fun x=>⟨rfl,rfl,rfl⟩) ?_
 clear hJ23
 rintro⟨k23,out22,ver23⟩ ⟨hk23,hJ23⟩
 dsimp only at hk23 hJ23 ⊢
 refine sq (ar rfl (qn (sq ?_)))
 refine AWP.cond (Ak (fun hc=>?_) (fun hc=>?_))
 ·have hlt23:k23<f_.Bulletin.length:=by have:=Ai0 hc;omega
  obtain⟨x_25,b23,hx23_,h,hJ23⟩:=A9 hJ23 hlt23
  have hx23:=Ay hx23_
  have hw23:=wk (k:=k23) (by omega)
  unfold G4 at h;try dsimp only at h
  refine sk (qn (sq (bk (sq ?_))))
  refine rg rfl fun K j=>?_
  refine Bn.of (f:=Ax) (l:=f_.Bulletin) hx23 ?_
  refine nS ?_
  refine j _ _ (qn ?_);clear j K
  refine rg rfl fun K j=>?_
  obtain⟨y26,hy26,h⟩:=Af h
  refine An.pure Tryz.call136 (Tm x_25 hy26) rfl fun _ hr=>?_
  subst hr
  refine nS ?_
  obtain⟨hk,h⟩:=B4 h
  (repeat refine rp ?_);try simp +decide -implicitDefEqProofs only[go_sem]
  refine j _ _ (bn (qn ?_));clear j K
  refine ar rfl (qn ?_)
  obtain rfl:=Aa h
  refine⟨(k23+1,(out22++[y26]),(ver23+1)),⟨by dsimp only;omega,Ai hJ23⟩,by dsimp only;omega,?_,?_⟩
  ·exact cuw hw23
  exact cuw hw23
 obtain rfl:=Bf hJ23 (fun hl=>by have:=Aiz hc;omega)
 have h:=Be hO23;try dsimp only at h
 have hkl:f_.Bulletin.length=k23:=by have:=Aiz hc;omega
 subst hkl
 refine xt (qe (qe (bs (qn (sq (ar rfl (qn (rt ?_))))))))
 refine nSc Tryz.results135 ?_
 refine j _ _ (qn (sq ?_));clear j K
 refine rg rfl fun K j=>?_
 obtain⟨y27,hy27,h⟩:=Af h
 refine An.pure Tryz.call137 (Ic f_.Missions hy27) rfl fun _ hr=>?_
 subst hr
 refine nS ?_
 refine j _ _ (qn (sq ?_));clear j K
 refine rg rfl fun K j=>?_
 refine An.inline Tryz.call138 Tryz.func138 rfl rfl (by show _≤25;simp) ?_
 refine nS (sq ?_)
 refine ar rfl (qn (sq ?_))
 refine rg rfl fun K j=>?_
 intro hm
 obtain⟨hk,h⟩:=B4 h
 (repeat refine rp ?_);try simp +decide -implicitDefEqProofs only[go_sem]
 refine j _ _ (qn (sq (sq ?_)));clear j K
 refine rg rfl fun K j=>?_
 intro hm
 refine j _ _ (qn (bk ?_));clear j K
 obtain⟨o29,hJ29,hO29⟩:=Af h
 clear h
 refine AWP.Bw (ι:=Nat×((List A8))×(Nat)) (fun zz=>[(1,.func 139 []),(5,.own 13 zz.2.2 0 zz.2.1.length),(11,.sl 4 (f_.Winches.map Ao)),(12,.int .i64 ((f_.Winches.length:Nat):Int)),(13,.int .i64 ((zz.1:Nat):Int))]) (fun zz=>[.box [.sl 2 (f_.Map.Nodes.map A6),.sl 8 (f_.Map.Lifts.map A7),.sl 7 (f_.Map.Runs.map Bc),.sl 1 (f_.Map.Bases.map A2),.sl 2 (f_.Lifts.map Aw),.sl 4 (f_.Closures.map Au),.sl 4 (f_.Patrol.Bu.map Av),.sl 3 (f_.Patrol.Hazards.map Az),.sl 3 (f_.Surfaces.map A4),.sl 5 (f_.Packs.map A3),.sl 6 (f_.Slides.map Ba),.sl 7 (f_.Bulletin.map Ax),.sl 7 (f_.Missions.map Ap),.sl 4 (f_.Winches.map Ao),.sl 8 (f_.Groomers.map A1),.sl 3 (f_.Status.map A5),.int .i64 f_.Depth,.int .i64 f_.Time],.box [.nils,.nils,.nils,.nils,.nils,.nils,.nils,.nils,.nils,.nils,.nils,.nils,.nils,.nils,.nils,.nils,.int .i64 0,.int .i64 0],.gone,.gone,.box [.sl 2 (y3.map A6),.sl 8 (y4.map A7),.sl 7 (y5.map Bc),.sl 1 (y6.map A2),.sl 2 (y7.map Aw),.sl 4 (y8.map Au),.own 10 ver10 0 out9.length,.sl 3 (y14.map Az),.sl 3 (y15.map A4),.sl 5 (y16.map A3),.own 11 ver18 0 out17.length,.own 12 ver23 0 out22.length,.sl 7 (y27.map Ap),.sl 4 (f_.Winches.map Ao),.sl 8 (f_.Groomers.map A1),.sl 3 (f_.Status.map A5),.int .i64 f_.Depth,.int .i64 f_.Time],.box [.nils,.nils,.nils,.nils,.nils,.nils,.nils,.nils,.nils,.nils,.nils,.nils,.nils,.nils,.nils,.nils,.int .i64 0,.int .i64 0],.gone,.gone,.gone,.gone,.row ver10 4 (out9.map Av),.row ver18 6 (out17.map Ba),.row ver23 7 (out22.map Ax),.row zz.2.2 4 (zz.2.1.map Ao)]) (fun zz=>zz.1≤f_.Winches.length∧Am G3 zz.1 ((f_.Winches).drop zz.1) zz.2.1=some o29) (fun zz=>f_.Winches.length - zz.1) (0,[],0) ⟨Nat.zero_le _,hJ29⟩ cu cu (fun x=>⟨rfl,rfl,rfl⟩) ?_
 clear hJ29
 rintro⟨k29,out28,ver29⟩ ⟨hk29,hJ29⟩
 dsimp only at hk29 hJ29 ⊢
 refine sq (ar rfl (qn (sq ?_)))
 refine AWP.cond (Ak (fun hc=>?_) (fun hc=>?_))
 ·have hlt29:k29<f_.Winches.length:=by have:=Ai0 hc;omega
  obtain⟨x_31,b29,hx29_,h,hJ29⟩:=A9 hJ29 hlt29
  have hx29:=Ay hx29_
  have hw29:=wk (k:=k29) (by omega)
  unfold G3 at h;try dsimp only at h
  refine sk (qn (sq (bk (sq ?_))))
  refine rg rfl fun K j=>?_
  refine Bn.of (f:=Ao) (l:=f_.Winches) hx29 ?_
  refine nS ?_
  refine j _ _ (qn ?_);clear j K
  refine rg rfl fun K j=>?_
  obtain⟨y32,hy32,h⟩:=Af h
  refine An.pure Tryz.call139 (Tl x_31 hy32) rfl fun _ hr=>?_
  subst hr
  refine nS ?_
  obtain⟨hk,h⟩:=B4 h
  (repeat refine rp ?_);try simp +decide -implicitDefEqProofs only[go_sem]
  refine j _ _ (bn (qn ?_));clear j K
  refine ar rfl (qn ?_)
  obtain rfl:=Aa h
  refine⟨(k29+1,(out28++[y32]),(ver29+1)),⟨by dsimp only;omega,Ai hJ29⟩,by dsimp only;omega,?_,?_⟩
  ·exact cuw hw29
  exact cuw hw29
 obtain rfl:=Bf hJ29 (fun hl=>by have:=Aiz hc;omega)
 have h:=Be hO29;try dsimp only at h
 have hkl:f_.Winches.length=k29:=by have:=Aiz hc;omega
 subst hkl
 refine xt (qe (qe (bs (qn (sq (ar rfl (qn (rt ?_))))))))
 refine nSc Tryz.results138 ?_
 refine j _ _ (qn (sq ?_));clear j K
 refine rg rfl fun K j=>?_
 obtain⟨y33,hy33,h⟩:=Af h
 refine An.pure Tryz.call140 (Ie f_.Groomers hy33) rfl fun _ hr=>?_
 subst hr
 refine nS ?_
 refine j _ _ (qn (sq ?_));clear j K
 refine rg rfl fun K j=>?_
 obtain⟨y34,hy34,h⟩:=Af h
 refine An.row Tryz.call141 (Jx f_.Status hy34) rfl 14 rfl ?_
 (try simp +decide -implicitDefEqProofs only[go_sem,List.length_map])
 refine j _ _ (qn (sq ?_));clear j K
 refine ar rfl (qn (rt ?_))
 refine nSc Tryz.results57 ?_
 refine j _ _ (qn (sq ?_))
 refine ar rfl (qn (sq (sq ?_)))
 refine rg rfl fun K j=>?_
 intro hm
 refine j _ _ (qn (bk ?_))
 refine AWP.ghost 6 1 rfl (by decide) ?_
 obtain⟨o38,hJ38,hO38⟩:=Af h
 clear h
 refine AWP.Bw (ι:=Nat×((List Bi)×(List Int))×(Nat×Nat)) (fun zz=>[(1,.ptr 0 0),(2,.ptr 1 0),(4,.sl 1 (y2.map A2)),(5,.ptr 15 0),(6,.own 16 zz.2.2.2 0 zz.2.1.2.length),(16,.own 14 zz.2.2.1 0 zz.2.1.1.length),(17,.int .i64 ((y34.length:Nat):Int)),(18,.int .i64 ((zz.1:Nat):Int))]) (fun zz=>[.box [.sl 2 (f_.Map.Nodes.map A6),.sl 8 (f_.Map.Lifts.map A7),.sl 7 (f_.Map.Runs.map Bc),.sl 1 (f_.Map.Bases.map A2),.sl 2 (f_.Lifts.map Aw),.sl 4 (f_.Closures.map Au),.sl 4 (f_.Patrol.Bu.map Av),.sl 3 (f_.Patrol.Hazards.map Az),.sl 3 (f_.Surfaces.map A4),.sl 5 (f_.Packs.map A3),.sl 6 (f_.Slides.map Ba),.sl 7 (f_.Bulletin.map Ax),.sl 7 (f_.Missions.map Ap),.sl 4 (f_.Winches.map Ao),.sl 8 (f_.Groomers.map A1),.sl 3 (f_.Status.map A5),.int .i64 f_.Depth,.int .i64 f_.Time],.box [.nils,.nils,.nils,.nils,.nils,.nils,.nils,.nils,.nils,.nils,.nils,.nils,.nils,.nils,.nils,.nils,.int .i64 0,.int .i64 0],.gone,.gone,.gone,.gone,.gone,.gone,.gone,.gone,.row ver10 4 (out9.map Av),.row ver18 6 (out17.map Ba),.row ver23 7 (out22.map Ax),.row ver29 4 (out28.map Ao),.row zz.2.2.1 3 (zz.2.1.1.map A5),.box [.sl 2 (y3.map A6),.sl 8 (y4.map A7),.sl 7 (y5.map Bc),.sl 1 (y6.map A2),.sl 2 (y7.map Aw),.sl 4 (y8.map Au),.own 10 ver10 0 out9.length,.sl 3 (y14.map Az),.sl 3 (y15.map A4),.sl 5 (y16.map A3),.own 11 ver18 0 out17.length,.own 12 ver23 0 out22.length,.sl 7 (y27.map Ap),.own 13 ver29 0 out28.length,.sl 8 (y33.map A1),.own 14 zz.2.2.1 0 zz.2.1.1.length,.int .i64 f_.Depth,.int .i64 f_.Time],.row zz.2.2.2 1 (zz.2.1.2.map A2)]) (fun zz=>zz.1≤y34.length∧Am (Er f_ y2) zz.1 ((y34).drop zz.1) zz.2.1=some o38) (fun zz=>y34.length - zz.1) (0,(y34,[]),(0,0)) ⟨Nat.zero_le _,hJ38⟩ cu cu (fun x=>⟨rfl,rfl,rfl⟩) ?_
 clear hJ38
 rintro⟨k38,⟨t16_35,closed37⟩,⟨ver36,ver38⟩⟩ ⟨hk38,hJ38⟩
 dsimp only at hk38 hJ38 ⊢
 refine sq (ar rfl (qn (sq ?_)))
 refine AWP.cond (Ak (fun hc=>?_) (fun hc=>?_))
 rotate_left
 ·obtain rfl:=Bf hJ38 (fun hl=>by have:=Aiz hc;omega)
  have h:=Be hO38;try dsimp only at h
  have hkl:y34.length=k38:=by have:=Aiz hc;omega
  subst hkl
  refine xt (qe (qe (bs (qn (sq (ar rfl (qn (rt ?_))))))))
  cases h;exact en Tryz.results27
 have hlt38:k38<y34.length:=by have:=Ai0 hc;omega
 obtain⟨x_40,b38,hx38_,h,hJ38⟩:=A9 hJ38 hlt38
 have hx38:=Ay hx38_
 have hw38:=wk (k:=k38) (by omega)
 unfold Er at h;try dsimp only at h
 refine sk (qn (sq (bk (sq ?_))))
 refine rg rfl fun K j=>?_
 obtain⟨x_41,hx_41,h⟩:=Af h
 refine Kw hx_41 (by first | rfl | exact(Cl _).symm | (simp only[List.length_append,List.length_cons,List.length_nil,List.length_set,List.length_replicate]<;>omega)) ?_
 refine nS ?_
 refine De.ofNat (f:=A5) (l:=t16_35) (n:=k38) hx_41 ?_
 refine nS ?_
 refine j _ _ (qn (sq ?_))
 refine rg rfl fun K j=>?_
 revert h;refine gt (fun hc h=>?_) fun hc h=>?_
 ·obtain⟨y42,hy42,h⟩:=Af h
  refine An.pure Tryz.call54 (Bv y2 x_41.Run hy42) rfl fun _ hr=>?_
  subst hr
  refine nS ?_
  refine j _ _ (qn ?_)
  revert h;refine ca rfl (fun hc h=>?_) fun hc h=>?_
  ·refine sq ?_
   refine rg rfl fun K j=>?_
   refine Kw hx_41 (by first | rfl | exact(Cl _).symm | (simp only[List.length_append,List.length_cons,List.length_nil,List.length_set,List.length_replicate]<;>omega)) ?_
   refine nS ?_
   refine De.ofNat (f:=A5) (l:=t16_35) (n:=k38) hx_41 ?_
   have hs43:=Rz (y:=(Bi.mk x_41.Run false x_41.Since)) hx_41
   refine nS ?_
   refine j _ _ (qn (sq ?_))
   refine rg rfl fun K j=>?_
   refine Kw hs43 (by first | rfl | exact(Cl _).symm | (simp only[List.length_append,List.length_cons,List.length_nil,List.length_set,List.length_replicate]<;>omega)) ?_
   refine nS ?_
   refine De.ofNat (f:=A5) (l:=(t16_35.set k38 (Bi.mk x_41.Run false x_41.Since))) (n:=k38) hs43 ?_
   have hs44:=Rz (y:=(Bi.mk x_41.Run false f_.Time)) hs43
   refine nS ?_
   refine j _ _ (qn ?_)
   refine rg rfl fun K j=>?_
   obtain⟨hk,h⟩:=B4 h
   (repeat refine rp ?_);try simp +decide -implicitDefEqProofs only[go_sem]
   refine j _ _ (bn (qn ?_))
   refine ar rfl (qn ?_)
   obtain rfl:=Aa h
   refine⟨(k38+1,(((t16_35.set k38 (Bi.mk x_41.Run false x_41.Since)).set k38 (Bi.mk x_41.Run false f_.Time)),(closed37++[x_41.Run])),(ver36,(ver38+1))),⟨by dsimp only;omega,Ai hJ38⟩,by dsimp only;omega,?_,?_⟩
   ·exact cuw hw38
   exact cuw hw38
  refine sk (bn (qn (ar rfl (qn ?_))))
  obtain rfl:=Aa h
  refine⟨(k38+1,(t16_35,closed37),(ver36,ver38)),⟨by dsimp only;omega,Ai hJ38⟩,by dsimp only;omega,?_,?_⟩
  ·exact cuw hw38
  exact cuw hw38
 refine j _ _ (qn ?_)
 refine AWP.cond (Bk ?_)
 refine sk (bn (qn (ar rfl (qn ?_))))
 obtain rfl:=Aa h
 refine⟨(k38+1,(t16_35,closed37),(ver36,ver38)),⟨by dsimp only;omega,Ai hJ38⟩,by dsimp only;omega,?_,?_⟩
 ·exact cuw hw38
 exact cuw hw38
def Nh:Option (Bool):=
 (Ti).bind fun y1=>(F3 y1 1).bind fun y2=>(F3 y1 2).bind fun y3=>(Gc y1).bind fun y4=>(bif (decide (y4≠0))then some false else(bif (decide (y2.2≠16))then some false else(bif (decide (y3.2≠16))then some false else(E6 y1 [(1:Int),2]).bind fun y5=>(Ov y5 [(1:Int),2]).bind fun y6=>(bif (!y6)then some false else(Dp (Aj.mk y1.Map y1.Lifts y1.Closures y1.Patrol y1.Surfaces y1.Packs y1.Slides y1.Bulletin y1.Missions y1.Winches y1.Groomers [(Bi.mk 1 true 0),(Bi.mk 2 true 0)] y1.Depth y1.Time)).bind fun y7=>(bif (!y7)then some false else(Cw (Aj.mk y1.Map y1.Lifts y1.Closures y1.Patrol y1.Surfaces y1.Packs y1.Slides y1.Bulletin y1.Missions y1.Winches y1.Groomers [(Bi.mk 1 true 0),(Bi.mk 2 true 0)] y1.Depth y1.Time)).bind fun y8=>(Ov y8 [(1:Int),2]).bind fun y9=>(bif (!y9)then some false else(Ex (Aj.mk y1.Map y1.Lifts [(Bl.mk 1 2 1 0)] y1.Patrol y1.Surfaces y1.Packs y1.Slides y1.Bulletin y1.Missions y1.Winches y1.Groomers [(Bi.mk 1 true 0),(Bi.mk 2 true 0)] y1.Depth y1.Time)).bind fun y10=>(Dp (Aj.mk y1.Map y1.Lifts [(Bl.mk 1 2 1 0)] y1.Patrol y1.Surfaces y1.Packs y1.Slides y1.Bulletin y1.Missions y1.Winches y1.Groomers [(Bi.mk 1 true 0),(Bi.mk 2 true 0)] y1.Depth y1.Time)).bind fun y11=>(bif y11 then some false else(Ov y10.2 [(1:Int),2]).bind fun y12=>(bif (!y12)then some false else(Cw y10.1).bind fun y13=>(bif (decide (((y13.length:Nat):Int)≠0))then some false else(C0 (Aj.mk y1.Map y1.Lifts y1.Closures (Ca.mk y1.Patrol.Bu [(Cv.mk 1 1 0)]) y1.Surfaces y1.Packs y1.Slides y1.Bulletin y1.Missions y1.Winches y1.Groomers y1.Status y1.Depth y1.Time) [(1:Int),2] 1).bind fun y14=>(bif (decide (y14=14))then (C0 (Aj.mk y1.Map y1.Lifts y1.Closures y1.Patrol y1.Surfaces y1.Packs y1.Slides y1.Bulletin y1.Missions y1.Winches y1.Groomers y1.Status 1001 y1.Time) [(1:Int),2] 1).bind fun y15=>(bif (decide (y15=5))then (C0 (Aj.mk y1.Map y1.Lifts y1.Closures y1.Patrol y1.Surfaces y1.Packs [(Bd.mk 1 [(1:Int)] [] 100 100 (-1))] y1.Bulletin y1.Missions y1.Winches y1.Groomers y1.Status y1.Depth y1.Time) [(1:Int),2] 1).bind fun y16=>(bif (decide (y16=10))then (C0 y1 [(1:Int),2] 9).bind fun y17=>(bif (decide (y17=8))then (C0 y1 [(1:Int),2] 1).bind fun y18=>some (decide (y18=0))else some false)else some false)else some false)else some false))))))))))
theorem Uj {r:Bool} (h:Nh=some r):Ad Tryz.prog 10 [] (·= .bool r):=by
 refine Ad.nle (Ad.intro Tryz.func10 rfl rfl (by show _≤120;simp) ?_)
 unfold Nh at h
 refine nS (sq ?_)
 refine ar rfl (qn (sq ?_))
 refine rg rfl fun K j=>?_
 obtain⟨y1,hy1,h⟩:=Af h
 refine An.pure Tryz.call36 (Zh hy1) rfl fun _ hr=>?_
 subst hr
 refine nS ?_
 refine j _ _ (qn (sq ?_))
 refine rg rfl fun K j=>?_
 obtain⟨y2,hy2,h⟩:=Af h
 refine An.pure Tryz.call24 (Lw y1 1 hy2) rfl fun _ hr=>?_
 subst hr
 refine nS ?_
 refine j _ _ (qn (sq ?_))
 refine rg rfl fun K j=>?_
 obtain⟨y3,hy3,h⟩:=Af h
 refine An.pure Tryz.call24 (Lw y1 2 hy3) rfl fun _ hr=>?_
 subst hr
 refine nS ?_
 refine j _ _ (qn (sq (sq ?_)))
 refine rg rfl fun K j=>?_
 obtain⟨y4,hy4,h⟩:=Af h
 refine An.pure Tryz.call12 (Wv y1 hy4) rfl fun _ hr=>?_
 subst hr
 refine nS ?_
 revert h;refine gf (fun hc h=>?_) fun hc h=>?_
 rotate_left
 ·refine j _ _ (qn ?_)
  refine AWP.cond (Ah ?_)
  refine sq (ar rfl (qn (rt (qr ?_))))
  cases h;exact en Tryz.results10
 revert h;refine gf (fun hc h=>?_) fun hc h=>?_
 rotate_left
 ·refine j _ _ (qn ?_)
  refine AWP.cond (Ah ?_)
  refine sq (ar rfl (qn (rt (qr ?_))))
  cases h;exact en Tryz.results10
 revert h;refine gf (fun hc h=>?_) fun hc h=>?_
 rotate_left
 ·refine j _ _ (qn ?_)
  refine AWP.cond (Ah ?_)
  refine sq (ar rfl (qn (rt (qr ?_))))
  cases h;exact en Tryz.results10
 obtain⟨y5,hy5,h⟩:=Af h
 refine An.jQ Tryz.call29 (P0 y1 [(1:Int),2] hy5) (by simp +decide -implicitDefEqProofs only[go_sem]) fun _ hr=>?_
 subst hr
 refine nS ?_
 obtain⟨y6,hy6,h⟩:=Af h
 refine An.snap Tryz.call15 (Qb y5 [(1:Int),2] hy6) (by simp +decide -implicitDefEqProofs only[go_sem]) (by rintro _ rfl;rfl) fun _ hr=>?_
 subst hr
 refine nS ?_
 refine j _ _ (qn ?_)
 revert h;refine ca rfl (fun hc h=>?_) fun hc h=>?_
 ·refine sq (ar rfl (qn (rt (qr ?_))))
  cases h;exact en Tryz.results10
 refine sk (qn (sq (ar rfl (qn (sq ?_)))))
 refine ar rfl (qn (sq (sq ?_)))
 refine rg rfl fun K j=>?_
 obtain⟨y7,hy7,h⟩:=Af h
 refine An.snap Tryz.call22 (Es (Aj.mk y1.Map y1.Lifts y1.Closures y1.Patrol y1.Surfaces y1.Packs y1.Slides y1.Bulletin y1.Missions y1.Winches y1.Groomers [(Bi.mk 1 true 0),(Bi.mk 2 true 0)] y1.Depth y1.Time) hy7) (by simp +decide -implicitDefEqProofs only[go_sem]) (by rintro _ rfl;rfl) fun _ hr=>?_
 subst hr
 refine nS ?_
 revert h;refine gf (fun hc h=>?_) fun hc h=>?_
 rotate_left
 ·refine j _ _ (qn ?_)
  refine AWP.cond (Ah ?_)
  refine sq (ar rfl (qn (rt (qr ?_))))
  cases h;exact en Tryz.results10
 obtain⟨y8,hy8,h⟩:=Af h
 refine An.jQ Tryz.call20 (Qn (Aj.mk y1.Map y1.Lifts y1.Closures y1.Patrol y1.Surfaces y1.Packs y1.Slides y1.Bulletin y1.Missions y1.Winches y1.Groomers [(Bi.mk 1 true 0),(Bi.mk 2 true 0)] y1.Depth y1.Time) hy8) (by simp +decide -implicitDefEqProofs only[go_sem]) fun _ hr=>?_
 subst hr
 refine nS ?_
 obtain⟨y9,hy9,h⟩:=Af h
 refine An.snap Tryz.call15 (Qb y8 [(1:Int),2] hy9) (by simp +decide -implicitDefEqProofs only[go_sem]) (by rintro _ rfl;rfl) fun _ hr=>?_
 subst hr
 refine nS ?_
 refine j _ _ (qn ?_)
 revert h;refine ca rfl (fun hc h=>?_) fun hc h=>?_
 ·refine sq (ar rfl (qn (rt (qr ?_))))
  cases h;exact en Tryz.results10
 refine sk (qn (sq (ar rfl (qn (sq ?_)))))
 refine AWP.lC ?_
 refine ALP.cut 1 (ALP.part rfl ?_);intro K j
 refine nS ?_
 refine j _ _ ?_
 refine ALP.sub (Sub.Ds 8 rfl) ?_
 refine nS ?_
 refine ALP.sub (Sub.Ds 6 rfl) ?_
 refine nS ?_
 refine ALP.last rfl ?_;intro K j
 refine nS ?_
 obtain⟨y10,hy10,h⟩:=Af h
 refine An.pure Tryz.call27 (Jo (Aj.mk y1.Map y1.Lifts [(Bl.mk 1 2 1 0)] y1.Patrol y1.Surfaces y1.Packs y1.Slides y1.Bulletin y1.Missions y1.Winches y1.Groomers [(Bi.mk 1 true 0),(Bi.mk 2 true 0)] y1.Depth y1.Time) hy10) rfl fun _ hr=>?_
 subst hr
 refine nS ?_
 refine j _ _ (qn (sq (sq ?_)))
 refine rg rfl fun K j=>?_
 obtain⟨y11,hy11,h⟩:=Af h
 refine An.pure Tryz.call22 (Es (Aj.mk y1.Map y1.Lifts [(Bl.mk 1 2 1 0)] y1.Patrol y1.Surfaces y1.Packs y1.Slides y1.Bulletin y1.Missions y1.Winches y1.Groomers [(Bi.mk 1 true 0),(Bi.mk 2 true 0)] y1.Depth y1.Time) hy11) rfl fun _ hr=>?_
 subst hr
 refine nS ?_
 revert h;refine gf (fun hc h=>?_) fun hc h=>?_
 rotate_left
 ·refine j _ _ (qn ?_)
  refine AWP.cond (Ah ?_)
  refine sq (ar rfl (qn (rt (qr ?_))))
  cases h;exact en Tryz.results10
 obtain⟨y12,hy12,h⟩:=Af h
 refine An.snap Tryz.call15 (Qb y10.2 [(1:Int),2] hy12) (by simp +decide -implicitDefEqProofs only[go_sem]) (by rintro _ rfl;rfl) fun _ hr=>?_
 subst hr
 refine nS ?_
 revert h;refine gf (fun hc h=>?_) fun hc h=>?_
 rotate_left
 ·refine j _ _ (qn ?_)
  refine AWP.cond (Ah ?_)
  refine sq (ar rfl (qn (rt (qr ?_))))
  cases h;exact en Tryz.results10
 obtain⟨y13,hy13,h⟩:=Af h
 refine An.pure Tryz.call20 (D2 y10.1 hy13) rfl fun _ hr=>?_
 subst hr
 refine nS ?_
 intro hm
 refine j _ _ (qn ?_)
 revert h;refine ca rfl (fun hc h=>?_) fun hc h=>?_
 ·refine sq (ar rfl (qn (rt (qr ?_))))
  cases h;exact en Tryz.results10
 refine sk (qn (sq (ar rfl (qn (sq ?_)))))
 refine ar rfl (qn (sq ?_))
 refine ar rfl (qn (sq ?_))
 refine ar rfl (qn (sq ?_))
 refine ar rfl (qn (sq ?_))
 refine AWP.lC ?_
 refine ALP.cut 2 (ALP.part rfl ?_);intro K j
 refine nS ?_
 refine j _ _ ?_
 refine ALP.sub (Sub.Ds 14 rfl) ?_
 refine nS ?_
 refine ALP.last rfl ?_;intro K j
 refine nS ?_
 refine j _ _ (qn ?_)
 refine AWP.sub (Sub.denil 15 ([(Bd.mk (1:Int) [(1:Int)] [] (100:Int) (100:Int) (-1:Int))].map Ba) rfl (by simp +decide -implicitDefEqProofs only[go_sem,Dg,Ac.int.injEq,Int.natCast_zero,List.replicate_zero,List.length_take,List.length_drop,Ac.own.injEq,reduceCtorEq,Int.reduceAdd,Ru,Rv,Om,Rt,Ol,vU,Ol,Om])) ?_
 refine nS (sq ?_)
 refine ar rfl (qn (sq ?_))
 refine rg rfl fun K j=>?_
 obtain⟨y14,hy14,h⟩:=Af h
 refine An.snap Tryz.call18 (Dh (Aj.mk y1.Map y1.Lifts y1.Closures (Ca.mk y1.Patrol.Bu [(Cv.mk 1 1 0)]) y1.Surfaces y1.Packs y1.Slides y1.Bulletin y1.Missions y1.Winches y1.Groomers y1.Status y1.Depth y1.Time) [(1:Int),2] 1 hy14) (by simp +decide -implicitDefEqProofs only[go_sem]) (by rintro _ rfl;rfl) fun _ hr=>?_
 subst hr
 refine nS ?_
 revert h;refine gt (fun hc h=>?_) fun hc h=>?_
 rotate_left
 ·refine j _ _ (qn (rt ?_))
  cases h;exact en Tryz.results10
 obtain⟨y15,hy15,h⟩:=Af h
 refine An.snap Tryz.call18 (Dh (Aj.mk y1.Map y1.Lifts y1.Closures y1.Patrol y1.Surfaces y1.Packs y1.Slides y1.Bulletin y1.Missions y1.Winches y1.Groomers y1.Status 1001 y1.Time) [(1:Int),2] 1 hy15) (by simp +decide -implicitDefEqProofs only[go_sem]) (by rintro _ rfl;rfl) fun _ hr=>?_
 subst hr
 refine nS ?_
 revert h;refine gt (fun hc h=>?_) fun hc h=>?_
 rotate_left
 ·refine j _ _ (qn (rt ?_))
  cases h;exact en Tryz.results10
 obtain⟨y16,hy16,h⟩:=Af h
 refine An.snap Tryz.call18 (Dh (Aj.mk y1.Map y1.Lifts y1.Closures y1.Patrol y1.Surfaces y1.Packs [(Bd.mk 1 [(1:Int)] [] 100 100 (-1))] y1.Bulletin y1.Missions y1.Winches y1.Groomers y1.Status y1.Depth y1.Time) [(1:Int),2] 1 hy16) (by simp +decide -implicitDefEqProofs only[go_sem]) (by rintro _ rfl;rfl) fun _ hr=>?_
 subst hr
 refine nS ?_
 revert h;refine gt (fun hc h=>?_) fun hc h=>?_
 ·obtain⟨y17,hy17,h⟩:=Af h
  refine An.snap Tryz.call18 (Dh y1 [(1:Int),2] 9 hy17) (by simp +decide -implicitDefEqProofs only[go_sem]) (by rintro _ rfl;rfl) fun _ hr=>?_
  subst hr
  refine nS ?_
  revert h;refine gt (fun hc h=>?_) fun hc h=>?_
  ·obtain⟨y18,hy18,h⟩:=Af h
   refine An.snap Tryz.call18 (Dh y1 [(1:Int),2] 1 hy18) (by simp +decide -implicitDefEqProofs only[go_sem]) (by rintro _ rfl;rfl) fun _ hr=>?_
   subst hr
   refine nS ?_
   refine j _ _ (qn (rt ?_))
   cases h;exact en Tryz.results10
  refine j _ _ (qn (rt ?_))
  cases h;exact en Tryz.results10
 refine j _ _ (qn (rt ?_))
 cases h;exact en Tryz.results10
def Kx (f_:Aj):Option (Bool):=
 (bif (decide (12<((f_.Map.Nodes.length:Nat):Int)))then some false else(bif (decide (12<((f_.Map.Lifts.length:Nat):Int)))then some false else(bif (decide (12<((f_.Map.Runs.length:Nat):Int)))then some false else(bif (decide (12<((f_.Map.Bases.length:Nat):Int)))then some false else(bif (decide (12<((f_.Lifts.length:Nat):Int)))then some false else(bif (decide (12<((f_.Closures.length:Nat):Int)))then some false else(bif (decide (12<((f_.Patrol.Bu.length:Nat):Int)))then some false else(bif (decide (12<((f_.Patrol.Hazards.length:Nat):Int)))then some false else(bif (decide (12<((f_.Surfaces.length:Nat):Int)))then some false else(bif (decide (12<((f_.Packs.length:Nat):Int)))then some false else(bif (decide (12<((f_.Slides.length:Nat):Int)))then some false else(bif (decide (12<((f_.Bulletin.length:Nat):Int)))then some false else(bif (decide (((f_.Missions.length:Nat):Int)≤12))then (bif (decide (((f_.Winches.length:Nat):Int)≤12))then (bif (decide (((f_.Groomers.length:Nat):Int)≤12))then some (decide (((f_.Status.length:Nat):Int)≤12))else some false)else some false)else some false)))))))))))))
theorem cN (f_:Aj) {r:Bool} (h:Kx f_=some r):Ad Tryz.prog 11 [.agg (B3 f_)] (·= .bool r):=by
 refine Ad.nle (Ad.intro Tryz.func11 rfl rfl (by show _≤99;simp) ?_)
 unfold Kx at h
 refine nS (sq ?_)
 refine ar rfl (qn (sq (sq ?_)))
 refine rg rfl fun K j=>?_
 intro hm
 revert h;refine gf (fun hc h=>?_) fun hc h=>?_
 rotate_left
 ·refine j _ _ (qn ?_)
  refine AWP.cond (Ah ?_)
  refine sq (ar rfl (qn (rt (qr ?_))))
  cases h;exact en Tryz.results11
 intro hm
 revert h;refine gf (fun hc h=>?_) fun hc h=>?_
 rotate_left
 ·refine j _ _ (qn ?_)
  refine AWP.cond (Ah ?_)
  refine sq (ar rfl (qn (rt (qr ?_))))
  cases h;exact en Tryz.results11
 intro hm
 revert h;refine gf (fun hc h=>?_) fun hc h=>?_
 rotate_left
 ·refine j _ _ (qn ?_)
  refine AWP.cond (Ah ?_)
  refine sq (ar rfl (qn (rt (qr ?_))))
  cases h;exact en Tryz.results11
 intro hm
 revert h;refine gf (fun hc h=>?_) fun hc h=>?_
 rotate_left
 ·refine j _ _ (qn ?_)
  refine AWP.cond (Ah ?_)
  refine sq (ar rfl (qn (rt (qr ?_))))
  cases h;exact en Tryz.results11
 intro hm
 revert h;refine gf (fun hc h=>?_) fun hc h=>?_
 rotate_left
 ·refine j _ _ (qn ?_)
  refine AWP.cond (Ah ?_)
  refine sq (ar rfl (qn (rt (qr ?_))))
  cases h;exact en Tryz.results11
 intro hm
 refine j _ _ (qn ?_)
 revert h;refine ca rfl (fun hc h=>?_) fun hc h=>?_
 ·refine sq (ar rfl (qn (rt (qr ?_))))
  cases h;exact en Tryz.results11
 refine sk (qn (sq (sq ?_)))
 refine rg rfl fun K j=>?_
 intro hm
 revert h;refine gf (fun hc h=>?_) fun hc h=>?_
 rotate_left
 ·refine j _ _ (qn ?_)
  refine AWP.cond (Ah ?_)
  refine sq (ar rfl (qn (rt (qr ?_))))
  cases h;exact en Tryz.results11
 intro hm
 revert h;refine gf (fun hc h=>?_) fun hc h=>?_
 rotate_left
 ·refine j _ _ (qn ?_)
  refine AWP.cond (Ah ?_)
  refine sq (ar rfl (qn (rt (qr ?_))))
  cases h;exact en Tryz.results11
 intro hm
 revert h;refine gf (fun hc h=>?_) fun hc h=>?_
 rotate_left
 ·refine j _ _ (qn ?_)
  refine AWP.cond (Ah ?_)
  refine sq (ar rfl (qn (rt (qr ?_))))
  cases h;exact en Tryz.results11
 intro hm
 revert h;refine gf (fun hc h=>?_) fun hc h=>?_
 rotate_left
 ·refine j _ _ (qn ?_)
  refine AWP.cond (Ah ?_)
  refine sq (ar rfl (qn (rt (qr ?_))))
  cases h;exact en Tryz.results11
 intro hm
 revert h;refine gf (fun hc h=>?_) fun hc h=>?_
 rotate_left
 ·refine j _ _ (qn ?_)
  refine AWP.cond (Ah ?_)
  refine sq (ar rfl (qn (rt (qr ?_))))
  cases h;exact en Tryz.results11
 intro hm
 refine j _ _ (qn ?_)
 revert h;refine ca rfl (fun hc h=>?_) fun hc h=>?_
 ·refine sq (ar rfl (qn (rt (qr ?_))))
  cases h;exact en Tryz.results11
 refine sk (qn (sq ?_))
 refine rg rfl fun K j=>?_
 intro hm
 revert h;refine gt (fun hc h=>?_) fun hc h=>?_
 ·intro hm
  revert h;refine gt (fun hc h=>?_) fun hc h=>?_
  ·intro hm
   revert h;refine gt (fun hc h=>?_) fun hc h=>?_
   ·intro hm
    refine j _ _ (qn (rt ?_))
    cases h;exact en Tryz.results11
   refine j _ _ (qn (rt ?_))
   cases h;exact en Tryz.results11
  refine j _ _ (qn (rt ?_))
  cases h;exact en Tryz.results11
 refine j _ _ (qn (rt ?_))
 cases h;exact en Tryz.results11
def E4 (n_:Int) (lo:Int) (hi:Int):Option (Bool):=
 (bif (decide (lo≤n_))then some (decide (n_≤hi))else some false)
theorem Dd (n_:Int) (lo:Int) (hi:Int) {r:Bool} (h:E4 n_ lo hi=some r):Ad Tryz.prog 254 [.int .i64 n_,.int .i64 lo,.int .i64 hi] (·= .bool r):=by
 refine Ad.nle (Ad.intro Tryz.func254 rfl rfl (by show _≤15;simp) ?_)
 unfold E4 at h
 refine nS (sq ?_)
 refine ar rfl (qn (sq ?_))
 refine rg rfl fun K j=>?_
 revert h;refine gt (fun hc h=>?_) fun hc h=>?_
 ·refine j _ _ (qn (rt ?_))
  cases h;exact en Tryz.results254
 refine j _ _ (qn (rt ?_))
 cases h;exact en Tryz.results254
def Rm (l:List Ck) (k0:Nat) (x_2:Ck) (sv:Unit):Option (Out (Unit) (Int)):=
 (E4 x_2.ID 1 9999).bind fun y3=>(bif (!y3)then some (Out.ret 2)else (E4 x_2.Alt 0 5000).bind fun y4=>(bif (!y4)then some (Out.ret 2)else (bif (decide (0<((k0:Nat):Int)))then (Dk l (IntKind.i64.wrap (((k0:Nat):Int) - 1))).bind fun x_5=>(bif (decide (x_2.ID≤x_5.ID))then some (Out.ret 7)else some (Out.next ()))else some (Out.next ()))))
def Sr (l:List Ck):Option (Int):=
 (Am (Rm l) 0 l ()).bind fun o0=>o0.on fun s0=>some 0
theorem cF (l:List Ck) {r:Int} (h:Sr l=some r):Ad Tryz.prog 177 [.sl 2 (l.map A6)] (·= .int .i64 r):=by
 refine Ad.nle (Ad.intro Tryz.func177 rfl rfl (by show _≤42;simp) ?_)
 unfold Sr at h
 refine nS (sq ?_)
 refine ar rfl (qn (sq (sq ?_)))
 refine ar rfl (qn (bk ?_))
 obtain⟨o0,hJ0,hO0⟩:=Af h
 clear h
 refine AWP.Bw (ι:=Nat×(Unit)×(Unit)) (fun zz=>[(0,.sl 2 (l.map A6)),(3,.int .i64 ((zz.1:Nat):Int))]) (fun zz=>[]) (fun zz=>zz.1≤l.length∧Am (Rm l) zz.1 ((l).drop zz.1) zz.2.1=some o0) (fun zz=>l.length - zz.1) (0,(),()) ⟨Nat.zero_le _,hJ0⟩ cu cu (fun x=>⟨rfl,rfl,rfl⟩) ?_
 clear hJ0
 rintro⟨k0,⟨⟩,⟨⟩⟩ ⟨hk0,hJ0⟩
 dsimp only at hk0 hJ0 ⊢
 refine sq (sq ?_)
 refine rg rfl fun K j=>?_
 intro hm
 refine j _ _ (qn ?_)
 refine AWP.cond (Ak (fun hc=>?_) (fun hc=>?_))
 rotate_left
 ·obtain rfl:=Bf hJ0 (fun hl=>by have:=Aiz hc;omega)
  have h:=Be hO0;try dsimp only at h
  have hkl:l.length=k0:=by have:=Aiz hc;omega
  subst hkl
  refine xt (qe (qe (bs (qn (sq (ar rfl (qn (rt ?_))))))))
  cases h;exact en Tryz.results177
 have hlt0:k0<l.length:=by have:=Ai0 hc;omega
 obtain⟨x_2,b0,hx0_,h,hJ0⟩:=A9 hJ0 hlt0
 have hx0:=Ay hx0_
 have hw0:=wk (k:=k0) (by omega)
 unfold Rm at h;try dsimp only at h
 refine sk (qn (sq (bk (sq (sq ?_)))))
 refine rg rfl fun K j=>?_
 refine Bn.of (f:=A6) (l:=l) hx0 ?_
 refine nS ?_
 obtain⟨y3,hy3,h⟩:=Af h
 refine An.pure Tryz.call254 (Dd x_2.ID 1 9999 hy3) rfl fun _ hr=>?_
 subst hr
 refine nS ?_
 revert h;refine gf (fun hc h=>?_) fun hc h=>?_
 rotate_left
 ·refine j _ _ (qn ?_)
  refine AWP.cond (Ah ?_)
  refine sq (ar rfl (qn (rt (qr (br (qr (qr ?_)))))))
  obtain rfl:=Aa h
  obtain rfl:=Ae hJ0
  replace h:=Al hO0
  refine br (qr ?_)
  cases h;exact en Tryz.results177
 refine Bn.of (f:=A6) (l:=l) hx0 ?_
 refine nS ?_
 obtain⟨y4,hy4,h⟩:=Af h
 refine An.pure Tryz.call254 (Dd x_2.Alt 0 5000 hy4) rfl fun _ hr=>?_
 subst hr
 refine nS ?_
 refine j _ _ (qn ?_)
 revert h;refine ca rfl (fun hc h=>?_) fun hc h=>?_
 ·refine sq (ar rfl (qn (rt (qr (br (qr (qr ?_)))))))
  obtain rfl:=Aa h
  obtain rfl:=Ae hJ0
  replace h:=Al hO0
  refine br (qr ?_)
  cases h;exact en Tryz.results177
 refine sk (qn (sq ?_))
 refine AWP.draw Tryz.mixed (by kernel_rfl) ?_;intro K j
 refine nS ?_
 revert h;refine gt (fun hc h=>?_) fun hc h=>?_
 ·refine Bn.of (f:=A6) (l:=l) hx0 ?_
  refine nS ?_
  obtain⟨x_5,hx_5,h⟩:=Af h
  refine Bn.of (f:=A6) (l:=l) hx_5 ?_
  refine nS ?_
  refine j _ _ _ (by kernel_rfl) ?_
  refine qn ?_
  revert h;refine ca rfl (fun hc h=>?_) fun hc h=>?_
  ·refine sq (ar rfl (qn (rt (br (qr (qr ?_))))))
   obtain rfl:=Aa h
   obtain rfl:=Ae hJ0
   replace h:=Al hO0
   refine br (qr ?_)
   cases h;exact en Tryz.results177
  refine sk (bn (qn (ar rfl (qn ?_))))
  obtain rfl:=Aa h
  refine⟨(k0+1,(),()),⟨by dsimp only;omega,Ai hJ0⟩,by dsimp only;omega,?_,?_⟩
  ·exact cuw hw0
  exact cuw hw0
 refine j _ _ _ (by kernel_rfl) ?_
 refine qn ?_
 refine AWP.cond (Bk ?_)
 refine sk (bn (qn (ar rfl (qn ?_))))
 obtain rfl:=Aa h
 refine⟨(k0+1,(),()),⟨by dsimp only;omega,Ai hJ0⟩,by dsimp only;omega,?_,?_⟩
 ·exact cuw hw0
 exact cuw hw0
def Tf (id_:Int) (k0:Nat) (x_2:Ck) (sv:Unit):Option (Out (Unit) (Ck×Bool)):=
 (bif (decide (x_2.ID=id_))then some (Out.ret (x_2,true))else some (Out.next ()))
def Ee (m:Bb) (id_:Int):Option (Ck×Bool):=
 (Am (Tf id_) 0 m.Nodes ()).bind fun o0=>o0.on fun s0=>some ((Ck.mk 0 0),false)
theorem Qf (m:Bb) (id_:Int) {r:Ck×Bool} (h:Ee m id_=some r):Ad Tryz.prog 98 [.agg (Cd m),.int .i64 id_] (·= .tuple [.agg (A6 r.1),.bool r.2]):=by
 refine Ad.nle (Ad.intro Tryz.func98 rfl rfl (by show _≤28;simp) ?_)
 unfold Ee at h
 refine nS (sq ?_)
 refine ar rfl (qn (sq (sq ?_)))
 refine ar rfl (qn (bk ?_))
 obtain⟨o0,hJ0,hO0⟩:=Af h
 clear h
 refine AWP.Bw (ι:=Nat×(Unit)×(Unit)) (fun zz=>[(1,.int .i64 id_),(2,.ptr 0 0),(4,.ptr 1 0),(6,.int .i64 ((zz.1:Nat):Int))]) (fun zz=>[.box [.sl 2 (m.Nodes.map A6),.sl 8 (m.Lifts.map A7),.sl 7 (m.Runs.map Bc),.sl 1 (m.Bases.map A2)],.box [.int .i64 0,.int .i64 0]]) (fun zz=>zz.1≤m.Nodes.length∧Am (Tf id_) zz.1 ((m.Nodes).drop zz.1) zz.2.1=some o0) (fun zz=>m.Nodes.length - zz.1) (0,(),()) ⟨Nat.zero_le _,hJ0⟩ cu cu (fun x=>⟨rfl,rfl,rfl⟩) ?_
 clear hJ0
 rintro⟨k0,⟨⟩,⟨⟩⟩ ⟨hk0,hJ0⟩
 dsimp only at hk0 hJ0 ⊢
 refine sq (sq ?_)
 refine rg rfl fun K j=>?_
 intro hm
 refine j _ _ (qn ?_)
 refine AWP.cond (Ak (fun hc=>?_) (fun hc=>?_))
 rotate_left
 ·obtain rfl:=Bf hJ0 (fun hl=>by have:=Aiz hc;omega)
  have h:=Be hO0;try dsimp only at h
  have hkl:m.Nodes.length=k0:=by have:=Aiz hc;omega
  subst hkl
  refine xt (qe (qe (bs (qn (sq (ar rfl (qn (rt ?_))))))))
  cases h;exact en Tryz.results98
 have hlt0:k0<m.Nodes.length:=by have:=Ai0 hc;omega
 obtain⟨x_2,b0,hx0_,h,hJ0⟩:=A9 hJ0 hlt0
 have hx0:=Ay hx0_
 have hw0:=wk (k:=k0) (by omega)
 unfold Tf at h;try dsimp only at h
 refine sk (qn (sq (bk (sq ?_))))
 refine rg rfl fun K j=>?_
 refine Bn.of (f:=A6) (l:=m.Nodes) hx0 ?_
 refine nS ?_
 refine j _ _ (qn ?_)
 revert h;refine ca rfl (fun hc h=>?_) fun hc h=>?_
 ·refine sq ?_
  refine rg rfl fun K j=>?_
  refine Bn.of (f:=A6) (l:=m.Nodes) hx0 ?_
  refine nS ?_
  refine j _ _ (qn (rt (br (qr (qr ?_)))))
  obtain rfl:=Aa h
  obtain rfl:=Ae hJ0
  replace h:=Al hO0
  refine br (qr ?_)
  cases h;exact en Tryz.results98
 refine sk (bn (qn (ar rfl (qn ?_))))
 obtain rfl:=Aa h
 refine⟨(k0+1,(),()),⟨by dsimp only;omega,Ai hJ0⟩,by dsimp only;omega,?_,?_⟩
 ·exact cuw hw0
 exact cuw hw0
def Gg (m:Bb) (from_:Int) (to_:Int):Option (Int):=
 (Ee m from_).bind fun y1=>(Ee m to_).bind fun y2=>(bif (!y1.2)then some 8 else(bif (!y2.2)then some 8 else(bif (decide (y2.1.Alt≤y1.1.Alt))then some 11 else some 0)))
theorem Lg (m:Bb) (from_:Int) (to_:Int) {r:Int} (h:Gg m from_ to_=some r):Ad Tryz.prog 255 [.agg (Cd m),.int .i64 from_,.int .i64 to_] (·= .int .i64 r):=by
 refine Ad.nle (Ad.intro Tryz.func255 rfl rfl (by show _≤34;simp) ?_)
 unfold Gg at h
 refine nS (sq ?_)
 refine ar rfl (qn (sq ?_))
 refine rg rfl fun K j=>?_
 obtain⟨y1,hy1,h⟩:=Af h
 refine An.pure Tryz.call98 (Qf m from_ hy1) rfl fun _ hr=>?_
 subst hr
 refine nS ?_
 refine j _ _ (qn (sq ?_))
 refine rg rfl fun K j=>?_
 obtain⟨y2,hy2,h⟩:=Af h
 refine An.pure Tryz.call98 (Qf m to_ hy2) rfl fun _ hr=>?_
 subst hr
 refine nS ?_
 refine j _ _ (qn (sq (sq ?_)))
 refine rg rfl fun K j=>?_
 revert h;refine gf (fun hc h=>?_) fun hc h=>?_
 ·refine j _ _ (qn ?_)
  revert h;refine ca rfl (fun hc h=>?_) fun hc h=>?_
  ·refine sq (ar rfl (qn (rt (qr ?_))))
   cases h;exact en Tryz.results255
  refine sk (qn (sq (sq (ar rfl (qn ?_)))))
  revert h;refine ca rfl (fun hc h=>?_) fun hc h=>?_
  ·refine sq (ar rfl (qn (rt (qr ?_))))
   cases h;exact en Tryz.results255
  refine sk (qn (sq (ar rfl (qn (rt ?_)))))
  cases h;exact en Tryz.results255
 refine j _ _ (qn ?_)
 refine AWP.cond (Ah ?_)
 refine sq (ar rfl (qn (rt (qr ?_))))
 cases h;exact en Tryz.results255
def Hi (x_:Cc):Option (Bool):=
 nz x_.Spacing ((bif (decide ((Int.tmod (IntKind.i64.wrap (2*x_.Length)) x_.Spacing)=0))then nz x_.Spacing ((E4 (IntKind.i64.wrap (Int.tdiv (IntKind.i64.wrap (2*x_.Length)) x_.Spacing)) 1 200).bind fun y1=>some y1)else some false))
theorem Ql (x_:Cc) {r:Bool} (h:Hi x_=some r):Ad Tryz.prog 256 [.agg (A7 x_)] (·= .bool r):=by
 refine Ad.nle (Ad.intro Tryz.func256 rfl rfl (by show _≤19;simp) ?_)
 unfold Hi at h
 refine nS (sq ?_)
 refine ar rfl (qn (sq ?_))
 refine rg rfl fun K j=>?_
 obtain⟨hk,h⟩:=nA h
 refine⟨hk,?_⟩
 revert h;refine gt (fun hc h=>?_) fun hc h=>?_
 ·obtain⟨hk,h⟩:=nA h
  refine⟨hk,?_⟩
  obtain⟨y1,hy1,h⟩:=Af h
  refine An.pure Tryz.call254 (Dd (IntKind.i64.wrap (Int.tdiv (IntKind.i64.wrap (2*x_.Length)) x_.Spacing)) 1 200 hy1) rfl fun _ hr=>?_
  subst hr
  refine nS ?_
  refine j _ _ (qn (rt ?_))
  cases h;exact en Tryz.results256
 refine j _ _ (qn (rt ?_))
 cases h;exact en Tryz.results256
def Kp (m:Bb) (k0:Nat) (x_2:Cc) (sv:Unit):Option (Out (Unit) (Int)):=
 (E4 x_2.ID 1 9999).bind fun y3=>(bif (!y3)then some (Out.ret 2)else (E4 x_2.Operator 1 8).bind fun y4=>(bif (!y4)then some (Out.ret 2)else (E4 x_2.Length 10 6000).bind fun y5=>(bif (!y5)then some (Out.ret 2)else (E4 x_2.Speed 500 12000).bind fun y6=>(bif (!y6)then some (Out.ret 2)else (E4 x_2.Seats 1 16).bind fun y7=>(bif (!y7)then some (Out.ret 2)else (E4 x_2.Spacing 5 1000).bind fun y8=>(bif (!y8)then some (Out.ret 2)else (bif (decide (0<((k0:Nat):Int)))then (Dk m.Lifts (IntKind.i64.wrap (((k0:Nat):Int) - 1))).bind fun x_9=>(bif (decide (x_2.ID≤x_9.ID))then some (Out.ret 7)else (Gg m x_2.From x_2.To).bind fun y10=>(bif (decide (y10≠0))then some (Out.ret y10)else (Hi x_2).bind fun y11=>(bif (!y11)then some (Out.ret 1)else some (Out.next ()))))else (Gg m x_2.From x_2.To).bind fun y12=>(bif (decide (y12≠0))then some (Out.ret y12)else (Hi x_2).bind fun y13=>(bif (!y13)then some (Out.ret 1)else some (Out.next ()))))))))))
def Pw (m:Bb):Option (Int):=
 (Am (Kp m) 0 m.Lifts ()).bind fun o0=>o0.on fun s0=>some 0
theorem cG (m:Bb) {r:Int} (h:Pw m=some r):Ad Tryz.prog 178 [.agg (Cd m)] (·= .int .i64 r):=by
 refine Ad.nle (Ad.intro Tryz.func178 rfl rfl (by show _≤78;simp) ?_)
 unfold Pw at h
 refine nS (sq ?_)
 refine ar rfl (qn (sq (sq ?_)))
 refine ar rfl (qn (bk ?_))
 obtain⟨o0,hJ0,hO0⟩:=Af h
 clear h
 refine AWP.Bw (ι:=Nat×(Unit)×(Unit)) (fun zz=>[(1,.ptr 0 0),(3,.int .i64 ((zz.1:Nat):Int))]) (fun zz=>[.box [.sl 2 (m.Nodes.map A6),.sl 8 (m.Lifts.map A7),.sl 7 (m.Runs.map Bc),.sl 1 (m.Bases.map A2)]]) (fun zz=>zz.1≤m.Lifts.length∧Am (Kp m) zz.1 ((m.Lifts).drop zz.1) zz.2.1=some o0) (fun zz=>m.Lifts.length - zz.1) (0,(),()) ⟨Nat.zero_le _,hJ0⟩ cu cu (fun x=>⟨rfl,rfl,rfl⟩) ?_
 clear hJ0
 rintro⟨k0,⟨⟩,⟨⟩⟩ ⟨hk0,hJ0⟩
 dsimp only at hk0 hJ0 ⊢
 refine sq (sq ?_)
 refine rg rfl fun K j=>?_
 intro hm
 refine j _ _ (qn ?_)
 refine AWP.cond (Ak (fun hc=>?_) (fun hc=>?_))
 rotate_left
 ·obtain rfl:=Bf hJ0 (fun hl=>by have:=Aiz hc;omega)
  have h:=Be hO0;try dsimp only at h
  have hkl:m.Lifts.length=k0:=by have:=Aiz hc;omega
  subst hkl
  refine xt (qe (qe (bs (qn (sq (ar rfl (qn (rt ?_))))))))
  cases h;exact en Tryz.results178
 have hlt0:k0<m.Lifts.length:=by have:=Ai0 hc;omega
 obtain⟨x_2,b0,hx0_,h,hJ0⟩:=A9 hJ0 hlt0
 have hx0:=Ay hx0_
 have hw0:=wk (k:=k0) (by omega)
 unfold Kp at h;try dsimp only at h
 refine sk (qn (sq (bk (sq ?_))))
 refine rg rfl fun K j=>?_
 refine Bn.of (f:=A7) (l:=m.Lifts) hx0 ?_
 refine nS ?_
 refine j _ _ (qn (sq (sq ?_)))
 refine rg rfl fun K j=>?_
 obtain⟨y3,hy3,h⟩:=Af h
 refine An.pure Tryz.call254 (Dd x_2.ID 1 9999 hy3) rfl fun _ hr=>?_
 subst hr
 refine nS ?_
 revert h;refine gf (fun hc h=>?_) fun hc h=>?_
 rotate_left
 ·refine j _ _ (qn ?_)
  refine AWP.cond (Ah ?_)
  refine sq (ar rfl (qn (rt (qr (br (qr (qr ?_)))))))
  obtain rfl:=Aa h
  obtain rfl:=Ae hJ0
  replace h:=Al hO0
  refine br (qr ?_)
  cases h;exact en Tryz.results178
 obtain⟨y4,hy4,h⟩:=Af h
 refine An.pure Tryz.call254 (Dd x_2.Operator 1 8 hy4) rfl fun _ hr=>?_
 subst hr
 refine nS ?_
 revert h;refine gf (fun hc h=>?_) fun hc h=>?_
 rotate_left
 ·refine j _ _ (qn ?_)
  refine AWP.cond (Ah ?_)
  refine sq (ar rfl (qn (rt (qr (br (qr (qr ?_)))))))
  obtain rfl:=Aa h
  obtain rfl:=Ae hJ0
  replace h:=Al hO0
  refine br (qr ?_)
  cases h;exact en Tryz.results178
 obtain⟨y5,hy5,h⟩:=Af h
 refine An.pure Tryz.call254 (Dd x_2.Length 10 6000 hy5) rfl fun _ hr=>?_
 subst hr
 refine nS ?_
 revert h;refine gf (fun hc h=>?_) fun hc h=>?_
 rotate_left
 ·refine j _ _ (qn ?_)
  refine AWP.cond (Ah ?_)
  refine sq (ar rfl (qn (rt (qr (br (qr (qr ?_)))))))
  obtain rfl:=Aa h
  obtain rfl:=Ae hJ0
  replace h:=Al hO0
  refine br (qr ?_)
  cases h;exact en Tryz.results178
 obtain⟨y6,hy6,h⟩:=Af h
 refine An.pure Tryz.call254 (Dd x_2.Speed 500 12000 hy6) rfl fun _ hr=>?_
 subst hr
 refine nS ?_
 revert h;refine gf (fun hc h=>?_) fun hc h=>?_
 rotate_left
 ·refine j _ _ (qn ?_)
  refine AWP.cond (Ah ?_)
  refine sq (ar rfl (qn (rt (qr (br (qr (qr ?_)))))))
  obtain rfl:=Aa h
  obtain rfl:=Ae hJ0
  replace h:=Al hO0
  refine br (qr ?_)
  cases h;exact en Tryz.results178
 obtain⟨y7,hy7,h⟩:=Af h
 refine An.pure Tryz.call254 (Dd x_2.Seats 1 16 hy7) rfl fun _ hr=>?_
 subst hr
 refine nS ?_
 revert h;refine gf (fun hc h=>?_) fun hc h=>?_
 rotate_left
 ·refine j _ _ (qn ?_)
  refine AWP.cond (Ah ?_)
  refine sq (ar rfl (qn (rt (qr (br (qr (qr ?_)))))))
  obtain rfl:=Aa h
  obtain rfl:=Ae hJ0
  replace h:=Al hO0
  refine br (qr ?_)
  cases h;exact en Tryz.results178
 obtain⟨y8,hy8,h⟩:=Af h
 refine An.pure Tryz.call254 (Dd x_2.Spacing 5 1000 hy8) rfl fun _ hr=>?_
 subst hr
 refine nS ?_
 refine j _ _ (qn ?_)
 revert h;refine ca rfl (fun hc h=>?_) fun hc h=>?_
 ·refine sq (ar rfl (qn (rt (qr (br (qr (qr ?_)))))))
  obtain rfl:=Aa h
  obtain rfl:=Ae hJ0
  replace h:=Al hO0
  refine br (qr ?_)
  cases h;exact en Tryz.results178
 refine sk (qn (sq (sq ?_)))
 refine AWP.draw Tryz.mixed (by kernel_rfl) ?_;intro K j
 refine nS ?_
 revert h;refine gt (fun hc h=>?_) fun hc h=>?_
 ·obtain⟨x_9,hx_9,h⟩:=Af h
  refine Bn.of (f:=A7) (l:=m.Lifts) hx_9 ?_
  refine nS ?_
  refine j _ _ _ (by kernel_rfl) ?_
  refine qn ?_
  revert h;refine ca rfl (fun hc h=>?_) fun hc h=>?_
  ·refine sq (ar rfl (qn (rt (qr (br (qr (qr ?_)))))))
   obtain rfl:=Aa h
   obtain rfl:=Ae hJ0
   replace h:=Al hO0
   refine br (qr ?_)
   cases h;exact en Tryz.results178
  refine sk (qn (sq (sq ?_)))
  refine rg rfl fun K j=>?_
  obtain⟨y10,hy10,h⟩:=Af h
  refine An.pure Tryz.call255 (Lg m x_2.From x_2.To hy10) rfl fun _ hr=>?_
  subst hr
  refine nS ?_
  refine j _ _ (qn (sq ?_))
  refine ar rfl (qn ?_)
  revert h;refine ca rfl (fun hc h=>?_) fun hc h=>?_
  ·refine sq (ar rfl (qn (rt (qr (br (qr (qr ?_)))))))
   obtain rfl:=Aa h
   obtain rfl:=Ae hJ0
   replace h:=Al hO0
   refine br (qr ?_)
   cases h;exact en Tryz.results178
  refine sk (qn (sq ?_))
  refine rg rfl fun K j=>?_
  obtain⟨y11,hy11,h⟩:=Af h
  refine An.pure Tryz.call256 (Ql x_2 hy11) rfl fun _ hr=>?_
  subst hr
  refine nS ?_
  refine j _ _ (qn ?_)
  revert h;refine ca rfl (fun hc h=>?_) fun hc h=>?_
  ·refine sq (ar rfl (qn (rt (br (qr (qr ?_))))))
   obtain rfl:=Aa h
   obtain rfl:=Ae hJ0
   replace h:=Al hO0
   refine br (qr ?_)
   cases h;exact en Tryz.results178
  refine sk (bn (qn (ar rfl (qn ?_))))
  obtain rfl:=Aa h
  refine⟨(k0+1,(),()),⟨by dsimp only;omega,Ai hJ0⟩,by dsimp only;omega,?_,?_⟩
  ·exact cuw hw0
  exact cuw hw0
 refine j _ _ _ (by kernel_rfl) ?_
 refine qn ?_
 refine AWP.cond (Bk ?_)
 refine sk (qn (sq (sq ?_)))
 refine rg rfl fun K j=>?_
 obtain⟨y12,hy12,h⟩:=Af h
 refine An.pure Tryz.call255 (Lg m x_2.From x_2.To hy12) rfl fun _ hr=>?_
 subst hr
 refine nS ?_
 refine j _ _ (qn (sq ?_))
 refine ar rfl (qn ?_)
 revert h;refine ca rfl (fun hc h=>?_) fun hc h=>?_
 ·refine sq (ar rfl (qn (rt (qr (br (qr (qr ?_)))))))
  obtain rfl:=Aa h
  obtain rfl:=Ae hJ0
  replace h:=Al hO0
  refine br (qr ?_)
  cases h;exact en Tryz.results178
 refine sk (qn (sq ?_))
 refine rg rfl fun K j=>?_
 obtain⟨y13,hy13,h⟩:=Af h
 refine An.pure Tryz.call256 (Ql x_2 hy13) rfl fun _ hr=>?_
 subst hr
 refine nS ?_
 refine j _ _ (qn ?_)
 revert h;refine ca rfl (fun hc h=>?_) fun hc h=>?_
 ·refine sq (ar rfl (qn (rt (br (qr (qr ?_))))))
  obtain rfl:=Aa h
  obtain rfl:=Ae hJ0
  replace h:=Al hO0
  refine br (qr ?_)
  cases h;exact en Tryz.results178
 refine sk (bn (qn (ar rfl (qn ?_))))
 obtain rfl:=Aa h
 refine⟨(k0+1,(),()),⟨by dsimp only;omega,Ai hJ0⟩,by dsimp only;omega,?_,?_⟩
 ·exact cuw hw0
 exact cuw hw0
def Mb (m:Bb) (k0:Nat) (x_2:Ce) (sv:Unit):Option (Out (Unit) (Int)):=
 (E4 x_2.ID 1 9999).bind fun y3=>(bif (!y3)then some (Out.ret 2)else (E4 x_2.Operator 1 8).bind fun y4=>(bif (!y4)then some (Out.ret 2)else (E4 x_2.Grade 1 4).bind fun y5=>(bif (!y5)then some (Out.ret 2)else (E4 x_2.Zone 1 32).bind fun y6=>(bif (!y6)then some (Out.ret 2)else (E4 x_2.Length 10 20000).bind fun y7=>(bif (!y7)then some (Out.ret 2)else (bif (decide (0<((k0:Nat):Int)))then (Dk m.Runs (IntKind.i64.wrap (((k0:Nat):Int) - 1))).bind fun x_8=>(bif (decide (x_2.ID≤x_8.ID))then some (Out.ret 7)else (Gg m x_2.To x_2.From).bind fun y9=>(bif (decide (y9≠0))then some (Out.ret y9)else some (Out.next ())))else (Gg m x_2.To x_2.From).bind fun y10=>(bif (decide (y10≠0))then some (Out.ret y10)else some (Out.next ()))))))))
def Rl (m:Bb):Option (Int):=
 (Am (Mb m) 0 m.Runs ()).bind fun o0=>o0.on fun s0=>some 0
theorem eO (m:Bb) {r:Int} (h:Rl m=some r):Ad Tryz.prog 179 [.agg (Cd m)] (·= .int .i64 r):=by
 refine Ad.nle (Ad.intro Tryz.func179 rfl rfl (by show _≤69;simp) ?_)
 unfold Rl at h
 refine nS (sq ?_)
 refine ar rfl (qn (sq (sq ?_)))
 refine ar rfl (qn (bk ?_))
 obtain⟨o0,hJ0,hO0⟩:=Af h
 clear h
 refine AWP.Bw (ι:=Nat×(Unit)×(Unit)) (fun zz=>[(1,.ptr 0 0),(3,.int .i64 ((zz.1:Nat):Int))]) (fun zz=>[.box [.sl 2 (m.Nodes.map A6),.sl 8 (m.Lifts.map A7),.sl 7 (m.Runs.map Bc),.sl 1 (m.Bases.map A2)]]) (fun zz=>zz.1≤m.Runs.length∧Am (Mb m) zz.1 ((m.Runs).drop zz.1) zz.2.1=some o0) (fun zz=>m.Runs.length - zz.1) (0,(),()) ⟨Nat.zero_le _,hJ0⟩ cu cu (fun x=>⟨rfl,rfl,rfl⟩) ?_
 clear hJ0
 rintro⟨k0,⟨⟩,⟨⟩⟩ ⟨hk0,hJ0⟩
 dsimp only at hk0 hJ0 ⊢
 refine sq (sq ?_)
 refine rg rfl fun K j=>?_
 intro hm
 refine j _ _ (qn ?_)
 refine AWP.cond (Ak (fun hc=>?_) (fun hc=>?_))
 rotate_left
 ·obtain rfl:=Bf hJ0 (fun hl=>by have:=Aiz hc;omega)
  have h:=Be hO0;try dsimp only at h
  have hkl:m.Runs.length=k0:=by have:=Aiz hc;omega
  subst hkl
  refine xt (qe (qe (bs (qn (sq (ar rfl (qn (rt ?_))))))))
  cases h;exact en Tryz.results179
 have hlt0:k0<m.Runs.length:=by have:=Ai0 hc;omega
 obtain⟨x_2,b0,hx0_,h,hJ0⟩:=A9 hJ0 hlt0
 have hx0:=Ay hx0_
 have hw0:=wk (k:=k0) (by omega)
 unfold Mb at h;try dsimp only at h
 refine sk (qn (sq (bk (sq ?_))))
 refine rg rfl fun K j=>?_
 refine Bn.of (f:=Bc) (l:=m.Runs) hx0 ?_
 refine nS ?_
 refine j _ _ (qn (sq (sq ?_)))
 refine rg rfl fun K j=>?_
 obtain⟨y3,hy3,h⟩:=Af h
 refine An.pure Tryz.call254 (Dd x_2.ID 1 9999 hy3) rfl fun _ hr=>?_
 subst hr
 refine nS ?_
 revert h;refine gf (fun hc h=>?_) fun hc h=>?_
 rotate_left
 ·refine j _ _ (qn ?_)
  refine AWP.cond (Ah ?_)
  refine sq (ar rfl (qn (rt (qr (br (qr (qr ?_)))))))
  obtain rfl:=Aa h
  obtain rfl:=Ae hJ0
  replace h:=Al hO0
  refine br (qr ?_)
  cases h;exact en Tryz.results179
 obtain⟨y4,hy4,h⟩:=Af h
 refine An.pure Tryz.call254 (Dd x_2.Operator 1 8 hy4) rfl fun _ hr=>?_
 subst hr
 refine nS ?_
 revert h;refine gf (fun hc h=>?_) fun hc h=>?_
 rotate_left
 ·refine j _ _ (qn ?_)
  refine AWP.cond (Ah ?_)
  refine sq (ar rfl (qn (rt (qr (br (qr (qr ?_)))))))
  obtain rfl:=Aa h
  obtain rfl:=Ae hJ0
  replace h:=Al hO0
  refine br (qr ?_)
  cases h;exact en Tryz.results179
 obtain⟨y5,hy5,h⟩:=Af h
 refine An.pure Tryz.call254 (Dd x_2.Grade 1 4 hy5) rfl fun _ hr=>?_
 subst hr
 refine nS ?_
 revert h;refine gf (fun hc h=>?_) fun hc h=>?_
 rotate_left
 ·refine j _ _ (qn ?_)
  refine AWP.cond (Ah ?_)
  refine sq (ar rfl (qn (rt (qr (br (qr (qr ?_)))))))
  obtain rfl:=Aa h
  obtain rfl:=Ae hJ0
  replace h:=Al hO0
  refine br (qr ?_)
  cases h;exact en Tryz.results179
 obtain⟨y6,hy6,h⟩:=Af h
 refine An.pure Tryz.call254 (Dd x_2.Zone 1 32 hy6) rfl fun _ hr=>?_
 subst hr
 refine nS ?_
 revert h;refine gf (fun hc h=>?_) fun hc h=>?_
 rotate_left
 ·refine j _ _ (qn ?_)
  refine AWP.cond (Ah ?_)
  refine sq (ar rfl (qn (rt (qr (br (qr (qr ?_)))))))
  obtain rfl:=Aa h
  obtain rfl:=Ae hJ0
  replace h:=Al hO0
  refine br (qr ?_)
  cases h;exact en Tryz.results179
 obtain⟨y7,hy7,h⟩:=Af h
 refine An.pure Tryz.call254 (Dd x_2.Length 10 20000 hy7) rfl fun _ hr=>?_
 subst hr
 refine nS ?_
 refine j _ _ (qn ?_)
 revert h;refine ca rfl (fun hc h=>?_) fun hc h=>?_
 ·refine sq (ar rfl (qn (rt (qr (br (qr (qr ?_)))))))
  obtain rfl:=Aa h
  obtain rfl:=Ae hJ0
  replace h:=Al hO0
  refine br (qr ?_)
  cases h;exact en Tryz.results179
 refine sk (qn (sq (sq ?_)))
 refine AWP.draw Tryz.mixed (by kernel_rfl) ?_;intro K j
 refine nS ?_
 revert h;refine gt (fun hc h=>?_) fun hc h=>?_
 ·obtain⟨x_8,hx_8,h⟩:=Af h
  refine Bn.of (f:=Bc) (l:=m.Runs) hx_8 ?_
  refine nS ?_
  refine j _ _ _ (by kernel_rfl) ?_
  refine qn ?_
  revert h;refine ca rfl (fun hc h=>?_) fun hc h=>?_
  ·refine sq (ar rfl (qn (rt (qr (br (qr (qr ?_)))))))
   obtain rfl:=Aa h
   obtain rfl:=Ae hJ0
   replace h:=Al hO0
   refine br (qr ?_)
   cases h;exact en Tryz.results179
  refine sk (qn (sq ?_))
  refine rg rfl fun K j=>?_
  obtain⟨y9,hy9,h⟩:=Af h
  refine An.pure Tryz.call255 (Lg m x_2.To x_2.From hy9) rfl fun _ hr=>?_
  subst hr
  refine nS ?_
  refine j _ _ (qn (sq ?_))
  refine ar rfl (qn ?_)
  revert h;refine ca rfl (fun hc h=>?_) fun hc h=>?_
  ·refine sq (ar rfl (qn (rt (br (qr (qr ?_))))))
   obtain rfl:=Aa h
   obtain rfl:=Ae hJ0
   replace h:=Al hO0
   refine br (qr ?_)
   cases h;exact en Tryz.results179
  refine sk (bn (qn (ar rfl (qn ?_))))
  obtain rfl:=Aa h
  refine⟨(k0+1,(),()),⟨by dsimp only;omega,Ai hJ0⟩,by dsimp only;omega,?_,?_⟩
  ·exact cuw hw0
  exact cuw hw0
 refine j _ _ _ (by kernel_rfl) ?_
 refine qn ?_
 refine AWP.cond (Bk ?_)
 refine sk (qn (sq ?_))
 refine rg rfl fun K j=>?_
 obtain⟨y10,hy10,h⟩:=Af h
 refine An.pure Tryz.call255 (Lg m x_2.To x_2.From hy10) rfl fun _ hr=>?_
 subst hr
 refine nS ?_
 refine j _ _ (qn (sq ?_))
 refine ar rfl (qn ?_)
 revert h;refine ca rfl (fun hc h=>?_) fun hc h=>?_
 ·refine sq (ar rfl (qn (rt (br (qr (qr ?_))))))
  obtain rfl:=Aa h
  obtain rfl:=Ae hJ0
  replace h:=Al hO0
  refine br (qr ?_)
  cases h;exact en Tryz.results179
 refine sk (bn (qn (ar rfl (qn ?_))))
 obtain rfl:=Aa h
 refine⟨(k0+1,(),()),⟨by dsimp only;omega,Ai hJ0⟩,by dsimp only;omega,?_,?_⟩
 ·exact cuw hw0
 exact cuw hw0
def Ed (m:Bb) (k1:Nat) (_x:Unit) (sv:Unit):Option (Out (Unit) (Int)):=
 (Dk m.Bases (((k1:Nat):Int)+1)).bind fun x_3=>(Dk m.Bases (IntKind.i64.wrap ((((k1:Nat):Int)+1) - 1))).bind fun x_4=>(bif (decide (x_3≤x_4))then some (Out.ret 7)else some (Out.next ()))
def Rn (m:Bb):Option (Int):=
 (J0 (Ed m) (m.Bases.length - 1) ()).bind fun o1=>o1.on fun s1=>some 0
def N5 (m:Bb) (k4:Nat) (x_6:Int) (sv:Unit):Option (Out (Unit) (Int)):=
 (Ee m x_6).bind fun y7=>(bif (!y7.2)then some (Out.ret 8)else some (Out.next ()))
def Px (m:Bb):Option (Int):=
 (bif (decide (((m.Bases.length:Nat):Int)=0))then some 8 else(Am (N5 m) 0 m.Bases ()).bind fun o4=>o4.on fun s4=>Rn m)
theorem cH (m:Bb) {r:Int} (h:Px m=some r):Ad Tryz.prog 180 [.agg (Cd m)] (·= .int .i64 r):=by
 refine Ad.nle (Ad.intro Tryz.func180 rfl rfl (by show _≤49;simp) ?_)
 unfold Px at h
 refine nS (sq ?_)
 refine ar rfl (qn (sq (sq ?_)))
 refine rg rfl fun K j=>?_
 intro hm
 refine j _ _ (qn ?_)
 revert h;refine ca rfl (fun hc h=>?_) fun hc h=>?_
 ·refine sq (ar rfl (qn (rt (qr ?_))))
  cases h;exact en Tryz.results180
 refine sk (qn ?_)
 refine AWP.Le (ι:=(Unit)×(Unit)) (fun zz=>[(1,.ptr 0 0)]) (fun zz=>[.box [.sl 2 (m.Nodes.map A6),.sl 8 (m.Lifts.map A7),.sl 7 (m.Runs.map Bc),.sl 1 (m.Bases.map A2)]]) (fun zz=>Rn m=some r) (fun zz=>⟨rfl,rfl,rfl⟩) ?_ ?_
 ·refine sq (ar rfl (qn (bk ?_)))
  obtain⟨o4,hJ4,hO4⟩:=Af h
  clear h
  refine AWP.Bw (ι:=Nat×(Unit)×(Unit)) (fun zz=>[(1,.ptr 0 0),(3,.int .i64 ((zz.1:Nat):Int))]) (fun zz=>[.box [.sl 2 (m.Nodes.map A6),.sl 8 (m.Lifts.map A7),.sl 7 (m.Runs.map Bc),.sl 1 (m.Bases.map A2)]]) (fun zz=>zz.1≤m.Bases.length∧Am (N5 m) zz.1 ((m.Bases).drop zz.1) zz.2.1=some o4) (fun zz=>m.Bases.length - zz.1) (0,(),()) ⟨Nat.zero_le _,hJ4⟩ cu cu (fun x=>⟨rfl,rfl,rfl⟩) ?_
  clear hJ4
  rintro⟨k4,⟨⟩,⟨⟩⟩ ⟨hk4,hJ4⟩
  dsimp only at hk4 hJ4 ⊢
  refine sq (sq ?_)
  refine rg rfl fun K j=>?_
  intro hm
  refine j _ _ (qn ?_)
  refine AWP.cond (Ak (fun hc=>?_) (fun hc=>?_))
  rotate_left
  ·obtain rfl:=Bf hJ4 (fun hl=>by have:=Aiz hc;omega)
   have h:=Be hO4;try dsimp only at h
   have hkl:m.Bases.length=k4:=by have:=Aiz hc;omega
   subst hkl
   refine xt (qe (qe (bs (qn ?_))))
   exact⟨((),()),h,cu,cu⟩
  have hlt4:k4<m.Bases.length:=by have:=Ai0 hc;omega
  obtain⟨x_6,b4,hx4_,h,hJ4⟩:=A9 hJ4 hlt4
  have hx4:=Ay hx4_
  have hw4:=wk (k:=k4) (by omega)
  unfold N5 at h;try dsimp only at h
  refine sk (qn (sq (bk (sq ?_))))
  refine AWP.draw Tryz.mixed (by kernel_rfl) ?_;intro K j
  refine nS ?_
  refine Bn.of (f:=A2) (l:=m.Bases) hx4 ?_
  refine nS ?_
  obtain⟨y7,hy7,h⟩:=Af h
  refine B7.pure Tryz.call98 (Qf m x_6 hy7) rfl ?_
  refine nS ?_
  refine j _ _ _ (by kernel_rfl) ?_
  refine qn (sq (ar rfl (qn ?_)))
  revert h;refine ca rfl (fun hc h=>?_) fun hc h=>?_
  ·refine sq (ar rfl (qn (rt (br (qr (qr ?_))))))
   obtain rfl:=Aa h
   obtain rfl:=Ae hJ4
   replace h:=Al hO4
   refine br (qr ?_)
   cases h;exact en Tryz.results180
  refine sk (bn (qn (ar rfl (qn ?_))))
  obtain rfl:=Aa h
  refine⟨(k4+1,(),()),⟨by dsimp only;omega,Ai hJ4⟩,by dsimp only;omega,?_,?_⟩
  ·exact cuw hw4
  exact cuw hw4
 rintro⟨⟨⟩,⟨⟩⟩ h
 try dsimp only at h ⊢
 unfold Rn at h;try dsimp only at h
 refine sq (sq (ar rfl (qn (bk ?_))))
 obtain⟨o1,hJ1,hO1⟩:=Af h
 clear h
 obtain⟨hn1,hJ1⟩:=Sw hJ1
 refine AWP.Bw (ι:=Nat×(Unit)×(Unit)) (fun zz=>[(1,.ptr 0 0),(6,.int .i64 (((zz.1:Nat):Int)+(1:Int)))]) (fun zz=>[.box [.sl 2 (m.Nodes.map A6),.sl 8 (m.Lifts.map A7),.sl 7 (m.Runs.map Bc),.sl 1 (m.Bases.map A2)]]) (fun zz=>zz.1≤(m.Bases.length - 1)∧Am (Ed m) zz.1 ((List.replicate (m.Bases.length - 1) ()).drop zz.1) zz.2.1=some o1) (fun zz=>(m.Bases.length - 1) - zz.1) (0,(),()) ⟨Nat.zero_le _,hJ1⟩ cu cu (fun x=>⟨rfl,rfl,rfl⟩) ?_
 clear hJ1
 rintro⟨k1,⟨⟩,⟨⟩⟩ ⟨hk1,hJ1⟩
 dsimp only at hk1 hJ1 ⊢
 refine sq (sq ?_)
 refine rg rfl fun K j=>?_
 intro hm
 refine j _ _ (qn ?_)
 refine AWP.cond (Ak (fun hc=>?_) (fun hc=>?_))
 rotate_left
 ·obtain rfl:=Bf hJ1 (fun hl=>by rw[List.length_replicate]at hl;have:=Aiz hc;omega)
  have h:=Be hO1;try dsimp only at h
  have hkl:(m.Bases.length - 1)=k1:=by have:=Aiz hc;omega
  subst hkl
  refine xt (qe (qe (bs (qn (sq (ar rfl (qn (rt ?_))))))))
  cases h;exact en Tryz.results180
 have hlt1:k1<(m.Bases.length - 1):=by have:=Ai0 hc;omega
 obtain⟨_,b1,_,h,hJ1⟩:=A9 hJ1 (by rw[List.length_replicate];exact hlt1)
 have hw1:IntKind.i64.wrap ((((k1:Nat):Int)+1)+1)=(((k1:Nat):Int)+1+1):=by rw[wrap_i64]<;>omega
 unfold Ed at h;try dsimp only at h
 refine sk (qn (sq (bk (sq ?_))))
 refine AWP.draw Tryz.mixed (by kernel_rfl) ?_;intro K j
 refine nS ?_
 obtain⟨x_3,hx_3,h⟩:=Af h
 refine Bn.of (f:=A2) (l:=m.Bases) hx_3 ?_
 refine nS ?_
 obtain⟨x_4,hx_4,h⟩:=Af h
 refine Bn.of (f:=A2) (l:=m.Bases) hx_4 ?_
 refine nS ?_
 refine j _ _ _ (by kernel_rfl) ?_
 refine qn ?_
 revert h;refine ca rfl (fun hc h=>?_) fun hc h=>?_
 ·refine sq (ar rfl (qn (rt (br (qr (qr ?_))))))
  obtain rfl:=Aa h
  obtain rfl:=Ae hJ1
  replace h:=Al hO1
  refine br (qr ?_)
  cases h;exact en Tryz.results180
 refine sk (bn (qn (ar rfl (qn ?_))))
 obtain rfl:=Aa h
 refine⟨(k1+1,(),()),⟨by dsimp only;omega,Ai hJ1⟩,by dsimp only;omega,?_,?_⟩
 ·exact cuw hw1
 exact cuw hw1
def H7 (m:Bb):Option (Int):=
 (bif (decide (64<((m.Nodes.length:Nat):Int)))then some 4 else(bif (decide (32<((m.Lifts.length:Nat):Int)))then some 4 else(bif (decide (64<((m.Runs.length:Nat):Int)))then some 4 else(bif (decide (64<((m.Bases.length:Nat):Int)))then some 4 else(Sr m.Nodes).bind fun y1=>(bif (decide (y1≠0))then some y1 else(Pw m).bind fun y2=>(bif (decide (y2≠0))then some y2 else(Rl m).bind fun y3=>(bif (decide (y3≠0))then some y3 else(Px m).bind fun y4=>some y4)))))))
theorem cI (m:Bb) {r:Int} (h:H7 m=some r):Ad Tryz.prog 85 [.agg (Cd m)] (·= .int .i64 r):=by
 refine Ad.nle (Ad.intro Tryz.func85 rfl rfl (by show _≤46;simp) ?_)
 unfold H7 at h
 refine nS (sq ?_)
 refine ar rfl (qn (sq (sq ?_)))
 refine rg rfl fun K j=>?_
 intro hm
 revert h;refine gf (fun hc h=>?_) fun hc h=>?_
 rotate_left
 ·refine j _ _ (qn ?_)
  refine AWP.cond (Ah ?_)
  refine sq (ar rfl (qn (rt (qr ?_))))
  cases h;exact en Tryz.results85
 intro hm
 revert h;refine gf (fun hc h=>?_) fun hc h=>?_
 rotate_left
 ·refine j _ _ (qn ?_)
  refine AWP.cond (Ah ?_)
  refine sq (ar rfl (qn (rt (qr ?_))))
  cases h;exact en Tryz.results85
 intro hm
 revert h;refine gf (fun hc h=>?_) fun hc h=>?_
 rotate_left
 ·refine j _ _ (qn ?_)
  refine AWP.cond (Ah ?_)
  refine sq (ar rfl (qn (rt (qr ?_))))
  cases h;exact en Tryz.results85
 intro hm
 refine j _ _ (qn ?_)
 revert h;refine ca rfl (fun hc h=>?_) fun hc h=>?_
 ·refine sq (ar rfl (qn (rt (qr ?_))))
  cases h;exact en Tryz.results85
 refine sk (qn (sq (sq ?_)))
 refine rg rfl fun K j=>?_
 obtain⟨y1,hy1,h⟩:=Af h
 refine An.pure Tryz.call177 (cF m.Nodes hy1) rfl fun _ hr=>?_
 subst hr
 refine nS ?_
 refine j _ _ (qn (sq ?_))
 refine ar rfl (qn ?_)
 revert h;refine ca rfl (fun hc h=>?_) fun hc h=>?_
 ·refine sq (ar rfl (qn (rt (qr ?_))))
  cases h;exact en Tryz.results85
 refine sk (qn (sq (sq ?_)))
 refine rg rfl fun K j=>?_
 obtain⟨y2,hy2,h⟩:=Af h
 refine An.pure Tryz.call178 (cG m hy2) rfl fun _ hr=>?_
 subst hr
 refine nS ?_
 refine j _ _ (qn (sq ?_))
 refine ar rfl (qn ?_)
 revert h;refine ca rfl (fun hc h=>?_) fun hc h=>?_
 ·refine sq (ar rfl (qn (rt (qr ?_))))
  cases h;exact en Tryz.results85
 refine sk (qn (sq (sq ?_)))
 refine rg rfl fun K j=>?_
 obtain⟨y3,hy3,h⟩:=Af h
 refine An.pure Tryz.call179 (eO m hy3) rfl fun _ hr=>?_
 subst hr
 refine nS ?_
 refine j _ _ (qn (sq ?_))
 refine ar rfl (qn ?_)
 revert h;refine ca rfl (fun hc h=>?_) fun hc h=>?_
 ·refine sq (ar rfl (qn (rt (qr ?_))))
  cases h;exact en Tryz.results85
 refine sk (qn (sq ?_))
 refine rg rfl fun K j=>?_
 obtain⟨y4,hy4,h⟩:=Af h
 refine An.pure Tryz.call180 (cH m hy4) rfl fun _ hr=>?_
 subst hr
 refine nS ?_
 refine j _ _ (qn (rt ?_))
 cases h;exact en Tryz.results85
def Q4 (c:Bl):Option (Bool):=
 (bif (decide (1≤c.Kind))then (bif (decide (c.Kind≤3))then (bif (decide (1≤c.Target))then (bif (decide (c.Target≤9999))then (bif (decide (1≤c.By))then (bif (decide (c.By≤6))then (bif (decide (0≤c.Since))then some (decide (c.Since≤20000000))else some false)else some false)else some false)else some false)else some false)else some false)else some false)
theorem fU (c:Bl) {r:Bool} (h:Q4 c=some r):Ad Tryz.prog 181 [.agg (Au c)] (·= .bool r):=by
 refine Ad.nle (Ad.intro Tryz.func181 rfl rfl (by show _≤41;simp) ?_)
 unfold Q4 at h
 refine nS (sq ?_)
 refine ar rfl (qn (sq ?_))
 refine rg rfl fun K j=>?_
 revert h;refine gt (fun hc h=>?_) fun hc h=>?_
 rotate_left
 ·refine j _ _ (qn (rt ?_))
  cases h;exact en Tryz.results181
 revert h;refine gt (fun hc h=>?_) fun hc h=>?_
 rotate_left
 ·refine j _ _ (qn (rt ?_))
  cases h;exact en Tryz.results181
 revert h;refine gt (fun hc h=>?_) fun hc h=>?_
 ·revert h;refine gt (fun hc h=>?_) fun hc h=>?_
  ·revert h;refine gt (fun hc h=>?_) fun hc h=>?_
   ·revert h;refine gt (fun hc h=>?_) fun hc h=>?_
    ·revert h;refine gt (fun hc h=>?_) fun hc h=>?_
     ·refine j _ _ (qn (rt ?_))
      cases h;exact en Tryz.results181
     refine j _ _ (qn (rt ?_))
     cases h;exact en Tryz.results181
    refine j _ _ (qn (rt ?_))
    cases h;exact en Tryz.results181
   refine j _ _ (qn (rt ?_))
   cases h;exact en Tryz.results181
  refine j _ _ (qn (rt ?_))
  cases h;exact en Tryz.results181
 refine j _ _ (qn (rt ?_))
 cases h;exact en Tryz.results181
def E1 (kind:Int) (target:Int) (by_:Int) (k0:Nat) (x_2:Bl) (sv:Unit):Option (Out (Unit) (Int)):=
 (bif (decide (x_2.Kind=kind))then (bif (decide (x_2.Target=target))then (bif (decide (x_2.By=by_))then some (Out.ret ((k0:Nat):Int))else some (Out.next ()))else some (Out.next ()))else some (Out.next ()))
def Fp (l:List Bl) (kind:Int) (target:Int) (by_:Int):Option (Int):=
 (Am (E1 kind target by_) 0 l ()).bind fun o0=>o0.on fun s0=>some (-1)
theorem bQ (l:List Bl) (kind:Int) (target:Int) (by_:Int) {r:Int} (h:Fp l kind target by_=some r):Ad Tryz.prog 182 [.sl 4 (l.map Au),.int .i64 kind,.int .i64 target,.int .i64 by_] (·= .int .i64 r):=by
 refine Ad.nle (Ad.intro Tryz.func182 rfl rfl (by show _≤42;simp) ?_)
 unfold Fp at h
 refine nS (sq ?_)
 refine ar rfl (qn (sq (sq ?_)))
 refine ar rfl (qn (bk ?_))
 obtain⟨o0,hJ0,hO0⟩:=Af h
 clear h
 refine AWP.Bw (ι:=Nat×(Unit)×(Unit)) (fun zz=>[(0,.sl 4 (l.map Au)),(1,.int .i64 kind),(2,.int .i64 target),(3,.int .i64 by_),(9,.int .i64 ((zz.1:Nat):Int))]) (fun zz=>[]) (fun zz=>zz.1≤l.length∧Am (E1 kind target by_) zz.1 ((l).drop zz.1) zz.2.1=some o0) (fun zz=>l.length - zz.1) (0,(),()) ⟨Nat.zero_le _,hJ0⟩ cu cu (fun x=>⟨rfl,rfl,rfl⟩) ?_
 clear hJ0
 rintro⟨k0,⟨⟩,⟨⟩⟩ ⟨hk0,hJ0⟩
 dsimp only at hk0 hJ0 ⊢
 refine sq (sq ?_)
 refine rg rfl fun K j=>?_
 intro hm
 refine j _ _ (qn ?_)
 refine AWP.cond (Ak (fun hc=>?_) (fun hc=>?_))
 rotate_left
 ·obtain rfl:=Bf hJ0 (fun hl=>by have:=Aiz hc;omega)
  have h:=Be hO0;try dsimp only at h
  have hkl:l.length=k0:=by have:=Aiz hc;omega
  subst hkl
  refine xt (qe (qe (bs (qn (sq (ar rfl (qn (rt ?_))))))))
  cases h;exact en Tryz.results182
 have hlt0:k0<l.length:=by have:=Ai0 hc;omega
 obtain⟨x_2,b0,hx0_,h,hJ0⟩:=A9 hJ0 hlt0
 have hx0:=Ay hx0_
 have hw0:=wk (k:=k0) (by omega)
 unfold E1 at h;try dsimp only at h
 refine sk (qn (sq (bk (sq ?_))))
 refine rg rfl fun K j=>?_
 refine Bn.of (f:=Au) (l:=l) hx0 ?_
 refine nS ?_
 revert h;refine gt (fun hc h=>?_) fun hc h=>?_
 ·refine Bn.of (f:=Au) (l:=l) hx0 ?_
  refine nS ?_
  revert h;refine gt (fun hc h=>?_) fun hc h=>?_
  ·refine Bn.of (f:=Au) (l:=l) hx0 ?_
   refine nS ?_
   refine j _ _ (qn ?_)
   revert h;refine ca rfl (fun hc h=>?_) fun hc h=>?_
   ·refine sq (ar rfl (qn (rt (br (qr (qr ?_))))))
    obtain rfl:=Aa h
    obtain rfl:=Ae hJ0
    replace h:=Al hO0
    refine br (qr ?_)
    cases h;exact en Tryz.results182
   refine sk (bn (qn (ar rfl (qn ?_))))
   obtain rfl:=Aa h
   refine⟨(k0+1,(),()),⟨by dsimp only;omega,Ai hJ0⟩,by dsimp only;omega,?_,?_⟩
   ·exact cuw hw0
   exact cuw hw0
  refine j _ _ (qn ?_)
  refine AWP.cond (Bk ?_)
  refine sk (bn (qn (ar rfl (qn ?_))))
  obtain rfl:=Aa h
  refine⟨(k0+1,(),()),⟨by dsimp only;omega,Ai hJ0⟩,by dsimp only;omega,?_,?_⟩
  ·exact cuw hw0
  exact cuw hw0
 refine j _ _ (qn ?_)
 refine AWP.cond (Bk ?_)
 refine sk (bn (qn (ar rfl (qn ?_))))
 obtain rfl:=Aa h
 refine⟨(k0+1,(),()),⟨by dsimp only;omega,Ai hJ0⟩,by dsimp only;omega,?_,?_⟩
 ·exact cuw hw0
 exact cuw hw0
def Hd (l:List Bl) (k0:Nat) (x_2:Bl) (sv:Unit):Option (Out (Unit) (Int)):=
 (Q4 x_2).bind fun y3=>(bif (!y3)then some (Out.ret 2)else okB (decide (0≤((k0:Nat):Int)∧((k0:Nat):Int)≤((l.length:Nat):Int))) ((Fp (l.take k0) x_2.Kind x_2.Target x_2.By).bind fun y4=>(bif (decide (0≤y4))then some (Out.ret 7)else some (Out.next ()))))
def H4 (l:List Bl):Option (Int):=
 (bif (decide (200<((l.length:Nat):Int)))then some 4 else(Am (Hd l) 0 l ()).bind fun o0=>o0.on fun s0=>some 0)
theorem bP (l:List Bl) {r:Int} (h:H4 l=some r):Ad Tryz.prog 86 [.sl 4 (l.map Au)] (·= .int .i64 r):=by
 refine Ad.nle (Ad.intro Tryz.func86 rfl rfl (by show _≤39;simp) ?_)
 unfold H4 at h
 refine nS (sq ?_)
 refine ar rfl (qn (sq (sq ?_)))
 refine rg rfl fun K j=>?_
 intro hm
 refine j _ _ (qn ?_)
 revert h;refine ca rfl (fun hc h=>?_) fun hc h=>?_
 ·refine sq (ar rfl (qn (rt (qr ?_))))
  cases h;exact en Tryz.results86
 refine sk (qn (sq (sq (ar rfl (qn (bk ?_))))))
 obtain⟨o0,hJ0,hO0⟩:=Af h
 clear h
 refine AWP.Bw (ι:=Nat×(Unit)×(Unit)) (fun zz=>[(0,.sl 4 (l.map Au)),(3,.int .i64 ((zz.1:Nat):Int))]) (fun zz=>[]) (fun zz=>zz.1≤l.length∧Am (Hd l) zz.1 ((l).drop zz.1) zz.2.1=some o0) (fun zz=>l.length - zz.1) (0,(),()) ⟨Nat.zero_le _,hJ0⟩ cu cu (fun x=>⟨rfl,rfl,rfl⟩) ?_
 clear hJ0
 rintro⟨k0,⟨⟩,⟨⟩⟩ ⟨hk0,hJ0⟩
 dsimp only at hk0 hJ0 ⊢
 refine sq (sq ?_)
 refine rg rfl fun K j=>?_
 intro hm
 refine j _ _ (qn ?_)
 refine AWP.cond (Ak (fun hc=>?_) (fun hc=>?_))
 rotate_left
 ·obtain rfl:=Bf hJ0 (fun hl=>by have:=Aiz hc;omega)
  have h:=Be hO0;try dsimp only at h
  have hkl:l.length=k0:=by have:=Aiz hc;omega
  subst hkl
  refine xt (qe (qe (bs (qn (sq (ar rfl (qn (rt ?_))))))))
  cases h;exact en Tryz.results86
 have hlt0:k0<l.length:=by have:=Ai0 hc;omega
 obtain⟨x_2,b0,hx0_,h,hJ0⟩:=A9 hJ0 hlt0
 have hx0:=Ay hx0_
 have hw0:=wk (k:=k0) (by omega)
 unfold Hd at h;try dsimp only at h
 refine sk (qn (sq (bk (sq (sq ?_)))))
 refine rg rfl fun K j=>?_
 refine Bn.of (f:=Au) (l:=l) hx0 ?_
 refine nS ?_
 obtain⟨y3,hy3,h⟩:=Af h
 refine An.pure Tryz.call181 (fU x_2 hy3) rfl fun _ hr=>?_
 subst hr
 refine nS ?_
 refine j _ _ (qn ?_)
 revert h;refine ca rfl (fun hc h=>?_) fun hc h=>?_
 ·refine sq (ar rfl (qn (rt (qr (br (qr (qr ?_)))))))
  obtain rfl:=Aa h
  obtain rfl:=Ae hJ0
  replace h:=Al hO0
  refine br (qr ?_)
  cases h;exact en Tryz.results86
 refine sk (qn (sq ?_))
 refine AWP.draw Tryz.mixed (by kernel_rfl) ?_;intro K j
 refine nS ?_
 obtain⟨hk,h⟩:=Jm h
 intro hm
 (repeat(refine⟨by omega,?_⟩))
 refine Bn.of (f:=Au) (l:=l) hx0 ?_
 refine nS ?_
 refine Bn.of (f:=Au) (l:=l) hx0 ?_
 refine nS ?_
 refine Bn.of (f:=Au) (l:=l) hx0 ?_
 refine nS ?_
 obtain⟨y4,hy4,h⟩:=Af h
 refine B7.pure Tryz.call182 (bQ (l.take k0) x_2.Kind x_2.Target x_2.By hy4) rfl ?_
 refine nS ?_
 refine j _ _ _ (by kernel_rfl) ?_
 refine qn ?_
 revert h;refine ca rfl (fun hc h=>?_) fun hc h=>?_
 ·refine sq (ar rfl (qn (rt (br (qr (qr ?_))))))
  obtain rfl:=Aa h
  obtain rfl:=Ae hJ0
  replace h:=Al hO0
  refine br (qr ?_)
  cases h;exact en Tryz.results86
 refine sk (bn (qn (ar rfl (qn ?_))))
 obtain rfl:=Aa h
 refine⟨(k0+1,(),()),⟨by dsimp only;omega,Ai hJ0⟩,by dsimp only;omega,?_,?_⟩
 ·exact cuw hw0
 exact cuw hw0
def Pu (n_:Int) (lo:Int) (hi:Int):Option (Bool):=
 (bif (decide (lo≤n_))then some (decide (n_≤hi))else some false)
theorem Pf (n_:Int) (lo:Int) (hi:Int) {r:Bool} (h:Pu n_ lo hi=some r):Ad Tryz.prog 257 [.int .i64 n_,.int .i64 lo,.int .i64 hi] (·= .bool r):=by
 refine Ad.nle (Ad.intro Tryz.func257 rfl rfl (by show _≤15;simp) ?_)
 unfold Pu at h
 refine nS (sq ?_)
 refine ar rfl (qn (sq ?_))
 refine rg rfl fun K j=>?_
 revert h;refine gt (fun hc h=>?_) fun hc h=>?_
 ·refine j _ _ (qn (rt ?_))
  cases h;exact en Tryz.results257
 refine j _ _ (qn (rt ?_))
 cases h;exact en Tryz.results257
def U0 (n_:Int) (k0:Nat) (x_2:Int) (sv:Unit):Option (Out (Unit) (Bool)):=
 (bif (decide (x_2=n_))then some (Out.ret true)else some (Out.next ()))
def Ud (l:List Int) (n_:Int):Option (Bool):=
 (Am (U0 n_) 0 l ()).bind fun o0=>o0.on fun s0=>some false
theorem Wo (l:List Int) (n_:Int) {r:Bool} (h:Ud l n_=some r):Ad Tryz.prog 258 [.sl 1 (l.map A2),.int .i64 n_] (·= .bool r):=by
 refine Ad.nle (Ad.intro Tryz.func258 rfl rfl (by show _≤18;simp) ?_)
 unfold Ud at h
 refine nS (sq ?_)
 refine ar rfl (qn (sq (sq ?_)))
 refine ar rfl (qn (bk ?_))
 obtain⟨o0,hJ0,hO0⟩:=Af h
 clear h
 refine AWP.Bw (ι:=Nat×(Unit)×(Unit)) (fun zz=>[(0,.sl 1 (l.map A2)),(1,.int .i64 n_),(5,.int .i64 ((zz.1:Nat):Int))]) (fun zz=>[]) (fun zz=>zz.1≤l.length∧Am (U0 n_) zz.1 ((l).drop zz.1) zz.2.1=some o0) (fun zz=>l.length - zz.1) (0,(),()) ⟨Nat.zero_le _,hJ0⟩ cu cu (fun x=>⟨rfl,rfl,rfl⟩) ?_
 clear hJ0
 rintro⟨k0,⟨⟩,⟨⟩⟩ ⟨hk0,hJ0⟩
 dsimp only at hk0 hJ0 ⊢
 refine sq (sq ?_)
 refine rg rfl fun K j=>?_
 intro hm
 refine j _ _ (qn ?_)
 refine AWP.cond (Ak (fun hc=>?_) (fun hc=>?_))
 rotate_left
 ·obtain rfl:=Bf hJ0 (fun hl=>by have:=Aiz hc;omega)
  have h:=Be hO0;try dsimp only at h
  have hkl:l.length=k0:=by have:=Aiz hc;omega
  subst hkl
  refine xt (qe (qe (bs (qn (sq (ar rfl (qn (rt ?_))))))))
  cases h;exact en Tryz.results258
 have hlt0:k0<l.length:=by have:=Ai0 hc;omega
 obtain⟨x_2,b0,hx0_,h,hJ0⟩:=A9 hJ0 hlt0
 have hx0:=Ay hx0_
 have hw0:=wk (k:=k0) (by omega)
 unfold U0 at h;try dsimp only at h
 refine sk (qn (sq (bk (sq ?_))))
 refine rg rfl fun K j=>?_
 refine Bn.of (f:=A2) (l:=l) hx0 ?_
 refine nS ?_
 refine j _ _ (qn ?_)
 revert h;refine ca rfl (fun hc h=>?_) fun hc h=>?_
 ·refine sq (ar rfl (qn (rt (br (qr (qr ?_))))))
  obtain rfl:=Aa h
  obtain rfl:=Ae hJ0
  replace h:=Al hO0
  refine br (qr ?_)
  cases h;exact en Tryz.results258
 refine sk (bn (qn (ar rfl (qn ?_))))
 obtain rfl:=Aa h
 refine⟨(k0+1,(),()),⟨by dsimp only;omega,Ai hJ0⟩,by dsimp only;omega,?_,?_⟩
 ·exact cuw hw0
 exact cuw hw0
def N4 (l:Br) (k2:Nat) (x_4:Fl) (sv:Unit):Option (Out (Unit) (Int)):=
 (Ud l.Items x_4.Item).bind fun y5=>(bif (!y5)then some (Out.ret 8)else (Pu x_4.By 1 9999).bind fun y6=>(bif (!y6)then some (Out.ret 17)else (Pu x_4.At 0 20000000).bind fun y7=>(bif (!y7)then some (Out.ret 2)else (bif (decide (0<((k2:Nat):Int)))then (Dk l.Signs (IntKind.i64.wrap (((k2:Nat):Int) - 1))).bind fun x_8=>(bif (decide (x_4.At<x_8.At))then some (Out.ret 11)else some (Out.next ()))else some (Out.next ())))))
def N2 (l:Br):Option (Int):=
 (Am (N4 l) 0 l.Signs ()).bind fun o2=>o2.on fun s2=>some 0
def N3 (l:Br) (k8:Nat) (x_10:Int) (sv:Unit):Option (Out (Unit) (Int)):=
 (Pu x_10 1 9999).bind fun y11=>(bif (!y11)then some (Out.ret 2)else okB (decide (0≤((k8:Nat):Int)∧((k8:Nat):Int)≤((l.Items.length:Nat):Int))) ((Ud (l.Items.take k8) x_10).bind fun y12=>(bif y12 then some (Out.ret 7)else some (Out.next ()))))
def Gf (l:Br):Option (Int):=
 (bif (decide (64<((l.Items.length:Nat):Int)))then some 4 else(bif (decide (200<((l.Signs.length:Nat):Int)))then some 4 else(Pu l.Every 1 604800).bind fun y1=>(bif (!y1)then some 2 else(Am (N3 l) 0 l.Items ()).bind fun o8=>o8.on fun s8=>N2 l)))
theorem Uc (l:Br) {r:Int} (h:Gf l=some r):Ad Tryz.prog 183 [.agg (Fg l)] (·= .int .i64 r):=by
 refine Ad.nle (Ad.intro Tryz.func183 rfl rfl (by show _≤88;simp) ?_)
 unfold Gf at h
 refine nS (sq ?_)
 refine ar rfl (qn (sq (sq ?_)))
 refine rg rfl fun K j=>?_
 intro hm
 revert h;refine gf (fun hc h=>?_) fun hc h=>?_
 rotate_left
 ·refine j _ _ (qn ?_)
  refine AWP.cond (Ah ?_)
  refine sq (ar rfl (qn (rt (qr ?_))))
  cases h;exact en Tryz.results183
 intro hm
 refine j _ _ (qn ?_)
 revert h;refine ca rfl (fun hc h=>?_) fun hc h=>?_
 ·refine sq (ar rfl (qn (rt (qr ?_))))
  cases h;exact en Tryz.results183
 refine sk (qn (sq (sq ?_)))
 refine rg rfl fun K j=>?_
 obtain⟨y1,hy1,h⟩:=Af h
 refine An.pure Tryz.call257 (Pf l.Every 1 604800 hy1) rfl fun _ hr=>?_
 subst hr
 refine nS ?_
 refine j _ _ (qn ?_)
 revert h;refine ca rfl (fun hc h=>?_) fun hc h=>?_
 ·refine sq (ar rfl (qn (rt (qr ?_))))
  cases h;exact en Tryz.results183
 refine sk (qn ?_)
 refine AWP.Le (ι:=(Unit)×(Unit)) (fun zz=>[(1,.ptr 0 0)]) (fun zz=>[.box [.sl 1 (l.Items.map A2),.int .i64 l.Every,.sl 3 (l.Signs.map B9)]]) (fun zz=>N2 l=some r) (fun zz=>⟨rfl,rfl,rfl⟩) ?_ ?_
 ·refine sq (ar rfl (qn (bk ?_)))
  obtain⟨o8,hJ8,hO8⟩:=Af h
  clear h
  refine AWP.Bw (ι:=Nat×(Unit)×(Unit)) (fun zz=>[(1,.ptr 0 0),(3,.int .i64 ((zz.1:Nat):Int))]) (fun zz=>[.box [.sl 1 (l.Items.map A2),.int .i64 l.Every,.sl 3 (l.Signs.map B9)]]) (fun zz=>zz.1≤l.Items.length∧Am (N3 l) zz.1 ((l.Items).drop zz.1) zz.2.1=some o8) (fun zz=>l.Items.length - zz.1) (0,(),()) ⟨Nat.zero_le _,hJ8⟩ cu cu (fun x=>⟨rfl,rfl,rfl⟩) ?_
  clear hJ8
  rintro⟨k8,⟨⟩,⟨⟩⟩ ⟨hk8,hJ8⟩
  dsimp only at hk8 hJ8 ⊢
  refine sq (sq ?_)
  refine rg rfl fun K j=>?_
  intro hm
  refine j _ _ (qn ?_)
  refine AWP.cond (Ak (fun hc=>?_) (fun hc=>?_))
  rotate_left
  ·obtain rfl:=Bf hJ8 (fun hl=>by have:=Aiz hc;omega)
   have h:=Be hO8;try dsimp only at h
   have hkl:l.Items.length=k8:=by have:=Aiz hc;omega
   subst hkl
   refine xt (qe (qe (bs (qn ?_))))
   exact⟨((),()),h,cu,cu⟩
  have hlt8:k8<l.Items.length:=by have:=Ai0 hc;omega
  obtain⟨x_10,b8,hx8_,h,hJ8⟩:=A9 hJ8 hlt8
  have hx8:=Ay hx8_
  have hw8:=wk (k:=k8) (by omega)
  unfold N3 at h;try dsimp only at h
  refine sk (qn (sq (bk (sq (sq ?_)))))
  refine rg rfl fun K j=>?_
  refine Bn.of (f:=A2) (l:=l.Items) hx8 ?_
  refine nS ?_
  obtain⟨y11,hy11,h⟩:=Af h
  refine An.pure Tryz.call257 (Pf x_10 1 9999 hy11) rfl fun _ hr=>?_
  subst hr
  refine nS ?_
  refine j _ _ (qn ?_)
  revert h;refine ca rfl (fun hc h=>?_) fun hc h=>?_
  ·refine sq (ar rfl (qn (rt (qr (br (qr (qr ?_)))))))
   obtain rfl:=Aa h
   obtain rfl:=Ae hJ8
   replace h:=Al hO8
   refine br (qr ?_)
   cases h;exact en Tryz.results183
  refine sk (qn (sq ?_))
  refine AWP.draw Tryz.mixed (by kernel_rfl) ?_;intro K j
  refine nS ?_
  obtain⟨hk,h⟩:=Jm h
  intro hm
  (repeat(refine⟨by omega,?_⟩))
  refine Bn.of (f:=A2) (l:=l.Items) hx8 ?_
  refine nS ?_
  obtain⟨y12,hy12,h⟩:=Af h
  refine B7.pure Tryz.call258 (Wo (l.Items.take k8) x_10 hy12) rfl ?_
  refine nS ?_
  refine j _ _ _ (by kernel_rfl) ?_
  refine qn ?_
  revert h;refine ca rfl (fun hc h=>?_) fun hc h=>?_
  ·refine sq (ar rfl (qn (rt (br (qr (qr ?_))))))
   obtain rfl:=Aa h
   obtain rfl:=Ae hJ8
   replace h:=Al hO8
   refine br (qr ?_)
   cases h;exact en Tryz.results183
  refine sk (bn (qn (ar rfl (qn ?_))))
  obtain rfl:=Aa h
  refine⟨(k8+1,(),()),⟨by dsimp only;omega,Ai hJ8⟩,by dsimp only;omega,?_,?_⟩
  ·exact cuw hw8
  exact cuw hw8
 rintro⟨⟨⟩,⟨⟩⟩ h
 try dsimp only at h ⊢
 unfold N2 at h;try dsimp only at h
 refine sq (sq (ar rfl (qn (bk ?_))))
 obtain⟨o2,hJ2,hO2⟩:=Af h
 clear h
 refine AWP.Bw (ι:=Nat×(Unit)×(Unit)) (fun zz=>[(1,.ptr 0 0),(4,.int .i64 ((zz.1:Nat):Int))]) (fun zz=>[.box [.sl 1 (l.Items.map A2),.int .i64 l.Every,.sl 3 (l.Signs.map B9)]]) (fun zz=>zz.1≤l.Signs.length∧Am (N4 l) zz.1 ((l.Signs).drop zz.1) zz.2.1=some o2) (fun zz=>l.Signs.length - zz.1) (0,(),()) ⟨Nat.zero_le _,hJ2⟩ cu cu (fun x=>⟨rfl,rfl,rfl⟩) ?_
 clear hJ2
 rintro⟨k2,⟨⟩,⟨⟩⟩ ⟨hk2,hJ2⟩
 dsimp only at hk2 hJ2 ⊢
 refine sq (sq ?_)
 refine rg rfl fun K j=>?_
 intro hm
 refine j _ _ (qn ?_)
 refine AWP.cond (Ak (fun hc=>?_) (fun hc=>?_))
 rotate_left
 ·obtain rfl:=Bf hJ2 (fun hl=>by have:=Aiz hc;omega)
  have h:=Be hO2;try dsimp only at h
  have hkl:l.Signs.length=k2:=by have:=Aiz hc;omega
  subst hkl
  refine xt (qe (qe (bs (qn (sq (ar rfl (qn (rt ?_))))))))
  cases h;exact en Tryz.results183
 have hlt2:k2<l.Signs.length:=by have:=Ai0 hc;omega
 obtain⟨x_4,b2,hx2_,h,hJ2⟩:=A9 hJ2 hlt2
 have hx2:=Ay hx2_
 have hw2:=wk (k:=k2) (by omega)
 unfold N4 at h;try dsimp only at h
 refine sk (qn (sq (bk (sq ?_))))
 refine rg rfl fun K j=>?_
 refine Bn.of (f:=B9) (l:=l.Signs) hx2 ?_
 refine nS ?_
 refine j _ _ (qn (bk (sq ?_)))
 refine rg rfl fun K j=>?_
 obtain⟨y5,hy5,h⟩:=Af h
 refine An.pure Tryz.call258 (Wo l.Items x_4.Item hy5) rfl fun _ hr=>?_
 subst hr
 refine nS ?_
 refine j _ _ (qn ?_)
 revert h;refine ca rfl (fun hc h=>?_) fun hc h=>?_
 ·refine sq (ar rfl (qn (rt (br (br (qr (qr ?_)))))))
  obtain rfl:=Aa h
  obtain rfl:=Ae hJ2
  replace h:=Al hO2
  refine br (qr ?_)
  cases h;exact en Tryz.results183
 refine sq ?_
 refine rg rfl fun K j=>?_
 obtain⟨y6,hy6,h⟩:=Af h
 refine An.pure Tryz.call257 (Pf x_4.By 1 9999 hy6) rfl fun _ hr=>?_
 subst hr
 refine nS ?_
 refine j _ _ (qn ?_)
 revert h;refine ca rfl (fun hc h=>?_) fun hc h=>?_
 ·refine sq (ar rfl (qn (rt (br (br (qr (qr ?_)))))))
  obtain rfl:=Aa h
  obtain rfl:=Ae hJ2
  replace h:=Al hO2
  refine br (qr ?_)
  cases h;exact en Tryz.results183
 refine sq ?_
 refine rg rfl fun K j=>?_
 obtain⟨y7,hy7,h⟩:=Af h
 refine An.pure Tryz.call257 (Pf x_4.At 0 20000000 hy7) rfl fun _ hr=>?_
 subst hr
 refine nS ?_
 refine j _ _ (qn ?_)
 revert h;refine ca rfl (fun hc h=>?_) fun hc h=>?_
 ·refine sq (ar rfl (qn (rt (br (br (qr (qr ?_)))))))
  obtain rfl:=Aa h
  obtain rfl:=Ae hJ2
  replace h:=Al hO2
  refine br (qr ?_)
  cases h;exact en Tryz.results183
 refine sq ?_
 refine AWP.draw Tryz.mixed (by kernel_rfl) ?_;intro K j
 refine nS ?_
 revert h;refine gt (fun hc h=>?_) fun hc h=>?_
 ·obtain⟨x_8,hx_8,h⟩:=Af h
  refine Bn.of (f:=B9) (l:=l.Signs) hx_8 ?_
  refine nS ?_
  refine j _ _ _ (by kernel_rfl) ?_
  refine qn ?_
  revert h;refine ca rfl (fun hc h=>?_) fun hc h=>?_
  ·refine sq (ar rfl (qn (rt (br (br (qr (qr ?_)))))))
   obtain rfl:=Aa h
   obtain rfl:=Ae hJ2
   replace h:=Al hO2
   refine br (qr ?_)
   cases h;exact en Tryz.results183
  refine sk (bn (bn (qn (ar rfl (qn ?_)))))
  obtain rfl:=Aa h
  refine⟨(k2+1,(),()),⟨by dsimp only;omega,Ai hJ2⟩,by dsimp only;omega,?_,?_⟩
  ·exact cuw hw2
  exact cuw hw2
 refine j _ _ _ (by kernel_rfl) ?_
 refine qn ?_
 refine AWP.cond (Bk ?_)
 refine sk (bn (bn (qn (ar rfl (qn ?_)))))
 obtain rfl:=Aa h
 refine⟨(k2+1,(),()),⟨by dsimp only;omega,Ai hJ2⟩,by dsimp only;omega,?_,?_⟩
 ·exact cuw hw2
 exact cuw hw2
def M9 (run:Int) (k0:Nat) (x_2:Cj) (sv:Unit):Option (Out (Unit) (Int)):=
 (bif (decide (x_2.Run=run))then some (Out.ret ((k0:Nat):Int))else some (Out.next ()))
def Nv (p:Ca) (run:Int):Option (Int):=
 (Am (M9 run) 0 p.Bu ()).bind fun o0=>o0.on fun s0=>some (-1)
theorem iX (p:Ca) (run:Int) {r:Int} (h:Nv p run=some r):Ad Tryz.prog 184 [.agg (Ij p),.int .i64 run] (·= .int .i64 r):=by
 refine Ad.nle (Ad.intro Tryz.func184 rfl rfl (by show _≤22;simp) ?_)
 unfold Nv at h
 refine nS (sq ?_)
 refine ar rfl (qn (sq (sq ?_)))
 refine ar rfl (qn (bk ?_))
 obtain⟨o0,hJ0,hO0⟩:=Af h
 clear h
 refine AWP.Bw (ι:=Nat×(Unit)×(Unit)) (fun zz=>[(1,.int .i64 run),(2,.ptr 0 0),(5,.int .i64 ((zz.1:Nat):Int))]) (fun zz=>[.box [.sl 4 (p.Bu.map Av),.sl 3 (p.Hazards.map Az)]]) (fun zz=>zz.1≤p.Bu.length∧Am (M9 run) zz.1 ((p.Bu).drop zz.1) zz.2.1=some o0) (fun zz=>p.Bu.length - zz.1) (0,(),()) ⟨Nat.zero_le _,hJ0⟩ cu cu (fun x=>⟨rfl,rfl,rfl⟩) ?_
 clear hJ0
 rintro⟨k0,⟨⟩,⟨⟩⟩ ⟨hk0,hJ0⟩
 dsimp only at hk0 hJ0 ⊢
 refine sq (sq ?_)
 refine rg rfl fun K j=>?_
 intro hm
 refine j _ _ (qn ?_)
 refine AWP.cond (Ak (fun hc=>?_) (fun hc=>?_))
 rotate_left
 ·obtain rfl:=Bf hJ0 (fun hl=>by have:=Aiz hc;omega)
  have h:=Be hO0;try dsimp only at h
  have hkl:p.Bu.length=k0:=by have:=Aiz hc;omega
  subst hkl
  refine xt (qe (qe (bs (qn (sq (ar rfl (qn (rt ?_))))))))
  cases h;exact en Tryz.results184
 have hlt0:k0<p.Bu.length:=by have:=Ai0 hc;omega
 obtain⟨x_2,b0,hx0_,h,hJ0⟩:=A9 hJ0 hlt0
 have hx0:=Ay hx0_
 have hw0:=wk (k:=k0) (by omega)
 unfold M9 at h;try dsimp only at h
 refine sk (qn (sq (bk (sq ?_))))
 refine rg rfl fun K j=>?_
 refine Bn.of (f:=Av) (l:=p.Bu) hx0 ?_
 refine nS ?_
 refine j _ _ (qn ?_)
 revert h;refine ca rfl (fun hc h=>?_) fun hc h=>?_
 ·refine sq (ar rfl (qn (rt (br (qr (qr ?_))))))
  obtain rfl:=Aa h
  obtain rfl:=Ae hJ0
  replace h:=Al hO0
  refine br (qr ?_)
  cases h;exact en Tryz.results184
 refine sk (bn (qn (ar rfl (qn ?_))))
 obtain rfl:=Aa h
 refine⟨(k0+1,(),()),⟨by dsimp only;omega,Ai hJ0⟩,by dsimp only;omega,?_,?_⟩
 ·exact cuw hw0
 exact cuw hw0
def Kg (p:Ca) (x_3:Cv) (k3:Nat) (_x:Unit) (sv:Unit):Option (Out (Unit) (Out (Unit) (Int))):=
 (Dk p.Hazards ((k3:Nat):Int)).bind fun x_5=>(bif (decide (x_5.ID=x_3.ID))then some (Out.ret (Out.ret 7))else some (Out.next ()))
def Nx (p:Ca) (k1:Nat) (x_3:Cv) (sv:Unit):Option (Out (Unit) (Int)):=
 (bif (decide (x_3.ID<1))then some (Out.ret 2)else (bif (decide (9999<x_3.ID))then some (Out.ret 2)else (bif (decide (x_3.At<0))then some (Out.ret 2)else (bif (decide (20000000<x_3.At))then some (Out.ret 2)else (J0 (Kg p x_3) k1 ()).bind fun o3=>o3.on fun s3=>(Nv p x_3.Run).bind fun y6=>(bif (decide (y6<0))then some (Out.ret 8)else some (Out.next ()))))))
def Nw (p:Ca):Option (Int):=
 (Am (Nx p) 0 p.Hazards ()).bind fun o1=>o1.on fun s1=>some 0
def Hc (p:Ca) (k6:Nat) (x_8:Cj) (sv:Unit):Option (Out (Unit) (Int)):=
 (bif (decide (x_8.Run<1))then some (Out.ret 2)else (bif (decide (9999<x_8.Run))then some (Out.ret 2)else (bif (decide (0<((k6:Nat):Int)))then (Dk p.Bu (IntKind.i64.wrap (((k6:Nat):Int) - 1))).bind fun x_9=>(bif (decide (x_8.Run≤x_9.Run))then some (Out.ret 11)else (Gf x_8.List_).bind fun y10=>(bif (decide (y10≠0))then some (Out.ret y10)else some (Out.next ())))else (Gf x_8.List_).bind fun y11=>(bif (decide (y11≠0))then some (Out.ret y11)else some (Out.next ())))))
def H3 (p:Ca):Option (Int):=
 (bif (decide (64<((p.Bu.length:Nat):Int)))then some 4 else(bif (decide (200<((p.Hazards.length:Nat):Int)))then some 4 else(Am (Hc p) 0 p.Bu ()).bind fun o6=>o6.on fun s6=>Nw p))
theorem bN (p:Ca) {r:Int} (h:H3 p=some r):Ad Tryz.prog 87 [.agg (Ij p)] (·= .int .i64 r):=by
 refine Ad.nle (Ad.intro Tryz.func87 rfl rfl (by show _≤118;simp) ?_)
 unfold H3 at h
 refine nS (sq ?_)
 refine ar rfl (qn (sq (sq ?_)))
 refine rg rfl fun K j=>?_
 intro hm
 revert h;refine gf (fun hc h=>?_) fun hc h=>?_
 rotate_left
 ·refine j _ _ (qn ?_)
  refine AWP.cond (Ah ?_)
  refine sq (ar rfl (qn (rt (qr ?_))))
  cases h;exact en Tryz.results87
 intro hm
 refine j _ _ (qn ?_)
 revert h;refine ca rfl (fun hc h=>?_) fun hc h=>?_
 ·refine sq (ar rfl (qn (rt (qr ?_))))
  cases h;exact en Tryz.results87
 refine sk (qn ?_)
 refine AWP.Le (ι:=(Unit)×(Unit)) (fun zz=>[(1,.ptr 0 0)]) (fun zz=>[.box [.sl 4 (p.Bu.map Av),.sl 3 (p.Hazards.map Az)]]) (fun zz=>Nw p=some r) (fun zz=>⟨rfl,rfl,rfl⟩) ?_ ?_
 ·refine sq (ar rfl (qn (bk ?_)))
  obtain⟨o6,hJ6,hO6⟩:=Af h
  clear h
  refine AWP.Bw (ι:=Nat×(Unit)×(Unit)) (fun zz=>[(1,.ptr 0 0),(3,.int .i64 ((zz.1:Nat):Int))]) (fun zz=>[.box [.sl 4 (p.Bu.map Av),.sl 3 (p.Hazards.map Az)]]) (fun zz=>zz.1≤p.Bu.length∧Am (Hc p) zz.1 ((p.Bu).drop zz.1) zz.2.1=some o6) (fun zz=>p.Bu.length - zz.1) (0,(),()) ⟨Nat.zero_le _,hJ6⟩ cu cu (fun x=>⟨rfl,rfl,rfl⟩) ?_
  clear hJ6
  rintro⟨k6,⟨⟩,⟨⟩⟩ ⟨hk6,hJ6⟩
  dsimp only at hk6 hJ6 ⊢
  refine sq (sq ?_)
  refine rg rfl fun K j=>?_
  intro hm
  refine j _ _ (qn ?_)
  refine AWP.cond (Ak (fun hc=>?_) (fun hc=>?_))
  rotate_left
  ·obtain rfl:=Bf hJ6 (fun hl=>by have:=Aiz hc;omega)
   have h:=Be hO6;try dsimp only at h
   have hkl:p.Bu.length=k6:=by have:=Aiz hc;omega
   subst hkl
   refine xt (qe (qe (bs (qn ?_))))
   exact⟨((),()),h,cu,cu⟩
  have hlt6:k6<p.Bu.length:=by have:=Ai0 hc;omega
  obtain⟨x_8,b6,hx6_,h,hJ6⟩:=A9 hJ6 hlt6
  have hx6:=Ay hx6_
  have hw6:=wk (k:=k6) (by omega)
  unfold Hc at h;try dsimp only at h
  refine sk (qn (sq (bk (sq (sq ?_)))))
  refine rg rfl fun K j=>?_
  refine Bn.of (f:=Av) (l:=p.Bu) hx6 ?_
  refine nS ?_
  revert h;refine gf (fun hc h=>?_) fun hc h=>?_
  rotate_left
  ·refine j _ _ (qn ?_)
   refine AWP.cond (Ah ?_)
   refine sq (ar rfl (qn (rt (qr (br (qr (qr ?_)))))))
   obtain rfl:=Aa h
   obtain rfl:=Ae hJ6
   replace h:=Al hO6
   refine br (qr ?_)
   cases h;exact en Tryz.results87
  refine Bn.of (f:=Av) (l:=p.Bu) hx6 ?_
  refine nS ?_
  refine j _ _ (qn ?_)
  revert h;refine ca rfl (fun hc h=>?_) fun hc h=>?_
  ·refine sq (ar rfl (qn (rt (qr (br (qr (qr ?_)))))))
   obtain rfl:=Aa h
   obtain rfl:=Ae hJ6
   replace h:=Al hO6
   refine br (qr ?_)
   cases h;exact en Tryz.results87
  refine sk (qn (sq (sq ?_)))
  refine AWP.draw Tryz.mixed (by kernel_rfl) ?_;intro K j
  refine nS ?_
  revert h;refine gt (fun hc h=>?_) fun hc h=>?_
  ·refine Bn.of (f:=Av) (l:=p.Bu) hx6 ?_
   refine nS ?_
   obtain⟨x_9,hx_9,h⟩:=Af h
   refine Bn.of (f:=Av) (l:=p.Bu) hx_9 ?_
   refine nS ?_
   refine j _ _ _ (by kernel_rfl) ?_
   refine qn ?_
   revert h;refine ca rfl (fun hc h=>?_) fun hc h=>?_
   ·refine sq (ar rfl (qn (rt (qr (br (qr (qr ?_)))))))
    obtain rfl:=Aa h
    obtain rfl:=Ae hJ6
    replace h:=Al hO6
    refine br (qr ?_)
    cases h;exact en Tryz.results87
   refine sk (qn (sq ?_))
   refine rg rfl fun K j=>?_
   refine Bn.of (f:=Av) (l:=p.Bu) hx6 ?_
   refine nS ?_
   obtain⟨y10,hy10,h⟩:=Af h
   refine An.pure Tryz.call183 (Uc x_8.List_ hy10) rfl fun _ hr=>?_
   subst hr
   refine nS ?_
   refine j _ _ (qn (sq ?_))
   refine ar rfl (qn ?_)
   revert h;refine ca rfl (fun hc h=>?_) fun hc h=>?_
   ·refine sq (ar rfl (qn (rt (br (qr (qr ?_))))))
    obtain rfl:=Aa h
    obtain rfl:=Ae hJ6
    replace h:=Al hO6
    refine br (qr ?_)
    cases h;exact en Tryz.results87
   refine sk (bn (qn (ar rfl (qn ?_))))
   obtain rfl:=Aa h
   refine⟨(k6+1,(),()),⟨by dsimp only;omega,Ai hJ6⟩,by dsimp only;omega,?_,?_⟩
   ·exact cuw hw6
   exact cuw hw6
  refine j _ _ _ (by kernel_rfl) ?_
  refine qn ?_
  refine AWP.cond (Bk ?_)
  refine sk (qn (sq ?_))
  refine rg rfl fun K j=>?_
  refine Bn.of (f:=Av) (l:=p.Bu) hx6 ?_
  refine nS ?_
  obtain⟨y11,hy11,h⟩:=Af h
  refine An.pure Tryz.call183 (Uc x_8.List_ hy11) rfl fun _ hr=>?_
  subst hr
  refine nS ?_
  refine j _ _ (qn (sq ?_))
  refine ar rfl (qn ?_)
  revert h;refine ca rfl (fun hc h=>?_) fun hc h=>?_
  ·refine sq (ar rfl (qn (rt (br (qr (qr ?_))))))
   obtain rfl:=Aa h
   obtain rfl:=Ae hJ6
   replace h:=Al hO6
   refine br (qr ?_)
   cases h;exact en Tryz.results87
  refine sk (bn (qn (ar rfl (qn ?_))))
  obtain rfl:=Aa h
  refine⟨(k6+1,(),()),⟨by dsimp only;omega,Ai hJ6⟩,by dsimp only;omega,?_,?_⟩
  ·exact cuw hw6
  exact cuw hw6
 rintro⟨⟨⟩,⟨⟩⟩ h
 try dsimp only at h ⊢
 unfold Nw at h;try dsimp only at h
 refine sq (sq (ar rfl (qn (bk ?_))))
 obtain⟨o1,hJ1,hO1⟩:=Af h
 clear h
 refine AWP.Bw (ι:=Nat×(Unit)×(Unit)) (fun zz=>[(1,.ptr 0 0),(5,.int .i64 ((zz.1:Nat):Int))]) (fun zz=>[.box [.sl 4 (p.Bu.map Av),.sl 3 (p.Hazards.map Az)]]) (fun zz=>zz.1≤p.Hazards.length∧Am (Nx p) zz.1 ((p.Hazards).drop zz.1) zz.2.1=some o1) (fun zz=>p.Hazards.length - zz.1) (0,(),()) ⟨Nat.zero_le _,hJ1⟩ cu cu (fun x=>⟨rfl,rfl,rfl⟩) ?_
 clear hJ1
 rintro⟨k1,⟨⟩,⟨⟩⟩ ⟨hk1,hJ1⟩
 dsimp only at hk1 hJ1 ⊢
 refine sq (sq ?_)
 refine rg rfl fun K j=>?_
 intro hm
 refine j _ _ (qn ?_)
 refine AWP.cond (Ak (fun hc=>?_) (fun hc=>?_))
 rotate_left
 ·obtain rfl:=Bf hJ1 (fun hl=>by have:=Aiz hc;omega)
  have h:=Be hO1;try dsimp only at h
  have hkl:p.Hazards.length=k1:=by have:=Aiz hc;omega
  subst hkl
  refine xt (qe (qe (bs (qn (sq (ar rfl (qn (rt ?_))))))))
  cases h;exact en Tryz.results87
 have hlt1:k1<p.Hazards.length:=by have:=Ai0 hc;omega
 obtain⟨x_3,b1,hx1_,h,hJ1⟩:=A9 hJ1 hlt1
 have hx1:=Ay hx1_
 have hw1:=wk (k:=k1) (by omega)
 unfold Nx at h;try dsimp only at h
 refine sk (qn (sq (bk (sq ?_))))
 refine rg rfl fun K j=>?_
 refine Bn.of (f:=Az) (l:=p.Hazards) hx1 ?_
 refine nS ?_
 refine j _ _ (qn (sq (sq ?_)))
 refine rg rfl fun K j=>?_
 revert h;refine gf (fun hc h=>?_) fun hc h=>?_
 rotate_left
 ·refine j _ _ (qn ?_)
  refine AWP.cond (Ah ?_)
  refine sq (ar rfl (qn (rt (qr (br (qr (qr ?_)))))))
  obtain rfl:=Aa h
  obtain rfl:=Ae hJ1
  replace h:=Al hO1
  refine br (qr ?_)
  cases h;exact en Tryz.results87
 revert h;refine gf (fun hc h=>?_) fun hc h=>?_
 rotate_left
 ·refine j _ _ (qn ?_)
  refine AWP.cond (Ah ?_)
  refine sq (ar rfl (qn (rt (qr (br (qr (qr ?_)))))))
  obtain rfl:=Aa h
  obtain rfl:=Ae hJ1
  replace h:=Al hO1
  refine br (qr ?_)
  cases h;exact en Tryz.results87
 revert h;refine gf (fun hc h=>?_) fun hc h=>?_
 rotate_left
 ·refine j _ _ (qn ?_)
  refine AWP.cond (Ah ?_)
  refine sq (ar rfl (qn (rt (qr (br (qr (qr ?_)))))))
  obtain rfl:=Aa h
  obtain rfl:=Ae hJ1
  replace h:=Al hO1
  refine br (qr ?_)
  cases h;exact en Tryz.results87
 refine j _ _ (qn ?_)
 revert h;refine ca rfl (fun hc h=>?_) fun hc h=>?_
 ·refine sq (ar rfl (qn (rt (qr (br (qr (qr ?_)))))))
  obtain rfl:=Aa h
  obtain rfl:=Ae hJ1
  replace h:=Al hO1
  refine br (qr ?_)
  cases h;exact en Tryz.results87
 refine sk (qn (sq (sq (ar rfl (qn (bk ?_))))))
 obtain⟨o3,hJ3,hO3⟩:=Af h
 clear h
 obtain⟨hn3,hJ3⟩:=Sw hJ3
 refine AWP.Bw (ι:=Nat×(Unit)×(Unit)) (fun zz=>[(1,.ptr 0 0),(5,.int .i64 ((k1:Nat):Int)),(6,.ptr 1 0),(7,.int .i64 ((zz.1:Nat):Int))]) (fun zz=>[.box [.sl 4 (p.Bu.map Av),.sl 3 (p.Hazards.map Az)],.box [.int .i64 x_3.ID,.int .i64 x_3.Run,.int .i64 x_3.At]]) (fun zz=>zz.1≤k1∧Am (Kg p x_3) zz.1 ((List.replicate k1 ()).drop zz.1) zz.2.1=some o3) (fun zz=>k1 - zz.1) (0,(),()) ⟨Nat.zero_le _,hJ3⟩ cu cu (fun x=>⟨rfl,rfl,rfl⟩) ?_
 clear hJ3
 rintro⟨k3,⟨⟩,⟨⟩⟩ ⟨hk3,hJ3⟩
 dsimp only at hk3 hJ3 ⊢
 refine sq (sq (ar rfl (qn ?_)))
 refine AWP.cond (Ak (fun hc=>?_) (fun hc=>?_))
 ·have hlt3:k3<k1:=by have:=Ai0 hc;omega
  obtain⟨_,b3,_,h,hJ3⟩:=A9 hJ3 (by rw[List.length_replicate];exact hlt3)
  have hw3:=wk (k:=k3) (by omega)
  unfold Kg at h;try dsimp only at h
  refine sk (qn (sq (bk (sq ?_))))
  refine AWP.draw Tryz.mixed (by kernel_rfl) ?_;intro K j
  refine nS ?_
  obtain⟨x_5,hx_5,h⟩:=Af h
  refine Bn.of (f:=Az) (l:=p.Hazards) hx_5 ?_
  refine nS ?_
  refine j _ _ _ (by kernel_rfl) ?_
  refine qn ?_
  revert h;refine ca rfl (fun hc h=>?_) fun hc h=>?_
  ·refine sq (ar rfl (qn (rt (br (qr (qr ?_))))))
   obtain rfl:=Aa h
   obtain rfl:=Ae hJ3
   replace h:=Al hO3
   refine br (qr (br (qr (qr ?_))))
   obtain rfl:=Aa h
   obtain rfl:=Ae hJ1
   replace h:=Al hO1
   refine br (qr ?_)
   cases h;exact en Tryz.results87
  refine sk (bn (qn (ar rfl (qn ?_))))
  obtain rfl:=Aa h
  refine⟨(k3+1,(),()),⟨by dsimp only;omega,Ai hJ3⟩,by dsimp only;omega,?_,?_⟩
  ·exact cuw hw3
  exact cuw hw3
 obtain rfl:=Bf hJ3 (fun hl=>by rw[List.length_replicate]at hl;have:=Aiz hc;omega)
 have h:=Be hO3;try dsimp only at h
 have hkl:k1=k3:=by have:=Aiz hc;omega
 subst hkl
 refine xt (qe (qe (bs (qn (sq ?_)))))
 refine rg rfl fun K j=>?_
 obtain⟨y6,hy6,h⟩:=Af h
 refine An.pure Tryz.call184 (iX p x_3.Run hy6) rfl fun _ hr=>?_
 subst hr
 refine nS ?_
 refine j _ _ (qn ?_)
 revert h;refine ca rfl (fun hc h=>?_) fun hc h=>?_
 ·refine sq (ar rfl (qn (rt (br (qr (qr ?_))))))
  obtain rfl:=Aa h
  obtain rfl:=Ae hJ1
  replace h:=Al hO1
  refine br (qr ?_)
  cases h;exact en Tryz.results87
 refine sk (bn (qn (ar rfl (qn ?_))))
 obtain rfl:=Aa h
 refine⟨(k1+1,(),()),⟨by dsimp only;omega,Ai hJ1⟩,by dsimp only;omega,?_,?_⟩
 ·exact cuw hw1
 exact cuw hw1
def Ri (l:List Cy) (k0:Nat) (x_2:Cy) (sv:Unit):Option (Out (Unit) (Int)):=
 (bif (decide (x_2.Run<1))then some (Out.ret 2)else (bif (decide (9999<x_2.Run))then some (Out.ret 2)else (bif (decide (x_2.Groomed<(-1)))then some (Out.ret 2)else (bif (decide (20000000<x_2.Groomed))then some (Out.ret 2)else (bif (decide (x_2.Traffic<0))then some (Out.ret 2)else (bif (decide (1000000<x_2.Traffic))then some (Out.ret 2)else (bif (decide (0<((k0:Nat):Int)))then (Dk l (IntKind.i64.wrap (((k0:Nat):Int) - 1))).bind fun x_3=>(bif (decide (x_2.Run≤x_3.Run))then some (Out.ret 11)else some (Out.next ()))else some (Out.next ()))))))))
def Pr (l:List Cy):Option (Int):=
 (bif (decide (64<((l.length:Nat):Int)))then some 4 else(Am (Ri l) 0 l ()).bind fun o0=>o0.on fun s0=>some 0)
theorem bX (l:List Cy) {r:Int} (h:Pr l=some r):Ad Tryz.prog 88 [.sl 3 (l.map A4)] (·= .int .i64 r):=by
 refine Ad.nle (Ad.intro Tryz.func88 rfl rfl (by show _≤59;simp) ?_)
 unfold Pr at h
 refine nS (sq ?_)
 refine ar rfl (qn (sq (sq ?_)))
 refine rg rfl fun K j=>?_
 intro hm
 refine j _ _ (qn ?_)
 revert h;refine ca rfl (fun hc h=>?_) fun hc h=>?_
 ·refine sq (ar rfl (qn (rt (qr ?_))))
  cases h;exact en Tryz.results88
 refine sk (qn (sq (sq (ar rfl (qn (bk ?_))))))
 obtain⟨o0,hJ0,hO0⟩:=Af h
 clear h
 refine AWP.Bw (ι:=Nat×(Unit)×(Unit)) (fun zz=>[(0,.sl 3 (l.map A4)),(3,.int .i64 ((zz.1:Nat):Int))]) (fun zz=>[]) (fun zz=>zz.1≤l.length∧Am (Ri l) zz.1 ((l).drop zz.1) zz.2.1=some o0) (fun zz=>l.length - zz.1) (0,(),()) ⟨Nat.zero_le _,hJ0⟩ cu cu (fun x=>⟨rfl,rfl,rfl⟩) ?_
 clear hJ0
 rintro⟨k0,⟨⟩,⟨⟩⟩ ⟨hk0,hJ0⟩
 dsimp only at hk0 hJ0 ⊢
 refine sq (sq ?_)
 refine rg rfl fun K j=>?_
 intro hm
 refine j _ _ (qn ?_)
 refine AWP.cond (Ak (fun hc=>?_) (fun hc=>?_))
 rotate_left
 ·obtain rfl:=Bf hJ0 (fun hl=>by have:=Aiz hc;omega)
  have h:=Be hO0;try dsimp only at h
  have hkl:l.length=k0:=by have:=Aiz hc;omega
  subst hkl
  refine xt (qe (qe (bs (qn (sq (ar rfl (qn (rt ?_))))))))
  cases h;exact en Tryz.results88
 have hlt0:k0<l.length:=by have:=Ai0 hc;omega
 obtain⟨x_2,b0,hx0_,h,hJ0⟩:=A9 hJ0 hlt0
 have hx0:=Ay hx0_
 have hw0:=wk (k:=k0) (by omega)
 unfold Ri at h;try dsimp only at h
 refine sk (qn (sq (bk (sq ?_))))
 refine rg rfl fun K j=>?_
 refine Bn.of (f:=A4) (l:=l) hx0 ?_
 refine nS ?_
 refine j _ _ (qn (sq (sq ?_)))
 refine rg rfl fun K j=>?_
 revert h;refine gf (fun hc h=>?_) fun hc h=>?_
 rotate_left
 ·refine j _ _ (qn ?_)
  refine AWP.cond (Ah ?_)
  refine sq (ar rfl (qn (rt (qr (br (qr (qr ?_)))))))
  obtain rfl:=Aa h
  obtain rfl:=Ae hJ0
  replace h:=Al hO0
  refine br (qr ?_)
  cases h;exact en Tryz.results88
 revert h;refine gf (fun hc h=>?_) fun hc h=>?_
 rotate_left
 ·refine j _ _ (qn ?_)
  refine AWP.cond (Ah ?_)
  refine sq (ar rfl (qn (rt (qr (br (qr (qr ?_)))))))
  obtain rfl:=Aa h
  obtain rfl:=Ae hJ0
  replace h:=Al hO0
  refine br (qr ?_)
  cases h;exact en Tryz.results88
 revert h;refine gf (fun hc h=>?_) fun hc h=>?_
 rotate_left
 ·refine j _ _ (qn ?_)
  refine AWP.cond (Ah ?_)
  refine sq (ar rfl (qn (rt (qr (br (qr (qr ?_)))))))
  obtain rfl:=Aa h
  obtain rfl:=Ae hJ0
  replace h:=Al hO0
  refine br (qr ?_)
  cases h;exact en Tryz.results88
 revert h;refine gf (fun hc h=>?_) fun hc h=>?_
 rotate_left
 ·refine j _ _ (qn ?_)
  refine AWP.cond (Ah ?_)
  refine sq (ar rfl (qn (rt (qr (br (qr (qr ?_)))))))
  obtain rfl:=Aa h
  obtain rfl:=Ae hJ0
  replace h:=Al hO0
  refine br (qr ?_)
  cases h;exact en Tryz.results88
 revert h;refine gf (fun hc h=>?_) fun hc h=>?_
 rotate_left
 ·refine j _ _ (qn ?_)
  refine AWP.cond (Ah ?_)
  refine sq (ar rfl (qn (rt (qr (br (qr (qr ?_)))))))
  obtain rfl:=Aa h
  obtain rfl:=Ae hJ0
  replace h:=Al hO0
  refine br (qr ?_)
  cases h;exact en Tryz.results88
 refine j _ _ (qn ?_)
 revert h;refine ca rfl (fun hc h=>?_) fun hc h=>?_
 ·refine sq (ar rfl (qn (rt (qr (br (qr (qr ?_)))))))
  obtain rfl:=Aa h
  obtain rfl:=Ae hJ0
  replace h:=Al hO0
  refine br (qr ?_)
  cases h;exact en Tryz.results88
 refine sk (qn (sq ?_))
 refine AWP.draw Tryz.mixed (by kernel_rfl) ?_;intro K j
 refine nS ?_
 revert h;refine gt (fun hc h=>?_) fun hc h=>?_
 ·obtain⟨x_3,hx_3,h⟩:=Af h
  refine Bn.of (f:=A4) (l:=l) hx_3 ?_
  refine nS ?_
  refine j _ _ _ (by kernel_rfl) ?_
  refine qn ?_
  revert h;refine ca rfl (fun hc h=>?_) fun hc h=>?_
  ·refine sq (ar rfl (qn (rt (br (qr (qr ?_))))))
   obtain rfl:=Aa h
   obtain rfl:=Ae hJ0
   replace h:=Al hO0
   refine br (qr ?_)
   cases h;exact en Tryz.results88
  refine sk (bn (qn (ar rfl (qn ?_))))
  obtain rfl:=Aa h
  refine⟨(k0+1,(),()),⟨by dsimp only;omega,Ai hJ0⟩,by dsimp only;omega,?_,?_⟩
  ·exact cuw hw0
  exact cuw hw0
 refine j _ _ _ (by kernel_rfl) ?_
 refine qn ?_
 refine AWP.cond (Bk ?_)
 refine sk (bn (qn (ar rfl (qn ?_))))
 obtain rfl:=Aa h
 refine⟨(k0+1,(),()),⟨by dsimp only;omega,Ai hJ0⟩,by dsimp only;omega,?_,?_⟩
 ·exact cuw hw0
 exact cuw hw0
def Qd (l:List Int) (most:Int) (k0:Nat) (x_2:Int) (sv:Unit):Option (Out (Unit) (Bool)):=
 (bif (decide (x_2<1))then some (Out.ret false)else (bif (decide (most<x_2))then some (Out.ret false)else (bif (decide (0<((k0:Nat):Int)))then (Dk l (IntKind.i64.wrap (((k0:Nat):Int) - 1))).bind fun x_3=>(bif (decide (x_2≤x_3))then some (Out.ret false)else some (Out.next ()))else some (Out.next ()))))
def N0 (l:List Int) (most:Int):Option (Bool):=
 (Am (Qd l most) 0 l ()).bind fun o0=>o0.on fun s0=>some true
theorem Sq (l:List Int) (most:Int) {r:Bool} (h:N0 l most=some r):Ad Tryz.prog 185 [.sl 1 (l.map A2),.int .i64 most] (·= .bool r):=by
 refine Ad.nle (Ad.intro Tryz.func185 rfl rfl (by show _≤41;simp) ?_)
 unfold N0 at h
 refine nS (sq ?_)
 refine ar rfl (qn (sq (sq ?_)))
 refine ar rfl (qn (bk ?_))
 obtain⟨o0,hJ0,hO0⟩:=Af h
 clear h
 refine AWP.Bw (ι:=Nat×(Unit)×(Unit)) (fun zz=>[(0,.sl 1 (l.map A2)),(1,.int .i64 most),(5,.int .i64 ((zz.1:Nat):Int))]) (fun zz=>[]) (fun zz=>zz.1≤l.length∧Am (Qd l most) zz.1 ((l).drop zz.1) zz.2.1=some o0) (fun zz=>l.length - zz.1) (0,(),()) ⟨Nat.zero_le _,hJ0⟩ cu cu (fun x=>⟨rfl,rfl,rfl⟩) ?_
 clear hJ0
 rintro⟨k0,⟨⟩,⟨⟩⟩ ⟨hk0,hJ0⟩
 dsimp only at hk0 hJ0 ⊢
 refine sq (sq ?_)
 refine rg rfl fun K j=>?_
 intro hm
 refine j _ _ (qn ?_)
 refine AWP.cond (Ak (fun hc=>?_) (fun hc=>?_))
 rotate_left
 ·obtain rfl:=Bf hJ0 (fun hl=>by have:=Aiz hc;omega)
  have h:=Be hO0;try dsimp only at h
  have hkl:l.length=k0:=by have:=Aiz hc;omega
  subst hkl
  refine xt (qe (qe (bs (qn (sq (ar rfl (qn (rt ?_))))))))
  cases h;exact en Tryz.results185
 have hlt0:k0<l.length:=by have:=Ai0 hc;omega
 obtain⟨x_2,b0,hx0_,h,hJ0⟩:=A9 hJ0 hlt0
 have hx0:=Ay hx0_
 have hw0:=wk (k:=k0) (by omega)
 unfold Qd at h;try dsimp only at h
 refine sk (qn (sq (bk (sq ?_))))
 refine AWP.draw Tryz.mixed (by kernel_rfl) ?_;intro K j
 refine nS ?_
 refine Bn.of (f:=A2) (l:=l) hx0 ?_
 refine nS ?_
 revert h;refine gf (fun hc h=>?_) fun hc h=>?_
 rotate_left
 ·refine j _ _ _ (by kernel_rfl) ?_
  refine qn ?_
  refine AWP.cond (Ah ?_)
  refine sq (ar rfl (qn (rt (br (qr (qr ?_))))))
  obtain rfl:=Aa h
  obtain rfl:=Ae hJ0
  replace h:=Al hO0
  refine br (qr ?_)
  cases h;exact en Tryz.results185
 refine Bn.of (f:=A2) (l:=l) hx0 ?_
 refine nS ?_
 revert h;refine gf (fun hc h=>?_) fun hc h=>?_
 rotate_left
 ·refine j _ _ _ (by kernel_rfl) ?_
  refine qn ?_
  refine AWP.cond (Ah ?_)
  refine sq (ar rfl (qn (rt (br (qr (qr ?_))))))
  obtain rfl:=Aa h
  obtain rfl:=Ae hJ0
  replace h:=Al hO0
  refine br (qr ?_)
  cases h;exact en Tryz.results185
 revert h;refine gt (fun hc h=>?_) fun hc h=>?_
 ·refine Bn.of (f:=A2) (l:=l) hx0 ?_
  refine nS ?_
  obtain⟨x_3,hx_3,h⟩:=Af h
  refine Bn.of (f:=A2) (l:=l) hx_3 ?_
  refine nS ?_
  refine j _ _ _ (by kernel_rfl) ?_
  refine qn ?_
  revert h;refine ca rfl (fun hc h=>?_) fun hc h=>?_
  ·refine sq (ar rfl (qn (rt (br (qr (qr ?_))))))
   obtain rfl:=Aa h
   obtain rfl:=Ae hJ0
   replace h:=Al hO0
   refine br (qr ?_)
   cases h;exact en Tryz.results185
  refine sk (bn (qn (ar rfl (qn ?_))))
  obtain rfl:=Aa h
  refine⟨(k0+1,(),()),⟨by dsimp only;omega,Ai hJ0⟩,by dsimp only;omega,?_,?_⟩
  ·exact cuw hw0
  exact cuw hw0
 refine j _ _ _ (by kernel_rfl) ?_
 refine qn ?_
 refine AWP.cond (Bk ?_)
 refine sk (bn (qn (ar rfl (qn ?_))))
 obtain rfl:=Aa h
 refine⟨(k0+1,(),()),⟨by dsimp only;omega,Ai hJ0⟩,by dsimp only;omega,?_,?_⟩
 ·exact cuw hw0
 exact cuw hw0
def F1 (l:List Bd) (x_2:Bd) (k2:Nat) (_x:Unit) (sv:Unit):Option (Out (Unit) (Out (Unit) (Int))):=
 (Dk l ((k2:Nat):Int)).bind fun x_4=>(bif (decide (x_4.ID=x_2.ID))then some (Out.ret (Out.ret 7))else some (Out.next ()))
def Hg (l:List Bd) (k0:Nat) (x_2:Bd) (sv:Unit):Option (Out (Unit) (Int)):=
 (bif (decide (x_2.ID<1))then some (Out.ret 2)else (bif (decide (9999<x_2.ID))then some (Out.ret 2)else (bif (decide (x_2.Limit<4))then some (Out.ret 2)else (bif (decide (100000<x_2.Limit))then some (Out.ret 2)else (bif (decide (x_2.Load<0))then some (Out.ret 2)else (bif (decide (100000<x_2.Load))then some (Out.ret 2)else (bif (decide (x_2.Controlled<(-1)))then some (Out.ret 2)else (bif (decide (20000000<x_2.Controlled))then some (Out.ret 2)else (J0 (F1 l x_2) k0 ()).bind fun o2=>o2.on fun s2=>(bif (decide (((x_2.Zones.length:Nat):Int)=0))then some (Out.ret 1)else (N0 x_2.Zones 32).bind fun y5=>(bif (!y5)then some (Out.ret 1)else (N0 x_2.Lifts 9999).bind fun y6=>(bif (!y6)then some (Out.ret 1)else some (Out.next ()))))))))))))
def Nb (l:List Bd):Option (Int):=
 (bif (decide (32<((l.length:Nat):Int)))then some 4 else(Am (Hg l) 0 l ()).bind fun o0=>o0.on fun s0=>some 0)
theorem bU (l:List Bd) {r:Int} (h:Nb l=some r):Ad Tryz.prog 89 [.sl 6 (l.map Ba)] (·= .int .i64 r):=by
 refine Ad.nle (Ad.intro Tryz.func89 rfl rfl (by show _≤86;simp) ?_)
 unfold Nb at h
 refine nS (sq ?_)
 refine ar rfl (qn (sq (sq ?_)))
 refine rg rfl fun K j=>?_
 intro hm
 refine j _ _ (qn ?_)
 revert h;refine ca rfl (fun hc h=>?_) fun hc h=>?_
 ·refine sq (ar rfl (qn (rt (qr ?_))))
  cases h;exact en Tryz.results89
 refine sk (qn (sq (sq (ar rfl (qn (bk ?_))))))
 obtain⟨o0,hJ0,hO0⟩:=Af h
 clear h
 refine AWP.Bw (ι:=Nat×(Unit)×(Unit)) (fun zz=>[(0,.sl 6 (l.map Ba)),(3,.int .i64 ((zz.1:Nat):Int))]) (fun zz=>[]) (fun zz=>zz.1≤l.length∧Am (Hg l) zz.1 ((l).drop zz.1) zz.2.1=some o0) (fun zz=>l.length - zz.1) (0,(),()) ⟨Nat.zero_le _,hJ0⟩ cu cu (fun x=>⟨rfl,rfl,rfl⟩) ?_
 clear hJ0
 rintro⟨k0,⟨⟩,⟨⟩⟩ ⟨hk0,hJ0⟩
 dsimp only at hk0 hJ0 ⊢
 refine sq (sq ?_)
 refine rg rfl fun K j=>?_
 intro hm
 refine j _ _ (qn ?_)
 refine AWP.cond (Ak (fun hc=>?_) (fun hc=>?_))
 rotate_left
 ·obtain rfl:=Bf hJ0 (fun hl=>by have:=Aiz hc;omega)
  have h:=Be hO0;try dsimp only at h
  have hkl:l.length=k0:=by have:=Aiz hc;omega
  subst hkl
  refine xt (qe (qe (bs (qn (sq (ar rfl (qn (rt ?_))))))))
  cases h;exact en Tryz.results89
 have hlt0:k0<l.length:=by have:=Ai0 hc;omega
 obtain⟨x_2,b0,hx0_,h,hJ0⟩:=A9 hJ0 hlt0
 have hx0:=Ay hx0_
 have hw0:=wk (k:=k0) (by omega)
 unfold Hg at h;try dsimp only at h
 refine sk (qn (sq (bk (sq ?_))))
 refine rg rfl fun K j=>?_
 refine Bn.of (f:=Ba) (l:=l) hx0 ?_
 refine nS ?_
 refine j _ _ (qn (sq (sq ?_)))
 refine rg rfl fun K j=>?_
 revert h;refine gf (fun hc h=>?_) fun hc h=>?_
 rotate_left
 ·refine j _ _ (qn ?_)
  refine AWP.cond (Ah ?_)
  refine sq (ar rfl (qn (rt (qr (br (qr (qr ?_)))))))
  obtain rfl:=Aa h
  obtain rfl:=Ae hJ0
  replace h:=Al hO0
  refine br (qr ?_)
  cases h;exact en Tryz.results89
 revert h;refine gf (fun hc h=>?_) fun hc h=>?_
 rotate_left
 ·refine j _ _ (qn ?_)
  refine AWP.cond (Ah ?_)
  refine sq (ar rfl (qn (rt (qr (br (qr (qr ?_)))))))
  obtain rfl:=Aa h
  obtain rfl:=Ae hJ0
  replace h:=Al hO0
  refine br (qr ?_)
  cases h;exact en Tryz.results89
 revert h;refine gf (fun hc h=>?_) fun hc h=>?_
 rotate_left
 ·refine j _ _ (qn ?_)
  refine AWP.cond (Ah ?_)
  refine sq (ar rfl (qn (rt (qr (br (qr (qr ?_)))))))
  obtain rfl:=Aa h
  obtain rfl:=Ae hJ0
  replace h:=Al hO0
  refine br (qr ?_)
  cases h;exact en Tryz.results89
 revert h;refine gf (fun hc h=>?_) fun hc h=>?_
 rotate_left
 ·refine j _ _ (qn ?_)
  refine AWP.cond (Ah ?_)
  refine sq (ar rfl (qn (rt (qr (br (qr (qr ?_)))))))
  obtain rfl:=Aa h
  obtain rfl:=Ae hJ0
  replace h:=Al hO0
  refine br (qr ?_)
  cases h;exact en Tryz.results89
 revert h;refine gf (fun hc h=>?_) fun hc h=>?_
 rotate_left
 ·refine j _ _ (qn ?_)
  refine AWP.cond (Ah ?_)
  refine sq (ar rfl (qn (rt (qr (br (qr (qr ?_)))))))
  obtain rfl:=Aa h
  obtain rfl:=Ae hJ0
  replace h:=Al hO0
  refine br (qr ?_)
  cases h;exact en Tryz.results89
 revert h;refine gf (fun hc h=>?_) fun hc h=>?_
 rotate_left
 ·refine j _ _ (qn ?_)
  refine AWP.cond (Ah ?_)
  refine sq (ar rfl (qn (rt (qr (br (qr (qr ?_)))))))
  obtain rfl:=Aa h
  obtain rfl:=Ae hJ0
  replace h:=Al hO0
  refine br (qr ?_)
  cases h;exact en Tryz.results89
 revert h;refine gf (fun hc h=>?_) fun hc h=>?_
 rotate_left
 ·refine j _ _ (qn ?_)
  refine AWP.cond (Ah ?_)
  refine sq (ar rfl (qn (rt (qr (br (qr (qr ?_)))))))
  obtain rfl:=Aa h
  obtain rfl:=Ae hJ0
  replace h:=Al hO0
  refine br (qr ?_)
  cases h;exact en Tryz.results89
 refine j _ _ (qn ?_)
 revert h;refine ca rfl (fun hc h=>?_) fun hc h=>?_
 ·refine sq (ar rfl (qn (rt (qr (br (qr (qr ?_)))))))
  obtain rfl:=Aa h
  obtain rfl:=Ae hJ0
  replace h:=Al hO0
  refine br (qr ?_)
  cases h;exact en Tryz.results89
 refine sk (qn (sq (sq (ar rfl (qn (bk ?_))))))
 obtain⟨o2,hJ2,hO2⟩:=Af h
 clear h
 obtain⟨hn2,hJ2⟩:=Sw hJ2
 refine AWP.Bw (ι:=Nat×(Unit)×(Unit)) (fun zz=>[(0,.sl 6 (l.map Ba)),(3,.int .i64 ((k0:Nat):Int)),(4,.ptr 0 0),(5,.int .i64 ((zz.1:Nat):Int))]) (fun zz=>[.box [.int .i64 x_2.ID,.sl 1 (x_2.Zones.map A2),.sl 1 (x_2.Lifts.map A2),.int .i64 x_2.Limit,.int .i64 x_2.Load,.int .i64 x_2.Controlled]]) (fun zz=>zz.1≤k0∧Am (F1 l x_2) zz.1 ((List.replicate k0 ()).drop zz.1) zz.2.1=some o2) (fun zz=>k0 - zz.1) (0,(),()) ⟨Nat.zero_le _,hJ2⟩ cu cu (fun x=>⟨rfl,rfl,rfl⟩) ?_
 clear hJ2
 rintro⟨k2,⟨⟩,⟨⟩⟩ ⟨hk2,hJ2⟩
 dsimp only at hk2 hJ2 ⊢
 refine sq (sq (ar rfl (qn ?_)))
 refine AWP.cond (Ak (fun hc=>?_) (fun hc=>?_))
 ·have hlt2:k2<k0:=by have:=Ai0 hc;omega
  obtain⟨_,b2,_,h,hJ2⟩:=A9 hJ2 (by rw[List.length_replicate];exact hlt2)
  have hw2:=wk (k:=k2) (by omega)
  unfold F1 at h;try dsimp only at h
  refine sk (qn (sq (bk (sq ?_))))
  refine AWP.draw Tryz.mixed (by kernel_rfl) ?_;intro K j
  refine nS ?_
  obtain⟨x_4,hx_4,h⟩:=Af h
  refine Bn.of (f:=Ba) (l:=l) hx_4 ?_
  refine nS ?_
  refine j _ _ _ (by kernel_rfl) ?_
  refine qn ?_
  revert h;refine ca rfl (fun hc h=>?_) fun hc h=>?_
  ·refine sq (ar rfl (qn (rt (br (qr (qr ?_))))))
   obtain rfl:=Aa h
   obtain rfl:=Ae hJ2
   replace h:=Al hO2
   refine br (qr (br (qr (qr ?_))))
   obtain rfl:=Aa h
   obtain rfl:=Ae hJ0
   replace h:=Al hO0
   refine br (qr ?_)
   cases h;exact en Tryz.results89
  refine sk (bn (qn (ar rfl (qn ?_))))
  obtain rfl:=Aa h
  refine⟨(k2+1,(),()),⟨by dsimp only;omega,Ai hJ2⟩,by dsimp only;omega,?_,?_⟩
  ·exact cuw hw2
  exact cuw hw2
 obtain rfl:=Bf hJ2 (fun hl=>by rw[List.length_replicate]at hl;have:=Aiz hc;omega)
 have h:=Be hO2;try dsimp only at h
 have hkl:k0=k2:=by have:=Aiz hc;omega
 subst hkl
 refine xt (qe (qe (bs (qn (sq ?_)))))
 refine rg rfl fun K j=>?_
 intro hm
 revert h;refine gf (fun hc h=>?_) fun hc h=>?_
 rotate_left
 ·refine j _ _ (qn ?_)
  refine AWP.cond (Ah ?_)
  refine sq (ar rfl (qn (rt (br (qr (qr ?_))))))
  obtain rfl:=Aa h
  obtain rfl:=Ae hJ0
  replace h:=Al hO0
  refine br (qr ?_)
  cases h;exact en Tryz.results89
 obtain⟨y5,hy5,h⟩:=Af h
 refine An.pure Tryz.call185 (Sq x_2.Zones 32 hy5) rfl fun _ hr=>?_
 subst hr
 refine nS ?_
 revert h;refine gf (fun hc h=>?_) fun hc h=>?_
 ·obtain⟨y6,hy6,h⟩:=Af h
  refine An.pure Tryz.call185 (Sq x_2.Lifts 9999 hy6) rfl fun _ hr=>?_
  subst hr
  refine nS ?_
  refine j _ _ (qn ?_)
  revert h;refine ca rfl (fun hc h=>?_) fun hc h=>?_
  ·refine sq (ar rfl (qn (rt (br (qr (qr ?_))))))
   obtain rfl:=Aa h
   obtain rfl:=Ae hJ0
   replace h:=Al hO0
   refine br (qr ?_)
   cases h;exact en Tryz.results89
  refine sk (bn (qn (ar rfl (qn ?_))))
  obtain rfl:=Aa h
  refine⟨(k0+1,(),()),⟨by dsimp only;omega,Ai hJ0⟩,by dsimp only;omega,?_,?_⟩
  ·exact cuw hw0
  exact cuw hw0
 refine j _ _ (qn ?_)
 refine AWP.cond (Ah ?_)
 refine sq (ar rfl (qn (rt (br (qr (qr ?_))))))
 obtain rfl:=Aa h
 obtain rfl:=Ae hJ0
 replace h:=Al hO0
 refine br (qr ?_)
 cases h;exact en Tryz.results89
def Hh (l:List Int) (k0:Nat) (x_2:Int) (sv:Unit):Option (Out (Unit) (Bool)):=
 (bif (decide (x_2<1))then some (Out.ret false)else (bif (decide (32<x_2))then some (Out.ret false)else (bif (decide (0<((k0:Nat):Int)))then (Dk l (IntKind.i64.wrap (((k0:Nat):Int) - 1))).bind fun x_3=>(bif (decide (x_2≤x_3))then some (Out.ret false)else some (Out.next ()))else some (Out.next ()))))
def Ki (l:List Int):Option (Bool):=
 (Am (Hh l) 0 l ()).bind fun o0=>o0.on fun s0=>some (decide (0<((l.length:Nat):Int)))
theorem bV (l:List Int) {r:Bool} (h:Ki l=some r):Ad Tryz.prog 186 [.sl 1 (l.map A2)] (·= .bool r):=by
 refine Ad.nle (Ad.intro Tryz.func186 rfl rfl (by show _≤41;simp) ?_)
 unfold Ki at h
 refine nS (sq ?_)
 refine ar rfl (qn (sq (sq ?_)))
 refine ar rfl (qn (bk ?_))
 obtain⟨o0,hJ0,hO0⟩:=Af h
 clear h
 refine AWP.Bw (ι:=Nat×(Unit)×(Unit)) (fun zz=>[(0,.sl 1 (l.map A2)),(3,.int .i64 ((zz.1:Nat):Int))]) (fun zz=>[]) (fun zz=>zz.1≤l.length∧Am (Hh l) zz.1 ((l).drop zz.1) zz.2.1=some o0) (fun zz=>l.length - zz.1) (0,(),()) ⟨Nat.zero_le _,hJ0⟩ cu cu (fun x=>⟨rfl,rfl,rfl⟩) ?_
 clear hJ0
 rintro⟨k0,⟨⟩,⟨⟩⟩ ⟨hk0,hJ0⟩
 dsimp only at hk0 hJ0 ⊢
 refine sq (sq ?_)
 refine rg rfl fun K j=>?_
 intro hm
 refine j _ _ (qn ?_)
 refine AWP.cond (Ak (fun hc=>?_) (fun hc=>?_))
 rotate_left
 ·obtain rfl:=Bf hJ0 (fun hl=>by have:=Aiz hc;omega)
  have h:=Be hO0;try dsimp only at h
  have hkl:l.length=k0:=by have:=Aiz hc;omega
  subst hkl
  refine xt (qe (qe (bs (qn (sq ?_)))))
  refine rg rfl fun K j=>?_
  intro hm
  refine j _ _ (qn (rt ?_))
  cases h;exact en Tryz.results186
 have hlt0:k0<l.length:=by have:=Ai0 hc;omega
 obtain⟨x_2,b0,hx0_,h,hJ0⟩:=A9 hJ0 hlt0
 have hx0:=Ay hx0_
 have hw0:=wk (k:=k0) (by omega)
 unfold Hh at h;try dsimp only at h
 refine sk (qn (sq (bk (sq ?_))))
 refine AWP.draw Tryz.mixed (by kernel_rfl) ?_;intro K j
 refine nS ?_
 refine Bn.of (f:=A2) (l:=l) hx0 ?_
 refine nS ?_
 revert h;refine gf (fun hc h=>?_) fun hc h=>?_
 rotate_left
 ·refine j _ _ _ (by kernel_rfl) ?_
  refine qn ?_
  refine AWP.cond (Ah ?_)
  refine sq (ar rfl (qn (rt (br (qr (qr ?_))))))
  obtain rfl:=Aa h
  obtain rfl:=Ae hJ0
  replace h:=Al hO0
  refine br (qr ?_)
  cases h;exact en Tryz.results186
 refine Bn.of (f:=A2) (l:=l) hx0 ?_
 refine nS ?_
 revert h;refine gf (fun hc h=>?_) fun hc h=>?_
 rotate_left
 ·refine j _ _ _ (by kernel_rfl) ?_
  refine qn ?_
  refine AWP.cond (Ah ?_)
  refine sq (ar rfl (qn (rt (br (qr (qr ?_))))))
  obtain rfl:=Aa h
  obtain rfl:=Ae hJ0
  replace h:=Al hO0
  refine br (qr ?_)
  cases h;exact en Tryz.results186
 revert h;refine gt (fun hc h=>?_) fun hc h=>?_
 ·refine Bn.of (f:=A2) (l:=l) hx0 ?_
  refine nS ?_
  obtain⟨x_3,hx_3,h⟩:=Af h
  refine Bn.of (f:=A2) (l:=l) hx_3 ?_
  refine nS ?_
  refine j _ _ _ (by kernel_rfl) ?_
  refine qn ?_
  revert h;refine ca rfl (fun hc h=>?_) fun hc h=>?_
  ·refine sq (ar rfl (qn (rt (br (qr (qr ?_))))))
   obtain rfl:=Aa h
   obtain rfl:=Ae hJ0
   replace h:=Al hO0
   refine br (qr ?_)
   cases h;exact en Tryz.results186
  refine sk (bn (qn (ar rfl (qn ?_))))
  obtain rfl:=Aa h
  refine⟨(k0+1,(),()),⟨by dsimp only;omega,Ai hJ0⟩,by dsimp only;omega,?_,?_⟩
  ·exact cuw hw0
  exact cuw hw0
 refine j _ _ _ (by kernel_rfl) ?_
 refine qn ?_
 refine AWP.cond (Bk ?_)
 refine sk (bn (qn (ar rfl (qn ?_))))
 obtain rfl:=Aa h
 refine⟨(k0+1,(),()),⟨by dsimp only;omega,Ai hJ0⟩,by dsimp only;omega,?_,?_⟩
 ·exact cuw hw0
 exact cuw hw0
def E2 (l:List Bp) (k0:Nat) (x_2:Bp) (sv:Unit):Option (Out (Unit) (Int)):=
 (bif (decide (x_2.Version<1))then some (Out.ret 2)else (bif (decide (1000000<x_2.Version))then some (Out.ret 2)else (bif (decide (x_2.Span.From<0))then some (Out.ret 2)else (bif (decide (x_2.Span.To≤x_2.Span.From))then some (Out.ret 2)else (bif (decide (20000000<x_2.Span.To))then some (Out.ret 2)else (bif (decide (x_2.Low<0))then some (Out.ret 2)else (bif (decide (x_2.High≤x_2.Low))then some (Out.ret 2)else (bif (decide (6000<x_2.High))then some (Out.ret 2)else (bif (decide (x_2.Level<1))then some (Out.ret 2)else (bif (decide (5<x_2.Level))then some (Out.ret 2)else (Ki x_2.Zones).bind fun y3=>(bif (!y3)then some (Out.ret 1)else (bif (decide (0<((k0:Nat):Int)))then (Dk l (IntKind.i64.wrap (((k0:Nat):Int) - 1))).bind fun x_4=>(bif (decide (x_2.Version<x_4.Version))then some (Out.ret 11)else some (Out.next ()))else some (Out.next ())))))))))))))
def H6 (l:List Bp):Option (Int):=
 (bif (decide (64<((l.length:Nat):Int)))then some 4 else(Am (E2 l) 0 l ()).bind fun o0=>o0.on fun s0=>some 0)
theorem bW (l:List Bp) {r:Int} (h:H6 l=some r):Ad Tryz.prog 90 [.sl 7 (l.map Ax)] (·= .int .i64 r):=by
 refine Ad.nle (Ad.intro Tryz.func90 rfl rfl (by show _≤91;simp) ?_)
 unfold H6 at h
 refine nS (sq ?_)
 refine ar rfl (qn (sq (sq ?_)))
 refine rg rfl fun K j=>?_
 intro hm
 refine j _ _ (qn ?_)
 revert h;refine ca rfl (fun hc h=>?_) fun hc h=>?_
 ·refine sq (ar rfl (qn (rt (qr ?_))))
  cases h;exact en Tryz.results90
 refine sk (qn (sq (sq (ar rfl (qn (bk ?_))))))
 obtain⟨o0,hJ0,hO0⟩:=Af h
 clear h
 refine AWP.Bw (ι:=Nat×(Unit)×(Unit)) (fun zz=>[(0,.sl 7 (l.map Ax)),(3,.int .i64 ((zz.1:Nat):Int))]) (fun zz=>[]) (fun zz=>zz.1≤l.length∧Am (E2 l) zz.1 ((l).drop zz.1) zz.2.1=some o0) (fun zz=>l.length - zz.1) (0,(),()) ⟨Nat.zero_le _,hJ0⟩ cu cu (fun x=>⟨rfl,rfl,rfl⟩) ?_
 clear hJ0
 rintro⟨k0,⟨⟩,⟨⟩⟩ ⟨hk0,hJ0⟩
 dsimp only at hk0 hJ0 ⊢
 refine sq (sq ?_)
 refine rg rfl fun K j=>?_
 intro hm
 refine j _ _ (qn ?_)
 refine AWP.cond (Ak (fun hc=>?_) (fun hc=>?_))
 rotate_left
 ·obtain rfl:=Bf hJ0 (fun hl=>by have:=Aiz hc;omega)
  have h:=Be hO0;try dsimp only at h
  have hkl:l.length=k0:=by have:=Aiz hc;omega
  subst hkl
  refine xt (qe (qe (bs (qn (sq (ar rfl (qn (rt ?_))))))))
  cases h;exact en Tryz.results90
 have hlt0:k0<l.length:=by have:=Ai0 hc;omega
 obtain⟨x_2,b0,hx0_,h,hJ0⟩:=A9 hJ0 hlt0
 have hx0:=Ay hx0_
 have hw0:=wk (k:=k0) (by omega)
 unfold E2 at h;try dsimp only at h
 refine sk (qn (sq (bk (sq ?_))))
 refine rg rfl fun K j=>?_
 refine Bn.of (f:=Ax) (l:=l) hx0 ?_
 refine nS ?_
 refine j _ _ (qn (sq (sq ?_)))
 refine rg rfl fun K j=>?_
 revert h;refine gf (fun hc h=>?_) fun hc h=>?_
 rotate_left
 ·refine j _ _ (qn ?_)
  refine AWP.cond (Ah ?_)
  refine sq (ar rfl (qn (rt (qr (br (qr (qr ?_)))))))
  obtain rfl:=Aa h
  obtain rfl:=Ae hJ0
  replace h:=Al hO0
  refine br (qr ?_)
  cases h;exact en Tryz.results90
 revert h;refine gf (fun hc h=>?_) fun hc h=>?_
 rotate_left
 ·refine j _ _ (qn ?_)
  refine AWP.cond (Ah ?_)
  refine sq (ar rfl (qn (rt (qr (br (qr (qr ?_)))))))
  obtain rfl:=Aa h
  obtain rfl:=Ae hJ0
  replace h:=Al hO0
  refine br (qr ?_)
  cases h;exact en Tryz.results90
 revert h;refine gf (fun hc h=>?_) fun hc h=>?_
 rotate_left
 ·refine j _ _ (qn ?_)
  refine AWP.cond (Ah ?_)
  refine sq (ar rfl (qn (rt (qr (br (qr (qr ?_)))))))
  obtain rfl:=Aa h
  obtain rfl:=Ae hJ0
  replace h:=Al hO0
  refine br (qr ?_)
  cases h;exact en Tryz.results90
 revert h;refine gf (fun hc h=>?_) fun hc h=>?_
 rotate_left
 ·refine j _ _ (qn ?_)
  refine AWP.cond (Ah ?_)
  refine sq (ar rfl (qn (rt (qr (br (qr (qr ?_)))))))
  obtain rfl:=Aa h
  obtain rfl:=Ae hJ0
  replace h:=Al hO0
  refine br (qr ?_)
  cases h;exact en Tryz.results90
 revert h;refine gf (fun hc h=>?_) fun hc h=>?_
 rotate_left
 ·refine j _ _ (qn ?_)
  refine AWP.cond (Ah ?_)
  refine sq (ar rfl (qn (rt (qr (br (qr (qr ?_)))))))
  obtain rfl:=Aa h
  obtain rfl:=Ae hJ0
  replace h:=Al hO0
  refine br (qr ?_)
  cases h;exact en Tryz.results90
 revert h;refine gf (fun hc h=>?_) fun hc h=>?_
 rotate_left
 ·refine j _ _ (qn ?_)
  refine AWP.cond (Ah ?_)
  refine sq (ar rfl (qn (rt (qr (br (qr (qr ?_)))))))
  obtain rfl:=Aa h
  obtain rfl:=Ae hJ0
  replace h:=Al hO0
  refine br (qr ?_)
  cases h;exact en Tryz.results90
 revert h;refine gf (fun hc h=>?_) fun hc h=>?_
 rotate_left
 ·refine j _ _ (qn ?_)
  refine AWP.cond (Ah ?_)
  refine sq (ar rfl (qn (rt (qr (br (qr (qr ?_)))))))
  obtain rfl:=Aa h
  obtain rfl:=Ae hJ0
  replace h:=Al hO0
  refine br (qr ?_)
  cases h;exact en Tryz.results90
 revert h;refine gf (fun hc h=>?_) fun hc h=>?_
 rotate_left
 ·refine j _ _ (qn ?_)
  refine AWP.cond (Ah ?_)
  refine sq (ar rfl (qn (rt (qr (br (qr (qr ?_)))))))
  obtain rfl:=Aa h
  obtain rfl:=Ae hJ0
  replace h:=Al hO0
  refine br (qr ?_)
  cases h;exact en Tryz.results90
 revert h;refine gf (fun hc h=>?_) fun hc h=>?_
 rotate_left
 ·refine j _ _ (qn ?_)
  refine AWP.cond (Ah ?_)
  refine sq (ar rfl (qn (rt (qr (br (qr (qr ?_)))))))
  obtain rfl:=Aa h
  obtain rfl:=Ae hJ0
  replace h:=Al hO0
  refine br (qr ?_)
  cases h;exact en Tryz.results90
 refine j _ _ (qn ?_)
 revert h;refine ca rfl (fun hc h=>?_) fun hc h=>?_
 ·refine sq (ar rfl (qn (rt (qr (br (qr (qr ?_)))))))
  obtain rfl:=Aa h
  obtain rfl:=Ae hJ0
  replace h:=Al hO0
  refine br (qr ?_)
  cases h;exact en Tryz.results90
 refine sk (qn (sq (sq ?_)))
 refine rg rfl fun K j=>?_
 obtain⟨y3,hy3,h⟩:=Af h
 refine An.pure Tryz.call186 (bV x_2.Zones hy3) rfl fun _ hr=>?_
 subst hr
 refine nS ?_
 refine j _ _ (qn ?_)
 revert h;refine ca rfl (fun hc h=>?_) fun hc h=>?_
 ·refine sq (ar rfl (qn (rt (qr (br (qr (qr ?_)))))))
  obtain rfl:=Aa h
  obtain rfl:=Ae hJ0
  replace h:=Al hO0
  refine br (qr ?_)
  cases h;exact en Tryz.results90
 refine sk (qn (sq ?_))
 refine AWP.draw Tryz.mixed (by kernel_rfl) ?_;intro K j
 refine nS ?_
 revert h;refine gt (fun hc h=>?_) fun hc h=>?_
 ·obtain⟨x_4,hx_4,h⟩:=Af h
  refine Bn.of (f:=Ax) (l:=l) hx_4 ?_
  refine nS ?_
  refine j _ _ _ (by kernel_rfl) ?_
  refine qn ?_
  revert h;refine ca rfl (fun hc h=>?_) fun hc h=>?_
  ·refine sq (ar rfl (qn (rt (br (qr (qr ?_))))))
   obtain rfl:=Aa h
   obtain rfl:=Ae hJ0
   replace h:=Al hO0
   refine br (qr ?_)
   cases h;exact en Tryz.results90
  refine sk (bn (qn (ar rfl (qn ?_))))
  obtain rfl:=Aa h
  refine⟨(k0+1,(),()),⟨by dsimp only;omega,Ai hJ0⟩,by dsimp only;omega,?_,?_⟩
  ·exact cuw hw0
  exact cuw hw0
 refine j _ _ _ (by kernel_rfl) ?_
 refine qn ?_
 refine AWP.cond (Bk ?_)
 refine sk (bn (qn (ar rfl (qn ?_))))
 obtain rfl:=Aa h
 refine⟨(k0+1,(),()),⟨by dsimp only;omega,Ai hJ0⟩,by dsimp only;omega,?_,?_⟩
 ·exact cuw hw0
 exact cuw hw0
def L8 (n_:Int) (lo:Int) (hi:Int):Option (Bool):=
 (bif (decide (lo≤n_))then some (decide (n_≤hi))else some false)
theorem Jb (n_:Int) (lo:Int) (hi:Int) {r:Bool} (h:L8 n_ lo hi=some r):Ad Tryz.prog 187 [.int .i64 n_,.int .i64 lo,.int .i64 hi] (·= .bool r):=by
 refine Ad.nle (Ad.intro Tryz.func187 rfl rfl (by show _≤15;simp) ?_)
 unfold L8 at h
 refine nS (sq ?_)
 refine ar rfl (qn (sq ?_))
 refine rg rfl fun K j=>?_
 revert h;refine gt (fun hc h=>?_) fun hc h=>?_
 ·refine j _ _ (qn (rt ?_))
  cases h;exact en Tryz.results187
 refine j _ _ (qn (rt ?_))
 cases h;exact en Tryz.results187
def Nz (id_:Int) (k0:Nat) (x_2:Bh) (sv:Unit):Option (Out (Unit) (Int)):=
 (bif (decide (x_2.ID=id_))then some (Out.ret ((k0:Nat):Int))else some (Out.next ()))
def Na (l:List Bh) (id_:Int):Option (Int):=
 (Am (Nz id_) 0 l ()).bind fun o0=>o0.on fun s0=>some (-1)
theorem bS (l:List Bh) (id_:Int) {r:Int} (h:Na l id_=some r):Ad Tryz.prog 188 [.sl 7 (l.map Ap),.int .i64 id_] (·= .int .i64 r):=by
 refine Ad.nle (Ad.intro Tryz.func188 rfl rfl (by show _≤20;simp) ?_)
 unfold Na at h
 refine nS (sq ?_)
 refine ar rfl (qn (sq (sq ?_)))
 refine ar rfl (qn (bk ?_))
 obtain⟨o0,hJ0,hO0⟩:=Af h
 clear h
 refine AWP.Bw (ι:=Nat×(Unit)×(Unit)) (fun zz=>[(0,.sl 7 (l.map Ap)),(1,.int .i64 id_),(5,.int .i64 ((zz.1:Nat):Int))]) (fun zz=>[]) (fun zz=>zz.1≤l.length∧Am (Nz id_) zz.1 ((l).drop zz.1) zz.2.1=some o0) (fun zz=>l.length - zz.1) (0,(),()) ⟨Nat.zero_le _,hJ0⟩ cu cu (fun x=>⟨rfl,rfl,rfl⟩) ?_
 clear hJ0
 rintro⟨k0,⟨⟩,⟨⟩⟩ ⟨hk0,hJ0⟩
 dsimp only at hk0 hJ0 ⊢
 refine sq (sq ?_)
 refine rg rfl fun K j=>?_
 intro hm
 refine j _ _ (qn ?_)
 refine AWP.cond (Ak (fun hc=>?_) (fun hc=>?_))
 rotate_left
 ·obtain rfl:=Bf hJ0 (fun hl=>by have:=Aiz hc;omega)
  have h:=Be hO0;try dsimp only at h
  have hkl:l.length=k0:=by have:=Aiz hc;omega
  subst hkl
  refine xt (qe (qe (bs (qn (sq (ar rfl (qn (rt ?_))))))))
  cases h;exact en Tryz.results188
 have hlt0:k0<l.length:=by have:=Ai0 hc;omega
 obtain⟨x_2,b0,hx0_,h,hJ0⟩:=A9 hJ0 hlt0
 have hx0:=Ay hx0_
 have hw0:=wk (k:=k0) (by omega)
 unfold Nz at h;try dsimp only at h
 refine sk (qn (sq (bk (sq ?_))))
 refine rg rfl fun K j=>?_
 refine Bn.of (f:=Ap) (l:=l) hx0 ?_
 refine nS ?_
 refine j _ _ (qn ?_)
 revert h;refine ca rfl (fun hc h=>?_) fun hc h=>?_
 ·refine sq (ar rfl (qn (rt (br (qr (qr ?_))))))
  obtain rfl:=Aa h
  obtain rfl:=Ae hJ0
  replace h:=Al hO0
  refine br (qr ?_)
  cases h;exact en Tryz.results188
 refine sk (bn (qn (ar rfl (qn ?_))))
 obtain rfl:=Aa h
 refine⟨(k0+1,(),()),⟨by dsimp only;omega,Ai hJ0⟩,by dsimp only;omega,?_,?_⟩
 ·exact cuw hw0
 exact cuw hw0
def Mz (m:Bh):Option (Bool):=
 (L8 m.State 0 4).bind fun y1=>some y1
theorem Vw (m:Bh) {r:Bool} (h:Mz m=some r):Ad Tryz.prog 189 [.agg (Ap m)] (·= .bool r):=by
 refine Ad.nle (Ad.intro Tryz.func189 rfl rfl (by show _≤6;simp) ?_)
 unfold Mz at h
 refine nS (sq ?_)
 refine ar rfl (qn (sq ?_))
 refine rg rfl fun K j=>?_
 obtain⟨y1,hy1,h⟩:=Af h
 refine An.pure Tryz.call187 (Jb m.State 0 4 hy1) rfl fun _ hr=>?_
 subst hr
 refine nS ?_
 refine j _ _ (qn (rt ?_))
 cases h;exact en Tryz.results189
def Ny (slide:Int) (k0:Nat) (x_2:Bh) (sv:Unit):Option (Out (Unit) (Bool)):=
 (Mz x_2).bind fun y3=>(bif y3 then(bif (decide (x_2.Slide=slide))then some (Out.ret true)else some (Out.next ()))else some (Out.next ()))
def Pq (l:List Bh) (slide:Int):Option (Bool):=
 (Am (Ny slide) 0 l ()).bind fun o0=>o0.on fun s0=>some false
theorem bR (l:List Bh) (slide:Int) {r:Bool} (h:Pq l slide=some r):Ad Tryz.prog 190 [.sl 7 (l.map Ap),.int .i64 slide] (·= .bool r):=by
 refine Ad.nle (Ad.intro Tryz.func190 rfl rfl (by show _≤26;simp) ?_)
 unfold Pq at h
 refine nS (sq ?_)
 refine ar rfl (qn (sq (sq ?_)))
 refine ar rfl (qn (bk ?_))
 obtain⟨o0,hJ0,hO0⟩:=Af h
 clear h
 refine AWP.Bw (ι:=Nat×(Unit)×(Unit)) (fun zz=>[(0,.sl 7 (l.map Ap)),(1,.int .i64 slide),(5,.int .i64 ((zz.1:Nat):Int))]) (fun zz=>[]) (fun zz=>zz.1≤l.length∧Am (Ny slide) zz.1 ((l).drop zz.1) zz.2.1=some o0) (fun zz=>l.length - zz.1) (0,(),()) ⟨Nat.zero_le _,hJ0⟩ cu cu (fun x=>⟨rfl,rfl,rfl⟩) ?_
 clear hJ0
 rintro⟨k0,⟨⟩,⟨⟩⟩ ⟨hk0,hJ0⟩
 dsimp only at hk0 hJ0 ⊢
 refine sq (sq ?_)
 refine rg rfl fun K j=>?_
 intro hm
 refine j _ _ (qn ?_)
 refine AWP.cond (Ak (fun hc=>?_) (fun hc=>?_))
 rotate_left
 ·obtain rfl:=Bf hJ0 (fun hl=>by have:=Aiz hc;omega)
  have h:=Be hO0;try dsimp only at h
  have hkl:l.length=k0:=by have:=Aiz hc;omega
  subst hkl
  refine xt (qe (qe (bs (qn (sq (ar rfl (qn (rt ?_))))))))
  cases h;exact en Tryz.results190
 have hlt0:k0<l.length:=by have:=Ai0 hc;omega
 obtain⟨x_2,b0,hx0_,h,hJ0⟩:=A9 hJ0 hlt0
 have hx0:=Ay hx0_
 have hw0:=wk (k:=k0) (by omega)
 unfold Ny at h;try dsimp only at h
 refine sk (qn (sq (bk (sq ?_))))
 refine rg rfl fun K j=>?_
 refine Bn.of (f:=Ap) (l:=l) hx0 ?_
 refine nS ?_
 obtain⟨y3,hy3,h⟩:=Af h
 refine An.pure Tryz.call189 (Vw x_2 hy3) rfl fun _ hr=>?_
 subst hr
 refine nS ?_
 revert h;refine gt (fun hc h=>?_) fun hc h=>?_
 ·refine Bn.of (f:=Ap) (l:=l) hx0 ?_
  refine nS ?_
  refine j _ _ (qn ?_)
  revert h;refine ca rfl (fun hc h=>?_) fun hc h=>?_
  ·refine sq (ar rfl (qn (rt (br (qr (qr ?_))))))
   obtain rfl:=Aa h
   obtain rfl:=Ae hJ0
   replace h:=Al hO0
   refine br (qr ?_)
   cases h;exact en Tryz.results190
  refine sk (bn (qn (ar rfl (qn ?_))))
  obtain rfl:=Aa h
  refine⟨(k0+1,(),()),⟨by dsimp only;omega,Ai hJ0⟩,by dsimp only;omega,?_,?_⟩
  ·exact cuw hw0
  exact cuw hw0
 refine j _ _ (qn ?_)
 refine AWP.cond (Bk ?_)
 refine sk (bn (qn (ar rfl (qn ?_))))
 obtain rfl:=Aa h
 refine⟨(k0+1,(),()),⟨by dsimp only;omega,Ai hJ0⟩,by dsimp only;omega,?_,?_⟩
 ·exact cuw hw0
 exact cuw hw0
def He (l:List Bh) (k0:Nat) (x_2:Bh) (sv:Unit):Option (Out (Unit) (Int)):=
 (L8 x_2.ID 1 9999).bind fun y3=>(bif (!y3)then some (Out.ret 2)else (L8 x_2.Slide 1 9999).bind fun y4=>(bif (!y4)then some (Out.ret 2)else (L8 x_2.By 1 9999).bind fun y5=>(bif (!y5)then some (Out.ret 2)else (L8 x_2.State 0 6).bind fun y6=>(bif (!y6)then some (Out.ret 2)else (L8 x_2.Since 0 20000000).bind fun y7=>(bif (!y7)then some (Out.ret 2)else (bif (decide (x_2.Window.From<0))then some (Out.ret 2)else (bif (decide (x_2.Window.To≤x_2.Window.From))then some (Out.ret 2)else (bif (decide (20000000<x_2.Window.To))then some (Out.ret 2)else okB (decide (0≤((k0:Nat):Int)∧((k0:Nat):Int)≤((l.length:Nat):Int))) ((Na (l.take k0) x_2.ID).bind fun y8=>(bif (decide (0≤y8))then some (Out.ret 7)else (Mz x_2).bind fun y9=>(bif y9 then okB (decide (0≤((k0:Nat):Int)∧((k0:Nat):Int)≤((l.length:Nat):Int))) ((Pq (l.take k0) x_2.Slide).bind fun y10=>(bif y10 then some (Out.ret 15)else some (Out.next ())))else some (Out.next ()))))))))))))
def H5 (l:List Bh):Option (Int):=
 (bif (decide (64<((l.length:Nat):Int)))then some 4 else(Am (He l) 0 l ()).bind fun o0=>o0.on fun s0=>some 0)
theorem bT (l:List Bh) {r:Int} (h:H5 l=some r):Ad Tryz.prog 91 [.sl 7 (l.map Ap)] (·= .int .i64 r):=by
 refine Ad.nle (Ad.intro Tryz.func91 rfl rfl (by show _≤86;simp) ?_)
 unfold H5 at h
 refine nS (sq ?_)
 refine ar rfl (qn (sq (sq ?_)))
 refine rg rfl fun K j=>?_
 intro hm
 refine j _ _ (qn ?_)
 revert h;refine ca rfl (fun hc h=>?_) fun hc h=>?_
 ·refine sq (ar rfl (qn (rt (qr ?_))))
  cases h;exact en Tryz.results91
 refine sk (qn (sq (sq (ar rfl (qn (bk ?_))))))
 obtain⟨o0,hJ0,hO0⟩:=Af h
 clear h
 refine AWP.Bw (ι:=Nat×(Unit)×(Unit)) (fun zz=>[(0,.sl 7 (l.map Ap)),(3,.int .i64 ((zz.1:Nat):Int))]) (fun zz=>[]) (fun zz=>zz.1≤l.length∧Am (He l) zz.1 ((l).drop zz.1) zz.2.1=some o0) (fun zz=>l.length - zz.1) (0,(),()) ⟨Nat.zero_le _,hJ0⟩ cu cu (fun x=>⟨rfl,rfl,rfl⟩) ?_
 clear hJ0
 rintro⟨k0,⟨⟩,⟨⟩⟩ ⟨hk0,hJ0⟩
 dsimp only at hk0 hJ0 ⊢
 refine sq (sq ?_)
 refine rg rfl fun K j=>?_
 intro hm
 refine j _ _ (qn ?_)
 refine AWP.cond (Ak (fun hc=>?_) (fun hc=>?_))
 rotate_left
 ·obtain rfl:=Bf hJ0 (fun hl=>by have:=Aiz hc;omega)
  have h:=Be hO0;try dsimp only at h
  have hkl:l.length=k0:=by have:=Aiz hc;omega
  subst hkl
  refine xt (qe (qe (bs (qn (sq (ar rfl (qn (rt ?_))))))))
  cases h;exact en Tryz.results91
 have hlt0:k0<l.length:=by have:=Ai0 hc;omega
 obtain⟨x_2,b0,hx0_,h,hJ0⟩:=A9 hJ0 hlt0
 have hx0:=Ay hx0_
 have hw0:=wk (k:=k0) (by omega)
 unfold He at h;try dsimp only at h
 refine sk (qn (sq (bk (sq ?_))))
 refine rg rfl fun K j=>?_
 refine Bn.of (f:=Ap) (l:=l) hx0 ?_
 refine nS ?_
 refine j _ _ (qn (sq ?_))
 refine ar rfl (qn (bk (sq ?_)))
 refine rg rfl fun K j=>?_
 obtain⟨y3,hy3,h⟩:=Af h
 refine An.pure Tryz.call187 (Jb x_2.ID 1 9999 hy3) rfl fun _ hr=>?_
 subst hr
 refine nS ?_
 revert h;refine gf (fun hc h=>?_) fun hc h=>?_
 rotate_left
 ·refine j _ _ (qn ?_)
  refine AWP.cond (Ah ?_)
  refine sq (ar rfl (qn (rt (br (br (qr (qr ?_)))))))
  obtain rfl:=Aa h
  obtain rfl:=Ae hJ0
  replace h:=Al hO0
  refine br (qr ?_)
  cases h;exact en Tryz.results91
 obtain⟨y4,hy4,h⟩:=Af h
 refine An.pure Tryz.call187 (Jb x_2.Slide 1 9999 hy4) rfl fun _ hr=>?_
 subst hr
 refine nS ?_
 revert h;refine gf (fun hc h=>?_) fun hc h=>?_
 rotate_left
 ·refine j _ _ (qn ?_)
  refine AWP.cond (Ah ?_)
  refine sq (ar rfl (qn (rt (br (br (qr (qr ?_)))))))
  obtain rfl:=Aa h
  obtain rfl:=Ae hJ0
  replace h:=Al hO0
  refine br (qr ?_)
  cases h;exact en Tryz.results91
 obtain⟨y5,hy5,h⟩:=Af h
 refine An.pure Tryz.call187 (Jb x_2.By 1 9999 hy5) rfl fun _ hr=>?_
 subst hr
 refine nS ?_
 revert h;refine gf (fun hc h=>?_) fun hc h=>?_
 rotate_left
 ·refine j _ _ (qn ?_)
  refine AWP.cond (Ah ?_)
  refine sq (ar rfl (qn (rt (br (br (qr (qr ?_)))))))
  obtain rfl:=Aa h
  obtain rfl:=Ae hJ0
  replace h:=Al hO0
  refine br (qr ?_)
  cases h;exact en Tryz.results91
 obtain⟨y6,hy6,h⟩:=Af h
 refine An.pure Tryz.call187 (Jb x_2.State 0 6 hy6) rfl fun _ hr=>?_
 subst hr
 refine nS ?_
 revert h;refine gf (fun hc h=>?_) fun hc h=>?_
 rotate_left
 ·refine j _ _ (qn ?_)
  refine AWP.cond (Ah ?_)
  refine sq (ar rfl (qn (rt (br (br (qr (qr ?_)))))))
  obtain rfl:=Aa h
  obtain rfl:=Ae hJ0
  replace h:=Al hO0
  refine br (qr ?_)
  cases h;exact en Tryz.results91
 obtain⟨y7,hy7,h⟩:=Af h
 refine An.pure Tryz.call187 (Jb x_2.Since 0 20000000 hy7) rfl fun _ hr=>?_
 subst hr
 refine nS ?_
 revert h;refine gf (fun hc h=>?_) fun hc h=>?_
 rotate_left
 ·refine j _ _ (qn ?_)
  refine AWP.cond (Ah ?_)
  refine sq (ar rfl (qn (rt (br (br (qr (qr ?_)))))))
  obtain rfl:=Aa h
  obtain rfl:=Ae hJ0
  replace h:=Al hO0
  refine br (qr ?_)
  cases h;exact en Tryz.results91
 revert h;refine gf (fun hc h=>?_) fun hc h=>?_
 rotate_left
 ·refine j _ _ (qn ?_)
  refine AWP.cond (Ah ?_)
  refine sq (ar rfl (qn (rt (br (br (qr (qr ?_)))))))
  obtain rfl:=Aa h
  obtain rfl:=Ae hJ0
  replace h:=Al hO0
  refine br (qr ?_)
  cases h;exact en Tryz.results91
 revert h;refine gf (fun hc h=>?_) fun hc h=>?_
 rotate_left
 ·refine j _ _ (qn ?_)
  refine AWP.cond (Ah ?_)
  refine sq (ar rfl (qn (rt (br (br (qr (qr ?_)))))))
  obtain rfl:=Aa h
  obtain rfl:=Ae hJ0
  replace h:=Al hO0
  refine br (qr ?_)
  cases h;exact en Tryz.results91
 refine j _ _ (qn ?_)
 revert h;refine ca rfl (fun hc h=>?_) fun hc h=>?_
 ·refine sq (ar rfl (qn (rt (br (br (qr (qr ?_)))))))
  obtain rfl:=Aa h
  obtain rfl:=Ae hJ0
  replace h:=Al hO0
  refine br (qr ?_)
  cases h;exact en Tryz.results91
 refine sq ?_
 refine AWP.draw Tryz.mixed (by kernel_rfl) ?_;intro K j
 refine nS ?_
 obtain⟨hk,h⟩:=Jm h
 intro hm
 (repeat(refine⟨by omega,?_⟩))
 obtain⟨y8,hy8,h⟩:=Af h
 refine B7.pure Tryz.call188 (bS (l.take k0) x_2.ID hy8) rfl ?_
 refine nS ?_
 refine j _ _ _ (by kernel_rfl) ?_
 refine qn ?_
 revert h;refine ca rfl (fun hc h=>?_) fun hc h=>?_
 ·refine sq (ar rfl (qn (rt (br (br (qr (qr ?_)))))))
  obtain rfl:=Aa h
  obtain rfl:=Ae hJ0
  replace h:=Al hO0
  refine br (qr ?_)
  cases h;exact en Tryz.results91
 refine sq ?_
 refine AWP.draw Tryz.mixed (by kernel_rfl) ?_;intro K j
 refine nS ?_
 obtain⟨y9,hy9,h⟩:=Af h
 refine B7.pure Tryz.call189 (Vw x_2 hy9) rfl ?_
 refine nS ?_
 revert h;refine gt (fun hc h=>?_) fun hc h=>?_
 ·obtain⟨hk,h⟩:=Jm h
  intro hm
  (repeat(refine⟨by omega,?_⟩))
  obtain⟨y10,hy10,h⟩:=Af h
  refine B7.pure Tryz.call190 (bR (l.take k0) x_2.Slide hy10) rfl ?_
  refine nS ?_
  refine j _ _ _ (by kernel_rfl) ?_
  refine qn ?_
  revert h;refine ca rfl (fun hc h=>?_) fun hc h=>?_
  ·refine sq (ar rfl (qn (rt (br (br (qr (qr ?_)))))))
   obtain rfl:=Aa h
   obtain rfl:=Ae hJ0
   replace h:=Al hO0
   refine br (qr ?_)
   cases h;exact en Tryz.results91
  refine sk (bn (bn (qn (ar rfl (qn ?_)))))
  obtain rfl:=Aa h
  refine⟨(k0+1,(),()),⟨by dsimp only;omega,Ai hJ0⟩,by dsimp only;omega,?_,?_⟩
  ·exact cuw hw0
  exact cuw hw0
 refine j _ _ _ (by kernel_rfl) ?_
 refine qn ?_
 refine AWP.cond (Bk ?_)
 refine sk (bn (bn (qn (ar rfl (qn ?_)))))
 obtain rfl:=Aa h
 refine⟨(k0+1,(),()),⟨by dsimp only;omega,Ai hJ0⟩,by dsimp only;omega,?_,?_⟩
 ·exact cuw hw0
 exact cuw hw0
def Ma (l:List Int) (k0:Nat) (x_2:Int) (sv:Unit):Option (Out (Unit) (Bool)):=
 (bif (decide (x_2<1))then some (Out.ret false)else (bif (decide (9999<x_2))then some (Out.ret false)else (bif (decide (0<((k0:Nat):Int)))then (Dk l (IntKind.i64.wrap (((k0:Nat):Int) - 1))).bind fun x_3=>(bif (decide (x_2≤x_3))then some (Out.ret false)else some (Out.next ()))else some (Out.next ()))))
def Ow (l:List Int):Option (Bool):=
 (Am (Ma l) 0 l ()).bind fun o0=>o0.on fun s0=>some (decide (0<((l.length:Nat):Int)))
theorem eL (l:List Int) {r:Bool} (h:Ow l=some r):Ad Tryz.prog 191 [.sl 1 (l.map A2)] (·= .bool r):=by
 refine Ad.nle (Ad.intro Tryz.func191 rfl rfl (by show _≤41;simp) ?_)
 unfold Ow at h
 refine nS (sq ?_)
 refine ar rfl (qn (sq (sq ?_)))
 refine ar rfl (qn (bk ?_))
 obtain⟨o0,hJ0,hO0⟩:=Af h
 clear h
 refine AWP.Bw (ι:=Nat×(Unit)×(Unit)) (fun zz=>[(0,.sl 1 (l.map A2)),(3,.int .i64 ((zz.1:Nat):Int))]) (fun zz=>[]) (fun zz=>zz.1≤l.length∧Am (Ma l) zz.1 ((l).drop zz.1) zz.2.1=some o0) (fun zz=>l.length - zz.1) (0,(),()) ⟨Nat.zero_le _,hJ0⟩ cu cu (fun x=>⟨rfl,rfl,rfl⟩) ?_
 clear hJ0
 rintro⟨k0,⟨⟩,⟨⟩⟩ ⟨hk0,hJ0⟩
 dsimp only at hk0 hJ0 ⊢
 refine sq (sq ?_)
 refine rg rfl fun K j=>?_
 intro hm
 refine j _ _ (qn ?_)
 refine AWP.cond (Ak (fun hc=>?_) (fun hc=>?_))
 rotate_left
 ·obtain rfl:=Bf hJ0 (fun hl=>by have:=Aiz hc;omega)
  have h:=Be hO0;try dsimp only at h
  have hkl:l.length=k0:=by have:=Aiz hc;omega
  subst hkl
  refine xt (qe (qe (bs (qn (sq ?_)))))
  refine rg rfl fun K j=>?_
  intro hm
  refine j _ _ (qn (rt ?_))
  cases h;exact en Tryz.results191
 have hlt0:k0<l.length:=by have:=Ai0 hc;omega
 obtain⟨x_2,b0,hx0_,h,hJ0⟩:=A9 hJ0 hlt0
 have hx0:=Ay hx0_
 have hw0:=wk (k:=k0) (by omega)
 unfold Ma at h;try dsimp only at h
 refine sk (qn (sq (bk (sq ?_))))
 refine AWP.draw Tryz.mixed (by kernel_rfl) ?_;intro K j
 refine nS ?_
 refine Bn.of (f:=A2) (l:=l) hx0 ?_
 refine nS ?_
 revert h;refine gf (fun hc h=>?_) fun hc h=>?_
 rotate_left
 ·refine j _ _ _ (by kernel_rfl) ?_
  refine qn ?_
  refine AWP.cond (Ah ?_)
  refine sq (ar rfl (qn (rt (br (qr (qr ?_))))))
  obtain rfl:=Aa h
  obtain rfl:=Ae hJ0
  replace h:=Al hO0
  refine br (qr ?_)
  cases h;exact en Tryz.results191
 refine Bn.of (f:=A2) (l:=l) hx0 ?_
 refine nS ?_
 revert h;refine gf (fun hc h=>?_) fun hc h=>?_
 rotate_left
 ·refine j _ _ _ (by kernel_rfl) ?_
  refine qn ?_
  refine AWP.cond (Ah ?_)
  refine sq (ar rfl (qn (rt (br (qr (qr ?_))))))
  obtain rfl:=Aa h
  obtain rfl:=Ae hJ0
  replace h:=Al hO0
  refine br (qr ?_)
  cases h;exact en Tryz.results191
 revert h;refine gt (fun hc h=>?_) fun hc h=>?_
 ·refine Bn.of (f:=A2) (l:=l) hx0 ?_
  refine nS ?_
  obtain⟨x_3,hx_3,h⟩:=Af h
  refine Bn.of (f:=A2) (l:=l) hx_3 ?_
  refine nS ?_
  refine j _ _ _ (by kernel_rfl) ?_
  refine qn ?_
  revert h;refine ca rfl (fun hc h=>?_) fun hc h=>?_
  ·refine sq (ar rfl (qn (rt (br (qr (qr ?_))))))
   obtain rfl:=Aa h
   obtain rfl:=Ae hJ0
   replace h:=Al hO0
   refine br (qr ?_)
   cases h;exact en Tryz.results191
  refine sk (bn (qn (ar rfl (qn ?_))))
  obtain rfl:=Aa h
  refine⟨(k0+1,(),()),⟨by dsimp only;omega,Ai hJ0⟩,by dsimp only;omega,?_,?_⟩
  ·exact cuw hw0
  exact cuw hw0
 refine j _ _ _ (by kernel_rfl) ?_
 refine qn ?_
 refine AWP.cond (Bk ?_)
 refine sk (bn (qn (ar rfl (qn ?_))))
 obtain rfl:=Aa h
 refine⟨(k0+1,(),()),⟨by dsimp only;omega,Ai hJ0⟩,by dsimp only;omega,?_,?_⟩
 ·exact cuw hw0
 exact cuw hw0
def Uy (n_:Int) (k0:Nat) (x_2:Int) (sv:Unit):Option (Out (Unit) (Bool)):=
 (bif (decide (x_2=n_))then some (Out.ret true)else some (Out.next ()))
def Q5 (l:List Int) (n_:Int):Option (Bool):=
 (Am (Uy n_) 0 l ()).bind fun o0=>o0.on fun s0=>some false
theorem fV (l:List Int) (n_:Int) {r:Bool} (h:Q5 l n_=some r):Ad Tryz.prog 217 [.sl 1 (l.map A2),.int .i64 n_] (·= .bool r):=by
 refine Ad.nle (Ad.intro Tryz.func217 rfl rfl (by show _≤18;simp) ?_)
 unfold Q5 at h
 refine nS (sq ?_)
 refine ar rfl (qn (sq (sq ?_)))
 refine ar rfl (qn (bk ?_))
 obtain⟨o0,hJ0,hO0⟩:=Af h
 clear h
 refine AWP.Bw (ι:=Nat×(Unit)×(Unit)) (fun zz=>[(0,.sl 1 (l.map A2)),(1,.int .i64 n_),(5,.int .i64 ((zz.1:Nat):Int))]) (fun zz=>[]) (fun zz=>zz.1≤l.length∧Am (Uy n_) zz.1 ((l).drop zz.1) zz.2.1=some o0) (fun zz=>l.length - zz.1) (0,(),()) ⟨Nat.zero_le _,hJ0⟩ cu cu (fun x=>⟨rfl,rfl,rfl⟩) ?_
 clear hJ0
 rintro⟨k0,⟨⟩,⟨⟩⟩ ⟨hk0,hJ0⟩
 dsimp only at hk0 hJ0 ⊢
 refine sq (sq ?_)
 refine rg rfl fun K j=>?_
 intro hm
 refine j _ _ (qn ?_)
 refine AWP.cond (Ak (fun hc=>?_) (fun hc=>?_))
 rotate_left
 ·obtain rfl:=Bf hJ0 (fun hl=>by have:=Aiz hc;omega)
  have h:=Be hO0;try dsimp only at h
  have hkl:l.length=k0:=by have:=Aiz hc;omega
  subst hkl
  refine xt (qe (qe (bs (qn (sq (ar rfl (qn (rt ?_))))))))
  cases h;exact en Tryz.results217
 have hlt0:k0<l.length:=by have:=Ai0 hc;omega
 obtain⟨x_2,b0,hx0_,h,hJ0⟩:=A9 hJ0 hlt0
 have hx0:=Ay hx0_
 have hw0:=wk (k:=k0) (by omega)
 unfold Uy at h;try dsimp only at h
 refine sk (qn (sq (bk (sq ?_))))
 refine rg rfl fun K j=>?_
 refine Bn.of (f:=A2) (l:=l) hx0 ?_
 refine nS ?_
 refine j _ _ (qn ?_)
 revert h;refine ca rfl (fun hc h=>?_) fun hc h=>?_
 ·refine sq (ar rfl (qn (rt (br (qr (qr ?_))))))
  obtain rfl:=Aa h
  obtain rfl:=Ae hJ0
  replace h:=Al hO0
  refine br (qr ?_)
  cases h;exact en Tryz.results217
 refine sk (bn (qn (ar rfl (qn ?_))))
 obtain rfl:=Aa h
 refine⟨(k0+1,(),()),⟨by dsimp only;omega,Ai hJ0⟩,by dsimp only;omega,?_,?_⟩
 ·exact cuw hw0
 exact cuw hw0
def Kj (b:A8) (k0:Nat) (x_2:Int) (sv:Unit):Option (Out (Unit) (Bool)):=
 (Q5 b.Runs x_2).bind fun y3=>(bif y3 then some (Out.ret true)else some (Out.next ()))
def Ps (a:A8) (b:A8):Option (Bool):=
 (bif (decide (b.To≤a.From))then some false else(bif (decide (a.To≤b.From))then some false else(Am (Kj b) 0 a.Runs ()).bind fun o0=>o0.on fun s0=>some (decide (a.Groomer=b.Groomer))))
theorem bY (a:A8) (b:A8) {r:Bool} (h:Ps a b=some r):Ad Tryz.prog 192 [.agg (Ao a),.agg (Ao b)] (·= .bool r):=by
 refine Ad.nle (Ad.intro Tryz.func192 rfl rfl (by show _≤38;simp) ?_)
 unfold Ps at h
 refine nS (sq ?_)
 refine ar rfl (qn (sq (sq ?_)))
 refine rg rfl fun K j=>?_
 revert h;refine gf (fun hc h=>?_) fun hc h=>?_
 rotate_left
 ·refine j _ _ (qn ?_)
  refine AWP.cond (Ah ?_)
  refine sq (ar rfl (qn (rt (qr ?_))))
  cases h;exact en Tryz.results192
 refine j _ _ (qn ?_)
 revert h;refine ca rfl (fun hc h=>?_) fun hc h=>?_
 ·refine sq (ar rfl (qn (rt (qr ?_))))
  cases h;exact en Tryz.results192
 refine sk (qn (sq (sq (ar rfl (qn (bk ?_))))))
 obtain⟨o0,hJ0,hO0⟩:=Af h
 clear h
 refine AWP.Bw (ι:=Nat×(Unit)×(Unit)) (fun zz=>[(2,.ptr 0 0),(3,.ptr 1 0),(5,.int .i64 ((zz.1:Nat):Int))]) (fun zz=>[.box [.int .i64 a.Groomer,.int .i64 a.From,.int .i64 a.To,.sl 1 (a.Runs.map A2)],.box [.int .i64 b.Groomer,.int .i64 b.From,.int .i64 b.To,.sl 1 (b.Runs.map A2)]]) (fun zz=>zz.1≤a.Runs.length∧Am (Kj b) zz.1 ((a.Runs).drop zz.1) zz.2.1=some o0) (fun zz=>a.Runs.length - zz.1) (0,(),()) ⟨Nat.zero_le _,hJ0⟩ cu cu (fun x=>⟨rfl,rfl,rfl⟩) ?_
 clear hJ0
 rintro⟨k0,⟨⟩,⟨⟩⟩ ⟨hk0,hJ0⟩
 dsimp only at hk0 hJ0 ⊢
 refine sq (sq ?_)
 refine rg rfl fun K j=>?_
 intro hm
 refine j _ _ (qn ?_)
 refine AWP.cond (Ak (fun hc=>?_) (fun hc=>?_))
 rotate_left
 ·obtain rfl:=Bf hJ0 (fun hl=>by have:=Aiz hc;omega)
  have h:=Be hO0;try dsimp only at h
  have hkl:a.Runs.length=k0:=by have:=Aiz hc;omega
  subst hkl
  refine xt (qe (qe (bs (qn (sq (ar rfl (qn (rt ?_))))))))
  cases h;exact en Tryz.results192
 have hlt0:k0<a.Runs.length:=by have:=Ai0 hc;omega
 obtain⟨x_2,b0,hx0_,h,hJ0⟩:=A9 hJ0 hlt0
 have hx0:=Ay hx0_
 have hw0:=wk (k:=k0) (by omega)
 unfold Kj at h;try dsimp only at h
 refine sk (qn (sq (bk (sq ?_))))
 refine AWP.draw Tryz.mixed (by kernel_rfl) ?_;intro K j
 refine nS ?_
 refine Bn.of (f:=A2) (l:=a.Runs) hx0 ?_
 refine nS ?_
 obtain⟨y3,hy3,h⟩:=Af h
 refine B7.pure Tryz.call217 (fV b.Runs x_2 hy3) rfl ?_
 refine nS ?_
 refine j _ _ _ (by kernel_rfl) ?_
 refine qn ?_
 revert h;refine ca rfl (fun hc h=>?_) fun hc h=>?_
 ·refine sq (ar rfl (qn (rt (br (qr (qr ?_))))))
  obtain rfl:=Aa h
  obtain rfl:=Ae hJ0
  replace h:=Al hO0
  refine br (qr ?_)
  cases h;exact en Tryz.results192
 refine sk (bn (qn (ar rfl (qn ?_))))
 obtain rfl:=Aa h
 refine⟨(k0+1,(),()),⟨by dsimp only;omega,Ai hJ0⟩,by dsimp only;omega,?_,?_⟩
 ·exact cuw hw0
 exact cuw hw0
def Ec (l:List A8) (x_2:A8) (k3:Nat) (_x:Unit) (sv:Unit):Option (Out (Unit) (Out (Unit) (Int))):=
 (Dk l ((k3:Nat):Int)).bind fun x_5=>(Ps x_5 x_2).bind fun y6=>(bif y6 then some (Out.ret (Out.ret 15))else some (Out.next ()))
def E3 (l:List A8) (k0:Nat) (x_2:A8) (sv:Unit):Option (Out (Unit) (Int)):=
 (bif (decide (x_2.Groomer<1))then some (Out.ret 2)else (bif (decide (9999<x_2.Groomer))then some (Out.ret 2)else (bif (decide (x_2.From<0))then some (Out.ret 2)else (bif (decide (x_2.To≤x_2.From))then some (Out.ret 2)else (bif (decide (20000000<x_2.To))then some (Out.ret 2)else (Ow x_2.Runs).bind fun y3=>(bif (!y3)then some (Out.ret 1)else (J0 (Ec l x_2) k0 ()).bind fun o3=>o3.on fun s3=>some (Out.next ())))))))
def Nc (l:List A8):Option (Int):=
 (bif (decide (16<((l.length:Nat):Int)))then some 4 else(Am (E3 l) 0 l ()).bind fun o0=>o0.on fun s0=>some 0)
theorem bZ (l:List A8) {r:Int} (h:Nc l=some r):Ad Tryz.prog 92 [.sl 4 (l.map Ao)] (·= .int .i64 r):=by
 refine Ad.nle (Ad.intro Tryz.func92 rfl rfl (by show _≤59;simp) ?_)
 unfold Nc at h
 refine nS (sq ?_)
 refine ar rfl (qn (sq (sq ?_)))
 refine rg rfl fun K j=>?_
 intro hm
 refine j _ _ (qn ?_)
 revert h;refine ca rfl (fun hc h=>?_) fun hc h=>?_
 ·refine sq (ar rfl (qn (rt (qr ?_))))
  cases h;exact en Tryz.results92
 refine sk (qn (sq (sq (ar rfl (qn (bk ?_))))))
 obtain⟨o0,hJ0,hO0⟩:=Af h
 clear h
 refine AWP.Bw (ι:=Nat×(Unit)×(Unit)) (fun zz=>[(0,.sl 4 (l.map Ao)),(3,.int .i64 ((zz.1:Nat):Int))]) (fun zz=>[]) (fun zz=>zz.1≤l.length∧Am (E3 l) zz.1 ((l).drop zz.1) zz.2.1=some o0) (fun zz=>l.length - zz.1) (0,(),()) ⟨Nat.zero_le _,hJ0⟩ cu cu (fun x=>⟨rfl,rfl,rfl⟩) ?_
 clear hJ0
 rintro⟨k0,⟨⟩,⟨⟩⟩ ⟨hk0,hJ0⟩
 dsimp only at hk0 hJ0 ⊢
 refine sq (sq ?_)
 refine rg rfl fun K j=>?_
 intro hm
 refine j _ _ (qn ?_)
 refine AWP.cond (Ak (fun hc=>?_) (fun hc=>?_))
 rotate_left
 ·obtain rfl:=Bf hJ0 (fun hl=>by have:=Aiz hc;omega)
  have h:=Be hO0;try dsimp only at h
  have hkl:l.length=k0:=by have:=Aiz hc;omega
  subst hkl
  refine xt (qe (qe (bs (qn (sq (ar rfl (qn (rt ?_))))))))
  cases h;exact en Tryz.results92
 have hlt0:k0<l.length:=by have:=Ai0 hc;omega
 obtain⟨x_2,b0,hx0_,h,hJ0⟩:=A9 hJ0 hlt0
 have hx0:=Ay hx0_
 have hw0:=wk (k:=k0) (by omega)
 unfold E3 at h;try dsimp only at h
 refine sk (qn (sq (bk (sq ?_))))
 refine rg rfl fun K j=>?_
 refine Bn.of (f:=Ao) (l:=l) hx0 ?_
 refine nS ?_
 refine j _ _ (qn (sq (sq ?_)))
 refine rg rfl fun K j=>?_
 revert h;refine gf (fun hc h=>?_) fun hc h=>?_
 rotate_left
 ·refine j _ _ (qn ?_)
  refine AWP.cond (Ah ?_)
  refine sq (ar rfl (qn (rt (qr (br (qr (qr ?_)))))))
  obtain rfl:=Aa h
  obtain rfl:=Ae hJ0
  replace h:=Al hO0
  refine br (qr ?_)
  cases h;exact en Tryz.results92
 revert h;refine gf (fun hc h=>?_) fun hc h=>?_
 rotate_left
 ·refine j _ _ (qn ?_)
  refine AWP.cond (Ah ?_)
  refine sq (ar rfl (qn (rt (qr (br (qr (qr ?_)))))))
  obtain rfl:=Aa h
  obtain rfl:=Ae hJ0
  replace h:=Al hO0
  refine br (qr ?_)
  cases h;exact en Tryz.results92
 revert h;refine gf (fun hc h=>?_) fun hc h=>?_
 rotate_left
 ·refine j _ _ (qn ?_)
  refine AWP.cond (Ah ?_)
  refine sq (ar rfl (qn (rt (qr (br (qr (qr ?_)))))))
  obtain rfl:=Aa h
  obtain rfl:=Ae hJ0
  replace h:=Al hO0
  refine br (qr ?_)
  cases h;exact en Tryz.results92
 revert h;refine gf (fun hc h=>?_) fun hc h=>?_
 rotate_left
 ·refine j _ _ (qn ?_)
  refine AWP.cond (Ah ?_)
  refine sq (ar rfl (qn (rt (qr (br (qr (qr ?_)))))))
  obtain rfl:=Aa h
  obtain rfl:=Ae hJ0
  replace h:=Al hO0
  refine br (qr ?_)
  cases h;exact en Tryz.results92
 refine j _ _ (qn ?_)
 revert h;refine ca rfl (fun hc h=>?_) fun hc h=>?_
 ·refine sq (ar rfl (qn (rt (qr (br (qr (qr ?_)))))))
  obtain rfl:=Aa h
  obtain rfl:=Ae hJ0
  replace h:=Al hO0
  refine br (qr ?_)
  cases h;exact en Tryz.results92
 refine sk (qn (sq (sq ?_)))
 refine rg rfl fun K j=>?_
 obtain⟨y3,hy3,h⟩:=Af h
 refine An.pure Tryz.call191 (eL x_2.Runs hy3) rfl fun _ hr=>?_
 subst hr
 refine nS ?_
 refine j _ _ (qn ?_)
 revert h;refine ca rfl (fun hc h=>?_) fun hc h=>?_
 ·refine sq (ar rfl (qn (rt (qr (br (qr (qr ?_)))))))
  obtain rfl:=Aa h
  obtain rfl:=Ae hJ0
  replace h:=Al hO0
  refine br (qr ?_)
  cases h;exact en Tryz.results92
 refine sk (qn (sq (ar rfl (qn (bk ?_)))))
 obtain⟨o3,hJ3,hO3⟩:=Af h
 clear h
 obtain⟨hn3,hJ3⟩:=Sw hJ3
 refine AWP.Bw (ι:=Nat×(Unit)×(Unit)) (fun zz=>[(0,.sl 4 (l.map Ao)),(3,.int .i64 ((k0:Nat):Int)),(4,.ptr 0 0),(5,.int .i64 ((zz.1:Nat):Int))]) (fun zz=>[.box [.int .i64 x_2.Groomer,.int .i64 x_2.From,.int .i64 x_2.To,.sl 1 (x_2.Runs.map A2)]]) (fun zz=>zz.1≤k0∧Am (Ec l x_2) zz.1 ((List.replicate k0 ()).drop zz.1) zz.2.1=some o3) (fun zz=>k0 - zz.1) (0,(),()) ⟨Nat.zero_le _,hJ3⟩ cu cu (fun x=>⟨rfl,rfl,rfl⟩) ?_
 clear hJ3
 rintro⟨k3,⟨⟩,⟨⟩⟩ ⟨hk3,hJ3⟩
 dsimp only at hk3 hJ3 ⊢
 refine sq (sq (ar rfl (qn ?_)))
 refine AWP.cond (Ak (fun hc=>?_) (fun hc=>?_))
 rotate_left
 ·obtain rfl:=Bf hJ3 (fun hl=>by rw[List.length_replicate]at hl;have:=Aiz hc;omega)
  have h:=Be hO3;try dsimp only at h
  have hkl:k0=k3:=by have:=Aiz hc;omega
  subst hkl
  refine xt (qe (qe (bs (bn (qn (ar rfl (qn ?_)))))))
  obtain rfl:=Aa h
  refine⟨(k0+1,(),()),⟨by dsimp only;omega,Ai hJ0⟩,by dsimp only;omega,?_,?_⟩
  ·exact cuw hw0
  exact cuw hw0
 have hlt3:k3<k0:=by have:=Ai0 hc;omega
 obtain⟨_,b3,_,h,hJ3⟩:=A9 hJ3 (by rw[List.length_replicate];exact hlt3)
 have hw3:=wk (k:=k3) (by omega)
 unfold Ec at h;try dsimp only at h
 refine sk (qn (sq (bk (sq ?_))))
 refine AWP.draw Tryz.mixed (by kernel_rfl) ?_;intro K j
 refine nS ?_
 obtain⟨x_5,hx_5,h⟩:=Af h
 refine Bn.of (f:=Ao) (l:=l) hx_5 ?_
 refine nS ?_
 obtain⟨y6,hy6,h⟩:=Af h
 refine B7.pure Tryz.call192 (bY x_5 x_2 hy6) rfl ?_
 refine nS ?_
 refine j _ _ _ (by kernel_rfl) ?_
 refine qn ?_
 revert h;refine ca rfl (fun hc h=>?_) fun hc h=>?_
 ·refine sq (ar rfl (qn (rt (br (qr (qr ?_))))))
  obtain rfl:=Aa h
  obtain rfl:=Ae hJ3
  replace h:=Al hO3
  refine br (br (qr (qr ?_)))
  obtain rfl:=Aa h
  obtain rfl:=Ae hJ0
  replace h:=Al hO0
  refine br (qr ?_)
  cases h;exact en Tryz.results92
 refine sk (bn (qn (ar rfl (qn ?_))))
 obtain rfl:=Aa h
 refine⟨(k3+1,(),()),⟨by dsimp only;omega,Ai hJ3⟩,by dsimp only;omega,?_,?_⟩
 ·exact cuw hw3
 exact cuw hw3
def Kl (n_:Int) (lo:Int) (hi:Int):Option (Bool):=
 (bif (decide (lo≤n_))then some (decide (n_≤hi))else some false)
theorem Gt (n_:Int) (lo:Int) (hi:Int) {r:Bool} (h:Kl n_ lo hi=some r):Ad Tryz.prog 193 [.int .i64 n_,.int .i64 lo,.int .i64 hi] (·= .bool r):=by
 refine Ad.nle (Ad.intro Tryz.func193 rfl rfl (by show _≤15;simp) ?_)
 unfold Kl at h
 refine nS (sq ?_)
 refine ar rfl (qn (sq ?_))
 refine rg rfl fun K j=>?_
 revert h;refine gt (fun hc h=>?_) fun hc h=>?_
 ·refine j _ _ (qn (rt ?_))
  cases h;exact en Tryz.results193
 refine j _ _ (qn (rt ?_))
 cases h;exact en Tryz.results193
def Kk (id_:Int) (k0:Nat) (x_2:B5) (sv:Unit):Option (Out (Unit) (Int)):=
 (bif (decide (x_2.ID=id_))then some (Out.ret ((k0:Nat):Int))else some (Out.next ()))
def Pt (l:List B5) (id_:Int):Option (Int):=
 (Am (Kk id_) 0 l ()).bind fun o0=>o0.on fun s0=>some (-1)
theorem cA (l:List B5) (id_:Int) {r:Int} (h:Pt l id_=some r):Ad Tryz.prog 194 [.sl 8 (l.map A1),.int .i64 id_] (·= .int .i64 r):=by
 refine Ad.nle (Ad.intro Tryz.func194 rfl rfl (by show _≤20;simp) ?_)
 unfold Pt at h
 refine nS (sq ?_)
 refine ar rfl (qn (sq (sq ?_)))
 refine ar rfl (qn (bk ?_))
 obtain⟨o0,hJ0,hO0⟩:=Af h
 clear h
 refine AWP.Bw (ι:=Nat×(Unit)×(Unit)) (fun zz=>[(0,.sl 8 (l.map A1)),(1,.int .i64 id_),(5,.int .i64 ((zz.1:Nat):Int))]) (fun zz=>[]) (fun zz=>zz.1≤l.length∧Am (Kk id_) zz.1 ((l).drop zz.1) zz.2.1=some o0) (fun zz=>l.length - zz.1) (0,(),()) ⟨Nat.zero_le _,hJ0⟩ cu cu (fun x=>⟨rfl,rfl,rfl⟩) ?_
 clear hJ0
 rintro⟨k0,⟨⟩,⟨⟩⟩ ⟨hk0,hJ0⟩
 dsimp only at hk0 hJ0 ⊢
 refine sq (sq ?_)
 refine rg rfl fun K j=>?_
 intro hm
 refine j _ _ (qn ?_)
 refine AWP.cond (Ak (fun hc=>?_) (fun hc=>?_))
 rotate_left
 ·obtain rfl:=Bf hJ0 (fun hl=>by have:=Aiz hc;omega)
  have h:=Be hO0;try dsimp only at h
  have hkl:l.length=k0:=by have:=Aiz hc;omega
  subst hkl
  refine xt (qe (qe (bs (qn (sq (ar rfl (qn (rt ?_))))))))
  cases h;exact en Tryz.results194
 have hlt0:k0<l.length:=by have:=Ai0 hc;omega
 obtain⟨x_2,b0,hx0_,h,hJ0⟩:=A9 hJ0 hlt0
 have hx0:=Ay hx0_
 have hw0:=wk (k:=k0) (by omega)
 unfold Kk at h;try dsimp only at h
 refine sk (qn (sq (bk (sq ?_))))
 refine rg rfl fun K j=>?_
 refine Bn.of (f:=A1) (l:=l) hx0 ?_
 refine nS ?_
 refine j _ _ (qn ?_)
 revert h;refine ca rfl (fun hc h=>?_) fun hc h=>?_
 ·refine sq (ar rfl (qn (rt (br (qr (qr ?_))))))
  obtain rfl:=Aa h
  obtain rfl:=Ae hJ0
  replace h:=Al hO0
  refine br (qr ?_)
  cases h;exact en Tryz.results194
 refine sk (bn (qn (ar rfl (qn ?_))))
 obtain rfl:=Aa h
 refine⟨(k0+1,(),()),⟨by dsimp only;omega,Ai hJ0⟩,by dsimp only;omega,?_,?_⟩
 ·exact cuw hw0
 exact cuw hw0
def Km (l:List B5) (k0:Nat) (x_2:B5) (sv:Unit):Option (Out (Unit) (Int)):=
 (Kl x_2.ID 1 9999).bind fun y3=>(bif (!y3)then some (Out.ret 2)else (Kl x_2.Node 1 9999).bind fun y4=>(bif (!y4)then some (Out.ret 2)else (Kl x_2.Fuel 0 1000000).bind fun y5=>(bif (!y5)then some (Out.ret 2)else (Kl x_2.State 0 2).bind fun y6=>(bif (!y6)then some (Out.ret 2)else (Kl x_2.Until 0 20000000).bind fun y7=>(bif (!y7)then some (Out.ret 2)else (Kl x_2.To 0 9999).bind fun y8=>(bif (!y8)then some (Out.ret 2)else (Kl x_2.Run 0 9999).bind fun y9=>(bif (!y9)then some (Out.ret 2)else okB (decide (0≤((k0:Nat):Int)∧((k0:Nat):Int)≤((l.length:Nat):Int))) ((Pt (l.take k0) x_2.ID).bind fun y10=>(bif (decide (0≤y10))then some (Out.ret 7)else (bif ((decide (x_2.To≠0)) !=(decide (x_2.State=1)))then some (Out.ret 10)else (bif ((decide (x_2.Run≠0)) !=(decide (x_2.State=2)))then some (Out.ret 10)else some (Out.next ()))))))))))))
def Nd (l:List B5):Option (Int):=
 (bif (decide (16<((l.length:Nat):Int)))then some 4 else(Am (Km l) 0 l ()).bind fun o0=>o0.on fun s0=>some 0)
theorem cB (l:List B5) {r:Int} (h:Nd l=some r):Ad Tryz.prog 93 [.sl 8 (l.map A1)] (·= .int .i64 r):=by
 refine Ad.nle (Ad.intro Tryz.func93 rfl rfl (by show _≤81;simp) ?_)
 unfold Nd at h
 refine nS (sq ?_)
 refine ar rfl (qn (sq (sq ?_)))
 refine rg rfl fun K j=>?_
 intro hm
 refine j _ _ (qn ?_)
 revert h;refine ca rfl (fun hc h=>?_) fun hc h=>?_
 ·refine sq (ar rfl (qn (rt (qr ?_))))
  cases h;exact en Tryz.results93
 refine sk (qn (sq (sq (ar rfl (qn (bk ?_))))))
 obtain⟨o0,hJ0,hO0⟩:=Af h
 clear h
 refine AWP.Bw (ι:=Nat×(Unit)×(Unit)) (fun zz=>[(0,.sl 8 (l.map A1)),(3,.int .i64 ((zz.1:Nat):Int))]) (fun zz=>[]) (fun zz=>zz.1≤l.length∧Am (Km l) zz.1 ((l).drop zz.1) zz.2.1=some o0) (fun zz=>l.length - zz.1) (0,(),()) ⟨Nat.zero_le _,hJ0⟩ cu cu (fun x=>⟨rfl,rfl,rfl⟩) ?_
 clear hJ0
 rintro⟨k0,⟨⟩,⟨⟩⟩ ⟨hk0,hJ0⟩
 dsimp only at hk0 hJ0 ⊢
 refine sq (sq ?_)
 refine rg rfl fun K j=>?_
 intro hm
 refine j _ _ (qn ?_)
 refine AWP.cond (Ak (fun hc=>?_) (fun hc=>?_))
 rotate_left
 ·obtain rfl:=Bf hJ0 (fun hl=>by have:=Aiz hc;omega)
  have h:=Be hO0;try dsimp only at h
  have hkl:l.length=k0:=by have:=Aiz hc;omega
  subst hkl
  refine xt (qe (qe (bs (qn (sq (ar rfl (qn (rt ?_))))))))
  cases h;exact en Tryz.results93
 have hlt0:k0<l.length:=by have:=Ai0 hc;omega
 obtain⟨x_2,b0,hx0_,h,hJ0⟩:=A9 hJ0 hlt0
 have hx0:=Ay hx0_
 have hw0:=wk (k:=k0) (by omega)
 unfold Km at h;try dsimp only at h
 refine sk (qn (sq (bk (sq ?_))))
 refine rg rfl fun K j=>?_
 refine Bn.of (f:=A1) (l:=l) hx0 ?_
 refine nS ?_
 refine j _ _ (qn (sq (sq ?_)))
 refine rg rfl fun K j=>?_
 obtain⟨y3,hy3,h⟩:=Af h
 refine An.pure Tryz.call193 (Gt x_2.ID 1 9999 hy3) rfl fun _ hr=>?_
 subst hr
 refine nS ?_
 revert h;refine gf (fun hc h=>?_) fun hc h=>?_
 rotate_left
 ·refine j _ _ (qn ?_)
  refine AWP.cond (Ah ?_)
  refine sq (ar rfl (qn (rt (qr (br (qr (qr ?_)))))))
  obtain rfl:=Aa h
  obtain rfl:=Ae hJ0
  replace h:=Al hO0
  refine br (qr ?_)
  cases h;exact en Tryz.results93
 obtain⟨y4,hy4,h⟩:=Af h
 refine An.pure Tryz.call193 (Gt x_2.Node 1 9999 hy4) rfl fun _ hr=>?_
 subst hr
 refine nS ?_
 revert h;refine gf (fun hc h=>?_) fun hc h=>?_
 rotate_left
 ·refine j _ _ (qn ?_)
  refine AWP.cond (Ah ?_)
  refine sq (ar rfl (qn (rt (qr (br (qr (qr ?_)))))))
  obtain rfl:=Aa h
  obtain rfl:=Ae hJ0
  replace h:=Al hO0
  refine br (qr ?_)
  cases h;exact en Tryz.results93
 obtain⟨y5,hy5,h⟩:=Af h
 refine An.pure Tryz.call193 (Gt x_2.Fuel 0 1000000 hy5) rfl fun _ hr=>?_
 subst hr
 refine nS ?_
 revert h;refine gf (fun hc h=>?_) fun hc h=>?_
 rotate_left
 ·refine j _ _ (qn ?_)
  refine AWP.cond (Ah ?_)
  refine sq (ar rfl (qn (rt (qr (br (qr (qr ?_)))))))
  obtain rfl:=Aa h
  obtain rfl:=Ae hJ0
  replace h:=Al hO0
  refine br (qr ?_)
  cases h;exact en Tryz.results93
 obtain⟨y6,hy6,h⟩:=Af h
 refine An.pure Tryz.call193 (Gt x_2.State 0 2 hy6) rfl fun _ hr=>?_
 subst hr
 refine nS ?_
 revert h;refine gf (fun hc h=>?_) fun hc h=>?_
 rotate_left
 ·refine j _ _ (qn ?_)
  refine AWP.cond (Ah ?_)
  refine sq (ar rfl (qn (rt (qr (br (qr (qr ?_)))))))
  obtain rfl:=Aa h
  obtain rfl:=Ae hJ0
  replace h:=Al hO0
  refine br (qr ?_)
  cases h;exact en Tryz.results93
 obtain⟨y7,hy7,h⟩:=Af h
 refine An.pure Tryz.call193 (Gt x_2.Until 0 20000000 hy7) rfl fun _ hr=>?_
 subst hr
 refine nS ?_
 revert h;refine gf (fun hc h=>?_) fun hc h=>?_
 rotate_left
 ·refine j _ _ (qn ?_)
  refine AWP.cond (Ah ?_)
  refine sq (ar rfl (qn (rt (qr (br (qr (qr ?_)))))))
  obtain rfl:=Aa h
  obtain rfl:=Ae hJ0
  replace h:=Al hO0
  refine br (qr ?_)
  cases h;exact en Tryz.results93
 obtain⟨y8,hy8,h⟩:=Af h
 refine An.pure Tryz.call193 (Gt x_2.To 0 9999 hy8) rfl fun _ hr=>?_
 subst hr
 refine nS ?_
 revert h;refine gf (fun hc h=>?_) fun hc h=>?_
 rotate_left
 ·refine j _ _ (qn ?_)
  refine AWP.cond (Ah ?_)
  refine sq (ar rfl (qn (rt (qr (br (qr (qr ?_)))))))
  obtain rfl:=Aa h
  obtain rfl:=Ae hJ0
  replace h:=Al hO0
  refine br (qr ?_)
  cases h;exact en Tryz.results93
 obtain⟨y9,hy9,h⟩:=Af h
 refine An.pure Tryz.call193 (Gt x_2.Run 0 9999 hy9) rfl fun _ hr=>?_
 subst hr
 refine nS ?_
 refine j _ _ (qn ?_)
 revert h;refine ca rfl (fun hc h=>?_) fun hc h=>?_
 ·refine sq (ar rfl (qn (rt (qr (br (qr (qr ?_)))))))
  obtain rfl:=Aa h
  obtain rfl:=Ae hJ0
  replace h:=Al hO0
  refine br (qr ?_)
  cases h;exact en Tryz.results93
 refine sk (qn (sq (sq ?_)))
 refine AWP.draw Tryz.mixed (by kernel_rfl) ?_;intro K j
 refine nS ?_
 obtain⟨hk,h⟩:=Jm h
 intro hm
 (repeat(refine⟨by omega,?_⟩))
 obtain⟨y10,hy10,h⟩:=Af h
 refine B7.pure Tryz.call194 (cA (l.take k0) x_2.ID hy10) rfl ?_
 refine nS ?_
 refine j _ _ _ (by kernel_rfl) ?_
 refine qn ?_
 revert h;refine ca rfl (fun hc h=>?_) fun hc h=>?_
 ·refine sq (ar rfl (qn (rt (qr (br (qr (qr ?_)))))))
  obtain rfl:=Aa h
  obtain rfl:=Ae hJ0
  replace h:=Al hO0
  refine br (qr ?_)
  cases h;exact en Tryz.results93
 refine sk (qn (sq ?_))
 refine rg rfl fun K j=>?_
 revert h;refine gf (fun hc h=>?_) fun hc h=>?_
 ·refine j _ _ (qn ?_)
  revert h;refine ca rfl (fun hc h=>?_) fun hc h=>?_
  ·refine sq (ar rfl (qn (rt (br (qr (qr ?_))))))
   obtain rfl:=Aa h
   obtain rfl:=Ae hJ0
   replace h:=Al hO0
   refine br (qr ?_)
   cases h;exact en Tryz.results93
  refine sk (bn (qn (ar rfl (qn ?_))))
  obtain rfl:=Aa h
  refine⟨(k0+1,(),()),⟨by dsimp only;omega,Ai hJ0⟩,by dsimp only;omega,?_,?_⟩
  ·exact cuw hw0
  exact cuw hw0
 refine j _ _ (qn ?_)
 refine AWP.cond (Ah ?_)
 refine sq (ar rfl (qn (rt (br (qr (qr ?_))))))
 obtain rfl:=Aa h
 obtain rfl:=Ae hJ0
 replace h:=Al hO0
 refine br (qr ?_)
 cases h;exact en Tryz.results93
def Fy (y1:Int) (y2:Int) (y3:Int) (y4:Int) (y5:Int) (y6:Int) (y7:Int) (y8:Int) (y9:Int) (k9:Nat) (_x:Unit) (sv:Unit):Option (Out (Unit) (Int)):=
 (Dk [y1,y2,y3,y4,y5,y6,y7,y8,y9] ((k9:Nat):Int)).bind fun x_11=>(bif (decide (x_11≠0))then some (Out.ret x_11)else some (Out.next ()))
def Kb (f_:Aj):Option (Int):=
 (H7 f_.Map).bind fun y1=>(H4 f_.Closures).bind fun y2=>(H3 f_.Patrol).bind fun y3=>(Pr f_.Surfaces).bind fun y4=>(Nb f_.Slides).bind fun y5=>(H6 f_.Bulletin).bind fun y6=>(H5 f_.Missions).bind fun y7=>(Nc f_.Winches).bind fun y8=>(Nd f_.Groomers).bind fun y9=>(J0 (Fy y1 y2 y3 y4 y5 y6 y7 y8 y9) 9 ()).bind fun o9=>o9.on fun s9=>some 0
theorem bK (f_:Aj) {r:Int} (h:Kb f_=some r):Ad Tryz.prog 41 [.agg (B3 f_)] (·= .int .i64 r):=by
 refine Ad.nle (Ad.intro Tryz.func41 rfl rfl (by show _≤48;simp) ?_)
 unfold Kb at h
 refine nS (sq ?_)
 refine ar rfl (qn (sq ?_))
 refine AWP.draw Tryz.mixed (by kernel_rfl) ?_;intro K j
 refine nS ?_
 obtain⟨y1,hy1,h⟩:=Af h
 refine B7.pure Tryz.call85 (cI f_.Map hy1) rfl ?_
 refine nS ?_
 obtain⟨y2,hy2,h⟩:=Af h
 refine B7.pure Tryz.call86 (bP f_.Closures hy2) rfl ?_
 refine nS ?_
 obtain⟨y3,hy3,h⟩:=Af h
 refine B7.pure Tryz.call87 (bN f_.Patrol hy3) rfl ?_
 refine nS ?_
 obtain⟨y4,hy4,h⟩:=Af h
 refine B7.pure Tryz.call88 (bX f_.Surfaces hy4) rfl ?_
 refine nS ?_
 obtain⟨y5,hy5,h⟩:=Af h
 refine B7.pure Tryz.call89 (bU f_.Slides hy5) rfl ?_
 refine nS ?_
 obtain⟨y6,hy6,h⟩:=Af h
 refine B7.pure Tryz.call90 (bW f_.Bulletin hy6) rfl ?_
 refine nS ?_
 obtain⟨y7,hy7,h⟩:=Af h
 refine B7.pure Tryz.call91 (bT f_.Missions hy7) rfl ?_
 refine nS ?_
 obtain⟨y8,hy8,h⟩:=Af h
 refine B7.pure Tryz.call92 (bZ f_.Winches hy8) rfl ?_
 refine nS ?_
 obtain⟨y9,hy9,h⟩:=Af h
 refine B7.pure Tryz.call93 (cB f_.Groomers hy9) rfl ?_
 refine nS ?_
 refine j _ _ _ (by kernel_rfl) ?_
 refine qn (sq (sq (ar rfl (qn (bk ?_)))))
 obtain⟨o9,hJ9,hO9⟩:=Af h
 clear h
 obtain⟨hn9,hJ9⟩:=Sw hJ9
 refine AWP.Bw (ι:=Nat×(Unit)×(Unit)) (fun zz=>[(3,.own 10 0 0 9),(4,.int .i64 ((zz.1:Nat):Int))]) (fun zz=>[.gone,.gone,.gone,.gone,.gone,.gone,.gone,.gone,.gone,.gone,.row 0 1 ([y1,y2,y3,y4,y5,y6,y7,y8,y9].map A2)]) (fun zz=>zz.1≤9∧Am (Fy y1 y2 y3 y4 y5 y6 y7 y8 y9) zz.1 ((List.replicate 9 ()).drop zz.1) zz.2.1=some o9) (fun zz=>9 - zz.1) (0,(),()) ⟨Nat.zero_le _,hJ9⟩ cu cu (fun x=>⟨rfl,rfl,rfl⟩) ?_
 clear hJ9
 rintro⟨k9,⟨⟩,⟨⟩⟩ ⟨hk9,hJ9⟩
 dsimp only at hk9 hJ9 ⊢
 refine sq (sq (ar rfl (qn ?_)))
 refine AWP.cond (Ak (fun hc=>?_) (fun hc=>?_))
 rotate_left
 ·obtain rfl:=Bf hJ9 (fun hl=>by rw[List.length_replicate]at hl;have:=Aiz hc;omega)
  have h:=Be hO9;try dsimp only at h
  have hkl:9=k9:=by have:=Aiz hc;omega
  subst hkl
  refine xt (qe (qe (bs (qn (sq (ar rfl (qn (rt ?_))))))))
  cases h;exact en Tryz.results41
 have hlt9:k9<9:=by have:=Ai0 hc;omega
 obtain⟨_,b9,_,h,hJ9⟩:=A9 hJ9 (by rw[List.length_replicate];exact hlt9)
 have hw9:=wk (k:=k9) (by omega)
 unfold Fy at h;try dsimp only at h
 refine sk (qn (sq (bk (sq ?_))))
 refine rg rfl fun K j=>?_
 obtain⟨x_11,hx_11,h⟩:=Af h
 refine Kw hx_11 (by first | rfl | exact(Cl _).symm | (simp only[List.length_append,List.length_cons,List.length_nil,List.length_set,List.length_replicate]<;>omega)) ?_
 refine nS ?_
 refine De.ofNat (f:=A2) (l:=[y1,y2,y3,y4,y5,y6,y7,y8,y9]) (n:=k9) hx_11 ?_
 refine nS ?_
 refine j _ _ (qn ?_)
 revert h;refine ca rfl (fun hc h=>?_) fun hc h=>?_
 ·refine sq ?_
  refine rg rfl fun K j=>?_
  refine Kw hx_11 (by first | rfl | exact(Cl _).symm | (simp only[List.length_append,List.length_cons,List.length_nil,List.length_set,List.length_replicate]<;>omega)) ?_
  refine nS ?_
  refine De.ofNat (f:=A2) (l:=[y1,y2,y3,y4,y5,y6,y7,y8,y9]) (n:=k9) hx_11 ?_
  refine nS ?_
  refine j _ _ (qn (rt (br (qr (qr ?_)))))
  obtain rfl:=Aa h
  obtain rfl:=Ae hJ9
  replace h:=Al hO9
  refine br (qr ?_)
  cases h;exact en Tryz.results41
 refine sk (bn (qn (ar rfl (qn ?_))))
 obtain rfl:=Aa h
 refine⟨(k9+1,(),()),⟨by dsimp only;omega,Ai hJ9⟩,by dsimp only;omega,?_,?_⟩
 ·exact cuw hw9
 exact cuw hw9
def Tg (id_:Int) (k0:Nat) (x_2:Cc) (sv:Unit):Option (Out (Unit) (Cc×Bool)):=
 (bif (decide (x_2.ID=id_))then some (Out.ret (x_2,true))else some (Out.next ()))
def U3 (m:Bb) (id_:Int):Option (Cc×Bool):=
 (Am (Tg id_) 0 m.Lifts ()).bind fun o0=>o0.on fun s0=>some ((Cc.mk 0 0 0 0 0 0 0 0),false)
theorem Vx (m:Bb) (id_:Int) {r:Cc×Bool} (h:U3 m id_=some r):Ad Tryz.prog 42 [.agg (Cd m),.int .i64 id_] (·= .tuple [.agg (A7 r.1),.bool r.2]):=by
 refine Ad.nle (Ad.intro Tryz.func42 rfl rfl (by show _≤28;simp) ?_)
 unfold U3 at h
 refine nS (sq ?_)
 refine ar rfl (qn (sq (sq ?_)))
 refine ar rfl (qn (bk ?_))
 obtain⟨o0,hJ0,hO0⟩:=Af h
 clear h
 refine AWP.Bw (ι:=Nat×(Unit)×(Unit)) (fun zz=>[(1,.int .i64 id_),(2,.ptr 0 0),(4,.ptr 1 0),(6,.int .i64 ((zz.1:Nat):Int))]) (fun zz=>[.box [.sl 2 (m.Nodes.map A6),.sl 8 (m.Lifts.map A7),.sl 7 (m.Runs.map Bc),.sl 1 (m.Bases.map A2)],.box [.int .i64 0,.int .i64 0,.int .i64 0,.int .i64 0,.int .i64 0,.int .i64 0,.int .i64 0,.int .i64 0]]) (fun zz=>zz.1≤m.Lifts.length∧Am (Tg id_) zz.1 ((m.Lifts).drop zz.1) zz.2.1=some o0) (fun zz=>m.Lifts.length - zz.1) (0,(),()) ⟨Nat.zero_le _,hJ0⟩ cu cu (fun x=>⟨rfl,rfl,rfl⟩) ?_
 clear hJ0
 rintro⟨k0,⟨⟩,⟨⟩⟩ ⟨hk0,hJ0⟩
 dsimp only at hk0 hJ0 ⊢
 refine sq (sq ?_)
 refine rg rfl fun K j=>?_
 intro hm
 refine j _ _ (qn ?_)
 refine AWP.cond (Ak (fun hc=>?_) (fun hc=>?_))
 rotate_left
 ·obtain rfl:=Bf hJ0 (fun hl=>by have:=Aiz hc;omega)
  have h:=Be hO0;try dsimp only at h
  have hkl:m.Lifts.length=k0:=by have:=Aiz hc;omega
  subst hkl
  refine xt (qe (qe (bs (qn (sq (ar rfl (qn (rt ?_))))))))
  cases h;exact en Tryz.results42
 have hlt0:k0<m.Lifts.length:=by have:=Ai0 hc;omega
 obtain⟨x_2,b0,hx0_,h,hJ0⟩:=A9 hJ0 hlt0
 have hx0:=Ay hx0_
 have hw0:=wk (k:=k0) (by omega)
 unfold Tg at h;try dsimp only at h
 refine sk (qn (sq (bk (sq ?_))))
 refine rg rfl fun K j=>?_
 refine Bn.of (f:=A7) (l:=m.Lifts) hx0 ?_
 refine nS ?_
 refine j _ _ (qn ?_)
 revert h;refine ca rfl (fun hc h=>?_) fun hc h=>?_
 ·refine sq ?_
  refine rg rfl fun K j=>?_
  refine Bn.of (f:=A7) (l:=m.Lifts) hx0 ?_
  refine nS ?_
  refine j _ _ (qn (rt (br (qr (qr ?_)))))
  obtain rfl:=Aa h
  obtain rfl:=Ae hJ0
  replace h:=Al hO0
  refine br (qr ?_)
  cases h;exact en Tryz.results42
 refine sk (bn (qn (ar rfl (qn ?_))))
 obtain rfl:=Aa h
 refine⟨(k0+1,(),()),⟨by dsimp only;omega,Ai hJ0⟩,by dsimp only;omega,?_,?_⟩
 ·exact cuw hw0
 exact cuw hw0
def Ue (n_:Int) (lo:Int) (hi:Int):Option (Bool):=
 (bif (decide (lo≤n_))then some (decide (n_≤hi))else some false)
theorem Te (n_:Int) (lo:Int) (hi:Int) {r:Bool} (h:Ue n_ lo hi=some r):Ad Tryz.prog 94 [.int .i64 n_,.int .i64 lo,.int .i64 hi] (·= .bool r):=by
 refine Ad.nle (Ad.intro Tryz.func94 rfl rfl (by show _≤15;simp) ?_)
 unfold Ue at h
 refine nS (sq ?_)
 refine ar rfl (qn (sq ?_))
 refine rg rfl fun K j=>?_
 revert h;refine gt (fun hc h=>?_) fun hc h=>?_
 ·refine j _ _ (qn (rt ?_))
  cases h;exact en Tryz.results94
 refine j _ _ (qn (rt ?_))
 cases h;exact en Tryz.results94
def Kn (p:Fm):Option (Bool):=
 (Ue p.Natural 0 20000).bind fun y1=>(bif y1 then(Ue p.Machine 0 20000).bind fun y2=>(bif y2 then(Ue p.Density 50 900).bind fun y3=>some y3 else some false)else some false)
theorem cD (p:Fm) {r:Bool} (h:Kn p=some r):Ad Tryz.prog 43 [.agg (O1 p)] (·= .bool r):=by
 refine Ad.nle (Ad.intro Tryz.func43 rfl rfl (by show _≤16;simp) ?_)
 unfold Kn at h
 refine nS (sq ?_)
 refine ar rfl (qn (sq ?_))
 refine rg rfl fun K j=>?_
 obtain⟨y1,hy1,h⟩:=Af h
 refine An.pure Tryz.call94 (Te p.Natural 0 20000 hy1) rfl fun _ hr=>?_
 subst hr
 refine nS ?_
 revert h;refine gt (fun hc h=>?_) fun hc h=>?_
 ·obtain⟨y2,hy2,h⟩:=Af h
  refine An.pure Tryz.call94 (Te p.Machine 0 20000 hy2) rfl fun _ hr=>?_
  subst hr
  refine nS ?_
  revert h;refine gt (fun hc h=>?_) fun hc h=>?_
  ·obtain⟨y3,hy3,h⟩:=Af h
   refine An.pure Tryz.call94 (Te p.Density 50 900 hy3) rfl fun _ hr=>?_
   subst hr
   refine nS ?_
   refine j _ _ (qn (rt ?_))
   cases h;exact en Tryz.results43
  refine j _ _ (qn (rt ?_))
  cases h;exact en Tryz.results43
 refine j _ _ (qn (rt ?_))
 cases h;exact en Tryz.results43
def U2 (id_:Int) (k0:Nat) (x_2:Ce) (sv:Unit):Option (Out (Unit) (Ce×Bool)):=
 (bif (decide (x_2.ID=id_))then some (Out.ret (x_2,true))else some (Out.next ()))
def Jc (m:Bb) (id_:Int):Option (Ce×Bool):=
 (Am (U2 id_) 0 m.Runs ()).bind fun o0=>o0.on fun s0=>some ((Ce.mk 0 0 0 0 0 0 0),false)
theorem Ro (m:Bb) (id_:Int) {r:Ce×Bool} (h:Jc m id_=some r):Ad Tryz.prog 32 [.agg (Cd m),.int .i64 id_] (·= .tuple [.agg (Bc r.1),.bool r.2]):=by
 refine Ad.nle (Ad.intro Tryz.func32 rfl rfl (by show _≤28;simp) ?_)
 unfold Jc at h
 refine nS (sq ?_)
 refine ar rfl (qn (sq (sq ?_)))
 refine ar rfl (qn (bk ?_))
 obtain⟨o0,hJ0,hO0⟩:=Af h
 clear h
 refine AWP.Bw (ι:=Nat×(Unit)×(Unit)) (fun zz=>[(1,.int .i64 id_),(2,.ptr 0 0),(4,.ptr 1 0),(6,.int .i64 ((zz.1:Nat):Int))]) (fun zz=>[.box [.sl 2 (m.Nodes.map A6),.sl 8 (m.Lifts.map A7),.sl 7 (m.Runs.map Bc),.sl 1 (m.Bases.map A2)],.box [.int .i64 0,.int .i64 0,.int .i64 0,.int .i64 0,.int .i64 0,.int .i64 0,.int .i64 0]]) (fun zz=>zz.1≤m.Runs.length∧Am (U2 id_) zz.1 ((m.Runs).drop zz.1) zz.2.1=some o0) (fun zz=>m.Runs.length - zz.1) (0,(),()) ⟨Nat.zero_le _,hJ0⟩ cu cu (fun x=>⟨rfl,rfl,rfl⟩) ?_
 clear hJ0
 rintro⟨k0,⟨⟩,⟨⟩⟩ ⟨hk0,hJ0⟩
 dsimp only at hk0 hJ0 ⊢
 refine sq (sq ?_)
 refine rg rfl fun K j=>?_
 intro hm
 refine j _ _ (qn ?_)
 refine AWP.cond (Ak (fun hc=>?_) (fun hc=>?_))
 rotate_left
 ·obtain rfl:=Bf hJ0 (fun hl=>by have:=Aiz hc;omega)
  have h:=Be hO0;try dsimp only at h
  have hkl:m.Runs.length=k0:=by have:=Aiz hc;omega
  subst hkl
  refine xt (qe (qe (bs (qn (sq (ar rfl (qn (rt ?_))))))))
  cases h;exact en Tryz.results32
 have hlt0:k0<m.Runs.length:=by have:=Ai0 hc;omega
 obtain⟨x_2,b0,hx0_,h,hJ0⟩:=A9 hJ0 hlt0
 have hx0:=Ay hx0_
 have hw0:=wk (k:=k0) (by omega)
 unfold U2 at h;try dsimp only at h
 refine sk (qn (sq (bk (sq ?_))))
 refine rg rfl fun K j=>?_
 refine Bn.of (f:=Bc) (l:=m.Runs) hx0 ?_
 refine nS ?_
 refine j _ _ (qn ?_)
 revert h;refine ca rfl (fun hc h=>?_) fun hc h=>?_
 ·refine sq ?_
  refine rg rfl fun K j=>?_
  refine Bn.of (f:=Bc) (l:=m.Runs) hx0 ?_
  refine nS ?_
  refine j _ _ (qn (rt (br (qr (qr ?_)))))
  obtain rfl:=Aa h
  obtain rfl:=Ae hJ0
  replace h:=Al hO0
  refine br (qr ?_)
  cases h;exact en Tryz.results32
 refine sk (bn (qn (ar rfl (qn ?_))))
 obtain rfl:=Aa h
 refine⟨(k0+1,(),()),⟨by dsimp only;omega,Ai hJ0⟩,by dsimp only;omega,?_,?_⟩
 ·exact cuw hw0
 exact cuw hw0
def Kf (f_:Aj) (k3:Nat) (x_5:Bi) (sv:Unit):Option (Out (Unit) (Int)):=
 (bif (decide (0<((k3:Nat):Int)))then (Dk f_.Status (IntKind.i64.wrap (((k3:Nat):Int) - 1))).bind fun x_6=>(bif (decide (x_5.Run≤x_6.Run))then some (Out.ret 11)else (Jc f_.Map x_5.Run).bind fun y7=>(bif (!y7.2)then some (Out.ret 8)else (bif (decide (x_5.Since<0))then some (Out.ret 2)else (bif (decide (20000000<x_5.Since))then some (Out.ret 2)else some (Out.next ())))))else (Jc f_.Map x_5.Run).bind fun y8=>(bif (!y8.2)then some (Out.ret 8)else (bif (decide (x_5.Since<0))then some (Out.ret 2)else (bif (decide (20000000<x_5.Since))then some (Out.ret 2)else some (Out.next ())))))
def Kc (f_:Aj):Option (Int):=
 (Am (Kf f_) 0 f_.Status ()).bind fun o3=>o3.on fun s3=>(bif (decide (f_.Depth<0))then some 2 else(bif (decide (10000<f_.Depth))then some 2 else(bif (decide (f_.Time<0))then some 2 else(bif (decide (20000000<f_.Time))then some 2 else some 0))))
def Ke (f_:Aj) (k8:Nat) (x_10:C5) (sv:Unit):Option (Out (Unit) (Int)):=
 (bif (decide (x_10.Area<1))then some (Out.ret 2)else (bif (decide (10000000<x_10.Area))then some (Out.ret 2)else (Kn x_10.Pack).bind fun y11=>(bif (!y11)then some (Out.ret 2)else (bif (decide (0<((k8:Nat):Int)))then (Dk f_.Packs (IntKind.i64.wrap (((k8:Nat):Int) - 1))).bind fun x_12=>(bif (decide (x_10.Run≤x_12.Run))then some (Out.ret 11)else some (Out.next ()))else some (Out.next ())))))
def Kd (f_:Aj):Option (Int):=
 (Am (Ke f_) 0 f_.Packs ()).bind fun o8=>o8.on fun s8=>Kc f_
def Nu (f_:Aj) (k12:Nat) (x_14:Cr) (sv:Unit):Option (Out (Unit) (Int)):=
 (bif (decide (0<((k12:Nat):Int)))then (Dk f_.Lifts (IntKind.i64.wrap (((k12:Nat):Int) - 1))).bind fun x_15=>(bif (decide (x_14.Lift≤x_15.Lift))then some (Out.ret 11)else (U3 f_.Map x_14.Lift).bind fun y16=>(bif (!y16.2)then some (Out.ret 8)else (bif (decide (x_14.Mode<0))then some (Out.ret 2)else (bif (decide (3<x_14.Mode))then some (Out.ret 2)else some (Out.next ())))))else (U3 f_.Map x_14.Lift).bind fun y17=>(bif (!y17.2)then some (Out.ret 8)else (bif (decide (x_14.Mode<0))then some (Out.ret 2)else (bif (decide (3<x_14.Mode))then some (Out.ret 2)else some (Out.next ())))))
def H0 (f_:Aj):Option (Int):=
 (Kb f_).bind fun y1=>(bif (decide (y1≠0))then some y1 else(bif (decide (32<((f_.Lifts.length:Nat):Int)))then some 4 else(bif (decide (64<((f_.Packs.length:Nat):Int)))then some 4 else(bif (decide (64<((f_.Status.length:Nat):Int)))then some 4 else(Am (Nu f_) 0 f_.Lifts ()).bind fun o12=>o12.on fun s12=>Kd f_))))
theorem bL (f_:Aj) {r:Int} (h:H0 f_=some r):Ad Tryz.prog 13 [.agg (B3 f_)] (·= .int .i64 r):=by
 refine Ad.nle (Ad.intro Tryz.func13 rfl rfl (by show _≤211;simp) ?_)
 unfold H0 at h
 refine nS (sq ?_)
 refine ar rfl (qn (sq (sq ?_)))
 refine rg rfl fun K j=>?_
 obtain⟨y1,hy1,h⟩:=Af h
 refine An.pure Tryz.call41 (bK f_ hy1) rfl fun _ hr=>?_
 subst hr
 refine nS ?_
 refine j _ _ (qn (sq ?_))
 refine ar rfl (qn ?_)
 revert h;refine ca rfl (fun hc h=>?_) fun hc h=>?_
 ·refine sq (ar rfl (qn (rt (qr ?_))))
  cases h;exact en Tryz.results13
 refine sk (qn (sq (sq ?_)))
 refine rg rfl fun K j=>?_
 intro hm
 revert h;refine gf (fun hc h=>?_) fun hc h=>?_
 rotate_left
 ·refine j _ _ (qn ?_)
  refine AWP.cond (Ah ?_)
  refine sq (ar rfl (qn (rt (qr ?_))))
  cases h;exact en Tryz.results13
 intro hm
 revert h;refine gf (fun hc h=>?_) fun hc h=>?_
 rotate_left
 ·refine j _ _ (qn ?_)
  refine AWP.cond (Ah ?_)
  refine sq (ar rfl (qn (rt (qr ?_))))
  cases h;exact en Tryz.results13
 intro hm
 refine j _ _ (qn ?_)
 revert h;refine ca rfl (fun hc h=>?_) fun hc h=>?_
 ·refine sq (ar rfl (qn (rt (qr ?_))))
  cases h;exact en Tryz.results13
 refine sk (qn ?_)
 refine AWP.Le (ι:=(Unit)×(Unit)) (fun zz=>[(1,.ptr 0 0)]) (fun zz=>[.box [.sl 2 (f_.Map.Nodes.map A6),.sl 8 (f_.Map.Lifts.map A7),.sl 7 (f_.Map.Runs.map Bc),.sl 1 (f_.Map.Bases.map A2),.sl 2 (f_.Lifts.map Aw),.sl 4 (f_.Closures.map Au),.sl 4 (f_.Patrol.Bu.map Av),.sl 3 (f_.Patrol.Hazards.map Az),.sl 3 (f_.Surfaces.map A4),.sl 5 (f_.Packs.map A3),.sl 6 (f_.Slides.map Ba),.sl 7 (f_.Bulletin.map Ax),.sl 7 (f_.Missions.map Ap),.sl 4 (f_.Winches.map Ao),.sl 8 (f_.Groomers.map A1),.sl 3 (f_.Status.map A5),.int .i64 f_.Depth,.int .i64 f_.Time]]) (fun zz=>Kd f_=some r) (fun zz=>⟨rfl,rfl,rfl⟩) ?_ ?_
 ·refine sq (ar rfl (qn (bk ?_)))
  obtain⟨o12,hJ12,hO12⟩:=Af h
  clear h
  refine AWP.Bw (ι:=Nat×(Unit)×(Unit)) (fun zz=>[(1,.ptr 0 0),(4,.int .i64 ((zz.1:Nat):Int))]) (fun zz=>[.box [.sl 2 (f_.Map.Nodes.map A6),.sl 8 (f_.Map.Lifts.map A7),.sl 7 (f_.Map.Runs.map Bc),.sl 1 (f_.Map.Bases.map A2),.sl 2 (f_.Lifts.map Aw),.sl 4 (f_.Closures.map Au),.sl 4 (f_.Patrol.Bu.map Av),.sl 3 (f_.Patrol.Hazards.map Az),.sl 3 (f_.Surfaces.map A4),.sl 5 (f_.Packs.map A3),.sl 6 (f_.Slides.map Ba),.sl 7 (f_.Bulletin.map Ax),.sl 7 (f_.Missions.map Ap),.sl 4 (f_.Winches.map Ao),.sl 8 (f_.Groomers.map A1),.sl 3 (f_.Status.map A5),.int .i64 f_.Depth,.int .i64 f_.Time]]) (fun zz=>zz.1≤f_.Lifts.length∧Am (Nu f_) zz.1 ((f_.Lifts).drop zz.1) zz.2.1=some o12) (fun zz=>f_.Lifts.length - zz.1) (0,(),()) ⟨Nat.zero_le _,hJ12⟩ cu cu (fun x=>⟨rfl,rfl,rfl⟩) ?_
  clear hJ12
  rintro⟨k12,⟨⟩,⟨⟩⟩ ⟨hk12,hJ12⟩
  dsimp only at hk12 hJ12 ⊢
  refine sq (sq ?_)
  refine rg rfl fun K j=>?_
  intro hm
  refine j _ _ (qn ?_)
  refine AWP.cond (Ak (fun hc=>?_) (fun hc=>?_))
  rotate_left
  ·obtain rfl:=Bf hJ12 (fun hl=>by have:=Aiz hc;omega)
   have h:=Be hO12;try dsimp only at h
   have hkl:f_.Lifts.length=k12:=by have:=Aiz hc;omega
   subst hkl
   refine xt (qe (qe (bs (qn ?_))))
   exact⟨((),()),h,cu,cu⟩
  have hlt12:k12<f_.Lifts.length:=by have:=Ai0 hc;omega
  obtain⟨x_14,b12,hx12_,h,hJ12⟩:=A9 hJ12 hlt12
  have hx12:=Ay hx12_
  have hw12:=wk (k:=k12) (by omega)
  unfold Nu at h;try dsimp only at h
  refine sk (qn (sq (bk (sq (sq ?_)))))
  refine AWP.draw Tryz.mixed (by kernel_rfl) ?_;intro K j
  refine nS ?_
  revert h;refine gt (fun hc h=>?_) fun hc h=>?_
  ·refine Bn.of (f:=Aw) (l:=f_.Lifts) hx12 ?_
   refine nS ?_
   obtain⟨x_15,hx_15,h⟩:=Af h
   refine Bn.of (f:=Aw) (l:=f_.Lifts) hx_15 ?_
   refine nS ?_
   refine j _ _ _ (by kernel_rfl) ?_
   refine qn ?_
   revert h;refine ca rfl (fun hc h=>?_) fun hc h=>?_
   ·refine sq (ar rfl (qn (rt (qr (br (qr (qr ?_)))))))
    obtain rfl:=Aa h
    obtain rfl:=Ae hJ12
    replace h:=Al hO12
    refine br (qr ?_)
    cases h;exact en Tryz.results13
   refine sk (qn (sq (sq ?_)))
   refine AWP.draw Tryz.mixed (by kernel_rfl) ?_;intro K j
   refine nS ?_
   refine Bn.of (f:=Aw) (l:=f_.Lifts) hx12 ?_
   refine nS ?_
   obtain⟨y16,hy16,h⟩:=Af h
   refine B7.pure Tryz.call42 (Vx f_.Map x_14.Lift hy16) rfl ?_
   refine nS ?_
   refine j _ _ _ (by kernel_rfl) ?_
   refine qn (sq (ar rfl (qn ?_)))
   revert h;refine ca rfl (fun hc h=>?_) fun hc h=>?_
   ·refine sq (ar rfl (qn (rt (qr (br (qr (qr ?_)))))))
    obtain rfl:=Aa h
    obtain rfl:=Ae hJ12
    replace h:=Al hO12
    refine br (qr ?_)
    cases h;exact en Tryz.results13
   refine sk (qn (sq ?_))
   refine rg rfl fun K j=>?_
   refine Bn.of (f:=Aw) (l:=f_.Lifts) hx12 ?_
   refine nS ?_
   revert h;refine gf (fun hc h=>?_) fun hc h=>?_
   ·refine Bn.of (f:=Aw) (l:=f_.Lifts) hx12 ?_
    refine nS ?_
    refine j _ _ (qn ?_)
    revert h;refine ca rfl (fun hc h=>?_) fun hc h=>?_
    ·refine sq (ar rfl (qn (rt (br (qr (qr ?_))))))
     obtain rfl:=Aa h
     obtain rfl:=Ae hJ12
     replace h:=Al hO12
     refine br (qr ?_)
     cases h;exact en Tryz.results13
    refine sk (bn (qn (ar rfl (qn ?_))))
    obtain rfl:=Aa h
    refine⟨(k12+1,(),()),⟨by dsimp only;omega,Ai hJ12⟩,by dsimp only;omega,?_,?_⟩
    ·exact cuw hw12
    exact cuw hw12
   refine j _ _ (qn ?_)
   refine AWP.cond (Ah ?_)
   refine sq (ar rfl (qn (rt (br (qr (qr ?_))))))
   obtain rfl:=Aa h
   obtain rfl:=Ae hJ12
   replace h:=Al hO12
   refine br (qr ?_)
   cases h;exact en Tryz.results13
  refine j _ _ _ (by kernel_rfl) ?_
  refine qn ?_
  refine AWP.cond (Bk ?_)
  refine sk (qn (sq (sq ?_)))
  refine AWP.draw Tryz.mixed (by kernel_rfl) ?_;intro K j
  refine nS ?_
  refine Bn.of (f:=Aw) (l:=f_.Lifts) hx12 ?_
  refine nS ?_
  obtain⟨y17,hy17,h⟩:=Af h
  refine B7.pure Tryz.call42 (Vx f_.Map x_14.Lift hy17) rfl ?_
  refine nS ?_
  refine j _ _ _ (by kernel_rfl) ?_
  refine qn (sq (ar rfl (qn ?_)))
  revert h;refine ca rfl (fun hc h=>?_) fun hc h=>?_
  ·refine sq (ar rfl (qn (rt (qr (br (qr (qr ?_)))))))
   obtain rfl:=Aa h
   obtain rfl:=Ae hJ12
   replace h:=Al hO12
   refine br (qr ?_)
   cases h;exact en Tryz.results13
  refine sk (qn (sq ?_))
  refine rg rfl fun K j=>?_
  refine Bn.of (f:=Aw) (l:=f_.Lifts) hx12 ?_
  refine nS ?_
  revert h;refine gf (fun hc h=>?_) fun hc h=>?_
  ·refine Bn.of (f:=Aw) (l:=f_.Lifts) hx12 ?_
   refine nS ?_
   refine j _ _ (qn ?_)
   revert h;refine ca rfl (fun hc h=>?_) fun hc h=>?_
   ·refine sq (ar rfl (qn (rt (br (qr (qr ?_))))))
    obtain rfl:=Aa h
    obtain rfl:=Ae hJ12
    replace h:=Al hO12
    refine br (qr ?_)
    cases h;exact en Tryz.results13
   refine sk (bn (qn (ar rfl (qn ?_))))
   obtain rfl:=Aa h
   refine⟨(k12+1,(),()),⟨by dsimp only;omega,Ai hJ12⟩,by dsimp only;omega,?_,?_⟩
   ·exact cuw hw12
   exact cuw hw12
  refine j _ _ (qn ?_)
  refine AWP.cond (Ah ?_)
  refine sq (ar rfl (qn (rt (br (qr (qr ?_))))))
  obtain rfl:=Aa h
  obtain rfl:=Ae hJ12
  replace h:=Al hO12
  refine br (qr ?_)
  cases h;exact en Tryz.results13
 rintro⟨⟨⟩,⟨⟩⟩ h
 try dsimp only at h ⊢
 unfold Kd at h;try dsimp only at h
 refine AWP.Le (ι:=(Unit)×(Unit)) (fun zz=>[(1,.ptr 0 0)]) (fun zz=>[.box [.sl 2 (f_.Map.Nodes.map A6),.sl 8 (f_.Map.Lifts.map A7),.sl 7 (f_.Map.Runs.map Bc),.sl 1 (f_.Map.Bases.map A2),.sl 2 (f_.Lifts.map Aw),.sl 4 (f_.Closures.map Au),.sl 4 (f_.Patrol.Bu.map Av),.sl 3 (f_.Patrol.Hazards.map Az),.sl 3 (f_.Surfaces.map A4),.sl 5 (f_.Packs.map A3),.sl 6 (f_.Slides.map Ba),.sl 7 (f_.Bulletin.map Ax),.sl 7 (f_.Missions.map Ap),.sl 4 (f_.Winches.map Ao),.sl 8 (f_.Groomers.map A1),.sl 3 (f_.Status.map A5),.int .i64 f_.Depth,.int .i64 f_.Time]]) (fun zz=>Kc f_=some r) (fun zz=>⟨rfl,rfl,rfl⟩) ?_ ?_
 ·refine sq (ar rfl (qn (bk ?_)))
  obtain⟨o8,hJ8,hO8⟩:=Af h
  clear h
  refine AWP.Bw (ι:=Nat×(Unit)×(Unit)) (fun zz=>[(1,.ptr 0 0),(7,.int .i64 ((zz.1:Nat):Int))]) (fun zz=>[.box [.sl 2 (f_.Map.Nodes.map A6),.sl 8 (f_.Map.Lifts.map A7),.sl 7 (f_.Map.Runs.map Bc),.sl 1 (f_.Map.Bases.map A2),.sl 2 (f_.Lifts.map Aw),.sl 4 (f_.Closures.map Au),.sl 4 (f_.Patrol.Bu.map Av),.sl 3 (f_.Patrol.Hazards.map Az),.sl 3 (f_.Surfaces.map A4),.sl 5 (f_.Packs.map A3),.sl 6 (f_.Slides.map Ba),.sl 7 (f_.Bulletin.map Ax),.sl 7 (f_.Missions.map Ap),.sl 4 (f_.Winches.map Ao),.sl 8 (f_.Groomers.map A1),.sl 3 (f_.Status.map A5),.int .i64 f_.Depth,.int .i64 f_.Time]]) (fun zz=>zz.1≤f_.Packs.length∧Am (Ke f_) zz.1 ((f_.Packs).drop zz.1) zz.2.1=some o8) (fun zz=>f_.Packs.length - zz.1) (0,(),()) ⟨Nat.zero_le _,hJ8⟩ cu cu (fun x=>⟨rfl,rfl,rfl⟩) ?_
  clear hJ8
  rintro⟨k8,⟨⟩,⟨⟩⟩ ⟨hk8,hJ8⟩
  dsimp only at hk8 hJ8 ⊢
  refine sq (sq ?_)
  refine rg rfl fun K j=>?_
  intro hm
  refine j _ _ (qn ?_)
  refine AWP.cond (Ak (fun hc=>?_) (fun hc=>?_))
  rotate_left
  ·obtain rfl:=Bf hJ8 (fun hl=>by have:=Aiz hc;omega)
   have h:=Be hO8;try dsimp only at h
   have hkl:f_.Packs.length=k8:=by have:=Aiz hc;omega
   subst hkl
   refine xt (qe (qe (bs (qn ?_))))
   exact⟨((),()),h,cu,cu⟩
  have hlt8:k8<f_.Packs.length:=by have:=Ai0 hc;omega
  obtain⟨x_10,b8,hx8_,h,hJ8⟩:=A9 hJ8 hlt8
  have hx8:=Ay hx8_
  have hw8:=wk (k:=k8) (by omega)
  unfold Ke at h;try dsimp only at h
  refine sk (qn (sq (bk (sq (sq ?_)))))
  refine rg rfl fun K j=>?_
  refine Bn.of (f:=A3) (l:=f_.Packs) hx8 ?_
  refine nS ?_
  revert h;refine gf (fun hc h=>?_) fun hc h=>?_
  rotate_left
  ·refine j _ _ (qn ?_)
   refine AWP.cond (Ah ?_)
   refine sq (ar rfl (qn (rt (qr (br (qr (qr ?_)))))))
   obtain rfl:=Aa h
   obtain rfl:=Ae hJ8
   replace h:=Al hO8
   refine br (qr ?_)
   cases h;exact en Tryz.results13
  refine Bn.of (f:=A3) (l:=f_.Packs) hx8 ?_
  refine nS ?_
  revert h;refine gf (fun hc h=>?_) fun hc h=>?_
  rotate_left
  ·refine j _ _ (qn ?_)
   refine AWP.cond (Ah ?_)
   refine sq (ar rfl (qn (rt (qr (br (qr (qr ?_)))))))
   obtain rfl:=Aa h
   obtain rfl:=Ae hJ8
   replace h:=Al hO8
   refine br (qr ?_)
   cases h;exact en Tryz.results13
  refine Bn.of (f:=A3) (l:=f_.Packs) hx8 ?_
  refine nS ?_
  obtain⟨y11,hy11,h⟩:=Af h
  refine An.pure Tryz.call43 (cD x_10.Pack hy11) rfl fun _ hr=>?_
  subst hr
  refine nS ?_
  refine j _ _ (qn ?_)
  revert h;refine ca rfl (fun hc h=>?_) fun hc h=>?_
  ·refine sq (ar rfl (qn (rt (qr (br (qr (qr ?_)))))))
   obtain rfl:=Aa h
   obtain rfl:=Ae hJ8
   replace h:=Al hO8
   refine br (qr ?_)
   cases h;exact en Tryz.results13
  refine sk (qn (sq ?_))
  refine AWP.draw Tryz.mixed (by kernel_rfl) ?_;intro K j
  refine nS ?_
  revert h;refine gt (fun hc h=>?_) fun hc h=>?_
  ·refine Bn.of (f:=A3) (l:=f_.Packs) hx8 ?_
   refine nS ?_
   obtain⟨x_12,hx_12,h⟩:=Af h
   refine Bn.of (f:=A3) (l:=f_.Packs) hx_12 ?_
   refine nS ?_
   refine j _ _ _ (by kernel_rfl) ?_
   refine qn ?_
   revert h;refine ca rfl (fun hc h=>?_) fun hc h=>?_
   ·refine sq (ar rfl (qn (rt (br (qr (qr ?_))))))
    obtain rfl:=Aa h
    obtain rfl:=Ae hJ8
    replace h:=Al hO8
    refine br (qr ?_)
    cases h;exact en Tryz.results13
   refine sk (bn (qn (ar rfl (qn ?_))))
   obtain rfl:=Aa h
   refine⟨(k8+1,(),()),⟨by dsimp only;omega,Ai hJ8⟩,by dsimp only;omega,?_,?_⟩
   ·exact cuw hw8
   exact cuw hw8
  refine j _ _ _ (by kernel_rfl) ?_
  refine qn ?_
  refine AWP.cond (Bk ?_)
  refine sk (bn (qn (ar rfl (qn ?_))))
  obtain rfl:=Aa h
  refine⟨(k8+1,(),()),⟨by dsimp only;omega,Ai hJ8⟩,by dsimp only;omega,?_,?_⟩
  ·exact cuw hw8
  exact cuw hw8
 rintro⟨⟨⟩,⟨⟩⟩ h
 try dsimp only at h ⊢
 unfold Kc at h;try dsimp only at h
 refine sq (sq (ar rfl (qn (bk ?_))))
 obtain⟨o3,hJ3,hO3⟩:=Af h
 clear h
 refine AWP.Bw (ι:=Nat×(Unit)×(Unit)) (fun zz=>[(1,.ptr 0 0),(8,.int .i64 ((zz.1:Nat):Int))]) (fun zz=>[.box [.sl 2 (f_.Map.Nodes.map A6),.sl 8 (f_.Map.Lifts.map A7),.sl 7 (f_.Map.Runs.map Bc),.sl 1 (f_.Map.Bases.map A2),.sl 2 (f_.Lifts.map Aw),.sl 4 (f_.Closures.map Au),.sl 4 (f_.Patrol.Bu.map Av),.sl 3 (f_.Patrol.Hazards.map Az),.sl 3 (f_.Surfaces.map A4),.sl 5 (f_.Packs.map A3),.sl 6 (f_.Slides.map Ba),.sl 7 (f_.Bulletin.map Ax),.sl 7 (f_.Missions.map Ap),.sl 4 (f_.Winches.map Ao),.sl 8 (f_.Groomers.map A1),.sl 3 (f_.Status.map A5),.int .i64 f_.Depth,.int .i64 f_.Time]]) (fun zz=>zz.1≤f_.Status.length∧Am (Kf f_) zz.1 ((f_.Status).drop zz.1) zz.2.1=some o3) (fun zz=>f_.Status.length - zz.1) (0,(),()) ⟨Nat.zero_le _,hJ3⟩ cu cu (fun x=>⟨rfl,rfl,rfl⟩) ?_
 clear hJ3
 rintro⟨k3,⟨⟩,⟨⟩⟩ ⟨hk3,hJ3⟩
 dsimp only at hk3 hJ3 ⊢
 refine sq (sq ?_)
 refine rg rfl fun K j=>?_
 intro hm
 refine j _ _ (qn ?_)
 refine AWP.cond (Ak (fun hc=>?_) (fun hc=>?_))
 rotate_left
 ·obtain rfl:=Bf hJ3 (fun hl=>by have:=Aiz hc;omega)
  have h:=Be hO3;try dsimp only at h
  have hkl:f_.Status.length=k3:=by have:=Aiz hc;omega
  subst hkl
  refine xt (qe (qe (bs (qn (sq (sq ?_))))))
  refine rg rfl fun K j=>?_
  revert h;refine gf (fun hc h=>?_) fun hc h=>?_
  ·revert h;refine gf (fun hc h=>?_) fun hc h=>?_
   ·revert h;refine gf (fun hc h=>?_) fun hc h=>?_
    ·refine j _ _ (qn ?_)
     revert h;refine ca rfl (fun hc h=>?_) fun hc h=>?_
     ·refine sq (ar rfl (qn (rt (qr ?_))))
      cases h;exact en Tryz.results13
     refine sk (qn (sq (ar rfl (qn (rt ?_)))))
     cases h;exact en Tryz.results13
    refine j _ _ (qn ?_)
    refine AWP.cond (Ah ?_)
    refine sq (ar rfl (qn (rt (qr ?_))))
    cases h;exact en Tryz.results13
   refine j _ _ (qn ?_)
   refine AWP.cond (Ah ?_)
   refine sq (ar rfl (qn (rt (qr ?_))))
   cases h;exact en Tryz.results13
  refine j _ _ (qn ?_)
  refine AWP.cond (Ah ?_)
  refine sq (ar rfl (qn (rt (qr ?_))))
  cases h;exact en Tryz.results13
 have hlt3:k3<f_.Status.length:=by have:=Ai0 hc;omega
 obtain⟨x_5,b3,hx3_,h,hJ3⟩:=A9 hJ3 hlt3
 have hx3:=Ay hx3_
 have hw3:=wk (k:=k3) (by omega)
 unfold Kf at h;try dsimp only at h
 refine sk (qn (sq (bk (sq (sq ?_)))))
 refine AWP.draw Tryz.mixed (by kernel_rfl) ?_;intro K j
 refine nS ?_
 revert h;refine gt (fun hc h=>?_) fun hc h=>?_
 ·refine Bn.of (f:=A5) (l:=f_.Status) hx3 ?_
  refine nS ?_
  obtain⟨x_6,hx_6,h⟩:=Af h
  refine Bn.of (f:=A5) (l:=f_.Status) hx_6 ?_
  refine nS ?_
  refine j _ _ _ (by kernel_rfl) ?_
  refine qn ?_
  revert h;refine ca rfl (fun hc h=>?_) fun hc h=>?_
  ·refine sq (ar rfl (qn (rt (qr (br (qr (qr ?_)))))))
   obtain rfl:=Aa h
   obtain rfl:=Ae hJ3
   replace h:=Al hO3
   refine br (qr ?_)
   cases h;exact en Tryz.results13
  refine sk (qn (sq (sq ?_)))
  refine AWP.draw Tryz.mixed (by kernel_rfl) ?_;intro K j
  refine nS ?_
  refine Bn.of (f:=A5) (l:=f_.Status) hx3 ?_
  refine nS ?_
  obtain⟨y7,hy7,h⟩:=Af h
  refine B7.pure Tryz.call32 (Ro f_.Map x_5.Run hy7) rfl ?_
  refine nS ?_
  refine j _ _ _ (by kernel_rfl) ?_
  refine qn (sq (ar rfl (qn ?_)))
  revert h;refine ca rfl (fun hc h=>?_) fun hc h=>?_
  ·refine sq (ar rfl (qn (rt (qr (br (qr (qr ?_)))))))
   obtain rfl:=Aa h
   obtain rfl:=Ae hJ3
   replace h:=Al hO3
   refine br (qr ?_)
   cases h;exact en Tryz.results13
  refine sk (qn (sq ?_))
  refine rg rfl fun K j=>?_
  refine Bn.of (f:=A5) (l:=f_.Status) hx3 ?_
  refine nS ?_
  revert h;refine gf (fun hc h=>?_) fun hc h=>?_
  ·refine Bn.of (f:=A5) (l:=f_.Status) hx3 ?_
   refine nS ?_
   refine j _ _ (qn ?_)
   revert h;refine ca rfl (fun hc h=>?_) fun hc h=>?_
   ·refine sq (ar rfl (qn (rt (br (qr (qr ?_))))))
    obtain rfl:=Aa h
    obtain rfl:=Ae hJ3
    replace h:=Al hO3
    refine br (qr ?_)
    cases h;exact en Tryz.results13
   refine sk (bn (qn (ar rfl (qn ?_))))
   obtain rfl:=Aa h
   refine⟨(k3+1,(),()),⟨by dsimp only;omega,Ai hJ3⟩,by dsimp only;omega,?_,?_⟩
   ·exact cuw hw3
   exact cuw hw3
  refine j _ _ (qn ?_)
  refine AWP.cond (Ah ?_)
  refine sq (ar rfl (qn (rt (br (qr (qr ?_))))))
  obtain rfl:=Aa h
  obtain rfl:=Ae hJ3
  replace h:=Al hO3
  refine br (qr ?_)
  cases h;exact en Tryz.results13
 refine j _ _ _ (by kernel_rfl) ?_
 refine qn ?_
 refine AWP.cond (Bk ?_)
 refine sk (qn (sq (sq ?_)))
 refine AWP.draw Tryz.mixed (by kernel_rfl) ?_;intro K j
 refine nS ?_
 refine Bn.of (f:=A5) (l:=f_.Status) hx3 ?_
 refine nS ?_
 obtain⟨y8,hy8,h⟩:=Af h
 refine B7.pure Tryz.call32 (Ro f_.Map x_5.Run hy8) rfl ?_
 refine nS ?_
 refine j _ _ _ (by kernel_rfl) ?_
 refine qn (sq (ar rfl (qn ?_)))
 revert h;refine ca rfl (fun hc h=>?_) fun hc h=>?_
 ·refine sq (ar rfl (qn (rt (qr (br (qr (qr ?_)))))))
  obtain rfl:=Aa h
  obtain rfl:=Ae hJ3
  replace h:=Al hO3
  refine br (qr ?_)
  cases h;exact en Tryz.results13
 refine sk (qn (sq ?_))
 refine rg rfl fun K j=>?_
 refine Bn.of (f:=A5) (l:=f_.Status) hx3 ?_
 refine nS ?_
 revert h;refine gf (fun hc h=>?_) fun hc h=>?_
 ·refine Bn.of (f:=A5) (l:=f_.Status) hx3 ?_
  refine nS ?_
  refine j _ _ (qn ?_)
  revert h;refine ca rfl (fun hc h=>?_) fun hc h=>?_
  ·refine sq (ar rfl (qn (rt (br (qr (qr ?_))))))
   obtain rfl:=Aa h
   obtain rfl:=Ae hJ3
   replace h:=Al hO3
   refine br (qr ?_)
   cases h;exact en Tryz.results13
  refine sk (bn (qn (ar rfl (qn ?_))))
  obtain rfl:=Aa h
  refine⟨(k3+1,(),()),⟨by dsimp only;omega,Ai hJ3⟩,by dsimp only;omega,?_,?_⟩
  ·exact cuw hw3
  exact cuw hw3
 refine j _ _ (qn ?_)
 refine AWP.cond (Ah ?_)
 refine sq (ar rfl (qn (rt (br (qr (qr ?_))))))
 obtain rfl:=Aa h
 obtain rfl:=Ae hJ3
 replace h:=Al hO3
 refine br (qr ?_)
 cases h;exact en Tryz.results13
def Ky (f_:Aj) (l:List Int):Option (Bool):=
 (bif (decide (((l.length:Nat):Int)≤40))then (Kx f_).bind fun y1=>(bif y1 then(H0 f_).bind fun y2=>some (decide (y2=0))else some false)else some false)
theorem Ui (f_:Aj) (l:List Int) {r:Bool} (h:Ky f_ l=some r):Ad Tryz.prog 14 [.agg (B3 f_),.sl 1 (l.map A2)] (·= .bool r):=by
 refine Ad.nle (Ad.intro Tryz.func14 rfl rfl (by show _≤17;simp) ?_)
 unfold Ky at h
 refine nS (sq ?_)
 refine ar rfl (qn (sq ?_))
 refine rg rfl fun K j=>?_
 intro hm
 revert h;refine gt (fun hc h=>?_) fun hc h=>?_
 ·obtain⟨y1,hy1,h⟩:=Af h
  refine An.pure Tryz.call11 (cN f_ hy1) rfl fun _ hr=>?_
  subst hr
  refine nS ?_
  revert h;refine gt (fun hc h=>?_) fun hc h=>?_
  ·obtain⟨y2,hy2,h⟩:=Af h
   refine An.pure Tryz.call13 (bL f_ hy2) rfl fun _ hr=>?_
   subst hr
   refine nS ?_
   refine j _ _ (qn (rt ?_))
   cases h;exact en Tryz.results14
  refine j _ _ (qn (rt ?_))
  cases h;exact en Tryz.results14
 refine j _ _ (qn (rt ?_))
 cases h;exact en Tryz.results14
def M8 (m:Bb) (node:Int):Option (Int):=
 (Ee m node).bind fun y1=>some y1.1.Alt
end
end Go.Proofs.YtjopghiagoidgaaGreat
