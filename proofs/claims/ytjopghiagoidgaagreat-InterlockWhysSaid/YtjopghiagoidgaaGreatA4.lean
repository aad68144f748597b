/- Our own texts: a layer of abstract values over the model, the walks of the functions, the plain laws; joined and shortened by a small program of our own (wip/dce2.py, wip/pack.py). -/
import Derived.Test.YtjopghiagoidgaaGreatA3
import Derived.Calls
import Derived.Tactics2
import Derived.Below
import Derived.Deep.LoopGhost
import Derived.KernelRfl
import Derived.Laws.Shifts
import Derived.Laws.CopyRow
import Derived.Laws.AppendOwn
import Derived.Laws.MakeOwn
import Derived.Laws.StructEq
import Derived.Maps.RangeRun
import Derived.Lib.SliceRun
import Derived.TacticsIn
import Derived.OrdersIn
import Derived.Sort.LoopGhostIn
import Derived.RangeFuncRecord
import Derived.Orders
import Derived.ProofKit
import Derived.OpenShut
import Derived.ShutString
import Derived.ChangeOld
import Derived.Carry
import Derived.WideShapes
import Derived.ChangeArms
import Derived.ChangeShapes
import Derived.Handed
import Derived.JoinedOf
import Derived.Sort.Grow
import Derived.Lib.SlicesCompact
import Derived.Lib.SlKeysI
import Derived.Maps.Own
import Derived.WideKeyRuns
import Derived.Test.YtjopghiagoidgaaGreatChecked
import Derived.Test.YtjopghiagoidgaaGreatProg
import Derived.Shelf.SortM.Plain
import Derived.Shelf.SortM.SortNone
import Derived.Shelf.SlIterI.Nil
import Derived.Shelf.Slices.CompactI
namespace Go.Proofs.YtjopghiagoidgaaGreat
open Go Go.Ab
attribute [local irreducible] AWP Al Bz Ad Go.Ab.Sub alist dlist Bk Cy D2 G4
set_option maxRecDepth 100000
set_option maxHeartbeats 4000000
set_option linter.unusedSimpArgs false
set_option linter.unusedVariables false
noncomputable section
def Hu (k1:Nat) (x_3:B6) (sv:(List (Int×Bool))):Option (Out ((List (Int×Bool))) (Int)):=
 (Jj x_3).bind fun y4=>(bif (!y4)then some (Out.ret 2)else (bif (mget false sv x_3.ID)then some (Out.ret 7)else (bif ((decide (x_3.To≠0)) !=(decide (x_3.State=1)))then some (Out.ret 10)else (bif ((decide (x_3.Run≠0)) !=(decide (x_3.State=2)))then some (Out.ret 10)else some (Out.next (mset sv x_3.ID true))))))
def Mx (l:List B6):Option (Int):=
 (bif (decide (16<((l.length:Nat):Int)))then some 4 else(Am Hu 0 l []).bind fun o1=>o1.on fun s1=>some 0)
theorem Z3 (l:List B6) {r:Int} (h:Mx l=some r):Ad Tryz.prog 82 [.sl 8 (l.map A2)] (·= .int .i64 r):=by
 refine Ad.nle (Ad.intro Tryz.func82 rfl rfl (by show _≤43;simp) ?_)
 unfold Mx at h
 refine nS (sq ?_)
 refine ar rfl (qn (sq (sq ?_)))
 refine rg rfl fun K j=>?_
 intro hm
 refine j _ _ (qn ?_)
 revert h;refine ca rfl (fun hc h=>?_) fun hc h=>?_
 ·refine sq (ar rfl (qn (rt (qr ?_))))
  cases h;exact en Tryz.results82
 refine sk (qn (sq (ar rfl (qn (sq (sq ?_))))))
 refine rg rfl fun K j=>?_
 intro hm
 refine j _ _ (qn (bk ?_))
 obtain⟨o1,hJ1,hO1⟩:=Ah h
 clear h
 refine AWP.Br (ι:=Nat×((List (Int×Bool)))×(Unit)) (fun zz=>[(3,.map 0),(10,.sl 8 (l.map A2)),(11,.int .i64 ((l.length:Nat):Int)),(12,.int .i64 ((zz.1:Nat):Int))]) (fun zz=>[.mp (mpE Ze zz.2.1)]) (fun zz=>zz.1≤l.length∧Am Hu zz.1 ((l).drop zz.1) zz.2.1=some o1) (fun zz=>l.length - zz.1) (0,[],()) ⟨Nat.zero_le _,hJ1⟩ cu cu (fun x=>⟨rfl,rfl,rfl⟩) ?_
 clear hJ1
 rintro⟨k1,seen1,⟨⟩⟩ ⟨hk1,hJ1⟩
 dsimp only at hk1 hJ1 ⊢
 refine sq (ar rfl (qn (sq ?_)))
 refine AWP.cond (Aj (fun hc=>?_) (fun hc=>?_))
 rotate_left
 ·obtain rfl:=Bc hJ1 (fun hl=>by have:=Ajo hc;omega)
  have h:=Bb hO1;try dsimp only at h
  have hkl:l.length=k1:=by have:=Ajo hc;omega
  subst hkl
  refine xt (qe (qe (bs (qn (sq (ar rfl (qn (rt ?_))))))))
  cases h;exact en Tryz.results82
 have hlt1:k1<l.length:=by have:=Ajp hc;omega
 obtain⟨x_3,b1,hx1_,h,hJ1⟩:=A1 hJ1 hlt1
 have hx1:=Ay hx1_
 have hw1:=wk (k:=k1) (by omega)
 unfold Hu at h;try dsimp only at h
 refine sk (qn (sq (bk (sq ?_))))
 refine rg rfl fun K j=>?_
 refine Bk.of (f:=A2) (l:=l) hx1 ?_
 refine nS ?_
 refine j _ _ (qn (sq (sq ?_)))
 refine rg rfl fun K j=>?_
 obtain⟨y4,hy4,h⟩:=Ah h
 refine Al.pure Tryz.call175 (Xf x_3 hy4) rfl fun _ hr=>?_
 subst hr
 refine nS ?_
 refine j _ _ (qn ?_)
 revert h;refine ca rfl (fun hc h=>?_) fun hc h=>?_
 ·refine sq (ar rfl (qn (rt (qr (br (qr (qr ?_)))))))
  obtain rfl:=Aa h
  obtain rfl:=Af hJ1
  replace h:=An hO1
  refine br (qr ?_)
  cases h;exact en Tryz.results82
 refine sk (qn (sq (sq ?_)))
 refine rg rfl fun K j=>?_
 refine D2.of (f:=Ze) (m:=seen1) (d:=false) rfl ?_
 refine nS ?_
 refine j _ _ (qn ?_)
 revert h;refine ca rfl (fun hc h=>?_) fun hc h=>?_
 ·refine sq (ar rfl (qn (rt (qr (br (qr (qr ?_)))))))
  obtain rfl:=Aa h
  obtain rfl:=Af hJ1
  replace h:=An hO1
  refine br (qr ?_)
  cases h;exact en Tryz.results82
 refine sk (qn (sq (ar rfl (qn (sq ?_)))))
 refine rg rfl fun K j=>?_
 revert h;refine gf (fun hc h=>?_) fun hc h=>?_
 ·refine j _ _ (qn ?_)
  revert h;refine ca rfl (fun hc h=>?_) fun hc h=>?_
  ·refine sq (ar rfl (qn (rt (br (qr (qr ?_))))))
   obtain rfl:=Aa h
   obtain rfl:=Af hJ1
   replace h:=An hO1
   refine br (qr ?_)
   cases h;exact en Tryz.results82
  refine sk (bn (qn (ar rfl (qn ?_))))
  obtain rfl:=Aa h
  refine⟨(k1+1,(mset seen1 x_3.ID true),()),⟨by dsimp only;omega,Ae hJ1⟩,by dsimp only;omega,?_,?_⟩
  ·exact cuw hw1
  exact cuw hw1
 refine j _ _ (qn ?_)
 refine AWP.cond (Ai ?_)
 refine sq (ar rfl (qn (rt (br (qr (qr ?_))))))
 obtain rfl:=Aa h
 obtain rfl:=Af hJ1
 replace h:=An hO1
 refine br (qr ?_)
 cases h;exact en Tryz.results82
def E3 (f_:Ak):Option (Int):=
 (Mk f_.Map).bind fun y1=>(bif (decide (y1≠0))then some y1 else(Mz f_.Closures).bind fun y2=>(bif (decide (y2≠0))then some y2 else(O2 f_.Patrol).bind fun y3=>(bif (decide (y3≠0))then some y3 else(Ml f_.Surfaces).bind fun y4=>(bif (decide (y4≠0))then some y4 else(Jm f_.Slides).bind fun y5=>(bif (decide (y5≠0))then some y5 else(Hy f_.Bulletin).bind fun y6=>(bif (decide (y6≠0))then some y6 else(Q2 f_.Missions).bind fun y7=>(bif (decide (y7≠0))then some y7 else(Qj f_.Winches).bind fun y8=>(bif (decide (y8≠0))then some y8 else(Mx f_.Groomers).bind fun y9=>some y9))))))))
theorem S0 (f_:Ak) {r:Int} (h:E3 f_=some r):Ad Tryz.prog 37 [.agg (Bv f_)] (·= .int .i64 r):=by
 refine Ad.nle (Ad.intro Tryz.func37 rfl rfl (by show _≤62;simp) ?_)
 unfold E3 at h
 refine nS (sq ?_)
 refine ar rfl (qn (sq (sq ?_)))
 refine rg rfl fun K j=>?_
 obtain⟨y1,hy1,h⟩:=Ah h
 refine Al.pure Tryz.call74 (Zj f_.Map hy1) rfl fun _ hr=>?_
 subst hr
 refine nS ?_
 refine j _ _ (qn (sq ?_))
 refine ar rfl (qn ?_)
 revert h;refine ca rfl (fun hc h=>?_) fun hc h=>?_
 ·refine sq (ar rfl (qn (rt (qr ?_))))
  cases h;exact en Tryz.results37
 refine sk (qn (sq (sq ?_)))
 refine rg rfl fun K j=>?_
 obtain⟨y2,hy2,h⟩:=Ah h
 refine Al.pure Tryz.call75 (Z8 f_.Closures hy2) rfl fun _ hr=>?_
 subst hr
 refine nS ?_
 refine j _ _ (qn (sq ?_))
 refine ar rfl (qn ?_)
 revert h;refine ca rfl (fun hc h=>?_) fun hc h=>?_
 ·refine sq (ar rfl (qn (rt (qr ?_))))
  cases h;exact en Tryz.results37
 refine sk (qn (sq (sq ?_)))
 refine rg rfl fun K j=>?_
 obtain⟨y3,hy3,h⟩:=Ah h
 refine Al.pure Tryz.call76 (aV f_.Patrol hy3) rfl fun _ hr=>?_
 subst hr
 refine nS ?_
 refine j _ _ (qn (sq ?_))
 refine ar rfl (qn ?_)
 revert h;refine ca rfl (fun hc h=>?_) fun hc h=>?_
 ·refine sq (ar rfl (qn (rt (qr ?_))))
  cases h;exact en Tryz.results37
 refine sk (qn (sq (sq ?_)))
 refine rg rfl fun K j=>?_
 obtain⟨y4,hy4,h⟩:=Ah h
 refine Al.pure Tryz.call77 (Zl f_.Surfaces hy4) rfl fun _ hr=>?_
 subst hr
 refine nS ?_
 refine j _ _ (qn (sq ?_))
 refine ar rfl (qn ?_)
 revert h;refine ca rfl (fun hc h=>?_) fun hc h=>?_
 ·refine sq (ar rfl (qn (rt (qr ?_))))
  cases h;exact en Tryz.results37
 refine sk (qn (sq (sq ?_)))
 refine rg rfl fun K j=>?_
 obtain⟨y5,hy5,h⟩:=Ah h
 refine Al.pure Tryz.call78 (Xu f_.Slides hy5) rfl fun _ hr=>?_
 subst hr
 refine nS ?_
 refine j _ _ (qn (sq ?_))
 refine ar rfl (qn ?_)
 revert h;refine ca rfl (fun hc h=>?_) fun hc h=>?_
 ·refine sq (ar rfl (qn (rt (qr ?_))))
  cases h;exact en Tryz.results37
 refine sk (qn (sq (sq ?_)))
 refine rg rfl fun K j=>?_
 obtain⟨y6,hy6,h⟩:=Ah h
 refine Al.pure Tryz.call79 (Y3 f_.Bulletin hy6) rfl fun _ hr=>?_
 subst hr
 refine nS ?_
 refine j _ _ (qn (sq ?_))
 refine ar rfl (qn ?_)
 revert h;refine ca rfl (fun hc h=>?_) fun hc h=>?_
 ·refine sq (ar rfl (qn (rt (qr ?_))))
  cases h;exact en Tryz.results37
 refine sk (qn (sq (sq ?_)))
 refine rg rfl fun K j=>?_
 obtain⟨y7,hy7,h⟩:=Ah h
 refine Al.pure Tryz.call80 (eD f_.Missions hy7) rfl fun _ hr=>?_
 subst hr
 refine nS ?_
 refine j _ _ (qn (sq ?_))
 refine ar rfl (qn ?_)
 revert h;refine ca rfl (fun hc h=>?_) fun hc h=>?_
 ·refine sq (ar rfl (qn (rt (qr ?_))))
  cases h;exact en Tryz.results37
 refine sk (qn (sq (sq ?_)))
 refine rg rfl fun K j=>?_
 obtain⟨y8,hy8,h⟩:=Ah h
 refine Al.pure Tryz.call81 (cD f_.Winches hy8) rfl fun _ hr=>?_
 subst hr
 refine nS ?_
 refine j _ _ (qn (sq ?_))
 refine ar rfl (qn ?_)
 revert h;refine ca rfl (fun hc h=>?_) fun hc h=>?_
 ·refine sq (ar rfl (qn (rt (qr ?_))))
  cases h;exact en Tryz.results37
 refine sk (qn (sq ?_))
 refine rg rfl fun K j=>?_
 obtain⟨y9,hy9,h⟩:=Ah h
 refine Al.pure Tryz.call82 (Z3 f_.Groomers hy9) rfl fun _ hr=>?_
 subst hr
 refine nS ?_
 refine j _ _ (qn (rt ?_))
 cases h;exact en Tryz.results37
def Q7 (id_:Int) (k0:Nat) (x_2:Ce) (sv:Unit):Option (Out (Unit) (Ce×Bool)):=
 (bif (decide (x_2.ID=id_))then some (Out.ret (x_2,true))else some (Out.next ()))
def Od (m:Bd) (id_:Int):Option (Ce×Bool):=
 (Am (Q7 id_) 0 m.Lifts ()).bind fun o0=>o0.on fun s0=>some ((Ce.mk 0 0 0 0 0 0 0 0),false)
theorem S4 (m:Bd) (id_:Int) {r:Ce×Bool} (h:Od m id_=some r):Ad Tryz.prog 83 [.agg (Ca m),.int .i64 id_] (·= .tuple [.agg (A7 r.1),.bool r.2]):=by
 refine Ad.nle (Ad.intro Tryz.func83 rfl rfl (by show _≤22;simp) ?_)
 unfold Od at h
 refine nS (sq ?_)
 refine ar rfl (qn (sq (sq ?_)))
 refine rg rfl fun K j=>?_
 intro hm
 refine j _ _ (qn (bk ?_))
 obtain⟨o0,hJ0,hO0⟩:=Ah h
 clear h
 refine AWP.Br (ι:=Nat×(Unit)×(Unit)) (fun zz=>[(1,.int .i64 id_),(4,.ptr 1 0),(9,.sl 8 (m.Lifts.map A7)),(10,.int .i64 ((m.Lifts.length:Nat):Int)),(11,.int .i64 ((zz.1:Nat):Int))]) (fun zz=>[.gone,.box [.int .i64 0,.int .i64 0,.int .i64 0,.int .i64 0,.int .i64 0,.int .i64 0,.int .i64 0,.int .i64 0]]) (fun zz=>zz.1≤m.Lifts.length∧Am (Q7 id_) zz.1 ((m.Lifts).drop zz.1) zz.2.1=some o0) (fun zz=>m.Lifts.length - zz.1) (0,(),()) ⟨Nat.zero_le _,hJ0⟩ cu cu (fun x=>⟨rfl,rfl,rfl⟩) ?_
 clear hJ0
 rintro⟨k0,⟨⟩,⟨⟩⟩ ⟨hk0,hJ0⟩
 dsimp only at hk0 hJ0 ⊢
 refine sq (ar rfl (qn (sq ?_)))
 refine AWP.cond (Aj (fun hc=>?_) (fun hc=>?_))
 rotate_left
 ·obtain rfl:=Bc hJ0 (fun hl=>by have:=Ajo hc;omega)
  have h:=Bb hO0;try dsimp only at h
  have hkl:m.Lifts.length=k0:=by have:=Ajo hc;omega
  subst hkl
  refine xt (qe (qe (bs (qn (sq (ar rfl (qn (rt ?_))))))))
  cases h;exact en Tryz.results83
 have hlt0:k0<m.Lifts.length:=by have:=Ajp hc;omega
 obtain⟨x_2,b0,hx0_,h,hJ0⟩:=A1 hJ0 hlt0
 have hx0:=Ay hx0_
 have hw0:=wk (k:=k0) (by omega)
 unfold Q7 at h;try dsimp only at h
 refine sk (qn (sq (bk (sq ?_))))
 refine rg rfl fun K j=>?_
 refine Bk.of (f:=A7) (l:=m.Lifts) hx0 ?_
 refine nS ?_
 refine j _ _ (qn (sq ?_))
 refine ar rfl (qn ?_)
 revert h;refine ca rfl (fun hc h=>?_) fun hc h=>?_
 ·refine sq (ar rfl (qn (rt (br (qr (qr ?_))))))
  obtain rfl:=Aa h
  obtain rfl:=Af hJ0
  replace h:=An hO0
  refine br (qr ?_)
  cases h;exact en Tryz.results83
 refine sk (bn (qn (ar rfl (qn ?_))))
 obtain rfl:=Aa h
 refine⟨(k0+1,(),()),⟨by dsimp only;omega,Ae hJ0⟩,by dsimp only;omega,?_,?_⟩
 ·exact cuw hw0
 exact cuw hw0
def D6 (f_:Ak) (k0:Nat) (x_2:Cr) (sv:Unit):Option (Out (Unit) (Int)):=
 (bif (decide (0<((k0:Nat):Int)))then (Dl f_.Lifts (IntKind.i64.wrap (((k0:Nat):Int) - 1))).bind fun x_3=>(bif (decide (x_2.Lift≤x_3.Lift))then some (Out.ret 11)else (Od f_.Map x_2.Lift).bind fun y4=>(bif (!y4.2)then some (Out.ret 8)else (bif (decide (x_2.Mode<0))then some (Out.ret 2)else (bif (decide (3<x_2.Mode))then some (Out.ret 2)else some (Out.next ())))))else (Od f_.Map x_2.Lift).bind fun y5=>(bif (!y5.2)then some (Out.ret 8)else (bif (decide (x_2.Mode<0))then some (Out.ret 2)else (bif (decide (3<x_2.Mode))then some (Out.ret 2)else some (Out.next ())))))
def Gn (f_:Ak):Option (Int):=
 (Am (D6 f_) 0 f_.Lifts ()).bind fun o0=>o0.on fun s0=>some 0
theorem S2 (f_:Ak) {r:Int} (h:Gn f_=some r):Ad Tryz.prog 38 [.agg (Bv f_)] (·= .int .i64 r):=by
 refine Ad.nle (Ad.intro Tryz.func38 rfl rfl (by show _≤48;simp) ?_)
 unfold Gn at h
 refine nS (sq ?_)
 refine ar rfl (qn (sq (sq ?_)))
 refine rg rfl fun K j=>?_
 intro hm
 refine j _ _ (qn (bk ?_))
 obtain⟨o0,hJ0,hO0⟩:=Ah h
 clear h
 refine AWP.Br (ι:=Nat×(Unit)×(Unit)) (fun zz=>[(1,.ptr 0 0),(8,.sl 2 (f_.Lifts.map Az)),(9,.int .i64 ((f_.Lifts.length:Nat):Int)),(10,.int .i64 ((zz.1:Nat):Int))]) (fun zz=>[.box [.sl 2 (f_.Map.Nodes.map A9),.sl 8 (f_.Map.Lifts.map A7),.sl 7 (f_.Map.Runs.map Be),.sl 1 (f_.Map.Bases.map Aw),.sl 2 (f_.Lifts.map Az),.sl 4 (f_.Closures.map Aq),.sl 4 (f_.Patrol.Bw.map Ax),.sl 3 (f_.Patrol.Hazards.map A3),.sl 3 (f_.Surfaces.map Ba),.sl 5 (f_.Packs.map A4),.sl 6 (f_.Slides.map A5),.sl 7 (f_.Bulletin.map Au),.sl 7 (f_.Missions.map Ao),.sl 4 (f_.Winches.map Ap),.sl 8 (f_.Groomers.map A2),.sl 3 (f_.Status.map A6),.int .i64 f_.Depth,.int .i64 f_.Time]]) (fun zz=>zz.1≤f_.Lifts.length∧Am (D6 f_) zz.1 ((f_.Lifts).drop zz.1) zz.2.1=some o0) (fun zz=>f_.Lifts.length - zz.1) (0,(),()) ⟨Nat.zero_le _,hJ0⟩ cu cu (fun x=>⟨rfl,rfl,rfl⟩) ?_
 clear hJ0
 rintro⟨k0,⟨⟩,⟨⟩⟩ ⟨hk0,hJ0⟩
 dsimp only at hk0 hJ0 ⊢
 refine sq (ar rfl (qn (sq ?_)))
 refine AWP.cond (Aj (fun hc=>?_) (fun hc=>?_))
 rotate_left
 ·obtain rfl:=Bc hJ0 (fun hl=>by have:=Ajo hc;omega)
  have h:=Bb hO0;try dsimp only at h
  have hkl:f_.Lifts.length=k0:=by have:=Ajo hc;omega
  subst hkl
  refine xt (qe (qe (bs (qn (sq (ar rfl (qn (rt ?_))))))))
  cases h;exact en Tryz.results38
 have hlt0:k0<f_.Lifts.length:=by have:=Ajp hc;omega
 obtain⟨x_2,b0,hx0_,h,hJ0⟩:=A1 hJ0 hlt0
 have hx0:=Ay hx0_
 have hw0:=wk (k:=k0) (by omega)
 unfold D6 at h;try dsimp only at h
 refine sk (qn (sq (bk (sq ?_))))
 refine rg rfl fun K j=>?_
 refine Bk.of (f:=Az) (l:=f_.Lifts) hx0 ?_
 refine nS ?_
 refine j _ _ (qn (sq (sq ?_)))
 refine AWP.draw Tryz.mixed (by kernel_rfl) ?_;intro K j
 refine nS ?_
 revert h;refine gt (fun hc h=>?_) fun hc h=>?_
 ·obtain⟨x_3,hx_3,h⟩:=Ah h
  refine Bk.of (f:=Az) (l:=f_.Lifts) hx_3 ?_
  refine nS ?_
  refine j _ _ _ (by kernel_rfl) ?_
  refine qn ?_
  revert h;refine ca rfl (fun hc h=>?_) fun hc h=>?_
  ·refine sq (ar rfl (qn (rt (qr (br (qr (qr ?_)))))))
   obtain rfl:=Aa h
   obtain rfl:=Af hJ0
   replace h:=An hO0
   refine br (qr ?_)
   cases h;exact en Tryz.results38
  refine sk (qn (sq (sq ?_)))
  refine rg rfl fun K j=>?_
  obtain⟨y4,hy4,h⟩:=Ah h
  refine Al.pure Tryz.call83 (S4 f_.Map x_2.Lift hy4) rfl fun _ hr=>?_
  subst hr
  refine nS ?_
  refine j _ _ (qn (sq ?_))
  refine ar rfl (qn ?_)
  revert h;refine ca rfl (fun hc h=>?_) fun hc h=>?_
  ·refine sq (ar rfl (qn (rt (qr (br (qr (qr ?_)))))))
   obtain rfl:=Aa h
   obtain rfl:=Af hJ0
   replace h:=An hO0
   refine br (qr ?_)
   cases h;exact en Tryz.results38
  refine sk (qn (sq ?_))
  refine rg rfl fun K j=>?_
  revert h;refine gf (fun hc h=>?_) fun hc h=>?_
  ·refine j _ _ (qn ?_)
   revert h;refine ca rfl (fun hc h=>?_) fun hc h=>?_
   ·refine sq (ar rfl (qn (rt (br (qr (qr ?_))))))
    obtain rfl:=Aa h
    obtain rfl:=Af hJ0
    replace h:=An hO0
    refine br (qr ?_)
    cases h;exact en Tryz.results38
   refine sk (bn (qn (ar rfl (qn ?_))))
   obtain rfl:=Aa h
   refine⟨(k0+1,(),()),⟨by dsimp only;omega,Ae hJ0⟩,by dsimp only;omega,?_,?_⟩
   ·exact cuw hw0
   exact cuw hw0
  refine j _ _ (qn ?_)
  refine AWP.cond (Ai ?_)
  refine sq (ar rfl (qn (rt (br (qr (qr ?_))))))
  obtain rfl:=Aa h
  obtain rfl:=Af hJ0
  replace h:=An hO0
  refine br (qr ?_)
  cases h;exact en Tryz.results38
 refine j _ _ _ (by kernel_rfl) ?_
 refine qn ?_
 refine AWP.cond (Bg ?_)
 refine sk (qn (sq (sq ?_)))
 refine rg rfl fun K j=>?_
 obtain⟨y5,hy5,h⟩:=Ah h
 refine Al.pure Tryz.call83 (S4 f_.Map x_2.Lift hy5) rfl fun _ hr=>?_
 subst hr
 refine nS ?_
 refine j _ _ (qn (sq ?_))
 refine ar rfl (qn ?_)
 revert h;refine ca rfl (fun hc h=>?_) fun hc h=>?_
 ·refine sq (ar rfl (qn (rt (qr (br (qr (qr ?_)))))))
  obtain rfl:=Aa h
  obtain rfl:=Af hJ0
  replace h:=An hO0
  refine br (qr ?_)
  cases h;exact en Tryz.results38
 refine sk (qn (sq ?_))
 refine rg rfl fun K j=>?_
 revert h;refine gf (fun hc h=>?_) fun hc h=>?_
 ·refine j _ _ (qn ?_)
  revert h;refine ca rfl (fun hc h=>?_) fun hc h=>?_
  ·refine sq (ar rfl (qn (rt (br (qr (qr ?_))))))
   obtain rfl:=Aa h
   obtain rfl:=Af hJ0
   replace h:=An hO0
   refine br (qr ?_)
   cases h;exact en Tryz.results38
  refine sk (bn (qn (ar rfl (qn ?_))))
  obtain rfl:=Aa h
  refine⟨(k0+1,(),()),⟨by dsimp only;omega,Ae hJ0⟩,by dsimp only;omega,?_,?_⟩
  ·exact cuw hw0
  exact cuw hw0
 refine j _ _ (qn ?_)
 refine AWP.cond (Ai ?_)
 refine sq (ar rfl (qn (rt (br (qr (qr ?_))))))
 obtain rfl:=Aa h
 obtain rfl:=Af hJ0
 replace h:=An hO0
 refine br (qr ?_)
 cases h;exact en Tryz.results38
def D5 (f_:Ak) (k0:Nat) (x_2:C5) (sv:Unit):Option (Out (Unit) (Int)):=
 (bif (decide (x_2.Area<1))then some (Out.ret 2)else (bif (decide (10000000<x_2.Area))then some (Out.ret 2)else (Ki x_2.Pack).bind fun y3=>(bif (!y3)then some (Out.ret 2)else (bif (decide (0<((k0:Nat):Int)))then (Dl f_.Packs (IntKind.i64.wrap (((k0:Nat):Int) - 1))).bind fun x_4=>(bif (decide (x_2.Run≤x_4.Run))then some (Out.ret 11)else some (Out.next ()))else some (Out.next ())))))
def Gm (f_:Ak):Option (Int):=
 (Am (D5 f_) 0 f_.Packs ()).bind fun o0=>o0.on fun s0=>some 0
theorem S1 (f_:Ak) {r:Int} (h:Gm f_=some r):Ad Tryz.prog 39 [.agg (Bv f_)] (·= .int .i64 r):=by
 refine Ad.nle (Ad.intro Tryz.func39 rfl rfl (by show _≤42;simp) ?_)
 unfold Gm at h
 refine nS (sq ?_)
 refine ar rfl (qn (sq (sq ?_)))
 refine rg rfl fun K j=>?_
 intro hm
 refine j _ _ (qn (bk ?_))
 obtain⟨o0,hJ0,hO0⟩:=Ah h
 clear h
 refine AWP.Br (ι:=Nat×(Unit)×(Unit)) (fun zz=>[(1,.ptr 0 0),(6,.sl 5 (f_.Packs.map A4)),(7,.int .i64 ((f_.Packs.length:Nat):Int)),(8,.int .i64 ((zz.1:Nat):Int))]) (fun zz=>[.box [.sl 2 (f_.Map.Nodes.map A9),.sl 8 (f_.Map.Lifts.map A7),.sl 7 (f_.Map.Runs.map Be),.sl 1 (f_.Map.Bases.map Aw),.sl 2 (f_.Lifts.map Az),.sl 4 (f_.Closures.map Aq),.sl 4 (f_.Patrol.Bw.map Ax),.sl 3 (f_.Patrol.Hazards.map A3),.sl 3 (f_.Surfaces.map Ba),.sl 5 (f_.Packs.map A4),.sl 6 (f_.Slides.map A5),.sl 7 (f_.Bulletin.map Au),.sl 7 (f_.Missions.map Ao),.sl 4 (f_.Winches.map Ap),.sl 8 (f_.Groomers.map A2),.sl 3 (f_.Status.map A6),.int .i64 f_.Depth,.int .i64 f_.Time]]) (fun zz=>zz.1≤f_.Packs.length∧Am (D5 f_) zz.1 ((f_.Packs).drop zz.1) zz.2.1=some o0) (fun zz=>f_.Packs.length - zz.1) (0,(),()) ⟨Nat.zero_le _,hJ0⟩ cu cu (fun x=>⟨rfl,rfl,rfl⟩) ?_
 clear hJ0
 rintro⟨k0,⟨⟩,⟨⟩⟩ ⟨hk0,hJ0⟩
 dsimp only at hk0 hJ0 ⊢
 refine sq (ar rfl (qn (sq ?_)))
 refine AWP.cond (Aj (fun hc=>?_) (fun hc=>?_))
 rotate_left
 ·obtain rfl:=Bc hJ0 (fun hl=>by have:=Ajo hc;omega)
  have h:=Bb hO0;try dsimp only at h
  have hkl:f_.Packs.length=k0:=by have:=Ajo hc;omega
  subst hkl
  refine xt (qe (qe (bs (qn (sq (ar rfl (qn (rt ?_))))))))
  cases h;exact en Tryz.results39
 have hlt0:k0<f_.Packs.length:=by have:=Ajp hc;omega
 obtain⟨x_2,b0,hx0_,h,hJ0⟩:=A1 hJ0 hlt0
 have hx0:=Ay hx0_
 have hw0:=wk (k:=k0) (by omega)
 unfold D5 at h;try dsimp only at h
 refine sk (qn (sq (bk (sq ?_))))
 refine rg rfl fun K j=>?_
 refine Bk.of (f:=A4) (l:=f_.Packs) hx0 ?_
 refine nS ?_
 refine j _ _ (qn (sq (sq ?_)))
 refine rg rfl fun K j=>?_
 revert h;refine gf (fun hc h=>?_) fun hc h=>?_
 rotate_left
 ·refine j _ _ (qn ?_)
  refine AWP.cond (Ai ?_)
  refine sq (ar rfl (qn (rt (qr (br (qr (qr ?_)))))))
  obtain rfl:=Aa h
  obtain rfl:=Af hJ0
  replace h:=An hO0
  refine br (qr ?_)
  cases h;exact en Tryz.results39
 revert h;refine gf (fun hc h=>?_) fun hc h=>?_
 rotate_left
 ·refine j _ _ (qn ?_)
  refine AWP.cond (Ai ?_)
  refine sq (ar rfl (qn (rt (qr (br (qr (qr ?_)))))))
  obtain rfl:=Aa h
  obtain rfl:=Af hJ0
  replace h:=An hO0
  refine br (qr ?_)
  cases h;exact en Tryz.results39
 obtain⟨y3,hy3,h⟩:=Ah h
 refine Al.pure Tryz.call84 (Rg x_2.Pack hy3) rfl fun _ hr=>?_
 subst hr
 refine nS ?_
 refine j _ _ (qn ?_)
 revert h;refine ca rfl (fun hc h=>?_) fun hc h=>?_
 ·refine sq (ar rfl (qn (rt (qr (br (qr (qr ?_)))))))
  obtain rfl:=Aa h
  obtain rfl:=Af hJ0
  replace h:=An hO0
  refine br (qr ?_)
  cases h;exact en Tryz.results39
 refine sk (qn (sq ?_))
 refine AWP.draw Tryz.mixed (by kernel_rfl) ?_;intro K j
 refine nS ?_
 revert h;refine gt (fun hc h=>?_) fun hc h=>?_
 ·obtain⟨x_4,hx_4,h⟩:=Ah h
  refine Bk.of (f:=A4) (l:=f_.Packs) hx_4 ?_
  refine nS ?_
  refine j _ _ _ (by kernel_rfl) ?_
  refine qn ?_
  revert h;refine ca rfl (fun hc h=>?_) fun hc h=>?_
  ·refine sq (ar rfl (qn (rt (br (qr (qr ?_))))))
   obtain rfl:=Aa h
   obtain rfl:=Af hJ0
   replace h:=An hO0
   refine br (qr ?_)
   cases h;exact en Tryz.results39
  refine sk (bn (qn (ar rfl (qn ?_))))
  obtain rfl:=Aa h
  refine⟨(k0+1,(),()),⟨by dsimp only;omega,Ae hJ0⟩,by dsimp only;omega,?_,?_⟩
  ·exact cuw hw0
  exact cuw hw0
 refine j _ _ _ (by kernel_rfl) ?_
 refine qn ?_
 refine AWP.cond (Bg ?_)
 refine sk (bn (qn (ar rfl (qn ?_))))
 obtain rfl:=Aa h
 refine⟨(k0+1,(),()),⟨by dsimp only;omega,Ae hJ0⟩,by dsimp only;omega,?_,?_⟩
 ·exact cuw hw0
 exact cuw hw0
def Dy (f_:Ak) (k0:Nat) (x_2:Bo) (sv:Unit):Option (Out (Unit) (Int)):=
 (bif (decide (0<((k0:Nat):Int)))then (Dl f_.Status (IntKind.i64.wrap (((k0:Nat):Int) - 1))).bind fun x_3=>(bif (decide (x_2.Run≤x_3.Run))then some (Out.ret 11)else (Ex f_.Map x_2.Run).bind fun y4=>(bif (!y4.2)then some (Out.ret 8)else (bif (decide (x_2.Since<0))then some (Out.ret 2)else (bif (decide (20000000<x_2.Since))then some (Out.ret 2)else some (Out.next ())))))else (Ex f_.Map x_2.Run).bind fun y5=>(bif (!y5.2)then some (Out.ret 8)else (bif (decide (x_2.Since<0))then some (Out.ret 2)else (bif (decide (20000000<x_2.Since))then some (Out.ret 2)else some (Out.next ())))))
def Ga (f_:Ak):Option (Int):=
 (Am (Dy f_) 0 f_.Status ()).bind fun o0=>o0.on fun s0=>some 0
theorem Sl (f_:Ak) {r:Int} (h:Ga f_=some r):Ad Tryz.prog 40 [.agg (Bv f_)] (·= .int .i64 r):=by
 refine Ad.nle (Ad.intro Tryz.func40 rfl rfl (by show _≤48;simp) ?_)
 unfold Ga at h
 refine nS (sq ?_)
 refine ar rfl (qn (sq (sq ?_)))
 refine rg rfl fun K j=>?_
 intro hm
 refine j _ _ (qn (bk ?_))
 obtain⟨o0,hJ0,hO0⟩:=Ah h
 clear h
 refine AWP.Br (ι:=Nat×(Unit)×(Unit)) (fun zz=>[(1,.ptr 0 0),(8,.sl 3 (f_.Status.map A6)),(9,.int .i64 ((f_.Status.length:Nat):Int)),(10,.int .i64 ((zz.1:Nat):Int))]) (fun zz=>[.box [.sl 2 (f_.Map.Nodes.map A9),.sl 8 (f_.Map.Lifts.map A7),.sl 7 (f_.Map.Runs.map Be),.sl 1 (f_.Map.Bases.map Aw),.sl 2 (f_.Lifts.map Az),.sl 4 (f_.Closures.map Aq),.sl 4 (f_.Patrol.Bw.map Ax),.sl 3 (f_.Patrol.Hazards.map A3),.sl 3 (f_.Surfaces.map Ba),.sl 5 (f_.Packs.map A4),.sl 6 (f_.Slides.map A5),.sl 7 (f_.Bulletin.map Au),.sl 7 (f_.Missions.map Ao),.sl 4 (f_.Winches.map Ap),.sl 8 (f_.Groomers.map A2),.sl 3 (f_.Status.map A6),.int .i64 f_.Depth,.int .i64 f_.Time]]) (fun zz=>zz.1≤f_.Status.length∧Am (Dy f_) zz.1 ((f_.Status).drop zz.1) zz.2.1=some o0) (fun zz=>f_.Status.length - zz.1) (0,(),()) ⟨Nat.zero_le _,hJ0⟩ cu cu (fun x=>⟨rfl,rfl,rfl⟩) ?_
 clear hJ0
 rintro⟨k0,⟨⟩,⟨⟩⟩ ⟨hk0,hJ0⟩
 dsimp only at hk0 hJ0 ⊢
 refine sq (ar rfl (qn (sq ?_)))
 refine AWP.cond (Aj (fun hc=>?_) (fun hc=>?_))
 rotate_left
 ·obtain rfl:=Bc hJ0 (fun hl=>by have:=Ajo hc;omega)
  have h:=Bb hO0;try dsimp only at h
  have hkl:f_.Status.length=k0:=by have:=Ajo hc;omega
  subst hkl
  refine xt (qe (qe (bs (qn (sq (ar rfl (qn (rt ?_))))))))
  cases h;exact en Tryz.results40
 have hlt0:k0<f_.Status.length:=by have:=Ajp hc;omega
 obtain⟨x_2,b0,hx0_,h,hJ0⟩:=A1 hJ0 hlt0
 have hx0:=Ay hx0_
 have hw0:=wk (k:=k0) (by omega)
 unfold Dy at h;try dsimp only at h
 refine sk (qn (sq (bk (sq ?_))))
 refine rg rfl fun K j=>?_
 refine Bk.of (f:=A6) (l:=f_.Status) hx0 ?_
 refine nS ?_
 refine j _ _ (qn (sq (sq ?_)))
 refine AWP.draw Tryz.mixed (by kernel_rfl) ?_;intro K j
 refine nS ?_
 revert h;refine gt (fun hc h=>?_) fun hc h=>?_
 ·obtain⟨x_3,hx_3,h⟩:=Ah h
  refine Bk.of (f:=A6) (l:=f_.Status) hx_3 ?_
  refine nS ?_
  refine j _ _ _ (by kernel_rfl) ?_
  refine qn ?_
  revert h;refine ca rfl (fun hc h=>?_) fun hc h=>?_
  ·refine sq (ar rfl (qn (rt (qr (br (qr (qr ?_)))))))
   obtain rfl:=Aa h
   obtain rfl:=Af hJ0
   replace h:=An hO0
   refine br (qr ?_)
   cases h;exact en Tryz.results40
  refine sk (qn (sq (sq ?_)))
  refine rg rfl fun K j=>?_
  obtain⟨y4,hy4,h⟩:=Ah h
  refine Al.pure Tryz.call53 (D3 f_.Map x_2.Run hy4) rfl fun _ hr=>?_
  subst hr
  refine nS ?_
  refine j _ _ (qn (sq ?_))
  refine ar rfl (qn ?_)
  revert h;refine ca rfl (fun hc h=>?_) fun hc h=>?_
  ·refine sq (ar rfl (qn (rt (qr (br (qr (qr ?_)))))))
   obtain rfl:=Aa h
   obtain rfl:=Af hJ0
   replace h:=An hO0
   refine br (qr ?_)
   cases h;exact en Tryz.results40
  refine sk (qn (sq ?_))
  refine rg rfl fun K j=>?_
  revert h;refine gf (fun hc h=>?_) fun hc h=>?_
  ·refine j _ _ (qn ?_)
   revert h;refine ca rfl (fun hc h=>?_) fun hc h=>?_
   ·refine sq (ar rfl (qn (rt (br (qr (qr ?_))))))
    obtain rfl:=Aa h
    obtain rfl:=Af hJ0
    replace h:=An hO0
    refine br (qr ?_)
    cases h;exact en Tryz.results40
   refine sk (bn (qn (ar rfl (qn ?_))))
   obtain rfl:=Aa h
   refine⟨(k0+1,(),()),⟨by dsimp only;omega,Ae hJ0⟩,by dsimp only;omega,?_,?_⟩
   ·exact cuw hw0
   exact cuw hw0
  refine j _ _ (qn ?_)
  refine AWP.cond (Ai ?_)
  refine sq (ar rfl (qn (rt (br (qr (qr ?_))))))
  obtain rfl:=Aa h
  obtain rfl:=Af hJ0
  replace h:=An hO0
  refine br (qr ?_)
  cases h;exact en Tryz.results40
 refine j _ _ _ (by kernel_rfl) ?_
 refine qn ?_
 refine AWP.cond (Bg ?_)
 refine sk (qn (sq (sq ?_)))
 refine rg rfl fun K j=>?_
 obtain⟨y5,hy5,h⟩:=Ah h
 refine Al.pure Tryz.call53 (D3 f_.Map x_2.Run hy5) rfl fun _ hr=>?_
 subst hr
 refine nS ?_
 refine j _ _ (qn (sq ?_))
 refine ar rfl (qn ?_)
 revert h;refine ca rfl (fun hc h=>?_) fun hc h=>?_
 ·refine sq (ar rfl (qn (rt (qr (br (qr (qr ?_)))))))
  obtain rfl:=Aa h
  obtain rfl:=Af hJ0
  replace h:=An hO0
  refine br (qr ?_)
  cases h;exact en Tryz.results40
 refine sk (qn (sq ?_))
 refine rg rfl fun K j=>?_
 revert h;refine gf (fun hc h=>?_) fun hc h=>?_
 ·refine j _ _ (qn ?_)
  revert h;refine ca rfl (fun hc h=>?_) fun hc h=>?_
  ·refine sq (ar rfl (qn (rt (br (qr (qr ?_))))))
   obtain rfl:=Aa h
   obtain rfl:=Af hJ0
   replace h:=An hO0
   refine br (qr ?_)
   cases h;exact en Tryz.results40
  refine sk (bn (qn (ar rfl (qn ?_))))
  obtain rfl:=Aa h
  refine⟨(k0+1,(),()),⟨by dsimp only;omega,Ae hJ0⟩,by dsimp only;omega,?_,?_⟩
  ·exact cuw hw0
  exact cuw hw0
 refine j _ _ (qn ?_)
 refine AWP.cond (Ai ?_)
 refine sq (ar rfl (qn (rt (br (qr (qr ?_))))))
 obtain rfl:=Aa h
 obtain rfl:=Af hJ0
 replace h:=An hO0
 refine br (qr ?_)
 cases h;exact en Tryz.results40
def Ge (f_:Ak):Option (Int):=
 (E3 f_).bind fun y1=>(bif (decide (y1≠0))then some y1 else(bif (decide (32<((f_.Lifts.length:Nat):Int)))then some 4 else(bif (decide (64<((f_.Packs.length:Nat):Int)))then some 4 else(bif (decide (64<((f_.Status.length:Nat):Int)))then some 4 else(Gn f_).bind fun y2=>(bif (decide (y2≠0))then some y2 else(Gm f_).bind fun y3=>(bif (decide (y3≠0))then some y3 else(Ga f_).bind fun y4=>(bif (decide (y4≠0))then some y4 else(bif (decide (f_.Depth<0))then some 2 else(bif (decide (10000<f_.Depth))then some 2 else(bif (decide (f_.Time<0))then some 2 else(bif (decide (20000000<f_.Time))then some 2 else some 0)))))))))))
theorem Xc (f_:Ak) {r:Int} (h:Ge f_=some r):Ad Tryz.prog 12 [.agg (Bv f_)] (·= .int .i64 r):=by
 refine Ad.nle (Ad.intro Tryz.func12 rfl rfl (by show _≤61;simp) ?_)
 unfold Ge at h
 refine nS (sq ?_)
 refine ar rfl (qn (sq (sq ?_)))
 refine rg rfl fun K j=>?_
 obtain⟨y1,hy1,h⟩:=Ah h
 refine Al.pure Tryz.call37 (S0 f_ hy1) rfl fun _ hr=>?_
 subst hr
 refine nS ?_
 refine j _ _ (qn (sq ?_))
 refine ar rfl (qn ?_)
 revert h;refine ca rfl (fun hc h=>?_) fun hc h=>?_
 ·refine sq (ar rfl (qn (rt (qr ?_))))
  cases h;exact en Tryz.results12
 refine sk (qn (sq (sq ?_)))
 refine rg rfl fun K j=>?_
 intro hm
 revert h;refine gf (fun hc h=>?_) fun hc h=>?_
 rotate_left
 ·refine j _ _ (qn ?_)
  refine AWP.cond (Ai ?_)
  refine sq (ar rfl (qn (rt (qr ?_))))
  cases h;exact en Tryz.results12
 intro hm
 revert h;refine gf (fun hc h=>?_) fun hc h=>?_
 rotate_left
 ·refine j _ _ (qn ?_)
  refine AWP.cond (Ai ?_)
  refine sq (ar rfl (qn (rt (qr ?_))))
  cases h;exact en Tryz.results12
 intro hm
 refine j _ _ (qn ?_)
 revert h;refine ca rfl (fun hc h=>?_) fun hc h=>?_
 ·refine sq (ar rfl (qn (rt (qr ?_))))
  cases h;exact en Tryz.results12
 refine sk (qn (sq (sq ?_)))
 refine rg rfl fun K j=>?_
 obtain⟨y2,hy2,h⟩:=Ah h
 refine Al.pure Tryz.call38 (S2 f_ hy2) rfl fun _ hr=>?_
 subst hr
 refine nS ?_
 refine j _ _ (qn (sq ?_))
 refine ar rfl (qn ?_)
 revert h;refine ca rfl (fun hc h=>?_) fun hc h=>?_
 ·refine sq (ar rfl (qn (rt (qr ?_))))
  cases h;exact en Tryz.results12
 refine sk (qn (sq (sq ?_)))
 refine rg rfl fun K j=>?_
 obtain⟨y3,hy3,h⟩:=Ah h
 refine Al.pure Tryz.call39 (S1 f_ hy3) rfl fun _ hr=>?_
 subst hr
 refine nS ?_
 refine j _ _ (qn (sq ?_))
 refine ar rfl (qn ?_)
 revert h;refine ca rfl (fun hc h=>?_) fun hc h=>?_
 ·refine sq (ar rfl (qn (rt (qr ?_))))
  cases h;exact en Tryz.results12
 refine sk (qn (sq (sq ?_)))
 refine rg rfl fun K j=>?_
 obtain⟨y4,hy4,h⟩:=Ah h
 refine Al.pure Tryz.call40 (Sl f_ hy4) rfl fun _ hr=>?_
 subst hr
 refine nS ?_
 refine j _ _ (qn (sq ?_))
 refine ar rfl (qn ?_)
 revert h;refine ca rfl (fun hc h=>?_) fun hc h=>?_
 ·refine sq (ar rfl (qn (rt (qr ?_))))
  cases h;exact en Tryz.results12
 refine sk (qn (sq (sq ?_)))
 refine rg rfl fun K j=>?_
 revert h;refine gf (fun hc h=>?_) fun hc h=>?_
 ·revert h;refine gf (fun hc h=>?_) fun hc h=>?_
  ·revert h;refine gf (fun hc h=>?_) fun hc h=>?_
   ·refine j _ _ (qn ?_)
    revert h;refine ca rfl (fun hc h=>?_) fun hc h=>?_
    ·refine sq (ar rfl (qn (rt (qr ?_))))
     cases h;exact en Tryz.results12
    refine sk (qn (sq (ar rfl (qn (rt ?_)))))
    cases h;exact en Tryz.results12
   refine j _ _ (qn ?_)
   refine AWP.cond (Ai ?_)
   refine sq (ar rfl (qn (rt (qr ?_))))
   cases h;exact en Tryz.results12
  refine j _ _ (qn ?_)
  refine AWP.cond (Ai ?_)
  refine sq (ar rfl (qn (rt (qr ?_))))
  cases h;exact en Tryz.results12
 refine j _ _ (qn ?_)
 refine AWP.cond (Ai ?_)
 refine sq (ar rfl (qn (rt (qr ?_))))
 cases h;exact en Tryz.results12
def O8 (f_:Ak) (set_5:List Int) (k9:Nat) (x_11:Int) (sv:(List Int)):Option (Out ((List Int)) (Out ((List Int)) ((List Int)))):=
 (D7 f_ set_5 x_11).bind fun y12=>(bif y12 then chk (sv.length+1) (some (Out.next (sv++[x_11])))else some (Out.next sv))
def O9 (f_:Ak) (sv:(List Int)):Option (Out ((List Int)) ((List Int))):=
 (Am (O8 f_ sv) 0 sv []).bind fun o9=>o9.on fun s9=>(bif (decide (((s9.length:Nat):Int)=((sv.length:Nat):Int)))then some (Out.ret s9)else some (Out.next s9))
def O7 (f_:Ak) (set_22:List Int) (k26:Nat) (x_28:Int) (sv:(List Int)):Option (Out ((List Int)) (Out ((List Int)) ((List Int)))):=
 (D7 f_ set_22 x_28).bind fun y29=>(bif y29 then chk (sv.length+1) (some (Out.next (sv++[x_28])))else some (Out.next sv))
def J5 (f_:Ak) (sv:(List Int)):Option (Out ((List Int)) ((List Int))):=
 (Am (O7 f_ sv) 0 sv []).bind fun o26=>o26.on fun s26=>(bif (decide (((s26.length:Nat):Int)=((sv.length:Nat):Int)))then some (Out.ret s26)else some (Out.next s26))
def Du (f_:Ak) (sv:Int×Int×(List Int)):Option (Out (Int×Int×(List Int)) ((List Int))):=
 (bif (decide (sv.2.1<((sv.2.2.length:Nat):Int)))then (Dl sv.2.2 sv.2.1).bind fun x_18=>(Cz f_ x_18).bind fun y19=>(bif (!(decide (y19≠(0:Int))))then (Dl sv.2.2 sv.1).bind fun x_20=>some (Out.next ((IntKind.i64.wrap (sv.1+(1:Int))),(IntKind.i64.wrap (sv.2.1+(1:Int))),(sv.2.2.set sv.1.toNat x_18)))else some (Out.next (sv.1,(IntKind.i64.wrap (sv.2.1+(1:Int))),sv.2.2)))else (okB (decide ((0:Int)≤sv.1∧sv.1≤((sv.2.2.length:Nat):Int))) (okB (decide ((0:Int)≤sv.1∧sv.1≤((sv.2.2.length:Nat):Int))) ((Dt (J5 f_) fuel (((sv.2.2.take sv.1.toNat)++(List.replicate (sv.2.2.length - sv.1.toNat) (0:Int))).take sv.1.toNat)).bind fun o23=>o23.on fun _=>none))).bind fun q29=>some (Out.ret q29))
def E9 (f_:Ak) (set_32:List Int) (k36:Nat) (x_38:Int) (sv:(List Int)):Option (Out ((List Int)) (Out ((List Int)) ((List Int)))):=
 (D7 f_ set_32 x_38).bind fun y39=>(bif y39 then chk (sv.length+1) (some (Out.next (sv++[x_38])))else some (Out.next sv))
def Dn (f_:Ak) (sv:(List Int)):Option (Out ((List Int)) ((List Int))):=
 (Am (E9 f_ sv) 0 sv []).bind fun o36=>o36.on fun s36=>(bif (decide (((s36.length:Nat):Int)=((sv.length:Nat):Int)))then some (Out.ret s36)else some (Out.next s36))
def Fa (f_:Ak) (y1:(List Int)) (k1:Nat) (x_3:Int) (sv:Unit):Option (Out (Unit) ((List Int))):=
 (Cz f_ x_3).bind fun y4=>(bif (decide (y4≠0))then ((bif (decide (((k1:Nat):Int)=(-1)))then (Dt (O9 f_) fuel (Ch (Dc y1))).bind fun o6=>o6.on fun _=>none else(Dt (Du f_) fuel (((k1:Nat):Int),(IntKind.i64.wrap (((k1:Nat):Int)+1)),(Ch (Dc y1)))).bind fun o16=>o16.on fun _=>none)).bind fun q30=>some (Out.ret q30)else some (Out.next ()))
def E5 (f_:Ak) (runs:List Int):Option ((List Int)):=
 (B9 runs).bind fun y1=>chk y1.length (chk y1.length ((Am (Fa f_ y1) 0 (Ch (Dc y1)) ()).bind fun o1=>o1.on fun s1=>(Dt (Dn f_) fuel (Ch (Dc y1))).bind fun o33=>o33.on fun _=>none))
theorem Qy (f_:Ak) (runs:List Int) {r:(List Int)} (h:E5 f_ runs=some r):Bh Tryz.prog 29 [.agg (Bv f_),.sl 1 (runs.map Aw)] (·= .sl 1 (r.map Aw)):=by
 refine Bh.nle (Bh.intro Tryz.func29 rfl rfl (by show _≤40;simp) ?_)
 unfold E5 at h
 refine nS (sq ?_)
 refine ar rfl (qn (sq ?_))
 refine rg rfl fun K j=>?_
 obtain⟨y1,hy1,h⟩:=Ah h
 refine Al.row Tryz.call67 (Ev runs hy1) rfl 1 rfl ?_
 (try simp +decide -implicitDefEqProofs only[go_sem,List.length_map])
 refine j _ _ (qn (sq ?_))
 refine rg rfl fun K j=>?_
 obtain⟨hk,h⟩:=B1 h
 refine Al.Dc Tryz.call68 Tryz.sorts68 rfl (by first | rfl | exact(Cd _).symm | (simp only[List.length_append,List.length_cons,List.length_nil,List.length_set,List.length_replicate]<;>omega)) hk ?_
 refine nS ?_
 refine j _ _ (qn (sq ?_))
 refine rg rfl fun K j=>?_
 obtain⟨hk,h⟩:=B1 h
 refine Al.Ch Tryz.call69 Tryz.compacts69 rfl (by first | rfl | exact(Cd _).symm | (simp only[List.length_append,List.length_cons,List.length_nil,List.length_set,List.length_replicate]<;>omega)) hk ?_
 refine nS ?_
 refine j _ _ (qn (sq ?_))
 refine rg rfl fun K j=>?_
 refine Al.inline Tryz.call70 Tryz.func70 rfl rfl (by show _≤42;simp) ?_
 refine nS (sq ?_)
 refine ar rfl (qn (sq ?_))
 refine rg rfl fun K j=>?_
 refine Al.inline Tryz.call150 Tryz.func150 rfl rfl (by show _≤19;simp) ?_
 refine nS (sq ?_)
 refine ar rfl (qn (sq (sq ?_)))
 refine rg rfl fun K j=>?_
 intro hm
 refine j _ _ (qn (bk ?_));clear j K
 obtain⟨o1,hJ1,hO1⟩:=Ah h
 clear h
 refine AWP.Br (ι:=Nat×(Unit)×(Unit)) (fun zz=>[(0,.own 1 1 0 (Ch (Dc y1)).length),(1,.func 71 [.ptr 0 0]),(7,.int .i64 (((Ch (Dc y1)).length:Nat):Int)),(8,.int .i64 ((zz.1:Nat):Int))]) (fun zz=>[.box [.sl 2 (f_.Map.Nodes.map A9),.sl 8 (f_.Map.Lifts.map A7),.sl 7 (f_.Map.Runs.map Be),.sl 1 (f_.Map.Bases.map Aw),.sl 2 (f_.Lifts.map Az),.sl 4 (f_.Closures.map Aq),.sl 4 (f_.Patrol.Bw.map Ax),.sl 3 (f_.Patrol.Hazards.map A3),.sl 3 (f_.Surfaces.map Ba),.sl 5 (f_.Packs.map A4),.sl 6 (f_.Slides.map A5),.sl 7 (f_.Bulletin.map Au),.sl 7 (f_.Missions.map Ao),.sl 4 (f_.Winches.map Ap),.sl 8 (f_.Groomers.map A2),.sl 3 (f_.Status.map A6),.int .i64 f_.Depth,.int .i64 f_.Time],.row 1 1 ((Ch (Dc y1)).map Aw)]) (fun zz=>zz.1≤(Ch (Dc y1)).length∧Am (Fa f_ y1) zz.1 (((Ch (Dc y1))).drop zz.1) zz.2.1=some o1) (fun zz=>(Ch (Dc y1)).length - zz.1) (0,(),()) ⟨Nat.zero_le _,hJ1⟩ cu cu (fun x=>⟨rfl,rfl,rfl⟩) ?_
 clear hJ1
 rintro⟨k1,⟨⟩,⟨⟩⟩ ⟨hk1,hJ1⟩
 dsimp only at hk1 hJ1 ⊢
 refine sq (ar rfl (qn (sq ?_)))
 refine AWP.cond (Aj (fun hc=>?_) (fun hc=>?_))
 rotate_left
 ·obtain rfl:=Bc hJ1 (fun hl=>by have:=Ajo hc;omega)
  have h:=Bb hO1;try dsimp only at h
  have hkl:(Ch (Dc y1)).length=k1:=by have:=Ajo hc;omega
  subst hkl
  refine xt (qe (qe (bs (qn (sq (ar rfl (qn (rt ?_))))))))
  refine nSc Tryz.results150 ?_
  refine j _ _ (qn (sq (sq ?_)));clear j K
  refine ar rfl (qn ?_)
  refine AWP.cond (Ai ?_)
  refine sq (ar rfl (qn (rt (qr ?_))))
  refine nSc Tryz.results70 ?_
  refine j _ _ (qn (bk ?_))
  obtain⟨o33,hJ33,hO33⟩:=Ah h
  clear h
  refine AWP.oK (ι:=Nat×((List Int))×(Nat)) (fun zz=>[(2,.ptr 0 0),(5,.own 1 zz.2.2 0 zz.2.1.length)]) (fun zz=>[.box [.sl 2 (f_.Map.Nodes.map A9),.sl 8 (f_.Map.Lifts.map A7),.sl 7 (f_.Map.Runs.map Be),.sl 1 (f_.Map.Bases.map Aw),.sl 2 (f_.Lifts.map Az),.sl 4 (f_.Closures.map Aq),.sl 4 (f_.Patrol.Bw.map Ax),.sl 3 (f_.Patrol.Hazards.map A3),.sl 3 (f_.Surfaces.map Ba),.sl 5 (f_.Packs.map A4),.sl 6 (f_.Slides.map A5),.sl 7 (f_.Bulletin.map Au),.sl 7 (f_.Missions.map Ao),.sl 4 (f_.Winches.map Ap),.sl 8 (f_.Groomers.map A2),.sl 3 (f_.Status.map A6),.int .i64 f_.Depth,.int .i64 f_.Time],.row zz.2.2 1 (zz.2.1.map Aw)]) (fun zz=>Dt (Dn f_) zz.1 zz.2.1=some o33) (fun zz=>zz.1) (fuel,(Ch (Dc y1)),1) hJ33 cu cu (fun x=>⟨rfl,rfl,rfl⟩) ?_
  clear hJ33
  rintro⟨n33,set_32,ver33⟩ hJ33
  dsimp only at hJ33 ⊢
  obtain⟨m33,b33,rfl,h,hJ33⟩:=Fx hJ33
  unfold Dn at h;try dsimp only at h
  refine bk (sq (ar rfl (qn (sq (sq ?_)))))
  refine rg rfl fun K j=>?_
  intro hm
  refine j _ _ (qn (bk ?_))
  refine AWP.ghost 6 1 rfl (by decide) ?_
  obtain⟨o36,hJ36,hO36⟩:=Ah h
  clear h
  refine AWP.Br (ι:=Nat×((List Int))×(Nat)) (fun zz=>[(2,.ptr 0 0),(5,.own 1 ver33 0 set_32.length),(6,.own 2 zz.2.2 0 zz.2.1.length),(18,.own 1 ver33 0 set_32.length),(19,.int .i64 ((set_32.length:Nat):Int)),(20,.int .i64 ((zz.1:Nat):Int))]) (fun zz=>[.box [.sl 2 (f_.Map.Nodes.map A9),.sl 8 (f_.Map.Lifts.map A7),.sl 7 (f_.Map.Runs.map Be),.sl 1 (f_.Map.Bases.map Aw),.sl 2 (f_.Lifts.map Az),.sl 4 (f_.Closures.map Aq),.sl 4 (f_.Patrol.Bw.map Ax),.sl 3 (f_.Patrol.Hazards.map A3),.sl 3 (f_.Surfaces.map Ba),.sl 5 (f_.Packs.map A4),.sl 6 (f_.Slides.map A5),.sl 7 (f_.Bulletin.map Au),.sl 7 (f_.Missions.map Ao),.sl 4 (f_.Winches.map Ap),.sl 8 (f_.Groomers.map A2),.sl 3 (f_.Status.map A6),.int .i64 f_.Depth,.int .i64 f_.Time],.row ver33 1 (set_32.map Aw),.row zz.2.2 1 (zz.2.1.map Aw)]) (fun zz=>zz.1≤set_32.length∧Am (E9 f_ set_32) zz.1 ((set_32).drop zz.1) zz.2.1=some o36) (fun zz=>set_32.length - zz.1) (0,[],0) ⟨Nat.zero_le _,hJ36⟩ cu cu (fun x=>⟨rfl,rfl,rfl⟩) ?_
  clear hJ36
  rintro⟨k36,left35,ver36⟩ ⟨hk36,hJ36⟩
  dsimp only at hk36 hJ36 ⊢
  refine sq (ar rfl (qn (sq ?_)))
  refine AWP.cond (Aj (fun hc=>?_) (fun hc=>?_))
  ·have hlt36:k36<set_32.length:=by have:=Ajp hc;omega
   obtain⟨x_38,b36,hx36_,h,hJ36⟩:=A1 hJ36 hlt36
   have hx36:=Ay hx36_
   have hw36:=wk (k:=k36) (by omega)
   unfold E9 at h;try dsimp only at h
   refine sk (qn (sq (bk (sq ?_))))
   refine rg rfl fun K j=>?_
   refine F3 hx36 (by first | rfl | exact(Cd _).symm | (simp only[List.length_append,List.length_cons,List.length_nil,List.length_set,List.length_replicate]<;>omega)) ?_
   refine nS ?_
   refine Cy.ofNat (f:=Aw) (l:=set_32) (n:=k36) hx36 ?_
   refine nS ?_
   refine j _ _ (qn (sq ?_))
   refine rg rfl fun K j=>?_
   obtain⟨y39,hy39,h⟩:=Ah h
   refine Al.snap Tryz.call49 (Gb f_ set_32 x_38 hy39) (by simp +decide -implicitDefEqProofs only[go_sem]) (by rintro _ rfl;rfl) fun _ hr=>?_
   subst hr
   refine nS ?_
   refine j _ _ (qn ?_)
   revert h;refine ca rfl (fun hc h=>?_) fun hc h=>?_
   ·refine rg rfl fun K j=>?_
    obtain⟨hk,h⟩:=B1 h
    (repeat refine rp ?_);try simp +decide -implicitDefEqProofs only[go_sem]
    refine j _ _ (bn (qn ?_))
    refine ar rfl (qn ?_)
    obtain rfl:=Aa h
    refine⟨(k36+1,(left35++[x_38]),(ver36+1)),⟨by dsimp only;omega,Ae hJ36⟩,by dsimp only;omega,?_,?_⟩
    ·exact cuw hw36
    exact cuw hw36
   refine sk (bn (qn (ar rfl (qn ?_))))
   obtain rfl:=Aa h
   refine⟨(k36+1,left35,ver36),⟨by dsimp only;omega,Ae hJ36⟩,by dsimp only;omega,?_,?_⟩
   ·exact cuw hw36
   exact cuw hw36
  obtain rfl:=Bc hJ36 (fun hl=>by have:=Ajo hc;omega)
  have h:=Bb hO36;try dsimp only at h
  have hkl:set_32.length=k36:=by have:=Ajo hc;omega
  subst hkl
  refine xt (qe (qe (bs (qn (sq (sq ?_))))))
  refine rg rfl fun K j=>?_
  intro hm
  intro hm
  refine j _ _ (qn ?_)
  revert h;refine ca rfl (fun hc h=>?_) fun hc h=>?_
  ·refine sq (ar rfl (qn (rt (qr (br (qr ?_))))))
   obtain rfl:=Aa h
   obtain rfl:=Af hJ33
   replace h:=An hO33
   refine br ?_
   cases h;exact en Tryz.results29
  refine sk (qn (ar rfl (bn (qn ?_))))
  obtain rfl:=Aa h
  refine⟨(m33,left35,ver36),Ae hJ33,by dsimp only;omega,_,_,Sub.swap 2 1 rfl rfl rfl,?_,?_⟩
  ·exact cu
  exact cu
 have hlt1:k1<(Ch (Dc y1)).length:=by have:=Ajp hc;omega
 obtain⟨x_3,b1,hx1_,h,hJ1⟩:=A1 hJ1 hlt1
 have hx1:=Ay hx1_
 have hw1:=wk (k:=k1) (by omega)
 unfold Fa at h;try dsimp only at h
 refine sk (qn (sq (bk (sq (ar rfl (qn (sq ?_)))))))
 refine rg rfl fun K j=>?_
 refine F3 hx1 (by first | rfl | exact(Cd _).symm | (simp only[List.length_append,List.length_cons,List.length_nil,List.length_set,List.length_replicate]<;>omega)) ?_
 refine nS ?_
 refine Cy.ofNat (f:=Aw) (l:=(Ch (Dc y1))) (n:=k1) hx1 ?_
 refine nS ?_
 refine Al.inline Tryz.call71 Tryz.func71 rfl rfl (by show _≤8;simp) ?_
 refine nS (sq ?_)
 refine ar rfl (qn (sq ?_))
 refine rg rfl fun K j=>?_
 obtain⟨y4,hy4,h⟩:=Ah h
 refine Al.pure Tryz.call48 (J0 f_ x_3 hy4) rfl fun _ hr=>?_
 subst hr
 refine nS ?_
 refine j _ _ (qn (rt ?_));clear j K
 refine nSc Tryz.results71 ?_
 refine j _ _ (qn ?_);clear j K
 revert h;refine ca rfl (fun hc h=>?_) fun hc h=>?_
 ·refine sq (ar rfl (qn (rt (br (qr (qr ?_))))))
  obtain⟨q30,hq,h⟩:=Ah h
  obtain rfl:=Aa h
  obtain rfl:=Af hJ1
  replace h:=hq.trans (An hO1)
  refine br (qr (nSc Tryz.results150 ?_))
  refine j _ _ (qn (sq (sq ?_)));clear j K
  refine ar rfl (qn ?_)
  revert h;refine ca rfl (fun hc h=>?_) fun hc h=>?_
  ·refine sq (ar rfl (qn (rt (qr ?_))))
   refine nSc Tryz.results70 ?_
   refine j _ _ (qn (bk ?_))
   obtain⟨o6,hJ6,hO6⟩:=Ah h
   clear h
   refine AWP.oK (ι:=Nat×((List Int))×(Nat)) (fun zz=>[(2,.ptr 0 0),(5,.own 1 zz.2.2 0 zz.2.1.length)]) (fun zz=>[.box [.sl 2 (f_.Map.Nodes.map A9),.sl 8 (f_.Map.Lifts.map A7),.sl 7 (f_.Map.Runs.map Be),.sl 1 (f_.Map.Bases.map Aw),.sl 2 (f_.Lifts.map Az),.sl 4 (f_.Closures.map Aq),.sl 4 (f_.Patrol.Bw.map Ax),.sl 3 (f_.Patrol.Hazards.map A3),.sl 3 (f_.Surfaces.map Ba),.sl 5 (f_.Packs.map A4),.sl 6 (f_.Slides.map A5),.sl 7 (f_.Bulletin.map Au),.sl 7 (f_.Missions.map Ao),.sl 4 (f_.Winches.map Ap),.sl 8 (f_.Groomers.map A2),.sl 3 (f_.Status.map A6),.int .i64 f_.Depth,.int .i64 f_.Time],.row zz.2.2 1 (zz.2.1.map Aw)]) (fun zz=>Dt (O9 f_) zz.1 zz.2.1=some o6) (fun zz=>zz.1) (fuel,(Ch (Dc y1)),1) hJ6 cu cu (fun x=>⟨rfl,rfl,rfl⟩) ?_
   clear hJ6
   rintro⟨n6,set_5,ver6⟩ hJ6
   dsimp only at hJ6 ⊢
   obtain⟨m6,b6,rfl,h,hJ6⟩:=Fx hJ6
   unfold O9 at h;try dsimp only at h
   refine bk (sq (ar rfl (qn (sq (sq ?_)))))
   refine rg rfl fun K j=>?_
   intro hm
   refine j _ _ (qn (bk ?_))
   refine AWP.ghost 6 1 rfl (by decide) ?_
   obtain⟨o9,hJ9,hO9⟩:=Ah h
   clear h
   refine AWP.Br (ι:=Nat×((List Int))×(Nat)) (fun zz=>[(2,.ptr 0 0),(5,.own 1 ver6 0 set_5.length),(6,.own 2 zz.2.2 0 zz.2.1.length),(18,.own 1 ver6 0 set_5.length),(19,.int .i64 ((set_5.length:Nat):Int)),(20,.int .i64 ((zz.1:Nat):Int))]) (fun zz=>[.box [.sl 2 (f_.Map.Nodes.map A9),.sl 8 (f_.Map.Lifts.map A7),.sl 7 (f_.Map.Runs.map Be),.sl 1 (f_.Map.Bases.map Aw),.sl 2 (f_.Lifts.map Az),.sl 4 (f_.Closures.map Aq),.sl 4 (f_.Patrol.Bw.map Ax),.sl 3 (f_.Patrol.Hazards.map A3),.sl 3 (f_.Surfaces.map Ba),.sl 5 (f_.Packs.map A4),.sl 6 (f_.Slides.map A5),.sl 7 (f_.Bulletin.map Au),.sl 7 (f_.Missions.map Ao),.sl 4 (f_.Winches.map Ap),.sl 8 (f_.Groomers.map A2),.sl 3 (f_.Status.map A6),.int .i64 f_.Depth,.int .i64 f_.Time],.row ver6 1 (set_5.map Aw),.row zz.2.2 1 (zz.2.1.map Aw)]) (fun zz=>zz.1≤set_5.length∧Am (O8 f_ set_5) zz.1 ((set_5).drop zz.1) zz.2.1=some o9) (fun zz=>set_5.length - zz.1) (0,[],0) ⟨Nat.zero_le _,hJ9⟩ cu cu (fun x=>⟨rfl,rfl,rfl⟩) ?_
   clear hJ9
   rintro⟨k9,left8,ver9⟩ ⟨hk9,hJ9⟩
   dsimp only at hk9 hJ9 ⊢
   refine sq (ar rfl (qn (sq ?_)))
   refine AWP.cond (Aj (fun hc=>?_) (fun hc=>?_))
   ·have hlt9:k9<set_5.length:=by have:=Ajp hc;omega
    obtain⟨x_11,b9,hx9_,h,hJ9⟩:=A1 hJ9 hlt9
    have hx9:=Ay hx9_
    have hw9:=wk (k:=k9) (by omega)
    unfold O8 at h;try dsimp only at h
    refine sk (qn (sq (bk (sq ?_))))
    refine rg rfl fun K j=>?_
    refine F3 hx9 (by first | rfl | exact(Cd _).symm | (simp only[List.length_append,List.length_cons,List.length_nil,List.length_set,List.length_replicate]<;>omega)) ?_
    refine nS ?_
    refine Cy.ofNat (f:=Aw) (l:=set_5) (n:=k9) hx9 ?_
    refine nS ?_
    refine j _ _ (qn (sq ?_))
    refine rg rfl fun K j=>?_
    obtain⟨y12,hy12,h⟩:=Ah h
    refine Al.snap Tryz.call49 (Gb f_ set_5 x_11 hy12) (by simp +decide -implicitDefEqProofs only[go_sem]) (by rintro _ rfl;rfl) fun _ hr=>?_
    subst hr
    refine nS ?_
    refine j _ _ (qn ?_)
    revert h;refine ca rfl (fun hc h=>?_) fun hc h=>?_
    ·refine rg rfl fun K j=>?_
     obtain⟨hk,h⟩:=B1 h
     (repeat refine rp ?_);try simp +decide -implicitDefEqProofs only[go_sem]
     refine j _ _ (bn (qn ?_))
     refine ar rfl (qn ?_)
     obtain rfl:=Aa h
     refine⟨(k9+1,(left8++[x_11]),(ver9+1)),⟨by dsimp only;omega,Ae hJ9⟩,by dsimp only;omega,?_,?_⟩
     ·exact cuw hw9
     exact cuw hw9
    refine sk (bn (qn (ar rfl (qn ?_))))
    obtain rfl:=Aa h
    refine⟨(k9+1,left8,ver9),⟨by dsimp only;omega,Ae hJ9⟩,by dsimp only;omega,?_,?_⟩
    ·exact cuw hw9
    exact cuw hw9
   obtain rfl:=Bc hJ9 (fun hl=>by have:=Ajo hc;omega)
   have h:=Bb hO9;try dsimp only at h
   have hkl:set_5.length=k9:=by have:=Ajo hc;omega
   subst hkl
   refine xt (qe (qe (bs (qn (sq (sq ?_))))))
   refine rg rfl fun K j=>?_
   intro hm
   intro hm
   refine j _ _ (qn ?_)
   revert h;refine ca rfl (fun hc h=>?_) fun hc h=>?_
   ·refine sq (ar rfl (qn (rt (qr (br (qr ?_))))))
    obtain rfl:=Aa h
    obtain rfl:=Af hJ6
    replace h:=An hO6
    refine br ?_
    cases h;exact en Tryz.results29
   refine sk (qn (ar rfl (bn (qn ?_))))
   obtain rfl:=Aa h
   refine⟨(m6,left8,ver9),Ae hJ6,by dsimp only;omega,_,_,Sub.swap 2 1 rfl rfl rfl,?_,?_⟩
   ·exact cu
   exact cu
  refine sk (qn (sq (sq (ar rfl (qn (bk ?_))))))
  obtain⟨o16,hJ16,hO16⟩:=Ah h
  clear h
  refine AWP.Br (ι:=Nat×(Int×Int×(List Int))×(Nat)) (fun zz=>[(0,.own 1 zz.2.2 0 zz.2.1.2.2.length),(1,.func 71 [.ptr 0 0]),(5,.int .i64 zz.2.1.1),(6,.int .i64 zz.2.1.2.1)]) (fun zz=>[.box [.sl 2 (f_.Map.Nodes.map A9),.sl 8 (f_.Map.Lifts.map A7),.sl 7 (f_.Map.Runs.map Be),.sl 1 (f_.Map.Bases.map Aw),.sl 2 (f_.Lifts.map Az),.sl 4 (f_.Closures.map Aq),.sl 4 (f_.Patrol.Bw.map Ax),.sl 3 (f_.Patrol.Hazards.map A3),.sl 3 (f_.Surfaces.map Ba),.sl 5 (f_.Packs.map A4),.sl 6 (f_.Slides.map A5),.sl 7 (f_.Bulletin.map Au),.sl 7 (f_.Missions.map Ao),.sl 4 (f_.Winches.map Ap),.sl 8 (f_.Groomers.map A2),.sl 3 (f_.Status.map A6),.int .i64 f_.Depth,.int .i64 f_.Time],.row zz.2.2 1 (zz.2.1.2.2.map Aw)]) (fun zz=>Dt (Du f_) zz.1 zz.2.1=some o16) (fun zz=>zz.1) (fuel,(((k1:Nat):Int),(IntKind.i64.wrap (((k1:Nat):Int)+1)),(Ch (Dc y1))),1) hJ16 cu cu (fun x=>⟨rfl,rfl,rfl⟩) ?_
  clear hJ16
  rintro⟨n16,⟨i13,j14,s_15⟩,ver16⟩ hJ16
  dsimp only at hJ16 ⊢
  obtain⟨m16,b16,rfl,h,hJ16⟩:=Fx hJ16
  unfold Du at h;try dsimp only at h
  refine sq (sq ?_)
  refine rg rfl fun K j=>?_
  intro hm
  refine j _ _ (qn ?_);clear j K
  revert h;refine ca rfl (fun hc h=>?_) fun hc h=>?_
  ·refine sk (qn (sq (bk (sq ?_))))
   refine rg rfl fun K j=>?_
   obtain⟨x_18,hx_18,h⟩:=Ah h
   refine F3 hx_18 (by first | rfl | exact(Cd _).symm | (simp only[List.length_append,List.length_cons,List.length_nil,List.length_set,List.length_replicate]<;>omega)) ?_
   refine nS ?_
   refine Cy.of (f:=Aw) (l:=s_15) (n:=j14) hx_18 ?_
   refine nS ?_
   refine j _ _ (qn (sq ?_));clear j K
   refine rg rfl fun K j=>?_
   refine Al.inline Tryz.call71 Tryz.func71 rfl rfl (by show _≤8;simp) ?_
   refine nS (sq ?_)
   refine ar rfl (qn (sq ?_))
   refine rg rfl fun K j=>?_
   obtain⟨y19,hy19,h⟩:=Ah h
   refine Al.pure Tryz.call48 (J0 f_ x_18 hy19) rfl fun _ hr=>?_
   subst hr
   refine nS ?_
   refine j _ _ (qn (rt ?_));clear j K
   refine nSc Tryz.results71 ?_
   refine j _ _ (qn ?_);clear j K
   revert h;refine ca rfl (fun hc h=>?_) fun hc h=>?_
   ·refine sq ?_
    refine rg rfl fun K j=>?_
    obtain⟨x_20,hx_20,h⟩:=Ah h
    refine F3 hx_20 (by first | rfl | exact(Cd _).symm | (simp only[List.length_append,List.length_cons,List.length_nil,List.length_set,List.length_replicate]<;>omega)) ?_
    refine nS ?_
    refine Cy.of (f:=Aw) (l:=s_15) (n:=i13) hx_20 ?_
    have hs21:=Pd (y:=x_18) hx_20
    refine nS ?_
    refine j _ _ (qn ?_);clear j K
    refine ar rfl (bn (qn ?_))
    refine ar rfl (qn ?_)
    obtain rfl:=Aa h
    refine⟨(m16,((IntKind.i64.wrap (i13+1)),(IntKind.i64.wrap (j14+1)),(s_15.set i13.toNat x_18)),ver16),Ae hJ16,by dsimp only;omega,?_,?_⟩
    ·exact cu
    exact cu
   refine sk (bn (qn (ar rfl (qn ?_))))
   obtain rfl:=Aa h
   refine⟨(m16,(i13,(IntKind.i64.wrap (j14+1)),s_15),ver16),Ae hJ16,by dsimp only;omega,?_,?_⟩
   ·exact cu
   exact cu
  refine xt (qe (qe ?_))
  obtain⟨q29,hq,h⟩:=Ah h
  obtain rfl:=Aa h
  obtain rfl:=Af hJ16
  replace h:=hq.trans (An hO16)
  refine bs (qn (sq ?_))
  refine AWP.l9 ?_
  refine ALP.cut 3 (ALP.part rfl ?_);intro K j
  refine nS ?_
  obtain⟨hk,h⟩:=Jz h
  (repeat(refine⟨by omega,?_⟩))
  refine j _ _ ?_;clear j K
  refine ALP.clr (l:=s_15) rfl rfl Tryz.underlying25 (by kernel_rfl) rfl (by first | rfl | omega) ?_
  refine nS ?_
  refine ALP.last rfl ?_;intro K j
  refine nS ?_
  refine j _ _ (qn (sq ?_));clear j K
  refine rg rfl fun K j=>?_
  obtain⟨hk,h⟩:=Jz h
  (repeat(refine⟨by omega,?_⟩))
  refine j _ _ (qn ?_);clear j K
  refine AWP.sub (Sub.window 4 rfl rfl) ?_
  refine nS (rt ?_)
  refine nSc Tryz.results70 ?_
  refine j _ _ (qn (bk ?_))
  obtain⟨o23,hJ23,hO23⟩:=Ah h
  clear h
  refine AWP.oK (ι:=Nat×((List Int))×(Nat)) (fun zz=>[(2,.ptr 0 0),(5,.own 1 zz.2.2 0 zz.2.1.length)]) (fun zz=>[.box [.sl 2 (f_.Map.Nodes.map A9),.sl 8 (f_.Map.Lifts.map A7),.sl 7 (f_.Map.Runs.map Be),.sl 1 (f_.Map.Bases.map Aw),.sl 2 (f_.Lifts.map Az),.sl 4 (f_.Closures.map Aq),.sl 4 (f_.Patrol.Bw.map Ax),.sl 3 (f_.Patrol.Hazards.map A3),.sl 3 (f_.Surfaces.map Ba),.sl 5 (f_.Packs.map A4),.sl 6 (f_.Slides.map A5),.sl 7 (f_.Bulletin.map Au),.sl 7 (f_.Missions.map Ao),.sl 4 (f_.Winches.map Ap),.sl 8 (f_.Groomers.map A2),.sl 3 (f_.Status.map A6),.int .i64 f_.Depth,.int .i64 f_.Time],.row zz.2.2 1 (zz.2.1.map Aw)]) (fun zz=>Dt (J5 f_) zz.1 zz.2.1=some o23) (fun zz=>zz.1) (fuel,(((s_15.take i13.toNat)++(List.replicate (s_15.length - i13.toNat) (0:Int))).take i13.toNat),(ver16+1)) hJ23 cu cu (fun x=>⟨rfl,rfl,rfl⟩) ?_
  clear hJ23
  rintro⟨n23,set_22,ver23⟩ hJ23
  dsimp only at hJ23 ⊢
  obtain⟨m23,b23,rfl,h,hJ23⟩:=Fx hJ23
  unfold J5 at h;try dsimp only at h
  refine bk (sq (ar rfl (qn (sq (sq ?_)))))
  refine rg rfl fun K j=>?_
  intro hm
  refine j _ _ (qn (bk ?_))
  refine AWP.ghost 6 1 rfl (by decide) ?_
  obtain⟨o26,hJ26,hO26⟩:=Ah h
  clear h
  refine AWP.Br (ι:=Nat×((List Int))×(Nat)) (fun zz=>[(2,.ptr 0 0),(5,.own 1 ver23 0 set_22.length),(6,.own 2 zz.2.2 0 zz.2.1.length),(18,.own 1 ver23 0 set_22.length),(19,.int .i64 ((set_22.length:Nat):Int)),(20,.int .i64 ((zz.1:Nat):Int))]) (fun zz=>[.box [.sl 2 (f_.Map.Nodes.map A9),.sl 8 (f_.Map.Lifts.map A7),.sl 7 (f_.Map.Runs.map Be),.sl 1 (f_.Map.Bases.map Aw),.sl 2 (f_.Lifts.map Az),.sl 4 (f_.Closures.map Aq),.sl 4 (f_.Patrol.Bw.map Ax),.sl 3 (f_.Patrol.Hazards.map A3),.sl 3 (f_.Surfaces.map Ba),.sl 5 (f_.Packs.map A4),.sl 6 (f_.Slides.map A5),.sl 7 (f_.Bulletin.map Au),.sl 7 (f_.Missions.map Ao),.sl 4 (f_.Winches.map Ap),.sl 8 (f_.Groomers.map A2),.sl 3 (f_.Status.map A6),.int .i64 f_.Depth,.int .i64 f_.Time],.row ver23 1 (set_22.map Aw),.row zz.2.2 1 (zz.2.1.map Aw)]) (fun zz=>zz.1≤set_22.length∧Am (O7 f_ set_22) zz.1 ((set_22).drop zz.1) zz.2.1=some o26) (fun zz=>set_22.length - zz.1) (0,[],0) ⟨Nat.zero_le _,hJ26⟩ cu cu (fun x=>⟨rfl,rfl,rfl⟩) ?_
  clear hJ26
  rintro⟨k26,left25,ver26⟩ ⟨hk26,hJ26⟩
  dsimp only at hk26 hJ26 ⊢
  refine sq (ar rfl (qn (sq ?_)))
  refine AWP.cond (Aj (fun hc=>?_) (fun hc=>?_))
  ·have hlt26:k26<set_22.length:=by have:=Ajp hc;omega
   obtain⟨x_28,b26,hx26_,h,hJ26⟩:=A1 hJ26 hlt26
   have hx26:=Ay hx26_
   have hw26:=wk (k:=k26) (by omega)
   unfold O7 at h;try dsimp only at h
   refine sk (qn (sq (bk (sq ?_))))
   refine rg rfl fun K j=>?_
   refine F3 hx26 (by first | rfl | exact(Cd _).symm | (simp only[List.length_append,List.length_cons,List.length_nil,List.length_set,List.length_replicate]<;>omega)) ?_
   refine nS ?_
   refine Cy.ofNat (f:=Aw) (l:=set_22) (n:=k26) hx26 ?_
   refine nS ?_
   refine j _ _ (qn (sq ?_))
   refine rg rfl fun K j=>?_
   obtain⟨y29,hy29,h⟩:=Ah h
   refine Al.snap Tryz.call49 (Gb f_ set_22 x_28 hy29) (by simp +decide -implicitDefEqProofs only[go_sem]) (by rintro _ rfl;rfl) fun _ hr=>?_
   subst hr
   refine nS ?_
   refine j _ _ (qn ?_)
   revert h;refine ca rfl (fun hc h=>?_) fun hc h=>?_
   ·refine rg rfl fun K j=>?_
    obtain⟨hk,h⟩:=B1 h
    (repeat refine rp ?_);try simp +decide -implicitDefEqProofs only[go_sem]
    refine j _ _ (bn (qn ?_))
    refine ar rfl (qn ?_)
    obtain rfl:=Aa h
    refine⟨(k26+1,(left25++[x_28]),(ver26+1)),⟨by dsimp only;omega,Ae hJ26⟩,by dsimp only;omega,?_,?_⟩
    ·exact cuw hw26
    exact cuw hw26
   refine sk (bn (qn (ar rfl (qn ?_))))
   obtain rfl:=Aa h
   refine⟨(k26+1,left25,ver26),⟨by dsimp only;omega,Ae hJ26⟩,by dsimp only;omega,?_,?_⟩
   ·exact cuw hw26
   exact cuw hw26
  obtain rfl:=Bc hJ26 (fun hl=>by have:=Ajo hc;omega)
  have h:=Bb hO26;try dsimp only at h
  have hkl:set_22.length=k26:=by have:=Ajo hc;omega
  subst hkl
  refine xt (qe (qe (bs (qn (sq (sq ?_))))))
  refine rg rfl fun K j=>?_
  intro hm
  intro hm
  refine j _ _ (qn ?_)
  revert h;refine ca rfl (fun hc h=>?_) fun hc h=>?_
  ·refine sq (ar rfl (qn (rt (qr (br (qr ?_))))))
   obtain rfl:=Aa h
   obtain rfl:=Af hJ23
   replace h:=An hO23
   refine br ?_
   cases h;exact en Tryz.results29
  refine sk (qn (ar rfl (bn (qn ?_))))
  obtain rfl:=Aa h
  refine⟨(m23,left25,ver26),Ae hJ23,by dsimp only;omega,_,_,Sub.swap 2 1 rfl rfl rfl,?_,?_⟩
  ·exact cu
  exact cu
 refine sk (bn (qn (ar rfl (qn ?_))))
 obtain rfl:=Aa h
 refine⟨(k1+1,(),()),⟨by dsimp only;omega,Ae hJ1⟩,by dsimp only;omega,?_,?_⟩
 ·exact cuw hw1
 exact cuw hw1
theorem Y1 (f_:Ak) (runs:List Int) {r:(List Int)} (h:E5 f_ runs=some r):Ad Tryz.prog 29 [.agg (Bv f_),.sl 1 (runs.map Aw)] (·= .sl 1 (r.map Aw)):=(Qy f_ runs h).pure
def Qc (b:List Int) (k0:Nat) (x_2:Int) (sv:Unit):Option (Out (Unit) (Bool)):=
 (Dl b ((k0:Nat):Int)).bind fun x_3=>(bif (decide (x_2≠x_3))then some (Out.ret false)else some (Out.next ()))
def Kr (a:List Int) (b:List Int):Option (Bool):=
 (bif (decide (((a.length:Nat):Int)≠((b.length:Nat):Int)))then some false else(Am (Qc b) 0 a ()).bind fun o0=>o0.on fun s0=>some true)
theorem Je (a:List Int) (b:List Int) {r:Bool} (h:Kr a b=some r):Ad Tryz.prog 15 [.sl 1 (a.map Aw),.sl 1 (b.map Aw)] (·= .bool r):=by
 refine Ad.nle (Ad.intro Tryz.func15 rfl rfl (by show _≤26;simp) ?_)
 unfold Kr at h
 refine nS (sq ?_)
 refine ar rfl (qn (sq (sq ?_)))
 refine rg rfl fun K j=>?_
 intro hm
 intro hm
 refine j _ _ (qn ?_)
 revert h;refine ca rfl (fun hc h=>?_) fun hc h=>?_
 ·refine sq (ar rfl (qn (rt (qr ?_))))
  cases h;exact en Tryz.results15
 refine sk (qn (sq (sq (ar rfl (qn (bk ?_))))))
 obtain⟨o0,hJ0,hO0⟩:=Ah h
 clear h
 refine AWP.Br (ι:=Nat×(Unit)×(Unit)) (fun zz=>[(0,.sl 1 (a.map Aw)),(1,.sl 1 (b.map Aw)),(5,.int .i64 ((zz.1:Nat):Int))]) (fun zz=>[]) (fun zz=>zz.1≤a.length∧Am (Qc b) zz.1 ((a).drop zz.1) zz.2.1=some o0) (fun zz=>a.length - zz.1) (0,(),()) ⟨Nat.zero_le _,hJ0⟩ cu cu (fun x=>⟨rfl,rfl,rfl⟩) ?_
 clear hJ0
 rintro⟨k0,⟨⟩,⟨⟩⟩ ⟨hk0,hJ0⟩
 dsimp only at hk0 hJ0 ⊢
 refine sq (sq ?_)
 refine rg rfl fun K j=>?_
 intro hm
 refine j _ _ (qn ?_)
 refine AWP.cond (Aj (fun hc=>?_) (fun hc=>?_))
 rotate_left
 ·obtain rfl:=Bc hJ0 (fun hl=>by have:=Ajo hc;omega)
  have h:=Bb hO0;try dsimp only at h
  have hkl:a.length=k0:=by have:=Ajo hc;omega
  subst hkl
  refine xt (qe (qe (bs (qn (sq (ar rfl (qn (rt ?_))))))))
  cases h;exact en Tryz.results15
 have hlt0:k0<a.length:=by have:=Ajp hc;omega
 obtain⟨x_2,b0,hx0_,h,hJ0⟩:=A1 hJ0 hlt0
 have hx0:=Ay hx0_
 have hw0:=wk (k:=k0) (by omega)
 unfold Qc at h;try dsimp only at h
 refine sk (qn (sq (bk (sq ?_))))
 refine AWP.draw Tryz.mixed (by kernel_rfl) ?_;intro K j
 refine nS ?_
 refine Bk.of (f:=Aw) (l:=a) hx0 ?_
 refine nS ?_
 obtain⟨x_3,hx_3,h⟩:=Ah h
 refine Bk.of (f:=Aw) (l:=b) hx_3 ?_
 refine nS ?_
 refine j _ _ _ (by kernel_rfl) ?_
 refine qn ?_
 revert h;refine ca rfl (fun hc h=>?_) fun hc h=>?_
 ·refine sq (ar rfl (qn (rt (br (qr (qr ?_))))))
  obtain rfl:=Aa h
  obtain rfl:=Af hJ0
  replace h:=An hO0
  refine br (qr ?_)
  cases h;exact en Tryz.results15
 refine sk (bn (qn (ar rfl (qn ?_))))
 obtain rfl:=Aa h
 refine⟨(k0+1,(),()),⟨by dsimp only;omega,Ae hJ0⟩,by dsimp only;omega,?_,?_⟩
 ·exact cuw hw0
 exact cuw hw0
def J3 (f_:Ak) (y1:(List Int)) (k1:Nat) (x_3:Int) (sv:Unit):Option (Out (Unit) (Bool)):=
 (C0 f_ y1 x_3).bind fun y4=>(bif (decide (y4≠0))then some (Out.ret false)else some (Out.next ()))
def E4 (f_:Ak):Option (Bool):=
 (Dk f_).bind fun y1=>(Am (J3 f_ y1) 0 y1 ()).bind fun o1=>o1.on fun s1=>some true
theorem Mh (f_:Ak) {r:Bool} (h:E4 f_=some r):Ad Tryz.prog 22 [.agg (Bv f_)] (·= .bool r):=by
 refine Ad.nle (Ad.intro Tryz.func22 rfl rfl (by show _≤20;simp) ?_)
 unfold E4 at h
 refine nS (sq ?_)
 refine ar rfl (qn (sq ?_))
 refine rg rfl fun K j=>?_
 obtain⟨y1,hy1,h⟩:=Ah h
 refine Al.pure Tryz.call20 (Iv f_ hy1) rfl fun _ hr=>?_
 subst hr
 refine nS ?_
 refine j _ _ (qn (sq (sq ?_)))
 refine rg rfl fun K j=>?_
 intro hm
 refine j _ _ (qn (bk ?_))
 obtain⟨o1,hJ1,hO1⟩:=Ah h
 clear h
 refine AWP.Br (ι:=Nat×(Unit)×(Unit)) (fun zz=>[(1,.ptr 0 0),(3,.sl 1 (y1.map Aw)),(8,.sl 1 (y1.map Aw)),(9,.int .i64 ((y1.length:Nat):Int)),(10,.int .i64 ((zz.1:Nat):Int))]) (fun zz=>[.box [.sl 2 (f_.Map.Nodes.map A9),.sl 8 (f_.Map.Lifts.map A7),.sl 7 (f_.Map.Runs.map Be),.sl 1 (f_.Map.Bases.map Aw),.sl 2 (f_.Lifts.map Az),.sl 4 (f_.Closures.map Aq),.sl 4 (f_.Patrol.Bw.map Ax),.sl 3 (f_.Patrol.Hazards.map A3),.sl 3 (f_.Surfaces.map Ba),.sl 5 (f_.Packs.map A4),.sl 6 (f_.Slides.map A5),.sl 7 (f_.Bulletin.map Au),.sl 7 (f_.Missions.map Ao),.sl 4 (f_.Winches.map Ap),.sl 8 (f_.Groomers.map A2),.sl 3 (f_.Status.map A6),.int .i64 f_.Depth,.int .i64 f_.Time]]) (fun zz=>zz.1≤y1.length∧Am (J3 f_ y1) zz.1 ((y1).drop zz.1) zz.2.1=some o1) (fun zz=>y1.length - zz.1) (0,(),()) ⟨Nat.zero_le _,hJ1⟩ cu cu (fun x=>⟨rfl,rfl,rfl⟩) ?_
 clear hJ1
 rintro⟨k1,⟨⟩,⟨⟩⟩ ⟨hk1,hJ1⟩
 dsimp only at hk1 hJ1 ⊢
 refine sq (ar rfl (qn (sq ?_)))
 refine AWP.cond (Aj (fun hc=>?_) (fun hc=>?_))
 rotate_left
 ·obtain rfl:=Bc hJ1 (fun hl=>by have:=Ajo hc;omega)
  have h:=Bb hO1;try dsimp only at h
  have hkl:y1.length=k1:=by have:=Ajo hc;omega
  subst hkl
  refine xt (qe (qe (bs (qn (sq (ar rfl (qn (rt ?_))))))))
  cases h;exact en Tryz.results22
 have hlt1:k1<y1.length:=by have:=Ajp hc;omega
 obtain⟨x_3,b1,hx1_,h,hJ1⟩:=A1 hJ1 hlt1
 have hx1:=Ay hx1_
 have hw1:=wk (k:=k1) (by omega)
 unfold J3 at h;try dsimp only at h
 refine sk (qn (sq (bk (sq ?_))))
 refine rg rfl fun K j=>?_
 refine Bk.of (f:=Aw) (l:=y1) hx1 ?_
 refine nS ?_
 refine j _ _ (qn (sq ?_))
 refine rg rfl fun K j=>?_
 obtain⟨y4,hy4,h⟩:=Ah h
 refine Al.pure Tryz.call18 (Dg f_ y1 x_3 hy4) rfl fun _ hr=>?_
 subst hr
 refine nS ?_
 refine j _ _ (qn ?_)
 revert h;refine ca rfl (fun hc h=>?_) fun hc h=>?_
 ·refine sq (ar rfl (qn (rt (br (qr (qr ?_))))))
  obtain rfl:=Aa h
  obtain rfl:=Af hJ1
  replace h:=An hO1
  refine br (qr ?_)
  cases h;exact en Tryz.results22
 refine sk (bn (qn (ar rfl (qn ?_))))
 obtain rfl:=Aa h
 refine⟨(k1+1,(),()),⟨by dsimp only;omega,Ae hJ1⟩,by dsimp only;omega,?_,?_⟩
 ·exact cuw hw1
 exact cuw hw1
def C7 (s_:List Cl):Option (List Cl):=chk s_.length (some s_)
theorem Mo (s_:List Cl) {r:List Cl} (h:C7 s_=some r):Db Tryz.prog 122 [.sl 2 (s_.map A9)] 2 (r.map A9):=by
 have hk:=(B1 h).1
 have hr:r=s_:=Aa (B1 h).2
 rw[hr];clear hr h
 refine Db.of ?_
 refine Ci.weak (R:=fun q H=>∃ v rest,q= .own 0 v 0 (s_.map A9).length∧H= .row v 2 (s_.map A9)::rest) (Ci.intro Tryz.func122 rfl rfl (by show _≤8;simp) ?_) (fun q H hq=>?_)
 ·refine nS (sq ?_)
  refine ar rfl (qn (sq (sq ?_)))
  refine rg rfl fun K j=>?_
  intro bnil hb
  refine nS ?_
  refine j _ _ (qn ?_)
  refine AWP.cond (Aj (fun hc=>?_) (fun hc=>?_))
  ·have hx0:s_=[]:=Classical.byContradiction fun hne=>by have:=hb (by simpa using hne);simp[this]at hc
   subst hx0
   refine sq (ar rfl (qn ?_))
   refine AWP.ghost 2 2 rfl (by decide) ?_
   refine nS (rt (qr ?_))
   refine nSc Tryz.results122 ?_
   refine⟨_,_,?_,rfl⟩
   (try simp +decide -implicitDefEqProofs only[go_sem,List.length_map,List.length_append,List.length_cons,List.length_nil,List.length_set,List.length_replicate]);try rfl
  clear hc
  refine sk (qn (sq ?_))
  refine rg rfl fun K j=>?_
  (repeat refine rp ?_);try simp +decide -implicitDefEqProofs only[go_sem]
  refine j _ _ (qn (rt ?_))
  refine nSc Tryz.results122 ?_
  refine⟨_,_,?_,rfl⟩
  (try simp +decide -implicitDefEqProofs only[go_sem,List.length_map,List.length_append,List.length_cons,List.length_nil,List.length_set,List.length_replicate]);try rfl
 obtain⟨v,rest,rfl,rfl⟩:=hq
 exact⟨[.row v 2 (s_.map A9)],⟨⟨rfl,rfl,rfl⟩,by cases rest<;>trivial⟩,rfl,rfl,⟨v,rfl,rfl⟩⟩
theorem Lt (s_:List Cl) {r:List Cl} (h:C7 s_=some r):Bh Tryz.prog 122 [.sl 2 (s_.map A9)] (·= .sl 2 (r.map A9)):=Bh.nle (Ci.fresh (Ci.mono (Mo s_ h) fun q H=>by rintro⟨rfl,rfl⟩;simp +decide -implicitDefEqProofs only[go_sem,Dr,Ac.int.injEq,Int.natCast_zero,List.replicate_zero,List.length_take,List.length_drop,Ac.own.injEq,reduceCtorEq,Int.reduceAdd,Vo,Vp,Rr,Wh,Rq,List.length_map]))
theorem Mf (s_:List Cl) {r:List Cl} (h:C7 s_=some r):Ad Tryz.prog 122 [.sl 2 (s_.map A9)] (·= .sl 2 (r.map A9)):=(Lt s_ h).pure
def C8 (s_:List Ce):Option (List Ce):=chk s_.length (some s_)
theorem Mp (s_:List Ce) {r:List Ce} (h:C8 s_=some r):Db Tryz.prog 123 [.sl 8 (s_.map A7)] 8 (r.map A7):=by
 have hk:=(B1 h).1
 have hr:r=s_:=Aa (B1 h).2
 rw[hr];clear hr h
 refine Db.of ?_
 refine Ci.weak (R:=fun q H=>∃ v rest,q= .own 0 v 0 (s_.map A7).length∧H= .row v 8 (s_.map A7)::rest) (Ci.intro Tryz.func123 rfl rfl (by show _≤8;simp) ?_) (fun q H hq=>?_)
 ·refine nS (sq ?_)
  refine ar rfl (qn (sq (sq ?_)))
  refine rg rfl fun K j=>?_
  intro bnil hb
  refine nS ?_
  refine j _ _ (qn ?_)
  refine AWP.cond (Aj (fun hc=>?_) (fun hc=>?_))
  ·have hx0:s_=[]:=Classical.byContradiction fun hne=>by have:=hb (by simpa using hne);simp[this]at hc
   subst hx0
   refine sq (ar rfl (qn ?_))
   refine AWP.ghost 2 8 rfl (by decide) ?_
   refine nS (rt (qr ?_))
   refine nSc Tryz.results123 ?_
   refine⟨_,_,?_,rfl⟩
   (try simp +decide -implicitDefEqProofs only[go_sem,List.length_map,List.length_append,List.length_cons,List.length_nil,List.length_set,List.length_replicate]);try rfl
  clear hc
  refine sk (qn (sq ?_))
  refine rg rfl fun K j=>?_
  (repeat refine rp ?_);try simp +decide -implicitDefEqProofs only[go_sem]
  refine j _ _ (qn (rt ?_))
  refine nSc Tryz.results123 ?_
  refine⟨_,_,?_,rfl⟩
  (try simp +decide -implicitDefEqProofs only[go_sem,List.length_map,List.length_append,List.length_cons,List.length_nil,List.length_set,List.length_replicate]);try rfl
 obtain⟨v,rest,rfl,rfl⟩:=hq
 exact⟨[.row v 8 (s_.map A7)],⟨⟨rfl,rfl,rfl⟩,by cases rest<;>trivial⟩,rfl,rfl,⟨v,rfl,rfl⟩⟩
theorem Lu (s_:List Ce) {r:List Ce} (h:C8 s_=some r):Bh Tryz.prog 123 [.sl 8 (s_.map A7)] (·= .sl 8 (r.map A7)):=Bh.nle (Ci.fresh (Ci.mono (Mp s_ h) fun q H=>by rintro⟨rfl,rfl⟩;simp +decide -implicitDefEqProofs only[go_sem,Dr,Ac.int.injEq,Int.natCast_zero,List.replicate_zero,List.length_take,List.length_drop,Ac.own.injEq,reduceCtorEq,Int.reduceAdd,Vo,Vp,Rr,Wh,Rq,List.length_map]))
theorem Mg (s_:List Ce) {r:List Ce} (h:C8 s_=some r):Ad Tryz.prog 123 [.sl 8 (s_.map A7)] (·= .sl 8 (r.map A7)):=(Lu s_ h).pure
def Df (s_:List Cf):Option (List Cf):=chk s_.length (some s_)
theorem N8 (s_:List Cf) {r:List Cf} (h:Df s_=some r):Db Tryz.prog 124 [.sl 7 (s_.map Be)] 7 (r.map Be):=by
 have hk:=(B1 h).1
 have hr:r=s_:=Aa (B1 h).2
 rw[hr];clear hr h
 refine Db.of ?_
 refine Ci.weak (R:=fun q H=>∃ v rest,q= .own 0 v 0 (s_.map Be).length∧H= .row v 7 (s_.map Be)::rest) (Ci.intro Tryz.func124 rfl rfl (by show _≤8;simp) ?_) (fun q H hq=>?_)
 ·refine nS (sq ?_)
  refine ar rfl (qn (sq (sq ?_)))
  refine rg rfl fun K j=>?_
  intro bnil hb
  refine nS ?_
  refine j _ _ (qn ?_)
  refine AWP.cond (Aj (fun hc=>?_) (fun hc=>?_))
  ·have hx0:s_=[]:=Classical.byContradiction fun hne=>by have:=hb (by simpa using hne);simp[this]at hc
   subst hx0
   refine sq (ar rfl (qn ?_))
   refine AWP.ghost 2 7 rfl (by decide) ?_
   refine nS (rt (qr ?_))
   refine nSc Tryz.results124 ?_
   refine⟨_,_,?_,rfl⟩
   (try simp +decide -implicitDefEqProofs only[go_sem,List.length_map,List.length_append,List.length_cons,List.length_nil,List.length_set,List.length_replicate]);try rfl
  clear hc
  refine sk (qn (sq ?_))
  refine rg rfl fun K j=>?_
  (repeat refine rp ?_);try simp +decide -implicitDefEqProofs only[go_sem]
  refine j _ _ (qn (rt ?_))
  refine nSc Tryz.results124 ?_
  refine⟨_,_,?_,rfl⟩
  (try simp +decide -implicitDefEqProofs only[go_sem,List.length_map,List.length_append,List.length_cons,List.length_nil,List.length_set,List.length_replicate]);try rfl
 obtain⟨v,rest,rfl,rfl⟩:=hq
 exact⟨[.row v 7 (s_.map Be)],⟨⟨rfl,rfl,rfl⟩,by cases rest<;>trivial⟩,rfl,rfl,⟨v,rfl,rfl⟩⟩
theorem Mn (s_:List Cf) {r:List Cf} (h:Df s_=some r):Bh Tryz.prog 124 [.sl 7 (s_.map Be)] (·= .sl 7 (r.map Be)):=Bh.nle (Ci.fresh (Ci.mono (N8 s_ h) fun q H=>by rintro⟨rfl,rfl⟩;simp +decide -implicitDefEqProofs only[go_sem,Dr,Ac.int.injEq,Int.natCast_zero,List.replicate_zero,List.length_take,List.length_drop,Ac.own.injEq,reduceCtorEq,Int.reduceAdd,Vo,Vp,Rr,Wh,Rq,List.length_map]))
theorem Nk (s_:List Cf) {r:List Cf} (h:Df s_=some r):Ad Tryz.prog 124 [.sl 7 (s_.map Be)] (·= .sl 7 (r.map Be)):=(Mn s_ h).pure
def Cg (s_:List Cr):Option (List Cr):=chk s_.length (some s_)
theorem H9 (s_:List Cr) {r:List Cr} (h:Cg s_=some r):Db Tryz.prog 125 [.sl 2 (s_.map Az)] 2 (r.map Az):=by
 have hk:=(B1 h).1
 have hr:r=s_:=Aa (B1 h).2
 rw[hr];clear hr h
 refine Db.of ?_
 refine Ci.weak (R:=fun q H=>∃ v rest,q= .own 0 v 0 (s_.map Az).length∧H= .row v 2 (s_.map Az)::rest) (Ci.intro Tryz.func125 rfl rfl (by show _≤8;simp) ?_) (fun q H hq=>?_)
 ·refine nS (sq ?_)
  refine ar rfl (qn (sq (sq ?_)))
  refine rg rfl fun K j=>?_
  intro bnil hb
  refine nS ?_
  refine j _ _ (qn ?_)
  refine AWP.cond (Aj (fun hc=>?_) (fun hc=>?_))
  ·have hx0:s_=[]:=Classical.byContradiction fun hne=>by have:=hb (by simpa using hne);simp[this]at hc
   subst hx0
   refine sq (ar rfl (qn ?_))
   refine AWP.ghost 2 2 rfl (by decide) ?_
   refine nS (rt (qr ?_))
   refine nSc Tryz.results125 ?_
   refine⟨_,_,?_,rfl⟩
   (try simp +decide -implicitDefEqProofs only[go_sem,List.length_map,List.length_append,List.length_cons,List.length_nil,List.length_set,List.length_replicate]);try rfl
  clear hc
  refine sk (qn (sq ?_))
  refine rg rfl fun K j=>?_
  (repeat refine rp ?_);try simp +decide -implicitDefEqProofs only[go_sem]
  refine j _ _ (qn (rt ?_))
  refine nSc Tryz.results125 ?_
  refine⟨_,_,?_,rfl⟩
  (try simp +decide -implicitDefEqProofs only[go_sem,List.length_map,List.length_append,List.length_cons,List.length_nil,List.length_set,List.length_replicate]);try rfl
 obtain⟨v,rest,rfl,rfl⟩:=hq
 exact⟨[.row v 2 (s_.map Az)],⟨⟨rfl,rfl,rfl⟩,by cases rest<;>trivial⟩,rfl,rfl,⟨v,rfl,rfl⟩⟩
theorem G5 (s_:List Cr) {r:List Cr} (h:Cg s_=some r):Bh Tryz.prog 125 [.sl 2 (s_.map Az)] (·= .sl 2 (r.map Az)):=Bh.nle (Ci.fresh (Ci.mono (H9 s_ h) fun q H=>by rintro⟨rfl,rfl⟩;simp +decide -implicitDefEqProofs only[go_sem,Dr,Ac.int.injEq,Int.natCast_zero,List.replicate_zero,List.length_take,List.length_drop,Ac.own.injEq,reduceCtorEq,Int.reduceAdd,Vo,Vp,Rr,Wh,Rq,List.length_map]))
theorem Hh (s_:List Cr) {r:List Cr} (h:Cg s_=some r):Ad Tryz.prog 125 [.sl 2 (s_.map Az)] (·= .sl 2 (r.map Az)):=(G5 s_ h).pure
def Cq (s_:List Bn):Option (List Bn):=chk s_.length (some s_)
theorem Jc (s_:List Bn) {r:List Bn} (h:Cq s_=some r):Db Tryz.prog 126 [.sl 4 (s_.map Aq)] 4 (r.map Aq):=by
 have hk:=(B1 h).1
 have hr:r=s_:=Aa (B1 h).2
 rw[hr];clear hr h
 refine Db.of ?_
 refine Ci.weak (R:=fun q H=>∃ v rest,q= .own 0 v 0 (s_.map Aq).length∧H= .row v 4 (s_.map Aq)::rest) (Ci.intro Tryz.func126 rfl rfl (by show _≤8;simp) ?_) (fun q H hq=>?_)
 ·refine nS (sq ?_)
  refine ar rfl (qn (sq (sq ?_)))
  refine rg rfl fun K j=>?_
  intro bnil hb
  refine nS ?_
  refine j _ _ (qn ?_)
  refine AWP.cond (Aj (fun hc=>?_) (fun hc=>?_))
  ·have hx0:s_=[]:=Classical.byContradiction fun hne=>by have:=hb (by simpa using hne);simp[this]at hc
   subst hx0
   refine sq (ar rfl (qn ?_))
   refine AWP.ghost 2 4 rfl (by decide) ?_
   refine nS (rt (qr ?_))
   refine nSc Tryz.results126 ?_
   refine⟨_,_,?_,rfl⟩
   (try simp +decide -implicitDefEqProofs only[go_sem,List.length_map,List.length_append,List.length_cons,List.length_nil,List.length_set,List.length_replicate]);try rfl
  clear hc
  refine sk (qn (sq ?_))
  refine rg rfl fun K j=>?_
  (repeat refine rp ?_);try simp +decide -implicitDefEqProofs only[go_sem]
  refine j _ _ (qn (rt ?_))
  refine nSc Tryz.results126 ?_
  refine⟨_,_,?_,rfl⟩
  (try simp +decide -implicitDefEqProofs only[go_sem,List.length_map,List.length_append,List.length_cons,List.length_nil,List.length_set,List.length_replicate]);try rfl
 obtain⟨v,rest,rfl,rfl⟩:=hq
 exact⟨[.row v 4 (s_.map Aq)],⟨⟨rfl,rfl,rfl⟩,by cases rest<;>trivial⟩,rfl,rfl,⟨v,rfl,rfl⟩⟩
theorem Ib (s_:List Bn) {r:List Bn} (h:Cq s_=some r):Bh Tryz.prog 126 [.sl 4 (s_.map Aq)] (·= .sl 4 (r.map Aq)):=Bh.nle (Ci.fresh (Ci.mono (Jc s_ h) fun q H=>by rintro⟨rfl,rfl⟩;simp +decide -implicitDefEqProofs only[go_sem,Dr,Ac.int.injEq,Int.natCast_zero,List.replicate_zero,List.length_take,List.length_drop,Ac.own.injEq,reduceCtorEq,Int.reduceAdd,Vo,Vp,Rr,Wh,Rq,List.length_map]))
theorem Ir (s_:List Bn) {r:List Bn} (h:Cq s_=some r):Ad Tryz.prog 126 [.sl 4 (s_.map Aq)] (·= .sl 4 (r.map Aq)):=(Ib s_ h).pure
def C6 (s_:List Fk):Option (List Fk):=chk s_.length (some s_)
theorem Mm (s_:List Fk) {r:List Fk} (h:C6 s_=some r):Db Tryz.prog 129 [.sl 3 (s_.map B8)] 3 (r.map B8):=by
 have hk:=(B1 h).1
 have hr:r=s_:=Aa (B1 h).2
 rw[hr];clear hr h
 refine Db.of ?_
 refine Ci.weak (R:=fun q H=>∃ v rest,q= .own 0 v 0 (s_.map B8).length∧H= .row v 3 (s_.map B8)::rest) (Ci.intro Tryz.func129 rfl rfl (by show _≤8;simp) ?_) (fun q H hq=>?_)
 ·refine nS (sq ?_)
  refine ar rfl (qn (sq (sq ?_)))
  refine rg rfl fun K j=>?_
  intro bnil hb
  refine nS ?_
  refine j _ _ (qn ?_)
  refine AWP.cond (Aj (fun hc=>?_) (fun hc=>?_))
  ·have hx0:s_=[]:=Classical.byContradiction fun hne=>by have:=hb (by simpa using hne);simp[this]at hc
   subst hx0
   refine sq (ar rfl (qn ?_))
   refine AWP.ghost 2 3 rfl (by decide) ?_
   refine nS (rt (qr ?_))
   refine nSc Tryz.results129 ?_
   refine⟨_,_,?_,rfl⟩
   (try simp +decide -implicitDefEqProofs only[go_sem,List.length_map,List.length_append,List.length_cons,List.length_nil,List.length_set,List.length_replicate]);try rfl
  clear hc
  refine sk (qn (sq ?_))
  refine rg rfl fun K j=>?_
  (repeat refine rp ?_);try simp +decide -implicitDefEqProofs only[go_sem]
  refine j _ _ (qn (rt ?_))
  refine nSc Tryz.results129 ?_
  refine⟨_,_,?_,rfl⟩
  (try simp +decide -implicitDefEqProofs only[go_sem,List.length_map,List.length_append,List.length_cons,List.length_nil,List.length_set,List.length_replicate]);try rfl
 obtain⟨v,rest,rfl,rfl⟩:=hq
 exact⟨[.row v 3 (s_.map B8)],⟨⟨rfl,rfl,rfl⟩,by cases rest<;>trivial⟩,rfl,rfl,⟨v,rfl,rfl⟩⟩
theorem Ls (s_:List Fk) {r:List Fk} (h:C6 s_=some r):Bh Tryz.prog 129 [.sl 3 (s_.map B8)] (·= .sl 3 (r.map B8)):=Bh.nle (Ci.fresh (Ci.mono (Mm s_ h) fun q H=>by rintro⟨rfl,rfl⟩;simp +decide -implicitDefEqProofs only[go_sem,Dr,Ac.int.injEq,Int.natCast_zero,List.replicate_zero,List.length_take,List.length_drop,Ac.own.injEq,reduceCtorEq,Int.reduceAdd,Vo,Vp,Rr,Wh,Rq,List.length_map]))
theorem Me (s_:List Fk) {r:List Fk} (h:C6 s_=some r):Ad Tryz.prog 129 [.sl 3 (s_.map B8)] (·= .sl 3 (r.map B8)):=(Ls s_ h).pure
def En (l:Ck):Option (Ck):=
 (B9 l.List_.Items).bind fun y1=>(C6 l.List_.Signs).bind fun y2=>some (Ck.mk l.Run (Bq.mk y1 l.List_.Every y2))
theorem Ua (l:Ck) {r:Ck} (h:En l=some r):Ad Tryz.prog 128 [.agg (Ax l)] (·= .agg (Ax r)):=by
 refine Ad.nle (Ad.intro Tryz.func128 rfl rfl (by show _≤16;simp) ?_)
 unfold En at h
 refine nS (sq ?_)
 refine ar rfl (qn (sq ?_))
 refine rg rfl fun K j=>?_
 obtain⟨y1,hy1,h⟩:=Ah h
 refine Al.pure Tryz.call67 (Da l.List_.Items hy1) rfl fun _ hr=>?_
 subst hr
 refine nS ?_
 refine j _ _ (qn (sq ?_))
 refine rg rfl fun K j=>?_
 obtain⟨y2,hy2,h⟩:=Ah h
 refine Al.pure Tryz.call129 (Me l.List_.Signs hy2) rfl fun _ hr=>?_
 subst hr
 refine nS ?_
 refine j _ _ (qn (sq ?_))
 refine ar rfl (qn (rt ?_))
 cases h;exact en Tryz.results128
def Cu (s_:List Cv):Option (List Cv):=chk s_.length (some s_)
theorem Ka (s_:List Cv) {r:List Cv} (h:Cu s_=some r):Db Tryz.prog 130 [.sl 3 (s_.map A3)] 3 (r.map A3):=by
 have hk:=(B1 h).1
 have hr:r=s_:=Aa (B1 h).2
 rw[hr];clear hr h
 refine Db.of ?_
 refine Ci.weak (R:=fun q H=>∃ v rest,q= .own 0 v 0 (s_.map A3).length∧H= .row v 3 (s_.map A3)::rest) (Ci.intro Tryz.func130 rfl rfl (by show _≤8;simp) ?_) (fun q H hq=>?_)
 ·refine nS (sq ?_)
  refine ar rfl (qn (sq (sq ?_)))
  refine rg rfl fun K j=>?_
  intro bnil hb
  refine nS ?_
  refine j _ _ (qn ?_)
  refine AWP.cond (Aj (fun hc=>?_) (fun hc=>?_))
  ·have hx0:s_=[]:=Classical.byContradiction fun hne=>by have:=hb (by simpa using hne);simp[this]at hc
   subst hx0
   refine sq (ar rfl (qn ?_))
   refine AWP.ghost 2 3 rfl (by decide) ?_
   refine nS (rt (qr ?_))
   refine nSc Tryz.results130 ?_
   refine⟨_,_,?_,rfl⟩
   (try simp +decide -implicitDefEqProofs only[go_sem,List.length_map,List.length_append,List.length_cons,List.length_nil,List.length_set,List.length_replicate]);try rfl
  clear hc
  refine sk (qn (sq ?_))
  refine rg rfl fun K j=>?_
  (repeat refine rp ?_);try simp +decide -implicitDefEqProofs only[go_sem]
  refine j _ _ (qn (rt ?_))
  refine nSc Tryz.results130 ?_
  refine⟨_,_,?_,rfl⟩
  (try simp +decide -implicitDefEqProofs only[go_sem,List.length_map,List.length_append,List.length_cons,List.length_nil,List.length_set,List.length_replicate]);try rfl
 obtain⟨v,rest,rfl,rfl⟩:=hq
 exact⟨[.row v 3 (s_.map A3)],⟨⟨rfl,rfl,rfl⟩,by cases rest<;>trivial⟩,rfl,rfl,⟨v,rfl,rfl⟩⟩
theorem Ja (s_:List Cv) {r:List Cv} (h:Cu s_=some r):Bh Tryz.prog 130 [.sl 3 (s_.map A3)] (·= .sl 3 (r.map A3)):=Bh.nle (Ci.fresh (Ci.mono (Ka s_ h) fun q H=>by rintro⟨rfl,rfl⟩;simp +decide -implicitDefEqProofs only[go_sem,Dr,Ac.int.injEq,Int.natCast_zero,List.replicate_zero,List.length_take,List.length_drop,Ac.own.injEq,reduceCtorEq,Int.reduceAdd,Vo,Vp,Rr,Wh,Rq,List.length_map]))
theorem Jy (s_:List Cv) {r:List Cv} (h:Cu s_=some r):Ad Tryz.prog 130 [.sl 3 (s_.map A3)] (·= .sl 3 (r.map A3)):=(Ja s_ h).pure
def Cm (s_:List Cx):Option (List Cx):=chk s_.length (some s_)
theorem I7 (s_:List Cx) {r:List Cx} (h:Cm s_=some r):Db Tryz.prog 131 [.sl 3 (s_.map Ba)] 3 (r.map Ba):=by
 have hk:=(B1 h).1
 have hr:r=s_:=Aa (B1 h).2
 rw[hr];clear hr h
 refine Db.of ?_
 refine Ci.weak (R:=fun q H=>∃ v rest,q= .own 0 v 0 (s_.map Ba).length∧H= .row v 3 (s_.map Ba)::rest) (Ci.intro Tryz.func131 rfl rfl (by show _≤8;simp) ?_) (fun q H hq=>?_)
 ·refine nS (sq ?_)
  refine ar rfl (qn (sq (sq ?_)))
  refine rg rfl fun K j=>?_
  intro bnil hb
  refine nS ?_
  refine j _ _ (qn ?_)
  refine AWP.cond (Aj (fun hc=>?_) (fun hc=>?_))
  ·have hx0:s_=[]:=Classical.byContradiction fun hne=>by have:=hb (by simpa using hne);simp[this]at hc
   subst hx0
   refine sq (ar rfl (qn ?_))
   refine AWP.ghost 2 3 rfl (by decide) ?_
   refine nS (rt (qr ?_))
   refine nSc Tryz.results131 ?_
   refine⟨_,_,?_,rfl⟩
   (try simp +decide -implicitDefEqProofs only[go_sem,List.length_map,List.length_append,List.length_cons,List.length_nil,List.length_set,List.length_replicate]);try rfl
  clear hc
  refine sk (qn (sq ?_))
  refine rg rfl fun K j=>?_
  (repeat refine rp ?_);try simp +decide -implicitDefEqProofs only[go_sem]
  refine j _ _ (qn (rt ?_))
  refine nSc Tryz.results131 ?_
  refine⟨_,_,?_,rfl⟩
  (try simp +decide -implicitDefEqProofs only[go_sem,List.length_map,List.length_append,List.length_cons,List.length_nil,List.length_set,List.length_replicate]);try rfl
 obtain⟨v,rest,rfl,rfl⟩:=hq
 exact⟨[.row v 3 (s_.map Ba)],⟨⟨rfl,rfl,rfl⟩,by cases rest<;>trivial⟩,rfl,rfl,⟨v,rfl,rfl⟩⟩
theorem H6 (s_:List Cx) {r:List Cx} (h:Cm s_=some r):Bh Tryz.prog 131 [.sl 3 (s_.map Ba)] (·= .sl 3 (r.map Ba)):=Bh.nle (Ci.fresh (Ci.mono (I7 s_ h) fun q H=>by rintro⟨rfl,rfl⟩;simp +decide -implicitDefEqProofs only[go_sem,Dr,Ac.int.injEq,Int.natCast_zero,List.replicate_zero,List.length_take,List.length_drop,Ac.own.injEq,reduceCtorEq,Int.reduceAdd,Vo,Vp,Rr,Wh,Rq,List.length_map]))
theorem Im (s_:List Cx) {r:List Cx} (h:Cm s_=some r):Ad Tryz.prog 131 [.sl 3 (s_.map Ba)] (·= .sl 3 (r.map Ba)):=(H6 s_ h).pure
def Cn (s_:List C5):Option (List C5):=chk s_.length (some s_)
theorem I8 (s_:List C5) {r:List C5} (h:Cn s_=some r):Db Tryz.prog 132 [.sl 5 (s_.map A4)] 5 (r.map A4):=by
 have hk:=(B1 h).1
 have hr:r=s_:=Aa (B1 h).2
 rw[hr];clear hr h
 refine Db.of ?_
 refine Ci.weak (R:=fun q H=>∃ v rest,q= .own 0 v 0 (s_.map A4).length∧H= .row v 5 (s_.map A4)::rest) (Ci.intro Tryz.func132 rfl rfl (by show _≤8;simp) ?_) (fun q H hq=>?_)
 ·refine nS (sq ?_)
  refine ar rfl (qn (sq (sq ?_)))
  refine rg rfl fun K j=>?_
  intro bnil hb
  refine nS ?_
  refine j _ _ (qn ?_)
  refine AWP.cond (Aj (fun hc=>?_) (fun hc=>?_))
  ·have hx0:s_=[]:=Classical.byContradiction fun hne=>by have:=hb (by simpa using hne);simp[this]at hc
   subst hx0
   refine sq (ar rfl (qn ?_))
   refine AWP.ghost 2 5 rfl (by decide) ?_
   refine nS (rt (qr ?_))
   refine nSc Tryz.results132 ?_
   refine⟨_,_,?_,rfl⟩
   (try simp +decide -implicitDefEqProofs only[go_sem,List.length_map,List.length_append,List.length_cons,List.length_nil,List.length_set,List.length_replicate]);try rfl
  clear hc
  refine sk (qn (sq ?_))
  refine rg rfl fun K j=>?_
  (repeat refine rp ?_);try simp +decide -implicitDefEqProofs only[go_sem]
  refine j _ _ (qn (rt ?_))
  refine nSc Tryz.results132 ?_
  refine⟨_,_,?_,rfl⟩
  (try simp +decide -implicitDefEqProofs only[go_sem,List.length_map,List.length_append,List.length_cons,List.length_nil,List.length_set,List.length_replicate]);try rfl
 obtain⟨v,rest,rfl,rfl⟩:=hq
 exact⟨[.row v 5 (s_.map A4)],⟨⟨rfl,rfl,rfl⟩,by cases rest<;>trivial⟩,rfl,rfl,⟨v,rfl,rfl⟩⟩
theorem H7 (s_:List C5) {r:List C5} (h:Cn s_=some r):Bh Tryz.prog 132 [.sl 5 (s_.map A4)] (·= .sl 5 (r.map A4)):=Bh.nle (Ci.fresh (Ci.mono (I8 s_ h) fun q H=>by rintro⟨rfl,rfl⟩;simp +decide -implicitDefEqProofs only[go_sem,Dr,Ac.int.injEq,Int.natCast_zero,List.replicate_zero,List.length_take,List.length_drop,Ac.own.injEq,reduceCtorEq,Int.reduceAdd,Vo,Vp,Rr,Wh,Rq,List.length_map]))
theorem Io (s_:List C5) {r:List C5} (h:Cn s_=some r):Ad Tryz.prog 132 [.sl 5 (s_.map A4)] (·= .sl 5 (r.map A4)):=(H7 s_ h).pure
def Em (s_:Bf):Option (Bf):=
 (B9 s_.Zones).bind fun y1=>(B9 s_.Lifts).bind fun y2=>some (Bf.mk s_.ID y1 y2 s_.Limit s_.Load s_.Controlled)
theorem T9 (s_:Bf) {r:Bf} (h:Em s_=some r):Ad Tryz.prog 134 [.agg (A5 s_)] (·= .agg (A5 r)):=by
 refine Ad.nle (Ad.intro Tryz.func134 rfl rfl (by show _≤12;simp) ?_)
 unfold Em at h
 refine nS (sq ?_)
 refine ar rfl (qn (sq ?_))
 refine rg rfl fun K j=>?_
 obtain⟨y1,hy1,h⟩:=Ah h
 refine Al.pure Tryz.call67 (Da s_.Zones hy1) rfl fun _ hr=>?_
 subst hr
 refine nS ?_
 refine j _ _ (qn (sq ?_))
 refine rg rfl fun K j=>?_
 obtain⟨y2,hy2,h⟩:=Ah h
 refine Al.pure Tryz.call67 (Da s_.Lifts hy2) rfl fun _ hr=>?_
 subst hr
 refine nS ?_
 refine j _ _ (qn (sq ?_))
 refine ar rfl (qn (rt ?_))
 cases h;exact en Tryz.results134
def El (b:Bp):Option (Bp):=
 (B9 b.Zones).bind fun y1=>some (Bp.mk b.Version b.Span b.Low b.High y1 b.Level)
theorem T8 (b:Bp) {r:Bp} (h:El b=some r):Ad Tryz.prog 136 [.agg (Au b)] (·= .agg (Au r)):=by
 refine Ad.nle (Ad.intro Tryz.func136 rfl rfl (by show _≤8;simp) ?_)
 unfold El at h
 refine nS (sq ?_)
 refine ar rfl (qn (sq ?_))
 refine rg rfl fun K j=>?_
 obtain⟨y1,hy1,h⟩:=Ah h
 refine Al.pure Tryz.call67 (Da b.Zones hy1) rfl fun _ hr=>?_
 subst hr
 refine nS ?_
 refine j _ _ (qn (sq ?_))
 refine ar rfl (qn (rt ?_))
 cases h;exact en Tryz.results136
def Co (s_:List Bi):Option (List Bi):=chk s_.length (some s_)
theorem I9 (s_:List Bi) {r:List Bi} (h:Co s_=some r):Db Tryz.prog 137 [.sl 7 (s_.map Ao)] 7 (r.map Ao):=by
 have hk:=(B1 h).1
 have hr:r=s_:=Aa (B1 h).2
 rw[hr];clear hr h
 refine Db.of ?_
 refine Ci.weak (R:=fun q H=>∃ v rest,q= .own 0 v 0 (s_.map Ao).length∧H= .row v 7 (s_.map Ao)::rest) (Ci.intro Tryz.func137 rfl rfl (by show _≤8;simp) ?_) (fun q H hq=>?_)
 ·refine nS (sq ?_)
  refine ar rfl (qn (sq (sq ?_)))
  refine rg rfl fun K j=>?_
  intro bnil hb
  refine nS ?_
  refine j _ _ (qn ?_)
  refine AWP.cond (Aj (fun hc=>?_) (fun hc=>?_))
  ·have hx0:s_=[]:=Classical.byContradiction fun hne=>by have:=hb (by simpa using hne);simp[this]at hc
   subst hx0
   refine sq (ar rfl (qn ?_))
   refine AWP.ghost 2 7 rfl (by decide) ?_
   refine nS (rt (qr ?_))
   refine nSc Tryz.results137 ?_
   refine⟨_,_,?_,rfl⟩
   (try simp +decide -implicitDefEqProofs only[go_sem,List.length_map,List.length_append,List.length_cons,List.length_nil,List.length_set,List.length_replicate]);try rfl
  clear hc
  refine sk (qn (sq ?_))
  refine rg rfl fun K j=>?_
  (repeat refine rp ?_);try simp +decide -implicitDefEqProofs only[go_sem]
  refine j _ _ (qn (rt ?_))
  refine nSc Tryz.results137 ?_
  refine⟨_,_,?_,rfl⟩
  (try simp +decide -implicitDefEqProofs only[go_sem,List.length_map,List.length_append,List.length_cons,List.length_nil,List.length_set,List.length_replicate]);try rfl
 obtain⟨v,rest,rfl,rfl⟩:=hq
 exact⟨[.row v 7 (s_.map Ao)],⟨⟨rfl,rfl,rfl⟩,by cases rest<;>trivial⟩,rfl,rfl,⟨v,rfl,rfl⟩⟩
theorem H8 (s_:List Bi) {r:List Bi} (h:Co s_=some r):Bh Tryz.prog 137 [.sl 7 (s_.map Ao)] (·= .sl 7 (r.map Ao)):=Bh.nle (Ci.fresh (Ci.mono (I9 s_ h) fun q H=>by rintro⟨rfl,rfl⟩;simp +decide -implicitDefEqProofs only[go_sem,Dr,Ac.int.injEq,Int.natCast_zero,List.replicate_zero,List.length_take,List.length_drop,Ac.own.injEq,reduceCtorEq,Int.reduceAdd,Vo,Vp,Rr,Wh,Rq,List.length_map]))
theorem Ip (s_:List Bi) {r:List Bi} (h:Co s_=some r):Ad Tryz.prog 137 [.sl 7 (s_.map Ao)] (·= .sl 7 (r.map Ao)):=(H8 s_ h).pure
def Ek (w:A8):Option (A8):=
 (B9 w.Runs).bind fun y1=>some (A8.mk w.Groomer w.From w.To y1)
theorem T7 (w:A8) {r:A8} (h:Ek w=some r):Ad Tryz.prog 139 [.agg (Ap w)] (·= .agg (Ap r)):=by
 refine Ad.nle (Ad.intro Tryz.func139 rfl rfl (by show _≤8;simp) ?_)
 unfold Ek at h
 refine nS (sq ?_)
 refine ar rfl (qn (sq ?_))
 refine rg rfl fun K j=>?_
 obtain⟨y1,hy1,h⟩:=Ah h
 refine Al.pure Tryz.call67 (Da w.Runs hy1) rfl fun _ hr=>?_
 subst hr
 refine nS ?_
 refine j _ _ (qn (sq ?_))
 refine ar rfl (qn (rt ?_))
 cases h;exact en Tryz.results139
def Cp (s_:List B6):Option (List B6):=chk s_.length (some s_)
theorem Jb (s_:List B6) {r:List B6} (h:Cp s_=some r):Db Tryz.prog 140 [.sl 8 (s_.map A2)] 8 (r.map A2):=by
 have hk:=(B1 h).1
 have hr:r=s_:=Aa (B1 h).2
 rw[hr];clear hr h
 refine Db.of ?_
 refine Ci.weak (R:=fun q H=>∃ v rest,q= .own 0 v 0 (s_.map A2).length∧H= .row v 8 (s_.map A2)::rest) (Ci.intro Tryz.func140 rfl rfl (by show _≤8;simp) ?_) (fun q H hq=>?_)
 ·refine nS (sq ?_)
  refine ar rfl (qn (sq (sq ?_)))
  refine rg rfl fun K j=>?_
  intro bnil hb
  refine nS ?_
  refine j _ _ (qn ?_)
  refine AWP.cond (Aj (fun hc=>?_) (fun hc=>?_))
  ·have hx0:s_=[]:=Classical.byContradiction fun hne=>by have:=hb (by simpa using hne);simp[this]at hc
   subst hx0
   refine sq (ar rfl (qn ?_))
   refine AWP.ghost 2 8 rfl (by decide) ?_
   refine nS (rt (qr ?_))
   refine nSc Tryz.results140 ?_
   refine⟨_,_,?_,rfl⟩
   (try simp +decide -implicitDefEqProofs only[go_sem,List.length_map,List.length_append,List.length_cons,List.length_nil,List.length_set,List.length_replicate]);try rfl
  clear hc
  refine sk (qn (sq ?_))
  refine rg rfl fun K j=>?_
  (repeat refine rp ?_);try simp +decide -implicitDefEqProofs only[go_sem]
  refine j _ _ (qn (rt ?_))
  refine nSc Tryz.results140 ?_
  refine⟨_,_,?_,rfl⟩
  (try simp +decide -implicitDefEqProofs only[go_sem,List.length_map,List.length_append,List.length_cons,List.length_nil,List.length_set,List.length_replicate]);try rfl
 obtain⟨v,rest,rfl,rfl⟩:=hq
 exact⟨[.row v 8 (s_.map A2)],⟨⟨rfl,rfl,rfl⟩,by cases rest<;>trivial⟩,rfl,rfl,⟨v,rfl,rfl⟩⟩
theorem Ia (s_:List B6) {r:List B6} (h:Cp s_=some r):Bh Tryz.prog 140 [.sl 8 (s_.map A2)] (·= .sl 8 (r.map A2)):=Bh.nle (Ci.fresh (Ci.mono (Jb s_ h) fun q H=>by rintro⟨rfl,rfl⟩;simp +decide -implicitDefEqProofs only[go_sem,Dr,Ac.int.injEq,Int.natCast_zero,List.replicate_zero,List.length_take,List.length_drop,Ac.own.injEq,reduceCtorEq,Int.reduceAdd,Vo,Vp,Rr,Wh,Rq,List.length_map]))
theorem Iq (s_:List B6) {r:List B6} (h:Cp s_=some r):Ad Tryz.prog 140 [.sl 8 (s_.map A2)] (·= .sl 8 (r.map A2)):=(Ia s_ h).pure
def Dx (s_:List Bo):Option (List Bo):=chk s_.length (some s_)
theorem J9 (s_:List Bo) {r:List Bo} (h:Dx s_=some r):Db Tryz.prog 141 [.sl 3 (s_.map A6)] 3 (r.map A6):=by
 have hk:=(B1 h).1
 have hr:r=s_:=Aa (B1 h).2
 rw[hr];clear hr h
 refine Db.of ?_
 refine Ci.weak (R:=fun q H=>∃ v rest,q= .own 0 v 0 (s_.map A6).length∧H= .row v 3 (s_.map A6)::rest) (Ci.intro Tryz.func141 rfl rfl (by show _≤8;simp) ?_) (fun q H hq=>?_)
 ·refine nS (sq ?_)
  refine ar rfl (qn (sq (sq ?_)))
  refine rg rfl fun K j=>?_
  intro bnil hb
  refine nS ?_
  refine j _ _ (qn ?_)
  refine AWP.cond (Aj (fun hc=>?_) (fun hc=>?_))
  ·have hx0:s_=[]:=Classical.byContradiction fun hne=>by have:=hb (by simpa using hne);simp[this]at hc
   subst hx0
   refine sq (ar rfl (qn ?_))
   refine AWP.ghost 2 3 rfl (by decide) ?_
   refine nS (rt (qr ?_))
   refine nSc Tryz.results141 ?_
   refine⟨_,_,?_,rfl⟩
   (try simp +decide -implicitDefEqProofs only[go_sem,List.length_map,List.length_append,List.length_cons,List.length_nil,List.length_set,List.length_replicate]);try rfl
  clear hc
  refine sk (qn (sq ?_))
  refine rg rfl fun K j=>?_
  (repeat refine rp ?_);try simp +decide -implicitDefEqProofs only[go_sem]
  refine j _ _ (qn (rt ?_))
  refine nSc Tryz.results141 ?_
  refine⟨_,_,?_,rfl⟩
  (try simp +decide -implicitDefEqProofs only[go_sem,List.length_map,List.length_append,List.length_cons,List.length_nil,List.length_set,List.length_replicate]);try rfl
 obtain⟨v,rest,rfl,rfl⟩:=hq
 exact⟨[.row v 3 (s_.map A6)],⟨⟨rfl,rfl,rfl⟩,by cases rest<;>trivial⟩,rfl,rfl,⟨v,rfl,rfl⟩⟩
def Ep (f_:Ak) (y2:(List Int)) (k38:Nat) (x_40:Bo) (sv:(List Bo)×(List Int)):Option (Out ((List Bo)×(List Int)) (Ak×(List Int))):=
 (Dl sv.1 ((k38:Nat):Int)).bind fun x_41=>(bif x_41.Open then(Bt y2 x_41.Run).bind fun y42=>(bif (!y42)then chk (sv.2.length+1) (some (Out.next (((sv.1.set k38 (Bo.mk x_41.Run false x_41.Since)).set k38 (Bo.mk x_41.Run false f_.Time)),(sv.2++[x_41.Run]))))else some (Out.next (sv.1,sv.2)))else some (Out.next (sv.1,sv.2)))
def G9 (k29:Nat) (x_31:A8) (sv:(List A8)):Option (Out ((List A8)) (Ak×(List Int))):=
 (Ek x_31).bind fun y32=>chk (sv.length+1) (some (Out.next (sv++[y32])))
def Ha (k23:Nat) (x_25:Bp) (sv:(List Bp)):Option (Out ((List Bp)) (Ak×(List Int))):=
 (El x_25).bind fun y26=>chk (sv.length+1) (some (Out.next (sv++[y26])))
def Hb (k18:Nat) (x_20:Bf) (sv:(List Bf)):Option (Out ((List Bf)) (Ak×(List Int))):=
 (Em x_20).bind fun y21=>chk (sv.length+1) (some (Out.next (sv++[y21])))
def Hc (k10:Nat) (x_12:Ck) (sv:(List Ck)):Option (Out ((List Ck)) (Ak×(List Int))):=
 (En x_12).bind fun y13=>chk (sv.length+1) (some (Out.next (sv++[y13])))
def Hs (f_:Ak):Option (Ak×(List Int)):=
 (Dk f_).bind fun y1=>(E5 f_ y1).bind fun y2=>(C7 f_.Map.Nodes).bind fun y3=>(C8 f_.Map.Lifts).bind fun y4=>(Df f_.Map.Runs).bind fun y5=>(B9 f_.Map.Bases).bind fun y6=>(Cg f_.Lifts).bind fun y7=>(Cq f_.Closures).bind fun y8=>chk f_.Patrol.Bw.length ((Am Hc 0 f_.Patrol.Bw []).bind fun o10=>o10.on fun s10=>(Cu f_.Patrol.Hazards).bind fun y14=>(Cm f_.Surfaces).bind fun y15=>(Cn f_.Packs).bind fun y16=>chk f_.Slides.length ((Am Hb 0 f_.Slides []).bind fun o18=>o18.on fun s18=>chk f_.Bulletin.length ((Am Ha 0 f_.Bulletin []).bind fun o23=>o23.on fun s23=>(Co f_.Missions).bind fun y27=>chk f_.Winches.length ((Am G9 0 f_.Winches []).bind fun o29=>o29.on fun s29=>(Cp f_.Groomers).bind fun y33=>(Dx f_.Status).bind fun y34=>(Am (Ep f_ y2) 0 y34 (y34,[])).bind fun o38=>o38.on fun s38=>some ((Ak.mk (Bd.mk y3 y4 y5 y6) y7 y8 (Cb.mk s10 y14) y15 y16 s18 s23 y27 s29 y33 s38.1 f_.Depth f_.Time),s38.2)))))
theorem Wj (f_:Ak) {r:Ak×(List Int)} (h:Hs f_=some r):Ad Tryz.prog 27 [.agg (Bv f_)] (·= .tuple [.agg (Bv r.1),.sl 1 (r.2.map Aw)]):=by
 refine Ad.nle (Ad.intro Tryz.func27 rfl rfl (by show _≤52;simp) ?_)
 unfold Hs at h
 refine nS (sq ?_)
 refine ar rfl (qn (sq ?_))
 refine AWP.draw Tryz.mixed (by kernel_rfl) ?_;intro K j
 refine nS ?_
 obtain⟨y1,hy1,h⟩:=Ah h
 refine Bz.pure Tryz.call20 (Iv f_ hy1) rfl ?_
 refine nS ?_
 obtain⟨y2,hy2,h⟩:=Ah h
 refine Bz.pure Tryz.call29 (Y1 f_ y1 hy2) rfl ?_
 refine nS ?_
 refine j _ _ _ (by kernel_rfl) ?_
 refine qn (sq ?_)
 refine rg rfl fun K j=>?_
 refine Al.inline Tryz.call57 Tryz.func57 rfl rfl (by show _≤74;simp) ?_
 refine nS (sq ?_)
 refine ar rfl (qn (sq ?_))
 refine AWP.draw Tryz.mixed (by kernel_rfl) ?_;intro K j
 refine nS ?_
 obtain⟨y3,hy3,h⟩:=Ah h
 refine Bz.pure Tryz.call122 (Mf f_.Map.Nodes hy3) rfl ?_
 refine nS ?_
 obtain⟨y4,hy4,h⟩:=Ah h
 refine Bz.pure Tryz.call123 (Mg f_.Map.Lifts hy4) rfl ?_
 refine nS ?_
 obtain⟨y5,hy5,h⟩:=Ah h
 refine Bz.pure Tryz.call124 (Nk f_.Map.Runs hy5) rfl ?_
 refine nS ?_
 obtain⟨y6,hy6,h⟩:=Ah h
 refine Bz.pure Tryz.call67 (Da f_.Map.Bases hy6) rfl ?_
 refine nS ?_
 refine j _ _ _ (by kernel_rfl) ?_;clear j K
 refine qn (sq ?_)
 refine rg rfl fun K j=>?_
 obtain⟨y7,hy7,h⟩:=Ah h
 refine Al.pure Tryz.call125 (Hh f_.Lifts hy7) rfl fun _ hr=>?_
 subst hr
 refine nS ?_
 refine j _ _ (qn (sq ?_));clear j K
 refine rg rfl fun K j=>?_
 obtain⟨y8,hy8,h⟩:=Ah h
 refine Al.pure Tryz.call126 (Ir f_.Closures hy8) rfl fun _ hr=>?_
 subst hr
 refine nS ?_
 refine j _ _ (qn (sq ?_));clear j K
 refine rg rfl fun K j=>?_
 refine Al.inline Tryz.call127 Tryz.func127 rfl rfl (by show _≤25;simp) ?_
 refine nS (sq ?_)
 refine ar rfl (qn (sq ?_))
 refine rg rfl fun K j=>?_
 intro hm
 obtain⟨hk,h⟩:=B1 h
 (repeat refine rp ?_);try simp +decide -implicitDefEqProofs only[go_sem]
 refine j _ _ (qn (sq (sq ?_)));clear j K
 refine rg rfl fun K j=>?_
 intro hm
 refine j _ _ (qn (bk ?_));clear j K
 obtain⟨o10,hJ10,hO10⟩:=Ah h
 clear h
 refine AWP.Br (ι:=Nat×((List Ck))×(Nat)) (fun zz=>[(1,.func 128 []),(5,.own 10 zz.2.2 0 zz.2.1.length),(11,.sl 4 (f_.Patrol.Bw.map Ax)),(12,.int .i64 ((f_.Patrol.Bw.length:Nat):Int)),(13,.int .i64 ((zz.1:Nat):Int))]) (fun zz=>[.box [.sl 2 (f_.Map.Nodes.map A9),.sl 8 (f_.Map.Lifts.map A7),.sl 7 (f_.Map.Runs.map Be),.sl 1 (f_.Map.Bases.map Aw),.sl 2 (f_.Lifts.map Az),.sl 4 (f_.Closures.map Aq),.sl 4 (f_.Patrol.Bw.map Ax),.sl 3 (f_.Patrol.Hazards.map A3),.sl 3 (f_.Surfaces.map Ba),.sl 5 (f_.Packs.map A4),.sl 6 (f_.Slides.map A5),.sl 7 (f_.Bulletin.map Au),.sl 7 (f_.Missions.map Ao),.sl 4 (f_.Winches.map Ap),.sl 8 (f_.Groomers.map A2),.sl 3 (f_.Status.map A6),.int .i64 f_.Depth,.int .i64 f_.Time],.box [.nils,.nils,.nils,.nils,.nils,.nils,.nils,.nils,.nils,.nils,.nils,.nils,.nils,.nils,.nils,.nils,.int .i64 0,.int .i64 0],.gone,.gone,.box [.sl 2 (y3.map A9),.sl 8 (y4.map A7),.sl 7 (y5.map Be),.sl 1 (y6.map Aw),.sl 2 (y7.map Az),.sl 4 (y8.map Aq),.sl 4 (f_.Patrol.Bw.map Ax),.sl 3 (f_.Patrol.Hazards.map A3),.sl 3 (f_.Surfaces.map Ba),.sl 5 (f_.Packs.map A4),.sl 6 (f_.Slides.map A5),.sl 7 (f_.Bulletin.map Au),.sl 7 (f_.Missions.map Ao),.sl 4 (f_.Winches.map Ap),.sl 8 (f_.Groomers.map A2),.sl 3 (f_.Status.map A6),.int .i64 f_.Depth,.int .i64 f_.Time],.box [.nils,.nils,.nils,.nils,.nils,.nils,.nils,.nils,.nils,.nils,.nils,.nils,.nils,.nils,.nils,.nils,.int .i64 0,.int .i64 0],.gone,.gone,.gone,.gone,.row zz.2.2 4 (zz.2.1.map Ax)]) (fun zz=>zz.1≤f_.Patrol.Bw.length∧Am Hc zz.1 ((f_.Patrol.Bw).drop zz.1) zz.2.1=some o10) (fun zz=>f_.Patrol.Bw.length - zz.1) (0,[],0) ⟨Nat.zero_le _,hJ10⟩ cu cu (fun x=>⟨rfl,rfl,rfl⟩) ?_
 clear hJ10
 rintro⟨k10,out9,ver10⟩ ⟨hk10,hJ10⟩
 dsimp only at hk10 hJ10 ⊢
 refine sq (ar rfl (qn (sq ?_)))
 refine AWP.cond (Aj (fun hc=>?_) (fun hc=>?_))
 ·have hlt10:k10<f_.Patrol.Bw.length:=by have:=Ajp hc;omega
  obtain⟨x_12,b10,hx10_,h,hJ10⟩:=A1 hJ10 hlt10
  have hx10:=Ay hx10_
  have hw10:=wk (k:=k10) (by omega)
  unfold Hc at h;try dsimp only at h
  refine sk (qn (sq (bk (sq ?_))))
  refine rg rfl fun K j=>?_
  refine Bk.of (f:=Ax) (l:=f_.Patrol.Bw) hx10 ?_
  refine nS ?_
  refine j _ _ (qn ?_);clear j K
  refine rg rfl fun K j=>?_
  obtain⟨y13,hy13,h⟩:=Ah h
  refine Al.pure Tryz.call128 (Ua x_12 hy13) rfl fun _ hr=>?_
  subst hr
  refine nS ?_
  obtain⟨hk,h⟩:=B1 h
  (repeat refine rp ?_);try simp +decide -implicitDefEqProofs only[go_sem]
  refine j _ _ (bn (qn ?_));clear j K
  refine ar rfl (qn ?_)
  obtain rfl:=Aa h
  refine⟨(k10+1,(out9++[y13]),(ver10+1)),⟨by dsimp only;omega,Ae hJ10⟩,by dsimp only;omega,?_,?_⟩
  ·exact cuw hw10
  exact cuw hw10
 obtain rfl:=Bc hJ10 (fun hl=>by have:=Ajo hc;omega)
 have h:=Bb hO10;try dsimp only at h
 have hkl:f_.Patrol.Bw.length=k10:=by have:=Ajo hc;omega
 subst hkl
 refine xt (qe (qe (bs (qn (sq (ar rfl (qn (rt ?_))))))))
 refine nSc Tryz.results127 ?_
 refine j _ _ (qn (sq ?_));clear j K
 refine rg rfl fun K j=>?_
 obtain⟨y14,hy14,h⟩:=Ah h
 refine Al.pure Tryz.call130 (Jy f_.Patrol.Hazards hy14) rfl fun _ hr=>?_
 subst hr
 refine nS ?_
 refine j _ _ (qn (sq ?_));clear j K
 refine rg rfl fun K j=>?_
 obtain⟨y15,hy15,h⟩:=Ah h
 refine Al.pure Tryz.call131 (Im f_.Surfaces hy15) rfl fun _ hr=>?_
 subst hr
 refine nS ?_
 refine j _ _ (qn (sq ?_));clear j K
 refine rg rfl fun K j=>?_
 obtain⟨y16,hy16,h⟩:=Ah h
 refine Al.pure Tryz.call132 (Io f_.Packs hy16) rfl fun _ hr=>?_
 subst hr
 refine nS ?_
 refine j _ _ (qn (sq ?_));clear j K
 refine rg rfl fun K j=>?_
 refine Al.inline Tryz.call133 Tryz.func133 rfl rfl (by show _≤25;simp) ?_
 refine nS (sq ?_)
 refine ar rfl (qn (sq ?_))
 refine rg rfl fun K j=>?_
 intro hm
 obtain⟨hk,h⟩:=B1 h
 (repeat refine rp ?_);try simp +decide -implicitDefEqProofs only[go_sem]
 refine j _ _ (qn (sq (sq ?_)));clear j K
 refine rg rfl fun K j=>?_
 intro hm
 refine j _ _ (qn (bk ?_));clear j K
 obtain⟨o18,hJ18,hO18⟩:=Ah h
 clear h
 refine AWP.Br (ι:=Nat×((List Bf))×(Nat)) (fun zz=>[(1,.func 134 []),(5,.own 11 zz.2.2 0 zz.2.1.length),(11,.sl 6 (f_.Slides.map A5)),(12,.int .i64 ((f_.Slides.length:Nat):Int)),(13,.int .i64 ((zz.1:Nat):Int))]) (fun zz=>[.box [.sl 2 (f_.Map.Nodes.map A9),.sl 8 (f_.Map.Lifts.map A7),.sl 7 (f_.Map.Runs.map Be),.sl 1 (f_.Map.Bases.map Aw),.sl 2 (f_.Lifts.map Az),.sl 4 (f_.Closures.map Aq),.sl 4 (f_.Patrol.Bw.map Ax),.sl 3 (f_.Patrol.Hazards.map A3),.sl 3 (f_.Surfaces.map Ba),.sl 5 (f_.Packs.map A4),.sl 6 (f_.Slides.map A5),.sl 7 (f_.Bulletin.map Au),.sl 7 (f_.Missions.map Ao),.sl 4 (f_.Winches.map Ap),.sl 8 (f_.Groomers.map A2),.sl 3 (f_.Status.map A6),.int .i64 f_.Depth,.int .i64 f_.Time],.box [.nils,.nils,.nils,.nils,.nils,.nils,.nils,.nils,.nils,.nils,.nils,.nils,.nils,.nils,.nils,.nils,.int .i64 0,.int .i64 0],.gone,.gone,.box [.sl 2 (y3.map A9),.sl 8 (y4.map A7),.sl 7 (y5.map Be),.sl 1 (y6.map Aw),.sl 2 (y7.map Az),.sl 4 (y8.map Aq),.own 10 ver10 0 out9.length,.sl 3 (y14.map A3),.sl 3 (y15.map Ba),.sl 5 (y16.map A4),.sl 6 (f_.Slides.map A5),.sl 7 (f_.Bulletin.map Au),.sl 7 (f_.Missions.map Ao),.sl 4 (f_.Winches.map Ap),.sl 8 (f_.Groomers.map A2),.sl 3 (f_.Status.map A6),.int .i64 f_.Depth,.int .i64 f_.Time],.box [.nils,.nils,.nils,.nils,.nils,.nils,.nils,.nils,.nils,.nils,.nils,.nils,.nils,.nils,.nils,.nils,.int .i64 0,.int .i64 0],.gone,.gone,.gone,.gone,.row ver10 4 (out9.map Ax),.row zz.2.2 6 (zz.2.1.map A5)]) (fun zz=>zz.1≤f_.Slides.length∧Am Hb zz.1 ((f_.Slides).drop zz.1) zz.2.1=some o18) (fun zz=>f_.Slides.length - zz.1) (0,[],0) ⟨Nat.zero_le _,hJ18⟩ cu cu (fun x=>⟨rfl,rfl,rfl⟩) ?_
 clear hJ18
 rintro⟨k18,out17,ver18⟩ ⟨hk18,hJ18⟩
 dsimp only at hk18 hJ18 ⊢
 refine sq (ar rfl (qn (sq ?_)))
 refine AWP.cond (Aj (fun hc=>?_) (fun hc=>?_))
 ·have hlt18:k18<f_.Slides.length:=by have:=Ajp hc;omega
  obtain⟨x_20,b18,hx18_,h,hJ18⟩:=A1 hJ18 hlt18
  have hx18:=Ay hx18_
  have hw18:=wk (k:=k18) (by omega)
  unfold Hb at h;try dsimp only at h
  refine sk (qn (sq (bk (sq ?_))))
  refine rg rfl fun K j=>?_
  refine Bk.of (f:=A5) (l:=f_.Slides) hx18 ?_
  refine nS ?_
  refine j _ _ (qn ?_);clear j K
  refine rg rfl fun K j=>?_
  obtain⟨y21,hy21,h⟩:=Ah h
  refine Al.pure Tryz.call134 (T9 x_20 hy21) rfl fun _ hr=>?_
  subst hr
  refine nS ?_
  obtain⟨hk,h⟩:=B1 h
  (repeat refine rp ?_);try simp +decide -implicitDefEqProofs only[go_sem]
  refine j _ _ (bn (qn ?_));clear j K
  refine ar rfl (qn ?_)
  obtain rfl:=Aa h
  refine⟨(k18+1,(out17++[y21]),(ver18+1)),⟨by dsimp only;omega,Ae hJ18⟩,by dsimp only;omega,?_,?_⟩
  ·exact cuw hw18
  exact cuw hw18
 obtain rfl:=Bc hJ18 (fun hl=>by have:=Ajo hc;omega)
 have h:=Bb hO18;try dsimp only at h
 have hkl:f_.Slides.length=k18:=by have:=Ajo hc;omega
 subst hkl
 refine xt (qe (qe (bs (qn (sq (ar rfl (qn (rt ?_))))))))
 refine nSc Tryz.results133 ?_
 refine j _ _ (qn (sq ?_));clear j K
 refine rg rfl fun K j=>?_
 refine Al.inline Tryz.call135 Tryz.func135 rfl rfl (by show _≤25;simp) ?_
 refine nS (sq ?_)
 refine ar rfl (qn (sq ?_))
 refine rg rfl fun K j=>?_
 intro hm
 obtain⟨hk,h⟩:=B1 h
 (repeat refine rp ?_);try simp +decide -implicitDefEqProofs only[go_sem]
 refine j _ _ (qn (sq (sq ?_)));clear j K
 refine rg rfl fun K j=>?_
 intro hm
 refine j _ _ (qn (bk ?_));clear j K
 obtain⟨o23,hJ23,hO23⟩:=Ah h
 clear h
 refine AWP.Br (ι:=Nat×((List Bp))×(Nat)) (fun zz=>[(1,.func 136 []),(5,.own 12 zz.2.2 0 zz.2.1.length),(11,.sl 7 (f_.Bulletin.map Au)),(12,.int .i64 ((f_.Bulletin.length:Nat):Int)),(13,.int .i64 ((zz.1:Nat):Int))]) (fun zz=>[.box [.sl 2 (f_.Map.Nodes.map A9),.sl 8 (f_.Map.Lifts.map A7),.sl 7 (f_.Map.Runs.map Be),.sl 1 (f_.Map.Bases.map Aw),.sl 2 (f_.Lifts.map Az),.sl 4 (f_.Closures.map Aq),.sl 4 (f_.Patrol.Bw.map Ax),.sl 3 (f_.Patrol.Hazards.map A3),.sl 3 (f_.Surfaces.map Ba),.sl 5 (f_.Packs.map A4),.sl 6 (f_.Slides.map A5),.sl 7 (f_.Bulletin.map Au),.sl 7 (f_.Missions.map Ao),.sl 4 (f_.Winches.map Ap),.sl 8 (f_.Groomers.map A2),.sl 3 (f_.Status.map A6),.int .i64 f_.Depth,.int .i64 f_.Time],.box [.nils,.nils,.nils,.nils,.nils,.nils,.nils,.nils,.nils,.nils,.nils,.nils,.nils,.nils,.nils,.nils,.int .i64 0,.int .i64 0],.gone,.gone,.box [.sl 2 (y3.map A9),.sl 8 (y4.map A7),.sl 7 (y5.map Be),.sl 1 (y6.map Aw),.sl 2 (y7.map Az),.sl 4 (y8.map Aq),.own 10 ver10 0 out9.length,.sl 3 (y14.map A3),.sl 3 (y15.map Ba),.sl 5 (y16.map A4),.own 11 ver18 0 out17.length,.sl 7 (f_.Bulletin.map Au),.sl 7 (f_.Missions.map Ao),.sl 4 (f_.Winches.map Ap),.sl 8 (f_.Groomers.map A2),.sl 3 (f_.Status.map A6),.int .i64 f_.Depth,.int .i64 f_.Time],.box [.nils,.nils,.nils,.nils,.nils,.nils,.nils,.nils,.nils,.nils,.nils,.nils,.nils,.nils,.nils,.nils,.int .i64 0,.int .i64 0],.gone,.gone,.gone,.gone,.row ver10 4 (out9.map Ax),.row ver18 6 (out17.map A5),.row zz.2.2 7 (zz.2.1.map Au)]) (fun zz=>zz.1≤f_.Bulletin.length∧Am Ha zz.1 ((f_.Bulletin).drop zz.1) zz.2.1=some o23) (fun zz=>f_.Bulletin.length - zz.1) (0,[],0) ⟨Nat.zero_le _,hJ23⟩ cu cu (fun x=>⟨rfl,rfl,rfl⟩) ?_
 clear hJ23
 rintro⟨k23,out22,ver23⟩ ⟨hk23,hJ23⟩
 dsimp only at hk23 hJ23 ⊢
 refine sq (ar rfl (qn (sq ?_)))
 refine AWP.cond (Aj (fun hc=>?_) (fun hc=>?_))
 ·have hlt23:k23<f_.Bulletin.length:=by have:=Ajp hc;omega
  obtain⟨x_25,b23,hx23_,h,hJ23⟩:=A1 hJ23 hlt23
  have hx23:=Ay hx23_
  have hw23:=wk (k:=k23) (by omega)
  unfold Ha at h;try dsimp only at h
  refine sk (qn (sq (bk (sq ?_))))
  refine rg rfl fun K j=>?_
  refine Bk.of (f:=Au) (l:=f_.Bulletin) hx23 ?_
  refine nS ?_
  refine j _ _ (qn ?_);clear j K
  refine rg rfl fun K j=>?_
  obtain⟨y26,hy26,h⟩:=Ah h
  refine Al.pure Tryz.call136 (T8 x_25 hy26) rfl fun _ hr=>?_
  subst hr
  refine nS ?_
  obtain⟨hk,h⟩:=B1 h
  (repeat refine rp ?_);try simp +decide -implicitDefEqProofs only[go_sem]
  refine j _ _ (bn (qn ?_));clear j K
  refine ar rfl (qn ?_)
  obtain rfl:=Aa h
  refine⟨(k23+1,(out22++[y26]),(ver23+1)),⟨by dsimp only;omega,Ae hJ23⟩,by dsimp only;omega,?_,?_⟩
  ·exact cuw hw23
  exact cuw hw23
 obtain rfl:=Bc hJ23 (fun hl=>by have:=Ajo hc;omega)
 have h:=Bb hO23;try dsimp only at h
 have hkl:f_.Bulletin.length=k23:=by have:=Ajo hc;omega
 subst hkl
 refine xt (qe (qe (bs (qn (sq (ar rfl (qn (rt ?_))))))))
 refine nSc Tryz.results135 ?_
 refine j _ _ (qn (sq ?_));clear j K
 refine rg rfl fun K j=>?_
 obtain⟨y27,hy27,h⟩:=Ah h
 refine Al.pure Tryz.call137 (Ip f_.Missions hy27) rfl fun _ hr=>?_
 subst hr
 refine nS ?_
 refine j _ _ (qn (sq ?_));clear j K
 refine rg rfl fun K j=>?_
 refine Al.inline Tryz.call138 Tryz.func138 rfl rfl (by show _≤25;simp) ?_
 refine nS (sq ?_)
 refine ar rfl (qn (sq ?_))
 refine rg rfl fun K j=>?_
 intro hm
 obtain⟨hk,h⟩:=B1 h
 (repeat refine rp ?_);try simp +decide -implicitDefEqProofs only[go_sem]
 refine j _ _ (qn (sq (sq ?_)));clear j K
 refine rg rfl fun K j=>?_
 intro hm
 refine j _ _ (qn (bk ?_));clear j K
 obtain⟨o29,hJ29,hO29⟩:=Ah h
 clear h
 refine AWP.Br (ι:=Nat×((List A8))×(Nat)) (fun zz=>[(1,.func 139 []),(5,.own 13 zz.2.2 0 zz.2.1.length),(11,.sl 4 (f_.Winches.map Ap)),(12,.int .i64 ((f_.Winches.length:Nat):Int)),(13,.int .i64 ((zz.1:Nat):Int))]) (fun zz=>[.box [.sl 2 (f_.Map.Nodes.map A9),.sl 8 (f_.Map.Lifts.map A7),.sl 7 (f_.Map.Runs.map Be),.sl 1 (f_.Map.Bases.map Aw),.sl 2 (f_.Lifts.map Az),.sl 4 (f_.Closures.map Aq),.sl 4 (f_.Patrol.Bw.map Ax),.sl 3 (f_.Patrol.Hazards.map A3),.sl 3 (f_.Surfaces.map Ba),.sl 5 (f_.Packs.map A4),.sl 6 (f_.Slides.map A5),.sl 7 (f_.Bulletin.map Au),.sl 7 (f_.Missions.map Ao),.sl 4 (f_.Winches.map Ap),.sl 8 (f_.Groomers.map A2),.sl 3 (f_.Status.map A6),.int .i64 f_.Depth,.int .i64 f_.Time],.box [.nils,.nils,.nils,.nils,.nils,.nils,.nils,.nils,.nils,.nils,.nils,.nils,.nils,.nils,.nils,.nils,.int .i64 0,.int .i64 0],.gone,.gone,.box [.sl 2 (y3.map A9),.sl 8 (y4.map A7),.sl 7 (y5.map Be),.sl 1 (y6.map Aw),.sl 2 (y7.map Az),.sl 4 (y8.map Aq),.own 10 ver10 0 out9.length,.sl 3 (y14.map A3),.sl 3 (y15.map Ba),.sl 5 (y16.map A4),.own 11 ver18 0 out17.length,.own 12 ver23 0 out22.length,.sl 7 (y27.map Ao),.sl 4 (f_.Winches.map Ap),.sl 8 (f_.Groomers.map A2),.sl 3 (f_.Status.map A6),.int .i64 f_.Depth,.int .i64 f_.Time],.box [.nils,.nils,.nils,.nils,.nils,.nils,.nils,.nils,.nils,.nils,.nils,.nils,.nils,.nils,.nils,.nils,.int .i64 0,.int .i64 0],.gone,.gone,.gone,.gone,.row ver10 4 (out9.map Ax),.row ver18 6 (out17.map A5),.row ver23 7 (out22.map Au),.row zz.2.2 4 (zz.2.1.map Ap)]) (fun zz=>zz.1≤f_.Winches.length∧Am G9 zz.1 ((f_.Winches).drop zz.1) zz.2.1=some o29) (fun zz=>f_.Winches.length - zz.1) (0,[],0) ⟨Nat.zero_le _,hJ29⟩ cu cu (fun x=>⟨rfl,rfl,rfl⟩) ?_
 clear hJ29
 rintro⟨k29,out28,ver29⟩ ⟨hk29,hJ29⟩
 dsimp only at hk29 hJ29 ⊢
 refine sq (ar rfl (qn (sq ?_)))
 refine AWP.cond (Aj (fun hc=>?_) (fun hc=>?_))
 ·have hlt29:k29<f_.Winches.length:=by have:=Ajp hc;omega
  obtain⟨x_31,b29,hx29_,h,hJ29⟩:=A1 hJ29 hlt29
  have hx29:=Ay hx29_
  have hw29:=wk (k:=k29) (by omega)
  unfold G9 at h;try dsimp only at h
  refine sk (qn (sq (bk (sq ?_))))
  refine rg rfl fun K j=>?_
  refine Bk.of (f:=Ap) (l:=f_.Winches) hx29 ?_
  refine nS ?_
  refine j _ _ (qn ?_);clear j K
  refine rg rfl fun K j=>?_
  obtain⟨y32,hy32,h⟩:=Ah h
  refine Al.pure Tryz.call139 (T7 x_31 hy32) rfl fun _ hr=>?_
  subst hr
  refine nS ?_
  obtain⟨hk,h⟩:=B1 h
  (repeat refine rp ?_);try simp +decide -implicitDefEqProofs only[go_sem]
  refine j _ _ (bn (qn ?_));clear j K
  refine ar rfl (qn ?_)
  obtain rfl:=Aa h
  refine⟨(k29+1,(out28++[y32]),(ver29+1)),⟨by dsimp only;omega,Ae hJ29⟩,by dsimp only;omega,?_,?_⟩
  ·exact cuw hw29
  exact cuw hw29
 obtain rfl:=Bc hJ29 (fun hl=>by have:=Ajo hc;omega)
 have h:=Bb hO29;try dsimp only at h
 have hkl:f_.Winches.length=k29:=by have:=Ajo hc;omega
 subst hkl
 refine xt (qe (qe (bs (qn (sq (ar rfl (qn (rt ?_))))))))
 refine nSc Tryz.results138 ?_
 refine j _ _ (qn (sq ?_));clear j K
 refine rg rfl fun K j=>?_
 obtain⟨y33,hy33,h⟩:=Ah h
 refine Al.pure Tryz.call140 (Iq f_.Groomers hy33) rfl fun _ hr=>?_
 subst hr
 refine nS ?_
 refine j _ _ (qn (sq ?_));clear j K
 refine rg rfl fun K j=>?_
 obtain⟨y34,hy34,h⟩:=Ah h
 refine Al.row Tryz.call141 (J9 f_.Status hy34) rfl 14 rfl ?_
 (try simp +decide -implicitDefEqProofs only[go_sem,List.length_map])
 refine j _ _ (qn (sq ?_));clear j K
 refine ar rfl (qn (rt ?_))
 refine nSc Tryz.results57 ?_
 refine j _ _ (qn (sq ?_))
 refine ar rfl (qn (sq (sq ?_)))
 refine rg rfl fun K j=>?_
 intro hm
 refine j _ _ (qn (bk ?_))
 refine AWP.ghost 6 1 rfl (by decide) ?_
 obtain⟨o38,hJ38,hO38⟩:=Ah h
 clear h
 refine AWP.Br (ι:=Nat×((List Bo)×(List Int))×(Nat×Nat)) (fun zz=>[(1,.ptr 0 0),(2,.ptr 1 0),(4,.sl 1 (y2.map Aw)),(5,.ptr 15 0),(6,.own 16 zz.2.2.2 0 zz.2.1.2.length),(16,.own 14 zz.2.2.1 0 zz.2.1.1.length),(17,.int .i64 ((y34.length:Nat):Int)),(18,.int .i64 ((zz.1:Nat):Int))]) (fun zz=>[.box [.sl 2 (f_.Map.Nodes.map A9),.sl 8 (f_.Map.Lifts.map A7),.sl 7 (f_.Map.Runs.map Be),.sl 1 (f_.Map.Bases.map Aw),.sl 2 (f_.Lifts.map Az),.sl 4 (f_.Closures.map Aq),.sl 4 (f_.Patrol.Bw.map Ax),.sl 3 (f_.Patrol.Hazards.map A3),.sl 3 (f_.Surfaces.map Ba),.sl 5 (f_.Packs.map A4),.sl 6 (f_.Slides.map A5),.sl 7 (f_.Bulletin.map Au),.sl 7 (f_.Missions.map Ao),.sl 4 (f_.Winches.map Ap),.sl 8 (f_.Groomers.map A2),.sl 3 (f_.Status.map A6),.int .i64 f_.Depth,.int .i64 f_.Time],.box [.nils,.nils,.nils,.nils,.nils,.nils,.nils,.nils,.nils,.nils,.nils,.nils,.nils,.nils,.nils,.nils,.int .i64 0,.int .i64 0],.gone,.gone,.gone,.gone,.gone,.gone,.gone,.gone,.row ver10 4 (out9.map Ax),.row ver18 6 (out17.map A5),.row ver23 7 (out22.map Au),.row ver29 4 (out28.map Ap),.row zz.2.2.1 3 (zz.2.1.1.map A6),.box [.sl 2 (y3.map A9),.sl 8 (y4.map A7),.sl 7 (y5.map Be),.sl 1 (y6.map Aw),.sl 2 (y7.map Az),.sl 4 (y8.map Aq),.own 10 ver10 0 out9.length,.sl 3 (y14.map A3),.sl 3 (y15.map Ba),.sl 5 (y16.map A4),.own 11 ver18 0 out17.length,.own 12 ver23 0 out22.length,.sl 7 (y27.map Ao),.own 13 ver29 0 out28.length,.sl 8 (y33.map A2),.own 14 zz.2.2.1 0 zz.2.1.1.length,.int .i64 f_.Depth,.int .i64 f_.Time],.row zz.2.2.2 1 (zz.2.1.2.map Aw)]) (fun zz=>zz.1≤y34.length∧Am (Ep f_ y2) zz.1 ((y34).drop zz.1) zz.2.1=some o38) (fun zz=>y34.length - zz.1) (0,(y34,[]),(0,0)) ⟨Nat.zero_le _,hJ38⟩ cu cu (fun x=>⟨rfl,rfl,rfl⟩) ?_
 clear hJ38
 rintro⟨k38,⟨t16_35,closed37⟩,⟨ver36,ver38⟩⟩ ⟨hk38,hJ38⟩
 dsimp only at hk38 hJ38 ⊢
 refine sq (ar rfl (qn (sq ?_)))
 refine AWP.cond (Aj (fun hc=>?_) (fun hc=>?_))
 rotate_left
 ·obtain rfl:=Bc hJ38 (fun hl=>by have:=Ajo hc;omega)
  have h:=Bb hO38;try dsimp only at h
  have hkl:y34.length=k38:=by have:=Ajo hc;omega
  subst hkl
  refine xt (qe (qe (bs (qn (sq (ar rfl (qn (rt ?_))))))))
  cases h;exact en Tryz.results27
 have hlt38:k38<y34.length:=by have:=Ajp hc;omega
 obtain⟨x_40,b38,hx38_,h,hJ38⟩:=A1 hJ38 hlt38
 have hx38:=Ay hx38_
 have hw38:=wk (k:=k38) (by omega)
 unfold Ep at h;try dsimp only at h
 refine sk (qn (sq (bk (sq ?_))))
 refine rg rfl fun K j=>?_
 obtain⟨x_41,hx_41,h⟩:=Ah h
 refine F3 hx_41 (by first | rfl | exact(Cd _).symm | (simp only[List.length_append,List.length_cons,List.length_nil,List.length_set,List.length_replicate]<;>omega)) ?_
 refine nS ?_
 refine Cy.ofNat (f:=A6) (l:=t16_35) (n:=k38) hx_41 ?_
 refine nS ?_
 refine j _ _ (qn (sq ?_))
 refine rg rfl fun K j=>?_
 revert h;refine gt (fun hc h=>?_) fun hc h=>?_
 ·obtain⟨y42,hy42,h⟩:=Ah h
  refine Al.pure Tryz.call54 (Bx y2 x_41.Run hy42) rfl fun _ hr=>?_
  subst hr
  refine nS ?_
  refine j _ _ (qn ?_)
  revert h;refine ca rfl (fun hc h=>?_) fun hc h=>?_
  ·refine sq ?_
   refine rg rfl fun K j=>?_
   refine F3 hx_41 (by first | rfl | exact(Cd _).symm | (simp only[List.length_append,List.length_cons,List.length_nil,List.length_set,List.length_replicate]<;>omega)) ?_
   refine nS ?_
   refine Cy.ofNat (f:=A6) (l:=t16_35) (n:=k38) hx_41 ?_
   have hs43:=Pd (y:=(Bo.mk x_41.Run false x_41.Since)) hx_41
   refine nS ?_
   refine j _ _ (qn (sq ?_))
   refine rg rfl fun K j=>?_
   refine F3 hs43 (by first | rfl | exact(Cd _).symm | (simp only[List.length_append,List.length_cons,List.length_nil,List.length_set,List.length_replicate]<;>omega)) ?_
   refine nS ?_
   refine Cy.ofNat (f:=A6) (l:=(t16_35.set k38 (Bo.mk x_41.Run false x_41.Since))) (n:=k38) hs43 ?_
   have hs44:=Pd (y:=(Bo.mk x_41.Run false f_.Time)) hs43
   refine nS ?_
   refine j _ _ (qn ?_)
   refine rg rfl fun K j=>?_
   obtain⟨hk,h⟩:=B1 h
   (repeat refine rp ?_);try simp +decide -implicitDefEqProofs only[go_sem]
   refine j _ _ (bn (qn ?_))
   refine ar rfl (qn ?_)
   obtain rfl:=Aa h
   refine⟨(k38+1,(((t16_35.set k38 (Bo.mk x_41.Run false x_41.Since)).set k38 (Bo.mk x_41.Run false f_.Time)),(closed37++[x_41.Run])),(ver36,(ver38+1))),⟨by dsimp only;omega,Ae hJ38⟩,by dsimp only;omega,?_,?_⟩
   ·exact cuw hw38
   exact cuw hw38
  refine sk (bn (qn (ar rfl (qn ?_))))
  obtain rfl:=Aa h
  refine⟨(k38+1,(t16_35,closed37),(ver36,ver38)),⟨by dsimp only;omega,Ae hJ38⟩,by dsimp only;omega,?_,?_⟩
  ·exact cuw hw38
  exact cuw hw38
 refine j _ _ (qn ?_)
 refine AWP.cond (Bg ?_)
 refine sk (bn (qn (ar rfl (qn ?_))))
 obtain rfl:=Aa h
 refine⟨(k38+1,(t16_35,closed37),(ver36,ver38)),⟨by dsimp only;omega,Ae hJ38⟩,by dsimp only;omega,?_,?_⟩
 ·exact cuw hw38
 exact cuw hw38
def Qx:Option (Bool):=
 (T4).bind fun y1=>(Ht y1 1).bind fun y2=>(Ht y1 2).bind fun y3=>(Ge y1).bind fun y4=>(bif (decide (y4≠0))then some false else(bif (decide (y2.2≠16))then some false else(bif (decide (y3.2≠16))then some false else(E5 y1 [(1:Int),2]).bind fun y5=>(Kr y5 [(1:Int),2]).bind fun y6=>(bif (!y6)then some false else(E4 (Ak.mk y1.Map y1.Lifts y1.Closures y1.Patrol y1.Surfaces y1.Packs y1.Slides y1.Bulletin y1.Missions y1.Winches y1.Groomers [(Bo.mk 1 true 0),(Bo.mk 2 true 0)] y1.Depth y1.Time)).bind fun y7=>(bif (!y7)then some false else(Dk (Ak.mk y1.Map y1.Lifts y1.Closures y1.Patrol y1.Surfaces y1.Packs y1.Slides y1.Bulletin y1.Missions y1.Winches y1.Groomers [(Bo.mk 1 true 0),(Bo.mk 2 true 0)] y1.Depth y1.Time)).bind fun y8=>(Kr y8 [(1:Int),2]).bind fun y9=>(bif (!y9)then some false else(Hs (Ak.mk y1.Map y1.Lifts [(Bn.mk 1 2 1 0)] y1.Patrol y1.Surfaces y1.Packs y1.Slides y1.Bulletin y1.Missions y1.Winches y1.Groomers [(Bo.mk 1 true 0),(Bo.mk 2 true 0)] y1.Depth y1.Time)).bind fun y10=>(E4 (Ak.mk y1.Map y1.Lifts [(Bn.mk 1 2 1 0)] y1.Patrol y1.Surfaces y1.Packs y1.Slides y1.Bulletin y1.Missions y1.Winches y1.Groomers [(Bo.mk 1 true 0),(Bo.mk 2 true 0)] y1.Depth y1.Time)).bind fun y11=>(bif y11 then some false else(Kr y10.2 [(1:Int),2]).bind fun y12=>(bif (!y12)then some false else(Dk y10.1).bind fun y13=>(bif (decide (((y13.length:Nat):Int)≠0))then some false else(C0 (Ak.mk y1.Map y1.Lifts y1.Closures (Cb.mk y1.Patrol.Bw [(Cv.mk 1 1 0)]) y1.Surfaces y1.Packs y1.Slides y1.Bulletin y1.Missions y1.Winches y1.Groomers y1.Status y1.Depth y1.Time) [(1:Int),2] 1).bind fun y14=>(bif (decide (y14=14))then (C0 (Ak.mk y1.Map y1.Lifts y1.Closures y1.Patrol y1.Surfaces y1.Packs y1.Slides y1.Bulletin y1.Missions y1.Winches y1.Groomers y1.Status 1001 y1.Time) [(1:Int),2] 1).bind fun y15=>(bif (decide (y15=5))then (C0 (Ak.mk y1.Map y1.Lifts y1.Closures y1.Patrol y1.Surfaces y1.Packs [(Bf.mk 1 [(1:Int)] [] 100 100 (-1))] y1.Bulletin y1.Missions y1.Winches y1.Groomers y1.Status y1.Depth y1.Time) [(1:Int),2] 1).bind fun y16=>(bif (decide (y16=10))then (C0 y1 [(1:Int),2] 9).bind fun y17=>(bif (decide (y17=8))then (C0 y1 [(1:Int),2] 1).bind fun y18=>some (decide (y18=0))else some false)else some false)else some false)else some false))))))))))
theorem dP {r:Bool} (h:Qx=some r):Ad Tryz.prog 10 [] (·= .bool r):=by
 refine Ad.nle (Ad.intro Tryz.func10 rfl rfl (by show _≤120;simp) ?_)
 unfold Qx at h
 refine nS (sq ?_)
 refine ar rfl (qn (sq ?_))
 refine rg rfl fun K j=>?_
 obtain⟨y1,hy1,h⟩:=Ah h
 refine Al.pure Tryz.call36 (Z1 hy1) rfl fun _ hr=>?_
 subst hr
 refine nS ?_
 refine j _ _ (qn (sq ?_))
 refine rg rfl fun K j=>?_
 obtain⟨y2,hy2,h⟩:=Ah h
 refine Al.pure Tryz.call24 (Ri y1 1 hy2) rfl fun _ hr=>?_
 subst hr
 refine nS ?_
 refine j _ _ (qn (sq ?_))
 refine rg rfl fun K j=>?_
 obtain⟨y3,hy3,h⟩:=Ah h
 refine Al.pure Tryz.call24 (Ri y1 2 hy3) rfl fun _ hr=>?_
 subst hr
 refine nS ?_
 refine j _ _ (qn (sq (sq ?_)))
 refine rg rfl fun K j=>?_
 obtain⟨y4,hy4,h⟩:=Ah h
 refine Al.pure Tryz.call12 (Xc y1 hy4) rfl fun _ hr=>?_
 subst hr
 refine nS ?_
 revert h;refine gf (fun hc h=>?_) fun hc h=>?_
 rotate_left
 ·refine j _ _ (qn ?_)
  refine AWP.cond (Ai ?_)
  refine sq (ar rfl (qn (rt (qr ?_))))
  cases h;exact en Tryz.results10
 revert h;refine gf (fun hc h=>?_) fun hc h=>?_
 rotate_left
 ·refine j _ _ (qn ?_)
  refine AWP.cond (Ai ?_)
  refine sq (ar rfl (qn (rt (qr ?_))))
  cases h;exact en Tryz.results10
 revert h;refine gf (fun hc h=>?_) fun hc h=>?_
 rotate_left
 ·refine j _ _ (qn ?_)
  refine AWP.cond (Ai ?_)
  refine sq (ar rfl (qn (rt (qr ?_))))
  cases h;exact en Tryz.results10
 obtain⟨y5,hy5,h⟩:=Ah h
 refine Al.kI Tryz.call29 (Qy y1 [(1:Int),2] hy5) (by simp +decide -implicitDefEqProofs only[go_sem]) fun _ hr=>?_
 subst hr
 refine nS ?_
 obtain⟨y6,hy6,h⟩:=Ah h
 refine Al.snap Tryz.call15 (Je y5 [(1:Int),2] hy6) (by simp +decide -implicitDefEqProofs only[go_sem]) (by rintro _ rfl;rfl) fun _ hr=>?_
 subst hr
 refine nS ?_
 refine j _ _ (qn ?_)
 revert h;refine ca rfl (fun hc h=>?_) fun hc h=>?_
 ·refine sq (ar rfl (qn (rt (qr ?_))))
  cases h;exact en Tryz.results10
 refine sk (qn (sq (ar rfl (qn (sq ?_)))))
 refine ar rfl (qn (sq (sq ?_)))
 refine rg rfl fun K j=>?_
 obtain⟨y7,hy7,h⟩:=Ah h
 refine Al.snap Tryz.call22 (Mh (Ak.mk y1.Map y1.Lifts y1.Closures y1.Patrol y1.Surfaces y1.Packs y1.Slides y1.Bulletin y1.Missions y1.Winches y1.Groomers [(Bo.mk 1 true 0),(Bo.mk 2 true 0)] y1.Depth y1.Time) hy7) (by simp +decide -implicitDefEqProofs only[go_sem]) (by rintro _ rfl;rfl) fun _ hr=>?_
 subst hr
 refine nS ?_
 revert h;refine gf (fun hc h=>?_) fun hc h=>?_
 rotate_left
 ·refine j _ _ (qn ?_)
  refine AWP.cond (Ai ?_)
  refine sq (ar rfl (qn (rt (qr ?_))))
  cases h;exact en Tryz.results10
 obtain⟨y8,hy8,h⟩:=Ah h
 refine Al.kI Tryz.call20 (Rj (Ak.mk y1.Map y1.Lifts y1.Closures y1.Patrol y1.Surfaces y1.Packs y1.Slides y1.Bulletin y1.Missions y1.Winches y1.Groomers [(Bo.mk 1 true 0),(Bo.mk 2 true 0)] y1.Depth y1.Time) hy8) (by simp +decide -implicitDefEqProofs only[go_sem]) fun _ hr=>?_
 subst hr
 refine nS ?_
 obtain⟨y9,hy9,h⟩:=Ah h
 refine Al.snap Tryz.call15 (Je y8 [(1:Int),2] hy9) (by simp +decide -implicitDefEqProofs only[go_sem]) (by rintro _ rfl;rfl) fun _ hr=>?_
 subst hr
 refine nS ?_
 refine j _ _ (qn ?_)
 revert h;refine ca rfl (fun hc h=>?_) fun hc h=>?_
 ·refine sq (ar rfl (qn (rt (qr ?_))))
  cases h;exact en Tryz.results10
 refine sk (qn (sq (ar rfl (qn (sq ?_)))))
 refine AWP.l9 ?_
 refine ALP.cut 1 (ALP.part rfl ?_);intro K j
 refine nS ?_
 refine j _ _ ?_
 refine ALP.sub (Sub.Ds 8 rfl) ?_
 refine nS ?_
 refine ALP.sub (Sub.Ds 6 rfl) ?_
 refine nS ?_
 refine ALP.last rfl ?_;intro K j
 refine nS ?_
 obtain⟨y10,hy10,h⟩:=Ah h
 refine Al.pure Tryz.call27 (Wj (Ak.mk y1.Map y1.Lifts [(Bn.mk 1 2 1 0)] y1.Patrol y1.Surfaces y1.Packs y1.Slides y1.Bulletin y1.Missions y1.Winches y1.Groomers [(Bo.mk 1 true 0),(Bo.mk 2 true 0)] y1.Depth y1.Time) hy10) rfl fun _ hr=>?_
 subst hr
 refine nS ?_
 refine j _ _ (qn (sq (sq ?_)))
 refine rg rfl fun K j=>?_
 obtain⟨y11,hy11,h⟩:=Ah h
 refine Al.pure Tryz.call22 (Mh (Ak.mk y1.Map y1.Lifts [(Bn.mk 1 2 1 0)] y1.Patrol y1.Surfaces y1.Packs y1.Slides y1.Bulletin y1.Missions y1.Winches y1.Groomers [(Bo.mk 1 true 0),(Bo.mk 2 true 0)] y1.Depth y1.Time) hy11) rfl fun _ hr=>?_
 subst hr
 refine nS ?_
 revert h;refine gf (fun hc h=>?_) fun hc h=>?_
 rotate_left
 ·refine j _ _ (qn ?_)
  refine AWP.cond (Ai ?_)
  refine sq (ar rfl (qn (rt (qr ?_))))
  cases h;exact en Tryz.results10
 obtain⟨y12,hy12,h⟩:=Ah h
 refine Al.snap Tryz.call15 (Je y10.2 [(1:Int),2] hy12) (by simp +decide -implicitDefEqProofs only[go_sem]) (by rintro _ rfl;rfl) fun _ hr=>?_
 subst hr
 refine nS ?_
 revert h;refine gf (fun hc h=>?_) fun hc h=>?_
 rotate_left
 ·refine j _ _ (qn ?_)
  refine AWP.cond (Ai ?_)
  refine sq (ar rfl (qn (rt (qr ?_))))
  cases h;exact en Tryz.results10
 obtain⟨y13,hy13,h⟩:=Ah h
 refine Al.pure Tryz.call20 (Iv y10.1 hy13) rfl fun _ hr=>?_
 subst hr
 refine nS ?_
 intro hm
 refine j _ _ (qn ?_)
 revert h;refine ca rfl (fun hc h=>?_) fun hc h=>?_
 ·refine sq (ar rfl (qn (rt (qr ?_))))
  cases h;exact en Tryz.results10
 refine sk (qn (sq (ar rfl (qn (sq ?_)))))
 refine ar rfl (qn (sq ?_))
 refine ar rfl (qn (sq ?_))
 refine ar rfl (qn (sq ?_))
 refine ar rfl (qn (sq ?_))
 refine AWP.l9 ?_
 refine ALP.cut 2 (ALP.part rfl ?_);intro K j
 refine nS ?_
 refine j _ _ ?_
 refine ALP.sub (Sub.Ds 14 rfl) ?_
 refine nS ?_
 refine ALP.last rfl ?_;intro K j
 refine nS ?_
 refine j _ _ (qn ?_)
 refine AWP.sub (Sub.denil 15 ([(Bf.mk (1:Int) [(1:Int)] [] (100:Int) (100:Int) (-1:Int))].map A5) rfl (by simp +decide -implicitDefEqProofs only[go_sem,Dr,Ac.int.injEq,Int.natCast_zero,List.replicate_zero,List.length_take,List.length_drop,Ac.own.injEq,reduceCtorEq,Int.reduceAdd,Vo,Vp,Rr,Wh,Rq,wW,Rq,Rr])) ?_
 refine nS (sq ?_)
 refine ar rfl (qn (sq ?_))
 refine rg rfl fun K j=>?_
 obtain⟨y14,hy14,h⟩:=Ah h
 refine Al.snap Tryz.call18 (Dg (Ak.mk y1.Map y1.Lifts y1.Closures (Cb.mk y1.Patrol.Bw [(Cv.mk 1 1 0)]) y1.Surfaces y1.Packs y1.Slides y1.Bulletin y1.Missions y1.Winches y1.Groomers y1.Status y1.Depth y1.Time) [(1:Int),2] 1 hy14) (by simp +decide -implicitDefEqProofs only[go_sem]) (by rintro _ rfl;rfl) fun _ hr=>?_
 subst hr
 refine nS ?_
 revert h;refine gt (fun hc h=>?_) fun hc h=>?_
 rotate_left
 ·refine j _ _ (qn (rt ?_))
  cases h;exact en Tryz.results10
 obtain⟨y15,hy15,h⟩:=Ah h
 refine Al.snap Tryz.call18 (Dg (Ak.mk y1.Map y1.Lifts y1.Closures y1.Patrol y1.Surfaces y1.Packs y1.Slides y1.Bulletin y1.Missions y1.Winches y1.Groomers y1.Status 1001 y1.Time) [(1:Int),2] 1 hy15) (by simp +decide -implicitDefEqProofs only[go_sem]) (by rintro _ rfl;rfl) fun _ hr=>?_
 subst hr
 refine nS ?_
 revert h;refine gt (fun hc h=>?_) fun hc h=>?_
 rotate_left
 ·refine j _ _ (qn (rt ?_))
  cases h;exact en Tryz.results10
 obtain⟨y16,hy16,h⟩:=Ah h
 refine Al.snap Tryz.call18 (Dg (Ak.mk y1.Map y1.Lifts y1.Closures y1.Patrol y1.Surfaces y1.Packs [(Bf.mk 1 [(1:Int)] [] 100 100 (-1))] y1.Bulletin y1.Missions y1.Winches y1.Groomers y1.Status y1.Depth y1.Time) [(1:Int),2] 1 hy16) (by simp +decide -implicitDefEqProofs only[go_sem]) (by rintro _ rfl;rfl) fun _ hr=>?_
 subst hr
 refine nS ?_
 revert h;refine gt (fun hc h=>?_) fun hc h=>?_
 ·obtain⟨y17,hy17,h⟩:=Ah h
  refine Al.snap Tryz.call18 (Dg y1 [(1:Int),2] 9 hy17) (by simp +decide -implicitDefEqProofs only[go_sem]) (by rintro _ rfl;rfl) fun _ hr=>?_
  subst hr
  refine nS ?_
  revert h;refine gt (fun hc h=>?_) fun hc h=>?_
  ·obtain⟨y18,hy18,h⟩:=Ah h
   refine Al.snap Tryz.call18 (Dg y1 [(1:Int),2] 1 hy18) (by simp +decide -implicitDefEqProofs only[go_sem]) (by rintro _ rfl;rfl) fun _ hr=>?_
   subst hr
   refine nS ?_
   refine j _ _ (qn (rt ?_))
   cases h;exact en Tryz.results10
  refine j _ _ (qn (rt ?_))
  cases h;exact en Tryz.results10
 refine j _ _ (qn (rt ?_))
 cases h;exact en Tryz.results10
def Lg (f_:Ak):Option (Bool):=
 (bif (decide (12<((f_.Map.Nodes.length:Nat):Int)))then some false else(bif (decide (12<((f_.Map.Lifts.length:Nat):Int)))then some false else(bif (decide (12<((f_.Map.Runs.length:Nat):Int)))then some false else(bif (decide (12<((f_.Map.Bases.length:Nat):Int)))then some false else(bif (decide (12<((f_.Lifts.length:Nat):Int)))then some false else(bif (decide (12<((f_.Closures.length:Nat):Int)))then some false else(bif (decide (12<((f_.Patrol.Bw.length:Nat):Int)))then some false else(bif (decide (12<((f_.Patrol.Hazards.length:Nat):Int)))then some false else(bif (decide (12<((f_.Surfaces.length:Nat):Int)))then some false else(bif (decide (12<((f_.Packs.length:Nat):Int)))then some false else(bif (decide (12<((f_.Slides.length:Nat):Int)))then some false else(bif (decide (12<((f_.Bulletin.length:Nat):Int)))then some false else(bif (decide (((f_.Missions.length:Nat):Int)≤12))then (bif (decide (((f_.Winches.length:Nat):Int)≤12))then (bif (decide (((f_.Groomers.length:Nat):Int)≤12))then some (decide (((f_.Status.length:Nat):Int)≤12))else some false)else some false)else some false)))))))))))))
theorem dN (f_:Ak) {r:Bool} (h:Lg f_=some r):Ad Tryz.prog 11 [.agg (Bv f_)] (·= .bool r):=by
 refine Ad.nle (Ad.intro Tryz.func11 rfl rfl (by show _≤99;simp) ?_)
 unfold Lg at h
 refine nS (sq ?_)
 refine ar rfl (qn (sq (sq ?_)))
 refine rg rfl fun K j=>?_
 intro hm
 revert h;refine gf (fun hc h=>?_) fun hc h=>?_
 rotate_left
 ·refine j _ _ (qn ?_)
  refine AWP.cond (Ai ?_)
  refine sq (ar rfl (qn (rt (qr ?_))))
  cases h;exact en Tryz.results11
 intro hm
 revert h;refine gf (fun hc h=>?_) fun hc h=>?_
 rotate_left
 ·refine j _ _ (qn ?_)
  refine AWP.cond (Ai ?_)
  refine sq (ar rfl (qn (rt (qr ?_))))
  cases h;exact en Tryz.results11
 intro hm
 revert h;refine gf (fun hc h=>?_) fun hc h=>?_
 rotate_left
 ·refine j _ _ (qn ?_)
  refine AWP.cond (Ai ?_)
  refine sq (ar rfl (qn (rt (qr ?_))))
  cases h;exact en Tryz.results11
 intro hm
 revert h;refine gf (fun hc h=>?_) fun hc h=>?_
 rotate_left
 ·refine j _ _ (qn ?_)
  refine AWP.cond (Ai ?_)
  refine sq (ar rfl (qn (rt (qr ?_))))
  cases h;exact en Tryz.results11
 intro hm
 revert h;refine gf (fun hc h=>?_) fun hc h=>?_
 rotate_left
 ·refine j _ _ (qn ?_)
  refine AWP.cond (Ai ?_)
  refine sq (ar rfl (qn (rt (qr ?_))))
  cases h;exact en Tryz.results11
 intro hm
 refine j _ _ (qn ?_)
 revert h;refine ca rfl (fun hc h=>?_) fun hc h=>?_
 ·refine sq (ar rfl (qn (rt (qr ?_))))
  cases h;exact en Tryz.results11
 refine sk (qn (sq (sq ?_)))
 refine rg rfl fun K j=>?_
 intro hm
 revert h;refine gf (fun hc h=>?_) fun hc h=>?_
 rotate_left
 ·refine j _ _ (qn ?_)
  refine AWP.cond (Ai ?_)
  refine sq (ar rfl (qn (rt (qr ?_))))
  cases h;exact en Tryz.results11
 intro hm
 revert h;refine gf (fun hc h=>?_) fun hc h=>?_
 rotate_left
 ·refine j _ _ (qn ?_)
  refine AWP.cond (Ai ?_)
  refine sq (ar rfl (qn (rt (qr ?_))))
  cases h;exact en Tryz.results11
 intro hm
 revert h;refine gf (fun hc h=>?_) fun hc h=>?_
 rotate_left
 ·refine j _ _ (qn ?_)
  refine AWP.cond (Ai ?_)
  refine sq (ar rfl (qn (rt (qr ?_))))
  cases h;exact en Tryz.results11
 intro hm
 revert h;refine gf (fun hc h=>?_) fun hc h=>?_
 rotate_left
 ·refine j _ _ (qn ?_)
  refine AWP.cond (Ai ?_)
  refine sq (ar rfl (qn (rt (qr ?_))))
  cases h;exact en Tryz.results11
 intro hm
 revert h;refine gf (fun hc h=>?_) fun hc h=>?_
 rotate_left
 ·refine j _ _ (qn ?_)
  refine AWP.cond (Ai ?_)
  refine sq (ar rfl (qn (rt (qr ?_))))
  cases h;exact en Tryz.results11
 intro hm
 refine j _ _ (qn ?_)
 revert h;refine ca rfl (fun hc h=>?_) fun hc h=>?_
 ·refine sq (ar rfl (qn (rt (qr ?_))))
  cases h;exact en Tryz.results11
 refine sk (qn (sq ?_))
 refine rg rfl fun K j=>?_
 intro hm
 revert h;refine gt (fun hc h=>?_) fun hc h=>?_
 ·intro hm
  revert h;refine gt (fun hc h=>?_) fun hc h=>?_
  ·intro hm
   revert h;refine gt (fun hc h=>?_) fun hc h=>?_
   ·intro hm
    refine j _ _ (qn (rt ?_))
    cases h;exact en Tryz.results11
   refine j _ _ (qn (rt ?_))
   cases h;exact en Tryz.results11
  refine j _ _ (qn (rt ?_))
  cases h;exact en Tryz.results11
 refine j _ _ (qn (rt ?_))
 cases h;exact en Tryz.results11
def E2 (n_:Int) (lo:Int) (hi:Int):Option (Bool):=
 (bif (decide (lo≤n_))then some (decide (n_≤hi))else some false)
theorem Dd (n_:Int) (lo:Int) (hi:Int) {r:Bool} (h:E2 n_ lo hi=some r):Ad Tryz.prog 254 [.int .i64 n_,.int .i64 lo,.int .i64 hi] (·= .bool r):=by
 refine Ad.nle (Ad.intro Tryz.func254 rfl rfl (by show _≤15;simp) ?_)
 unfold E2 at h
 refine nS (sq ?_)
 refine ar rfl (qn (sq ?_))
 refine rg rfl fun K j=>?_
 revert h;refine gt (fun hc h=>?_) fun hc h=>?_
 ·refine j _ _ (qn (rt ?_))
  cases h;exact en Tryz.results254
 refine j _ _ (qn (rt ?_))
 cases h;exact en Tryz.results254
def Sf (l:List Cl) (k0:Nat) (x_2:Cl) (sv:Unit):Option (Out (Unit) (Int)):=
 (E2 x_2.ID 1 9999).bind fun y3=>(bif (!y3)then some (Out.ret 2)else (E2 x_2.Alt 0 5000).bind fun y4=>(bif (!y4)then some (Out.ret 2)else (bif (decide (0<((k0:Nat):Int)))then (Dl l (IntKind.i64.wrap (((k0:Nat):Int) - 1))).bind fun x_5=>(bif (decide (x_2.ID≤x_5.ID))then some (Out.ret 7)else some (Out.next ()))else some (Out.next ()))))
def Te (l:List Cl):Option (Int):=
 (Am (Sf l) 0 l ()).bind fun o0=>o0.on fun s0=>some 0
theorem dG (l:List Cl) {r:Int} (h:Te l=some r):Ad Tryz.prog 177 [.sl 2 (l.map A9)] (·= .int .i64 r):=by
 refine Ad.nle (Ad.intro Tryz.func177 rfl rfl (by show _≤42;simp) ?_)
 unfold Te at h
 refine nS (sq ?_)
 refine ar rfl (qn (sq (sq ?_)))
 refine ar rfl (qn (bk ?_))
 obtain⟨o0,hJ0,hO0⟩:=Ah h
 clear h
 refine AWP.Br (ι:=Nat×(Unit)×(Unit)) (fun zz=>[(0,.sl 2 (l.map A9)),(3,.int .i64 ((zz.1:Nat):Int))]) (fun zz=>[]) (fun zz=>zz.1≤l.length∧Am (Sf l) zz.1 ((l).drop zz.1) zz.2.1=some o0) (fun zz=>l.length - zz.1) (0,(),()) ⟨Nat.zero_le _,hJ0⟩ cu cu (fun x=>⟨rfl,rfl,rfl⟩) ?_
 clear hJ0
 rintro⟨k0,⟨⟩,⟨⟩⟩ ⟨hk0,hJ0⟩
 dsimp only at hk0 hJ0 ⊢
 refine sq (sq ?_)
 refine rg rfl fun K j=>?_
 intro hm
 refine j _ _ (qn ?_)
 refine AWP.cond (Aj (fun hc=>?_) (fun hc=>?_))
 rotate_left
 ·obtain rfl:=Bc hJ0 (fun hl=>by have:=Ajo hc;omega)
  have h:=Bb hO0;try dsimp only at h
  have hkl:l.length=k0:=by have:=Ajo hc;omega
  subst hkl
  refine xt (qe (qe (bs (qn (sq (ar rfl (qn (rt ?_))))))))
  cases h;exact en Tryz.results177
 have hlt0:k0<l.length:=by have:=Ajp hc;omega
 obtain⟨x_2,b0,hx0_,h,hJ0⟩:=A1 hJ0 hlt0
 have hx0:=Ay hx0_
 have hw0:=wk (k:=k0) (by omega)
 unfold Sf at h;try dsimp only at h
 refine sk (qn (sq (bk (sq (sq ?_)))))
 refine rg rfl fun K j=>?_
 refine Bk.of (f:=A9) (l:=l) hx0 ?_
 refine nS ?_
 obtain⟨y3,hy3,h⟩:=Ah h
 refine Al.pure Tryz.call254 (Dd x_2.ID 1 9999 hy3) rfl fun _ hr=>?_
 subst hr
 refine nS ?_
 revert h;refine gf (fun hc h=>?_) fun hc h=>?_
 rotate_left
 ·refine j _ _ (qn ?_)
  refine AWP.cond (Ai ?_)
  refine sq (ar rfl (qn (rt (qr (br (qr (qr ?_)))))))
  obtain rfl:=Aa h
  obtain rfl:=Af hJ0
  replace h:=An hO0
  refine br (qr ?_)
  cases h;exact en Tryz.results177
 refine Bk.of (f:=A9) (l:=l) hx0 ?_
 refine nS ?_
 obtain⟨y4,hy4,h⟩:=Ah h
 refine Al.pure Tryz.call254 (Dd x_2.Alt 0 5000 hy4) rfl fun _ hr=>?_
 subst hr
 refine nS ?_
 refine j _ _ (qn ?_)
 revert h;refine ca rfl (fun hc h=>?_) fun hc h=>?_
 ·refine sq (ar rfl (qn (rt (qr (br (qr (qr ?_)))))))
  obtain rfl:=Aa h
  obtain rfl:=Af hJ0
  replace h:=An hO0
  refine br (qr ?_)
  cases h;exact en Tryz.results177
 refine sk (qn (sq ?_))
 refine AWP.draw Tryz.mixed (by kernel_rfl) ?_;intro K j
 refine nS ?_
 revert h;refine gt (fun hc h=>?_) fun hc h=>?_
 ·refine Bk.of (f:=A9) (l:=l) hx0 ?_
  refine nS ?_
  obtain⟨x_5,hx_5,h⟩:=Ah h
  refine Bk.of (f:=A9) (l:=l) hx_5 ?_
  refine nS ?_
  refine j _ _ _ (by kernel_rfl) ?_
  refine qn ?_
  revert h;refine ca rfl (fun hc h=>?_) fun hc h=>?_
  ·refine sq (ar rfl (qn (rt (br (qr (qr ?_))))))
   obtain rfl:=Aa h
   obtain rfl:=Af hJ0
   replace h:=An hO0
   refine br (qr ?_)
   cases h;exact en Tryz.results177
  refine sk (bn (qn (ar rfl (qn ?_))))
  obtain rfl:=Aa h
  refine⟨(k0+1,(),()),⟨by dsimp only;omega,Ae hJ0⟩,by dsimp only;omega,?_,?_⟩
  ·exact cuw hw0
  exact cuw hw0
 refine j _ _ _ (by kernel_rfl) ?_
 refine qn ?_
 refine AWP.cond (Bg ?_)
 refine sk (bn (qn (ar rfl (qn ?_))))
 obtain rfl:=Aa h
 refine⟨(k0+1,(),()),⟨by dsimp only;omega,Ae hJ0⟩,by dsimp only;omega,?_,?_⟩
 ·exact cuw hw0
 exact cuw hw0
def T0 (id_:Int) (k0:Nat) (x_2:Cl) (sv:Unit):Option (Out (Unit) (Cl×Bool)):=
 (bif (decide (x_2.ID=id_))then some (Out.ret (x_2,true))else some (Out.next ()))
def Ee (m:Bd) (id_:Int):Option (Cl×Bool):=
 (Am (T0 id_) 0 m.Nodes ()).bind fun o0=>o0.on fun s0=>some ((Cl.mk 0 0),false)
theorem M6 (m:Bd) (id_:Int) {r:Cl×Bool} (h:Ee m id_=some r):Ad Tryz.prog 98 [.agg (Ca m),.int .i64 id_] (·= .tuple [.agg (A9 r.1),.bool r.2]):=by
 refine Ad.nle (Ad.intro Tryz.func98 rfl rfl (by show _≤28;simp) ?_)
 unfold Ee at h
 refine nS (sq ?_)
 refine ar rfl (qn (sq (sq ?_)))
 refine ar rfl (qn (bk ?_))
 obtain⟨o0,hJ0,hO0⟩:=Ah h
 clear h
 refine AWP.Br (ι:=Nat×(Unit)×(Unit)) (fun zz=>[(1,.int .i64 id_),(2,.ptr 0 0),(4,.ptr 1 0),(6,.int .i64 ((zz.1:Nat):Int))]) (fun zz=>[.box [.sl 2 (m.Nodes.map A9),.sl 8 (m.Lifts.map A7),.sl 7 (m.Runs.map Be),.sl 1 (m.Bases.map Aw)],.box [.int .i64 0,.int .i64 0]]) (fun zz=>zz.1≤m.Nodes.length∧Am (T0 id_) zz.1 ((m.Nodes).drop zz.1) zz.2.1=some o0) (fun zz=>m.Nodes.length - zz.1) (0,(),()) ⟨Nat.zero_le _,hJ0⟩ cu cu (fun x=>⟨rfl,rfl,rfl⟩) ?_
 clear hJ0
 rintro⟨k0,⟨⟩,⟨⟩⟩ ⟨hk0,hJ0⟩
 dsimp only at hk0 hJ0 ⊢
 refine sq (sq ?_)
 refine rg rfl fun K j=>?_
 intro hm
 refine j _ _ (qn ?_)
 refine AWP.cond (Aj (fun hc=>?_) (fun hc=>?_))
 rotate_left
 ·obtain rfl:=Bc hJ0 (fun hl=>by have:=Ajo hc;omega)
  have h:=Bb hO0;try dsimp only at h
  have hkl:m.Nodes.length=k0:=by have:=Ajo hc;omega
  subst hkl
  refine xt (qe (qe (bs (qn (sq (ar rfl (qn (rt ?_))))))))
  cases h;exact en Tryz.results98
 have hlt0:k0<m.Nodes.length:=by have:=Ajp hc;omega
 obtain⟨x_2,b0,hx0_,h,hJ0⟩:=A1 hJ0 hlt0
 have hx0:=Ay hx0_
 have hw0:=wk (k:=k0) (by omega)
 unfold T0 at h;try dsimp only at h
 refine sk (qn (sq (bk (sq ?_))))
 refine rg rfl fun K j=>?_
 refine Bk.of (f:=A9) (l:=m.Nodes) hx0 ?_
 refine nS ?_
 refine j _ _ (qn ?_)
 revert h;refine ca rfl (fun hc h=>?_) fun hc h=>?_
 ·refine sq ?_
  refine rg rfl fun K j=>?_
  refine Bk.of (f:=A9) (l:=m.Nodes) hx0 ?_
  refine nS ?_
  refine j _ _ (qn (rt (br (qr (qr ?_)))))
  obtain rfl:=Aa h
  obtain rfl:=Af hJ0
  replace h:=An hO0
  refine br (qr ?_)
  cases h;exact en Tryz.results98
 refine sk (bn (qn (ar rfl (qn ?_))))
 obtain rfl:=Aa h
 refine⟨(k0+1,(),()),⟨by dsimp only;omega,Ae hJ0⟩,by dsimp only;omega,?_,?_⟩
 ·exact cuw hw0
 exact cuw hw0
def Gk (m:Bd) (from_:Int) (to_:Int):Option (Int):=
 (Ee m from_).bind fun y1=>(Ee m to_).bind fun y2=>(bif (!y1.2)then some 8 else(bif (!y2.2)then some 8 else(bif (decide (y2.1.Alt≤y1.1.Alt))then some 11 else some 0)))
theorem Ly (m:Bd) (from_:Int) (to_:Int) {r:Int} (h:Gk m from_ to_=some r):Ad Tryz.prog 255 [.agg (Ca m),.int .i64 from_,.int .i64 to_] (·= .int .i64 r):=by
 refine Ad.nle (Ad.intro Tryz.func255 rfl rfl (by show _≤34;simp) ?_)
 unfold Gk at h
 refine nS (sq ?_)
 refine ar rfl (qn (sq ?_))
 refine rg rfl fun K j=>?_
 obtain⟨y1,hy1,h⟩:=Ah h
 refine Al.pure Tryz.call98 (M6 m from_ hy1) rfl fun _ hr=>?_
 subst hr
 refine nS ?_
 refine j _ _ (qn (sq ?_))
 refine rg rfl fun K j=>?_
 obtain⟨y2,hy2,h⟩:=Ah h
 refine Al.pure Tryz.call98 (M6 m to_ hy2) rfl fun _ hr=>?_
 subst hr
 refine nS ?_
 refine j _ _ (qn (sq (sq ?_)))
 refine rg rfl fun K j=>?_
 revert h;refine gf (fun hc h=>?_) fun hc h=>?_
 ·refine j _ _ (qn ?_)
  revert h;refine ca rfl (fun hc h=>?_) fun hc h=>?_
  ·refine sq (ar rfl (qn (rt (qr ?_))))
   cases h;exact en Tryz.results255
  refine sk (qn (sq (sq (ar rfl (qn ?_)))))
  revert h;refine ca rfl (fun hc h=>?_) fun hc h=>?_
  ·refine sq (ar rfl (qn (rt (qr ?_))))
   cases h;exact en Tryz.results255
  refine sk (qn (sq (ar rfl (qn (rt ?_)))))
  cases h;exact en Tryz.results255
 refine j _ _ (qn ?_)
 refine AWP.cond (Ai ?_)
 refine sq (ar rfl (qn (rt (qr ?_))))
 cases h;exact en Tryz.results255
def Hq (x_:Ce):Option (Bool):=
 nz x_.Spacing ((bif (decide ((Int.tmod (IntKind.i64.wrap (2*x_.Length)) x_.Spacing)=0))then nz x_.Spacing ((E2 (IntKind.i64.wrap (Int.tdiv (IntKind.i64.wrap (2*x_.Length)) x_.Spacing)) 1 200).bind fun y1=>some y1)else some false))
theorem Rh (x_:Ce) {r:Bool} (h:Hq x_=some r):Ad Tryz.prog 256 [.agg (A7 x_)] (·= .bool r):=by
 refine Ad.nle (Ad.intro Tryz.func256 rfl rfl (by show _≤19;simp) ?_)
 unfold Hq at h
 refine nS (sq ?_)
 refine ar rfl (qn (sq ?_))
 refine rg rfl fun K j=>?_
 obtain⟨hk,h⟩:=kS h
 refine⟨hk,?_⟩
 revert h;refine gt (fun hc h=>?_) fun hc h=>?_
 ·obtain⟨hk,h⟩:=kS h
  refine⟨hk,?_⟩
  obtain⟨y1,hy1,h⟩:=Ah h
  refine Al.pure Tryz.call254 (Dd (IntKind.i64.wrap (Int.tdiv (IntKind.i64.wrap (2*x_.Length)) x_.Spacing)) 1 200 hy1) rfl fun _ hr=>?_
  subst hr
  refine nS ?_
  refine j _ _ (qn (rt ?_))
  cases h;exact en Tryz.results256
 refine j _ _ (qn (rt ?_))
 cases h;exact en Tryz.results256
def K8 (m:Bd) (k0:Nat) (x_2:Ce) (sv:Unit):Option (Out (Unit) (Int)):=
 (E2 x_2.ID 1 9999).bind fun y3=>(bif (!y3)then some (Out.ret 2)else (E2 x_2.Operator 1 8).bind fun y4=>(bif (!y4)then some (Out.ret 2)else (E2 x_2.Length 10 6000).bind fun y5=>(bif (!y5)then some (Out.ret 2)else (E2 x_2.Speed 500 12000).bind fun y6=>(bif (!y6)then some (Out.ret 2)else (E2 x_2.Seats 1 16).bind fun y7=>(bif (!y7)then some (Out.ret 2)else (E2 x_2.Spacing 5 1000).bind fun y8=>(bif (!y8)then some (Out.ret 2)else (bif (decide (0<((k0:Nat):Int)))then (Dl m.Lifts (IntKind.i64.wrap (((k0:Nat):Int) - 1))).bind fun x_9=>(bif (decide (x_2.ID≤x_9.ID))then some (Out.ret 7)else (Gk m x_2.From x_2.To).bind fun y10=>(bif (decide (y10≠0))then some (Out.ret y10)else (Hq x_2).bind fun y11=>(bif (!y11)then some (Out.ret 1)else some (Out.next ()))))else (Gk m x_2.From x_2.To).bind fun y12=>(bif (decide (y12≠0))then some (Out.ret y12)else (Hq x_2).bind fun y13=>(bif (!y13)then some (Out.ret 1)else some (Out.next ()))))))))))
def Qu (m:Bd):Option (Int):=
 (Am (K8 m) 0 m.Lifts ()).bind fun o0=>o0.on fun s0=>some 0
theorem dH (m:Bd) {r:Int} (h:Qu m=some r):Ad Tryz.prog 178 [.agg (Ca m)] (·= .int .i64 r):=by
 refine Ad.nle (Ad.intro Tryz.func178 rfl rfl (by show _≤78;simp) ?_)
 unfold Qu at h
 refine nS (sq ?_)
 refine ar rfl (qn (sq (sq ?_)))
 refine ar rfl (qn (bk ?_))
 obtain⟨o0,hJ0,hO0⟩:=Ah h
 clear h
 refine AWP.Br (ι:=Nat×(Unit)×(Unit)) (fun zz=>[(1,.ptr 0 0),(3,.int .i64 ((zz.1:Nat):Int))]) (fun zz=>[.box [.sl 2 (m.Nodes.map A9),.sl 8 (m.Lifts.map A7),.sl 7 (m.Runs.map Be),.sl 1 (m.Bases.map Aw)]]) (fun zz=>zz.1≤m.Lifts.length∧Am (K8 m) zz.1 ((m.Lifts).drop zz.1) zz.2.1=some o0) (fun zz=>m.Lifts.length - zz.1) (0,(),()) ⟨Nat.zero_le _,hJ0⟩ cu cu (fun x=>⟨rfl,rfl,rfl⟩) ?_
 clear hJ0
 rintro⟨k0,⟨⟩,⟨⟩⟩ ⟨hk0,hJ0⟩
 dsimp only at hk0 hJ0 ⊢
 refine sq (sq ?_)
 refine rg rfl fun K j=>?_
 intro hm
 refine j _ _ (qn ?_)
 refine AWP.cond (Aj (fun hc=>?_) (fun hc=>?_))
 rotate_left
 ·obtain rfl:=Bc hJ0 (fun hl=>by have:=Ajo hc;omega)
  have h:=Bb hO0;try dsimp only at h
  have hkl:m.Lifts.length=k0:=by have:=Ajo hc;omega
  subst hkl
  refine xt (qe (qe (bs (qn (sq (ar rfl (qn (rt ?_))))))))
  cases h;exact en Tryz.results178
 have hlt0:k0<m.Lifts.length:=by have:=Ajp hc;omega
 obtain⟨x_2,b0,hx0_,h,hJ0⟩:=A1 hJ0 hlt0
 have hx0:=Ay hx0_
 have hw0:=wk (k:=k0) (by omega)
 unfold K8 at h;try dsimp only at h
 refine sk (qn (sq (bk (sq ?_))))
 refine rg rfl fun K j=>?_
 refine Bk.of (f:=A7) (l:=m.Lifts) hx0 ?_
 refine nS ?_
 refine j _ _ (qn (sq (sq ?_)))
 refine rg rfl fun K j=>?_
 obtain⟨y3,hy3,h⟩:=Ah h
 refine Al.pure Tryz.call254 (Dd x_2.ID 1 9999 hy3) rfl fun _ hr=>?_
 subst hr
 refine nS ?_
 revert h;refine gf (fun hc h=>?_) fun hc h=>?_
 rotate_left
 ·refine j _ _ (qn ?_)
  refine AWP.cond (Ai ?_)
  refine sq (ar rfl (qn (rt (qr (br (qr (qr ?_)))))))
  obtain rfl:=Aa h
  obtain rfl:=Af hJ0
  replace h:=An hO0
  refine br (qr ?_)
  cases h;exact en Tryz.results178
 obtain⟨y4,hy4,h⟩:=Ah h
 refine Al.pure Tryz.call254 (Dd x_2.Operator 1 8 hy4) rfl fun _ hr=>?_
 subst hr
 refine nS ?_
 revert h;refine gf (fun hc h=>?_) fun hc h=>?_
 rotate_left
 ·refine j _ _ (qn ?_)
  refine AWP.cond (Ai ?_)
  refine sq (ar rfl (qn (rt (qr (br (qr (qr ?_)))))))
  obtain rfl:=Aa h
  obtain rfl:=Af hJ0
  replace h:=An hO0
  refine br (qr ?_)
  cases h;exact en Tryz.results178
 obtain⟨y5,hy5,h⟩:=Ah h
 refine Al.pure Tryz.call254 (Dd x_2.Length 10 6000 hy5) rfl fun _ hr=>?_
 subst hr
 refine nS ?_
 revert h;refine gf (fun hc h=>?_) fun hc h=>?_
 rotate_left
 ·refine j _ _ (qn ?_)
  refine AWP.cond (Ai ?_)
  refine sq (ar rfl (qn (rt (qr (br (qr (qr ?_)))))))
  obtain rfl:=Aa h
  obtain rfl:=Af hJ0
  replace h:=An hO0
  refine br (qr ?_)
  cases h;exact en Tryz.results178
 obtain⟨y6,hy6,h⟩:=Ah h
 refine Al.pure Tryz.call254 (Dd x_2.Speed 500 12000 hy6) rfl fun _ hr=>?_
 subst hr
 refine nS ?_
 revert h;refine gf (fun hc h=>?_) fun hc h=>?_
 rotate_left
 ·refine j _ _ (qn ?_)
  refine AWP.cond (Ai ?_)
  refine sq (ar rfl (qn (rt (qr (br (qr (qr ?_)))))))
  obtain rfl:=Aa h
  obtain rfl:=Af hJ0
  replace h:=An hO0
  refine br (qr ?_)
  cases h;exact en Tryz.results178
 obtain⟨y7,hy7,h⟩:=Ah h
 refine Al.pure Tryz.call254 (Dd x_2.Seats 1 16 hy7) rfl fun _ hr=>?_
 subst hr
 refine nS ?_
 revert h;refine gf (fun hc h=>?_) fun hc h=>?_
 rotate_left
 ·refine j _ _ (qn ?_)
  refine AWP.cond (Ai ?_)
  refine sq (ar rfl (qn (rt (qr (br (qr (qr ?_)))))))
  obtain rfl:=Aa h
  obtain rfl:=Af hJ0
  replace h:=An hO0
  refine br (qr ?_)
  cases h;exact en Tryz.results178
 obtain⟨y8,hy8,h⟩:=Ah h
 refine Al.pure Tryz.call254 (Dd x_2.Spacing 5 1000 hy8) rfl fun _ hr=>?_
 subst hr
 refine nS ?_
 refine j _ _ (qn ?_)
 revert h;refine ca rfl (fun hc h=>?_) fun hc h=>?_
 ·refine sq (ar rfl (qn (rt (qr (br (qr (qr ?_)))))))
  obtain rfl:=Aa h
  obtain rfl:=Af hJ0
  replace h:=An hO0
  refine br (qr ?_)
  cases h;exact en Tryz.results178
 refine sk (qn (sq (sq ?_)))
 refine AWP.draw Tryz.mixed (by kernel_rfl) ?_;intro K j
 refine nS ?_
 revert h;refine gt (fun hc h=>?_) fun hc h=>?_
 ·obtain⟨x_9,hx_9,h⟩:=Ah h
  refine Bk.of (f:=A7) (l:=m.Lifts) hx_9 ?_
  refine nS ?_
  refine j _ _ _ (by kernel_rfl) ?_
  refine qn ?_
  revert h;refine ca rfl (fun hc h=>?_) fun hc h=>?_
  ·refine sq (ar rfl (qn (rt (qr (br (qr (qr ?_)))))))
   obtain rfl:=Aa h
   obtain rfl:=Af hJ0
   replace h:=An hO0
   refine br (qr ?_)
   cases h;exact en Tryz.results178
  refine sk (qn (sq (sq ?_)))
  refine rg rfl fun K j=>?_
  obtain⟨y10,hy10,h⟩:=Ah h
  refine Al.pure Tryz.call255 (Ly m x_2.From x_2.To hy10) rfl fun _ hr=>?_
  subst hr
  refine nS ?_
  refine j _ _ (qn (sq ?_))
  refine ar rfl (qn ?_)
  revert h;refine ca rfl (fun hc h=>?_) fun hc h=>?_
  ·refine sq (ar rfl (qn (rt (qr (br (qr (qr ?_)))))))
   obtain rfl:=Aa h
   obtain rfl:=Af hJ0
   replace h:=An hO0
   refine br (qr ?_)
   cases h;exact en Tryz.results178
  refine sk (qn (sq ?_))
  refine rg rfl fun K j=>?_
  obtain⟨y11,hy11,h⟩:=Ah h
  refine Al.pure Tryz.call256 (Rh x_2 hy11) rfl fun _ hr=>?_
  subst hr
  refine nS ?_
  refine j _ _ (qn ?_)
  revert h;refine ca rfl (fun hc h=>?_) fun hc h=>?_
  ·refine sq (ar rfl (qn (rt (br (qr (qr ?_))))))
   obtain rfl:=Aa h
   obtain rfl:=Af hJ0
   replace h:=An hO0
   refine br (qr ?_)
   cases h;exact en Tryz.results178
  refine sk (bn (qn (ar rfl (qn ?_))))
  obtain rfl:=Aa h
  refine⟨(k0+1,(),()),⟨by dsimp only;omega,Ae hJ0⟩,by dsimp only;omega,?_,?_⟩
  ·exact cuw hw0
  exact cuw hw0
 refine j _ _ _ (by kernel_rfl) ?_
 refine qn ?_
 refine AWP.cond (Bg ?_)
 refine sk (qn (sq (sq ?_)))
 refine rg rfl fun K j=>?_
 obtain⟨y12,hy12,h⟩:=Ah h
 refine Al.pure Tryz.call255 (Ly m x_2.From x_2.To hy12) rfl fun _ hr=>?_
 subst hr
 refine nS ?_
 refine j _ _ (qn (sq ?_))
 refine ar rfl (qn ?_)
 revert h;refine ca rfl (fun hc h=>?_) fun hc h=>?_
 ·refine sq (ar rfl (qn (rt (qr (br (qr (qr ?_)))))))
  obtain rfl:=Aa h
  obtain rfl:=Af hJ0
  replace h:=An hO0
  refine br (qr ?_)
  cases h;exact en Tryz.results178
 refine sk (qn (sq ?_))
 refine rg rfl fun K j=>?_
 obtain⟨y13,hy13,h⟩:=Ah h
 refine Al.pure Tryz.call256 (Rh x_2 hy13) rfl fun _ hr=>?_
 subst hr
 refine nS ?_
 refine j _ _ (qn ?_)
 revert h;refine ca rfl (fun hc h=>?_) fun hc h=>?_
 ·refine sq (ar rfl (qn (rt (br (qr (qr ?_))))))
  obtain rfl:=Aa h
  obtain rfl:=Af hJ0
  replace h:=An hO0
  refine br (qr ?_)
  cases h;exact en Tryz.results178
 refine sk (bn (qn (ar rfl (qn ?_))))
 obtain rfl:=Aa h
 refine⟨(k0+1,(),()),⟨by dsimp only;omega,Ae hJ0⟩,by dsimp only;omega,?_,?_⟩
 ·exact cuw hw0
 exact cuw hw0
def Mv (m:Bd) (k0:Nat) (x_2:Cf) (sv:Unit):Option (Out (Unit) (Int)):=
 (E2 x_2.ID 1 9999).bind fun y3=>(bif (!y3)then some (Out.ret 2)else (E2 x_2.Operator 1 8).bind fun y4=>(bif (!y4)then some (Out.ret 2)else (E2 x_2.Grade 1 4).bind fun y5=>(bif (!y5)then some (Out.ret 2)else (E2 x_2.Zone 1 32).bind fun y6=>(bif (!y6)then some (Out.ret 2)else (E2 x_2.Length 10 20000).bind fun y7=>(bif (!y7)then some (Out.ret 2)else (bif (decide (0<((k0:Nat):Int)))then (Dl m.Runs (IntKind.i64.wrap (((k0:Nat):Int) - 1))).bind fun x_8=>(bif (decide (x_2.ID≤x_8.ID))then some (Out.ret 7)else (Gk m x_2.To x_2.From).bind fun y9=>(bif (decide (y9≠0))then some (Out.ret y9)else some (Out.next ())))else (Gk m x_2.To x_2.From).bind fun y10=>(bif (decide (y10≠0))then some (Out.ret y10)else some (Out.next ()))))))))
def Se (m:Bd):Option (Int):=
 (Am (Mv m) 0 m.Runs ()).bind fun o0=>o0.on fun s0=>some 0
theorem fU (m:Bd) {r:Int} (h:Se m=some r):Ad Tryz.prog 179 [.agg (Ca m)] (·= .int .i64 r):=by
 refine Ad.nle (Ad.intro Tryz.func179 rfl rfl (by show _≤69;simp) ?_)
 unfold Se at h
 refine nS (sq ?_)
 refine ar rfl (qn (sq (sq ?_)))
 refine ar rfl (qn (bk ?_))
 obtain⟨o0,hJ0,hO0⟩:=Ah h
 clear h
 refine AWP.Br (ι:=Nat×(Unit)×(Unit)) (fun zz=>[(1,.ptr 0 0),(3,.int .i64 ((zz.1:Nat):Int))]) (fun zz=>[.box [.sl 2 (m.Nodes.map A9),.sl 8 (m.Lifts.map A7),.sl 7 (m.Runs.map Be),.sl 1 (m.Bases.map Aw)]]) (fun zz=>zz.1≤m.Runs.length∧Am (Mv m) zz.1 ((m.Runs).drop zz.1) zz.2.1=some o0) (fun zz=>m.Runs.length - zz.1) (0,(),()) ⟨Nat.zero_le _,hJ0⟩ cu cu (fun x=>⟨rfl,rfl,rfl⟩) ?_
 clear hJ0
 rintro⟨k0,⟨⟩,⟨⟩⟩ ⟨hk0,hJ0⟩
 dsimp only at hk0 hJ0 ⊢
 refine sq (sq ?_)
 refine rg rfl fun K j=>?_
 intro hm
 refine j _ _ (qn ?_)
 refine AWP.cond (Aj (fun hc=>?_) (fun hc=>?_))
 rotate_left
 ·obtain rfl:=Bc hJ0 (fun hl=>by have:=Ajo hc;omega)
  have h:=Bb hO0;try dsimp only at h
  have hkl:m.Runs.length=k0:=by have:=Ajo hc;omega
  subst hkl
  refine xt (qe (qe (bs (qn (sq (ar rfl (qn (rt ?_))))))))
  cases h;exact en Tryz.results179
 have hlt0:k0<m.Runs.length:=by have:=Ajp hc;omega
 obtain⟨x_2,b0,hx0_,h,hJ0⟩:=A1 hJ0 hlt0
 have hx0:=Ay hx0_
 have hw0:=wk (k:=k0) (by omega)
 unfold Mv at h;try dsimp only at h
 refine sk (qn (sq (bk (sq ?_))))
 refine rg rfl fun K j=>?_
 refine Bk.of (f:=Be) (l:=m.Runs) hx0 ?_
 refine nS ?_
 refine j _ _ (qn (sq (sq ?_)))
 refine rg rfl fun K j=>?_
 obtain⟨y3,hy3,h⟩:=Ah h
 refine Al.pure Tryz.call254 (Dd x_2.ID 1 9999 hy3) rfl fun _ hr=>?_
 subst hr
 refine nS ?_
 revert h;refine gf (fun hc h=>?_) fun hc h=>?_
 rotate_left
 ·refine j _ _ (qn ?_)
  refine AWP.cond (Ai ?_)
  refine sq (ar rfl (qn (rt (qr (br (qr (qr ?_)))))))
  obtain rfl:=Aa h
  obtain rfl:=Af hJ0
  replace h:=An hO0
  refine br (qr ?_)
  cases h;exact en Tryz.results179
 obtain⟨y4,hy4,h⟩:=Ah h
 refine Al.pure Tryz.call254 (Dd x_2.Operator 1 8 hy4) rfl fun _ hr=>?_
 subst hr
 refine nS ?_
 revert h;refine gf (fun hc h=>?_) fun hc h=>?_
 rotate_left
 ·refine j _ _ (qn ?_)
  refine AWP.cond (Ai ?_)
  refine sq (ar rfl (qn (rt (qr (br (qr (qr ?_)))))))
  obtain rfl:=Aa h
  obtain rfl:=Af hJ0
  replace h:=An hO0
  refine br (qr ?_)
  cases h;exact en Tryz.results179
 obtain⟨y5,hy5,h⟩:=Ah h
 refine Al.pure Tryz.call254 (Dd x_2.Grade 1 4 hy5) rfl fun _ hr=>?_
 subst hr
 refine nS ?_
 revert h;refine gf (fun hc h=>?_) fun hc h=>?_
 rotate_left
 ·refine j _ _ (qn ?_)
  refine AWP.cond (Ai ?_)
  refine sq (ar rfl (qn (rt (qr (br (qr (qr ?_)))))))
  obtain rfl:=Aa h
  obtain rfl:=Af hJ0
  replace h:=An hO0
  refine br (qr ?_)
  cases h;exact en Tryz.results179
 obtain⟨y6,hy6,h⟩:=Ah h
 refine Al.pure Tryz.call254 (Dd x_2.Zone 1 32 hy6) rfl fun _ hr=>?_
 subst hr
 refine nS ?_
 revert h;refine gf (fun hc h=>?_) fun hc h=>?_
 rotate_left
 ·refine j _ _ (qn ?_)
  refine AWP.cond (Ai ?_)
  refine sq (ar rfl (qn (rt (qr (br (qr (qr ?_)))))))
  obtain rfl:=Aa h
  obtain rfl:=Af hJ0
  replace h:=An hO0
  refine br (qr ?_)
  cases h;exact en Tryz.results179
 obtain⟨y7,hy7,h⟩:=Ah h
 refine Al.pure Tryz.call254 (Dd x_2.Length 10 20000 hy7) rfl fun _ hr=>?_
 subst hr
 refine nS ?_
 refine j _ _ (qn ?_)
 revert h;refine ca rfl (fun hc h=>?_) fun hc h=>?_
 ·refine sq (ar rfl (qn (rt (qr (br (qr (qr ?_)))))))
  obtain rfl:=Aa h
  obtain rfl:=Af hJ0
  replace h:=An hO0
  refine br (qr ?_)
  cases h;exact en Tryz.results179
 refine sk (qn (sq (sq ?_)))
 refine AWP.draw Tryz.mixed (by kernel_rfl) ?_;intro K j
 refine nS ?_
 revert h;refine gt (fun hc h=>?_) fun hc h=>?_
 ·obtain⟨x_8,hx_8,h⟩:=Ah h
  refine Bk.of (f:=Be) (l:=m.Runs) hx_8 ?_
  refine nS ?_
  refine j _ _ _ (by kernel_rfl) ?_
  refine qn ?_
  revert h;refine ca rfl (fun hc h=>?_) fun hc h=>?_
  ·refine sq (ar rfl (qn (rt (qr (br (qr (qr ?_)))))))
   obtain rfl:=Aa h
   obtain rfl:=Af hJ0
   replace h:=An hO0
   refine br (qr ?_)
   cases h;exact en Tryz.results179
  refine sk (qn (sq ?_))
  refine rg rfl fun K j=>?_
  obtain⟨y9,hy9,h⟩:=Ah h
  refine Al.pure Tryz.call255 (Ly m x_2.To x_2.From hy9) rfl fun _ hr=>?_
  subst hr
  refine nS ?_
  refine j _ _ (qn (sq ?_))
  refine ar rfl (qn ?_)
  revert h;refine ca rfl (fun hc h=>?_) fun hc h=>?_
  ·refine sq (ar rfl (qn (rt (br (qr (qr ?_))))))
   obtain rfl:=Aa h
   obtain rfl:=Af hJ0
   replace h:=An hO0
   refine br (qr ?_)
   cases h;exact en Tryz.results179
  refine sk (bn (qn (ar rfl (qn ?_))))
  obtain rfl:=Aa h
  refine⟨(k0+1,(),()),⟨by dsimp only;omega,Ae hJ0⟩,by dsimp only;omega,?_,?_⟩
  ·exact cuw hw0
  exact cuw hw0
 refine j _ _ _ (by kernel_rfl) ?_
 refine qn ?_
 refine AWP.cond (Bg ?_)
 refine sk (qn (sq ?_))
 refine rg rfl fun K j=>?_
 obtain⟨y10,hy10,h⟩:=Ah h
 refine Al.pure Tryz.call255 (Ly m x_2.To x_2.From hy10) rfl fun _ hr=>?_
 subst hr
 refine nS ?_
 refine j _ _ (qn (sq ?_))
 refine ar rfl (qn ?_)
 revert h;refine ca rfl (fun hc h=>?_) fun hc h=>?_
 ·refine sq (ar rfl (qn (rt (br (qr (qr ?_))))))
  obtain rfl:=Aa h
  obtain rfl:=Af hJ0
  replace h:=An hO0
  refine br (qr ?_)
  cases h;exact en Tryz.results179
 refine sk (bn (qn (ar rfl (qn ?_))))
 obtain rfl:=Aa h
 refine⟨(k0+1,(),()),⟨by dsimp only;omega,Ae hJ0⟩,by dsimp only;omega,?_,?_⟩
 ·exact cuw hw0
 exact cuw hw0
def Ed (m:Bd) (k1:Nat) (_x:Unit) (sv:Unit):Option (Out (Unit) (Int)):=
 (Dl m.Bases (((k1:Nat):Int)+1)).bind fun x_3=>(Dl m.Bases (IntKind.i64.wrap ((((k1:Nat):Int)+1) - 1))).bind fun x_4=>(bif (decide (x_3≤x_4))then some (Out.ret 7)else some (Out.next ()))
def Sg (m:Bd):Option (Int):=
 (Kc (Ed m) (m.Bases.length - 1) ()).bind fun o1=>o1.on fun s1=>some 0
def Oz (m:Bd) (k4:Nat) (x_6:Int) (sv:Unit):Option (Out (Unit) (Int)):=
 (Ee m x_6).bind fun y7=>(bif (!y7.2)then some (Out.ret 8)else some (Out.next ()))
def Qv (m:Bd):Option (Int):=
 (bif (decide (((m.Bases.length:Nat):Int)=0))then some 8 else(Am (Oz m) 0 m.Bases ()).bind fun o4=>o4.on fun s4=>Sg m)
theorem dI (m:Bd) {r:Int} (h:Qv m=some r):Ad Tryz.prog 180 [.agg (Ca m)] (·= .int .i64 r):=by
 refine Ad.nle (Ad.intro Tryz.func180 rfl rfl (by show _≤49;simp) ?_)
 unfold Qv at h
 refine nS (sq ?_)
 refine ar rfl (qn (sq (sq ?_)))
 refine rg rfl fun K j=>?_
 intro hm
 refine j _ _ (qn ?_)
 revert h;refine ca rfl (fun hc h=>?_) fun hc h=>?_
 ·refine sq (ar rfl (qn (rt (qr ?_))))
  cases h;exact en Tryz.results180
 refine sk (qn ?_)
 refine AWP.It (ι:=(Unit)×(Unit)) (fun zz=>[(1,.ptr 0 0)]) (fun zz=>[.box [.sl 2 (m.Nodes.map A9),.sl 8 (m.Lifts.map A7),.sl 7 (m.Runs.map Be),.sl 1 (m.Bases.map Aw)]]) (fun zz=>Sg m=some r) (fun zz=>⟨rfl,rfl,rfl⟩) ?_ ?_
 ·refine sq (ar rfl (qn (bk ?_)))
  obtain⟨o4,hJ4,hO4⟩:=Ah h
  clear h
  refine AWP.Br (ι:=Nat×(Unit)×(Unit)) (fun zz=>[(1,.ptr 0 0),(3,.int .i64 ((zz.1:Nat):Int))]) (fun zz=>[.box [.sl 2 (m.Nodes.map A9),.sl 8 (m.Lifts.map A7),.sl 7 (m.Runs.map Be),.sl 1 (m.Bases.map Aw)]]) (fun zz=>zz.1≤m.Bases.length∧Am (Oz m) zz.1 ((m.Bases).drop zz.1) zz.2.1=some o4) (fun zz=>m.Bases.length - zz.1) (0,(),()) ⟨Nat.zero_le _,hJ4⟩ cu cu (fun x=>⟨rfl,rfl,rfl⟩) ?_
  clear hJ4
  rintro⟨k4,⟨⟩,⟨⟩⟩ ⟨hk4,hJ4⟩
  dsimp only at hk4 hJ4 ⊢
  refine sq (sq ?_)
  refine rg rfl fun K j=>?_
  intro hm
  refine j _ _ (qn ?_)
  refine AWP.cond (Aj (fun hc=>?_) (fun hc=>?_))
  rotate_left
  ·obtain rfl:=Bc hJ4 (fun hl=>by have:=Ajo hc;omega)
   have h:=Bb hO4;try dsimp only at h
   have hkl:m.Bases.length=k4:=by have:=Ajo hc;omega
   subst hkl
   refine xt (qe (qe (bs (qn ?_))))
   exact⟨((),()),h,cu,cu⟩
  have hlt4:k4<m.Bases.length:=by have:=Ajp hc;omega
  obtain⟨x_6,b4,hx4_,h,hJ4⟩:=A1 hJ4 hlt4
  have hx4:=Ay hx4_
  have hw4:=wk (k:=k4) (by omega)
  unfold Oz at h;try dsimp only at h
  refine sk (qn (sq (bk (sq ?_))))
  refine AWP.draw Tryz.mixed (by kernel_rfl) ?_;intro K j
  refine nS ?_
  refine Bk.of (f:=Aw) (l:=m.Bases) hx4 ?_
  refine nS ?_
  obtain⟨y7,hy7,h⟩:=Ah h
  refine Bz.pure Tryz.call98 (M6 m x_6 hy7) rfl ?_
  refine nS ?_
  refine j _ _ _ (by kernel_rfl) ?_
  refine qn (sq (ar rfl (qn ?_)))
  revert h;refine ca rfl (fun hc h=>?_) fun hc h=>?_
  ·refine sq (ar rfl (qn (rt (br (qr (qr ?_))))))
   obtain rfl:=Aa h
   obtain rfl:=Af hJ4
   replace h:=An hO4
   refine br (qr ?_)
   cases h;exact en Tryz.results180
  refine sk (bn (qn (ar rfl (qn ?_))))
  obtain rfl:=Aa h
  refine⟨(k4+1,(),()),⟨by dsimp only;omega,Ae hJ4⟩,by dsimp only;omega,?_,?_⟩
  ·exact cuw hw4
  exact cuw hw4
 rintro⟨⟨⟩,⟨⟩⟩ h
 try dsimp only at h ⊢
 unfold Sg at h;try dsimp only at h
 refine sq (sq (ar rfl (qn (bk ?_))))
 obtain⟨o1,hJ1,hO1⟩:=Ah h
 clear h
 obtain⟨hn1,hJ1⟩:=Pe hJ1
 refine AWP.Br (ι:=Nat×(Unit)×(Unit)) (fun zz=>[(1,.ptr 0 0),(6,.int .i64 (((zz.1:Nat):Int)+(1:Int)))]) (fun zz=>[.box [.sl 2 (m.Nodes.map A9),.sl 8 (m.Lifts.map A7),.sl 7 (m.Runs.map Be),.sl 1 (m.Bases.map Aw)]]) (fun zz=>zz.1≤(m.Bases.length - 1)∧Am (Ed m) zz.1 ((List.replicate (m.Bases.length - 1) ()).drop zz.1) zz.2.1=some o1) (fun zz=>(m.Bases.length - 1) - zz.1) (0,(),()) ⟨Nat.zero_le _,hJ1⟩ cu cu (fun x=>⟨rfl,rfl,rfl⟩) ?_
 clear hJ1
 rintro⟨k1,⟨⟩,⟨⟩⟩ ⟨hk1,hJ1⟩
 dsimp only at hk1 hJ1 ⊢
 refine sq (sq ?_)
 refine rg rfl fun K j=>?_
 intro hm
 refine j _ _ (qn ?_)
 refine AWP.cond (Aj (fun hc=>?_) (fun hc=>?_))
 rotate_left
 ·obtain rfl:=Bc hJ1 (fun hl=>by rw[List.length_replicate]at hl;have:=Ajo hc;omega)
  have h:=Bb hO1;try dsimp only at h
  have hkl:(m.Bases.length - 1)=k1:=by have:=Ajo hc;omega
  subst hkl
  refine xt (qe (qe (bs (qn (sq (ar rfl (qn (rt ?_))))))))
  cases h;exact en Tryz.results180
 have hlt1:k1<(m.Bases.length - 1):=by have:=Ajp hc;omega
 obtain⟨_,b1,_,h,hJ1⟩:=A1 hJ1 (by rw[List.length_replicate];exact hlt1)
 have hw1:IntKind.i64.wrap ((((k1:Nat):Int)+1)+1)=(((k1:Nat):Int)+1+1):=by rw[wrap_i64]<;>omega
 unfold Ed at h;try dsimp only at h
 refine sk (qn (sq (bk (sq ?_))))
 refine AWP.draw Tryz.mixed (by kernel_rfl) ?_;intro K j
 refine nS ?_
 obtain⟨x_3,hx_3,h⟩:=Ah h
 refine Bk.of (f:=Aw) (l:=m.Bases) hx_3 ?_
 refine nS ?_
 obtain⟨x_4,hx_4,h⟩:=Ah h
 refine Bk.of (f:=Aw) (l:=m.Bases) hx_4 ?_
 refine nS ?_
 refine j _ _ _ (by kernel_rfl) ?_
 refine qn ?_
 revert h;refine ca rfl (fun hc h=>?_) fun hc h=>?_
 ·refine sq (ar rfl (qn (rt (br (qr (qr ?_))))))
  obtain rfl:=Aa h
  obtain rfl:=Af hJ1
  replace h:=An hO1
  refine br (qr ?_)
  cases h;exact en Tryz.results180
 refine sk (bn (qn (ar rfl (qn ?_))))
 obtain rfl:=Aa h
 refine⟨(k1+1,(),()),⟨by dsimp only;omega,Ae hJ1⟩,by dsimp only;omega,?_,?_⟩
 ·exact cuw hw1
 exact cuw hw1
def Ij (m:Bd):Option (Int):=
 (bif (decide (64<((m.Nodes.length:Nat):Int)))then some 4 else(bif (decide (32<((m.Lifts.length:Nat):Int)))then some 4 else(bif (decide (64<((m.Runs.length:Nat):Int)))then some 4 else(bif (decide (64<((m.Bases.length:Nat):Int)))then some 4 else(Te m.Nodes).bind fun y1=>(bif (decide (y1≠0))then some y1 else(Qu m).bind fun y2=>(bif (decide (y2≠0))then some y2 else(Se m).bind fun y3=>(bif (decide (y3≠0))then some y3 else(Qv m).bind fun y4=>some y4)))))))
theorem dJ (m:Bd) {r:Int} (h:Ij m=some r):Ad Tryz.prog 85 [.agg (Ca m)] (·= .int .i64 r):=by
 refine Ad.nle (Ad.intro Tryz.func85 rfl rfl (by show _≤46;simp) ?_)
 unfold Ij at h
 refine nS (sq ?_)
 refine ar rfl (qn (sq (sq ?_)))
 refine rg rfl fun K j=>?_
 intro hm
 revert h;refine gf (fun hc h=>?_) fun hc h=>?_
 rotate_left
 ·refine j _ _ (qn ?_)
  refine AWP.cond (Ai ?_)
  refine sq (ar rfl (qn (rt (qr ?_))))
  cases h;exact en Tryz.results85
 intro hm
 revert h;refine gf (fun hc h=>?_) fun hc h=>?_
 rotate_left
 ·refine j _ _ (qn ?_)
  refine AWP.cond (Ai ?_)
  refine sq (ar rfl (qn (rt (qr ?_))))
  cases h;exact en Tryz.results85
 intro hm
 revert h;refine gf (fun hc h=>?_) fun hc h=>?_
 rotate_left
 ·refine j _ _ (qn ?_)
  refine AWP.cond (Ai ?_)
  refine sq (ar rfl (qn (rt (qr ?_))))
  cases h;exact en Tryz.results85
 intro hm
 refine j _ _ (qn ?_)
 revert h;refine ca rfl (fun hc h=>?_) fun hc h=>?_
 ·refine sq (ar rfl (qn (rt (qr ?_))))
  cases h;exact en Tryz.results85
 refine sk (qn (sq (sq ?_)))
 refine rg rfl fun K j=>?_
 obtain⟨y1,hy1,h⟩:=Ah h
 refine Al.pure Tryz.call177 (dG m.Nodes hy1) rfl fun _ hr=>?_
 subst hr
 refine nS ?_
 refine j _ _ (qn (sq ?_))
 refine ar rfl (qn ?_)
 revert h;refine ca rfl (fun hc h=>?_) fun hc h=>?_
 ·refine sq (ar rfl (qn (rt (qr ?_))))
  cases h;exact en Tryz.results85
 refine sk (qn (sq (sq ?_)))
 refine rg rfl fun K j=>?_
 obtain⟨y2,hy2,h⟩:=Ah h
 refine Al.pure Tryz.call178 (dH m hy2) rfl fun _ hr=>?_
 subst hr
 refine nS ?_
 refine j _ _ (qn (sq ?_))
 refine ar rfl (qn ?_)
 revert h;refine ca rfl (fun hc h=>?_) fun hc h=>?_
 ·refine sq (ar rfl (qn (rt (qr ?_))))
  cases h;exact en Tryz.results85
 refine sk (qn (sq (sq ?_)))
 refine rg rfl fun K j=>?_
 obtain⟨y3,hy3,h⟩:=Ah h
 refine Al.pure Tryz.call179 (fU m hy3) rfl fun _ hr=>?_
 subst hr
 refine nS ?_
 refine j _ _ (qn (sq ?_))
 refine ar rfl (qn ?_)
 revert h;refine ca rfl (fun hc h=>?_) fun hc h=>?_
 ·refine sq (ar rfl (qn (rt (qr ?_))))
  cases h;exact en Tryz.results85
 refine sk (qn (sq ?_))
 refine rg rfl fun K j=>?_
 obtain⟨y4,hy4,h⟩:=Ah h
 refine Al.pure Tryz.call180 (dI m hy4) rfl fun _ hr=>?_
 subst hr
 refine nS ?_
 refine j _ _ (qn (rt ?_))
 cases h;exact en Tryz.results85
def R2 (c:Bn):Option (Bool):=
 (bif (decide (1≤c.Kind))then (bif (decide (c.Kind≤3))then (bif (decide (1≤c.Target))then (bif (decide (c.Target≤9999))then (bif (decide (1≤c.By))then (bif (decide (c.By≤6))then (bif (decide (0≤c.Since))then some (decide (c.Since≤20000000))else some false)else some false)else some false)else some false)else some false)else some false)else some false)
theorem gZ (c:Bn) {r:Bool} (h:R2 c=some r):Ad Tryz.prog 181 [.agg (Aq c)] (·= .bool r):=by
 refine Ad.nle (Ad.intro Tryz.func181 rfl rfl (by show _≤41;simp) ?_)
 unfold R2 at h
 refine nS (sq ?_)
 refine ar rfl (qn (sq ?_))
 refine rg rfl fun K j=>?_
 revert h;refine gt (fun hc h=>?_) fun hc h=>?_
 rotate_left
 ·refine j _ _ (qn (rt ?_))
  cases h;exact en Tryz.results181
 revert h;refine gt (fun hc h=>?_) fun hc h=>?_
 rotate_left
 ·refine j _ _ (qn (rt ?_))
  cases h;exact en Tryz.results181
 revert h;refine gt (fun hc h=>?_) fun hc h=>?_
 ·revert h;refine gt (fun hc h=>?_) fun hc h=>?_
  ·revert h;refine gt (fun hc h=>?_) fun hc h=>?_
   ·revert h;refine gt (fun hc h=>?_) fun hc h=>?_
    ·revert h;refine gt (fun hc h=>?_) fun hc h=>?_
     ·refine j _ _ (qn (rt ?_))
      cases h;exact en Tryz.results181
     refine j _ _ (qn (rt ?_))
     cases h;exact en Tryz.results181
    refine j _ _ (qn (rt ?_))
    cases h;exact en Tryz.results181
   refine j _ _ (qn (rt ?_))
   cases h;exact en Tryz.results181
  refine j _ _ (qn (rt ?_))
  cases h;exact en Tryz.results181
 refine j _ _ (qn (rt ?_))
 cases h;exact en Tryz.results181
def Ey (kind:Int) (target:Int) (by_:Int) (k0:Nat) (x_2:Bn) (sv:Unit):Option (Out (Unit) (Int)):=
 (bif (decide (x_2.Kind=kind))then (bif (decide (x_2.Target=target))then (bif (decide (x_2.By=by_))then some (Out.ret ((k0:Nat):Int))else some (Out.next ()))else some (Out.next ()))else some (Out.next ()))
def Fm (l:List Bn) (kind:Int) (target:Int) (by_:Int):Option (Int):=
 (Am (Ey kind target by_) 0 l ()).bind fun o0=>o0.on fun s0=>some (-1)
theorem Uv (l:List Bn) (kind:Int) (target:Int) (by_:Int) {r:Int} (h:Fm l kind target by_=some r):Ad Tryz.prog 182 [.sl 4 (l.map Aq),.int .i64 kind,.int .i64 target,.int .i64 by_] (·= .int .i64 r):=by
 refine Ad.nle (Ad.intro Tryz.func182 rfl rfl (by show _≤42;simp) ?_)
 unfold Fm at h
 refine nS (sq ?_)
 refine ar rfl (qn (sq (sq ?_)))
 refine ar rfl (qn (bk ?_))
 obtain⟨o0,hJ0,hO0⟩:=Ah h
 clear h
 refine AWP.Br (ι:=Nat×(Unit)×(Unit)) (fun zz=>[(0,.sl 4 (l.map Aq)),(1,.int .i64 kind),(2,.int .i64 target),(3,.int .i64 by_),(9,.int .i64 ((zz.1:Nat):Int))]) (fun zz=>[]) (fun zz=>zz.1≤l.length∧Am (Ey kind target by_) zz.1 ((l).drop zz.1) zz.2.1=some o0) (fun zz=>l.length - zz.1) (0,(),()) ⟨Nat.zero_le _,hJ0⟩ cu cu (fun x=>⟨rfl,rfl,rfl⟩) ?_
 clear hJ0
 rintro⟨k0,⟨⟩,⟨⟩⟩ ⟨hk0,hJ0⟩
 dsimp only at hk0 hJ0 ⊢
 refine sq (sq ?_)
 refine rg rfl fun K j=>?_
 intro hm
 refine j _ _ (qn ?_)
 refine AWP.cond (Aj (fun hc=>?_) (fun hc=>?_))
 rotate_left
 ·obtain rfl:=Bc hJ0 (fun hl=>by have:=Ajo hc;omega)
  have h:=Bb hO0;try dsimp only at h
  have hkl:l.length=k0:=by have:=Ajo hc;omega
  subst hkl
  refine xt (qe (qe (bs (qn (sq (ar rfl (qn (rt ?_))))))))
  cases h;exact en Tryz.results182
 have hlt0:k0<l.length:=by have:=Ajp hc;omega
 obtain⟨x_2,b0,hx0_,h,hJ0⟩:=A1 hJ0 hlt0
 have hx0:=Ay hx0_
 have hw0:=wk (k:=k0) (by omega)
 unfold Ey at h;try dsimp only at h
 refine sk (qn (sq (bk (sq ?_))))
 refine rg rfl fun K j=>?_
 refine Bk.of (f:=Aq) (l:=l) hx0 ?_
 refine nS ?_
 revert h;refine gt (fun hc h=>?_) fun hc h=>?_
 ·refine Bk.of (f:=Aq) (l:=l) hx0 ?_
  refine nS ?_
  revert h;refine gt (fun hc h=>?_) fun hc h=>?_
  ·refine Bk.of (f:=Aq) (l:=l) hx0 ?_
   refine nS ?_
   refine j _ _ (qn ?_)
   revert h;refine ca rfl (fun hc h=>?_) fun hc h=>?_
   ·refine sq (ar rfl (qn (rt (br (qr (qr ?_))))))
    obtain rfl:=Aa h
    obtain rfl:=Af hJ0
    replace h:=An hO0
    refine br (qr ?_)
    cases h;exact en Tryz.results182
   refine sk (bn (qn (ar rfl (qn ?_))))
   obtain rfl:=Aa h
   refine⟨(k0+1,(),()),⟨by dsimp only;omega,Ae hJ0⟩,by dsimp only;omega,?_,?_⟩
   ·exact cuw hw0
   exact cuw hw0
  refine j _ _ (qn ?_)
  refine AWP.cond (Bg ?_)
  refine sk (bn (qn (ar rfl (qn ?_))))
  obtain rfl:=Aa h
  refine⟨(k0+1,(),()),⟨by dsimp only;omega,Ae hJ0⟩,by dsimp only;omega,?_,?_⟩
  ·exact cuw hw0
  exact cuw hw0
 refine j _ _ (qn ?_)
 refine AWP.cond (Bg ?_)
 refine sk (bn (qn (ar rfl (qn ?_))))
 obtain rfl:=Aa h
 refine⟨(k0+1,(),()),⟨by dsimp only;omega,Ae hJ0⟩,by dsimp only;omega,?_,?_⟩
 ·exact cuw hw0
 exact cuw hw0
def Hl (l:List Bn) (k0:Nat) (x_2:Bn) (sv:Unit):Option (Out (Unit) (Int)):=
 (R2 x_2).bind fun y3=>(bif (!y3)then some (Out.ret 2)else okB (decide (0≤((k0:Nat):Int)∧((k0:Nat):Int)≤((l.length:Nat):Int))) ((Fm (l.take k0) x_2.Kind x_2.Target x_2.By).bind fun y4=>(bif (decide (0≤y4))then some (Out.ret 7)else some (Out.next ()))))
def Ig (l:List Bn):Option (Int):=
 (bif (decide (200<((l.length:Nat):Int)))then some 4 else(Am (Hl l) 0 l ()).bind fun o0=>o0.on fun s0=>some 0)
theorem cP (l:List Bn) {r:Int} (h:Ig l=some r):Ad Tryz.prog 86 [.sl 4 (l.map Aq)] (·= .int .i64 r):=by
 refine Ad.nle (Ad.intro Tryz.func86 rfl rfl (by show _≤39;simp) ?_)
 unfold Ig at h
 refine nS (sq ?_)
 refine ar rfl (qn (sq (sq ?_)))
 refine rg rfl fun K j=>?_
 intro hm
 refine j _ _ (qn ?_)
 revert h;refine ca rfl (fun hc h=>?_) fun hc h=>?_
 ·refine sq (ar rfl (qn (rt (qr ?_))))
  cases h;exact en Tryz.results86
 refine sk (qn (sq (sq (ar rfl (qn (bk ?_))))))
 obtain⟨o0,hJ0,hO0⟩:=Ah h
 clear h
 refine AWP.Br (ι:=Nat×(Unit)×(Unit)) (fun zz=>[(0,.sl 4 (l.map Aq)),(3,.int .i64 ((zz.1:Nat):Int))]) (fun zz=>[]) (fun zz=>zz.1≤l.length∧Am (Hl l) zz.1 ((l).drop zz.1) zz.2.1=some o0) (fun zz=>l.length - zz.1) (0,(),()) ⟨Nat.zero_le _,hJ0⟩ cu cu (fun x=>⟨rfl,rfl,rfl⟩) ?_
 clear hJ0
 rintro⟨k0,⟨⟩,⟨⟩⟩ ⟨hk0,hJ0⟩
 dsimp only at hk0 hJ0 ⊢
 refine sq (sq ?_)
 refine rg rfl fun K j=>?_
 intro hm
 refine j _ _ (qn ?_)
 refine AWP.cond (Aj (fun hc=>?_) (fun hc=>?_))
 rotate_left
 ·obtain rfl:=Bc hJ0 (fun hl=>by have:=Ajo hc;omega)
  have h:=Bb hO0;try dsimp only at h
  have hkl:l.length=k0:=by have:=Ajo hc;omega
  subst hkl
  refine xt (qe (qe (bs (qn (sq (ar rfl (qn (rt ?_))))))))
  cases h;exact en Tryz.results86
 have hlt0:k0<l.length:=by have:=Ajp hc;omega
 obtain⟨x_2,b0,hx0_,h,hJ0⟩:=A1 hJ0 hlt0
 have hx0:=Ay hx0_
 have hw0:=wk (k:=k0) (by omega)
 unfold Hl at h;try dsimp only at h
 refine sk (qn (sq (bk (sq (sq ?_)))))
 refine rg rfl fun K j=>?_
 refine Bk.of (f:=Aq) (l:=l) hx0 ?_
 refine nS ?_
 obtain⟨y3,hy3,h⟩:=Ah h
 refine Al.pure Tryz.call181 (gZ x_2 hy3) rfl fun _ hr=>?_
 subst hr
 refine nS ?_
 refine j _ _ (qn ?_)
 revert h;refine ca rfl (fun hc h=>?_) fun hc h=>?_
 ·refine sq (ar rfl (qn (rt (qr (br (qr (qr ?_)))))))
  obtain rfl:=Aa h
  obtain rfl:=Af hJ0
  replace h:=An hO0
  refine br (qr ?_)
  cases h;exact en Tryz.results86
 refine sk (qn (sq ?_))
 refine AWP.draw Tryz.mixed (by kernel_rfl) ?_;intro K j
 refine nS ?_
 obtain⟨hk,h⟩:=Jz h
 intro hm
 (repeat(refine⟨by omega,?_⟩))
 refine Bk.of (f:=Aq) (l:=l) hx0 ?_
 refine nS ?_
 refine Bk.of (f:=Aq) (l:=l) hx0 ?_
 refine nS ?_
 refine Bk.of (f:=Aq) (l:=l) hx0 ?_
 refine nS ?_
 obtain⟨y4,hy4,h⟩:=Ah h
 refine Bz.pure Tryz.call182 (Uv (l.take k0) x_2.Kind x_2.Target x_2.By hy4) rfl ?_
 refine nS ?_
 refine j _ _ _ (by kernel_rfl) ?_
 refine qn ?_
 revert h;refine ca rfl (fun hc h=>?_) fun hc h=>?_
 ·refine sq (ar rfl (qn (rt (br (qr (qr ?_))))))
  obtain rfl:=Aa h
  obtain rfl:=Af hJ0
  replace h:=An hO0
  refine br (qr ?_)
  cases h;exact en Tryz.results86
 refine sk (bn (qn (ar rfl (qn ?_))))
 obtain rfl:=Aa h
 refine⟨(k0+1,(),()),⟨by dsimp only;omega,Ae hJ0⟩,by dsimp only;omega,?_,?_⟩
 ·exact cuw hw0
 exact cuw hw0
def Qs (n_:Int) (lo:Int) (hi:Int):Option (Bool):=
 (bif (decide (lo≤n_))then some (decide (n_≤hi))else some false)
theorem Qd (n_:Int) (lo:Int) (hi:Int) {r:Bool} (h:Qs n_ lo hi=some r):Ad Tryz.prog 257 [.int .i64 n_,.int .i64 lo,.int .i64 hi] (·= .bool r):=by
 refine Ad.nle (Ad.intro Tryz.func257 rfl rfl (by show _≤15;simp) ?_)
 unfold Qs at h
 refine nS (sq ?_)
 refine ar rfl (qn (sq ?_))
 refine rg rfl fun K j=>?_
 revert h;refine gt (fun hc h=>?_) fun hc h=>?_
 ·refine j _ _ (qn (rt ?_))
  cases h;exact en Tryz.results257
 refine j _ _ (qn (rt ?_))
 cases h;exact en Tryz.results257
def Vh (n_:Int) (k0:Nat) (x_2:Int) (sv:Unit):Option (Out (Unit) (Bool)):=
 (bif (decide (x_2=n_))then some (Out.ret true)else some (Out.next ()))
def Uy (l:List Int) (n_:Int):Option (Bool):=
 (Am (Vh n_) 0 l ()).bind fun o0=>o0.on fun s0=>some false
theorem W4 (l:List Int) (n_:Int) {r:Bool} (h:Uy l n_=some r):Ad Tryz.prog 258 [.sl 1 (l.map Aw),.int .i64 n_] (·= .bool r):=by
 refine Ad.nle (Ad.intro Tryz.func258 rfl rfl (by show _≤18;simp) ?_)
 unfold Uy at h
 refine nS (sq ?_)
 refine ar rfl (qn (sq (sq ?_)))
 refine ar rfl (qn (bk ?_))
 obtain⟨o0,hJ0,hO0⟩:=Ah h
 clear h
 refine AWP.Br (ι:=Nat×(Unit)×(Unit)) (fun zz=>[(0,.sl 1 (l.map Aw)),(1,.int .i64 n_),(5,.int .i64 ((zz.1:Nat):Int))]) (fun zz=>[]) (fun zz=>zz.1≤l.length∧Am (Vh n_) zz.1 ((l).drop zz.1) zz.2.1=some o0) (fun zz=>l.length - zz.1) (0,(),()) ⟨Nat.zero_le _,hJ0⟩ cu cu (fun x=>⟨rfl,rfl,rfl⟩) ?_
 clear hJ0
 rintro⟨k0,⟨⟩,⟨⟩⟩ ⟨hk0,hJ0⟩
 dsimp only at hk0 hJ0 ⊢
 refine sq (sq ?_)
 refine rg rfl fun K j=>?_
 intro hm
 refine j _ _ (qn ?_)
 refine AWP.cond (Aj (fun hc=>?_) (fun hc=>?_))
 rotate_left
 ·obtain rfl:=Bc hJ0 (fun hl=>by have:=Ajo hc;omega)
  have h:=Bb hO0;try dsimp only at h
  have hkl:l.length=k0:=by have:=Ajo hc;omega
  subst hkl
  refine xt (qe (qe (bs (qn (sq (ar rfl (qn (rt ?_))))))))
  cases h;exact en Tryz.results258
 have hlt0:k0<l.length:=by have:=Ajp hc;omega
 obtain⟨x_2,b0,hx0_,h,hJ0⟩:=A1 hJ0 hlt0
 have hx0:=Ay hx0_
 have hw0:=wk (k:=k0) (by omega)
 unfold Vh at h;try dsimp only at h
 refine sk (qn (sq (bk (sq ?_))))
 refine rg rfl fun K j=>?_
 refine Bk.of (f:=Aw) (l:=l) hx0 ?_
 refine nS ?_
 refine j _ _ (qn ?_)
 revert h;refine ca rfl (fun hc h=>?_) fun hc h=>?_
 ·refine sq (ar rfl (qn (rt (br (qr (qr ?_))))))
  obtain rfl:=Aa h
  obtain rfl:=Af hJ0
  replace h:=An hO0
  refine br (qr ?_)
  cases h;exact en Tryz.results258
 refine sk (bn (qn (ar rfl (qn ?_))))
 obtain rfl:=Aa h
 refine⟨(k0+1,(),()),⟨by dsimp only;omega,Ae hJ0⟩,by dsimp only;omega,?_,?_⟩
 ·exact cuw hw0
 exact cuw hw0
def Oy (l:Bq) (k2:Nat) (x_4:Fk) (sv:Unit):Option (Out (Unit) (Int)):=
 (Uy l.Items x_4.Item).bind fun y5=>(bif (!y5)then some (Out.ret 8)else (Qs x_4.By 1 9999).bind fun y6=>(bif (!y6)then some (Out.ret 17)else (Qs x_4.At 0 20000000).bind fun y7=>(bif (!y7)then some (Out.ret 2)else (bif (decide (0<((k2:Nat):Int)))then (Dl l.Signs (IntKind.i64.wrap (((k2:Nat):Int) - 1))).bind fun x_8=>(bif (decide (x_4.At<x_8.At))then some (Out.ret 11)else some (Out.next ()))else some (Out.next ())))))
def Ow (l:Bq):Option (Int):=
 (Am (Oy l) 0 l.Signs ()).bind fun o2=>o2.on fun s2=>some 0
def Ox (l:Bq) (k8:Nat) (x_10:Int) (sv:Unit):Option (Out (Unit) (Int)):=
 (Qs x_10 1 9999).bind fun y11=>(bif (!y11)then some (Out.ret 2)else okB (decide (0≤((k8:Nat):Int)∧((k8:Nat):Int)≤((l.Items.length:Nat):Int))) ((Uy (l.Items.take k8) x_10).bind fun y12=>(bif y12 then some (Out.ret 7)else some (Out.next ()))))
def Gj (l:Bq):Option (Int):=
 (bif (decide (64<((l.Items.length:Nat):Int)))then some 4 else(bif (decide (200<((l.Signs.length:Nat):Int)))then some 4 else(Qs l.Every 1 604800).bind fun y1=>(bif (!y1)then some 2 else(Am (Ox l) 0 l.Items ()).bind fun o8=>o8.on fun s8=>Ow l)))
theorem Ux (l:Bq) {r:Int} (h:Gj l=some r):Ad Tryz.prog 183 [.agg (Dj l)] (·= .int .i64 r):=by
 refine Ad.nle (Ad.intro Tryz.func183 rfl rfl (by show _≤88;simp) ?_)
 unfold Gj at h
 refine nS (sq ?_)
 refine ar rfl (qn (sq (sq ?_)))
 refine rg rfl fun K j=>?_
 intro hm
 revert h;refine gf (fun hc h=>?_) fun hc h=>?_
 rotate_left
 ·refine j _ _ (qn ?_)
  refine AWP.cond (Ai ?_)
  refine sq (ar rfl (qn (rt (qr ?_))))
  cases h;exact en Tryz.results183
 intro hm
 refine j _ _ (qn ?_)
 revert h;refine ca rfl (fun hc h=>?_) fun hc h=>?_
 ·refine sq (ar rfl (qn (rt (qr ?_))))
  cases h;exact en Tryz.results183
 refine sk (qn (sq (sq ?_)))
 refine rg rfl fun K j=>?_
 obtain⟨y1,hy1,h⟩:=Ah h
 refine Al.pure Tryz.call257 (Qd l.Every 1 604800 hy1) rfl fun _ hr=>?_
 subst hr
 refine nS ?_
 refine j _ _ (qn ?_)
 revert h;refine ca rfl (fun hc h=>?_) fun hc h=>?_
 ·refine sq (ar rfl (qn (rt (qr ?_))))
  cases h;exact en Tryz.results183
 refine sk (qn ?_)
 refine AWP.It (ι:=(Unit)×(Unit)) (fun zz=>[(1,.ptr 0 0)]) (fun zz=>[.box [.sl 1 (l.Items.map Aw),.int .i64 l.Every,.sl 3 (l.Signs.map B8)]]) (fun zz=>Ow l=some r) (fun zz=>⟨rfl,rfl,rfl⟩) ?_ ?_
 ·refine sq (ar rfl (qn (bk ?_)))
  obtain⟨o8,hJ8,hO8⟩:=Ah h
  clear h
  refine AWP.Br (ι:=Nat×(Unit)×(Unit)) (fun zz=>[(1,.ptr 0 0),(3,.int .i64 ((zz.1:Nat):Int))]) (fun zz=>[.box [.sl 1 (l.Items.map Aw),.int .i64 l.Every,.sl 3 (l.Signs.map B8)]]) (fun zz=>zz.1≤l.Items.length∧Am (Ox l) zz.1 ((l.Items).drop zz.1) zz.2.1=some o8) (fun zz=>l.Items.length - zz.1) (0,(),()) ⟨Nat.zero_le _,hJ8⟩ cu cu (fun x=>⟨rfl,rfl,rfl⟩) ?_
  clear hJ8
  rintro⟨k8,⟨⟩,⟨⟩⟩ ⟨hk8,hJ8⟩
  dsimp only at hk8 hJ8 ⊢
  refine sq (sq ?_)
  refine rg rfl fun K j=>?_
  intro hm
  refine j _ _ (qn ?_)
  refine AWP.cond (Aj (fun hc=>?_) (fun hc=>?_))
  rotate_left
  ·obtain rfl:=Bc hJ8 (fun hl=>by have:=Ajo hc;omega)
   have h:=Bb hO8;try dsimp only at h
   have hkl:l.Items.length=k8:=by have:=Ajo hc;omega
   subst hkl
   refine xt (qe (qe (bs (qn ?_))))
   exact⟨((),()),h,cu,cu⟩
  have hlt8:k8<l.Items.length:=by have:=Ajp hc;omega
  obtain⟨x_10,b8,hx8_,h,hJ8⟩:=A1 hJ8 hlt8
  have hx8:=Ay hx8_
  have hw8:=wk (k:=k8) (by omega)
  unfold Ox at h;try dsimp only at h
  refine sk (qn (sq (bk (sq (sq ?_)))))
  refine rg rfl fun K j=>?_
  refine Bk.of (f:=Aw) (l:=l.Items) hx8 ?_
  refine nS ?_
  obtain⟨y11,hy11,h⟩:=Ah h
  refine Al.pure Tryz.call257 (Qd x_10 1 9999 hy11) rfl fun _ hr=>?_
  subst hr
  refine nS ?_
  refine j _ _ (qn ?_)
  revert h;refine ca rfl (fun hc h=>?_) fun hc h=>?_
  ·refine sq (ar rfl (qn (rt (qr (br (qr (qr ?_)))))))
   obtain rfl:=Aa h
   obtain rfl:=Af hJ8
   replace h:=An hO8
   refine br (qr ?_)
   cases h;exact en Tryz.results183
  refine sk (qn (sq ?_))
  refine AWP.draw Tryz.mixed (by kernel_rfl) ?_;intro K j
  refine nS ?_
  obtain⟨hk,h⟩:=Jz h
  intro hm
  (repeat(refine⟨by omega,?_⟩))
  refine Bk.of (f:=Aw) (l:=l.Items) hx8 ?_
  refine nS ?_
  obtain⟨y12,hy12,h⟩:=Ah h
  refine Bz.pure Tryz.call258 (W4 (l.Items.take k8) x_10 hy12) rfl ?_
  refine nS ?_
  refine j _ _ _ (by kernel_rfl) ?_
  refine qn ?_
  revert h;refine ca rfl (fun hc h=>?_) fun hc h=>?_
  ·refine sq (ar rfl (qn (rt (br (qr (qr ?_))))))
   obtain rfl:=Aa h
   obtain rfl:=Af hJ8
   replace h:=An hO8
   refine br (qr ?_)
   cases h;exact en Tryz.results183
  refine sk (bn (qn (ar rfl (qn ?_))))
  obtain rfl:=Aa h
  refine⟨(k8+1,(),()),⟨by dsimp only;omega,Ae hJ8⟩,by dsimp only;omega,?_,?_⟩
  ·exact cuw hw8
  exact cuw hw8
 rintro⟨⟨⟩,⟨⟩⟩ h
 try dsimp only at h ⊢
 unfold Ow at h;try dsimp only at h
 refine sq (sq (ar rfl (qn (bk ?_))))
 obtain⟨o2,hJ2,hO2⟩:=Ah h
 clear h
 refine AWP.Br (ι:=Nat×(Unit)×(Unit)) (fun zz=>[(1,.ptr 0 0),(4,.int .i64 ((zz.1:Nat):Int))]) (fun zz=>[.box [.sl 1 (l.Items.map Aw),.int .i64 l.Every,.sl 3 (l.Signs.map B8)]]) (fun zz=>zz.1≤l.Signs.length∧Am (Oy l) zz.1 ((l.Signs).drop zz.1) zz.2.1=some o2) (fun zz=>l.Signs.length - zz.1) (0,(),()) ⟨Nat.zero_le _,hJ2⟩ cu cu (fun x=>⟨rfl,rfl,rfl⟩) ?_
 clear hJ2
 rintro⟨k2,⟨⟩,⟨⟩⟩ ⟨hk2,hJ2⟩
 dsimp only at hk2 hJ2 ⊢
 refine sq (sq ?_)
 refine rg rfl fun K j=>?_
 intro hm
 refine j _ _ (qn ?_)
 refine AWP.cond (Aj (fun hc=>?_) (fun hc=>?_))
 rotate_left
 ·obtain rfl:=Bc hJ2 (fun hl=>by have:=Ajo hc;omega)
  have h:=Bb hO2;try dsimp only at h
  have hkl:l.Signs.length=k2:=by have:=Ajo hc;omega
  subst hkl
  refine xt (qe (qe (bs (qn (sq (ar rfl (qn (rt ?_))))))))
  cases h;exact en Tryz.results183
 have hlt2:k2<l.Signs.length:=by have:=Ajp hc;omega
 obtain⟨x_4,b2,hx2_,h,hJ2⟩:=A1 hJ2 hlt2
 have hx2:=Ay hx2_
 have hw2:=wk (k:=k2) (by omega)
 unfold Oy at h;try dsimp only at h
 refine sk (qn (sq (bk (sq ?_))))
 refine rg rfl fun K j=>?_
 refine Bk.of (f:=B8) (l:=l.Signs) hx2 ?_
 refine nS ?_
 refine j _ _ (qn (bk (sq ?_)))
 refine rg rfl fun K j=>?_
 obtain⟨y5,hy5,h⟩:=Ah h
 refine Al.pure Tryz.call258 (W4 l.Items x_4.Item hy5) rfl fun _ hr=>?_
 subst hr
 refine nS ?_
 refine j _ _ (qn ?_)
 revert h;refine ca rfl (fun hc h=>?_) fun hc h=>?_
 ·refine sq (ar rfl (qn (rt (br (br (qr (qr ?_)))))))
  obtain rfl:=Aa h
  obtain rfl:=Af hJ2
  replace h:=An hO2
  refine br (qr ?_)
  cases h;exact en Tryz.results183
 refine sq ?_
 refine rg rfl fun K j=>?_
 obtain⟨y6,hy6,h⟩:=Ah h
 refine Al.pure Tryz.call257 (Qd x_4.By 1 9999 hy6) rfl fun _ hr=>?_
 subst hr
 refine nS ?_
 refine j _ _ (qn ?_)
 revert h;refine ca rfl (fun hc h=>?_) fun hc h=>?_
 ·refine sq (ar rfl (qn (rt (br (br (qr (qr ?_)))))))
  obtain rfl:=Aa h
  obtain rfl:=Af hJ2
  replace h:=An hO2
  refine br (qr ?_)
  cases h;exact en Tryz.results183
 refine sq ?_
 refine rg rfl fun K j=>?_
 obtain⟨y7,hy7,h⟩:=Ah h
 refine Al.pure Tryz.call257 (Qd x_4.At 0 20000000 hy7) rfl fun _ hr=>?_
 subst hr
 refine nS ?_
 refine j _ _ (qn ?_)
 revert h;refine ca rfl (fun hc h=>?_) fun hc h=>?_
 ·refine sq (ar rfl (qn (rt (br (br (qr (qr ?_)))))))
  obtain rfl:=Aa h
  obtain rfl:=Af hJ2
  replace h:=An hO2
  refine br (qr ?_)
  cases h;exact en Tryz.results183
 refine sq ?_
 refine AWP.draw Tryz.mixed (by kernel_rfl) ?_;intro K j
 refine nS ?_
 revert h;refine gt (fun hc h=>?_) fun hc h=>?_
 ·obtain⟨x_8,hx_8,h⟩:=Ah h
  refine Bk.of (f:=B8) (l:=l.Signs) hx_8 ?_
  refine nS ?_
  refine j _ _ _ (by kernel_rfl) ?_
  refine qn ?_
  revert h;refine ca rfl (fun hc h=>?_) fun hc h=>?_
  ·refine sq (ar rfl (qn (rt (br (br (qr (qr ?_)))))))
   obtain rfl:=Aa h
   obtain rfl:=Af hJ2
   replace h:=An hO2
   refine br (qr ?_)
   cases h;exact en Tryz.results183
  refine sk (bn (bn (qn (ar rfl (qn ?_)))))
  obtain rfl:=Aa h
  refine⟨(k2+1,(),()),⟨by dsimp only;omega,Ae hJ2⟩,by dsimp only;omega,?_,?_⟩
  ·exact cuw hw2
  exact cuw hw2
 refine j _ _ _ (by kernel_rfl) ?_
 refine qn ?_
 refine AWP.cond (Bg ?_)
 refine sk (bn (bn (qn (ar rfl (qn ?_)))))
 obtain rfl:=Aa h
 refine⟨(k2+1,(),()),⟨by dsimp only;omega,Ae hJ2⟩,by dsimp only;omega,?_,?_⟩
 ·exact cuw hw2
 exact cuw hw2
def Nv (run:Int) (k0:Nat) (x_2:Ck) (sv:Unit):Option (Out (Unit) (Int)):=
 (bif (decide (x_2.Run=run))then some (Out.ret ((k0:Nat):Int))else some (Out.next ()))
def Oi (p:Cb) (run:Int):Option (Int):=
 (Am (Nv run) 0 p.Bw ()).bind fun o0=>o0.on fun s0=>some (-1)
theorem Za (p:Cb) (run:Int) {r:Int} (h:Oi p run=some r):Ad Tryz.prog 184 [.agg (Gs p),.int .i64 run] (·= .int .i64 r):=by
 refine Ad.nle (Ad.intro Tryz.func184 rfl rfl (by show _≤22;simp) ?_)
 unfold Oi at h
 refine nS (sq ?_)
 refine ar rfl (qn (sq (sq ?_)))
 refine ar rfl (qn (bk ?_))
 obtain⟨o0,hJ0,hO0⟩:=Ah h
 clear h
 refine AWP.Br (ι:=Nat×(Unit)×(Unit)) (fun zz=>[(1,.int .i64 run),(2,.ptr 0 0),(5,.int .i64 ((zz.1:Nat):Int))]) (fun zz=>[.box [.sl 4 (p.Bw.map Ax),.sl 3 (p.Hazards.map A3)]]) (fun zz=>zz.1≤p.Bw.length∧Am (Nv run) zz.1 ((p.Bw).drop zz.1) zz.2.1=some o0) (fun zz=>p.Bw.length - zz.1) (0,(),()) ⟨Nat.zero_le _,hJ0⟩ cu cu (fun x=>⟨rfl,rfl,rfl⟩) ?_
 clear hJ0
 rintro⟨k0,⟨⟩,⟨⟩⟩ ⟨hk0,hJ0⟩
 dsimp only at hk0 hJ0 ⊢
 refine sq (sq ?_)
 refine rg rfl fun K j=>?_
 intro hm
 refine j _ _ (qn ?_)
 refine AWP.cond (Aj (fun hc=>?_) (fun hc=>?_))
 rotate_left
 ·obtain rfl:=Bc hJ0 (fun hl=>by have:=Ajo hc;omega)
  have h:=Bb hO0;try dsimp only at h
  have hkl:p.Bw.length=k0:=by have:=Ajo hc;omega
  subst hkl
  refine xt (qe (qe (bs (qn (sq (ar rfl (qn (rt ?_))))))))
  cases h;exact en Tryz.results184
 have hlt0:k0<p.Bw.length:=by have:=Ajp hc;omega
 obtain⟨x_2,b0,hx0_,h,hJ0⟩:=A1 hJ0 hlt0
 have hx0:=Ay hx0_
 have hw0:=wk (k:=k0) (by omega)
 unfold Nv at h;try dsimp only at h
 refine sk (qn (sq (bk (sq ?_))))
 refine rg rfl fun K j=>?_
 refine Bk.of (f:=Ax) (l:=p.Bw) hx0 ?_
 refine nS ?_
 refine j _ _ (qn ?_)
 revert h;refine ca rfl (fun hc h=>?_) fun hc h=>?_
 ·refine sq (ar rfl (qn (rt (br (qr (qr ?_))))))
  obtain rfl:=Aa h
  obtain rfl:=Af hJ0
  replace h:=An hO0
  refine br (qr ?_)
  cases h;exact en Tryz.results184
 refine sk (bn (qn (ar rfl (qn ?_))))
 obtain rfl:=Aa h
 refine⟨(k0+1,(),()),⟨by dsimp only;omega,Ae hJ0⟩,by dsimp only;omega,?_,?_⟩
 ·exact cuw hw0
 exact cuw hw0
def Ks (p:Cb) (x_3:Cv) (k3:Nat) (_x:Unit) (sv:Unit):Option (Out (Unit) (Out (Unit) (Int))):=
 (Dl p.Hazards ((k3:Nat):Int)).bind fun x_5=>(bif (decide (x_5.ID=x_3.ID))then some (Out.ret (Out.ret 7))else some (Out.next ()))
def Ol (p:Cb) (k1:Nat) (x_3:Cv) (sv:Unit):Option (Out (Unit) (Int)):=
 (bif (decide (x_3.ID<1))then some (Out.ret 2)else (bif (decide (9999<x_3.ID))then some (Out.ret 2)else (bif (decide (x_3.At<0))then some (Out.ret 2)else (bif (decide (20000000<x_3.At))then some (Out.ret 2)else (Kc (Ks p x_3) k1 ()).bind fun o3=>o3.on fun s3=>(Oi p x_3.Run).bind fun y6=>(bif (decide (y6<0))then some (Out.ret 8)else some (Out.next ()))))))
def Oj (p:Cb):Option (Int):=
 (Am (Ol p) 0 p.Hazards ()).bind fun o1=>o1.on fun s1=>some 0
def Hk (p:Cb) (k6:Nat) (x_8:Ck) (sv:Unit):Option (Out (Unit) (Int)):=
 (bif (decide (x_8.Run<1))then some (Out.ret 2)else (bif (decide (9999<x_8.Run))then some (Out.ret 2)else (bif (decide (0<((k6:Nat):Int)))then (Dl p.Bw (IntKind.i64.wrap (((k6:Nat):Int) - 1))).bind fun x_9=>(bif (decide (x_8.Run≤x_9.Run))then some (Out.ret 11)else (Gj x_8.List_).bind fun y10=>(bif (decide (y10≠0))then some (Out.ret y10)else some (Out.next ())))else (Gj x_8.List_).bind fun y11=>(bif (decide (y11≠0))then some (Out.ret y11)else some (Out.next ())))))
def Ie (p:Cb):Option (Int):=
 (bif (decide (64<((p.Bw.length:Nat):Int)))then some 4 else(bif (decide (200<((p.Hazards.length:Nat):Int)))then some 4 else(Am (Hk p) 0 p.Bw ()).bind fun o6=>o6.on fun s6=>Oj p))
theorem cN (p:Cb) {r:Int} (h:Ie p=some r):Ad Tryz.prog 87 [.agg (Gs p)] (·= .int .i64 r):=by
 refine Ad.nle (Ad.intro Tryz.func87 rfl rfl (by show _≤118;simp) ?_)
 unfold Ie at h
 refine nS (sq ?_)
 refine ar rfl (qn (sq (sq ?_)))
 refine rg rfl fun K j=>?_
 intro hm
 revert h;refine gf (fun hc h=>?_) fun hc h=>?_
 rotate_left
 ·refine j _ _ (qn ?_)
  refine AWP.cond (Ai ?_)
  refine sq (ar rfl (qn (rt (qr ?_))))
  cases h;exact en Tryz.results87
 intro hm
 refine j _ _ (qn ?_)
 revert h;refine ca rfl (fun hc h=>?_) fun hc h=>?_
 ·refine sq (ar rfl (qn (rt (qr ?_))))
  cases h;exact en Tryz.results87
 refine sk (qn ?_)
 refine AWP.It (ι:=(Unit)×(Unit)) (fun zz=>[(1,.ptr 0 0)]) (fun zz=>[.box [.sl 4 (p.Bw.map Ax),.sl 3 (p.Hazards.map A3)]]) (fun zz=>Oj p=some r) (fun zz=>⟨rfl,rfl,rfl⟩) ?_ ?_
 ·refine sq (ar rfl (qn (bk ?_)))
  obtain⟨o6,hJ6,hO6⟩:=Ah h
  clear h
  refine AWP.Br (ι:=Nat×(Unit)×(Unit)) (fun zz=>[(1,.ptr 0 0),(3,.int .i64 ((zz.1:Nat):Int))]) (fun zz=>[.box [.sl 4 (p.Bw.map Ax),.sl 3 (p.Hazards.map A3)]]) (fun zz=>zz.1≤p.Bw.length∧Am (Hk p) zz.1 ((p.Bw).drop zz.1) zz.2.1=some o6) (fun zz=>p.Bw.length - zz.1) (0,(),()) ⟨Nat.zero_le _,hJ6⟩ cu cu (fun x=>⟨rfl,rfl,rfl⟩) ?_
  clear hJ6
  rintro⟨k6,⟨⟩,⟨⟩⟩ ⟨hk6,hJ6⟩
  dsimp only at hk6 hJ6 ⊢
  refine sq (sq ?_)
  refine rg rfl fun K j=>?_
  intro hm
  refine j _ _ (qn ?_)
  refine AWP.cond (Aj (fun hc=>?_) (fun hc=>?_))
  rotate_left
  ·obtain rfl:=Bc hJ6 (fun hl=>by have:=Ajo hc;omega)
   have h:=Bb hO6;try dsimp only at h
   have hkl:p.Bw.length=k6:=by have:=Ajo hc;omega
   subst hkl
   refine xt (qe (qe (bs (qn ?_))))
   exact⟨((),()),h,cu,cu⟩
  have hlt6:k6<p.Bw.length:=by have:=Ajp hc;omega
  obtain⟨x_8,b6,hx6_,h,hJ6⟩:=A1 hJ6 hlt6
  have hx6:=Ay hx6_
  have hw6:=wk (k:=k6) (by omega)
  unfold Hk at h;try dsimp only at h
  refine sk (qn (sq (bk (sq (sq ?_)))))
  refine rg rfl fun K j=>?_
  refine Bk.of (f:=Ax) (l:=p.Bw) hx6 ?_
  refine nS ?_
  revert h;refine gf (fun hc h=>?_) fun hc h=>?_
  rotate_left
  ·refine j _ _ (qn ?_)
   refine AWP.cond (Ai ?_)
   refine sq (ar rfl (qn (rt (qr (br (qr (qr ?_)))))))
   obtain rfl:=Aa h
   obtain rfl:=Af hJ6
   replace h:=An hO6
   refine br (qr ?_)
   cases h;exact en Tryz.results87
  refine Bk.of (f:=Ax) (l:=p.Bw) hx6 ?_
  refine nS ?_
  refine j _ _ (qn ?_)
  revert h;refine ca rfl (fun hc h=>?_) fun hc h=>?_
  ·refine sq (ar rfl (qn (rt (qr (br (qr (qr ?_)))))))
   obtain rfl:=Aa h
   obtain rfl:=Af hJ6
   replace h:=An hO6
   refine br (qr ?_)
   cases h;exact en Tryz.results87
  refine sk (qn (sq (sq ?_)))
  refine AWP.draw Tryz.mixed (by kernel_rfl) ?_;intro K j
  refine nS ?_
  revert h;refine gt (fun hc h=>?_) fun hc h=>?_
  ·refine Bk.of (f:=Ax) (l:=p.Bw) hx6 ?_
   refine nS ?_
   obtain⟨x_9,hx_9,h⟩:=Ah h
   refine Bk.of (f:=Ax) (l:=p.Bw) hx_9 ?_
   refine nS ?_
   refine j _ _ _ (by kernel_rfl) ?_
   refine qn ?_
   revert h;refine ca rfl (fun hc h=>?_) fun hc h=>?_
   ·refine sq (ar rfl (qn (rt (qr (br (qr (qr ?_)))))))
    obtain rfl:=Aa h
    obtain rfl:=Af hJ6
    replace h:=An hO6
    refine br (qr ?_)
    cases h;exact en Tryz.results87
   refine sk (qn (sq ?_))
   refine rg rfl fun K j=>?_
   refine Bk.of (f:=Ax) (l:=p.Bw) hx6 ?_
   refine nS ?_
   obtain⟨y10,hy10,h⟩:=Ah h
   refine Al.pure Tryz.call183 (Ux x_8.List_ hy10) rfl fun _ hr=>?_
   subst hr
   refine nS ?_
   refine j _ _ (qn (sq ?_))
   refine ar rfl (qn ?_)
   revert h;refine ca rfl (fun hc h=>?_) fun hc h=>?_
   ·refine sq (ar rfl (qn (rt (br (qr (qr ?_))))))
    obtain rfl:=Aa h
    obtain rfl:=Af hJ6
    replace h:=An hO6
    refine br (qr ?_)
    cases h;exact en Tryz.results87
   refine sk (bn (qn (ar rfl (qn ?_))))
   obtain rfl:=Aa h
   refine⟨(k6+1,(),()),⟨by dsimp only;omega,Ae hJ6⟩,by dsimp only;omega,?_,?_⟩
   ·exact cuw hw6
   exact cuw hw6
  refine j _ _ _ (by kernel_rfl) ?_
  refine qn ?_
  refine AWP.cond (Bg ?_)
  refine sk (qn (sq ?_))
  refine rg rfl fun K j=>?_
  refine Bk.of (f:=Ax) (l:=p.Bw) hx6 ?_
  refine nS ?_
  obtain⟨y11,hy11,h⟩:=Ah h
  refine Al.pure Tryz.call183 (Ux x_8.List_ hy11) rfl fun _ hr=>?_
  subst hr
  refine nS ?_
  refine j _ _ (qn (sq ?_))
  refine ar rfl (qn ?_)
  revert h;refine ca rfl (fun hc h=>?_) fun hc h=>?_
  ·refine sq (ar rfl (qn (rt (br (qr (qr ?_))))))
   obtain rfl:=Aa h
   obtain rfl:=Af hJ6
   replace h:=An hO6
   refine br (qr ?_)
   cases h;exact en Tryz.results87
  refine sk (bn (qn (ar rfl (qn ?_))))
  obtain rfl:=Aa h
  refine⟨(k6+1,(),()),⟨by dsimp only;omega,Ae hJ6⟩,by dsimp only;omega,?_,?_⟩
  ·exact cuw hw6
  exact cuw hw6
 rintro⟨⟨⟩,⟨⟩⟩ h
 try dsimp only at h ⊢
 unfold Oj at h;try dsimp only at h
 refine sq (sq (ar rfl (qn (bk ?_))))
 obtain⟨o1,hJ1,hO1⟩:=Ah h
 clear h
 refine AWP.Br (ι:=Nat×(Unit)×(Unit)) (fun zz=>[(1,.ptr 0 0),(5,.int .i64 ((zz.1:Nat):Int))]) (fun zz=>[.box [.sl 4 (p.Bw.map Ax),.sl 3 (p.Hazards.map A3)]]) (fun zz=>zz.1≤p.Hazards.length∧Am (Ol p) zz.1 ((p.Hazards).drop zz.1) zz.2.1=some o1) (fun zz=>p.Hazards.length - zz.1) (0,(),()) ⟨Nat.zero_le _,hJ1⟩ cu cu (fun x=>⟨rfl,rfl,rfl⟩) ?_
 clear hJ1
 rintro⟨k1,⟨⟩,⟨⟩⟩ ⟨hk1,hJ1⟩
 dsimp only at hk1 hJ1 ⊢
 refine sq (sq ?_)
 refine rg rfl fun K j=>?_
 intro hm
 refine j _ _ (qn ?_)
 refine AWP.cond (Aj (fun hc=>?_) (fun hc=>?_))
 rotate_left
 ·obtain rfl:=Bc hJ1 (fun hl=>by have:=Ajo hc;omega)
  have h:=Bb hO1;try dsimp only at h
  have hkl:p.Hazards.length=k1:=by have:=Ajo hc;omega
  subst hkl
  refine xt (qe (qe (bs (qn (sq (ar rfl (qn (rt ?_))))))))
  cases h;exact en Tryz.results87
 have hlt1:k1<p.Hazards.length:=by have:=Ajp hc;omega
 obtain⟨x_3,b1,hx1_,h,hJ1⟩:=A1 hJ1 hlt1
 have hx1:=Ay hx1_
 have hw1:=wk (k:=k1) (by omega)
 unfold Ol at h;try dsimp only at h
 refine sk (qn (sq (bk (sq ?_))))
 refine rg rfl fun K j=>?_
 refine Bk.of (f:=A3) (l:=p.Hazards) hx1 ?_
 refine nS ?_
 refine j _ _ (qn (sq (sq ?_)))
 refine rg rfl fun K j=>?_
 revert h;refine gf (fun hc h=>?_) fun hc h=>?_
 rotate_left
 ·refine j _ _ (qn ?_)
  refine AWP.cond (Ai ?_)
  refine sq (ar rfl (qn (rt (qr (br (qr (qr ?_)))))))
  obtain rfl:=Aa h
  obtain rfl:=Af hJ1
  replace h:=An hO1
  refine br (qr ?_)
  cases h;exact en Tryz.results87
 revert h;refine gf (fun hc h=>?_) fun hc h=>?_
 rotate_left
 ·refine j _ _ (qn ?_)
  refine AWP.cond (Ai ?_)
  refine sq (ar rfl (qn (rt (qr (br (qr (qr ?_)))))))
  obtain rfl:=Aa h
  obtain rfl:=Af hJ1
  replace h:=An hO1
  refine br (qr ?_)
  cases h;exact en Tryz.results87
 revert h;refine gf (fun hc h=>?_) fun hc h=>?_
 rotate_left
 ·refine j _ _ (qn ?_)
  refine AWP.cond (Ai ?_)
  refine sq (ar rfl (qn (rt (qr (br (qr (qr ?_)))))))
  obtain rfl:=Aa h
  obtain rfl:=Af hJ1
  replace h:=An hO1
  refine br (qr ?_)
  cases h;exact en Tryz.results87
 refine j _ _ (qn ?_)
 revert h;refine ca rfl (fun hc h=>?_) fun hc h=>?_
 ·refine sq (ar rfl (qn (rt (qr (br (qr (qr ?_)))))))
  obtain rfl:=Aa h
  obtain rfl:=Af hJ1
  replace h:=An hO1
  refine br (qr ?_)
  cases h;exact en Tryz.results87
 refine sk (qn (sq (sq (ar rfl (qn (bk ?_))))))
 obtain⟨o3,hJ3,hO3⟩:=Ah h
 clear h
 obtain⟨hn3,hJ3⟩:=Pe hJ3
 refine AWP.Br (ι:=Nat×(Unit)×(Unit)) (fun zz=>[(1,.ptr 0 0),(5,.int .i64 ((k1:Nat):Int)),(6,.ptr 1 0),(7,.int .i64 ((zz.1:Nat):Int))]) (fun zz=>[.box [.sl 4 (p.Bw.map Ax),.sl 3 (p.Hazards.map A3)],.box [.int .i64 x_3.ID,.int .i64 x_3.Run,.int .i64 x_3.At]]) (fun zz=>zz.1≤k1∧Am (Ks p x_3) zz.1 ((List.replicate k1 ()).drop zz.1) zz.2.1=some o3) (fun zz=>k1 - zz.1) (0,(),()) ⟨Nat.zero_le _,hJ3⟩ cu cu (fun x=>⟨rfl,rfl,rfl⟩) ?_
 clear hJ3
 rintro⟨k3,⟨⟩,⟨⟩⟩ ⟨hk3,hJ3⟩
 dsimp only at hk3 hJ3 ⊢
 refine sq (sq (ar rfl (qn ?_)))
 refine AWP.cond (Aj (fun hc=>?_) (fun hc=>?_))
 ·have hlt3:k3<k1:=by have:=Ajp hc;omega
  obtain⟨_,b3,_,h,hJ3⟩:=A1 hJ3 (by rw[List.length_replicate];exact hlt3)
  have hw3:=wk (k:=k3) (by omega)
  unfold Ks at h;try dsimp only at h
  refine sk (qn (sq (bk (sq ?_))))
  refine AWP.draw Tryz.mixed (by kernel_rfl) ?_;intro K j
  refine nS ?_
  obtain⟨x_5,hx_5,h⟩:=Ah h
  refine Bk.of (f:=A3) (l:=p.Hazards) hx_5 ?_
  refine nS ?_
  refine j _ _ _ (by kernel_rfl) ?_
  refine qn ?_
  revert h;refine ca rfl (fun hc h=>?_) fun hc h=>?_
  ·refine sq (ar rfl (qn (rt (br (qr (qr ?_))))))
   obtain rfl:=Aa h
   obtain rfl:=Af hJ3
   replace h:=An hO3
   refine br (qr (br (qr (qr ?_))))
   obtain rfl:=Aa h
   obtain rfl:=Af hJ1
   replace h:=An hO1
   refine br (qr ?_)
   cases h;exact en Tryz.results87
  refine sk (bn (qn (ar rfl (qn ?_))))
  obtain rfl:=Aa h
  refine⟨(k3+1,(),()),⟨by dsimp only;omega,Ae hJ3⟩,by dsimp only;omega,?_,?_⟩
  ·exact cuw hw3
  exact cuw hw3
 obtain rfl:=Bc hJ3 (fun hl=>by rw[List.length_replicate]at hl;have:=Ajo hc;omega)
 have h:=Bb hO3;try dsimp only at h
 have hkl:k1=k3:=by have:=Ajo hc;omega
 subst hkl
 refine xt (qe (qe (bs (qn (sq ?_)))))
 refine rg rfl fun K j=>?_
 obtain⟨y6,hy6,h⟩:=Ah h
 refine Al.pure Tryz.call184 (Za p x_3.Run hy6) rfl fun _ hr=>?_
 subst hr
 refine nS ?_
 refine j _ _ (qn ?_)
 revert h;refine ca rfl (fun hc h=>?_) fun hc h=>?_
 ·refine sq (ar rfl (qn (rt (br (qr (qr ?_))))))
  obtain rfl:=Aa h
  obtain rfl:=Af hJ1
  replace h:=An hO1
  refine br (qr ?_)
  cases h;exact en Tryz.results87
 refine sk (bn (qn (ar rfl (qn ?_))))
 obtain rfl:=Aa h
 refine⟨(k1+1,(),()),⟨by dsimp only;omega,Ae hJ1⟩,by dsimp only;omega,?_,?_⟩
 ·exact cuw hw1
 exact cuw hw1
def Sd (l:List Cx) (k0:Nat) (x_2:Cx) (sv:Unit):Option (Out (Unit) (Int)):=
 (bif (decide (x_2.Run<1))then some (Out.ret 2)else (bif (decide (9999<x_2.Run))then some (Out.ret 2)else (bif (decide (x_2.Groomed<(-1)))then some (Out.ret 2)else (bif (decide (20000000<x_2.Groomed))then some (Out.ret 2)else (bif (decide (x_2.Traffic<0))then some (Out.ret 2)else (bif (decide (1000000<x_2.Traffic))then some (Out.ret 2)else (bif (decide (0<((k0:Nat):Int)))then (Dl l (IntKind.i64.wrap (((k0:Nat):Int) - 1))).bind fun x_3=>(bif (decide (x_2.Run≤x_3.Run))then some (Out.ret 11)else some (Out.next ()))else some (Out.next ()))))))))
def Qp (l:List Cx):Option (Int):=
 (bif (decide (64<((l.length:Nat):Int)))then some 4 else(Am (Sd l) 0 l ()).bind fun o0=>o0.on fun s0=>some 0)
theorem c6 (l:List Cx) {r:Int} (h:Qp l=some r):Ad Tryz.prog 88 [.sl 3 (l.map Ba)] (·= .int .i64 r):=by
 refine Ad.nle (Ad.intro Tryz.func88 rfl rfl (by show _≤59;simp) ?_)
 unfold Qp at h
 refine nS (sq ?_)
 refine ar rfl (qn (sq (sq ?_)))
 refine rg rfl fun K j=>?_
 intro hm
 refine j _ _ (qn ?_)
 revert h;refine ca rfl (fun hc h=>?_) fun hc h=>?_
 ·refine sq (ar rfl (qn (rt (qr ?_))))
  cases h;exact en Tryz.results88
 refine sk (qn (sq (sq (ar rfl (qn (bk ?_))))))
 obtain⟨o0,hJ0,hO0⟩:=Ah h
 clear h
 refine AWP.Br (ι:=Nat×(Unit)×(Unit)) (fun zz=>[(0,.sl 3 (l.map Ba)),(3,.int .i64 ((zz.1:Nat):Int))]) (fun zz=>[]) (fun zz=>zz.1≤l.length∧Am (Sd l) zz.1 ((l).drop zz.1) zz.2.1=some o0) (fun zz=>l.length - zz.1) (0,(),()) ⟨Nat.zero_le _,hJ0⟩ cu cu (fun x=>⟨rfl,rfl,rfl⟩) ?_
 clear hJ0
 rintro⟨k0,⟨⟩,⟨⟩⟩ ⟨hk0,hJ0⟩
 dsimp only at hk0 hJ0 ⊢
 refine sq (sq ?_)
 refine rg rfl fun K j=>?_
 intro hm
 refine j _ _ (qn ?_)
 refine AWP.cond (Aj (fun hc=>?_) (fun hc=>?_))
 rotate_left
 ·obtain rfl:=Bc hJ0 (fun hl=>by have:=Ajo hc;omega)
  have h:=Bb hO0;try dsimp only at h
  have hkl:l.length=k0:=by have:=Ajo hc;omega
  subst hkl
  refine xt (qe (qe (bs (qn (sq (ar rfl (qn (rt ?_))))))))
  cases h;exact en Tryz.results88
 have hlt0:k0<l.length:=by have:=Ajp hc;omega
 obtain⟨x_2,b0,hx0_,h,hJ0⟩:=A1 hJ0 hlt0
 have hx0:=Ay hx0_
 have hw0:=wk (k:=k0) (by omega)
 unfold Sd at h;try dsimp only at h
 refine sk (qn (sq (bk (sq ?_))))
 refine rg rfl fun K j=>?_
 refine Bk.of (f:=Ba) (l:=l) hx0 ?_
 refine nS ?_
 refine j _ _ (qn (sq (sq ?_)))
 refine rg rfl fun K j=>?_
 revert h;refine gf (fun hc h=>?_) fun hc h=>?_
 rotate_left
 ·refine j _ _ (qn ?_)
  refine AWP.cond (Ai ?_)
  refine sq (ar rfl (qn (rt (qr (br (qr (qr ?_)))))))
  obtain rfl:=Aa h
  obtain rfl:=Af hJ0
  replace h:=An hO0
  refine br (qr ?_)
  cases h;exact en Tryz.results88
 revert h;refine gf (fun hc h=>?_) fun hc h=>?_
 rotate_left
 ·refine j _ _ (qn ?_)
  refine AWP.cond (Ai ?_)
  refine sq (ar rfl (qn (rt (qr (br (qr (qr ?_)))))))
  obtain rfl:=Aa h
  obtain rfl:=Af hJ0
  replace h:=An hO0
  refine br (qr ?_)
  cases h;exact en Tryz.results88
 revert h;refine gf (fun hc h=>?_) fun hc h=>?_
 rotate_left
 ·refine j _ _ (qn ?_)
  refine AWP.cond (Ai ?_)
  refine sq (ar rfl (qn (rt (qr (br (qr (qr ?_)))))))
  obtain rfl:=Aa h
  obtain rfl:=Af hJ0
  replace h:=An hO0
  refine br (qr ?_)
  cases h;exact en Tryz.results88
 revert h;refine gf (fun hc h=>?_) fun hc h=>?_
 rotate_left
 ·refine j _ _ (qn ?_)
  refine AWP.cond (Ai ?_)
  refine sq (ar rfl (qn (rt (qr (br (qr (qr ?_)))))))
  obtain rfl:=Aa h
  obtain rfl:=Af hJ0
  replace h:=An hO0
  refine br (qr ?_)
  cases h;exact en Tryz.results88
 revert h;refine gf (fun hc h=>?_) fun hc h=>?_
 rotate_left
 ·refine j _ _ (qn ?_)
  refine AWP.cond (Ai ?_)
  refine sq (ar rfl (qn (rt (qr (br (qr (qr ?_)))))))
  obtain rfl:=Aa h
  obtain rfl:=Af hJ0
  replace h:=An hO0
  refine br (qr ?_)
  cases h;exact en Tryz.results88
 refine j _ _ (qn ?_)
 revert h;refine ca rfl (fun hc h=>?_) fun hc h=>?_
 ·refine sq (ar rfl (qn (rt (qr (br (qr (qr ?_)))))))
  obtain rfl:=Aa h
  obtain rfl:=Af hJ0
  replace h:=An hO0
  refine br (qr ?_)
  cases h;exact en Tryz.results88
 refine sk (qn (sq ?_))
 refine AWP.draw Tryz.mixed (by kernel_rfl) ?_;intro K j
 refine nS ?_
 revert h;refine gt (fun hc h=>?_) fun hc h=>?_
 ·obtain⟨x_3,hx_3,h⟩:=Ah h
  refine Bk.of (f:=Ba) (l:=l) hx_3 ?_
  refine nS ?_
  refine j _ _ _ (by kernel_rfl) ?_
  refine qn ?_
  revert h;refine ca rfl (fun hc h=>?_) fun hc h=>?_
  ·refine sq (ar rfl (qn (rt (br (qr (qr ?_))))))
   obtain rfl:=Aa h
   obtain rfl:=Af hJ0
   replace h:=An hO0
   refine br (qr ?_)
   cases h;exact en Tryz.results88
  refine sk (bn (qn (ar rfl (qn ?_))))
  obtain rfl:=Aa h
  refine⟨(k0+1,(),()),⟨by dsimp only;omega,Ae hJ0⟩,by dsimp only;omega,?_,?_⟩
  ·exact cuw hw0
  exact cuw hw0
 refine j _ _ _ (by kernel_rfl) ?_
 refine qn ?_
 refine AWP.cond (Bg ?_)
 refine sk (bn (qn (ar rfl (qn ?_))))
 obtain rfl:=Aa h
 refine⟨(k0+1,(),()),⟨by dsimp only;omega,Ae hJ0⟩,by dsimp only;omega,?_,?_⟩
 ·exact cuw hw0
 exact cuw hw0
def Ra (l:List Int) (most:Int) (k0:Nat) (x_2:Int) (sv:Unit):Option (Out (Unit) (Bool)):=
 (bif (decide (x_2<1))then some (Out.ret false)else (bif (decide (most<x_2))then some (Out.ret false)else (bif (decide (0<((k0:Nat):Int)))then (Dl l (IntKind.i64.wrap (((k0:Nat):Int) - 1))).bind fun x_3=>(bif (decide (x_2≤x_3))then some (Out.ret false)else some (Out.next ()))else some (Out.next ()))))
def Oq (l:List Int) (most:Int):Option (Bool):=
 (Am (Ra l most) 0 l ()).bind fun o0=>o0.on fun s0=>some true
theorem Ta (l:List Int) (most:Int) {r:Bool} (h:Oq l most=some r):Ad Tryz.prog 185 [.sl 1 (l.map Aw),.int .i64 most] (·= .bool r):=by
 refine Ad.nle (Ad.intro Tryz.func185 rfl rfl (by show _≤41;simp) ?_)
 unfold Oq at h
 refine nS (sq ?_)
 refine ar rfl (qn (sq (sq ?_)))
 refine ar rfl (qn (bk ?_))
 obtain⟨o0,hJ0,hO0⟩:=Ah h
 clear h
 refine AWP.Br (ι:=Nat×(Unit)×(Unit)) (fun zz=>[(0,.sl 1 (l.map Aw)),(1,.int .i64 most),(5,.int .i64 ((zz.1:Nat):Int))]) (fun zz=>[]) (fun zz=>zz.1≤l.length∧Am (Ra l most) zz.1 ((l).drop zz.1) zz.2.1=some o0) (fun zz=>l.length - zz.1) (0,(),()) ⟨Nat.zero_le _,hJ0⟩ cu cu (fun x=>⟨rfl,rfl,rfl⟩) ?_
 clear hJ0
 rintro⟨k0,⟨⟩,⟨⟩⟩ ⟨hk0,hJ0⟩
 dsimp only at hk0 hJ0 ⊢
 refine sq (sq ?_)
 refine rg rfl fun K j=>?_
 intro hm
 refine j _ _ (qn ?_)
 refine AWP.cond (Aj (fun hc=>?_) (fun hc=>?_))
 rotate_left
 ·obtain rfl:=Bc hJ0 (fun hl=>by have:=Ajo hc;omega)
  have h:=Bb hO0;try dsimp only at h
  have hkl:l.length=k0:=by have:=Ajo hc;omega
  subst hkl
  refine xt (qe (qe (bs (qn (sq (ar rfl (qn (rt ?_))))))))
  cases h;exact en Tryz.results185
 have hlt0:k0<l.length:=by have:=Ajp hc;omega
 obtain⟨x_2,b0,hx0_,h,hJ0⟩:=A1 hJ0 hlt0
 have hx0:=Ay hx0_
 have hw0:=wk (k:=k0) (by omega)
 unfold Ra at h;try dsimp only at h
 refine sk (qn (sq (bk (sq ?_))))
 refine AWP.draw Tryz.mixed (by kernel_rfl) ?_;intro K j
 refine nS ?_
 refine Bk.of (f:=Aw) (l:=l) hx0 ?_
 refine nS ?_
 revert h;refine gf (fun hc h=>?_) fun hc h=>?_
 rotate_left
 ·refine j _ _ _ (by kernel_rfl) ?_
  refine qn ?_
  refine AWP.cond (Ai ?_)
  refine sq (ar rfl (qn (rt (br (qr (qr ?_))))))
  obtain rfl:=Aa h
  obtain rfl:=Af hJ0
  replace h:=An hO0
  refine br (qr ?_)
  cases h;exact en Tryz.results185
 refine Bk.of (f:=Aw) (l:=l) hx0 ?_
 refine nS ?_
 revert h;refine gf (fun hc h=>?_) fun hc h=>?_
 rotate_left
 ·refine j _ _ _ (by kernel_rfl) ?_
  refine qn ?_
  refine AWP.cond (Ai ?_)
  refine sq (ar rfl (qn (rt (br (qr (qr ?_))))))
  obtain rfl:=Aa h
  obtain rfl:=Af hJ0
  replace h:=An hO0
  refine br (qr ?_)
  cases h;exact en Tryz.results185
 revert h;refine gt (fun hc h=>?_) fun hc h=>?_
 ·refine Bk.of (f:=Aw) (l:=l) hx0 ?_
  refine nS ?_
  obtain⟨x_3,hx_3,h⟩:=Ah h
  refine Bk.of (f:=Aw) (l:=l) hx_3 ?_
  refine nS ?_
  refine j _ _ _ (by kernel_rfl) ?_
  refine qn ?_
  revert h;refine ca rfl (fun hc h=>?_) fun hc h=>?_
  ·refine sq (ar rfl (qn (rt (br (qr (qr ?_))))))
   obtain rfl:=Aa h
   obtain rfl:=Af hJ0
   replace h:=An hO0
   refine br (qr ?_)
   cases h;exact en Tryz.results185
  refine sk (bn (qn (ar rfl (qn ?_))))
  obtain rfl:=Aa h
  refine⟨(k0+1,(),()),⟨by dsimp only;omega,Ae hJ0⟩,by dsimp only;omega,?_,?_⟩
  ·exact cuw hw0
  exact cuw hw0
 refine j _ _ _ (by kernel_rfl) ?_
 refine qn ?_
 refine AWP.cond (Bg ?_)
 refine sk (bn (qn (ar rfl (qn ?_))))
 obtain rfl:=Aa h
 refine⟨(k0+1,(),()),⟨by dsimp only;omega,Ae hJ0⟩,by dsimp only;omega,?_,?_⟩
 ·exact cuw hw0
 exact cuw hw0
def F1 (l:List Bf) (x_2:Bf) (k2:Nat) (_x:Unit) (sv:Unit):Option (Out (Unit) (Out (Unit) (Int))):=
 (Dl l ((k2:Nat):Int)).bind fun x_4=>(bif (decide (x_4.ID=x_2.ID))then some (Out.ret (Out.ret 7))else some (Out.next ()))
def Ho (l:List Bf) (k0:Nat) (x_2:Bf) (sv:Unit):Option (Out (Unit) (Int)):=
 (bif (decide (x_2.ID<1))then some (Out.ret 2)else (bif (decide (9999<x_2.ID))then some (Out.ret 2)else (bif (decide (x_2.Limit<4))then some (Out.ret 2)else (bif (decide (100000<x_2.Limit))then some (Out.ret 2)else (bif (decide (x_2.Load<0))then some (Out.ret 2)else (bif (decide (100000<x_2.Load))then some (Out.ret 2)else (bif (decide (x_2.Controlled<(-1)))then some (Out.ret 2)else (bif (decide (20000000<x_2.Controlled))then some (Out.ret 2)else (Kc (F1 l x_2) k0 ()).bind fun o2=>o2.on fun s2=>(bif (decide (((x_2.Zones.length:Nat):Int)=0))then some (Out.ret 1)else (Oq x_2.Zones 32).bind fun y5=>(bif (!y5)then some (Out.ret 1)else (Oq x_2.Lifts 9999).bind fun y6=>(bif (!y6)then some (Out.ret 1)else some (Out.next ()))))))))))))
def Nz (l:List Bf):Option (Int):=
 (bif (decide (32<((l.length:Nat):Int)))then some 4 else(Am (Ho l) 0 l ()).bind fun o0=>o0.on fun s0=>some 0)
theorem cV (l:List Bf) {r:Int} (h:Nz l=some r):Ad Tryz.prog 89 [.sl 6 (l.map A5)] (·= .int .i64 r):=by
 refine Ad.nle (Ad.intro Tryz.func89 rfl rfl (by show _≤86;simp) ?_)
 unfold Nz at h
 refine nS (sq ?_)
 refine ar rfl (qn (sq (sq ?_)))
 refine rg rfl fun K j=>?_
 intro hm
 refine j _ _ (qn ?_)
 revert h;refine ca rfl (fun hc h=>?_) fun hc h=>?_
 ·refine sq (ar rfl (qn (rt (qr ?_))))
  cases h;exact en Tryz.results89
 refine sk (qn (sq (sq (ar rfl (qn (bk ?_))))))
 obtain⟨o0,hJ0,hO0⟩:=Ah h
 clear h
 refine AWP.Br (ι:=Nat×(Unit)×(Unit)) (fun zz=>[(0,.sl 6 (l.map A5)),(3,.int .i64 ((zz.1:Nat):Int))]) (fun zz=>[]) (fun zz=>zz.1≤l.length∧Am (Ho l) zz.1 ((l).drop zz.1) zz.2.1=some o0) (fun zz=>l.length - zz.1) (0,(),()) ⟨Nat.zero_le _,hJ0⟩ cu cu (fun x=>⟨rfl,rfl,rfl⟩) ?_
 clear hJ0
 rintro⟨k0,⟨⟩,⟨⟩⟩ ⟨hk0,hJ0⟩
 dsimp only at hk0 hJ0 ⊢
 refine sq (sq ?_)
 refine rg rfl fun K j=>?_
 intro hm
 refine j _ _ (qn ?_)
 refine AWP.cond (Aj (fun hc=>?_) (fun hc=>?_))
 rotate_left
 ·obtain rfl:=Bc hJ0 (fun hl=>by have:=Ajo hc;omega)
  have h:=Bb hO0;try dsimp only at h
  have hkl:l.length=k0:=by have:=Ajo hc;omega
  subst hkl
  refine xt (qe (qe (bs (qn (sq (ar rfl (qn (rt ?_))))))))
  cases h;exact en Tryz.results89
 have hlt0:k0<l.length:=by have:=Ajp hc;omega
 obtain⟨x_2,b0,hx0_,h,hJ0⟩:=A1 hJ0 hlt0
 have hx0:=Ay hx0_
 have hw0:=wk (k:=k0) (by omega)
 unfold Ho at h;try dsimp only at h
 refine sk (qn (sq (bk (sq ?_))))
 refine rg rfl fun K j=>?_
 refine Bk.of (f:=A5) (l:=l) hx0 ?_
 refine nS ?_
 refine j _ _ (qn (sq (sq ?_)))
 refine rg rfl fun K j=>?_
 revert h;refine gf (fun hc h=>?_) fun hc h=>?_
 rotate_left
 ·refine j _ _ (qn ?_)
  refine AWP.cond (Ai ?_)
  refine sq (ar rfl (qn (rt (qr (br (qr (qr ?_)))))))
  obtain rfl:=Aa h
  obtain rfl:=Af hJ0
  replace h:=An hO0
  refine br (qr ?_)
  cases h;exact en Tryz.results89
 revert h;refine gf (fun hc h=>?_) fun hc h=>?_
 rotate_left
 ·refine j _ _ (qn ?_)
  refine AWP.cond (Ai ?_)
  refine sq (ar rfl (qn (rt (qr (br (qr (qr ?_)))))))
  obtain rfl:=Aa h
  obtain rfl:=Af hJ0
  replace h:=An hO0
  refine br (qr ?_)
  cases h;exact en Tryz.results89
 revert h;refine gf (fun hc h=>?_) fun hc h=>?_
 rotate_left
 ·refine j _ _ (qn ?_)
  refine AWP.cond (Ai ?_)
  refine sq (ar rfl (qn (rt (qr (br (qr (qr ?_)))))))
  obtain rfl:=Aa h
  obtain rfl:=Af hJ0
  replace h:=An hO0
  refine br (qr ?_)
  cases h;exact en Tryz.results89
 revert h;refine gf (fun hc h=>?_) fun hc h=>?_
 rotate_left
 ·refine j _ _ (qn ?_)
  refine AWP.cond (Ai ?_)
  refine sq (ar rfl (qn (rt (qr (br (qr (qr ?_)))))))
  obtain rfl:=Aa h
  obtain rfl:=Af hJ0
  replace h:=An hO0
  refine br (qr ?_)
  cases h;exact en Tryz.results89
 revert h;refine gf (fun hc h=>?_) fun hc h=>?_
 rotate_left
 ·refine j _ _ (qn ?_)
  refine AWP.cond (Ai ?_)
  refine sq (ar rfl (qn (rt (qr (br (qr (qr ?_)))))))
  obtain rfl:=Aa h
  obtain rfl:=Af hJ0
  replace h:=An hO0
  refine br (qr ?_)
  cases h;exact en Tryz.results89
 revert h;refine gf (fun hc h=>?_) fun hc h=>?_
 rotate_left
 ·refine j _ _ (qn ?_)
  refine AWP.cond (Ai ?_)
  refine sq (ar rfl (qn (rt (qr (br (qr (qr ?_)))))))
  obtain rfl:=Aa h
  obtain rfl:=Af hJ0
  replace h:=An hO0
  refine br (qr ?_)
  cases h;exact en Tryz.results89
 revert h;refine gf (fun hc h=>?_) fun hc h=>?_
 rotate_left
 ·refine j _ _ (qn ?_)
  refine AWP.cond (Ai ?_)
  refine sq (ar rfl (qn (rt (qr (br (qr (qr ?_)))))))
  obtain rfl:=Aa h
  obtain rfl:=Af hJ0
  replace h:=An hO0
  refine br (qr ?_)
  cases h;exact en Tryz.results89
 refine j _ _ (qn ?_)
 revert h;refine ca rfl (fun hc h=>?_) fun hc h=>?_
 ·refine sq (ar rfl (qn (rt (qr (br (qr (qr ?_)))))))
  obtain rfl:=Aa h
  obtain rfl:=Af hJ0
  replace h:=An hO0
  refine br (qr ?_)
  cases h;exact en Tryz.results89
 refine sk (qn (sq (sq (ar rfl (qn (bk ?_))))))
 obtain⟨o2,hJ2,hO2⟩:=Ah h
 clear h
 obtain⟨hn2,hJ2⟩:=Pe hJ2
 refine AWP.Br (ι:=Nat×(Unit)×(Unit)) (fun zz=>[(0,.sl 6 (l.map A5)),(3,.int .i64 ((k0:Nat):Int)),(4,.ptr 0 0),(5,.int .i64 ((zz.1:Nat):Int))]) (fun zz=>[.box [.int .i64 x_2.ID,.sl 1 (x_2.Zones.map Aw),.sl 1 (x_2.Lifts.map Aw),.int .i64 x_2.Limit,.int .i64 x_2.Load,.int .i64 x_2.Controlled]]) (fun zz=>zz.1≤k0∧Am (F1 l x_2) zz.1 ((List.replicate k0 ()).drop zz.1) zz.2.1=some o2) (fun zz=>k0 - zz.1) (0,(),()) ⟨Nat.zero_le _,hJ2⟩ cu cu (fun x=>⟨rfl,rfl,rfl⟩) ?_
 clear hJ2
 rintro⟨k2,⟨⟩,⟨⟩⟩ ⟨hk2,hJ2⟩
 dsimp only at hk2 hJ2 ⊢
 refine sq (sq (ar rfl (qn ?_)))
 refine AWP.cond (Aj (fun hc=>?_) (fun hc=>?_))
 ·have hlt2:k2<k0:=by have:=Ajp hc;omega
  obtain⟨_,b2,_,h,hJ2⟩:=A1 hJ2 (by rw[List.length_replicate];exact hlt2)
  have hw2:=wk (k:=k2) (by omega)
  unfold F1 at h;try dsimp only at h
  refine sk (qn (sq (bk (sq ?_))))
  refine AWP.draw Tryz.mixed (by kernel_rfl) ?_;intro K j
  refine nS ?_
  obtain⟨x_4,hx_4,h⟩:=Ah h
  refine Bk.of (f:=A5) (l:=l) hx_4 ?_
  refine nS ?_
  refine j _ _ _ (by kernel_rfl) ?_
  refine qn ?_
  revert h;refine ca rfl (fun hc h=>?_) fun hc h=>?_
  ·refine sq (ar rfl (qn (rt (br (qr (qr ?_))))))
   obtain rfl:=Aa h
   obtain rfl:=Af hJ2
   replace h:=An hO2
   refine br (qr (br (qr (qr ?_))))
   obtain rfl:=Aa h
   obtain rfl:=Af hJ0
   replace h:=An hO0
   refine br (qr ?_)
   cases h;exact en Tryz.results89
  refine sk (bn (qn (ar rfl (qn ?_))))
  obtain rfl:=Aa h
  refine⟨(k2+1,(),()),⟨by dsimp only;omega,Ae hJ2⟩,by dsimp only;omega,?_,?_⟩
  ·exact cuw hw2
  exact cuw hw2
 obtain rfl:=Bc hJ2 (fun hl=>by rw[List.length_replicate]at hl;have:=Ajo hc;omega)
 have h:=Bb hO2;try dsimp only at h
 have hkl:k0=k2:=by have:=Ajo hc;omega
 subst hkl
 refine xt (qe (qe (bs (qn (sq ?_)))))
 refine rg rfl fun K j=>?_
 intro hm
 revert h;refine gf (fun hc h=>?_) fun hc h=>?_
 rotate_left
 ·refine j _ _ (qn ?_)
  refine AWP.cond (Ai ?_)
  refine sq (ar rfl (qn (rt (br (qr (qr ?_))))))
  obtain rfl:=Aa h
  obtain rfl:=Af hJ0
  replace h:=An hO0
  refine br (qr ?_)
  cases h;exact en Tryz.results89
 obtain⟨y5,hy5,h⟩:=Ah h
 refine Al.pure Tryz.call185 (Ta x_2.Zones 32 hy5) rfl fun _ hr=>?_
 subst hr
 refine nS ?_
 revert h;refine gf (fun hc h=>?_) fun hc h=>?_
 ·obtain⟨y6,hy6,h⟩:=Ah h
  refine Al.pure Tryz.call185 (Ta x_2.Lifts 9999 hy6) rfl fun _ hr=>?_
  subst hr
  refine nS ?_
  refine j _ _ (qn ?_)
  revert h;refine ca rfl (fun hc h=>?_) fun hc h=>?_
  ·refine sq (ar rfl (qn (rt (br (qr (qr ?_))))))
   obtain rfl:=Aa h
   obtain rfl:=Af hJ0
   replace h:=An hO0
   refine br (qr ?_)
   cases h;exact en Tryz.results89
  refine sk (bn (qn (ar rfl (qn ?_))))
  obtain rfl:=Aa h
  refine⟨(k0+1,(),()),⟨by dsimp only;omega,Ae hJ0⟩,by dsimp only;omega,?_,?_⟩
  ·exact cuw hw0
  exact cuw hw0
 refine j _ _ (qn ?_)
 refine AWP.cond (Ai ?_)
 refine sq (ar rfl (qn (rt (br (qr (qr ?_))))))
 obtain rfl:=Aa h
 obtain rfl:=Af hJ0
 replace h:=An hO0
 refine br (qr ?_)
 cases h;exact en Tryz.results89
def Hp (l:List Int) (k0:Nat) (x_2:Int) (sv:Unit):Option (Out (Unit) (Bool)):=
 (bif (decide (x_2<1))then some (Out.ret false)else (bif (decide (32<x_2))then some (Out.ret false)else (bif (decide (0<((k0:Nat):Int)))then (Dl l (IntKind.i64.wrap (((k0:Nat):Int) - 1))).bind fun x_3=>(bif (decide (x_2≤x_3))then some (Out.ret false)else some (Out.next ()))else some (Out.next ()))))
def Kx (l:List Int):Option (Bool):=
 (Am (Hp l) 0 l ()).bind fun o0=>o0.on fun s0=>some (decide (0<((l.length:Nat):Int)))
theorem cX (l:List Int) {r:Bool} (h:Kx l=some r):Ad Tryz.prog 186 [.sl 1 (l.map Aw)] (·= .bool r):=by
 refine Ad.nle (Ad.intro Tryz.func186 rfl rfl (by show _≤41;simp) ?_)
 unfold Kx at h
 refine nS (sq ?_)
 refine ar rfl (qn (sq (sq ?_)))
 refine ar rfl (qn (bk ?_))
 obtain⟨o0,hJ0,hO0⟩:=Ah h
 clear h
 refine AWP.Br (ι:=Nat×(Unit)×(Unit)) (fun zz=>[(0,.sl 1 (l.map Aw)),(3,.int .i64 ((zz.1:Nat):Int))]) (fun zz=>[]) (fun zz=>zz.1≤l.length∧Am (Hp l) zz.1 ((l).drop zz.1) zz.2.1=some o0) (fun zz=>l.length - zz.1) (0,(),()) ⟨Nat.zero_le _,hJ0⟩ cu cu (fun x=>⟨rfl,rfl,rfl⟩) ?_
 clear hJ0
 rintro⟨k0,⟨⟩,⟨⟩⟩ ⟨hk0,hJ0⟩
 dsimp only at hk0 hJ0 ⊢
 refine sq (sq ?_)
 refine rg rfl fun K j=>?_
 intro hm
 refine j _ _ (qn ?_)
 refine AWP.cond (Aj (fun hc=>?_) (fun hc=>?_))
 rotate_left
 ·obtain rfl:=Bc hJ0 (fun hl=>by have:=Ajo hc;omega)
  have h:=Bb hO0;try dsimp only at h
  have hkl:l.length=k0:=by have:=Ajo hc;omega
  subst hkl
  refine xt (qe (qe (bs (qn (sq ?_)))))
  refine rg rfl fun K j=>?_
  intro hm
  refine j _ _ (qn (rt ?_))
  cases h;exact en Tryz.results186
 have hlt0:k0<l.length:=by have:=Ajp hc;omega
 obtain⟨x_2,b0,hx0_,h,hJ0⟩:=A1 hJ0 hlt0
 have hx0:=Ay hx0_
 have hw0:=wk (k:=k0) (by omega)
 unfold Hp at h;try dsimp only at h
 refine sk (qn (sq (bk (sq ?_))))
 refine AWP.draw Tryz.mixed (by kernel_rfl) ?_;intro K j
 refine nS ?_
 refine Bk.of (f:=Aw) (l:=l) hx0 ?_
 refine nS ?_
 revert h;refine gf (fun hc h=>?_) fun hc h=>?_
 rotate_left
 ·refine j _ _ _ (by kernel_rfl) ?_
  refine qn ?_
  refine AWP.cond (Ai ?_)
  refine sq (ar rfl (qn (rt (br (qr (qr ?_))))))
  obtain rfl:=Aa h
  obtain rfl:=Af hJ0
  replace h:=An hO0
  refine br (qr ?_)
  cases h;exact en Tryz.results186
 refine Bk.of (f:=Aw) (l:=l) hx0 ?_
 refine nS ?_
 revert h;refine gf (fun hc h=>?_) fun hc h=>?_
 rotate_left
 ·refine j _ _ _ (by kernel_rfl) ?_
  refine qn ?_
  refine AWP.cond (Ai ?_)
  refine sq (ar rfl (qn (rt (br (qr (qr ?_))))))
  obtain rfl:=Aa h
  obtain rfl:=Af hJ0
  replace h:=An hO0
  refine br (qr ?_)
  cases h;exact en Tryz.results186
 revert h;refine gt (fun hc h=>?_) fun hc h=>?_
 ·refine Bk.of (f:=Aw) (l:=l) hx0 ?_
  refine nS ?_
  obtain⟨x_3,hx_3,h⟩:=Ah h
  refine Bk.of (f:=Aw) (l:=l) hx_3 ?_
  refine nS ?_
  refine j _ _ _ (by kernel_rfl) ?_
  refine qn ?_
  revert h;refine ca rfl (fun hc h=>?_) fun hc h=>?_
  ·refine sq (ar rfl (qn (rt (br (qr (qr ?_))))))
   obtain rfl:=Aa h
   obtain rfl:=Af hJ0
   replace h:=An hO0
   refine br (qr ?_)
   cases h;exact en Tryz.results186
  refine sk (bn (qn (ar rfl (qn ?_))))
  obtain rfl:=Aa h
  refine⟨(k0+1,(),()),⟨by dsimp only;omega,Ae hJ0⟩,by dsimp only;omega,?_,?_⟩
  ·exact cuw hw0
  exact cuw hw0
 refine j _ _ _ (by kernel_rfl) ?_
 refine qn ?_
 refine AWP.cond (Bg ?_)
 refine sk (bn (qn (ar rfl (qn ?_))))
 obtain rfl:=Aa h
 refine⟨(k0+1,(),()),⟨by dsimp only;omega,Ae hJ0⟩,by dsimp only;omega,?_,?_⟩
 ·exact cuw hw0
 exact cuw hw0
def E0 (l:List Bp) (k0:Nat) (x_2:Bp) (sv:Unit):Option (Out (Unit) (Int)):=
 (bif (decide (x_2.Version<1))then some (Out.ret 2)else (bif (decide (1000000<x_2.Version))then some (Out.ret 2)else (bif (decide (x_2.Span.From<0))then some (Out.ret 2)else (bif (decide (x_2.Span.To≤x_2.Span.From))then some (Out.ret 2)else (bif (decide (20000000<x_2.Span.To))then some (Out.ret 2)else (bif (decide (x_2.Low<0))then some (Out.ret 2)else (bif (decide (x_2.High≤x_2.Low))then some (Out.ret 2)else (bif (decide (6000<x_2.High))then some (Out.ret 2)else (bif (decide (x_2.Level<1))then some (Out.ret 2)else (bif (decide (5<x_2.Level))then some (Out.ret 2)else (Kx x_2.Zones).bind fun y3=>(bif (!y3)then some (Out.ret 1)else (bif (decide (0<((k0:Nat):Int)))then (Dl l (IntKind.i64.wrap (((k0:Nat):Int) - 1))).bind fun x_4=>(bif (decide (x_2.Version<x_4.Version))then some (Out.ret 11)else some (Out.next ()))else some (Out.next ())))))))))))))
def Ii (l:List Bp):Option (Int):=
 (bif (decide (64<((l.length:Nat):Int)))then some 4 else(Am (E0 l) 0 l ()).bind fun o0=>o0.on fun s0=>some 0)
theorem cY (l:List Bp) {r:Int} (h:Ii l=some r):Ad Tryz.prog 90 [.sl 7 (l.map Au)] (·= .int .i64 r):=by
 refine Ad.nle (Ad.intro Tryz.func90 rfl rfl (by show _≤91;simp) ?_)
 unfold Ii at h
 refine nS (sq ?_)
 refine ar rfl (qn (sq (sq ?_)))
 refine rg rfl fun K j=>?_
 intro hm
 refine j _ _ (qn ?_)
 revert h;refine ca rfl (fun hc h=>?_) fun hc h=>?_
 ·refine sq (ar rfl (qn (rt (qr ?_))))
  cases h;exact en Tryz.results90
 refine sk (qn (sq (sq (ar rfl (qn (bk ?_))))))
 obtain⟨o0,hJ0,hO0⟩:=Ah h
 clear h
 refine AWP.Br (ι:=Nat×(Unit)×(Unit)) (fun zz=>[(0,.sl 7 (l.map Au)),(3,.int .i64 ((zz.1:Nat):Int))]) (fun zz=>[]) (fun zz=>zz.1≤l.length∧Am (E0 l) zz.1 ((l).drop zz.1) zz.2.1=some o0) (fun zz=>l.length - zz.1) (0,(),()) ⟨Nat.zero_le _,hJ0⟩ cu cu (fun x=>⟨rfl,rfl,rfl⟩) ?_
 clear hJ0
 rintro⟨k0,⟨⟩,⟨⟩⟩ ⟨hk0,hJ0⟩
 dsimp only at hk0 hJ0 ⊢
 refine sq (sq ?_)
 refine rg rfl fun K j=>?_
 intro hm
 refine j _ _ (qn ?_)
 refine AWP.cond (Aj (fun hc=>?_) (fun hc=>?_))
 rotate_left
 ·obtain rfl:=Bc hJ0 (fun hl=>by have:=Ajo hc;omega)
  have h:=Bb hO0;try dsimp only at h
  have hkl:l.length=k0:=by have:=Ajo hc;omega
  subst hkl
  refine xt (qe (qe (bs (qn (sq (ar rfl (qn (rt ?_))))))))
  cases h;exact en Tryz.results90
 have hlt0:k0<l.length:=by have:=Ajp hc;omega
 obtain⟨x_2,b0,hx0_,h,hJ0⟩:=A1 hJ0 hlt0
 have hx0:=Ay hx0_
 have hw0:=wk (k:=k0) (by omega)
 unfold E0 at h;try dsimp only at h
 refine sk (qn (sq (bk (sq ?_))))
 refine rg rfl fun K j=>?_
 refine Bk.of (f:=Au) (l:=l) hx0 ?_
 refine nS ?_
 refine j _ _ (qn (sq (sq ?_)))
 refine rg rfl fun K j=>?_
 revert h;refine gf (fun hc h=>?_) fun hc h=>?_
 rotate_left
 ·refine j _ _ (qn ?_)
  refine AWP.cond (Ai ?_)
  refine sq (ar rfl (qn (rt (qr (br (qr (qr ?_)))))))
  obtain rfl:=Aa h
  obtain rfl:=Af hJ0
  replace h:=An hO0
  refine br (qr ?_)
  cases h;exact en Tryz.results90
 revert h;refine gf (fun hc h=>?_) fun hc h=>?_
 rotate_left
 ·refine j _ _ (qn ?_)
  refine AWP.cond (Ai ?_)
  refine sq (ar rfl (qn (rt (qr (br (qr (qr ?_)))))))
  obtain rfl:=Aa h
  obtain rfl:=Af hJ0
  replace h:=An hO0
  refine br (qr ?_)
  cases h;exact en Tryz.results90
 revert h;refine gf (fun hc h=>?_) fun hc h=>?_
 rotate_left
 ·refine j _ _ (qn ?_)
  refine AWP.cond (Ai ?_)
  refine sq (ar rfl (qn (rt (qr (br (qr (qr ?_)))))))
  obtain rfl:=Aa h
  obtain rfl:=Af hJ0
  replace h:=An hO0
  refine br (qr ?_)
  cases h;exact en Tryz.results90
 revert h;refine gf (fun hc h=>?_) fun hc h=>?_
 rotate_left
 ·refine j _ _ (qn ?_)
  refine AWP.cond (Ai ?_)
  refine sq (ar rfl (qn (rt (qr (br (qr (qr ?_)))))))
  obtain rfl:=Aa h
  obtain rfl:=Af hJ0
  replace h:=An hO0
  refine br (qr ?_)
  cases h;exact en Tryz.results90
 revert h;refine gf (fun hc h=>?_) fun hc h=>?_
 rotate_left
 ·refine j _ _ (qn ?_)
  refine AWP.cond (Ai ?_)
  refine sq (ar rfl (qn (rt (qr (br (qr (qr ?_)))))))
  obtain rfl:=Aa h
  obtain rfl:=Af hJ0
  replace h:=An hO0
  refine br (qr ?_)
  cases h;exact en Tryz.results90
 revert h;refine gf (fun hc h=>?_) fun hc h=>?_
 rotate_left
 ·refine j _ _ (qn ?_)
  refine AWP.cond (Ai ?_)
  refine sq (ar rfl (qn (rt (qr (br (qr (qr ?_)))))))
  obtain rfl:=Aa h
  obtain rfl:=Af hJ0
  replace h:=An hO0
  refine br (qr ?_)
  cases h;exact en Tryz.results90
 revert h;refine gf (fun hc h=>?_) fun hc h=>?_
 rotate_left
 ·refine j _ _ (qn ?_)
  refine AWP.cond (Ai ?_)
  refine sq (ar rfl (qn (rt (qr (br (qr (qr ?_)))))))
  obtain rfl:=Aa h
  obtain rfl:=Af hJ0
  replace h:=An hO0
  refine br (qr ?_)
  cases h;exact en Tryz.results90
 revert h;refine gf (fun hc h=>?_) fun hc h=>?_
 rotate_left
 ·refine j _ _ (qn ?_)
  refine AWP.cond (Ai ?_)
  refine sq (ar rfl (qn (rt (qr (br (qr (qr ?_)))))))
  obtain rfl:=Aa h
  obtain rfl:=Af hJ0
  replace h:=An hO0
  refine br (qr ?_)
  cases h;exact en Tryz.results90
 revert h;refine gf (fun hc h=>?_) fun hc h=>?_
 rotate_left
 ·refine j _ _ (qn ?_)
  refine AWP.cond (Ai ?_)
  refine sq (ar rfl (qn (rt (qr (br (qr (qr ?_)))))))
  obtain rfl:=Aa h
  obtain rfl:=Af hJ0
  replace h:=An hO0
  refine br (qr ?_)
  cases h;exact en Tryz.results90
 refine j _ _ (qn ?_)
 revert h;refine ca rfl (fun hc h=>?_) fun hc h=>?_
 ·refine sq (ar rfl (qn (rt (qr (br (qr (qr ?_)))))))
  obtain rfl:=Aa h
  obtain rfl:=Af hJ0
  replace h:=An hO0
  refine br (qr ?_)
  cases h;exact en Tryz.results90
 refine sk (qn (sq (sq ?_)))
 refine rg rfl fun K j=>?_
 obtain⟨y3,hy3,h⟩:=Ah h
 refine Al.pure Tryz.call186 (cX x_2.Zones hy3) rfl fun _ hr=>?_
 subst hr
 refine nS ?_
 refine j _ _ (qn ?_)
 revert h;refine ca rfl (fun hc h=>?_) fun hc h=>?_
 ·refine sq (ar rfl (qn (rt (qr (br (qr (qr ?_)))))))
  obtain rfl:=Aa h
  obtain rfl:=Af hJ0
  replace h:=An hO0
  refine br (qr ?_)
  cases h;exact en Tryz.results90
 refine sk (qn (sq ?_))
 refine AWP.draw Tryz.mixed (by kernel_rfl) ?_;intro K j
 refine nS ?_
 revert h;refine gt (fun hc h=>?_) fun hc h=>?_
 ·obtain⟨x_4,hx_4,h⟩:=Ah h
  refine Bk.of (f:=Au) (l:=l) hx_4 ?_
  refine nS ?_
  refine j _ _ _ (by kernel_rfl) ?_
  refine qn ?_
  revert h;refine ca rfl (fun hc h=>?_) fun hc h=>?_
  ·refine sq (ar rfl (qn (rt (br (qr (qr ?_))))))
   obtain rfl:=Aa h
   obtain rfl:=Af hJ0
   replace h:=An hO0
   refine br (qr ?_)
   cases h;exact en Tryz.results90
  refine sk (bn (qn (ar rfl (qn ?_))))
  obtain rfl:=Aa h
  refine⟨(k0+1,(),()),⟨by dsimp only;omega,Ae hJ0⟩,by dsimp only;omega,?_,?_⟩
  ·exact cuw hw0
  exact cuw hw0
 refine j _ _ _ (by kernel_rfl) ?_
 refine qn ?_
 refine AWP.cond (Bg ?_)
 refine sk (bn (qn (ar rfl (qn ?_))))
 obtain rfl:=Aa h
 refine⟨(k0+1,(),()),⟨by dsimp only;omega,Ae hJ0⟩,by dsimp only;omega,?_,?_⟩
 ·exact cuw hw0
 exact cuw hw0
def Ms (n_:Int) (lo:Int) (hi:Int):Option (Bool):=
 (bif (decide (lo≤n_))then some (decide (n_≤hi))else some false)
theorem Jp (n_:Int) (lo:Int) (hi:Int) {r:Bool} (h:Ms n_ lo hi=some r):Ad Tryz.prog 187 [.int .i64 n_,.int .i64 lo,.int .i64 hi] (·= .bool r):=by
 refine Ad.nle (Ad.intro Tryz.func187 rfl rfl (by show _≤15;simp) ?_)
 unfold Ms at h
 refine nS (sq ?_)
 refine ar rfl (qn (sq ?_))
 refine rg rfl fun K j=>?_
 revert h;refine gt (fun hc h=>?_) fun hc h=>?_
 ·refine j _ _ (qn (rt ?_))
  cases h;exact en Tryz.results187
 refine j _ _ (qn (rt ?_))
 cases h;exact en Tryz.results187
def Oo (id_:Int) (k0:Nat) (x_2:Bi) (sv:Unit):Option (Out (Unit) (Int)):=
 (bif (decide (x_2.ID=id_))then some (Out.ret ((k0:Nat):Int))else some (Out.next ()))
def Nx (l:List Bi) (id_:Int):Option (Int):=
 (Am (Oo id_) 0 l ()).bind fun o0=>o0.on fun s0=>some (-1)
theorem cR (l:List Bi) (id_:Int) {r:Int} (h:Nx l id_=some r):Ad Tryz.prog 188 [.sl 7 (l.map Ao),.int .i64 id_] (·= .int .i64 r):=by
 refine Ad.nle (Ad.intro Tryz.func188 rfl rfl (by show _≤20;simp) ?_)
 unfold Nx at h
 refine nS (sq ?_)
 refine ar rfl (qn (sq (sq ?_)))
 refine ar rfl (qn (bk ?_))
 obtain⟨o0,hJ0,hO0⟩:=Ah h
 clear h
 refine AWP.Br (ι:=Nat×(Unit)×(Unit)) (fun zz=>[(0,.sl 7 (l.map Ao)),(1,.int .i64 id_),(5,.int .i64 ((zz.1:Nat):Int))]) (fun zz=>[]) (fun zz=>zz.1≤l.length∧Am (Oo id_) zz.1 ((l).drop zz.1) zz.2.1=some o0) (fun zz=>l.length - zz.1) (0,(),()) ⟨Nat.zero_le _,hJ0⟩ cu cu (fun x=>⟨rfl,rfl,rfl⟩) ?_
 clear hJ0
 rintro⟨k0,⟨⟩,⟨⟩⟩ ⟨hk0,hJ0⟩
 dsimp only at hk0 hJ0 ⊢
 refine sq (sq ?_)
 refine rg rfl fun K j=>?_
 intro hm
 refine j _ _ (qn ?_)
 refine AWP.cond (Aj (fun hc=>?_) (fun hc=>?_))
 rotate_left
 ·obtain rfl:=Bc hJ0 (fun hl=>by have:=Ajo hc;omega)
  have h:=Bb hO0;try dsimp only at h
  have hkl:l.length=k0:=by have:=Ajo hc;omega
  subst hkl
  refine xt (qe (qe (bs (qn (sq (ar rfl (qn (rt ?_))))))))
  cases h;exact en Tryz.results188
 have hlt0:k0<l.length:=by have:=Ajp hc;omega
 obtain⟨x_2,b0,hx0_,h,hJ0⟩:=A1 hJ0 hlt0
 have hx0:=Ay hx0_
 have hw0:=wk (k:=k0) (by omega)
 unfold Oo at h;try dsimp only at h
 refine sk (qn (sq (bk (sq ?_))))
 refine rg rfl fun K j=>?_
 refine Bk.of (f:=Ao) (l:=l) hx0 ?_
 refine nS ?_
 refine j _ _ (qn ?_)
 revert h;refine ca rfl (fun hc h=>?_) fun hc h=>?_
 ·refine sq (ar rfl (qn (rt (br (qr (qr ?_))))))
  obtain rfl:=Aa h
  obtain rfl:=Af hJ0
  replace h:=An hO0
  refine br (qr ?_)
  cases h;exact en Tryz.results188
 refine sk (bn (qn (ar rfl (qn ?_))))
 obtain rfl:=Aa h
 refine⟨(k0+1,(),()),⟨by dsimp only;omega,Ae hJ0⟩,by dsimp only;omega,?_,?_⟩
 ·exact cuw hw0
 exact cuw hw0
def Nl (m:Bi):Option (Bool):=
 (Ms m.State 0 4).bind fun y1=>some y1
theorem Q9 (m:Bi) {r:Bool} (h:Nl m=some r):Ad Tryz.prog 189 [.agg (Ao m)] (·= .bool r):=by
 refine Ad.nle (Ad.intro Tryz.func189 rfl rfl (by show _≤6;simp) ?_)
 unfold Nl at h
 refine nS (sq ?_)
 refine ar rfl (qn (sq ?_))
 refine rg rfl fun K j=>?_
 obtain⟨y1,hy1,h⟩:=Ah h
 refine Al.pure Tryz.call187 (Jp m.State 0 4 hy1) rfl fun _ hr=>?_
 subst hr
 refine nS ?_
 refine j _ _ (qn (rt ?_))
 cases h;exact en Tryz.results189
def On (slide:Int) (k0:Nat) (x_2:Bi) (sv:Unit):Option (Out (Unit) (Bool)):=
 (Nl x_2).bind fun y3=>(bif y3 then(bif (decide (x_2.Slide=slide))then some (Out.ret true)else some (Out.next ()))else some (Out.next ()))
def Qn (l:List Bi) (slide:Int):Option (Bool):=
 (Am (On slide) 0 l ()).bind fun o0=>o0.on fun s0=>some false
theorem cQ (l:List Bi) (slide:Int) {r:Bool} (h:Qn l slide=some r):Ad Tryz.prog 190 [.sl 7 (l.map Ao),.int .i64 slide] (·= .bool r):=by
 refine Ad.nle (Ad.intro Tryz.func190 rfl rfl (by show _≤26;simp) ?_)
 unfold Qn at h
 refine nS (sq ?_)
 refine ar rfl (qn (sq (sq ?_)))
 refine ar rfl (qn (bk ?_))
 obtain⟨o0,hJ0,hO0⟩:=Ah h
 clear h
 refine AWP.Br (ι:=Nat×(Unit)×(Unit)) (fun zz=>[(0,.sl 7 (l.map Ao)),(1,.int .i64 slide),(5,.int .i64 ((zz.1:Nat):Int))]) (fun zz=>[]) (fun zz=>zz.1≤l.length∧Am (On slide) zz.1 ((l).drop zz.1) zz.2.1=some o0) (fun zz=>l.length - zz.1) (0,(),()) ⟨Nat.zero_le _,hJ0⟩ cu cu (fun x=>⟨rfl,rfl,rfl⟩) ?_
 clear hJ0
 rintro⟨k0,⟨⟩,⟨⟩⟩ ⟨hk0,hJ0⟩
 dsimp only at hk0 hJ0 ⊢
 refine sq (sq ?_)
 refine rg rfl fun K j=>?_
 intro hm
 refine j _ _ (qn ?_)
 refine AWP.cond (Aj (fun hc=>?_) (fun hc=>?_))
 rotate_left
 ·obtain rfl:=Bc hJ0 (fun hl=>by have:=Ajo hc;omega)
  have h:=Bb hO0;try dsimp only at h
  have hkl:l.length=k0:=by have:=Ajo hc;omega
  subst hkl
  refine xt (qe (qe (bs (qn (sq (ar rfl (qn (rt ?_))))))))
  cases h;exact en Tryz.results190
 have hlt0:k0<l.length:=by have:=Ajp hc;omega
 obtain⟨x_2,b0,hx0_,h,hJ0⟩:=A1 hJ0 hlt0
 have hx0:=Ay hx0_
 have hw0:=wk (k:=k0) (by omega)
 unfold On at h;try dsimp only at h
 refine sk (qn (sq (bk (sq ?_))))
 refine rg rfl fun K j=>?_
 refine Bk.of (f:=Ao) (l:=l) hx0 ?_
 refine nS ?_
 obtain⟨y3,hy3,h⟩:=Ah h
 refine Al.pure Tryz.call189 (Q9 x_2 hy3) rfl fun _ hr=>?_
 subst hr
 refine nS ?_
 revert h;refine gt (fun hc h=>?_) fun hc h=>?_
 ·refine Bk.of (f:=Ao) (l:=l) hx0 ?_
  refine nS ?_
  refine j _ _ (qn ?_)
  revert h;refine ca rfl (fun hc h=>?_) fun hc h=>?_
  ·refine sq (ar rfl (qn (rt (br (qr (qr ?_))))))
   obtain rfl:=Aa h
   obtain rfl:=Af hJ0
   replace h:=An hO0
   refine br (qr ?_)
   cases h;exact en Tryz.results190
  refine sk (bn (qn (ar rfl (qn ?_))))
  obtain rfl:=Aa h
  refine⟨(k0+1,(),()),⟨by dsimp only;omega,Ae hJ0⟩,by dsimp only;omega,?_,?_⟩
  ·exact cuw hw0
  exact cuw hw0
 refine j _ _ (qn ?_)
 refine AWP.cond (Bg ?_)
 refine sk (bn (qn (ar rfl (qn ?_))))
 obtain rfl:=Aa h
 refine⟨(k0+1,(),()),⟨by dsimp only;omega,Ae hJ0⟩,by dsimp only;omega,?_,?_⟩
 ·exact cuw hw0
 exact cuw hw0
def Hm (l:List Bi) (k0:Nat) (x_2:Bi) (sv:Unit):Option (Out (Unit) (Int)):=
 (Ms x_2.ID 1 9999).bind fun y3=>(bif (!y3)then some (Out.ret 2)else (Ms x_2.Slide 1 9999).bind fun y4=>(bif (!y4)then some (Out.ret 2)else (Ms x_2.By 1 9999).bind fun y5=>(bif (!y5)then some (Out.ret 2)else (Ms x_2.State 0 6).bind fun y6=>(bif (!y6)then some (Out.ret 2)else (Ms x_2.Since 0 20000000).bind fun y7=>(bif (!y7)then some (Out.ret 2)else (bif (decide (x_2.Window.From<0))then some (Out.ret 2)else (bif (decide (x_2.Window.To≤x_2.Window.From))then some (Out.ret 2)else (bif (decide (20000000<x_2.Window.To))then some (Out.ret 2)else okB (decide (0≤((k0:Nat):Int)∧((k0:Nat):Int)≤((l.length:Nat):Int))) ((Nx (l.take k0) x_2.ID).bind fun y8=>(bif (decide (0≤y8))then some (Out.ret 7)else (Nl x_2).bind fun y9=>(bif y9 then okB (decide (0≤((k0:Nat):Int)∧((k0:Nat):Int)≤((l.length:Nat):Int))) ((Qn (l.take k0) x_2.Slide).bind fun y10=>(bif y10 then some (Out.ret 15)else some (Out.next ())))else some (Out.next ()))))))))))))
def Ih (l:List Bi):Option (Int):=
 (bif (decide (64<((l.length:Nat):Int)))then some 4 else(Am (Hm l) 0 l ()).bind fun o0=>o0.on fun s0=>some 0)
theorem cT (l:List Bi) {r:Int} (h:Ih l=some r):Ad Tryz.prog 91 [.sl 7 (l.map Ao)] (·= .int .i64 r):=by
 refine Ad.nle (Ad.intro Tryz.func91 rfl rfl (by show _≤86;simp) ?_)
 unfold Ih at h
 refine nS (sq ?_)
 refine ar rfl (qn (sq (sq ?_)))
 refine rg rfl fun K j=>?_
 intro hm
 refine j _ _ (qn ?_)
 revert h;refine ca rfl (fun hc h=>?_) fun hc h=>?_
 ·refine sq (ar rfl (qn (rt (qr ?_))))
  cases h;exact en Tryz.results91
 refine sk (qn (sq (sq (ar rfl (qn (bk ?_))))))
 obtain⟨o0,hJ0,hO0⟩:=Ah h
 clear h
 refine AWP.Br (ι:=Nat×(Unit)×(Unit)) (fun zz=>[(0,.sl 7 (l.map Ao)),(3,.int .i64 ((zz.1:Nat):Int))]) (fun zz=>[]) (fun zz=>zz.1≤l.length∧Am (Hm l) zz.1 ((l).drop zz.1) zz.2.1=some o0) (fun zz=>l.length - zz.1) (0,(),()) ⟨Nat.zero_le _,hJ0⟩ cu cu (fun x=>⟨rfl,rfl,rfl⟩) ?_
 clear hJ0
 rintro⟨k0,⟨⟩,⟨⟩⟩ ⟨hk0,hJ0⟩
 dsimp only at hk0 hJ0 ⊢
 refine sq (sq ?_)
 refine rg rfl fun K j=>?_
 intro hm
 refine j _ _ (qn ?_)
 refine AWP.cond (Aj (fun hc=>?_) (fun hc=>?_))
 rotate_left
 ·obtain rfl:=Bc hJ0 (fun hl=>by have:=Ajo hc;omega)
  have h:=Bb hO0;try dsimp only at h
  have hkl:l.length=k0:=by have:=Ajo hc;omega
  subst hkl
  refine xt (qe (qe (bs (qn (sq (ar rfl (qn (rt ?_))))))))
  cases h;exact en Tryz.results91
 have hlt0:k0<l.length:=by have:=Ajp hc;omega
 obtain⟨x_2,b0,hx0_,h,hJ0⟩:=A1 hJ0 hlt0
 have hx0:=Ay hx0_
 have hw0:=wk (k:=k0) (by omega)
 unfold Hm at h;try dsimp only at h
 refine sk (qn (sq (bk (sq ?_))))
 refine rg rfl fun K j=>?_
 refine Bk.of (f:=Ao) (l:=l) hx0 ?_
 refine nS ?_
 refine j _ _ (qn (sq ?_))
 refine ar rfl (qn (bk (sq ?_)))
 refine rg rfl fun K j=>?_
 obtain⟨y3,hy3,h⟩:=Ah h
 refine Al.pure Tryz.call187 (Jp x_2.ID 1 9999 hy3) rfl fun _ hr=>?_
 subst hr
 refine nS ?_
 revert h;refine gf (fun hc h=>?_) fun hc h=>?_
 rotate_left
 ·refine j _ _ (qn ?_)
  refine AWP.cond (Ai ?_)
  refine sq (ar rfl (qn (rt (br (br (qr (qr ?_)))))))
  obtain rfl:=Aa h
  obtain rfl:=Af hJ0
  replace h:=An hO0
  refine br (qr ?_)
  cases h;exact en Tryz.results91
 obtain⟨y4,hy4,h⟩:=Ah h
 refine Al.pure Tryz.call187 (Jp x_2.Slide 1 9999 hy4) rfl fun _ hr=>?_
 subst hr
 refine nS ?_
 revert h;refine gf (fun hc h=>?_) fun hc h=>?_
 rotate_left
 ·refine j _ _ (qn ?_)
  refine AWP.cond (Ai ?_)
  refine sq (ar rfl (qn (rt (br (br (qr (qr ?_)))))))
  obtain rfl:=Aa h
  obtain rfl:=Af hJ0
  replace h:=An hO0
  refine br (qr ?_)
  cases h;exact en Tryz.results91
 obtain⟨y5,hy5,h⟩:=Ah h
 refine Al.pure Tryz.call187 (Jp x_2.By 1 9999 hy5) rfl fun _ hr=>?_
 subst hr
 refine nS ?_
 revert h;refine gf (fun hc h=>?_) fun hc h=>?_
 rotate_left
 ·refine j _ _ (qn ?_)
  refine AWP.cond (Ai ?_)
  refine sq (ar rfl (qn (rt (br (br (qr (qr ?_)))))))
  obtain rfl:=Aa h
  obtain rfl:=Af hJ0
  replace h:=An hO0
  refine br (qr ?_)
  cases h;exact en Tryz.results91
 obtain⟨y6,hy6,h⟩:=Ah h
 refine Al.pure Tryz.call187 (Jp x_2.State 0 6 hy6) rfl fun _ hr=>?_
 subst hr
 refine nS ?_
 revert h;refine gf (fun hc h=>?_) fun hc h=>?_
 rotate_left
 ·refine j _ _ (qn ?_)
  refine AWP.cond (Ai ?_)
  refine sq (ar rfl (qn (rt (br (br (qr (qr ?_)))))))
  obtain rfl:=Aa h
  obtain rfl:=Af hJ0
  replace h:=An hO0
  refine br (qr ?_)
  cases h;exact en Tryz.results91
 obtain⟨y7,hy7,h⟩:=Ah h
 refine Al.pure Tryz.call187 (Jp x_2.Since 0 20000000 hy7) rfl fun _ hr=>?_
 subst hr
 refine nS ?_
 revert h;refine gf (fun hc h=>?_) fun hc h=>?_
 rotate_left
 ·refine j _ _ (qn ?_)
  refine AWP.cond (Ai ?_)
  refine sq (ar rfl (qn (rt (br (br (qr (qr ?_)))))))
  obtain rfl:=Aa h
  obtain rfl:=Af hJ0
  replace h:=An hO0
  refine br (qr ?_)
  cases h;exact en Tryz.results91
 revert h;refine gf (fun hc h=>?_) fun hc h=>?_
 rotate_left
 ·refine j _ _ (qn ?_)
  refine AWP.cond (Ai ?_)
  refine sq (ar rfl (qn (rt (br (br (qr (qr ?_)))))))
  obtain rfl:=Aa h
  obtain rfl:=Af hJ0
  replace h:=An hO0
  refine br (qr ?_)
  cases h;exact en Tryz.results91
 revert h;refine gf (fun hc h=>?_) fun hc h=>?_
 rotate_left
 ·refine j _ _ (qn ?_)
  refine AWP.cond (Ai ?_)
  refine sq (ar rfl (qn (rt (br (br (qr (qr ?_)))))))
  obtain rfl:=Aa h
  obtain rfl:=Af hJ0
  replace h:=An hO0
  refine br (qr ?_)
  cases h;exact en Tryz.results91
 refine j _ _ (qn ?_)
 revert h;refine ca rfl (fun hc h=>?_) fun hc h=>?_
 ·refine sq (ar rfl (qn (rt (br (br (qr (qr ?_)))))))
  obtain rfl:=Aa h
  obtain rfl:=Af hJ0
  replace h:=An hO0
  refine br (qr ?_)
  cases h;exact en Tryz.results91
 refine sq ?_
 refine AWP.draw Tryz.mixed (by kernel_rfl) ?_;intro K j
 refine nS ?_
 obtain⟨hk,h⟩:=Jz h
 intro hm
 (repeat(refine⟨by omega,?_⟩))
 obtain⟨y8,hy8,h⟩:=Ah h
 refine Bz.pure Tryz.call188 (cR (l.take k0) x_2.ID hy8) rfl ?_
 refine nS ?_
 refine j _ _ _ (by kernel_rfl) ?_
 refine qn ?_
 revert h;refine ca rfl (fun hc h=>?_) fun hc h=>?_
 ·refine sq (ar rfl (qn (rt (br (br (qr (qr ?_)))))))
  obtain rfl:=Aa h
  obtain rfl:=Af hJ0
  replace h:=An hO0
  refine br (qr ?_)
  cases h;exact en Tryz.results91
 refine sq ?_
 refine AWP.draw Tryz.mixed (by kernel_rfl) ?_;intro K j
 refine nS ?_
 obtain⟨y9,hy9,h⟩:=Ah h
 refine Bz.pure Tryz.call189 (Q9 x_2 hy9) rfl ?_
 refine nS ?_
 revert h;refine gt (fun hc h=>?_) fun hc h=>?_
 ·obtain⟨hk,h⟩:=Jz h
  intro hm
  (repeat(refine⟨by omega,?_⟩))
  obtain⟨y10,hy10,h⟩:=Ah h
  refine Bz.pure Tryz.call190 (cQ (l.take k0) x_2.Slide hy10) rfl ?_
  refine nS ?_
  refine j _ _ _ (by kernel_rfl) ?_
  refine qn ?_
  revert h;refine ca rfl (fun hc h=>?_) fun hc h=>?_
  ·refine sq (ar rfl (qn (rt (br (br (qr (qr ?_)))))))
   obtain rfl:=Aa h
   obtain rfl:=Af hJ0
   replace h:=An hO0
   refine br (qr ?_)
   cases h;exact en Tryz.results91
  refine sk (bn (bn (qn (ar rfl (qn ?_)))))
  obtain rfl:=Aa h
  refine⟨(k0+1,(),()),⟨by dsimp only;omega,Ae hJ0⟩,by dsimp only;omega,?_,?_⟩
  ·exact cuw hw0
  exact cuw hw0
 refine j _ _ _ (by kernel_rfl) ?_
 refine qn ?_
 refine AWP.cond (Bg ?_)
 refine sk (bn (bn (qn (ar rfl (qn ?_)))))
 obtain rfl:=Aa h
 refine⟨(k0+1,(),()),⟨by dsimp only;omega,Ae hJ0⟩,by dsimp only;omega,?_,?_⟩
 ·exact cuw hw0
 exact cuw hw0
def Mt (l:List Int) (k0:Nat) (x_2:Int) (sv:Unit):Option (Out (Unit) (Bool)):=
 (bif (decide (x_2<1))then some (Out.ret false)else (bif (decide (9999<x_2))then some (Out.ret false)else (bif (decide (0<((k0:Nat):Int)))then (Dl l (IntKind.i64.wrap (((k0:Nat):Int) - 1))).bind fun x_3=>(bif (decide (x_2≤x_3))then some (Out.ret false)else some (Out.next ()))else some (Out.next ()))))
def Pt (l:List Int):Option (Bool):=
 (Am (Mt l) 0 l ()).bind fun o0=>o0.on fun s0=>some (decide (0<((l.length:Nat):Int)))
theorem fQ (l:List Int) {r:Bool} (h:Pt l=some r):Ad Tryz.prog 191 [.sl 1 (l.map Aw)] (·= .bool r):=by
 refine Ad.nle (Ad.intro Tryz.func191 rfl rfl (by show _≤41;simp) ?_)
 unfold Pt at h
 refine nS (sq ?_)
 refine ar rfl (qn (sq (sq ?_)))
 refine ar rfl (qn (bk ?_))
 obtain⟨o0,hJ0,hO0⟩:=Ah h
 clear h
 refine AWP.Br (ι:=Nat×(Unit)×(Unit)) (fun zz=>[(0,.sl 1 (l.map Aw)),(3,.int .i64 ((zz.1:Nat):Int))]) (fun zz=>[]) (fun zz=>zz.1≤l.length∧Am (Mt l) zz.1 ((l).drop zz.1) zz.2.1=some o0) (fun zz=>l.length - zz.1) (0,(),()) ⟨Nat.zero_le _,hJ0⟩ cu cu (fun x=>⟨rfl,rfl,rfl⟩) ?_
 clear hJ0
 rintro⟨k0,⟨⟩,⟨⟩⟩ ⟨hk0,hJ0⟩
 dsimp only at hk0 hJ0 ⊢
 refine sq (sq ?_)
 refine rg rfl fun K j=>?_
 intro hm
 refine j _ _ (qn ?_)
 refine AWP.cond (Aj (fun hc=>?_) (fun hc=>?_))
 rotate_left
 ·obtain rfl:=Bc hJ0 (fun hl=>by have:=Ajo hc;omega)
  have h:=Bb hO0;try dsimp only at h
  have hkl:l.length=k0:=by have:=Ajo hc;omega
  subst hkl
  refine xt (qe (qe (bs (qn (sq ?_)))))
  refine rg rfl fun K j=>?_
  intro hm
  refine j _ _ (qn (rt ?_))
  cases h;exact en Tryz.results191
 have hlt0:k0<l.length:=by have:=Ajp hc;omega
 obtain⟨x_2,b0,hx0_,h,hJ0⟩:=A1 hJ0 hlt0
 have hx0:=Ay hx0_
 have hw0:=wk (k:=k0) (by omega)
 unfold Mt at h;try dsimp only at h
 refine sk (qn (sq (bk (sq ?_))))
 refine AWP.draw Tryz.mixed (by kernel_rfl) ?_;intro K j
 refine nS ?_
 refine Bk.of (f:=Aw) (l:=l) hx0 ?_
 refine nS ?_
 revert h;refine gf (fun hc h=>?_) fun hc h=>?_
 rotate_left
 ·refine j _ _ _ (by kernel_rfl) ?_
  refine qn ?_
  refine AWP.cond (Ai ?_)
  refine sq (ar rfl (qn (rt (br (qr (qr ?_))))))
  obtain rfl:=Aa h
  obtain rfl:=Af hJ0
  replace h:=An hO0
  refine br (qr ?_)
  cases h;exact en Tryz.results191
 refine Bk.of (f:=Aw) (l:=l) hx0 ?_
 refine nS ?_
 revert h;refine gf (fun hc h=>?_) fun hc h=>?_
 rotate_left
 ·refine j _ _ _ (by kernel_rfl) ?_
  refine qn ?_
  refine AWP.cond (Ai ?_)
  refine sq (ar rfl (qn (rt (br (qr (qr ?_))))))
  obtain rfl:=Aa h
  obtain rfl:=Af hJ0
  replace h:=An hO0
  refine br (qr ?_)
  cases h;exact en Tryz.results191
 revert h;refine gt (fun hc h=>?_) fun hc h=>?_
 ·refine Bk.of (f:=Aw) (l:=l) hx0 ?_
  refine nS ?_
  obtain⟨x_3,hx_3,h⟩:=Ah h
  refine Bk.of (f:=Aw) (l:=l) hx_3 ?_
  refine nS ?_
  refine j _ _ _ (by kernel_rfl) ?_
  refine qn ?_
  revert h;refine ca rfl (fun hc h=>?_) fun hc h=>?_
  ·refine sq (ar rfl (qn (rt (br (qr (qr ?_))))))
   obtain rfl:=Aa h
   obtain rfl:=Af hJ0
   replace h:=An hO0
   refine br (qr ?_)
   cases h;exact en Tryz.results191
  refine sk (bn (qn (ar rfl (qn ?_))))
  obtain rfl:=Aa h
  refine⟨(k0+1,(),()),⟨by dsimp only;omega,Ae hJ0⟩,by dsimp only;omega,?_,?_⟩
  ·exact cuw hw0
  exact cuw hw0
 refine j _ _ _ (by kernel_rfl) ?_
 refine qn ?_
 refine AWP.cond (Bg ?_)
 refine sk (bn (qn (ar rfl (qn ?_))))
 obtain rfl:=Aa h
 refine⟨(k0+1,(),()),⟨by dsimp only;omega,Ae hJ0⟩,by dsimp only;omega,?_,?_⟩
 ·exact cuw hw0
 exact cuw hw0
def Vg (n_:Int) (k0:Nat) (x_2:Int) (sv:Unit):Option (Out (Unit) (Bool)):=
 (bif (decide (x_2=n_))then some (Out.ret true)else some (Out.next ()))
def R4 (l:List Int) (n_:Int):Option (Bool):=
 (Am (Vg n_) 0 l ()).bind fun o0=>o0.on fun s0=>some false
theorem W2 (l:List Int) (n_:Int) {r:Bool} (h:R4 l n_=some r):Ad Tryz.prog 217 [.sl 1 (l.map Aw),.int .i64 n_] (·= .bool r):=by
 refine Ad.nle (Ad.intro Tryz.func217 rfl rfl (by show _≤18;simp) ?_)
 unfold R4 at h
 refine nS (sq ?_)
 refine ar rfl (qn (sq (sq ?_)))
 refine ar rfl (qn (bk ?_))
 obtain⟨o0,hJ0,hO0⟩:=Ah h
 clear h
 refine AWP.Br (ι:=Nat×(Unit)×(Unit)) (fun zz=>[(0,.sl 1 (l.map Aw)),(1,.int .i64 n_),(5,.int .i64 ((zz.1:Nat):Int))]) (fun zz=>[]) (fun zz=>zz.1≤l.length∧Am (Vg n_) zz.1 ((l).drop zz.1) zz.2.1=some o0) (fun zz=>l.length - zz.1) (0,(),()) ⟨Nat.zero_le _,hJ0⟩ cu cu (fun x=>⟨rfl,rfl,rfl⟩) ?_
 clear hJ0
 rintro⟨k0,⟨⟩,⟨⟩⟩ ⟨hk0,hJ0⟩
 dsimp only at hk0 hJ0 ⊢
 refine sq (sq ?_)
 refine rg rfl fun K j=>?_
 intro hm
 refine j _ _ (qn ?_)
 refine AWP.cond (Aj (fun hc=>?_) (fun hc=>?_))
 rotate_left
 ·obtain rfl:=Bc hJ0 (fun hl=>by have:=Ajo hc;omega)
  have h:=Bb hO0;try dsimp only at h
  have hkl:l.length=k0:=by have:=Ajo hc;omega
  subst hkl
  refine xt (qe (qe (bs (qn (sq (ar rfl (qn (rt ?_))))))))
  cases h;exact en Tryz.results217
 have hlt0:k0<l.length:=by have:=Ajp hc;omega
 obtain⟨x_2,b0,hx0_,h,hJ0⟩:=A1 hJ0 hlt0
 have hx0:=Ay hx0_
 have hw0:=wk (k:=k0) (by omega)
 unfold Vg at h;try dsimp only at h
 refine sk (qn (sq (bk (sq ?_))))
 refine rg rfl fun K j=>?_
 refine Bk.of (f:=Aw) (l:=l) hx0 ?_
 refine nS ?_
 refine j _ _ (qn ?_)
 revert h;refine ca rfl (fun hc h=>?_) fun hc h=>?_
 ·refine sq (ar rfl (qn (rt (br (qr (qr ?_))))))
  obtain rfl:=Aa h
  obtain rfl:=Af hJ0
  replace h:=An hO0
  refine br (qr ?_)
  cases h;exact en Tryz.results217
 refine sk (bn (qn (ar rfl (qn ?_))))
 obtain rfl:=Aa h
 refine⟨(k0+1,(),()),⟨by dsimp only;omega,Ae hJ0⟩,by dsimp only;omega,?_,?_⟩
 ·exact cuw hw0
 exact cuw hw0
def Ky (b:A8) (k0:Nat) (x_2:Int) (sv:Unit):Option (Out (Unit) (Bool)):=
 (R4 b.Runs x_2).bind fun y3=>(bif y3 then some (Out.ret true)else some (Out.next ()))
def Qq (a:A8) (b:A8):Option (Bool):=
 (bif (decide (b.To≤a.From))then some false else(bif (decide (a.To≤b.From))then some false else(Am (Ky b) 0 a.Runs ()).bind fun o0=>o0.on fun s0=>some (decide (a.Groomer=b.Groomer))))
theorem c7 (a:A8) (b:A8) {r:Bool} (h:Qq a b=some r):Ad Tryz.prog 192 [.agg (Ap a),.agg (Ap b)] (·= .bool r):=by
 refine Ad.nle (Ad.intro Tryz.func192 rfl rfl (by show _≤38;simp) ?_)
 unfold Qq at h
 refine nS (sq ?_)
 refine ar rfl (qn (sq (sq ?_)))
 refine rg rfl fun K j=>?_
 revert h;refine gf (fun hc h=>?_) fun hc h=>?_
 rotate_left
 ·refine j _ _ (qn ?_)
  refine AWP.cond (Ai ?_)
  refine sq (ar rfl (qn (rt (qr ?_))))
  cases h;exact en Tryz.results192
 refine j _ _ (qn ?_)
 revert h;refine ca rfl (fun hc h=>?_) fun hc h=>?_
 ·refine sq (ar rfl (qn (rt (qr ?_))))
  cases h;exact en Tryz.results192
 refine sk (qn (sq (sq (ar rfl (qn (bk ?_))))))
 obtain⟨o0,hJ0,hO0⟩:=Ah h
 clear h
 refine AWP.Br (ι:=Nat×(Unit)×(Unit)) (fun zz=>[(2,.ptr 0 0),(3,.ptr 1 0),(5,.int .i64 ((zz.1:Nat):Int))]) (fun zz=>[.box [.int .i64 a.Groomer,.int .i64 a.From,.int .i64 a.To,.sl 1 (a.Runs.map Aw)],.box [.int .i64 b.Groomer,.int .i64 b.From,.int .i64 b.To,.sl 1 (b.Runs.map Aw)]]) (fun zz=>zz.1≤a.Runs.length∧Am (Ky b) zz.1 ((a.Runs).drop zz.1) zz.2.1=some o0) (fun zz=>a.Runs.length - zz.1) (0,(),()) ⟨Nat.zero_le _,hJ0⟩ cu cu (fun x=>⟨rfl,rfl,rfl⟩) ?_
 clear hJ0
 rintro⟨k0,⟨⟩,⟨⟩⟩ ⟨hk0,hJ0⟩
 dsimp only at hk0 hJ0 ⊢
 refine sq (sq ?_)
 refine rg rfl fun K j=>?_
 intro hm
 refine j _ _ (qn ?_)
 refine AWP.cond (Aj (fun hc=>?_) (fun hc=>?_))
 rotate_left
 ·obtain rfl:=Bc hJ0 (fun hl=>by have:=Ajo hc;omega)
  have h:=Bb hO0;try dsimp only at h
  have hkl:a.Runs.length=k0:=by have:=Ajo hc;omega
  subst hkl
  refine xt (qe (qe (bs (qn (sq (ar rfl (qn (rt ?_))))))))
  cases h;exact en Tryz.results192
 have hlt0:k0<a.Runs.length:=by have:=Ajp hc;omega
 obtain⟨x_2,b0,hx0_,h,hJ0⟩:=A1 hJ0 hlt0
 have hx0:=Ay hx0_
 have hw0:=wk (k:=k0) (by omega)
 unfold Ky at h;try dsimp only at h
 refine sk (qn (sq (bk (sq ?_))))
 refine AWP.draw Tryz.mixed (by kernel_rfl) ?_;intro K j
 refine nS ?_
 refine Bk.of (f:=Aw) (l:=a.Runs) hx0 ?_
 refine nS ?_
 obtain⟨y3,hy3,h⟩:=Ah h
 refine Bz.pure Tryz.call217 (W2 b.Runs x_2 hy3) rfl ?_
 refine nS ?_
 refine j _ _ _ (by kernel_rfl) ?_
 refine qn ?_
 revert h;refine ca rfl (fun hc h=>?_) fun hc h=>?_
 ·refine sq (ar rfl (qn (rt (br (qr (qr ?_))))))
  obtain rfl:=Aa h
  obtain rfl:=Af hJ0
  replace h:=An hO0
  refine br (qr ?_)
  cases h;exact en Tryz.results192
 refine sk (bn (qn (ar rfl (qn ?_))))
 obtain rfl:=Aa h
 refine⟨(k0+1,(),()),⟨by dsimp only;omega,Ae hJ0⟩,by dsimp only;omega,?_,?_⟩
 ·exact cuw hw0
 exact cuw hw0
def Ec (l:List A8) (x_2:A8) (k3:Nat) (_x:Unit) (sv:Unit):Option (Out (Unit) (Out (Unit) (Int))):=
 (Dl l ((k3:Nat):Int)).bind fun x_5=>(Qq x_5 x_2).bind fun y6=>(bif y6 then some (Out.ret (Out.ret 15))else some (Out.next ()))
def E1 (l:List A8) (k0:Nat) (x_2:A8) (sv:Unit):Option (Out (Unit) (Int)):=
 (bif (decide (x_2.Groomer<1))then some (Out.ret 2)else (bif (decide (9999<x_2.Groomer))then some (Out.ret 2)else (bif (decide (x_2.From<0))then some (Out.ret 2)else (bif (decide (x_2.To≤x_2.From))then some (Out.ret 2)else (bif (decide (20000000<x_2.To))then some (Out.ret 2)else (Pt x_2.Runs).bind fun y3=>(bif (!y3)then some (Out.ret 1)else (Kc (Ec l x_2) k0 ()).bind fun o3=>o3.on fun s3=>some (Out.next ())))))))
def N1 (l:List A8):Option (Int):=
 (bif (decide (16<((l.length:Nat):Int)))then some 4 else(Am (E1 l) 0 l ()).bind fun o0=>o0.on fun s0=>some 0)
theorem c9 (l:List A8) {r:Int} (h:N1 l=some r):Ad Tryz.prog 92 [.sl 4 (l.map Ap)] (·= .int .i64 r):=by
 refine Ad.nle (Ad.intro Tryz.func92 rfl rfl (by show _≤59;simp) ?_)
 unfold N1 at h
 refine nS (sq ?_)
 refine ar rfl (qn (sq (sq ?_)))
 refine rg rfl fun K j=>?_
 intro hm
 refine j _ _ (qn ?_)
 revert h;refine ca rfl (fun hc h=>?_) fun hc h=>?_
 ·refine sq (ar rfl (qn (rt (qr ?_))))
  cases h;exact en Tryz.results92
 refine sk (qn (sq (sq (ar rfl (qn (bk ?_))))))
 obtain⟨o0,hJ0,hO0⟩:=Ah h
 clear h
 refine AWP.Br (ι:=Nat×(Unit)×(Unit)) (fun zz=>[(0,.sl 4 (l.map Ap)),(3,.int .i64 ((zz.1:Nat):Int))]) (fun zz=>[]) (fun zz=>zz.1≤l.length∧Am (E1 l) zz.1 ((l).drop zz.1) zz.2.1=some o0) (fun zz=>l.length - zz.1) (0,(),()) ⟨Nat.zero_le _,hJ0⟩ cu cu (fun x=>⟨rfl,rfl,rfl⟩) ?_
 clear hJ0
 rintro⟨k0,⟨⟩,⟨⟩⟩ ⟨hk0,hJ0⟩
 dsimp only at hk0 hJ0 ⊢
 refine sq (sq ?_)
 refine rg rfl fun K j=>?_
 intro hm
 refine j _ _ (qn ?_)
 refine AWP.cond (Aj (fun hc=>?_) (fun hc=>?_))
 rotate_left
 ·obtain rfl:=Bc hJ0 (fun hl=>by have:=Ajo hc;omega)
  have h:=Bb hO0;try dsimp only at h
  have hkl:l.length=k0:=by have:=Ajo hc;omega
  subst hkl
  refine xt (qe (qe (bs (qn (sq (ar rfl (qn (rt ?_))))))))
  cases h;exact en Tryz.results92
 have hlt0:k0<l.length:=by have:=Ajp hc;omega
 obtain⟨x_2,b0,hx0_,h,hJ0⟩:=A1 hJ0 hlt0
 have hx0:=Ay hx0_
 have hw0:=wk (k:=k0) (by omega)
 unfold E1 at h;try dsimp only at h
 refine sk (qn (sq (bk (sq ?_))))
 refine rg rfl fun K j=>?_
 refine Bk.of (f:=Ap) (l:=l) hx0 ?_
 refine nS ?_
 refine j _ _ (qn (sq (sq ?_)))
 refine rg rfl fun K j=>?_
 revert h;refine gf (fun hc h=>?_) fun hc h=>?_
 rotate_left
 ·refine j _ _ (qn ?_)
  refine AWP.cond (Ai ?_)
  refine sq (ar rfl (qn (rt (qr (br (qr (qr ?_)))))))
  obtain rfl:=Aa h
  obtain rfl:=Af hJ0
  replace h:=An hO0
  refine br (qr ?_)
  cases h;exact en Tryz.results92
 revert h;refine gf (fun hc h=>?_) fun hc h=>?_
 rotate_left
 ·refine j _ _ (qn ?_)
  refine AWP.cond (Ai ?_)
  refine sq (ar rfl (qn (rt (qr (br (qr (qr ?_)))))))
  obtain rfl:=Aa h
  obtain rfl:=Af hJ0
  replace h:=An hO0
  refine br (qr ?_)
  cases h;exact en Tryz.results92
 revert h;refine gf (fun hc h=>?_) fun hc h=>?_
 rotate_left
 ·refine j _ _ (qn ?_)
  refine AWP.cond (Ai ?_)
  refine sq (ar rfl (qn (rt (qr (br (qr (qr ?_)))))))
  obtain rfl:=Aa h
  obtain rfl:=Af hJ0
  replace h:=An hO0
  refine br (qr ?_)
  cases h;exact en Tryz.results92
 revert h;refine gf (fun hc h=>?_) fun hc h=>?_
 rotate_left
 ·refine j _ _ (qn ?_)
  refine AWP.cond (Ai ?_)
  refine sq (ar rfl (qn (rt (qr (br (qr (qr ?_)))))))
  obtain rfl:=Aa h
  obtain rfl:=Af hJ0
  replace h:=An hO0
  refine br (qr ?_)
  cases h;exact en Tryz.results92
 refine j _ _ (qn ?_)
 revert h;refine ca rfl (fun hc h=>?_) fun hc h=>?_
 ·refine sq (ar rfl (qn (rt (qr (br (qr (qr ?_)))))))
  obtain rfl:=Aa h
  obtain rfl:=Af hJ0
  replace h:=An hO0
  refine br (qr ?_)
  cases h;exact en Tryz.results92
 refine sk (qn (sq (sq ?_)))
 refine rg rfl fun K j=>?_
 obtain⟨y3,hy3,h⟩:=Ah h
 refine Al.pure Tryz.call191 (fQ x_2.Runs hy3) rfl fun _ hr=>?_
 subst hr
 refine nS ?_
 refine j _ _ (qn ?_)
 revert h;refine ca rfl (fun hc h=>?_) fun hc h=>?_
 ·refine sq (ar rfl (qn (rt (qr (br (qr (qr ?_)))))))
  obtain rfl:=Aa h
  obtain rfl:=Af hJ0
  replace h:=An hO0
  refine br (qr ?_)
  cases h;exact en Tryz.results92
 refine sk (qn (sq (ar rfl (qn (bk ?_)))))
 obtain⟨o3,hJ3,hO3⟩:=Ah h
 clear h
 obtain⟨hn3,hJ3⟩:=Pe hJ3
 refine AWP.Br (ι:=Nat×(Unit)×(Unit)) (fun zz=>[(0,.sl 4 (l.map Ap)),(3,.int .i64 ((k0:Nat):Int)),(4,.ptr 0 0),(5,.int .i64 ((zz.1:Nat):Int))]) (fun zz=>[.box [.int .i64 x_2.Groomer,.int .i64 x_2.From,.int .i64 x_2.To,.sl 1 (x_2.Runs.map Aw)]]) (fun zz=>zz.1≤k0∧Am (Ec l x_2) zz.1 ((List.replicate k0 ()).drop zz.1) zz.2.1=some o3) (fun zz=>k0 - zz.1) (0,(),()) ⟨Nat.zero_le _,hJ3⟩ cu cu (fun x=>⟨rfl,rfl,rfl⟩) ?_
 clear hJ3
 rintro⟨k3,⟨⟩,⟨⟩⟩ ⟨hk3,hJ3⟩
 dsimp only at hk3 hJ3 ⊢
 refine sq (sq (ar rfl (qn ?_)))
 refine AWP.cond (Aj (fun hc=>?_) (fun hc=>?_))
 rotate_left
 ·obtain rfl:=Bc hJ3 (fun hl=>by rw[List.length_replicate]at hl;have:=Ajo hc;omega)
  have h:=Bb hO3;try dsimp only at h
  have hkl:k0=k3:=by have:=Ajo hc;omega
  subst hkl
  refine xt (qe (qe (bs (bn (qn (ar rfl (qn ?_)))))))
  obtain rfl:=Aa h
  refine⟨(k0+1,(),()),⟨by dsimp only;omega,Ae hJ0⟩,by dsimp only;omega,?_,?_⟩
  ·exact cuw hw0
  exact cuw hw0
 have hlt3:k3<k0:=by have:=Ajp hc;omega
 obtain⟨_,b3,_,h,hJ3⟩:=A1 hJ3 (by rw[List.length_replicate];exact hlt3)
 have hw3:=wk (k:=k3) (by omega)
 unfold Ec at h;try dsimp only at h
 refine sk (qn (sq (bk (sq ?_))))
 refine AWP.draw Tryz.mixed (by kernel_rfl) ?_;intro K j
 refine nS ?_
 obtain⟨x_5,hx_5,h⟩:=Ah h
 refine Bk.of (f:=Ap) (l:=l) hx_5 ?_
 refine nS ?_
 obtain⟨y6,hy6,h⟩:=Ah h
 refine Bz.pure Tryz.call192 (c7 x_5 x_2 hy6) rfl ?_
 refine nS ?_
 refine j _ _ _ (by kernel_rfl) ?_
 refine qn ?_
 revert h;refine ca rfl (fun hc h=>?_) fun hc h=>?_
 ·refine sq (ar rfl (qn (rt (br (qr (qr ?_))))))
  obtain rfl:=Aa h
  obtain rfl:=Af hJ3
  replace h:=An hO3
  refine br (br (qr (qr ?_)))
  obtain rfl:=Aa h
  obtain rfl:=Af hJ0
  replace h:=An hO0
  refine br (qr ?_)
  cases h;exact en Tryz.results92
 refine sk (bn (qn (ar rfl (qn ?_))))
 obtain rfl:=Aa h
 refine⟨(k3+1,(),()),⟨by dsimp only;omega,Ae hJ3⟩,by dsimp only;omega,?_,?_⟩
 ·exact cuw hw3
 exact cuw hw3
def K4 (n_:Int) (lo:Int) (hi:Int):Option (Bool):=
 (bif (decide (lo≤n_))then some (decide (n_≤hi))else some false)
theorem Gz (n_:Int) (lo:Int) (hi:Int) {r:Bool} (h:K4 n_ lo hi=some r):Ad Tryz.prog 193 [.int .i64 n_,.int .i64 lo,.int .i64 hi] (·= .bool r):=by
 refine Ad.nle (Ad.intro Tryz.func193 rfl rfl (by show _≤15;simp) ?_)
 unfold K4 at h
 refine nS (sq ?_)
 refine ar rfl (qn (sq ?_))
 refine rg rfl fun K j=>?_
 revert h;refine gt (fun hc h=>?_) fun hc h=>?_
 ·refine j _ _ (qn (rt ?_))
  cases h;exact en Tryz.results193
 refine j _ _ (qn (rt ?_))
 cases h;exact en Tryz.results193
def K3 (id_:Int) (k0:Nat) (x_2:B6) (sv:Unit):Option (Out (Unit) (Int)):=
 (bif (decide (x_2.ID=id_))then some (Out.ret ((k0:Nat):Int))else some (Out.next ()))
def Qr (l:List B6) (id_:Int):Option (Int):=
 (Am (K3 id_) 0 l ()).bind fun o0=>o0.on fun s0=>some (-1)
theorem dA (l:List B6) (id_:Int) {r:Int} (h:Qr l id_=some r):Ad Tryz.prog 194 [.sl 8 (l.map A2),.int .i64 id_] (·= .int .i64 r):=by
 refine Ad.nle (Ad.intro Tryz.func194 rfl rfl (by show _≤20;simp) ?_)
 unfold Qr at h
 refine nS (sq ?_)
 refine ar rfl (qn (sq (sq ?_)))
 refine ar rfl (qn (bk ?_))
 obtain⟨o0,hJ0,hO0⟩:=Ah h
 clear h
 refine AWP.Br (ι:=Nat×(Unit)×(Unit)) (fun zz=>[(0,.sl 8 (l.map A2)),(1,.int .i64 id_),(5,.int .i64 ((zz.1:Nat):Int))]) (fun zz=>[]) (fun zz=>zz.1≤l.length∧Am (K3 id_) zz.1 ((l).drop zz.1) zz.2.1=some o0) (fun zz=>l.length - zz.1) (0,(),()) ⟨Nat.zero_le _,hJ0⟩ cu cu (fun x=>⟨rfl,rfl,rfl⟩) ?_
 clear hJ0
 rintro⟨k0,⟨⟩,⟨⟩⟩ ⟨hk0,hJ0⟩
 dsimp only at hk0 hJ0 ⊢
 refine sq (sq ?_)
 refine rg rfl fun K j=>?_
 intro hm
 refine j _ _ (qn ?_)
 refine AWP.cond (Aj (fun hc=>?_) (fun hc=>?_))
 rotate_left
 ·obtain rfl:=Bc hJ0 (fun hl=>by have:=Ajo hc;omega)
  have h:=Bb hO0;try dsimp only at h
  have hkl:l.length=k0:=by have:=Ajo hc;omega
  subst hkl
  refine xt (qe (qe (bs (qn (sq (ar rfl (qn (rt ?_))))))))
  cases h;exact en Tryz.results194
 have hlt0:k0<l.length:=by have:=Ajp hc;omega
 obtain⟨x_2,b0,hx0_,h,hJ0⟩:=A1 hJ0 hlt0
 have hx0:=Ay hx0_
 have hw0:=wk (k:=k0) (by omega)
 unfold K3 at h;try dsimp only at h
 refine sk (qn (sq (bk (sq ?_))))
 refine rg rfl fun K j=>?_
 refine Bk.of (f:=A2) (l:=l) hx0 ?_
 refine nS ?_
 refine j _ _ (qn ?_)
 revert h;refine ca rfl (fun hc h=>?_) fun hc h=>?_
 ·refine sq (ar rfl (qn (rt (br (qr (qr ?_))))))
  obtain rfl:=Aa h
  obtain rfl:=Af hJ0
  replace h:=An hO0
  refine br (qr ?_)
  cases h;exact en Tryz.results194
 refine sk (bn (qn (ar rfl (qn ?_))))
 obtain rfl:=Aa h
 refine⟨(k0+1,(),()),⟨by dsimp only;omega,Ae hJ0⟩,by dsimp only;omega,?_,?_⟩
 ·exact cuw hw0
 exact cuw hw0
def K5 (l:List B6) (k0:Nat) (x_2:B6) (sv:Unit):Option (Out (Unit) (Int)):=
 (K4 x_2.ID 1 9999).bind fun y3=>(bif (!y3)then some (Out.ret 2)else (K4 x_2.Node 1 9999).bind fun y4=>(bif (!y4)then some (Out.ret 2)else (K4 x_2.Fuel 0 1000000).bind fun y5=>(bif (!y5)then some (Out.ret 2)else (K4 x_2.State 0 2).bind fun y6=>(bif (!y6)then some (Out.ret 2)else (K4 x_2.Until 0 20000000).bind fun y7=>(bif (!y7)then some (Out.ret 2)else (K4 x_2.To 0 9999).bind fun y8=>(bif (!y8)then some (Out.ret 2)else (K4 x_2.Run 0 9999).bind fun y9=>(bif (!y9)then some (Out.ret 2)else okB (decide (0≤((k0:Nat):Int)∧((k0:Nat):Int)≤((l.length:Nat):Int))) ((Qr (l.take k0) x_2.ID).bind fun y10=>(bif (decide (0≤y10))then some (Out.ret 7)else (bif ((decide (x_2.To≠0)) !=(decide (x_2.State=1)))then some (Out.ret 10)else (bif ((decide (x_2.Run≠0)) !=(decide (x_2.State=2)))then some (Out.ret 10)else some (Out.next ()))))))))))))
def N2 (l:List B6):Option (Int):=
 (bif (decide (16<((l.length:Nat):Int)))then some 4 else(Am (K5 l) 0 l ()).bind fun o0=>o0.on fun s0=>some 0)
theorem dB (l:List B6) {r:Int} (h:N2 l=some r):Ad Tryz.prog 93 [.sl 8 (l.map A2)] (·= .int .i64 r):=by
 refine Ad.nle (Ad.intro Tryz.func93 rfl rfl (by show _≤81;simp) ?_)
 unfold N2 at h
 refine nS (sq ?_)
 refine ar rfl (qn (sq (sq ?_)))
 refine rg rfl fun K j=>?_
 intro hm
 refine j _ _ (qn ?_)
 revert h;refine ca rfl (fun hc h=>?_) fun hc h=>?_
 ·refine sq (ar rfl (qn (rt (qr ?_))))
  cases h;exact en Tryz.results93
 refine sk (qn (sq (sq (ar rfl (qn (bk ?_))))))
 obtain⟨o0,hJ0,hO0⟩:=Ah h
 clear h
 refine AWP.Br (ι:=Nat×(Unit)×(Unit)) (fun zz=>[(0,.sl 8 (l.map A2)),(3,.int .i64 ((zz.1:Nat):Int))]) (fun zz=>[]) (fun zz=>zz.1≤l.length∧Am (K5 l) zz.1 ((l).drop zz.1) zz.2.1=some o0) (fun zz=>l.length - zz.1) (0,(),()) ⟨Nat.zero_le _,hJ0⟩ cu cu (fun x=>⟨rfl,rfl,rfl⟩) ?_
 clear hJ0
 rintro⟨k0,⟨⟩,⟨⟩⟩ ⟨hk0,hJ0⟩
 dsimp only at hk0 hJ0 ⊢
 refine sq (sq ?_)
 refine rg rfl fun K j=>?_
 intro hm
 refine j _ _ (qn ?_)
 refine AWP.cond (Aj (fun hc=>?_) (fun hc=>?_))
 rotate_left
 ·obtain rfl:=Bc hJ0 (fun hl=>by have:=Ajo hc;omega)
  have h:=Bb hO0;try dsimp only at h
  have hkl:l.length=k0:=by have:=Ajo hc;omega
  subst hkl
  refine xt (qe (qe (bs (qn (sq (ar rfl (qn (rt ?_))))))))
  cases h;exact en Tryz.results93
 have hlt0:k0<l.length:=by have:=Ajp hc;omega
 obtain⟨x_2,b0,hx0_,h,hJ0⟩:=A1 hJ0 hlt0
 have hx0:=Ay hx0_
 have hw0:=wk (k:=k0) (by omega)
 unfold K5 at h;try dsimp only at h
 refine sk (qn (sq (bk (sq ?_))))
 refine rg rfl fun K j=>?_
 refine Bk.of (f:=A2) (l:=l) hx0 ?_
 refine nS ?_
 refine j _ _ (qn (sq (sq ?_)))
 refine rg rfl fun K j=>?_
 obtain⟨y3,hy3,h⟩:=Ah h
 refine Al.pure Tryz.call193 (Gz x_2.ID 1 9999 hy3) rfl fun _ hr=>?_
 subst hr
 refine nS ?_
 revert h;refine gf (fun hc h=>?_) fun hc h=>?_
 rotate_left
 ·refine j _ _ (qn ?_)
  refine AWP.cond (Ai ?_)
  refine sq (ar rfl (qn (rt (qr (br (qr (qr ?_)))))))
  obtain rfl:=Aa h
  obtain rfl:=Af hJ0
  replace h:=An hO0
  refine br (qr ?_)
  cases h;exact en Tryz.results93
 obtain⟨y4,hy4,h⟩:=Ah h
 refine Al.pure Tryz.call193 (Gz x_2.Node 1 9999 hy4) rfl fun _ hr=>?_
 subst hr
 refine nS ?_
 revert h;refine gf (fun hc h=>?_) fun hc h=>?_
 rotate_left
 ·refine j _ _ (qn ?_)
  refine AWP.cond (Ai ?_)
  refine sq (ar rfl (qn (rt (qr (br (qr (qr ?_)))))))
  obtain rfl:=Aa h
  obtain rfl:=Af hJ0
  replace h:=An hO0
  refine br (qr ?_)
  cases h;exact en Tryz.results93
 obtain⟨y5,hy5,h⟩:=Ah h
 refine Al.pure Tryz.call193 (Gz x_2.Fuel 0 1000000 hy5) rfl fun _ hr=>?_
 subst hr
 refine nS ?_
 revert h;refine gf (fun hc h=>?_) fun hc h=>?_
 rotate_left
 ·refine j _ _ (qn ?_)
  refine AWP.cond (Ai ?_)
  refine sq (ar rfl (qn (rt (qr (br (qr (qr ?_)))))))
  obtain rfl:=Aa h
  obtain rfl:=Af hJ0
  replace h:=An hO0
  refine br (qr ?_)
  cases h;exact en Tryz.results93
 obtain⟨y6,hy6,h⟩:=Ah h
 refine Al.pure Tryz.call193 (Gz x_2.State 0 2 hy6) rfl fun _ hr=>?_
 subst hr
 refine nS ?_
 revert h;refine gf (fun hc h=>?_) fun hc h=>?_
 rotate_left
 ·refine j _ _ (qn ?_)
  refine AWP.cond (Ai ?_)
  refine sq (ar rfl (qn (rt (qr (br (qr (qr ?_)))))))
  obtain rfl:=Aa h
  obtain rfl:=Af hJ0
  replace h:=An hO0
  refine br (qr ?_)
  cases h;exact en Tryz.results93
 obtain⟨y7,hy7,h⟩:=Ah h
 refine Al.pure Tryz.call193 (Gz x_2.Until 0 20000000 hy7) rfl fun _ hr=>?_
 subst hr
 refine nS ?_
 revert h;refine gf (fun hc h=>?_) fun hc h=>?_
 rotate_left
 ·refine j _ _ (qn ?_)
  refine AWP.cond (Ai ?_)
  refine sq (ar rfl (qn (rt (qr (br (qr (qr ?_)))))))
  obtain rfl:=Aa h
  obtain rfl:=Af hJ0
  replace h:=An hO0
  refine br (qr ?_)
  cases h;exact en Tryz.results93
 obtain⟨y8,hy8,h⟩:=Ah h
 refine Al.pure Tryz.call193 (Gz x_2.To 0 9999 hy8) rfl fun _ hr=>?_
 subst hr
 refine nS ?_
 revert h;refine gf (fun hc h=>?_) fun hc h=>?_
 rotate_left
 ·refine j _ _ (qn ?_)
  refine AWP.cond (Ai ?_)
  refine sq (ar rfl (qn (rt (qr (br (qr (qr ?_)))))))
  obtain rfl:=Aa h
  obtain rfl:=Af hJ0
  replace h:=An hO0
  refine br (qr ?_)
  cases h;exact en Tryz.results93
 obtain⟨y9,hy9,h⟩:=Ah h
 refine Al.pure Tryz.call193 (Gz x_2.Run 0 9999 hy9) rfl fun _ hr=>?_
 subst hr
 refine nS ?_
 refine j _ _ (qn ?_)
 revert h;refine ca rfl (fun hc h=>?_) fun hc h=>?_
 ·refine sq (ar rfl (qn (rt (qr (br (qr (qr ?_)))))))
  obtain rfl:=Aa h
  obtain rfl:=Af hJ0
  replace h:=An hO0
  refine br (qr ?_)
  cases h;exact en Tryz.results93
 refine sk (qn (sq (sq ?_)))
 refine AWP.draw Tryz.mixed (by kernel_rfl) ?_;intro K j
 refine nS ?_
 obtain⟨hk,h⟩:=Jz h
 intro hm
 (repeat(refine⟨by omega,?_⟩))
 obtain⟨y10,hy10,h⟩:=Ah h
 refine Bz.pure Tryz.call194 (dA (l.take k0) x_2.ID hy10) rfl ?_
 refine nS ?_
 refine j _ _ _ (by kernel_rfl) ?_
 refine qn ?_
 revert h;refine ca rfl (fun hc h=>?_) fun hc h=>?_
 ·refine sq (ar rfl (qn (rt (qr (br (qr (qr ?_)))))))
  obtain rfl:=Aa h
  obtain rfl:=Af hJ0
  replace h:=An hO0
  refine br (qr ?_)
  cases h;exact en Tryz.results93
 refine sk (qn (sq ?_))
 refine rg rfl fun K j=>?_
 revert h;refine gf (fun hc h=>?_) fun hc h=>?_
 ·refine j _ _ (qn ?_)
  revert h;refine ca rfl (fun hc h=>?_) fun hc h=>?_
  ·refine sq (ar rfl (qn (rt (br (qr (qr ?_))))))
   obtain rfl:=Aa h
   obtain rfl:=Af hJ0
   replace h:=An hO0
   refine br (qr ?_)
   cases h;exact en Tryz.results93
  refine sk (bn (qn (ar rfl (qn ?_))))
  obtain rfl:=Aa h
  refine⟨(k0+1,(),()),⟨by dsimp only;omega,Ae hJ0⟩,by dsimp only;omega,?_,?_⟩
  ·exact cuw hw0
  exact cuw hw0
 refine j _ _ (qn ?_)
 refine AWP.cond (Ai ?_)
 refine sq (ar rfl (qn (rt (br (qr (qr ?_))))))
 obtain rfl:=Aa h
 obtain rfl:=Af hJ0
 replace h:=An hO0
 refine br (qr ?_)
 cases h;exact en Tryz.results93
def Fy (y1:Int) (y2:Int) (y3:Int) (y4:Int) (y5:Int) (y6:Int) (y7:Int) (y8:Int) (y9:Int) (k9:Nat) (_x:Unit) (sv:Unit):Option (Out (Unit) (Int)):=
 (Dl [y1,y2,y3,y4,y5,y6,y7,y8,y9] ((k9:Nat):Int)).bind fun x_11=>(bif (decide (x_11≠0))then some (Out.ret x_11)else some (Out.next ()))
def Km (f_:Ak):Option (Int):=
 (Ij f_.Map).bind fun y1=>(Ig f_.Closures).bind fun y2=>(Ie f_.Patrol).bind fun y3=>(Qp f_.Surfaces).bind fun y4=>(Nz f_.Slides).bind fun y5=>(Ii f_.Bulletin).bind fun y6=>(Ih f_.Missions).bind fun y7=>(N1 f_.Winches).bind fun y8=>(N2 f_.Groomers).bind fun y9=>(Kc (Fy y1 y2 y3 y4 y5 y6 y7 y8 y9) 9 ()).bind fun o9=>o9.on fun s9=>some 0
theorem cK (f_:Ak) {r:Int} (h:Km f_=some r):Ad Tryz.prog 41 [.agg (Bv f_)] (·= .int .i64 r):=by
 refine Ad.nle (Ad.intro Tryz.func41 rfl rfl (by show _≤48;simp) ?_)
 unfold Km at h
 refine nS (sq ?_)
 refine ar rfl (qn (sq ?_))
 refine AWP.draw Tryz.mixed (by kernel_rfl) ?_;intro K j
 refine nS ?_
 obtain⟨y1,hy1,h⟩:=Ah h
 refine Bz.pure Tryz.call85 (dJ f_.Map hy1) rfl ?_
 refine nS ?_
 obtain⟨y2,hy2,h⟩:=Ah h
 refine Bz.pure Tryz.call86 (cP f_.Closures hy2) rfl ?_
 refine nS ?_
 obtain⟨y3,hy3,h⟩:=Ah h
 refine Bz.pure Tryz.call87 (cN f_.Patrol hy3) rfl ?_
 refine nS ?_
 obtain⟨y4,hy4,h⟩:=Ah h
 refine Bz.pure Tryz.call88 (c6 f_.Surfaces hy4) rfl ?_
 refine nS ?_
 obtain⟨y5,hy5,h⟩:=Ah h
 refine Bz.pure Tryz.call89 (cV f_.Slides hy5) rfl ?_
 refine nS ?_
 obtain⟨y6,hy6,h⟩:=Ah h
 refine Bz.pure Tryz.call90 (cY f_.Bulletin hy6) rfl ?_
 refine nS ?_
 obtain⟨y7,hy7,h⟩:=Ah h
 refine Bz.pure Tryz.call91 (cT f_.Missions hy7) rfl ?_
 refine nS ?_
 obtain⟨y8,hy8,h⟩:=Ah h
 refine Bz.pure Tryz.call92 (c9 f_.Winches hy8) rfl ?_
 refine nS ?_
 obtain⟨y9,hy9,h⟩:=Ah h
 refine Bz.pure Tryz.call93 (dB f_.Groomers hy9) rfl ?_
 refine nS ?_
 refine j _ _ _ (by kernel_rfl) ?_
 refine qn (sq (sq (ar rfl (qn (bk ?_)))))
 obtain⟨o9,hJ9,hO9⟩:=Ah h
 clear h
 obtain⟨hn9,hJ9⟩:=Pe hJ9
 refine AWP.Br (ι:=Nat×(Unit)×(Unit)) (fun zz=>[(3,.own 10 0 0 9),(4,.int .i64 ((zz.1:Nat):Int))]) (fun zz=>[.gone,.gone,.gone,.gone,.gone,.gone,.gone,.gone,.gone,.gone,.row 0 1 ([y1,y2,y3,y4,y5,y6,y7,y8,y9].map Aw)]) (fun zz=>zz.1≤9∧Am (Fy y1 y2 y3 y4 y5 y6 y7 y8 y9) zz.1 ((List.replicate 9 ()).drop zz.1) zz.2.1=some o9) (fun zz=>9 - zz.1) (0,(),()) ⟨Nat.zero_le _,hJ9⟩ cu cu (fun x=>⟨rfl,rfl,rfl⟩) ?_
 clear hJ9
 rintro⟨k9,⟨⟩,⟨⟩⟩ ⟨hk9,hJ9⟩
 dsimp only at hk9 hJ9 ⊢
 refine sq (sq (ar rfl (qn ?_)))
 refine AWP.cond (Aj (fun hc=>?_) (fun hc=>?_))
 rotate_left
 ·obtain rfl:=Bc hJ9 (fun hl=>by rw[List.length_replicate]at hl;have:=Ajo hc;omega)
  have h:=Bb hO9;try dsimp only at h
  have hkl:9=k9:=by have:=Ajo hc;omega
  subst hkl
  refine xt (qe (qe (bs (qn (sq (ar rfl (qn (rt ?_))))))))
  cases h;exact en Tryz.results41
 have hlt9:k9<9:=by have:=Ajp hc;omega
 obtain⟨_,b9,_,h,hJ9⟩:=A1 hJ9 (by rw[List.length_replicate];exact hlt9)
 have hw9:=wk (k:=k9) (by omega)
 unfold Fy at h;try dsimp only at h
 refine sk (qn (sq (bk (sq ?_))))
 refine rg rfl fun K j=>?_
 obtain⟨x_11,hx_11,h⟩:=Ah h
 refine F3 hx_11 (by first | rfl | exact(Cd _).symm | (simp only[List.length_append,List.length_cons,List.length_nil,List.length_set,List.length_replicate]<;>omega)) ?_
 refine nS ?_
 refine Cy.ofNat (f:=Aw) (l:=[y1,y2,y3,y4,y5,y6,y7,y8,y9]) (n:=k9) hx_11 ?_
 refine nS ?_
 refine j _ _ (qn ?_)
 revert h;refine ca rfl (fun hc h=>?_) fun hc h=>?_
 ·refine sq ?_
  refine rg rfl fun K j=>?_
  refine F3 hx_11 (by first | rfl | exact(Cd _).symm | (simp only[List.length_append,List.length_cons,List.length_nil,List.length_set,List.length_replicate]<;>omega)) ?_
  refine nS ?_
  refine Cy.ofNat (f:=Aw) (l:=[y1,y2,y3,y4,y5,y6,y7,y8,y9]) (n:=k9) hx_11 ?_
  refine nS ?_
  refine j _ _ (qn (rt (br (qr (qr ?_)))))
  obtain rfl:=Aa h
  obtain rfl:=Af hJ9
  replace h:=An hO9
  refine br (qr ?_)
  cases h;exact en Tryz.results41
 refine sk (bn (qn (ar rfl (qn ?_))))
 obtain rfl:=Aa h
 refine⟨(k9+1,(),()),⟨by dsimp only;omega,Ae hJ9⟩,by dsimp only;omega,?_,?_⟩
 ·exact cuw hw9
 exact cuw hw9
def T1 (id_:Int) (k0:Nat) (x_2:Ce) (sv:Unit):Option (Out (Unit) (Ce×Bool)):=
 (bif (decide (x_2.ID=id_))then some (Out.ret (x_2,true))else some (Out.next ()))
def Vj (m:Bd) (id_:Int):Option (Ce×Bool):=
 (Am (T1 id_) 0 m.Lifts ()).bind fun o0=>o0.on fun s0=>some ((Ce.mk 0 0 0 0 0 0 0 0),false)
theorem We (m:Bd) (id_:Int) {r:Ce×Bool} (h:Vj m id_=some r):Ad Tryz.prog 42 [.agg (Ca m),.int .i64 id_] (·= .tuple [.agg (A7 r.1),.bool r.2]):=by
 refine Ad.nle (Ad.intro Tryz.func42 rfl rfl (by show _≤28;simp) ?_)
 unfold Vj at h
 refine nS (sq ?_)
 refine ar rfl (qn (sq (sq ?_)))
 refine ar rfl (qn (bk ?_))
 obtain⟨o0,hJ0,hO0⟩:=Ah h
 clear h
 refine AWP.Br (ι:=Nat×(Unit)×(Unit)) (fun zz=>[(1,.int .i64 id_),(2,.ptr 0 0),(4,.ptr 1 0),(6,.int .i64 ((zz.1:Nat):Int))]) (fun zz=>[.box [.sl 2 (m.Nodes.map A9),.sl 8 (m.Lifts.map A7),.sl 7 (m.Runs.map Be),.sl 1 (m.Bases.map Aw)],.box [.int .i64 0,.int .i64 0,.int .i64 0,.int .i64 0,.int .i64 0,.int .i64 0,.int .i64 0,.int .i64 0]]) (fun zz=>zz.1≤m.Lifts.length∧Am (T1 id_) zz.1 ((m.Lifts).drop zz.1) zz.2.1=some o0) (fun zz=>m.Lifts.length - zz.1) (0,(),()) ⟨Nat.zero_le _,hJ0⟩ cu cu (fun x=>⟨rfl,rfl,rfl⟩) ?_
 clear hJ0
 rintro⟨k0,⟨⟩,⟨⟩⟩ ⟨hk0,hJ0⟩
 dsimp only at hk0 hJ0 ⊢
 refine sq (sq ?_)
 refine rg rfl fun K j=>?_
 intro hm
 refine j _ _ (qn ?_)
 refine AWP.cond (Aj (fun hc=>?_) (fun hc=>?_))
 rotate_left
 ·obtain rfl:=Bc hJ0 (fun hl=>by have:=Ajo hc;omega)
  have h:=Bb hO0;try dsimp only at h
  have hkl:m.Lifts.length=k0:=by have:=Ajo hc;omega
  subst hkl
  refine xt (qe (qe (bs (qn (sq (ar rfl (qn (rt ?_))))))))
  cases h;exact en Tryz.results42
 have hlt0:k0<m.Lifts.length:=by have:=Ajp hc;omega
 obtain⟨x_2,b0,hx0_,h,hJ0⟩:=A1 hJ0 hlt0
 have hx0:=Ay hx0_
 have hw0:=wk (k:=k0) (by omega)
 unfold T1 at h;try dsimp only at h
 refine sk (qn (sq (bk (sq ?_))))
 refine rg rfl fun K j=>?_
 refine Bk.of (f:=A7) (l:=m.Lifts) hx0 ?_
 refine nS ?_
 refine j _ _ (qn ?_)
 revert h;refine ca rfl (fun hc h=>?_) fun hc h=>?_
 ·refine sq ?_
  refine rg rfl fun K j=>?_
  refine Bk.of (f:=A7) (l:=m.Lifts) hx0 ?_
  refine nS ?_
  refine j _ _ (qn (rt (br (qr (qr ?_)))))
  obtain rfl:=Aa h
  obtain rfl:=Af hJ0
  replace h:=An hO0
  refine br (qr ?_)
  cases h;exact en Tryz.results42
 refine sk (bn (qn (ar rfl (qn ?_))))
 obtain rfl:=Aa h
 refine⟨(k0+1,(),()),⟨by dsimp only;omega,Ae hJ0⟩,by dsimp only;omega,?_,?_⟩
 ·exact cuw hw0
 exact cuw hw0
def Uz (n_:Int) (lo:Int) (hi:Int):Option (Bool):=
 (bif (decide (lo≤n_))then some (decide (n_≤hi))else some false)
theorem Tz (n_:Int) (lo:Int) (hi:Int) {r:Bool} (h:Uz n_ lo hi=some r):Ad Tryz.prog 94 [.int .i64 n_,.int .i64 lo,.int .i64 hi] (·= .bool r):=by
 refine Ad.nle (Ad.intro Tryz.func94 rfl rfl (by show _≤15;simp) ?_)
 unfold Uz at h
 refine nS (sq ?_)
 refine ar rfl (qn (sq ?_))
 refine rg rfl fun K j=>?_
 revert h;refine gt (fun hc h=>?_) fun hc h=>?_
 ·refine j _ _ (qn (rt ?_))
  cases h;exact en Tryz.results94
 refine j _ _ (qn (rt ?_))
 cases h;exact en Tryz.results94
def K6 (p:Fe):Option (Bool):=
 (Uz p.Natural 0 20000).bind fun y1=>(bif y1 then(Uz p.Machine 0 20000).bind fun y2=>(bif y2 then(Uz p.Density 50 900).bind fun y3=>some y3 else some false)else some false)
theorem U0 (p:Fe) {r:Bool} (h:K6 p=some r):Ad Tryz.prog 43 [.agg (Np p)] (·= .bool r):=by
 refine Ad.nle (Ad.intro Tryz.func43 rfl rfl (by show _≤16;simp) ?_)
 unfold K6 at h
 refine nS (sq ?_)
 refine ar rfl (qn (sq ?_))
 refine rg rfl fun K j=>?_
 obtain⟨y1,hy1,h⟩:=Ah h
 refine Al.pure Tryz.call94 (Tz p.Natural 0 20000 hy1) rfl fun _ hr=>?_
 subst hr
 refine nS ?_
 revert h;refine gt (fun hc h=>?_) fun hc h=>?_
 ·obtain⟨y2,hy2,h⟩:=Ah h
  refine Al.pure Tryz.call94 (Tz p.Machine 0 20000 hy2) rfl fun _ hr=>?_
  subst hr
  refine nS ?_
  revert h;refine gt (fun hc h=>?_) fun hc h=>?_
  ·obtain⟨y3,hy3,h⟩:=Ah h
   refine Al.pure Tryz.call94 (Tz p.Density 50 900 hy3) rfl fun _ hr=>?_
   subst hr
   refine nS ?_
   refine j _ _ (qn (rt ?_))
   cases h;exact en Tryz.results43
  refine j _ _ (qn (rt ?_))
  cases h;exact en Tryz.results43
 refine j _ _ (qn (rt ?_))
 cases h;exact en Tryz.results43
def Vi (id_:Int) (k0:Nat) (x_2:Cf) (sv:Unit):Option (Out (Unit) (Cf×Bool)):=
 (bif (decide (x_2.ID=id_))then some (Out.ret (x_2,true))else some (Out.next ()))
def Lz (m:Bd) (id_:Int):Option (Cf×Bool):=
 (Am (Vi id_) 0 m.Runs ()).bind fun o0=>o0.on fun s0=>some ((Cf.mk 0 0 0 0 0 0 0),false)
theorem K9 (m:Bd) (id_:Int) {r:Cf×Bool} (h:Lz m id_=some r):Ad Tryz.prog 32 [.agg (Ca m),.int .i64 id_] (·= .tuple [.agg (Be r.1),.bool r.2]):=by
 refine Ad.nle (Ad.intro Tryz.func32 rfl rfl (by show _≤28;simp) ?_)
 unfold Lz at h
 refine nS (sq ?_)
 refine ar rfl (qn (sq (sq ?_)))
 refine ar rfl (qn (bk ?_))
 obtain⟨o0,hJ0,hO0⟩:=Ah h
 clear h
 refine AWP.Br (ι:=Nat×(Unit)×(Unit)) (fun zz=>[(1,.int .i64 id_),(2,.ptr 0 0),(4,.ptr 1 0),(6,.int .i64 ((zz.1:Nat):Int))]) (fun zz=>[.box [.sl 2 (m.Nodes.map A9),.sl 8 (m.Lifts.map A7),.sl 7 (m.Runs.map Be),.sl 1 (m.Bases.map Aw)],.box [.int .i64 0,.int .i64 0,.int .i64 0,.int .i64 0,.int .i64 0,.int .i64 0,.int .i64 0]]) (fun zz=>zz.1≤m.Runs.length∧Am (Vi id_) zz.1 ((m.Runs).drop zz.1) zz.2.1=some o0) (fun zz=>m.Runs.length - zz.1) (0,(),()) ⟨Nat.zero_le _,hJ0⟩ cu cu (fun x=>⟨rfl,rfl,rfl⟩) ?_
 clear hJ0
 rintro⟨k0,⟨⟩,⟨⟩⟩ ⟨hk0,hJ0⟩
 dsimp only at hk0 hJ0 ⊢
 refine sq (sq ?_)
 refine rg rfl fun K j=>?_
 intro hm
 refine j _ _ (qn ?_)
 refine AWP.cond (Aj (fun hc=>?_) (fun hc=>?_))
 rotate_left
 ·obtain rfl:=Bc hJ0 (fun hl=>by have:=Ajo hc;omega)
  have h:=Bb hO0;try dsimp only at h
  have hkl:m.Runs.length=k0:=by have:=Ajo hc;omega
  subst hkl
  refine xt (qe (qe (bs (qn (sq (ar rfl (qn (rt ?_))))))))
  cases h;exact en Tryz.results32
 have hlt0:k0<m.Runs.length:=by have:=Ajp hc;omega
 obtain⟨x_2,b0,hx0_,h,hJ0⟩:=A1 hJ0 hlt0
 have hx0:=Ay hx0_
 have hw0:=wk (k:=k0) (by omega)
 unfold Vi at h;try dsimp only at h
 refine sk (qn (sq (bk (sq ?_))))
 refine rg rfl fun K j=>?_
 refine Bk.of (f:=Be) (l:=m.Runs) hx0 ?_
 refine nS ?_
 refine j _ _ (qn ?_)
 revert h;refine ca rfl (fun hc h=>?_) fun hc h=>?_
 ·refine sq ?_
  refine rg rfl fun K j=>?_
  refine Bk.of (f:=Be) (l:=m.Runs) hx0 ?_
  refine nS ?_
  refine j _ _ (qn (rt (br (qr (qr ?_)))))
  obtain rfl:=Aa h
  obtain rfl:=Af hJ0
  replace h:=An hO0
  refine br (qr ?_)
  cases h;exact en Tryz.results32
 refine sk (bn (qn (ar rfl (qn ?_))))
 obtain rfl:=Aa h
 refine⟨(k0+1,(),()),⟨by dsimp only;omega,Ae hJ0⟩,by dsimp only;omega,?_,?_⟩
 ·exact cuw hw0
 exact cuw hw0
def Kq (f_:Ak) (k3:Nat) (x_5:Bo) (sv:Unit):Option (Out (Unit) (Int)):=
 (bif (decide (0<((k3:Nat):Int)))then (Dl f_.Status (IntKind.i64.wrap (((k3:Nat):Int) - 1))).bind fun x_6=>(bif (decide (x_5.Run≤x_6.Run))then some (Out.ret 11)else (Lz f_.Map x_5.Run).bind fun y7=>(bif (!y7.2)then some (Out.ret 8)else (bif (decide (x_5.Since<0))then some (Out.ret 2)else (bif (decide (20000000<x_5.Since))then some (Out.ret 2)else some (Out.next ())))))else (Lz f_.Map x_5.Run).bind fun y8=>(bif (!y8.2)then some (Out.ret 8)else (bif (decide (x_5.Since<0))then some (Out.ret 2)else (bif (decide (20000000<x_5.Since))then some (Out.ret 2)else some (Out.next ())))))
def Kn (f_:Ak):Option (Int):=
 (Am (Kq f_) 0 f_.Status ()).bind fun o3=>o3.on fun s3=>(bif (decide (f_.Depth<0))then some 2 else(bif (decide (10000<f_.Depth))then some 2 else(bif (decide (f_.Time<0))then some 2 else(bif (decide (20000000<f_.Time))then some 2 else some 0))))
def Kp (f_:Ak) (k8:Nat) (x_10:C5) (sv:Unit):Option (Out (Unit) (Int)):=
 (bif (decide (x_10.Area<1))then some (Out.ret 2)else (bif (decide (10000000<x_10.Area))then some (Out.ret 2)else (K6 x_10.Pack).bind fun y11=>(bif (!y11)then some (Out.ret 2)else (bif (decide (0<((k8:Nat):Int)))then (Dl f_.Packs (IntKind.i64.wrap (((k8:Nat):Int) - 1))).bind fun x_12=>(bif (decide (x_10.Run≤x_12.Run))then some (Out.ret 11)else some (Out.next ()))else some (Out.next ())))))
def Ko (f_:Ak):Option (Int):=
 (Am (Kp f_) 0 f_.Packs ()).bind fun o8=>o8.on fun s8=>Kn f_
def Oh (f_:Ak) (k12:Nat) (x_14:Cr) (sv:Unit):Option (Out (Unit) (Int)):=
 (bif (decide (0<((k12:Nat):Int)))then (Dl f_.Lifts (IntKind.i64.wrap (((k12:Nat):Int) - 1))).bind fun x_15=>(bif (decide (x_14.Lift≤x_15.Lift))then some (Out.ret 11)else (Vj f_.Map x_14.Lift).bind fun y16=>(bif (!y16.2)then some (Out.ret 8)else (bif (decide (x_14.Mode<0))then some (Out.ret 2)else (bif (decide (3<x_14.Mode))then some (Out.ret 2)else some (Out.next ())))))else (Vj f_.Map x_14.Lift).bind fun y17=>(bif (!y17.2)then some (Out.ret 8)else (bif (decide (x_14.Mode<0))then some (Out.ret 2)else (bif (decide (3<x_14.Mode))then some (Out.ret 2)else some (Out.next ())))))
def Ic (f_:Ak):Option (Int):=
 (Km f_).bind fun y1=>(bif (decide (y1≠0))then some y1 else(bif (decide (32<((f_.Lifts.length:Nat):Int)))then some 4 else(bif (decide (64<((f_.Packs.length:Nat):Int)))then some 4 else(bif (decide (64<((f_.Status.length:Nat):Int)))then some 4 else(Am (Oh f_) 0 f_.Lifts ()).bind fun o12=>o12.on fun s12=>Ko f_))))
theorem cM (f_:Ak) {r:Int} (h:Ic f_=some r):Ad Tryz.prog 13 [.agg (Bv f_)] (·= .int .i64 r):=by
 refine Ad.nle (Ad.intro Tryz.func13 rfl rfl (by show _≤211;simp) ?_)
 unfold Ic at h
 refine nS (sq ?_)
 refine ar rfl (qn (sq (sq ?_)))
 refine rg rfl fun K j=>?_
 obtain⟨y1,hy1,h⟩:=Ah h
 refine Al.pure Tryz.call41 (cK f_ hy1) rfl fun _ hr=>?_
 subst hr
 refine nS ?_
 refine j _ _ (qn (sq ?_))
 refine ar rfl (qn ?_)
 revert h;refine ca rfl (fun hc h=>?_) fun hc h=>?_
 ·refine sq (ar rfl (qn (rt (qr ?_))))
  cases h;exact en Tryz.results13
 refine sk (qn (sq (sq ?_)))
 refine rg rfl fun K j=>?_
 intro hm
 revert h;refine gf (fun hc h=>?_) fun hc h=>?_
 rotate_left
 ·refine j _ _ (qn ?_)
  refine AWP.cond (Ai ?_)
  refine sq (ar rfl (qn (rt (qr ?_))))
  cases h;exact en Tryz.results13
 intro hm
 revert h;refine gf (fun hc h=>?_) fun hc h=>?_
 rotate_left
 ·refine j _ _ (qn ?_)
  refine AWP.cond (Ai ?_)
  refine sq (ar rfl (qn (rt (qr ?_))))
  cases h;exact en Tryz.results13
 intro hm
 refine j _ _ (qn ?_)
 revert h;refine ca rfl (fun hc h=>?_) fun hc h=>?_
 ·refine sq (ar rfl (qn (rt (qr ?_))))
  cases h;exact en Tryz.results13
 refine sk (qn ?_)
 refine AWP.It (ι:=(Unit)×(Unit)) (fun zz=>[(1,.ptr 0 0)]) (fun zz=>[.box [.sl 2 (f_.Map.Nodes.map A9),.sl 8 (f_.Map.Lifts.map A7),.sl 7 (f_.Map.Runs.map Be),.sl 1 (f_.Map.Bases.map Aw),.sl 2 (f_.Lifts.map Az),.sl 4 (f_.Closures.map Aq),.sl 4 (f_.Patrol.Bw.map Ax),.sl 3 (f_.Patrol.Hazards.map A3),.sl 3 (f_.Surfaces.map Ba),.sl 5 (f_.Packs.map A4),.sl 6 (f_.Slides.map A5),.sl 7 (f_.Bulletin.map Au),.sl 7 (f_.Missions.map Ao),.sl 4 (f_.Winches.map Ap),.sl 8 (f_.Groomers.map A2),.sl 3 (f_.Status.map A6),.int .i64 f_.Depth,.int .i64 f_.Time]]) (fun zz=>Ko f_=some r) (fun zz=>⟨rfl,rfl,rfl⟩) ?_ ?_
 ·refine sq (ar rfl (qn (bk ?_)))
  obtain⟨o12,hJ12,hO12⟩:=Ah h
  clear h
  refine AWP.Br (ι:=Nat×(Unit)×(Unit)) (fun zz=>[(1,.ptr 0 0),(4,.int .i64 ((zz.1:Nat):Int))]) (fun zz=>[.box [.sl 2 (f_.Map.Nodes.map A9),.sl 8 (f_.Map.Lifts.map A7),.sl 7 (f_.Map.Runs.map Be),.sl 1 (f_.Map.Bases.map Aw),.sl 2 (f_.Lifts.map Az),.sl 4 (f_.Closures.map Aq),.sl 4 (f_.Patrol.Bw.map Ax),.sl 3 (f_.Patrol.Hazards.map A3),.sl 3 (f_.Surfaces.map Ba),.sl 5 (f_.Packs.map A4),.sl 6 (f_.Slides.map A5),.sl 7 (f_.Bulletin.map Au),.sl 7 (f_.Missions.map Ao),.sl 4 (f_.Winches.map Ap),.sl 8 (f_.Groomers.map A2),.sl 3 (f_.Status.map A6),.int .i64 f_.Depth,.int .i64 f_.Time]]) (fun zz=>zz.1≤f_.Lifts.length∧Am (Oh f_) zz.1 ((f_.Lifts).drop zz.1) zz.2.1=some o12) (fun zz=>f_.Lifts.length - zz.1) (0,(),()) ⟨Nat.zero_le _,hJ12⟩ cu cu (fun x=>⟨rfl,rfl,rfl⟩) ?_
  clear hJ12
  rintro⟨k12,⟨⟩,⟨⟩⟩ ⟨hk12,hJ12⟩
  dsimp only at hk12 hJ12 ⊢
  refine sq (sq ?_)
  refine rg rfl fun K j=>?_
  intro hm
  refine j _ _ (qn ?_)
  refine AWP.cond (Aj (fun hc=>?_) (fun hc=>?_))
  rotate_left
  ·obtain rfl:=Bc hJ12 (fun hl=>by have:=Ajo hc;omega)
   have h:=Bb hO12;try dsimp only at h
   have hkl:f_.Lifts.length=k12:=by have:=Ajo hc;omega
   subst hkl
   refine xt (qe (qe (bs (qn ?_))))
   exact⟨((),()),h,cu,cu⟩
  have hlt12:k12<f_.Lifts.length:=by have:=Ajp hc;omega
  obtain⟨x_14,b12,hx12_,h,hJ12⟩:=A1 hJ12 hlt12
  have hx12:=Ay hx12_
  have hw12:=wk (k:=k12) (by omega)
  unfold Oh at h;try dsimp only at h
  refine sk (qn (sq (bk (sq (sq ?_)))))
  refine AWP.draw Tryz.mixed (by kernel_rfl) ?_;intro K j
  refine nS ?_
  revert h;refine gt (fun hc h=>?_) fun hc h=>?_
  ·refine Bk.of (f:=Az) (l:=f_.Lifts) hx12 ?_
   refine nS ?_
   obtain⟨x_15,hx_15,h⟩:=Ah h
   refine Bk.of (f:=Az) (l:=f_.Lifts) hx_15 ?_
   refine nS ?_
   refine j _ _ _ (by kernel_rfl) ?_
   refine qn ?_
   revert h;refine ca rfl (fun hc h=>?_) fun hc h=>?_
   ·refine sq (ar rfl (qn (rt (qr (br (qr (qr ?_)))))))
    obtain rfl:=Aa h
    obtain rfl:=Af hJ12
    replace h:=An hO12
    refine br (qr ?_)
    cases h;exact en Tryz.results13
   refine sk (qn (sq (sq ?_)))
   refine AWP.draw Tryz.mixed (by kernel_rfl) ?_;intro K j
   refine nS ?_
   refine Bk.of (f:=Az) (l:=f_.Lifts) hx12 ?_
   refine nS ?_
   obtain⟨y16,hy16,h⟩:=Ah h
   refine Bz.pure Tryz.call42 (We f_.Map x_14.Lift hy16) rfl ?_
   refine nS ?_
   refine j _ _ _ (by kernel_rfl) ?_
   refine qn (sq (ar rfl (qn ?_)))
   revert h;refine ca rfl (fun hc h=>?_) fun hc h=>?_
   ·refine sq (ar rfl (qn (rt (qr (br (qr (qr ?_)))))))
    obtain rfl:=Aa h
    obtain rfl:=Af hJ12
    replace h:=An hO12
    refine br (qr ?_)
    cases h;exact en Tryz.results13
   refine sk (qn (sq ?_))
   refine rg rfl fun K j=>?_
   refine Bk.of (f:=Az) (l:=f_.Lifts) hx12 ?_
   refine nS ?_
   revert h;refine gf (fun hc h=>?_) fun hc h=>?_
   ·refine Bk.of (f:=Az) (l:=f_.Lifts) hx12 ?_
    refine nS ?_
    refine j _ _ (qn ?_)
    revert h;refine ca rfl (fun hc h=>?_) fun hc h=>?_
    ·refine sq (ar rfl (qn (rt (br (qr (qr ?_))))))
     obtain rfl:=Aa h
     obtain rfl:=Af hJ12
     replace h:=An hO12
     refine br (qr ?_)
     cases h;exact en Tryz.results13
    refine sk (bn (qn (ar rfl (qn ?_))))
    obtain rfl:=Aa h
    refine⟨(k12+1,(),()),⟨by dsimp only;omega,Ae hJ12⟩,by dsimp only;omega,?_,?_⟩
    ·exact cuw hw12
    exact cuw hw12
   refine j _ _ (qn ?_)
   refine AWP.cond (Ai ?_)
   refine sq (ar rfl (qn (rt (br (qr (qr ?_))))))
   obtain rfl:=Aa h
   obtain rfl:=Af hJ12
   replace h:=An hO12
   refine br (qr ?_)
   cases h;exact en Tryz.results13
  refine j _ _ _ (by kernel_rfl) ?_
  refine qn ?_
  refine AWP.cond (Bg ?_)
  refine sk (qn (sq (sq ?_)))
  refine AWP.draw Tryz.mixed (by kernel_rfl) ?_;intro K j
  refine nS ?_
  refine Bk.of (f:=Az) (l:=f_.Lifts) hx12 ?_
  refine nS ?_
  obtain⟨y17,hy17,h⟩:=Ah h
  refine Bz.pure Tryz.call42 (We f_.Map x_14.Lift hy17) rfl ?_
  refine nS ?_
  refine j _ _ _ (by kernel_rfl) ?_
  refine qn (sq (ar rfl (qn ?_)))
  revert h;refine ca rfl (fun hc h=>?_) fun hc h=>?_
  ·refine sq (ar rfl (qn (rt (qr (br (qr (qr ?_)))))))
   obtain rfl:=Aa h
   obtain rfl:=Af hJ12
   replace h:=An hO12
   refine br (qr ?_)
   cases h;exact en Tryz.results13
  refine sk (qn (sq ?_))
  refine rg rfl fun K j=>?_
  refine Bk.of (f:=Az) (l:=f_.Lifts) hx12 ?_
  refine nS ?_
  revert h;refine gf (fun hc h=>?_) fun hc h=>?_
  ·refine Bk.of (f:=Az) (l:=f_.Lifts) hx12 ?_
   refine nS ?_
   refine j _ _ (qn ?_)
   revert h;refine ca rfl (fun hc h=>?_) fun hc h=>?_
   ·refine sq (ar rfl (qn (rt (br (qr (qr ?_))))))
    obtain rfl:=Aa h
    obtain rfl:=Af hJ12
    replace h:=An hO12
    refine br (qr ?_)
    cases h;exact en Tryz.results13
   refine sk (bn (qn (ar rfl (qn ?_))))
   obtain rfl:=Aa h
   refine⟨(k12+1,(),()),⟨by dsimp only;omega,Ae hJ12⟩,by dsimp only;omega,?_,?_⟩
   ·exact cuw hw12
   exact cuw hw12
  refine j _ _ (qn ?_)
  refine AWP.cond (Ai ?_)
  refine sq (ar rfl (qn (rt (br (qr (qr ?_))))))
  obtain rfl:=Aa h
  obtain rfl:=Af hJ12
  replace h:=An hO12
  refine br (qr ?_)
  cases h;exact en Tryz.results13
 rintro⟨⟨⟩,⟨⟩⟩ h
 try dsimp only at h ⊢
 unfold Ko at h;try dsimp only at h
 refine AWP.It (ι:=(Unit)×(Unit)) (fun zz=>[(1,.ptr 0 0)]) (fun zz=>[.box [.sl 2 (f_.Map.Nodes.map A9),.sl 8 (f_.Map.Lifts.map A7),.sl 7 (f_.Map.Runs.map Be),.sl 1 (f_.Map.Bases.map Aw),.sl 2 (f_.Lifts.map Az),.sl 4 (f_.Closures.map Aq),.sl 4 (f_.Patrol.Bw.map Ax),.sl 3 (f_.Patrol.Hazards.map A3),.sl 3 (f_.Surfaces.map Ba),.sl 5 (f_.Packs.map A4),.sl 6 (f_.Slides.map A5),.sl 7 (f_.Bulletin.map Au),.sl 7 (f_.Missions.map Ao),.sl 4 (f_.Winches.map Ap),.sl 8 (f_.Groomers.map A2),.sl 3 (f_.Status.map A6),.int .i64 f_.Depth,.int .i64 f_.Time]]) (fun zz=>Kn f_=some r) (fun zz=>⟨rfl,rfl,rfl⟩) ?_ ?_
 ·refine sq (ar rfl (qn (bk ?_)))
  obtain⟨o8,hJ8,hO8⟩:=Ah h
  clear h
  refine AWP.Br (ι:=Nat×(Unit)×(Unit)) (fun zz=>[(1,.ptr 0 0),(7,.int .i64 ((zz.1:Nat):Int))]) (fun zz=>[.box [.sl 2 (f_.Map.Nodes.map A9),.sl 8 (f_.Map.Lifts.map A7),.sl 7 (f_.Map.Runs.map Be),.sl 1 (f_.Map.Bases.map Aw),.sl 2 (f_.Lifts.map Az),.sl 4 (f_.Closures.map Aq),.sl 4 (f_.Patrol.Bw.map Ax),.sl 3 (f_.Patrol.Hazards.map A3),.sl 3 (f_.Surfaces.map Ba),.sl 5 (f_.Packs.map A4),.sl 6 (f_.Slides.map A5),.sl 7 (f_.Bulletin.map Au),.sl 7 (f_.Missions.map Ao),.sl 4 (f_.Winches.map Ap),.sl 8 (f_.Groomers.map A2),.sl 3 (f_.Status.map A6),.int .i64 f_.Depth,.int .i64 f_.Time]]) (fun zz=>zz.1≤f_.Packs.length∧Am (Kp f_) zz.1 ((f_.Packs).drop zz.1) zz.2.1=some o8) (fun zz=>f_.Packs.length - zz.1) (0,(),()) ⟨Nat.zero_le _,hJ8⟩ cu cu (fun x=>⟨rfl,rfl,rfl⟩) ?_
  clear hJ8
  rintro⟨k8,⟨⟩,⟨⟩⟩ ⟨hk8,hJ8⟩
  dsimp only at hk8 hJ8 ⊢
  refine sq (sq ?_)
  refine rg rfl fun K j=>?_
  intro hm
  refine j _ _ (qn ?_)
  refine AWP.cond (Aj (fun hc=>?_) (fun hc=>?_))
  rotate_left
  ·obtain rfl:=Bc hJ8 (fun hl=>by have:=Ajo hc;omega)
   have h:=Bb hO8;try dsimp only at h
   have hkl:f_.Packs.length=k8:=by have:=Ajo hc;omega
   subst hkl
   refine xt (qe (qe (bs (qn ?_))))
   exact⟨((),()),h,cu,cu⟩
  have hlt8:k8<f_.Packs.length:=by have:=Ajp hc;omega
  obtain⟨x_10,b8,hx8_,h,hJ8⟩:=A1 hJ8 hlt8
  have hx8:=Ay hx8_
  have hw8:=wk (k:=k8) (by omega)
  unfold Kp at h;try dsimp only at h
  refine sk (qn (sq (bk (sq (sq ?_)))))
  refine rg rfl fun K j=>?_
  refine Bk.of (f:=A4) (l:=f_.Packs) hx8 ?_
  refine nS ?_
  revert h;refine gf (fun hc h=>?_) fun hc h=>?_
  rotate_left
  ·refine j _ _ (qn ?_)
   refine AWP.cond (Ai ?_)
   refine sq (ar rfl (qn (rt (qr (br (qr (qr ?_)))))))
   obtain rfl:=Aa h
   obtain rfl:=Af hJ8
   replace h:=An hO8
   refine br (qr ?_)
   cases h;exact en Tryz.results13
  refine Bk.of (f:=A4) (l:=f_.Packs) hx8 ?_
  refine nS ?_
  revert h;refine gf (fun hc h=>?_) fun hc h=>?_
  rotate_left
  ·refine j _ _ (qn ?_)
   refine AWP.cond (Ai ?_)
   refine sq (ar rfl (qn (rt (qr (br (qr (qr ?_)))))))
   obtain rfl:=Aa h
   obtain rfl:=Af hJ8
   replace h:=An hO8
   refine br (qr ?_)
   cases h;exact en Tryz.results13
  refine Bk.of (f:=A4) (l:=f_.Packs) hx8 ?_
  refine nS ?_
  obtain⟨y11,hy11,h⟩:=Ah h
  refine Al.pure Tryz.call43 (U0 x_10.Pack hy11) rfl fun _ hr=>?_
  subst hr
  refine nS ?_
  refine j _ _ (qn ?_)
  revert h;refine ca rfl (fun hc h=>?_) fun hc h=>?_
  ·refine sq (ar rfl (qn (rt (qr (br (qr (qr ?_)))))))
   obtain rfl:=Aa h
   obtain rfl:=Af hJ8
   replace h:=An hO8
   refine br (qr ?_)
   cases h;exact en Tryz.results13
  refine sk (qn (sq ?_))
  refine AWP.draw Tryz.mixed (by kernel_rfl) ?_;intro K j
  refine nS ?_
  revert h;refine gt (fun hc h=>?_) fun hc h=>?_
  ·refine Bk.of (f:=A4) (l:=f_.Packs) hx8 ?_
   refine nS ?_
   obtain⟨x_12,hx_12,h⟩:=Ah h
   refine Bk.of (f:=A4) (l:=f_.Packs) hx_12 ?_
   refine nS ?_
   refine j _ _ _ (by kernel_rfl) ?_
   refine qn ?_
   revert h;refine ca rfl (fun hc h=>?_) fun hc h=>?_
   ·refine sq (ar rfl (qn (rt (br (qr (qr ?_))))))
    obtain rfl:=Aa h
    obtain rfl:=Af hJ8
    replace h:=An hO8
    refine br (qr ?_)
    cases h;exact en Tryz.results13
   refine sk (bn (qn (ar rfl (qn ?_))))
   obtain rfl:=Aa h
   refine⟨(k8+1,(),()),⟨by dsimp only;omega,Ae hJ8⟩,by dsimp only;omega,?_,?_⟩
   ·exact cuw hw8
   exact cuw hw8
  refine j _ _ _ (by kernel_rfl) ?_
  refine qn ?_
  refine AWP.cond (Bg ?_)
  refine sk (bn (qn (ar rfl (qn ?_))))
  obtain rfl:=Aa h
  refine⟨(k8+1,(),()),⟨by dsimp only;omega,Ae hJ8⟩,by dsimp only;omega,?_,?_⟩
  ·exact cuw hw8
  exact cuw hw8
 rintro⟨⟨⟩,⟨⟩⟩ h
 try dsimp only at h ⊢
 unfold Kn at h;try dsimp only at h
 refine sq (sq (ar rfl (qn (bk ?_))))
 obtain⟨o3,hJ3,hO3⟩:=Ah h
 clear h
 refine AWP.Br (ι:=Nat×(Unit)×(Unit)) (fun zz=>[(1,.ptr 0 0),(8,.int .i64 ((zz.1:Nat):Int))]) (fun zz=>[.box [.sl 2 (f_.Map.Nodes.map A9),.sl 8 (f_.Map.Lifts.map A7),.sl 7 (f_.Map.Runs.map Be),.sl 1 (f_.Map.Bases.map Aw),.sl 2 (f_.Lifts.map Az),.sl 4 (f_.Closures.map Aq),.sl 4 (f_.Patrol.Bw.map Ax),.sl 3 (f_.Patrol.Hazards.map A3),.sl 3 (f_.Surfaces.map Ba),.sl 5 (f_.Packs.map A4),.sl 6 (f_.Slides.map A5),.sl 7 (f_.Bulletin.map Au),.sl 7 (f_.Missions.map Ao),.sl 4 (f_.Winches.map Ap),.sl 8 (f_.Groomers.map A2),.sl 3 (f_.Status.map A6),.int .i64 f_.Depth,.int .i64 f_.Time]]) (fun zz=>zz.1≤f_.Status.length∧Am (Kq f_) zz.1 ((f_.Status).drop zz.1) zz.2.1=some o3) (fun zz=>f_.Status.length - zz.1) (0,(),()) ⟨Nat.zero_le _,hJ3⟩ cu cu (fun x=>⟨rfl,rfl,rfl⟩) ?_
 clear hJ3
 rintro⟨k3,⟨⟩,⟨⟩⟩ ⟨hk3,hJ3⟩
 dsimp only at hk3 hJ3 ⊢
 refine sq (sq ?_)
 refine rg rfl fun K j=>?_
 intro hm
 refine j _ _ (qn ?_)
 refine AWP.cond (Aj (fun hc=>?_) (fun hc=>?_))
 rotate_left
 ·obtain rfl:=Bc hJ3 (fun hl=>by have:=Ajo hc;omega)
  have h:=Bb hO3;try dsimp only at h
  have hkl:f_.Status.length=k3:=by have:=Ajo hc;omega
  subst hkl
  refine xt (qe (qe (bs (qn (sq (sq ?_))))))
  refine rg rfl fun K j=>?_
  revert h;refine gf (fun hc h=>?_) fun hc h=>?_
  ·revert h;refine gf (fun hc h=>?_) fun hc h=>?_
   ·revert h;refine gf (fun hc h=>?_) fun hc h=>?_
    ·refine j _ _ (qn ?_)
     revert h;refine ca rfl (fun hc h=>?_) fun hc h=>?_
     ·refine sq (ar rfl (qn (rt (qr ?_))))
      cases h;exact en Tryz.results13
     refine sk (qn (sq (ar rfl (qn (rt ?_)))))
     cases h;exact en Tryz.results13
    refine j _ _ (qn ?_)
    refine AWP.cond (Ai ?_)
    refine sq (ar rfl (qn (rt (qr ?_))))
    cases h;exact en Tryz.results13
   refine j _ _ (qn ?_)
   refine AWP.cond (Ai ?_)
   refine sq (ar rfl (qn (rt (qr ?_))))
   cases h;exact en Tryz.results13
  refine j _ _ (qn ?_)
  refine AWP.cond (Ai ?_)
  refine sq (ar rfl (qn (rt (qr ?_))))
  cases h;exact en Tryz.results13
 have hlt3:k3<f_.Status.length:=by have:=Ajp hc;omega
 obtain⟨x_5,b3,hx3_,h,hJ3⟩:=A1 hJ3 hlt3
 have hx3:=Ay hx3_
 have hw3:=wk (k:=k3) (by omega)
 unfold Kq at h;try dsimp only at h
 refine sk (qn (sq (bk (sq (sq ?_)))))
 refine AWP.draw Tryz.mixed (by kernel_rfl) ?_;intro K j
 refine nS ?_
 revert h;refine gt (fun hc h=>?_) fun hc h=>?_
 ·refine Bk.of (f:=A6) (l:=f_.Status) hx3 ?_
  refine nS ?_
  obtain⟨x_6,hx_6,h⟩:=Ah h
  refine Bk.of (f:=A6) (l:=f_.Status) hx_6 ?_
  refine nS ?_
  refine j _ _ _ (by kernel_rfl) ?_
  refine qn ?_
  revert h;refine ca rfl (fun hc h=>?_) fun hc h=>?_
  ·refine sq (ar rfl (qn (rt (qr (br (qr (qr ?_)))))))
   obtain rfl:=Aa h
   obtain rfl:=Af hJ3
   replace h:=An hO3
   refine br (qr ?_)
   cases h;exact en Tryz.results13
  refine sk (qn (sq (sq ?_)))
  refine AWP.draw Tryz.mixed (by kernel_rfl) ?_;intro K j
  refine nS ?_
  refine Bk.of (f:=A6) (l:=f_.Status) hx3 ?_
  refine nS ?_
  obtain⟨y7,hy7,h⟩:=Ah h
  refine Bz.pure Tryz.call32 (K9 f_.Map x_5.Run hy7) rfl ?_
  refine nS ?_
  refine j _ _ _ (by kernel_rfl) ?_
  refine qn (sq (ar rfl (qn ?_)))
  revert h;refine ca rfl (fun hc h=>?_) fun hc h=>?_
  ·refine sq (ar rfl (qn (rt (qr (br (qr (qr ?_)))))))
   obtain rfl:=Aa h
   obtain rfl:=Af hJ3
   replace h:=An hO3
   refine br (qr ?_)
   cases h;exact en Tryz.results13
  refine sk (qn (sq ?_))
  refine rg rfl fun K j=>?_
  refine Bk.of (f:=A6) (l:=f_.Status) hx3 ?_
  refine nS ?_
  revert h;refine gf (fun hc h=>?_) fun hc h=>?_
  ·refine Bk.of (f:=A6) (l:=f_.Status) hx3 ?_
   refine nS ?_
   refine j _ _ (qn ?_)
   revert h;refine ca rfl (fun hc h=>?_) fun hc h=>?_
   ·refine sq (ar rfl (qn (rt (br (qr (qr ?_))))))
    obtain rfl:=Aa h
    obtain rfl:=Af hJ3
    replace h:=An hO3
    refine br (qr ?_)
    cases h;exact en Tryz.results13
   refine sk (bn (qn (ar rfl (qn ?_))))
   obtain rfl:=Aa h
   refine⟨(k3+1,(),()),⟨by dsimp only;omega,Ae hJ3⟩,by dsimp only;omega,?_,?_⟩
   ·exact cuw hw3
   exact cuw hw3
  refine j _ _ (qn ?_)
  refine AWP.cond (Ai ?_)
  refine sq (ar rfl (qn (rt (br (qr (qr ?_))))))
  obtain rfl:=Aa h
  obtain rfl:=Af hJ3
  replace h:=An hO3
  refine br (qr ?_)
  cases h;exact en Tryz.results13
 refine j _ _ _ (by kernel_rfl) ?_
 refine qn ?_
 refine AWP.cond (Bg ?_)
 refine sk (qn (sq (sq ?_)))
 refine AWP.draw Tryz.mixed (by kernel_rfl) ?_;intro K j
 refine nS ?_
 refine Bk.of (f:=A6) (l:=f_.Status) hx3 ?_
 refine nS ?_
 obtain⟨y8,hy8,h⟩:=Ah h
 refine Bz.pure Tryz.call32 (K9 f_.Map x_5.Run hy8) rfl ?_
 refine nS ?_
 refine j _ _ _ (by kernel_rfl) ?_
 refine qn (sq (ar rfl (qn ?_)))
 revert h;refine ca rfl (fun hc h=>?_) fun hc h=>?_
 ·refine sq (ar rfl (qn (rt (qr (br (qr (qr ?_)))))))
  obtain rfl:=Aa h
  obtain rfl:=Af hJ3
  replace h:=An hO3
  refine br (qr ?_)
  cases h;exact en Tryz.results13
 refine sk (qn (sq ?_))
 refine rg rfl fun K j=>?_
 refine Bk.of (f:=A6) (l:=f_.Status) hx3 ?_
 refine nS ?_
 revert h;refine gf (fun hc h=>?_) fun hc h=>?_
 ·refine Bk.of (f:=A6) (l:=f_.Status) hx3 ?_
  refine nS ?_
  refine j _ _ (qn ?_)
  revert h;refine ca rfl (fun hc h=>?_) fun hc h=>?_
  ·refine sq (ar rfl (qn (rt (br (qr (qr ?_))))))
   obtain rfl:=Aa h
   obtain rfl:=Af hJ3
   replace h:=An hO3
   refine br (qr ?_)
   cases h;exact en Tryz.results13
  refine sk (bn (qn (ar rfl (qn ?_))))
  obtain rfl:=Aa h
  refine⟨(k3+1,(),()),⟨by dsimp only;omega,Ae hJ3⟩,by dsimp only;omega,?_,?_⟩
  ·exact cuw hw3
  exact cuw hw3
 refine j _ _ (qn ?_)
 refine AWP.cond (Ai ?_)
 refine sq (ar rfl (qn (rt (br (qr (qr ?_))))))
 obtain rfl:=Aa h
 obtain rfl:=Af hJ3
 replace h:=An hO3
 refine br (qr ?_)
 cases h;exact en Tryz.results13
def N5 (f_:Ak) (l:List Int):Option (Bool):=
 (bif (decide (((l.length:Nat):Int)≤40))then (Lg f_).bind fun y1=>(bif y1 then(Ic f_).bind fun y2=>some (decide (y2=0))else some false)else some false)
theorem dO (f_:Ak) (l:List Int) {r:Bool} (h:N5 f_ l=some r):Ad Tryz.prog 14 [.agg (Bv f_),.sl 1 (l.map Aw)] (·= .bool r):=by
 refine Ad.nle (Ad.intro Tryz.func14 rfl rfl (by show _≤17;simp) ?_)
 unfold N5 at h
 refine nS (sq ?_)
 refine ar rfl (qn (sq ?_))
 refine rg rfl fun K j=>?_
 intro hm
 revert h;refine gt (fun hc h=>?_) fun hc h=>?_
 ·obtain⟨y1,hy1,h⟩:=Ah h
  refine Al.pure Tryz.call11 (dN f_ hy1) rfl fun _ hr=>?_
  subst hr
  refine nS ?_
  revert h;refine gt (fun hc h=>?_) fun hc h=>?_
  ·obtain⟨y2,hy2,h⟩:=Ah h
   refine Al.pure Tryz.call13 (cM f_ hy2) rfl fun _ hr=>?_
   subst hr
   refine nS ?_
   refine j _ _ (qn (rt ?_))
   cases h;exact en Tryz.results14
  refine j _ _ (qn (rt ?_))
  cases h;exact en Tryz.results14
 refine j _ _ (qn (rt ?_))
 cases h;exact en Tryz.results14
def Jo (m:Bd) (node:Int):Option (Int):=
 (Ee m node).bind fun y1=>some y1.1.Alt
theorem Hi (m:Bd) (node:Int) {r:Int} (h:Jo m node=some r):Ad Tryz.prog 46 [.agg (Ca m),.int .i64 node] (·= .int .i64 r):=by
 refine Ad.nle (Ad.intro Tryz.func46 rfl rfl (by show _≤15;simp) ?_)
 unfold Jo at h
 refine nS (sq ?_)
 refine ar rfl (qn (sq ?_))
 refine rg rfl fun K j=>?_
 obtain⟨y1,hy1,h⟩:=Ah h
 refine Al.pure Tryz.call98 (M6 m node hy1) rfl fun _ hr=>?_
 subst hr
 refine nS ?_
 refine j _ _ (qn (sq ?_))
 refine ar rfl (qn (rt ?_))
 cases h;exact en Tryz.results46
end
end Go.Proofs.YtjopghiagoidgaaGreat
