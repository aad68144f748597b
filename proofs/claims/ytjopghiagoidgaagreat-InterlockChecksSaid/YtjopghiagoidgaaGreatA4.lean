/- Our own texts: a layer of abstract values over the model, the walks of the functions, the plain laws; joined and shortened by a small program of our own (wip/dce2.py, wip/pack.py). -/
import Derived.Test.YtjopghiagoidgaaGreatA3
import Derived.Calls
import Derived.Tactics2
import Derived.Below
import Derived.Deep.LoopGhost
import Derived.KernelRfl
import Derived.Laws.Shifts
import Derived.Laws.CopyRow
import Derived.Laws.AppendOwn
import Derived.Laws.MakeOwn
import Derived.Laws.StructEq
import Derived.Maps.RangeRun
import Derived.Lib.SliceRun
import Derived.TacticsIn
import Derived.OrdersIn
import Derived.Sort.LoopGhostIn
import Derived.RangeFuncRecord
import Derived.Orders
import Derived.ProofKit
import Derived.OpenShut
import Derived.ShutString
import Derived.ChangeOld
import Derived.Carry
import Derived.WideShapes
import Derived.ChangeArms
import Derived.ChangeShapes
import Derived.Handed
import Derived.JoinedOf
import Derived.Sort.Grow
import Derived.Lib.SlicesCompact
import Derived.Lib.SlKeysI
import Derived.Maps.Own
import Derived.WideKeyRuns
import Derived.Test.YtjopghiagoidgaaGreatChecked
import Derived.Test.YtjopghiagoidgaaGreatProg
import Derived.Shelf.SortM.Plain
import Derived.Shelf.SortM.SortNone
import Derived.Shelf.SlIterI.Nil
import Derived.Shelf.Slices.CompactI
namespace Go.Proofs.YtjopghiagoidgaaGreat
open Go Go.Ab
attribute [local irreducible] AWP An B7 Ad Go.Ab.Sub alist dlist Bn Dd Dy Gt
set_option maxRecDepth 100000
set_option maxHeartbeats 4000000
set_option linter.unusedSimpArgs false
set_option linter.unusedVariables false
noncomputable section
def Hf (k1:Nat) (x_3:B3) (sv:(List (Int×Bool))):Option (Out ((List (Int×Bool))) (Int)):=
 (Iw x_3).bind fun y4=>(bif (!y4)then some (Out.ret 2)else (bif (mget false sv x_3.ID)then some (Out.ret 7)else (bif ((decide (x_3.To≠0)) !=(decide (x_3.State=1)))then some (Out.ret 10)else (bif ((decide (x_3.Run≠0)) !=(decide (x_3.State=2)))then some (Out.ret 10)else some (Out.next (mset sv x_3.ID true))))))
def Lu (l:List B3):Option (Int):=
 (bif (decide (16<((l.length:Nat):Int)))then some 4 else(Am Hf 0 l []).bind fun o1=>o1.on fun s1=>some 0)
theorem Y3 (l:List B3) {r:Int} (h:Lu l=some r):Ad Tryz.prog 82 [.sl 8 (l.map A2)] (·= .int .i64 r):=by
 refine Ad.nle (Ad.intro Tryz.func82 rfl rfl (by show _≤43;simp) ?_)
 unfold Lu at h
 refine nS (sq ?_)
 refine ar rfl (qn (sq (sq ?_)))
 refine rg rfl fun K j=>?_
 intro hm
 refine j _ _ (qn ?_)
 revert h;refine ca rfl (fun hc h=>?_) fun hc h=>?_
 ·refine sq (ar rfl (qn (rt (qr ?_))))
  cases h;exact en Tryz.results82
 refine sk (qn (sq (ar rfl (qn (sq (sq ?_))))))
 refine rg rfl fun K j=>?_
 intro hm
 refine j _ _ (qn (bk ?_))
 obtain⟨o1,hJ1,hO1⟩:=Ah h
 clear h
 refine AWP.Bw (ι:=Nat×((List (Int×Bool)))×(Unit)) (fun zz=>[(3,.map 0),(10,.sl 8 (l.map A2)),(11,.int .i64 ((l.length:Nat):Int)),(12,.int .i64 ((zz.1:Nat):Int))]) (fun zz=>[.mp (mpE Yh zz.2.1)]) (fun zz=>zz.1≤l.length∧Am Hf zz.1 ((l).drop zz.1) zz.2.1=some o1) (fun zz=>l.length - zz.1) (0,[],()) ⟨Nat.zero_le _,hJ1⟩ cu cu (fun x=>⟨rfl,rfl,rfl⟩) ?_
 clear hJ1
 rintro⟨k1,seen1,⟨⟩⟩ ⟨hk1,hJ1⟩
 dsimp only at hk1 hJ1 ⊢
 refine sq (ar rfl (qn (sq ?_)))
 refine AWP.cond (Ak (fun hc=>?_) (fun hc=>?_))
 rotate_left
 ·obtain rfl:=Bf hJ1 (fun hl=>by have:=Ah9 hc;omega)
  have h:=Be hO1;try dsimp only at h
  have hkl:l.length=k1:=by have:=Ah9 hc;omega
  subst hkl
  refine xt (qe (qe (bs (qn (sq (ar rfl (qn (rt ?_))))))))
  cases h;exact en Tryz.results82
 have hlt1:k1<l.length:=by have:=Aia hc;omega
 obtain⟨x_3,b1,hx1_,h,hJ1⟩:=A9 hJ1 hlt1
 have hx1:=Ay hx1_
 have hw1:=wk (k:=k1) (by omega)
 unfold Hf at h;try dsimp only at h
 refine sk (qn (sq (bk (sq ?_))))
 refine rg rfl fun K j=>?_
 refine Bn.of (f:=A2) (l:=l) hx1 ?_
 refine nS ?_
 refine j _ _ (qn (sq (sq ?_)))
 refine rg rfl fun K j=>?_
 obtain⟨y4,hy4,h⟩:=Ah h
 refine An.pure Tryz.call175 (Wg x_3 hy4) rfl fun _ hr=>?_
 subst hr
 refine nS ?_
 refine j _ _ (qn ?_)
 revert h;refine ca rfl (fun hc h=>?_) fun hc h=>?_
 ·refine sq (ar rfl (qn (rt (qr (br (qr (qr ?_)))))))
  obtain rfl:=Aa h
  obtain rfl:=Ae hJ1
  replace h:=Al hO1
  refine br (qr ?_)
  cases h;exact en Tryz.results82
 refine sk (qn (sq (sq ?_)))
 refine rg rfl fun K j=>?_
 refine Dy.of (f:=Yh) (m:=seen1) (d:=false) rfl ?_
 refine nS ?_
 refine j _ _ (qn ?_)
 revert h;refine ca rfl (fun hc h=>?_) fun hc h=>?_
 ·refine sq (ar rfl (qn (rt (qr (br (qr (qr ?_)))))))
  obtain rfl:=Aa h
  obtain rfl:=Ae hJ1
  replace h:=Al hO1
  refine br (qr ?_)
  cases h;exact en Tryz.results82
 refine sk (qn (sq (ar rfl (qn (sq ?_)))))
 refine rg rfl fun K j=>?_
 revert h;refine gf (fun hc h=>?_) fun hc h=>?_
 ·refine j _ _ (qn ?_)
  revert h;refine ca rfl (fun hc h=>?_) fun hc h=>?_
  ·refine sq (ar rfl (qn (rt (br (qr (qr ?_))))))
   obtain rfl:=Aa h
   obtain rfl:=Ae hJ1
   replace h:=Al hO1
   refine br (qr ?_)
   cases h;exact en Tryz.results82
  refine sk (bn (qn (ar rfl (qn ?_))))
  obtain rfl:=Aa h
  refine⟨(k1+1,(mset seen1 x_3.ID true),()),⟨by dsimp only;omega,Ai hJ1⟩,by dsimp only;omega,?_,?_⟩
  ·exact cuw hw1
  exact cuw hw1
 refine j _ _ (qn ?_)
 refine AWP.cond (Af ?_)
 refine sq (ar rfl (qn (rt (br (qr (qr ?_))))))
 obtain rfl:=Aa h
 obtain rfl:=Ae hJ1
 replace h:=Al hO1
 refine br (qr ?_)
 cases h;exact en Tryz.results82
def E0 (f_:Aj):Option (Int):=
 (Lj f_.Map).bind fun y1=>(bif (decide (y1≠0))then some y1 else(Lw f_.Closures).bind fun y2=>(bif (decide (y2≠0))then some y2 else(Np f_.Patrol).bind fun y3=>(bif (decide (y3≠0))then some y3 else(Lk f_.Surfaces).bind fun y4=>(bif (decide (y4≠0))then some y4 else(Iz f_.Slides).bind fun y5=>(bif (decide (y5≠0))then some y5 else(Hj f_.Bulletin).bind fun y6=>(bif (decide (y6≠0))then some y6 else(Pj f_.Missions).bind fun y7=>(bif (decide (y7≠0))then some y7 else(Ox f_.Winches).bind fun y8=>(bif (decide (y8≠0))then some y8 else(Lu f_.Groomers).bind fun y9=>some y9))))))))
theorem Ru (f_:Aj) {r:Int} (h:E0 f_=some r):Ad Tryz.prog 37 [.agg (B5 f_)] (·= .int .i64 r):=by
 refine Ad.nle (Ad.intro Tryz.func37 rfl rfl (by show _≤62;simp) ?_)
 unfold E0 at h
 refine nS (sq ?_)
 refine ar rfl (qn (sq (sq ?_)))
 refine rg rfl fun K j=>?_
 obtain⟨y1,hy1,h⟩:=Ah h
 refine An.pure Tryz.call74 (Ym f_.Map hy1) rfl fun _ hr=>?_
 subst hr
 refine nS ?_
 refine j _ _ (qn (sq ?_))
 refine ar rfl (qn ?_)
 revert h;refine ca rfl (fun hc h=>?_) fun hc h=>?_
 ·refine sq (ar rfl (qn (rt (qr ?_))))
  cases h;exact en Tryz.results37
 refine sk (qn (sq (sq ?_)))
 refine rg rfl fun K j=>?_
 obtain⟨y2,hy2,h⟩:=Ah h
 refine An.pure Tryz.call75 (Y8 f_.Closures hy2) rfl fun _ hr=>?_
 subst hr
 refine nS ?_
 refine j _ _ (qn (sq ?_))
 refine ar rfl (qn ?_)
 revert h;refine ca rfl (fun hc h=>?_) fun hc h=>?_
 ·refine sq (ar rfl (qn (rt (qr ?_))))
  cases h;exact en Tryz.results37
 refine sk (qn (sq (sq ?_)))
 refine rg rfl fun K j=>?_
 obtain⟨y3,hy3,h⟩:=Ah h
 refine An.pure Tryz.call76 (Zr f_.Patrol hy3) rfl fun _ hr=>?_
 subst hr
 refine nS ?_
 refine j _ _ (qn (sq ?_))
 refine ar rfl (qn ?_)
 revert h;refine ca rfl (fun hc h=>?_) fun hc h=>?_
 ·refine sq (ar rfl (qn (rt (qr ?_))))
  cases h;exact en Tryz.results37
 refine sk (qn (sq (sq ?_)))
 refine rg rfl fun K j=>?_
 obtain⟨y4,hy4,h⟩:=Ah h
 refine An.pure Tryz.call77 (Yo f_.Surfaces hy4) rfl fun _ hr=>?_
 subst hr
 refine nS ?_
 refine j _ _ (qn (sq ?_))
 refine ar rfl (qn ?_)
 revert h;refine ca rfl (fun hc h=>?_) fun hc h=>?_
 ·refine sq (ar rfl (qn (rt (qr ?_))))
  cases h;exact en Tryz.results37
 refine sk (qn (sq (sq ?_)))
 refine rg rfl fun K j=>?_
 obtain⟨y5,hy5,h⟩:=Ah h
 refine An.pure Tryz.call78 (Wv f_.Slides hy5) rfl fun _ hr=>?_
 subst hr
 refine nS ?_
 refine j _ _ (qn (sq ?_))
 refine ar rfl (qn ?_)
 revert h;refine ca rfl (fun hc h=>?_) fun hc h=>?_
 ·refine sq (ar rfl (qn (rt (qr ?_))))
  cases h;exact en Tryz.results37
 refine sk (qn (sq (sq ?_)))
 refine rg rfl fun K j=>?_
 obtain⟨y6,hy6,h⟩:=Ah h
 refine An.pure Tryz.call79 (X5 f_.Bulletin hy6) rfl fun _ hr=>?_
 subst hr
 refine nS ?_
 refine j _ _ (qn (sq ?_))
 refine ar rfl (qn ?_)
 revert h;refine ca rfl (fun hc h=>?_) fun hc h=>?_
 ·refine sq (ar rfl (qn (rt (qr ?_))))
  cases h;exact en Tryz.results37
 refine sk (qn (sq (sq ?_)))
 refine rg rfl fun K j=>?_
 obtain⟨y7,hy7,h⟩:=Ah h
 refine An.pure Tryz.call80 (cK f_.Missions hy7) rfl fun _ hr=>?_
 subst hr
 refine nS ?_
 refine j _ _ (qn (sq ?_))
 refine ar rfl (qn ?_)
 revert h;refine ca rfl (fun hc h=>?_) fun hc h=>?_
 ·refine sq (ar rfl (qn (rt (qr ?_))))
  cases h;exact en Tryz.results37
 refine sk (qn (sq (sq ?_)))
 refine rg rfl fun K j=>?_
 obtain⟨y8,hy8,h⟩:=Ah h
 refine An.pure Tryz.call81 (aO f_.Winches hy8) rfl fun _ hr=>?_
 subst hr
 refine nS ?_
 refine j _ _ (qn (sq ?_))
 refine ar rfl (qn ?_)
 revert h;refine ca rfl (fun hc h=>?_) fun hc h=>?_
 ·refine sq (ar rfl (qn (rt (qr ?_))))
  cases h;exact en Tryz.results37
 refine sk (qn (sq ?_))
 refine rg rfl fun K j=>?_
 obtain⟨y9,hy9,h⟩:=Ah h
 refine An.pure Tryz.call82 (Y3 f_.Groomers hy9) rfl fun _ hr=>?_
 subst hr
 refine nS ?_
 refine j _ _ (qn (rt ?_))
 cases h;exact en Tryz.results37
def Po (id_:Int) (k0:Nat) (x_2:Cc) (sv:Unit):Option (Out (Unit) (Cc×Bool)):=
 (bif (decide (x_2.ID=id_))then some (Out.ret (x_2,true))else some (Out.next ()))
def M7 (m:Ba) (id_:Int):Option (Cc×Bool):=
 (Am (Po id_) 0 m.Lifts ()).bind fun o0=>o0.on fun s0=>some ((Cc.mk 0 0 0 0 0 0 0 0),false)
theorem Ry (m:Ba) (id_:Int) {r:Cc×Bool} (h:M7 m id_=some r):Ad Tryz.prog 83 [.agg (Ce m),.int .i64 id_] (·= .tuple [.agg (A7 r.1),.bool r.2]):=by
 refine Ad.nle (Ad.intro Tryz.func83 rfl rfl (by show _≤22;simp) ?_)
 unfold M7 at h
 refine nS (sq ?_)
 refine ar rfl (qn (sq (sq ?_)))
 refine rg rfl fun K j=>?_
 intro hm
 refine j _ _ (qn (bk ?_))
 obtain⟨o0,hJ0,hO0⟩:=Ah h
 clear h
 refine AWP.Bw (ι:=Nat×(Unit)×(Unit)) (fun zz=>[(1,.int .i64 id_),(4,.ptr 1 0),(9,.sl 8 (m.Lifts.map A7)),(10,.int .i64 ((m.Lifts.length:Nat):Int)),(11,.int .i64 ((zz.1:Nat):Int))]) (fun zz=>[.gone,.box [.int .i64 0,.int .i64 0,.int .i64 0,.int .i64 0,.int .i64 0,.int .i64 0,.int .i64 0,.int .i64 0]]) (fun zz=>zz.1≤m.Lifts.length∧Am (Po id_) zz.1 ((m.Lifts).drop zz.1) zz.2.1=some o0) (fun zz=>m.Lifts.length - zz.1) (0,(),()) ⟨Nat.zero_le _,hJ0⟩ cu cu (fun x=>⟨rfl,rfl,rfl⟩) ?_
 clear hJ0
 rintro⟨k0,⟨⟩,⟨⟩⟩ ⟨hk0,hJ0⟩
 dsimp only at hk0 hJ0 ⊢
 refine sq (ar rfl (qn (sq ?_)))
 refine AWP.cond (Ak (fun hc=>?_) (fun hc=>?_))
 rotate_left
 ·obtain rfl:=Bf hJ0 (fun hl=>by have:=Ah9 hc;omega)
  have h:=Be hO0;try dsimp only at h
  have hkl:m.Lifts.length=k0:=by have:=Ah9 hc;omega
  subst hkl
  refine xt (qe (qe (bs (qn (sq (ar rfl (qn (rt ?_))))))))
  cases h;exact en Tryz.results83
 have hlt0:k0<m.Lifts.length:=by have:=Aia hc;omega
 obtain⟨x_2,b0,hx0_,h,hJ0⟩:=A9 hJ0 hlt0
 have hx0:=Ay hx0_
 have hw0:=wk (k:=k0) (by omega)
 unfold Po at h;try dsimp only at h
 refine sk (qn (sq (bk (sq ?_))))
 refine rg rfl fun K j=>?_
 refine Bn.of (f:=A7) (l:=m.Lifts) hx0 ?_
 refine nS ?_
 refine j _ _ (qn (sq ?_))
 refine ar rfl (qn ?_)
 revert h;refine ca rfl (fun hc h=>?_) fun hc h=>?_
 ·refine sq (ar rfl (qn (rt (br (qr (qr ?_))))))
  obtain rfl:=Aa h
  obtain rfl:=Ae hJ0
  replace h:=Al hO0
  refine br (qr ?_)
  cases h;exact en Tryz.results83
 refine sk (bn (qn (ar rfl (qn ?_))))
 obtain rfl:=Aa h
 refine⟨(k0+1,(),()),⟨by dsimp only;omega,Ai hJ0⟩,by dsimp only;omega,?_,?_⟩
 ·exact cuw hw0
 exact cuw hw0
def D3 (f_:Aj) (k0:Nat) (x_2:Cr) (sv:Unit):Option (Out (Unit) (Int)):=
 (bif (decide (0<((k0:Nat):Int)))then (Dh f_.Lifts (IntKind.i64.wrap (((k0:Nat):Int) - 1))).bind fun x_3=>(bif (decide (x_2.Lift≤x_3.Lift))then some (Out.ret 11)else (M7 f_.Map x_2.Lift).bind fun y4=>(bif (!y4.2)then some (Out.ret 8)else (bif (decide (x_2.Mode<0))then some (Out.ret 2)else (bif (decide (3<x_2.Mode))then some (Out.ret 2)else some (Out.next ())))))else (M7 f_.Map x_2.Lift).bind fun y5=>(bif (!y5.2)then some (Out.ret 8)else (bif (decide (x_2.Mode<0))then some (Out.ret 2)else (bif (decide (3<x_2.Mode))then some (Out.ret 2)else some (Out.next ())))))
def Ge (f_:Aj):Option (Int):=
 (Am (D3 f_) 0 f_.Lifts ()).bind fun o0=>o0.on fun s0=>some 0
theorem Rw (f_:Aj) {r:Int} (h:Ge f_=some r):Ad Tryz.prog 38 [.agg (B5 f_)] (·= .int .i64 r):=by
 refine Ad.nle (Ad.intro Tryz.func38 rfl rfl (by show _≤48;simp) ?_)
 unfold Ge at h
 refine nS (sq ?_)
 refine ar rfl (qn (sq (sq ?_)))
 refine rg rfl fun K j=>?_
 intro hm
 refine j _ _ (qn (bk ?_))
 obtain⟨o0,hJ0,hO0⟩:=Ah h
 clear h
 refine AWP.Bw (ι:=Nat×(Unit)×(Unit)) (fun zz=>[(1,.ptr 0 0),(8,.sl 2 (f_.Lifts.map Ax)),(9,.int .i64 ((f_.Lifts.length:Nat):Int)),(10,.int .i64 ((zz.1:Nat):Int))]) (fun zz=>[.box [.sl 2 (f_.Map.Nodes.map A6),.sl 8 (f_.Map.Lifts.map A7),.sl 7 (f_.Map.Runs.map Bd),.sl 1 (f_.Map.Bases.map A5),.sl 2 (f_.Lifts.map Ax),.sl 4 (f_.Closures.map Au),.sl 4 (f_.Patrol.Bv.map Av),.sl 3 (f_.Patrol.Hazards.map A1),.sl 3 (f_.Surfaces.map A8),.sl 5 (f_.Packs.map A3),.sl 6 (f_.Slides.map Bb),.sl 7 (f_.Bulletin.map Aw),.sl 7 (f_.Missions.map Aq),.sl 4 (f_.Winches.map Ap),.sl 8 (f_.Groomers.map A2),.sl 3 (f_.Status.map A4),.int .i64 f_.Depth,.int .i64 f_.Time]]) (fun zz=>zz.1≤f_.Lifts.length∧Am (D3 f_) zz.1 ((f_.Lifts).drop zz.1) zz.2.1=some o0) (fun zz=>f_.Lifts.length - zz.1) (0,(),()) ⟨Nat.zero_le _,hJ0⟩ cu cu (fun x=>⟨rfl,rfl,rfl⟩) ?_
 clear hJ0
 rintro⟨k0,⟨⟩,⟨⟩⟩ ⟨hk0,hJ0⟩
 dsimp only at hk0 hJ0 ⊢
 refine sq (ar rfl (qn (sq ?_)))
 refine AWP.cond (Ak (fun hc=>?_) (fun hc=>?_))
 rotate_left
 ·obtain rfl:=Bf hJ0 (fun hl=>by have:=Ah9 hc;omega)
  have h:=Be hO0;try dsimp only at h
  have hkl:f_.Lifts.length=k0:=by have:=Ah9 hc;omega
  subst hkl
  refine xt (qe (qe (bs (qn (sq (ar rfl (qn (rt ?_))))))))
  cases h;exact en Tryz.results38
 have hlt0:k0<f_.Lifts.length:=by have:=Aia hc;omega
 obtain⟨x_2,b0,hx0_,h,hJ0⟩:=A9 hJ0 hlt0
 have hx0:=Ay hx0_
 have hw0:=wk (k:=k0) (by omega)
 unfold D3 at h;try dsimp only at h
 refine sk (qn (sq (bk (sq ?_))))
 refine rg rfl fun K j=>?_
 refine Bn.of (f:=Ax) (l:=f_.Lifts) hx0 ?_
 refine nS ?_
 refine j _ _ (qn (sq (sq ?_)))
 refine AWP.draw Tryz.mixed (by kernel_rfl) ?_;intro K j
 refine nS ?_
 revert h;refine gt (fun hc h=>?_) fun hc h=>?_
 ·obtain⟨x_3,hx_3,h⟩:=Ah h
  refine Bn.of (f:=Ax) (l:=f_.Lifts) hx_3 ?_
  refine nS ?_
  refine j _ _ _ (by kernel_rfl) ?_
  refine qn ?_
  revert h;refine ca rfl (fun hc h=>?_) fun hc h=>?_
  ·refine sq (ar rfl (qn (rt (qr (br (qr (qr ?_)))))))
   obtain rfl:=Aa h
   obtain rfl:=Ae hJ0
   replace h:=Al hO0
   refine br (qr ?_)
   cases h;exact en Tryz.results38
  refine sk (qn (sq (sq ?_)))
  refine rg rfl fun K j=>?_
  obtain⟨y4,hy4,h⟩:=Ah h
  refine An.pure Tryz.call83 (Ry f_.Map x_2.Lift hy4) rfl fun _ hr=>?_
  subst hr
  refine nS ?_
  refine j _ _ (qn (sq ?_))
  refine ar rfl (qn ?_)
  revert h;refine ca rfl (fun hc h=>?_) fun hc h=>?_
  ·refine sq (ar rfl (qn (rt (qr (br (qr (qr ?_)))))))
   obtain rfl:=Aa h
   obtain rfl:=Ae hJ0
   replace h:=Al hO0
   refine br (qr ?_)
   cases h;exact en Tryz.results38
  refine sk (qn (sq ?_))
  refine rg rfl fun K j=>?_
  revert h;refine gf (fun hc h=>?_) fun hc h=>?_
  ·refine j _ _ (qn ?_)
   revert h;refine ca rfl (fun hc h=>?_) fun hc h=>?_
   ·refine sq (ar rfl (qn (rt (br (qr (qr ?_))))))
    obtain rfl:=Aa h
    obtain rfl:=Ae hJ0
    replace h:=Al hO0
    refine br (qr ?_)
    cases h;exact en Tryz.results38
   refine sk (bn (qn (ar rfl (qn ?_))))
   obtain rfl:=Aa h
   refine⟨(k0+1,(),()),⟨by dsimp only;omega,Ai hJ0⟩,by dsimp only;omega,?_,?_⟩
   ·exact cuw hw0
   exact cuw hw0
  refine j _ _ (qn ?_)
  refine AWP.cond (Af ?_)
  refine sq (ar rfl (qn (rt (br (qr (qr ?_))))))
  obtain rfl:=Aa h
  obtain rfl:=Ae hJ0
  replace h:=Al hO0
  refine br (qr ?_)
  cases h;exact en Tryz.results38
 refine j _ _ _ (by kernel_rfl) ?_
 refine qn ?_
 refine AWP.cond (Bj ?_)
 refine sk (qn (sq (sq ?_)))
 refine rg rfl fun K j=>?_
 obtain⟨y5,hy5,h⟩:=Ah h
 refine An.pure Tryz.call83 (Ry f_.Map x_2.Lift hy5) rfl fun _ hr=>?_
 subst hr
 refine nS ?_
 refine j _ _ (qn (sq ?_))
 refine ar rfl (qn ?_)
 revert h;refine ca rfl (fun hc h=>?_) fun hc h=>?_
 ·refine sq (ar rfl (qn (rt (qr (br (qr (qr ?_)))))))
  obtain rfl:=Aa h
  obtain rfl:=Ae hJ0
  replace h:=Al hO0
  refine br (qr ?_)
  cases h;exact en Tryz.results38
 refine sk (qn (sq ?_))
 refine rg rfl fun K j=>?_
 revert h;refine gf (fun hc h=>?_) fun hc h=>?_
 ·refine j _ _ (qn ?_)
  revert h;refine ca rfl (fun hc h=>?_) fun hc h=>?_
  ·refine sq (ar rfl (qn (rt (br (qr (qr ?_))))))
   obtain rfl:=Aa h
   obtain rfl:=Ae hJ0
   replace h:=Al hO0
   refine br (qr ?_)
   cases h;exact en Tryz.results38
  refine sk (bn (qn (ar rfl (qn ?_))))
  obtain rfl:=Aa h
  refine⟨(k0+1,(),()),⟨by dsimp only;omega,Ai hJ0⟩,by dsimp only;omega,?_,?_⟩
  ·exact cuw hw0
  exact cuw hw0
 refine j _ _ (qn ?_)
 refine AWP.cond (Af ?_)
 refine sq (ar rfl (qn (rt (br (qr (qr ?_))))))
 obtain rfl:=Aa h
 obtain rfl:=Ae hJ0
 replace h:=Al hO0
 refine br (qr ?_)
 cases h;exact en Tryz.results38
def D2 (f_:Aj) (k0:Nat) (x_2:C0) (sv:Unit):Option (Out (Unit) (Int)):=
 (bif (decide (x_2.Area<1))then some (Out.ret 2)else (bif (decide (10000000<x_2.Area))then some (Out.ret 2)else (Jx x_2.Pack).bind fun y3=>(bif (!y3)then some (Out.ret 2)else (bif (decide (0<((k0:Nat):Int)))then (Dh f_.Packs (IntKind.i64.wrap (((k0:Nat):Int) - 1))).bind fun x_4=>(bif (decide (x_2.Run≤x_4.Run))then some (Out.ret 11)else some (Out.next ()))else some (Out.next ())))))
def Gd (f_:Aj):Option (Int):=
 (Am (D2 f_) 0 f_.Packs ()).bind fun o0=>o0.on fun s0=>some 0
theorem Rv (f_:Aj) {r:Int} (h:Gd f_=some r):Ad Tryz.prog 39 [.agg (B5 f_)] (·= .int .i64 r):=by
 refine Ad.nle (Ad.intro Tryz.func39 rfl rfl (by show _≤42;simp) ?_)
 unfold Gd at h
 refine nS (sq ?_)
 refine ar rfl (qn (sq (sq ?_)))
 refine rg rfl fun K j=>?_
 intro hm
 refine j _ _ (qn (bk ?_))
 obtain⟨o0,hJ0,hO0⟩:=Ah h
 clear h
 refine AWP.Bw (ι:=Nat×(Unit)×(Unit)) (fun zz=>[(1,.ptr 0 0),(6,.sl 5 (f_.Packs.map A3)),(7,.int .i64 ((f_.Packs.length:Nat):Int)),(8,.int .i64 ((zz.1:Nat):Int))]) (fun zz=>[.box [.sl 2 (f_.Map.Nodes.map A6),.sl 8 (f_.Map.Lifts.map A7),.sl 7 (f_.Map.Runs.map Bd),.sl 1 (f_.Map.Bases.map A5),.sl 2 (f_.Lifts.map Ax),.sl 4 (f_.Closures.map Au),.sl 4 (f_.Patrol.Bv.map Av),.sl 3 (f_.Patrol.Hazards.map A1),.sl 3 (f_.Surfaces.map A8),.sl 5 (f_.Packs.map A3),.sl 6 (f_.Slides.map Bb),.sl 7 (f_.Bulletin.map Aw),.sl 7 (f_.Missions.map Aq),.sl 4 (f_.Winches.map Ap),.sl 8 (f_.Groomers.map A2),.sl 3 (f_.Status.map A4),.int .i64 f_.Depth,.int .i64 f_.Time]]) (fun zz=>zz.1≤f_.Packs.length∧Am (D2 f_) zz.1 ((f_.Packs).drop zz.1) zz.2.1=some o0) (fun zz=>f_.Packs.length - zz.1) (0,(),()) ⟨Nat.zero_le _,hJ0⟩ cu cu (fun x=>⟨rfl,rfl,rfl⟩) ?_
 clear hJ0
 rintro⟨k0,⟨⟩,⟨⟩⟩ ⟨hk0,hJ0⟩
 dsimp only at hk0 hJ0 ⊢
 refine sq (ar rfl (qn (sq ?_)))
 refine AWP.cond (Ak (fun hc=>?_) (fun hc=>?_))
 rotate_left
 ·obtain rfl:=Bf hJ0 (fun hl=>by have:=Ah9 hc;omega)
  have h:=Be hO0;try dsimp only at h
  have hkl:f_.Packs.length=k0:=by have:=Ah9 hc;omega
  subst hkl
  refine xt (qe (qe (bs (qn (sq (ar rfl (qn (rt ?_))))))))
  cases h;exact en Tryz.results39
 have hlt0:k0<f_.Packs.length:=by have:=Aia hc;omega
 obtain⟨x_2,b0,hx0_,h,hJ0⟩:=A9 hJ0 hlt0
 have hx0:=Ay hx0_
 have hw0:=wk (k:=k0) (by omega)
 unfold D2 at h;try dsimp only at h
 refine sk (qn (sq (bk (sq ?_))))
 refine rg rfl fun K j=>?_
 refine Bn.of (f:=A3) (l:=f_.Packs) hx0 ?_
 refine nS ?_
 refine j _ _ (qn (sq (sq ?_)))
 refine rg rfl fun K j=>?_
 revert h;refine gf (fun hc h=>?_) fun hc h=>?_
 rotate_left
 ·refine j _ _ (qn ?_)
  refine AWP.cond (Af ?_)
  refine sq (ar rfl (qn (rt (qr (br (qr (qr ?_)))))))
  obtain rfl:=Aa h
  obtain rfl:=Ae hJ0
  replace h:=Al hO0
  refine br (qr ?_)
  cases h;exact en Tryz.results39
 revert h;refine gf (fun hc h=>?_) fun hc h=>?_
 rotate_left
 ·refine j _ _ (qn ?_)
  refine AWP.cond (Af ?_)
  refine sq (ar rfl (qn (rt (qr (br (qr (qr ?_)))))))
  obtain rfl:=Aa h
  obtain rfl:=Ae hJ0
  replace h:=Al hO0
  refine br (qr ?_)
  cases h;exact en Tryz.results39
 obtain⟨y3,hy3,h⟩:=Ah h
 refine An.pure Tryz.call84 (P1 x_2.Pack hy3) rfl fun _ hr=>?_
 subst hr
 refine nS ?_
 refine j _ _ (qn ?_)
 revert h;refine ca rfl (fun hc h=>?_) fun hc h=>?_
 ·refine sq (ar rfl (qn (rt (qr (br (qr (qr ?_)))))))
  obtain rfl:=Aa h
  obtain rfl:=Ae hJ0
  replace h:=Al hO0
  refine br (qr ?_)
  cases h;exact en Tryz.results39
 refine sk (qn (sq ?_))
 refine AWP.draw Tryz.mixed (by kernel_rfl) ?_;intro K j
 refine nS ?_
 revert h;refine gt (fun hc h=>?_) fun hc h=>?_
 ·obtain⟨x_4,hx_4,h⟩:=Ah h
  refine Bn.of (f:=A3) (l:=f_.Packs) hx_4 ?_
  refine nS ?_
  refine j _ _ _ (by kernel_rfl) ?_
  refine qn ?_
  revert h;refine ca rfl (fun hc h=>?_) fun hc h=>?_
  ·refine sq (ar rfl (qn (rt (br (qr (qr ?_))))))
   obtain rfl:=Aa h
   obtain rfl:=Ae hJ0
   replace h:=Al hO0
   refine br (qr ?_)
   cases h;exact en Tryz.results39
  refine sk (bn (qn (ar rfl (qn ?_))))
  obtain rfl:=Aa h
  refine⟨(k0+1,(),()),⟨by dsimp only;omega,Ai hJ0⟩,by dsimp only;omega,?_,?_⟩
  ·exact cuw hw0
  exact cuw hw0
 refine j _ _ _ (by kernel_rfl) ?_
 refine qn ?_
 refine AWP.cond (Bj ?_)
 refine sk (bn (qn (ar rfl (qn ?_))))
 obtain rfl:=Aa h
 refine⟨(k0+1,(),()),⟨by dsimp only;omega,Ai hJ0⟩,by dsimp only;omega,?_,?_⟩
 ·exact cuw hw0
 exact cuw hw0
def Dv (f_:Aj) (k0:Nat) (x_2:Bi) (sv:Unit):Option (Out (Unit) (Int)):=
 (bif (decide (0<((k0:Nat):Int)))then (Dh f_.Status (IntKind.i64.wrap (((k0:Nat):Int) - 1))).bind fun x_3=>(bif (decide (x_2.Run≤x_3.Run))then some (Out.ret 11)else (Ev f_.Map x_2.Run).bind fun y4=>(bif (!y4.2)then some (Out.ret 8)else (bif (decide (x_2.Since<0))then some (Out.ret 2)else (bif (decide (20000000<x_2.Since))then some (Out.ret 2)else some (Out.next ())))))else (Ev f_.Map x_2.Run).bind fun y5=>(bif (!y5.2)then some (Out.ret 8)else (bif (decide (x_2.Since<0))then some (Out.ret 2)else (bif (decide (20000000<x_2.Since))then some (Out.ret 2)else some (Out.next ())))))
def F5 (f_:Aj):Option (Int):=
 (Am (Dv f_) 0 f_.Status ()).bind fun o0=>o0.on fun s0=>some 0
theorem Rg (f_:Aj) {r:Int} (h:F5 f_=some r):Ad Tryz.prog 40 [.agg (B5 f_)] (·= .int .i64 r):=by
 refine Ad.nle (Ad.intro Tryz.func40 rfl rfl (by show _≤48;simp) ?_)
 unfold F5 at h
 refine nS (sq ?_)
 refine ar rfl (qn (sq (sq ?_)))
 refine rg rfl fun K j=>?_
 intro hm
 refine j _ _ (qn (bk ?_))
 obtain⟨o0,hJ0,hO0⟩:=Ah h
 clear h
 refine AWP.Bw (ι:=Nat×(Unit)×(Unit)) (fun zz=>[(1,.ptr 0 0),(8,.sl 3 (f_.Status.map A4)),(9,.int .i64 ((f_.Status.length:Nat):Int)),(10,.int .i64 ((zz.1:Nat):Int))]) (fun zz=>[.box [.sl 2 (f_.Map.Nodes.map A6),.sl 8 (f_.Map.Lifts.map A7),.sl 7 (f_.Map.Runs.map Bd),.sl 1 (f_.Map.Bases.map A5),.sl 2 (f_.Lifts.map Ax),.sl 4 (f_.Closures.map Au),.sl 4 (f_.Patrol.Bv.map Av),.sl 3 (f_.Patrol.Hazards.map A1),.sl 3 (f_.Surfaces.map A8),.sl 5 (f_.Packs.map A3),.sl 6 (f_.Slides.map Bb),.sl 7 (f_.Bulletin.map Aw),.sl 7 (f_.Missions.map Aq),.sl 4 (f_.Winches.map Ap),.sl 8 (f_.Groomers.map A2),.sl 3 (f_.Status.map A4),.int .i64 f_.Depth,.int .i64 f_.Time]]) (fun zz=>zz.1≤f_.Status.length∧Am (Dv f_) zz.1 ((f_.Status).drop zz.1) zz.2.1=some o0) (fun zz=>f_.Status.length - zz.1) (0,(),()) ⟨Nat.zero_le _,hJ0⟩ cu cu (fun x=>⟨rfl,rfl,rfl⟩) ?_
 clear hJ0
 rintro⟨k0,⟨⟩,⟨⟩⟩ ⟨hk0,hJ0⟩
 dsimp only at hk0 hJ0 ⊢
 refine sq (ar rfl (qn (sq ?_)))
 refine AWP.cond (Ak (fun hc=>?_) (fun hc=>?_))
 rotate_left
 ·obtain rfl:=Bf hJ0 (fun hl=>by have:=Ah9 hc;omega)
  have h:=Be hO0;try dsimp only at h
  have hkl:f_.Status.length=k0:=by have:=Ah9 hc;omega
  subst hkl
  refine xt (qe (qe (bs (qn (sq (ar rfl (qn (rt ?_))))))))
  cases h;exact en Tryz.results40
 have hlt0:k0<f_.Status.length:=by have:=Aia hc;omega
 obtain⟨x_2,b0,hx0_,h,hJ0⟩:=A9 hJ0 hlt0
 have hx0:=Ay hx0_
 have hw0:=wk (k:=k0) (by omega)
 unfold Dv at h;try dsimp only at h
 refine sk (qn (sq (bk (sq ?_))))
 refine rg rfl fun K j=>?_
 refine Bn.of (f:=A4) (l:=f_.Status) hx0 ?_
 refine nS ?_
 refine j _ _ (qn (sq (sq ?_)))
 refine AWP.draw Tryz.mixed (by kernel_rfl) ?_;intro K j
 refine nS ?_
 revert h;refine gt (fun hc h=>?_) fun hc h=>?_
 ·obtain⟨x_3,hx_3,h⟩:=Ah h
  refine Bn.of (f:=A4) (l:=f_.Status) hx_3 ?_
  refine nS ?_
  refine j _ _ _ (by kernel_rfl) ?_
  refine qn ?_
  revert h;refine ca rfl (fun hc h=>?_) fun hc h=>?_
  ·refine sq (ar rfl (qn (rt (qr (br (qr (qr ?_)))))))
   obtain rfl:=Aa h
   obtain rfl:=Ae hJ0
   replace h:=Al hO0
   refine br (qr ?_)
   cases h;exact en Tryz.results40
  refine sk (qn (sq (sq ?_)))
  refine rg rfl fun K j=>?_
  obtain⟨y4,hy4,h⟩:=Ah h
  refine An.pure Tryz.call53 (Dz f_.Map x_2.Run hy4) rfl fun _ hr=>?_
  subst hr
  refine nS ?_
  refine j _ _ (qn (sq ?_))
  refine ar rfl (qn ?_)
  revert h;refine ca rfl (fun hc h=>?_) fun hc h=>?_
  ·refine sq (ar rfl (qn (rt (qr (br (qr (qr ?_)))))))
   obtain rfl:=Aa h
   obtain rfl:=Ae hJ0
   replace h:=Al hO0
   refine br (qr ?_)
   cases h;exact en Tryz.results40
  refine sk (qn (sq ?_))
  refine rg rfl fun K j=>?_
  revert h;refine gf (fun hc h=>?_) fun hc h=>?_
  ·refine j _ _ (qn ?_)
   revert h;refine ca rfl (fun hc h=>?_) fun hc h=>?_
   ·refine sq (ar rfl (qn (rt (br (qr (qr ?_))))))
    obtain rfl:=Aa h
    obtain rfl:=Ae hJ0
    replace h:=Al hO0
    refine br (qr ?_)
    cases h;exact en Tryz.results40
   refine sk (bn (qn (ar rfl (qn ?_))))
   obtain rfl:=Aa h
   refine⟨(k0+1,(),()),⟨by dsimp only;omega,Ai hJ0⟩,by dsimp only;omega,?_,?_⟩
   ·exact cuw hw0
   exact cuw hw0
  refine j _ _ (qn ?_)
  refine AWP.cond (Af ?_)
  refine sq (ar rfl (qn (rt (br (qr (qr ?_))))))
  obtain rfl:=Aa h
  obtain rfl:=Ae hJ0
  replace h:=Al hO0
  refine br (qr ?_)
  cases h;exact en Tryz.results40
 refine j _ _ _ (by kernel_rfl) ?_
 refine qn ?_
 refine AWP.cond (Bj ?_)
 refine sk (qn (sq (sq ?_)))
 refine rg rfl fun K j=>?_
 obtain⟨y5,hy5,h⟩:=Ah h
 refine An.pure Tryz.call53 (Dz f_.Map x_2.Run hy5) rfl fun _ hr=>?_
 subst hr
 refine nS ?_
 refine j _ _ (qn (sq ?_))
 refine ar rfl (qn ?_)
 revert h;refine ca rfl (fun hc h=>?_) fun hc h=>?_
 ·refine sq (ar rfl (qn (rt (qr (br (qr (qr ?_)))))))
  obtain rfl:=Aa h
  obtain rfl:=Ae hJ0
  replace h:=Al hO0
  refine br (qr ?_)
  cases h;exact en Tryz.results40
 refine sk (qn (sq ?_))
 refine rg rfl fun K j=>?_
 revert h;refine gf (fun hc h=>?_) fun hc h=>?_
 ·refine j _ _ (qn ?_)
  revert h;refine ca rfl (fun hc h=>?_) fun hc h=>?_
  ·refine sq (ar rfl (qn (rt (br (qr (qr ?_))))))
   obtain rfl:=Aa h
   obtain rfl:=Ae hJ0
   replace h:=Al hO0
   refine br (qr ?_)
   cases h;exact en Tryz.results40
  refine sk (bn (qn (ar rfl (qn ?_))))
  obtain rfl:=Aa h
  refine⟨(k0+1,(),()),⟨by dsimp only;omega,Ai hJ0⟩,by dsimp only;omega,?_,?_⟩
  ·exact cuw hw0
  exact cuw hw0
 refine j _ _ (qn ?_)
 refine AWP.cond (Af ?_)
 refine sq (ar rfl (qn (rt (br (qr (qr ?_))))))
 obtain rfl:=Aa h
 obtain rfl:=Ae hJ0
 replace h:=Al hO0
 refine br (qr ?_)
 cases h;exact en Tryz.results40
def E9 (f_:Aj):Option (Int):=
 (E0 f_).bind fun y1=>(bif (decide (y1≠0))then some y1 else(bif (decide (32<((f_.Lifts.length:Nat):Int)))then some 4 else(bif (decide (64<((f_.Packs.length:Nat):Int)))then some 4 else(bif (decide (64<((f_.Status.length:Nat):Int)))then some 4 else(Ge f_).bind fun y2=>(bif (decide (y2≠0))then some y2 else(Gd f_).bind fun y3=>(bif (decide (y3≠0))then some y3 else(F5 f_).bind fun y4=>(bif (decide (y4≠0))then some y4 else(bif (decide (f_.Depth<0))then some 2 else(bif (decide (10000<f_.Depth))then some 2 else(bif (decide (f_.Time<0))then some 2 else(bif (decide (20000000<f_.Time))then some 2 else some 0)))))))))))
theorem Pd (f_:Aj) {r:Int} (h:E9 f_=some r):Ad Tryz.prog 12 [.agg (B5 f_)] (·= .int .i64 r):=by
 refine Ad.nle (Ad.intro Tryz.func12 rfl rfl (by show _≤61;simp) ?_)
 unfold E9 at h
 refine nS (sq ?_)
 refine ar rfl (qn (sq (sq ?_)))
 refine rg rfl fun K j=>?_
 obtain⟨y1,hy1,h⟩:=Ah h
 refine An.pure Tryz.call37 (Ru f_ hy1) rfl fun _ hr=>?_
 subst hr
 refine nS ?_
 refine j _ _ (qn (sq ?_))
 refine ar rfl (qn ?_)
 revert h;refine ca rfl (fun hc h=>?_) fun hc h=>?_
 ·refine sq (ar rfl (qn (rt (qr ?_))))
  cases h;exact en Tryz.results12
 refine sk (qn (sq (sq ?_)))
 refine rg rfl fun K j=>?_
 intro hm
 revert h;refine gf (fun hc h=>?_) fun hc h=>?_
 rotate_left
 ·refine j _ _ (qn ?_)
  refine AWP.cond (Af ?_)
  refine sq (ar rfl (qn (rt (qr ?_))))
  cases h;exact en Tryz.results12
 intro hm
 revert h;refine gf (fun hc h=>?_) fun hc h=>?_
 rotate_left
 ·refine j _ _ (qn ?_)
  refine AWP.cond (Af ?_)
  refine sq (ar rfl (qn (rt (qr ?_))))
  cases h;exact en Tryz.results12
 intro hm
 refine j _ _ (qn ?_)
 revert h;refine ca rfl (fun hc h=>?_) fun hc h=>?_
 ·refine sq (ar rfl (qn (rt (qr ?_))))
  cases h;exact en Tryz.results12
 refine sk (qn (sq (sq ?_)))
 refine rg rfl fun K j=>?_
 obtain⟨y2,hy2,h⟩:=Ah h
 refine An.pure Tryz.call38 (Rw f_ hy2) rfl fun _ hr=>?_
 subst hr
 refine nS ?_
 refine j _ _ (qn (sq ?_))
 refine ar rfl (qn ?_)
 revert h;refine ca rfl (fun hc h=>?_) fun hc h=>?_
 ·refine sq (ar rfl (qn (rt (qr ?_))))
  cases h;exact en Tryz.results12
 refine sk (qn (sq (sq ?_)))
 refine rg rfl fun K j=>?_
 obtain⟨y3,hy3,h⟩:=Ah h
 refine An.pure Tryz.call39 (Rv f_ hy3) rfl fun _ hr=>?_
 subst hr
 refine nS ?_
 refine j _ _ (qn (sq ?_))
 refine ar rfl (qn ?_)
 revert h;refine ca rfl (fun hc h=>?_) fun hc h=>?_
 ·refine sq (ar rfl (qn (rt (qr ?_))))
  cases h;exact en Tryz.results12
 refine sk (qn (sq (sq ?_)))
 refine rg rfl fun K j=>?_
 obtain⟨y4,hy4,h⟩:=Ah h
 refine An.pure Tryz.call40 (Rg f_ hy4) rfl fun _ hr=>?_
 subst hr
 refine nS ?_
 refine j _ _ (qn (sq ?_))
 refine ar rfl (qn ?_)
 revert h;refine ca rfl (fun hc h=>?_) fun hc h=>?_
 ·refine sq (ar rfl (qn (rt (qr ?_))))
  cases h;exact en Tryz.results12
 refine sk (qn (sq (sq ?_)))
 refine rg rfl fun K j=>?_
 revert h;refine gf (fun hc h=>?_) fun hc h=>?_
 ·revert h;refine gf (fun hc h=>?_) fun hc h=>?_
  ·revert h;refine gf (fun hc h=>?_) fun hc h=>?_
   ·refine j _ _ (qn ?_)
    revert h;refine ca rfl (fun hc h=>?_) fun hc h=>?_
    ·refine sq (ar rfl (qn (rt (qr ?_))))
     cases h;exact en Tryz.results12
    refine sk (qn (sq (ar rfl (qn (rt ?_)))))
    cases h;exact en Tryz.results12
   refine j _ _ (qn ?_)
   refine AWP.cond (Af ?_)
   refine sq (ar rfl (qn (rt (qr ?_))))
   cases h;exact en Tryz.results12
  refine j _ _ (qn ?_)
  refine AWP.cond (Af ?_)
  refine sq (ar rfl (qn (rt (qr ?_))))
  cases h;exact en Tryz.results12
 refine j _ _ (qn ?_)
 refine AWP.cond (Af ?_)
 refine sq (ar rfl (qn (rt (qr ?_))))
 cases h;exact en Tryz.results12
def Nv (f_:Aj) (set_5:List Int) (k9:Nat) (x_11:Int) (sv:(List Int)):Option (Out ((List Int)) (Out ((List Int)) ((List Int)))):=
 (D4 f_ set_5 x_11).bind fun y12=>(bif y12 then chk (sv.length+1) (some (Out.next (sv++[x_11])))else some (Out.next sv))
def Nw (f_:Aj) (sv:(List Int)):Option (Out ((List Int)) ((List Int))):=
 (Am (Nv f_ sv) 0 sv []).bind fun o9=>o9.on fun s9=>(bif (decide (((s9.length:Nat):Int)=((sv.length:Nat):Int)))then some (Out.ret s9)else some (Out.next s9))
def Nu (f_:Aj) (set_22:List Int) (k26:Nat) (x_28:Int) (sv:(List Int)):Option (Out ((List Int)) (Out ((List Int)) ((List Int)))):=
 (D4 f_ set_22 x_28).bind fun y29=>(bif y29 then chk (sv.length+1) (some (Out.next (sv++[x_28])))else some (Out.next sv))
def Jk (f_:Aj) (sv:(List Int)):Option (Out ((List Int)) ((List Int))):=
 (Am (Nu f_ sv) 0 sv []).bind fun o26=>o26.on fun s26=>(bif (decide (((s26.length:Nat):Int)=((sv.length:Nat):Int)))then some (Out.ret s26)else some (Out.next s26))
def Dq (f_:Aj) (sv:Int×Int×(List Int)):Option (Out (Int×Int×(List Int)) ((List Int))):=
 (bif (decide (sv.2.1<((sv.2.2.length:Nat):Int)))then (Dh sv.2.2 sv.2.1).bind fun x_18=>(Cy f_ x_18).bind fun y19=>(bif (!(decide (y19≠(0:Int))))then (Dh sv.2.2 sv.1).bind fun x_20=>some (Out.next ((IntKind.i64.wrap (sv.1+(1:Int))),(IntKind.i64.wrap (sv.2.1+(1:Int))),(sv.2.2.set sv.1.toNat x_18)))else some (Out.next (sv.1,(IntKind.i64.wrap (sv.2.1+(1:Int))),sv.2.2)))else (okB (decide ((0:Int)≤sv.1∧sv.1≤((sv.2.2.length:Nat):Int))) (okB (decide ((0:Int)≤sv.1∧sv.1≤((sv.2.2.length:Nat):Int))) ((D8 (Jk f_) fuel (((sv.2.2.take sv.1.toNat)++(List.replicate (sv.2.2.length - sv.1.toNat) (0:Int))).take sv.1.toNat)).bind fun o23=>o23.on fun _=>none))).bind fun q29=>some (Out.ret q29))
def E5 (f_:Aj) (set_32:List Int) (k36:Nat) (x_38:Int) (sv:(List Int)):Option (Out ((List Int)) (Out ((List Int)) ((List Int)))):=
 (D4 f_ set_32 x_38).bind fun y39=>(bif y39 then chk (sv.length+1) (some (Out.next (sv++[x_38])))else some (Out.next sv))
def Dj (f_:Aj) (sv:(List Int)):Option (Out ((List Int)) ((List Int))):=
 (Am (E5 f_ sv) 0 sv []).bind fun o36=>o36.on fun s36=>(bif (decide (((s36.length:Nat):Int)=((sv.length:Nat):Int)))then some (Out.ret s36)else some (Out.next s36))
def E6 (f_:Aj) (y1:(List Int)) (k1:Nat) (x_3:Int) (sv:Unit):Option (Out (Unit) ((List Int))):=
 (Cy f_ x_3).bind fun y4=>(bif (decide (y4≠0))then ((bif (decide (((k1:Nat):Int)=(-1)))then (D8 (Nw f_) fuel (Cg (Da y1))).bind fun o6=>o6.on fun _=>none else(D8 (Dq f_) fuel (((k1:Nat):Int),(IntKind.i64.wrap (((k1:Nat):Int)+1)),(Cg (Da y1)))).bind fun o16=>o16.on fun _=>none)).bind fun q30=>some (Out.ret q30)else some (Out.next ()))
def E1 (f_:Aj) (runs:List Int):Option ((List Int)):=
 (B6 runs).bind fun y1=>chk y1.length (chk y1.length ((Am (E6 f_ y1) 0 (Cg (Da y1)) ()).bind fun o1=>o1.on fun s1=>(D8 (Dj f_) fuel (Cg (Da y1))).bind fun o33=>o33.on fun _=>none))
theorem Pe (f_:Aj) (runs:List Int) {r:(List Int)} (h:E1 f_ runs=some r):Bs Tryz.prog 29 [.agg (B5 f_),.sl 1 (runs.map A5)] (·= .sl 1 (r.map A5)):=by
 refine Bs.nle (Bs.intro Tryz.func29 rfl rfl (by show _≤40;simp) ?_)
 unfold E1 at h
 refine nS (sq ?_)
 refine ar rfl (qn (sq ?_))
 refine rg rfl fun K j=>?_
 obtain⟨y1,hy1,h⟩:=Ah h
 refine An.row Tryz.call67 (Es runs hy1) rfl 1 rfl ?_
 (try simp +decide -implicitDefEqProofs only[go_sem,List.length_map])
 refine j _ _ (qn (sq ?_))
 refine rg rfl fun K j=>?_
 obtain⟨hk,h⟩:=B8 h
 refine An.Da Tryz.call68 Tryz.sorts68 rfl (by first | rfl | exact(Cl _).symm | (simp only[List.length_append,List.length_cons,List.length_nil,List.length_set,List.length_replicate]<;>omega)) hk ?_
 refine nS ?_
 refine j _ _ (qn (sq ?_))
 refine rg rfl fun K j=>?_
 obtain⟨hk,h⟩:=B8 h
 refine An.Cg Tryz.call69 Tryz.compacts69 rfl (by first | rfl | exact(Cl _).symm | (simp only[List.length_append,List.length_cons,List.length_nil,List.length_set,List.length_replicate]<;>omega)) hk ?_
 refine nS ?_
 refine j _ _ (qn (sq ?_))
 refine rg rfl fun K j=>?_
 refine An.inline Tryz.call70 Tryz.func70 rfl rfl (by show _≤42;simp) ?_
 refine nS (sq ?_)
 refine ar rfl (qn (sq ?_))
 refine rg rfl fun K j=>?_
 refine An.inline Tryz.call150 Tryz.func150 rfl rfl (by show _≤19;simp) ?_
 refine nS (sq ?_)
 refine ar rfl (qn (sq (sq ?_)))
 refine rg rfl fun K j=>?_
 intro hm
 refine j _ _ (qn (bk ?_));clear j K
 obtain⟨o1,hJ1,hO1⟩:=Ah h
 clear h
 refine AWP.Bw (ι:=Nat×(Unit)×(Unit)) (fun zz=>[(0,.own 1 1 0 (Cg (Da y1)).length),(1,.func 71 [.ptr 0 0]),(7,.int .i64 (((Cg (Da y1)).length:Nat):Int)),(8,.int .i64 ((zz.1:Nat):Int))]) (fun zz=>[.box [.sl 2 (f_.Map.Nodes.map A6),.sl 8 (f_.Map.Lifts.map A7),.sl 7 (f_.Map.Runs.map Bd),.sl 1 (f_.Map.Bases.map A5),.sl 2 (f_.Lifts.map Ax),.sl 4 (f_.Closures.map Au),.sl 4 (f_.Patrol.Bv.map Av),.sl 3 (f_.Patrol.Hazards.map A1),.sl 3 (f_.Surfaces.map A8),.sl 5 (f_.Packs.map A3),.sl 6 (f_.Slides.map Bb),.sl 7 (f_.Bulletin.map Aw),.sl 7 (f_.Missions.map Aq),.sl 4 (f_.Winches.map Ap),.sl 8 (f_.Groomers.map A2),.sl 3 (f_.Status.map A4),.int .i64 f_.Depth,.int .i64 f_.Time],.row 1 1 ((Cg (Da y1)).map A5)]) (fun zz=>zz.1≤(Cg (Da y1)).length∧Am (E6 f_ y1) zz.1 (((Cg (Da y1))).drop zz.1) zz.2.1=some o1) (fun zz=>(Cg (Da y1)).length - zz.1) (0,(),()) ⟨Nat.zero_le _,hJ1⟩ cu cu (fun x=>⟨rfl,rfl,rfl⟩) ?_
 clear hJ1
 rintro⟨k1,⟨⟩,⟨⟩⟩ ⟨hk1,hJ1⟩
 dsimp only at hk1 hJ1 ⊢
 refine sq (ar rfl (qn (sq ?_)))
 refine AWP.cond (Ak (fun hc=>?_) (fun hc=>?_))
 rotate_left
 ·obtain rfl:=Bf hJ1 (fun hl=>by have:=Ah9 hc;omega)
  have h:=Be hO1;try dsimp only at h
  have hkl:(Cg (Da y1)).length=k1:=by have:=Ah9 hc;omega
  subst hkl
  refine xt (qe (qe (bs (qn (sq (ar rfl (qn (rt ?_))))))))
  refine nSc Tryz.results150 ?_
  refine j _ _ (qn (sq (sq ?_)));clear j K
  refine ar rfl (qn ?_)
  refine AWP.cond (Af ?_)
  refine sq (ar rfl (qn (rt (qr ?_))))
  refine nSc Tryz.results70 ?_
  refine j _ _ (qn (bk ?_))
  obtain⟨o33,hJ33,hO33⟩:=Ah h
  clear h
  refine AWP.mN (ι:=Nat×((List Int))×(Nat)) (fun zz=>[(2,.ptr 0 0),(5,.own 1 zz.2.2 0 zz.2.1.length)]) (fun zz=>[.box [.sl 2 (f_.Map.Nodes.map A6),.sl 8 (f_.Map.Lifts.map A7),.sl 7 (f_.Map.Runs.map Bd),.sl 1 (f_.Map.Bases.map A5),.sl 2 (f_.Lifts.map Ax),.sl 4 (f_.Closures.map Au),.sl 4 (f_.Patrol.Bv.map Av),.sl 3 (f_.Patrol.Hazards.map A1),.sl 3 (f_.Surfaces.map A8),.sl 5 (f_.Packs.map A3),.sl 6 (f_.Slides.map Bb),.sl 7 (f_.Bulletin.map Aw),.sl 7 (f_.Missions.map Aq),.sl 4 (f_.Winches.map Ap),.sl 8 (f_.Groomers.map A2),.sl 3 (f_.Status.map A4),.int .i64 f_.Depth,.int .i64 f_.Time],.row zz.2.2 1 (zz.2.1.map A5)]) (fun zz=>D8 (Dj f_) zz.1 zz.2.1=some o33) (fun zz=>zz.1) (fuel,(Cg (Da y1)),1) hJ33 cu cu (fun x=>⟨rfl,rfl,rfl⟩) ?_
  clear hJ33
  rintro⟨n33,set_32,ver33⟩ hJ33
  dsimp only at hJ33 ⊢
  obtain⟨m33,b33,rfl,h,hJ33⟩:=Me hJ33
  unfold Dj at h;try dsimp only at h
  refine bk (sq (ar rfl (qn (sq (sq ?_)))))
  refine rg rfl fun K j=>?_
  intro hm
  refine j _ _ (qn (bk ?_))
  refine AWP.ghost 6 1 rfl (by decide) ?_
  obtain⟨o36,hJ36,hO36⟩:=Ah h
  clear h
  refine AWP.Bw (ι:=Nat×((List Int))×(Nat)) (fun zz=>[(2,.ptr 0 0),(5,.own 1 ver33 0 set_32.length),(6,.own 2 zz.2.2 0 zz.2.1.length),(18,.own 1 ver33 0 set_32.length),(19,.int .i64 ((set_32.length:Nat):Int)),(20,.int .i64 ((zz.1:Nat):Int))]) (fun zz=>[.box [.sl 2 (f_.Map.Nodes.map A6),.sl 8 (f_.Map.Lifts.map A7),.sl 7 (f_.Map.Runs.map Bd),.sl 1 (f_.Map.Bases.map A5),.sl 2 (f_.Lifts.map Ax),.sl 4 (f_.Closures.map Au),.sl 4 (f_.Patrol.Bv.map Av),.sl 3 (f_.Patrol.Hazards.map A1),.sl 3 (f_.Surfaces.map A8),.sl 5 (f_.Packs.map A3),.sl 6 (f_.Slides.map Bb),.sl 7 (f_.Bulletin.map Aw),.sl 7 (f_.Missions.map Aq),.sl 4 (f_.Winches.map Ap),.sl 8 (f_.Groomers.map A2),.sl 3 (f_.Status.map A4),.int .i64 f_.Depth,.int .i64 f_.Time],.row ver33 1 (set_32.map A5),.row zz.2.2 1 (zz.2.1.map A5)]) (fun zz=>zz.1≤set_32.length∧Am (E5 f_ set_32) zz.1 ((set_32).drop zz.1) zz.2.1=some o36) (fun zz=>set_32.length - zz.1) (0,[],0) ⟨Nat.zero_le _,hJ36⟩ cu cu (fun x=>⟨rfl,rfl,rfl⟩) ?_
  clear hJ36
  rintro⟨k36,left35,ver36⟩ ⟨hk36,hJ36⟩
  dsimp only at hk36 hJ36 ⊢
  refine sq (ar rfl (qn (sq ?_)))
  refine AWP.cond (Ak (fun hc=>?_) (fun hc=>?_))
  ·have hlt36:k36<set_32.length:=by have:=Aia hc;omega
   obtain⟨x_38,b36,hx36_,h,hJ36⟩:=A9 hJ36 hlt36
   have hx36:=Ay hx36_
   have hw36:=wk (k:=k36) (by omega)
   unfold E5 at h;try dsimp only at h
   refine sk (qn (sq (bk (sq ?_))))
   refine rg rfl fun K j=>?_
   refine Ki hx36 (by first | rfl | exact(Cl _).symm | (simp only[List.length_append,List.length_cons,List.length_nil,List.length_set,List.length_replicate]<;>omega)) ?_
   refine nS ?_
   refine Dd.ofNat (f:=A5) (l:=set_32) (n:=k36) hx36 ?_
   refine nS ?_
   refine j _ _ (qn (sq ?_))
   refine rg rfl fun K j=>?_
   obtain⟨y39,hy39,h⟩:=Ah h
   refine An.snap Tryz.call49 (F6 f_ set_32 x_38 hy39) (by simp +decide -implicitDefEqProofs only[go_sem]) (by rintro _ rfl;rfl) fun _ hr=>?_
   subst hr
   refine nS ?_
   refine j _ _ (qn ?_)
   revert h;refine ca rfl (fun hc h=>?_) fun hc h=>?_
   ·refine rg rfl fun K j=>?_
    obtain⟨hk,h⟩:=B8 h
    (repeat refine rp ?_);try simp +decide -implicitDefEqProofs only[go_sem]
    refine j _ _ (bn (qn ?_))
    refine ar rfl (qn ?_)
    obtain rfl:=Aa h
    refine⟨(k36+1,(left35++[x_38]),(ver36+1)),⟨by dsimp only;omega,Ai hJ36⟩,by dsimp only;omega,?_,?_⟩
    ·exact cuw hw36
    exact cuw hw36
   refine sk (bn (qn (ar rfl (qn ?_))))
   obtain rfl:=Aa h
   refine⟨(k36+1,left35,ver36),⟨by dsimp only;omega,Ai hJ36⟩,by dsimp only;omega,?_,?_⟩
   ·exact cuw hw36
   exact cuw hw36
  obtain rfl:=Bf hJ36 (fun hl=>by have:=Ah9 hc;omega)
  have h:=Be hO36;try dsimp only at h
  have hkl:set_32.length=k36:=by have:=Ah9 hc;omega
  subst hkl
  refine xt (qe (qe (bs (qn (sq (sq ?_))))))
  refine rg rfl fun K j=>?_
  intro hm
  intro hm
  refine j _ _ (qn ?_)
  revert h;refine ca rfl (fun hc h=>?_) fun hc h=>?_
  ·refine sq (ar rfl (qn (rt (qr (br (qr ?_))))))
   obtain rfl:=Aa h
   obtain rfl:=Ae hJ33
   replace h:=Al hO33
   refine br ?_
   cases h;exact en Tryz.results29
  refine sk (qn (ar rfl (bn (qn ?_))))
  obtain rfl:=Aa h
  refine⟨(m33,left35,ver36),Ai hJ33,by dsimp only;omega,_,_,Sub.swap 2 1 rfl rfl rfl,?_,?_⟩
  ·exact cu
  exact cu
 have hlt1:k1<(Cg (Da y1)).length:=by have:=Aia hc;omega
 obtain⟨x_3,b1,hx1_,h,hJ1⟩:=A9 hJ1 hlt1
 have hx1:=Ay hx1_
 have hw1:=wk (k:=k1) (by omega)
 unfold E6 at h;try dsimp only at h
 refine sk (qn (sq (bk (sq (ar rfl (qn (sq ?_)))))))
 refine rg rfl fun K j=>?_
 refine Ki hx1 (by first | rfl | exact(Cl _).symm | (simp only[List.length_append,List.length_cons,List.length_nil,List.length_set,List.length_replicate]<;>omega)) ?_
 refine nS ?_
 refine Dd.ofNat (f:=A5) (l:=(Cg (Da y1))) (n:=k1) hx1 ?_
 refine nS ?_
 refine An.inline Tryz.call71 Tryz.func71 rfl rfl (by show _≤8;simp) ?_
 refine nS (sq ?_)
 refine ar rfl (qn (sq ?_))
 refine rg rfl fun K j=>?_
 obtain⟨y4,hy4,h⟩:=Ah h
 refine An.pure Tryz.call48 (Jg f_ x_3 hy4) rfl fun _ hr=>?_
 subst hr
 refine nS ?_
 refine j _ _ (qn (rt ?_));clear j K
 refine nSc Tryz.results71 ?_
 refine j _ _ (qn ?_);clear j K
 revert h;refine ca rfl (fun hc h=>?_) fun hc h=>?_
 ·refine sq (ar rfl (qn (rt (br (qr (qr ?_))))))
  obtain⟨q30,hq,h⟩:=Ah h
  obtain rfl:=Aa h
  obtain rfl:=Ae hJ1
  replace h:=hq.trans (Al hO1)
  refine br (qr (nSc Tryz.results150 ?_))
  refine j _ _ (qn (sq (sq ?_)));clear j K
  refine ar rfl (qn ?_)
  revert h;refine ca rfl (fun hc h=>?_) fun hc h=>?_
  ·refine sq (ar rfl (qn (rt (qr ?_))))
   refine nSc Tryz.results70 ?_
   refine j _ _ (qn (bk ?_))
   obtain⟨o6,hJ6,hO6⟩:=Ah h
   clear h
   refine AWP.mN (ι:=Nat×((List Int))×(Nat)) (fun zz=>[(2,.ptr 0 0),(5,.own 1 zz.2.2 0 zz.2.1.length)]) (fun zz=>[.box [.sl 2 (f_.Map.Nodes.map A6),.sl 8 (f_.Map.Lifts.map A7),.sl 7 (f_.Map.Runs.map Bd),.sl 1 (f_.Map.Bases.map A5),.sl 2 (f_.Lifts.map Ax),.sl 4 (f_.Closures.map Au),.sl 4 (f_.Patrol.Bv.map Av),.sl 3 (f_.Patrol.Hazards.map A1),.sl 3 (f_.Surfaces.map A8),.sl 5 (f_.Packs.map A3),.sl 6 (f_.Slides.map Bb),.sl 7 (f_.Bulletin.map Aw),.sl 7 (f_.Missions.map Aq),.sl 4 (f_.Winches.map Ap),.sl 8 (f_.Groomers.map A2),.sl 3 (f_.Status.map A4),.int .i64 f_.Depth,.int .i64 f_.Time],.row zz.2.2 1 (zz.2.1.map A5)]) (fun zz=>D8 (Nw f_) zz.1 zz.2.1=some o6) (fun zz=>zz.1) (fuel,(Cg (Da y1)),1) hJ6 cu cu (fun x=>⟨rfl,rfl,rfl⟩) ?_
   clear hJ6
   rintro⟨n6,set_5,ver6⟩ hJ6
   dsimp only at hJ6 ⊢
   obtain⟨m6,b6,rfl,h,hJ6⟩:=Me hJ6
   unfold Nw at h;try dsimp only at h
   refine bk (sq (ar rfl (qn (sq (sq ?_)))))
   refine rg rfl fun K j=>?_
   intro hm
   refine j _ _ (qn (bk ?_))
   refine AWP.ghost 6 1 rfl (by decide) ?_
   obtain⟨o9,hJ9,hO9⟩:=Ah h
   clear h
   refine AWP.Bw (ι:=Nat×((List Int))×(Nat)) (fun zz=>[(2,.ptr 0 0),(5,.own 1 ver6 0 set_5.length),(6,.own 2 zz.2.2 0 zz.2.1.length),(18,.own 1 ver6 0 set_5.length),(19,.int .i64 ((set_5.length:Nat):Int)),(20,.int .i64 ((zz.1:Nat):Int))]) (fun zz=>[.box [.sl 2 (f_.Map.Nodes.map A6),.sl 8 (f_.Map.Lifts.map A7),.sl 7 (f_.Map.Runs.map Bd),.sl 1 (f_.Map.Bases.map A5),.sl 2 (f_.Lifts.map Ax),.sl 4 (f_.Closures.map Au),.sl 4 (f_.Patrol.Bv.map Av),.sl 3 (f_.Patrol.Hazards.map A1),.sl 3 (f_.Surfaces.map A8),.sl 5 (f_.Packs.map A3),.sl 6 (f_.Slides.map Bb),.sl 7 (f_.Bulletin.map Aw),.sl 7 (f_.Missions.map Aq),.sl 4 (f_.Winches.map Ap),.sl 8 (f_.Groomers.map A2),.sl 3 (f_.Status.map A4),.int .i64 f_.Depth,.int .i64 f_.Time],.row ver6 1 (set_5.map A5),.row zz.2.2 1 (zz.2.1.map A5)]) (fun zz=>zz.1≤set_5.length∧Am (Nv f_ set_5) zz.1 ((set_5).drop zz.1) zz.2.1=some o9) (fun zz=>set_5.length - zz.1) (0,[],0) ⟨Nat.zero_le _,hJ9⟩ cu cu (fun x=>⟨rfl,rfl,rfl⟩) ?_
   clear hJ9
   rintro⟨k9,left8,ver9⟩ ⟨hk9,hJ9⟩
   dsimp only at hk9 hJ9 ⊢
   refine sq (ar rfl (qn (sq ?_)))
   refine AWP.cond (Ak (fun hc=>?_) (fun hc=>?_))
   ·have hlt9:k9<set_5.length:=by have:=Aia hc;omega
    obtain⟨x_11,b9,hx9_,h,hJ9⟩:=A9 hJ9 hlt9
    have hx9:=Ay hx9_
    have hw9:=wk (k:=k9) (by omega)
    unfold Nv at h;try dsimp only at h
    refine sk (qn (sq (bk (sq ?_))))
    refine rg rfl fun K j=>?_
    refine Ki hx9 (by first | rfl | exact(Cl _).symm | (simp only[List.length_append,List.length_cons,List.length_nil,List.length_set,List.length_replicate]<;>omega)) ?_
    refine nS ?_
    refine Dd.ofNat (f:=A5) (l:=set_5) (n:=k9) hx9 ?_
    refine nS ?_
    refine j _ _ (qn (sq ?_))
    refine rg rfl fun K j=>?_
    obtain⟨y12,hy12,h⟩:=Ah h
    refine An.snap Tryz.call49 (F6 f_ set_5 x_11 hy12) (by simp +decide -implicitDefEqProofs only[go_sem]) (by rintro _ rfl;rfl) fun _ hr=>?_
    subst hr
    refine nS ?_
    refine j _ _ (qn ?_)
    revert h;refine ca rfl (fun hc h=>?_) fun hc h=>?_
    ·refine rg rfl fun K j=>?_
     obtain⟨hk,h⟩:=B8 h
     (repeat refine rp ?_);try simp +decide -implicitDefEqProofs only[go_sem]
     refine j _ _ (bn (qn ?_))
     refine ar rfl (qn ?_)
     obtain rfl:=Aa h
     refine⟨(k9+1,(left8++[x_11]),(ver9+1)),⟨by dsimp only;omega,Ai hJ9⟩,by dsimp only;omega,?_,?_⟩
     ·exact cuw hw9
     exact cuw hw9
    refine sk (bn (qn (ar rfl (qn ?_))))
    obtain rfl:=Aa h
    refine⟨(k9+1,left8,ver9),⟨by dsimp only;omega,Ai hJ9⟩,by dsimp only;omega,?_,?_⟩
    ·exact cuw hw9
    exact cuw hw9
   obtain rfl:=Bf hJ9 (fun hl=>by have:=Ah9 hc;omega)
   have h:=Be hO9;try dsimp only at h
   have hkl:set_5.length=k9:=by have:=Ah9 hc;omega
   subst hkl
   refine xt (qe (qe (bs (qn (sq (sq ?_))))))
   refine rg rfl fun K j=>?_
   intro hm
   intro hm
   refine j _ _ (qn ?_)
   revert h;refine ca rfl (fun hc h=>?_) fun hc h=>?_
   ·refine sq (ar rfl (qn (rt (qr (br (qr ?_))))))
    obtain rfl:=Aa h
    obtain rfl:=Ae hJ6
    replace h:=Al hO6
    refine br ?_
    cases h;exact en Tryz.results29
   refine sk (qn (ar rfl (bn (qn ?_))))
   obtain rfl:=Aa h
   refine⟨(m6,left8,ver9),Ai hJ6,by dsimp only;omega,_,_,Sub.swap 2 1 rfl rfl rfl,?_,?_⟩
   ·exact cu
   exact cu
  refine sk (qn (sq (sq (ar rfl (qn (bk ?_))))))
  obtain⟨o16,hJ16,hO16⟩:=Ah h
  clear h
  refine AWP.Bw (ι:=Nat×(Int×Int×(List Int))×(Nat)) (fun zz=>[(0,.own 1 zz.2.2 0 zz.2.1.2.2.length),(1,.func 71 [.ptr 0 0]),(5,.int .i64 zz.2.1.1),(6,.int .i64 zz.2.1.2.1)]) (fun zz=>[.box [.sl 2 (f_.Map.Nodes.map A6),.sl 8 (f_.Map.Lifts.map A7),.sl 7 (f_.Map.Runs.map Bd),.sl 1 (f_.Map.Bases.map A5),.sl 2 (f_.Lifts.map Ax),.sl 4 (f_.Closures.map Au),.sl 4 (f_.Patrol.Bv.map Av),.sl 3 (f_.Patrol.Hazards.map A1),.sl 3 (f_.Surfaces.map A8),.sl 5 (f_.Packs.map A3),.sl 6 (f_.Slides.map Bb),.sl 7 (f_.Bulletin.map Aw),.sl 7 (f_.Missions.map Aq),.sl 4 (f_.Winches.map Ap),.sl 8 (f_.Groomers.map A2),.sl 3 (f_.Status.map A4),.int .i64 f_.Depth,.int .i64 f_.Time],.row zz.2.2 1 (zz.2.1.2.2.map A5)]) (fun zz=>D8 (Dq f_) zz.1 zz.2.1=some o16) (fun zz=>zz.1) (fuel,(((k1:Nat):Int),(IntKind.i64.wrap (((k1:Nat):Int)+1)),(Cg (Da y1))),1) hJ16 cu cu (fun x=>⟨rfl,rfl,rfl⟩) ?_
  clear hJ16
  rintro⟨n16,⟨i13,j14,s_15⟩,ver16⟩ hJ16
  dsimp only at hJ16 ⊢
  obtain⟨m16,b16,rfl,h,hJ16⟩:=Me hJ16
  unfold Dq at h;try dsimp only at h
  refine sq (sq ?_)
  refine rg rfl fun K j=>?_
  intro hm
  refine j _ _ (qn ?_);clear j K
  revert h;refine ca rfl (fun hc h=>?_) fun hc h=>?_
  ·refine sk (qn (sq (bk (sq ?_))))
   refine rg rfl fun K j=>?_
   obtain⟨x_18,hx_18,h⟩:=Ah h
   refine Ki hx_18 (by first | rfl | exact(Cl _).symm | (simp only[List.length_append,List.length_cons,List.length_nil,List.length_set,List.length_replicate]<;>omega)) ?_
   refine nS ?_
   refine Dd.of (f:=A5) (l:=s_15) (n:=j14) hx_18 ?_
   refine nS ?_
   refine j _ _ (qn (sq ?_));clear j K
   refine rg rfl fun K j=>?_
   refine An.inline Tryz.call71 Tryz.func71 rfl rfl (by show _≤8;simp) ?_
   refine nS (sq ?_)
   refine ar rfl (qn (sq ?_))
   refine rg rfl fun K j=>?_
   obtain⟨y19,hy19,h⟩:=Ah h
   refine An.pure Tryz.call48 (Jg f_ x_18 hy19) rfl fun _ hr=>?_
   subst hr
   refine nS ?_
   refine j _ _ (qn (rt ?_));clear j K
   refine nSc Tryz.results71 ?_
   refine j _ _ (qn ?_);clear j K
   revert h;refine ca rfl (fun hc h=>?_) fun hc h=>?_
   ·refine sq ?_
    refine rg rfl fun K j=>?_
    obtain⟨x_20,hx_20,h⟩:=Ah h
    refine Ki hx_20 (by first | rfl | exact(Cl _).symm | (simp only[List.length_append,List.length_cons,List.length_nil,List.length_set,List.length_replicate]<;>omega)) ?_
    refine nS ?_
    refine Dd.of (f:=A5) (l:=s_15) (n:=i13) hx_20 ?_
    have hs21:=Ri (y:=x_18) hx_20
    refine nS ?_
    refine j _ _ (qn ?_);clear j K
    refine ar rfl (bn (qn ?_))
    refine ar rfl (qn ?_)
    obtain rfl:=Aa h
    refine⟨(m16,((IntKind.i64.wrap (i13+1)),(IntKind.i64.wrap (j14+1)),(s_15.set i13.toNat x_18)),ver16),Ai hJ16,by dsimp only;omega,?_,?_⟩
    ·exact cu
    exact cu
   refine sk (bn (qn (ar rfl (qn ?_))))
   obtain rfl:=Aa h
   refine⟨(m16,(i13,(IntKind.i64.wrap (j14+1)),s_15),ver16),Ai hJ16,by dsimp only;omega,?_,?_⟩
   ·exact cu
   exact cu
  refine xt (qe (qe ?_))
  obtain⟨q29,hq,h⟩:=Ah h
  obtain rfl:=Aa h
  obtain rfl:=Ae hJ16
  replace h:=hq.trans (Al hO16)
  refine bs (qn (sq ?_))
  refine AWP.kB ?_
  refine ALP.cut 3 (ALP.part rfl ?_);intro K j
  refine nS ?_
  obtain⟨hk,h⟩:=Jf h
  (repeat(refine⟨by omega,?_⟩))
  refine j _ _ ?_;clear j K
  refine ALP.clr (l:=s_15) rfl rfl Tryz.underlying25 (by kernel_rfl) rfl (by first | rfl | omega) ?_
  refine nS ?_
  refine ALP.last rfl ?_;intro K j
  refine nS ?_
  refine j _ _ (qn (sq ?_));clear j K
  refine rg rfl fun K j=>?_
  obtain⟨hk,h⟩:=Jf h
  (repeat(refine⟨by omega,?_⟩))
  refine j _ _ (qn ?_);clear j K
  refine AWP.sub (Sub.window 4 rfl rfl) ?_
  refine nS (rt ?_)
  refine nSc Tryz.results70 ?_
  refine j _ _ (qn (bk ?_))
  obtain⟨o23,hJ23,hO23⟩:=Ah h
  clear h
  refine AWP.mN (ι:=Nat×((List Int))×(Nat)) (fun zz=>[(2,.ptr 0 0),(5,.own 1 zz.2.2 0 zz.2.1.length)]) (fun zz=>[.box [.sl 2 (f_.Map.Nodes.map A6),.sl 8 (f_.Map.Lifts.map A7),.sl 7 (f_.Map.Runs.map Bd),.sl 1 (f_.Map.Bases.map A5),.sl 2 (f_.Lifts.map Ax),.sl 4 (f_.Closures.map Au),.sl 4 (f_.Patrol.Bv.map Av),.sl 3 (f_.Patrol.Hazards.map A1),.sl 3 (f_.Surfaces.map A8),.sl 5 (f_.Packs.map A3),.sl 6 (f_.Slides.map Bb),.sl 7 (f_.Bulletin.map Aw),.sl 7 (f_.Missions.map Aq),.sl 4 (f_.Winches.map Ap),.sl 8 (f_.Groomers.map A2),.sl 3 (f_.Status.map A4),.int .i64 f_.Depth,.int .i64 f_.Time],.row zz.2.2 1 (zz.2.1.map A5)]) (fun zz=>D8 (Jk f_) zz.1 zz.2.1=some o23) (fun zz=>zz.1) (fuel,(((s_15.take i13.toNat)++(List.replicate (s_15.length - i13.toNat) (0:Int))).take i13.toNat),(ver16+1)) hJ23 cu cu (fun x=>⟨rfl,rfl,rfl⟩) ?_
  clear hJ23
  rintro⟨n23,set_22,ver23⟩ hJ23
  dsimp only at hJ23 ⊢
  obtain⟨m23,b23,rfl,h,hJ23⟩:=Me hJ23
  unfold Jk at h;try dsimp only at h
  refine bk (sq (ar rfl (qn (sq (sq ?_)))))
  refine rg rfl fun K j=>?_
  intro hm
  refine j _ _ (qn (bk ?_))
  refine AWP.ghost 6 1 rfl (by decide) ?_
  obtain⟨o26,hJ26,hO26⟩:=Ah h
  clear h
  refine AWP.Bw (ι:=Nat×((List Int))×(Nat)) (fun zz=>[(2,.ptr 0 0),(5,.own 1 ver23 0 set_22.length),(6,.own 2 zz.2.2 0 zz.2.1.length),(18,.own 1 ver23 0 set_22.length),(19,.int .i64 ((set_22.length:Nat):Int)),(20,.int .i64 ((zz.1:Nat):Int))]) (fun zz=>[.box [.sl 2 (f_.Map.Nodes.map A6),.sl 8 (f_.Map.Lifts.map A7),.sl 7 (f_.Map.Runs.map Bd),.sl 1 (f_.Map.Bases.map A5),.sl 2 (f_.Lifts.map Ax),.sl 4 (f_.Closures.map Au),.sl 4 (f_.Patrol.Bv.map Av),.sl 3 (f_.Patrol.Hazards.map A1),.sl 3 (f_.Surfaces.map A8),.sl 5 (f_.Packs.map A3),.sl 6 (f_.Slides.map Bb),.sl 7 (f_.Bulletin.map Aw),.sl 7 (f_.Missions.map Aq),.sl 4 (f_.Winches.map Ap),.sl 8 (f_.Groomers.map A2),.sl 3 (f_.Status.map A4),.int .i64 f_.Depth,.int .i64 f_.Time],.row ver23 1 (set_22.map A5),.row zz.2.2 1 (zz.2.1.map A5)]) (fun zz=>zz.1≤set_22.length∧Am (Nu f_ set_22) zz.1 ((set_22).drop zz.1) zz.2.1=some o26) (fun zz=>set_22.length - zz.1) (0,[],0) ⟨Nat.zero_le _,hJ26⟩ cu cu (fun x=>⟨rfl,rfl,rfl⟩) ?_
  clear hJ26
  rintro⟨k26,left25,ver26⟩ ⟨hk26,hJ26⟩
  dsimp only at hk26 hJ26 ⊢
  refine sq (ar rfl (qn (sq ?_)))
  refine AWP.cond (Ak (fun hc=>?_) (fun hc=>?_))
  ·have hlt26:k26<set_22.length:=by have:=Aia hc;omega
   obtain⟨x_28,b26,hx26_,h,hJ26⟩:=A9 hJ26 hlt26
   have hx26:=Ay hx26_
   have hw26:=wk (k:=k26) (by omega)
   unfold Nu at h;try dsimp only at h
   refine sk (qn (sq (bk (sq ?_))))
   refine rg rfl fun K j=>?_
   refine Ki hx26 (by first | rfl | exact(Cl _).symm | (simp only[List.length_append,List.length_cons,List.length_nil,List.length_set,List.length_replicate]<;>omega)) ?_
   refine nS ?_
   refine Dd.ofNat (f:=A5) (l:=set_22) (n:=k26) hx26 ?_
   refine nS ?_
   refine j _ _ (qn (sq ?_))
   refine rg rfl fun K j=>?_
   obtain⟨y29,hy29,h⟩:=Ah h
   refine An.snap Tryz.call49 (F6 f_ set_22 x_28 hy29) (by simp +decide -implicitDefEqProofs only[go_sem]) (by rintro _ rfl;rfl) fun _ hr=>?_
   subst hr
   refine nS ?_
   refine j _ _ (qn ?_)
   revert h;refine ca rfl (fun hc h=>?_) fun hc h=>?_
   ·refine rg rfl fun K j=>?_
    obtain⟨hk,h⟩:=B8 h
    (repeat refine rp ?_);try simp +decide -implicitDefEqProofs only[go_sem]
    refine j _ _ (bn (qn ?_))
    refine ar rfl (qn ?_)
    obtain rfl:=Aa h
    refine⟨(k26+1,(left25++[x_28]),(ver26+1)),⟨by dsimp only;omega,Ai hJ26⟩,by dsimp only;omega,?_,?_⟩
    ·exact cuw hw26
    exact cuw hw26
   refine sk (bn (qn (ar rfl (qn ?_))))
   obtain rfl:=Aa h
   refine⟨(k26+1,left25,ver26),⟨by dsimp only;omega,Ai hJ26⟩,by dsimp only;omega,?_,?_⟩
   ·exact cuw hw26
   exact cuw hw26
  obtain rfl:=Bf hJ26 (fun hl=>by have:=Ah9 hc;omega)
  have h:=Be hO26;try dsimp only at h
  have hkl:set_22.length=k26:=by have:=Ah9 hc;omega
  subst hkl
  refine xt (qe (qe (bs (qn (sq (sq ?_))))))
  refine rg rfl fun K j=>?_
  intro hm
  intro hm
  refine j _ _ (qn ?_)
  revert h;refine ca rfl (fun hc h=>?_) fun hc h=>?_
  ·refine sq (ar rfl (qn (rt (qr (br (qr ?_))))))
   obtain rfl:=Aa h
   obtain rfl:=Ae hJ23
   replace h:=Al hO23
   refine br ?_
   cases h;exact en Tryz.results29
  refine sk (qn (ar rfl (bn (qn ?_))))
  obtain rfl:=Aa h
  refine⟨(m23,left25,ver26),Ai hJ23,by dsimp only;omega,_,_,Sub.swap 2 1 rfl rfl rfl,?_,?_⟩
  ·exact cu
  exact cu
 refine sk (bn (qn (ar rfl (qn ?_))))
 obtain rfl:=Aa h
 refine⟨(k1+1,(),()),⟨by dsimp only;omega,Ai hJ1⟩,by dsimp only;omega,?_,?_⟩
 ·exact cuw hw1
 exact cuw hw1
theorem X3 (f_:Aj) (runs:List Int) {r:(List Int)} (h:E1 f_ runs=some r):Ad Tryz.prog 29 [.agg (B5 f_),.sl 1 (runs.map A5)] (·= .sl 1 (r.map A5)):=(Pe f_ runs h).pure
def Oo (b:List Int) (k0:Nat) (x_2:Int) (sv:Unit):Option (Out (Unit) (Bool)):=
 (Dh b ((k0:Nat):Int)).bind fun x_3=>(bif (decide (x_2≠x_3))then some (Out.ret false)else some (Out.next ()))
def N7 (a:List Int) (b:List Int):Option (Bool):=
 (bif (decide (((a.length:Nat):Int)≠((b.length:Nat):Int)))then some false else(Am (Oo b) 0 a ()).bind fun o0=>o0.on fun s0=>some true)
theorem Pq (a:List Int) (b:List Int) {r:Bool} (h:N7 a b=some r):Ad Tryz.prog 15 [.sl 1 (a.map A5),.sl 1 (b.map A5)] (·= .bool r):=by
 refine Ad.nle (Ad.intro Tryz.func15 rfl rfl (by show _≤26;simp) ?_)
 unfold N7 at h
 refine nS (sq ?_)
 refine ar rfl (qn (sq (sq ?_)))
 refine rg rfl fun K j=>?_
 intro hm
 intro hm
 refine j _ _ (qn ?_)
 revert h;refine ca rfl (fun hc h=>?_) fun hc h=>?_
 ·refine sq (ar rfl (qn (rt (qr ?_))))
  cases h;exact en Tryz.results15
 refine sk (qn (sq (sq (ar rfl (qn (bk ?_))))))
 obtain⟨o0,hJ0,hO0⟩:=Ah h
 clear h
 refine AWP.Bw (ι:=Nat×(Unit)×(Unit)) (fun zz=>[(0,.sl 1 (a.map A5)),(1,.sl 1 (b.map A5)),(5,.int .i64 ((zz.1:Nat):Int))]) (fun zz=>[]) (fun zz=>zz.1≤a.length∧Am (Oo b) zz.1 ((a).drop zz.1) zz.2.1=some o0) (fun zz=>a.length - zz.1) (0,(),()) ⟨Nat.zero_le _,hJ0⟩ cu cu (fun x=>⟨rfl,rfl,rfl⟩) ?_
 clear hJ0
 rintro⟨k0,⟨⟩,⟨⟩⟩ ⟨hk0,hJ0⟩
 dsimp only at hk0 hJ0 ⊢
 refine sq (sq ?_)
 refine rg rfl fun K j=>?_
 intro hm
 refine j _ _ (qn ?_)
 refine AWP.cond (Ak (fun hc=>?_) (fun hc=>?_))
 rotate_left
 ·obtain rfl:=Bf hJ0 (fun hl=>by have:=Ah9 hc;omega)
  have h:=Be hO0;try dsimp only at h
  have hkl:a.length=k0:=by have:=Ah9 hc;omega
  subst hkl
  refine xt (qe (qe (bs (qn (sq (ar rfl (qn (rt ?_))))))))
  cases h;exact en Tryz.results15
 have hlt0:k0<a.length:=by have:=Aia hc;omega
 obtain⟨x_2,b0,hx0_,h,hJ0⟩:=A9 hJ0 hlt0
 have hx0:=Ay hx0_
 have hw0:=wk (k:=k0) (by omega)
 unfold Oo at h;try dsimp only at h
 refine sk (qn (sq (bk (sq ?_))))
 refine AWP.draw Tryz.mixed (by kernel_rfl) ?_;intro K j
 refine nS ?_
 refine Bn.of (f:=A5) (l:=a) hx0 ?_
 refine nS ?_
 obtain⟨x_3,hx_3,h⟩:=Ah h
 refine Bn.of (f:=A5) (l:=b) hx_3 ?_
 refine nS ?_
 refine j _ _ _ (by kernel_rfl) ?_
 refine qn ?_
 revert h;refine ca rfl (fun hc h=>?_) fun hc h=>?_
 ·refine sq (ar rfl (qn (rt (br (qr (qr ?_))))))
  obtain rfl:=Aa h
  obtain rfl:=Ae hJ0
  replace h:=Al hO0
  refine br (qr ?_)
  cases h;exact en Tryz.results15
 refine sk (bn (qn (ar rfl (qn ?_))))
 obtain rfl:=Aa h
 refine⟨(k0+1,(),()),⟨by dsimp only;omega,Ai hJ0⟩,by dsimp only;omega,?_,?_⟩
 ·exact cuw hw0
 exact cuw hw0
def Ji (f_:Aj) (y1:(List Int)) (k1:Nat) (x_3:Int) (sv:Unit):Option (Out (Unit) (Bool)):=
 (Dc f_ y1 x_3).bind fun y4=>(bif (decide (y4≠0))then some (Out.ret false)else some (Out.next ()))
def Fx (f_:Aj):Option (Bool):=
 (Dp f_).bind fun y1=>(Am (Ji f_ y1) 0 y1 ()).bind fun o1=>o1.on fun s1=>some true
theorem P3 (f_:Aj) {r:Bool} (h:Fx f_=some r):Ad Tryz.prog 22 [.agg (B5 f_)] (·= .bool r):=by
 refine Ad.nle (Ad.intro Tryz.func22 rfl rfl (by show _≤20;simp) ?_)
 unfold Fx at h
 refine nS (sq ?_)
 refine ar rfl (qn (sq ?_))
 refine rg rfl fun K j=>?_
 obtain⟨y1,hy1,h⟩:=Ah h
 refine An.pure Tryz.call20 (Ml f_ hy1) rfl fun _ hr=>?_
 subst hr
 refine nS ?_
 refine j _ _ (qn (sq (sq ?_)))
 refine rg rfl fun K j=>?_
 intro hm
 refine j _ _ (qn (bk ?_))
 obtain⟨o1,hJ1,hO1⟩:=Ah h
 clear h
 refine AWP.Bw (ι:=Nat×(Unit)×(Unit)) (fun zz=>[(1,.ptr 0 0),(3,.sl 1 (y1.map A5)),(8,.sl 1 (y1.map A5)),(9,.int .i64 ((y1.length:Nat):Int)),(10,.int .i64 ((zz.1:Nat):Int))]) (fun zz=>[.box [.sl 2 (f_.Map.Nodes.map A6),.sl 8 (f_.Map.Lifts.map A7),.sl 7 (f_.Map.Runs.map Bd),.sl 1 (f_.Map.Bases.map A5),.sl 2 (f_.Lifts.map Ax),.sl 4 (f_.Closures.map Au),.sl 4 (f_.Patrol.Bv.map Av),.sl 3 (f_.Patrol.Hazards.map A1),.sl 3 (f_.Surfaces.map A8),.sl 5 (f_.Packs.map A3),.sl 6 (f_.Slides.map Bb),.sl 7 (f_.Bulletin.map Aw),.sl 7 (f_.Missions.map Aq),.sl 4 (f_.Winches.map Ap),.sl 8 (f_.Groomers.map A2),.sl 3 (f_.Status.map A4),.int .i64 f_.Depth,.int .i64 f_.Time]]) (fun zz=>zz.1≤y1.length∧Am (Ji f_ y1) zz.1 ((y1).drop zz.1) zz.2.1=some o1) (fun zz=>y1.length - zz.1) (0,(),()) ⟨Nat.zero_le _,hJ1⟩ cu cu (fun x=>⟨rfl,rfl,rfl⟩) ?_
 clear hJ1
 rintro⟨k1,⟨⟩,⟨⟩⟩ ⟨hk1,hJ1⟩
 dsimp only at hk1 hJ1 ⊢
 refine sq (ar rfl (qn (sq ?_)))
 refine AWP.cond (Ak (fun hc=>?_) (fun hc=>?_))
 rotate_left
 ·obtain rfl:=Bf hJ1 (fun hl=>by have:=Ah9 hc;omega)
  have h:=Be hO1;try dsimp only at h
  have hkl:y1.length=k1:=by have:=Ah9 hc;omega
  subst hkl
  refine xt (qe (qe (bs (qn (sq (ar rfl (qn (rt ?_))))))))
  cases h;exact en Tryz.results22
 have hlt1:k1<y1.length:=by have:=Aia hc;omega
 obtain⟨x_3,b1,hx1_,h,hJ1⟩:=A9 hJ1 hlt1
 have hx1:=Ay hx1_
 have hw1:=wk (k:=k1) (by omega)
 unfold Ji at h;try dsimp only at h
 refine sk (qn (sq (bk (sq ?_))))
 refine rg rfl fun K j=>?_
 refine Bn.of (f:=A5) (l:=y1) hx1 ?_
 refine nS ?_
 refine j _ _ (qn (sq ?_))
 refine rg rfl fun K j=>?_
 obtain⟨y4,hy4,h⟩:=Ah h
 refine An.pure Tryz.call18 (Dm f_ y1 x_3 hy4) rfl fun _ hr=>?_
 subst hr
 refine nS ?_
 refine j _ _ (qn ?_)
 revert h;refine ca rfl (fun hc h=>?_) fun hc h=>?_
 ·refine sq (ar rfl (qn (rt (br (qr (qr ?_))))))
  obtain rfl:=Aa h
  obtain rfl:=Ae hJ1
  replace h:=Al hO1
  refine br (qr ?_)
  cases h;exact en Tryz.results22
 refine sk (bn (qn (ar rfl (qn ?_))))
 obtain rfl:=Aa h
 refine⟨(k1+1,(),()),⟨by dsimp only;omega,Ai hJ1⟩,by dsimp only;omega,?_,?_⟩
 ·exact cuw hw1
 exact cuw hw1
def C5 (s_:List Ck):Option (List Ck):=chk s_.length (some s_)
theorem Ln (s_:List Ck) {r:List Ck} (h:C5 s_=some r):C9 Tryz.prog 122 [.sl 2 (s_.map A6)] 2 (r.map A6):=by
 have hk:=(B8 h).1
 have hr:r=s_:=Aa (B8 h).2
 rw[hr];clear hr h
 refine C9.of ?_
 refine Ch.weak (R:=fun q H=>∃ v rest,q= .own 0 v 0 (s_.map A6).length∧H= .row v 2 (s_.map A6)::rest) (Ch.intro Tryz.func122 rfl rfl (by show _≤8;simp) ?_) (fun q H hq=>?_)
 ·refine nS (sq ?_)
  refine ar rfl (qn (sq (sq ?_)))
  refine rg rfl fun K j=>?_
  intro bnil hb
  refine nS ?_
  refine j _ _ (qn ?_)
  refine AWP.cond (Ak (fun hc=>?_) (fun hc=>?_))
  ·have hx0:s_=[]:=Classical.byContradiction fun hne=>by have:=hb (by simpa using hne);simp[this]at hc
   subst hx0
   refine sq (ar rfl (qn ?_))
   refine AWP.ghost 2 2 rfl (by decide) ?_
   refine nS (rt (qr ?_))
   refine nSc Tryz.results122 ?_
   refine⟨_,_,?_,rfl⟩
   (try simp +decide -implicitDefEqProofs only[go_sem,List.length_map,List.length_append,List.length_cons,List.length_nil,List.length_set,List.length_replicate]);try rfl
  clear hc
  refine sk (qn (sq ?_))
  refine rg rfl fun K j=>?_
  (repeat refine rp ?_);try simp +decide -implicitDefEqProofs only[go_sem]
  refine j _ _ (qn (rt ?_))
  refine nSc Tryz.results122 ?_
  refine⟨_,_,?_,rfl⟩
  (try simp +decide -implicitDefEqProofs only[go_sem,List.length_map,List.length_append,List.length_cons,List.length_nil,List.length_set,List.length_replicate]);try rfl
 obtain⟨v,rest,rfl,rfl⟩:=hq
 exact⟨[.row v 2 (s_.map A6)],⟨⟨rfl,rfl,rfl⟩,by cases rest<;>trivial⟩,rfl,rfl,⟨v,rfl,rfl⟩⟩
theorem Kw (s_:List Ck) {r:List Ck} (h:C5 s_=some r):Bs Tryz.prog 122 [.sl 2 (s_.map A6)] (·= .sl 2 (r.map A6)):=Bs.nle (Ch.fresh (Ch.mono (Ln s_ h) fun q H=>by rintro⟨rfl,rfl⟩;simp +decide -implicitDefEqProofs only[go_sem,Dl,Ac.int.injEq,Int.natCast_zero,List.replicate_zero,List.length_take,List.length_drop,Ac.own.injEq,reduceCtorEq,Int.reduceAdd,Tx,Ty,Pw,Tw,Pv,List.length_map]))
theorem Lf (s_:List Ck) {r:List Ck} (h:C5 s_=some r):Ad Tryz.prog 122 [.sl 2 (s_.map A6)] (·= .sl 2 (r.map A6)):=(Kw s_ h).pure
def C6 (s_:List Cc):Option (List Cc):=chk s_.length (some s_)
theorem Lo (s_:List Cc) {r:List Cc} (h:C6 s_=some r):C9 Tryz.prog 123 [.sl 8 (s_.map A7)] 8 (r.map A7):=by
 have hk:=(B8 h).1
 have hr:r=s_:=Aa (B8 h).2
 rw[hr];clear hr h
 refine C9.of ?_
 refine Ch.weak (R:=fun q H=>∃ v rest,q= .own 0 v 0 (s_.map A7).length∧H= .row v 8 (s_.map A7)::rest) (Ch.intro Tryz.func123 rfl rfl (by show _≤8;simp) ?_) (fun q H hq=>?_)
 ·refine nS (sq ?_)
  refine ar rfl (qn (sq (sq ?_)))
  refine rg rfl fun K j=>?_
  intro bnil hb
  refine nS ?_
  refine j _ _ (qn ?_)
  refine AWP.cond (Ak (fun hc=>?_) (fun hc=>?_))
  ·have hx0:s_=[]:=Classical.byContradiction fun hne=>by have:=hb (by simpa using hne);simp[this]at hc
   subst hx0
   refine sq (ar rfl (qn ?_))
   refine AWP.ghost 2 8 rfl (by decide) ?_
   refine nS (rt (qr ?_))
   refine nSc Tryz.results123 ?_
   refine⟨_,_,?_,rfl⟩
   (try simp +decide -implicitDefEqProofs only[go_sem,List.length_map,List.length_append,List.length_cons,List.length_nil,List.length_set,List.length_replicate]);try rfl
  clear hc
  refine sk (qn (sq ?_))
  refine rg rfl fun K j=>?_
  (repeat refine rp ?_);try simp +decide -implicitDefEqProofs only[go_sem]
  refine j _ _ (qn (rt ?_))
  refine nSc Tryz.results123 ?_
  refine⟨_,_,?_,rfl⟩
  (try simp +decide -implicitDefEqProofs only[go_sem,List.length_map,List.length_append,List.length_cons,List.length_nil,List.length_set,List.length_replicate]);try rfl
 obtain⟨v,rest,rfl,rfl⟩:=hq
 exact⟨[.row v 8 (s_.map A7)],⟨⟨rfl,rfl,rfl⟩,by cases rest<;>trivial⟩,rfl,rfl,⟨v,rfl,rfl⟩⟩
theorem Kx (s_:List Cc) {r:List Cc} (h:C6 s_=some r):Bs Tryz.prog 123 [.sl 8 (s_.map A7)] (·= .sl 8 (r.map A7)):=Bs.nle (Ch.fresh (Ch.mono (Lo s_ h) fun q H=>by rintro⟨rfl,rfl⟩;simp +decide -implicitDefEqProofs only[go_sem,Dl,Ac.int.injEq,Int.natCast_zero,List.replicate_zero,List.length_take,List.length_drop,Ac.own.injEq,reduceCtorEq,Int.reduceAdd,Tx,Ty,Pw,Tw,Pv,List.length_map]))
theorem Lg (s_:List Cc) {r:List Cc} (h:C6 s_=some r):Ad Tryz.prog 123 [.sl 8 (s_.map A7)] (·= .sl 8 (r.map A7)):=(Kx s_ h).pure
def De (s_:List Cd):Option (List Cd):=chk s_.length (some s_)
theorem M1 (s_:List Cd) {r:List Cd} (h:De s_=some r):C9 Tryz.prog 124 [.sl 7 (s_.map Bd)] 7 (r.map Bd):=by
 have hk:=(B8 h).1
 have hr:r=s_:=Aa (B8 h).2
 rw[hr];clear hr h
 refine C9.of ?_
 refine Ch.weak (R:=fun q H=>∃ v rest,q= .own 0 v 0 (s_.map Bd).length∧H= .row v 7 (s_.map Bd)::rest) (Ch.intro Tryz.func124 rfl rfl (by show _≤8;simp) ?_) (fun q H hq=>?_)
 ·refine nS (sq ?_)
  refine ar rfl (qn (sq (sq ?_)))
  refine rg rfl fun K j=>?_
  intro bnil hb
  refine nS ?_
  refine j _ _ (qn ?_)
  refine AWP.cond (Ak (fun hc=>?_) (fun hc=>?_))
  ·have hx0:s_=[]:=Classical.byContradiction fun hne=>by have:=hb (by simpa using hne);simp[this]at hc
   subst hx0
   refine sq (ar rfl (qn ?_))
   refine AWP.ghost 2 7 rfl (by decide) ?_
   refine nS (rt (qr ?_))
   refine nSc Tryz.results124 ?_
   refine⟨_,_,?_,rfl⟩
   (try simp +decide -implicitDefEqProofs only[go_sem,List.length_map,List.length_append,List.length_cons,List.length_nil,List.length_set,List.length_replicate]);try rfl
  clear hc
  refine sk (qn (sq ?_))
  refine rg rfl fun K j=>?_
  (repeat refine rp ?_);try simp +decide -implicitDefEqProofs only[go_sem]
  refine j _ _ (qn (rt ?_))
  refine nSc Tryz.results124 ?_
  refine⟨_,_,?_,rfl⟩
  (try simp +decide -implicitDefEqProofs only[go_sem,List.length_map,List.length_append,List.length_cons,List.length_nil,List.length_set,List.length_replicate]);try rfl
 obtain⟨v,rest,rfl,rfl⟩:=hq
 exact⟨[.row v 7 (s_.map Bd)],⟨⟨rfl,rfl,rfl⟩,by cases rest<;>trivial⟩,rfl,rfl,⟨v,rfl,rfl⟩⟩
theorem Lm (s_:List Cd) {r:List Cd} (h:De s_=some r):Bs Tryz.prog 124 [.sl 7 (s_.map Bd)] (·= .sl 7 (r.map Bd)):=Bs.nle (Ch.fresh (Ch.mono (M1 s_ h) fun q H=>by rintro⟨rfl,rfl⟩;simp +decide -implicitDefEqProofs only[go_sem,Dl,Ac.int.injEq,Int.natCast_zero,List.replicate_zero,List.length_take,List.length_drop,Ac.own.injEq,reduceCtorEq,Int.reduceAdd,Tx,Ty,Pw,Tw,Pv,List.length_map]))
theorem Mi (s_:List Cd) {r:List Cd} (h:De s_=some r):Ad Tryz.prog 124 [.sl 7 (s_.map Bd)] (·= .sl 7 (r.map Bd)):=(Lm s_ h).pure
def Cf (s_:List Cr):Option (List Cr):=chk s_.length (some s_)
theorem Hs (s_:List Cr) {r:List Cr} (h:Cf s_=some r):C9 Tryz.prog 125 [.sl 2 (s_.map Ax)] 2 (r.map Ax):=by
 have hk:=(B8 h).1
 have hr:r=s_:=Aa (B8 h).2
 rw[hr];clear hr h
 refine C9.of ?_
 refine Ch.weak (R:=fun q H=>∃ v rest,q= .own 0 v 0 (s_.map Ax).length∧H= .row v 2 (s_.map Ax)::rest) (Ch.intro Tryz.func125 rfl rfl (by show _≤8;simp) ?_) (fun q H hq=>?_)
 ·refine nS (sq ?_)
  refine ar rfl (qn (sq (sq ?_)))
  refine rg rfl fun K j=>?_
  intro bnil hb
  refine nS ?_
  refine j _ _ (qn ?_)
  refine AWP.cond (Ak (fun hc=>?_) (fun hc=>?_))
  ·have hx0:s_=[]:=Classical.byContradiction fun hne=>by have:=hb (by simpa using hne);simp[this]at hc
   subst hx0
   refine sq (ar rfl (qn ?_))
   refine AWP.ghost 2 2 rfl (by decide) ?_
   refine nS (rt (qr ?_))
   refine nSc Tryz.results125 ?_
   refine⟨_,_,?_,rfl⟩
   (try simp +decide -implicitDefEqProofs only[go_sem,List.length_map,List.length_append,List.length_cons,List.length_nil,List.length_set,List.length_replicate]);try rfl
  clear hc
  refine sk (qn (sq ?_))
  refine rg rfl fun K j=>?_
  (repeat refine rp ?_);try simp +decide -implicitDefEqProofs only[go_sem]
  refine j _ _ (qn (rt ?_))
  refine nSc Tryz.results125 ?_
  refine⟨_,_,?_,rfl⟩
  (try simp +decide -implicitDefEqProofs only[go_sem,List.length_map,List.length_append,List.length_cons,List.length_nil,List.length_set,List.length_replicate]);try rfl
 obtain⟨v,rest,rfl,rfl⟩:=hq
 exact⟨[.row v 2 (s_.map Ax)],⟨⟨rfl,rfl,rfl⟩,by cases rest<;>trivial⟩,rfl,rfl,⟨v,rfl,rfl⟩⟩
theorem Gu (s_:List Cr) {r:List Cr} (h:Cf s_=some r):Bs Tryz.prog 125 [.sl 2 (s_.map Ax)] (·= .sl 2 (r.map Ax)):=Bs.nle (Ch.fresh (Ch.mono (Hs s_ h) fun q H=>by rintro⟨rfl,rfl⟩;simp +decide -implicitDefEqProofs only[go_sem,Dl,Ac.int.injEq,Int.natCast_zero,List.replicate_zero,List.length_take,List.length_drop,Ac.own.injEq,reduceCtorEq,Int.reduceAdd,Tx,Ty,Pw,Tw,Pv,List.length_map]))
theorem G5 (s_:List Cr) {r:List Cr} (h:Cf s_=some r):Ad Tryz.prog 125 [.sl 2 (s_.map Ax)] (·= .sl 2 (r.map Ax)):=(Gu s_ h).pure
def Cq (s_:List Bk):Option (List Bk):=chk s_.length (some s_)
theorem Ir (s_:List Bk) {r:List Bk} (h:Cq s_=some r):C9 Tryz.prog 126 [.sl 4 (s_.map Au)] 4 (r.map Au):=by
 have hk:=(B8 h).1
 have hr:r=s_:=Aa (B8 h).2
 rw[hr];clear hr h
 refine C9.of ?_
 refine Ch.weak (R:=fun q H=>∃ v rest,q= .own 0 v 0 (s_.map Au).length∧H= .row v 4 (s_.map Au)::rest) (Ch.intro Tryz.func126 rfl rfl (by show _≤8;simp) ?_) (fun q H hq=>?_)
 ·refine nS (sq ?_)
  refine ar rfl (qn (sq (sq ?_)))
  refine rg rfl fun K j=>?_
  intro bnil hb
  refine nS ?_
  refine j _ _ (qn ?_)
  refine AWP.cond (Ak (fun hc=>?_) (fun hc=>?_))
  ·have hx0:s_=[]:=Classical.byContradiction fun hne=>by have:=hb (by simpa using hne);simp[this]at hc
   subst hx0
   refine sq (ar rfl (qn ?_))
   refine AWP.ghost 2 4 rfl (by decide) ?_
   refine nS (rt (qr ?_))
   refine nSc Tryz.results126 ?_
   refine⟨_,_,?_,rfl⟩
   (try simp +decide -implicitDefEqProofs only[go_sem,List.length_map,List.length_append,List.length_cons,List.length_nil,List.length_set,List.length_replicate]);try rfl
  clear hc
  refine sk (qn (sq ?_))
  refine rg rfl fun K j=>?_
  (repeat refine rp ?_);try simp +decide -implicitDefEqProofs only[go_sem]
  refine j _ _ (qn (rt ?_))
  refine nSc Tryz.results126 ?_
  refine⟨_,_,?_,rfl⟩
  (try simp +decide -implicitDefEqProofs only[go_sem,List.length_map,List.length_append,List.length_cons,List.length_nil,List.length_set,List.length_replicate]);try rfl
 obtain⟨v,rest,rfl,rfl⟩:=hq
 exact⟨[.row v 4 (s_.map Au)],⟨⟨rfl,rfl,rfl⟩,by cases rest<;>trivial⟩,rfl,rfl,⟨v,rfl,rfl⟩⟩
theorem Hu (s_:List Bk) {r:List Bk} (h:Cq s_=some r):Bs Tryz.prog 126 [.sl 4 (s_.map Au)] (·= .sl 4 (r.map Au)):=Bs.nle (Ch.fresh (Ch.mono (Ir s_ h) fun q H=>by rintro⟨rfl,rfl⟩;simp +decide -implicitDefEqProofs only[go_sem,Dl,Ac.int.injEq,Int.natCast_zero,List.replicate_zero,List.length_take,List.length_drop,Ac.own.injEq,reduceCtorEq,Int.reduceAdd,Tx,Ty,Pw,Tw,Pv,List.length_map]))
theorem H9 (s_:List Bk) {r:List Bk} (h:Cq s_=some r):Ad Tryz.prog 126 [.sl 4 (s_.map Au)] (·= .sl 4 (r.map Au)):=(Hu s_ h).pure
def C4 (s_:List Fh):Option (List Fh):=chk s_.length (some s_)
theorem Ll (s_:List Fh) {r:List Fh} (h:C4 s_=some r):C9 Tryz.prog 129 [.sl 3 (s_.map B9)] 3 (r.map B9):=by
 have hk:=(B8 h).1
 have hr:r=s_:=Aa (B8 h).2
 rw[hr];clear hr h
 refine C9.of ?_
 refine Ch.weak (R:=fun q H=>∃ v rest,q= .own 0 v 0 (s_.map B9).length∧H= .row v 3 (s_.map B9)::rest) (Ch.intro Tryz.func129 rfl rfl (by show _≤8;simp) ?_) (fun q H hq=>?_)
 ·refine nS (sq ?_)
  refine ar rfl (qn (sq (sq ?_)))
  refine rg rfl fun K j=>?_
  intro bnil hb
  refine nS ?_
  refine j _ _ (qn ?_)
  refine AWP.cond (Ak (fun hc=>?_) (fun hc=>?_))
  ·have hx0:s_=[]:=Classical.byContradiction fun hne=>by have:=hb (by simpa using hne);simp[this]at hc
   subst hx0
   refine sq (ar rfl (qn ?_))
   refine AWP.ghost 2 3 rfl (by decide) ?_
   refine nS (rt (qr ?_))
   refine nSc Tryz.results129 ?_
   refine⟨_,_,?_,rfl⟩
   (try simp +decide -implicitDefEqProofs only[go_sem,List.length_map,List.length_append,List.length_cons,List.length_nil,List.length_set,List.length_replicate]);try rfl
  clear hc
  refine sk (qn (sq ?_))
  refine rg rfl fun K j=>?_
  (repeat refine rp ?_);try simp +decide -implicitDefEqProofs only[go_sem]
  refine j _ _ (qn (rt ?_))
  refine nSc Tryz.results129 ?_
  refine⟨_,_,?_,rfl⟩
  (try simp +decide -implicitDefEqProofs only[go_sem,List.length_map,List.length_append,List.length_cons,List.length_nil,List.length_set,List.length_replicate]);try rfl
 obtain⟨v,rest,rfl,rfl⟩:=hq
 exact⟨[.row v 3 (s_.map B9)],⟨⟨rfl,rfl,rfl⟩,by cases rest<;>trivial⟩,rfl,rfl,⟨v,rfl,rfl⟩⟩
theorem Kv (s_:List Fh) {r:List Fh} (h:C4 s_=some r):Bs Tryz.prog 129 [.sl 3 (s_.map B9)] (·= .sl 3 (r.map B9)):=Bs.nle (Ch.fresh (Ch.mono (Ll s_ h) fun q H=>by rintro⟨rfl,rfl⟩;simp +decide -implicitDefEqProofs only[go_sem,Dl,Ac.int.injEq,Int.natCast_zero,List.replicate_zero,List.length_take,List.length_drop,Ac.own.injEq,reduceCtorEq,Int.reduceAdd,Tx,Ty,Pw,Tw,Pv,List.length_map]))
theorem Le (s_:List Fh) {r:List Fh} (h:C4 s_=some r):Ad Tryz.prog 129 [.sl 3 (s_.map B9)] (·= .sl 3 (r.map B9)):=(Kv s_ h).pure
def El (l:Cj):Option (Cj):=
 (B6 l.List_.Items).bind fun y1=>(C4 l.List_.Signs).bind fun y2=>some (Cj.mk l.Run (Bp.mk y1 l.List_.Every y2))
theorem S4 (l:Cj) {r:Cj} (h:El l=some r):Ad Tryz.prog 128 [.agg (Av l)] (·= .agg (Av r)):=by
 refine Ad.nle (Ad.intro Tryz.func128 rfl rfl (by show _≤16;simp) ?_)
 unfold El at h
 refine nS (sq ?_)
 refine ar rfl (qn (sq ?_))
 refine rg rfl fun K j=>?_
 obtain⟨y1,hy1,h⟩:=Ah h
 refine An.pure Tryz.call67 (C8 l.List_.Items hy1) rfl fun _ hr=>?_
 subst hr
 refine nS ?_
 refine j _ _ (qn (sq ?_))
 refine rg rfl fun K j=>?_
 obtain⟨y2,hy2,h⟩:=Ah h
 refine An.pure Tryz.call129 (Le l.List_.Signs hy2) rfl fun _ hr=>?_
 subst hr
 refine nS ?_
 refine j _ _ (qn (sq ?_))
 refine ar rfl (qn (rt ?_))
 cases h;exact en Tryz.results128
def Cu (s_:List Cv):Option (List Cv):=chk s_.length (some s_)
theorem Jp (s_:List Cv) {r:List Cv} (h:Cu s_=some r):C9 Tryz.prog 130 [.sl 3 (s_.map A1)] 3 (r.map A1):=by
 have hk:=(B8 h).1
 have hr:r=s_:=Aa (B8 h).2
 rw[hr];clear hr h
 refine C9.of ?_
 refine Ch.weak (R:=fun q H=>∃ v rest,q= .own 0 v 0 (s_.map A1).length∧H= .row v 3 (s_.map A1)::rest) (Ch.intro Tryz.func130 rfl rfl (by show _≤8;simp) ?_) (fun q H hq=>?_)
 ·refine nS (sq ?_)
  refine ar rfl (qn (sq (sq ?_)))
  refine rg rfl fun K j=>?_
  intro bnil hb
  refine nS ?_
  refine j _ _ (qn ?_)
  refine AWP.cond (Ak (fun hc=>?_) (fun hc=>?_))
  ·have hx0:s_=[]:=Classical.byContradiction fun hne=>by have:=hb (by simpa using hne);simp[this]at hc
   subst hx0
   refine sq (ar rfl (qn ?_))
   refine AWP.ghost 2 3 rfl (by decide) ?_
   refine nS (rt (qr ?_))
   refine nSc Tryz.results130 ?_
   refine⟨_,_,?_,rfl⟩
   (try simp +decide -implicitDefEqProofs only[go_sem,List.length_map,List.length_append,List.length_cons,List.length_nil,List.length_set,List.length_replicate]);try rfl
  clear hc
  refine sk (qn (sq ?_))
  refine rg rfl fun K j=>?_
  (repeat refine rp ?_);try simp +decide -implicitDefEqProofs only[go_sem]
  refine j _ _ (qn (rt ?_))
  refine nSc Tryz.results130 ?_
  refine⟨_,_,?_,rfl⟩
  (try simp +decide -implicitDefEqProofs only[go_sem,List.length_map,List.length_append,List.length_cons,List.length_nil,List.length_set,List.length_replicate]);try rfl
 obtain⟨v,rest,rfl,rfl⟩:=hq
 exact⟨[.row v 3 (s_.map A1)],⟨⟨rfl,rfl,rfl⟩,by cases rest<;>trivial⟩,rfl,rfl,⟨v,rfl,rfl⟩⟩
theorem Ip (s_:List Cv) {r:List Cv} (h:Cu s_=some r):Bs Tryz.prog 130 [.sl 3 (s_.map A1)] (·= .sl 3 (r.map A1)):=Bs.nle (Ch.fresh (Ch.mono (Jp s_ h) fun q H=>by rintro⟨rfl,rfl⟩;simp +decide -implicitDefEqProofs only[go_sem,Dl,Ac.int.injEq,Int.natCast_zero,List.replicate_zero,List.length_take,List.length_drop,Ac.own.injEq,reduceCtorEq,Int.reduceAdd,Tx,Ty,Pw,Tw,Pv,List.length_map]))
theorem Je (s_:List Cv) {r:List Cv} (h:Cu s_=some r):Ad Tryz.prog 130 [.sl 3 (s_.map A1)] (·= .sl 3 (r.map A1)):=(Ip s_ h).pure
def Cm (s_:List Cx):Option (List Cx):=chk s_.length (some s_)
theorem Il (s_:List Cx) {r:List Cx} (h:Cm s_=some r):C9 Tryz.prog 131 [.sl 3 (s_.map A8)] 3 (r.map A8):=by
 have hk:=(B8 h).1
 have hr:r=s_:=Aa (B8 h).2
 rw[hr];clear hr h
 refine C9.of ?_
 refine Ch.weak (R:=fun q H=>∃ v rest,q= .own 0 v 0 (s_.map A8).length∧H= .row v 3 (s_.map A8)::rest) (Ch.intro Tryz.func131 rfl rfl (by show _≤8;simp) ?_) (fun q H hq=>?_)
 ·refine nS (sq ?_)
  refine ar rfl (qn (sq (sq ?_)))
  refine rg rfl fun K j=>?_
  intro bnil hb
  refine nS ?_
  refine j _ _ (qn ?_)
  refine AWP.cond (Ak (fun hc=>?_) (fun hc=>?_))
  ·have hx0:s_=[]:=Classical.byContradiction fun hne=>by have:=hb (by simpa using hne);simp[this]at hc
   subst hx0
   refine sq (ar rfl (qn ?_))
   refine AWP.ghost 2 3 rfl (by decide) ?_
   refine nS (rt (qr ?_))
   refine nSc Tryz.results131 ?_
   refine⟨_,_,?_,rfl⟩
   (try simp +decide -implicitDefEqProofs only[go_sem,List.length_map,List.length_append,List.length_cons,List.length_nil,List.length_set,List.length_replicate]);try rfl
  clear hc
  refine sk (qn (sq ?_))
  refine rg rfl fun K j=>?_
  (repeat refine rp ?_);try simp +decide -implicitDefEqProofs only[go_sem]
  refine j _ _ (qn (rt ?_))
  refine nSc Tryz.results131 ?_
  refine⟨_,_,?_,rfl⟩
  (try simp +decide -implicitDefEqProofs only[go_sem,List.length_map,List.length_append,List.length_cons,List.length_nil,List.length_set,List.length_replicate]);try rfl
 obtain⟨v,rest,rfl,rfl⟩:=hq
 exact⟨[.row v 3 (s_.map A8)],⟨⟨rfl,rfl,rfl⟩,by cases rest<;>trivial⟩,rfl,rfl,⟨v,rfl,rfl⟩⟩
theorem Hp (s_:List Cx) {r:List Cx} (h:Cm s_=some r):Bs Tryz.prog 131 [.sl 3 (s_.map A8)] (·= .sl 3 (r.map A8)):=Bs.nle (Ch.fresh (Ch.mono (Il s_ h) fun q H=>by rintro⟨rfl,rfl⟩;simp +decide -implicitDefEqProofs only[go_sem,Dl,Ac.int.injEq,Int.natCast_zero,List.replicate_zero,List.length_take,List.length_drop,Ac.own.injEq,reduceCtorEq,Int.reduceAdd,Tx,Ty,Pw,Tw,Pv,List.length_map]))
theorem H5 (s_:List Cx) {r:List Cx} (h:Cm s_=some r):Ad Tryz.prog 131 [.sl 3 (s_.map A8)] (·= .sl 3 (r.map A8)):=(Hp s_ h).pure
def Cn (s_:List C0):Option (List C0):=chk s_.length (some s_)
theorem Im (s_:List C0) {r:List C0} (h:Cn s_=some r):C9 Tryz.prog 132 [.sl 5 (s_.map A3)] 5 (r.map A3):=by
 have hk:=(B8 h).1
 have hr:r=s_:=Aa (B8 h).2
 rw[hr];clear hr h
 refine C9.of ?_
 refine Ch.weak (R:=fun q H=>∃ v rest,q= .own 0 v 0 (s_.map A3).length∧H= .row v 5 (s_.map A3)::rest) (Ch.intro Tryz.func132 rfl rfl (by show _≤8;simp) ?_) (fun q H hq=>?_)
 ·refine nS (sq ?_)
  refine ar rfl (qn (sq (sq ?_)))
  refine rg rfl fun K j=>?_
  intro bnil hb
  refine nS ?_
  refine j _ _ (qn ?_)
  refine AWP.cond (Ak (fun hc=>?_) (fun hc=>?_))
  ·have hx0:s_=[]:=Classical.byContradiction fun hne=>by have:=hb (by simpa using hne);simp[this]at hc
   subst hx0
   refine sq (ar rfl (qn ?_))
   refine AWP.ghost 2 5 rfl (by decide) ?_
   refine nS (rt (qr ?_))
   refine nSc Tryz.results132 ?_
   refine⟨_,_,?_,rfl⟩
   (try simp +decide -implicitDefEqProofs only[go_sem,List.length_map,List.length_append,List.length_cons,List.length_nil,List.length_set,List.length_replicate]);try rfl
  clear hc
  refine sk (qn (sq ?_))
  refine rg rfl fun K j=>?_
  (repeat refine rp ?_);try simp +decide -implicitDefEqProofs only[go_sem]
  refine j _ _ (qn (rt ?_))
  refine nSc Tryz.results132 ?_
  refine⟨_,_,?_,rfl⟩
  (try simp +decide -implicitDefEqProofs only[go_sem,List.length_map,List.length_append,List.length_cons,List.length_nil,List.length_set,List.length_replicate]);try rfl
 obtain⟨v,rest,rfl,rfl⟩:=hq
 exact⟨[.row v 5 (s_.map A3)],⟨⟨rfl,rfl,rfl⟩,by cases rest<;>trivial⟩,rfl,rfl,⟨v,rfl,rfl⟩⟩
theorem Hq (s_:List C0) {r:List C0} (h:Cn s_=some r):Bs Tryz.prog 132 [.sl 5 (s_.map A3)] (·= .sl 5 (r.map A3)):=Bs.nle (Ch.fresh (Ch.mono (Im s_ h) fun q H=>by rintro⟨rfl,rfl⟩;simp +decide -implicitDefEqProofs only[go_sem,Dl,Ac.int.injEq,Int.natCast_zero,List.replicate_zero,List.length_take,List.length_drop,Ac.own.injEq,reduceCtorEq,Int.reduceAdd,Tx,Ty,Pw,Tw,Pv,List.length_map]))
theorem H6 (s_:List C0) {r:List C0} (h:Cn s_=some r):Ad Tryz.prog 132 [.sl 5 (s_.map A3)] (·= .sl 5 (r.map A3)):=(Hq s_ h).pure
def Ek (s_:Bc):Option (Bc):=
 (B6 s_.Zones).bind fun y1=>(B6 s_.Lifts).bind fun y2=>some (Bc.mk s_.ID y1 y2 s_.Limit s_.Load s_.Controlled)
theorem S3 (s_:Bc) {r:Bc} (h:Ek s_=some r):Ad Tryz.prog 134 [.agg (Bb s_)] (·= .agg (Bb r)):=by
 refine Ad.nle (Ad.intro Tryz.func134 rfl rfl (by show _≤12;simp) ?_)
 unfold Ek at h
 refine nS (sq ?_)
 refine ar rfl (qn (sq ?_))
 refine rg rfl fun K j=>?_
 obtain⟨y1,hy1,h⟩:=Ah h
 refine An.pure Tryz.call67 (C8 s_.Zones hy1) rfl fun _ hr=>?_
 subst hr
 refine nS ?_
 refine j _ _ (qn (sq ?_))
 refine rg rfl fun K j=>?_
 obtain⟨y2,hy2,h⟩:=Ah h
 refine An.pure Tryz.call67 (C8 s_.Lifts hy2) rfl fun _ hr=>?_
 subst hr
 refine nS ?_
 refine j _ _ (qn (sq ?_))
 refine ar rfl (qn (rt ?_))
 cases h;exact en Tryz.results134
def Ej (b:Bl):Option (Bl):=
 (B6 b.Zones).bind fun y1=>some (Bl.mk b.Version b.Span b.Low b.High y1 b.Level)
theorem S2 (b:Bl) {r:Bl} (h:Ej b=some r):Ad Tryz.prog 136 [.agg (Aw b)] (·= .agg (Aw r)):=by
 refine Ad.nle (Ad.intro Tryz.func136 rfl rfl (by show _≤8;simp) ?_)
 unfold Ej at h
 refine nS (sq ?_)
 refine ar rfl (qn (sq ?_))
 refine rg rfl fun K j=>?_
 obtain⟨y1,hy1,h⟩:=Ah h
 refine An.pure Tryz.call67 (C8 b.Zones hy1) rfl fun _ hr=>?_
 subst hr
 refine nS ?_
 refine j _ _ (qn (sq ?_))
 refine ar rfl (qn (rt ?_))
 cases h;exact en Tryz.results136
def Co (s_:List Bg):Option (List Bg):=chk s_.length (some s_)
theorem Io (s_:List Bg) {r:List Bg} (h:Co s_=some r):C9 Tryz.prog 137 [.sl 7 (s_.map Aq)] 7 (r.map Aq):=by
 have hk:=(B8 h).1
 have hr:r=s_:=Aa (B8 h).2
 rw[hr];clear hr h
 refine C9.of ?_
 refine Ch.weak (R:=fun q H=>∃ v rest,q= .own 0 v 0 (s_.map Aq).length∧H= .row v 7 (s_.map Aq)::rest) (Ch.intro Tryz.func137 rfl rfl (by show _≤8;simp) ?_) (fun q H hq=>?_)
 ·refine nS (sq ?_)
  refine ar rfl (qn (sq (sq ?_)))
  refine rg rfl fun K j=>?_
  intro bnil hb
  refine nS ?_
  refine j _ _ (qn ?_)
  refine AWP.cond (Ak (fun hc=>?_) (fun hc=>?_))
  ·have hx0:s_=[]:=Classical.byContradiction fun hne=>by have:=hb (by simpa using hne);simp[this]at hc
   subst hx0
   refine sq (ar rfl (qn ?_))
   refine AWP.ghost 2 7 rfl (by decide) ?_
   refine nS (rt (qr ?_))
   refine nSc Tryz.results137 ?_
   refine⟨_,_,?_,rfl⟩
   (try simp +decide -implicitDefEqProofs only[go_sem,List.length_map,List.length_append,List.length_cons,List.length_nil,List.length_set,List.length_replicate]);try rfl
  clear hc
  refine sk (qn (sq ?_))
  refine rg rfl fun K j=>?_
  (repeat refine rp ?_);try simp +decide -implicitDefEqProofs only[go_sem]
  refine j _ _ (qn (rt ?_))
  refine nSc Tryz.results137 ?_
  refine⟨_,_,?_,rfl⟩
  (try simp +decide -implicitDefEqProofs only[go_sem,List.length_map,List.length_append,List.length_cons,List.length_nil,List.length_set,List.length_replicate]);try rfl
 obtain⟨v,rest,rfl,rfl⟩:=hq
 exact⟨[.row v 7 (s_.map Aq)],⟨⟨rfl,rfl,rfl⟩,by cases rest<;>trivial⟩,rfl,rfl,⟨v,rfl,rfl⟩⟩
theorem Hr (s_:List Bg) {r:List Bg} (h:Co s_=some r):Bs Tryz.prog 137 [.sl 7 (s_.map Aq)] (·= .sl 7 (r.map Aq)):=Bs.nle (Ch.fresh (Ch.mono (Io s_ h) fun q H=>by rintro⟨rfl,rfl⟩;simp +decide -implicitDefEqProofs only[go_sem,Dl,Ac.int.injEq,Int.natCast_zero,List.replicate_zero,List.length_take,List.length_drop,Ac.own.injEq,reduceCtorEq,Int.reduceAdd,Tx,Ty,Pw,Tw,Pv,List.length_map]))
theorem H7 (s_:List Bg) {r:List Bg} (h:Co s_=some r):Ad Tryz.prog 137 [.sl 7 (s_.map Aq)] (·= .sl 7 (r.map Aq)):=(Hr s_ h).pure
def Ei (w:Az):Option (Az):=
 (B6 w.Runs).bind fun y1=>some (Az.mk w.Groomer w.From w.To y1)
theorem S1 (w:Az) {r:Az} (h:Ei w=some r):Ad Tryz.prog 139 [.agg (Ap w)] (·= .agg (Ap r)):=by
 refine Ad.nle (Ad.intro Tryz.func139 rfl rfl (by show _≤8;simp) ?_)
 unfold Ei at h
 refine nS (sq ?_)
 refine ar rfl (qn (sq ?_))
 refine rg rfl fun K j=>?_
 obtain⟨y1,hy1,h⟩:=Ah h
 refine An.pure Tryz.call67 (C8 w.Runs hy1) rfl fun _ hr=>?_
 subst hr
 refine nS ?_
 refine j _ _ (qn (sq ?_))
 refine ar rfl (qn (rt ?_))
 cases h;exact en Tryz.results139
def Cp (s_:List B3):Option (List B3):=chk s_.length (some s_)
theorem Iq (s_:List B3) {r:List B3} (h:Cp s_=some r):C9 Tryz.prog 140 [.sl 8 (s_.map A2)] 8 (r.map A2):=by
 have hk:=(B8 h).1
 have hr:r=s_:=Aa (B8 h).2
 rw[hr];clear hr h
 refine C9.of ?_
 refine Ch.weak (R:=fun q H=>∃ v rest,q= .own 0 v 0 (s_.map A2).length∧H= .row v 8 (s_.map A2)::rest) (Ch.intro Tryz.func140 rfl rfl (by show _≤8;simp) ?_) (fun q H hq=>?_)
 ·refine nS (sq ?_)
  refine ar rfl (qn (sq (sq ?_)))
  refine rg rfl fun K j=>?_
  intro bnil hb
  refine nS ?_
  refine j _ _ (qn ?_)
  refine AWP.cond (Ak (fun hc=>?_) (fun hc=>?_))
  ·have hx0:s_=[]:=Classical.byContradiction fun hne=>by have:=hb (by simpa using hne);simp[this]at hc
   subst hx0
   refine sq (ar rfl (qn ?_))
   refine AWP.ghost 2 8 rfl (by decide) ?_
   refine nS (rt (qr ?_))
   refine nSc Tryz.results140 ?_
   refine⟨_,_,?_,rfl⟩
   (try simp +decide -implicitDefEqProofs only[go_sem,List.length_map,List.length_append,List.length_cons,List.length_nil,List.length_set,List.length_replicate]);try rfl
  clear hc
  refine sk (qn (sq ?_))
  refine rg rfl fun K j=>?_
  (repeat refine rp ?_);try simp +decide -implicitDefEqProofs only[go_sem]
  refine j _ _ (qn (rt ?_))
  refine nSc Tryz.results140 ?_
  refine⟨_,_,?_,rfl⟩
  (try simp +decide -implicitDefEqProofs only[go_sem,List.length_map,List.length_append,List.length_cons,List.length_nil,List.length_set,List.length_replicate]);try rfl
 obtain⟨v,rest,rfl,rfl⟩:=hq
 exact⟨[.row v 8 (s_.map A2)],⟨⟨rfl,rfl,rfl⟩,by cases rest<;>trivial⟩,rfl,rfl,⟨v,rfl,rfl⟩⟩
theorem Ht (s_:List B3) {r:List B3} (h:Cp s_=some r):Bs Tryz.prog 140 [.sl 8 (s_.map A2)] (·= .sl 8 (r.map A2)):=Bs.nle (Ch.fresh (Ch.mono (Iq s_ h) fun q H=>by rintro⟨rfl,rfl⟩;simp +decide -implicitDefEqProofs only[go_sem,Dl,Ac.int.injEq,Int.natCast_zero,List.replicate_zero,List.length_take,List.length_drop,Ac.own.injEq,reduceCtorEq,Int.reduceAdd,Tx,Ty,Pw,Tw,Pv,List.length_map]))
theorem H8 (s_:List B3) {r:List B3} (h:Cp s_=some r):Ad Tryz.prog 140 [.sl 8 (s_.map A2)] (·= .sl 8 (r.map A2)):=(Ht s_ h).pure
def Du (s_:List Bi):Option (List Bi):=chk s_.length (some s_)
theorem Jo (s_:List Bi) {r:List Bi} (h:Du s_=some r):C9 Tryz.prog 141 [.sl 3 (s_.map A4)] 3 (r.map A4):=by
 have hk:=(B8 h).1
 have hr:r=s_:=Aa (B8 h).2
 rw[hr];clear hr h
 refine C9.of ?_
 refine Ch.weak (R:=fun q H=>∃ v rest,q= .own 0 v 0 (s_.map A4).length∧H= .row v 3 (s_.map A4)::rest) (Ch.intro Tryz.func141 rfl rfl (by show _≤8;simp) ?_) (fun q H hq=>?_)
 ·refine nS (sq ?_)
  refine ar rfl (qn (sq (sq ?_)))
  refine rg rfl fun K j=>?_
  intro bnil hb
  refine nS ?_
  refine j _ _ (qn ?_)
  refine AWP.cond (Ak (fun hc=>?_) (fun hc=>?_))
  ·have hx0:s_=[]:=Classical.byContradiction fun hne=>by have:=hb (by simpa using hne);simp[this]at hc
   subst hx0
   refine sq (ar rfl (qn ?_))
   refine AWP.ghost 2 3 rfl (by decide) ?_
   refine nS (rt (qr ?_))
   refine nSc Tryz.results141 ?_
   refine⟨_,_,?_,rfl⟩
   (try simp +decide -implicitDefEqProofs only[go_sem,List.length_map,List.length_append,List.length_cons,List.length_nil,List.length_set,List.length_replicate]);try rfl
  clear hc
  refine sk (qn (sq ?_))
  refine rg rfl fun K j=>?_
  (repeat refine rp ?_);try simp +decide -implicitDefEqProofs only[go_sem]
  refine j _ _ (qn (rt ?_))
  refine nSc Tryz.results141 ?_
  refine⟨_,_,?_,rfl⟩
  (try simp +decide -implicitDefEqProofs only[go_sem,List.length_map,List.length_append,List.length_cons,List.length_nil,List.length_set,List.length_replicate]);try rfl
 obtain⟨v,rest,rfl,rfl⟩:=hq
 exact⟨[.row v 3 (s_.map A4)],⟨⟨rfl,rfl,rfl⟩,by cases rest<;>trivial⟩,rfl,rfl,⟨v,rfl,rfl⟩⟩
def En (f_:Aj) (y2:(List Int)) (k38:Nat) (x_40:Bi) (sv:(List Bi)×(List Int)):Option (Out ((List Bi)×(List Int)) (Aj×(List Int))):=
 (Dh sv.1 ((k38:Nat):Int)).bind fun x_41=>(bif x_41.Open then(Bq y2 x_41.Run).bind fun y42=>(bif (!y42)then chk (sv.2.length+1) (some (Out.next (((sv.1.set k38 (Bi.mk x_41.Run false x_41.Since)).set k38 (Bi.mk x_41.Run false f_.Time)),(sv.2++[x_41.Run]))))else some (Out.next (sv.1,sv.2)))else some (Out.next (sv.1,sv.2)))
def Gx (k29:Nat) (x_31:Az) (sv:(List Az)):Option (Out ((List Az)) (Aj×(List Int))):=
 (Ei x_31).bind fun y32=>chk (sv.length+1) (some (Out.next (sv++[y32])))
def Gy (k23:Nat) (x_25:Bl) (sv:(List Bl)):Option (Out ((List Bl)) (Aj×(List Int))):=
 (Ej x_25).bind fun y26=>chk (sv.length+1) (some (Out.next (sv++[y26])))
def Gz (k18:Nat) (x_20:Bc) (sv:(List Bc)):Option (Out ((List Bc)) (Aj×(List Int))):=
 (Ek x_20).bind fun y21=>chk (sv.length+1) (some (Out.next (sv++[y21])))
def G0 (k10:Nat) (x_12:Cj) (sv:(List Cj)):Option (Out ((List Cj)) (Aj×(List Int))):=
 (El x_12).bind fun y13=>chk (sv.length+1) (some (Out.next (sv++[y13])))
def Hd (f_:Aj):Option (Aj×(List Int)):=
 (Dp f_).bind fun y1=>(E1 f_ y1).bind fun y2=>(C5 f_.Map.Nodes).bind fun y3=>(C6 f_.Map.Lifts).bind fun y4=>(De f_.Map.Runs).bind fun y5=>(B6 f_.Map.Bases).bind fun y6=>(Cf f_.Lifts).bind fun y7=>(Cq f_.Closures).bind fun y8=>chk f_.Patrol.Bv.length ((Am G0 0 f_.Patrol.Bv []).bind fun o10=>o10.on fun s10=>(Cu f_.Patrol.Hazards).bind fun y14=>(Cm f_.Surfaces).bind fun y15=>(Cn f_.Packs).bind fun y16=>chk f_.Slides.length ((Am Gz 0 f_.Slides []).bind fun o18=>o18.on fun s18=>chk f_.Bulletin.length ((Am Gy 0 f_.Bulletin []).bind fun o23=>o23.on fun s23=>(Co f_.Missions).bind fun y27=>chk f_.Winches.length ((Am Gx 0 f_.Winches []).bind fun o29=>o29.on fun s29=>(Cp f_.Groomers).bind fun y33=>(Du f_.Status).bind fun y34=>(Am (En f_ y2) 0 y34 (y34,[])).bind fun o38=>o38.on fun s38=>some ((Aj.mk (Ba.mk y3 y4 y5 y6) y7 y8 (Ca.mk s10 y14) y15 y16 s18 s23 y27 s29 y33 s38.1 f_.Depth f_.Time),s38.2)))))
theorem Vk (f_:Aj) {r:Aj×(List Int)} (h:Hd f_=some r):Ad Tryz.prog 27 [.agg (B5 f_)] (·= .tuple [.agg (B5 r.1),.sl 1 (r.2.map A5)]):=by
 refine Ad.nle (Ad.intro Tryz.func27 rfl rfl (by show _≤52;simp) ?_)
 unfold Hd at h
 refine nS (sq ?_)
 refine ar rfl (qn (sq ?_))
 refine AWP.draw Tryz.mixed (by kernel_rfl) ?_;intro K j
 refine nS ?_
 obtain⟨y1,hy1,h⟩:=Ah h
 refine B7.pure Tryz.call20 (Ml f_ hy1) rfl ?_
 refine nS ?_
 obtain⟨y2,hy2,h⟩:=Ah h
 refine B7.pure Tryz.call29 (X3 f_ y1 hy2) rfl ?_
 refine nS ?_
 refine j _ _ _ (by kernel_rfl) ?_
 refine qn (sq ?_)
 refine rg rfl fun K j=>?_
 refine An.inline Tryz.call57 Tryz.func57 rfl rfl (by show _≤74;simp) ?_
 refine nS (sq ?_)
 refine ar rfl (qn (sq ?_))
 refine AWP.draw Tryz.mixed (by kernel_rfl) ?_;intro K j
 refine nS ?_
 obtain⟨y3,hy3,h⟩:=Ah h
 refine B7.pure Tryz.call122 (Lf f_.Map.Nodes hy3) rfl ?_
 refine nS ?_
 obtain⟨y4,hy4,h⟩:=Ah h
 refine B7.pure Tryz.call123 (Lg f_.Map.Lifts hy4) rfl ?_
 refine nS ?_
 obtain⟨y5,hy5,h⟩:=Ah h
 refine B7.pure Tryz.call124 (Mi f_.Map.Runs hy5) rfl ?_
 refine nS ?_
 obtain⟨y6,hy6,h⟩:=Ah h
 refine B7.pure Tryz.call67 (C8 f_.Map.Bases hy6) rfl ?_
 refine nS ?_
 refine j _ _ _ (by kernel_rfl) ?_;clear j K
 refine qn (sq ?_)
 refine rg rfl fun K j=>?_
 obtain⟨y7,hy7,h⟩:=Ah h
 refine An.pure Tryz.call125 (G5 f_.Lifts hy7) rfl fun _ hr=>?_
 subst hr
 refine nS ?_
 refine j _ _ (qn (sq ?_));clear j K
 refine rg rfl fun K j=>?_
 obtain⟨y8,hy8,h⟩:=Ah h
 refine An.pure Tryz.call126 (H9 f_.Closures hy8) rfl fun _ hr=>?_
 subst hr
 refine nS ?_
 refine j _ _ (qn (sq ?_));clear j K
 refine rg rfl fun K j=>?_
 refine An.inline Tryz.call127 Tryz.func127 rfl rfl (by show _≤25;simp) ?_
 refine nS (sq ?_)
 refine ar rfl (qn (sq ?_))
 refine rg rfl fun K j=>?_
 intro hm
 obtain⟨hk,h⟩:=B8 h
 (repeat refine rp ?_);try simp +decide -implicitDefEqProofs only[go_sem]
 refine j _ _ (qn (sq (sq ?_)));clear j K
 refine rg rfl fun K j=>?_
 intro hm
 refine j _ _ (qn (bk ?_));clear j K
 obtain⟨o10,hJ10,hO10⟩:=Ah h
 clear h
 refine AWP.Bw (ι:=Nat×((List Cj))×(Nat)) (fun zz=>[(1,.func 128 []),(5,.own 10 zz.2.2 0 zz.2.1.length),(11,.sl 4 (f_.Patrol.Bv.map Av)),(12,.int .i64 ((f_.Patrol.Bv.length:Nat):Int)),(13,.int .i64 ((zz.1:Nat):Int))]) (fun zz=>[.box [.sl 2 (f_.Map.Nodes.map A6),.sl 8 (f_.Map.Lifts.map A7),.sl 7 (f_.Map.Runs.map Bd),.sl 1 (f_.Map.Bases.map A5),.sl 2 (f_.Lifts.map Ax),.sl 4 (f_.Closures.map Au),.sl 4 (f_.Patrol.Bv.map Av),.sl 3 (f_.Patrol.Hazards.map A1),.sl 3 (f_.Surfaces.map A8),.sl 5 (f_.Packs.map A3),.sl 6 (f_.Slides.map Bb),.sl 7 (f_.Bulletin.map Aw),.sl 7 (f_.Missions.map Aq),.sl 4 (f_.Winches.map Ap),.sl 8 (f_.Groomers.map A2),.sl 3 (f_.Status.map A4),.int .i64 f_.Depth,.int .i64 f_.Time],.box [.nils,.nils,.nils,.nils,.nils,.nils,.nils,.nils,.nils,.nils,.nils,.nils,.nils,.nils,.nils,.nils,.int .i64 0,.int .i64 0],.gone,.gone,.box [.sl 2 (y3.map A6),.sl 8 (y4.map A7),.sl 7 (y5.map Bd),.sl 1 (y6.map A5),.sl 2 (y7.map Ax),.sl 4 (y8.map Au),.sl 4 (f_.Patrol.Bv.map Av),.sl 3 (f_.Patrol.Hazards.map A1),.sl 3 (f_.Surfaces.map A8),.sl 5 (f_.Packs.map A3),.sl 6 (f_.Slides.map Bb),.sl 7 (f_.Bulletin.map Aw),.sl 7 (f_.Missions.map Aq),.sl 4 (f_.Winches.map Ap),.sl 8 (f_.Groomers.map A2),.sl 3 (f_.Status.map A4),.int .i64 f_.Depth,.int .i64 f_.Time],.box [.nils,.nils,.nils,.nils,.nils,.nils,.nils,.nils,.nils,.nils,.nils,.nils,.nils,.nils,.nils,.nils,.int .i64 0,.int .i64 0],.gone,.gone,.gone,.gone,.row zz.2.2 4 (zz.2.1.map Av)]) (fun zz=>zz.1≤f_.Patrol.Bv.length∧Am G0 zz.1 ((f_.Patrol.Bv).drop zz.1) zz.2.1=some o10) (fun zz=>f_.Patrol.Bv.length - zz.1) (0,[],0) ⟨Nat.zero_le _,hJ10⟩ cu cu (fun x=>⟨rfl,rfl,rfl⟩) ?_
 clear hJ10
 rintro⟨k10,out9,ver10⟩ ⟨hk10,hJ10⟩
 dsimp only at hk10 hJ10 ⊢
 refine sq (ar rfl (qn (sq ?_)))
 refine AWP.cond (Ak (fun hc=>?_) (fun hc=>?_))
 ·have hlt10:k10<f_.Patrol.Bv.length:=by have:=Aia hc;omega
  obtain⟨x_12,b10,hx10_,h,hJ10⟩:=A9 hJ10 hlt10
  have hx10:=Ay hx10_
  have hw10:=wk (k:=k10) (by omega)
  unfold G0 at h;try dsimp only at h
  refine sk (qn (sq (bk (sq ?_))))
  refine rg rfl fun K j=>?_
  refine Bn.of (f:=Av) (l:=f_.Patrol.Bv) hx10 ?_
  refine nS ?_
  refine j _ _ (qn ?_);clear j K
  refine rg rfl fun K j=>?_
  obtain⟨y13,hy13,h⟩:=Ah h
  refine An.pure Tryz.call128 (S4 x_12 hy13) rfl fun _ hr=>?_
  subst hr
  refine nS ?_
  obtain⟨hk,h⟩:=B8 h
  (repeat refine rp ?_);try simp +decide -implicitDefEqProofs only[go_sem]
  refine j _ _ (bn (qn ?_));clear j K
  refine ar rfl (qn ?_)
  obtain rfl:=Aa h
  refine⟨(k10+1,(out9++[y13]),(ver10+1)),⟨by dsimp only;omega,Ai hJ10⟩,by dsimp only;omega,?_,?_⟩
  ·exact cuw hw10
  exact cuw hw10
 obtain rfl:=Bf hJ10 (fun hl=>by have:=Ah9 hc;omega)
 have h:=Be hO10;try dsimp only at h
 have hkl:f_.Patrol.Bv.length=k10:=by have:=Ah9 hc;omega
 subst hkl
 refine xt (qe (qe (bs (qn (sq (ar rfl (qn (rt ?_))))))))
 refine nSc Tryz.results127 ?_
 refine j _ _ (qn (sq ?_));clear j K
 refine rg rfl fun K j=>?_
 obtain⟨y14,hy14,h⟩:=Ah h
 refine An.pure Tryz.call130 (Je f_.Patrol.Hazards hy14) rfl fun _ hr=>?_
 subst hr
 refine nS ?_
 refine j _ _ (qn (sq ?_));clear j K
 refine rg rfl fun K j=>?_
 obtain⟨y15,hy15,h⟩:=Ah h
 refine An.pure Tryz.call131 (H5 f_.Surfaces hy15) rfl fun _ hr=>?_
 subst hr
 refine nS ?_
 refine j _ _ (qn (sq ?_));clear j K
 refine rg rfl fun K j=>?_
 obtain⟨y16,hy16,h⟩:=Ah h
 refine An.pure Tryz.call132 (H6 f_.Packs hy16) rfl fun _ hr=>?_
 subst hr
 refine nS ?_
 refine j _ _ (qn (sq ?_));clear j K
 refine rg rfl fun K j=>?_
 refine An.inline Tryz.call133 Tryz.func133 rfl rfl (by show _≤25;simp) ?_
 refine nS (sq ?_)
 refine ar rfl (qn (sq ?_))
 refine rg rfl fun K j=>?_
 intro hm
 obtain⟨hk,h⟩:=B8 h
 (repeat refine rp ?_);try simp +decide -implicitDefEqProofs only[go_sem]
 refine j _ _ (qn (sq (sq ?_)));clear j K
 refine rg rfl fun K j=>?_
 intro hm
 refine j _ _ (qn (bk ?_));clear j K
 obtain⟨o18,hJ18,hO18⟩:=Ah h
 clear h
 refine AWP.Bw (ι:=Nat×((List Bc))×(Nat)) (fun zz=>[(1,.func 134 []),(5,.own 11 zz.2.2 0 zz.2.1.length),(11,.sl 6 (f_.Slides.map Bb)),(12,.int .i64 ((f_.Slides.length:Nat):Int)),(13,.int .i64 ((zz.1:Nat):Int))]) (fun zz=>[.box [.sl 2 (f_.Map.Nodes.map A6),.sl 8 (f_.Map.Lifts.map A7),.sl 7 (f_.Map.Runs.map Bd),.sl 1 (f_.Map.Bases.map A5),.sl 2 (f_.Lifts.map Ax),.sl 4 (f_.Closures.map Au),.sl 4 (f_.Patrol.Bv.map Av),.sl 3 (f_.Patrol.Hazards.map A1),.sl 3 (f_.Surfaces.map A8),.sl 5 (f_.Packs.map A3),.sl 6 (f_.Slides.map Bb),.sl 7 (f_.Bulletin.map Aw),.sl 7 (f_.Missions.map Aq),.sl 4 (f_.Winches.map Ap),.sl 8 (f_.Groomers.map A2),.sl 3 (f_.Status.map A4),.int .i64 f_.Depth,.int .i64 f_.Time],.box [.nils,.nils,.nils,.nils,.nils,.nils,.nils,.nils,.nils,.nils,.nils,.nils,.nils,.nils,.nils,.nils,.int .i64 0,.int .i64 0],.gone,.gone,.box [.sl 2 (y3.map A6),.sl 8 (y4.map A7),.sl 7 (y5.map Bd),.sl 1 (y6.map A5),.sl 2 (y7.map Ax),.sl 4 (y8.map Au),.own 10 ver10 0 out9.length,.sl 3 (y14.map A1),.sl 3 (y15.map A8),.sl 5 (y16.map A3),.sl 6 (f_.Slides.map Bb),.sl 7 (f_.Bulletin.map Aw),.sl 7 (f_.Missions.map Aq),.sl 4 (f_.Winches.map Ap),.sl 8 (f_.Groomers.map A2),.sl 3 (f_.Status.map A4),.int .i64 f_.Depth,.int .i64 f_.Time],.box [.nils,.nils,.nils,.nils,.nils,.nils,.nils,.nils,.nils,.nils,.nils,.nils,.nils,.nils,.nils,.nils,.int .i64 0,.int .i64 0],.gone,.gone,.gone,.gone,.row ver10 4 (out9.map Av),.row zz.2.2 6 (zz.2.1.map Bb)]) (fun zz=>zz.1≤f_.Slides.length∧Am Gz zz.1 ((f_.Slides).drop zz.1) zz.2.1=some o18) (fun zz=>f_.Slides.length - zz.1) (0,[],0) ⟨Nat.zero_le _,hJ18⟩ cu cu (fun x=>⟨rfl,rfl,rfl⟩) ?_
 clear hJ18
 rintro⟨k18,out17,ver18⟩ ⟨hk18,hJ18⟩
 dsimp only at hk18 hJ18 ⊢
 refine sq (ar rfl (qn (sq ?_)))
 refine AWP.cond (Ak (fun hc=>?_) (fun hc=>?_))
 ·have hlt18:k18<f_.Slides.length:=by have:=Aia hc;omega
  obtain⟨x_20,b18,hx18_,h,hJ18⟩:=A9 hJ18 hlt18
  have hx18:=Ay hx18_
  have hw18:=wk (k:=k18) (by omega)
  unfold Gz at h;try dsimp only at h
  refine sk (qn (sq (bk (sq ?_))))
  refine rg rfl fun K j=>?_
  refine Bn.of (f:=Bb) (l:=f_.Slides) hx18 ?_
  refine nS ?_
  refine j _ _ (qn ?_);clear j K
  refine rg rfl fun K j=>?_
  obtain⟨y21,hy21,h⟩:=Ah h
  refine An.pure Tryz.call134 (S3 x_20 hy21) rfl fun _ hr=>?_
  subst hr
  refine nS ?_
  obtain⟨hk,h⟩:=B8 h
  (repeat refine rp ?_);try simp +decide -implicitDefEqProofs only[go_sem]
  refine j _ _ (bn (qn ?_));clear j K
  refine ar rfl (qn ?_)
  obtain rfl:=Aa h
  refine⟨(k18+1,(out17++[y21]),(ver18+1)),⟨by dsimp only;omega,Ai hJ18⟩,by dsimp only;omega,?_,?_⟩
  ·exact cuw hw18
  exact cuw hw18
 obtain rfl:=Bf hJ18 (fun hl=>by have:=Ah9 hc;omega)
 have h:=Be hO18;try dsimp only at h
 have hkl:f_.Slides.length=k18:=by have:=Ah9 hc;omega
 subst hkl
 refine xt (qe (qe (bs (qn (sq (ar rfl (qn (rt ?_))))))))
 refine nSc Tryz.results133 ?_
 refine j _ _ (qn (sq ?_));clear j K
 refine rg rfl fun K j=>?_
 refine An.inline Tryz.call135 Tryz.func135 rfl rfl (by show _≤25;simp) ?_
 refine nS (sq ?_)
 refine ar rfl (qn (sq ?_))
 refine rg rfl fun K j=>?_
 intro hm
 obtain⟨hk,h⟩:=B8 h
 (repeat refine rp ?_);try simp +decide -implicitDefEqProofs only[go_sem]
 refine j _ _ (qn (sq (sq ?_)));clear j K
 refine rg rfl fun K j=>?_
 intro hm
 refine j _ _ (qn (bk ?_));clear j K
 obtain⟨o23,hJ23,hO23⟩:=Ah h
 clear h
 refine AWP.Bw (ι:=Nat×((List Bl))×(Nat)) (fun zz=>[(1,.func 136 []),(5,.own 12 zz.2.2 0 zz.2.1.length),(11,.sl 7 (f_.Bulletin.map Aw)),(12,.int .i64 ((f_.Bulletin.length:Nat):Int)),(13,.int .i64 ((zz.1:Nat):Int))]) (fun zz=>[.box [.sl 2 (f_.Map.Nodes.map A6),.sl 8 (f_.Map.Lifts.map A7),.sl 7 (f_.Map.Runs.map Bd),.sl 1 (f_.Map.Bases.map A5),.sl 2 (f_.Lifts.map Ax),.sl 4 (f_.Closures.map Au),.sl 4 (f_.Patrol.Bv.map Av),.sl 3 (f_.Patrol.Hazards.map A1),.sl 3 (f_.Surfaces.map A8),.sl 5 (f_.Packs.map A3),.sl 6 (f_.Slides.map Bb),.sl 7 (f_.Bulletin.map Aw),.sl 7 (f_.Missions.map Aq),.sl 4 (f_.Winches.map Ap),.sl 8 (f_.Groomers.map A2),.sl 3 (f_.Status.map A4),.int .i64 f_.Depth,.int .i64 f_.Time],.box [.nils,.nils,.nils,.nils,.nils,.nils,.nils,.nils,.nils,.nils,.nils,.nils,.nils,.nils,.nils,.nils,.int .i64 0,.int .i64 0],.gone,.gone,.box [.sl 2 (y3.map A6),.sl 8 (y4.map A7),.sl 7 (y5.map Bd),.sl 1 (y6.map A5),.sl 2 (y7.map Ax),.sl 4 (y8.map Au),.own 10 ver10 0 out9.length,.sl 3 (y14.map A1),.sl 3 (y15.map A8),.sl 5 (y16.map A3),.own 11 ver18 0 out17.length,.sl 7 (f_.Bulletin.map Aw),.sl 7 (f_.Missions.map Aq),.sl 4 (f_.Winches.map Ap),.sl 8 (f_.Groomers.map A2),.sl 3 (f_.Status.map A4),.int .i64 f_.Depth,.int .i64 f_.Time],.box [.nils,.nils,.nils,.nils,.nils,.nils,.nils,.nils,.nils,.nils,.nils,.nils,.nils,.nils,.nils,.nils,.int .i64 0,.int .i64 0],.gone,.gone,.gone,.gone,.row ver10 4 (out9.map Av),.row ver18 6 (out17.map Bb),.row zz.2.2 7 (zz.2.1.map Aw)]) (fun zz=>zz.1≤f_.Bulletin.length∧Am Gy zz.1 ((f_.Bulletin).drop zz.1) zz.2.1=some o23) (fun zz=>f_.Bulletin.length - zz.1) (0,[],0) ⟨Nat.zero_le _,hJ23⟩ cu cu (fun x=>⟨rfl,rfl,rfl⟩) ?_
 clear hJ23
 rintro⟨k23,out22,ver23⟩ ⟨hk23,hJ23⟩
 dsimp only at hk23 hJ23 ⊢
 refine sq (ar rfl (qn (sq ?_)))
 refine AWP.cond (Ak (fun hc=>?_) (fun hc=>?_))
 ·have hlt23:k23<f_.Bulletin.length:=by have:=Aia hc;omega
  obtain⟨x_25,b23,hx23_,h,hJ23⟩:=A9 hJ23 hlt23
  have hx23:=Ay hx23_
  have hw23:=wk (k:=k23) (by omega)
  unfold Gy at h;try dsimp only at h
  refine sk (qn (sq (bk (sq ?_))))
  refine rg rfl fun K j=>?_
  refine Bn.of (f:=Aw) (l:=f_.Bulletin) hx23 ?_
  refine nS ?_
  refine j _ _ (qn ?_);clear j K
  refine rg rfl fun K j=>?_
  obtain⟨y26,hy26,h⟩:=Ah h
  refine An.pure Tryz.call136 (S2 x_25 hy26) rfl fun _ hr=>?_
  subst hr
  refine nS ?_
  obtain⟨hk,h⟩:=B8 h
  (repeat refine rp ?_);try simp +decide -implicitDefEqProofs only[go_sem]
  refine j _ _ (bn (qn ?_));clear j K
  refine ar rfl (qn ?_)
  obtain rfl:=Aa h
  refine⟨(k23+1,(out22++[y26]),(ver23+1)),⟨by dsimp only;omega,Ai hJ23⟩,by dsimp only;omega,?_,?_⟩
  ·exact cuw hw23
  exact cuw hw23
 obtain rfl:=Bf hJ23 (fun hl=>by have:=Ah9 hc;omega)
 have h:=Be hO23;try dsimp only at h
 have hkl:f_.Bulletin.length=k23:=by have:=Ah9 hc;omega
 subst hkl
 refine xt (qe (qe (bs (qn (sq (ar rfl (qn (rt ?_))))))))
 refine nSc Tryz.results135 ?_
 refine j _ _ (qn (sq ?_));clear j K
 refine rg rfl fun K j=>?_
 obtain⟨y27,hy27,h⟩:=Ah h
 refine An.pure Tryz.call137 (H7 f_.Missions hy27) rfl fun _ hr=>?_
 subst hr
 refine nS ?_
 refine j _ _ (qn (sq ?_));clear j K
 refine rg rfl fun K j=>?_
 refine An.inline Tryz.call138 Tryz.func138 rfl rfl (by show _≤25;simp) ?_
 refine nS (sq ?_)
 refine ar rfl (qn (sq ?_))
 refine rg rfl fun K j=>?_
 intro hm
 obtain⟨hk,h⟩:=B8 h
 (repeat refine rp ?_);try simp +decide -implicitDefEqProofs only[go_sem]
 refine j _ _ (qn (sq (sq ?_)));clear j K
 refine rg rfl fun K j=>?_
 intro hm
 refine j _ _ (qn (bk ?_));clear j K
 obtain⟨o29,hJ29,hO29⟩:=Ah h
 clear h
 refine AWP.Bw (ι:=Nat×((List Az))×(Nat)) (fun zz=>[(1,.func 139 []),(5,.own 13 zz.2.2 0 zz.2.1.length),(11,.sl 4 (f_.Winches.map Ap)),(12,.int .i64 ((f_.Winches.length:Nat):Int)),(13,.int .i64 ((zz.1:Nat):Int))]) (fun zz=>[.box [.sl 2 (f_.Map.Nodes.map A6),.sl 8 (f_.Map.Lifts.map A7),.sl 7 (f_.Map.Runs.map Bd),.sl 1 (f_.Map.Bases.map A5),.sl 2 (f_.Lifts.map Ax),.sl 4 (f_.Closures.map Au),.sl 4 (f_.Patrol.Bv.map Av),.sl 3 (f_.Patrol.Hazards.map A1),.sl 3 (f_.Surfaces.map A8),.sl 5 (f_.Packs.map A3),.sl 6 (f_.Slides.map Bb),.sl 7 (f_.Bulletin.map Aw),.sl 7 (f_.Missions.map Aq),.sl 4 (f_.Winches.map Ap),.sl 8 (f_.Groomers.map A2),.sl 3 (f_.Status.map A4),.int .i64 f_.Depth,.int .i64 f_.Time],.box [.nils,.nils,.nils,.nils,.nils,.nils,.nils,.nils,.nils,.nils,.nils,.nils,.nils,.nils,.nils,.nils,.int .i64 0,.int .i64 0],.gone,.gone,.box [.sl 2 (y3.map A6),.sl 8 (y4.map A7),.sl 7 (y5.map Bd),.sl 1 (y6.map A5),.sl 2 (y7.map Ax),.sl 4 (y8.map Au),.own 10 ver10 0 out9.length,.sl 3 (y14.map A1),.sl 3 (y15.map A8),.sl 5 (y16.map A3),.own 11 ver18 0 out17.length,.own 12 ver23 0 out22.length,.sl 7 (y27.map Aq),.sl 4 (f_.Winches.map Ap),.sl 8 (f_.Groomers.map A2),.sl 3 (f_.Status.map A4),.int .i64 f_.Depth,.int .i64 f_.Time],.box [.nils,.nils,.nils,.nils,.nils,.nils,.nils,.nils,.nils,.nils,.nils,.nils,.nils,.nils,.nils,.nils,.int .i64 0,.int .i64 0],.gone,.gone,.gone,.gone,.row ver10 4 (out9.map Av),.row ver18 6 (out17.map Bb),.row ver23 7 (out22.map Aw),.row zz.2.2 4 (zz.2.1.map Ap)]) (fun zz=>zz.1≤f_.Winches.length∧Am Gx zz.1 ((f_.Winches).drop zz.1) zz.2.1=some o29) (fun zz=>f_.Winches.length - zz.1) (0,[],0) ⟨Nat.zero_le _,hJ29⟩ cu cu (fun x=>⟨rfl,rfl,rfl⟩) ?_
 clear hJ29
 rintro⟨k29,out28,ver29⟩ ⟨hk29,hJ29⟩
 dsimp only at hk29 hJ29 ⊢
 refine sq (ar rfl (qn (sq ?_)))
 refine AWP.cond (Ak (fun hc=>?_) (fun hc=>?_))
 ·have hlt29:k29<f_.Winches.length:=by have:=Aia hc;omega
  obtain⟨x_31,b29,hx29_,h,hJ29⟩:=A9 hJ29 hlt29
  have hx29:=Ay hx29_
  have hw29:=wk (k:=k29) (by omega)
  unfold Gx at h;try dsimp only at h
  refine sk (qn (sq (bk (sq ?_))))
  refine rg rfl fun K j=>?_
  refine Bn.of (f:=Ap) (l:=f_.Winches) hx29 ?_
  refine nS ?_
  refine j _ _ (qn ?_);clear j K
  refine rg rfl fun K j=>?_
  obtain⟨y32,hy32,h⟩:=Ah h
  refine An.pure Tryz.call139 (S1 x_31 hy32) rfl fun _ hr=>?_
  subst hr
  refine nS ?_
  obtain⟨hk,h⟩:=B8 h
  (repeat refine rp ?_);try simp +decide -implicitDefEqProofs only[go_sem]
  refine j _ _ (bn (qn ?_));clear j K
  refine ar rfl (qn ?_)
  obtain rfl:=Aa h
  refine⟨(k29+1,(out28++[y32]),(ver29+1)),⟨by dsimp only;omega,Ai hJ29⟩,by dsimp only;omega,?_,?_⟩
  ·exact cuw hw29
  exact cuw hw29
 obtain rfl:=Bf hJ29 (fun hl=>by have:=Ah9 hc;omega)
 have h:=Be hO29;try dsimp only at h
 have hkl:f_.Winches.length=k29:=by have:=Ah9 hc;omega
 subst hkl
 refine xt (qe (qe (bs (qn (sq (ar rfl (qn (rt ?_))))))))
 refine nSc Tryz.results138 ?_
 refine j _ _ (qn (sq ?_));clear j K
 refine rg rfl fun K j=>?_
 obtain⟨y33,hy33,h⟩:=Ah h
 refine An.pure Tryz.call140 (H8 f_.Groomers hy33) rfl fun _ hr=>?_
 subst hr
 refine nS ?_
 refine j _ _ (qn (sq ?_));clear j K
 refine rg rfl fun K j=>?_
 obtain⟨y34,hy34,h⟩:=Ah h
 refine An.row Tryz.call141 (Jo f_.Status hy34) rfl 14 rfl ?_
 (try simp +decide -implicitDefEqProofs only[go_sem,List.length_map])
 refine j _ _ (qn (sq ?_));clear j K
 refine ar rfl (qn (rt ?_))
 refine nSc Tryz.results57 ?_
 refine j _ _ (qn (sq ?_))
 refine ar rfl (qn (sq (sq ?_)))
 refine rg rfl fun K j=>?_
 intro hm
 refine j _ _ (qn (bk ?_))
 refine AWP.ghost 6 1 rfl (by decide) ?_
 obtain⟨o38,hJ38,hO38⟩:=Ah h
 clear h
 refine AWP.Bw (ι:=Nat×((List Bi)×(List Int))×(Nat×Nat)) (fun zz=>[(1,.ptr 0 0),(2,.ptr 1 0),(4,.sl 1 (y2.map A5)),(5,.ptr 15 0),(6,.own 16 zz.2.2.2 0 zz.2.1.2.length),(16,.own 14 zz.2.2.1 0 zz.2.1.1.length),(17,.int .i64 ((y34.length:Nat):Int)),(18,.int .i64 ((zz.1:Nat):Int))]) (fun zz=>[.box [.sl 2 (f_.Map.Nodes.map A6),.sl 8 (f_.Map.Lifts.map A7),.sl 7 (f_.Map.Runs.map Bd),.sl 1 (f_.Map.Bases.map A5),.sl 2 (f_.Lifts.map Ax),.sl 4 (f_.Closures.map Au),.sl 4 (f_.Patrol.Bv.map Av),.sl 3 (f_.Patrol.Hazards.map A1),.sl 3 (f_.Surfaces.map A8),.sl 5 (f_.Packs.map A3),.sl 6 (f_.Slides.map Bb),.sl 7 (f_.Bulletin.map Aw),.sl 7 (f_.Missions.map Aq),.sl 4 (f_.Winches.map Ap),.sl 8 (f_.Groomers.map A2),.sl 3 (f_.Status.map A4),.int .i64 f_.Depth,.int .i64 f_.Time],.box [.nils,.nils,.nils,.nils,.nils,.nils,.nils,.nils,.nils,.nils,.nils,.nils,.nils,.nils,.nils,.nils,.int .i64 0,.int .i64 0],.gone,.gone,.gone,.gone,.gone,.gone,.gone,.gone,.row ver10 4 (out9.map Av),.row ver18 6 (out17.map Bb),.row ver23 7 (out22.map Aw),.row ver29 4 (out28.map Ap),.row zz.2.2.1 3 (zz.2.1.1.map A4),.box [.sl 2 (y3.map A6),.sl 8 (y4.map A7),.sl 7 (y5.map Bd),.sl 1 (y6.map A5),.sl 2 (y7.map Ax),.sl 4 (y8.map Au),.own 10 ver10 0 out9.length,.sl 3 (y14.map A1),.sl 3 (y15.map A8),.sl 5 (y16.map A3),.own 11 ver18 0 out17.length,.own 12 ver23 0 out22.length,.sl 7 (y27.map Aq),.own 13 ver29 0 out28.length,.sl 8 (y33.map A2),.own 14 zz.2.2.1 0 zz.2.1.1.length,.int .i64 f_.Depth,.int .i64 f_.Time],.row zz.2.2.2 1 (zz.2.1.2.map A5)]) (fun zz=>zz.1≤y34.length∧Am (En f_ y2) zz.1 ((y34).drop zz.1) zz.2.1=some o38) (fun zz=>y34.length - zz.1) (0,(y34,[]),(0,0)) ⟨Nat.zero_le _,hJ38⟩ cu cu (fun x=>⟨rfl,rfl,rfl⟩) ?_
 clear hJ38
 rintro⟨k38,⟨t16_35,closed37⟩,⟨ver36,ver38⟩⟩ ⟨hk38,hJ38⟩
 dsimp only at hk38 hJ38 ⊢
 refine sq (ar rfl (qn (sq ?_)))
 refine AWP.cond (Ak (fun hc=>?_) (fun hc=>?_))
 rotate_left
 ·obtain rfl:=Bf hJ38 (fun hl=>by have:=Ah9 hc;omega)
  have h:=Be hO38;try dsimp only at h
  have hkl:y34.length=k38:=by have:=Ah9 hc;omega
  subst hkl
  refine xt (qe (qe (bs (qn (sq (ar rfl (qn (rt ?_))))))))
  cases h;exact en Tryz.results27
 have hlt38:k38<y34.length:=by have:=Aia hc;omega
 obtain⟨x_40,b38,hx38_,h,hJ38⟩:=A9 hJ38 hlt38
 have hx38:=Ay hx38_
 have hw38:=wk (k:=k38) (by omega)
 unfold En at h;try dsimp only at h
 refine sk (qn (sq (bk (sq ?_))))
 refine rg rfl fun K j=>?_
 obtain⟨x_41,hx_41,h⟩:=Ah h
 refine Ki hx_41 (by first | rfl | exact(Cl _).symm | (simp only[List.length_append,List.length_cons,List.length_nil,List.length_set,List.length_replicate]<;>omega)) ?_
 refine nS ?_
 refine Dd.ofNat (f:=A4) (l:=t16_35) (n:=k38) hx_41 ?_
 refine nS ?_
 refine j _ _ (qn (sq ?_))
 refine rg rfl fun K j=>?_
 revert h;refine gt (fun hc h=>?_) fun hc h=>?_
 ·obtain⟨y42,hy42,h⟩:=Ah h
  refine An.pure Tryz.call54 (Bt y2 x_41.Run hy42) rfl fun _ hr=>?_
  subst hr
  refine nS ?_
  refine j _ _ (qn ?_)
  revert h;refine ca rfl (fun hc h=>?_) fun hc h=>?_
  ·refine sq ?_
   refine rg rfl fun K j=>?_
   refine Ki hx_41 (by first | rfl | exact(Cl _).symm | (simp only[List.length_append,List.length_cons,List.length_nil,List.length_set,List.length_replicate]<;>omega)) ?_
   refine nS ?_
   refine Dd.ofNat (f:=A4) (l:=t16_35) (n:=k38) hx_41 ?_
   have hs43:=Ri (y:=(Bi.mk x_41.Run false x_41.Since)) hx_41
   refine nS ?_
   refine j _ _ (qn (sq ?_))
   refine rg rfl fun K j=>?_
   refine Ki hs43 (by first | rfl | exact(Cl _).symm | (simp only[List.length_append,List.length_cons,List.length_nil,List.length_set,List.length_replicate]<;>omega)) ?_
   refine nS ?_
   refine Dd.ofNat (f:=A4) (l:=(t16_35.set k38 (Bi.mk x_41.Run false x_41.Since))) (n:=k38) hs43 ?_
   have hs44:=Ri (y:=(Bi.mk x_41.Run false f_.Time)) hs43
   refine nS ?_
   refine j _ _ (qn ?_)
   refine rg rfl fun K j=>?_
   obtain⟨hk,h⟩:=B8 h
   (repeat refine rp ?_);try simp +decide -implicitDefEqProofs only[go_sem]
   refine j _ _ (bn (qn ?_))
   refine ar rfl (qn ?_)
   obtain rfl:=Aa h
   refine⟨(k38+1,(((t16_35.set k38 (Bi.mk x_41.Run false x_41.Since)).set k38 (Bi.mk x_41.Run false f_.Time)),(closed37++[x_41.Run])),(ver36,(ver38+1))),⟨by dsimp only;omega,Ai hJ38⟩,by dsimp only;omega,?_,?_⟩
   ·exact cuw hw38
   exact cuw hw38
  refine sk (bn (qn (ar rfl (qn ?_))))
  obtain rfl:=Aa h
  refine⟨(k38+1,(t16_35,closed37),(ver36,ver38)),⟨by dsimp only;omega,Ai hJ38⟩,by dsimp only;omega,?_,?_⟩
  ·exact cuw hw38
  exact cuw hw38
 refine j _ _ (qn ?_)
 refine AWP.cond (Bj ?_)
 refine sk (bn (qn (ar rfl (qn ?_))))
 obtain rfl:=Aa h
 refine⟨(k38+1,(t16_35,closed37),(ver36,ver38)),⟨by dsimp only;omega,Ai hJ38⟩,by dsimp only;omega,?_,?_⟩
 ·exact cuw hw38
 exact cuw hw38
def Pc:Option (Bool):=
 (S0).bind fun y1=>(He y1 1).bind fun y2=>(He y1 2).bind fun y3=>(E9 y1).bind fun y4=>(bif (decide (y4≠0))then some false else(bif (decide (y2.2≠16))then some false else(bif (decide (y3.2≠16))then some false else(E1 y1 [(1:Int),2]).bind fun y5=>(N7 y5 [(1:Int),2]).bind fun y6=>(bif (!y6)then some false else(Fx (Aj.mk y1.Map y1.Lifts y1.Closures y1.Patrol y1.Surfaces y1.Packs y1.Slides y1.Bulletin y1.Missions y1.Winches y1.Groomers [(Bi.mk 1 true 0),(Bi.mk 2 true 0)] y1.Depth y1.Time)).bind fun y7=>(bif (!y7)then some false else(Dp (Aj.mk y1.Map y1.Lifts y1.Closures y1.Patrol y1.Surfaces y1.Packs y1.Slides y1.Bulletin y1.Missions y1.Winches y1.Groomers [(Bi.mk 1 true 0),(Bi.mk 2 true 0)] y1.Depth y1.Time)).bind fun y8=>(N7 y8 [(1:Int),2]).bind fun y9=>(bif (!y9)then some false else(Hd (Aj.mk y1.Map y1.Lifts [(Bk.mk 1 2 1 0)] y1.Patrol y1.Surfaces y1.Packs y1.Slides y1.Bulletin y1.Missions y1.Winches y1.Groomers [(Bi.mk 1 true 0),(Bi.mk 2 true 0)] y1.Depth y1.Time)).bind fun y10=>(Fx (Aj.mk y1.Map y1.Lifts [(Bk.mk 1 2 1 0)] y1.Patrol y1.Surfaces y1.Packs y1.Slides y1.Bulletin y1.Missions y1.Winches y1.Groomers [(Bi.mk 1 true 0),(Bi.mk 2 true 0)] y1.Depth y1.Time)).bind fun y11=>(bif y11 then some false else(N7 y10.2 [(1:Int),2]).bind fun y12=>(bif (!y12)then some false else(Dp y10.1).bind fun y13=>(bif (decide (((y13.length:Nat):Int)≠0))then some false else(Dc (Aj.mk y1.Map y1.Lifts y1.Closures (Ca.mk y1.Patrol.Bv [(Cv.mk 1 1 0)]) y1.Surfaces y1.Packs y1.Slides y1.Bulletin y1.Missions y1.Winches y1.Groomers y1.Status y1.Depth y1.Time) [(1:Int),2] 1).bind fun y14=>(bif (decide (y14=14))then (Dc (Aj.mk y1.Map y1.Lifts y1.Closures y1.Patrol y1.Surfaces y1.Packs y1.Slides y1.Bulletin y1.Missions y1.Winches y1.Groomers y1.Status 1001 y1.Time) [(1:Int),2] 1).bind fun y15=>(bif (decide (y15=5))then (Dc (Aj.mk y1.Map y1.Lifts y1.Closures y1.Patrol y1.Surfaces y1.Packs [(Bc.mk 1 [(1:Int)] [] 100 100 (-1))] y1.Bulletin y1.Missions y1.Winches y1.Groomers y1.Status y1.Depth y1.Time) [(1:Int),2] 1).bind fun y16=>(bif (decide (y16=10))then (Dc y1 [(1:Int),2] 9).bind fun y17=>(bif (decide (y17=8))then (Dc y1 [(1:Int),2] 1).bind fun y18=>some (decide (y18=0))else some false)else some false)else some false)else some false))))))))))
theorem bW {r:Bool} (h:Pc=some r):Ad Tryz.prog 10 [] (·= .bool r):=by
 refine Ad.nle (Ad.intro Tryz.func10 rfl rfl (by show _≤120;simp) ?_)
 unfold Pc at h
 refine nS (sq ?_)
 refine ar rfl (qn (sq ?_))
 refine rg rfl fun K j=>?_
 obtain⟨y1,hy1,h⟩:=Ah h
 refine An.pure Tryz.call36 (Y1 hy1) rfl fun _ hr=>?_
 subst hr
 refine nS ?_
 refine j _ _ (qn (sq ?_))
 refine rg rfl fun K j=>?_
 obtain⟨y2,hy2,h⟩:=Ah h
 refine An.pure Tryz.call24 (P4 y1 1 hy2) rfl fun _ hr=>?_
 subst hr
 refine nS ?_
 refine j _ _ (qn (sq ?_))
 refine rg rfl fun K j=>?_
 obtain⟨y3,hy3,h⟩:=Ah h
 refine An.pure Tryz.call24 (P4 y1 2 hy3) rfl fun _ hr=>?_
 subst hr
 refine nS ?_
 refine j _ _ (qn (sq (sq ?_)))
 refine rg rfl fun K j=>?_
 obtain⟨y4,hy4,h⟩:=Ah h
 refine An.pure Tryz.call12 (Pd y1 hy4) rfl fun _ hr=>?_
 subst hr
 refine nS ?_
 revert h;refine gf (fun hc h=>?_) fun hc h=>?_
 rotate_left
 ·refine j _ _ (qn ?_)
  refine AWP.cond (Af ?_)
  refine sq (ar rfl (qn (rt (qr ?_))))
  cases h;exact en Tryz.results10
 revert h;refine gf (fun hc h=>?_) fun hc h=>?_
 rotate_left
 ·refine j _ _ (qn ?_)
  refine AWP.cond (Af ?_)
  refine sq (ar rfl (qn (rt (qr ?_))))
  cases h;exact en Tryz.results10
 revert h;refine gf (fun hc h=>?_) fun hc h=>?_
 rotate_left
 ·refine j _ _ (qn ?_)
  refine AWP.cond (Af ?_)
  refine sq (ar rfl (qn (rt (qr ?_))))
  cases h;exact en Tryz.results10
 obtain⟨y5,hy5,h⟩:=Ah h
 refine An.iQ Tryz.call29 (Pe y1 [(1:Int),2] hy5) (by simp +decide -implicitDefEqProofs only[go_sem]) fun _ hr=>?_
 subst hr
 refine nS ?_
 obtain⟨y6,hy6,h⟩:=Ah h
 refine An.snap Tryz.call15 (Pq y5 [(1:Int),2] hy6) (by simp +decide -implicitDefEqProofs only[go_sem]) (by rintro _ rfl;rfl) fun _ hr=>?_
 subst hr
 refine nS ?_
 refine j _ _ (qn ?_)
 revert h;refine ca rfl (fun hc h=>?_) fun hc h=>?_
 ·refine sq (ar rfl (qn (rt (qr ?_))))
  cases h;exact en Tryz.results10
 refine sk (qn (sq (ar rfl (qn (sq ?_)))))
 refine ar rfl (qn (sq (sq ?_)))
 refine rg rfl fun K j=>?_
 obtain⟨y7,hy7,h⟩:=Ah h
 refine An.snap Tryz.call22 (P3 (Aj.mk y1.Map y1.Lifts y1.Closures y1.Patrol y1.Surfaces y1.Packs y1.Slides y1.Bulletin y1.Missions y1.Winches y1.Groomers [(Bi.mk 1 true 0),(Bi.mk 2 true 0)] y1.Depth y1.Time) hy7) (by simp +decide -implicitDefEqProofs only[go_sem]) (by rintro _ rfl;rfl) fun _ hr=>?_
 subst hr
 refine nS ?_
 revert h;refine gf (fun hc h=>?_) fun hc h=>?_
 rotate_left
 ·refine j _ _ (qn ?_)
  refine AWP.cond (Af ?_)
  refine sq (ar rfl (qn (rt (qr ?_))))
  cases h;exact en Tryz.results10
 obtain⟨y8,hy8,h⟩:=Ah h
 refine An.iQ Tryz.call20 (P5 (Aj.mk y1.Map y1.Lifts y1.Closures y1.Patrol y1.Surfaces y1.Packs y1.Slides y1.Bulletin y1.Missions y1.Winches y1.Groomers [(Bi.mk 1 true 0),(Bi.mk 2 true 0)] y1.Depth y1.Time) hy8) (by simp +decide -implicitDefEqProofs only[go_sem]) fun _ hr=>?_
 subst hr
 refine nS ?_
 obtain⟨y9,hy9,h⟩:=Ah h
 refine An.snap Tryz.call15 (Pq y8 [(1:Int),2] hy9) (by simp +decide -implicitDefEqProofs only[go_sem]) (by rintro _ rfl;rfl) fun _ hr=>?_
 subst hr
 refine nS ?_
 refine j _ _ (qn ?_)
 revert h;refine ca rfl (fun hc h=>?_) fun hc h=>?_
 ·refine sq (ar rfl (qn (rt (qr ?_))))
  cases h;exact en Tryz.results10
 refine sk (qn (sq (ar rfl (qn (sq ?_)))))
 refine AWP.kB ?_
 refine ALP.cut 1 (ALP.part rfl ?_);intro K j
 refine nS ?_
 refine j _ _ ?_
 refine ALP.sub (Sub.Dr 8 rfl) ?_
 refine nS ?_
 refine ALP.sub (Sub.Dr 6 rfl) ?_
 refine nS ?_
 refine ALP.last rfl ?_;intro K j
 refine nS ?_
 obtain⟨y10,hy10,h⟩:=Ah h
 refine An.pure Tryz.call27 (Vk (Aj.mk y1.Map y1.Lifts [(Bk.mk 1 2 1 0)] y1.Patrol y1.Surfaces y1.Packs y1.Slides y1.Bulletin y1.Missions y1.Winches y1.Groomers [(Bi.mk 1 true 0),(Bi.mk 2 true 0)] y1.Depth y1.Time) hy10) rfl fun _ hr=>?_
 subst hr
 refine nS ?_
 refine j _ _ (qn (sq (sq ?_)))
 refine rg rfl fun K j=>?_
 obtain⟨y11,hy11,h⟩:=Ah h
 refine An.pure Tryz.call22 (P3 (Aj.mk y1.Map y1.Lifts [(Bk.mk 1 2 1 0)] y1.Patrol y1.Surfaces y1.Packs y1.Slides y1.Bulletin y1.Missions y1.Winches y1.Groomers [(Bi.mk 1 true 0),(Bi.mk 2 true 0)] y1.Depth y1.Time) hy11) rfl fun _ hr=>?_
 subst hr
 refine nS ?_
 revert h;refine gf (fun hc h=>?_) fun hc h=>?_
 rotate_left
 ·refine j _ _ (qn ?_)
  refine AWP.cond (Af ?_)
  refine sq (ar rfl (qn (rt (qr ?_))))
  cases h;exact en Tryz.results10
 obtain⟨y12,hy12,h⟩:=Ah h
 refine An.snap Tryz.call15 (Pq y10.2 [(1:Int),2] hy12) (by simp +decide -implicitDefEqProofs only[go_sem]) (by rintro _ rfl;rfl) fun _ hr=>?_
 subst hr
 refine nS ?_
 revert h;refine gf (fun hc h=>?_) fun hc h=>?_
 rotate_left
 ·refine j _ _ (qn ?_)
  refine AWP.cond (Af ?_)
  refine sq (ar rfl (qn (rt (qr ?_))))
  cases h;exact en Tryz.results10
 obtain⟨y13,hy13,h⟩:=Ah h
 refine An.pure Tryz.call20 (Ml y10.1 hy13) rfl fun _ hr=>?_
 subst hr
 refine nS ?_
 intro hm
 refine j _ _ (qn ?_)
 revert h;refine ca rfl (fun hc h=>?_) fun hc h=>?_
 ·refine sq (ar rfl (qn (rt (qr ?_))))
  cases h;exact en Tryz.results10
 refine sk (qn (sq (ar rfl (qn (sq ?_)))))
 refine ar rfl (qn (sq ?_))
 refine ar rfl (qn (sq ?_))
 refine ar rfl (qn (sq ?_))
 refine ar rfl (qn (sq ?_))
 refine AWP.kB ?_
 refine ALP.cut 2 (ALP.part rfl ?_);intro K j
 refine nS ?_
 refine j _ _ ?_
 refine ALP.sub (Sub.Dr 14 rfl) ?_
 refine nS ?_
 refine ALP.last rfl ?_;intro K j
 refine nS ?_
 refine j _ _ (qn ?_)
 refine AWP.sub (Sub.denil 15 ([(Bc.mk (1:Int) [(1:Int)] [] (100:Int) (100:Int) (-1:Int))].map Bb) rfl (by simp +decide -implicitDefEqProofs only[go_sem,Dl,Ac.int.injEq,Int.natCast_zero,List.replicate_zero,List.length_take,List.length_drop,Ac.own.injEq,reduceCtorEq,Int.reduceAdd,Tx,Ty,Pw,Tw,Pv,u6,Pv,Pw])) ?_
 refine nS (sq ?_)
 refine ar rfl (qn (sq ?_))
 refine rg rfl fun K j=>?_
 obtain⟨y14,hy14,h⟩:=Ah h
 refine An.snap Tryz.call18 (Dm (Aj.mk y1.Map y1.Lifts y1.Closures (Ca.mk y1.Patrol.Bv [(Cv.mk 1 1 0)]) y1.Surfaces y1.Packs y1.Slides y1.Bulletin y1.Missions y1.Winches y1.Groomers y1.Status y1.Depth y1.Time) [(1:Int),2] 1 hy14) (by simp +decide -implicitDefEqProofs only[go_sem]) (by rintro _ rfl;rfl) fun _ hr=>?_
 subst hr
 refine nS ?_
 revert h;refine gt (fun hc h=>?_) fun hc h=>?_
 rotate_left
 ·refine j _ _ (qn (rt ?_))
  cases h;exact en Tryz.results10
 obtain⟨y15,hy15,h⟩:=Ah h
 refine An.snap Tryz.call18 (Dm (Aj.mk y1.Map y1.Lifts y1.Closures y1.Patrol y1.Surfaces y1.Packs y1.Slides y1.Bulletin y1.Missions y1.Winches y1.Groomers y1.Status 1001 y1.Time) [(1:Int),2] 1 hy15) (by simp +decide -implicitDefEqProofs only[go_sem]) (by rintro _ rfl;rfl) fun _ hr=>?_
 subst hr
 refine nS ?_
 revert h;refine gt (fun hc h=>?_) fun hc h=>?_
 rotate_left
 ·refine j _ _ (qn (rt ?_))
  cases h;exact en Tryz.results10
 obtain⟨y16,hy16,h⟩:=Ah h
 refine An.snap Tryz.call18 (Dm (Aj.mk y1.Map y1.Lifts y1.Closures y1.Patrol y1.Surfaces y1.Packs [(Bc.mk 1 [(1:Int)] [] 100 100 (-1))] y1.Bulletin y1.Missions y1.Winches y1.Groomers y1.Status y1.Depth y1.Time) [(1:Int),2] 1 hy16) (by simp +decide -implicitDefEqProofs only[go_sem]) (by rintro _ rfl;rfl) fun _ hr=>?_
 subst hr
 refine nS ?_
 revert h;refine gt (fun hc h=>?_) fun hc h=>?_
 ·obtain⟨y17,hy17,h⟩:=Ah h
  refine An.snap Tryz.call18 (Dm y1 [(1:Int),2] 9 hy17) (by simp +decide -implicitDefEqProofs only[go_sem]) (by rintro _ rfl;rfl) fun _ hr=>?_
  subst hr
  refine nS ?_
  revert h;refine gt (fun hc h=>?_) fun hc h=>?_
  ·obtain⟨y18,hy18,h⟩:=Ah h
   refine An.snap Tryz.call18 (Dm y1 [(1:Int),2] 1 hy18) (by simp +decide -implicitDefEqProofs only[go_sem]) (by rintro _ rfl;rfl) fun _ hr=>?_
   subst hr
   refine nS ?_
   refine j _ _ (qn (rt ?_))
   cases h;exact en Tryz.results10
  refine j _ _ (qn (rt ?_))
  cases h;exact en Tryz.results10
 refine j _ _ (qn (rt ?_))
 cases h;exact en Tryz.results10
def Kj (f_:Aj):Option (Bool):=
 (bif (decide (12<((f_.Map.Nodes.length:Nat):Int)))then some false else(bif (decide (12<((f_.Map.Lifts.length:Nat):Int)))then some false else(bif (decide (12<((f_.Map.Runs.length:Nat):Int)))then some false else(bif (decide (12<((f_.Map.Bases.length:Nat):Int)))then some false else(bif (decide (12<((f_.Lifts.length:Nat):Int)))then some false else(bif (decide (12<((f_.Closures.length:Nat):Int)))then some false else(bif (decide (12<((f_.Patrol.Bv.length:Nat):Int)))then some false else(bif (decide (12<((f_.Patrol.Hazards.length:Nat):Int)))then some false else(bif (decide (12<((f_.Surfaces.length:Nat):Int)))then some false else(bif (decide (12<((f_.Packs.length:Nat):Int)))then some false else(bif (decide (12<((f_.Slides.length:Nat):Int)))then some false else(bif (decide (12<((f_.Bulletin.length:Nat):Int)))then some false else(bif (decide (((f_.Missions.length:Nat):Int)≤12))then (bif (decide (((f_.Winches.length:Nat):Int)≤12))then (bif (decide (((f_.Groomers.length:Nat):Int)≤12))then some (decide (((f_.Status.length:Nat):Int)≤12))else some false)else some false)else some false)))))))))))))
theorem bV (f_:Aj) {r:Bool} (h:Kj f_=some r):Ad Tryz.prog 11 [.agg (B5 f_)] (·= .bool r):=by
 refine Ad.nle (Ad.intro Tryz.func11 rfl rfl (by show _≤99;simp) ?_)
 unfold Kj at h
 refine nS (sq ?_)
 refine ar rfl (qn (sq (sq ?_)))
 refine rg rfl fun K j=>?_
 intro hm
 revert h;refine gf (fun hc h=>?_) fun hc h=>?_
 rotate_left
 ·refine j _ _ (qn ?_)
  refine AWP.cond (Af ?_)
  refine sq (ar rfl (qn (rt (qr ?_))))
  cases h;exact en Tryz.results11
 intro hm
 revert h;refine gf (fun hc h=>?_) fun hc h=>?_
 rotate_left
 ·refine j _ _ (qn ?_)
  refine AWP.cond (Af ?_)
  refine sq (ar rfl (qn (rt (qr ?_))))
  cases h;exact en Tryz.results11
 intro hm
 revert h;refine gf (fun hc h=>?_) fun hc h=>?_
 rotate_left
 ·refine j _ _ (qn ?_)
  refine AWP.cond (Af ?_)
  refine sq (ar rfl (qn (rt (qr ?_))))
  cases h;exact en Tryz.results11
 intro hm
 revert h;refine gf (fun hc h=>?_) fun hc h=>?_
 rotate_left
 ·refine j _ _ (qn ?_)
  refine AWP.cond (Af ?_)
  refine sq (ar rfl (qn (rt (qr ?_))))
  cases h;exact en Tryz.results11
 intro hm
 revert h;refine gf (fun hc h=>?_) fun hc h=>?_
 rotate_left
 ·refine j _ _ (qn ?_)
  refine AWP.cond (Af ?_)
  refine sq (ar rfl (qn (rt (qr ?_))))
  cases h;exact en Tryz.results11
 intro hm
 refine j _ _ (qn ?_)
 revert h;refine ca rfl (fun hc h=>?_) fun hc h=>?_
 ·refine sq (ar rfl (qn (rt (qr ?_))))
  cases h;exact en Tryz.results11
 refine sk (qn (sq (sq ?_)))
 refine rg rfl fun K j=>?_
 intro hm
 revert h;refine gf (fun hc h=>?_) fun hc h=>?_
 rotate_left
 ·refine j _ _ (qn ?_)
  refine AWP.cond (Af ?_)
  refine sq (ar rfl (qn (rt (qr ?_))))
  cases h;exact en Tryz.results11
 intro hm
 revert h;refine gf (fun hc h=>?_) fun hc h=>?_
 rotate_left
 ·refine j _ _ (qn ?_)
  refine AWP.cond (Af ?_)
  refine sq (ar rfl (qn (rt (qr ?_))))
  cases h;exact en Tryz.results11
 intro hm
 revert h;refine gf (fun hc h=>?_) fun hc h=>?_
 rotate_left
 ·refine j _ _ (qn ?_)
  refine AWP.cond (Af ?_)
  refine sq (ar rfl (qn (rt (qr ?_))))
  cases h;exact en Tryz.results11
 intro hm
 revert h;refine gf (fun hc h=>?_) fun hc h=>?_
 rotate_left
 ·refine j _ _ (qn ?_)
  refine AWP.cond (Af ?_)
  refine sq (ar rfl (qn (rt (qr ?_))))
  cases h;exact en Tryz.results11
 intro hm
 revert h;refine gf (fun hc h=>?_) fun hc h=>?_
 rotate_left
 ·refine j _ _ (qn ?_)
  refine AWP.cond (Af ?_)
  refine sq (ar rfl (qn (rt (qr ?_))))
  cases h;exact en Tryz.results11
 intro hm
 refine j _ _ (qn ?_)
 revert h;refine ca rfl (fun hc h=>?_) fun hc h=>?_
 ·refine sq (ar rfl (qn (rt (qr ?_))))
  cases h;exact en Tryz.results11
 refine sk (qn (sq ?_))
 refine rg rfl fun K j=>?_
 intro hm
 revert h;refine gt (fun hc h=>?_) fun hc h=>?_
 ·intro hm
  revert h;refine gt (fun hc h=>?_) fun hc h=>?_
  ·intro hm
   revert h;refine gt (fun hc h=>?_) fun hc h=>?_
   ·intro hm
    refine j _ _ (qn (rt ?_))
    cases h;exact en Tryz.results11
   refine j _ _ (qn (rt ?_))
   cases h;exact en Tryz.results11
  refine j _ _ (qn (rt ?_))
  cases h;exact en Tryz.results11
 refine j _ _ (qn (rt ?_))
 cases h;exact en Tryz.results11
def Ez (n_:Int) (lo:Int) (hi:Int):Option (Bool):=
 (bif (decide (lo≤n_))then some (decide (n_≤hi))else some false)
theorem Db (n_:Int) (lo:Int) (hi:Int) {r:Bool} (h:Ez n_ lo hi=some r):Ad Tryz.prog 254 [.int .i64 n_,.int .i64 lo,.int .i64 hi] (·= .bool r):=by
 refine Ad.nle (Ad.intro Tryz.func254 rfl rfl (by show _≤15;simp) ?_)
 unfold Ez at h
 refine nS (sq ?_)
 refine ar rfl (qn (sq ?_))
 refine rg rfl fun K j=>?_
 revert h;refine gt (fun hc h=>?_) fun hc h=>?_
 ·refine j _ _ (qn (rt ?_))
  cases h;exact en Tryz.results254
 refine j _ _ (qn (rt ?_))
 cases h;exact en Tryz.results254
def Q5 (l:List Ck) (k0:Nat) (x_2:Ck) (sv:Unit):Option (Out (Unit) (Int)):=
 (Ez x_2.ID 1 9999).bind fun y3=>(bif (!y3)then some (Out.ret 2)else (Ez x_2.Alt 0 5000).bind fun y4=>(bif (!y4)then some (Out.ret 2)else (bif (decide (0<((k0:Nat):Int)))then (Dh l (IntKind.i64.wrap (((k0:Nat):Int) - 1))).bind fun x_5=>(bif (decide (x_2.ID≤x_5.ID))then some (Out.ret 7)else some (Out.next ()))else some (Out.next ()))))
def R8 (l:List Ck):Option (Int):=
 (Am (Q5 l) 0 l ()).bind fun o0=>o0.on fun s0=>some 0
theorem bP (l:List Ck) {r:Int} (h:R8 l=some r):Ad Tryz.prog 177 [.sl 2 (l.map A6)] (·= .int .i64 r):=by
 refine Ad.nle (Ad.intro Tryz.func177 rfl rfl (by show _≤42;simp) ?_)
 unfold R8 at h
 refine nS (sq ?_)
 refine ar rfl (qn (sq (sq ?_)))
 refine ar rfl (qn (bk ?_))
 obtain⟨o0,hJ0,hO0⟩:=Ah h
 clear h
 refine AWP.Bw (ι:=Nat×(Unit)×(Unit)) (fun zz=>[(0,.sl 2 (l.map A6)),(3,.int .i64 ((zz.1:Nat):Int))]) (fun zz=>[]) (fun zz=>zz.1≤l.length∧Am (Q5 l) zz.1 ((l).drop zz.1) zz.2.1=some o0) (fun zz=>l.length - zz.1) (0,(),()) ⟨Nat.zero_le _,hJ0⟩ cu cu (fun x=>⟨rfl,rfl,rfl⟩) ?_
 clear hJ0
 rintro⟨k0,⟨⟩,⟨⟩⟩ ⟨hk0,hJ0⟩
 dsimp only at hk0 hJ0 ⊢
 refine sq (sq ?_)
 refine rg rfl fun K j=>?_
 intro hm
 refine j _ _ (qn ?_)
 refine AWP.cond (Ak (fun hc=>?_) (fun hc=>?_))
 rotate_left
 ·obtain rfl:=Bf hJ0 (fun hl=>by have:=Ah9 hc;omega)
  have h:=Be hO0;try dsimp only at h
  have hkl:l.length=k0:=by have:=Ah9 hc;omega
  subst hkl
  refine xt (qe (qe (bs (qn (sq (ar rfl (qn (rt ?_))))))))
  cases h;exact en Tryz.results177
 have hlt0:k0<l.length:=by have:=Aia hc;omega
 obtain⟨x_2,b0,hx0_,h,hJ0⟩:=A9 hJ0 hlt0
 have hx0:=Ay hx0_
 have hw0:=wk (k:=k0) (by omega)
 unfold Q5 at h;try dsimp only at h
 refine sk (qn (sq (bk (sq (sq ?_)))))
 refine rg rfl fun K j=>?_
 refine Bn.of (f:=A6) (l:=l) hx0 ?_
 refine nS ?_
 obtain⟨y3,hy3,h⟩:=Ah h
 refine An.pure Tryz.call254 (Db x_2.ID 1 9999 hy3) rfl fun _ hr=>?_
 subst hr
 refine nS ?_
 revert h;refine gf (fun hc h=>?_) fun hc h=>?_
 rotate_left
 ·refine j _ _ (qn ?_)
  refine AWP.cond (Af ?_)
  refine sq (ar rfl (qn (rt (qr (br (qr (qr ?_)))))))
  obtain rfl:=Aa h
  obtain rfl:=Ae hJ0
  replace h:=Al hO0
  refine br (qr ?_)
  cases h;exact en Tryz.results177
 refine Bn.of (f:=A6) (l:=l) hx0 ?_
 refine nS ?_
 obtain⟨y4,hy4,h⟩:=Ah h
 refine An.pure Tryz.call254 (Db x_2.Alt 0 5000 hy4) rfl fun _ hr=>?_
 subst hr
 refine nS ?_
 refine j _ _ (qn ?_)
 revert h;refine ca rfl (fun hc h=>?_) fun hc h=>?_
 ·refine sq (ar rfl (qn (rt (qr (br (qr (qr ?_)))))))
  obtain rfl:=Aa h
  obtain rfl:=Ae hJ0
  replace h:=Al hO0
  refine br (qr ?_)
  cases h;exact en Tryz.results177
 refine sk (qn (sq ?_))
 refine AWP.draw Tryz.mixed (by kernel_rfl) ?_;intro K j
 refine nS ?_
 revert h;refine gt (fun hc h=>?_) fun hc h=>?_
 ·refine Bn.of (f:=A6) (l:=l) hx0 ?_
  refine nS ?_
  obtain⟨x_5,hx_5,h⟩:=Ah h
  refine Bn.of (f:=A6) (l:=l) hx_5 ?_
  refine nS ?_
  refine j _ _ _ (by kernel_rfl) ?_
  refine qn ?_
  revert h;refine ca rfl (fun hc h=>?_) fun hc h=>?_
  ·refine sq (ar rfl (qn (rt (br (qr (qr ?_))))))
   obtain rfl:=Aa h
   obtain rfl:=Ae hJ0
   replace h:=Al hO0
   refine br (qr ?_)
   cases h;exact en Tryz.results177
  refine sk (bn (qn (ar rfl (qn ?_))))
  obtain rfl:=Aa h
  refine⟨(k0+1,(),()),⟨by dsimp only;omega,Ai hJ0⟩,by dsimp only;omega,?_,?_⟩
  ·exact cuw hw0
  exact cuw hw0
 refine j _ _ _ (by kernel_rfl) ?_
 refine qn ?_
 refine AWP.cond (Bj ?_)
 refine sk (bn (qn (ar rfl (qn ?_))))
 obtain rfl:=Aa h
 refine⟨(k0+1,(),()),⟨by dsimp only;omega,Ai hJ0⟩,by dsimp only;omega,?_,?_⟩
 ·exact cuw hw0
 exact cuw hw0
def Sx (id_:Int) (k0:Nat) (x_2:Ck) (sv:Unit):Option (Out (Unit) (Ck×Bool)):=
 (bif (decide (x_2.ID=id_))then some (Out.ret (x_2,true))else some (Out.next ()))
def Eb (m:Ba) (id_:Int):Option (Ck×Bool):=
 (Am (Sx id_) 0 m.Nodes ()).bind fun o0=>o0.on fun s0=>some ((Ck.mk 0 0),false)
theorem Pu (m:Ba) (id_:Int) {r:Ck×Bool} (h:Eb m id_=some r):Ad Tryz.prog 98 [.agg (Ce m),.int .i64 id_] (·= .tuple [.agg (A6 r.1),.bool r.2]):=by
 refine Ad.nle (Ad.intro Tryz.func98 rfl rfl (by show _≤28;simp) ?_)
 unfold Eb at h
 refine nS (sq ?_)
 refine ar rfl (qn (sq (sq ?_)))
 refine ar rfl (qn (bk ?_))
 obtain⟨o0,hJ0,hO0⟩:=Ah h
 clear h
 refine AWP.Bw (ι:=Nat×(Unit)×(Unit)) (fun zz=>[(1,.int .i64 id_),(2,.ptr 0 0),(4,.ptr 1 0),(6,.int .i64 ((zz.1:Nat):Int))]) (fun zz=>[.box [.sl 2 (m.Nodes.map A6),.sl 8 (m.Lifts.map A7),.sl 7 (m.Runs.map Bd),.sl 1 (m.Bases.map A5)],.box [.int .i64 0,.int .i64 0]]) (fun zz=>zz.1≤m.Nodes.length∧Am (Sx id_) zz.1 ((m.Nodes).drop zz.1) zz.2.1=some o0) (fun zz=>m.Nodes.length - zz.1) (0,(),()) ⟨Nat.zero_le _,hJ0⟩ cu cu (fun x=>⟨rfl,rfl,rfl⟩) ?_
 clear hJ0
 rintro⟨k0,⟨⟩,⟨⟩⟩ ⟨hk0,hJ0⟩
 dsimp only at hk0 hJ0 ⊢
 refine sq (sq ?_)
 refine rg rfl fun K j=>?_
 intro hm
 refine j _ _ (qn ?_)
 refine AWP.cond (Ak (fun hc=>?_) (fun hc=>?_))
 rotate_left
 ·obtain rfl:=Bf hJ0 (fun hl=>by have:=Ah9 hc;omega)
  have h:=Be hO0;try dsimp only at h
  have hkl:m.Nodes.length=k0:=by have:=Ah9 hc;omega
  subst hkl
  refine xt (qe (qe (bs (qn (sq (ar rfl (qn (rt ?_))))))))
  cases h;exact en Tryz.results98
 have hlt0:k0<m.Nodes.length:=by have:=Aia hc;omega
 obtain⟨x_2,b0,hx0_,h,hJ0⟩:=A9 hJ0 hlt0
 have hx0:=Ay hx0_
 have hw0:=wk (k:=k0) (by omega)
 unfold Sx at h;try dsimp only at h
 refine sk (qn (sq (bk (sq ?_))))
 refine rg rfl fun K j=>?_
 refine Bn.of (f:=A6) (l:=m.Nodes) hx0 ?_
 refine nS ?_
 refine j _ _ (qn ?_)
 revert h;refine ca rfl (fun hc h=>?_) fun hc h=>?_
 ·refine sq ?_
  refine rg rfl fun K j=>?_
  refine Bn.of (f:=A6) (l:=m.Nodes) hx0 ?_
  refine nS ?_
  refine j _ _ (qn (rt (br (qr (qr ?_)))))
  obtain rfl:=Aa h
  obtain rfl:=Ae hJ0
  replace h:=Al hO0
  refine br (qr ?_)
  cases h;exact en Tryz.results98
 refine sk (bn (qn (ar rfl (qn ?_))))
 obtain rfl:=Aa h
 refine⟨(k0+1,(),()),⟨by dsimp only;omega,Ai hJ0⟩,by dsimp only;omega,?_,?_⟩
 ·exact cuw hw0
 exact cuw hw0
def Gb (m:Ba) (from_:Int) (to_:Int):Option (Int):=
 (Eb m from_).bind fun y1=>(Eb m to_).bind fun y2=>(bif (!y1.2)then some 8 else(bif (!y2.2)then some 8 else(bif (decide (y2.1.Alt≤y1.1.Alt))then some 11 else some 0)))
theorem Kz (m:Ba) (from_:Int) (to_:Int) {r:Int} (h:Gb m from_ to_=some r):Ad Tryz.prog 255 [.agg (Ce m),.int .i64 from_,.int .i64 to_] (·= .int .i64 r):=by
 refine Ad.nle (Ad.intro Tryz.func255 rfl rfl (by show _≤34;simp) ?_)
 unfold Gb at h
 refine nS (sq ?_)
 refine ar rfl (qn (sq ?_))
 refine rg rfl fun K j=>?_
 obtain⟨y1,hy1,h⟩:=Ah h
 refine An.pure Tryz.call98 (Pu m from_ hy1) rfl fun _ hr=>?_
 subst hr
 refine nS ?_
 refine j _ _ (qn (sq ?_))
 refine rg rfl fun K j=>?_
 obtain⟨y2,hy2,h⟩:=Ah h
 refine An.pure Tryz.call98 (Pu m to_ hy2) rfl fun _ hr=>?_
 subst hr
 refine nS ?_
 refine j _ _ (qn (sq (sq ?_)))
 refine rg rfl fun K j=>?_
 revert h;refine gf (fun hc h=>?_) fun hc h=>?_
 ·refine j _ _ (qn ?_)
  revert h;refine ca rfl (fun hc h=>?_) fun hc h=>?_
  ·refine sq (ar rfl (qn (rt (qr ?_))))
   cases h;exact en Tryz.results255
  refine sk (qn (sq (sq (ar rfl (qn ?_)))))
  revert h;refine ca rfl (fun hc h=>?_) fun hc h=>?_
  ·refine sq (ar rfl (qn (rt (qr ?_))))
   cases h;exact en Tryz.results255
  refine sk (qn (sq (ar rfl (qn (rt ?_)))))
  cases h;exact en Tryz.results255
 refine j _ _ (qn ?_)
 refine AWP.cond (Af ?_)
 refine sq (ar rfl (qn (rt (qr ?_))))
 cases h;exact en Tryz.results255
def Hc (x_:Cc):Option (Bool):=
 nz x_.Spacing ((bif (decide ((Int.tmod (IntKind.i64.wrap (2*x_.Length)) x_.Spacing)=0))then nz x_.Spacing ((Ez (IntKind.i64.wrap (Int.tdiv (IntKind.i64.wrap (2*x_.Length)) x_.Spacing)) 1 200).bind fun y1=>some y1)else some false))
theorem P2 (x_:Cc) {r:Bool} (h:Hc x_=some r):Ad Tryz.prog 256 [.agg (A7 x_)] (·= .bool r):=by
 refine Ad.nle (Ad.intro Tryz.func256 rfl rfl (by show _≤19;simp) ?_)
 unfold Hc at h
 refine nS (sq ?_)
 refine ar rfl (qn (sq ?_))
 refine rg rfl fun K j=>?_
 obtain⟨hk,h⟩:=mG h
 refine⟨hk,?_⟩
 revert h;refine gt (fun hc h=>?_) fun hc h=>?_
 ·obtain⟨hk,h⟩:=mG h
  refine⟨hk,?_⟩
  obtain⟨y1,hy1,h⟩:=Ah h
  refine An.pure Tryz.call254 (Db (IntKind.i64.wrap (Int.tdiv (IntKind.i64.wrap (2*x_.Length)) x_.Spacing)) 1 200 hy1) rfl fun _ hr=>?_
  subst hr
  refine nS ?_
  refine j _ _ (qn (rt ?_))
  cases h;exact en Tryz.results256
 refine j _ _ (qn (rt ?_))
 cases h;exact en Tryz.results256
def Kf (m:Ba) (k0:Nat) (x_2:Cc) (sv:Unit):Option (Out (Unit) (Int)):=
 (Ez x_2.ID 1 9999).bind fun y3=>(bif (!y3)then some (Out.ret 2)else (Ez x_2.Operator 1 8).bind fun y4=>(bif (!y4)then some (Out.ret 2)else (Ez x_2.Length 10 6000).bind fun y5=>(bif (!y5)then some (Out.ret 2)else (Ez x_2.Speed 500 12000).bind fun y6=>(bif (!y6)then some (Out.ret 2)else (Ez x_2.Seats 1 16).bind fun y7=>(bif (!y7)then some (Out.ret 2)else (Ez x_2.Spacing 5 1000).bind fun y8=>(bif (!y8)then some (Out.ret 2)else (bif (decide (0<((k0:Nat):Int)))then (Dh m.Lifts (IntKind.i64.wrap (((k0:Nat):Int) - 1))).bind fun x_9=>(bif (decide (x_2.ID≤x_9.ID))then some (Out.ret 7)else (Gb m x_2.From x_2.To).bind fun y10=>(bif (decide (y10≠0))then some (Out.ret y10)else (Hc x_2).bind fun y11=>(bif (!y11)then some (Out.ret 1)else some (Out.next ()))))else (Gb m x_2.From x_2.To).bind fun y12=>(bif (decide (y12≠0))then some (Out.ret y12)else (Hc x_2).bind fun y13=>(bif (!y13)then some (Out.ret 1)else some (Out.next ()))))))))))
def O6 (m:Ba):Option (Int):=
 (Am (Kf m) 0 m.Lifts ()).bind fun o0=>o0.on fun s0=>some 0
theorem bQ (m:Ba) {r:Int} (h:O6 m=some r):Ad Tryz.prog 178 [.agg (Ce m)] (·= .int .i64 r):=by
 refine Ad.nle (Ad.intro Tryz.func178 rfl rfl (by show _≤78;simp) ?_)
 unfold O6 at h
 refine nS (sq ?_)
 refine ar rfl (qn (sq (sq ?_)))
 refine ar rfl (qn (bk ?_))
 obtain⟨o0,hJ0,hO0⟩:=Ah h
 clear h
 refine AWP.Bw (ι:=Nat×(Unit)×(Unit)) (fun zz=>[(1,.ptr 0 0),(3,.int .i64 ((zz.1:Nat):Int))]) (fun zz=>[.box [.sl 2 (m.Nodes.map A6),.sl 8 (m.Lifts.map A7),.sl 7 (m.Runs.map Bd),.sl 1 (m.Bases.map A5)]]) (fun zz=>zz.1≤m.Lifts.length∧Am (Kf m) zz.1 ((m.Lifts).drop zz.1) zz.2.1=some o0) (fun zz=>m.Lifts.length - zz.1) (0,(),()) ⟨Nat.zero_le _,hJ0⟩ cu cu (fun x=>⟨rfl,rfl,rfl⟩) ?_
 clear hJ0
 rintro⟨k0,⟨⟩,⟨⟩⟩ ⟨hk0,hJ0⟩
 dsimp only at hk0 hJ0 ⊢
 refine sq (sq ?_)
 refine rg rfl fun K j=>?_
 intro hm
 refine j _ _ (qn ?_)
 refine AWP.cond (Ak (fun hc=>?_) (fun hc=>?_))
 rotate_left
 ·obtain rfl:=Bf hJ0 (fun hl=>by have:=Ah9 hc;omega)
  have h:=Be hO0;try dsimp only at h
  have hkl:m.Lifts.length=k0:=by have:=Ah9 hc;omega
  subst hkl
  refine xt (qe (qe (bs (qn (sq (ar rfl (qn (rt ?_))))))))
  cases h;exact en Tryz.results178
 have hlt0:k0<m.Lifts.length:=by have:=Aia hc;omega
 obtain⟨x_2,b0,hx0_,h,hJ0⟩:=A9 hJ0 hlt0
 have hx0:=Ay hx0_
 have hw0:=wk (k:=k0) (by omega)
 unfold Kf at h;try dsimp only at h
 refine sk (qn (sq (bk (sq ?_))))
 refine rg rfl fun K j=>?_
 refine Bn.of (f:=A7) (l:=m.Lifts) hx0 ?_
 refine nS ?_
 refine j _ _ (qn (sq (sq ?_)))
 refine rg rfl fun K j=>?_
 obtain⟨y3,hy3,h⟩:=Ah h
 refine An.pure Tryz.call254 (Db x_2.ID 1 9999 hy3) rfl fun _ hr=>?_
 subst hr
 refine nS ?_
 revert h;refine gf (fun hc h=>?_) fun hc h=>?_
 rotate_left
 ·refine j _ _ (qn ?_)
  refine AWP.cond (Af ?_)
  refine sq (ar rfl (qn (rt (qr (br (qr (qr ?_)))))))
  obtain rfl:=Aa h
  obtain rfl:=Ae hJ0
  replace h:=Al hO0
  refine br (qr ?_)
  cases h;exact en Tryz.results178
 obtain⟨y4,hy4,h⟩:=Ah h
 refine An.pure Tryz.call254 (Db x_2.Operator 1 8 hy4) rfl fun _ hr=>?_
 subst hr
 refine nS ?_
 revert h;refine gf (fun hc h=>?_) fun hc h=>?_
 rotate_left
 ·refine j _ _ (qn ?_)
  refine AWP.cond (Af ?_)
  refine sq (ar rfl (qn (rt (qr (br (qr (qr ?_)))))))
  obtain rfl:=Aa h
  obtain rfl:=Ae hJ0
  replace h:=Al hO0
  refine br (qr ?_)
  cases h;exact en Tryz.results178
 obtain⟨y5,hy5,h⟩:=Ah h
 refine An.pure Tryz.call254 (Db x_2.Length 10 6000 hy5) rfl fun _ hr=>?_
 subst hr
 refine nS ?_
 revert h;refine gf (fun hc h=>?_) fun hc h=>?_
 rotate_left
 ·refine j _ _ (qn ?_)
  refine AWP.cond (Af ?_)
  refine sq (ar rfl (qn (rt (qr (br (qr (qr ?_)))))))
  obtain rfl:=Aa h
  obtain rfl:=Ae hJ0
  replace h:=Al hO0
  refine br (qr ?_)
  cases h;exact en Tryz.results178
 obtain⟨y6,hy6,h⟩:=Ah h
 refine An.pure Tryz.call254 (Db x_2.Speed 500 12000 hy6) rfl fun _ hr=>?_
 subst hr
 refine nS ?_
 revert h;refine gf (fun hc h=>?_) fun hc h=>?_
 rotate_left
 ·refine j _ _ (qn ?_)
  refine AWP.cond (Af ?_)
  refine sq (ar rfl (qn (rt (qr (br (qr (qr ?_)))))))
  obtain rfl:=Aa h
  obtain rfl:=Ae hJ0
  replace h:=Al hO0
  refine br (qr ?_)
  cases h;exact en Tryz.results178
 obtain⟨y7,hy7,h⟩:=Ah h
 refine An.pure Tryz.call254 (Db x_2.Seats 1 16 hy7) rfl fun _ hr=>?_
 subst hr
 refine nS ?_
 revert h;refine gf (fun hc h=>?_) fun hc h=>?_
 rotate_left
 ·refine j _ _ (qn ?_)
  refine AWP.cond (Af ?_)
  refine sq (ar rfl (qn (rt (qr (br (qr (qr ?_)))))))
  obtain rfl:=Aa h
  obtain rfl:=Ae hJ0
  replace h:=Al hO0
  refine br (qr ?_)
  cases h;exact en Tryz.results178
 obtain⟨y8,hy8,h⟩:=Ah h
 refine An.pure Tryz.call254 (Db x_2.Spacing 5 1000 hy8) rfl fun _ hr=>?_
 subst hr
 refine nS ?_
 refine j _ _ (qn ?_)
 revert h;refine ca rfl (fun hc h=>?_) fun hc h=>?_
 ·refine sq (ar rfl (qn (rt (qr (br (qr (qr ?_)))))))
  obtain rfl:=Aa h
  obtain rfl:=Ae hJ0
  replace h:=Al hO0
  refine br (qr ?_)
  cases h;exact en Tryz.results178
 refine sk (qn (sq (sq ?_)))
 refine AWP.draw Tryz.mixed (by kernel_rfl) ?_;intro K j
 refine nS ?_
 revert h;refine gt (fun hc h=>?_) fun hc h=>?_
 ·obtain⟨x_9,hx_9,h⟩:=Ah h
  refine Bn.of (f:=A7) (l:=m.Lifts) hx_9 ?_
  refine nS ?_
  refine j _ _ _ (by kernel_rfl) ?_
  refine qn ?_
  revert h;refine ca rfl (fun hc h=>?_) fun hc h=>?_
  ·refine sq (ar rfl (qn (rt (qr (br (qr (qr ?_)))))))
   obtain rfl:=Aa h
   obtain rfl:=Ae hJ0
   replace h:=Al hO0
   refine br (qr ?_)
   cases h;exact en Tryz.results178
  refine sk (qn (sq (sq ?_)))
  refine rg rfl fun K j=>?_
  obtain⟨y10,hy10,h⟩:=Ah h
  refine An.pure Tryz.call255 (Kz m x_2.From x_2.To hy10) rfl fun _ hr=>?_
  subst hr
  refine nS ?_
  refine j _ _ (qn (sq ?_))
  refine ar rfl (qn ?_)
  revert h;refine ca rfl (fun hc h=>?_) fun hc h=>?_
  ·refine sq (ar rfl (qn (rt (qr (br (qr (qr ?_)))))))
   obtain rfl:=Aa h
   obtain rfl:=Ae hJ0
   replace h:=Al hO0
   refine br (qr ?_)
   cases h;exact en Tryz.results178
  refine sk (qn (sq ?_))
  refine rg rfl fun K j=>?_
  obtain⟨y11,hy11,h⟩:=Ah h
  refine An.pure Tryz.call256 (P2 x_2 hy11) rfl fun _ hr=>?_
  subst hr
  refine nS ?_
  refine j _ _ (qn ?_)
  revert h;refine ca rfl (fun hc h=>?_) fun hc h=>?_
  ·refine sq (ar rfl (qn (rt (br (qr (qr ?_))))))
   obtain rfl:=Aa h
   obtain rfl:=Ae hJ0
   replace h:=Al hO0
   refine br (qr ?_)
   cases h;exact en Tryz.results178
  refine sk (bn (qn (ar rfl (qn ?_))))
  obtain rfl:=Aa h
  refine⟨(k0+1,(),()),⟨by dsimp only;omega,Ai hJ0⟩,by dsimp only;omega,?_,?_⟩
  ·exact cuw hw0
  exact cuw hw0
 refine j _ _ _ (by kernel_rfl) ?_
 refine qn ?_
 refine AWP.cond (Bj ?_)
 refine sk (qn (sq (sq ?_)))
 refine rg rfl fun K j=>?_
 obtain⟨y12,hy12,h⟩:=Ah h
 refine An.pure Tryz.call255 (Kz m x_2.From x_2.To hy12) rfl fun _ hr=>?_
 subst hr
 refine nS ?_
 refine j _ _ (qn (sq ?_))
 refine ar rfl (qn ?_)
 revert h;refine ca rfl (fun hc h=>?_) fun hc h=>?_
 ·refine sq (ar rfl (qn (rt (qr (br (qr (qr ?_)))))))
  obtain rfl:=Aa h
  obtain rfl:=Ae hJ0
  replace h:=Al hO0
  refine br (qr ?_)
  cases h;exact en Tryz.results178
 refine sk (qn (sq ?_))
 refine rg rfl fun K j=>?_
 obtain⟨y13,hy13,h⟩:=Ah h
 refine An.pure Tryz.call256 (P2 x_2 hy13) rfl fun _ hr=>?_
 subst hr
 refine nS ?_
 refine j _ _ (qn ?_)
 revert h;refine ca rfl (fun hc h=>?_) fun hc h=>?_
 ·refine sq (ar rfl (qn (rt (br (qr (qr ?_))))))
  obtain rfl:=Aa h
  obtain rfl:=Ae hJ0
  replace h:=Al hO0
  refine br (qr ?_)
  cases h;exact en Tryz.results178
 refine sk (bn (qn (ar rfl (qn ?_))))
 obtain rfl:=Aa h
 refine⟨(k0+1,(),()),⟨by dsimp only;omega,Ai hJ0⟩,by dsimp only;omega,?_,?_⟩
 ·exact cuw hw0
 exact cuw hw0
def Ls (m:Ba) (k0:Nat) (x_2:Cd) (sv:Unit):Option (Out (Unit) (Int)):=
 (Ez x_2.ID 1 9999).bind fun y3=>(bif (!y3)then some (Out.ret 2)else (Ez x_2.Operator 1 8).bind fun y4=>(bif (!y4)then some (Out.ret 2)else (Ez x_2.Grade 1 4).bind fun y5=>(bif (!y5)then some (Out.ret 2)else (Ez x_2.Zone 1 32).bind fun y6=>(bif (!y6)then some (Out.ret 2)else (Ez x_2.Length 10 20000).bind fun y7=>(bif (!y7)then some (Out.ret 2)else (bif (decide (0<((k0:Nat):Int)))then (Dh m.Runs (IntKind.i64.wrap (((k0:Nat):Int) - 1))).bind fun x_8=>(bif (decide (x_2.ID≤x_8.ID))then some (Out.ret 7)else (Gb m x_2.To x_2.From).bind fun y9=>(bif (decide (y9≠0))then some (Out.ret y9)else some (Out.next ())))else (Gb m x_2.To x_2.From).bind fun y10=>(bif (decide (y10≠0))then some (Out.ret y10)else some (Out.next ()))))))))
def Q4 (m:Ba):Option (Int):=
 (Am (Ls m) 0 m.Runs ()).bind fun o0=>o0.on fun s0=>some 0
theorem dU (m:Ba) {r:Int} (h:Q4 m=some r):Ad Tryz.prog 179 [.agg (Ce m)] (·= .int .i64 r):=by
 refine Ad.nle (Ad.intro Tryz.func179 rfl rfl (by show _≤69;simp) ?_)
 unfold Q4 at h
 refine nS (sq ?_)
 refine ar rfl (qn (sq (sq ?_)))
 refine ar rfl (qn (bk ?_))
 obtain⟨o0,hJ0,hO0⟩:=Ah h
 clear h
 refine AWP.Bw (ι:=Nat×(Unit)×(Unit)) (fun zz=>[(1,.ptr 0 0),(3,.int .i64 ((zz.1:Nat):Int))]) (fun zz=>[.box [.sl 2 (m.Nodes.map A6),.sl 8 (m.Lifts.map A7),.sl 7 (m.Runs.map Bd),.sl 1 (m.Bases.map A5)]]) (fun zz=>zz.1≤m.Runs.length∧Am (Ls m) zz.1 ((m.Runs).drop zz.1) zz.2.1=some o0) (fun zz=>m.Runs.length - zz.1) (0,(),()) ⟨Nat.zero_le _,hJ0⟩ cu cu (fun x=>⟨rfl,rfl,rfl⟩) ?_
 clear hJ0
 rintro⟨k0,⟨⟩,⟨⟩⟩ ⟨hk0,hJ0⟩
 dsimp only at hk0 hJ0 ⊢
 refine sq (sq ?_)
 refine rg rfl fun K j=>?_
 intro hm
 refine j _ _ (qn ?_)
 refine AWP.cond (Ak (fun hc=>?_) (fun hc=>?_))
 rotate_left
 ·obtain rfl:=Bf hJ0 (fun hl=>by have:=Ah9 hc;omega)
  have h:=Be hO0;try dsimp only at h
  have hkl:m.Runs.length=k0:=by have:=Ah9 hc;omega
  subst hkl
  refine xt (qe (qe (bs (qn (sq (ar rfl (qn (rt ?_))))))))
  cases h;exact en Tryz.results179
 have hlt0:k0<m.Runs.length:=by have:=Aia hc;omega
 obtain⟨x_2,b0,hx0_,h,hJ0⟩:=A9 hJ0 hlt0
 have hx0:=Ay hx0_
 have hw0:=wk (k:=k0) (by omega)
 unfold Ls at h;try dsimp only at h
 refine sk (qn (sq (bk (sq ?_))))
 refine rg rfl fun K j=>?_
 refine Bn.of (f:=Bd) (l:=m.Runs) hx0 ?_
 refine nS ?_
 refine j _ _ (qn (sq (sq ?_)))
 refine rg rfl fun K j=>?_
 obtain⟨y3,hy3,h⟩:=Ah h
 refine An.pure Tryz.call254 (Db x_2.ID 1 9999 hy3) rfl fun _ hr=>?_
 subst hr
 refine nS ?_
 revert h;refine gf (fun hc h=>?_) fun hc h=>?_
 rotate_left
 ·refine j _ _ (qn ?_)
  refine AWP.cond (Af ?_)
  refine sq (ar rfl (qn (rt (qr (br (qr (qr ?_)))))))
  obtain rfl:=Aa h
  obtain rfl:=Ae hJ0
  replace h:=Al hO0
  refine br (qr ?_)
  cases h;exact en Tryz.results179
 obtain⟨y4,hy4,h⟩:=Ah h
 refine An.pure Tryz.call254 (Db x_2.Operator 1 8 hy4) rfl fun _ hr=>?_
 subst hr
 refine nS ?_
 revert h;refine gf (fun hc h=>?_) fun hc h=>?_
 rotate_left
 ·refine j _ _ (qn ?_)
  refine AWP.cond (Af ?_)
  refine sq (ar rfl (qn (rt (qr (br (qr (qr ?_)))))))
  obtain rfl:=Aa h
  obtain rfl:=Ae hJ0
  replace h:=Al hO0
  refine br (qr ?_)
  cases h;exact en Tryz.results179
 obtain⟨y5,hy5,h⟩:=Ah h
 refine An.pure Tryz.call254 (Db x_2.Grade 1 4 hy5) rfl fun _ hr=>?_
 subst hr
 refine nS ?_
 revert h;refine gf (fun hc h=>?_) fun hc h=>?_
 rotate_left
 ·refine j _ _ (qn ?_)
  refine AWP.cond (Af ?_)
  refine sq (ar rfl (qn (rt (qr (br (qr (qr ?_)))))))
  obtain rfl:=Aa h
  obtain rfl:=Ae hJ0
  replace h:=Al hO0
  refine br (qr ?_)
  cases h;exact en Tryz.results179
 obtain⟨y6,hy6,h⟩:=Ah h
 refine An.pure Tryz.call254 (Db x_2.Zone 1 32 hy6) rfl fun _ hr=>?_
 subst hr
 refine nS ?_
 revert h;refine gf (fun hc h=>?_) fun hc h=>?_
 rotate_left
 ·refine j _ _ (qn ?_)
  refine AWP.cond (Af ?_)
  refine sq (ar rfl (qn (rt (qr (br (qr (qr ?_)))))))
  obtain rfl:=Aa h
  obtain rfl:=Ae hJ0
  replace h:=Al hO0
  refine br (qr ?_)
  cases h;exact en Tryz.results179
 obtain⟨y7,hy7,h⟩:=Ah h
 refine An.pure Tryz.call254 (Db x_2.Length 10 20000 hy7) rfl fun _ hr=>?_
 subst hr
 refine nS ?_
 refine j _ _ (qn ?_)
 revert h;refine ca rfl (fun hc h=>?_) fun hc h=>?_
 ·refine sq (ar rfl (qn (rt (qr (br (qr (qr ?_)))))))
  obtain rfl:=Aa h
  obtain rfl:=Ae hJ0
  replace h:=Al hO0
  refine br (qr ?_)
  cases h;exact en Tryz.results179
 refine sk (qn (sq (sq ?_)))
 refine AWP.draw Tryz.mixed (by kernel_rfl) ?_;intro K j
 refine nS ?_
 revert h;refine gt (fun hc h=>?_) fun hc h=>?_
 ·obtain⟨x_8,hx_8,h⟩:=Ah h
  refine Bn.of (f:=Bd) (l:=m.Runs) hx_8 ?_
  refine nS ?_
  refine j _ _ _ (by kernel_rfl) ?_
  refine qn ?_
  revert h;refine ca rfl (fun hc h=>?_) fun hc h=>?_
  ·refine sq (ar rfl (qn (rt (qr (br (qr (qr ?_)))))))
   obtain rfl:=Aa h
   obtain rfl:=Ae hJ0
   replace h:=Al hO0
   refine br (qr ?_)
   cases h;exact en Tryz.results179
  refine sk (qn (sq ?_))
  refine rg rfl fun K j=>?_
  obtain⟨y9,hy9,h⟩:=Ah h
  refine An.pure Tryz.call255 (Kz m x_2.To x_2.From hy9) rfl fun _ hr=>?_
  subst hr
  refine nS ?_
  refine j _ _ (qn (sq ?_))
  refine ar rfl (qn ?_)
  revert h;refine ca rfl (fun hc h=>?_) fun hc h=>?_
  ·refine sq (ar rfl (qn (rt (br (qr (qr ?_))))))
   obtain rfl:=Aa h
   obtain rfl:=Ae hJ0
   replace h:=Al hO0
   refine br (qr ?_)
   cases h;exact en Tryz.results179
  refine sk (bn (qn (ar rfl (qn ?_))))
  obtain rfl:=Aa h
  refine⟨(k0+1,(),()),⟨by dsimp only;omega,Ai hJ0⟩,by dsimp only;omega,?_,?_⟩
  ·exact cuw hw0
  exact cuw hw0
 refine j _ _ _ (by kernel_rfl) ?_
 refine qn ?_
 refine AWP.cond (Bj ?_)
 refine sk (qn (sq ?_))
 refine rg rfl fun K j=>?_
 obtain⟨y10,hy10,h⟩:=Ah h
 refine An.pure Tryz.call255 (Kz m x_2.To x_2.From hy10) rfl fun _ hr=>?_
 subst hr
 refine nS ?_
 refine j _ _ (qn (sq ?_))
 refine ar rfl (qn ?_)
 revert h;refine ca rfl (fun hc h=>?_) fun hc h=>?_
 ·refine sq (ar rfl (qn (rt (br (qr (qr ?_))))))
  obtain rfl:=Aa h
  obtain rfl:=Ae hJ0
  replace h:=Al hO0
  refine br (qr ?_)
  cases h;exact en Tryz.results179
 refine sk (bn (qn (ar rfl (qn ?_))))
 obtain rfl:=Aa h
 refine⟨(k0+1,(),()),⟨by dsimp only;omega,Ai hJ0⟩,by dsimp only;omega,?_,?_⟩
 ·exact cuw hw0
 exact cuw hw0
def Ea (m:Ba) (k1:Nat) (_x:Unit) (sv:Unit):Option (Out (Unit) (Int)):=
 (Dh m.Bases (((k1:Nat):Int)+1)).bind fun x_3=>(Dh m.Bases (IntKind.i64.wrap ((((k1:Nat):Int)+1) - 1))).bind fun x_4=>(bif (decide (x_3≤x_4))then some (Out.ret 7)else some (Out.next ()))
def Q6 (m:Ba):Option (Int):=
 (Jr (Ea m) (m.Bases.length - 1) ()).bind fun o1=>o1.on fun s1=>some 0
def Nn (m:Ba) (k4:Nat) (x_6:Int) (sv:Unit):Option (Out (Unit) (Int)):=
 (Eb m x_6).bind fun y7=>(bif (!y7.2)then some (Out.ret 8)else some (Out.next ()))
def O7 (m:Ba):Option (Int):=
 (bif (decide (((m.Bases.length:Nat):Int)=0))then some 8 else(Am (Nn m) 0 m.Bases ()).bind fun o4=>o4.on fun s4=>Q6 m)
theorem bR (m:Ba) {r:Int} (h:O7 m=some r):Ad Tryz.prog 180 [.agg (Ce m)] (·= .int .i64 r):=by
 refine Ad.nle (Ad.intro Tryz.func180 rfl rfl (by show _≤49;simp) ?_)
 unfold O7 at h
 refine nS (sq ?_)
 refine ar rfl (qn (sq (sq ?_)))
 refine rg rfl fun K j=>?_
 intro hm
 refine j _ _ (qn ?_)
 revert h;refine ca rfl (fun hc h=>?_) fun hc h=>?_
 ·refine sq (ar rfl (qn (rt (qr ?_))))
  cases h;exact en Tryz.results180
 refine sk (qn ?_)
 refine AWP.L3 (ι:=(Unit)×(Unit)) (fun zz=>[(1,.ptr 0 0)]) (fun zz=>[.box [.sl 2 (m.Nodes.map A6),.sl 8 (m.Lifts.map A7),.sl 7 (m.Runs.map Bd),.sl 1 (m.Bases.map A5)]]) (fun zz=>Q6 m=some r) (fun zz=>⟨rfl,rfl,rfl⟩) ?_ ?_
 ·refine sq (ar rfl (qn (bk ?_)))
  obtain⟨o4,hJ4,hO4⟩:=Ah h
  clear h
  refine AWP.Bw (ι:=Nat×(Unit)×(Unit)) (fun zz=>[(1,.ptr 0 0),(3,.int .i64 ((zz.1:Nat):Int))]) (fun zz=>[.box [.sl 2 (m.Nodes.map A6),.sl 8 (m.Lifts.map A7),.sl 7 (m.Runs.map Bd),.sl 1 (m.Bases.map A5)]]) (fun zz=>zz.1≤m.Bases.length∧Am (Nn m) zz.1 ((m.Bases).drop zz.1) zz.2.1=some o4) (fun zz=>m.Bases.length - zz.1) (0,(),()) ⟨Nat.zero_le _,hJ4⟩ cu cu (fun x=>⟨rfl,rfl,rfl⟩) ?_
  clear hJ4
  rintro⟨k4,⟨⟩,⟨⟩⟩ ⟨hk4,hJ4⟩
  dsimp only at hk4 hJ4 ⊢
  refine sq (sq ?_)
  refine rg rfl fun K j=>?_
  intro hm
  refine j _ _ (qn ?_)
  refine AWP.cond (Ak (fun hc=>?_) (fun hc=>?_))
  rotate_left
  ·obtain rfl:=Bf hJ4 (fun hl=>by have:=Ah9 hc;omega)
   have h:=Be hO4;try dsimp only at h
   have hkl:m.Bases.length=k4:=by have:=Ah9 hc;omega
   subst hkl
   refine xt (qe (qe (bs (qn ?_))))
   exact⟨((),()),h,cu,cu⟩
  have hlt4:k4<m.Bases.length:=by have:=Aia hc;omega
  obtain⟨x_6,b4,hx4_,h,hJ4⟩:=A9 hJ4 hlt4
  have hx4:=Ay hx4_
  have hw4:=wk (k:=k4) (by omega)
  unfold Nn at h;try dsimp only at h
  refine sk (qn (sq (bk (sq ?_))))
  refine AWP.draw Tryz.mixed (by kernel_rfl) ?_;intro K j
  refine nS ?_
  refine Bn.of (f:=A5) (l:=m.Bases) hx4 ?_
  refine nS ?_
  obtain⟨y7,hy7,h⟩:=Ah h
  refine B7.pure Tryz.call98 (Pu m x_6 hy7) rfl ?_
  refine nS ?_
  refine j _ _ _ (by kernel_rfl) ?_
  refine qn (sq (ar rfl (qn ?_)))
  revert h;refine ca rfl (fun hc h=>?_) fun hc h=>?_
  ·refine sq (ar rfl (qn (rt (br (qr (qr ?_))))))
   obtain rfl:=Aa h
   obtain rfl:=Ae hJ4
   replace h:=Al hO4
   refine br (qr ?_)
   cases h;exact en Tryz.results180
  refine sk (bn (qn (ar rfl (qn ?_))))
  obtain rfl:=Aa h
  refine⟨(k4+1,(),()),⟨by dsimp only;omega,Ai hJ4⟩,by dsimp only;omega,?_,?_⟩
  ·exact cuw hw4
  exact cuw hw4
 rintro⟨⟨⟩,⟨⟩⟩ h
 try dsimp only at h ⊢
 unfold Q6 at h;try dsimp only at h
 refine sq (sq (ar rfl (qn (bk ?_))))
 obtain⟨o1,hJ1,hO1⟩:=Ah h
 clear h
 obtain⟨hn1,hJ1⟩:=Sd hJ1
 refine AWP.Bw (ι:=Nat×(Unit)×(Unit)) (fun zz=>[(1,.ptr 0 0),(6,.int .i64 (((zz.1:Nat):Int)+(1:Int)))]) (fun zz=>[.box [.sl 2 (m.Nodes.map A6),.sl 8 (m.Lifts.map A7),.sl 7 (m.Runs.map Bd),.sl 1 (m.Bases.map A5)]]) (fun zz=>zz.1≤(m.Bases.length - 1)∧Am (Ea m) zz.1 ((List.replicate (m.Bases.length - 1) ()).drop zz.1) zz.2.1=some o1) (fun zz=>(m.Bases.length - 1) - zz.1) (0,(),()) ⟨Nat.zero_le _,hJ1⟩ cu cu (fun x=>⟨rfl,rfl,rfl⟩) ?_
 clear hJ1
 rintro⟨k1,⟨⟩,⟨⟩⟩ ⟨hk1,hJ1⟩
 dsimp only at hk1 hJ1 ⊢
 refine sq (sq ?_)
 refine rg rfl fun K j=>?_
 intro hm
 refine j _ _ (qn ?_)
 refine AWP.cond (Ak (fun hc=>?_) (fun hc=>?_))
 rotate_left
 ·obtain rfl:=Bf hJ1 (fun hl=>by rw[List.length_replicate]at hl;have:=Ah9 hc;omega)
  have h:=Be hO1;try dsimp only at h
  have hkl:(m.Bases.length - 1)=k1:=by have:=Ah9 hc;omega
  subst hkl
  refine xt (qe (qe (bs (qn (sq (ar rfl (qn (rt ?_))))))))
  cases h;exact en Tryz.results180
 have hlt1:k1<(m.Bases.length - 1):=by have:=Aia hc;omega
 obtain⟨_,b1,_,h,hJ1⟩:=A9 hJ1 (by rw[List.length_replicate];exact hlt1)
 have hw1:IntKind.i64.wrap ((((k1:Nat):Int)+1)+1)=(((k1:Nat):Int)+1+1):=by rw[wrap_i64]<;>omega
 unfold Ea at h;try dsimp only at h
 refine sk (qn (sq (bk (sq ?_))))
 refine AWP.draw Tryz.mixed (by kernel_rfl) ?_;intro K j
 refine nS ?_
 obtain⟨x_3,hx_3,h⟩:=Ah h
 refine Bn.of (f:=A5) (l:=m.Bases) hx_3 ?_
 refine nS ?_
 obtain⟨x_4,hx_4,h⟩:=Ah h
 refine Bn.of (f:=A5) (l:=m.Bases) hx_4 ?_
 refine nS ?_
 refine j _ _ _ (by kernel_rfl) ?_
 refine qn ?_
 revert h;refine ca rfl (fun hc h=>?_) fun hc h=>?_
 ·refine sq (ar rfl (qn (rt (br (qr (qr ?_))))))
  obtain rfl:=Aa h
  obtain rfl:=Ae hJ1
  replace h:=Al hO1
  refine br (qr ?_)
  cases h;exact en Tryz.results180
 refine sk (bn (qn (ar rfl (qn ?_))))
 obtain rfl:=Aa h
 refine⟨(k1+1,(),()),⟨by dsimp only;omega,Ai hJ1⟩,by dsimp only;omega,?_,?_⟩
 ·exact cuw hw1
 exact cuw hw1
def H0 (m:Ba):Option (Int):=
 (bif (decide (64<((m.Nodes.length:Nat):Int)))then some 4 else(bif (decide (32<((m.Lifts.length:Nat):Int)))then some 4 else(bif (decide (64<((m.Runs.length:Nat):Int)))then some 4 else(bif (decide (64<((m.Bases.length:Nat):Int)))then some 4 else(R8 m.Nodes).bind fun y1=>(bif (decide (y1≠0))then some y1 else(O6 m).bind fun y2=>(bif (decide (y2≠0))then some y2 else(Q4 m).bind fun y3=>(bif (decide (y3≠0))then some y3 else(O7 m).bind fun y4=>some y4)))))))
theorem bS (m:Ba) {r:Int} (h:H0 m=some r):Ad Tryz.prog 85 [.agg (Ce m)] (·= .int .i64 r):=by
 refine Ad.nle (Ad.intro Tryz.func85 rfl rfl (by show _≤46;simp) ?_)
 unfold H0 at h
 refine nS (sq ?_)
 refine ar rfl (qn (sq (sq ?_)))
 refine rg rfl fun K j=>?_
 intro hm
 revert h;refine gf (fun hc h=>?_) fun hc h=>?_
 rotate_left
 ·refine j _ _ (qn ?_)
  refine AWP.cond (Af ?_)
  refine sq (ar rfl (qn (rt (qr ?_))))
  cases h;exact en Tryz.results85
 intro hm
 revert h;refine gf (fun hc h=>?_) fun hc h=>?_
 rotate_left
 ·refine j _ _ (qn ?_)
  refine AWP.cond (Af ?_)
  refine sq (ar rfl (qn (rt (qr ?_))))
  cases h;exact en Tryz.results85
 intro hm
 revert h;refine gf (fun hc h=>?_) fun hc h=>?_
 rotate_left
 ·refine j _ _ (qn ?_)
  refine AWP.cond (Af ?_)
  refine sq (ar rfl (qn (rt (qr ?_))))
  cases h;exact en Tryz.results85
 intro hm
 refine j _ _ (qn ?_)
 revert h;refine ca rfl (fun hc h=>?_) fun hc h=>?_
 ·refine sq (ar rfl (qn (rt (qr ?_))))
  cases h;exact en Tryz.results85
 refine sk (qn (sq (sq ?_)))
 refine rg rfl fun K j=>?_
 obtain⟨y1,hy1,h⟩:=Ah h
 refine An.pure Tryz.call177 (bP m.Nodes hy1) rfl fun _ hr=>?_
 subst hr
 refine nS ?_
 refine j _ _ (qn (sq ?_))
 refine ar rfl (qn ?_)
 revert h;refine ca rfl (fun hc h=>?_) fun hc h=>?_
 ·refine sq (ar rfl (qn (rt (qr ?_))))
  cases h;exact en Tryz.results85
 refine sk (qn (sq (sq ?_)))
 refine rg rfl fun K j=>?_
 obtain⟨y2,hy2,h⟩:=Ah h
 refine An.pure Tryz.call178 (bQ m hy2) rfl fun _ hr=>?_
 subst hr
 refine nS ?_
 refine j _ _ (qn (sq ?_))
 refine ar rfl (qn ?_)
 revert h;refine ca rfl (fun hc h=>?_) fun hc h=>?_
 ·refine sq (ar rfl (qn (rt (qr ?_))))
  cases h;exact en Tryz.results85
 refine sk (qn (sq (sq ?_)))
 refine rg rfl fun K j=>?_
 obtain⟨y3,hy3,h⟩:=Ah h
 refine An.pure Tryz.call179 (dU m hy3) rfl fun _ hr=>?_
 subst hr
 refine nS ?_
 refine j _ _ (qn (sq ?_))
 refine ar rfl (qn ?_)
 revert h;refine ca rfl (fun hc h=>?_) fun hc h=>?_
 ·refine sq (ar rfl (qn (rt (qr ?_))))
  cases h;exact en Tryz.results85
 refine sk (qn (sq ?_))
 refine rg rfl fun K j=>?_
 obtain⟨y4,hy4,h⟩:=Ah h
 refine An.pure Tryz.call180 (bR m hy4) rfl fun _ hr=>?_
 subst hr
 refine nS ?_
 refine j _ _ (qn (rt ?_))
 cases h;exact en Tryz.results85
def Qn (c:Bk):Option (Bool):=
 (bif (decide (1≤c.Kind))then (bif (decide (c.Kind≤3))then (bif (decide (1≤c.Target))then (bif (decide (c.Target≤9999))then (bif (decide (1≤c.By))then (bif (decide (c.By≤6))then (bif (decide (0≤c.Since))then some (decide (c.Since≤20000000))else some false)else some false)else some false)else some false)else some false)else some false)else some false)
theorem eV (c:Bk) {r:Bool} (h:Qn c=some r):Ad Tryz.prog 181 [.agg (Au c)] (·= .bool r):=by
 refine Ad.nle (Ad.intro Tryz.func181 rfl rfl (by show _≤41;simp) ?_)
 unfold Qn at h
 refine nS (sq ?_)
 refine ar rfl (qn (sq ?_))
 refine rg rfl fun K j=>?_
 revert h;refine gt (fun hc h=>?_) fun hc h=>?_
 rotate_left
 ·refine j _ _ (qn (rt ?_))
  cases h;exact en Tryz.results181
 revert h;refine gt (fun hc h=>?_) fun hc h=>?_
 rotate_left
 ·refine j _ _ (qn (rt ?_))
  cases h;exact en Tryz.results181
 revert h;refine gt (fun hc h=>?_) fun hc h=>?_
 ·revert h;refine gt (fun hc h=>?_) fun hc h=>?_
  ·revert h;refine gt (fun hc h=>?_) fun hc h=>?_
   ·revert h;refine gt (fun hc h=>?_) fun hc h=>?_
    ·revert h;refine gt (fun hc h=>?_) fun hc h=>?_
     ·refine j _ _ (qn (rt ?_))
      cases h;exact en Tryz.results181
     refine j _ _ (qn (rt ?_))
     cases h;exact en Tryz.results181
    refine j _ _ (qn (rt ?_))
    cases h;exact en Tryz.results181
   refine j _ _ (qn (rt ?_))
   cases h;exact en Tryz.results181
  refine j _ _ (qn (rt ?_))
  cases h;exact en Tryz.results181
 refine j _ _ (qn (rt ?_))
 cases h;exact en Tryz.results181
def Ew (kind:Int) (target:Int) (by_:Int) (k0:Nat) (x_2:Bk) (sv:Unit):Option (Out (Unit) (Int)):=
 (bif (decide (x_2.Kind=kind))then (bif (decide (x_2.Target=target))then (bif (decide (x_2.By=by_))then some (Out.ret ((k0:Nat):Int))else some (Out.next ()))else some (Out.next ()))else some (Out.next ()))
def Fk (l:List Bk) (kind:Int) (target:Int) (by_:Int):Option (Int):=
 (Am (Ew kind target by_) 0 l ()).bind fun o0=>o0.on fun s0=>some (-1)
theorem bB (l:List Bk) (kind:Int) (target:Int) (by_:Int) {r:Int} (h:Fk l kind target by_=some r):Ad Tryz.prog 182 [.sl 4 (l.map Au),.int .i64 kind,.int .i64 target,.int .i64 by_] (·= .int .i64 r):=by
 refine Ad.nle (Ad.intro Tryz.func182 rfl rfl (by show _≤42;simp) ?_)
 unfold Fk at h
 refine nS (sq ?_)
 refine ar rfl (qn (sq (sq ?_)))
 refine ar rfl (qn (bk ?_))
 obtain⟨o0,hJ0,hO0⟩:=Ah h
 clear h
 refine AWP.Bw (ι:=Nat×(Unit)×(Unit)) (fun zz=>[(0,.sl 4 (l.map Au)),(1,.int .i64 kind),(2,.int .i64 target),(3,.int .i64 by_),(9,.int .i64 ((zz.1:Nat):Int))]) (fun zz=>[]) (fun zz=>zz.1≤l.length∧Am (Ew kind target by_) zz.1 ((l).drop zz.1) zz.2.1=some o0) (fun zz=>l.length - zz.1) (0,(),()) ⟨Nat.zero_le _,hJ0⟩ cu cu (fun x=>⟨rfl,rfl,rfl⟩) ?_
 clear hJ0
 rintro⟨k0,⟨⟩,⟨⟩⟩ ⟨hk0,hJ0⟩
 dsimp only at hk0 hJ0 ⊢
 refine sq (sq ?_)
 refine rg rfl fun K j=>?_
 intro hm
 refine j _ _ (qn ?_)
 refine AWP.cond (Ak (fun hc=>?_) (fun hc=>?_))
 rotate_left
 ·obtain rfl:=Bf hJ0 (fun hl=>by have:=Ah9 hc;omega)
  have h:=Be hO0;try dsimp only at h
  have hkl:l.length=k0:=by have:=Ah9 hc;omega
  subst hkl
  refine xt (qe (qe (bs (qn (sq (ar rfl (qn (rt ?_))))))))
  cases h;exact en Tryz.results182
 have hlt0:k0<l.length:=by have:=Aia hc;omega
 obtain⟨x_2,b0,hx0_,h,hJ0⟩:=A9 hJ0 hlt0
 have hx0:=Ay hx0_
 have hw0:=wk (k:=k0) (by omega)
 unfold Ew at h;try dsimp only at h
 refine sk (qn (sq (bk (sq ?_))))
 refine rg rfl fun K j=>?_
 refine Bn.of (f:=Au) (l:=l) hx0 ?_
 refine nS ?_
 revert h;refine gt (fun hc h=>?_) fun hc h=>?_
 ·refine Bn.of (f:=Au) (l:=l) hx0 ?_
  refine nS ?_
  revert h;refine gt (fun hc h=>?_) fun hc h=>?_
  ·refine Bn.of (f:=Au) (l:=l) hx0 ?_
   refine nS ?_
   refine j _ _ (qn ?_)
   revert h;refine ca rfl (fun hc h=>?_) fun hc h=>?_
   ·refine sq (ar rfl (qn (rt (br (qr (qr ?_))))))
    obtain rfl:=Aa h
    obtain rfl:=Ae hJ0
    replace h:=Al hO0
    refine br (qr ?_)
    cases h;exact en Tryz.results182
   refine sk (bn (qn (ar rfl (qn ?_))))
   obtain rfl:=Aa h
   refine⟨(k0+1,(),()),⟨by dsimp only;omega,Ai hJ0⟩,by dsimp only;omega,?_,?_⟩
   ·exact cuw hw0
   exact cuw hw0
  refine j _ _ (qn ?_)
  refine AWP.cond (Bj ?_)
  refine sk (bn (qn (ar rfl (qn ?_))))
  obtain rfl:=Aa h
  refine⟨(k0+1,(),()),⟨by dsimp only;omega,Ai hJ0⟩,by dsimp only;omega,?_,?_⟩
  ·exact cuw hw0
  exact cuw hw0
 refine j _ _ (qn ?_)
 refine AWP.cond (Bj ?_)
 refine sk (bn (qn (ar rfl (qn ?_))))
 obtain rfl:=Aa h
 refine⟨(k0+1,(),()),⟨by dsimp only;omega,Ai hJ0⟩,by dsimp only;omega,?_,?_⟩
 ·exact cuw hw0
 exact cuw hw0
def G7 (l:List Bk) (k0:Nat) (x_2:Bk) (sv:Unit):Option (Out (Unit) (Int)):=
 (Qn x_2).bind fun y3=>(bif (!y3)then some (Out.ret 2)else okB (decide (0≤((k0:Nat):Int)∧((k0:Nat):Int)≤((l.length:Nat):Int))) ((Fk (l.take k0) x_2.Kind x_2.Target x_2.By).bind fun y4=>(bif (decide (0≤y4))then some (Out.ret 7)else some (Out.next ()))))
def Hx (l:List Bk):Option (Int):=
 (bif (decide (200<((l.length:Nat):Int)))then some 4 else(Am (G7 l) 0 l ()).bind fun o0=>o0.on fun s0=>some 0)
theorem bA (l:List Bk) {r:Int} (h:Hx l=some r):Ad Tryz.prog 86 [.sl 4 (l.map Au)] (·= .int .i64 r):=by
 refine Ad.nle (Ad.intro Tryz.func86 rfl rfl (by show _≤39;simp) ?_)
 unfold Hx at h
 refine nS (sq ?_)
 refine ar rfl (qn (sq (sq ?_)))
 refine rg rfl fun K j=>?_
 intro hm
 refine j _ _ (qn ?_)
 revert h;refine ca rfl (fun hc h=>?_) fun hc h=>?_
 ·refine sq (ar rfl (qn (rt (qr ?_))))
  cases h;exact en Tryz.results86
 refine sk (qn (sq (sq (ar rfl (qn (bk ?_))))))
 obtain⟨o0,hJ0,hO0⟩:=Ah h
 clear h
 refine AWP.Bw (ι:=Nat×(Unit)×(Unit)) (fun zz=>[(0,.sl 4 (l.map Au)),(3,.int .i64 ((zz.1:Nat):Int))]) (fun zz=>[]) (fun zz=>zz.1≤l.length∧Am (G7 l) zz.1 ((l).drop zz.1) zz.2.1=some o0) (fun zz=>l.length - zz.1) (0,(),()) ⟨Nat.zero_le _,hJ0⟩ cu cu (fun x=>⟨rfl,rfl,rfl⟩) ?_
 clear hJ0
 rintro⟨k0,⟨⟩,⟨⟩⟩ ⟨hk0,hJ0⟩
 dsimp only at hk0 hJ0 ⊢
 refine sq (sq ?_)
 refine rg rfl fun K j=>?_
 intro hm
 refine j _ _ (qn ?_)
 refine AWP.cond (Ak (fun hc=>?_) (fun hc=>?_))
 rotate_left
 ·obtain rfl:=Bf hJ0 (fun hl=>by have:=Ah9 hc;omega)
  have h:=Be hO0;try dsimp only at h
  have hkl:l.length=k0:=by have:=Ah9 hc;omega
  subst hkl
  refine xt (qe (qe (bs (qn (sq (ar rfl (qn (rt ?_))))))))
  cases h;exact en Tryz.results86
 have hlt0:k0<l.length:=by have:=Aia hc;omega
 obtain⟨x_2,b0,hx0_,h,hJ0⟩:=A9 hJ0 hlt0
 have hx0:=Ay hx0_
 have hw0:=wk (k:=k0) (by omega)
 unfold G7 at h;try dsimp only at h
 refine sk (qn (sq (bk (sq (sq ?_)))))
 refine rg rfl fun K j=>?_
 refine Bn.of (f:=Au) (l:=l) hx0 ?_
 refine nS ?_
 obtain⟨y3,hy3,h⟩:=Ah h
 refine An.pure Tryz.call181 (eV x_2 hy3) rfl fun _ hr=>?_
 subst hr
 refine nS ?_
 refine j _ _ (qn ?_)
 revert h;refine ca rfl (fun hc h=>?_) fun hc h=>?_
 ·refine sq (ar rfl (qn (rt (qr (br (qr (qr ?_)))))))
  obtain rfl:=Aa h
  obtain rfl:=Ae hJ0
  replace h:=Al hO0
  refine br (qr ?_)
  cases h;exact en Tryz.results86
 refine sk (qn (sq ?_))
 refine AWP.draw Tryz.mixed (by kernel_rfl) ?_;intro K j
 refine nS ?_
 obtain⟨hk,h⟩:=Jf h
 intro hm
 (repeat(refine⟨by omega,?_⟩))
 refine Bn.of (f:=Au) (l:=l) hx0 ?_
 refine nS ?_
 refine Bn.of (f:=Au) (l:=l) hx0 ?_
 refine nS ?_
 refine Bn.of (f:=Au) (l:=l) hx0 ?_
 refine nS ?_
 obtain⟨y4,hy4,h⟩:=Ah h
 refine B7.pure Tryz.call182 (bB (l.take k0) x_2.Kind x_2.Target x_2.By hy4) rfl ?_
 refine nS ?_
 refine j _ _ _ (by kernel_rfl) ?_
 refine qn ?_
 revert h;refine ca rfl (fun hc h=>?_) fun hc h=>?_
 ·refine sq (ar rfl (qn (rt (br (qr (qr ?_))))))
  obtain rfl:=Aa h
  obtain rfl:=Ae hJ0
  replace h:=Al hO0
  refine br (qr ?_)
  cases h;exact en Tryz.results86
 refine sk (bn (qn (ar rfl (qn ?_))))
 obtain rfl:=Aa h
 refine⟨(k0+1,(),()),⟨by dsimp only;omega,Ai hJ0⟩,by dsimp only;omega,?_,?_⟩
 ·exact cuw hw0
 exact cuw hw0
def O4 (n_:Int) (lo:Int) (hi:Int):Option (Bool):=
 (bif (decide (lo≤n_))then some (decide (n_≤hi))else some false)
theorem Oq (n_:Int) (lo:Int) (hi:Int) {r:Bool} (h:O4 n_ lo hi=some r):Ad Tryz.prog 257 [.int .i64 n_,.int .i64 lo,.int .i64 hi] (·= .bool r):=by
 refine Ad.nle (Ad.intro Tryz.func257 rfl rfl (by show _≤15;simp) ?_)
 unfold O4 at h
 refine nS (sq ?_)
 refine ar rfl (qn (sq ?_))
 refine rg rfl fun K j=>?_
 revert h;refine gt (fun hc h=>?_) fun hc h=>?_
 ·refine j _ _ (qn (rt ?_))
  cases h;exact en Tryz.results257
 refine j _ _ (qn (rt ?_))
 cases h;exact en Tryz.results257
def Uf (n_:Int) (k0:Nat) (x_2:Int) (sv:Unit):Option (Out (Unit) (Bool)):=
 (bif (decide (x_2=n_))then some (Out.ret true)else some (Out.next ()))
def Ts (l:List Int) (n_:Int):Option (Bool):=
 (Am (Uf n_) 0 l ()).bind fun o0=>o0.on fun s0=>some false
theorem V6 (l:List Int) (n_:Int) {r:Bool} (h:Ts l n_=some r):Ad Tryz.prog 258 [.sl 1 (l.map A5),.int .i64 n_] (·= .bool r):=by
 refine Ad.nle (Ad.intro Tryz.func258 rfl rfl (by show _≤18;simp) ?_)
 unfold Ts at h
 refine nS (sq ?_)
 refine ar rfl (qn (sq (sq ?_)))
 refine ar rfl (qn (bk ?_))
 obtain⟨o0,hJ0,hO0⟩:=Ah h
 clear h
 refine AWP.Bw (ι:=Nat×(Unit)×(Unit)) (fun zz=>[(0,.sl 1 (l.map A5)),(1,.int .i64 n_),(5,.int .i64 ((zz.1:Nat):Int))]) (fun zz=>[]) (fun zz=>zz.1≤l.length∧Am (Uf n_) zz.1 ((l).drop zz.1) zz.2.1=some o0) (fun zz=>l.length - zz.1) (0,(),()) ⟨Nat.zero_le _,hJ0⟩ cu cu (fun x=>⟨rfl,rfl,rfl⟩) ?_
 clear hJ0
 rintro⟨k0,⟨⟩,⟨⟩⟩ ⟨hk0,hJ0⟩
 dsimp only at hk0 hJ0 ⊢
 refine sq (sq ?_)
 refine rg rfl fun K j=>?_
 intro hm
 refine j _ _ (qn ?_)
 refine AWP.cond (Ak (fun hc=>?_) (fun hc=>?_))
 rotate_left
 ·obtain rfl:=Bf hJ0 (fun hl=>by have:=Ah9 hc;omega)
  have h:=Be hO0;try dsimp only at h
  have hkl:l.length=k0:=by have:=Ah9 hc;omega
  subst hkl
  refine xt (qe (qe (bs (qn (sq (ar rfl (qn (rt ?_))))))))
  cases h;exact en Tryz.results258
 have hlt0:k0<l.length:=by have:=Aia hc;omega
 obtain⟨x_2,b0,hx0_,h,hJ0⟩:=A9 hJ0 hlt0
 have hx0:=Ay hx0_
 have hw0:=wk (k:=k0) (by omega)
 unfold Uf at h;try dsimp only at h
 refine sk (qn (sq (bk (sq ?_))))
 refine rg rfl fun K j=>?_
 refine Bn.of (f:=A5) (l:=l) hx0 ?_
 refine nS ?_
 refine j _ _ (qn ?_)
 revert h;refine ca rfl (fun hc h=>?_) fun hc h=>?_
 ·refine sq (ar rfl (qn (rt (br (qr (qr ?_))))))
  obtain rfl:=Aa h
  obtain rfl:=Ae hJ0
  replace h:=Al hO0
  refine br (qr ?_)
  cases h;exact en Tryz.results258
 refine sk (bn (qn (ar rfl (qn ?_))))
 obtain rfl:=Aa h
 refine⟨(k0+1,(),()),⟨by dsimp only;omega,Ai hJ0⟩,by dsimp only;omega,?_,?_⟩
 ·exact cuw hw0
 exact cuw hw0
def Nm (l:Bp) (k2:Nat) (x_4:Fh) (sv:Unit):Option (Out (Unit) (Int)):=
 (Ts l.Items x_4.Item).bind fun y5=>(bif (!y5)then some (Out.ret 8)else (O4 x_4.By 1 9999).bind fun y6=>(bif (!y6)then some (Out.ret 17)else (O4 x_4.At 0 20000000).bind fun y7=>(bif (!y7)then some (Out.ret 2)else (bif (decide (0<((k2:Nat):Int)))then (Dh l.Signs (IntKind.i64.wrap (((k2:Nat):Int) - 1))).bind fun x_8=>(bif (decide (x_4.At<x_8.At))then some (Out.ret 11)else some (Out.next ()))else some (Out.next ())))))
def Nk (l:Bp):Option (Int):=
 (Am (Nm l) 0 l.Signs ()).bind fun o2=>o2.on fun s2=>some 0
def Nl (l:Bp) (k8:Nat) (x_10:Int) (sv:Unit):Option (Out (Unit) (Int)):=
 (O4 x_10 1 9999).bind fun y11=>(bif (!y11)then some (Out.ret 2)else okB (decide (0≤((k8:Nat):Int)∧((k8:Nat):Int)≤((l.Items.length:Nat):Int))) ((Ts (l.Items.take k8) x_10).bind fun y12=>(bif y12 then some (Out.ret 7)else some (Out.next ()))))
def Ga (l:Bp):Option (Int):=
 (bif (decide (64<((l.Items.length:Nat):Int)))then some 4 else(bif (decide (200<((l.Signs.length:Nat):Int)))then some 4 else(O4 l.Every 1 604800).bind fun y1=>(bif (!y1)then some 2 else(Am (Nl l) 0 l.Items ()).bind fun o8=>o8.on fun s8=>Nk l)))
theorem Tr (l:Bp) {r:Int} (h:Ga l=some r):Ad Tryz.prog 183 [.agg (Fb l)] (·= .int .i64 r):=by
 refine Ad.nle (Ad.intro Tryz.func183 rfl rfl (by show _≤88;simp) ?_)
 unfold Ga at h
 refine nS (sq ?_)
 refine ar rfl (qn (sq (sq ?_)))
 refine rg rfl fun K j=>?_
 intro hm
 revert h;refine gf (fun hc h=>?_) fun hc h=>?_
 rotate_left
 ·refine j _ _ (qn ?_)
  refine AWP.cond (Af ?_)
  refine sq (ar rfl (qn (rt (qr ?_))))
  cases h;exact en Tryz.results183
 intro hm
 refine j _ _ (qn ?_)
 revert h;refine ca rfl (fun hc h=>?_) fun hc h=>?_
 ·refine sq (ar rfl (qn (rt (qr ?_))))
  cases h;exact en Tryz.results183
 refine sk (qn (sq (sq ?_)))
 refine rg rfl fun K j=>?_
 obtain⟨y1,hy1,h⟩:=Ah h
 refine An.pure Tryz.call257 (Oq l.Every 1 604800 hy1) rfl fun _ hr=>?_
 subst hr
 refine nS ?_
 refine j _ _ (qn ?_)
 revert h;refine ca rfl (fun hc h=>?_) fun hc h=>?_
 ·refine sq (ar rfl (qn (rt (qr ?_))))
  cases h;exact en Tryz.results183
 refine sk (qn ?_)
 refine AWP.L3 (ι:=(Unit)×(Unit)) (fun zz=>[(1,.ptr 0 0)]) (fun zz=>[.box [.sl 1 (l.Items.map A5),.int .i64 l.Every,.sl 3 (l.Signs.map B9)]]) (fun zz=>Nk l=some r) (fun zz=>⟨rfl,rfl,rfl⟩) ?_ ?_
 ·refine sq (ar rfl (qn (bk ?_)))
  obtain⟨o8,hJ8,hO8⟩:=Ah h
  clear h
  refine AWP.Bw (ι:=Nat×(Unit)×(Unit)) (fun zz=>[(1,.ptr 0 0),(3,.int .i64 ((zz.1:Nat):Int))]) (fun zz=>[.box [.sl 1 (l.Items.map A5),.int .i64 l.Every,.sl 3 (l.Signs.map B9)]]) (fun zz=>zz.1≤l.Items.length∧Am (Nl l) zz.1 ((l.Items).drop zz.1) zz.2.1=some o8) (fun zz=>l.Items.length - zz.1) (0,(),()) ⟨Nat.zero_le _,hJ8⟩ cu cu (fun x=>⟨rfl,rfl,rfl⟩) ?_
  clear hJ8
  rintro⟨k8,⟨⟩,⟨⟩⟩ ⟨hk8,hJ8⟩
  dsimp only at hk8 hJ8 ⊢
  refine sq (sq ?_)
  refine rg rfl fun K j=>?_
  intro hm
  refine j _ _ (qn ?_)
  refine AWP.cond (Ak (fun hc=>?_) (fun hc=>?_))
  rotate_left
  ·obtain rfl:=Bf hJ8 (fun hl=>by have:=Ah9 hc;omega)
   have h:=Be hO8;try dsimp only at h
   have hkl:l.Items.length=k8:=by have:=Ah9 hc;omega
   subst hkl
   refine xt (qe (qe (bs (qn ?_))))
   exact⟨((),()),h,cu,cu⟩
  have hlt8:k8<l.Items.length:=by have:=Aia hc;omega
  obtain⟨x_10,b8,hx8_,h,hJ8⟩:=A9 hJ8 hlt8
  have hx8:=Ay hx8_
  have hw8:=wk (k:=k8) (by omega)
  unfold Nl at h;try dsimp only at h
  refine sk (qn (sq (bk (sq (sq ?_)))))
  refine rg rfl fun K j=>?_
  refine Bn.of (f:=A5) (l:=l.Items) hx8 ?_
  refine nS ?_
  obtain⟨y11,hy11,h⟩:=Ah h
  refine An.pure Tryz.call257 (Oq x_10 1 9999 hy11) rfl fun _ hr=>?_
  subst hr
  refine nS ?_
  refine j _ _ (qn ?_)
  revert h;refine ca rfl (fun hc h=>?_) fun hc h=>?_
  ·refine sq (ar rfl (qn (rt (qr (br (qr (qr ?_)))))))
   obtain rfl:=Aa h
   obtain rfl:=Ae hJ8
   replace h:=Al hO8
   refine br (qr ?_)
   cases h;exact en Tryz.results183
  refine sk (qn (sq ?_))
  refine AWP.draw Tryz.mixed (by kernel_rfl) ?_;intro K j
  refine nS ?_
  obtain⟨hk,h⟩:=Jf h
  intro hm
  (repeat(refine⟨by omega,?_⟩))
  refine Bn.of (f:=A5) (l:=l.Items) hx8 ?_
  refine nS ?_
  obtain⟨y12,hy12,h⟩:=Ah h
  refine B7.pure Tryz.call258 (V6 (l.Items.take k8) x_10 hy12) rfl ?_
  refine nS ?_
  refine j _ _ _ (by kernel_rfl) ?_
  refine qn ?_
  revert h;refine ca rfl (fun hc h=>?_) fun hc h=>?_
  ·refine sq (ar rfl (qn (rt (br (qr (qr ?_))))))
   obtain rfl:=Aa h
   obtain rfl:=Ae hJ8
   replace h:=Al hO8
   refine br (qr ?_)
   cases h;exact en Tryz.results183
  refine sk (bn (qn (ar rfl (qn ?_))))
  obtain rfl:=Aa h
  refine⟨(k8+1,(),()),⟨by dsimp only;omega,Ai hJ8⟩,by dsimp only;omega,?_,?_⟩
  ·exact cuw hw8
  exact cuw hw8
 rintro⟨⟨⟩,⟨⟩⟩ h
 try dsimp only at h ⊢
 unfold Nk at h;try dsimp only at h
 refine sq (sq (ar rfl (qn (bk ?_))))
 obtain⟨o2,hJ2,hO2⟩:=Ah h
 clear h
 refine AWP.Bw (ι:=Nat×(Unit)×(Unit)) (fun zz=>[(1,.ptr 0 0),(4,.int .i64 ((zz.1:Nat):Int))]) (fun zz=>[.box [.sl 1 (l.Items.map A5),.int .i64 l.Every,.sl 3 (l.Signs.map B9)]]) (fun zz=>zz.1≤l.Signs.length∧Am (Nm l) zz.1 ((l.Signs).drop zz.1) zz.2.1=some o2) (fun zz=>l.Signs.length - zz.1) (0,(),()) ⟨Nat.zero_le _,hJ2⟩ cu cu (fun x=>⟨rfl,rfl,rfl⟩) ?_
 clear hJ2
 rintro⟨k2,⟨⟩,⟨⟩⟩ ⟨hk2,hJ2⟩
 dsimp only at hk2 hJ2 ⊢
 refine sq (sq ?_)
 refine rg rfl fun K j=>?_
 intro hm
 refine j _ _ (qn ?_)
 refine AWP.cond (Ak (fun hc=>?_) (fun hc=>?_))
 rotate_left
 ·obtain rfl:=Bf hJ2 (fun hl=>by have:=Ah9 hc;omega)
  have h:=Be hO2;try dsimp only at h
  have hkl:l.Signs.length=k2:=by have:=Ah9 hc;omega
  subst hkl
  refine xt (qe (qe (bs (qn (sq (ar rfl (qn (rt ?_))))))))
  cases h;exact en Tryz.results183
 have hlt2:k2<l.Signs.length:=by have:=Aia hc;omega
 obtain⟨x_4,b2,hx2_,h,hJ2⟩:=A9 hJ2 hlt2
 have hx2:=Ay hx2_
 have hw2:=wk (k:=k2) (by omega)
 unfold Nm at h;try dsimp only at h
 refine sk (qn (sq (bk (sq ?_))))
 refine rg rfl fun K j=>?_
 refine Bn.of (f:=B9) (l:=l.Signs) hx2 ?_
 refine nS ?_
 refine j _ _ (qn (bk (sq ?_)))
 refine rg rfl fun K j=>?_
 obtain⟨y5,hy5,h⟩:=Ah h
 refine An.pure Tryz.call258 (V6 l.Items x_4.Item hy5) rfl fun _ hr=>?_
 subst hr
 refine nS ?_
 refine j _ _ (qn ?_)
 revert h;refine ca rfl (fun hc h=>?_) fun hc h=>?_
 ·refine sq (ar rfl (qn (rt (br (br (qr (qr ?_)))))))
  obtain rfl:=Aa h
  obtain rfl:=Ae hJ2
  replace h:=Al hO2
  refine br (qr ?_)
  cases h;exact en Tryz.results183
 refine sq ?_
 refine rg rfl fun K j=>?_
 obtain⟨y6,hy6,h⟩:=Ah h
 refine An.pure Tryz.call257 (Oq x_4.By 1 9999 hy6) rfl fun _ hr=>?_
 subst hr
 refine nS ?_
 refine j _ _ (qn ?_)
 revert h;refine ca rfl (fun hc h=>?_) fun hc h=>?_
 ·refine sq (ar rfl (qn (rt (br (br (qr (qr ?_)))))))
  obtain rfl:=Aa h
  obtain rfl:=Ae hJ2
  replace h:=Al hO2
  refine br (qr ?_)
  cases h;exact en Tryz.results183
 refine sq ?_
 refine rg rfl fun K j=>?_
 obtain⟨y7,hy7,h⟩:=Ah h
 refine An.pure Tryz.call257 (Oq x_4.At 0 20000000 hy7) rfl fun _ hr=>?_
 subst hr
 refine nS ?_
 refine j _ _ (qn ?_)
 revert h;refine ca rfl (fun hc h=>?_) fun hc h=>?_
 ·refine sq (ar rfl (qn (rt (br (br (qr (qr ?_)))))))
  obtain rfl:=Aa h
  obtain rfl:=Ae hJ2
  replace h:=Al hO2
  refine br (qr ?_)
  cases h;exact en Tryz.results183
 refine sq ?_
 refine AWP.draw Tryz.mixed (by kernel_rfl) ?_;intro K j
 refine nS ?_
 revert h;refine gt (fun hc h=>?_) fun hc h=>?_
 ·obtain⟨x_8,hx_8,h⟩:=Ah h
  refine Bn.of (f:=B9) (l:=l.Signs) hx_8 ?_
  refine nS ?_
  refine j _ _ _ (by kernel_rfl) ?_
  refine qn ?_
  revert h;refine ca rfl (fun hc h=>?_) fun hc h=>?_
  ·refine sq (ar rfl (qn (rt (br (br (qr (qr ?_)))))))
   obtain rfl:=Aa h
   obtain rfl:=Ae hJ2
   replace h:=Al hO2
   refine br (qr ?_)
   cases h;exact en Tryz.results183
  refine sk (bn (bn (qn (ar rfl (qn ?_)))))
  obtain rfl:=Aa h
  refine⟨(k2+1,(),()),⟨by dsimp only;omega,Ai hJ2⟩,by dsimp only;omega,?_,?_⟩
  ·exact cuw hw2
  exact cuw hw2
 refine j _ _ _ (by kernel_rfl) ?_
 refine qn ?_
 refine AWP.cond (Bj ?_)
 refine sk (bn (bn (qn (ar rfl (qn ?_)))))
 obtain rfl:=Aa h
 refine⟨(k2+1,(),()),⟨by dsimp only;omega,Ai hJ2⟩,by dsimp only;omega,?_,?_⟩
 ·exact cuw hw2
 exact cuw hw2
def Ms (run:Int) (k0:Nat) (x_2:Cj) (sv:Unit):Option (Out (Unit) (Int)):=
 (bif (decide (x_2.Run=run))then some (Out.ret ((k0:Nat):Int))else some (Out.next ()))
def Nc (p:Ca) (run:Int):Option (Int):=
 (Am (Ms run) 0 p.Bv ()).bind fun o0=>o0.on fun s0=>some (-1)
theorem hZ (p:Ca) (run:Int) {r:Int} (h:Nc p run=some r):Ad Tryz.prog 184 [.agg (Ib p),.int .i64 run] (·= .int .i64 r):=by
 refine Ad.nle (Ad.intro Tryz.func184 rfl rfl (by show _≤22;simp) ?_)
 unfold Nc at h
 refine nS (sq ?_)
 refine ar rfl (qn (sq (sq ?_)))
 refine ar rfl (qn (bk ?_))
 obtain⟨o0,hJ0,hO0⟩:=Ah h
 clear h
 refine AWP.Bw (ι:=Nat×(Unit)×(Unit)) (fun zz=>[(1,.int .i64 run),(2,.ptr 0 0),(5,.int .i64 ((zz.1:Nat):Int))]) (fun zz=>[.box [.sl 4 (p.Bv.map Av),.sl 3 (p.Hazards.map A1)]]) (fun zz=>zz.1≤p.Bv.length∧Am (Ms run) zz.1 ((p.Bv).drop zz.1) zz.2.1=some o0) (fun zz=>p.Bv.length - zz.1) (0,(),()) ⟨Nat.zero_le _,hJ0⟩ cu cu (fun x=>⟨rfl,rfl,rfl⟩) ?_
 clear hJ0
 rintro⟨k0,⟨⟩,⟨⟩⟩ ⟨hk0,hJ0⟩
 dsimp only at hk0 hJ0 ⊢
 refine sq (sq ?_)
 refine rg rfl fun K j=>?_
 intro hm
 refine j _ _ (qn ?_)
 refine AWP.cond (Ak (fun hc=>?_) (fun hc=>?_))
 rotate_left
 ·obtain rfl:=Bf hJ0 (fun hl=>by have:=Ah9 hc;omega)
  have h:=Be hO0;try dsimp only at h
  have hkl:p.Bv.length=k0:=by have:=Ah9 hc;omega
  subst hkl
  refine xt (qe (qe (bs (qn (sq (ar rfl (qn (rt ?_))))))))
  cases h;exact en Tryz.results184
 have hlt0:k0<p.Bv.length:=by have:=Aia hc;omega
 obtain⟨x_2,b0,hx0_,h,hJ0⟩:=A9 hJ0 hlt0
 have hx0:=Ay hx0_
 have hw0:=wk (k:=k0) (by omega)
 unfold Ms at h;try dsimp only at h
 refine sk (qn (sq (bk (sq ?_))))
 refine rg rfl fun K j=>?_
 refine Bn.of (f:=Av) (l:=p.Bv) hx0 ?_
 refine nS ?_
 refine j _ _ (qn ?_)
 revert h;refine ca rfl (fun hc h=>?_) fun hc h=>?_
 ·refine sq (ar rfl (qn (rt (br (qr (qr ?_))))))
  obtain rfl:=Aa h
  obtain rfl:=Ae hJ0
  replace h:=Al hO0
  refine br (qr ?_)
  cases h;exact en Tryz.results184
 refine sk (bn (qn (ar rfl (qn ?_))))
 obtain rfl:=Aa h
 refine⟨(k0+1,(),()),⟨by dsimp only;omega,Ai hJ0⟩,by dsimp only;omega,?_,?_⟩
 ·exact cuw hw0
 exact cuw hw0
def J7 (p:Ca) (x_3:Cv) (k3:Nat) (_x:Unit) (sv:Unit):Option (Out (Unit) (Out (Unit) (Int))):=
 (Dh p.Hazards ((k3:Nat):Int)).bind fun x_5=>(bif (decide (x_5.ID=x_3.ID))then some (Out.ret (Out.ret 7))else some (Out.next ()))
def Nf (p:Ca) (k1:Nat) (x_3:Cv) (sv:Unit):Option (Out (Unit) (Int)):=
 (bif (decide (x_3.ID<1))then some (Out.ret 2)else (bif (decide (9999<x_3.ID))then some (Out.ret 2)else (bif (decide (x_3.At<0))then some (Out.ret 2)else (bif (decide (20000000<x_3.At))then some (Out.ret 2)else (Jr (J7 p x_3) k1 ()).bind fun o3=>o3.on fun s3=>(Nc p x_3.Run).bind fun y6=>(bif (decide (y6<0))then some (Out.ret 8)else some (Out.next ()))))))
def Nd (p:Ca):Option (Int):=
 (Am (Nf p) 0 p.Hazards ()).bind fun o1=>o1.on fun s1=>some 0
def G6 (p:Ca) (k6:Nat) (x_8:Cj) (sv:Unit):Option (Out (Unit) (Int)):=
 (bif (decide (x_8.Run<1))then some (Out.ret 2)else (bif (decide (9999<x_8.Run))then some (Out.ret 2)else (bif (decide (0<((k6:Nat):Int)))then (Dh p.Bv (IntKind.i64.wrap (((k6:Nat):Int) - 1))).bind fun x_9=>(bif (decide (x_8.Run≤x_9.Run))then some (Out.ret 11)else (Ga x_8.List_).bind fun y10=>(bif (decide (y10≠0))then some (Out.ret y10)else some (Out.next ())))else (Ga x_8.List_).bind fun y11=>(bif (decide (y11≠0))then some (Out.ret y11)else some (Out.next ())))))
def Hw (p:Ca):Option (Int):=
 (bif (decide (64<((p.Bv.length:Nat):Int)))then some 4 else(bif (decide (200<((p.Hazards.length:Nat):Int)))then some 4 else(Am (G6 p) 0 p.Bv ()).bind fun o6=>o6.on fun s6=>Nd p))
theorem aY (p:Ca) {r:Int} (h:Hw p=some r):Ad Tryz.prog 87 [.agg (Ib p)] (·= .int .i64 r):=by
 refine Ad.nle (Ad.intro Tryz.func87 rfl rfl (by show _≤118;simp) ?_)
 unfold Hw at h
 refine nS (sq ?_)
 refine ar rfl (qn (sq (sq ?_)))
 refine rg rfl fun K j=>?_
 intro hm
 revert h;refine gf (fun hc h=>?_) fun hc h=>?_
 rotate_left
 ·refine j _ _ (qn ?_)
  refine AWP.cond (Af ?_)
  refine sq (ar rfl (qn (rt (qr ?_))))
  cases h;exact en Tryz.results87
 intro hm
 refine j _ _ (qn ?_)
 revert h;refine ca rfl (fun hc h=>?_) fun hc h=>?_
 ·refine sq (ar rfl (qn (rt (qr ?_))))
  cases h;exact en Tryz.results87
 refine sk (qn ?_)
 refine AWP.L3 (ι:=(Unit)×(Unit)) (fun zz=>[(1,.ptr 0 0)]) (fun zz=>[.box [.sl 4 (p.Bv.map Av),.sl 3 (p.Hazards.map A1)]]) (fun zz=>Nd p=some r) (fun zz=>⟨rfl,rfl,rfl⟩) ?_ ?_
 ·refine sq (ar rfl (qn (bk ?_)))
  obtain⟨o6,hJ6,hO6⟩:=Ah h
  clear h
  refine AWP.Bw (ι:=Nat×(Unit)×(Unit)) (fun zz=>[(1,.ptr 0 0),(3,.int .i64 ((zz.1:Nat):Int))]) (fun zz=>[.box [.sl 4 (p.Bv.map Av),.sl 3 (p.Hazards.map A1)]]) (fun zz=>zz.1≤p.Bv.length∧Am (G6 p) zz.1 ((p.Bv).drop zz.1) zz.2.1=some o6) (fun zz=>p.Bv.length - zz.1) (0,(),()) ⟨Nat.zero_le _,hJ6⟩ cu cu (fun x=>⟨rfl,rfl,rfl⟩) ?_
  clear hJ6
  rintro⟨k6,⟨⟩,⟨⟩⟩ ⟨hk6,hJ6⟩
  dsimp only at hk6 hJ6 ⊢
  refine sq (sq ?_)
  refine rg rfl fun K j=>?_
  intro hm
  refine j _ _ (qn ?_)
  refine AWP.cond (Ak (fun hc=>?_) (fun hc=>?_))
  rotate_left
  ·obtain rfl:=Bf hJ6 (fun hl=>by have:=Ah9 hc;omega)
   have h:=Be hO6;try dsimp only at h
   have hkl:p.Bv.length=k6:=by have:=Ah9 hc;omega
   subst hkl
   refine xt (qe (qe (bs (qn ?_))))
   exact⟨((),()),h,cu,cu⟩
  have hlt6:k6<p.Bv.length:=by have:=Aia hc;omega
  obtain⟨x_8,b6,hx6_,h,hJ6⟩:=A9 hJ6 hlt6
  have hx6:=Ay hx6_
  have hw6:=wk (k:=k6) (by omega)
  unfold G6 at h;try dsimp only at h
  refine sk (qn (sq (bk (sq (sq ?_)))))
  refine rg rfl fun K j=>?_
  refine Bn.of (f:=Av) (l:=p.Bv) hx6 ?_
  refine nS ?_
  revert h;refine gf (fun hc h=>?_) fun hc h=>?_
  rotate_left
  ·refine j _ _ (qn ?_)
   refine AWP.cond (Af ?_)
   refine sq (ar rfl (qn (rt (qr (br (qr (qr ?_)))))))
   obtain rfl:=Aa h
   obtain rfl:=Ae hJ6
   replace h:=Al hO6
   refine br (qr ?_)
   cases h;exact en Tryz.results87
  refine Bn.of (f:=Av) (l:=p.Bv) hx6 ?_
  refine nS ?_
  refine j _ _ (qn ?_)
  revert h;refine ca rfl (fun hc h=>?_) fun hc h=>?_
  ·refine sq (ar rfl (qn (rt (qr (br (qr (qr ?_)))))))
   obtain rfl:=Aa h
   obtain rfl:=Ae hJ6
   replace h:=Al hO6
   refine br (qr ?_)
   cases h;exact en Tryz.results87
  refine sk (qn (sq (sq ?_)))
  refine AWP.draw Tryz.mixed (by kernel_rfl) ?_;intro K j
  refine nS ?_
  revert h;refine gt (fun hc h=>?_) fun hc h=>?_
  ·refine Bn.of (f:=Av) (l:=p.Bv) hx6 ?_
   refine nS ?_
   obtain⟨x_9,hx_9,h⟩:=Ah h
   refine Bn.of (f:=Av) (l:=p.Bv) hx_9 ?_
   refine nS ?_
   refine j _ _ _ (by kernel_rfl) ?_
   refine qn ?_
   revert h;refine ca rfl (fun hc h=>?_) fun hc h=>?_
   ·refine sq (ar rfl (qn (rt (qr (br (qr (qr ?_)))))))
    obtain rfl:=Aa h
    obtain rfl:=Ae hJ6
    replace h:=Al hO6
    refine br (qr ?_)
    cases h;exact en Tryz.results87
   refine sk (qn (sq ?_))
   refine rg rfl fun K j=>?_
   refine Bn.of (f:=Av) (l:=p.Bv) hx6 ?_
   refine nS ?_
   obtain⟨y10,hy10,h⟩:=Ah h
   refine An.pure Tryz.call183 (Tr x_8.List_ hy10) rfl fun _ hr=>?_
   subst hr
   refine nS ?_
   refine j _ _ (qn (sq ?_))
   refine ar rfl (qn ?_)
   revert h;refine ca rfl (fun hc h=>?_) fun hc h=>?_
   ·refine sq (ar rfl (qn (rt (br (qr (qr ?_))))))
    obtain rfl:=Aa h
    obtain rfl:=Ae hJ6
    replace h:=Al hO6
    refine br (qr ?_)
    cases h;exact en Tryz.results87
   refine sk (bn (qn (ar rfl (qn ?_))))
   obtain rfl:=Aa h
   refine⟨(k6+1,(),()),⟨by dsimp only;omega,Ai hJ6⟩,by dsimp only;omega,?_,?_⟩
   ·exact cuw hw6
   exact cuw hw6
  refine j _ _ _ (by kernel_rfl) ?_
  refine qn ?_
  refine AWP.cond (Bj ?_)
  refine sk (qn (sq ?_))
  refine rg rfl fun K j=>?_
  refine Bn.of (f:=Av) (l:=p.Bv) hx6 ?_
  refine nS ?_
  obtain⟨y11,hy11,h⟩:=Ah h
  refine An.pure Tryz.call183 (Tr x_8.List_ hy11) rfl fun _ hr=>?_
  subst hr
  refine nS ?_
  refine j _ _ (qn (sq ?_))
  refine ar rfl (qn ?_)
  revert h;refine ca rfl (fun hc h=>?_) fun hc h=>?_
  ·refine sq (ar rfl (qn (rt (br (qr (qr ?_))))))
   obtain rfl:=Aa h
   obtain rfl:=Ae hJ6
   replace h:=Al hO6
   refine br (qr ?_)
   cases h;exact en Tryz.results87
  refine sk (bn (qn (ar rfl (qn ?_))))
  obtain rfl:=Aa h
  refine⟨(k6+1,(),()),⟨by dsimp only;omega,Ai hJ6⟩,by dsimp only;omega,?_,?_⟩
  ·exact cuw hw6
  exact cuw hw6
 rintro⟨⟨⟩,⟨⟩⟩ h
 try dsimp only at h ⊢
 unfold Nd at h;try dsimp only at h
 refine sq (sq (ar rfl (qn (bk ?_))))
 obtain⟨o1,hJ1,hO1⟩:=Ah h
 clear h
 refine AWP.Bw (ι:=Nat×(Unit)×(Unit)) (fun zz=>[(1,.ptr 0 0),(5,.int .i64 ((zz.1:Nat):Int))]) (fun zz=>[.box [.sl 4 (p.Bv.map Av),.sl 3 (p.Hazards.map A1)]]) (fun zz=>zz.1≤p.Hazards.length∧Am (Nf p) zz.1 ((p.Hazards).drop zz.1) zz.2.1=some o1) (fun zz=>p.Hazards.length - zz.1) (0,(),()) ⟨Nat.zero_le _,hJ1⟩ cu cu (fun x=>⟨rfl,rfl,rfl⟩) ?_
 clear hJ1
 rintro⟨k1,⟨⟩,⟨⟩⟩ ⟨hk1,hJ1⟩
 dsimp only at hk1 hJ1 ⊢
 refine sq (sq ?_)
 refine rg rfl fun K j=>?_
 intro hm
 refine j _ _ (qn ?_)
 refine AWP.cond (Ak (fun hc=>?_) (fun hc=>?_))
 rotate_left
 ·obtain rfl:=Bf hJ1 (fun hl=>by have:=Ah9 hc;omega)
  have h:=Be hO1;try dsimp only at h
  have hkl:p.Hazards.length=k1:=by have:=Ah9 hc;omega
  subst hkl
  refine xt (qe (qe (bs (qn (sq (ar rfl (qn (rt ?_))))))))
  cases h;exact en Tryz.results87
 have hlt1:k1<p.Hazards.length:=by have:=Aia hc;omega
 obtain⟨x_3,b1,hx1_,h,hJ1⟩:=A9 hJ1 hlt1
 have hx1:=Ay hx1_
 have hw1:=wk (k:=k1) (by omega)
 unfold Nf at h;try dsimp only at h
 refine sk (qn (sq (bk (sq ?_))))
 refine rg rfl fun K j=>?_
 refine Bn.of (f:=A1) (l:=p.Hazards) hx1 ?_
 refine nS ?_
 refine j _ _ (qn (sq (sq ?_)))
 refine rg rfl fun K j=>?_
 revert h;refine gf (fun hc h=>?_) fun hc h=>?_
 rotate_left
 ·refine j _ _ (qn ?_)
  refine AWP.cond (Af ?_)
  refine sq (ar rfl (qn (rt (qr (br (qr (qr ?_)))))))
  obtain rfl:=Aa h
  obtain rfl:=Ae hJ1
  replace h:=Al hO1
  refine br (qr ?_)
  cases h;exact en Tryz.results87
 revert h;refine gf (fun hc h=>?_) fun hc h=>?_
 rotate_left
 ·refine j _ _ (qn ?_)
  refine AWP.cond (Af ?_)
  refine sq (ar rfl (qn (rt (qr (br (qr (qr ?_)))))))
  obtain rfl:=Aa h
  obtain rfl:=Ae hJ1
  replace h:=Al hO1
  refine br (qr ?_)
  cases h;exact en Tryz.results87
 revert h;refine gf (fun hc h=>?_) fun hc h=>?_
 rotate_left
 ·refine j _ _ (qn ?_)
  refine AWP.cond (Af ?_)
  refine sq (ar rfl (qn (rt (qr (br (qr (qr ?_)))))))
  obtain rfl:=Aa h
  obtain rfl:=Ae hJ1
  replace h:=Al hO1
  refine br (qr ?_)
  cases h;exact en Tryz.results87
 refine j _ _ (qn ?_)
 revert h;refine ca rfl (fun hc h=>?_) fun hc h=>?_
 ·refine sq (ar rfl (qn (rt (qr (br (qr (qr ?_)))))))
  obtain rfl:=Aa h
  obtain rfl:=Ae hJ1
  replace h:=Al hO1
  refine br (qr ?_)
  cases h;exact en Tryz.results87
 refine sk (qn (sq (sq (ar rfl (qn (bk ?_))))))
 obtain⟨o3,hJ3,hO3⟩:=Ah h
 clear h
 obtain⟨hn3,hJ3⟩:=Sd hJ3
 refine AWP.Bw (ι:=Nat×(Unit)×(Unit)) (fun zz=>[(1,.ptr 0 0),(5,.int .i64 ((k1:Nat):Int)),(6,.ptr 1 0),(7,.int .i64 ((zz.1:Nat):Int))]) (fun zz=>[.box [.sl 4 (p.Bv.map Av),.sl 3 (p.Hazards.map A1)],.box [.int .i64 x_3.ID,.int .i64 x_3.Run,.int .i64 x_3.At]]) (fun zz=>zz.1≤k1∧Am (J7 p x_3) zz.1 ((List.replicate k1 ()).drop zz.1) zz.2.1=some o3) (fun zz=>k1 - zz.1) (0,(),()) ⟨Nat.zero_le _,hJ3⟩ cu cu (fun x=>⟨rfl,rfl,rfl⟩) ?_
 clear hJ3
 rintro⟨k3,⟨⟩,⟨⟩⟩ ⟨hk3,hJ3⟩
 dsimp only at hk3 hJ3 ⊢
 refine sq (sq (ar rfl (qn ?_)))
 refine AWP.cond (Ak (fun hc=>?_) (fun hc=>?_))
 ·have hlt3:k3<k1:=by have:=Aia hc;omega
  obtain⟨_,b3,_,h,hJ3⟩:=A9 hJ3 (by rw[List.length_replicate];exact hlt3)
  have hw3:=wk (k:=k3) (by omega)
  unfold J7 at h;try dsimp only at h
  refine sk (qn (sq (bk (sq ?_))))
  refine AWP.draw Tryz.mixed (by kernel_rfl) ?_;intro K j
  refine nS ?_
  obtain⟨x_5,hx_5,h⟩:=Ah h
  refine Bn.of (f:=A1) (l:=p.Hazards) hx_5 ?_
  refine nS ?_
  refine j _ _ _ (by kernel_rfl) ?_
  refine qn ?_
  revert h;refine ca rfl (fun hc h=>?_) fun hc h=>?_
  ·refine sq (ar rfl (qn (rt (br (qr (qr ?_))))))
   obtain rfl:=Aa h
   obtain rfl:=Ae hJ3
   replace h:=Al hO3
   refine br (qr (br (qr (qr ?_))))
   obtain rfl:=Aa h
   obtain rfl:=Ae hJ1
   replace h:=Al hO1
   refine br (qr ?_)
   cases h;exact en Tryz.results87
  refine sk (bn (qn (ar rfl (qn ?_))))
  obtain rfl:=Aa h
  refine⟨(k3+1,(),()),⟨by dsimp only;omega,Ai hJ3⟩,by dsimp only;omega,?_,?_⟩
  ·exact cuw hw3
  exact cuw hw3
 obtain rfl:=Bf hJ3 (fun hl=>by rw[List.length_replicate]at hl;have:=Ah9 hc;omega)
 have h:=Be hO3;try dsimp only at h
 have hkl:k1=k3:=by have:=Ah9 hc;omega
 subst hkl
 refine xt (qe (qe (bs (qn (sq ?_)))))
 refine rg rfl fun K j=>?_
 obtain⟨y6,hy6,h⟩:=Ah h
 refine An.pure Tryz.call184 (hZ p x_3.Run hy6) rfl fun _ hr=>?_
 subst hr
 refine nS ?_
 refine j _ _ (qn ?_)
 revert h;refine ca rfl (fun hc h=>?_) fun hc h=>?_
 ·refine sq (ar rfl (qn (rt (br (qr (qr ?_))))))
  obtain rfl:=Aa h
  obtain rfl:=Ae hJ1
  replace h:=Al hO1
  refine br (qr ?_)
  cases h;exact en Tryz.results87
 refine sk (bn (qn (ar rfl (qn ?_))))
 obtain rfl:=Aa h
 refine⟨(k1+1,(),()),⟨by dsimp only;omega,Ai hJ1⟩,by dsimp only;omega,?_,?_⟩
 ·exact cuw hw1
 exact cuw hw1
def Q0 (l:List Cx) (k0:Nat) (x_2:Cx) (sv:Unit):Option (Out (Unit) (Int)):=
 (bif (decide (x_2.Run<1))then some (Out.ret 2)else (bif (decide (9999<x_2.Run))then some (Out.ret 2)else (bif (decide (x_2.Groomed<(-1)))then some (Out.ret 2)else (bif (decide (20000000<x_2.Groomed))then some (Out.ret 2)else (bif (decide (x_2.Traffic<0))then some (Out.ret 2)else (bif (decide (1000000<x_2.Traffic))then some (Out.ret 2)else (bif (decide (0<((k0:Nat):Int)))then (Dh l (IntKind.i64.wrap (((k0:Nat):Int) - 1))).bind fun x_3=>(bif (decide (x_2.Run≤x_3.Run))then some (Out.ret 11)else some (Out.next ()))else some (Out.next ()))))))))
def O1 (l:List Cx):Option (Int):=
 (bif (decide (64<((l.length:Nat):Int)))then some 4 else(Am (Q0 l) 0 l ()).bind fun o0=>o0.on fun s0=>some 0)
theorem bI (l:List Cx) {r:Int} (h:O1 l=some r):Ad Tryz.prog 88 [.sl 3 (l.map A8)] (·= .int .i64 r):=by
 refine Ad.nle (Ad.intro Tryz.func88 rfl rfl (by show _≤59;simp) ?_)
 unfold O1 at h
 refine nS (sq ?_)
 refine ar rfl (qn (sq (sq ?_)))
 refine rg rfl fun K j=>?_
 intro hm
 refine j _ _ (qn ?_)
 revert h;refine ca rfl (fun hc h=>?_) fun hc h=>?_
 ·refine sq (ar rfl (qn (rt (qr ?_))))
  cases h;exact en Tryz.results88
 refine sk (qn (sq (sq (ar rfl (qn (bk ?_))))))
 obtain⟨o0,hJ0,hO0⟩:=Ah h
 clear h
 refine AWP.Bw (ι:=Nat×(Unit)×(Unit)) (fun zz=>[(0,.sl 3 (l.map A8)),(3,.int .i64 ((zz.1:Nat):Int))]) (fun zz=>[]) (fun zz=>zz.1≤l.length∧Am (Q0 l) zz.1 ((l).drop zz.1) zz.2.1=some o0) (fun zz=>l.length - zz.1) (0,(),()) ⟨Nat.zero_le _,hJ0⟩ cu cu (fun x=>⟨rfl,rfl,rfl⟩) ?_
 clear hJ0
 rintro⟨k0,⟨⟩,⟨⟩⟩ ⟨hk0,hJ0⟩
 dsimp only at hk0 hJ0 ⊢
 refine sq (sq ?_)
 refine rg rfl fun K j=>?_
 intro hm
 refine j _ _ (qn ?_)
 refine AWP.cond (Ak (fun hc=>?_) (fun hc=>?_))
 rotate_left
 ·obtain rfl:=Bf hJ0 (fun hl=>by have:=Ah9 hc;omega)
  have h:=Be hO0;try dsimp only at h
  have hkl:l.length=k0:=by have:=Ah9 hc;omega
  subst hkl
  refine xt (qe (qe (bs (qn (sq (ar rfl (qn (rt ?_))))))))
  cases h;exact en Tryz.results88
 have hlt0:k0<l.length:=by have:=Aia hc;omega
 obtain⟨x_2,b0,hx0_,h,hJ0⟩:=A9 hJ0 hlt0
 have hx0:=Ay hx0_
 have hw0:=wk (k:=k0) (by omega)
 unfold Q0 at h;try dsimp only at h
 refine sk (qn (sq (bk (sq ?_))))
 refine rg rfl fun K j=>?_
 refine Bn.of (f:=A8) (l:=l) hx0 ?_
 refine nS ?_
 refine j _ _ (qn (sq (sq ?_)))
 refine rg rfl fun K j=>?_
 revert h;refine gf (fun hc h=>?_) fun hc h=>?_
 rotate_left
 ·refine j _ _ (qn ?_)
  refine AWP.cond (Af ?_)
  refine sq (ar rfl (qn (rt (qr (br (qr (qr ?_)))))))
  obtain rfl:=Aa h
  obtain rfl:=Ae hJ0
  replace h:=Al hO0
  refine br (qr ?_)
  cases h;exact en Tryz.results88
 revert h;refine gf (fun hc h=>?_) fun hc h=>?_
 rotate_left
 ·refine j _ _ (qn ?_)
  refine AWP.cond (Af ?_)
  refine sq (ar rfl (qn (rt (qr (br (qr (qr ?_)))))))
  obtain rfl:=Aa h
  obtain rfl:=Ae hJ0
  replace h:=Al hO0
  refine br (qr ?_)
  cases h;exact en Tryz.results88
 revert h;refine gf (fun hc h=>?_) fun hc h=>?_
 rotate_left
 ·refine j _ _ (qn ?_)
  refine AWP.cond (Af ?_)
  refine sq (ar rfl (qn (rt (qr (br (qr (qr ?_)))))))
  obtain rfl:=Aa h
  obtain rfl:=Ae hJ0
  replace h:=Al hO0
  refine br (qr ?_)
  cases h;exact en Tryz.results88
 revert h;refine gf (fun hc h=>?_) fun hc h=>?_
 rotate_left
 ·refine j _ _ (qn ?_)
  refine AWP.cond (Af ?_)
  refine sq (ar rfl (qn (rt (qr (br (qr (qr ?_)))))))
  obtain rfl:=Aa h
  obtain rfl:=Ae hJ0
  replace h:=Al hO0
  refine br (qr ?_)
  cases h;exact en Tryz.results88
 revert h;refine gf (fun hc h=>?_) fun hc h=>?_
 rotate_left
 ·refine j _ _ (qn ?_)
  refine AWP.cond (Af ?_)
  refine sq (ar rfl (qn (rt (qr (br (qr (qr ?_)))))))
  obtain rfl:=Aa h
  obtain rfl:=Ae hJ0
  replace h:=Al hO0
  refine br (qr ?_)
  cases h;exact en Tryz.results88
 refine j _ _ (qn ?_)
 revert h;refine ca rfl (fun hc h=>?_) fun hc h=>?_
 ·refine sq (ar rfl (qn (rt (qr (br (qr (qr ?_)))))))
  obtain rfl:=Aa h
  obtain rfl:=Ae hJ0
  replace h:=Al hO0
  refine br (qr ?_)
  cases h;exact en Tryz.results88
 refine sk (qn (sq ?_))
 refine AWP.draw Tryz.mixed (by kernel_rfl) ?_;intro K j
 refine nS ?_
 revert h;refine gt (fun hc h=>?_) fun hc h=>?_
 ·obtain⟨x_3,hx_3,h⟩:=Ah h
  refine Bn.of (f:=A8) (l:=l) hx_3 ?_
  refine nS ?_
  refine j _ _ _ (by kernel_rfl) ?_
  refine qn ?_
  revert h;refine ca rfl (fun hc h=>?_) fun hc h=>?_
  ·refine sq (ar rfl (qn (rt (br (qr (qr ?_))))))
   obtain rfl:=Aa h
   obtain rfl:=Ae hJ0
   replace h:=Al hO0
   refine br (qr ?_)
   cases h;exact en Tryz.results88
  refine sk (bn (qn (ar rfl (qn ?_))))
  obtain rfl:=Aa h
  refine⟨(k0+1,(),()),⟨by dsimp only;omega,Ai hJ0⟩,by dsimp only;omega,?_,?_⟩
  ·exact cuw hw0
  exact cuw hw0
 refine j _ _ _ (by kernel_rfl) ?_
 refine qn ?_
 refine AWP.cond (Bj ?_)
 refine sk (bn (qn (ar rfl (qn ?_))))
 obtain rfl:=Aa h
 refine⟨(k0+1,(),()),⟨by dsimp only;omega,Ai hJ0⟩,by dsimp only;omega,?_,?_⟩
 ·exact cuw hw0
 exact cuw hw0
def Ps (l:List Int) (most:Int) (k0:Nat) (x_2:Int) (sv:Unit):Option (Out (Unit) (Bool)):=
 (bif (decide (x_2<1))then some (Out.ret false)else (bif (decide (most<x_2))then some (Out.ret false)else (bif (decide (0<((k0:Nat):Int)))then (Dh l (IntKind.i64.wrap (((k0:Nat):Int) - 1))).bind fun x_3=>(bif (decide (x_2≤x_3))then some (Out.ret false)else some (Out.next ()))else some (Out.next ()))))
def Ni (l:List Int) (most:Int):Option (Bool):=
 (Am (Ps l most) 0 l ()).bind fun o0=>o0.on fun s0=>some true
theorem R7 (l:List Int) (most:Int) {r:Bool} (h:Ni l most=some r):Ad Tryz.prog 185 [.sl 1 (l.map A5),.int .i64 most] (·= .bool r):=by
 refine Ad.nle (Ad.intro Tryz.func185 rfl rfl (by show _≤41;simp) ?_)
 unfold Ni at h
 refine nS (sq ?_)
 refine ar rfl (qn (sq (sq ?_)))
 refine ar rfl (qn (bk ?_))
 obtain⟨o0,hJ0,hO0⟩:=Ah h
 clear h
 refine AWP.Bw (ι:=Nat×(Unit)×(Unit)) (fun zz=>[(0,.sl 1 (l.map A5)),(1,.int .i64 most),(5,.int .i64 ((zz.1:Nat):Int))]) (fun zz=>[]) (fun zz=>zz.1≤l.length∧Am (Ps l most) zz.1 ((l).drop zz.1) zz.2.1=some o0) (fun zz=>l.length - zz.1) (0,(),()) ⟨Nat.zero_le _,hJ0⟩ cu cu (fun x=>⟨rfl,rfl,rfl⟩) ?_
 clear hJ0
 rintro⟨k0,⟨⟩,⟨⟩⟩ ⟨hk0,hJ0⟩
 dsimp only at hk0 hJ0 ⊢
 refine sq (sq ?_)
 refine rg rfl fun K j=>?_
 intro hm
 refine j _ _ (qn ?_)
 refine AWP.cond (Ak (fun hc=>?_) (fun hc=>?_))
 rotate_left
 ·obtain rfl:=Bf hJ0 (fun hl=>by have:=Ah9 hc;omega)
  have h:=Be hO0;try dsimp only at h
  have hkl:l.length=k0:=by have:=Ah9 hc;omega
  subst hkl
  refine xt (qe (qe (bs (qn (sq (ar rfl (qn (rt ?_))))))))
  cases h;exact en Tryz.results185
 have hlt0:k0<l.length:=by have:=Aia hc;omega
 obtain⟨x_2,b0,hx0_,h,hJ0⟩:=A9 hJ0 hlt0
 have hx0:=Ay hx0_
 have hw0:=wk (k:=k0) (by omega)
 unfold Ps at h;try dsimp only at h
 refine sk (qn (sq (bk (sq ?_))))
 refine AWP.draw Tryz.mixed (by kernel_rfl) ?_;intro K j
 refine nS ?_
 refine Bn.of (f:=A5) (l:=l) hx0 ?_
 refine nS ?_
 revert h;refine gf (fun hc h=>?_) fun hc h=>?_
 rotate_left
 ·refine j _ _ _ (by kernel_rfl) ?_
  refine qn ?_
  refine AWP.cond (Af ?_)
  refine sq (ar rfl (qn (rt (br (qr (qr ?_))))))
  obtain rfl:=Aa h
  obtain rfl:=Ae hJ0
  replace h:=Al hO0
  refine br (qr ?_)
  cases h;exact en Tryz.results185
 refine Bn.of (f:=A5) (l:=l) hx0 ?_
 refine nS ?_
 revert h;refine gf (fun hc h=>?_) fun hc h=>?_
 rotate_left
 ·refine j _ _ _ (by kernel_rfl) ?_
  refine qn ?_
  refine AWP.cond (Af ?_)
  refine sq (ar rfl (qn (rt (br (qr (qr ?_))))))
  obtain rfl:=Aa h
  obtain rfl:=Ae hJ0
  replace h:=Al hO0
  refine br (qr ?_)
  cases h;exact en Tryz.results185
 revert h;refine gt (fun hc h=>?_) fun hc h=>?_
 ·refine Bn.of (f:=A5) (l:=l) hx0 ?_
  refine nS ?_
  obtain⟨x_3,hx_3,h⟩:=Ah h
  refine Bn.of (f:=A5) (l:=l) hx_3 ?_
  refine nS ?_
  refine j _ _ _ (by kernel_rfl) ?_
  refine qn ?_
  revert h;refine ca rfl (fun hc h=>?_) fun hc h=>?_
  ·refine sq (ar rfl (qn (rt (br (qr (qr ?_))))))
   obtain rfl:=Aa h
   obtain rfl:=Ae hJ0
   replace h:=Al hO0
   refine br (qr ?_)
   cases h;exact en Tryz.results185
  refine sk (bn (qn (ar rfl (qn ?_))))
  obtain rfl:=Aa h
  refine⟨(k0+1,(),()),⟨by dsimp only;omega,Ai hJ0⟩,by dsimp only;omega,?_,?_⟩
  ·exact cuw hw0
  exact cuw hw0
 refine j _ _ _ (by kernel_rfl) ?_
 refine qn ?_
 refine AWP.cond (Bj ?_)
 refine sk (bn (qn (ar rfl (qn ?_))))
 obtain rfl:=Aa h
 refine⟨(k0+1,(),()),⟨by dsimp only;omega,Ai hJ0⟩,by dsimp only;omega,?_,?_⟩
 ·exact cuw hw0
 exact cuw hw0
def Fv (l:List Bc) (x_2:Bc) (k2:Nat) (_x:Unit) (sv:Unit):Option (Out (Unit) (Out (Unit) (Int))):=
 (Dh l ((k2:Nat):Int)).bind fun x_4=>(bif (decide (x_4.ID=x_2.ID))then some (Out.ret (Out.ret 7))else some (Out.next ()))
def Ha (l:List Bc) (k0:Nat) (x_2:Bc) (sv:Unit):Option (Out (Unit) (Int)):=
 (bif (decide (x_2.ID<1))then some (Out.ret 2)else (bif (decide (9999<x_2.ID))then some (Out.ret 2)else (bif (decide (x_2.Limit<4))then some (Out.ret 2)else (bif (decide (100000<x_2.Limit))then some (Out.ret 2)else (bif (decide (x_2.Load<0))then some (Out.ret 2)else (bif (decide (100000<x_2.Load))then some (Out.ret 2)else (bif (decide (x_2.Controlled<(-1)))then some (Out.ret 2)else (bif (decide (20000000<x_2.Controlled))then some (Out.ret 2)else (Jr (Fv l x_2) k0 ()).bind fun o2=>o2.on fun s2=>(bif (decide (((x_2.Zones.length:Nat):Int)=0))then some (Out.ret 1)else (Ni x_2.Zones 32).bind fun y5=>(bif (!y5)then some (Out.ret 1)else (Ni x_2.Lifts 9999).bind fun y6=>(bif (!y6)then some (Out.ret 1)else some (Out.next ()))))))))))))
def Mu (l:List Bc):Option (Int):=
 (bif (decide (32<((l.length:Nat):Int)))then some 4 else(Am (Ha l) 0 l ()).bind fun o0=>o0.on fun s0=>some 0)
theorem bF (l:List Bc) {r:Int} (h:Mu l=some r):Ad Tryz.prog 89 [.sl 6 (l.map Bb)] (·= .int .i64 r):=by
 refine Ad.nle (Ad.intro Tryz.func89 rfl rfl (by show _≤86;simp) ?_)
 unfold Mu at h
 refine nS (sq ?_)
 refine ar rfl (qn (sq (sq ?_)))
 refine rg rfl fun K j=>?_
 intro hm
 refine j _ _ (qn ?_)
 revert h;refine ca rfl (fun hc h=>?_) fun hc h=>?_
 ·refine sq (ar rfl (qn (rt (qr ?_))))
  cases h;exact en Tryz.results89
 refine sk (qn (sq (sq (ar rfl (qn (bk ?_))))))
 obtain⟨o0,hJ0,hO0⟩:=Ah h
 clear h
 refine AWP.Bw (ι:=Nat×(Unit)×(Unit)) (fun zz=>[(0,.sl 6 (l.map Bb)),(3,.int .i64 ((zz.1:Nat):Int))]) (fun zz=>[]) (fun zz=>zz.1≤l.length∧Am (Ha l) zz.1 ((l).drop zz.1) zz.2.1=some o0) (fun zz=>l.length - zz.1) (0,(),()) ⟨Nat.zero_le _,hJ0⟩ cu cu (fun x=>⟨rfl,rfl,rfl⟩) ?_
 clear hJ0
 rintro⟨k0,⟨⟩,⟨⟩⟩ ⟨hk0,hJ0⟩
 dsimp only at hk0 hJ0 ⊢
 refine sq (sq ?_)
 refine rg rfl fun K j=>?_
 intro hm
 refine j _ _ (qn ?_)
 refine AWP.cond (Ak (fun hc=>?_) (fun hc=>?_))
 rotate_left
 ·obtain rfl:=Bf hJ0 (fun hl=>by have:=Ah9 hc;omega)
  have h:=Be hO0;try dsimp only at h
  have hkl:l.length=k0:=by have:=Ah9 hc;omega
  subst hkl
  refine xt (qe (qe (bs (qn (sq (ar rfl (qn (rt ?_))))))))
  cases h;exact en Tryz.results89
 have hlt0:k0<l.length:=by have:=Aia hc;omega
 obtain⟨x_2,b0,hx0_,h,hJ0⟩:=A9 hJ0 hlt0
 have hx0:=Ay hx0_
 have hw0:=wk (k:=k0) (by omega)
 unfold Ha at h;try dsimp only at h
 refine sk (qn (sq (bk (sq ?_))))
 refine rg rfl fun K j=>?_
 refine Bn.of (f:=Bb) (l:=l) hx0 ?_
 refine nS ?_
 refine j _ _ (qn (sq (sq ?_)))
 refine rg rfl fun K j=>?_
 revert h;refine gf (fun hc h=>?_) fun hc h=>?_
 rotate_left
 ·refine j _ _ (qn ?_)
  refine AWP.cond (Af ?_)
  refine sq (ar rfl (qn (rt (qr (br (qr (qr ?_)))))))
  obtain rfl:=Aa h
  obtain rfl:=Ae hJ0
  replace h:=Al hO0
  refine br (qr ?_)
  cases h;exact en Tryz.results89
 revert h;refine gf (fun hc h=>?_) fun hc h=>?_
 rotate_left
 ·refine j _ _ (qn ?_)
  refine AWP.cond (Af ?_)
  refine sq (ar rfl (qn (rt (qr (br (qr (qr ?_)))))))
  obtain rfl:=Aa h
  obtain rfl:=Ae hJ0
  replace h:=Al hO0
  refine br (qr ?_)
  cases h;exact en Tryz.results89
 revert h;refine gf (fun hc h=>?_) fun hc h=>?_
 rotate_left
 ·refine j _ _ (qn ?_)
  refine AWP.cond (Af ?_)
  refine sq (ar rfl (qn (rt (qr (br (qr (qr ?_)))))))
  obtain rfl:=Aa h
  obtain rfl:=Ae hJ0
  replace h:=Al hO0
  refine br (qr ?_)
  cases h;exact en Tryz.results89
 revert h;refine gf (fun hc h=>?_) fun hc h=>?_
 rotate_left
 ·refine j _ _ (qn ?_)
  refine AWP.cond (Af ?_)
  refine sq (ar rfl (qn (rt (qr (br (qr (qr ?_)))))))
  obtain rfl:=Aa h
  obtain rfl:=Ae hJ0
  replace h:=Al hO0
  refine br (qr ?_)
  cases h;exact en Tryz.results89
 revert h;refine gf (fun hc h=>?_) fun hc h=>?_
 rotate_left
 ·refine j _ _ (qn ?_)
  refine AWP.cond (Af ?_)
  refine sq (ar rfl (qn (rt (qr (br (qr (qr ?_)))))))
  obtain rfl:=Aa h
  obtain rfl:=Ae hJ0
  replace h:=Al hO0
  refine br (qr ?_)
  cases h;exact en Tryz.results89
 revert h;refine gf (fun hc h=>?_) fun hc h=>?_
 rotate_left
 ·refine j _ _ (qn ?_)
  refine AWP.cond (Af ?_)
  refine sq (ar rfl (qn (rt (qr (br (qr (qr ?_)))))))
  obtain rfl:=Aa h
  obtain rfl:=Ae hJ0
  replace h:=Al hO0
  refine br (qr ?_)
  cases h;exact en Tryz.results89
 revert h;refine gf (fun hc h=>?_) fun hc h=>?_
 rotate_left
 ·refine j _ _ (qn ?_)
  refine AWP.cond (Af ?_)
  refine sq (ar rfl (qn (rt (qr (br (qr (qr ?_)))))))
  obtain rfl:=Aa h
  obtain rfl:=Ae hJ0
  replace h:=Al hO0
  refine br (qr ?_)
  cases h;exact en Tryz.results89
 refine j _ _ (qn ?_)
 revert h;refine ca rfl (fun hc h=>?_) fun hc h=>?_
 ·refine sq (ar rfl (qn (rt (qr (br (qr (qr ?_)))))))
  obtain rfl:=Aa h
  obtain rfl:=Ae hJ0
  replace h:=Al hO0
  refine br (qr ?_)
  cases h;exact en Tryz.results89
 refine sk (qn (sq (sq (ar rfl (qn (bk ?_))))))
 obtain⟨o2,hJ2,hO2⟩:=Ah h
 clear h
 obtain⟨hn2,hJ2⟩:=Sd hJ2
 refine AWP.Bw (ι:=Nat×(Unit)×(Unit)) (fun zz=>[(0,.sl 6 (l.map Bb)),(3,.int .i64 ((k0:Nat):Int)),(4,.ptr 0 0),(5,.int .i64 ((zz.1:Nat):Int))]) (fun zz=>[.box [.int .i64 x_2.ID,.sl 1 (x_2.Zones.map A5),.sl 1 (x_2.Lifts.map A5),.int .i64 x_2.Limit,.int .i64 x_2.Load,.int .i64 x_2.Controlled]]) (fun zz=>zz.1≤k0∧Am (Fv l x_2) zz.1 ((List.replicate k0 ()).drop zz.1) zz.2.1=some o2) (fun zz=>k0 - zz.1) (0,(),()) ⟨Nat.zero_le _,hJ2⟩ cu cu (fun x=>⟨rfl,rfl,rfl⟩) ?_
 clear hJ2
 rintro⟨k2,⟨⟩,⟨⟩⟩ ⟨hk2,hJ2⟩
 dsimp only at hk2 hJ2 ⊢
 refine sq (sq (ar rfl (qn ?_)))
 refine AWP.cond (Ak (fun hc=>?_) (fun hc=>?_))
 ·have hlt2:k2<k0:=by have:=Aia hc;omega
  obtain⟨_,b2,_,h,hJ2⟩:=A9 hJ2 (by rw[List.length_replicate];exact hlt2)
  have hw2:=wk (k:=k2) (by omega)
  unfold Fv at h;try dsimp only at h
  refine sk (qn (sq (bk (sq ?_))))
  refine AWP.draw Tryz.mixed (by kernel_rfl) ?_;intro K j
  refine nS ?_
  obtain⟨x_4,hx_4,h⟩:=Ah h
  refine Bn.of (f:=Bb) (l:=l) hx_4 ?_
  refine nS ?_
  refine j _ _ _ (by kernel_rfl) ?_
  refine qn ?_
  revert h;refine ca rfl (fun hc h=>?_) fun hc h=>?_
  ·refine sq (ar rfl (qn (rt (br (qr (qr ?_))))))
   obtain rfl:=Aa h
   obtain rfl:=Ae hJ2
   replace h:=Al hO2
   refine br (qr (br (qr (qr ?_))))
   obtain rfl:=Aa h
   obtain rfl:=Ae hJ0
   replace h:=Al hO0
   refine br (qr ?_)
   cases h;exact en Tryz.results89
  refine sk (bn (qn (ar rfl (qn ?_))))
  obtain rfl:=Aa h
  refine⟨(k2+1,(),()),⟨by dsimp only;omega,Ai hJ2⟩,by dsimp only;omega,?_,?_⟩
  ·exact cuw hw2
  exact cuw hw2
 obtain rfl:=Bf hJ2 (fun hl=>by rw[List.length_replicate]at hl;have:=Ah9 hc;omega)
 have h:=Be hO2;try dsimp only at h
 have hkl:k0=k2:=by have:=Ah9 hc;omega
 subst hkl
 refine xt (qe (qe (bs (qn (sq ?_)))))
 refine rg rfl fun K j=>?_
 intro hm
 revert h;refine gf (fun hc h=>?_) fun hc h=>?_
 rotate_left
 ·refine j _ _ (qn ?_)
  refine AWP.cond (Af ?_)
  refine sq (ar rfl (qn (rt (br (qr (qr ?_))))))
  obtain rfl:=Aa h
  obtain rfl:=Ae hJ0
  replace h:=Al hO0
  refine br (qr ?_)
  cases h;exact en Tryz.results89
 obtain⟨y5,hy5,h⟩:=Ah h
 refine An.pure Tryz.call185 (R7 x_2.Zones 32 hy5) rfl fun _ hr=>?_
 subst hr
 refine nS ?_
 revert h;refine gf (fun hc h=>?_) fun hc h=>?_
 ·obtain⟨y6,hy6,h⟩:=Ah h
  refine An.pure Tryz.call185 (R7 x_2.Lifts 9999 hy6) rfl fun _ hr=>?_
  subst hr
  refine nS ?_
  refine j _ _ (qn ?_)
  revert h;refine ca rfl (fun hc h=>?_) fun hc h=>?_
  ·refine sq (ar rfl (qn (rt (br (qr (qr ?_))))))
   obtain rfl:=Aa h
   obtain rfl:=Ae hJ0
   replace h:=Al hO0
   refine br (qr ?_)
   cases h;exact en Tryz.results89
  refine sk (bn (qn (ar rfl (qn ?_))))
  obtain rfl:=Aa h
  refine⟨(k0+1,(),()),⟨by dsimp only;omega,Ai hJ0⟩,by dsimp only;omega,?_,?_⟩
  ·exact cuw hw0
  exact cuw hw0
 refine j _ _ (qn ?_)
 refine AWP.cond (Af ?_)
 refine sq (ar rfl (qn (rt (br (qr (qr ?_))))))
 obtain rfl:=Aa h
 obtain rfl:=Ae hJ0
 replace h:=Al hO0
 refine br (qr ?_)
 cases h;exact en Tryz.results89
def Hb (l:List Int) (k0:Nat) (x_2:Int) (sv:Unit):Option (Out (Unit) (Bool)):=
 (bif (decide (x_2<1))then some (Out.ret false)else (bif (decide (32<x_2))then some (Out.ret false)else (bif (decide (0<((k0:Nat):Int)))then (Dh l (IntKind.i64.wrap (((k0:Nat):Int) - 1))).bind fun x_3=>(bif (decide (x_2≤x_3))then some (Out.ret false)else some (Out.next ()))else some (Out.next ()))))
def J9 (l:List Int):Option (Bool):=
 (Am (Hb l) 0 l ()).bind fun o0=>o0.on fun s0=>some (decide (0<((l.length:Nat):Int)))
theorem bG (l:List Int) {r:Bool} (h:J9 l=some r):Ad Tryz.prog 186 [.sl 1 (l.map A5)] (·= .bool r):=by
 refine Ad.nle (Ad.intro Tryz.func186 rfl rfl (by show _≤41;simp) ?_)
 unfold J9 at h
 refine nS (sq ?_)
 refine ar rfl (qn (sq (sq ?_)))
 refine ar rfl (qn (bk ?_))
 obtain⟨o0,hJ0,hO0⟩:=Ah h
 clear h
 refine AWP.Bw (ι:=Nat×(Unit)×(Unit)) (fun zz=>[(0,.sl 1 (l.map A5)),(3,.int .i64 ((zz.1:Nat):Int))]) (fun zz=>[]) (fun zz=>zz.1≤l.length∧Am (Hb l) zz.1 ((l).drop zz.1) zz.2.1=some o0) (fun zz=>l.length - zz.1) (0,(),()) ⟨Nat.zero_le _,hJ0⟩ cu cu (fun x=>⟨rfl,rfl,rfl⟩) ?_
 clear hJ0
 rintro⟨k0,⟨⟩,⟨⟩⟩ ⟨hk0,hJ0⟩
 dsimp only at hk0 hJ0 ⊢
 refine sq (sq ?_)
 refine rg rfl fun K j=>?_
 intro hm
 refine j _ _ (qn ?_)
 refine AWP.cond (Ak (fun hc=>?_) (fun hc=>?_))
 rotate_left
 ·obtain rfl:=Bf hJ0 (fun hl=>by have:=Ah9 hc;omega)
  have h:=Be hO0;try dsimp only at h
  have hkl:l.length=k0:=by have:=Ah9 hc;omega
  subst hkl
  refine xt (qe (qe (bs (qn (sq ?_)))))
  refine rg rfl fun K j=>?_
  intro hm
  refine j _ _ (qn (rt ?_))
  cases h;exact en Tryz.results186
 have hlt0:k0<l.length:=by have:=Aia hc;omega
 obtain⟨x_2,b0,hx0_,h,hJ0⟩:=A9 hJ0 hlt0
 have hx0:=Ay hx0_
 have hw0:=wk (k:=k0) (by omega)
 unfold Hb at h;try dsimp only at h
 refine sk (qn (sq (bk (sq ?_))))
 refine AWP.draw Tryz.mixed (by kernel_rfl) ?_;intro K j
 refine nS ?_
 refine Bn.of (f:=A5) (l:=l) hx0 ?_
 refine nS ?_
 revert h;refine gf (fun hc h=>?_) fun hc h=>?_
 rotate_left
 ·refine j _ _ _ (by kernel_rfl) ?_
  refine qn ?_
  refine AWP.cond (Af ?_)
  refine sq (ar rfl (qn (rt (br (qr (qr ?_))))))
  obtain rfl:=Aa h
  obtain rfl:=Ae hJ0
  replace h:=Al hO0
  refine br (qr ?_)
  cases h;exact en Tryz.results186
 refine Bn.of (f:=A5) (l:=l) hx0 ?_
 refine nS ?_
 revert h;refine gf (fun hc h=>?_) fun hc h=>?_
 rotate_left
 ·refine j _ _ _ (by kernel_rfl) ?_
  refine qn ?_
  refine AWP.cond (Af ?_)
  refine sq (ar rfl (qn (rt (br (qr (qr ?_))))))
  obtain rfl:=Aa h
  obtain rfl:=Ae hJ0
  replace h:=Al hO0
  refine br (qr ?_)
  cases h;exact en Tryz.results186
 revert h;refine gt (fun hc h=>?_) fun hc h=>?_
 ·refine Bn.of (f:=A5) (l:=l) hx0 ?_
  refine nS ?_
  obtain⟨x_3,hx_3,h⟩:=Ah h
  refine Bn.of (f:=A5) (l:=l) hx_3 ?_
  refine nS ?_
  refine j _ _ _ (by kernel_rfl) ?_
  refine qn ?_
  revert h;refine ca rfl (fun hc h=>?_) fun hc h=>?_
  ·refine sq (ar rfl (qn (rt (br (qr (qr ?_))))))
   obtain rfl:=Aa h
   obtain rfl:=Ae hJ0
   replace h:=Al hO0
   refine br (qr ?_)
   cases h;exact en Tryz.results186
  refine sk (bn (qn (ar rfl (qn ?_))))
  obtain rfl:=Aa h
  refine⟨(k0+1,(),()),⟨by dsimp only;omega,Ai hJ0⟩,by dsimp only;omega,?_,?_⟩
  ·exact cuw hw0
  exact cuw hw0
 refine j _ _ _ (by kernel_rfl) ?_
 refine qn ?_
 refine AWP.cond (Bj ?_)
 refine sk (bn (qn (ar rfl (qn ?_))))
 obtain rfl:=Aa h
 refine⟨(k0+1,(),()),⟨by dsimp only;omega,Ai hJ0⟩,by dsimp only;omega,?_,?_⟩
 ·exact cuw hw0
 exact cuw hw0
def Ex (l:List Bl) (k0:Nat) (x_2:Bl) (sv:Unit):Option (Out (Unit) (Int)):=
 (bif (decide (x_2.Version<1))then some (Out.ret 2)else (bif (decide (1000000<x_2.Version))then some (Out.ret 2)else (bif (decide (x_2.Span.From<0))then some (Out.ret 2)else (bif (decide (x_2.Span.To≤x_2.Span.From))then some (Out.ret 2)else (bif (decide (20000000<x_2.Span.To))then some (Out.ret 2)else (bif (decide (x_2.Low<0))then some (Out.ret 2)else (bif (decide (x_2.High≤x_2.Low))then some (Out.ret 2)else (bif (decide (6000<x_2.High))then some (Out.ret 2)else (bif (decide (x_2.Level<1))then some (Out.ret 2)else (bif (decide (5<x_2.Level))then some (Out.ret 2)else (J9 x_2.Zones).bind fun y3=>(bif (!y3)then some (Out.ret 1)else (bif (decide (0<((k0:Nat):Int)))then (Dh l (IntKind.i64.wrap (((k0:Nat):Int) - 1))).bind fun x_4=>(bif (decide (x_2.Version<x_4.Version))then some (Out.ret 11)else some (Out.next ()))else some (Out.next ())))))))))))))
def Hz (l:List Bl):Option (Int):=
 (bif (decide (64<((l.length:Nat):Int)))then some 4 else(Am (Ex l) 0 l ()).bind fun o0=>o0.on fun s0=>some 0)
theorem bH (l:List Bl) {r:Int} (h:Hz l=some r):Ad Tryz.prog 90 [.sl 7 (l.map Aw)] (·= .int .i64 r):=by
 refine Ad.nle (Ad.intro Tryz.func90 rfl rfl (by show _≤91;simp) ?_)
 unfold Hz at h
 refine nS (sq ?_)
 refine ar rfl (qn (sq (sq ?_)))
 refine rg rfl fun K j=>?_
 intro hm
 refine j _ _ (qn ?_)
 revert h;refine ca rfl (fun hc h=>?_) fun hc h=>?_
 ·refine sq (ar rfl (qn (rt (qr ?_))))
  cases h;exact en Tryz.results90
 refine sk (qn (sq (sq (ar rfl (qn (bk ?_))))))
 obtain⟨o0,hJ0,hO0⟩:=Ah h
 clear h
 refine AWP.Bw (ι:=Nat×(Unit)×(Unit)) (fun zz=>[(0,.sl 7 (l.map Aw)),(3,.int .i64 ((zz.1:Nat):Int))]) (fun zz=>[]) (fun zz=>zz.1≤l.length∧Am (Ex l) zz.1 ((l).drop zz.1) zz.2.1=some o0) (fun zz=>l.length - zz.1) (0,(),()) ⟨Nat.zero_le _,hJ0⟩ cu cu (fun x=>⟨rfl,rfl,rfl⟩) ?_
 clear hJ0
 rintro⟨k0,⟨⟩,⟨⟩⟩ ⟨hk0,hJ0⟩
 dsimp only at hk0 hJ0 ⊢
 refine sq (sq ?_)
 refine rg rfl fun K j=>?_
 intro hm
 refine j _ _ (qn ?_)
 refine AWP.cond (Ak (fun hc=>?_) (fun hc=>?_))
 rotate_left
 ·obtain rfl:=Bf hJ0 (fun hl=>by have:=Ah9 hc;omega)
  have h:=Be hO0;try dsimp only at h
  have hkl:l.length=k0:=by have:=Ah9 hc;omega
  subst hkl
  refine xt (qe (qe (bs (qn (sq (ar rfl (qn (rt ?_))))))))
  cases h;exact en Tryz.results90
 have hlt0:k0<l.length:=by have:=Aia hc;omega
 obtain⟨x_2,b0,hx0_,h,hJ0⟩:=A9 hJ0 hlt0
 have hx0:=Ay hx0_
 have hw0:=wk (k:=k0) (by omega)
 unfold Ex at h;try dsimp only at h
 refine sk (qn (sq (bk (sq ?_))))
 refine rg rfl fun K j=>?_
 refine Bn.of (f:=Aw) (l:=l) hx0 ?_
 refine nS ?_
 refine j _ _ (qn (sq (sq ?_)))
 refine rg rfl fun K j=>?_
 revert h;refine gf (fun hc h=>?_) fun hc h=>?_
 rotate_left
 ·refine j _ _ (qn ?_)
  refine AWP.cond (Af ?_)
  refine sq (ar rfl (qn (rt (qr (br (qr (qr ?_)))))))
  obtain rfl:=Aa h
  obtain rfl:=Ae hJ0
  replace h:=Al hO0
  refine br (qr ?_)
  cases h;exact en Tryz.results90
 revert h;refine gf (fun hc h=>?_) fun hc h=>?_
 rotate_left
 ·refine j _ _ (qn ?_)
  refine AWP.cond (Af ?_)
  refine sq (ar rfl (qn (rt (qr (br (qr (qr ?_)))))))
  obtain rfl:=Aa h
  obtain rfl:=Ae hJ0
  replace h:=Al hO0
  refine br (qr ?_)
  cases h;exact en Tryz.results90
 revert h;refine gf (fun hc h=>?_) fun hc h=>?_
 rotate_left
 ·refine j _ _ (qn ?_)
  refine AWP.cond (Af ?_)
  refine sq (ar rfl (qn (rt (qr (br (qr (qr ?_)))))))
  obtain rfl:=Aa h
  obtain rfl:=Ae hJ0
  replace h:=Al hO0
  refine br (qr ?_)
  cases h;exact en Tryz.results90
 revert h;refine gf (fun hc h=>?_) fun hc h=>?_
 rotate_left
 ·refine j _ _ (qn ?_)
  refine AWP.cond (Af ?_)
  refine sq (ar rfl (qn (rt (qr (br (qr (qr ?_)))))))
  obtain rfl:=Aa h
  obtain rfl:=Ae hJ0
  replace h:=Al hO0
  refine br (qr ?_)
  cases h;exact en Tryz.results90
 revert h;refine gf (fun hc h=>?_) fun hc h=>?_
 rotate_left
 ·refine j _ _ (qn ?_)
  refine AWP.cond (Af ?_)
  refine sq (ar rfl (qn (rt (qr (br (qr (qr ?_)))))))
  obtain rfl:=Aa h
  obtain rfl:=Ae hJ0
  replace h:=Al hO0
  refine br (qr ?_)
  cases h;exact en Tryz.results90
 revert h;refine gf (fun hc h=>?_) fun hc h=>?_
 rotate_left
 ·refine j _ _ (qn ?_)
  refine AWP.cond (Af ?_)
  refine sq (ar rfl (qn (rt (qr (br (qr (qr ?_)))))))
  obtain rfl:=Aa h
  obtain rfl:=Ae hJ0
  replace h:=Al hO0
  refine br (qr ?_)
  cases h;exact en Tryz.results90
 revert h;refine gf (fun hc h=>?_) fun hc h=>?_
 rotate_left
 ·refine j _ _ (qn ?_)
  refine AWP.cond (Af ?_)
  refine sq (ar rfl (qn (rt (qr (br (qr (qr ?_)))))))
  obtain rfl:=Aa h
  obtain rfl:=Ae hJ0
  replace h:=Al hO0
  refine br (qr ?_)
  cases h;exact en Tryz.results90
 revert h;refine gf (fun hc h=>?_) fun hc h=>?_
 rotate_left
 ·refine j _ _ (qn ?_)
  refine AWP.cond (Af ?_)
  refine sq (ar rfl (qn (rt (qr (br (qr (qr ?_)))))))
  obtain rfl:=Aa h
  obtain rfl:=Ae hJ0
  replace h:=Al hO0
  refine br (qr ?_)
  cases h;exact en Tryz.results90
 revert h;refine gf (fun hc h=>?_) fun hc h=>?_
 rotate_left
 ·refine j _ _ (qn ?_)
  refine AWP.cond (Af ?_)
  refine sq (ar rfl (qn (rt (qr (br (qr (qr ?_)))))))
  obtain rfl:=Aa h
  obtain rfl:=Ae hJ0
  replace h:=Al hO0
  refine br (qr ?_)
  cases h;exact en Tryz.results90
 refine j _ _ (qn ?_)
 revert h;refine ca rfl (fun hc h=>?_) fun hc h=>?_
 ·refine sq (ar rfl (qn (rt (qr (br (qr (qr ?_)))))))
  obtain rfl:=Aa h
  obtain rfl:=Ae hJ0
  replace h:=Al hO0
  refine br (qr ?_)
  cases h;exact en Tryz.results90
 refine sk (qn (sq (sq ?_)))
 refine rg rfl fun K j=>?_
 obtain⟨y3,hy3,h⟩:=Ah h
 refine An.pure Tryz.call186 (bG x_2.Zones hy3) rfl fun _ hr=>?_
 subst hr
 refine nS ?_
 refine j _ _ (qn ?_)
 revert h;refine ca rfl (fun hc h=>?_) fun hc h=>?_
 ·refine sq (ar rfl (qn (rt (qr (br (qr (qr ?_)))))))
  obtain rfl:=Aa h
  obtain rfl:=Ae hJ0
  replace h:=Al hO0
  refine br (qr ?_)
  cases h;exact en Tryz.results90
 refine sk (qn (sq ?_))
 refine AWP.draw Tryz.mixed (by kernel_rfl) ?_;intro K j
 refine nS ?_
 revert h;refine gt (fun hc h=>?_) fun hc h=>?_
 ·obtain⟨x_4,hx_4,h⟩:=Ah h
  refine Bn.of (f:=Aw) (l:=l) hx_4 ?_
  refine nS ?_
  refine j _ _ _ (by kernel_rfl) ?_
  refine qn ?_
  revert h;refine ca rfl (fun hc h=>?_) fun hc h=>?_
  ·refine sq (ar rfl (qn (rt (br (qr (qr ?_))))))
   obtain rfl:=Aa h
   obtain rfl:=Ae hJ0
   replace h:=Al hO0
   refine br (qr ?_)
   cases h;exact en Tryz.results90
  refine sk (bn (qn (ar rfl (qn ?_))))
  obtain rfl:=Aa h
  refine⟨(k0+1,(),()),⟨by dsimp only;omega,Ai hJ0⟩,by dsimp only;omega,?_,?_⟩
  ·exact cuw hw0
  exact cuw hw0
 refine j _ _ _ (by kernel_rfl) ?_
 refine qn ?_
 refine AWP.cond (Bj ?_)
 refine sk (bn (qn (ar rfl (qn ?_))))
 obtain rfl:=Aa h
 refine⟨(k0+1,(),()),⟨by dsimp only;omega,Ai hJ0⟩,by dsimp only;omega,?_,?_⟩
 ·exact cuw hw0
 exact cuw hw0
def Lp (n_:Int) (lo:Int) (hi:Int):Option (Bool):=
 (bif (decide (lo≤n_))then some (decide (n_≤hi))else some false)
theorem I5 (n_:Int) (lo:Int) (hi:Int) {r:Bool} (h:Lp n_ lo hi=some r):Ad Tryz.prog 187 [.int .i64 n_,.int .i64 lo,.int .i64 hi] (·= .bool r):=by
 refine Ad.nle (Ad.intro Tryz.func187 rfl rfl (by show _≤15;simp) ?_)
 unfold Lp at h
 refine nS (sq ?_)
 refine ar rfl (qn (sq ?_))
 refine rg rfl fun K j=>?_
 revert h;refine gt (fun hc h=>?_) fun hc h=>?_
 ·refine j _ _ (qn (rt ?_))
  cases h;exact en Tryz.results187
 refine j _ _ (qn (rt ?_))
 cases h;exact en Tryz.results187
def Nh (id_:Int) (k0:Nat) (x_2:Bg) (sv:Unit):Option (Out (Unit) (Int)):=
 (bif (decide (x_2.ID=id_))then some (Out.ret ((k0:Nat):Int))else some (Out.next ()))
def Mt (l:List Bg) (id_:Int):Option (Int):=
 (Am (Nh id_) 0 l ()).bind fun o0=>o0.on fun s0=>some (-1)
theorem bD (l:List Bg) (id_:Int) {r:Int} (h:Mt l id_=some r):Ad Tryz.prog 188 [.sl 7 (l.map Aq),.int .i64 id_] (·= .int .i64 r):=by
 refine Ad.nle (Ad.intro Tryz.func188 rfl rfl (by show _≤20;simp) ?_)
 unfold Mt at h
 refine nS (sq ?_)
 refine ar rfl (qn (sq (sq ?_)))
 refine ar rfl (qn (bk ?_))
 obtain⟨o0,hJ0,hO0⟩:=Ah h
 clear h
 refine AWP.Bw (ι:=Nat×(Unit)×(Unit)) (fun zz=>[(0,.sl 7 (l.map Aq)),(1,.int .i64 id_),(5,.int .i64 ((zz.1:Nat):Int))]) (fun zz=>[]) (fun zz=>zz.1≤l.length∧Am (Nh id_) zz.1 ((l).drop zz.1) zz.2.1=some o0) (fun zz=>l.length - zz.1) (0,(),()) ⟨Nat.zero_le _,hJ0⟩ cu cu (fun x=>⟨rfl,rfl,rfl⟩) ?_
 clear hJ0
 rintro⟨k0,⟨⟩,⟨⟩⟩ ⟨hk0,hJ0⟩
 dsimp only at hk0 hJ0 ⊢
 refine sq (sq ?_)
 refine rg rfl fun K j=>?_
 intro hm
 refine j _ _ (qn ?_)
 refine AWP.cond (Ak (fun hc=>?_) (fun hc=>?_))
 rotate_left
 ·obtain rfl:=Bf hJ0 (fun hl=>by have:=Ah9 hc;omega)
  have h:=Be hO0;try dsimp only at h
  have hkl:l.length=k0:=by have:=Ah9 hc;omega
  subst hkl
  refine xt (qe (qe (bs (qn (sq (ar rfl (qn (rt ?_))))))))
  cases h;exact en Tryz.results188
 have hlt0:k0<l.length:=by have:=Aia hc;omega
 obtain⟨x_2,b0,hx0_,h,hJ0⟩:=A9 hJ0 hlt0
 have hx0:=Ay hx0_
 have hw0:=wk (k:=k0) (by omega)
 unfold Nh at h;try dsimp only at h
 refine sk (qn (sq (bk (sq ?_))))
 refine rg rfl fun K j=>?_
 refine Bn.of (f:=Aq) (l:=l) hx0 ?_
 refine nS ?_
 refine j _ _ (qn ?_)
 revert h;refine ca rfl (fun hc h=>?_) fun hc h=>?_
 ·refine sq (ar rfl (qn (rt (br (qr (qr ?_))))))
  obtain rfl:=Aa h
  obtain rfl:=Ae hJ0
  replace h:=Al hO0
  refine br (qr ?_)
  cases h;exact en Tryz.results188
 refine sk (bn (qn (ar rfl (qn ?_))))
 obtain rfl:=Aa h
 refine⟨(k0+1,(),()),⟨by dsimp only;omega,Ai hJ0⟩,by dsimp only;omega,?_,?_⟩
 ·exact cuw hw0
 exact cuw hw0
def Mj (m:Bg):Option (Bool):=
 (Lp m.State 0 4).bind fun y1=>some y1
theorem Ve (m:Bg) {r:Bool} (h:Mj m=some r):Ad Tryz.prog 189 [.agg (Aq m)] (·= .bool r):=by
 refine Ad.nle (Ad.intro Tryz.func189 rfl rfl (by show _≤6;simp) ?_)
 unfold Mj at h
 refine nS (sq ?_)
 refine ar rfl (qn (sq ?_))
 refine rg rfl fun K j=>?_
 obtain⟨y1,hy1,h⟩:=Ah h
 refine An.pure Tryz.call187 (I5 m.State 0 4 hy1) rfl fun _ hr=>?_
 subst hr
 refine nS ?_
 refine j _ _ (qn (rt ?_))
 cases h;exact en Tryz.results189
def Ng (slide:Int) (k0:Nat) (x_2:Bg) (sv:Unit):Option (Out (Unit) (Bool)):=
 (Mj x_2).bind fun y3=>(bif y3 then(bif (decide (x_2.Slide=slide))then some (Out.ret true)else some (Out.next ()))else some (Out.next ()))
def O0 (l:List Bg) (slide:Int):Option (Bool):=
 (Am (Ng slide) 0 l ()).bind fun o0=>o0.on fun s0=>some false
theorem bC (l:List Bg) (slide:Int) {r:Bool} (h:O0 l slide=some r):Ad Tryz.prog 190 [.sl 7 (l.map Aq),.int .i64 slide] (·= .bool r):=by
 refine Ad.nle (Ad.intro Tryz.func190 rfl rfl (by show _≤26;simp) ?_)
 unfold O0 at h
 refine nS (sq ?_)
 refine ar rfl (qn (sq (sq ?_)))
 refine ar rfl (qn (bk ?_))
 obtain⟨o0,hJ0,hO0⟩:=Ah h
 clear h
 refine AWP.Bw (ι:=Nat×(Unit)×(Unit)) (fun zz=>[(0,.sl 7 (l.map Aq)),(1,.int .i64 slide),(5,.int .i64 ((zz.1:Nat):Int))]) (fun zz=>[]) (fun zz=>zz.1≤l.length∧Am (Ng slide) zz.1 ((l).drop zz.1) zz.2.1=some o0) (fun zz=>l.length - zz.1) (0,(),()) ⟨Nat.zero_le _,hJ0⟩ cu cu (fun x=>⟨rfl,rfl,rfl⟩) ?_
 clear hJ0
 rintro⟨k0,⟨⟩,⟨⟩⟩ ⟨hk0,hJ0⟩
 dsimp only at hk0 hJ0 ⊢
 refine sq (sq ?_)
 refine rg rfl fun K j=>?_
 intro hm
 refine j _ _ (qn ?_)
 refine AWP.cond (Ak (fun hc=>?_) (fun hc=>?_))
 rotate_left
 ·obtain rfl:=Bf hJ0 (fun hl=>by have:=Ah9 hc;omega)
  have h:=Be hO0;try dsimp only at h
  have hkl:l.length=k0:=by have:=Ah9 hc;omega
  subst hkl
  refine xt (qe (qe (bs (qn (sq (ar rfl (qn (rt ?_))))))))
  cases h;exact en Tryz.results190
 have hlt0:k0<l.length:=by have:=Aia hc;omega
 obtain⟨x_2,b0,hx0_,h,hJ0⟩:=A9 hJ0 hlt0
 have hx0:=Ay hx0_
 have hw0:=wk (k:=k0) (by omega)
 unfold Ng at h;try dsimp only at h
 refine sk (qn (sq (bk (sq ?_))))
 refine rg rfl fun K j=>?_
 refine Bn.of (f:=Aq) (l:=l) hx0 ?_
 refine nS ?_
 obtain⟨y3,hy3,h⟩:=Ah h
 refine An.pure Tryz.call189 (Ve x_2 hy3) rfl fun _ hr=>?_
 subst hr
 refine nS ?_
 revert h;refine gt (fun hc h=>?_) fun hc h=>?_
 ·refine Bn.of (f:=Aq) (l:=l) hx0 ?_
  refine nS ?_
  refine j _ _ (qn ?_)
  revert h;refine ca rfl (fun hc h=>?_) fun hc h=>?_
  ·refine sq (ar rfl (qn (rt (br (qr (qr ?_))))))
   obtain rfl:=Aa h
   obtain rfl:=Ae hJ0
   replace h:=Al hO0
   refine br (qr ?_)
   cases h;exact en Tryz.results190
  refine sk (bn (qn (ar rfl (qn ?_))))
  obtain rfl:=Aa h
  refine⟨(k0+1,(),()),⟨by dsimp only;omega,Ai hJ0⟩,by dsimp only;omega,?_,?_⟩
  ·exact cuw hw0
  exact cuw hw0
 refine j _ _ (qn ?_)
 refine AWP.cond (Bj ?_)
 refine sk (bn (qn (ar rfl (qn ?_))))
 obtain rfl:=Aa h
 refine⟨(k0+1,(),()),⟨by dsimp only;omega,Ai hJ0⟩,by dsimp only;omega,?_,?_⟩
 ·exact cuw hw0
 exact cuw hw0
def G8 (l:List Bg) (k0:Nat) (x_2:Bg) (sv:Unit):Option (Out (Unit) (Int)):=
 (Lp x_2.ID 1 9999).bind fun y3=>(bif (!y3)then some (Out.ret 2)else (Lp x_2.Slide 1 9999).bind fun y4=>(bif (!y4)then some (Out.ret 2)else (Lp x_2.By 1 9999).bind fun y5=>(bif (!y5)then some (Out.ret 2)else (Lp x_2.State 0 6).bind fun y6=>(bif (!y6)then some (Out.ret 2)else (Lp x_2.Since 0 20000000).bind fun y7=>(bif (!y7)then some (Out.ret 2)else (bif (decide (x_2.Window.From<0))then some (Out.ret 2)else (bif (decide (x_2.Window.To≤x_2.Window.From))then some (Out.ret 2)else (bif (decide (20000000<x_2.Window.To))then some (Out.ret 2)else okB (decide (0≤((k0:Nat):Int)∧((k0:Nat):Int)≤((l.length:Nat):Int))) ((Mt (l.take k0) x_2.ID).bind fun y8=>(bif (decide (0≤y8))then some (Out.ret 7)else (Mj x_2).bind fun y9=>(bif y9 then okB (decide (0≤((k0:Nat):Int)∧((k0:Nat):Int)≤((l.length:Nat):Int))) ((O0 (l.take k0) x_2.Slide).bind fun y10=>(bif y10 then some (Out.ret 15)else some (Out.next ())))else some (Out.next ()))))))))))))
def Hy (l:List Bg):Option (Int):=
 (bif (decide (64<((l.length:Nat):Int)))then some 4 else(Am (G8 l) 0 l ()).bind fun o0=>o0.on fun s0=>some 0)
theorem bE (l:List Bg) {r:Int} (h:Hy l=some r):Ad Tryz.prog 91 [.sl 7 (l.map Aq)] (·= .int .i64 r):=by
 refine Ad.nle (Ad.intro Tryz.func91 rfl rfl (by show _≤86;simp) ?_)
 unfold Hy at h
 refine nS (sq ?_)
 refine ar rfl (qn (sq (sq ?_)))
 refine rg rfl fun K j=>?_
 intro hm
 refine j _ _ (qn ?_)
 revert h;refine ca rfl (fun hc h=>?_) fun hc h=>?_
 ·refine sq (ar rfl (qn (rt (qr ?_))))
  cases h;exact en Tryz.results91
 refine sk (qn (sq (sq (ar rfl (qn (bk ?_))))))
 obtain⟨o0,hJ0,hO0⟩:=Ah h
 clear h
 refine AWP.Bw (ι:=Nat×(Unit)×(Unit)) (fun zz=>[(0,.sl 7 (l.map Aq)),(3,.int .i64 ((zz.1:Nat):Int))]) (fun zz=>[]) (fun zz=>zz.1≤l.length∧Am (G8 l) zz.1 ((l).drop zz.1) zz.2.1=some o0) (fun zz=>l.length - zz.1) (0,(),()) ⟨Nat.zero_le _,hJ0⟩ cu cu (fun x=>⟨rfl,rfl,rfl⟩) ?_
 clear hJ0
 rintro⟨k0,⟨⟩,⟨⟩⟩ ⟨hk0,hJ0⟩
 dsimp only at hk0 hJ0 ⊢
 refine sq (sq ?_)
 refine rg rfl fun K j=>?_
 intro hm
 refine j _ _ (qn ?_)
 refine AWP.cond (Ak (fun hc=>?_) (fun hc=>?_))
 rotate_left
 ·obtain rfl:=Bf hJ0 (fun hl=>by have:=Ah9 hc;omega)
  have h:=Be hO0;try dsimp only at h
  have hkl:l.length=k0:=by have:=Ah9 hc;omega
  subst hkl
  refine xt (qe (qe (bs (qn (sq (ar rfl (qn (rt ?_))))))))
  cases h;exact en Tryz.results91
 have hlt0:k0<l.length:=by have:=Aia hc;omega
 obtain⟨x_2,b0,hx0_,h,hJ0⟩:=A9 hJ0 hlt0
 have hx0:=Ay hx0_
 have hw0:=wk (k:=k0) (by omega)
 unfold G8 at h;try dsimp only at h
 refine sk (qn (sq (bk (sq ?_))))
 refine rg rfl fun K j=>?_
 refine Bn.of (f:=Aq) (l:=l) hx0 ?_
 refine nS ?_
 refine j _ _ (qn (sq ?_))
 refine ar rfl (qn (bk (sq ?_)))
 refine rg rfl fun K j=>?_
 obtain⟨y3,hy3,h⟩:=Ah h
 refine An.pure Tryz.call187 (I5 x_2.ID 1 9999 hy3) rfl fun _ hr=>?_
 subst hr
 refine nS ?_
 revert h;refine gf (fun hc h=>?_) fun hc h=>?_
 rotate_left
 ·refine j _ _ (qn ?_)
  refine AWP.cond (Af ?_)
  refine sq (ar rfl (qn (rt (br (br (qr (qr ?_)))))))
  obtain rfl:=Aa h
  obtain rfl:=Ae hJ0
  replace h:=Al hO0
  refine br (qr ?_)
  cases h;exact en Tryz.results91
 obtain⟨y4,hy4,h⟩:=Ah h
 refine An.pure Tryz.call187 (I5 x_2.Slide 1 9999 hy4) rfl fun _ hr=>?_
 subst hr
 refine nS ?_
 revert h;refine gf (fun hc h=>?_) fun hc h=>?_
 rotate_left
 ·refine j _ _ (qn ?_)
  refine AWP.cond (Af ?_)
  refine sq (ar rfl (qn (rt (br (br (qr (qr ?_)))))))
  obtain rfl:=Aa h
  obtain rfl:=Ae hJ0
  replace h:=Al hO0
  refine br (qr ?_)
  cases h;exact en Tryz.results91
 obtain⟨y5,hy5,h⟩:=Ah h
 refine An.pure Tryz.call187 (I5 x_2.By 1 9999 hy5) rfl fun _ hr=>?_
 subst hr
 refine nS ?_
 revert h;refine gf (fun hc h=>?_) fun hc h=>?_
 rotate_left
 ·refine j _ _ (qn ?_)
  refine AWP.cond (Af ?_)
  refine sq (ar rfl (qn (rt (br (br (qr (qr ?_)))))))
  obtain rfl:=Aa h
  obtain rfl:=Ae hJ0
  replace h:=Al hO0
  refine br (qr ?_)
  cases h;exact en Tryz.results91
 obtain⟨y6,hy6,h⟩:=Ah h
 refine An.pure Tryz.call187 (I5 x_2.State 0 6 hy6) rfl fun _ hr=>?_
 subst hr
 refine nS ?_
 revert h;refine gf (fun hc h=>?_) fun hc h=>?_
 rotate_left
 ·refine j _ _ (qn ?_)
  refine AWP.cond (Af ?_)
  refine sq (ar rfl (qn (rt (br (br (qr (qr ?_)))))))
  obtain rfl:=Aa h
  obtain rfl:=Ae hJ0
  replace h:=Al hO0
  refine br (qr ?_)
  cases h;exact en Tryz.results91
 obtain⟨y7,hy7,h⟩:=Ah h
 refine An.pure Tryz.call187 (I5 x_2.Since 0 20000000 hy7) rfl fun _ hr=>?_
 subst hr
 refine nS ?_
 revert h;refine gf (fun hc h=>?_) fun hc h=>?_
 rotate_left
 ·refine j _ _ (qn ?_)
  refine AWP.cond (Af ?_)
  refine sq (ar rfl (qn (rt (br (br (qr (qr ?_)))))))
  obtain rfl:=Aa h
  obtain rfl:=Ae hJ0
  replace h:=Al hO0
  refine br (qr ?_)
  cases h;exact en Tryz.results91
 revert h;refine gf (fun hc h=>?_) fun hc h=>?_
 rotate_left
 ·refine j _ _ (qn ?_)
  refine AWP.cond (Af ?_)
  refine sq (ar rfl (qn (rt (br (br (qr (qr ?_)))))))
  obtain rfl:=Aa h
  obtain rfl:=Ae hJ0
  replace h:=Al hO0
  refine br (qr ?_)
  cases h;exact en Tryz.results91
 revert h;refine gf (fun hc h=>?_) fun hc h=>?_
 rotate_left
 ·refine j _ _ (qn ?_)
  refine AWP.cond (Af ?_)
  refine sq (ar rfl (qn (rt (br (br (qr (qr ?_)))))))
  obtain rfl:=Aa h
  obtain rfl:=Ae hJ0
  replace h:=Al hO0
  refine br (qr ?_)
  cases h;exact en Tryz.results91
 refine j _ _ (qn ?_)
 revert h;refine ca rfl (fun hc h=>?_) fun hc h=>?_
 ·refine sq (ar rfl (qn (rt (br (br (qr (qr ?_)))))))
  obtain rfl:=Aa h
  obtain rfl:=Ae hJ0
  replace h:=Al hO0
  refine br (qr ?_)
  cases h;exact en Tryz.results91
 refine sq ?_
 refine AWP.draw Tryz.mixed (by kernel_rfl) ?_;intro K j
 refine nS ?_
 obtain⟨hk,h⟩:=Jf h
 intro hm
 (repeat(refine⟨by omega,?_⟩))
 obtain⟨y8,hy8,h⟩:=Ah h
 refine B7.pure Tryz.call188 (bD (l.take k0) x_2.ID hy8) rfl ?_
 refine nS ?_
 refine j _ _ _ (by kernel_rfl) ?_
 refine qn ?_
 revert h;refine ca rfl (fun hc h=>?_) fun hc h=>?_
 ·refine sq (ar rfl (qn (rt (br (br (qr (qr ?_)))))))
  obtain rfl:=Aa h
  obtain rfl:=Ae hJ0
  replace h:=Al hO0
  refine br (qr ?_)
  cases h;exact en Tryz.results91
 refine sq ?_
 refine AWP.draw Tryz.mixed (by kernel_rfl) ?_;intro K j
 refine nS ?_
 obtain⟨y9,hy9,h⟩:=Ah h
 refine B7.pure Tryz.call189 (Ve x_2 hy9) rfl ?_
 refine nS ?_
 revert h;refine gt (fun hc h=>?_) fun hc h=>?_
 ·obtain⟨hk,h⟩:=Jf h
  intro hm
  (repeat(refine⟨by omega,?_⟩))
  obtain⟨y10,hy10,h⟩:=Ah h
  refine B7.pure Tryz.call190 (bC (l.take k0) x_2.Slide hy10) rfl ?_
  refine nS ?_
  refine j _ _ _ (by kernel_rfl) ?_
  refine qn ?_
  revert h;refine ca rfl (fun hc h=>?_) fun hc h=>?_
  ·refine sq (ar rfl (qn (rt (br (br (qr (qr ?_)))))))
   obtain rfl:=Aa h
   obtain rfl:=Ae hJ0
   replace h:=Al hO0
   refine br (qr ?_)
   cases h;exact en Tryz.results91
  refine sk (bn (bn (qn (ar rfl (qn ?_)))))
  obtain rfl:=Aa h
  refine⟨(k0+1,(),()),⟨by dsimp only;omega,Ai hJ0⟩,by dsimp only;omega,?_,?_⟩
  ·exact cuw hw0
  exact cuw hw0
 refine j _ _ _ (by kernel_rfl) ?_
 refine qn ?_
 refine AWP.cond (Bj ?_)
 refine sk (bn (bn (qn (ar rfl (qn ?_)))))
 obtain rfl:=Aa h
 refine⟨(k0+1,(),()),⟨by dsimp only;omega,Ai hJ0⟩,by dsimp only;omega,?_,?_⟩
 ·exact cuw hw0
 exact cuw hw0
def Lr (l:List Int) (k0:Nat) (x_2:Int) (sv:Unit):Option (Out (Unit) (Bool)):=
 (bif (decide (x_2<1))then some (Out.ret false)else (bif (decide (9999<x_2))then some (Out.ret false)else (bif (decide (0<((k0:Nat):Int)))then (Dh l (IntKind.i64.wrap (((k0:Nat):Int) - 1))).bind fun x_3=>(bif (decide (x_2≤x_3))then some (Out.ret false)else some (Out.next ()))else some (Out.next ()))))
def N8 (l:List Int):Option (Bool):=
 (Am (Lr l) 0 l ()).bind fun o0=>o0.on fun s0=>some (decide (0<((l.length:Nat):Int)))
theorem dT (l:List Int) {r:Bool} (h:N8 l=some r):Ad Tryz.prog 191 [.sl 1 (l.map A5)] (·= .bool r):=by
 refine Ad.nle (Ad.intro Tryz.func191 rfl rfl (by show _≤41;simp) ?_)
 unfold N8 at h
 refine nS (sq ?_)
 refine ar rfl (qn (sq (sq ?_)))
 refine ar rfl (qn (bk ?_))
 obtain⟨o0,hJ0,hO0⟩:=Ah h
 clear h
 refine AWP.Bw (ι:=Nat×(Unit)×(Unit)) (fun zz=>[(0,.sl 1 (l.map A5)),(3,.int .i64 ((zz.1:Nat):Int))]) (fun zz=>[]) (fun zz=>zz.1≤l.length∧Am (Lr l) zz.1 ((l).drop zz.1) zz.2.1=some o0) (fun zz=>l.length - zz.1) (0,(),()) ⟨Nat.zero_le _,hJ0⟩ cu cu (fun x=>⟨rfl,rfl,rfl⟩) ?_
 clear hJ0
 rintro⟨k0,⟨⟩,⟨⟩⟩ ⟨hk0,hJ0⟩
 dsimp only at hk0 hJ0 ⊢
 refine sq (sq ?_)
 refine rg rfl fun K j=>?_
 intro hm
 refine j _ _ (qn ?_)
 refine AWP.cond (Ak (fun hc=>?_) (fun hc=>?_))
 rotate_left
 ·obtain rfl:=Bf hJ0 (fun hl=>by have:=Ah9 hc;omega)
  have h:=Be hO0;try dsimp only at h
  have hkl:l.length=k0:=by have:=Ah9 hc;omega
  subst hkl
  refine xt (qe (qe (bs (qn (sq ?_)))))
  refine rg rfl fun K j=>?_
  intro hm
  refine j _ _ (qn (rt ?_))
  cases h;exact en Tryz.results191
 have hlt0:k0<l.length:=by have:=Aia hc;omega
 obtain⟨x_2,b0,hx0_,h,hJ0⟩:=A9 hJ0 hlt0
 have hx0:=Ay hx0_
 have hw0:=wk (k:=k0) (by omega)
 unfold Lr at h;try dsimp only at h
 refine sk (qn (sq (bk (sq ?_))))
 refine AWP.draw Tryz.mixed (by kernel_rfl) ?_;intro K j
 refine nS ?_
 refine Bn.of (f:=A5) (l:=l) hx0 ?_
 refine nS ?_
 revert h;refine gf (fun hc h=>?_) fun hc h=>?_
 rotate_left
 ·refine j _ _ _ (by kernel_rfl) ?_
  refine qn ?_
  refine AWP.cond (Af ?_)
  refine sq (ar rfl (qn (rt (br (qr (qr ?_))))))
  obtain rfl:=Aa h
  obtain rfl:=Ae hJ0
  replace h:=Al hO0
  refine br (qr ?_)
  cases h;exact en Tryz.results191
 refine Bn.of (f:=A5) (l:=l) hx0 ?_
 refine nS ?_
 revert h;refine gf (fun hc h=>?_) fun hc h=>?_
 rotate_left
 ·refine j _ _ _ (by kernel_rfl) ?_
  refine qn ?_
  refine AWP.cond (Af ?_)
  refine sq (ar rfl (qn (rt (br (qr (qr ?_))))))
  obtain rfl:=Aa h
  obtain rfl:=Ae hJ0
  replace h:=Al hO0
  refine br (qr ?_)
  cases h;exact en Tryz.results191
 revert h;refine gt (fun hc h=>?_) fun hc h=>?_
 ·refine Bn.of (f:=A5) (l:=l) hx0 ?_
  refine nS ?_
  obtain⟨x_3,hx_3,h⟩:=Ah h
  refine Bn.of (f:=A5) (l:=l) hx_3 ?_
  refine nS ?_
  refine j _ _ _ (by kernel_rfl) ?_
  refine qn ?_
  revert h;refine ca rfl (fun hc h=>?_) fun hc h=>?_
  ·refine sq (ar rfl (qn (rt (br (qr (qr ?_))))))
   obtain rfl:=Aa h
   obtain rfl:=Ae hJ0
   replace h:=Al hO0
   refine br (qr ?_)
   cases h;exact en Tryz.results191
  refine sk (bn (qn (ar rfl (qn ?_))))
  obtain rfl:=Aa h
  refine⟨(k0+1,(),()),⟨by dsimp only;omega,Ai hJ0⟩,by dsimp only;omega,?_,?_⟩
  ·exact cuw hw0
  exact cuw hw0
 refine j _ _ _ (by kernel_rfl) ?_
 refine qn ?_
 refine AWP.cond (Bj ?_)
 refine sk (bn (qn (ar rfl (qn ?_))))
 obtain rfl:=Aa h
 refine⟨(k0+1,(),()),⟨by dsimp only;omega,Ai hJ0⟩,by dsimp only;omega,?_,?_⟩
 ·exact cuw hw0
 exact cuw hw0
def Ud (n_:Int) (k0:Nat) (x_2:Int) (sv:Unit):Option (Out (Unit) (Bool)):=
 (bif (decide (x_2=n_))then some (Out.ret true)else some (Out.next ()))
def Qo (l:List Int) (n_:Int):Option (Bool):=
 (Am (Ud n_) 0 l ()).bind fun o0=>o0.on fun s0=>some false
theorem eW (l:List Int) (n_:Int) {r:Bool} (h:Qo l n_=some r):Ad Tryz.prog 217 [.sl 1 (l.map A5),.int .i64 n_] (·= .bool r):=by
 refine Ad.nle (Ad.intro Tryz.func217 rfl rfl (by show _≤18;simp) ?_)
 unfold Qo at h
 refine nS (sq ?_)
 refine ar rfl (qn (sq (sq ?_)))
 refine ar rfl (qn (bk ?_))
 obtain⟨o0,hJ0,hO0⟩:=Ah h
 clear h
 refine AWP.Bw (ι:=Nat×(Unit)×(Unit)) (fun zz=>[(0,.sl 1 (l.map A5)),(1,.int .i64 n_),(5,.int .i64 ((zz.1:Nat):Int))]) (fun zz=>[]) (fun zz=>zz.1≤l.length∧Am (Ud n_) zz.1 ((l).drop zz.1) zz.2.1=some o0) (fun zz=>l.length - zz.1) (0,(),()) ⟨Nat.zero_le _,hJ0⟩ cu cu (fun x=>⟨rfl,rfl,rfl⟩) ?_
 clear hJ0
 rintro⟨k0,⟨⟩,⟨⟩⟩ ⟨hk0,hJ0⟩
 dsimp only at hk0 hJ0 ⊢
 refine sq (sq ?_)
 refine rg rfl fun K j=>?_
 intro hm
 refine j _ _ (qn ?_)
 refine AWP.cond (Ak (fun hc=>?_) (fun hc=>?_))
 rotate_left
 ·obtain rfl:=Bf hJ0 (fun hl=>by have:=Ah9 hc;omega)
  have h:=Be hO0;try dsimp only at h
  have hkl:l.length=k0:=by have:=Ah9 hc;omega
  subst hkl
  refine xt (qe (qe (bs (qn (sq (ar rfl (qn (rt ?_))))))))
  cases h;exact en Tryz.results217
 have hlt0:k0<l.length:=by have:=Aia hc;omega
 obtain⟨x_2,b0,hx0_,h,hJ0⟩:=A9 hJ0 hlt0
 have hx0:=Ay hx0_
 have hw0:=wk (k:=k0) (by omega)
 unfold Ud at h;try dsimp only at h
 refine sk (qn (sq (bk (sq ?_))))
 refine rg rfl fun K j=>?_
 refine Bn.of (f:=A5) (l:=l) hx0 ?_
 refine nS ?_
 refine j _ _ (qn ?_)
 revert h;refine ca rfl (fun hc h=>?_) fun hc h=>?_
 ·refine sq (ar rfl (qn (rt (br (qr (qr ?_))))))
  obtain rfl:=Aa h
  obtain rfl:=Ae hJ0
  replace h:=Al hO0
  refine br (qr ?_)
  cases h;exact en Tryz.results217
 refine sk (bn (qn (ar rfl (qn ?_))))
 obtain rfl:=Aa h
 refine⟨(k0+1,(),()),⟨by dsimp only;omega,Ai hJ0⟩,by dsimp only;omega,?_,?_⟩
 ·exact cuw hw0
 exact cuw hw0
def Ka (b:Az) (k0:Nat) (x_2:Int) (sv:Unit):Option (Out (Unit) (Bool)):=
 (Qo b.Runs x_2).bind fun y3=>(bif y3 then some (Out.ret true)else some (Out.next ()))
def O2 (a:Az) (b:Az):Option (Bool):=
 (bif (decide (b.To≤a.From))then some false else(bif (decide (a.To≤b.From))then some false else(Am (Ka b) 0 a.Runs ()).bind fun o0=>o0.on fun s0=>some (decide (a.Groomer=b.Groomer))))
theorem bJ (a:Az) (b:Az) {r:Bool} (h:O2 a b=some r):Ad Tryz.prog 192 [.agg (Ap a),.agg (Ap b)] (·= .bool r):=by
 refine Ad.nle (Ad.intro Tryz.func192 rfl rfl (by show _≤38;simp) ?_)
 unfold O2 at h
 refine nS (sq ?_)
 refine ar rfl (qn (sq (sq ?_)))
 refine rg rfl fun K j=>?_
 revert h;refine gf (fun hc h=>?_) fun hc h=>?_
 rotate_left
 ·refine j _ _ (qn ?_)
  refine AWP.cond (Af ?_)
  refine sq (ar rfl (qn (rt (qr ?_))))
  cases h;exact en Tryz.results192
 refine j _ _ (qn ?_)
 revert h;refine ca rfl (fun hc h=>?_) fun hc h=>?_
 ·refine sq (ar rfl (qn (rt (qr ?_))))
  cases h;exact en Tryz.results192
 refine sk (qn (sq (sq (ar rfl (qn (bk ?_))))))
 obtain⟨o0,hJ0,hO0⟩:=Ah h
 clear h
 refine AWP.Bw (ι:=Nat×(Unit)×(Unit)) (fun zz=>[(2,.ptr 0 0),(3,.ptr 1 0),(5,.int .i64 ((zz.1:Nat):Int))]) (fun zz=>[.box [.int .i64 a.Groomer,.int .i64 a.From,.int .i64 a.To,.sl 1 (a.Runs.map A5)],.box [.int .i64 b.Groomer,.int .i64 b.From,.int .i64 b.To,.sl 1 (b.Runs.map A5)]]) (fun zz=>zz.1≤a.Runs.length∧Am (Ka b) zz.1 ((a.Runs).drop zz.1) zz.2.1=some o0) (fun zz=>a.Runs.length - zz.1) (0,(),()) ⟨Nat.zero_le _,hJ0⟩ cu cu (fun x=>⟨rfl,rfl,rfl⟩) ?_
 clear hJ0
 rintro⟨k0,⟨⟩,⟨⟩⟩ ⟨hk0,hJ0⟩
 dsimp only at hk0 hJ0 ⊢
 refine sq (sq ?_)
 refine rg rfl fun K j=>?_
 intro hm
 refine j _ _ (qn ?_)
 refine AWP.cond (Ak (fun hc=>?_) (fun hc=>?_))
 rotate_left
 ·obtain rfl:=Bf hJ0 (fun hl=>by have:=Ah9 hc;omega)
  have h:=Be hO0;try dsimp only at h
  have hkl:a.Runs.length=k0:=by have:=Ah9 hc;omega
  subst hkl
  refine xt (qe (qe (bs (qn (sq (ar rfl (qn (rt ?_))))))))
  cases h;exact en Tryz.results192
 have hlt0:k0<a.Runs.length:=by have:=Aia hc;omega
 obtain⟨x_2,b0,hx0_,h,hJ0⟩:=A9 hJ0 hlt0
 have hx0:=Ay hx0_
 have hw0:=wk (k:=k0) (by omega)
 unfold Ka at h;try dsimp only at h
 refine sk (qn (sq (bk (sq ?_))))
 refine AWP.draw Tryz.mixed (by kernel_rfl) ?_;intro K j
 refine nS ?_
 refine Bn.of (f:=A5) (l:=a.Runs) hx0 ?_
 refine nS ?_
 obtain⟨y3,hy3,h⟩:=Ah h
 refine B7.pure Tryz.call217 (eW b.Runs x_2 hy3) rfl ?_
 refine nS ?_
 refine j _ _ _ (by kernel_rfl) ?_
 refine qn ?_
 revert h;refine ca rfl (fun hc h=>?_) fun hc h=>?_
 ·refine sq (ar rfl (qn (rt (br (qr (qr ?_))))))
  obtain rfl:=Aa h
  obtain rfl:=Ae hJ0
  replace h:=Al hO0
  refine br (qr ?_)
  cases h;exact en Tryz.results192
 refine sk (bn (qn (ar rfl (qn ?_))))
 obtain rfl:=Aa h
 refine⟨(k0+1,(),()),⟨by dsimp only;omega,Ai hJ0⟩,by dsimp only;omega,?_,?_⟩
 ·exact cuw hw0
 exact cuw hw0
def D9 (l:List Az) (x_2:Az) (k3:Nat) (_x:Unit) (sv:Unit):Option (Out (Unit) (Out (Unit) (Int))):=
 (Dh l ((k3:Nat):Int)).bind fun x_5=>(O2 x_5 x_2).bind fun y6=>(bif y6 then some (Out.ret (Out.ret 15))else some (Out.next ()))
def Ey (l:List Az) (k0:Nat) (x_2:Az) (sv:Unit):Option (Out (Unit) (Int)):=
 (bif (decide (x_2.Groomer<1))then some (Out.ret 2)else (bif (decide (9999<x_2.Groomer))then some (Out.ret 2)else (bif (decide (x_2.From<0))then some (Out.ret 2)else (bif (decide (x_2.To≤x_2.From))then some (Out.ret 2)else (bif (decide (20000000<x_2.To))then some (Out.ret 2)else (N8 x_2.Runs).bind fun y3=>(bif (!y3)then some (Out.ret 1)else (Jr (D9 l x_2) k0 ()).bind fun o3=>o3.on fun s3=>some (Out.next ())))))))
def Mv (l:List Az):Option (Int):=
 (bif (decide (16<((l.length:Nat):Int)))then some 4 else(Am (Ey l) 0 l ()).bind fun o0=>o0.on fun s0=>some 0)
theorem bK (l:List Az) {r:Int} (h:Mv l=some r):Ad Tryz.prog 92 [.sl 4 (l.map Ap)] (·= .int .i64 r):=by
 refine Ad.nle (Ad.intro Tryz.func92 rfl rfl (by show _≤59;simp) ?_)
 unfold Mv at h
 refine nS (sq ?_)
 refine ar rfl (qn (sq (sq ?_)))
 refine rg rfl fun K j=>?_
 intro hm
 refine j _ _ (qn ?_)
 revert h;refine ca rfl (fun hc h=>?_) fun hc h=>?_
 ·refine sq (ar rfl (qn (rt (qr ?_))))
  cases h;exact en Tryz.results92
 refine sk (qn (sq (sq (ar rfl (qn (bk ?_))))))
 obtain⟨o0,hJ0,hO0⟩:=Ah h
 clear h
 refine AWP.Bw (ι:=Nat×(Unit)×(Unit)) (fun zz=>[(0,.sl 4 (l.map Ap)),(3,.int .i64 ((zz.1:Nat):Int))]) (fun zz=>[]) (fun zz=>zz.1≤l.length∧Am (Ey l) zz.1 ((l).drop zz.1) zz.2.1=some o0) (fun zz=>l.length - zz.1) (0,(),()) ⟨Nat.zero_le _,hJ0⟩ cu cu (fun x=>⟨rfl,rfl,rfl⟩) ?_
 clear hJ0
 rintro⟨k0,⟨⟩,⟨⟩⟩ ⟨hk0,hJ0⟩
 dsimp only at hk0 hJ0 ⊢
 refine sq (sq ?_)
 refine rg rfl fun K j=>?_
 intro hm
 refine j _ _ (qn ?_)
 refine AWP.cond (Ak (fun hc=>?_) (fun hc=>?_))
 rotate_left
 ·obtain rfl:=Bf hJ0 (fun hl=>by have:=Ah9 hc;omega)
  have h:=Be hO0;try dsimp only at h
  have hkl:l.length=k0:=by have:=Ah9 hc;omega
  subst hkl
  refine xt (qe (qe (bs (qn (sq (ar rfl (qn (rt ?_))))))))
  cases h;exact en Tryz.results92
 have hlt0:k0<l.length:=by have:=Aia hc;omega
 obtain⟨x_2,b0,hx0_,h,hJ0⟩:=A9 hJ0 hlt0
 have hx0:=Ay hx0_
 have hw0:=wk (k:=k0) (by omega)
 unfold Ey at h;try dsimp only at h
 refine sk (qn (sq (bk (sq ?_))))
 refine rg rfl fun K j=>?_
 refine Bn.of (f:=Ap) (l:=l) hx0 ?_
 refine nS ?_
 refine j _ _ (qn (sq (sq ?_)))
 refine rg rfl fun K j=>?_
 revert h;refine gf (fun hc h=>?_) fun hc h=>?_
 rotate_left
 ·refine j _ _ (qn ?_)
  refine AWP.cond (Af ?_)
  refine sq (ar rfl (qn (rt (qr (br (qr (qr ?_)))))))
  obtain rfl:=Aa h
  obtain rfl:=Ae hJ0
  replace h:=Al hO0
  refine br (qr ?_)
  cases h;exact en Tryz.results92
 revert h;refine gf (fun hc h=>?_) fun hc h=>?_
 rotate_left
 ·refine j _ _ (qn ?_)
  refine AWP.cond (Af ?_)
  refine sq (ar rfl (qn (rt (qr (br (qr (qr ?_)))))))
  obtain rfl:=Aa h
  obtain rfl:=Ae hJ0
  replace h:=Al hO0
  refine br (qr ?_)
  cases h;exact en Tryz.results92
 revert h;refine gf (fun hc h=>?_) fun hc h=>?_
 rotate_left
 ·refine j _ _ (qn ?_)
  refine AWP.cond (Af ?_)
  refine sq (ar rfl (qn (rt (qr (br (qr (qr ?_)))))))
  obtain rfl:=Aa h
  obtain rfl:=Ae hJ0
  replace h:=Al hO0
  refine br (qr ?_)
  cases h;exact en Tryz.results92
 revert h;refine gf (fun hc h=>?_) fun hc h=>?_
 rotate_left
 ·refine j _ _ (qn ?_)
  refine AWP.cond (Af ?_)
  refine sq (ar rfl (qn (rt (qr (br (qr (qr ?_)))))))
  obtain rfl:=Aa h
  obtain rfl:=Ae hJ0
  replace h:=Al hO0
  refine br (qr ?_)
  cases h;exact en Tryz.results92
 refine j _ _ (qn ?_)
 revert h;refine ca rfl (fun hc h=>?_) fun hc h=>?_
 ·refine sq (ar rfl (qn (rt (qr (br (qr (qr ?_)))))))
  obtain rfl:=Aa h
  obtain rfl:=Ae hJ0
  replace h:=Al hO0
  refine br (qr ?_)
  cases h;exact en Tryz.results92
 refine sk (qn (sq (sq ?_)))
 refine rg rfl fun K j=>?_
 obtain⟨y3,hy3,h⟩:=Ah h
 refine An.pure Tryz.call191 (dT x_2.Runs hy3) rfl fun _ hr=>?_
 subst hr
 refine nS ?_
 refine j _ _ (qn ?_)
 revert h;refine ca rfl (fun hc h=>?_) fun hc h=>?_
 ·refine sq (ar rfl (qn (rt (qr (br (qr (qr ?_)))))))
  obtain rfl:=Aa h
  obtain rfl:=Ae hJ0
  replace h:=Al hO0
  refine br (qr ?_)
  cases h;exact en Tryz.results92
 refine sk (qn (sq (ar rfl (qn (bk ?_)))))
 obtain⟨o3,hJ3,hO3⟩:=Ah h
 clear h
 obtain⟨hn3,hJ3⟩:=Sd hJ3
 refine AWP.Bw (ι:=Nat×(Unit)×(Unit)) (fun zz=>[(0,.sl 4 (l.map Ap)),(3,.int .i64 ((k0:Nat):Int)),(4,.ptr 0 0),(5,.int .i64 ((zz.1:Nat):Int))]) (fun zz=>[.box [.int .i64 x_2.Groomer,.int .i64 x_2.From,.int .i64 x_2.To,.sl 1 (x_2.Runs.map A5)]]) (fun zz=>zz.1≤k0∧Am (D9 l x_2) zz.1 ((List.replicate k0 ()).drop zz.1) zz.2.1=some o3) (fun zz=>k0 - zz.1) (0,(),()) ⟨Nat.zero_le _,hJ3⟩ cu cu (fun x=>⟨rfl,rfl,rfl⟩) ?_
 clear hJ3
 rintro⟨k3,⟨⟩,⟨⟩⟩ ⟨hk3,hJ3⟩
 dsimp only at hk3 hJ3 ⊢
 refine sq (sq (ar rfl (qn ?_)))
 refine AWP.cond (Ak (fun hc=>?_) (fun hc=>?_))
 rotate_left
 ·obtain rfl:=Bf hJ3 (fun hl=>by rw[List.length_replicate]at hl;have:=Ah9 hc;omega)
  have h:=Be hO3;try dsimp only at h
  have hkl:k0=k3:=by have:=Ah9 hc;omega
  subst hkl
  refine xt (qe (qe (bs (bn (qn (ar rfl (qn ?_)))))))
  obtain rfl:=Aa h
  refine⟨(k0+1,(),()),⟨by dsimp only;omega,Ai hJ0⟩,by dsimp only;omega,?_,?_⟩
  ·exact cuw hw0
  exact cuw hw0
 have hlt3:k3<k0:=by have:=Aia hc;omega
 obtain⟨_,b3,_,h,hJ3⟩:=A9 hJ3 (by rw[List.length_replicate];exact hlt3)
 have hw3:=wk (k:=k3) (by omega)
 unfold D9 at h;try dsimp only at h
 refine sk (qn (sq (bk (sq ?_))))
 refine AWP.draw Tryz.mixed (by kernel_rfl) ?_;intro K j
 refine nS ?_
 obtain⟨x_5,hx_5,h⟩:=Ah h
 refine Bn.of (f:=Ap) (l:=l) hx_5 ?_
 refine nS ?_
 obtain⟨y6,hy6,h⟩:=Ah h
 refine B7.pure Tryz.call192 (bJ x_5 x_2 hy6) rfl ?_
 refine nS ?_
 refine j _ _ _ (by kernel_rfl) ?_
 refine qn ?_
 revert h;refine ca rfl (fun hc h=>?_) fun hc h=>?_
 ·refine sq (ar rfl (qn (rt (br (qr (qr ?_))))))
  obtain rfl:=Aa h
  obtain rfl:=Ae hJ3
  replace h:=Al hO3
  refine br (br (qr (qr ?_)))
  obtain rfl:=Aa h
  obtain rfl:=Ae hJ0
  replace h:=Al hO0
  refine br (qr ?_)
  cases h;exact en Tryz.results92
 refine sk (bn (qn (ar rfl (qn ?_))))
 obtain rfl:=Aa h
 refine⟨(k3+1,(),()),⟨by dsimp only;omega,Ai hJ3⟩,by dsimp only;omega,?_,?_⟩
 ·exact cuw hw3
 exact cuw hw3
def Kc (n_:Int) (lo:Int) (hi:Int):Option (Bool):=
 (bif (decide (lo≤n_))then some (decide (n_≤hi))else some false)
theorem Gn (n_:Int) (lo:Int) (hi:Int) {r:Bool} (h:Kc n_ lo hi=some r):Ad Tryz.prog 193 [.int .i64 n_,.int .i64 lo,.int .i64 hi] (·= .bool r):=by
 refine Ad.nle (Ad.intro Tryz.func193 rfl rfl (by show _≤15;simp) ?_)
 unfold Kc at h
 refine nS (sq ?_)
 refine ar rfl (qn (sq ?_))
 refine rg rfl fun K j=>?_
 revert h;refine gt (fun hc h=>?_) fun hc h=>?_
 ·refine j _ _ (qn (rt ?_))
  cases h;exact en Tryz.results193
 refine j _ _ (qn (rt ?_))
 cases h;exact en Tryz.results193
def Kb (id_:Int) (k0:Nat) (x_2:B3) (sv:Unit):Option (Out (Unit) (Int)):=
 (bif (decide (x_2.ID=id_))then some (Out.ret ((k0:Nat):Int))else some (Out.next ()))
def O3 (l:List B3) (id_:Int):Option (Int):=
 (Am (Kb id_) 0 l ()).bind fun o0=>o0.on fun s0=>some (-1)
theorem bL (l:List B3) (id_:Int) {r:Int} (h:O3 l id_=some r):Ad Tryz.prog 194 [.sl 8 (l.map A2),.int .i64 id_] (·= .int .i64 r):=by
 refine Ad.nle (Ad.intro Tryz.func194 rfl rfl (by show _≤20;simp) ?_)
 unfold O3 at h
 refine nS (sq ?_)
 refine ar rfl (qn (sq (sq ?_)))
 refine ar rfl (qn (bk ?_))
 obtain⟨o0,hJ0,hO0⟩:=Ah h
 clear h
 refine AWP.Bw (ι:=Nat×(Unit)×(Unit)) (fun zz=>[(0,.sl 8 (l.map A2)),(1,.int .i64 id_),(5,.int .i64 ((zz.1:Nat):Int))]) (fun zz=>[]) (fun zz=>zz.1≤l.length∧Am (Kb id_) zz.1 ((l).drop zz.1) zz.2.1=some o0) (fun zz=>l.length - zz.1) (0,(),()) ⟨Nat.zero_le _,hJ0⟩ cu cu (fun x=>⟨rfl,rfl,rfl⟩) ?_
 clear hJ0
 rintro⟨k0,⟨⟩,⟨⟩⟩ ⟨hk0,hJ0⟩
 dsimp only at hk0 hJ0 ⊢
 refine sq (sq ?_)
 refine rg rfl fun K j=>?_
 intro hm
 refine j _ _ (qn ?_)
 refine AWP.cond (Ak (fun hc=>?_) (fun hc=>?_))
 rotate_left
 ·obtain rfl:=Bf hJ0 (fun hl=>by have:=Ah9 hc;omega)
  have h:=Be hO0;try dsimp only at h
  have hkl:l.length=k0:=by have:=Ah9 hc;omega
  subst hkl
  refine xt (qe (qe (bs (qn (sq (ar rfl (qn (rt ?_))))))))
  cases h;exact en Tryz.results194
 have hlt0:k0<l.length:=by have:=Aia hc;omega
 obtain⟨x_2,b0,hx0_,h,hJ0⟩:=A9 hJ0 hlt0
 have hx0:=Ay hx0_
 have hw0:=wk (k:=k0) (by omega)
 unfold Kb at h;try dsimp only at h
 refine sk (qn (sq (bk (sq ?_))))
 refine rg rfl fun K j=>?_
 refine Bn.of (f:=A2) (l:=l) hx0 ?_
 refine nS ?_
 refine j _ _ (qn ?_)
 revert h;refine ca rfl (fun hc h=>?_) fun hc h=>?_
 ·refine sq (ar rfl (qn (rt (br (qr (qr ?_))))))
  obtain rfl:=Aa h
  obtain rfl:=Ae hJ0
  replace h:=Al hO0
  refine br (qr ?_)
  cases h;exact en Tryz.results194
 refine sk (bn (qn (ar rfl (qn ?_))))
 obtain rfl:=Aa h
 refine⟨(k0+1,(),()),⟨by dsimp only;omega,Ai hJ0⟩,by dsimp only;omega,?_,?_⟩
 ·exact cuw hw0
 exact cuw hw0
def Kd (l:List B3) (k0:Nat) (x_2:B3) (sv:Unit):Option (Out (Unit) (Int)):=
 (Kc x_2.ID 1 9999).bind fun y3=>(bif (!y3)then some (Out.ret 2)else (Kc x_2.Node 1 9999).bind fun y4=>(bif (!y4)then some (Out.ret 2)else (Kc x_2.Fuel 0 1000000).bind fun y5=>(bif (!y5)then some (Out.ret 2)else (Kc x_2.State 0 2).bind fun y6=>(bif (!y6)then some (Out.ret 2)else (Kc x_2.Until 0 20000000).bind fun y7=>(bif (!y7)then some (Out.ret 2)else (Kc x_2.To 0 9999).bind fun y8=>(bif (!y8)then some (Out.ret 2)else (Kc x_2.Run 0 9999).bind fun y9=>(bif (!y9)then some (Out.ret 2)else okB (decide (0≤((k0:Nat):Int)∧((k0:Nat):Int)≤((l.length:Nat):Int))) ((O3 (l.take k0) x_2.ID).bind fun y10=>(bif (decide (0≤y10))then some (Out.ret 7)else (bif ((decide (x_2.To≠0)) !=(decide (x_2.State=1)))then some (Out.ret 10)else (bif ((decide (x_2.Run≠0)) !=(decide (x_2.State=2)))then some (Out.ret 10)else some (Out.next ()))))))))))))
def Mw (l:List B3):Option (Int):=
 (bif (decide (16<((l.length:Nat):Int)))then some 4 else(Am (Kd l) 0 l ()).bind fun o0=>o0.on fun s0=>some 0)
theorem bM (l:List B3) {r:Int} (h:Mw l=some r):Ad Tryz.prog 93 [.sl 8 (l.map A2)] (·= .int .i64 r):=by
 refine Ad.nle (Ad.intro Tryz.func93 rfl rfl (by show _≤81;simp) ?_)
 unfold Mw at h
 refine nS (sq ?_)
 refine ar rfl (qn (sq (sq ?_)))
 refine rg rfl fun K j=>?_
 intro hm
 refine j _ _ (qn ?_)
 revert h;refine ca rfl (fun hc h=>?_) fun hc h=>?_
 ·refine sq (ar rfl (qn (rt (qr ?_))))
  cases h;exact en Tryz.results93
 refine sk (qn (sq (sq (ar rfl (qn (bk ?_))))))
 obtain⟨o0,hJ0,hO0⟩:=Ah h
 clear h
 refine AWP.Bw (ι:=Nat×(Unit)×(Unit)) (fun zz=>[(0,.sl 8 (l.map A2)),(3,.int .i64 ((zz.1:Nat):Int))]) (fun zz=>[]) (fun zz=>zz.1≤l.length∧Am (Kd l) zz.1 ((l).drop zz.1) zz.2.1=some o0) (fun zz=>l.length - zz.1) (0,(),()) ⟨Nat.zero_le _,hJ0⟩ cu cu (fun x=>⟨rfl,rfl,rfl⟩) ?_
 clear hJ0
 rintro⟨k0,⟨⟩,⟨⟩⟩ ⟨hk0,hJ0⟩
 dsimp only at hk0 hJ0 ⊢
 refine sq (sq ?_)
 refine rg rfl fun K j=>?_
 intro hm
 refine j _ _ (qn ?_)
 refine AWP.cond (Ak (fun hc=>?_) (fun hc=>?_))
 rotate_left
 ·obtain rfl:=Bf hJ0 (fun hl=>by have:=Ah9 hc;omega)
  have h:=Be hO0;try dsimp only at h
  have hkl:l.length=k0:=by have:=Ah9 hc;omega
  subst hkl
  refine xt (qe (qe (bs (qn (sq (ar rfl (qn (rt ?_))))))))
  cases h;exact en Tryz.results93
 have hlt0:k0<l.length:=by have:=Aia hc;omega
 obtain⟨x_2,b0,hx0_,h,hJ0⟩:=A9 hJ0 hlt0
 have hx0:=Ay hx0_
 have hw0:=wk (k:=k0) (by omega)
 unfold Kd at h;try dsimp only at h
 refine sk (qn (sq (bk (sq ?_))))
 refine rg rfl fun K j=>?_
 refine Bn.of (f:=A2) (l:=l) hx0 ?_
 refine nS ?_
 refine j _ _ (qn (sq (sq ?_)))
 refine rg rfl fun K j=>?_
 obtain⟨y3,hy3,h⟩:=Ah h
 refine An.pure Tryz.call193 (Gn x_2.ID 1 9999 hy3) rfl fun _ hr=>?_
 subst hr
 refine nS ?_
 revert h;refine gf (fun hc h=>?_) fun hc h=>?_
 rotate_left
 ·refine j _ _ (qn ?_)
  refine AWP.cond (Af ?_)
  refine sq (ar rfl (qn (rt (qr (br (qr (qr ?_)))))))
  obtain rfl:=Aa h
  obtain rfl:=Ae hJ0
  replace h:=Al hO0
  refine br (qr ?_)
  cases h;exact en Tryz.results93
 obtain⟨y4,hy4,h⟩:=Ah h
 refine An.pure Tryz.call193 (Gn x_2.Node 1 9999 hy4) rfl fun _ hr=>?_
 subst hr
 refine nS ?_
 revert h;refine gf (fun hc h=>?_) fun hc h=>?_
 rotate_left
 ·refine j _ _ (qn ?_)
  refine AWP.cond (Af ?_)
  refine sq (ar rfl (qn (rt (qr (br (qr (qr ?_)))))))
  obtain rfl:=Aa h
  obtain rfl:=Ae hJ0
  replace h:=Al hO0
  refine br (qr ?_)
  cases h;exact en Tryz.results93
 obtain⟨y5,hy5,h⟩:=Ah h
 refine An.pure Tryz.call193 (Gn x_2.Fuel 0 1000000 hy5) rfl fun _ hr=>?_
 subst hr
 refine nS ?_
 revert h;refine gf (fun hc h=>?_) fun hc h=>?_
 rotate_left
 ·refine j _ _ (qn ?_)
  refine AWP.cond (Af ?_)
  refine sq (ar rfl (qn (rt (qr (br (qr (qr ?_)))))))
  obtain rfl:=Aa h
  obtain rfl:=Ae hJ0
  replace h:=Al hO0
  refine br (qr ?_)
  cases h;exact en Tryz.results93
 obtain⟨y6,hy6,h⟩:=Ah h
 refine An.pure Tryz.call193 (Gn x_2.State 0 2 hy6) rfl fun _ hr=>?_
 subst hr
 refine nS ?_
 revert h;refine gf (fun hc h=>?_) fun hc h=>?_
 rotate_left
 ·refine j _ _ (qn ?_)
  refine AWP.cond (Af ?_)
  refine sq (ar rfl (qn (rt (qr (br (qr (qr ?_)))))))
  obtain rfl:=Aa h
  obtain rfl:=Ae hJ0
  replace h:=Al hO0
  refine br (qr ?_)
  cases h;exact en Tryz.results93
 obtain⟨y7,hy7,h⟩:=Ah h
 refine An.pure Tryz.call193 (Gn x_2.Until 0 20000000 hy7) rfl fun _ hr=>?_
 subst hr
 refine nS ?_
 revert h;refine gf (fun hc h=>?_) fun hc h=>?_
 rotate_left
 ·refine j _ _ (qn ?_)
  refine AWP.cond (Af ?_)
  refine sq (ar rfl (qn (rt (qr (br (qr (qr ?_)))))))
  obtain rfl:=Aa h
  obtain rfl:=Ae hJ0
  replace h:=Al hO0
  refine br (qr ?_)
  cases h;exact en Tryz.results93
 obtain⟨y8,hy8,h⟩:=Ah h
 refine An.pure Tryz.call193 (Gn x_2.To 0 9999 hy8) rfl fun _ hr=>?_
 subst hr
 refine nS ?_
 revert h;refine gf (fun hc h=>?_) fun hc h=>?_
 rotate_left
 ·refine j _ _ (qn ?_)
  refine AWP.cond (Af ?_)
  refine sq (ar rfl (qn (rt (qr (br (qr (qr ?_)))))))
  obtain rfl:=Aa h
  obtain rfl:=Ae hJ0
  replace h:=Al hO0
  refine br (qr ?_)
  cases h;exact en Tryz.results93
 obtain⟨y9,hy9,h⟩:=Ah h
 refine An.pure Tryz.call193 (Gn x_2.Run 0 9999 hy9) rfl fun _ hr=>?_
 subst hr
 refine nS ?_
 refine j _ _ (qn ?_)
 revert h;refine ca rfl (fun hc h=>?_) fun hc h=>?_
 ·refine sq (ar rfl (qn (rt (qr (br (qr (qr ?_)))))))
  obtain rfl:=Aa h
  obtain rfl:=Ae hJ0
  replace h:=Al hO0
  refine br (qr ?_)
  cases h;exact en Tryz.results93
 refine sk (qn (sq (sq ?_)))
 refine AWP.draw Tryz.mixed (by kernel_rfl) ?_;intro K j
 refine nS ?_
 obtain⟨hk,h⟩:=Jf h
 intro hm
 (repeat(refine⟨by omega,?_⟩))
 obtain⟨y10,hy10,h⟩:=Ah h
 refine B7.pure Tryz.call194 (bL (l.take k0) x_2.ID hy10) rfl ?_
 refine nS ?_
 refine j _ _ _ (by kernel_rfl) ?_
 refine qn ?_
 revert h;refine ca rfl (fun hc h=>?_) fun hc h=>?_
 ·refine sq (ar rfl (qn (rt (qr (br (qr (qr ?_)))))))
  obtain rfl:=Aa h
  obtain rfl:=Ae hJ0
  replace h:=Al hO0
  refine br (qr ?_)
  cases h;exact en Tryz.results93
 refine sk (qn (sq ?_))
 refine rg rfl fun K j=>?_
 revert h;refine gf (fun hc h=>?_) fun hc h=>?_
 ·refine j _ _ (qn ?_)
  revert h;refine ca rfl (fun hc h=>?_) fun hc h=>?_
  ·refine sq (ar rfl (qn (rt (br (qr (qr ?_))))))
   obtain rfl:=Aa h
   obtain rfl:=Ae hJ0
   replace h:=Al hO0
   refine br (qr ?_)
   cases h;exact en Tryz.results93
  refine sk (bn (qn (ar rfl (qn ?_))))
  obtain rfl:=Aa h
  refine⟨(k0+1,(),()),⟨by dsimp only;omega,Ai hJ0⟩,by dsimp only;omega,?_,?_⟩
  ·exact cuw hw0
  exact cuw hw0
 refine j _ _ (qn ?_)
 refine AWP.cond (Af ?_)
 refine sq (ar rfl (qn (rt (br (qr (qr ?_))))))
 obtain rfl:=Aa h
 obtain rfl:=Ae hJ0
 replace h:=Al hO0
 refine br (qr ?_)
 cases h;exact en Tryz.results93
def Fu (y1:Int) (y2:Int) (y3:Int) (y4:Int) (y5:Int) (y6:Int) (y7:Int) (y8:Int) (y9:Int) (k9:Nat) (_x:Unit) (sv:Unit):Option (Out (Unit) (Int)):=
 (Dh [y1,y2,y3,y4,y5,y6,y7,y8,y9] ((k9:Nat):Int)).bind fun x_11=>(bif (decide (x_11≠0))then some (Out.ret x_11)else some (Out.next ()))
def J1 (f_:Aj):Option (Int):=
 (H0 f_.Map).bind fun y1=>(Hx f_.Closures).bind fun y2=>(Hw f_.Patrol).bind fun y3=>(O1 f_.Surfaces).bind fun y4=>(Mu f_.Slides).bind fun y5=>(Hz f_.Bulletin).bind fun y6=>(Hy f_.Missions).bind fun y7=>(Mv f_.Winches).bind fun y8=>(Mw f_.Groomers).bind fun y9=>(Jr (Fu y1 y2 y3 y4 y5 y6 y7 y8 y9) 9 ()).bind fun o9=>o9.on fun s9=>some 0
theorem aV (f_:Aj) {r:Int} (h:J1 f_=some r):Ad Tryz.prog 41 [.agg (B5 f_)] (·= .int .i64 r):=by
 refine Ad.nle (Ad.intro Tryz.func41 rfl rfl (by show _≤48;simp) ?_)
 unfold J1 at h
 refine nS (sq ?_)
 refine ar rfl (qn (sq ?_))
 refine AWP.draw Tryz.mixed (by kernel_rfl) ?_;intro K j
 refine nS ?_
 obtain⟨y1,hy1,h⟩:=Ah h
 refine B7.pure Tryz.call85 (bS f_.Map hy1) rfl ?_
 refine nS ?_
 obtain⟨y2,hy2,h⟩:=Ah h
 refine B7.pure Tryz.call86 (bA f_.Closures hy2) rfl ?_
 refine nS ?_
 obtain⟨y3,hy3,h⟩:=Ah h
 refine B7.pure Tryz.call87 (aY f_.Patrol hy3) rfl ?_
 refine nS ?_
 obtain⟨y4,hy4,h⟩:=Ah h
 refine B7.pure Tryz.call88 (bI f_.Surfaces hy4) rfl ?_
 refine nS ?_
 obtain⟨y5,hy5,h⟩:=Ah h
 refine B7.pure Tryz.call89 (bF f_.Slides hy5) rfl ?_
 refine nS ?_
 obtain⟨y6,hy6,h⟩:=Ah h
 refine B7.pure Tryz.call90 (bH f_.Bulletin hy6) rfl ?_
 refine nS ?_
 obtain⟨y7,hy7,h⟩:=Ah h
 refine B7.pure Tryz.call91 (bE f_.Missions hy7) rfl ?_
 refine nS ?_
 obtain⟨y8,hy8,h⟩:=Ah h
 refine B7.pure Tryz.call92 (bK f_.Winches hy8) rfl ?_
 refine nS ?_
 obtain⟨y9,hy9,h⟩:=Ah h
 refine B7.pure Tryz.call93 (bM f_.Groomers hy9) rfl ?_
 refine nS ?_
 refine j _ _ _ (by kernel_rfl) ?_
 refine qn (sq (sq (ar rfl (qn (bk ?_)))))
 obtain⟨o9,hJ9,hO9⟩:=Ah h
 clear h
 obtain⟨hn9,hJ9⟩:=Sd hJ9
 refine AWP.Bw (ι:=Nat×(Unit)×(Unit)) (fun zz=>[(3,.own 10 0 0 9),(4,.int .i64 ((zz.1:Nat):Int))]) (fun zz=>[.gone,.gone,.gone,.gone,.gone,.gone,.gone,.gone,.gone,.gone,.row 0 1 ([y1,y2,y3,y4,y5,y6,y7,y8,y9].map A5)]) (fun zz=>zz.1≤9∧Am (Fu y1 y2 y3 y4 y5 y6 y7 y8 y9) zz.1 ((List.replicate 9 ()).drop zz.1) zz.2.1=some o9) (fun zz=>9 - zz.1) (0,(),()) ⟨Nat.zero_le _,hJ9⟩ cu cu (fun x=>⟨rfl,rfl,rfl⟩) ?_
 clear hJ9
 rintro⟨k9,⟨⟩,⟨⟩⟩ ⟨hk9,hJ9⟩
 dsimp only at hk9 hJ9 ⊢
 refine sq (sq (ar rfl (qn ?_)))
 refine AWP.cond (Ak (fun hc=>?_) (fun hc=>?_))
 rotate_left
 ·obtain rfl:=Bf hJ9 (fun hl=>by rw[List.length_replicate]at hl;have:=Ah9 hc;omega)
  have h:=Be hO9;try dsimp only at h
  have hkl:9=k9:=by have:=Ah9 hc;omega
  subst hkl
  refine xt (qe (qe (bs (qn (sq (ar rfl (qn (rt ?_))))))))
  cases h;exact en Tryz.results41
 have hlt9:k9<9:=by have:=Aia hc;omega
 obtain⟨_,b9,_,h,hJ9⟩:=A9 hJ9 (by rw[List.length_replicate];exact hlt9)
 have hw9:=wk (k:=k9) (by omega)
 unfold Fu at h;try dsimp only at h
 refine sk (qn (sq (bk (sq ?_))))
 refine rg rfl fun K j=>?_
 obtain⟨x_11,hx_11,h⟩:=Ah h
 refine Ki hx_11 (by first | rfl | exact(Cl _).symm | (simp only[List.length_append,List.length_cons,List.length_nil,List.length_set,List.length_replicate]<;>omega)) ?_
 refine nS ?_
 refine Dd.ofNat (f:=A5) (l:=[y1,y2,y3,y4,y5,y6,y7,y8,y9]) (n:=k9) hx_11 ?_
 refine nS ?_
 refine j _ _ (qn ?_)
 revert h;refine ca rfl (fun hc h=>?_) fun hc h=>?_
 ·refine sq ?_
  refine rg rfl fun K j=>?_
  refine Ki hx_11 (by first | rfl | exact(Cl _).symm | (simp only[List.length_append,List.length_cons,List.length_nil,List.length_set,List.length_replicate]<;>omega)) ?_
  refine nS ?_
  refine Dd.ofNat (f:=A5) (l:=[y1,y2,y3,y4,y5,y6,y7,y8,y9]) (n:=k9) hx_11 ?_
  refine nS ?_
  refine j _ _ (qn (rt (br (qr (qr ?_)))))
  obtain rfl:=Aa h
  obtain rfl:=Ae hJ9
  replace h:=Al hO9
  refine br (qr ?_)
  cases h;exact en Tryz.results41
 refine sk (bn (qn (ar rfl (qn ?_))))
 obtain rfl:=Aa h
 refine⟨(k9+1,(),()),⟨by dsimp only;omega,Ai hJ9⟩,by dsimp only;omega,?_,?_⟩
 ·exact cuw hw9
 exact cuw hw9
end
end Go.Proofs.YtjopghiagoidgaaGreat
