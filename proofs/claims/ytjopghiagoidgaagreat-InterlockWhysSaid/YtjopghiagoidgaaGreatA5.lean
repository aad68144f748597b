/- Our own texts: a layer of abstract values over the model, the walks of the functions, the plain laws; joined and shortened by a small program of our own (wip/dce2.py, wip/pack.py). -/
import Derived.Test.YtjopghiagoidgaaGreatA4
import Derived.Calls
import Derived.Tactics2
import Derived.Below
import Derived.Deep.LoopGhost
import Derived.KernelRfl
import Derived.Laws.Shifts
import Derived.Laws.CopyRow
import Derived.Laws.AppendOwn
import Derived.Laws.MakeOwn
import Derived.Laws.StructEq
import Derived.Maps.RangeRun
import Derived.Lib.SliceRun
import Derived.TacticsIn
import Derived.OrdersIn
import Derived.Sort.LoopGhostIn
import Derived.RangeFuncRecord
import Derived.Orders
import Derived.ProofKit
import Derived.OpenShut
import Derived.ShutString
import Derived.ChangeOld
import Derived.Carry
import Derived.WideShapes
import Derived.ChangeArms
import Derived.ChangeShapes
import Derived.Handed
import Derived.JoinedOf
import Derived.Sort.Grow
import Derived.Lib.SlicesCompact
import Derived.Lib.SlKeysI
import Derived.Maps.Own
import Derived.WideKeyRuns
import Derived.Test.YtjopghiagoidgaaGreatChecked
import Derived.Test.YtjopghiagoidgaaGreatProg
import Derived.Shelf.SortM.Plain
import Derived.Shelf.SortM.SortNone
import Derived.Shelf.SlIterI.Nil
import Derived.Shelf.Slices.CompactI
namespace Go.Proofs.YtjopghiagoidgaaGreat
open Go Go.Ab
attribute [local irreducible] AWP Al Bz Ad Go.Ab.Sub alist dlist Bk Cy D2 G4
set_option maxRecDepth 100000
set_option maxHeartbeats 4000000
set_option linter.unusedSimpArgs false
set_option linter.unusedVariables false
noncomputable section
def Lx (b:Bp) (t:Int):Option (Bool):=
 (bif (decide (b.Span.From≤t))then some (decide (t<b.Span.To))else some false)
theorem Tc (b:Bp) (t:Int) {r:Bool} (h:Lx b t=some r):Ad Tryz.prog 99 [.agg (Au b),.int .i64 t] (·= .bool r):=by
 refine Ad.nle (Ad.intro Tryz.func99 rfl rfl (by show _≤17;simp) ?_)
 unfold Lx at h
 refine nS (sq ?_)
 refine ar rfl (qn (sq ?_))
 refine rg rfl fun K j=>?_
 revert h;refine gt (fun hc h=>?_) fun hc h=>?_
 ·refine j _ _ (qn (rt ?_))
  cases h;exact en Tryz.results99
 refine j _ _ (qn (rt ?_))
 cases h;exact en Tryz.results99
def Fs (t:Int) (k1:Nat) (x_3:Bp) (sv:Int):Option (Out (Int) (Int)):=
 (Lx x_3 t).bind fun y4=>(bif y4 then some (Out.next (if sv<x_3.Version then x_3.Version else sv))else some (Out.next sv))
def Gy (l:List Bp) (t:Int):Option (Int):=
 (Am (Fs t) 0 l 0).bind fun o1=>o1.on fun s1=>some s1
theorem Zu (l:List Bp) (t:Int) {r:Int} (h:Gy l t=some r):Ad Tryz.prog 100 [.sl 7 (l.map Au),.int .i64 t] (·= .int .i64 r):=by
 refine Ad.nle (Ad.intro Tryz.func100 rfl rfl (by show _≤27;simp) ?_)
 unfold Gy at h
 refine nS (sq ?_)
 refine ar rfl (qn (sq ?_))
 refine ar rfl (qn (sq (sq ?_)))
 refine ar rfl (qn (bk ?_))
 obtain⟨o1,hJ1,hO1⟩:=Ah h
 clear h
 refine AWP.Br (ι:=Nat×(Int)×(Unit)) (fun zz=>[(0,.sl 7 (l.map Au)),(1,.int .i64 t),(5,.int .i64 zz.2.1),(6,.int .i64 ((zz.1:Nat):Int))]) (fun zz=>[]) (fun zz=>zz.1≤l.length∧Am (Fs t) zz.1 ((l).drop zz.1) zz.2.1=some o1) (fun zz=>l.length - zz.1) (0,0,()) ⟨Nat.zero_le _,hJ1⟩ cu cu (fun x=>⟨rfl,rfl,rfl⟩) ?_
 clear hJ1
 rintro⟨k1,n_1,⟨⟩⟩ ⟨hk1,hJ1⟩
 dsimp only at hk1 hJ1 ⊢
 refine sq (sq ?_)
 refine rg rfl fun K j=>?_
 intro hm
 refine j _ _ (qn ?_)
 refine AWP.cond (Aj (fun hc=>?_) (fun hc=>?_))
 rotate_left
 ·obtain rfl:=Bc hJ1 (fun hl=>by have:=Ajo hc;omega)
  have h:=Bb hO1;try dsimp only at h
  have hkl:l.length=k1:=by have:=Ajo hc;omega
  subst hkl
  refine xt (qe (qe (bs (qn (sq (ar rfl (qn (rt ?_))))))))
  cases h;exact en Tryz.results100
 have hlt1:k1<l.length:=by have:=Ajp hc;omega
 obtain⟨x_3,b1,hx1_,h,hJ1⟩:=A1 hJ1 hlt1
 have hx1:=Ay hx1_
 have hw1:=wk (k:=k1) (by omega)
 unfold Fs at h;try dsimp only at h
 refine sk (qn (sq (bk (sq ?_))))
 refine rg rfl fun K j=>?_
 refine Bk.of (f:=Au) (l:=l) hx1 ?_
 refine nS ?_
 obtain⟨y4,hy4,h⟩:=Ah h
 refine Al.pure Tryz.call99 (Tc x_3 t hy4) rfl fun _ hr=>?_
 subst hr
 refine nS ?_
 refine j _ _ (qn ?_)
 revert h;refine ca rfl (fun hc h=>?_) fun hc h=>?_
 ·refine rg rfl fun K j=>?_
  refine Bk.of (f:=Au) (l:=l) hx1 ?_
  refine nS ?_
  refine j _ _ (bn (qn ?_))
  refine ar rfl (qn ?_)
  obtain rfl:=Aa h
  refine⟨(k1+1,(if n_1<x_3.Version then x_3.Version else n_1),()),⟨by dsimp only;omega,Ae hJ1⟩,by dsimp only;omega,?_,?_⟩
  ·exact cuw hw1
  exact cuw hw1
 refine sk (bn (qn (ar rfl (qn ?_))))
 obtain rfl:=Aa h
 refine⟨(k1+1,n_1,()),⟨by dsimp only;omega,Ae hJ1⟩,by dsimp only;omega,?_,?_⟩
 ·exact cuw hw1
 exact cuw hw1
def Vf (n_:Int) (k0:Nat) (x_2:Int) (sv:Unit):Option (Out (Unit) (Bool)):=
 (bif (decide (x_2=n_))then some (Out.ret true)else some (Out.next ()))
def Yd (l:List Int) (n_:Int):Option (Bool):=
 (Am (Vf n_) 0 l ()).bind fun o0=>o0.on fun s0=>some false
theorem hX (l:List Int) (n_:Int) {r:Bool} (h:Yd l n_=some r):Ad Tryz.prog 101 [.sl 1 (l.map Aw),.int .i64 n_] (·= .bool r):=by
 refine Ad.nle (Ad.intro Tryz.func101 rfl rfl (by show _≤18;simp) ?_)
 unfold Yd at h
 refine nS (sq ?_)
 refine ar rfl (qn (sq (sq ?_)))
 refine ar rfl (qn (bk ?_))
 obtain⟨o0,hJ0,hO0⟩:=Ah h
 clear h
 refine AWP.Br (ι:=Nat×(Unit)×(Unit)) (fun zz=>[(0,.sl 1 (l.map Aw)),(1,.int .i64 n_),(5,.int .i64 ((zz.1:Nat):Int))]) (fun zz=>[]) (fun zz=>zz.1≤l.length∧Am (Vf n_) zz.1 ((l).drop zz.1) zz.2.1=some o0) (fun zz=>l.length - zz.1) (0,(),()) ⟨Nat.zero_le _,hJ0⟩ cu cu (fun x=>⟨rfl,rfl,rfl⟩) ?_
 clear hJ0
 rintro⟨k0,⟨⟩,⟨⟩⟩ ⟨hk0,hJ0⟩
 dsimp only at hk0 hJ0 ⊢
 refine sq (sq ?_)
 refine rg rfl fun K j=>?_
 intro hm
 refine j _ _ (qn ?_)
 refine AWP.cond (Aj (fun hc=>?_) (fun hc=>?_))
 rotate_left
 ·obtain rfl:=Bc hJ0 (fun hl=>by have:=Ajo hc;omega)
  have h:=Bb hO0;try dsimp only at h
  have hkl:l.length=k0:=by have:=Ajo hc;omega
  subst hkl
  refine xt (qe (qe (bs (qn (sq (ar rfl (qn (rt ?_))))))))
  cases h;exact en Tryz.results101
 have hlt0:k0<l.length:=by have:=Ajp hc;omega
 obtain⟨x_2,b0,hx0_,h,hJ0⟩:=A1 hJ0 hlt0
 have hx0:=Ay hx0_
 have hw0:=wk (k:=k0) (by omega)
 unfold Vf at h;try dsimp only at h
 refine sk (qn (sq (bk (sq ?_))))
 refine rg rfl fun K j=>?_
 refine Bk.of (f:=Aw) (l:=l) hx0 ?_
 refine nS ?_
 refine j _ _ (qn ?_)
 revert h;refine ca rfl (fun hc h=>?_) fun hc h=>?_
 ·refine sq (ar rfl (qn (rt (br (qr (qr ?_))))))
  obtain rfl:=Aa h
  obtain rfl:=Af hJ0
  replace h:=An hO0
  refine br (qr ?_)
  cases h;exact en Tryz.results101
 refine sk (bn (qn (ar rfl (qn ?_))))
 obtain rfl:=Aa h
 refine⟨(k0+1,(),()),⟨by dsimp only;omega,Ae hJ0⟩,by dsimp only;omega,?_,?_⟩
 ·exact cuw hw0
 exact cuw hw0
def Ou (l:List Bp) (zone:Int) (low:Int) (high:Int) (t:Int) (k1:Nat) (x_3:Bp) (sv:Int):Option (Out (Int) (Int)):=
 (Lx x_3 t).bind fun y4=>(bif y4 then(Gy l t).bind fun y5=>(bif (decide (x_3.Version=y5))then (Yd x_3.Zones zone).bind fun y6=>(bif y6 then(bif (decide (x_3.Low<high))then (bif (decide (low<x_3.High))then some (Out.next (if sv<x_3.Level then x_3.Level else sv))else some (Out.next sv))else some (Out.next sv))else some (Out.next sv))else some (Out.next sv))else some (Out.next sv))
def Qo (l:List Bp) (zone:Int) (low:Int) (high:Int) (t:Int):Option (Int):=
 (Am (Ou l zone low high t) 0 l 0).bind fun o1=>o1.on fun s1=>some s1
theorem cZ (l:List Bp) (zone:Int) (low:Int) (high:Int) (t:Int) {r:Int} (h:Qo l zone low high t=some r):Ad Tryz.prog 47 [.sl 7 (l.map Au),.int .i64 zone,.int .i64 low,.int .i64 high,.int .i64 t] (·= .int .i64 r):=by
 refine Ad.nle (Ad.intro Tryz.func47 rfl rfl (by show _≤58;simp) ?_)
 unfold Qo at h
 refine nS (sq ?_)
 refine ar rfl (qn (sq ?_))
 refine ar rfl (qn (sq (sq ?_)))
 refine ar rfl (qn (bk ?_))
 obtain⟨o1,hJ1,hO1⟩:=Ah h
 clear h
 refine AWP.Br (ι:=Nat×(Int)×(Unit)) (fun zz=>[(0,.sl 7 (l.map Au)),(1,.int .i64 zone),(2,.int .i64 low),(3,.int .i64 high),(4,.int .i64 t),(11,.int .i64 zz.2.1),(12,.int .i64 ((zz.1:Nat):Int))]) (fun zz=>[]) (fun zz=>zz.1≤l.length∧Am (Ou l zone low high t) zz.1 ((l).drop zz.1) zz.2.1=some o1) (fun zz=>l.length - zz.1) (0,0,()) ⟨Nat.zero_le _,hJ1⟩ cu cu (fun x=>⟨rfl,rfl,rfl⟩) ?_
 clear hJ1
 rintro⟨k1,n_1,⟨⟩⟩ ⟨hk1,hJ1⟩
 dsimp only at hk1 hJ1 ⊢
 refine sq (sq ?_)
 refine rg rfl fun K j=>?_
 intro hm
 refine j _ _ (qn ?_)
 refine AWP.cond (Aj (fun hc=>?_) (fun hc=>?_))
 rotate_left
 ·obtain rfl:=Bc hJ1 (fun hl=>by have:=Ajo hc;omega)
  have h:=Bb hO1;try dsimp only at h
  have hkl:l.length=k1:=by have:=Ajo hc;omega
  subst hkl
  refine xt (qe (qe (bs (qn (sq (ar rfl (qn (rt ?_))))))))
  cases h;exact en Tryz.results47
 have hlt1:k1<l.length:=by have:=Ajp hc;omega
 obtain⟨x_3,b1,hx1_,h,hJ1⟩:=A1 hJ1 hlt1
 have hx1:=Ay hx1_
 have hw1:=wk (k:=k1) (by omega)
 unfold Ou at h;try dsimp only at h
 refine sk (qn (sq (bk (sq ?_))))
 refine rg rfl fun K j=>?_
 refine Bk.of (f:=Au) (l:=l) hx1 ?_
 refine nS ?_
 refine j _ _ (qn (sq ?_))
 refine AWP.draw Tryz.mixed (by kernel_rfl) ?_;intro K j
 refine nS ?_
 obtain⟨y4,hy4,h⟩:=Ah h
 refine Bz.pure Tryz.call99 (Tc x_3 t hy4) rfl ?_
 refine nS ?_
 revert h;refine gt (fun hc h=>?_) fun hc h=>?_
 ·obtain⟨y5,hy5,h⟩:=Ah h
  refine Bz.pure Tryz.call100 (Zu l t hy5) rfl ?_
  refine nS ?_
  revert h;refine gt (fun hc h=>?_) fun hc h=>?_
  ·obtain⟨y6,hy6,h⟩:=Ah h
   refine Bz.pure Tryz.call101 (hX x_3.Zones zone hy6) rfl ?_
   refine nS ?_
   revert h;refine gt (fun hc h=>?_) fun hc h=>?_
   ·revert h;refine gt (fun hc h=>?_) fun hc h=>?_
    ·refine j _ _ _ (by kernel_rfl) ?_
     refine qn ?_
     revert h;refine ca rfl (fun hc h=>?_) fun hc h=>?_
     ·refine ar rfl (bn (qn ?_))
      refine ar rfl (qn ?_)
      obtain rfl:=Aa h
      refine⟨(k1+1,(if n_1<x_3.Level then x_3.Level else n_1),()),⟨by dsimp only;omega,Ae hJ1⟩,by dsimp only;omega,?_,?_⟩
      ·exact cuw hw1
      exact cuw hw1
     refine sk (bn (qn (ar rfl (qn ?_))))
     obtain rfl:=Aa h
     refine⟨(k1+1,n_1,()),⟨by dsimp only;omega,Ae hJ1⟩,by dsimp only;omega,?_,?_⟩
     ·exact cuw hw1
     exact cuw hw1
    refine j _ _ _ (by kernel_rfl) ?_
    refine qn ?_
    refine AWP.cond (Bg ?_)
    refine sk (bn (qn (ar rfl (qn ?_))))
    obtain rfl:=Aa h
    refine⟨(k1+1,n_1,()),⟨by dsimp only;omega,Ae hJ1⟩,by dsimp only;omega,?_,?_⟩
    ·exact cuw hw1
    exact cuw hw1
   refine j _ _ _ (by kernel_rfl) ?_
   refine qn ?_
   refine AWP.cond (Bg ?_)
   refine sk (bn (qn (ar rfl (qn ?_))))
   obtain rfl:=Aa h
   refine⟨(k1+1,n_1,()),⟨by dsimp only;omega,Ae hJ1⟩,by dsimp only;omega,?_,?_⟩
   ·exact cuw hw1
   exact cuw hw1
  refine j _ _ _ (by kernel_rfl) ?_
  refine qn ?_
  refine AWP.cond (Bg ?_)
  refine sk (bn (qn (ar rfl (qn ?_))))
  obtain rfl:=Aa h
  refine⟨(k1+1,n_1,()),⟨by dsimp only;omega,Ae hJ1⟩,by dsimp only;omega,?_,?_⟩
  ·exact cuw hw1
  exact cuw hw1
 refine j _ _ _ (by kernel_rfl) ?_
 refine qn ?_
 refine AWP.cond (Bg ?_)
 refine sk (bn (qn (ar rfl (qn ?_))))
 obtain rfl:=Aa h
 refine⟨(k1+1,n_1,()),⟨by dsimp only;omega,Ae hJ1⟩,by dsimp only;omega,?_,?_⟩
 ·exact cuw hw1
 exact cuw hw1
def Gc (f_:Ak) (k2:Nat) (k5:Nat) (x_7:Cf) (sv:Int×Int):Option (Out (Int×Int) (Out ((List Int)) ((List Int)))):=
 (bif (decide (x_7.Zone≠(((k2:Nat):Int)+1)))then some (Out.next (sv.1,sv.2))else (Jo f_.Map x_7.To).bind fun y8=>(bif (decide (y8<sv.1))then (Jo f_.Map x_7.To).bind fun y9=>(Jo f_.Map x_7.From).bind fun y10=>(bif (decide (sv.2<y10))then (Jo f_.Map x_7.From).bind fun y11=>some (Out.next (y9,y11))else some (Out.next (y9,sv.2)))else (Jo f_.Map x_7.From).bind fun y12=>(bif (decide (sv.2<y12))then (Jo f_.Map x_7.From).bind fun y13=>some (Out.next (sv.1,y13))else some (Out.next (sv.1,sv.2)))))
def Es (f_:Ak) (k2:Nat) (_x:Unit) (sv:(List Int)):Option (Out ((List Int)) ((List Int))):=
 (Am (Gc f_ k2) 0 f_.Map.Runs (9999,(-1))).bind fun o5=>o5.on fun s5=>(bif (decide (0≤s5.2))then (Qo f_.Bulletin (((k2:Nat):Int)+1) s5.1 s5.2 f_.Time).bind fun y14=>chk (sv.length+1) (some (Out.next (sv++[y14])))else chk (sv.length+1) (some (Out.next (sv++[(0:Int)]))))
def Gi (f_:Ak):Option ((List Int)):=
 (Kc (Es f_) 32 []).bind fun o2=>o2.on fun s2=>some s2
theorem Zr (f_:Ak) {r:(List Int)} (h:Gi f_=some r):Bh Tryz.prog 17 [.agg (Bv f_)] (·= .sl 1 (r.map Aw)):=by
 refine Bh.nle (Bh.intro Tryz.func17 rfl rfl (by show _≤72;simp) ?_)
 unfold Gi at h
 refine nS (sq ?_)
 refine ar rfl (qn (sq ?_))
 refine ar rfl (qn (sq (sq ?_)))
 refine ar rfl (qn (bk ?_))
 obtain⟨o2,hJ2,hO2⟩:=Ah h
 clear h
 obtain⟨hn2,hJ2⟩:=Pe hJ2
 refine AWP.Br (ι:=Nat×((List Int))×(Nat)) (fun zz=>[(1,.ptr 0 0),(3,.own 1 zz.2.2 0 zz.2.1.length),(4,.int .i64 (((zz.1:Nat):Int)+(1:Int)))]) (fun zz=>[.box [.sl 2 (f_.Map.Nodes.map A9),.sl 8 (f_.Map.Lifts.map A7),.sl 7 (f_.Map.Runs.map Be),.sl 1 (f_.Map.Bases.map Aw),.sl 2 (f_.Lifts.map Az),.sl 4 (f_.Closures.map Aq),.sl 4 (f_.Patrol.Bw.map Ax),.sl 3 (f_.Patrol.Hazards.map A3),.sl 3 (f_.Surfaces.map Ba),.sl 5 (f_.Packs.map A4),.sl 6 (f_.Slides.map A5),.sl 7 (f_.Bulletin.map Au),.sl 7 (f_.Missions.map Ao),.sl 4 (f_.Winches.map Ap),.sl 8 (f_.Groomers.map A2),.sl 3 (f_.Status.map A6),.int .i64 f_.Depth,.int .i64 f_.Time],.row zz.2.2 1 (zz.2.1.map Aw)]) (fun zz=>zz.1≤32∧Am (Es f_) zz.1 ((List.replicate 32 ()).drop zz.1) zz.2.1=some o2) (fun zz=>32 - zz.1) (0,[],0) ⟨Nat.zero_le _,hJ2⟩ cu cu (fun x=>⟨rfl,rfl,rfl⟩) ?_
 clear hJ2
 rintro⟨k2,out1,ver2⟩ ⟨hk2,hJ2⟩
 dsimp only at hk2 hJ2 ⊢
 refine sq (sq (ar rfl (qn ?_)))
 refine AWP.cond (Aj (fun hc=>?_) (fun hc=>?_))
 rotate_left
 ·obtain rfl:=Bc hJ2 (fun hl=>by rw[List.length_replicate]at hl;have:=Ajo hc;omega)
  have h:=Bb hO2;try dsimp only at h
  have hkl:32=k2:=by have:=Ajo hc;omega
  subst hkl
  refine xt (qe (qe (bs (qn (sq (ar rfl (qn (rt ?_))))))))
  cases h;exact en Tryz.results17
 have hlt2:k2<32:=by have:=Ajp hc;omega
 obtain⟨_,b2,_,h,hJ2⟩:=A1 hJ2 (by rw[List.length_replicate];exact hlt2)
 have hw2:IntKind.i64.wrap ((((k2:Nat):Int)+1)+1)=(((k2:Nat):Int)+1+1):=by rw[wrap_i64]<;>omega
 unfold Es at h;try dsimp only at h
 refine sk (qn (sq (bk (sq (ar rfl (qn (sq (sq ?_))))))))
 refine ar rfl (qn (bk ?_))
 obtain⟨o5,hJ5,hO5⟩:=Ah h
 clear h
 refine AWP.Br (ι:=Nat×(Int×Int)×(Unit)) (fun zz=>[(1,.ptr 0 0),(3,.own 1 ver2 0 out1.length),(4,.int .i64 (((k2:Nat):Int)+1)),(5,.int .i64 zz.2.1.1),(6,.int .i64 zz.2.1.2),(7,.int .i64 ((zz.1:Nat):Int))]) (fun zz=>[.box [.sl 2 (f_.Map.Nodes.map A9),.sl 8 (f_.Map.Lifts.map A7),.sl 7 (f_.Map.Runs.map Be),.sl 1 (f_.Map.Bases.map Aw),.sl 2 (f_.Lifts.map Az),.sl 4 (f_.Closures.map Aq),.sl 4 (f_.Patrol.Bw.map Ax),.sl 3 (f_.Patrol.Hazards.map A3),.sl 3 (f_.Surfaces.map Ba),.sl 5 (f_.Packs.map A4),.sl 6 (f_.Slides.map A5),.sl 7 (f_.Bulletin.map Au),.sl 7 (f_.Missions.map Ao),.sl 4 (f_.Winches.map Ap),.sl 8 (f_.Groomers.map A2),.sl 3 (f_.Status.map A6),.int .i64 f_.Depth,.int .i64 f_.Time],.row ver2 1 (out1.map Aw)]) (fun zz=>zz.1≤f_.Map.Runs.length∧Am (Gc f_ k2) zz.1 ((f_.Map.Runs).drop zz.1) zz.2.1=some o5) (fun zz=>f_.Map.Runs.length - zz.1) (0,(9999,(-1)),()) ⟨Nat.zero_le _,hJ5⟩ cu cu (fun x=>⟨rfl,rfl,rfl⟩) ?_
 clear hJ5
 rintro⟨k5,⟨low4,high5⟩,⟨⟩⟩ ⟨hk5,hJ5⟩
 dsimp only at hk5 hJ5 ⊢
 refine sq (sq ?_)
 refine rg rfl fun K j=>?_
 intro hm
 refine j _ _ (qn ?_)
 refine AWP.cond (Aj (fun hc=>?_) (fun hc=>?_))
 rotate_left
 ·obtain rfl:=Bc hJ5 (fun hl=>by have:=Ajo hc;omega)
  have h:=Bb hO5;try dsimp only at h
  have hkl:f_.Map.Runs.length=k5:=by have:=Ajo hc;omega
  subst hkl
  refine xt (qe (qe (bs (qn (sq (ar rfl (qn (sq (sq ?_)))))))))
  refine ar rfl (qn ?_)
  revert h;refine ca rfl (fun hc h=>?_) fun hc h=>?_
  ·refine rg rfl fun K j=>?_
   obtain⟨y14,hy14,h⟩:=Ah h
   refine Al.pure Tryz.call47 (cZ f_.Bulletin (((k2:Nat):Int)+1) low4 high5 f_.Time hy14) rfl fun _ hr=>?_
   subst hr
   refine nS ?_
   refine j _ _ (qn ?_)
   refine rg rfl fun K j=>?_
   obtain⟨hk,h⟩:=B1 h
   (repeat refine rp ?_);try simp +decide -implicitDefEqProofs only[go_sem]
   refine j _ _ (bn (qn ?_))
   refine ar rfl (qn ?_)
   obtain rfl:=Aa h
   refine⟨(k2+1,(out1++[y14]),(ver2+1)),⟨by dsimp only;omega,Ae hJ2⟩,by dsimp only;omega,?_,?_⟩
   ·exact cuw hw2
   exact cuw hw2
  refine sk (qn ?_)
  refine rg rfl fun K j=>?_
  obtain⟨hk,h⟩:=B1 h
  (repeat refine rp ?_);try simp +decide -implicitDefEqProofs only[go_sem]
  refine j _ _ (bn (qn ?_))
  refine ar rfl (qn ?_)
  obtain rfl:=Aa h
  refine⟨(k2+1,(out1++[(0:Int)]),(ver2+1)),⟨by dsimp only;omega,Ae hJ2⟩,by dsimp only;omega,?_,?_⟩
  ·exact cuw hw2
  exact cuw hw2
 have hlt5:k5<f_.Map.Runs.length:=by have:=Ajp hc;omega
 obtain⟨x_7,b5,hx5_,h,hJ5⟩:=A1 hJ5 hlt5
 have hx5:=Ay hx5_
 have hw5:=wk (k:=k5) (by omega)
 unfold Gc at h;try dsimp only at h
 refine sk (qn (sq (bk (sq ?_))))
 refine rg rfl fun K j=>?_
 refine Bk.of (f:=Be) (l:=f_.Map.Runs) hx5 ?_
 refine nS ?_
 refine j _ _ (qn (sq (sq ?_)))
 refine ar rfl (qn ?_)
 revert h;refine ca rfl (fun hc h=>?_) fun hc h=>?_
 ·refine xt (qe (bs (qn (ar rfl (qn ?_)))))
  obtain rfl:=Aa h
  refine⟨(k5+1,(low4,high5),()),⟨by dsimp only;omega,Ae hJ5⟩,by dsimp only;omega,?_,?_⟩
  ·exact cuw hw5
  exact cuw hw5
 refine sk (qn (sq (sq ?_)))
 refine rg rfl fun K j=>?_
 obtain⟨y8,hy8,h⟩:=Ah h
 refine Al.pure Tryz.call46 (Hi f_.Map x_7.To hy8) rfl fun _ hr=>?_
 subst hr
 refine nS ?_
 refine j _ _ (qn ?_)
 revert h;refine ca rfl (fun hc h=>?_) fun hc h=>?_
 ·refine rg rfl fun K j=>?_
  obtain⟨y9,hy9,h⟩:=Ah h
  refine Al.pure Tryz.call46 (Hi f_.Map x_7.To hy9) rfl fun _ hr=>?_
  subst hr
  refine nS ?_
  refine j _ _ (qn (sq ?_))
  refine rg rfl fun K j=>?_
  obtain⟨y10,hy10,h⟩:=Ah h
  refine Al.pure Tryz.call46 (Hi f_.Map x_7.From hy10) rfl fun _ hr=>?_
  subst hr
  refine nS ?_
  refine j _ _ (qn ?_)
  revert h;refine ca rfl (fun hc h=>?_) fun hc h=>?_
  ·refine rg rfl fun K j=>?_
   obtain⟨y11,hy11,h⟩:=Ah h
   refine Al.pure Tryz.call46 (Hi f_.Map x_7.From hy11) rfl fun _ hr=>?_
   subst hr
   refine nS ?_
   refine j _ _ (bn (qn ?_))
   refine ar rfl (qn ?_)
   obtain rfl:=Aa h
   refine⟨(k5+1,(y9,y11),()),⟨by dsimp only;omega,Ae hJ5⟩,by dsimp only;omega,?_,?_⟩
   ·exact cuw hw5
   exact cuw hw5
  refine sk (bn (qn (ar rfl (qn ?_))))
  obtain rfl:=Aa h
  refine⟨(k5+1,(y9,high5),()),⟨by dsimp only;omega,Ae hJ5⟩,by dsimp only;omega,?_,?_⟩
  ·exact cuw hw5
  exact cuw hw5
 refine sk (qn (sq ?_))
 refine rg rfl fun K j=>?_
 obtain⟨y12,hy12,h⟩:=Ah h
 refine Al.pure Tryz.call46 (Hi f_.Map x_7.From hy12) rfl fun _ hr=>?_
 subst hr
 refine nS ?_
 refine j _ _ (qn ?_)
 revert h;refine ca rfl (fun hc h=>?_) fun hc h=>?_
 ·refine rg rfl fun K j=>?_
  obtain⟨y13,hy13,h⟩:=Ah h
  refine Al.pure Tryz.call46 (Hi f_.Map x_7.From hy13) rfl fun _ hr=>?_
  subst hr
  refine nS ?_
  refine j _ _ (bn (qn ?_))
  refine ar rfl (qn ?_)
  obtain rfl:=Aa h
  refine⟨(k5+1,(low4,y13),()),⟨by dsimp only;omega,Ae hJ5⟩,by dsimp only;omega,?_,?_⟩
  ·exact cuw hw5
  exact cuw hw5
 refine sk (bn (qn (ar rfl (qn ?_))))
 obtain rfl:=Aa h
 refine⟨(k5+1,(low4,high5),()),⟨by dsimp only;omega,Ae hJ5⟩,by dsimp only;omega,?_,?_⟩
 ·exact cuw hw5
 exact cuw hw5
theorem S9 (f_:Ak) {r:(List Int)} (h:Gi f_=some r):Ad Tryz.prog 17 [.agg (Bv f_)] (·= .sl 1 (r.map Aw)):=(Zr f_ h).pure
def Qm (l:List Bn) (kind:Int) (target:Int) (k2:Nat) (_x:Unit) (sv:(List Int)):Option (Out ((List Int)) ((List Int))):=
 (Fm l kind target (((k2:Nat):Int)+1)).bind fun y4=>(bif (decide (0≤y4))then chk (sv.length+1) (some (Out.next (sv++[(((k2:Nat):Int)+1)])))else some (Out.next sv))
def Sc (l:List Bn) (kind:Int) (target:Int):Option ((List Int)):=
 (Kc (Qm l kind target) 6 []).bind fun o2=>o2.on fun s2=>some s2
theorem hN (l:List Bn) (kind:Int) (target:Int) {r:(List Int)} (h:Sc l kind target=some r):Bh Tryz.prog 216 [.sl 4 (l.map Aq),.int .i64 kind,.int .i64 target] (·= .sl 1 (r.map Aw)):=by
 refine Bh.nle (Bh.intro Tryz.func216 rfl rfl (by show _≤24;simp) ?_)
 unfold Sc at h
 refine nS (sq ?_)
 refine ar rfl (qn (sq ?_))
 refine ar rfl (qn (sq (sq ?_)))
 refine ar rfl (qn (bk ?_))
 refine AWP.ghost 7 1 rfl (by decide) ?_
 obtain⟨o2,hJ2,hO2⟩:=Ah h
 clear h
 obtain⟨hn2,hJ2⟩:=Pe hJ2
 refine AWP.Br (ι:=Nat×((List Int))×(Nat)) (fun zz=>[(0,.sl 4 (l.map Aq)),(1,.int .i64 kind),(2,.int .i64 target),(7,.own 0 zz.2.2 0 zz.2.1.length),(8,.int .i64 (((zz.1:Nat):Int)+(1:Int)))]) (fun zz=>[.row zz.2.2 1 (zz.2.1.map Aw)]) (fun zz=>zz.1≤6∧Am (Qm l kind target) zz.1 ((List.replicate 6 ()).drop zz.1) zz.2.1=some o2) (fun zz=>6 - zz.1) (0,[],0) ⟨Nat.zero_le _,hJ2⟩ cu cu (fun x=>⟨rfl,rfl,rfl⟩) ?_
 clear hJ2
 rintro⟨k2,out1,ver2⟩ ⟨hk2,hJ2⟩
 dsimp only at hk2 hJ2 ⊢
 refine sq (sq (ar rfl (qn ?_)))
 refine AWP.cond (Aj (fun hc=>?_) (fun hc=>?_))
 rotate_left
 ·obtain rfl:=Bc hJ2 (fun hl=>by rw[List.length_replicate]at hl;have:=Ajo hc;omega)
  have h:=Bb hO2;try dsimp only at h
  have hkl:6=k2:=by have:=Ajo hc;omega
  subst hkl
  refine xt (qe (qe (bs (qn (sq (ar rfl (qn (rt ?_))))))))
  cases h;exact en Tryz.results216
 have hlt2:k2<6:=by have:=Ajp hc;omega
 obtain⟨_,b2,_,h,hJ2⟩:=A1 hJ2 (by rw[List.length_replicate];exact hlt2)
 have hw2:IntKind.i64.wrap ((((k2:Nat):Int)+1)+1)=(((k2:Nat):Int)+1+1):=by rw[wrap_i64]<;>omega
 unfold Qm at h;try dsimp only at h
 refine sk (qn (sq (bk (sq ?_))))
 refine rg rfl fun K j=>?_
 obtain⟨y4,hy4,h⟩:=Ah h
 refine Al.pure Tryz.call182 (Uv l kind target (((k2:Nat):Int)+1) hy4) rfl fun _ hr=>?_
 subst hr
 refine nS ?_
 refine j _ _ (qn ?_)
 revert h;refine ca rfl (fun hc h=>?_) fun hc h=>?_
 ·refine rg rfl fun K j=>?_
  obtain⟨hk,h⟩:=B1 h
  (repeat refine rp ?_);try simp +decide -implicitDefEqProofs only[go_sem]
  refine j _ _ (bn (qn ?_))
  refine ar rfl (qn ?_)
  obtain rfl:=Aa h
  refine⟨(k2+1,(out1++[(((k2:Nat):Int)+1)]),(ver2+1)),⟨by dsimp only;omega,Ae hJ2⟩,by dsimp only;omega,?_,?_⟩
  ·exact cuw hw2
  exact cuw hw2
 refine sk (bn (qn (ar rfl (qn ?_))))
 obtain rfl:=Aa h
 refine⟨(k2+1,out1,ver2),⟨by dsimp only;omega,Ae hJ2⟩,by dsimp only;omega,?_,?_⟩
 ·exact cuw hw2
 exact cuw hw2
theorem Zb (l:List Bn) (kind:Int) (target:Int) {r:(List Int)} (h:Sc l kind target=some r):Ad Tryz.prog 216 [.sl 4 (l.map Aq),.int .i64 kind,.int .i64 target] (·= .sl 1 (r.map Aw)):=(hN l kind target h).pure
def Uu (m:Bd) (l:List Bn) (run:Int):Option (Bool):=
 (Lz m run).bind fun y1=>(bif y1.2 then(Sc l 1 run).bind fun y2=>(bif (decide (0<((y2.length:Nat):Int)))then some true else(Sc l 3 y1.1.Zone).bind fun y3=>some (decide (0<((y3.length:Nat):Int))))else some false)
theorem hG (m:Bd) (l:List Bn) (run:Int) {r:Bool} (h:Uu m l run=some r):Ad Tryz.prog 112 [.agg (Ca m),.sl 4 (l.map Aq),.int .i64 run] (·= .bool r):=by
 refine Ad.nle (Ad.intro Tryz.func112 rfl rfl (by show _≤31;simp) ?_)
 unfold Uu at h
 refine nS (sq ?_)
 refine ar rfl (qn (sq ?_))
 refine rg rfl fun K j=>?_
 obtain⟨y1,hy1,h⟩:=Ah h
 refine Al.pure Tryz.call32 (K9 m run hy1) rfl fun _ hr=>?_
 subst hr
 refine nS ?_
 refine j _ _ (qn (sq ?_))
 refine rg rfl fun K j=>?_
 revert h;refine gt (fun hc h=>?_) fun hc h=>?_
 ·obtain⟨y2,hy2,h⟩:=Ah h
  refine Al.pure Tryz.call216 (Zb l 1 run hy2) rfl fun _ hr=>?_
  subst hr
  refine nS ?_
  intro hm
  revert h;refine gf (fun hc h=>?_) fun hc h=>?_
  ·obtain⟨y3,hy3,h⟩:=Ah h
   refine Al.pure Tryz.call216 (Zb l 3 y1.1.Zone hy3) rfl fun _ hr=>?_
   subst hr
   refine nS ?_
   intro hm
   refine j _ _ (qn (rt ?_))
   cases h;exact en Tryz.results112
  refine j _ _ (qn (rt ?_))
  cases h;exact en Tryz.results112
 refine j _ _ (qn (rt ?_))
 cases h;exact en Tryz.results112
def Td (run:Int) (k0:Nat) (x_2:B6) (sv:Unit):Option (Out (Unit) (Bool)):=
 (bif (decide (x_2.State=2))then (bif (decide (x_2.Run=run))then some (Out.ret true)else some (Out.next ()))else some (Out.next ()))
def W3 (l:List B6) (run:Int):Option (Bool):=
 (Am (Td run) 0 l ()).bind fun o0=>o0.on fun s0=>some false
theorem j0 (l:List B6) (run:Int) {r:Bool} (h:W3 l run=some r):Ad Tryz.prog 113 [.sl 8 (l.map A2),.int .i64 run] (·= .bool r):=by
 refine Ad.nle (Ad.intro Tryz.func113 rfl rfl (by show _≤27;simp) ?_)
 unfold W3 at h
 refine nS (sq ?_)
 refine ar rfl (qn (sq (sq ?_)))
 refine ar rfl (qn (bk ?_))
 obtain⟨o0,hJ0,hO0⟩:=Ah h
 clear h
 refine AWP.Br (ι:=Nat×(Unit)×(Unit)) (fun zz=>[(0,.sl 8 (l.map A2)),(1,.int .i64 run),(5,.int .i64 ((zz.1:Nat):Int))]) (fun zz=>[]) (fun zz=>zz.1≤l.length∧Am (Td run) zz.1 ((l).drop zz.1) zz.2.1=some o0) (fun zz=>l.length - zz.1) (0,(),()) ⟨Nat.zero_le _,hJ0⟩ cu cu (fun x=>⟨rfl,rfl,rfl⟩) ?_
 clear hJ0
 rintro⟨k0,⟨⟩,⟨⟩⟩ ⟨hk0,hJ0⟩
 dsimp only at hk0 hJ0 ⊢
 refine sq (sq ?_)
 refine rg rfl fun K j=>?_
 intro hm
 refine j _ _ (qn ?_)
 refine AWP.cond (Aj (fun hc=>?_) (fun hc=>?_))
 rotate_left
 ·obtain rfl:=Bc hJ0 (fun hl=>by have:=Ajo hc;omega)
  have h:=Bb hO0;try dsimp only at h
  have hkl:l.length=k0:=by have:=Ajo hc;omega
  subst hkl
  refine xt (qe (qe (bs (qn (sq (ar rfl (qn (rt ?_))))))))
  cases h;exact en Tryz.results113
 have hlt0:k0<l.length:=by have:=Ajp hc;omega
 obtain⟨x_2,b0,hx0_,h,hJ0⟩:=A1 hJ0 hlt0
 have hx0:=Ay hx0_
 have hw0:=wk (k:=k0) (by omega)
 unfold Td at h;try dsimp only at h
 refine sk (qn (sq (bk (sq ?_))))
 refine rg rfl fun K j=>?_
 refine Bk.of (f:=A2) (l:=l) hx0 ?_
 refine nS ?_
 revert h;refine gt (fun hc h=>?_) fun hc h=>?_
 ·refine Bk.of (f:=A2) (l:=l) hx0 ?_
  refine nS ?_
  refine j _ _ (qn ?_)
  revert h;refine ca rfl (fun hc h=>?_) fun hc h=>?_
  ·refine sq (ar rfl (qn (rt (br (qr (qr ?_))))))
   obtain rfl:=Aa h
   obtain rfl:=Af hJ0
   replace h:=An hO0
   refine br (qr ?_)
   cases h;exact en Tryz.results113
  refine sk (bn (qn (ar rfl (qn ?_))))
  obtain rfl:=Aa h
  refine⟨(k0+1,(),()),⟨by dsimp only;omega,Ae hJ0⟩,by dsimp only;omega,?_,?_⟩
  ·exact cuw hw0
  exact cuw hw0
 refine j _ _ (qn ?_)
 refine AWP.cond (Bg ?_)
 refine sk (bn (qn (ar rfl (qn ?_))))
 obtain rfl:=Aa h
 refine⟨(k0+1,(),()),⟨by dsimp only;omega,Ae hJ0⟩,by dsimp only;omega,?_,?_⟩
 ·exact cuw hw0
 exact cuw hw0
def Kz (t:Int) (out1:List Int) (k2:Nat) (k3:Nat) (x_5:A8) (sv:Unit):Option (Out (Unit) (Out ((List Int)) ((List Int)))):=
 (bif (decide (x_5.From≤t))then (bif (decide (t<x_5.To))then (R4 x_5.Runs (((k2:Nat):Int)+1)).bind fun y6=>(bif y6 then chk (out1.length+1) (some (Out.ret (Out.next (out1++[(((k2:Nat):Int)+1)]))))else some (Out.next ()))else some (Out.next ()))else some (Out.next ()))
def K0 (l:List A8) (t:Int) (k2:Nat) (_x:Unit) (sv:(List Int)):Option (Out ((List Int)) ((List Int))):=
 (Am (Kz t sv k2) 0 l ()).bind fun o3=>o3.on fun s3=>some (Out.next sv)
def N0 (l:List A8) (t:Int):Option ((List Int)):=
 (Kc (K0 l t) 9999 []).bind fun o2=>o2.on fun s2=>some s2
theorem aT (l:List A8) (t:Int) {r:(List Int)} (h:N0 l t=some r):Bh Tryz.prog 114 [.sl 4 (l.map Ap),.int .i64 t] (·= .sl 1 (r.map Aw)):=by
 refine Bh.nle (Bh.intro Tryz.func114 rfl rfl (by show _≤48;simp) ?_)
 unfold N0 at h
 refine nS (sq ?_)
 refine ar rfl (qn (sq ?_))
 refine ar rfl (qn (sq (sq ?_)))
 refine ar rfl (qn (bk ?_))
 refine AWP.ghost 5 1 rfl (by decide) ?_
 obtain⟨o2,hJ2,hO2⟩:=Ah h
 clear h
 obtain⟨hn2,hJ2⟩:=Pe hJ2
 refine AWP.Br (ι:=Nat×((List Int))×(Nat)) (fun zz=>[(0,.sl 4 (l.map Ap)),(1,.int .i64 t),(5,.own 0 zz.2.2 0 zz.2.1.length),(6,.int .i64 (((zz.1:Nat):Int)+(1:Int)))]) (fun zz=>[.row zz.2.2 1 (zz.2.1.map Aw)]) (fun zz=>zz.1≤9999∧Am (K0 l t) zz.1 ((List.replicate 9999 ()).drop zz.1) zz.2.1=some o2) (fun zz=>9999 - zz.1) (0,[],0) ⟨Nat.zero_le _,hJ2⟩ cu cu (fun x=>⟨rfl,rfl,rfl⟩) ?_
 clear hJ2
 rintro⟨k2,out1,ver2⟩ ⟨hk2,hJ2⟩
 dsimp only at hk2 hJ2 ⊢
 refine sq (sq (ar rfl (qn ?_)))
 refine AWP.cond (Aj (fun hc=>?_) (fun hc=>?_))
 rotate_left
 ·obtain rfl:=Bc hJ2 (fun hl=>by rw[List.length_replicate]at hl;have:=Ajo hc;omega)
  have h:=Bb hO2;try dsimp only at h
  have hkl:9999=k2:=by have:=Ajo hc;omega
  subst hkl
  refine xt (qe (qe (bs (qn (sq (ar rfl (qn (rt ?_))))))))
  cases h;exact en Tryz.results114
 have hlt2:k2<9999:=by have:=Ajp hc;omega
 obtain⟨_,b2,_,h,hJ2⟩:=A1 hJ2 (by rw[List.length_replicate];exact hlt2)
 have hw2:IntKind.i64.wrap ((((k2:Nat):Int)+1)+1)=(((k2:Nat):Int)+1+1):=by rw[wrap_i64]<;>omega
 unfold K0 at h;try dsimp only at h
 refine sk (qn (sq (bk (sq (ar rfl (qn (bk ?_)))))))
 obtain⟨o3,hJ3,hO3⟩:=Ah h
 clear h
 refine AWP.Br (ι:=Nat×(Unit)×(Unit)) (fun zz=>[(0,.sl 4 (l.map Ap)),(1,.int .i64 t),(5,.own 0 ver2 0 out1.length),(6,.int .i64 (((k2:Nat):Int)+1)),(7,.int .i64 ((zz.1:Nat):Int))]) (fun zz=>[.row ver2 1 (out1.map Aw)]) (fun zz=>zz.1≤l.length∧Am (Kz t out1 k2) zz.1 ((l).drop zz.1) zz.2.1=some o3) (fun zz=>l.length - zz.1) (0,(),()) ⟨Nat.zero_le _,hJ3⟩ cu cu (fun x=>⟨rfl,rfl,rfl⟩) ?_
 clear hJ3
 rintro⟨k3,⟨⟩,⟨⟩⟩ ⟨hk3,hJ3⟩
 dsimp only at hk3 hJ3 ⊢
 refine sq (sq ?_)
 refine rg rfl fun K j=>?_
 intro hm
 refine j _ _ (qn ?_)
 refine AWP.cond (Aj (fun hc=>?_) (fun hc=>?_))
 rotate_left
 ·obtain rfl:=Bc hJ3 (fun hl=>by have:=Ajo hc;omega)
  have h:=Bb hO3;try dsimp only at h
  have hkl:l.length=k3:=by have:=Ajo hc;omega
  subst hkl
  refine xt (qe (qe (bs (bn (qn (ar rfl (qn ?_)))))))
  obtain rfl:=Aa h
  refine⟨(k2+1,out1,ver2),⟨by dsimp only;omega,Ae hJ2⟩,by dsimp only;omega,?_,?_⟩
  ·exact cuw hw2
  exact cuw hw2
 have hlt3:k3<l.length:=by have:=Ajp hc;omega
 obtain⟨x_5,b3,hx3_,h,hJ3⟩:=A1 hJ3 hlt3
 have hx3:=Ay hx3_
 have hw3:=wk (k:=k3) (by omega)
 unfold Kz at h;try dsimp only at h
 refine sk (qn (sq (bk (sq ?_))))
 refine rg rfl fun K j=>?_
 refine Bk.of (f:=Ap) (l:=l) hx3 ?_
 refine nS ?_
 revert h;refine gt (fun hc h=>?_) fun hc h=>?_
 ·refine Bk.of (f:=Ap) (l:=l) hx3 ?_
  refine nS ?_
  revert h;refine gt (fun hc h=>?_) fun hc h=>?_
  ·refine Bk.of (f:=Ap) (l:=l) hx3 ?_
   refine nS ?_
   obtain⟨y6,hy6,h⟩:=Ah h
   refine Al.pure Tryz.call217 (W2 x_5.Runs (((k2:Nat):Int)+1) hy6) rfl fun _ hr=>?_
   subst hr
   refine nS ?_
   refine j _ _ (qn ?_)
   revert h;refine ca rfl (fun hc h=>?_) fun hc h=>?_
   ·refine sq ?_
    refine rg rfl fun K j=>?_
    obtain⟨hk,h⟩:=B1 h
    (repeat refine rp ?_);try simp +decide -implicitDefEqProofs only[go_sem]
    refine j _ _ (qn (xt (mC (by decide) (qe (qe ?_)))))
    obtain rfl:=Aa h
    obtain rfl:=Af hJ3
    replace h:=An hO3
    refine bs (bn (qn (ar rfl (qn ?_))))
    obtain rfl:=Aa h
    refine⟨(k2+1,(out1++[(((k2:Nat):Int)+1)]),(ver2+1)),⟨by dsimp only;omega,Ae hJ2⟩,by dsimp only;omega,?_,?_⟩
    ·exact cuw hw2
    exact cuw hw2
   refine sk (bn (qn (ar rfl (qn ?_))))
   obtain rfl:=Aa h
   refine⟨(k3+1,(),()),⟨by dsimp only;omega,Ae hJ3⟩,by dsimp only;omega,?_,?_⟩
   ·exact cuw hw3
   exact cuw hw3
  refine j _ _ (qn ?_)
  refine AWP.cond (Bg ?_)
  refine sk (bn (qn (ar rfl (qn ?_))))
  obtain rfl:=Aa h
  refine⟨(k3+1,(),()),⟨by dsimp only;omega,Ae hJ3⟩,by dsimp only;omega,?_,?_⟩
  ·exact cuw hw3
  exact cuw hw3
 refine j _ _ (qn ?_)
 refine AWP.cond (Bg ?_)
 refine sk (bn (qn (ar rfl (qn ?_))))
 obtain rfl:=Aa h
 refine⟨(k3+1,(),()),⟨by dsimp only;omega,Ae hJ3⟩,by dsimp only;omega,?_,?_⟩
 ·exact cuw hw3
 exact cuw hw3
theorem c8 (l:List A8) (t:Int) {r:(List Int)} (h:N0 l t=some r):Ad Tryz.prog 114 [.sl 4 (l.map Ap),.int .i64 t] (·= .sl 1 (r.map Aw)):=(aT l t h).pure
def Wz (n_:Int) (k0:Nat) (x_2:Int) (sv:Unit):Option (Out (Unit) (Bool)):=
 (bif (decide (x_2=n_))then some (Out.ret true)else some (Out.next ()))
def Hj (l:List Int) (n_:Int):Option (Bool):=
 (Am (Wz n_) 0 l ()).bind fun o0=>o0.on fun s0=>some false
theorem Mr (l:List Int) (n_:Int) {r:Bool} (h:Hj l n_=some r):Ad Tryz.prog 31 [.sl 1 (l.map Aw),.int .i64 n_] (·= .bool r):=by
 refine Ad.nle (Ad.intro Tryz.func31 rfl rfl (by show _≤18;simp) ?_)
 unfold Hj at h
 refine nS (sq ?_)
 refine ar rfl (qn (sq (sq ?_)))
 refine ar rfl (qn (bk ?_))
 obtain⟨o0,hJ0,hO0⟩:=Ah h
 clear h
 refine AWP.Br (ι:=Nat×(Unit)×(Unit)) (fun zz=>[(0,.sl 1 (l.map Aw)),(1,.int .i64 n_),(5,.int .i64 ((zz.1:Nat):Int))]) (fun zz=>[]) (fun zz=>zz.1≤l.length∧Am (Wz n_) zz.1 ((l).drop zz.1) zz.2.1=some o0) (fun zz=>l.length - zz.1) (0,(),()) ⟨Nat.zero_le _,hJ0⟩ cu cu (fun x=>⟨rfl,rfl,rfl⟩) ?_
 clear hJ0
 rintro⟨k0,⟨⟩,⟨⟩⟩ ⟨hk0,hJ0⟩
 dsimp only at hk0 hJ0 ⊢
 refine sq (sq ?_)
 refine rg rfl fun K j=>?_
 intro hm
 refine j _ _ (qn ?_)
 refine AWP.cond (Aj (fun hc=>?_) (fun hc=>?_))
 rotate_left
 ·obtain rfl:=Bc hJ0 (fun hl=>by have:=Ajo hc;omega)
  have h:=Bb hO0;try dsimp only at h
  have hkl:l.length=k0:=by have:=Ajo hc;omega
  subst hkl
  refine xt (qe (qe (bs (qn (sq (ar rfl (qn (rt ?_))))))))
  cases h;exact en Tryz.results31
 have hlt0:k0<l.length:=by have:=Ajp hc;omega
 obtain⟨x_2,b0,hx0_,h,hJ0⟩:=A1 hJ0 hlt0
 have hx0:=Ay hx0_
 have hw0:=wk (k:=k0) (by omega)
 unfold Wz at h;try dsimp only at h
 refine sk (qn (sq (bk (sq ?_))))
 refine rg rfl fun K j=>?_
 refine Bk.of (f:=Aw) (l:=l) hx0 ?_
 refine nS ?_
 refine j _ _ (qn ?_)
 revert h;refine ca rfl (fun hc h=>?_) fun hc h=>?_
 ·refine sq (ar rfl (qn (rt (br (qr (qr ?_))))))
  obtain rfl:=Aa h
  obtain rfl:=Af hJ0
  replace h:=An hO0
  refine br (qr ?_)
  cases h;exact en Tryz.results31
 refine sk (bn (qn (ar rfl (qn ?_))))
 obtain rfl:=Aa h
 refine⟨(k0+1,(),()),⟨by dsimp only;omega,Ae hJ0⟩,by dsimp only;omega,?_,?_⟩
 ·exact cuw hw0
 exact cuw hw0
def Gd (last1:Int) (k5:Nat) (x_7:Bi) (sv:Int):Option (Out (Int) (Out (Int×(List Int)) ((List Int)))):=
 (Nl x_7).bind fun y8=>(bif y8 then(bif (decide (x_7.State≠0))then (bif (decide (last1<x_7.Slide))then (bif (decide (sv=0))then some (Out.next x_7.Slide)else (bif (decide (x_7.Slide<sv))then some (Out.next x_7.Slide)else some (Out.next sv)))else some (Out.next sv))else some (Out.next sv))else some (Out.next sv))
def Jf (l:List Bi) (sv:Int×(List Int)):Option (Out (Int×(List Int)) ((List Int))):=
 (Am (Gd sv.1) 0 l 0).bind fun o5=>o5.on fun s5=>(bif (decide (s5=0))then some (Out.ret sv.2)else chk (sv.2.length+1) (some (Out.next (s5,(sv.2++[s5])))))
def Lw (l:List Bi):Option ((List Int)):=
 (Dt (Jf l) fuel (0,[])).bind fun o3=>o3.on fun _=>none
theorem Zt (l:List Bi) {r:(List Int)} (h:Lw l=some r):Bh Tryz.prog 218 [.sl 7 (l.map Ao)] (·= .sl 1 (r.map Aw)):=by
 refine Bh.nle (Bh.intro Tryz.func218 rfl rfl (by show _≤61;simp) ?_)
 unfold Lw at h
 refine nS (sq ?_)
 refine ar rfl (qn (sq ?_))
 refine ar rfl (qn (sq ?_))
 refine ar rfl (qn (bk ?_))
 refine AWP.ghost 3 1 rfl (by decide) ?_
 obtain⟨o3,hJ3,hO3⟩:=Ah h
 clear h
 refine AWP.Br (ι:=Nat×(Int×(List Int))×(Nat)) (fun zz=>[(0,.sl 7 (l.map Ao)),(3,.own 0 zz.2.2 0 zz.2.1.2.length),(4,.int .i64 zz.2.1.1)]) (fun zz=>[.row zz.2.2 1 (zz.2.1.2.map Aw)]) (fun zz=>Dt (Jf l) zz.1 zz.2.1=some o3) (fun zz=>zz.1) (fuel,(0,[]),0) hJ3 cu cu (fun x=>⟨rfl,rfl,rfl⟩) ?_
 clear hJ3
 rintro⟨n3,⟨last1,out2⟩,ver3⟩ hJ3
 dsimp only at hJ3 ⊢
 obtain⟨m3,b3,rfl,h,hJ3⟩:=Fx hJ3
 unfold Jf at h;try dsimp only at h
 refine bk (sq (ar rfl (qn (sq (sq ?_)))))
 refine ar rfl (qn (bk ?_))
 obtain⟨o5,hJ5,hO5⟩:=Ah h
 clear h
 refine AWP.Br (ι:=Nat×(Int)×(Unit)) (fun zz=>[(0,.sl 7 (l.map Ao)),(3,.own 0 ver3 0 out2.length),(4,.int .i64 last1),(5,.int .i64 zz.2.1),(6,.int .i64 ((zz.1:Nat):Int))]) (fun zz=>[.row ver3 1 (out2.map Aw)]) (fun zz=>zz.1≤l.length∧Am (Gd last1) zz.1 ((l).drop zz.1) zz.2.1=some o5) (fun zz=>l.length - zz.1) (0,0,()) ⟨Nat.zero_le _,hJ5⟩ cu cu (fun x=>⟨rfl,rfl,rfl⟩) ?_
 clear hJ5
 rintro⟨k5,next_5,⟨⟩⟩ ⟨hk5,hJ5⟩
 dsimp only at hk5 hJ5 ⊢
 refine sq (sq ?_)
 refine rg rfl fun K j=>?_
 intro hm
 refine j _ _ (qn ?_)
 refine AWP.cond (Aj (fun hc=>?_) (fun hc=>?_))
 rotate_left
 ·obtain rfl:=Bc hJ5 (fun hl=>by have:=Ajo hc;omega)
  have h:=Bb hO5;try dsimp only at h
  have hkl:l.length=k5:=by have:=Ajo hc;omega
  subst hkl
  refine xt (qe (qe (bs (qn (sq (sq (ar rfl (qn ?_))))))))
  revert h;refine ca rfl (fun hc h=>?_) fun hc h=>?_
  ·refine sq (ar rfl (qn (rt (qr (br (qr ?_))))))
   obtain rfl:=Aa h
   obtain rfl:=Af hJ3
   replace h:=An hO3
   refine br ?_
   cases h;exact en Tryz.results218
  refine sk (qn (sq ?_))
  refine rg rfl fun K j=>?_
  obtain⟨hk,h⟩:=B1 h
  (repeat refine rp ?_);try simp +decide -implicitDefEqProofs only[go_sem]
  refine j _ _ (qn ?_)
  refine ar rfl (bn (qn ?_))
  obtain rfl:=Aa h
  refine⟨(m3,(next_5,(out2++[next_5])),(ver3+1)),Ae hJ3,by dsimp only;omega,?_,?_⟩
  ·exact cu
  exact cu
 have hlt5:k5<l.length:=by have:=Ajp hc;omega
 obtain⟨x_7,b5,hx5_,h,hJ5⟩:=A1 hJ5 hlt5
 have hx5:=Ay hx5_
 have hw5:=wk (k:=k5) (by omega)
 unfold Gd at h;try dsimp only at h
 refine sk (qn (sq (bk (sq ?_))))
 refine rg rfl fun K j=>?_
 refine Bk.of (f:=Ao) (l:=l) hx5 ?_
 refine nS ?_
 obtain⟨y8,hy8,h⟩:=Ah h
 refine Al.pure Tryz.call189 (Q9 x_7 hy8) rfl fun _ hr=>?_
 subst hr
 refine nS ?_
 revert h;refine gt (fun hc h=>?_) fun hc h=>?_
 ·refine Bk.of (f:=Ao) (l:=l) hx5 ?_
  refine nS ?_
  revert h;refine gt (fun hc h=>?_) fun hc h=>?_
  ·refine Bk.of (f:=Ao) (l:=l) hx5 ?_
   refine nS ?_
   revert h;refine gt (fun hc h=>?_) fun hc h=>?_
   ·revert h;refine gf (fun hc h=>?_) fun hc h=>?_
    ·refine Bk.of (f:=Ao) (l:=l) hx5 ?_
     refine nS ?_
     refine j _ _ (qn ?_)
     revert h;refine ca rfl (fun hc h=>?_) fun hc h=>?_
     ·refine rg rfl fun K j=>?_
      refine Bk.of (f:=Ao) (l:=l) hx5 ?_
      refine nS ?_
      refine j _ _ (bn (qn ?_))
      refine ar rfl (qn ?_)
      obtain rfl:=Aa h
      refine⟨(k5+1,x_7.Slide,()),⟨by dsimp only;omega,Ae hJ5⟩,by dsimp only;omega,?_,?_⟩
      ·exact cuw hw5
      exact cuw hw5
     refine sk (bn (qn (ar rfl (qn ?_))))
     obtain rfl:=Aa h
     refine⟨(k5+1,next_5,()),⟨by dsimp only;omega,Ae hJ5⟩,by dsimp only;omega,?_,?_⟩
     ·exact cuw hw5
     exact cuw hw5
    refine j _ _ (qn ?_)
    refine AWP.cond (Ai ?_)
    refine rg rfl fun K j=>?_
    refine Bk.of (f:=Ao) (l:=l) hx5 ?_
    refine nS ?_
    refine j _ _ (bn (qn ?_))
    refine ar rfl (qn ?_)
    obtain rfl:=Aa h
    refine⟨(k5+1,x_7.Slide,()),⟨by dsimp only;omega,Ae hJ5⟩,by dsimp only;omega,?_,?_⟩
    ·exact cuw hw5
    exact cuw hw5
   refine j _ _ (qn ?_)
   refine AWP.cond (Bg ?_)
   refine sk (bn (qn (ar rfl (qn ?_))))
   obtain rfl:=Aa h
   refine⟨(k5+1,next_5,()),⟨by dsimp only;omega,Ae hJ5⟩,by dsimp only;omega,?_,?_⟩
   ·exact cuw hw5
   exact cuw hw5
  refine j _ _ (qn ?_)
  refine AWP.cond (Bg ?_)
  refine sk (bn (qn (ar rfl (qn ?_))))
  obtain rfl:=Aa h
  refine⟨(k5+1,next_5,()),⟨by dsimp only;omega,Ae hJ5⟩,by dsimp only;omega,?_,?_⟩
  ·exact cuw hw5
  exact cuw hw5
 refine j _ _ (qn ?_)
 refine AWP.cond (Bg ?_)
 refine sk (bn (qn (ar rfl (qn ?_))))
 obtain rfl:=Aa h
 refine⟨(k5+1,next_5,()),⟨by dsimp only;omega,Ae hJ5⟩,by dsimp only;omega,?_,?_⟩
 ·exact cuw hw5
 exact cuw hw5
theorem aR (l:List Bi) {r:(List Int)} (h:Lw l=some r):Ad Tryz.prog 218 [.sl 7 (l.map Ao)] (·= .sl 1 (r.map Aw)):=(Zt l h).pure
def Lv (zone:Int) (y1:(List Int)) (k1:Nat) (x_3:Bf) (sv:Unit):Option (Out (Unit) (Bool)):=
 (Hj y1 x_3.ID).bind fun y4=>(bif y4 then(Hj x_3.Zones zone).bind fun y5=>(bif y5 then some (Out.ret true)else some (Out.next ()))else some (Out.next ()))
def Mq (f_:Ak) (zone:Int):Option (Bool):=
 (Lw f_.Missions).bind fun y1=>(Am (Lv zone y1) 0 f_.Slides ()).bind fun o1=>o1.on fun s1=>some false
theorem Zq (f_:Ak) (zone:Int) {r:Bool} (h:Mq f_ zone=some r):Ad Tryz.prog 115 [.agg (Bv f_),.int .i64 zone] (·= .bool r):=by
 refine Ad.nle (Ad.intro Tryz.func115 rfl rfl (by show _≤35;simp) ?_)
 unfold Mq at h
 refine nS (sq ?_)
 refine ar rfl (qn (sq ?_))
 refine rg rfl fun K j=>?_
 obtain⟨y1,hy1,h⟩:=Ah h
 refine Al.pure Tryz.call218 (aR f_.Missions hy1) rfl fun _ hr=>?_
 subst hr
 refine nS ?_
 refine j _ _ (qn (sq (sq ?_)))
 refine ar rfl (qn (bk ?_))
 obtain⟨o1,hJ1,hO1⟩:=Ah h
 clear h
 refine AWP.Br (ι:=Nat×(Unit)×(Unit)) (fun zz=>[(1,.int .i64 zone),(2,.ptr 0 0),(5,.sl 1 (y1.map Aw)),(6,.int .i64 ((zz.1:Nat):Int))]) (fun zz=>[.box [.sl 2 (f_.Map.Nodes.map A9),.sl 8 (f_.Map.Lifts.map A7),.sl 7 (f_.Map.Runs.map Be),.sl 1 (f_.Map.Bases.map Aw),.sl 2 (f_.Lifts.map Az),.sl 4 (f_.Closures.map Aq),.sl 4 (f_.Patrol.Bw.map Ax),.sl 3 (f_.Patrol.Hazards.map A3),.sl 3 (f_.Surfaces.map Ba),.sl 5 (f_.Packs.map A4),.sl 6 (f_.Slides.map A5),.sl 7 (f_.Bulletin.map Au),.sl 7 (f_.Missions.map Ao),.sl 4 (f_.Winches.map Ap),.sl 8 (f_.Groomers.map A2),.sl 3 (f_.Status.map A6),.int .i64 f_.Depth,.int .i64 f_.Time]]) (fun zz=>zz.1≤f_.Slides.length∧Am (Lv zone y1) zz.1 ((f_.Slides).drop zz.1) zz.2.1=some o1) (fun zz=>f_.Slides.length - zz.1) (0,(),()) ⟨Nat.zero_le _,hJ1⟩ cu cu (fun x=>⟨rfl,rfl,rfl⟩) ?_
 clear hJ1
 rintro⟨k1,⟨⟩,⟨⟩⟩ ⟨hk1,hJ1⟩
 dsimp only at hk1 hJ1 ⊢
 refine sq (sq ?_)
 refine rg rfl fun K j=>?_
 intro hm
 refine j _ _ (qn ?_)
 refine AWP.cond (Aj (fun hc=>?_) (fun hc=>?_))
 rotate_left
 ·obtain rfl:=Bc hJ1 (fun hl=>by have:=Ajo hc;omega)
  have h:=Bb hO1;try dsimp only at h
  have hkl:f_.Slides.length=k1:=by have:=Ajo hc;omega
  subst hkl
  refine xt (qe (qe (bs (qn (sq (ar rfl (qn (rt ?_))))))))
  cases h;exact en Tryz.results115
 have hlt1:k1<f_.Slides.length:=by have:=Ajp hc;omega
 obtain⟨x_3,b1,hx1_,h,hJ1⟩:=A1 hJ1 hlt1
 have hx1:=Ay hx1_
 have hw1:=wk (k:=k1) (by omega)
 unfold Lv at h;try dsimp only at h
 refine sk (qn (sq (bk (sq ?_))))
 refine rg rfl fun K j=>?_
 refine Bk.of (f:=A5) (l:=f_.Slides) hx1 ?_
 refine nS ?_
 obtain⟨y4,hy4,h⟩:=Ah h
 refine Al.pure Tryz.call31 (Mr y1 x_3.ID hy4) rfl fun _ hr=>?_
 subst hr
 refine nS ?_
 revert h;refine gt (fun hc h=>?_) fun hc h=>?_
 ·refine Bk.of (f:=A5) (l:=f_.Slides) hx1 ?_
  refine nS ?_
  obtain⟨y5,hy5,h⟩:=Ah h
  refine Al.pure Tryz.call31 (Mr x_3.Zones zone hy5) rfl fun _ hr=>?_
  subst hr
  refine nS ?_
  refine j _ _ (qn ?_)
  revert h;refine ca rfl (fun hc h=>?_) fun hc h=>?_
  ·refine sq (ar rfl (qn (rt (br (qr (qr ?_))))))
   obtain rfl:=Aa h
   obtain rfl:=Af hJ1
   replace h:=An hO1
   refine br (qr ?_)
   cases h;exact en Tryz.results115
  refine sk (bn (qn (ar rfl (qn ?_))))
  obtain rfl:=Aa h
  refine⟨(k1+1,(),()),⟨by dsimp only;omega,Ae hJ1⟩,by dsimp only;omega,?_,?_⟩
  ·exact cuw hw1
  exact cuw hw1
 refine j _ _ (qn ?_)
 refine AWP.cond (Bg ?_)
 refine sk (bn (qn (ar rfl (qn ?_))))
 obtain rfl:=Aa h
 refine⟨(k1+1,(),()),⟨by dsimp only;omega,Ae hJ1⟩,by dsimp only;omega,?_,?_⟩
 ·exact cuw hw1
 exact cuw hw1
def Kw (levels:List Int) (k1:Nat) (x_3:Int) (sv:Int):Option (Out (Int) (Int)):=
 (bif (decide (x_3≤((levels.length:Nat):Int)))then (Dl levels (IntKind.i64.wrap (x_3 - 1))).bind fun x_4=>(bif (decide (((k1:Nat):Int)=0))then some (Out.next x_4)else (bif (decide (sv<x_4))then some (Out.next x_4)else some (Out.next sv)))else (bif (decide (((k1:Nat):Int)=0))then some (Out.next 0)else (bif (decide (sv<0))then some (Out.next 0)else some (Out.next sv))))
def Tb (s_:Bf) (levels:List Int):Option (Int):=
 (Am (Kw levels) 0 s_.Zones 0).bind fun o1=>o1.on fun s1=>some s1
theorem cW (s_:Bf) (levels:List Int) {r:Int} (h:Tb s_ levels=some r):Ad Tryz.prog 269 [.agg (A5 s_),.sl 1 (levels.map Aw)] (·= .int .i64 r):=by
 refine Ad.nle (Ad.intro Tryz.func269 rfl rfl (by show _≤41;simp) ?_)
 unfold Tb at h
 refine nS (sq ?_)
 refine ar rfl (qn (sq ?_))
 refine ar rfl (qn (sq (sq ?_)))
 refine ar rfl (qn (bk ?_))
 obtain⟨o1,hJ1,hO1⟩:=Ah h
 clear h
 refine AWP.Br (ι:=Nat×(Int)×(Unit)) (fun zz=>[(1,.sl 1 (levels.map Aw)),(2,.ptr 0 0),(5,.int .i64 zz.2.1),(6,.int .i64 ((zz.1:Nat):Int))]) (fun zz=>[.box [.int .i64 s_.ID,.sl 1 (s_.Zones.map Aw),.sl 1 (s_.Lifts.map Aw),.int .i64 s_.Limit,.int .i64 s_.Load,.int .i64 s_.Controlled]]) (fun zz=>zz.1≤s_.Zones.length∧Am (Kw levels) zz.1 ((s_.Zones).drop zz.1) zz.2.1=some o1) (fun zz=>s_.Zones.length - zz.1) (0,0,()) ⟨Nat.zero_le _,hJ1⟩ cu cu (fun x=>⟨rfl,rfl,rfl⟩) ?_
 clear hJ1
 rintro⟨k1,most1,⟨⟩⟩ ⟨hk1,hJ1⟩
 dsimp only at hk1 hJ1 ⊢
 refine sq (sq ?_)
 refine rg rfl fun K j=>?_
 intro hm
 refine j _ _ (qn ?_)
 refine AWP.cond (Aj (fun hc=>?_) (fun hc=>?_))
 rotate_left
 ·obtain rfl:=Bc hJ1 (fun hl=>by have:=Ajo hc;omega)
  have h:=Bb hO1;try dsimp only at h
  have hkl:s_.Zones.length=k1:=by have:=Ajo hc;omega
  subst hkl
  refine xt (qe (qe (bs (qn (sq (ar rfl (qn (rt ?_))))))))
  cases h;exact en Tryz.results269
 have hlt1:k1<s_.Zones.length:=by have:=Ajp hc;omega
 obtain⟨x_3,b1,hx1_,h,hJ1⟩:=A1 hJ1 hlt1
 have hx1:=Ay hx1_
 have hw1:=wk (k:=k1) (by omega)
 unfold Kw at h;try dsimp only at h
 refine sk (qn (sq (bk (sq (ar rfl (qn (sq (sq ?_))))))))
 refine rg rfl fun K j=>?_
 refine Bk.of (f:=Aw) (l:=s_.Zones) hx1 ?_
 refine nS ?_
 intro hm
 refine j _ _ (qn ?_)
 revert h;refine ca rfl (fun hc h=>?_) fun hc h=>?_
 ·refine rg rfl fun K j=>?_
  refine Bk.of (f:=Aw) (l:=s_.Zones) hx1 ?_
  refine nS ?_
  obtain⟨x_4,hx_4,h⟩:=Ah h
  refine Bk.of (f:=Aw) (l:=levels) hx_4 ?_
  refine nS ?_
  refine j _ _ (qn (sq ?_))
  refine rg rfl fun K j=>?_
  revert h;refine gf (fun hc h=>?_) fun hc h=>?_
  ·refine j _ _ (qn ?_)
   revert h;refine ca rfl (fun hc h=>?_) fun hc h=>?_
   ·refine ar rfl (bn (qn ?_))
    refine ar rfl (qn ?_)
    obtain rfl:=Aa h
    refine⟨(k1+1,x_4,()),⟨by dsimp only;omega,Ae hJ1⟩,by dsimp only;omega,?_,?_⟩
    ·exact cuw hw1
    exact cuw hw1
   refine sk (bn (qn (ar rfl (qn ?_))))
   obtain rfl:=Aa h
   refine⟨(k1+1,most1,()),⟨by dsimp only;omega,Ae hJ1⟩,by dsimp only;omega,?_,?_⟩
   ·exact cuw hw1
   exact cuw hw1
  refine j _ _ (qn ?_)
  refine AWP.cond (Ai ?_)
  refine ar rfl (bn (qn ?_))
  refine ar rfl (qn ?_)
  obtain rfl:=Aa h
  refine⟨(k1+1,x_4,()),⟨by dsimp only;omega,Ae hJ1⟩,by dsimp only;omega,?_,?_⟩
  ·exact cuw hw1
  exact cuw hw1
 refine sk (qn (sq ?_))
 refine rg rfl fun K j=>?_
 revert h;refine gf (fun hc h=>?_) fun hc h=>?_
 ·refine j _ _ (qn ?_)
  revert h;refine ca rfl (fun hc h=>?_) fun hc h=>?_
  ·refine ar rfl (bn (qn ?_))
   refine ar rfl (qn ?_)
   obtain rfl:=Aa h
   refine⟨(k1+1,0,()),⟨by dsimp only;omega,Ae hJ1⟩,by dsimp only;omega,?_,?_⟩
   ·exact cuw hw1
   exact cuw hw1
  refine sk (bn (qn (ar rfl (qn ?_))))
  obtain rfl:=Aa h
  refine⟨(k1+1,most1,()),⟨by dsimp only;omega,Ae hJ1⟩,by dsimp only;omega,?_,?_⟩
  ·exact cuw hw1
  exact cuw hw1
 refine j _ _ (qn ?_)
 refine AWP.cond (Ai ?_)
 refine ar rfl (bn (qn ?_))
 refine ar rfl (qn ?_)
 obtain rfl:=Aa h
 refine⟨(k1+1,0,()),⟨by dsimp only;omega,Ae hJ1⟩,by dsimp only;omega,?_,?_⟩
 ·exact cuw hw1
 exact cuw hw1
def Kv (s_:Bf) (levels:List Int):Option (Bool):=
 (Tb s_ levels).bind fun y1=>(bif (decide (4<y1))then some true else(bif (decide (y1=4))then some (decide ((IntKind.i64.wrap (Int.tdiv s_.Limit 4))≤s_.Load))else (bif (decide (y1=3))then some (decide ((IntKind.i64.wrap (Int.tdiv s_.Limit 2))≤s_.Load))else some (decide (s_.Limit≤s_.Load)))))
theorem Y0 (s_:Bf) (levels:List Int) {r:Bool} (h:Kv s_ levels=some r):Ad Tryz.prog 219 [.agg (A5 s_),.sl 1 (levels.map Aw)] (·= .bool r):=by
 refine Ad.nle (Ad.intro Tryz.func219 rfl rfl (by show _≤35;simp) ?_)
 unfold Kv at h
 refine nS (sq ?_)
 refine ar rfl (qn (sq ?_))
 refine rg rfl fun K j=>?_
 obtain⟨y1,hy1,h⟩:=Ah h
 refine Al.pure Tryz.call269 (cW s_ levels hy1) rfl fun _ hr=>?_
 subst hr
 refine nS ?_
 refine j _ _ (qn (bk (sq ?_)))
 refine ar rfl (qn ?_)
 revert h;refine ca rfl (fun hc h=>?_) fun hc h=>?_
 ·refine sq (ar rfl (qn (rt (br ?_))))
  cases h;exact en Tryz.results219
 refine sq (ar rfl (qn ?_))
 revert h;refine ca rfl (fun hc h=>?_) fun hc h=>?_
 ·refine sq (ar rfl (qn (rt (br ?_))))
  cases h;exact en Tryz.results219
 refine sq (ar rfl (qn ?_))
 revert h;refine ca rfl (fun hc h=>?_) fun hc h=>?_
 ·refine sq (ar rfl (qn (rt (br ?_))))
  cases h;exact en Tryz.results219
 refine sq (ar rfl (qn (rt (br ?_))))
 cases h;exact en Tryz.results219
def Ku (at_10:Int) (sv:Int×(List Int)):Option (Out (Int×(List Int)) (Out ((List Int)) (Out ((List Int)) ((List Int))))):=
 (bif (decide (at_10<sv.1))then (Dl sv.2 (IntKind.i64.wrap (sv.1 - 1))).bind fun x_17=>(Dl sv.2 sv.1).bind fun x_18=>(Dl (sv.2.set sv.1.toNat x_17) (IntKind.i64.wrap (sv.1 - 1))).bind fun x_20=>some (Out.next ((IntKind.i64.wrap (sv.1 - 1)),((sv.2.set sv.1.toNat x_17).set (IntKind.i64.wrap (sv.1 - 1)).toNat x_18)))else some (Out.ret (Out.next sv.2)))
def Fz (out6:List Int) (x_9:Int) (at_10:Int):Option (Out ((List Int)) (Out ((List Int)) ((List Int)))):=
 chk (out6.length+1) ((Dt (Ku at_10) fuel ((IntKind.i64.wrap ((((out6.length+1):Nat):Int) - 1)),(out6++[x_9]))).bind fun o15=>o15.on fun _=>none)
def Hn (out6:List Int) (x_9:Int) (at_10:Int):Option (Out ((List Int)) (Out ((List Int)) ((List Int)))):=
 (bif (decide (at_10<((out6.length:Nat):Int)))then (Dl out6 at_10).bind fun x_22=>(bif (decide (x_22=x_9))then some (Out.next out6)else Fz out6 x_9 at_10)else Fz out6 x_9 at_10)
def Kt (out6:List Int) (x_9:Int) (sv:Int):Option (Out (Int) (Out ((List Int)) (Out ((List Int)) ((List Int))))):=
 (bif (decide (sv<((out6.length:Nat):Int)))then (Dl out6 sv).bind fun x_25=>(bif (decide (x_25<x_9))then some (Out.next (IntKind.i64.wrap (sv+1)))else (Hn out6 x_9 sv).bind fun q25=>some (Out.ret q25))else (bif false then some (Out.next (IntKind.i64.wrap (sv+1)))else (Hn out6 x_9 sv).bind fun q26=>some (Out.ret q26)))
def Ez (k7:Nat) (x_9:Int) (sv:(List Int)):Option (Out ((List Int)) (Out ((List Int)) ((List Int)))):=
 (Dt (Kt sv x_9) fuel 0).bind fun o23=>o23.on fun _=>none
def Ot (levels:List Int) (k2:Nat) (x_4:Bf) (sv:(List Int)):Option (Out ((List Int)) ((List Int))):=
 (Kv x_4 levels).bind fun y5=>(bif y5 then(Am Ez 0 x_4.Zones sv).bind fun o7=>o7.on fun s7=>some (Out.next s7)else some (Out.next sv))
def Ny (l:List Bf) (levels:List Int):Option ((List Int)):=
 (Am (Ot levels) 0 l []).bind fun o2=>o2.on fun s2=>some s2
theorem aS (l:List Bf) (levels:List Int) {r:(List Int)} (h:Ny l levels=some r):Bh Tryz.prog 116 [.sl 6 (l.map A5),.sl 1 (levels.map Aw)] (·= .sl 1 (r.map Aw)):=by
 refine Bh.nle (Bh.intro Tryz.func116 rfl rfl (by show _≤27;simp) ?_)
 unfold Ny at h
 refine nS (sq ?_)
 refine ar rfl (qn (sq ?_))
 refine ar rfl (qn (sq (sq ?_)))
 refine ar rfl (qn (bk ?_))
 refine AWP.ghost 5 1 rfl (by decide) ?_
 obtain⟨o2,hJ2,hO2⟩:=Ah h
 clear h
 refine AWP.Br (ι:=Nat×((List Int))×(Nat)) (fun zz=>[(0,.sl 6 (l.map A5)),(1,.sl 1 (levels.map Aw)),(5,.own 0 zz.2.2 0 zz.2.1.length),(6,.int .i64 ((zz.1:Nat):Int))]) (fun zz=>[.row zz.2.2 1 (zz.2.1.map Aw)]) (fun zz=>zz.1≤l.length∧Am (Ot levels) zz.1 ((l).drop zz.1) zz.2.1=some o2) (fun zz=>l.length - zz.1) (0,[],0) ⟨Nat.zero_le _,hJ2⟩ cu cu (fun x=>⟨rfl,rfl,rfl⟩) ?_
 clear hJ2
 rintro⟨k2,out1,ver2⟩ ⟨hk2,hJ2⟩
 dsimp only at hk2 hJ2 ⊢
 refine sq (sq ?_)
 refine rg rfl fun K j=>?_
 intro hm
 refine j _ _ (qn ?_)
 refine AWP.cond (Aj (fun hc=>?_) (fun hc=>?_))
 rotate_left
 ·obtain rfl:=Bc hJ2 (fun hl=>by have:=Ajo hc;omega)
  have h:=Bb hO2;try dsimp only at h
  have hkl:l.length=k2:=by have:=Ajo hc;omega
  subst hkl
  refine xt (qe (qe (bs (qn (sq (ar rfl (qn (rt ?_))))))))
  cases h;exact en Tryz.results116
 have hlt2:k2<l.length:=by have:=Ajp hc;omega
 obtain⟨x_4,b2,hx2_,h,hJ2⟩:=A1 hJ2 hlt2
 have hx2:=Ay hx2_
 have hw2:=wk (k:=k2) (by omega)
 unfold Ot at h;try dsimp only at h
 refine sk (qn (sq (bk (sq ?_))))
 refine rg rfl fun K j=>?_
 refine Bk.of (f:=A5) (l:=l) hx2 ?_
 refine nS ?_
 obtain⟨y5,hy5,h⟩:=Ah h
 refine Al.pure Tryz.call219 (Y0 x_4 levels hy5) rfl fun _ hr=>?_
 subst hr
 refine nS ?_
 refine j _ _ (qn ?_)
 revert h;refine ca rfl (fun hc h=>?_) fun hc h=>?_
 ·refine rg rfl fun K j=>?_
  refine Bk.of (f:=A5) (l:=l) hx2 ?_
  refine nS ?_
  refine Al.inline Tryz.call220 Tryz.func220 rfl rfl (by show _≤78;simp) ?_
  refine nS (sq ?_)
  refine ar rfl (qn (sq (sq ?_)))
  refine ar rfl (qn (bk ?_))
  obtain⟨o7,hJ7,hO7⟩:=Ah h
  clear h
  refine AWP.Br (ι:=Nat×((List Int))×(Nat)) (fun zz=>[(0,.own 0 zz.2.2 0 zz.2.1.length),(1,.sl 1 (x_4.Zones.map Aw)),(5,.int .i64 ((zz.1:Nat):Int))]) (fun zz=>[.row zz.2.2 1 (zz.2.1.map Aw)]) (fun zz=>zz.1≤x_4.Zones.length∧Am Ez zz.1 ((x_4.Zones).drop zz.1) zz.2.1=some o7) (fun zz=>x_4.Zones.length - zz.1) (0,out1,ver2) ⟨Nat.zero_le _,hJ7⟩ cu cu (fun x=>⟨rfl,rfl,rfl⟩) ?_
  clear hJ7
  rintro⟨k7,out6,ver7⟩ ⟨hk7,hJ7⟩
  dsimp only at hk7 hJ7 ⊢
  refine sq (sq ?_)
  refine rg rfl fun K j=>?_
  intro hm
  refine j _ _ (qn ?_);clear j K
  refine AWP.cond (Aj (fun hc=>?_) (fun hc=>?_))
  rotate_left
  ·obtain rfl:=Bc hJ7 (fun hl=>by have:=Ajo hc;omega)
   have h:=Bb hO7;try dsimp only at h
   have hkl:x_4.Zones.length=k7:=by have:=Ajo hc;omega
   subst hkl
   refine xt (qe (qe (bs (qn (sq (ar rfl (qn (rt ?_))))))))
   refine nSc Tryz.results220 ?_
   refine j _ _ (bn (qn ?_))
   refine ar rfl (qn ?_)
   obtain rfl:=Aa h
   refine⟨(k2+1,out6,ver7),⟨by dsimp only;omega,Ae hJ2⟩,by dsimp only;omega,?_,?_⟩
   ·exact cuw hw2
   exact cuw hw2
  have hlt7:k7<x_4.Zones.length:=by have:=Ajp hc;omega
  obtain⟨x_9,b7,hx7_,h,hJ7⟩:=A1 hJ7 hlt7
  have hx7:=Ay hx7_
  have hw7:=wk (k:=k7) (by omega)
  unfold Ez at h;try dsimp only at h
  refine sk (qn (sq (bk (sq (ar rfl (qn ?_))))))
  refine AWP.It (ι:=(Int)×(Unit)) (fun zz=>[(0,.own 0 ver7 0 out6.length),(1,.sl 1 (x_4.Zones.map Aw)),(5,.int .i64 ((k7:Nat):Int)),(6,.int .i64 zz.1)]) (fun zz=>[.row ver7 1 (out6.map Aw)]) (fun zz=>Hn out6 x_9 zz.1=some b7) (fun zz=>⟨rfl,rfl,rfl⟩) ?_ ?_
  ·refine bk ?_
   obtain⟨o23,hJ23,hO23⟩:=Ah h
   clear h
   refine AWP.Br (ι:=Nat×(Int)×(Unit)) (fun zz=>[(0,.own 0 ver7 0 out6.length),(1,.sl 1 (x_4.Zones.map Aw)),(5,.int .i64 ((k7:Nat):Int)),(6,.int .i64 zz.2.1)]) (fun zz=>[.row ver7 1 (out6.map Aw)]) (fun zz=>Dt (Kt out6 x_9) zz.1 zz.2.1=some o23) (fun zz=>zz.1) (fuel,0,()) hJ23 cu cu (fun x=>⟨rfl,rfl,rfl⟩) ?_
   clear hJ23
   rintro⟨n23,at_23,⟨⟩⟩ hJ23
   dsimp only at hJ23 ⊢
   obtain⟨m23,b23,rfl,h,hJ23⟩:=Fx hJ23
   unfold Kt at h;try dsimp only at h
   refine sq (sq ?_)
   refine AWP.draw Tryz.mixed (by kernel_rfl) ?_;intro K j
   refine nS ?_
   intro hm
   revert h;refine gt (fun hc h=>?_) fun hc h=>?_
   ·obtain⟨x_25,hx_25,h⟩:=Ah h
    refine F3 hx_25 (by first | rfl | exact(Cd _).symm | (simp only[List.length_append,List.length_cons,List.length_nil,List.length_set,List.length_replicate]<;>omega)) ?_
    refine nS ?_
    refine Cy.of (f:=Aw) (l:=out6) (n:=at_23) hx_25 ?_
    refine nS ?_
    refine Bk.of (f:=Aw) (l:=x_4.Zones) hx7 ?_
    refine nS ?_
    refine j _ _ _ (by kernel_rfl) ?_;clear j K
    refine qn ?_
    revert h;refine ca rfl (fun hc h=>?_) fun hc h=>?_
    ·refine sk (qn (bk (ar rfl (bn (qn ?_)))))
     obtain rfl:=Aa h
     refine⟨(m23,(IntKind.i64.wrap (at_23+1)),()),Ae hJ23,by dsimp only;omega,?_,?_⟩
     ·exact cu
     exact cu
    refine xt (qe (qe ?_))
    obtain⟨q25,hq,h⟩:=Ah h
    obtain rfl:=Aa h
    obtain rfl:=Af hJ23
    replace h:=hq.trans (An hO23)
    refine bs (qn ?_)
    exact⟨(at_23,()),h,cu,cu⟩
   refine j _ _ _ (by kernel_rfl) ?_;clear j K
   refine qn ?_
   revert h;refine ca rfl (fun hc h=>?_) fun hc h=>?_
   ·refine sk (qn (bk (ar rfl (bn (qn ?_)))))
    obtain rfl:=Aa h
    refine⟨(m23,(IntKind.i64.wrap (at_23+1)),()),Ae hJ23,by dsimp only;omega,?_,?_⟩
    ·exact cu
    exact cu
   refine xt (qe (qe ?_))
   obtain⟨q26,hq,h⟩:=Ah h
   obtain rfl:=Aa h
   obtain rfl:=Af hJ23
   replace h:=hq.trans (An hO23)
   refine bs (qn ?_)
   exact⟨(at_23,()),h,cu,cu⟩
  rintro⟨at_10,⟨⟩⟩ h
  try dsimp only at h ⊢
  unfold Hn at h;try dsimp only at h
  refine AWP.It (ι:=(Unit)×(Unit)) (fun zz=>[(0,.own 0 ver7 0 out6.length),(1,.sl 1 (x_4.Zones.map Aw)),(5,.int .i64 ((k7:Nat):Int)),(6,.int .i64 at_10)]) (fun zz=>[.row ver7 1 (out6.map Aw)]) (fun zz=>Fz out6 x_9 at_10=some b7) (fun zz=>⟨rfl,rfl,rfl⟩) ?_ ?_
  ·refine sq ?_
   refine AWP.draw Tryz.mixed (by kernel_rfl) ?_;intro K j
   refine nS ?_
   intro hm
   revert h;refine gt (fun hc h=>?_) fun hc h=>?_
   ·obtain⟨x_22,hx_22,h⟩:=Ah h
    refine F3 hx_22 (by first | rfl | exact(Cd _).symm | (simp only[List.length_append,List.length_cons,List.length_nil,List.length_set,List.length_replicate]<;>omega)) ?_
    refine nS ?_
    refine Cy.of (f:=Aw) (l:=out6) (n:=at_10) hx_22 ?_
    refine nS ?_
    refine Bk.of (f:=Aw) (l:=x_4.Zones) hx7 ?_
    refine nS ?_
    refine j _ _ _ (by kernel_rfl) ?_;clear j K
    refine qn ?_
    revert h;refine ca rfl (fun hc h=>?_) fun hc h=>?_
    ·refine xt (qe (bs (qn (ar rfl (qn ?_)))))
     obtain rfl:=Aa h
     refine⟨(k7+1,out6,ver7),⟨by dsimp only;omega,Ae hJ7⟩,by dsimp only;omega,?_,?_⟩
     ·exact cuw hw7
     exact cuw hw7
    refine sk (qn ?_)
    exact⟨((),()),h,cu,cu⟩
   refine j _ _ _ (by kernel_rfl) ?_;clear j K
   refine qn ?_
   refine AWP.cond (Bg ?_)
   refine sk (qn ?_)
   exact⟨((),()),h,cu,cu⟩
  rintro⟨⟨⟩,⟨⟩⟩ h
  try dsimp only at h ⊢
  unfold Fz at h;try dsimp only at h
  refine sq ?_
  refine rg rfl fun K j=>?_
  refine Bk.of (f:=Aw) (l:=x_4.Zones) hx7 ?_
  refine nS ?_
  obtain⟨hk,h⟩:=B1 h
  (repeat refine rp ?_);try simp +decide -implicitDefEqProofs only[go_sem]
  refine j _ _ (qn (sq ?_));clear j K
  refine rg rfl fun K j=>?_
  intro hm
  refine j _ _ (qn (bk ?_));clear j K
  obtain⟨o15,hJ15,hO15⟩:=Ah h
  clear h
  refine AWP.Br (ι:=Nat×(Int×(List Int))×(Nat)) (fun zz=>[(0,.own 0 zz.2.2 0 zz.2.1.2.length),(1,.sl 1 (x_4.Zones.map Aw)),(5,.int .i64 ((k7:Nat):Int)),(6,.int .i64 at_10),(7,.int .i64 zz.2.1.1)]) (fun zz=>[.row zz.2.2 1 (zz.2.1.2.map Aw)]) (fun zz=>Dt (Ku at_10) zz.1 zz.2.1=some o15) (fun zz=>zz.1) (fuel,((IntKind.i64.wrap ((((out6.length+1):Nat):Int) - 1)),(out6++[x_9])),(ver7+1)) hJ15 cu cu (fun x=>⟨rfl,rfl,rfl⟩) ?_
  clear hJ15
  rintro⟨n15,⟨k_13,out14⟩,ver15⟩ hJ15
  dsimp only at hJ15 ⊢
  obtain⟨m15,b15,rfl,h,hJ15⟩:=Fx hJ15
  unfold Ku at h;try dsimp only at h
  refine sq (sq (ar rfl (qn ?_)))
  revert h;refine ca rfl (fun hc h=>?_) fun hc h=>?_
  ·refine sk (qn (sq (bk ?_)))
   refine AWP.draw Tryz.mixed (by kernel_rfl) ?_;intro K j
   refine nS ?_
   obtain⟨x_17,hx_17,h⟩:=Ah h
   refine F3 hx_17 (by first | rfl | exact(Cd _).symm | (simp only[List.length_append,List.length_cons,List.length_nil,List.length_set,List.length_replicate]<;>omega)) ?_
   refine nS ?_
   refine Cy.of (f:=Aw) (l:=out14) (n:=(IntKind.i64.wrap (k_13 - 1))) hx_17 ?_
   refine nS ?_
   obtain⟨x_18,hx_18,h⟩:=Ah h
   refine F3 hx_18 (by first | rfl | exact(Cd _).symm | (simp only[List.length_append,List.length_cons,List.length_nil,List.length_set,List.length_replicate]<;>omega)) ?_
   refine nS ?_
   refine Cy.of (f:=Aw) (l:=out14) (n:=k_13) hx_18 ?_
   refine nS ?_
   refine F3 hx_18 (by first | rfl | exact(Cd _).symm | (simp only[List.length_append,List.length_cons,List.length_nil,List.length_set,List.length_replicate]<;>omega)) ?_
   refine nS ?_
   refine Cy.of (f:=Aw) (l:=out14) (n:=k_13) hx_18 ?_
   have hs19:=Pd (y:=x_17) hx_18
   refine nS ?_
   obtain⟨x_20,hx_20,h⟩:=Ah h
   refine F3 hx_20 (by first | rfl | exact(Cd _).symm | (simp only[List.length_append,List.length_cons,List.length_nil,List.length_set,List.length_replicate]<;>omega)) ?_
   refine nS ?_
   refine Cy.of (f:=Aw) (l:=(out14.set k_13.toNat x_17)) (n:=(IntKind.i64.wrap (k_13 - 1))) hx_20 ?_
   have hs21:=Pd (y:=x_18) hx_20
   refine nS ?_
   refine j _ _ _ (by kernel_rfl) ?_;clear j K
   refine bn (qn (ar rfl (qn ?_)))
   obtain rfl:=Aa h
   refine⟨(m15,((IntKind.i64.wrap (k_13 - 1)),((out14.set k_13.toNat x_17).set (IntKind.i64.wrap (k_13 - 1)).toNat x_18)),ver15),Ae hJ15,by dsimp only;omega,?_,?_⟩
   ·exact cu
   exact cu
  refine xt (qe (qe ?_))
  obtain rfl:=Aa h
  obtain rfl:=Af hJ15
  replace h:=An hO15
  refine bs (bn (qn (ar rfl (qn ?_))))
  obtain rfl:=Aa h
  refine⟨(k7+1,out14,ver15),⟨by dsimp only;omega,Ae hJ7⟩,by dsimp only;omega,?_,?_⟩
  ·exact cuw hw7
  exact cuw hw7
 refine sk (bn (qn (ar rfl (qn ?_))))
 obtain rfl:=Aa h
 refine⟨(k2+1,out1,ver2),⟨by dsimp only;omega,Ae hJ2⟩,by dsimp only;omega,?_,?_⟩
 ·exact cuw hw2
 exact cuw hw2
theorem cU (l:List Bf) (levels:List Int) {r:(List Int)} (h:Ny l levels=some r):Ad Tryz.prog 116 [.sl 6 (l.map A5),.sl 1 (levels.map Aw)] (·= .sl 1 (r.map Aw)):=(aS l levels h).pure
def Ov (l:Bq) (item:Int) (t:Int) (k1:Nat) (x_3:Fk) (sv:Int):Option (Out (Int) (Int)):=
 (bif (decide (x_3.Item=item))then (bif (decide (x_3.At≤t))then (bif (decide (t<(IntKind.i64.wrap (x_3.At+l.Every))))then some (Out.next (if sv<(IntKind.i64.wrap (x_3.At+l.Every))then (IntKind.i64.wrap (x_3.At+l.Every))else sv))else some (Out.next sv))else some (Out.next sv))else some (Out.next sv))
def Uw (l:Bq) (item:Int) (t:Int):Option (Int):=
 (Am (Ov l item t) 0 l.Signs t).bind fun o1=>o1.on fun s1=>some s1
theorem hY (l:Bq) (item:Int) (t:Int) {r:Int} (h:Uw l item t=some r):Ad Tryz.prog 283 [.agg (Dj l),.int .i64 item,.int .i64 t] (·= .int .i64 r):=by
 refine Ad.nle (Ad.intro Tryz.func283 rfl rfl (by show _≤50;simp) ?_)
 unfold Uw at h
 refine nS (sq ?_)
 refine ar rfl (qn (sq ?_))
 refine ar rfl (qn (sq (sq ?_)))
 refine ar rfl (qn (bk ?_))
 obtain⟨o1,hJ1,hO1⟩:=Ah h
 clear h
 refine AWP.Br (ι:=Nat×(Int)×(Unit)) (fun zz=>[(1,.int .i64 item),(2,.int .i64 t),(3,.ptr 0 0),(7,.int .i64 zz.2.1),(8,.int .i64 ((zz.1:Nat):Int))]) (fun zz=>[.box [.sl 1 (l.Items.map Aw),.int .i64 l.Every,.sl 3 (l.Signs.map B8)]]) (fun zz=>zz.1≤l.Signs.length∧Am (Ov l item t) zz.1 ((l.Signs).drop zz.1) zz.2.1=some o1) (fun zz=>l.Signs.length - zz.1) (0,t,()) ⟨Nat.zero_le _,hJ1⟩ cu cu (fun x=>⟨rfl,rfl,rfl⟩) ?_
 clear hJ1
 rintro⟨k1,out1,⟨⟩⟩ ⟨hk1,hJ1⟩
 dsimp only at hk1 hJ1 ⊢
 refine sq (sq ?_)
 refine rg rfl fun K j=>?_
 intro hm
 refine j _ _ (qn ?_)
 refine AWP.cond (Aj (fun hc=>?_) (fun hc=>?_))
 rotate_left
 ·obtain rfl:=Bc hJ1 (fun hl=>by have:=Ajo hc;omega)
  have h:=Bb hO1;try dsimp only at h
  have hkl:l.Signs.length=k1:=by have:=Ajo hc;omega
  subst hkl
  refine xt (qe (qe (bs (qn (sq (ar rfl (qn (rt ?_))))))))
  cases h;exact en Tryz.results283
 have hlt1:k1<l.Signs.length:=by have:=Ajp hc;omega
 obtain⟨x_3,b1,hx1_,h,hJ1⟩:=A1 hJ1 hlt1
 have hx1:=Ay hx1_
 have hw1:=wk (k:=k1) (by omega)
 unfold Ov at h;try dsimp only at h
 refine sk (qn (sq (bk (sq ?_))))
 refine rg rfl fun K j=>?_
 refine Bk.of (f:=B8) (l:=l.Signs) hx1 ?_
 refine nS ?_
 refine j _ _ (qn (sq ?_))
 refine rg rfl fun K j=>?_
 revert h;refine gt (fun hc h=>?_) fun hc h=>?_
 ·revert h;refine gt (fun hc h=>?_) fun hc h=>?_
  ·refine j _ _ (qn ?_)
   revert h;refine ca rfl (fun hc h=>?_) fun hc h=>?_
   ·refine ar rfl (bn (qn ?_))
    refine ar rfl (qn ?_)
    obtain rfl:=Aa h
    refine⟨(k1+1,(if out1<(IntKind.i64.wrap (x_3.At+l.Every))then (IntKind.i64.wrap (x_3.At+l.Every))else out1),()),⟨by dsimp only;omega,Ae hJ1⟩,by dsimp only;omega,?_,?_⟩
    ·exact cuw hw1
    exact cuw hw1
   refine sk (bn (qn (ar rfl (qn ?_))))
   obtain rfl:=Aa h
   refine⟨(k1+1,out1,()),⟨by dsimp only;omega,Ae hJ1⟩,by dsimp only;omega,?_,?_⟩
   ·exact cuw hw1
   exact cuw hw1
  refine j _ _ (qn ?_)
  refine AWP.cond (Bg ?_)
  refine sk (bn (qn (ar rfl (qn ?_))))
  obtain rfl:=Aa h
  refine⟨(k1+1,out1,()),⟨by dsimp only;omega,Ae hJ1⟩,by dsimp only;omega,?_,?_⟩
  ·exact cuw hw1
  exact cuw hw1
 refine j _ _ (qn ?_)
 refine AWP.cond (Bg ?_)
 refine sk (bn (qn (ar rfl (qn ?_))))
 obtain rfl:=Aa h
 refine⟨(k1+1,out1,()),⟨by dsimp only;omega,Ae hJ1⟩,by dsimp only;omega,?_,?_⟩
 ·exact cuw hw1
 exact cuw hw1
def Mu (l:Bq) (t:Int) (k2:Nat) (x_4:Int) (sv:(List Int)):Option (Out ((List Int)) ((List Int))):=
 (Uw l x_4 t).bind fun y5=>(bif (decide (y5=t))then chk (sv.length+1) (some (Out.next (sv++[x_4])))else some (Out.next sv))
def Pu (l:Bq) (t:Int):Option ((List Int)):=
 (Am (Mu l t) 0 l.Items []).bind fun o2=>o2.on fun s2=>some s2
theorem dC (l:Bq) (t:Int) {r:(List Int)} (h:Pu l t=some r):Bh Tryz.prog 270 [.agg (Dj l),.int .i64 t] (·= .sl 1 (r.map Aw)):=by
 refine Bh.nle (Bh.intro Tryz.func270 rfl rfl (by show _≤33;simp) ?_)
 unfold Pu at h
 refine nS (sq ?_)
 refine ar rfl (qn (sq ?_))
 refine ar rfl (qn (sq (sq ?_)))
 refine ar rfl (qn (bk ?_))
 refine AWP.ghost 5 1 rfl (by decide) ?_
 obtain⟨o2,hJ2,hO2⟩:=Ah h
 clear h
 refine AWP.Br (ι:=Nat×((List Int))×(Nat)) (fun zz=>[(1,.int .i64 t),(2,.ptr 0 0),(5,.own 1 zz.2.2 0 zz.2.1.length),(6,.int .i64 ((zz.1:Nat):Int))]) (fun zz=>[.box [.sl 1 (l.Items.map Aw),.int .i64 l.Every,.sl 3 (l.Signs.map B8)],.row zz.2.2 1 (zz.2.1.map Aw)]) (fun zz=>zz.1≤l.Items.length∧Am (Mu l t) zz.1 ((l.Items).drop zz.1) zz.2.1=some o2) (fun zz=>l.Items.length - zz.1) (0,[],0) ⟨Nat.zero_le _,hJ2⟩ cu cu (fun x=>⟨rfl,rfl,rfl⟩) ?_
 clear hJ2
 rintro⟨k2,out1,ver2⟩ ⟨hk2,hJ2⟩
 dsimp only at hk2 hJ2 ⊢
 refine sq (sq ?_)
 refine rg rfl fun K j=>?_
 intro hm
 refine j _ _ (qn ?_)
 refine AWP.cond (Aj (fun hc=>?_) (fun hc=>?_))
 rotate_left
 ·obtain rfl:=Bc hJ2 (fun hl=>by have:=Ajo hc;omega)
  have h:=Bb hO2;try dsimp only at h
  have hkl:l.Items.length=k2:=by have:=Ajo hc;omega
  subst hkl
  refine xt (qe (qe (bs (qn (sq (ar rfl (qn (rt ?_))))))))
  cases h;exact en Tryz.results270
 have hlt2:k2<l.Items.length:=by have:=Ajp hc;omega
 obtain⟨x_4,b2,hx2_,h,hJ2⟩:=A1 hJ2 hlt2
 have hx2:=Ay hx2_
 have hw2:=wk (k:=k2) (by omega)
 unfold Mu at h;try dsimp only at h
 refine sk (qn (sq (bk (sq ?_))))
 refine AWP.draw Tryz.mixed (by kernel_rfl) ?_;intro K j
 refine nS ?_
 refine Bk.of (f:=Aw) (l:=l.Items) hx2 ?_
 refine nS ?_
 obtain⟨y5,hy5,h⟩:=Ah h
 refine Bz.pure Tryz.call283 (hY l x_4 t hy5) rfl ?_
 refine nS ?_
 refine j _ _ _ (by kernel_rfl) ?_
 refine qn ?_
 revert h;refine ca rfl (fun hc h=>?_) fun hc h=>?_
 ·refine rg rfl fun K j=>?_
  refine Bk.of (f:=Aw) (l:=l.Items) hx2 ?_
  refine nS ?_
  obtain⟨hk,h⟩:=B1 h
  (repeat refine rp ?_);try simp +decide -implicitDefEqProofs only[go_sem]
  refine j _ _ (bn (qn ?_))
  refine ar rfl (qn ?_)
  obtain rfl:=Aa h
  refine⟨(k2+1,(out1++[x_4]),(ver2+1)),⟨by dsimp only;omega,Ae hJ2⟩,by dsimp only;omega,?_,?_⟩
  ·exact cuw hw2
  exact cuw hw2
 refine sk (bn (qn (ar rfl (qn ?_))))
 obtain rfl:=Aa h
 refine⟨(k2+1,out1,ver2),⟨by dsimp only;omega,Ae hJ2⟩,by dsimp only;omega,?_,?_⟩
 ·exact cuw hw2
 exact cuw hw2
theorem fR (l:Bq) (t:Int) {r:(List Int)} (h:Pu l t=some r):Ad Tryz.prog 270 [.agg (Dj l),.int .i64 t] (·= .sl 1 (r.map Aw)):=(dC l t h).pure
def Pv (l:Bq) (t:Int):Option (Bool):=
 (Pu l t).bind fun y1=>some (decide (((y1.length:Nat):Int)=0))
theorem fS (l:Bq) (t:Int) {r:Bool} (h:Pv l t=some r):Ad Tryz.prog 221 [.agg (Dj l),.int .i64 t] (·= .bool r):=by
 refine Ad.nle (Ad.intro Tryz.func221 rfl rfl (by show _≤10;simp) ?_)
 unfold Pv at h
 refine nS (sq ?_)
 refine ar rfl (qn (sq ?_))
 refine rg rfl fun K j=>?_
 obtain⟨y1,hy1,h⟩:=Ah h
 refine Al.pure Tryz.call270 (fR l t hy1) rfl fun _ hr=>?_
 subst hr
 refine nS ?_
 intro hm
 refine j _ _ (qn (rt ?_))
 cases h;exact en Tryz.results221
def Om (run:Int) (k3:Nat) (x_5:Cv) (sv:Unit):Option (Out (Unit) (Bool)):=
 (bif (decide (x_5.Run=run))then some (Out.ret false)else some (Out.next ()))
def Nw (p:Cb) (run:Int) (t:Int):Option (Bool):=
 (Oi p run).bind fun y1=>(bif (decide (y1<0))then some false else(Dl p.Bw y1).bind fun x_2=>(Pv x_2.List_ t).bind fun y3=>(bif (!y3)then some false else(Am (Om run) 0 p.Hazards ()).bind fun o3=>o3.on fun s3=>some true))
theorem cO (p:Cb) (run:Int) (t:Int) {r:Bool} (h:Nw p run t=some r):Ad Tryz.prog 117 [.agg (Gs p),.int .i64 run,.int .i64 t] (·= .bool r):=by
 refine Ad.nle (Ad.intro Tryz.func117 rfl rfl (by show _≤40;simp) ?_)
 unfold Nw at h
 refine nS (sq ?_)
 refine ar rfl (qn (sq ?_))
 refine rg rfl fun K j=>?_
 obtain⟨y1,hy1,h⟩:=Ah h
 refine Al.pure Tryz.call184 (Za p run hy1) rfl fun _ hr=>?_
 subst hr
 refine nS ?_
 refine j _ _ (qn (sq (sq ?_)))
 refine rg rfl fun K j=>?_
 revert h;refine gf (fun hc h=>?_) fun hc h=>?_
 rotate_left
 ·refine j _ _ (qn ?_)
  refine AWP.cond (Ai ?_)
  refine sq (ar rfl (qn (rt (qr ?_))))
  cases h;exact en Tryz.results117
 obtain⟨x_2,hx_2,h⟩:=Ah h
 refine Bk.of (f:=Ax) (l:=p.Bw) hx_2 ?_
 refine nS ?_
 obtain⟨y3,hy3,h⟩:=Ah h
 refine Al.pure Tryz.call221 (fS x_2.List_ t hy3) rfl fun _ hr=>?_
 subst hr
 refine nS ?_
 refine j _ _ (qn ?_)
 revert h;refine ca rfl (fun hc h=>?_) fun hc h=>?_
 ·refine sq (ar rfl (qn (rt (qr ?_))))
  cases h;exact en Tryz.results117
 refine sk (qn (sq (sq (ar rfl (qn (bk ?_))))))
 obtain⟨o3,hJ3,hO3⟩:=Ah h
 clear h
 refine AWP.Br (ι:=Nat×(Unit)×(Unit)) (fun zz=>[(1,.int .i64 run),(3,.ptr 0 0),(8,.int .i64 ((zz.1:Nat):Int))]) (fun zz=>[.box [.sl 4 (p.Bw.map Ax),.sl 3 (p.Hazards.map A3)]]) (fun zz=>zz.1≤p.Hazards.length∧Am (Om run) zz.1 ((p.Hazards).drop zz.1) zz.2.1=some o3) (fun zz=>p.Hazards.length - zz.1) (0,(),()) ⟨Nat.zero_le _,hJ3⟩ cu cu (fun x=>⟨rfl,rfl,rfl⟩) ?_
 clear hJ3
 rintro⟨k3,⟨⟩,⟨⟩⟩ ⟨hk3,hJ3⟩
 dsimp only at hk3 hJ3 ⊢
 refine sq (sq ?_)
 refine rg rfl fun K j=>?_
 intro hm
 refine j _ _ (qn ?_)
 refine AWP.cond (Aj (fun hc=>?_) (fun hc=>?_))
 rotate_left
 ·obtain rfl:=Bc hJ3 (fun hl=>by have:=Ajo hc;omega)
  have h:=Bb hO3;try dsimp only at h
  have hkl:p.Hazards.length=k3:=by have:=Ajo hc;omega
  subst hkl
  refine xt (qe (qe (bs (qn (sq (ar rfl (qn (rt ?_))))))))
  cases h;exact en Tryz.results117
 have hlt3:k3<p.Hazards.length:=by have:=Ajp hc;omega
 obtain⟨x_5,b3,hx3_,h,hJ3⟩:=A1 hJ3 hlt3
 have hx3:=Ay hx3_
 have hw3:=wk (k:=k3) (by omega)
 unfold Om at h;try dsimp only at h
 refine sk (qn (sq (bk (sq ?_))))
 refine rg rfl fun K j=>?_
 refine Bk.of (f:=A3) (l:=p.Hazards) hx3 ?_
 refine nS ?_
 refine j _ _ (qn ?_)
 revert h;refine ca rfl (fun hc h=>?_) fun hc h=>?_
 ·refine sq (ar rfl (qn (rt (br (qr (qr ?_))))))
  obtain rfl:=Aa h
  obtain rfl:=Af hJ3
  replace h:=An hO3
  refine br (qr ?_)
  cases h;exact en Tryz.results117
 refine sk (bn (qn (ar rfl (qn ?_))))
 obtain rfl:=Aa h
 refine⟨(k3+1,(),()),⟨by dsimp only;omega,Ae hJ3⟩,by dsimp only;omega,?_,?_⟩
 ·exact cuw hw3
 exact cuw hw3
def Qt (p:Fe):Option (Int×Int):=
 (K6 p).bind fun y1=>(bif (!y1)then some (0,1)else nz p.Density (some ((IntKind.i64.wrap (Int.tdiv (IntKind.i64.wrap ((IntKind.i64.wrap (p.Natural+p.Machine))*1000)) p.Density)),0)))
theorem dD (p:Fe) {r:Int×Int} (h:Qt p=some r):Ad Tryz.prog 222 [.agg (Np p)] (·= .tuple [.int .i64 r.1,.int .i64 r.2]):=by
 refine Ad.nle (Ad.intro Tryz.func222 rfl rfl (by show _≤16;simp) ?_)
 unfold Qt at h
 refine nS (sq ?_)
 refine ar rfl (qn (sq (sq ?_)))
 refine rg rfl fun K j=>?_
 obtain⟨y1,hy1,h⟩:=Ah h
 refine Al.pure Tryz.call43 (U0 p hy1) rfl fun _ hr=>?_
 subst hr
 refine nS ?_
 refine j _ _ (qn ?_)
 revert h;refine ca rfl (fun hc h=>?_) fun hc h=>?_
 ·refine sq (ar rfl (qn (rt (qr ?_))))
  cases h;exact en Tryz.results222
 refine sk (qn (sq ?_))
 refine rg rfl fun K j=>?_
 obtain⟨hk,h⟩:=kS h
 refine⟨hk,?_⟩
 refine j _ _ (qn (rt ?_))
 cases h;exact en Tryz.results222
def Qa (f_:Ak) (run:Int) (k0:Nat) (x_2:C5) (sv:Unit):Option (Out (Unit) (Bool)):=
 (bif (decide (x_2.Run=run))then (Qt x_2.Pack).bind fun y3=>some (Out.ret (decide (f_.Depth≤y3.1)))else some (Out.next ()))
def Pq (f_:Ak) (run:Int):Option (Bool):=
 (Am (Qa f_ run) 0 f_.Packs ()).bind fun o0=>o0.on fun s0=>some false
theorem fN (f_:Ak) (run:Int) {r:Bool} (h:Pq f_ run=some r):Ad Tryz.prog 118 [.agg (Bv f_),.int .i64 run] (·= .bool r):=by
 refine Ad.nle (Ad.intro Tryz.func118 rfl rfl (by show _≤37;simp) ?_)
 unfold Pq at h
 refine nS (sq ?_)
 refine ar rfl (qn (sq (sq ?_)))
 refine ar rfl (qn (bk ?_))
 obtain⟨o0,hJ0,hO0⟩:=Ah h
 clear h
 refine AWP.Br (ι:=Nat×(Unit)×(Unit)) (fun zz=>[(1,.int .i64 run),(2,.ptr 0 0),(5,.int .i64 ((zz.1:Nat):Int))]) (fun zz=>[.box [.sl 2 (f_.Map.Nodes.map A9),.sl 8 (f_.Map.Lifts.map A7),.sl 7 (f_.Map.Runs.map Be),.sl 1 (f_.Map.Bases.map Aw),.sl 2 (f_.Lifts.map Az),.sl 4 (f_.Closures.map Aq),.sl 4 (f_.Patrol.Bw.map Ax),.sl 3 (f_.Patrol.Hazards.map A3),.sl 3 (f_.Surfaces.map Ba),.sl 5 (f_.Packs.map A4),.sl 6 (f_.Slides.map A5),.sl 7 (f_.Bulletin.map Au),.sl 7 (f_.Missions.map Ao),.sl 4 (f_.Winches.map Ap),.sl 8 (f_.Groomers.map A2),.sl 3 (f_.Status.map A6),.int .i64 f_.Depth,.int .i64 f_.Time]]) (fun zz=>zz.1≤f_.Packs.length∧Am (Qa f_ run) zz.1 ((f_.Packs).drop zz.1) zz.2.1=some o0) (fun zz=>f_.Packs.length - zz.1) (0,(),()) ⟨Nat.zero_le _,hJ0⟩ cu cu (fun x=>⟨rfl,rfl,rfl⟩) ?_
 clear hJ0
 rintro⟨k0,⟨⟩,⟨⟩⟩ ⟨hk0,hJ0⟩
 dsimp only at hk0 hJ0 ⊢
 refine sq (sq ?_)
 refine rg rfl fun K j=>?_
 intro hm
 refine j _ _ (qn ?_)
 refine AWP.cond (Aj (fun hc=>?_) (fun hc=>?_))
 rotate_left
 ·obtain rfl:=Bc hJ0 (fun hl=>by have:=Ajo hc;omega)
  have h:=Bb hO0;try dsimp only at h
  have hkl:f_.Packs.length=k0:=by have:=Ajo hc;omega
  subst hkl
  refine xt (qe (qe (bs (qn (sq (ar rfl (qn (rt ?_))))))))
  cases h;exact en Tryz.results118
 have hlt0:k0<f_.Packs.length:=by have:=Ajp hc;omega
 obtain⟨x_2,b0,hx0_,h,hJ0⟩:=A1 hJ0 hlt0
 have hx0:=Ay hx0_
 have hw0:=wk (k:=k0) (by omega)
 unfold Qa at h;try dsimp only at h
 refine sk (qn (sq (bk (sq ?_))))
 refine rg rfl fun K j=>?_
 refine Bk.of (f:=A4) (l:=f_.Packs) hx0 ?_
 refine nS ?_
 refine j _ _ (qn ?_)
 revert h;refine ca rfl (fun hc h=>?_) fun hc h=>?_
 ·refine sq ?_
  refine rg rfl fun K j=>?_
  refine Bk.of (f:=A4) (l:=f_.Packs) hx0 ?_
  refine nS ?_
  obtain⟨y3,hy3,h⟩:=Ah h
  refine Al.pure Tryz.call222 (dD x_2.Pack hy3) rfl fun _ hr=>?_
  subst hr
  refine nS ?_
  refine j _ _ (qn (sq ?_))
  refine ar rfl (qn (rt (br (qr (qr ?_)))))
  obtain rfl:=Aa h
  obtain rfl:=Af hJ0
  replace h:=An hO0
  refine br (qr ?_)
  cases h;exact en Tryz.results118
 refine sk (bn (qn (ar rfl (qn ?_))))
 obtain rfl:=Aa h
 refine⟨(k0+1,(),()),⟨by dsimp only;omega,Ae hJ0⟩,by dsimp only;omega,?_,?_⟩
 ·exact cuw hw0
 exact cuw hw0
def Nt (f_:Ak) (x_:Cf):Option (Int):=
 (Uu f_.Map f_.Closures x_.ID).bind fun y1=>(bif y1 then some 13 else(W3 f_.Groomers x_.ID).bind fun y2=>(bif y2 then some 15 else(N0 f_.Winches f_.Time).bind fun y3=>(Hj y3 x_.ID).bind fun y4=>(bif y4 then some 15 else(Mq f_ x_.Zone).bind fun y5=>(bif y5 then some 15 else(Gi f_).bind fun y6=>(Ny f_.Slides y6).bind fun y7=>(Hj y7 x_.Zone).bind fun y8=>(bif y8 then some 10 else(Nw f_.Patrol x_.ID f_.Time).bind fun y9=>(bif (!y9)then some 14 else(Pq f_ x_.ID).bind fun y10=>(bif (!y10)then some 5 else some 0)))))))
theorem cL (f_:Ak) (x_:Cf) {r:Int} (h:Nt f_ x_=some r):Ad Tryz.prog 50 [.agg (Bv f_),.agg (Be x_)] (·= .int .i64 r):=by
 refine Ad.nle (Ad.intro Tryz.func50 rfl rfl (by show _≤54;simp) ?_)
 unfold Nt at h
 refine nS (sq ?_)
 refine ar rfl (qn (sq (sq ?_)))
 refine rg rfl fun K j=>?_
 obtain⟨y1,hy1,h⟩:=Ah h
 refine Al.pure Tryz.call112 (hG f_.Map f_.Closures x_.ID hy1) rfl fun _ hr=>?_
 subst hr
 refine nS ?_
 refine j _ _ (qn ?_)
 revert h;refine ca rfl (fun hc h=>?_) fun hc h=>?_
 ·refine sq (ar rfl (qn (rt (qr ?_))))
  cases h;exact en Tryz.results50
 refine sk (qn (sq (sq ?_)))
 refine AWP.draw Tryz.mixed (by kernel_rfl) ?_;intro K j
 refine nS ?_
 obtain⟨y2,hy2,h⟩:=Ah h
 refine Bz.pure Tryz.call113 (j0 f_.Groomers x_.ID hy2) rfl ?_
 refine nS ?_
 revert h;refine gf (fun hc h=>?_) fun hc h=>?_
 rotate_left
 ·refine j _ _ _ (by kernel_rfl) ?_
  refine qn ?_
  refine AWP.cond (Ai ?_)
  refine sq (ar rfl (qn (rt (qr ?_))))
  cases h;exact en Tryz.results50
 obtain⟨y3,hy3,h⟩:=Ah h
 refine Bz.pure Tryz.call114 (c8 f_.Winches f_.Time hy3) rfl ?_
 refine nS ?_
 obtain⟨y4,hy4,h⟩:=Ah h
 refine Bz.pure Tryz.call31 (Mr y3 x_.ID hy4) rfl ?_
 refine nS ?_
 revert h;refine gf (fun hc h=>?_) fun hc h=>?_
 rotate_left
 ·refine j _ _ _ (by kernel_rfl) ?_
  refine qn ?_
  refine AWP.cond (Ai ?_)
  refine sq (ar rfl (qn (rt (qr ?_))))
  cases h;exact en Tryz.results50
 obtain⟨y5,hy5,h⟩:=Ah h
 refine Bz.pure Tryz.call115 (Zq f_ x_.Zone hy5) rfl ?_
 refine nS ?_
 refine j _ _ _ (by kernel_rfl) ?_
 refine qn ?_
 revert h;refine ca rfl (fun hc h=>?_) fun hc h=>?_
 ·refine sq (ar rfl (qn (rt (qr ?_))))
  cases h;exact en Tryz.results50
 refine sk (qn (sq (sq ?_)))
 refine AWP.draw Tryz.mixed (by kernel_rfl) ?_;intro K j
 refine nS ?_
 obtain⟨y6,hy6,h⟩:=Ah h
 refine Bz.pure Tryz.call17 (S9 f_ hy6) rfl ?_
 refine nS ?_
 obtain⟨y7,hy7,h⟩:=Ah h
 refine Bz.pure Tryz.call116 (cU f_.Slides y6 hy7) rfl ?_
 refine nS ?_
 obtain⟨y8,hy8,h⟩:=Ah h
 refine Bz.pure Tryz.call31 (Mr y7 x_.Zone hy8) rfl ?_
 refine nS ?_
 refine j _ _ _ (by kernel_rfl) ?_
 refine qn ?_
 revert h;refine ca rfl (fun hc h=>?_) fun hc h=>?_
 ·refine sq (ar rfl (qn (rt (qr ?_))))
  cases h;exact en Tryz.results50
 refine sk (qn (sq (sq ?_)))
 refine rg rfl fun K j=>?_
 obtain⟨y9,hy9,h⟩:=Ah h
 refine Al.pure Tryz.call117 (cO f_.Patrol x_.ID f_.Time hy9) rfl fun _ hr=>?_
 subst hr
 refine nS ?_
 refine j _ _ (qn ?_)
 revert h;refine ca rfl (fun hc h=>?_) fun hc h=>?_
 ·refine sq (ar rfl (qn (rt (qr ?_))))
  cases h;exact en Tryz.results50
 refine sk (qn (sq (sq ?_)))
 refine rg rfl fun K j=>?_
 obtain⟨y10,hy10,h⟩:=Ah h
 refine Al.pure Tryz.call118 (fN f_ x_.ID hy10) rfl fun _ hr=>?_
 subst hr
 refine nS ?_
 refine j _ _ (qn ?_)
 revert h;refine ca rfl (fun hc h=>?_) fun hc h=>?_
 ·refine sq (ar rfl (qn (rt (qr ?_))))
  cases h;exact en Tryz.results50
 refine sk (qn (sq (ar rfl (qn (rt ?_)))))
 cases h;exact en Tryz.results50
def M5 (k2:Nat) (x_4:Cr) (sv:(List Int)):Option (Out ((List Int)) ((List Int))):=
 (bif (decide (x_4.Mode=1))then chk (sv.length+1) (some (Out.next (sv++[x_4.Lift])))else some (Out.next sv))
def Gh (f_:Ak):Option ((List Int)):=
 (Am M5 0 f_.Lifts []).bind fun o2=>o2.on fun s2=>some s2
theorem Zp (f_:Ak) {r:(List Int)} (h:Gh f_=some r):Bh Tryz.prog 52 [.agg (Bv f_)] (·= .sl 1 (r.map Aw)):=by
 refine Bh.nle (Bh.intro Tryz.func52 rfl rfl (by show _≤30;simp) ?_)
 unfold Gh at h
 refine nS (sq ?_)
 refine ar rfl (qn (sq ?_))
 refine ar rfl (qn (sq (sq ?_)))
 refine ar rfl (qn (bk ?_))
 obtain⟨o2,hJ2,hO2⟩:=Ah h
 clear h
 refine AWP.Br (ι:=Nat×((List Int))×(Nat)) (fun zz=>[(1,.ptr 0 0),(3,.own 1 zz.2.2 0 zz.2.1.length),(4,.int .i64 ((zz.1:Nat):Int))]) (fun zz=>[.box [.sl 2 (f_.Map.Nodes.map A9),.sl 8 (f_.Map.Lifts.map A7),.sl 7 (f_.Map.Runs.map Be),.sl 1 (f_.Map.Bases.map Aw),.sl 2 (f_.Lifts.map Az),.sl 4 (f_.Closures.map Aq),.sl 4 (f_.Patrol.Bw.map Ax),.sl 3 (f_.Patrol.Hazards.map A3),.sl 3 (f_.Surfaces.map Ba),.sl 5 (f_.Packs.map A4),.sl 6 (f_.Slides.map A5),.sl 7 (f_.Bulletin.map Au),.sl 7 (f_.Missions.map Ao),.sl 4 (f_.Winches.map Ap),.sl 8 (f_.Groomers.map A2),.sl 3 (f_.Status.map A6),.int .i64 f_.Depth,.int .i64 f_.Time],.row zz.2.2 1 (zz.2.1.map Aw)]) (fun zz=>zz.1≤f_.Lifts.length∧Am M5 zz.1 ((f_.Lifts).drop zz.1) zz.2.1=some o2) (fun zz=>f_.Lifts.length - zz.1) (0,[],0) ⟨Nat.zero_le _,hJ2⟩ cu cu (fun x=>⟨rfl,rfl,rfl⟩) ?_
 clear hJ2
 rintro⟨k2,out1,ver2⟩ ⟨hk2,hJ2⟩
 dsimp only at hk2 hJ2 ⊢
 refine sq (sq ?_)
 refine rg rfl fun K j=>?_
 intro hm
 refine j _ _ (qn ?_)
 refine AWP.cond (Aj (fun hc=>?_) (fun hc=>?_))
 rotate_left
 ·obtain rfl:=Bc hJ2 (fun hl=>by have:=Ajo hc;omega)
  have h:=Bb hO2;try dsimp only at h
  have hkl:f_.Lifts.length=k2:=by have:=Ajo hc;omega
  subst hkl
  refine xt (qe (qe (bs (qn (sq (ar rfl (qn (rt ?_))))))))
  cases h;exact en Tryz.results52
 have hlt2:k2<f_.Lifts.length:=by have:=Ajp hc;omega
 obtain⟨x_4,b2,hx2_,h,hJ2⟩:=A1 hJ2 hlt2
 have hx2:=Ay hx2_
 have hw2:=wk (k:=k2) (by omega)
 unfold M5 at h;try dsimp only at h
 refine sk (qn (sq (bk (sq ?_))))
 refine rg rfl fun K j=>?_
 refine Bk.of (f:=Az) (l:=f_.Lifts) hx2 ?_
 refine nS ?_
 refine j _ _ (qn ?_)
 revert h;refine ca rfl (fun hc h=>?_) fun hc h=>?_
 ·refine rg rfl fun K j=>?_
  refine Bk.of (f:=Az) (l:=f_.Lifts) hx2 ?_
  refine nS ?_
  obtain⟨hk,h⟩:=B1 h
  (repeat refine rp ?_);try simp +decide -implicitDefEqProofs only[go_sem]
  refine j _ _ (bn (qn ?_))
  refine ar rfl (qn ?_)
  obtain rfl:=Aa h
  refine⟨(k2+1,(out1++[x_4.Lift]),(ver2+1)),⟨by dsimp only;omega,Ae hJ2⟩,by dsimp only;omega,?_,?_⟩
  ·exact cuw hw2
  exact cuw hw2
 refine sk (bn (qn (ar rfl (qn ?_))))
 obtain rfl:=Aa h
 refine⟨(k2+1,out1,ver2),⟨by dsimp only;omega,Ae hJ2⟩,by dsimp only;omega,?_,?_⟩
 ·exact cuw hw2
 exact cuw hw2
theorem aQ (f_:Ak) {r:(List Int)} (h:Gh f_=some r):Ad Tryz.prog 52 [.agg (Bv f_)] (·= .sl 1 (r.map Aw)):=(Zp f_ h).pure
def Vk (n_:Int) (k0:Nat) (x_2:Int) (sv:Unit):Option (Out (Unit) (Bool)):=
 (bif (decide (x_2=n_))then some (Out.ret true)else some (Out.next ()))
def Px (l:List Int) (n_:Int):Option (Bool):=
 (Am (Vk n_) 0 l ()).bind fun o0=>o0.on fun s0=>some false
theorem O1 (l:List Int) (n_:Int) {r:Bool} (h:Px l n_=some r):Ad Tryz.prog 119 [.sl 1 (l.map Aw),.int .i64 n_] (·= .bool r):=by
 refine Ad.nle (Ad.intro Tryz.func119 rfl rfl (by show _≤18;simp) ?_)
 unfold Px at h
 refine nS (sq ?_)
 refine ar rfl (qn (sq (sq ?_)))
 refine ar rfl (qn (bk ?_))
 obtain⟨o0,hJ0,hO0⟩:=Ah h
 clear h
 refine AWP.Br (ι:=Nat×(Unit)×(Unit)) (fun zz=>[(0,.sl 1 (l.map Aw)),(1,.int .i64 n_),(5,.int .i64 ((zz.1:Nat):Int))]) (fun zz=>[]) (fun zz=>zz.1≤l.length∧Am (Vk n_) zz.1 ((l).drop zz.1) zz.2.1=some o0) (fun zz=>l.length - zz.1) (0,(),()) ⟨Nat.zero_le _,hJ0⟩ cu cu (fun x=>⟨rfl,rfl,rfl⟩) ?_
 clear hJ0
 rintro⟨k0,⟨⟩,⟨⟩⟩ ⟨hk0,hJ0⟩
 dsimp only at hk0 hJ0 ⊢
 refine sq (sq ?_)
 refine rg rfl fun K j=>?_
 intro hm
 refine j _ _ (qn ?_)
 refine AWP.cond (Aj (fun hc=>?_) (fun hc=>?_))
 rotate_left
 ·obtain rfl:=Bc hJ0 (fun hl=>by have:=Ajo hc;omega)
  have h:=Bb hO0;try dsimp only at h
  have hkl:l.length=k0:=by have:=Ajo hc;omega
  subst hkl
  refine xt (qe (qe (bs (qn (sq (ar rfl (qn (rt ?_))))))))
  cases h;exact en Tryz.results119
 have hlt0:k0<l.length:=by have:=Ajp hc;omega
 obtain⟨x_2,b0,hx0_,h,hJ0⟩:=A1 hJ0 hlt0
 have hx0:=Ay hx0_
 have hw0:=wk (k:=k0) (by omega)
 unfold Vk at h;try dsimp only at h
 refine sk (qn (sq (bk (sq ?_))))
 refine rg rfl fun K j=>?_
 refine Bk.of (f:=Aw) (l:=l) hx0 ?_
 refine nS ?_
 refine j _ _ (qn ?_)
 revert h;refine ca rfl (fun hc h=>?_) fun hc h=>?_
 ·refine sq (ar rfl (qn (rt (br (qr (qr ?_))))))
  obtain rfl:=Aa h
  obtain rfl:=Af hJ0
  replace h:=An hO0
  refine br (qr ?_)
  cases h;exact en Tryz.results119
 refine sk (bn (qn (ar rfl (qn ?_))))
 obtain rfl:=Aa h
 refine⟨(k0+1,(),()),⟨by dsimp only;omega,Ae hJ0⟩,by dsimp only;omega,?_,?_⟩
 ·exact cuw hw0
 exact cuw hw0
def Qe (runs:List Int) (k2:Nat) (x_4:Cf) (sv:(List Ar)):Option (Out ((List Ar)) ((List Ar))):=
 (Px runs x_4.ID).bind fun y5=>(bif y5 then chk (sv.length+1) (some (Out.next (sv++[(Ar.mk x_4.ID x_4.From x_4.To x_4.Length)])))else some (Out.next sv))
def Nm (m:Bd) (runs:List Int):Option ((List Ar)):=
 (Am (Qe runs) 0 m.Runs []).bind fun o2=>o2.on fun s2=>some s2
theorem dE (m:Bd) (runs:List Int) {r:(List Ar)} (h:Nm m runs=some r):Bh Tryz.prog 73 [.agg (Ca m),.sl 1 (runs.map Aw)] (·= .sl 4 (r.map Bj)):=by
 refine Bh.nle (Bh.intro Tryz.func73 rfl rfl (by show _≤37;simp) ?_)
 unfold Nm at h
 refine nS (sq ?_)
 refine ar rfl (qn (sq ?_))
 refine ar rfl (qn (sq (sq ?_)))
 refine ar rfl (qn (bk ?_))
 refine AWP.ghost 5 4 rfl (by decide) ?_
 obtain⟨o2,hJ2,hO2⟩:=Ah h
 clear h
 refine AWP.Br (ι:=Nat×((List Ar))×(Nat)) (fun zz=>[(1,.sl 1 (runs.map Aw)),(2,.ptr 0 0),(5,.own 1 zz.2.2 0 zz.2.1.length),(6,.int .i64 ((zz.1:Nat):Int))]) (fun zz=>[.box [.sl 2 (m.Nodes.map A9),.sl 8 (m.Lifts.map A7),.sl 7 (m.Runs.map Be),.sl 1 (m.Bases.map Aw)],.row zz.2.2 4 (zz.2.1.map Bj)]) (fun zz=>zz.1≤m.Runs.length∧Am (Qe runs) zz.1 ((m.Runs).drop zz.1) zz.2.1=some o2) (fun zz=>m.Runs.length - zz.1) (0,[],0) ⟨Nat.zero_le _,hJ2⟩ cu cu (fun x=>⟨rfl,rfl,rfl⟩) ?_
 clear hJ2
 rintro⟨k2,out1,ver2⟩ ⟨hk2,hJ2⟩
 dsimp only at hk2 hJ2 ⊢
 refine sq (sq ?_)
 refine rg rfl fun K j=>?_
 intro hm
 refine j _ _ (qn ?_)
 refine AWP.cond (Aj (fun hc=>?_) (fun hc=>?_))
 rotate_left
 ·obtain rfl:=Bc hJ2 (fun hl=>by have:=Ajo hc;omega)
  have h:=Bb hO2;try dsimp only at h
  have hkl:m.Runs.length=k2:=by have:=Ajo hc;omega
  subst hkl
  refine xt (qe (qe (bs (qn (sq (ar rfl (qn (rt ?_))))))))
  cases h;exact en Tryz.results73
 have hlt2:k2<m.Runs.length:=by have:=Ajp hc;omega
 obtain⟨x_4,b2,hx2_,h,hJ2⟩:=A1 hJ2 hlt2
 have hx2:=Ay hx2_
 have hw2:=wk (k:=k2) (by omega)
 unfold Qe at h;try dsimp only at h
 refine sk (qn (sq (bk (sq ?_))))
 refine rg rfl fun K j=>?_
 refine Bk.of (f:=Be) (l:=m.Runs) hx2 ?_
 refine nS ?_
 refine j _ _ (qn (sq ?_))
 refine rg rfl fun K j=>?_
 obtain⟨y5,hy5,h⟩:=Ah h
 refine Al.pure Tryz.call119 (O1 runs x_4.ID hy5) rfl fun _ hr=>?_
 subst hr
 refine nS ?_
 refine j _ _ (qn ?_)
 revert h;refine ca rfl (fun hc h=>?_) fun hc h=>?_
 ·refine rg rfl fun K j=>?_
  obtain⟨hk,h⟩:=B1 h
  (repeat refine rp ?_);try simp +decide -implicitDefEqProofs only[go_sem]
  refine j _ _ (bn (qn ?_))
  refine ar rfl (qn ?_)
  obtain rfl:=Aa h
  refine⟨(k2+1,(out1++[(Ar.mk x_4.ID x_4.From x_4.To x_4.Length)]),(ver2+1)),⟨by dsimp only;omega,Ae hJ2⟩,by dsimp only;omega,?_,?_⟩
  ·exact cuw hw2
  exact cuw hw2
 refine sk (bn (qn (ar rfl (qn ?_))))
 obtain rfl:=Aa h
 refine⟨(k2+1,out1,ver2),⟨by dsimp only;omega,Ae hJ2⟩,by dsimp only;omega,?_,?_⟩
 ·exact cuw hw2
 exact cuw hw2
theorem Wd (m:Bd) (runs:List Int) {r:(List Ar)} (h:Nm m runs=some r):Ad Tryz.prog 73 [.agg (Ca m),.sl 1 (runs.map Aw)] (·= .sl 4 (r.map Bj)):=(dE m runs h).pure
def O0 (n_:Int) (k3:Nat) (x_5:Int) (sv:Bool×(List Int)):Option (Out (Bool×(List Int)) ((List Int))):=
 (bif (!sv.1)then (bif (decide (n_≤x_5))then (bif (decide (n_<x_5))then chk (sv.2.length+1) (chk ((sv.2.length+1)+1) (some (Out.next (true,((sv.2++[n_])++[x_5])))))else chk (sv.2.length+1) (some (Out.next (true,(sv.2++[x_5])))))else chk (sv.2.length+1) (some (Out.next (sv.1,(sv.2++[x_5])))))else chk (sv.2.length+1) (some (Out.next (sv.1,(sv.2++[x_5])))))
def Pw (l:List Int) (n_:Int):Option ((List Int)):=
 (Am (O0 n_) 0 l (false,[])).bind fun o3=>o3.on fun s3=>(bif (!s3.1)then chk (s3.2.length+1) (some (s3.2++[n_]))else some s3.2)
theorem fV (l:List Int) (n_:Int) {r:(List Int)} (h:Pw l n_=some r):Bh Tryz.prog 237 [.sl 1 (l.map Aw),.int .i64 n_] (·= .sl 1 (r.map Aw)):=by
 refine Bh.nle (Bh.intro Tryz.func237 rfl rfl (by show _≤48;simp) ?_)
 unfold Pw at h
 refine nS (sq ?_)
 refine ar rfl (qn (sq ?_))
 refine ar rfl (qn (sq ?_))
 refine ar rfl (qn (sq (sq ?_)))
 refine ar rfl (qn (bk ?_))
 refine AWP.ghost 5 1 rfl (by decide) ?_
 obtain⟨o3,hJ3,hO3⟩:=Ah h
 clear h
 refine AWP.Br (ι:=Nat×(Bool×(List Int))×(Nat)) (fun zz=>[(0,.sl 1 (l.map Aw)),(1,.int .i64 n_),(5,.own 0 zz.2.2 0 zz.2.1.2.length),(6,.bool zz.2.1.1),(7,.int .i64 ((zz.1:Nat):Int))]) (fun zz=>[.row zz.2.2 1 (zz.2.1.2.map Aw)]) (fun zz=>zz.1≤l.length∧Am (O0 n_) zz.1 ((l).drop zz.1) zz.2.1=some o3) (fun zz=>l.length - zz.1) (0,(false,[]),0) ⟨Nat.zero_le _,hJ3⟩ cu cu (fun x=>⟨rfl,rfl,rfl⟩) ?_
 clear hJ3
 rintro⟨k3,⟨done1,out2⟩,ver3⟩ ⟨hk3,hJ3⟩
 dsimp only at hk3 hJ3 ⊢
 refine sq (sq ?_)
 refine rg rfl fun K j=>?_
 intro hm
 refine j _ _ (qn ?_)
 refine AWP.cond (Aj (fun hc=>?_) (fun hc=>?_))
 rotate_left
 ·obtain rfl:=Bc hJ3 (fun hl=>by have:=Ajo hc;omega)
  have h:=Bb hO3;try dsimp only at h
  have hkl:l.length=k3:=by have:=Ajo hc;omega
  subst hkl
  refine xt (qe (qe (bs (qn (sq (sq (ar rfl (qn ?_))))))))
  revert h;refine ca rfl (fun hc h=>?_) fun hc h=>?_
  ·refine rg rfl fun K j=>?_
   obtain⟨hk,h⟩:=B1 h
   (repeat refine rp ?_);try simp +decide -implicitDefEqProofs only[go_sem]
   refine j _ _ (qn (sq ?_))
   refine ar rfl (qn (rt ?_))
   cases h;exact en Tryz.results237
  refine sk (qn (sq (ar rfl (qn (rt ?_)))))
  cases h;exact en Tryz.results237
 have hlt3:k3<l.length:=by have:=Ajp hc;omega
 obtain⟨x_5,b3,hx3_,h,hJ3⟩:=A1 hJ3 hlt3
 have hx3:=Ay hx3_
 have hw3:=wk (k:=k3) (by omega)
 unfold O0 at h;try dsimp only at h
 refine sk (qn (sq (bk (sq (sq ?_)))))
 refine rg rfl fun K j=>?_
 revert h;refine gt (fun hc h=>?_) fun hc h=>?_
 ·refine Bk.of (f:=Aw) (l:=l) hx3 ?_
  refine nS ?_
  refine j _ _ (qn ?_)
  revert h;refine ca rfl (fun hc h=>?_) fun hc h=>?_
  ·refine sq (sq ?_)
   refine rg rfl fun K j=>?_
   refine Bk.of (f:=Aw) (l:=l) hx3 ?_
   refine nS ?_
   refine j _ _ (qn ?_)
   revert h;refine ca rfl (fun hc h=>?_) fun hc h=>?_
   ·refine rg rfl fun K j=>?_
    obtain⟨hk,h⟩:=B1 h
    (repeat refine rp ?_);try simp +decide -implicitDefEqProofs only[go_sem]
    refine j _ _ (qn ?_)
    refine ar rfl (qn ?_)
    refine rg rfl fun K j=>?_
    refine Bk.of (f:=Aw) (l:=l) hx3 ?_
    refine nS ?_
    obtain⟨hk,h⟩:=B1 h
    (repeat refine rp ?_);try simp +decide -implicitDefEqProofs only[go_sem]
    refine j _ _ (bn (qn ?_))
    refine ar rfl (qn ?_)
    obtain rfl:=Aa h
    refine⟨(k3+1,(true,((out2++[n_])++[x_5])),((ver3+1)+1)),⟨by dsimp only;omega,Ae hJ3⟩,by dsimp only;omega,?_,?_⟩
    ·exact cuw hw3
    exact cuw hw3
   refine sk (qn (ar rfl (qn ?_)))
   refine rg rfl fun K j=>?_
   refine Bk.of (f:=Aw) (l:=l) hx3 ?_
   refine nS ?_
   obtain⟨hk,h⟩:=B1 h
   (repeat refine rp ?_);try simp +decide -implicitDefEqProofs only[go_sem]
   refine j _ _ (bn (qn ?_))
   refine ar rfl (qn ?_)
   obtain rfl:=Aa h
   refine⟨(k3+1,(true,(out2++[x_5])),(ver3+1)),⟨by dsimp only;omega,Ae hJ3⟩,by dsimp only;omega,?_,?_⟩
   ·exact cuw hw3
   exact cuw hw3
  refine sk (qn ?_)
  refine rg rfl fun K j=>?_
  refine Bk.of (f:=Aw) (l:=l) hx3 ?_
  refine nS ?_
  obtain⟨hk,h⟩:=B1 h
  (repeat refine rp ?_);try simp +decide -implicitDefEqProofs only[go_sem]
  refine j _ _ (bn (qn ?_))
  refine ar rfl (qn ?_)
  obtain rfl:=Aa h
  refine⟨(k3+1,(done1,(out2++[x_5])),(ver3+1)),⟨by dsimp only;omega,Ae hJ3⟩,by dsimp only;omega,?_,?_⟩
  ·exact cuw hw3
  exact cuw hw3
 refine j _ _ (qn ?_)
 refine AWP.cond (Bg ?_)
 refine sk (qn ?_)
 refine rg rfl fun K j=>?_
 refine Bk.of (f:=Aw) (l:=l) hx3 ?_
 refine nS ?_
 obtain⟨hk,h⟩:=B1 h
 (repeat refine rp ?_);try simp +decide -implicitDefEqProofs only[go_sem]
 refine j _ _ (bn (qn ?_))
 refine ar rfl (qn ?_)
 obtain rfl:=Aa h
 refine⟨(k3+1,(done1,(out2++[x_5])),(ver3+1)),⟨by dsimp only;omega,Ae hJ3⟩,by dsimp only;omega,?_,?_⟩
 ·exact cuw hw3
 exact cuw hw3
theorem W6 (l:List Int) (n_:Int) {r:(List Int)} (h:Pw l n_=some r):Ad Tryz.prog 237 [.sl 1 (l.map Aw),.int .i64 n_] (·= .sl 1 (r.map Aw)):=(fV l n_ h).pure
def Hr (k6:Nat) (x_8:Ar) (sv:(List Int)):Option (Out ((List Int)) (Out ((List Int)×Int) ((List Int)))):=
 (Px sv x_8.From).bind fun y9=>(bif y9 then(Pw sv x_8.To).bind fun y10=>some (Out.next y10)else some (Out.next sv))
def Lc (l:List Ar) (sv:(List Int)×Int):Option (Out ((List Int)×Int) ((List Int))):=
 (bif (decide (sv.2<((sv.1.length:Nat):Int)))then (Am Hr 0 l sv.1).bind fun o6=>o6.on fun s6=>some (Out.next (s6,((sv.1.length:Nat):Int)))else some (Out.ret sv.1))
def La (l:List Ar) (out1:List Int):Option ((List Int)):=
 (Dt (Lc l) fuel (out1,(-1))).bind fun o4=>o4.on fun _=>none
def Lb (k11:Nat) (x_13:Int) (sv:(List Int)):Option (Out ((List Int)) ((List Int))):=
 (Pw sv x_13).bind fun y14=>some (Out.next y14)
def Ld (l:List Ar) (from_:List Int):Option ((List Int)):=
 (Am Lb 0 from_ []).bind fun o11=>o11.on fun s11=>La l s11
theorem U1 (l:List Ar) (from_:List Int) {r:(List Int)} (h:Ld l from_=some r):Ad Tryz.prog 151 [.sl 4 (l.map Bj),.sl 1 (from_.map Aw)] (·= .sl 1 (r.map Aw)):=by
 refine Ad.nle (Ad.intro Tryz.func151 rfl rfl (by show _≤48;simp) ?_)
 unfold Ld at h
 refine nS (sq ?_)
 refine ar rfl (qn (sq ?_))
 refine ar rfl (qn ?_)
 refine AWP.It (ι:=((List Int))×(Unit)) (fun zz=>[(0,.sl 4 (l.map Bj)),(5,.sl 1 (zz.1.map Aw))]) (fun zz=>[]) (fun zz=>La l zz.1=some r) (fun zz=>⟨rfl,rfl,rfl⟩) ?_ ?_
 ·refine sq (ar rfl (qn (bk ?_)))
  obtain⟨o11,hJ11,hO11⟩:=Ah h
  clear h
  refine AWP.Br (ι:=Nat×((List Int))×(Unit)) (fun zz=>[(0,.sl 4 (l.map Bj)),(1,.sl 1 (from_.map Aw)),(5,.sl 1 (zz.2.1.map Aw)),(6,.int .i64 ((zz.1:Nat):Int))]) (fun zz=>[]) (fun zz=>zz.1≤from_.length∧Am Lb zz.1 ((from_).drop zz.1) zz.2.1=some o11) (fun zz=>from_.length - zz.1) (0,[],()) ⟨Nat.zero_le _,hJ11⟩ cu cu (fun x=>⟨rfl,rfl,rfl⟩) ?_
  clear hJ11
  rintro⟨k11,out11,⟨⟩⟩ ⟨hk11,hJ11⟩
  dsimp only at hk11 hJ11 ⊢
  refine sq (sq ?_)
  refine rg rfl fun K j=>?_
  intro hm
  refine j _ _ (qn ?_)
  refine AWP.cond (Aj (fun hc=>?_) (fun hc=>?_))
  ·have hlt11:k11<from_.length:=by have:=Ajp hc;omega
   obtain⟨x_13,b11,hx11_,h,hJ11⟩:=A1 hJ11 hlt11
   have hx11:=Ay hx11_
   have hw11:=wk (k:=k11) (by omega)
   unfold Lb at h;try dsimp only at h
   refine sk (qn (sq (bk ?_)))
   refine rg rfl fun K j=>?_
   refine Bk.of (f:=Aw) (l:=from_) hx11 ?_
   refine nS ?_
   obtain⟨y14,hy14,h⟩:=Ah h
   refine Al.pure Tryz.call237 (W6 out11 x_13 hy14) rfl fun _ hr=>?_
   subst hr
   refine nS ?_
   refine j _ _ (bn (qn ?_))
   refine ar rfl (qn ?_)
   obtain rfl:=Aa h
   refine⟨(k11+1,y14,()),⟨by dsimp only;omega,Ae hJ11⟩,by dsimp only;omega,?_,?_⟩
   ·exact cuw hw11
   exact cuw hw11
  obtain rfl:=Bc hJ11 (fun hl=>by have:=Ajo hc;omega)
  have h:=Bb hO11;try dsimp only at h
  have hkl:from_.length=k11:=by have:=Ajo hc;omega
  subst hkl
  refine xt (qe (qe (bs (qn ?_))))
  exact⟨(out11,()),h,cu,cu⟩
 rintro⟨out1,⟨⟩⟩ h
 try dsimp only at h ⊢
 unfold La at h;try dsimp only at h
 refine sq (sq (ar rfl (qn (bk ?_))))
 obtain⟨o4,hJ4,hO4⟩:=Ah h
 clear h
 refine AWP.Br (ι:=Nat×((List Int)×Int)×(Unit)) (fun zz=>[(0,.sl 4 (l.map Bj)),(5,.sl 1 (zz.2.1.1.map Aw)),(7,.int .i64 zz.2.1.2)]) (fun zz=>[]) (fun zz=>Dt (Lc l) zz.1 zz.2.1=some o4) (fun zz=>zz.1) (fuel,(out1,(-1)),()) hJ4 cu cu (fun x=>⟨rfl,rfl,rfl⟩) ?_
 clear hJ4
 rintro⟨n4,⟨out3,was4⟩,⟨⟩⟩ hJ4
 dsimp only at hJ4 ⊢
 obtain⟨m4,b4,rfl,h,hJ4⟩:=Fx hJ4
 unfold Lc at h;try dsimp only at h
 refine sq (sq ?_)
 refine rg rfl fun K j=>?_
 intro hm
 refine j _ _ (qn ?_)
 revert h;refine ca rfl (fun hc h=>?_) fun hc h=>?_
 rotate_left
 ·refine xt (qe (qe ?_))
  obtain rfl:=Aa h
  obtain rfl:=Af hJ4
  replace h:=An hO4
  refine bs (qn (sq (ar rfl (qn (rt ?_)))))
  cases h;exact en Tryz.results151
 refine sk (qn (bk (sq ?_)))
 refine rg rfl fun K j=>?_
 intro hm
 refine j _ _ (qn (sq ?_))
 refine ar rfl (qn (bk ?_))
 obtain⟨o6,hJ6,hO6⟩:=Ah h
 clear h
 refine AWP.Br (ι:=Nat×((List Int))×(Unit)) (fun zz=>[(0,.sl 4 (l.map Bj)),(5,.sl 1 (zz.2.1.map Aw)),(7,.int .i64 ((out3.length:Nat):Int)),(8,.int .i64 ((zz.1:Nat):Int))]) (fun zz=>[]) (fun zz=>zz.1≤l.length∧Am Hr zz.1 ((l).drop zz.1) zz.2.1=some o6) (fun zz=>l.length - zz.1) (0,out3,()) ⟨Nat.zero_le _,hJ6⟩ cu cu (fun x=>⟨rfl,rfl,rfl⟩) ?_
 clear hJ6
 rintro⟨k6,out6,⟨⟩⟩ ⟨hk6,hJ6⟩
 dsimp only at hk6 hJ6 ⊢
 refine sq (sq ?_)
 refine rg rfl fun K j=>?_
 intro hm
 refine j _ _ (qn ?_)
 refine AWP.cond (Aj (fun hc=>?_) (fun hc=>?_))
 rotate_left
 ·obtain rfl:=Bc hJ6 (fun hl=>by have:=Ajo hc;omega)
  have h:=Bb hO6;try dsimp only at h
  have hkl:l.length=k6:=by have:=Ajo hc;omega
  subst hkl
  refine xt (qe (qe (bs (bn (qn ?_)))))
  obtain rfl:=Aa h
  refine⟨(m4,(out6,((out3.length:Nat):Int)),()),Ae hJ4,by dsimp only;omega,?_,?_⟩
  ·exact cu
  exact cu
 have hlt6:k6<l.length:=by have:=Ajp hc;omega
 obtain⟨x_8,b6,hx6_,h,hJ6⟩:=A1 hJ6 hlt6
 have hx6:=Ay hx6_
 have hw6:=wk (k:=k6) (by omega)
 unfold Hr at h;try dsimp only at h
 refine sk (qn (sq (bk (sq ?_))))
 refine rg rfl fun K j=>?_
 refine Bk.of (f:=Bj) (l:=l) hx6 ?_
 refine nS ?_
 obtain⟨y9,hy9,h⟩:=Ah h
 refine Al.pure Tryz.call119 (O1 out6 x_8.From hy9) rfl fun _ hr=>?_
 subst hr
 refine nS ?_
 refine j _ _ (qn ?_)
 revert h;refine ca rfl (fun hc h=>?_) fun hc h=>?_
 ·refine rg rfl fun K j=>?_
  refine Bk.of (f:=Bj) (l:=l) hx6 ?_
  refine nS ?_
  obtain⟨y10,hy10,h⟩:=Ah h
  refine Al.pure Tryz.call237 (W6 out6 x_8.To hy10) rfl fun _ hr=>?_
  subst hr
  refine nS ?_
  refine j _ _ (bn (qn ?_))
  refine ar rfl (qn ?_)
  obtain rfl:=Aa h
  refine⟨(k6+1,y10,()),⟨by dsimp only;omega,Ae hJ6⟩,by dsimp only;omega,?_,?_⟩
  ·exact cuw hw6
  exact cuw hw6
 refine sk (bn (qn (ar rfl (qn ?_))))
 obtain rfl:=Aa h
 refine⟨(k6+1,out6,()),⟨by dsimp only;omega,Ae hJ6⟩,by dsimp only;omega,?_,?_⟩
 ·exact cuw hw6
 exact cuw hw6
def F2 (lifts:List Int) (k3:Nat) (x_5:Ce) (sv:(List Ar)):Option (Out ((List Ar)) ((List Int))):=
 (Px lifts x_5.ID).bind fun y6=>(bif y6 then chk (sv.length+1) (some (Out.next (sv++[(Ar.mk 0 x_5.From x_5.To 0)])))else some (Out.next sv))
def Jg (m:Bd) (lifts:List Int) (runs:List Int):Option ((List Int)):=
 (Nm m runs).bind fun y1=>chk y1.length ((Am (F2 lifts) 0 m.Lifts y1).bind fun o3=>o3.on fun s3=>(Ld s3 m.Bases).bind fun y7=>some y7)
theorem W5 (m:Bd) (lifts:List Int) (runs:List Int) {r:(List Int)} (h:Jg m lifts runs=some r):Ad Tryz.prog 120 [.agg (Ca m),.sl 1 (lifts.map Aw),.sl 1 (runs.map Aw)] (·= .sl 1 (r.map Aw)):=by
 refine Ad.nle (Ad.intro Tryz.func120 rfl rfl (by show _≤49;simp) ?_)
 unfold Jg at h
 refine nS (sq ?_)
 refine ar rfl (qn (sq ?_))
 refine ar rfl (qn (sq ?_))
 refine rg rfl fun K j=>?_
 obtain⟨y1,hy1,h⟩:=Ah h
 refine Al.pure Tryz.call73 (Wd m runs hy1) rfl fun _ hr=>?_
 subst hr
 refine nS ?_
 obtain⟨hk,h⟩:=B1 h
 (repeat refine rp ?_);try simp +decide -implicitDefEqProofs only[go_sem]
 refine j _ _ (qn (sq (sq ?_)))
 refine ar rfl (qn (bk ?_))
 obtain⟨o3,hJ3,hO3⟩:=Ah h
 clear h
 refine AWP.Br (ι:=Nat×((List Ar))×(Nat)) (fun zz=>[(1,.sl 1 (lifts.map Aw)),(3,.ptr 0 0),(7,.own 1 zz.2.2 0 zz.2.1.length),(8,.int .i64 ((zz.1:Nat):Int))]) (fun zz=>[.box [.sl 2 (m.Nodes.map A9),.sl 8 (m.Lifts.map A7),.sl 7 (m.Runs.map Be),.sl 1 (m.Bases.map Aw)],.row zz.2.2 4 (zz.2.1.map Bj)]) (fun zz=>zz.1≤m.Lifts.length∧Am (F2 lifts) zz.1 ((m.Lifts).drop zz.1) zz.2.1=some o3) (fun zz=>m.Lifts.length - zz.1) (0,y1,0) ⟨Nat.zero_le _,hJ3⟩ cu cu (fun x=>⟨rfl,rfl,rfl⟩) ?_
 clear hJ3
 rintro⟨k3,l2,ver3⟩ ⟨hk3,hJ3⟩
 dsimp only at hk3 hJ3 ⊢
 refine sq (sq ?_)
 refine rg rfl fun K j=>?_
 intro hm
 refine j _ _ (qn ?_)
 refine AWP.cond (Aj (fun hc=>?_) (fun hc=>?_))
 rotate_left
 ·obtain rfl:=Bc hJ3 (fun hl=>by have:=Ajo hc;omega)
  have h:=Bb hO3;try dsimp only at h
  have hkl:m.Lifts.length=k3:=by have:=Ajo hc;omega
  subst hkl
  refine xt (qe (qe (bs (qn (sq ?_)))))
  refine rg rfl fun K j=>?_
  obtain⟨y7,hy7,h⟩:=Ah h
  refine Al.Ds 1 rfl ?_
  refine nS ?_
  refine Al.pure Tryz.call151 (U1 l2 m.Bases hy7) rfl fun _ hr=>?_
  subst hr
  refine nS ?_
  refine j _ _ (qn (rt ?_))
  cases h;exact en Tryz.results120
 have hlt3:k3<m.Lifts.length:=by have:=Ajp hc;omega
 obtain⟨x_5,b3,hx3_,h,hJ3⟩:=A1 hJ3 hlt3
 have hx3:=Ay hx3_
 have hw3:=wk (k:=k3) (by omega)
 unfold F2 at h;try dsimp only at h
 refine sk (qn (sq (bk (sq ?_))))
 refine rg rfl fun K j=>?_
 refine Bk.of (f:=A7) (l:=m.Lifts) hx3 ?_
 refine nS ?_
 obtain⟨y6,hy6,h⟩:=Ah h
 refine Al.pure Tryz.call119 (O1 lifts x_5.ID hy6) rfl fun _ hr=>?_
 subst hr
 refine nS ?_
 refine j _ _ (qn ?_)
 revert h;refine ca rfl (fun hc h=>?_) fun hc h=>?_
 ·refine AWP.draw Tryz.mixed (by kernel_rfl) ?_;intro K j
  refine nS ?_
  refine Bk.of (f:=A7) (l:=m.Lifts) hx3 ?_
  refine nS ?_
  refine Bk.of (f:=A7) (l:=m.Lifts) hx3 ?_
  refine nS ?_
  obtain⟨hk,h⟩:=B1 h
  (repeat refine rp ?_);try simp +decide -implicitDefEqProofs only[go_sem]
  refine j _ _ _ (by kernel_rfl) ?_
  refine bn (qn (ar rfl (qn ?_)))
  obtain rfl:=Aa h
  refine⟨(k3+1,(l2++[(Ar.mk 0 x_5.From x_5.To 0)]),(ver3+1)),⟨by dsimp only;omega,Ae hJ3⟩,by dsimp only;omega,?_,?_⟩
  ·exact cuw hw3
  exact cuw hw3
 refine sk (bn (qn (ar rfl (qn ?_))))
 obtain rfl:=Aa h
 refine⟨(k3+1,l2,ver3),⟨by dsimp only;omega,Ae hJ3⟩,by dsimp only;omega,?_,?_⟩
 ·exact cuw hw3
 exact cuw hw3
def K7 (m:Bd) (lifts:List Int) (runs:List Int) (run:Int):Option (Bool):=
 (Lz m run).bind fun y1=>(bif y1.2 then(Jg m lifts runs).bind fun y2=>(Px y2 y1.1.From).bind fun y3=>some y3 else some false)
theorem dF (m:Bd) (lifts:List Int) (runs:List Int) (run:Int) {r:Bool} (h:K7 m lifts runs run=some r):Ad Tryz.prog 51 [.agg (Ca m),.sl 1 (lifts.map Aw),.sl 1 (runs.map Aw),.int .i64 run] (·= .bool r):=by
 refine Ad.nle (Ad.intro Tryz.func51 rfl rfl (by show _≤27;simp) ?_)
 unfold K7 at h
 refine nS (sq ?_)
 refine ar rfl (qn (sq ?_))
 refine rg rfl fun K j=>?_
 obtain⟨y1,hy1,h⟩:=Ah h
 refine Al.pure Tryz.call32 (K9 m run hy1) rfl fun _ hr=>?_
 subst hr
 refine nS ?_
 refine j _ _ (qn (sq ?_))
 refine AWP.draw Tryz.mixed (by kernel_rfl) ?_;intro K j
 refine nS ?_
 revert h;refine gt (fun hc h=>?_) fun hc h=>?_
 ·obtain⟨y2,hy2,h⟩:=Ah h
  refine Bz.pure Tryz.call120 (W5 m lifts runs hy2) rfl ?_
  refine nS ?_
  obtain⟨y3,hy3,h⟩:=Ah h
  refine Bz.pure Tryz.call119 (O1 y2 y1.1.From hy3) rfl ?_
  refine nS ?_
  refine j _ _ _ (by kernel_rfl) ?_
  refine qn (rt ?_)
  cases h;exact en Tryz.results51
 refine j _ _ _ (by kernel_rfl) ?_
 refine qn (rt ?_)
 cases h;exact en Tryz.results51
def M7 (k2:Nat) (x_4:Ar) (sv:(List Ar)):Option (Out ((List Ar)) ((List Ar))):=
 chk (sv.length+1) (some (Out.next (sv++[(Ar.mk x_4.ID x_4.To x_4.From x_4.Cost)])))
def L0 (l:List Ar):Option ((List Ar)):=
 (Am M7 0 l []).bind fun o2=>o2.on fun s2=>some s2
theorem Zv (l:List Ar) {r:(List Ar)} (h:L0 l=some r):Bh Tryz.prog 152 [.sl 4 (l.map Bj)] (·= .sl 4 (r.map Bj)):=by
 refine Bh.nle (Bh.intro Tryz.func152 rfl rfl (by show _≤36;simp) ?_)
 unfold L0 at h
 refine nS (sq ?_)
 refine ar rfl (qn (sq ?_))
 refine ar rfl (qn (sq (sq ?_)))
 refine ar rfl (qn (bk ?_))
 refine AWP.ghost 3 4 rfl (by decide) ?_
 obtain⟨o2,hJ2,hO2⟩:=Ah h
 clear h
 refine AWP.Br (ι:=Nat×((List Ar))×(Nat)) (fun zz=>[(0,.sl 4 (l.map Bj)),(3,.own 0 zz.2.2 0 zz.2.1.length),(4,.int .i64 ((zz.1:Nat):Int))]) (fun zz=>[.row zz.2.2 4 (zz.2.1.map Bj)]) (fun zz=>zz.1≤l.length∧Am M7 zz.1 ((l).drop zz.1) zz.2.1=some o2) (fun zz=>l.length - zz.1) (0,[],0) ⟨Nat.zero_le _,hJ2⟩ cu cu (fun x=>⟨rfl,rfl,rfl⟩) ?_
 clear hJ2
 rintro⟨k2,out1,ver2⟩ ⟨hk2,hJ2⟩
 dsimp only at hk2 hJ2 ⊢
 refine sq (sq ?_)
 refine rg rfl fun K j=>?_
 intro hm
 refine j _ _ (qn ?_)
 refine AWP.cond (Aj (fun hc=>?_) (fun hc=>?_))
 rotate_left
 ·obtain rfl:=Bc hJ2 (fun hl=>by have:=Ajo hc;omega)
  have h:=Bb hO2;try dsimp only at h
  have hkl:l.length=k2:=by have:=Ajo hc;omega
  subst hkl
  refine xt (qe (qe (bs (qn (sq (ar rfl (qn (rt ?_))))))))
  cases h;exact en Tryz.results152
 have hlt2:k2<l.length:=by have:=Ajp hc;omega
 obtain⟨x_4,b2,hx2_,h,hJ2⟩:=A1 hJ2 hlt2
 have hx2:=Ay hx2_
 have hw2:=wk (k:=k2) (by omega)
 unfold M7 at h;try dsimp only at h
 refine sk (qn (sq (bk ?_)))
 refine AWP.draw Tryz.mixed (by kernel_rfl) ?_;intro K j
 refine nS ?_
 refine Bk.of (f:=Bj) (l:=l) hx2 ?_
 refine nS ?_
 refine Bk.of (f:=Bj) (l:=l) hx2 ?_
 refine nS ?_
 refine Bk.of (f:=Bj) (l:=l) hx2 ?_
 refine nS ?_
 refine Bk.of (f:=Bj) (l:=l) hx2 ?_
 refine nS ?_
 obtain⟨hk,h⟩:=B1 h
 (repeat refine rp ?_);try simp +decide -implicitDefEqProofs only[go_sem]
 refine j _ _ _ (by kernel_rfl) ?_
 refine bn (qn (ar rfl (qn ?_)))
 obtain rfl:=Aa h
 refine⟨(k2+1,(out1++[(Ar.mk x_4.ID x_4.To x_4.From x_4.Cost)]),(ver2+1)),⟨by dsimp only;omega,Ae hJ2⟩,by dsimp only;omega,?_,?_⟩
 ·exact cuw hw2
 exact cuw hw2
theorem aU (l:List Ar) {r:(List Ar)} (h:L0 l=some r):Ad Tryz.prog 152 [.sl 4 (l.map Bj)] (·= .sl 4 (r.map Bj)):=(Zv l h).pure
def Sh (l:List Ar) (to_:List Int):Option ((List Int)):=
 (L0 l).bind fun y1=>(Ld y1 to_).bind fun y2=>some y2
theorem fW (l:List Ar) (to_:List Int) {r:(List Int)} (h:Sh l to_=some r):Ad Tryz.prog 72 [.sl 4 (l.map Bj),.sl 1 (to_.map Aw)] (·= .sl 1 (r.map Aw)):=by
 refine Ad.nle (Ad.intro Tryz.func72 rfl rfl (by show _≤9;simp) ?_)
 unfold Sh at h
 refine nS (sq ?_)
 refine ar rfl (qn (sq ?_))
 refine rg rfl fun K j=>?_
 obtain⟨y1,hy1,h⟩:=Ah h
 refine Al.pure Tryz.call152 (aU l hy1) rfl fun _ hr=>?_
 subst hr
 refine nS ?_
 obtain⟨y2,hy2,h⟩:=Ah h
 refine Al.pure Tryz.call151 (U1 y1 to_ hy2) rfl fun _ hr=>?_
 subst hr
 refine nS ?_
 refine j _ _ (qn (rt ?_))
 cases h;exact en Tryz.results72
def Nn (m:Bd) (runs:List Int):Option ((List Int)):=
 (Nm m runs).bind fun y1=>(Sh y1 m.Bases).bind fun y2=>some y2
theorem fT (m:Bd) (runs:List Int) {r:(List Int)} (h:Nn m runs=some r):Ad Tryz.prog 35 [.agg (Ca m),.sl 1 (runs.map Aw)] (·= .sl 1 (r.map Aw)):=by
 refine Ad.nle (Ad.intro Tryz.func35 rfl rfl (by show _≤11;simp) ?_)
 unfold Nn at h
 refine nS (sq ?_)
 refine ar rfl (qn (sq ?_))
 refine AWP.draw Tryz.mixed (by kernel_rfl) ?_;intro K j
 refine nS ?_
 obtain⟨y1,hy1,h⟩:=Ah h
 refine Bz.pure Tryz.call73 (Wd m runs hy1) rfl ?_
 refine nS ?_
 obtain⟨y2,hy2,h⟩:=Ah h
 refine Bz.pure Tryz.call72 (fW y1 m.Bases hy2) rfl ?_
 refine nS ?_
 refine j _ _ _ (by kernel_rfl) ?_
 refine qn (rt ?_)
 cases h;exact en Tryz.results35
def Nu (f_:Ak) (open_:List Int) (run:Int):Option (Int):=
 (Lz f_.Map run).bind fun y1=>(bif (!y1.2)then some 8 else(Nt f_ y1.1).bind fun y2=>(bif (decide (y2≠0))then some y2 else(Gh f_).bind fun y3=>(K7 f_.Map y3 open_ run).bind fun y4=>(bif (!y4)then some 16 else(Nn f_.Map open_).bind fun y5=>(Hj y5 y1.1.To).bind fun y6=>(bif (!y6)then some 16 else some 0))))
theorem Wx (f_:Ak) (open_:List Int) (run:Int) {r:Int} (h:Nu f_ open_ run=some r):Ad Tryz.prog 19 [.agg (Bv f_),.sl 1 (open_.map Aw),.int .i64 run] (·= .int .i64 r):=by
 refine Ad.nle (Ad.intro Tryz.func19 rfl rfl (by show _≤43;simp) ?_)
 unfold Nu at h
 refine nS (sq ?_)
 refine ar rfl (qn (sq ?_))
 refine rg rfl fun K j=>?_
 obtain⟨y1,hy1,h⟩:=Ah h
 refine Al.pure Tryz.call32 (K9 f_.Map run hy1) rfl fun _ hr=>?_
 subst hr
 refine nS ?_
 refine j _ _ (qn (sq (sq ?_)))
 refine ar rfl (qn ?_)
 revert h;refine ca rfl (fun hc h=>?_) fun hc h=>?_
 ·refine sq (ar rfl (qn (rt (qr ?_))))
  cases h;exact en Tryz.results19
 refine sk (qn (sq (sq ?_)))
 refine rg rfl fun K j=>?_
 obtain⟨y2,hy2,h⟩:=Ah h
 refine Al.pure Tryz.call50 (cL f_ y1.1 hy2) rfl fun _ hr=>?_
 subst hr
 refine nS ?_
 refine j _ _ (qn (sq ?_))
 refine ar rfl (qn ?_)
 revert h;refine ca rfl (fun hc h=>?_) fun hc h=>?_
 ·refine sq (ar rfl (qn (rt (qr ?_))))
  cases h;exact en Tryz.results19
 refine sk (qn (sq (sq ?_)))
 refine AWP.draw Tryz.mixed (by kernel_rfl) ?_;intro K j
 refine nS ?_
 obtain⟨y3,hy3,h⟩:=Ah h
 refine Bz.pure Tryz.call52 (aQ f_ hy3) rfl ?_
 refine nS ?_
 obtain⟨y4,hy4,h⟩:=Ah h
 refine Bz.pure Tryz.call51 (dF f_.Map y3 open_ run hy4) rfl ?_
 refine nS ?_
 revert h;refine gf (fun hc h=>?_) fun hc h=>?_
 ·obtain⟨y5,hy5,h⟩:=Ah h
  refine Bz.pure Tryz.call35 (fT f_.Map open_ hy5) rfl ?_
  refine nS ?_
  obtain⟨y6,hy6,h⟩:=Ah h
  refine Bz.pure Tryz.call31 (Mr y5 y1.1.To hy6) rfl ?_
  refine nS ?_
  refine j _ _ _ (by kernel_rfl) ?_
  refine qn ?_
  revert h;refine ca rfl (fun hc h=>?_) fun hc h=>?_
  ·refine sq (ar rfl (qn (rt (qr ?_))))
   cases h;exact en Tryz.results19
  refine sk (qn (sq (ar rfl (qn (rt ?_)))))
  cases h;exact en Tryz.results19
 refine j _ _ _ (by kernel_rfl) ?_
 refine qn ?_
 refine AWP.cond (Ai ?_)
 refine sq (ar rfl (qn (rt (qr ?_))))
 cases h;exact en Tryz.results19
def Ve (k2:Nat) (x_4:Bo) (sv:(List Int)):Option (Out ((List Int)) ((List Int))):=
 (bif x_4.Open then chk (sv.length+1) (some (Out.next (sv++[x_4.Run])))else some (Out.next sv))
def Ps (f_:Ak):Option ((List Int)):=
 (Am Ve 0 f_.Status []).bind fun o2=>o2.on fun s2=>some s2
theorem fP (f_:Ak) {r:(List Int)} (h:Ps f_=some r):Bh Tryz.prog 21 [.agg (Bv f_)] (·= .sl 1 (r.map Aw)):=by
 refine Bh.nle (Bh.intro Tryz.func21 rfl rfl (by show _≤29;simp) ?_)
 unfold Ps at h
 refine nS (sq ?_)
 refine ar rfl (qn (sq ?_))
 refine ar rfl (qn (sq (sq ?_)))
 refine ar rfl (qn (bk ?_))
 obtain⟨o2,hJ2,hO2⟩:=Ah h
 clear h
 refine AWP.Br (ι:=Nat×((List Int))×(Nat)) (fun zz=>[(1,.ptr 0 0),(3,.own 1 zz.2.2 0 zz.2.1.length),(4,.int .i64 ((zz.1:Nat):Int))]) (fun zz=>[.box [.sl 2 (f_.Map.Nodes.map A9),.sl 8 (f_.Map.Lifts.map A7),.sl 7 (f_.Map.Runs.map Be),.sl 1 (f_.Map.Bases.map Aw),.sl 2 (f_.Lifts.map Az),.sl 4 (f_.Closures.map Aq),.sl 4 (f_.Patrol.Bw.map Ax),.sl 3 (f_.Patrol.Hazards.map A3),.sl 3 (f_.Surfaces.map Ba),.sl 5 (f_.Packs.map A4),.sl 6 (f_.Slides.map A5),.sl 7 (f_.Bulletin.map Au),.sl 7 (f_.Missions.map Ao),.sl 4 (f_.Winches.map Ap),.sl 8 (f_.Groomers.map A2),.sl 3 (f_.Status.map A6),.int .i64 f_.Depth,.int .i64 f_.Time],.row zz.2.2 1 (zz.2.1.map Aw)]) (fun zz=>zz.1≤f_.Status.length∧Am Ve zz.1 ((f_.Status).drop zz.1) zz.2.1=some o2) (fun zz=>f_.Status.length - zz.1) (0,[],0) ⟨Nat.zero_le _,hJ2⟩ cu cu (fun x=>⟨rfl,rfl,rfl⟩) ?_
 clear hJ2
 rintro⟨k2,out1,ver2⟩ ⟨hk2,hJ2⟩
 dsimp only at hk2 hJ2 ⊢
 refine sq (sq ?_)
 refine rg rfl fun K j=>?_
 intro hm
 refine j _ _ (qn ?_)
 refine AWP.cond (Aj (fun hc=>?_) (fun hc=>?_))
 rotate_left
 ·obtain rfl:=Bc hJ2 (fun hl=>by have:=Ajo hc;omega)
  have h:=Bb hO2;try dsimp only at h
  have hkl:f_.Status.length=k2:=by have:=Ajo hc;omega
  subst hkl
  refine xt (qe (qe (bs (qn (sq (ar rfl (qn (rt ?_))))))))
  cases h;exact en Tryz.results21
 have hlt2:k2<f_.Status.length:=by have:=Ajp hc;omega
 obtain⟨x_4,b2,hx2_,h,hJ2⟩:=A1 hJ2 hlt2
 have hx2:=Ay hx2_
 have hw2:=wk (k:=k2) (by omega)
 unfold Ve at h;try dsimp only at h
 refine sk (qn (sq (bk (sq ?_))))
 refine rg rfl fun K j=>?_
 refine Bk.of (f:=A6) (l:=f_.Status) hx2 ?_
 refine nS ?_
 refine j _ _ (qn ?_)
 revert h;refine ca rfl (fun hc h=>?_) fun hc h=>?_
 ·refine rg rfl fun K j=>?_
  refine Bk.of (f:=A6) (l:=f_.Status) hx2 ?_
  refine nS ?_
  obtain⟨hk,h⟩:=B1 h
  (repeat refine rp ?_);try simp +decide -implicitDefEqProofs only[go_sem]
  refine j _ _ (bn (qn ?_))
  refine ar rfl (qn ?_)
  obtain rfl:=Aa h
  refine⟨(k2+1,(out1++[x_4.Run]),(ver2+1)),⟨by dsimp only;omega,Ae hJ2⟩,by dsimp only;omega,?_,?_⟩
  ·exact cuw hw2
  exact cuw hw2
 refine sk (bn (qn (ar rfl (qn ?_))))
 obtain rfl:=Aa h
 refine⟨(k2+1,out1,ver2),⟨by dsimp only;omega,Ae hJ2⟩,by dsimp only;omega,?_,?_⟩
 ·exact cuw hw2
 exact cuw hw2
theorem Wy (f_:Ak) {r:(List Int)} (h:Ps f_=some r):Ad Tryz.prog 21 [.agg (Bv f_)] (·= .sl 1 (r.map Aw)):=(fP f_ h).pure
def Qb (f_:Ak) (y1:(List Int)) (k1:Nat) (x_3:Int) (sv:Unit):Option (Out (Unit) (Bool)):=
 (Nu f_ y1 x_3).bind fun y4=>(bif (decide (y4≠0))then some (Out.ret false)else some (Out.next ()))
def Pr (f_:Ak):Option (Bool):=
 (Ps f_).bind fun y1=>(Am (Qb f_ y1) 0 y1 ()).bind fun o1=>o1.on fun s1=>some true
theorem fO (f_:Ak) {r:Bool} (h:Pr f_=some r):Ad Tryz.prog 23 [.agg (Bv f_)] (·= .bool r):=by
 refine Ad.nle (Ad.intro Tryz.func23 rfl rfl (by show _≤21;simp) ?_)
 unfold Pr at h
 refine nS (sq ?_)
 refine ar rfl (qn (sq ?_))
 refine rg rfl fun K j=>?_
 obtain⟨y1,hy1,h⟩:=Ah h
 refine Al.pure Tryz.call21 (Wy f_ hy1) rfl fun _ hr=>?_
 subst hr
 refine nS ?_
 refine j _ _ (qn (sq (sq ?_)))
 refine ar rfl (qn (bk ?_))
 obtain⟨o1,hJ1,hO1⟩:=Ah h
 clear h
 refine AWP.Br (ι:=Nat×(Unit)×(Unit)) (fun zz=>[(1,.ptr 0 0),(3,.sl 1 (y1.map Aw)),(4,.int .i64 ((zz.1:Nat):Int))]) (fun zz=>[.box [.sl 2 (f_.Map.Nodes.map A9),.sl 8 (f_.Map.Lifts.map A7),.sl 7 (f_.Map.Runs.map Be),.sl 1 (f_.Map.Bases.map Aw),.sl 2 (f_.Lifts.map Az),.sl 4 (f_.Closures.map Aq),.sl 4 (f_.Patrol.Bw.map Ax),.sl 3 (f_.Patrol.Hazards.map A3),.sl 3 (f_.Surfaces.map Ba),.sl 5 (f_.Packs.map A4),.sl 6 (f_.Slides.map A5),.sl 7 (f_.Bulletin.map Au),.sl 7 (f_.Missions.map Ao),.sl 4 (f_.Winches.map Ap),.sl 8 (f_.Groomers.map A2),.sl 3 (f_.Status.map A6),.int .i64 f_.Depth,.int .i64 f_.Time]]) (fun zz=>zz.1≤y1.length∧Am (Qb f_ y1) zz.1 ((y1).drop zz.1) zz.2.1=some o1) (fun zz=>y1.length - zz.1) (0,(),()) ⟨Nat.zero_le _,hJ1⟩ cu cu (fun x=>⟨rfl,rfl,rfl⟩) ?_
 clear hJ1
 rintro⟨k1,⟨⟩,⟨⟩⟩ ⟨hk1,hJ1⟩
 dsimp only at hk1 hJ1 ⊢
 refine sq (sq ?_)
 refine rg rfl fun K j=>?_
 intro hm
 refine j _ _ (qn ?_)
 refine AWP.cond (Aj (fun hc=>?_) (fun hc=>?_))
 rotate_left
 ·obtain rfl:=Bc hJ1 (fun hl=>by have:=Ajo hc;omega)
  have h:=Bb hO1;try dsimp only at h
  have hkl:y1.length=k1:=by have:=Ajo hc;omega
  subst hkl
  refine xt (qe (qe (bs (qn (sq (ar rfl (qn (rt ?_))))))))
  cases h;exact en Tryz.results23
 have hlt1:k1<y1.length:=by have:=Ajp hc;omega
 obtain⟨x_3,b1,hx1_,h,hJ1⟩:=A1 hJ1 hlt1
 have hx1:=Ay hx1_
 have hw1:=wk (k:=k1) (by omega)
 unfold Qb at h;try dsimp only at h
 refine sk (qn (sq (bk (sq ?_))))
 refine AWP.draw Tryz.mixed (by kernel_rfl) ?_;intro K j
 refine nS ?_
 refine Bk.of (f:=Aw) (l:=y1) hx1 ?_
 refine nS ?_
 obtain⟨y4,hy4,h⟩:=Ah h
 refine Bz.pure Tryz.call19 (Wx f_ y1 x_3 hy4) rfl ?_
 refine nS ?_
 refine j _ _ _ (by kernel_rfl) ?_
 refine qn ?_
 revert h;refine ca rfl (fun hc h=>?_) fun hc h=>?_
 ·refine sq (ar rfl (qn (rt (br (qr (qr ?_))))))
  obtain rfl:=Aa h
  obtain rfl:=Af hJ1
  replace h:=An hO1
  refine br (qr ?_)
  cases h;exact en Tryz.results23
 refine sk (bn (qn (ar rfl (qn ?_))))
 obtain rfl:=Aa h
 refine⟨(k1+1,(),()),⟨by dsimp only;omega,Ae hJ1⟩,by dsimp only;omega,?_,?_⟩
 ·exact cuw hw1
 exact cuw hw1
def G7 (f_:Ak) (open_:List Int) (run:Int):Option (Bool):=
 (Qx).bind fun y1=>(bif (!y1)then some false else(N5 f_ open_).bind fun y2=>(bif (!y2)then some true else(D8 f_).bind fun y3=>(Gi f_).bind fun y4=>(Kr y3 y4).bind fun y5=>(bif y5 then(C0 f_ open_ run).bind fun y6=>(Nu f_ open_ run).bind fun y7=>(bif (decide (y6=y7))then (Dk f_).bind fun y8=>(Ps f_).bind fun y9=>(Kr y8 y9).bind fun y10=>(bif y10 then(E4 f_).bind fun y11=>(Pr f_).bind fun y12=>some (y11 ==y12)else some false)else some false)else some false)))
theorem T6 (f_:Ak) (open_:List Int) (run:Int) {r:Bool} (h:G7 f_ open_ run=some r):Ad Tryz.prog 4 [.agg (Bv f_),.sl 1 (open_.map Aw),.int .i64 run] (·= .bool r):=by
 refine Ad.nle (Ad.intro Tryz.func4 rfl rfl (by show _≤43;simp) ?_)
 unfold G7 at h
 refine nS (sq ?_)
 refine ar rfl (qn (sq (sq ?_)))
 refine rg rfl fun K j=>?_
 obtain⟨y1,hy1,h⟩:=Ah h
 refine Al.pure Tryz.call10 (dP hy1) rfl fun _ hr=>?_
 subst hr
 refine nS ?_
 refine j _ _ (qn ?_)
 revert h;refine ca rfl (fun hc h=>?_) fun hc h=>?_
 ·refine sq (ar rfl (qn (rt (qr ?_))))
  cases h;exact en Tryz.results4
 refine sk (qn (sq (sq ?_)))
 refine rg rfl fun K j=>?_
 obtain⟨y2,hy2,h⟩:=Ah h
 refine Al.pure Tryz.call14 (dO f_ open_ hy2) rfl fun _ hr=>?_
 subst hr
 refine nS ?_
 refine j _ _ (qn ?_)
 revert h;refine ca rfl (fun hc h=>?_) fun hc h=>?_
 ·refine sq (ar rfl (qn (rt (qr ?_))))
  cases h;exact en Tryz.results4
 refine sk (qn (sq ?_))
 refine AWP.draw Tryz.mixed (by kernel_rfl) ?_;intro K j
 refine nS ?_
 obtain⟨y3,hy3,h⟩:=Ah h
 refine Bz.pure Tryz.call16 (Pm f_ hy3) rfl ?_
 refine nS ?_
 obtain⟨y4,hy4,h⟩:=Ah h
 refine Bz.pure Tryz.call17 (S9 f_ hy4) rfl ?_
 refine nS ?_
 obtain⟨y5,hy5,h⟩:=Ah h
 refine Bz.pure Tryz.call15 (Je y3 y4 hy5) rfl ?_
 refine nS ?_
 revert h;refine gt (fun hc h=>?_) fun hc h=>?_
 rotate_left
 ·refine j _ _ _ (by kernel_rfl) ?_
  refine qn (rt ?_)
  cases h;exact en Tryz.results4
 obtain⟨y6,hy6,h⟩:=Ah h
 refine Bz.pure Tryz.call18 (Dg f_ open_ run hy6) rfl ?_
 refine nS ?_
 obtain⟨y7,hy7,h⟩:=Ah h
 refine Bz.pure Tryz.call19 (Wx f_ open_ run hy7) rfl ?_
 refine nS ?_
 revert h;refine gt (fun hc h=>?_) fun hc h=>?_
 rotate_left
 ·refine j _ _ _ (by kernel_rfl) ?_
  refine qn (rt ?_)
  cases h;exact en Tryz.results4
 obtain⟨y8,hy8,h⟩:=Ah h
 refine Bz.pure Tryz.call20 (Iv f_ hy8) rfl ?_
 refine nS ?_
 obtain⟨y9,hy9,h⟩:=Ah h
 refine Bz.pure Tryz.call21 (Wy f_ hy9) rfl ?_
 refine nS ?_
 obtain⟨y10,hy10,h⟩:=Ah h
 refine Bz.pure Tryz.call15 (Je y8 y9 hy10) rfl ?_
 refine nS ?_
 revert h;refine gt (fun hc h=>?_) fun hc h=>?_
 ·obtain⟨y11,hy11,h⟩:=Ah h
  refine Bz.pure Tryz.call22 (Mh f_ hy11) rfl ?_
  refine nS ?_
  obtain⟨y12,hy12,h⟩:=Ah h
  refine Bz.pure Tryz.call23 (fO f_ hy12) rfl ?_
  refine nS ?_
  refine j _ _ _ (by kernel_rfl) ?_
  refine qn (rt ?_)
  cases h;exact en Tryz.results4
 refine j _ _ _ (by kernel_rfl) ?_
 refine qn (rt ?_)
 cases h;exact en Tryz.results4
def Tx (f_:Ak) (now4:List Int) (y7:(List Int)) (y8:(List Int)) (k10:Nat) (x_12:Int) (sv:(List Int)):Option (Out ((List Int)) (Out ((List Int)) ((List Int)))):=
 (Lz f_.Map x_12).bind fun y13=>(K7 f_.Map y7 now4 x_12).bind fun y14=>(bif y14 then(Hj y8 y13.1.To).bind fun y15=>(bif y15 then chk (sv.length+1) (some (Out.next (sv++[x_12])))else some (Out.next sv))else some (Out.next sv))
def Ty (f_:Ak) (k5:Nat) (_x:Unit) (sv:(List Int)):Option (Out ((List Int)) ((List Int))):=
 (Gh f_).bind fun y7=>(Nn f_.Map sv).bind fun y8=>(Am (Tx f_ sv y7 y8) 0 sv []).bind fun o10=>o10.on fun s10=>some (Out.next s10)
def Tv (f_:Ak) (now1:List Int):Option ((List Int)):=
 (Kc (Ty f_) (f_.Map.Runs.length+1) now1).bind fun o5=>o5.on fun s5=>some s5
def Tw (f_:Ak) (runs:List Int) (k17:Nat) (x_19:Cf) (sv:(List Int)):Option (Out ((List Int)) ((List Int))):=
 (Hj runs x_19.ID).bind fun y20=>(bif y20 then(Nt f_ x_19).bind fun y21=>(bif (decide (y21=0))then chk (sv.length+1) (some (Out.next (sv++[x_19.ID])))else some (Out.next sv))else some (Out.next sv))
def Zs (f_:Ak) (runs:List Int):Option ((List Int)):=
 (Am (Tw f_ runs) 0 f_.Map.Runs []).bind fun o17=>o17.on fun s17=>Tv f_ s17
def Q8 (f_:Ak) (y2:(List Int)) (k6:Nat) (x_8:Bo) (sv:(List Bo)×(List Int)):Option (Out ((List Bo)×(List Int)) (Ak×(List Int))):=
 (bif x_8.Open then(Hj y2 x_8.Run).bind fun y9=>(bif (!y9)then chk (sv.2.length+1) (chk (sv.1.length+1) (some (Out.next ((sv.1++[(Bo.mk x_8.Run false f_.Time)]),(sv.2++[x_8.Run])))))else chk (sv.1.length+1) (some (Out.next ((sv.1++[(Bo.mk x_8.Run true x_8.Since)]),sv.2))))else chk (sv.1.length+1) (some (Out.next ((sv.1++[(Bo.mk x_8.Run false x_8.Since)]),sv.2))))
def Vd (f_:Ak):Option (Ak×(List Int)):=
 (Ps f_).bind fun y1=>(Zs f_ y1).bind fun y2=>(Am (Q8 f_ y2) 0 f_.Status ([],[])).bind fun o6=>o6.on fun s6=>some ((Ak.mk f_.Map f_.Lifts f_.Closures f_.Patrol f_.Surfaces f_.Packs f_.Slides f_.Bulletin f_.Missions f_.Winches f_.Groomers s6.1 f_.Depth f_.Time),s6.2)
end
end Go.Proofs.YtjopghiagoidgaaGreat
namespace Go.Proofs.YtjopghiagoidgaaGreat
open Go Go.Ab
set_option linter.unusedSimpArgs false
set_option linter.unusedVariables false
inductive Rch (l:List Ar) (S:Int→Prop):Int→Prop
  | base {n:Int}:S n→Rch l S n
  | step {e:Ar}:e∈l→Rch l S e.From→Rch l S e.To
theorem Rch.mono {l l':List Ar} {S T:Int→Prop} (hl:∀ e∈l,e∈l') (hS:∀ n,S n→T n) {n:Int} (h:Rch l S n):Rch l' T n:=by
  induction h with
  | base h=>exact .base (hS _ h)
  | step he _ ih=>exact .step (hl _ he) ih
structure Qh (l:List Ar) (f r:List Int):Prop where
  inc:Inc r
  mem:∀ n,n∈r↔Rch l (·∈f) n
theorem Qh.unique {l:List Ar} {f r r':List Int} (h:Qh l f r) (h':Qh l f r'):r=r':=
  Rs h.inc h'.inc fun x=>by rw[h.mem,h'.mem]
theorem Qh.of_closed {l:List Ar} {f r:List Int} (h:Inc r) (h1:∀ n∈r,Rch l (·∈f) n) (h2:∀ n∈f,n∈r) (h3:∀ e∈l,e.From∈r→e.To∈r):Qh l f r:=
  ⟨h,fun n=>⟨h1 n,fun hr=>by
    induction hr with
    | base h=>exact h2 _ h
    | step he _ ih=>exact h3 _ he ih⟩⟩
theorem R5 {l:List Ar} {f:List Int} {n:Int} (h:Rch l (·∈f) n):n∈f++l.map (·.To):=by
  cases h with
  | base h=>exact List.mem_append.2 (.inl h)
  | step he _=>exact List.mem_append.2 (.inr (List.mem_map_of_mem he))
def aJ (e:Ar):Ar:=⟨e.ID,e.To,e.From,e.Cost⟩
def turn (l:List Ar):List Ar:=l.map aJ
theorem wZ {l:List Ar} {e:Ar}:e∈turn l↔aJ e∈l:=by
  unfold turn
  rw[List.mem_map]
  constructor
  ·rintro⟨x,hx,rfl⟩;exact hx
  ·intro h;exact⟨aJ e,h,rfl⟩
def Jn (l:List Ar):Int→List Ar→Int→Prop
  | n,[],t=>n=t
  | n,e::es,t=>e∈l∧e.From=n∧Jn l e.To es t
def ecost (es:List Ar):Int:=(es.map (·.Cost)).sum
theorem P1 (e:Ar) (es:List Ar):ecost (e::es)=e.Cost+ecost es:=by simp[ecost]
theorem lM:∀ (a b:List Ar),ecost (a++b)=ecost a+ecost b
  | [],b=>by simp[ecost]
  | e::a,b=>by rw[List.cons_append,P1,P1,lM a b];omega
theorem Ys {l:List Ar}:∀ {a b:List Ar} {n t:Int},Jn l n (a++b) t↔∃ m,Jn l n a m∧Jn l m b t
  | [],b,n,t=>by simp[Jn]
  | e::a,b,n,t=>by
    simp only[List.cons_append,Jn,Ys (a:=a)]
    constructor
    ·rintro⟨h1,h2,m,h3,h4⟩;exact⟨m,⟨h1,h2,h3⟩,h4⟩
    ·rintro⟨m,⟨h1,h2,h3⟩,h4⟩;exact⟨h1,h2,m,h3,h4⟩
theorem Jn.mem {l:List Ar}:∀ {es:List Ar} {n t:Int},Jn l n es t→∀ e∈es,e∈l
  | [],n,t,h,e,he=>by simp at he
  | x::es,n,t,h,e,he=>by
    rcases List.mem_cons.1 he with rfl | he
    ·exact h.1
    ·exact Jn.mem h.2.2 e he
theorem Jn.mono {l l':List Ar} (hs:∀ e∈l,e∈l'):∀ {es:List Ar} {n t:Int},Jn l n es t→Jn l' n es t
  | [],n,t,h=>h
  | x::es,n,t,h=>⟨hs _ h.1,h.2.1,Jn.mono hs h.2.2⟩
def lexle (a b:Int×Nat):Prop:=a.1<b.1∨(a.1=b.1∧a.2≤b.2)
theorem lexle.refl (a:Int×Nat):lexle a a:=.inr ⟨rfl,Nat.le_refl _⟩
theorem lexle.trans {a b c:Int×Nat} (h:lexle a b) (k:lexle b c):lexle a c:=by
  unfold lexle at *;omega
theorem lexle.antisymm {a b:Int×Nat} (h:lexle a b) (k:lexle b a):a=b:=by
  obtain⟨a1,a2⟩:=a;obtain⟨b1,b2⟩:=b
  unfold lexle at *
  simp only at h k
  have h1:a1=b1:=by omega
  have h2:a2=b2:=by omega
  rw[h1,h2]
theorem lexle.add {a b:Int×Nat} (h:lexle a b) (c:Int):lexle (a.1+c,a.2+1) (b.1+c,b.2+1):=by
  unfold lexle at *;simp only;omega
theorem lexle.sub {a b:Int×Nat} {c:Int} (h:lexle (a.1+c,a.2+1) (b.1+c,b.2+1)):lexle a b:=by
  unfold lexle at *;simp only at h;omega
def cst (es:List Ar):Int×Nat:=(ecost es,es.length)
theorem bN (e:Ar) (es:List Ar):cst (e::es)=((cst es).1+e.Cost,(cst es).2+1):=by
  unfold cst;rw[P1,Int.add_comm];rfl
theorem lN {α:Type} [DecidableEq α]:∀ {es:List α},¬ es.Nodup→∃ a e b d,es=a++e::(b++e::d)
  | [],h=>absurd List.nodup_nil h
  | x::es,h=>by
    by_cases hx:x∈es
    ·obtain⟨b,d,rfl⟩:=List.append_of_mem hx
     exact⟨[],x,b,d,rfl⟩
    ·have:¬ es.Nodup:=fun hn=>h (List.nodup_cons.2 ⟨hx,hn⟩)
     obtain⟨a,e,b,d,rfl⟩:=lN this
     exact⟨x::a,e,b,d,rfl⟩
theorem shorten {l:List Ar} (h0:∀ e∈l,0≤e.Cost):∀ (k:Nat) {n t:Int} {es:List Ar},es.length≤k→Jn l n es t→∃ es',Jn l n es' t∧es'.length≤l.length∧lexle (cst es') (cst es)
  | 0,n,t,es,hk,h=>⟨es,h,by omega,.refl _⟩
  | k+1,n,t,es,hk,h=>by
    by_cases hn:es.Nodup
    ·exact⟨es,h,Jq hn (Jn.mem h),.refl _⟩
    ·obtain⟨a,e,b,d,rfl⟩:=lN hn
     obtain⟨m,h1,h2,h3,h4⟩:=Ys.1 h
     obtain⟨m',h5,h6,h7,h8⟩:=Ys.1 h4
     have hc:Jn l n (a++e::d) t:=Ys.2 ⟨m,h1,h2,h3,h8⟩
     obtain⟨es',g1,g2,g3⟩:=shorten h0 k (by simp at hk ⊢;omega) hc
     refine⟨es',g1,g2,g3.trans ?_⟩
     have hb:0≤ecost b:=by
       have:∀ {b:List Ar},(∀ e∈b,0≤e.Cost)→0≤ecost b:=by
         intro b
         induction b with
         | nil=>intro _;simp[ecost]
         | cons x b ih=>intro h;rw[P1];have:=h x (by simp);have:=ih fun y hy=>h y (List.mem_cons_of_mem _ hy);omega
       exact this fun x hx=>h0 x (Jn.mem h5 x hx)
     have he:=h0 e h2
     unfold lexle cst
     simp only[lM,P1,List.length_append,List.length_cons]
     omega
structure eN (l:List Ar) (t n:Int) (p:Int×Nat):Prop where
  walk:∃ es,Jn l n es t∧p=cst es
  least:∀ es,Jn l n es t→lexle p (cst es)
theorem eN.unique {l:List Ar} {t n:Int} {p q:Int×Nat} (h:eN l t n p) (k:eN l t n q):p=q:=by
  obtain⟨es,h1,h2⟩:=h.walk
  obtain⟨es',k1,k2⟩:=k.walk
  exact(k2 ▸ h.least es' k1).antisymm (h2 ▸ k.least es h1)
theorem eN.Aax {l:List Ar} (h0:∀ e∈l,0≤e.Cost) {t:Int}:eN l t t (0,0):=by
  refine⟨⟨[],rfl,rfl⟩,fun es h=>?_⟩
  have:0≤ecost es:=by
    have:∀ {b:List Ar},(∀ e∈b,0≤e.Cost)→0≤ecost b:=by
      intro b
      induction b with
      | nil=>intro _;simp[ecost]
      | cons x b ih=>intro h;rw[P1];have:=h x (by simp);have:=ih fun y hy=>h y (List.mem_cons_of_mem _ hy);omega
    exact this fun x hx=>h0 x (Jn.mem h x hx)
  unfold lexle cst;simp only;omega
def Good (l:List Ar) (t n:Int) (e:Ar):Prop:=e∈l∧e.From=n∧∃ p,eN l t e.To p∧eN l t n (p.1+e.Cost,p.2+1)
theorem eN.step {l:List Ar} {t n:Int} {p:Int×Nat} (h:eN l t n p) (hn:n≠t):∃ e,Good l t n e:=by
  obtain⟨es,h1,h2⟩:=h.walk
  cases es with
  | nil=>exact absurd h1 hn
  | cons e es=>
    refine⟨e,h1.1,h1.2.1,cst es,⟨⟨es,h1.2.2,rfl⟩,fun es' h'=>?_⟩,by rw[← bN,← h2];exact h⟩
    have:=h.least (e::es') ⟨h1.1,h1.2.1,h'⟩
    rw[h2,bN,bN]at this
    exact this.sub
inductive Rw (l:List Ar) (t:Int):Int→List Int→Prop
  | done:Rw l t t []
  | step {n:Int} {i:Nat} {e:Ar} {ids:List Int}:n≠t→l[i]? =some e→Good l t n e→(∀ j e',j<i→l[j]? =some e'→¬ Good l t n e')→Rw l t e.To ids→Rw l t n (e.ID::ids)
theorem Rw.unique {l:List Ar} {t n:Int} {a b:List Int} (h:Rw l t n a) (k:Rw l t n b):a=b:=by
  induction h generalizing b with
  | done=>
    cases k with
    | done=>rfl
    | step hn=>exact absurd rfl hn
  | @step n i e ids hn hi hg hf _ ih=>
    cases k with
    | done=>exact absurd rfl hn
    | @step _ i' e' ids' hn' hi' hg' hf' hr'=>
      have:i=i':=by
        rcases Nat.lt_trichotomy i i' with h | h | h
        ·exact absurd hg (hf' i e h hi)
        ·exact h
        ·exact absurd hg' (hf i' e' h hi')
      subst this
      rw[hi]at hi'
      obtain rfl:=Option.some.inj hi'
      rw[ih hr']
theorem Rw.walk {l:List Ar} {t n:Int} {ids:List Int} (h:Rw l t n ids) {p:Int×Nat} (hb:eN l t n p) (h0:∀ e∈l,0≤e.Cost):∃ es,Jn l n es t∧es.map (·.ID)=ids∧cst es=p:=by
  induction h generalizing p with
  | done=>exact ⟨[],rfl,rfl,(eN.Aax h0).unique hb⟩
  | @step n i e ids hn hi hg hf _ ih=>
    obtain⟨g1,g2,q,g3,g4⟩:=hg
    obtain⟨es,e1,e2,e3⟩:=ih g3
    exact⟨e::es,⟨g1,g2,e1⟩,by rw[List.map_cons,e2],by rw[bN,e3];exact g4.unique hb⟩
inductive qE (l:List Ar) (f t:Int):List Int×Int×Bool→Prop
  | none:(∀ es,¬ Jn l f es t)→qE l f t ([],0,false)
  | some {p:Int×Nat} {ids:List Int}:eN l t f p→Rw l t f ids→qE l f t (ids,p.1,true)
theorem qE.unique {l:List Ar} {f t:Int} {r r':List Int×Int×Bool} (h:qE l f t r) (k:qE l f t r'):r=r':=by
  cases h with
  | none h=>
    cases k with
    | none=>rfl
    | some hb=>obtain ⟨es,h1,_⟩:=hb.walk;exact absurd h1 (h es)
  | some hb hp=>
    cases k with
    | none k=>obtain ⟨es,h1,_⟩:=hb.walk;exact absurd h1 (k es)
    | some kb kp=>rw[hb.unique kb,hp.unique kp]
abbrev Tab:=Int→Option (Int×Nat)
def lexlt (a b:Int×Nat):Prop:=a.1<b.1∨(a.1=b.1∧a.2<b.2)
instance (a b:Int×Nat):Decidable (lexlt a b):=by unfold lexlt;infer_instance
def TLe (x y:Option (Int×Nat)):Prop:=∀ b,y=some b→∃ a,x=some a∧lexle a b
theorem TLe.refl (x:Option (Int×Nat)):TLe x x:=fun b h=>⟨b,h,.refl b⟩
theorem TLe.trans {x y z:Option (Int×Nat)} (h:TLe x y) (k:TLe y z):TLe x z:=fun b hb=>by
  obtain⟨a,h1,h2⟩:=k b hb
  obtain⟨c,h3,h4⟩:=h a h1
  exact⟨c,h3,h4.trans h2⟩
def Cov (l:List Ar) (t:Int) (T:Tab) (i:Nat):Prop:=∀ n es,Jn l n es t→es.length≤i→TLe (T n) (some (cst es))
theorem Cov.all {l:List Ar} (h0:∀ e∈l,0≤e.Cost) {t:Int} {T:Tab} {i:Nat} (h:Cov l t T i) (hi:l.length≤i):∀ j,Cov l t T j:=by
  intro j n es hc _
  obtain⟨es',g1,g2,g3⟩:=shorten h0 _ (Nat.le_refl _) hc
  refine(h n es' g1 (by omega)).trans fun b hb=>?_
  obtain rfl:=Option.some.inj hb
  exact⟨_,rfl,g3⟩
structure Exact (l:List Ar) (t:Int) (T:Tab):Prop where
  best:∀ n p,T n=some p↔eN l t n p
  cov:∀ i,Cov l t T i
theorem Exact.none {l:List Ar} {t:Int} {T:Tab} (h:Exact l t T) {n:Int} (hn:T n=none):∀ es,¬ Jn l n es t:=fun es hc=>by
  obtain⟨a,h1,_⟩:=h.cov es.length n es hc (Nat.le_refl _) _ rfl
  rw[hn]at h1;cases h1
theorem back_eq {l:List Ar} (hl:l.length≤100000) (f:List Int):No l f=E6 (turn l) f:=by
  unfold No Eu
  rw[Cj (by omega),Option.bind_some]
  obtain⟨s,h1,h2,h3⟩:=Dv (ρ:=List Int) (step:=G1) (l:=l) (s:=l) (fun k s=>s.length=l.length∧∀ i e,l[i]? =some e→s[i]? =some (if i<k then aJ e else e)) ⟨rfl,fun i e h=>by simpa using h⟩ (fun k x s hk ⟨i1,i2⟩=>by
    have hlt:=(List.getElem?_eq_some_iff.1 hk).1
    have hx:=i2 k x hk
    rw[if_neg (Nat.lt_irrefl k)]at hx
    refine⟨(s.set k (Ar.mk x.ID x.To x.To x.Cost)).set k (aJ x),?_,by simp[i1],fun i e he=>?_⟩
    ·unfold G1
     rw[Ay hx,Option.bind_some];rfl
    ·rw[List.set_set]
     by_cases h:k=i
     ·subst h
      rw[hk]at he;obtain rfl:=Option.some.inj he
      rw[List.getElem?_set_self (by omega),if_pos (by omega)]
     ·rw[List.getElem?_set_ne h,i2 i e he]
      by_cases h2:i<k
      ·rw[if_pos h2,if_pos (by omega)]
      ·rw[if_neg h2,if_neg (by omega)])
  rw[h1]
  have:s=turn l:=by
    apply List.ext_getElem?
    intro i
    unfold turn
    rw[List.getElem?_map]
    by_cases hi:i<l.length
    ·have he:=Ajs hi
     rw[h3 i _ he,he,if_pos hi];rfl
    ·rw[List.getElem?_eq_none (by omega),List.getElem?_eq_none (by omega)];rfl
  subst this
  show(E6 (turn l) f).bind _=_
  cases E6 (turn l) f<;>rfl
theorem iH (l:List Ar) (n:Int):mget [] (B4 l) n=(l.filter fun e=>decide (e.From=n)).map (·.To):=by
  have key:∀ (l:List Ar) (g:List (Int×List Int)),mget [] (l.foldl (fun g e=>gadd g e.From e.To) g) n=mget [] g n++(l.filter fun e=>decide (e.From=n)).map (·.To):=by
    intro l
    induction l with
    | nil=>intro g;simp
    | cons e l ih=>
      intro g
      rw[List.foldl_cons,ih,uO]
      by_cases h:e.From=n<;>simp[h]
  have:=key l []
  simpa[mget,B4]using this
theorem j3 (l:List Ar) (m:List (Int×Bool)) (i:List Int) (x:Int) (hi:i.length≤549755813888) :
    Eg l (m,i++[x])=bif (!(mget false m x))then chk (i.length+(mget [] (B4 l) x).length) (some (Out.next (mset m x true,i++mget [] (B4 l) x)))else some (Out.next (m,i)):=by
  unfold Eg
  have e1:IntKind.i64.wrap ((((i++[x]).length:Nat):Int) - 1)=((i.length:Nat):Int):=by
    rw[wrap_i64]<;>simp<;>omega
  simp only[e1]
  rw[Ajq (show(0:Int)<(((i++[x]).length:Nat):Int) by simp),cond_true,Ay (x:=x) (by simp),Option.bind_some,Py (by simp;omega)]
  simp[List.take_left]
theorem nU {l:List Ar} {f:List Int} (hl:l.length≤100000) (hf:f.length≤100000) (hE:∀ e∈l,I64 e.To) (hF:∀ n∈f,I64 n):∃ r,E6 l f=some r∧Qh l f r:=by
  have hlen:∀ n,(mget [] (B4 l) n).length≤l.length:=fun n=>by
    rw[iH,List.length_map];exact List.length_filter_le _ _
  have hC:(f++l.map (·.To)).length=f.length+l.length:=by simp
  have hB:(f.length+l.length)*(l.length+1)+f.length≤30000000000:=by
    have:=Nat.mul_le_mul (show f.length+l.length≤200000 by omega) (show l.length+1≤100001 by omega)
    omega
  obtain⟨r,h1,h2⟩:=Ik (step:=Eg l)
    (fun s=>(mkeys s.1).Nodup∧(∀ n,mget false s.1 n=true↔n∈mkeys s.1)∧(∀ n∈mkeys s.1,Rch l (·∈f) n)∧(∀ n∈s.2,Rch l (·∈f) n)∧(∀ n∈f,n∈mkeys s.1∨n∈s.2)∧(∀ e∈l,e.From∈mkeys s.1→e.To∈mkeys s.1∨e.To∈s.2)∧
      (f.length+l.length - s.1.length)*(l.length+1)+s.2.length≤30000000000)
    (fun r=>Qh l f r) (fun s=>(f.length+l.length - s.1.length)*(l.length+1)+s.2.length) (fun s ⟨i1,i2,i3,i4,i5,i6,i7⟩=>by
      obtain⟨m,o⟩:=s
      simp only at i1 i2 i3 i4 i5 i6 i7 ⊢
      have hk:m.length≤f.length+l.length:=by
        have:=Jq i1 (b:=f++l.map (·.To)) fun n hn=>R5 (i3 n hn)
        rw[hC]at this
        simpa[mkeys]using this
      have ho:o=[]∨∃ i x,o=i++[x]:=by
        rcases List.eq_nil_or_concat o with h | ⟨i,x,h⟩
        ·exact .inl h
        ·exact .inr ⟨i,x,by rw[h,List.concat_eq_append]⟩
      rcases ho with rfl | ⟨i,x,rfl⟩
      ·refine .inr ⟨Dc (mkeys m),?_,?_⟩
       ·unfold Eg
        have hr:∀ k∈mkeys m, -9223372036854775808≤k∧k≤9223372036854775807:=fun k hk=>by
          rcases List.mem_append.1 (R5 (i3 k hk))with h | h
          ·exact hF k h
          ·obtain⟨e,he,rfl⟩:=List.mem_map.1 h;exact hE e he
        simp only[List.length_nil,Int.natCast_zero,Int.lt_irrefl,decide_false,cond_false]
        rw[Py hr,Cj (by omega)];rfl
       ·refine .of_closed (uB i1) (fun n hn=>i3 n ((Ns _ _).1 hn)) (fun n hn=>(Ns _ _).2 ?_) (fun e he hm=>(Ns _ _).2 ?_)
        ·simpa using i5 n hn
        ·simpa using i6 e he ((Ns _ _).1 hm)
      ·simp only[List.length_append,List.length_cons,List.length_nil]at i7
       rw[j3 l m i x (by omega)]
       have hx:=i4 x (by simp)
       cases hb:mget false m x with
       | false=>
         have hnew:x ∉ mkeys m:=fun h=>by rw[(i2 x).2 h]at hb;cases hb
         have hlx:=hlen x
         have hle:m.length+1≤f.length+l.length:=by
           have hn:(x::mkeys m).Nodup:=List.nodup_cons.2 ⟨hnew,i1⟩
           have:=Jq hn (b:=f++l.map (·.To)) fun n hn=>by
             rcases List.mem_cons.1 hn with rfl | hn
             ·exact R5 hx
             ·exact R5 (i3 n hn)
           rw[hC]at this
           simpa[mkeys]using this
         have hml:(mset m x true).length=m.length+1:=by
           have hh:mhas m x=false:=by
             cases h:mhas m x with
             | false=>rfl
             | true=>exact absurd ((iJ m x).1 h) hnew
           rw[oH,hh];rfl
         have hk2:mkeys (mset m x true)=mkeys m++[x]:=by rw[Yg,if_neg hnew]
         obtain⟨d,hd⟩:∃ d,f.length+l.length=m.length+1+d:=⟨_,(Nat.add_sub_cancel' hle).symm⟩
         have e1:f.length+l.length - m.length=d+1:=by omega
         have e2:f.length+l.length - (m.length+1)=d:=by omega
         rw[e1,Nat.succ_mul]at i7
         simp only[Bool.not_false,cond_true]
         rw[Cj (by omega)]
         refine .inl ⟨_,rfl,⟨rI i1 _ _,fun n=>?_,fun n hn=>?_,fun n hn=>?_,fun n hn=>?_,fun e he hm=>?_,?_⟩,?_⟩
         ·simp only[hk2,Yh,List.mem_append,List.mem_singleton]
          by_cases h:x=n
          ·simp[h]
          ·rw[if_neg h,i2];exact⟨.inl,fun h'=>h'.elim id fun h'=>absurd h'.symm h⟩
         ·simp only[hk2,List.mem_append,List.mem_singleton]at hn
          rcases hn with hn | rfl
          ·exact i3 n hn
          ·exact hx
         ·rcases List.mem_append.1 hn with hn | hn
          ·exact i4 n (by simp[hn])
          ·rw[iH]at hn
           obtain⟨e,he,rfl⟩:=List.mem_map.1 hn
           have:=List.mem_filter.1 he
           have hfx:=Ajp this.2
           exact .step this.1 (hfx ▸ hx)
         ·simp only[hk2,List.mem_append,List.mem_singleton]
          rcases i5 n hn with h | h
          ·exact .inl (.inl h)
          ·rcases List.mem_append.1 h with h | h
           ·exact .inr (.inl h)
           ·exact .inl (.inr (by simpa using h))
         ·simp only[hk2,List.mem_append,List.mem_singleton]at hm ⊢
          rcases hm with hm | hm
          ·rcases i6 e he hm with h | h
           ·exact .inl (.inl h)
           ·rcases List.mem_append.1 h with h | h
            ·exact .inr (.inl h)
            ·exact .inl (.inr (by simpa using h))
          ·refine .inr (.inr ?_)
           rw[iH]
           exact List.mem_map.2 ⟨e,List.mem_filter.2 ⟨he,Ajq hm⟩,rfl⟩
         ·simp only[hml,e2,List.length_append];omega
         ·simp only[hml,e1,e2,List.length_append,Nat.succ_mul,List.length_cons,List.length_nil];omega
       | true=>
         have hold:=(i2 x).1 hb
         refine .inl ⟨_,rfl,⟨i1,i2,i3,fun n hn=>i4 n (by simp[hn]),fun n hn=>?_,fun e he hm=>?_,?_⟩,?_⟩
         ·rcases i5 n hn with h | h
          ·exact .inl h
          ·rcases List.mem_append.1 h with h | h
           ·exact .inr h
           ·exact .inl (by rw[show n=x by simpa using h];exact hold)
         ·rcases i6 e he hm with h | h
          ·exact .inl h
          ·rcases List.mem_append.1 h with h | h
           ·exact .inr h
           ·exact .inl (by rw[show e.To=x by simpa using h];exact hold)
         ·simp only;omega
         ·simp only[List.length_append,List.length_cons,List.length_nil];omega)
    fuel ([],f) ⟨by simp[mkeys],by simp[mget,mkeys],by simp[mkeys],fun n hn=>.base hn,fun n hn=>.inr hn,by simp[mkeys],by simpa using hB⟩ (by show _<1099511627776;simp only[List.length_nil,Nat.sub_zero];omega)
  refine⟨r,?_,h2⟩
  unfold E6 B9
  rw[Cj (by omega),Cj (by omega),Option.bind_some,h1];rfl
def Ej (n_:Int) (least:Int) (most:Int):Option (Bool):=
  (bif (decide (least≤n_))then some (decide (n_≤most))else some false)
def Po (m:Bd) (k0:Nat) (x_2:Cl) (sv:Unit):Option (Out (Unit) (Int)):=
  (Ej x_2.ID (1:Int) (9999:Int)).bind fun y3=>(bif (!y3)then some (Out.ret (2:Int))else (Ej x_2.Alt (0:Int) (5000:Int)).bind fun y4=>(bif (!y4)then some (Out.ret (2:Int))else (bif (decide ((0:Int)<((k0:Nat):Int)))then (Dl m.Nodes (IntKind.i64.wrap (((k0:Nat):Int) - (1:Int)))).bind fun x_5=>(bif (decide (x_2.ID≤x_5.ID))then some (Out.ret (7:Int))else some (Out.next ()))else some (Out.next ()))))
def Tt (m:Bd):Option (Int):=
  (Am (Po m) 0 m.Nodes ()).bind fun o0=>o0.on fun s0=>some (0:Int)
def Lo (m:Bd) (x_2:Ce):Option (Out (Unit) (Int)):=
  (Ee m x_2.From).bind fun y10=>(Ee m x_2.To).bind fun y11=>(bif (!y10.2)then some (Out.ret (8:Int))else (bif (!y11.2)then some (Out.ret (8:Int))else (bif (decide (y11.1.Alt≤y10.1.Alt))then some (Out.ret (11:Int))else nz x_2.Spacing ((bif (decide ((Int.tmod (IntKind.i64.wrap ((2:Int)*x_2.Length)) x_2.Spacing)≠(0:Int)))then some (Out.ret (1:Int))else nz x_2.Spacing ((Ej (IntKind.i64.wrap (Int.tdiv (IntKind.i64.wrap ((2:Int)*x_2.Length)) x_2.Spacing)) (1:Int) (200:Int)).bind fun y12=>(bif (!y12)then some (Out.ret (1:Int))else some (Out.next ()))))))))
def Hf (m:Bd) (k0:Nat) (x_2:Ce) (sv:Unit):Option (Out (Unit) (Int)):=
  (Ej x_2.ID (1:Int) (9999:Int)).bind fun y3=>(bif (!y3)then some (Out.ret (2:Int))else (Ej x_2.Operator (1:Int) (8:Int)).bind fun y4=>(bif (!y4)then some (Out.ret (2:Int))else (Ej x_2.Length (10:Int) (6000:Int)).bind fun y5=>(bif (!y5)then some (Out.ret (2:Int))else (Ej x_2.Speed (500:Int) (12000:Int)).bind fun y6=>(bif (!y6)then some (Out.ret (2:Int))else (Ej x_2.Seats (1:Int) (16:Int)).bind fun y7=>(bif (!y7)then some (Out.ret (2:Int))else (Ej x_2.Spacing (5:Int) (1000:Int)).bind fun y8=>(bif (!y8)then some (Out.ret (2:Int))else (bif (decide ((0:Int)<((k0:Nat):Int)))then (Dl m.Lifts (IntKind.i64.wrap (((k0:Nat):Int) - (1:Int)))).bind fun x_13=>(bif (decide (x_2.ID≤x_13.ID))then some (Out.ret (7:Int))else Lo m x_2)else Lo m x_2)))))))
def P7 (m:Bd):Option (Int):=
  (Am (Hf m) 0 m.Lifts ()).bind fun o0=>o0.on fun s0=>some (0:Int)
def I5 (m:Bd) (k0:Nat) (x_2:Cf) (sv:Unit):Option (Out (Unit) (Int)):=
  (Ej x_2.ID (1:Int) (9999:Int)).bind fun y3=>(bif (!y3)then some (Out.ret (2:Int))else (Ej x_2.Operator (1:Int) (8:Int)).bind fun y4=>(bif (!y4)then some (Out.ret (2:Int))else (Ej x_2.Grade (1:Int) (4:Int)).bind fun y5=>(bif (!y5)then some (Out.ret (2:Int))else (Ej x_2.Zone (1:Int) (32:Int)).bind fun y6=>(bif (!y6)then some (Out.ret (2:Int))else (Ej x_2.Length (10:Int) (20000:Int)).bind fun y7=>(bif (!y7)then some (Out.ret (2:Int))else (bif (decide ((0:Int)<((k0:Nat):Int)))then (Dl m.Runs (IntKind.i64.wrap (((k0:Nat):Int) - (1:Int)))).bind fun x_8=>(bif (decide (x_2.ID≤x_8.ID))then some (Out.ret (7:Int))else (Ee m x_2.From).bind fun y9=>(Ee m x_2.To).bind fun y10=>(bif (!y9.2)then some (Out.ret (8:Int))else (bif (!y10.2)then some (Out.ret (8:Int))else (bif (decide (y9.1.Alt≤y10.1.Alt))then some (Out.ret (11:Int))else some (Out.next ())))))else (Ee m x_2.From).bind fun y11=>(Ee m x_2.To).bind fun y12=>(bif (!y11.2)then some (Out.ret (8:Int))else (bif (!y12.2)then some (Out.ret (8:Int))else (bif (decide (y11.1.Alt≤y12.1.Alt))then some (Out.ret (11:Int))else some (Out.next ()))))))))))
def Rm (m:Bd):Option (Int):=
  (Am (I5 m) 0 m.Runs ()).bind fun o0=>o0.on fun s0=>some (0:Int)
def Hg (m:Bd) (k1:Nat) (x_3:Int) (sv:Unit):Option (Out (Unit) (Int)):=
  (bif (decide ((0:Int)<((k1:Nat):Int)))then (Dl m.Bases (IntKind.i64.wrap (((k1:Nat):Int) - (1:Int)))).bind fun x_4=>(bif (decide (x_3≤x_4))then some (Out.ret (7:Int))else some (Out.next ()))else some (Out.next ()))
def cE (m:Bd):Option (Int):=
  (Am (Hg m) 0 m.Bases ()).bind fun o1=>o1.on fun s1=>some (0:Int)
def Fq (m:Bd) (k4:Nat) (x_6:Int) (sv:Unit):Option (Out (Unit) (Int)):=
  (Ee m x_6).bind fun y7=>(bif (!y7.2)then some (Out.ret (8:Int))else some (Out.next ()))
def Tu (m:Bd):Option (Int):=
  (bif (decide (((m.Bases.length:Nat):Int)=(0:Int)))then some (8:Int)else (Am (Fq m) 0 m.Bases ()).bind fun o4=>o4.on fun s4=>cE m)
def gP (m:Bd):Option (Int):=
  (bif (decide ((64:Int)<((m.Nodes.length:Nat):Int)))then some (4:Int)else (bif (decide ((32:Int)<((m.Lifts.length:Nat):Int)))then some (4:Int)else (bif (decide ((64:Int)<((m.Runs.length:Nat):Int)))then some (4:Int)else (bif (decide ((64:Int)<((m.Bases.length:Nat):Int)))then some (4:Int)else (Tt m).bind fun y1=>(bif (decide (y1≠(0:Int)))then some y1 else(P7 m).bind fun y2=>(bif (decide (y2≠(0:Int)))then some y2 else(Rm m).bind fun y3=>(bif (decide (y3≠(0:Int)))then some y3 else(Tu m).bind fun y4=>some y4)))))))
def Xm {α:Type} (idf:α→Int) (d:α) (l:List α) (id:Int):α×Bool:=match l.find? (fun x=>decide (idf x=id))with | some x=>(x,true) | none=>(d,false)
def Cw (m:Bd) (id:Int):Cl×Bool:=Xm Cl.ID ⟨0,0⟩ m.Nodes id
def Abk (m:Bd) (id:Int):Ce×Bool:=Xm Ce.ID ⟨0,0,0,0,0,0,0,0⟩ m.Lifts id
def Kb (m:Bd) (id:Int):Cf×Bool:=Xm Cf.ID ⟨0,0,0,0,0,0,0⟩ m.Runs id
theorem Xl {α:Type} {idf:α→Int} {d:α} {l:List α} {id:Int} {step:Nat→α→Unit→Option (Out Unit (α×Bool))} (hs:∀ k x,x∈l→step k x ()=bif decide (idf x=id)then some (.ret (x,true))else some (.next ())) :
    ((Am step 0 l ()).bind fun o=>o.on fun _=>some (d,false))=some (Xm idf d l id):=by
  rw[Fo (fun x=>decide (idf x=id)) (fun x=>(x,true)) hs,Xm]
  cases l.find? (fun x=>decide (idf x=id))<;>rfl
theorem jC {α:Type} {idf:α→Int} {d:α} {l:List α} {id:Int} (h:(Xm idf d l id).2=true):(Xm idf d l id).1∈l∧idf (Xm idf d l id).1=id:=by
  unfold Xm at h ⊢
  split
  ·rename_i x hx
   exact⟨List.mem_of_find?_eq_some hx,by simpa using List.find?_some hx⟩
  ·rename_i hx;rw[hx]at h;cases h
theorem u7 {α:Type} {idf:α→Int} {d:α} {l:List α} {x:α} (h:x∈l):(Xm idf d l (idf x)).2=true:=by
  unfold Xm
  split
  ·rfl
  ·rename_i hx
   have:=List.find?_eq_none.1 hx x h
   simp at this
theorem Zz {m:Bd} {id:Int} (h:(Cw m id).2=true):(Cw m id).1∈m.Nodes∧(Cw m id).1.ID=id:=jC h
theorem cH {m:Bd} {id:Int} (h:(Kb m id).2=true):(Kb m id).1∈m.Runs∧(Kb m id).1.ID=id:=jC h
theorem G0 (m:Bd) (id:Int):Ee m id=some (Cw m id):=Xl fun _ _ _=>rfl
theorem Rz (n lo hi:Int):Ej n lo hi=some (decide (lo≤n∧n≤hi)):=by
  unfold Ej
  by_cases h:lo≤n
  ·simp[h]
  ·simp[h]
theorem xE (n lo hi:Int):E2 n lo hi=some (decide (lo≤n∧n≤hi)):=Rz n lo hi
def Ll {α:Type} (idf:α→Int) (l:List α):Prop:=∀ k x y,l[k+1]? =some x→l[k]? =some y→idf y<idf x
def before {α ρ:Type} (idf:α→Int) (l:List α) (k:Nat) (x:α) (bad good:Option (Out Unit ρ)):Option (Out Unit ρ):=
  bif decide (0<((k:Nat):Int))then (Dl l (IntKind.i64.wrap ((k:Int) - 1))).bind fun y=>bif decide (idf x≤idf y)then bad else good else good
theorem Yt {α ρ:Type} {idf:α→Int} {l:List α} {k:Nat} {x:α} {bad good:Option (Out Unit ρ)} (hk:l[k]? =some x) (hl:l.length≤100000) :
    ((∀ y,0<k→l[k - 1]? =some y→idf y<idf x)∧before idf l k x bad good=good)∨(¬ (∀ y,0<k→l[k - 1]? =some y→idf y<idf x)∧before idf l k x bad good=bad):=by
  have hlt:=(List.getElem?_eq_some_iff.1 hk).1
  unfold before
  by_cases h0:0<k
  ·rw[Ajq (by omega),cond_true,Rx h0 (by omega),Yi (by omega)]
   have hy:l[k - 1]? =some l[k - 1]:=Ajs (by omega)
   show(_∧(bif decide (idf x≤idf l[k - 1])then bad else good)=_)∨(_∧(bif decide (idf x≤idf l[k - 1])then bad else good)=_)
   by_cases hle:idf x≤idf l[k - 1]
   ·rw[Ajq hle,cond_true]
    refine .inr ⟨fun h=>?_,rfl⟩
    have:=h _ h0 hy
    omega
   ·rw[Ajr hle,cond_false]
    refine .inl ⟨fun y _ hy'=>?_,rfl⟩
    rw[hy]at hy'
    obtain rfl:=Option.some.inj hy'
    omega
  ·rw[Ajr (by omega),cond_false]
   exact .inl ⟨fun y h=>absurd h h0,rfl⟩
theorem Vb {α:Type} {idf:α→Int} {l:List α}:Ll idf l↔∀ (k:Nat) x,l[k]? =some x→∀ y,0<k→l[k - 1]? =some y→idf y<idf x:=by
  constructor
  ·intro h k x hx y h0 hy
   refine h (k - 1) x y ?_ hy
   rwa [show k - 1+1=k by omega]
  ·intro h k x y hx hy
   exact h (k+1) x hx y (by omega) (by simpa using hy)
def yF (x:Cl):Prop:=(1≤x.ID∧x.ID≤9999)∧(0≤x.Alt∧x.Alt≤5000)
def cA (m:Bd) (a b:Int):Prop:=(Cw m a).2=true∧(Cw m b).2=true∧(Cw m a).1.Alt<(Cw m b).1.Alt
def zU (x:Ce):Prop:=(1≤x.ID∧x.ID≤9999)∧(1≤x.Operator∧x.Operator≤8)∧(10≤x.Length∧x.Length≤6000)∧(500≤x.Speed∧x.Speed≤12000)∧(1≤x.Seats∧x.Seats≤16)∧(5≤x.Spacing∧x.Spacing≤1000)
def cB (x:Ce):Prop:=(2*x.Length).tmod x.Spacing=0∧1≤(2*x.Length).tdiv x.Spacing∧(2*x.Length).tdiv x.Spacing≤200
def yG (m:Bd) (x:Ce):Prop:=zU x∧cA m x.From x.To∧cB x
def Aa1 (x:Cf):Prop:=(1≤x.ID∧x.ID≤9999)∧(1≤x.Operator∧x.Operator≤8)∧(1≤x.Grade∧x.Grade≤4)∧(1≤x.Zone∧x.Zone≤32)∧(10≤x.Length∧x.Length≤20000)
def z8 (m:Bd) (x:Cf):Prop:=Aa1 x∧cA m x.To x.From
structure Lm (m:Bd):Prop where
  lenN:m.Nodes.length≤64
  lenL:m.Lifts.length≤32
  lenR:m.Runs.length≤64
  lenB:m.Bases.length≤64
  nodes:∀ x∈m.Nodes,yF x
  nodesR:Ll Cl.ID m.Nodes
  lifts:∀ x∈m.Lifts,yG m x
  liftsR:Ll Ce.ID m.Lifts
  runs:∀ x∈m.Runs,z8 m x
  runsR:Ll Cf.ID m.Runs
  some:m.Bases≠[]
  bases:∀ b∈m.Bases,(Cw m b).2=true
  basesR:Ll (fun b:Int=>b) m.Bases
theorem tests {α:Type} {step:Nat→α→Unit→Option (Out Unit Int)} {l:List α} (ok:Nat→α→Prop) (hs:∀ k x,l[k]? =some x→(step k x ()=some (.next ())∧ok k x)∨(∃ r,step k x ()=some (.ret r)∧r≠0∧¬ ok k x)) :
    ∃ r,((Am step 0 l ()).bind fun o=>o.on fun _=>some 0)=some r∧(r=0↔∀ k x,l[k]? =some x→ok k x):=by
  rcases Fb (step:=step) (l:=l) (s:=()) (fun k _=>∀ i x,i<k→l[i]? =some x→ok i x) (fun r=>r≠0∧∃ k x,l[k]? =some x∧¬ ok k x) (fun i x h=>by omega) (fun k x u hk hI=>by
    rcases hs k x hk with⟨h1,h2⟩ | ⟨r,h1,h2,h3⟩
    ·refine .inl ⟨(),h1,fun i y hi hy=>?_⟩
     by_cases h:i=k
     ·subst h;rw[hk]at hy;obtain rfl:=Option.some.inj hy;exact h2
     ·exact hI i y (by omega) hy
    ·exact .inr ⟨r,h1,h2,k,x,hk,h3⟩)with ⟨u,h1,h2⟩ | ⟨r,h1,h2,k,x,hk,h3⟩
  ·refine⟨0,by rw[h1];rfl,fun _ k x hk=>h2 k x (List.getElem?_eq_some_iff.1 hk).1 hk,fun _=>rfl⟩
  ·refine⟨r,by rw[h1];rfl,fun h=>absurd h h2,fun h=>absurd (h k x hk) h3⟩
theorem mW {α:Type} {l:List α} {P:α→Prop} {Q:Nat→α→Prop}:(∀ (k:Nat) x,l[k]? =some x→P x∧Q k x)↔(∀ x∈l,P x)∧∀ (k:Nat) x,l[k]? =some x→Q k x:=by
  constructor
  ·intro h
   refine⟨fun x hx=>?_,fun k x hk=>(h k x hk).2⟩
   obtain⟨k,hk⟩:=List.getElem?_of_mem hx
   exact(h k x hk).1
  ·intro h k x hk
   exact⟨h.1 x (Ajt hk),h.2 k x hk⟩
theorem jV (m:Bd) (hl:m.Nodes.length≤64):∃ r,Tt m=some r∧(r=0↔(∀ x∈m.Nodes,yF x)∧Ll Cl.ID m.Nodes):=by
  rw[Vb,← mW]
  refine tests _ fun k x hk=>?_
  have hb:Po m k x ()=(bif !decide (1≤x.ID∧x.ID≤9999)then some (Out.ret 2)else bif !decide (0≤x.Alt∧x.Alt≤5000)then some (Out.ret 2)else before Cl.ID m.Nodes k x (some (Out.ret 7)) (some (Out.next ()))):=by
    simp only[Po,Rz,Option.bind_some];rfl
  rw[hb]
  by_cases h1:1≤x.ID∧x.ID≤9999
  ·by_cases h2:0≤x.Alt∧x.Alt≤5000
   ·rw[Ajq h1,Ajq h2]
    rcases Yt (idf:=Cl.ID) (bad:=some (Out.ret (7:Int))) (good:=some (Out.next ())) hk (by omega)with ⟨h3,e⟩ | ⟨h3,e⟩
    ·exact .inl ⟨e,⟨h1,h2⟩,h3⟩
    ·exact .inr ⟨7,e,by decide,fun h=>h3 h.2⟩
   ·rw[Ajq h1,Ajr h2]
    exact .inr ⟨2,rfl,by decide,fun h=>h2 h.1.2⟩
  ·rw[Ajr h1]
   exact .inr ⟨2,rfl,by decide,fun h=>h1 h.1.1⟩
theorem hZ (m:Bd):Te m.Nodes=Tt m:=rfl
theorem Aa3 {n:Int} (h:10≤n∧n≤6000):IntKind.i64.wrap (2*n)=2*n:=by rw[wrap_i64]<;>omega
theorem qM {a b:Int} (ha:0≤a) (hb:0<b):0≤a.tdiv b∧a.tdiv b≤a:=by
  rw[Int.tdiv_eq_ediv_of_nonneg ha]
  exact⟨Int.ediv_nonneg ha (by omega),Int.ediv_le_self _ ha⟩
theorem tU {n s:Int} (h:10≤n∧n≤6000) (hs:5≤s∧s≤1000):IntKind.i64.wrap ((2*n).tdiv s)=(2*n).tdiv s:=by
  have:=qM (a:=2*n) (b:=s) (by omega) (by omega)
  rw[wrap_i64]<;>omega
def leads (m:Bd) (a b:Int) (good:Option (Out Unit Int)):Option (Out Unit Int):=
  bif !(Cw m a).2 then some (.ret 8)else bif !(Cw m b).2 then some (.ret 8)else bif decide ((Cw m b).1.Alt≤(Cw m a).1.Alt)then some (.ret 11)else good
theorem oN (m:Bd) (a b:Int) (good:Option (Out Unit Int)):(cA m a b∧leads m a b good=good)∨(¬ cA m a b∧∃ r,leads m a b good=some (.ret r)∧r≠0):=by
  unfold leads cA
  cases h1:(Cw m a).2 with
  | false=>exact .inr ⟨by simp,8,rfl,by decide⟩
  | true=>
    cases h2:(Cw m b).2 with
    | false=>exact .inr ⟨by simp,8,rfl,by decide⟩
    | true=>
      by_cases h3:(Cw m b).1.Alt≤(Cw m a).1.Alt
      ·rw[Ajq h3]
       exact .inr ⟨fun h=>by omega,11,rfl,by decide⟩
      ·rw[Ajr h3]
       exact .inl ⟨⟨rfl,rfl,by omega⟩,rfl⟩
def carr (x:Ce) (good:Option (Out Unit Int)):Option (Out Unit Int):=
  nz x.Spacing (bif decide ((IntKind.i64.wrap (2*x.Length)).tmod x.Spacing≠0)then some (.ret 1)else nz x.Spacing (bif !decide (1≤IntKind.i64.wrap ((IntKind.i64.wrap (2*x.Length)).tdiv x.Spacing)∧IntKind.i64.wrap ((IntKind.i64.wrap (2*x.Length)).tdiv x.Spacing)≤200)then some (.ret 1)else good))
theorem zM {x:Ce} (hl:10≤x.Length∧x.Length≤6000) (hs:5≤x.Spacing∧x.Spacing≤1000) (good:Option (Out Unit Int)):(cB x∧carr x good=good)∨(¬ cB x∧∃ r,carr x good=some (.ret r)∧r≠0):=by
  unfold carr cB
  rw[iE (by omega),iE (by omega),Aa3 hl,tU hl hs]
  by_cases h1:(2*x.Length).tmod x.Spacing=0
  ·rw[Ajr (by simpa using h1)]
   by_cases h2:1≤(2*x.Length).tdiv x.Spacing∧(2*x.Length).tdiv x.Spacing≤200
   ·rw[Ajq h2];exact .inl ⟨⟨h1,h2.1,h2.2⟩,rfl⟩
   ·rw[Ajr h2];exact .inr ⟨fun h=>h2 h.2,1,rfl,by decide⟩
  ·rw[Ajq (by simpa using h1)];exact .inr ⟨fun h=>h1 h.1,1,rfl,by decide⟩
theorem jW (m:Bd) (hl:m.Lifts.length≤32):∃ r,P7 m=some r∧(r=0↔(∀ x∈m.Lifts,yG m x)∧Ll Ce.ID m.Lifts):=by
  rw[Vb,← mW]
  refine tests _ fun k x hk=>?_
  have hb:Hf m k x ()=(bif !decide (1≤x.ID∧x.ID≤9999)then some (Out.ret 2)else bif !decide (1≤x.Operator∧x.Operator≤8)then some (Out.ret 2)else bif !decide (10≤x.Length∧x.Length≤6000)then some (Out.ret 2)else
   bif !decide (500≤x.Speed∧x.Speed≤12000)then some (Out.ret 2)else bif !decide (1≤x.Seats∧x.Seats≤16)then some (Out.ret 2)else bif !decide (5≤x.Spacing∧x.Spacing≤1000)then some (Out.ret 2)else
   before Ce.ID m.Lifts k x (some (Out.ret 7)) (leads m x.From x.To (carr x (some (.next ()))))):=by
    simp only[Hf,Lo,Rz,G0,Option.bind_some];rfl
  rw[hb]
  by_cases h1:1≤x.ID∧x.ID≤9999
  case neg=>rw[Ajr h1];exact .inr ⟨2,rfl,by decide,fun h=>h1 h.1.1.1⟩
  by_cases h2:1≤x.Operator∧x.Operator≤8
  case neg=>rw[Ajq h1,Ajr h2];exact .inr ⟨2,rfl,by decide,fun h=>h2 h.1.1.2.1⟩
  by_cases h3:10≤x.Length∧x.Length≤6000
  case neg=>rw[Ajq h1,Ajq h2,Ajr h3];exact .inr ⟨2,rfl,by decide,fun h=>h3 h.1.1.2.2.1⟩
  by_cases h4:500≤x.Speed∧x.Speed≤12000
  case neg=>rw[Ajq h1,Ajq h2,Ajq h3,Ajr h4];exact .inr ⟨2,rfl,by decide,fun h=>h4 h.1.1.2.2.2.1⟩
  by_cases h5:1≤x.Seats∧x.Seats≤16
  case neg=>rw[Ajq h1,Ajq h2,Ajq h3,Ajq h4,Ajr h5];exact .inr ⟨2,rfl,by decide,fun h=>h5 h.1.1.2.2.2.2.1⟩
  by_cases h6:5≤x.Spacing∧x.Spacing≤1000
  case neg=>rw[Ajq h1,Ajq h2,Ajq h3,Ajq h4,Ajq h5,Ajr h6];exact .inr ⟨2,rfl,by decide,fun h=>h6 h.1.1.2.2.2.2.2⟩
  rw[Ajq h1,Ajq h2,Ajq h3,Ajq h4,Ajq h5,Ajq h6]
  rcases Yt (idf:=Ce.ID) (bad:=some (Out.ret (7:Int))) (good:=leads m x.From x.To (carr x (some (.next ())))) hk (by omega)with ⟨h7,e⟩ | ⟨h7,e⟩
  case inr=>exact .inr ⟨7,e,by decide,fun h=>h7 h.2⟩
  rcases oN m x.From x.To (carr x (some (.next ())))with ⟨h8,e2⟩ | ⟨h8,r,e2,hr⟩
  case inr=>exact .inr ⟨r,e.trans e2,hr,fun h=>h8 h.1.2.1⟩
  rcases zM h3 h6 (some (.next ()))with ⟨h9,e3⟩ | ⟨h9,r,e3,hr⟩
  case inr=>exact .inr ⟨r,e.trans (e2.trans e3),hr,fun h=>h9 h.1.2.2⟩
  exact .inl ⟨e.trans (e2.trans e3),⟨⟨h1,h2,h3,h4,h5,h6⟩,h8,h9⟩,h7⟩
theorem l5 (m:Bd) (hl:m.Runs.length≤64):∃ r,Rm m=some r∧(r=0↔(∀ x∈m.Runs,z8 m x)∧Ll Cf.ID m.Runs):=by
  rw[Vb,← mW]
  refine tests _ fun k x hk=>?_
  have hlead:∀ (good:Option (Out Unit Int)),(bif !(Cw m x.From).2 then some (.ret 8)else bif !(Cw m x.To).2 then some (.ret 8)else bif decide ((Cw m x.From).1.Alt≤(Cw m x.To).1.Alt)then some (.ret 11)else good)=leads m x.To x.From good:=by
    intro good
    unfold leads
    cases(Cw m x.From).2<;>cases (Cw m x.To).2<;>rfl
  have hb:I5 m k x ()=(bif !decide (1≤x.ID∧x.ID≤9999)then some (Out.ret 2)else bif !decide (1≤x.Operator∧x.Operator≤8)then some (Out.ret 2)else bif !decide (1≤x.Grade∧x.Grade≤4)then some (Out.ret 2)else
   bif !decide (1≤x.Zone∧x.Zone≤32)then some (Out.ret 2)else bif !decide (10≤x.Length∧x.Length≤20000)then some (Out.ret 2)else
   before Cf.ID m.Runs k x (some (Out.ret 7)) (leads m x.To x.From (some (.next ())))):=by
    simp only[I5,Rz,G0,Option.bind_some,hlead];rfl
  rw[hb]
  by_cases h1:1≤x.ID∧x.ID≤9999
  case neg=>rw[Ajr h1];exact .inr ⟨2,rfl,by decide,fun h=>h1 h.1.1.1⟩
  by_cases h2:1≤x.Operator∧x.Operator≤8
  case neg=>rw[Ajq h1,Ajr h2];exact .inr ⟨2,rfl,by decide,fun h=>h2 h.1.1.2.1⟩
  by_cases h3:1≤x.Grade∧x.Grade≤4
  case neg=>rw[Ajq h1,Ajq h2,Ajr h3];exact .inr ⟨2,rfl,by decide,fun h=>h3 h.1.1.2.2.1⟩
  by_cases h4:1≤x.Zone∧x.Zone≤32
  case neg=>rw[Ajq h1,Ajq h2,Ajq h3,Ajr h4];exact .inr ⟨2,rfl,by decide,fun h=>h4 h.1.1.2.2.2.1⟩
  by_cases h5:10≤x.Length∧x.Length≤20000
  case neg=>rw[Ajq h1,Ajq h2,Ajq h3,Ajq h4,Ajr h5];exact .inr ⟨2,rfl,by decide,fun h=>h5 h.1.1.2.2.2.2⟩
  rw[Ajq h1,Ajq h2,Ajq h3,Ajq h4,Ajq h5]
  rcases Yt (idf:=Cf.ID) (bad:=some (Out.ret (7:Int))) (good:=leads m x.To x.From (some (.next ()))) hk (by omega)with ⟨h7,e⟩ | ⟨h7,e⟩
  case inr=>exact .inr ⟨7,e,by decide,fun h=>h7 h.2⟩
  rcases oN m x.To x.From (some (.next ()))with ⟨h8,e2⟩ | ⟨h8,r,e2,hr⟩
  case inr=>exact .inr ⟨r,e.trans e2,hr,fun h=>h8 h.1.2⟩
  exact .inl ⟨e.trans e2,⟨⟨h1,h2,h3,h4,h5⟩,h8⟩,h7⟩
theorem qL {α:Type} {step:Nat→α→Unit→Option (Out Unit Int)} {l:List α} (e:Int) (ok:Nat→α→Prop) (hs:∀ k x,l[k]? =some x→(step k x ()=some (.next ())∧ok k x)∨(step k x ()=some (.ret e)∧¬ ok k x)) :
    (Am step 0 l ()=some (.next ())∧∀ k x,l[k]? =some x→ok k x)∨(Am step 0 l ()=some (.ret e)∧¬ ∀ k x,l[k]? =some x→ok k x):=by
  rcases Fb (step:=step) (l:=l) (s:=()) (fun k _=>∀ i x,i<k→l[i]? =some x→ok i x) (fun r=>r=e∧∃ k x,l[k]? =some x∧¬ ok k x) (fun i x h=>by omega) (fun k x u hk hI=>by
    rcases hs k x hk with⟨h1,h2⟩ | ⟨h1,h3⟩
    ·refine .inl ⟨(),h1,fun i y hi hy=>?_⟩
     by_cases h:i=k
     ·subst h;rw[hk]at hy;obtain rfl:=Option.some.inj hy;exact h2
     ·exact hI i y (by omega) hy
    ·exact .inr ⟨e,h1,rfl,k,x,hk,h3⟩)with ⟨u,h1,h2⟩ | ⟨r,h1,h2,k,x,hk,h3⟩
  ·exact .inl ⟨h1,fun k x hk=>h2 k x (List.getElem?_eq_some_iff.1 hk).1 hk⟩
  ·subst h2;exact .inr ⟨h1,fun h=>h3 (h k x hk)⟩
theorem Aav (m:Bd):(Am (Fq m) 0 m.Bases ()=some (.next ())∧∀ b∈m.Bases,(Cw m b).2=true)∨(Am (Fq m) 0 m.Bases ()=some (.ret 8)∧¬ ∀ b∈m.Bases,(Cw m b).2=true):=by
  have h:=qL (step:=Fq m) (l:=m.Bases) 8 (fun _ b=>(Cw m b).2=true) (fun k x hk=>by
    simp only[Fq,G0,Option.bind_some]
    cases(Cw m x).2<;>simp)
  have e:(∀ (k:Nat) x,m.Bases[k]? =some x→(Cw m x).2=true)↔∀ b∈m.Bases,(Cw m b).2=true:=
    ⟨fun h b hb=>by obtain⟨k,hk⟩:=List.getElem?_of_mem hb;exact h k b hk,fun h k x hk=>h x (Ajt hk)⟩
  rwa [e]at h
theorem Aau (m:Bd) (hl:m.Bases.length≤64):(Am (Hg m) 0 m.Bases ()=some (.next ())∧Ll (fun b:Int=>b) m.Bases)∨(Am (Hg m) 0 m.Bases ()=some (.ret 7)∧¬ Ll (fun b:Int=>b) m.Bases):=by
  rw[Vb]
  refine qL _ _ fun k x hk=>?_
  rcases Yt (idf:=fun b:Int=>b) (bad:=some (Out.ret (7:Int))) (good:=some (Out.next ())) hk (by omega)with ⟨h,e⟩ | ⟨h,e⟩
  ·exact .inl ⟨e,h⟩
  ·exact .inr ⟨e,h⟩
theorem tO (m:Bd) (hl:m.Bases.length≤64):(Kc (Ed m) (m.Bases.length - 1) ()=some (.next ())∧Ll (fun b:Int=>b) m.Bases)∨(Kc (Ed m) (m.Bases.length - 1) ()=some (.ret 7)∧¬ Ll (fun b:Int=>b) m.Bases):=by
  have hn:m.Bases.length - 1≤9223372036854775807:=by omega
  rw[Kc,if_pos hn]
  have h:=qL (step:=Ed m) (l:=List.replicate (m.Bases.length - 1) ()) 7 (fun k _=>∀ x y,m.Bases[k+1]? =some x→m.Bases[k]? =some y→y<x) (fun k u hk=>by
    have hk:=Ud hk
    have h1:m.Bases[k+1]? =some m.Bases[k+1]:=Ajs (by omega)
    have h2:m.Bases[k]? =some m.Bases[k]:=Ajs (by omega)
    have e1:Dl m.Bases ((k:Int)+1)=some m.Bases[k+1]:=Rt (by omega) h1
    have e2:Dl m.Bases (IntKind.i64.wrap ((k:Int)+1 - 1))=some m.Bases[k]:=Rt (by rw[wrap_i64]<;>omega) h2
    simp only[Ed,e1,e2,Option.bind_some]
    by_cases hle:m.Bases[k+1]≤m.Bases[k]
    ·rw[Ajq hle]
     exact .inr ⟨rfl,fun h=>by have:=h _ _ h1 h2;omega⟩
    ·rw[Ajr hle]
     refine .inl ⟨rfl,fun x y hx hy=>?_⟩
     rw[h1]at hx;rw[h2]at hy
     obtain rfl:=Option.some.inj hx;obtain rfl:=Option.some.inj hy
     omega)
  have e:(∀ (k:Nat) (u:Unit),(List.replicate (m.Bases.length - 1) ())[k]? =some u→∀ x y,m.Bases[k+1]? =some x→m.Bases[k]? =some y→y<x)↔Ll (fun b:Int=>b) m.Bases:=by
    constructor
    ·intro h k x y hx hy
     have:=(List.getElem?_eq_some_iff.1 hx).1
     exact h k () (by rw[List.getElem?_replicate,if_pos (by omega)]) x y hx hy
    ·intro h k _ _ x y hx hy
     exact h k x y hx hy
  rwa [e]at h
theorem jX (m:Bd) (hl:m.Bases.length≤64):∃ r,Tu m=some r∧Qv m=some r∧(r=0↔m.Bases≠[]∧(∀ b∈m.Bases,(Cw m b).2=true)∧Ll (fun b:Int=>b) m.Bases):=by
  unfold Tu Qv
  by_cases h0:m.Bases=[]
  ·exact⟨8,by simp[h0],by simp[h0],by simp[h0]⟩
  have hlen:¬ ((m.Bases.length:Nat):Int)=0:=by
    have:=List.length_pos_iff.2 h0;omega
  rw[Ajr hlen,cond_false,cond_false]
  have e1:Am (Oz m) 0 m.Bases ()=Am (Fq m) 0 m.Bases ():=rfl
  rw[e1]
  rcases Aav m with⟨h1,h2⟩ | ⟨h1,h2⟩
  case inr=>exact ⟨8,by rw[h1];rfl,by rw[h1];rfl,by simp[h2]⟩
  rcases Aau m hl with⟨h3,h4⟩ | ⟨h3,h4⟩
  ·rcases tO m hl with⟨h5,h6⟩ | ⟨h5,h6⟩
   ·refine⟨0,?_,?_,fun _=>⟨h0,h2,h4⟩,fun _=>rfl⟩
    ·rw[h1];show((Am (Hg m) 0 m.Bases ()).bind fun o=>o.on fun _=>some 0)=_;rw[h3];rfl
    ·rw[h1];show((Kc (Ed m) (m.Bases.length - 1) ()).bind fun o=>o.on fun _=>some 0)=_;rw[h5];rfl
   ·exact absurd h4 h6
  ·rcases tO m hl with⟨h5,h6⟩ | ⟨h5,h6⟩
   ·exact absurd h6 h4
   ·refine⟨7,?_,?_,fun h=>by omega,fun h=>absurd h.2.2 h4⟩
    ·rw[h1];show((Am (Hg m) 0 m.Bases ()).bind fun o=>o.on fun _=>some 0)=_;rw[h3];rfl
    ·rw[h1];show((Kc (Ed m) (m.Bases.length - 1) ()).bind fun o=>o.on fun _=>some 0)=_;rw[h5];rfl
theorem wM (m:Bd) (a b:Int):Gk m a b=some (if(Cw m a).2=false then 8 else if(Cw m b).2=false then 8 else if(Cw m b).1.Alt≤(Cw m a).1.Alt then 11 else 0):=by
  unfold Gk
  simp only[G0,Option.bind_some]
  cases(Cw m a).2<;>cases (Cw m b).2<;>simp
  by_cases h:(Cw m b).1.Alt≤(Cw m a).1.Alt
  ·simp[h]
  ·simp[h]
theorem eT (m:Bd) (a b:Int) (good:Option (Out Unit Int)):((Gk m a b).bind fun y=>bif decide (y≠0)then some (Out.ret y)else good)=leads m a b good:=by
  rw[wM]
  unfold leads
  cases(Cw m a).2
  ·rfl
  cases(Cw m b).2
  ·rfl
  show(bif decide ((if(Cw m b).1.Alt≤(Cw m a).1.Alt then(11:Int)else 0)≠0)then some (Out.ret (if(Cw m b).1.Alt≤(Cw m a).1.Alt then(11:Int)else 0))else good)=bif decide ((Cw m b).1.Alt≤(Cw m a).1.Alt)then some (Out.ret 11)else good
  by_cases h:(Cw m b).1.Alt≤(Cw m a).1.Alt
  ·rw[if_pos h,Ajq h];rfl
  ·rw[if_neg h,Ajr h];rfl
theorem xW (x:Ce) (good:Option (Out Unit Int)):((Hq x).bind fun y=>bif !y then some (Out.ret 1)else good)=carr x good:=by
  unfold Hq carr
  simp only[xE]
  by_cases hs:x.Spacing=0
  ·simp[nz,hs]
  rw[iE hs,iE hs,iE hs,iE hs]
  by_cases h:(IntKind.i64.wrap (2*x.Length)).tmod x.Spacing=0
  ·have e1:decide ((IntKind.i64.wrap (2*x.Length)).tmod x.Spacing=0)=true:=Ajq h
   have e2:decide ((IntKind.i64.wrap (2*x.Length)).tmod x.Spacing≠0)=false:=Ajr (by simpa using h)
   rw[e1,e2];rfl
  ·have e1:decide ((IntKind.i64.wrap (2*x.Length)).tmod x.Spacing=0)=false:=Ajr h
   have e2:decide ((IntKind.i64.wrap (2*x.Length)).tmod x.Spacing≠0)=true:=Ajq h
   rw[e1,e2];rfl
theorem iA (m:Bd):Qu m=P7 m:=by
  have h:K8 m=Hf m:=by
    funext k x u
    simp only[K8,xE,Option.bind_some,eT,xW,Hf,Lo,Rz,G0]
    rfl
  unfold Qu P7
  rw[h]
theorem j1 (m:Bd):Se m=Rm m:=by
  have hlead:∀ (a b:Int) (good:Option (Out Unit Int)),(bif !(Cw m b).2 then some (.ret 8)else bif !(Cw m a).2 then some (.ret 8)else bif decide ((Cw m b).1.Alt≤(Cw m a).1.Alt)then some (.ret 11)else good)=leads m a b good:=by
    intro a b good
    unfold leads
    cases(Cw m a).2<;>cases (Cw m b).2<;>rfl
  have h:Mv m=I5 m:=by
    funext k x u
    simp only[Mv,xE,Option.bind_some,eT,I5,Rz,G0,hlead]
  unfold Se Rm
  rw[h]
theorem Wu (m:Bd):∃ r,gP m=some r∧Ij m=some r∧(r=0↔Lm m):=by
  unfold gP Ij
  by_cases h1:(64:Int)<((m.Nodes.length:Nat):Int)
  ·rw[Ajq h1];exact⟨4,rfl,rfl,fun h=>by omega,fun h=>by have:=h.lenN;omega⟩
  by_cases h2:(32:Int)<((m.Lifts.length:Nat):Int)
  ·rw[Ajr h1,Ajq h2];exact⟨4,rfl,rfl,fun h=>by omega,fun h=>by have:=h.lenL;omega⟩
  by_cases h3:(64:Int)<((m.Runs.length:Nat):Int)
  ·rw[Ajr h1,Ajr h2,Ajq h3];exact⟨4,rfl,rfl,fun h=>by omega,fun h=>by have:=h.lenR;omega⟩
  by_cases h4:(64:Int)<((m.Bases.length:Nat):Int)
  ·rw[Ajr h1,Ajr h2,Ajr h3,Ajq h4];exact⟨4,rfl,rfl,fun h=>by omega,fun h=>by have:=h.lenB;omega⟩
  rw[Ajr h1,Ajr h2,Ajr h3,Ajr h4]
  obtain⟨r1,e1,i1⟩:=jV m (by omega)
  obtain⟨r2,e2,i2⟩:=jW m (by omega)
  obtain⟨r3,e3,i3⟩:=l5 m (by omega)
  obtain⟨r4,e4,e4',i4⟩:=jX m (by omega)
  simp only[cond_false,hZ,iA,j1,e1,e2,e3,e4,e4',Option.bind_some]
  by_cases z1:r1=0
  case neg=>rw[Ajq z1];exact⟨r1,rfl,rfl,fun h=>absurd h z1,fun h=>absurd (i1.2 ⟨h.nodes,h.nodesR⟩) z1⟩
  by_cases z2:r2=0
  case neg=>rw[Ajr (by simpa using z1),Ajq z2];exact⟨r2,rfl,rfl,fun h=>absurd h z2,fun h=>absurd (i2.2 ⟨h.lifts,h.liftsR⟩) z2⟩
  by_cases z3:r3=0
  case neg=>rw[Ajr (by simpa using z1),Ajr (by simpa using z2),Ajq z3];exact⟨r3,rfl,rfl,fun h=>absurd h z3,fun h=>absurd (i3.2 ⟨h.runs,h.runsR⟩) z3⟩
  rw[Ajr (by simpa using z1),Ajr (by simpa using z2),Ajr (by simpa using z3)]
  refine⟨r4,rfl,rfl,fun h=>?_,fun h=>i4.2 ⟨h.some,h.bases,h.basesR⟩⟩
  have g1:=i1.1 z1;have g2:=i2.1 z2;have g3:=i3.1 z3;have g4:=i4.1 h
  exact⟨by omega,by omega,by omega,by omega,g1.1,g1.2,g2.1,g2.2,g3.1,g3.2,g4.1,g4.2.1,g4.2.2⟩
theorem qX (m:Bd):∃ r,Ij m=some r∧(r=0↔Lm m):=by
  obtain⟨r,_,h1,h2⟩:=Wu m
  exact⟨r,h1,h2⟩
theorem gG (l:List Int) (n:Int):Px l n=some (decide (n∈l)):=Xe fun k x hx=>rfl
theorem put_eq {l:List Int} (h:Inc l) (hl:l.length≤100000000) (n:Int):∃ r,Pw l n=some r∧Inc r∧(∀ x,x∈r↔x∈l∨x=n):=by
  have hpw:=List.pairwise_iff_getElem.1 h
  obtain⟨s,h1,h2,h3,h4,h5,h6⟩:=Dv (ρ:=List Int) (step:=O0 n) (l:=l) (s:=(false,[])) (fun k s=>Inc s.2∧(∀ y∈s.2,(y∈l.take k∨(y=n∧∀ z∈l.drop k,n<z)))∧(∀ x,x∈s.2↔x∈l.take k∨(s.1=true∧x=n))∧(s.1=false→∀ x∈l.take k,x<n)∧s.2.length≤k+1)
    ⟨List.Pairwise.nil,by simp,by simp,by simp,by simp⟩ (fun k x s hk ⟨i1,i2,i3,i4,i5⟩=>by
      obtain⟨d,o⟩:=s
      simp only at i1 i2 i3 i4 i5
      have hlt:=(List.getElem?_eq_some_iff.1 hk).1
      have hx:l[k]=x:=(List.getElem?_eq_some_iff.1 hk).2
      have tk:∀ y∈l.take k,y<x:=fun y hy=>by
        obtain⟨i,hi,rfl⟩:=List.getElem_of_mem hy
        rw[List.length_take]at hi
        rw[List.getElem_take,← hx]
        exact hpw i k (by omega) hlt (by omega)
      have dk:l.drop k=x::l.drop (k+1):=by rw[List.drop_eq_getElem_cons hlt,hx]
      have dk1:∀ z∈l.drop (k+1),x<z:=fun z hz=>by
        obtain⟨i,hi,rfl⟩:=List.getElem_of_mem hz
        rw[List.length_drop]at hi
        rw[List.getElem_drop,← hx]
        exact hpw k (k+1+i) hlt (by omega) (by omega)
      have ts:=B3 hk
      have olt:∀ y∈o,(d=true→y<x)∧(d=false→y<x∧y<n):=fun y hy=>by
        refine⟨fun _=>?_,fun hd=>?_⟩
        ·rcases i2 y hy with h | ⟨rfl,h⟩
         ·exact tk y h
         ·exact h x (by rw[dk];simp)
        ·rcases(i3 y).1 hy with h | ⟨h,_⟩
         ·exact⟨tk y h,i4 hd y h⟩
         ·rw[hd]at h;cases h
      have app:∀ {o:List Int} {z:Int},Inc o→(∀ y∈o,y<z)→Inc (o++[z]):=fun ho hz=>by
        unfold Inc
        rw[List.pairwise_append]
        refine⟨ho,by simp,fun a ha b hb=>?_⟩
        simp at hb;subst hb;exact hz a ha
      unfold O0
      simp only
      cases d with
      | true=>
        simp only[Bool.not_true,cond_false]
        rw[Cj (by omega)]
        refine⟨_,rfl,app i1 fun y hy=>(olt y hy).1 rfl,fun y hy=>?_,fun y=>?_,(fun h=>by cases h),by simp;omega⟩
        ·rw[ts]
         rcases List.mem_append.1 hy with hy | hy
         ·rcases i2 y hy with h | ⟨h,h'⟩
          ·exact .inl (List.mem_append.2 (.inl h))
          ·exact .inr ⟨h,fun z hz=>h' z (by rw[dk];exact List.mem_cons_of_mem _ hz)⟩
         ·exact .inl (List.mem_append.2 (.inr hy))
        ·simp only[ts,List.mem_append,i3,List.mem_singleton]
         constructor
         ·rintro((h | h) | h)
          ·exact .inl (.inl h)
          ·exact .inr h
          ·exact .inl (.inr h)
         ·rintro((h | h) | h)
          ·exact .inl (.inl h)
          ·exact .inr h
          ·exact .inl (.inr h)
      | false=>
        simp only[Bool.not_false,cond_true]
        have hok:o.length≤k:=by
          have:=Jq i1.nodup (b:=l.take k) fun z hz=>by
            rcases(i3 z).1 hz with h | ⟨h,_⟩
            ·exact h
            ·cases h
          rw[List.length_take]at this;omega
        by_cases c1:n≤x
        ·rw[Ajq c1,cond_true]
         by_cases c2:n<x
         ·rw[Ajq c2,cond_true,Cj (by omega),Cj (by omega)]
          refine⟨_,rfl,app (app i1 fun y hy=>((olt y hy).2 rfl).2) fun y hy=>?_,fun y hy=>?_,fun y=>?_,(fun h=>by cases h),by simp;omega⟩
          ·rcases List.mem_append.1 hy with hy | hy
           ·exact((olt y hy).2 rfl).1
           ·simp at hy;subst hy;exact c2
          ·rw[ts]
           simp only[List.mem_append,List.mem_singleton]at hy ⊢
           rcases hy with(hy | hy) | hy
           ·rcases i2 y hy with h | ⟨h,h'⟩
            ·exact .inl (.inl h)
            ·exact .inr ⟨h,fun z hz=>h' z (by rw[dk];exact List.mem_cons_of_mem _ hz)⟩
           ·exact .inr ⟨hy,fun z hz=>by have:=dk1 z hz;omega⟩
           ·exact .inl (.inr hy)
          ·simp only[ts,List.mem_append,i3,List.mem_singleton]
           constructor
           ·rintro(((h | ⟨h,_⟩) | h) | h)
            ·exact .inl (.inl h)
            ·cases h
            ·exact .inr ⟨trivial,h⟩
            ·exact .inl (.inr h)
           ·rintro((h | h) | ⟨_,h⟩)
            ·exact .inl (.inl (.inl h))
            ·exact .inr h
            ·exact .inl (.inr h)
         ·have e:x=n:=by omega
          rw[Ajr c2,cond_false,Cj (by omega)]
          refine⟨_,rfl,app i1 fun y hy=>((olt y hy).2 rfl).1,fun y hy=>?_,fun y=>?_,(fun h=>by cases h),by simp;omega⟩
          ·rw[ts]
           simp only[List.mem_append,List.mem_singleton]at hy ⊢
           rcases hy with hy | hy
           ·rcases i2 y hy with h | ⟨h,h'⟩
            ·exact .inl (.inl h)
            ·exact .inr ⟨h,fun z hz=>h' z (by rw[dk];exact List.mem_cons_of_mem _ hz)⟩
           ·exact .inl (.inr hy)
          ·simp only[ts,List.mem_append,i3,List.mem_singleton]
           constructor
           ·rintro((h | ⟨h,_⟩) | h)
            ·exact .inl (.inl h)
            ·cases h
            ·exact .inl (.inr h)
           ·rintro((h | h) | ⟨_,h⟩)
            ·exact .inl (.inl h)
            ·exact .inr h
            ·exact .inr (by rw[e];exact h)
        ·rw[Ajr c1,cond_false,Cj (by omega)]
         refine⟨_,rfl,app i1 fun y hy=>((olt y hy).2 rfl).1,fun y hy=>?_,fun y=>?_,fun _ y hy=>?_,by simp;omega⟩
         ·rw[ts]
          simp only[List.mem_append,List.mem_singleton]at hy ⊢
          rcases hy with hy | hy
          ·rcases i2 y hy with h | ⟨h,h'⟩
           ·exact .inl (.inl h)
           ·exact .inr ⟨h,fun z hz=>h' z (by rw[dk];exact List.mem_cons_of_mem _ hz)⟩
          ·exact .inl (.inr hy)
         ·simp only[ts,List.mem_append,i3,List.mem_singleton]
          constructor
          ·rintro((h | ⟨h,_⟩) | h)
           ·exact .inl (.inl h)
           ·cases h
           ·exact .inl (.inr h)
          ·rintro((h | h) | ⟨h,_⟩)
           ·exact .inl (.inl h)
           ·exact .inr h
           ·cases h
         ·rw[ts]at hy
          rcases List.mem_append.1 hy with hy | hy
          ·exact i4 rfl y hy
          ·simp at hy;subst hy;omega)
  rw[List.take_length]at h4 h5
  unfold Pw
  rw[h1]
  show ∃ r,(bif (!s.1)then _ else _)=some r∧_
  cases hd:s.1 with
  | true=>
    refine⟨s.2,rfl,h2,fun x=>?_⟩
    rw[h4,hd];simp
  | false=>
    rw[Bool.not_false,cond_true,Cj (by omega)]
    refine⟨_,rfl,?_,fun x=>?_⟩
    ·unfold Inc
     rw[List.pairwise_append]
     refine⟨h2,by simp,fun a ha b hb=>?_⟩
     simp at hb;subst hb
     rcases(h4 a).1 ha with h | ⟨h,_⟩
     ·exact h5 hd a h
     ·rw[hd]at h;cases h
    ·simp only[List.mem_append,List.mem_singleton,h4,hd];simp
theorem Aag {l r:List Int} {n:Int} (h:Inc l) (hr:Inc r) (hm:∀ x,x∈r↔x∈l∨x=n) (hn:n∈l):r=l:=
  Rs hr h fun x=>by rw[hm];exact⟨fun h=>h.elim id fun h=>h ▸ hn,.inl⟩
theorem yN {l r:List Int} {n:Int} (h:Inc l) (hr:Inc r) (hm:∀ x,x∈r↔x∈l∨x=n) (hn:n ∉ l):r.length=l.length+1:=by
  have h1:(n::l).Nodup:=List.nodup_cons.2 ⟨hn,h.nodup⟩
  have a:=Jq h1 (b:=r) fun x hx=>by rw[hm];rcases List.mem_cons.1 hx with h | h;exact .inr h;exact .inl h
  have b:=Jq hr.nodup (b:=n::l) fun x hx=>by rcases(hm x).1 hx with h | h;exact List.mem_cons_of_mem _ h;exact h ▸ List.mem_cons_self
  simp at a b;omega
theorem nY {l:List Ar} {f out:List Int} (h:Inc out) (hr:∀ n∈out,Rch l (·∈f) n) (hC:(f++l.map (·.To)).length≤1000000) :
    ∃ s,Am Hr 0 l out=some (.next s)∧Inc s∧(∀ n∈s,Rch l (·∈f) n)∧(∀ n∈out,n∈s)∧((s=out∧∀ e∈l,e.From∈out→e.To∈out)∨out.length<s.length):=by
  obtain⟨s,h1,h2,h3,h4,h5⟩:=Dv (ρ:=Out (List Int×Int) (List Int)) (step:=Hr) (l:=l) (s:=out) (fun k s=>Inc s∧(∀ n∈s,Rch l (·∈f) n)∧(∀ n∈out,n∈s)∧((s=out∧∀ e∈l.take k,e.From∈out→e.To∈out)∨out.length<s.length))
    ⟨h,hr,fun n h=>h,.inl ⟨rfl,by simp⟩⟩ (fun k e s hk ⟨i1,i2,i3,i4⟩=>by
      have he:=Ajt hk
      unfold Hr
      rw[gG,Option.bind_some]
      have hlen:s.length≤1000000:=Nat.le_trans (Jq i1.nodup fun n hn=>R5 (i2 n hn)) hC
      by_cases hf:e.From∈s
      ·obtain⟨r,g1,g2,g3⟩:=put_eq i1 (by omega) e.To
       rw[Ajq hf,cond_true,g1]
       refine⟨r,rfl,g2,fun n hn=>?_,fun n hn=>(g3 n).2 (.inl (i3 n hn)),?_⟩
       ·rcases(g3 n).1 hn with h | rfl
        ·exact i2 n h
        ·exact .step he (i2 _ hf)
       ·by_cases ht:e.To∈s
        ·obtain rfl:=Aag i1 g2 g3 ht
         rcases i4 with⟨rfl,h⟩ | h
         ·refine .inl ⟨rfl,fun x hx=>?_⟩
          rw[B3 hk]at hx
          rcases List.mem_append.1 hx with hx | hx
          ·exact h x hx
          ·simp at hx;subst hx;exact fun _=>ht
         ·exact .inr h
        ·have:=yN i1 g2 g3 ht
         refine .inr ?_
         rcases i4 with⟨rfl,_⟩ | h<;>omega
      ·rw[Ajr hf,cond_false]
       refine⟨s,rfl,i1,i2,i3,?_⟩
       rcases i4 with⟨rfl,h⟩ | h
       ·refine .inl ⟨rfl,fun x hx=>?_⟩
        rw[B3 hk]at hx
        rcases List.mem_append.1 hx with hx | hx
        ·exact h x hx
        ·simp at hx;subst hx;exact fun h=>absurd h hf
       ·exact .inr h)
  rw[List.take_length]at h5
  exact⟨s,h1,h2,h3,h4,h5⟩
theorem kO {l:List Ar} {f:List Int} (hl:l.length≤100000) (hf:f.length≤100000):∃ r,Ld l f=some r∧Qh l f r:=by
  have hC:(f++l.map (·.To)).length≤1000000:=by simp;omega
  obtain⟨s,h1,h2,h3⟩:=Dv (ρ:=List Int) (step:=Lb) (l:=f) (s:=[]) (fun k s=>Inc s∧∀ x,x∈s↔x∈f.take k) ⟨List.Pairwise.nil,by simp⟩ (fun k x s hk ⟨i1,i2⟩=>by
    have hlen:s.length≤100000:=Nat.le_trans (Jq i1.nodup (b:=f) fun n hn=>List.mem_of_mem_take ((i2 n).1 hn)) hf
    obtain⟨r,g1,g2,g3⟩:=put_eq i1 (by omega) x
    refine⟨r,by unfold Lb;rw[g1];rfl,g2,fun y=>?_⟩
    rw[g3,i2,B3 hk];simp)
  rw[List.take_length]at h3
  have s1:∀ n∈s,Rch l (·∈f) n:=fun n hn=>.base ((h3 n).1 hn)
  unfold Ld
  rw[h1]
  show ∃ r,La l s=some r∧_
  unfold La
  have hlen:∀ o:List Int,Inc o→(∀ n∈o,Rch l (·∈f) n)→o.length≤1000000:=fun o ho hr=>Nat.le_trans (Jq ho.nodup fun n hn=>R5 (hr n hn)) hC
  obtain⟨r,g1,g2⟩:=Ik (step:=Lc l) (fun st=>Inc st.1∧(∀ n∈st.1,Rch l (·∈f) n)∧(∀ n∈f,n∈st.1)∧st.2≤(st.1.length:Int)∧(st.2=(st.1.length:Int)→∀ e∈l,e.From∈st.1→e.To∈st.1)) (fun r=>Qh l f r)
    (fun st=>2*(1000000 - st.1.length)+if st.2<(st.1.length:Int)then 1 else 0) (fun st ⟨i1,i2,i3,i4,i5⟩=>by
      obtain⟨o,w⟩:=st
      simp only at i1 i2 i3 i4 i5 ⊢
      unfold Lc
      simp only
      by_cases hw:w<(o.length:Int)
      ·obtain⟨s,e1,e2,e3,e4,e5⟩:=nY i1 i2 hC
       rw[Ajq hw,cond_true,e1]
       have:=hlen s e2 e3
       have:=hlen o i1 i2
       refine .inl ⟨_,rfl,⟨e2,e3,fun n hn=>e4 n (i3 n hn),?_,fun hh=>?_⟩,?_⟩
       ·simp only
        rcases e5 with⟨rfl,_⟩ | h<;>omega
       ·rcases e5 with⟨rfl,h⟩ | h
        ·exact h
        ·simp only at hh;omega
       ·simp only
        rw[if_pos hw]
        rcases e5 with⟨rfl,_⟩ | h
        ·rw[if_neg (by omega)];omega
        ·rw[if_pos (by omega)];omega
      ·rw[Ajr hw,cond_false]
       exact .inr ⟨o,rfl,.of_closed i1 i2 i3 (i5 (by omega))⟩) fuel (s, -1) ⟨h2,s1,fun n hn=>(h3 n).2 hn,by simp only;omega,fun h=>by simp only at h;omega⟩ (by show _<1099511627776;simp only;split<;>omega)
  rw[g1]
  exact⟨r,rfl,g2⟩
theorem q9 {l:List Ar} (hl:l.length≤100000):L0 l=some (turn l):=by
  unfold L0
  rw[C4 (step:=M7) (fun _=>true) aJ (by omega) (fun k x s hx=>rfl),List.filter_eq_self.2 (fun a _=>rfl)];rfl
theorem wQ {l:List Ar} {f:List Int} (hl:l.length≤100000) (hf:f.length≤100000):∃ r,Sh l f=some r∧Qh (turn l) f r:=by
  obtain⟨r,h1,h2⟩:=kO (l:=turn l) (f:=f) (by simpa[turn]using hl) hf
  refine⟨r,?_,h2⟩
  unfold Sh
  rw[q9 hl,Option.bind_some,h1];rfl
theorem contains_eq (l:List Int) (v:Int):Bt l v=some (decide (v∈l)):=by
  unfold Bt F9
  rcases Fb (step:=Dw v) (l:=l) (s:=()) (fun k _=>v ∉ l.take k) (fun r=>v∈l∧0≤r) (by simp) (fun k x u hk hI=>by
    unfold Dw
    by_cases e:v=x
    ·rw[Ajq e];exact .inr ⟨_,rfl,e ▸ Ajt hk,by omega⟩
    ·rw[Ajr e]
     refine .inl ⟨(),rfl,?_⟩
     rw[B3 hk];simp[hI,e])with ⟨u,h1,h2⟩ | ⟨r,h1,h2,h3⟩
  ·rw[List.take_length]at h2
   rw[h1,Ajr h2];rfl
  ·rw[h1,Ajq h2]
   show some (decide (0≤r))=some true
   rw[Ajq h3]
def yH (x:Cf):Ar:=⟨x.ID,x.From,x.To,x.Length⟩
def tA (x:Ce):Ar:=⟨x.ID,x.From,x.To,x.Length⟩
def Sr (m:Bd) (runs:List Int):List Ar:=(m.Runs.filter fun x=>decide (x.ID∈runs)).map yH
def upE (m:Bd) (lifts:List Int):List Ar:=(m.Lifts.filter fun x=>decide (x.ID∈lifts)).map tA
theorem uP {m:Bd} {runs:List Int} {e:Ar}:e∈Sr m runs↔∃ x∈m.Runs,x.ID∈runs∧yH x=e:=by
  unfold Sr
  simp only[List.mem_map,List.mem_filter,decide_eq_true_eq,and_assoc]
theorem mH {m:Bd} {lifts:List Int} {e:Ar}:e∈upE m lifts↔∃ x∈m.Lifts,x.ID∈lifts∧tA x=e:=by
  unfold upE
  simp only[List.mem_map,List.mem_filter,decide_eq_true_eq,and_assoc]
theorem gH {m:Bd} (M:Lm m) {n:Int} (h:(Cw m n).2=true):1≤n∧n≤9999:=by
  obtain⟨h1,h2⟩:=Zz h
  have:=(M.nodes _ h1).1
  rw[h2]at this;exact this
theorem jH {m:Bd} (M:Lm m) {runs:List Int} {e:Ar} (h:e∈Sr m runs):(Cw m e.From).2=true∧(Cw m e.To).2=true∧10≤e.Cost∧e.Cost≤20000:=by
  obtain⟨x,hx,_,rfl⟩:=uP.1 h
  have:=M.runs x hx
  exact⟨this.2.2.1,this.2.1,this.1.2.2.2.2.1,this.1.2.2.2.2.2⟩
theorem vZ {m:Bd} (M:Lm m) {lifts:List Int} {e:Ar} (h:e∈upE m lifts):(Cw m e.From).2=true∧(Cw m e.To).2=true:=by
  obtain⟨x,hx,_,rfl⟩:=mH.1 h
  have:=M.lifts x hx
  exact⟨this.2.1.1,this.2.1.2.1⟩
theorem bM {m:Bd} (M:Lm m) (runs:List Int):(Sr m runs).length≤64:=by
  unfold Sr;rw[List.length_map];exact Nat.le_trans (List.length_filter_le _ _) M.lenR
theorem Aad {m:Bd} (M:Lm m) (lifts:List Int):(upE m lifts).length≤32:=by
  unfold upE;rw[List.length_map];exact Nat.le_trans (List.length_filter_le _ _) M.lenL
theorem tI {m:Bd} (M:Lm m) (runs:List Int):Il m runs=some (Sr m runs):=by
  have:=M.lenR
  unfold Il
  rw[C4 (fun x=>decide (x.ID∈runs)) yH (by omega) (fun k x s hx=>by unfold M4;rw[contains_eq];rfl)];rfl
theorem nV {m:Bd} (M:Lm m) (runs:List Int):Nm m runs=some (Sr m runs):=by
  have:=M.lenR
  unfold Nm
  rw[C4 (fun x=>decide (x.ID∈runs)) yH (by omega) (fun k x s hx=>by unfold Qe;rw[gG];rfl)];rfl
theorem Aa4 {m:Bd} (M:Lm m) (lifts:List Int):Pp m lifts=some (upE m lifts):=by
  have:=M.lenL
  unfold Pp
  rw[C4 (fun x=>decide (x.ID∈lifts)) tA (by omega) (fun k x s hx=>by unfold P8;rw[contains_eq];rfl)];rfl
def J1 (a b:List Ar):Prop:=a.map (fun e=>(e.From,e.To))=b.map (fun e=>(e.From,e.To))
theorem J1.rch {a b:List Ar} (h:J1 a b) {S:Int→Prop} {n:Int} (hr:Rch a S n):Rch b S n:=by
  induction hr with
  | base h=>exact .base h
  | @step e he _ ih=>
    have:(e.From,e.To)∈a.map fun e=>(e.From,e.To):=List.mem_map.2 ⟨e,he,rfl⟩
    rw[h]at this
    obtain⟨e',he',hh⟩:=List.mem_map.1 this
    rw[Prod.mk.injEq]at hh
    rw[← hh.2]
    exact .step he' (by rw[hh.1];exact ih)
theorem J1.turn {a b:List Ar} (h:J1 a b):J1 (turn a) (turn b):=by
  unfold J1 Proofs.YtjopghiagoidgaaGreat.turn at *
  rw[List.map_map,List.map_map]
  have e:∀ l:List Ar,l.map ((fun e:Ar=>(e.From,e.To))∘aJ)=(l.map fun e=>(e.From,e.To)).map Prod.swap:=fun l=>by rw[List.map_map];rfl
  rw[e,e,h]
theorem dQ (l s:List Ar) (hl:s.length+l.length≤100000):∃ s',Am Ln 0 l s=some (.next s')∧J1 s' (s++l):=by
  obtain⟨s',h1,h2⟩:=Dv (ρ:=Out (List Ar) (List Ar)) (step:=Ln) (l:=l) (s:=s) (fun k t=>J1 t (s++l.take k)) (by simp[J1]) (fun k e t hk hI=>by
    have hlt:=(List.getElem?_eq_some_iff.1 hk).1
    have hlen:=congrArg List.length hI
    simp at hlen
    refine⟨_,by unfold Ln;rw[Cj (by omega)],?_⟩
    unfold J1 at *
    rw[B3 hk,← List.append_assoc,List.map_append,List.map_append,hI];rfl)
  rw[List.take_length]at h2
  exact⟨s',h1,h2⟩
theorem J1.len {a b:List Ar} (h:J1 a b):a.length=b.length:=by
  have:=congrArg List.length h;simpa using this
theorem Abl {a b:List Ar} (ha:a.length≤1000) (hb:b.length≤1000):∃ r,Nr [a,b]=some r∧J1 r (a++b):=by
  obtain⟨s1,h1,h2⟩:=dQ a [] (by simp;omega)
  have l1:=h2.len
  simp at l1
  obtain⟨s2,h3,h4⟩:=dQ b s1 (by omega)
  refine⟨s2,?_,?_⟩
  ·unfold Nr Am Ob
   rw[h1]
   simp only[Option.bind_some,Out.on,Out.cont,Am,h3]
  ·unfold J1 at *
   rw[h4,List.map_append,h2,List.nil_append,List.map_append]
theorem Abm {a:List Ar} (ha:a.length≤1000):∃ r,Nr [a]=some r∧J1 r a:=by
  obtain⟨s1,h1,h2⟩:=dQ a [] (by simp;omega)
  refine⟨s1,?_,by simpa using h2⟩
  unfold Nr Am Ob
  rw[h1];rfl
def RR (m:Bd) (lifts runs:List Int) (n:Int):Prop:=Rch (upE m lifts++Sr m runs) (·∈m.Bases) n
def HH (m:Bd) (runs:List Int) (n:Int):Prop:=Rch (turn (Sr m runs)) (·∈m.Bases) n
structure Wa (P:Int→Prop) (r:List Int):Prop where
  inc:Inc r
  mem:∀ n,n∈r↔P n
theorem Wa.unique {P:Int→Prop} {r r':List Int} (h:Wa P r) (h':Wa P r'):r=r':=Rs h.inc h'.inc fun n=>by rw[h.mem,h'.mem]
theorem tN {m:Bd} (M:Lm m):∀ n∈m.Bases,I64 n:=fun n hn=>by have:=gH M (M.bases n hn);exact⟨by omega,by omega⟩
theorem mA {m:Bd} (M:Lm m) (lifts runs:List Int):∃ r,He m lifts runs=some r∧Wa (RR m lifts runs) r:=by
  have hb:=M.lenB
  have h1:=Aad M lifts
  have h2:=bM M runs
  obtain⟨j,e1,e2⟩:=Abl (a:=upE m lifts) (b:=Sr m runs) (by omega) (by omega)
  have hl:=e2.len
  rw[List.length_append]at hl
  obtain⟨r,e3,e4⟩:=nU (l:=j) (f:=m.Bases) (by omega) (by omega) (fun e he=>by
    have:(e.From,e.To)∈j.map fun e=>(e.From,e.To):=List.mem_map.2 ⟨e,he,rfl⟩
    rw[e2]at this
    obtain⟨e',he',hh⟩:=List.mem_map.1 this
    rw[Prod.mk.injEq]at hh
    rw[← hh.2]
    rcases List.mem_append.1 he' with he' | he'
    ·have:=gH M (vZ M he').2;exact⟨by omega,by omega⟩
    ·have:=gH M (jH M he').2.1;exact⟨by omega,by omega⟩) (tN M)
  refine⟨r,?_,e4.inc,fun n=>?_⟩
  ·unfold He
   rw[Aa4 M,Option.bind_some,tI M,Option.bind_some,e1,Option.bind_some,e3];rfl
  ·rw[e4.mem];exact⟨fun h=>e2.rch h,fun h=>J1.rch e2.symm h⟩
theorem jU {m:Bd} (M:Lm m) (lifts runs:List Int):∃ r,Jg m lifts runs=some r∧Wa (RR m lifts runs) r:=by
  have hb:=M.lenB
  have hL:=M.lenL
  have h2:=bM M runs
  obtain⟨s,g1,g2⟩:=Dv (ρ:=List Int) (step:=F2 lifts) (l:=m.Lifts) (s:=Sr m runs) (fun k s=>s=Sr m runs++((m.Lifts.take k).filter fun x=>decide (x.ID∈lifts)).map fun x=>Ar.mk 0 x.From x.To 0) (by simp) (fun k x s hk hI=>by
    have hlt:=(List.getElem?_eq_some_iff.1 hk).1
    have hlen:s.length≤1000:=by
      rw[hI,List.length_append,List.length_map]
      have:=List.length_filter_le (fun x:Ce=>decide (x.ID∈lifts)) (m.Lifts.take k)
      rw[List.length_take]at this;omega
    unfold F2
    rw[gG,Option.bind_some]
    by_cases hx:x.ID∈lifts
    ·rw[Ajq hx,cond_true,Cj (by omega)]
     refine⟨_,rfl,?_⟩
     rw[B3 hk,List.filter_append,List.filter_cons_of_pos (by simpa using hx),List.filter_nil,List.map_append,hI];simp
    ·rw[Ajr hx,cond_false]
     refine⟨_,rfl,?_⟩
     rw[B3 hk,List.filter_append,List.filter_cons_of_neg (by simpa using hx),List.filter_nil,List.append_nil,hI])
  rw[List.take_length]at g2
  have hlen:s.length≤1000:=by
    rw[g2,List.length_append,List.length_map]
    have:=List.length_filter_le (fun x:Ce=>decide (x.ID∈lifts)) m.Lifts
    omega
  obtain⟨r,e3,e4⟩:=kO (l:=s) (f:=m.Bases) (by omega) (by omega)
  refine⟨r,?_,e4.inc,fun n=>?_⟩
  ·unfold Jg
   rw[nV M,Option.bind_some,Cj (by omega),g1]
   show(Ld s m.Bases).bind _=_
   rw[e3];rfl
  ·rw[e4.mem]
   constructor
   ·intro h
    refine J1.rch (a:=upE m lifts++Sr m runs) rfl ?_
    induction h with
    | base h=>exact .base h
    | step he _ ih=>
      rw[g2]at he
      rcases List.mem_append.1 he with he | he
      ·exact .step (List.mem_append.2 (.inr he)) ih
      ·obtain⟨x,hx,rfl⟩:=List.mem_map.1 he
       have hx:=List.mem_filter.1 hx
       exact Rch.step (e:=tA x) (List.mem_append.2 (.inl (mH.2 ⟨x,hx.1,by simpa using hx.2,rfl⟩))) ih
   ·intro h
    unfold RR at h
    induction h with
    | base h=>exact .base h
    | step he _ ih=>
      rcases List.mem_append.1 he with he | he
      ·obtain⟨x,hx,hi,rfl⟩:=mH.1 he
       refine Rch.step (e:=Ar.mk 0 x.From x.To 0) ?_ ih
       rw[g2]
       exact List.mem_append.2 (.inr (List.mem_map.2 ⟨x,List.mem_filter.2 ⟨hx,by simpa using hi⟩,rfl⟩))
      ·exact Rch.step (by rw[g2];exact List.mem_append.2 (.inl he)) ih
theorem y0 {m:Bd} (M:Lm m) (runs:List Int):∃ r,R1 m runs=some r∧Wa (HH m runs) r:=by
  have hb:=M.lenB
  have h2:=bM M runs
  obtain⟨j,e1,e2⟩:=Abm (a:=Sr m runs) (by omega)
  have hl:=e2.len
  obtain⟨r,e3,e4⟩:=nU (l:=turn j) (f:=m.Bases) (by simp[turn];omega) (by omega) (fun e he=>by
    have he:=wZ.1 he
    have:((aJ e).From,(aJ e).To)∈j.map fun e=>(e.From,e.To):=List.mem_map.2 ⟨_,he,rfl⟩
    rw[e2]at this
    obtain⟨e',he',hh⟩:=List.mem_map.1 this
    rw[Prod.mk.injEq]at hh
    have:e.To=e'.From:=hh.1.symm
    rw[this]
    have:=gH M (jH M he').1;exact⟨by omega,by omega⟩) (tN M)
  refine⟨r,?_,e4.inc,fun n=>?_⟩
  ·unfold R1
   rw[tI M,Option.bind_some,e1,Option.bind_some,back_eq (by omega),e3];rfl
  ·rw[e4.mem];exact⟨fun h=>e2.turn.rch h,fun h=>J1.rch e2.turn.symm h⟩
theorem nM {m:Bd} (M:Lm m) (runs:List Int):∃ r,Nn m runs=some r∧Wa (HH m runs) r:=by
  have hb:=M.lenB
  have h2:=bM M runs
  obtain⟨r,e3,e4⟩:=wQ (l:=Sr m runs) (f:=m.Bases) (by omega) (by omega)
  refine⟨r,?_,e4.inc,e4.mem⟩
  unfold Nn
  rw[nV M,Option.bind_some,e3];rfl
theorem qU {α:Type} {idf:α→Int} {l:List α} (h:Ll idf l) {a b:α} (ha:a∈l) (hb:b∈l) (e:idf a=idf b):a=b:=by
  have key:∀ (d i:Nat) (hj:i+d+1<l.length),idf (l[i]'(by omega))<idf l[i+d+1]:=by
    intro d
    induction d with
    | zero=>
      intro i hj
      exact h i _ _ (Ajs (by omega)) (Ajs (by omega))
    | succ d ih=>
      intro i hj
      have h1:=ih i (by omega)
      have h2:=h (i+d+1) l[i+(d+1)+1] l[i+d+1] (by rw[Ajs (by omega)];rfl) (Ajs (by omega))
      omega
  obtain⟨i,hi,rfl⟩:=List.getElem_of_mem ha
  obtain⟨j,hj,rfl⟩:=List.getElem_of_mem hb
  rcases Nat.lt_trichotomy i j with h1 | h1 | h1
  ·have:=key (j - i - 1) i (by omega)
   simp only[show i+(j - i - 1)+1=j by omega]at this;omega
  ·subst h1;rfl
  ·have:=key (i - j - 1) j (by omega)
   simp only[show j+(i - j - 1)+1=i by omega]at this;omega
end Go.Proofs.YtjopghiagoidgaaGreat
namespace Go.Proofs.YtjopghiagoidgaaGreat.W46
open Go Go.Ab
set_option linter.unusedSimpArgs false
set_option linter.unusedVariables false
theorem tV {a:Int} (h0:0≤a) (h1:a≤4611686018427387904):IntKind.i64.wrap (gU (IntKind.u64.wrap (IntKind.i64.wrap a)) 1)=a / 2:=by
  have e1:IntKind.i64.wrap a=a:=by rw[wrap_i64]<;>omega
  have e2:IntKind.u64.wrap a=a:=by rw[IntKind.wrap_u64];omega
  have e3:gU a 1=a / 2:=by unfold gU;simp
  rw[e1,e2,e3,wrap_i64]<;>omega
theorem yW (x y:Int):cmp_Less_int x y=some (decide (x<y)):=rfl
theorem bE {xs:List Int} (hi:Inc xs) {i j:Nat} {x y:Int} (hx:xs[i]? =some x) (hy:xs[j]? =some y) (h:i<j):x<y:=by
  obtain⟨h1,rfl⟩:=List.getElem?_eq_some_iff.1 hx
  obtain⟨h2,rfl⟩:=List.getElem?_eq_some_iff.1 hy
  exact(List.pairwise_iff_getElem.1 hi) i j h1 h2 h
theorem uD {xs:List Int} (hi:Inc xs) (hl:xs.length≤549755813888) (t:Int):∃ i,Di xs t=some (i,decide (t∈xs)):=by
  obtain⟨r,h1,h2⟩:=Ik (step:=C9 xs t)
    (fun s=>0≤s.1∧s.1≤s.2∧s.2≤xs.length∧(∀ (k:Nat) x,(k:Int)<s.1→xs[k]? =some x→x<t)∧(∀ (k:Nat) x,s.2≤(k:Int)→xs[k]? =some x→t≤x))
    (fun r=>r.2=decide (t∈xs)) (fun s=>(s.2 - s.1).toNat) (by
      rintro⟨i,j⟩ ⟨h0,h1,h2,h3,h4⟩
      dsimp only at h0 h1 h2 h3 h4
      unfold C9
      dsimp only
      by_cases hij:i<j
      ·rw[Ajq hij,cond_true,tV (by omega) (by omega)]
       have hm:((i+j) / 2).toNat<xs.length:=by omega
       have hmm:(i+j) / 2=(((i+j) / 2).toNat:Int):=by omega
       have hx:xs[((i+j) / 2).toNat]? =some xs[((i+j) / 2).toNat]:=Ajs hm
       generalize xs[((i+j) / 2).toNat]=x at hx
       rw[Rt hmm hx,Option.bind_some,yW,Option.bind_some]
       by_cases hlt:x<t
       ·rw[Ajq hlt,cond_true,wrap_i64 (by omega) (by omega)]
        refine .inl ⟨_,rfl,⟨by dsimp only;omega,by dsimp only;omega,h2,fun k y hk hy=>?_,h4⟩,by dsimp only;omega⟩
        dsimp only at hk
        by_cases e:k=((i+j) / 2).toNat
        ·subst e;rw[hx]at hy;obtain rfl:=Option.some.inj hy;exact hlt
        ·have:=bE hi hy hx (by omega);omega
       ·rw[Ajr hlt,cond_false]
        refine .inl ⟨_,rfl,⟨h0,by dsimp only;omega,by dsimp only;omega,h3,fun k y hk hy=>?_⟩,by dsimp only;omega⟩
        dsimp only at hk
        by_cases e:k=((i+j) / 2).toNat
        ·subst e;rw[hx]at hy;obtain rfl:=Option.some.inj hy;omega
        ·have:=bE hi hx hy (by omega);omega
      ·rw[Ajr hij,cond_false]
       have e:j=i:=by omega
       subst e
       right
       by_cases hlen:j<(xs.length:Int)
       ·rw[Ajq hlen,cond_true]
        have hjj:j=(j.toNat:Int):=by omega
        have hx:xs[j.toNat]? =some xs[j.toNat]:=Ajs (by omega)
        generalize xs[j.toNat]=x at hx
        rw[Rt hjj hx,Option.bind_some]
        by_cases hxt:x=t
        ·rw[Ajq hxt,cond_true]
         subst hxt
         exact⟨_,rfl,(Ajq (Ajt hx)).symm⟩
        ·rw[Ajr hxt,cond_false]
         refine⟨_,rfl,(Ajr fun hm=>?_).symm⟩
         obtain⟨k,hk⟩:=List.mem_iff_getElem?.1 hm
         by_cases h5:(k:Int)<j
         ·have:=h3 k t h5 hk;omega
         ·have h6:=h4 j.toNat x (by omega) hx
          by_cases e:k=j.toNat
          ·subst e;rw[hx]at hk;exact hxt (Option.some.inj hk)
          ·have:=bE hi hx hk (by omega);omega
       ·rw[Ajr hlen,cond_false]
        refine⟨_,rfl,(Ajr fun hm=>?_).symm⟩
        obtain⟨k,hk⟩:=List.mem_iff_getElem?.1 hm
        have:=(List.getElem?_eq_some_iff.1 hk).1
        have:=h3 k t (by omega) hk;omega)
    fuel (0,(xs.length:Int)) ⟨by simp,by simp,by simp,fun k x hk _=>by simp at hk;omega,fun k x hk hx=>by have:=(List.getElem?_eq_some_iff.1 hx).1;simp at hk;omega⟩ (by unfold fuel;simp;omega)
  refine⟨r.1,?_⟩
  unfold Di
  rw[h1,← h2];rfl
theorem tZ {w:A8} (hi:Inc w.Runs) (hl:w.Runs.length≤549755813888) (n:Int):Oa w n=some (decide (n∈w.Runs)):=by
  obtain⟨i,h⟩:=uD hi hl n
  unfold Oa;rw[h];rfl
structure jQ (l:List Int):Prop where
  ne:l≠[]
  inc:Inc l
  lo:∀ x∈l,1≤x
  hi:∀ x∈l,x≤9999
theorem rN {l:List Int} (h:∀ (k:Nat) (x y:Int),l[k+1]? =some x→l[k]? =some y→y<x):Inc l:=by
  unfold Inc
  rw[List.pairwise_iff_getElem]
  have key:∀ (d i:Nat) (hj:i+d+1<l.length),l[i]'(by omega)<l[i+d+1]:=by
    intro d
    induction d with
    | zero=>
      intro i hj
      exact h i _ _ (Ajs (by omega)) (Ajs (by omega))
    | succ d ih=>
      intro i hj
      have h1:=ih i (by omega)
      have h2:=h (i+d+1) l[i+(d+1)+1] l[i+d+1] (by rw[Ajs (by omega)];rfl) (Ajs (by omega))
      omega
  intro i j hi hj hlt
  have:=key (j - i - 1) i (by omega)
  simpa[show i+(j - i - 1)+1=j by omega]using this
theorem sW {l:List Int} (hl:l.length≤9223372036854775807):∃ b,Pt l=some b∧(b=true↔jQ l):=by
  unfold Pt
  rcases Fb (step:=Mt l) (l:=l) (s:=()) (fun k _=>∀ (i:Nat) x,i<k→l[i]? =some x→1≤x∧x≤9999∧∀ y,0<i→l[i - 1]? =some y→y<x) (fun r=>r=false∧¬ jQ l)
    (fun i x h=>by omega) (fun k x u hk hI=>by
      have hlt:=(List.getElem?_eq_some_iff.1 hk).1
      unfold Mt
      by_cases h1:x<1
      ·rw[Ajq h1]
       exact .inr ⟨_,rfl,rfl,fun h=>by have:=h.lo x (Ajt hk);omega⟩
      rw[Ajr h1,cond_false]
      by_cases h2:9999<x
      ·rw[Ajq h2]
       exact .inr ⟨_,rfl,rfl,fun h=>by have:=h.hi x (Ajt hk);omega⟩
      rw[Ajr h2,cond_false]
      by_cases h3:(0:Int)<(k:Int)
      ·rw[Ajq h3,cond_true,Rx (by omega) (by omega)]
       have hy:l[k - 1]? =some l[k - 1]:=Ajs (by omega)
       generalize l[k - 1]=y at hy
       rw[Ay hy,Option.bind_some]
       by_cases h4:x≤y
       ·rw[Ajq h4]
        refine .inr ⟨_,rfl,rfl,fun h=>?_⟩
        have:=bE h.inc hy hk (by omega);omega
       ·rw[Ajr h4]
        refine .inl ⟨_,rfl,fun i z hi hz=>?_⟩
        by_cases e:i=k
        ·subst e;rw[hk]at hz;obtain rfl:=Option.some.inj hz
         exact⟨by omega,by omega,fun y' _ hy'=>by rw[hy]at hy';obtain rfl:=Option.some.inj hy';omega⟩
        ·exact hI i z (by omega) hz
      ·rw[Ajr h3]
       refine .inl ⟨_,rfl,fun i z hi hz=>?_⟩
       have e:i=k:=by omega
       subst e;rw[hk]at hz;obtain rfl:=Option.some.inj hz
       exact⟨by omega,by omega,fun y' h _=>by omega⟩)with ⟨s',h1,h2⟩ | ⟨r,h1,rfl,h2⟩
  ·rw[h1]
   refine⟨_,rfl,?_⟩
   rw[decide_eq_true_eq]
   have hmem:∀ x∈l,1≤x∧x≤9999:=fun x hx=>by
     obtain⟨i,hi⟩:=List.mem_iff_getElem?.1 hx
     have:=h2 i x (List.getElem?_eq_some_iff.1 hi).1 hi
     exact⟨this.1,this.2.1⟩
   constructor
   ·intro h
    refine⟨fun e=>by rw[e]at h;simp at h,rN fun k x y hx hy=>?_,fun x hx=>(hmem x hx).1,fun x hx=>(hmem x hx).2⟩
    exact(h2 (k+1) x (List.getElem?_eq_some_iff.1 hx).1 hx).2.2 y (by omega) (by simpa using hy)
   ·intro h
    have:=List.length_pos_iff.2 h.ne
    omega
  ·rw[h1]
   exact⟨false,rfl,by simp[h2]⟩
theorem iO {l:List Int} (h:Inc l) (lo:∀ x∈l,1≤x):∀ (k:Nat) (x:Int),l[k]? =some x→(k:Int)+1≤x
  | 0,x,hx=>by have:=lo x (Ajt hx);omega
  | k+1,x,hx=>by
    have hlt:=(List.getElem?_eq_some_iff.1 hx).1
    have hy:l[k]? =some l[k]:=Ajs (by omega)
    have h1:=iO h lo k _ hy
    have h2:=bE h hy hx (by omega)
    omega
theorem jQ.len {l:List Int} (h:jQ l):l.length≤9999:=by
  by_cases e:l.length=0
  ·omega
  ·have hx:l[l.length - 1]? =some (l[l.length - 1]'(by omega)):=Ajs (by omega)
   have h1:=iO h.inc h.lo _ _ hx
   have h2:=h.hi _ (Ajt hx)
   omega
theorem Yb (l:List Int):Rl l=Pt l:=rfl
theorem has_eq (l:List Int) (n:Int):R4 l n=some (decide (n∈l)):=by
  unfold R4
  exact Xe fun k x hx=>rfl
def clash (a b:A8):Bool:=decide (a.From<b.To)&&decide (b.From<a.To)&&(decide (a.Groomer=b.Groomer)||a.Runs.any fun x=>decide (x∈b.Runs))
theorem kN (a b:A8):Qq a b=some (clash a b):=by
  unfold Qq clash
  by_cases h1:b.To≤a.From
  ·rw[Ajq h1,Ajr (show ¬ a.From<b.To by omega)];rfl
  rw[Ajr h1,Ajq (show a.From<b.To by omega),cond_false]
  by_cases h2:a.To≤b.From
  ·rw[Ajq h2,Ajr (show ¬ b.From<a.To by omega)];rfl
  rw[Ajr h2,Ajq (show b.From<a.To by omega),cond_false]
  rw[Fo (step:=Ky b) (fun x=>decide (x∈b.Runs)) (fun _=>true) (fun k x hx=>by unfold Ky;rw[has_eq];rfl)]
  cases hf:a.Runs.find? fun x=>decide (x∈b.Runs)with
  | some x=>
    have:(a.Runs.any fun x=>decide (x∈b.Runs))=true:=List.any_eq_true.2 ⟨x,List.mem_of_find?_eq_some hf,List.find?_some (p:=fun x=>decide (x∈b.Runs)) hf⟩
    rw[this];simp[Out.on]
  | none=>
    have:(a.Runs.any fun x=>decide (x∈b.Runs))=false:=List.any_eq_false.2 fun x hx=>by simpa using List.find?_eq_none.1 hf x hx
    rw[this];simp[Out.on]
theorem pM {a b:A8} (hi:Inc b.Runs) (hl:b.Runs.length≤549755813888):Kd a b=some (clash a b):=by
  unfold Kd clash
  by_cases h1:b.To≤a.From
  ·rw[Ajq h1,Ajr (show ¬ a.From<b.To by omega)];rfl
  rw[Ajr h1,Ajq (show a.From<b.To by omega),cond_false]
  by_cases h2:a.To≤b.From
  ·rw[Ajq h2,Ajr (show ¬ b.From<a.To by omega)];rfl
  rw[Ajr h2,Ajq (show b.From<a.To by omega),cond_false]
  by_cases h3:a.Groomer=b.Groomer
  ·rw[Ajq h3];rfl
  rw[Ajr h3,cond_false]
  rw[Fo (step:=Gg b) (fun x=>decide (x∈b.Runs)) (fun _=>true) (fun k x hx=>by
   unfold Gg;rw[tZ hi hl,Option.bind_some,Ajq (show(0:Int)≤(k:Int) by omega)])]
  cases hf:a.Runs.find? fun x=>decide (x∈b.Runs)with
  | some x=>
    have:(a.Runs.any fun x=>decide (x∈b.Runs))=true:=List.any_eq_true.2 ⟨x,List.mem_of_find?_eq_some hf,List.find?_some (p:=fun x=>decide (x∈b.Runs)) hf⟩
    rw[this];simp[Out.on]
  | none=>
    have:(a.Runs.any fun x=>decide (x∈b.Runs))=false:=List.any_eq_false.2 fun x hx=>by simpa using List.find?_eq_none.1 hf x hx
    rw[this];simp[Out.on]
structure yD (w:A8):Prop where
  g1:1≤w.Groomer
  g2:w.Groomer≤9999
  f0:0≤w.From
  ft:w.From<w.To
  t1:w.To≤20000000
  runs:jQ w.Runs
structure gN (l:List A8):Prop where
  len:l.length≤16
  rope:∀ w∈l,yD w
  apart:l.Pairwise fun a b=>clash a b=false
theorem xD {l:List A8} {x:A8} {k:Nat} (hk:k≤l.length) (hl:l.length≤16) :
    (Kc (Ec l x) k ()=some (.next ())∧∀ (j:Nat) w,j<k→l[j]? =some w→clash w x=false)∨(Kc (Ec l x) k ()=some (.ret (.ret 15))∧∃ (j:Nat) (w:A8),j<k∧l[j]? =some w∧clash w x=true):=by
  rcases Xk (n:=k) (step:=Ec l x) (s:=()) (by omega) (fun i _=>∀ (j:Nat) w,j<i→l[j]? =some w→clash w x=false) (fun r=>r= .ret 15∧∃ (j:Nat) (w:A8),j<k∧l[j]? =some w∧clash w x=true)
    (fun j w h=>by omega) (fun i s hi hI=>by
      have hw:l[i]? =some l[i]:=Ajs (by omega)
      generalize l[i]=w at hw
      unfold Ec
      rw[Ay hw,Option.bind_some,kN,Option.bind_some]
      cases hc:clash w x with
      | true=>exact .inr ⟨_,rfl,rfl,i,w,hi,hw,hc⟩
      | false=>
        refine .inl ⟨(),rfl,fun j w' hj hw'=>?_⟩
        by_cases e:j=i
        ·subst e;rw[hw]at hw';obtain rfl:=Option.some.inj hw';exact hc
        ·exact hI j w' (by omega) hw')with ⟨s',h1,h2⟩ | ⟨r,h1,rfl,h2⟩
  ·exact .inl ⟨h1,h2⟩
  ·exact .inr ⟨h1,h2⟩
theorem step_eq {l:List A8} {x:A8} {k:Nat} (hk:l[k]? =some x) (hl:l.length≤16) (hr:x.Runs.length≤9223372036854775807):Hd l k x ()=E1 l k x ():=by
  have hlt:=(List.getElem?_eq_some_iff.1 hk).1
  unfold Hd E1
  obtain⟨b,hb,hbr⟩:=sW hr
  rw[Yb,hb,Option.bind_some,Option.bind_some]
  cases b with
  | false=>rfl
  | true=>
    have hinc:=(hbr.1 rfl).inc
    have hin:Kc (Kf l k x) k ()=Kc (Ec l x) k ():=by
      unfold Kc
      rw[if_pos (by omega),if_pos (by omega)]
      refine L9 fun i u s hi=>?_
      have hik:i<k:=Ud hi
      have hw:l[i]? =some l[i]:=Ajs (by omega)
      generalize l[i]=w at hw
      have hw':(l.take k)[i]? =some w:=by rw[List.getElem?_take,if_pos hik];exact hw
      unfold Kf Ec
      rw[Ay hw,Ay hw',Option.bind_some,Option.bind_some,pM hinc (by have:=(hbr.1 rfl).len;omega),kN,Ajq (show(0:Int)≤(i:Int) by omega)]
      cases clash w x<;>rfl
    rw[hin,Py (show(0:Int)≤(k:Int)∧(k:Int)≤(l.length:Int) by omega)]
theorem nK {l:List A8} (hr:∀ w∈l,w.Runs.length≤9223372036854775807):∃ e,N1 l=some e∧Qj l=some e∧(e=0↔gN l):=by
  unfold Qj N1
  by_cases h16:(16:Int)<(l.length:Int)
  ·rw[Ajq h16]
   exact⟨4,rfl,rfl,by simp,fun h=>by have:=h.len;omega⟩
  rw[Ajr h16,cond_false,cond_false]
  rw[L9 (step:=Hd l) (step':=E1 l) fun i x s hi=>step_eq hi (by omega) (hr x (Ajt hi))]
  rcases Fb (step:=E1 l) (l:=l) (s:=()) (fun k _=>∀ (i:Nat) w,i<k→l[i]? =some w→yD w∧∀ (j:Nat) v,j<i→l[j]? =some v→clash v w=false) (fun r=>r≠0∧¬ gN l)
    (fun i w h=>by omega) (fun k x u hk hI=>by
      have hlt:=(List.getElem?_eq_some_iff.1 hk).1
      have hmem:=Ajt hk
      unfold E1
      by_cases h1:x.Groomer<1
      ·rw[Ajq h1];exact .inr ⟨_,rfl,by simp,fun h=>by have:=(h.rope x hmem).g1;omega⟩
      rw[Ajr h1,cond_false]
      by_cases h2:9999<x.Groomer
      ·rw[Ajq h2];exact .inr ⟨_,rfl,by simp,fun h=>by have:=(h.rope x hmem).g2;omega⟩
      rw[Ajr h2,cond_false]
      by_cases h3:x.From<0
      ·rw[Ajq h3];exact .inr ⟨_,rfl,by simp,fun h=>by have:=(h.rope x hmem).f0;omega⟩
      rw[Ajr h3,cond_false]
      by_cases h4:x.To≤x.From
      ·rw[Ajq h4];exact .inr ⟨_,rfl,by simp,fun h=>by have:=(h.rope x hmem).ft;omega⟩
      rw[Ajr h4,cond_false]
      by_cases h5:20000000<x.To
      ·rw[Ajq h5];exact .inr ⟨_,rfl,by simp,fun h=>by have:=(h.rope x hmem).t1;omega⟩
      rw[Ajr h5,cond_false]
      obtain⟨b,hb,hbr⟩:=sW (hr x hmem)
      rw[hb,Option.bind_some]
      cases b with
      | false=>exact .inr ⟨1,rfl,by simp,fun h=>by have:=hbr.2 (h.rope x hmem).runs;cases this⟩
      | true=>
        rcases xD (l:=l) (x:=x) (k:=k) (by omega) (by omega)with ⟨h6,h7⟩ | ⟨h6,j,w,hj,hw,hc⟩
        ·refine .inl ⟨(),by rw[h6];rfl,fun i w hi hw=>?_⟩
         by_cases e:i=k
         ·subst e;rw[hk]at hw;obtain rfl:=Option.some.inj hw
          exact⟨⟨by omega,by omega,by omega,by omega,by omega,hbr.1 rfl⟩,h7⟩
         ·exact hI i w (by omega) hw
        ·refine .inr ⟨15,by rw[h6];rfl,by simp,fun h=>?_⟩
         obtain⟨h8,rfl⟩:=List.getElem?_eq_some_iff.1 hw
         obtain⟨h9,rfl⟩:=List.getElem?_eq_some_iff.1 hk
         have:=(List.pairwise_iff_getElem.1 h.apart) j k h8 h9 hj
         rw[this]at hc;cases hc)with ⟨s',h1,h2⟩ | ⟨r,h1,h2,h3⟩
  ·rw[h1]
   refine⟨0,rfl,rfl,fun _=>?_,fun _=>rfl⟩
   refine⟨by omega,fun w hw=>?_,?_⟩
   ·obtain⟨i,hi⟩:=List.mem_iff_getElem?.1 hw
    exact(h2 i w (List.getElem?_eq_some_iff.1 hi).1 hi).1
   ·rw[List.pairwise_iff_getElem]
    intro i j hi hj hij
    exact(h2 j _ hj (Ajs hj)).2 i _ hij (Ajs hi)
  ·rw[h1]
   exact⟨r,rfl,rfl,fun e=>absurd e h2,fun h=>absurd h h3⟩
structure Few (l:List A8):Prop where
  len:l.length≤40
  runs:∀ w∈l,w.Runs.length≤10000
def atT (l:List A8) (t:Int):List A8:=l.filter fun w=>decide (w.From≤t)&&decide (t<w.To)
def Kl (l:List A8) (t:Int):List Int:=(atT l t).flatMap (·.Runs)
theorem mI {l:List A8} {t:Int} {w:A8}:w∈atT l t↔w∈l∧w.From≤t∧t<w.To:=by simp[atT]
theorem Vr {l:List A8} {t n:Int}:n∈Kl l t↔∃ w∈l,(w.From≤t∧t<w.To)∧n∈w.Runs:=by
  unfold Kl
  rw[List.mem_flatMap]
  constructor
  ·rintro⟨w,hw,hn⟩;exact⟨w,(mI.1 hw).1,(mI.1 hw).2,hn⟩
  ·rintro⟨w,hw,ht,hn⟩;exact⟨w,mI.2 ⟨hw,ht⟩,hn⟩
theorem iM {l:List A8} {t:Int} (h:∀ w∈l,w.Runs.length≤10000):(Kl l t).length≤10000*l.length:=by
  induction l with
  | nil=>simp[Kl,atT]
  | cons w l ih=>
    have ih:=ih fun w hw=>h w (List.mem_cons_of_mem _ hw)
    have hw:=h w (by simp)
    unfold Kl atT at ih ⊢
    rw[List.filter_cons]
    split
    ·rw[List.flatMap_cons,List.length_append,List.length_cons];omega
    ·rw[List.length_cons];omega
theorem nF (l:List A8) (x:A8) (t:Int):Kl (l++[x]) t=if x.From≤t∧t<x.To then Kl l t++x.Runs else Kl l t:=by
  unfold Kl atT
  rw[List.filter_append]
  by_cases h:x.From≤t∧t<x.To
  ·rw[if_pos h,List.filter_cons_of_pos (by simp[h]),List.filter_nil,List.flatMap_append];simp
  ·rw[if_neg h,List.filter_cons_of_neg (by simpa using h),List.filter_nil,List.append_nil]
theorem wD {l:List A8} (h:Few l) (t:Int):Qi l t=some (norm (Kl l t)):=by
  unfold Qi
  obtain⟨s',h1,h2⟩:=Dv (step:=Ke t) (l:=l) (s:=[]) (fun k s=>s=Kl (l.take k) t) (by simp[Kl,atT]) (fun k x s hk hI=>by
    have hlt:=(List.getElem?_eq_some_iff.1 hk).1
    have hlen:s.length≤10000*k:=by
      rw[hI]
      have:=iM (l:=l.take k) (t:=t) fun w hw=>h.runs w (List.mem_of_mem_take hw)
      rw[List.length_take]at this;omega
    have hx:=h.runs x (Ajt hk)
    have hl:=h.len
    rw[B3 hk,nF]
    unfold Ke
    by_cases h1:x.From≤t
    ·rw[Ajq h1,cond_true]
     by_cases h2:t<x.To
     ·rw[Ajq h2,cond_true,Cj (by omega),if_pos ⟨h1,h2⟩,hI]
      exact⟨_,rfl,rfl⟩
     ·rw[Ajr h2,cond_false,if_neg (fun h=>h2 h.2)]
      exact⟨_,rfl,hI⟩
    ·rw[Ajr h1,cond_false,if_neg (fun h=>h1 h.1)]
     exact⟨_,rfl,hI⟩)
  rw[List.take_length]at h2
  have hl:=iM (l:=l) (t:=t) h.runs
  have:=h.len
  rw[h1,Option.bind_some]
  show chk s'.length _=_
  rw[h2,Cj (by omega),Cj (by omega)];rfl
theorem uF {l:List A8} (hr:gN l) (t:Int):N0 l t=some (norm (Kl l t)):=by
  unfold N0
  obtain⟨s',h1,h2,h3,h4⟩:=bH (ρ:=List Int) (n:=9999) (step:=K0 l t) (s:=[]) (by omega) (fun k s=>Inc s∧s.length≤k∧∀ n,n∈s↔(n≤k∧n∈Kl l t))
    ⟨List.Pairwise.nil,by simp,fun n=>by
      constructor
      ·intro h;simp at h
      ·rintro⟨h,hn⟩
       obtain⟨w,hw,_,hm⟩:=Vr.1 hn
       have:=(hr.rope w hw).runs.lo n hm;simp at h;omega⟩ (fun k s hk hI=>by
    obtain⟨i1,i2,i3⟩:=hI
    unfold K0
    rw[Fo (step:=Kz t s k) (fun w=>decide (w.From≤t)&&(decide (t<w.To)&&decide (((k:Nat):Int)+1∈w.Runs))) (fun _=>.next (s++[((k:Nat):Int)+1])) (fun j w hw=>by
     unfold Kz
     rw[has_eq]
     by_cases h1:w.From≤t<;>by_cases h2:t<w.To<;>by_cases h3:((k:Nat):Int)+1∈w.Runs<;>simp[h1,h2,h3,Cj (show s.length+1≤549755813888 by omega)])]
    have old:∀ n,n∈Kl l t→n≤((k+1:Nat):Int)→n≤(k:Int)∨n=(k:Int)+1:=fun n _ h=>by omega
    cases hf:l.find? (fun w=>decide (w.From≤t)&&(decide (t<w.To)&&decide (((k:Nat):Int)+1∈w.Runs)))with
    | some w=>
      have hp:=List.find?_some hf
      have hw:=List.mem_of_find?_eq_some hf
      simp only[Bool.and_eq_true,decide_eq_true_eq]at hp
      have hin:((k:Nat):Int)+1∈Kl l t:=Vr.2 ⟨w,hw,⟨hp.1,hp.2.1⟩,hp.2.2⟩
      refine⟨_,rfl,?_,by simp;omega,fun n=>?_⟩
      ·unfold Inc
       rw[List.pairwise_append]
       exact⟨i1,by simp,fun a ha b hb=>by simp at hb;have:=((i3 a).1 ha).1;omega⟩
      ·rw[List.mem_append,i3,List.mem_singleton]
       constructor
       ·rintro(h | rfl)
        ·exact⟨by omega,h.2⟩
        ·exact⟨by omega,hin⟩
       ·rintro⟨h,hn⟩
        rcases old n hn h with h | h
        ·exact .inl ⟨h,hn⟩
        ·exact .inr h
    | none=>
      refine⟨_,rfl,i1,by omega,fun n=>?_⟩
      rw[i3]
      constructor
      ·rintro⟨h,hn⟩;exact⟨by omega,hn⟩
      ·rintro⟨h,hn⟩
       rcases old n hn h with h | rfl
       ·exact⟨h,hn⟩
       ·obtain⟨w,hw,ht,hm⟩:=Vr.1 hn
        have:=List.find?_eq_none.1 hf w hw
        simp[ht.1,ht.2,hm]at this)
  rw[h1,Option.bind_some]
  show some s'=_
  congr 1
  refine Rs h2 (W8 _) fun n=>?_
  rw[W7,h4]
  refine⟨fun h=>h.2,fun h=>⟨?_,h⟩⟩
  obtain⟨w,hw,_,hm⟩:=Vr.1 h
  exact(hr.rope w hw).runs.hi n hm
end Go.Proofs.YtjopghiagoidgaaGreat.W46
namespace Go.Proofs.YtjopghiagoidgaaGreat.S50
open Go Go.Ab
set_option linter.unusedSimpArgs false
set_option linter.unusedVariables false
section
variable {α σ ρ:Type}
theorem Q0 {step step':Nat→α→σ→Option (Out σ ρ)}:∀ {l:List α} {k:Nat},(∀ i x s,l[i]? =some x→step (k+i) x s=step' (k+i) x s)→∀ s,Am step k l s=Am step' k l s
  | [],k,h,s=>rfl
  | x::r,k,h,s=>by
    have h0:=h 0 x s rfl
    rw[Nat.add_zero]at h0
    rw[Am,Am,h0]
    have ih:∀ s,Am step (k+1) r s=Am step' (k+1) r s:=Q0 (l:=r) (k:=k+1) (fun i y s hy=>by
      have:=h (i+1) y s (by simpa using hy)
      rwa [show k+(i+1)=k+1+i by omega]at this)
    cases step' k x s with
    | none=>rfl
    | some o=>cases o with
      | next s'=>exact ih s'
      | ret r=>rfl
theorem L9 {step step':Nat→α→σ→Option (Out σ ρ)} {l:List α} {s:σ} (h:∀ i x s,l[i]? =some x→step i x s=step' i x s):Am step 0 l s=Am step' 0 l s:=
  Q0 (k:=0) (fun i x s hx=>by rw[Nat.zero_add];exact h i x s hx) s
end
def Small (l:List Bf):Prop:=l.length≤50∧∀ s∈l,s.Zones.length≤100∧True
def Inc (l:List Int):Prop:=l.Pairwise (·< ·)
def Ts (most:Int) (l:List Int):Prop:=(∀ x∈l,1≤x∧x≤most)∧Inc l
instance (most:Int) (l:List Int):Decidable (Ts most l):=by unfold Ts Inc;infer_instance
theorem mM {l:List Int} (h:∀ k x y,l[k+1]? =some x→l[k]? =some y→y<x):Inc l:=by
  unfold Inc
  rw[List.pairwise_iff_getElem]
  have key:∀ (d i:Nat) (hj:i+d+1<l.length),l[i]'(by omega)<l[i+d+1]:=by
    intro d
    induction d with
    | zero=>
      intro i hj
      exact h i _ _ (Ajs (by omega)) (Ajs (by omega))
    | succ d ih=>
      intro i hj
      have h1:=ih i (by omega)
      have h2:=h (i+d+1) l[i+(d+1)+1] l[i+d+1] (by rw[Ajs (by omega)];rfl) (Ajs (by omega))
      omega
  intro i j hi hj hlt
  have:=key (j - i - 1) i (by omega)
  simpa[show i+(j - i - 1)+1=j by omega]using this
theorem uZ {l:List Int} (h:Inc l) {k:Nat} {x y:Int} (hx:l[k+1]? =some x) (hy:l[k]? =some y):y<x:=by
  unfold Inc at h
  rw[List.pairwise_iff_getElem]at h
  obtain⟨h1,rfl⟩:=List.getElem?_eq_some_iff.1 hx
  obtain⟨h2,rfl⟩:=List.getElem?_eq_some_iff.1 hy
  exact h k (k+1) h2 h1 (by omega)
theorem Uc (l:List Int) (most:Int) (hl:l.length≤9223372036854775807):Ea l most=some (decide (Ts most l)):=by
  unfold Ea
  rcases Fb (step:=D9 l most) (l:=l) (s:=()) (fun k _=>(∀ i x,i<k→l[i]? =some x→1≤x∧x≤most)∧∀ i x y,i+1<k→l[i+1]? =some x→l[i]? =some y→y<x)
    (fun r=>r=false∧¬ Ts most l) ⟨fun i x h=>by omega,fun i x y h=>by omega⟩ (fun k x u hk ⟨hI1,hI2⟩=>by
      have hlt:=(List.getElem?_eq_some_iff.1 hk).1
      have hm:=Ajt hk
      unfold D9
      by_cases h1:x<1
      ·rw[Ajq h1];exact .inr ⟨false,rfl,rfl,fun h=>by have:=h.1 x hm;omega⟩
      rw[Ajr h1,cond_false]
      by_cases h2:most<x
      ·rw[Ajq h2];exact .inr ⟨false,rfl,rfl,fun h=>by have:=h.1 x hm;omega⟩
      rw[Ajr h2,cond_false]
      have hI1':∀ i y,i<k+1→l[i]? =some y→1≤y∧y≤most:=fun i y hi hy=>by
        by_cases e:i=k
        ·subst e;rw[hk]at hy;obtain rfl:=Option.some.inj hy;omega
        ·exact hI1 i y (by omega) hy
      by_cases h3:(0:Int)<(k:Int)
      ·rw[Ajq h3,cond_true,Rx (by omega) (by omega),Yi (k:=k - 1) (by omega),Option.bind_some]
       have hp:l[k - 1]? =some l[k - 1]:=Ajs (by omega)
       by_cases h4:x≤l[k - 1]
       ·rw[Ajq h4]
        refine .inr ⟨false,rfl,rfl,fun h=>?_⟩
        have:=uZ h.2 (k:=k - 1) (by rw[Nat.sub_add_cancel (by omega)];exact hk) hp
        omega
       ·rw[Ajr h4]
        refine .inl ⟨(),rfl,hI1',fun i a b hi ha hb=>?_⟩
        by_cases e:i+1=k
        ·rw[e,hk]at ha;obtain rfl:=Option.some.inj ha
         obtain rfl:i=k - 1:=by omega
         rw[hp]at hb;obtain rfl:=Option.some.inj hb;omega
        ·exact hI2 i a b (by omega) ha hb
      ·rw[Ajr h3]
       exact .inl ⟨(),rfl,hI1',fun i a b hi ha hb=>by omega⟩)with ⟨u,h1,h2,h3⟩ | ⟨r,h1,h2,h3⟩
  ·have:Ts most l:=⟨fun x hx=>by
     obtain⟨i,hi,rfl⟩:=List.getElem_of_mem hx
     exact h2 i _ hi (Ajs hi),mM fun k x y hx hy=>h3 k x y (List.getElem?_eq_some_iff.1 hx).1 hx hy⟩
   rw[h1,Ajq this];rfl
  ·subst h2
   rw[h1,Ajr h3];rfl
theorem Yb (l:List Int) (most:Int) (hl:l.length≤9223372036854775807):Oq l most=some (decide (Ts most l)):=Uc l most hl
theorem find_eq (l:List Bf) (n:Int):(H4 l n=some (-1)∧∀ x∈l,x.ID≠n)∨(∃ (k:Nat) (x:Bf),H4 l n=some (k:Int)∧l[k]? =some x∧x.ID=n∧∀ j y,j<k→l[j]? =some y→y.ID≠n):=by
  unfold H4
  rcases Fb (step:=Gu n) (l:=l) (s:=()) (fun k _=>∀ i x,i<k→l[i]? =some x→x.ID≠n)
    (fun r=>∃ (k:Nat) (x:Bf),r=(k:Int)∧l[k]? =some x∧x.ID=n∧∀ j y,j<k→l[j]? =some y→y.ID≠n) (fun i x h=>by omega) (fun k x u hk hI=>by
      unfold Gu
      by_cases e:x.ID=n
      ·rw[Ajq e];exact .inr ⟨_,rfl,k,x,rfl,hk,e,hI⟩
      ·rw[Ajr e]
       refine .inl ⟨(),rfl,fun i y hi hy=>?_⟩
       by_cases h:i=k
       ·subst h;rw[hk]at hy;obtain rfl:=Option.some.inj hy;exact e
       ·exact hI i y (by omega) hy)with ⟨u,h1,h2⟩ | ⟨r,h1,k,x,rfl,h2,h3,h4⟩
  ·refine .inl ⟨by rw[h1];rfl,fun x hx=>?_⟩
   obtain⟨i,hi,rfl⟩:=List.getElem_of_mem hx
   exact h2 i _ hi (Ajs hi)
  ·exact .inr ⟨k,x,by rw[h1];rfl,h2,h3,h4⟩
def InR (s:Bf):Prop:=1≤s.ID∧s.ID≤9999∧4≤s.Limit∧s.Limit≤100000∧0≤s.Load∧s.Load≤100000∧-1≤s.Controlled∧s.Controlled≤20000000
instance (s:Bf):Decidable (InR s):=by unfold InR;infer_instance
def Bw (s:Bf):Prop:=s.Zones≠[]∧Ts 32 s.Zones∧Ts 9999 s.Lifts
instance (s:Bf):Decidable (Bw s):=by unfold Bw;infer_instance
def lT (l:List Bf) (k:Nat) (s:Bf):Prop:=∃ y∈l.take k,y.ID=s.ID
instance (l:List Bf) (k:Nat) (s:Bf):Decidable (lT l k s):=by unfold lT;infer_instance
def Xo (l:List Bf) (k:Nat) (s:Bf):Option Int:=if ¬ InR s then some 2 else if lT l k s then some 7 else if ¬ Bw s then some 1 else none
def ans (o:Option Int):Option (Out Unit Int):=match o with | none=>some (.next ()) | some e=>some (.ret e)
theorem rO (s:Bf):Gt s=some (decide (InR s)):=by
  unfold Gt InR
  by_cases h1:1≤s.ID<;>by_cases h2:s.ID≤9999<;>by_cases h3:4≤s.Limit<;>by_cases h4:s.Limit≤100000<;>by_cases h5:0≤s.Load<;>by_cases h6:s.Load≤100000<;>by_cases h7: -1≤s.Controlled<;>simp[h1,h2,h3,h4,h5,h6,h7]
theorem kW (s:Bf):decide (((s.Zones.length:Nat):Int)=(0:Int))=decide (s.Zones=[]):=by
  cases s.Zones<;>simp<;>omega
theorem qW (l:List Bf) (hl:l.length≤9223372036854775807) (k:Nat) (x:Bf) (hk:l[k]? =some x) (hz:x.Zones.length≤9223372036854775807) (hf:x.Lifts.length≤9223372036854775807) :
    Ew l k x ()=ans (Xo l k x):=by
  have hlt:=(List.getElem?_eq_some_iff.1 hk).1
  unfold Ew Xo
  rw[rO,Option.bind_some]
  by_cases h1:InR x
  ·rw[Ajq h1,Bool.not_true,cond_false,Py ⟨by omega,by omega⟩,if_neg (by simpa using h1)]
   rcases find_eq (l.take k) x.ID with⟨h2,h3⟩ | ⟨j,y,h2,h3,h4,_⟩
   ·rw[h2,Option.bind_some,if_neg (fun⟨y,hy,e⟩=>h3 y hy e)]
    show(bif decide (((x.Zones.length:Nat):Int)=(0:Int))then _ else _)=_
    rw[kW,Uc _ _ hz,Uc _ _ hf]
    unfold Bw
    by_cases h5:x.Zones=[]<;>by_cases h6:Ts 32 x.Zones<;>by_cases h7:Ts 9999 x.Lifts<;>simp[h5,h6,h7,ans]
   ·rw[h2,Option.bind_some,Ajq (Int.natCast_nonneg j),cond_true,if_pos ⟨y,Ajt h3,h4⟩];rfl
  ·rw[Ajr h1,if_pos h1];rfl
theorem uH (l:List Bf) (k:Nat) (x:Bf) (hk:k<l.length) (hl:l.length≤9223372036854775807) :
    (lT l k x∧Kc (F1 l x) k ()=some (.ret (.ret 7)))∨(¬ lT l k x∧Kc (F1 l x) k ()=some (.next ())):=by
  rcases Xk (step:=F1 l x) (n:=k) (s:=()) (by omega) (fun i _=>∀ j y,j<i→l[j]? =some y→y.ID≠x.ID) (fun r=>r= .ret 7∧lT l k x) (fun j y h=>by omega) (fun i u hi hI=>by
    unfold F1
    have hy:l[i]? =some l[i]:=Ajs (by omega)
    rw[Ay hy,Option.bind_some]
    by_cases e:l[i].ID=x.ID
    ·rw[Ajq e]
     refine .inr ⟨_,rfl,rfl,l[i],Ajt (i:=i) ?_,e⟩
     rw[List.getElem?_take,if_pos hi];exact hy
    ·rw[Ajr e]
     refine .inl ⟨(),rfl,fun j y hj hy'=>?_⟩
     by_cases h:j=i
     ·subst h;rw[hy]at hy';obtain rfl:=Option.some.inj hy';exact e
     ·exact hI j y (by omega) hy')with ⟨u,h1,h2⟩ | ⟨r,h1,h2,h3⟩
  ·refine .inr ⟨fun⟨y,hy,e⟩=>?_,h1⟩
   obtain⟨j,hj,rfl⟩:=List.getElem_of_mem hy
   rw[List.length_take]at hj
   rw[List.getElem_take]at e
   exact h2 j _ (by omega) (Ajs (by omega)) e
  ·subst h2;exact .inl ⟨h3,h1⟩
theorem jY (l:List Bf) (hl:l.length≤9223372036854775807) (k:Nat) (x:Bf) (hk:l[k]? =some x) (hz:x.Zones.length≤9223372036854775807) (hf:x.Lifts.length≤9223372036854775807) :
    Ho l k x ()=ans (Xo l k x):=by
  have hlt:=(List.getElem?_eq_some_iff.1 hk).1
  unfold Ho Xo
  by_cases h1:InR x
  ·obtain⟨a1,a2,a3,a4,a5,a6,a7,a8⟩:=h1
   rw[Ajr (by omega),cond_false,Ajr (by omega),cond_false,Ajr (by omega),cond_false,Ajr (by omega),cond_false,Ajr (by omega),cond_false,
    Ajr (by omega),cond_false,Ajr (by omega),cond_false,Ajr (by omega),cond_false,if_neg (fun hn=>hn (show InR x from⟨a1,a2,a3,a4,a5,a6,a7,a8⟩))]
   rcases uH l k x hlt hl with⟨h2,h3⟩ | ⟨h2,h3⟩
   ·rw[h3,if_pos h2];rfl
   ·rw[h3,if_neg h2,Option.bind_some]
    show(bif decide (((x.Zones.length:Nat):Int)=(0:Int))then _ else _)=_
    rw[kW,Yb _ _ hz,Yb _ _ hf]
    unfold Bw
    by_cases h5:x.Zones=[]<;>by_cases h6:Ts 32 x.Zones<;>by_cases h7:Ts 9999 x.Lifts<;>simp[h5,h6,h7,ans]
  ·rw[if_pos h1]
   by_cases b1:x.ID<1
   ·rw[Ajq b1];rfl
   rw[Ajr b1,cond_false]
   by_cases b2:9999<x.ID
   ·rw[Ajq b2];rfl
   rw[Ajr b2,cond_false]
   by_cases b3:x.Limit<4
   ·rw[Ajq b3];rfl
   rw[Ajr b3,cond_false]
   by_cases b4:100000<x.Limit
   ·rw[Ajq b4];rfl
   rw[Ajr b4,cond_false]
   by_cases b5:x.Load<0
   ·rw[Ajq b5];rfl
   rw[Ajr b5,cond_false]
   by_cases b6:100000<x.Load
   ·rw[Ajq b6];rfl
   rw[Ajr b6,cond_false]
   by_cases b7:x.Controlled < -1
   ·rw[Ajq b7];rfl
   rw[Ajr b7,cond_false]
   by_cases b8:20000000<x.Controlled
   ·rw[Ajq b8];rfl
   exact absurd (show InR x from⟨by omega,by omega,by omega,by omega,by omega,by omega,by omega,by omega⟩) h1
def bZ (l:List Bf):Prop:=l.length≤32∧∀ k x,l[k]? =some x→Xo l k x=none
def Aa2 (l:List Bf):Prop:=l.length≤9223372036854775807∧∀ s∈l,s.Zones.length≤9223372036854775807∧s.Lifts.length≤9223372036854775807
theorem x6 (l:List Bf) (g:Nat→Bf→Option Int):∃ r,((Am (fun k x (_:Unit)=>ans (g k x)) 0 l ()).bind fun o=>o.on fun _=>some (0:Int))=some r∧((∀ k x,l[k]? =some x→g k x≠some 0)→(r=0↔∀ k x,l[k]? =some x→g k x=none)):=by
  rcases Fb (step:=fun k x (_:Unit)=>ans (g k x)) (l:=l) (s:=()) (fun i _=>∀ k x,k<i→l[k]? =some x→g k x=none) (fun r=>∃ k x,l[k]? =some x∧g k x=some r) (fun k x h=>by omega) (fun k x u hk hI=>by
    cases hg:g k x with
    | none=>
      refine .inl ⟨(),by simp only[hg,ans],fun i y hi hy=>?_⟩
      by_cases e:i=k
      ·subst e;rw[hk]at hy;obtain rfl:=Option.some.inj hy;exact hg
      ·exact hI i y (by omega) hy
    | some e=>exact .inr ⟨e,by simp only[hg,ans],k,x,hk,hg⟩)with ⟨u,h1,h2⟩ | ⟨r,h1,k,x,h2,h3⟩
  ·exact⟨0,by rw[h1];rfl,fun _=>⟨fun _ k x hx=>h2 k x (List.getElem?_eq_some_iff.1 hx).1 hx,fun _=>rfl⟩⟩
  ·refine⟨r,by rw[h1];rfl,fun hn=>⟨fun e=>?_,fun h=>?_⟩⟩
   ·subst e;exact absurd h3 (hn k x h2)
   ·rw[h k x h2]at h3;cases h3
theorem xQ (l:List Bf) (k:Nat) (x:Bf):Xo l k x≠some 0:=by
  unfold Xo;split<;>(try split)<;>(try split)<;>simp
theorem Wu (l:List Bf) (h:Aa2 l):∃ r,Jm l=some r∧Nz l=some r∧(r=0↔bZ l):=by
  unfold Jm Nz
  by_cases hl:(32:Int)<((l.length:Nat):Int)
  ·rw[Ajq hl]
   exact⟨4,rfl,rfl,fun e=>by omega,fun h=>by have:=h.1;omega⟩
  ·rw[Ajr hl,cond_false,cond_false]
   rw[L9 (step:=Ew l) (step':=fun k x (_:Unit)=>ans (Xo l k x)) (fun k x u hx=>qW l h.1 k x hx (h.2 x (Ajt hx)).1 (h.2 x (Ajt hx)).2),
    L9 (step:=Ho l) (step':=fun k x (_:Unit)=>ans (Xo l k x)) (fun k x u hx=>jY l h.1 k x hx (h.2 x (Ajt hx)).1 (h.2 x (Ajt hx)).2)]
   obtain⟨r,h1,h2⟩:=x6 l (Xo l)
   refine⟨r,h1,h1,(h2 fun k x _=>xQ l k x).trans ⟨fun h=>⟨by omega,h⟩,fun h=>h.2⟩⟩
theorem bZ.at {l:List Bf} (h:bZ l) {x:Bf} (hx:x∈l):InR x∧Bw x:=by
  obtain⟨k,hk,rfl⟩:=List.getElem_of_mem hx
  have:=h.2 k _ (Ajs hk)
  unfold Xo at this
  split at this
  ·cases this
  ·split at this
   ·cases this
   ·split at this
    ·cases this
    ·rename_i a b c;exact⟨by simpa using a,by simpa using c⟩
theorem wrap_small {n:Int} (h: -9223372036854775808≤n) (h2:n≤9223372036854775807):IntKind.i64.wrap n=n:=by simp[IntKind.wrap,IntKind.bits,IntKind.signed]<;>omega
def lvl (levels:List Int) (z:Int):Int:=if 1≤z then(levels[(z - 1).toNat]?).getD 0 else 0
def Xa (levels:List Int):List Int→Int
  | []=>0
  | z::r=>r.foldl (fun a z=>if a<lvl levels z then lvl levels z else a) (lvl levels z)
theorem uT (levels:List Int) (zs:List Int) (z:Int):Xa levels (zs++[z])=if zs=[]∨Xa levels zs<lvl levels z then lvl levels z else Xa levels zs:=by
  cases zs with
  | nil=>rfl
  | cons y r=>
    simp only[List.cons_append,Xa,List.foldl_append,List.foldl_cons,List.foldl_nil,reduceCtorEq,false_or]
theorem w0 {levels:List Int} {z:Int} (hl:levels.length≤9223372036854775807) (h1:1≤z) (h2:z≤(levels.length:Int)):Dl levels (IntKind.i64.wrap (z - 1))=some (lvl levels z):=by
  rw[wrap_small (by omega) (by omega)]
  have hlt:(z - 1).toNat<levels.length:=by omega
  unfold lvl
  rw[if_pos h1,Ajs hlt]
  exact Rt (k:=(z - 1).toNat) (by omega) (Ajs hlt)
theorem mJ {levels:List Int} {z:Int} (h:¬ (1≤z∧z≤(levels.length:Int))):lvl levels z=0:=by
  unfold lvl
  by_cases h1:1≤z
  ·rw[if_pos h1,List.getElem?_eq_none (by omega)];rfl
  ·rw[if_neg h1]
theorem W9 (k:Nat) (v sv:Int):(bif (decide (((k:Nat):Int)=(0:Int)))then some (Out.next v)else (bif (decide (sv<v))then some (Out.next v)else some (Out.next sv)):Option (Out Int Int))=some (.next (if k=0∨sv<v then v else sv)):=by
  by_cases h1:k=0
  ·rw[Ajq (by omega),if_pos (.inl h1)];rfl
  ·rw[Ajr (by omega),cond_false]
   by_cases h2:sv<v
   ·rw[Ajq h2,if_pos (.inr h2)];rfl
   ·rw[Ajr h2,if_neg (by omega)];rfl
theorem rL {levels:List Int} (hl:levels.length≤9223372036854775807) (k:Nat) (x sv:Int):F6 levels k x sv=some (.next (if k=0∨sv<lvl levels x then lvl levels x else sv)):=by
  unfold F6
  by_cases h1:1≤x
  ·rw[Ajq h1,cond_true]
   by_cases h2:x≤(levels.length:Int)
   ·rw[Ajq h2,cond_true,w0 hl h1 h2,Option.bind_some];exact W9 k _ sv
   ·rw[Ajr h2,cond_false,mJ (fun h=>h2 h.2)];exact W9 k _ sv
  ·rw[Ajr h1,cond_false,mJ (fun h=>h1 h.1)];exact W9 k _ sv
theorem jZ {levels:List Int} (hl:levels.length≤9223372036854775807) (k:Nat) (x sv:Int) (h1:1≤x):Kw levels k x sv=some (.next (if k=0∨sv<lvl levels x then lvl levels x else sv)):=by
  unfold Kw
  by_cases h2:x≤(levels.length:Int)
  ·rw[Ajq h2,cond_true,w0 hl h1 h2,Option.bind_some];exact W9 k _ sv
  ·rw[Ajr h2,cond_false,mJ (fun h=>h2 h.2)];exact W9 k _ sv
theorem oM {step:Nat→Int→Int→Option (Out Int Int)} {levels zs:List Int} (hs:∀ k x sv,x∈zs→step k x sv=some (.next (if k=0∨sv<lvl levels x then lvl levels x else sv))) :
    ((Am step 0 zs 0).bind fun o=>o.on fun s=>some s)=some (Xa levels zs):=by
  obtain⟨s',h1,h2⟩:=Dv (step:=step) (l:=zs) (s:=0) (fun k s=>s=Xa levels (zs.take k)) rfl (fun k x s hk hI=>by
    have hlt:=(List.getElem?_eq_some_iff.1 hk).1
    rw[hs k x s (Ajt hk)]
    refine⟨_,rfl,?_⟩
    rw[List.take_add_one,hk,hI]
    show _=Xa levels (zs.take k++[x])
    rw[uT]
    have:zs.take k=[]↔k=0:=by
      constructor
      ·intro h
       have:=congrArg List.length h
       simp at this
       rcases this with h | h
       ·exact h
       ·subst h;simp at hlt
      ·intro h;subst h;rfl
    simp only[this])
  rw[h1,h2,List.take_length];rfl
theorem w6 (s:Bf) {levels:List Int} (hl:levels.length≤9223372036854775807):Nf s levels=some (Xa levels s.Zones):=
  oM fun k x sv _=>rL hl k x sv
theorem nT (s:Bf) {levels:List Int} (hl:levels.length≤9223372036854775807) (hz:∀ z∈s.Zones,1≤z):Tb s levels=some (Xa levels s.Zones):=
  oM fun k x sv hx=>jZ hl k x sv (hz x hx)
def Y8 (s:Bf) (levels:List Int):Prop:=
  s.Limit≤s.Load∨(Xa levels s.Zones=3∧s.Limit / 2≤s.Load)∨(Xa levels s.Zones=4∧s.Limit / 4≤s.Load)∨4<Xa levels s.Zones
instance (s:Bf) (levels:List Int):Decidable (Y8 s levels):=by unfold Y8;infer_instance
theorem gL {n d:Int} (h0:0≤n) (h1:n≤100000) (hd:1≤d):IntKind.i64.wrap (Int.tdiv n d)=n / d:=by
  have h2:n / d≤n:=Int.ediv_le_self d h0
  have h3:0≤n / d:=Int.ediv_nonneg h0 (by omega)
  rw[Int.tdiv_eq_ediv_of_nonneg h0,wrap_small (by omega) (by omega)]
theorem m9 {s:Bf} (hr:InR s) {levels:List Int} (hl:levels.length≤9223372036854775807):F5 s levels=some (decide (Y8 s levels)):=by
  unfold InR at hr
  unfold F5
  rw[w6 s hl,gL (by omega) (by omega) (by omega),gL (by omega) (by omega) (by omega)]
  by_cases h1:s.Limit≤s.Load
  ·rw[Ajq h1,Ajq (show Y8 s levels from .inl h1)];rfl
  rw[Ajr h1,cond_false,Option.bind_some]
  by_cases h2:Xa levels s.Zones=3
  ·rw[Ajq h2,cond_true]
   refine congrArg some (decide_eq_decide.2 ?_)
   unfold Y8;omega
  rw[Ajr h2,cond_false]
  by_cases h3:Xa levels s.Zones=4
  ·rw[Ajq h3,cond_true]
   refine congrArg some (decide_eq_decide.2 ?_)
   unfold Y8;omega
  rw[Ajr h3,cond_false]
  refine congrArg some (decide_eq_decide.2 ?_)
  unfold Y8;omega
theorem gY {s:Bf} (hr:InR s) {levels:List Int} (hl:levels.length≤9223372036854775807) (hz:∀ z∈s.Zones,1≤z):Kv s levels=some (decide (Y8 s levels)):=by
  unfold InR at hr
  unfold Kv
  rw[nT s hl hz,gL (by omega) (by omega) (by omega),gL (by omega) (by omega) (by omega),Option.bind_some]
  by_cases h1:4<Xa levels s.Zones
  ·rw[Ajq h1,Ajq (show Y8 s levels from .inr (.inr (.inr h1)))];rfl
  rw[Ajr h1,cond_false]
  by_cases h3:Xa levels s.Zones=4
  ·rw[Ajq h3,cond_true]
   refine congrArg some (decide_eq_decide.2 ?_)
   unfold Y8;omega
  rw[Ajr h3,cond_false]
  by_cases h2:Xa levels s.Zones=3
  ·rw[Ajq h2,cond_true]
   refine congrArg some (decide_eq_decide.2 ?_)
   unfold Y8;omega
  rw[Ajr h2,cond_false]
  refine congrArg some (decide_eq_decide.2 ?_)
  unfold Y8;omega
theorem Rs:∀ {a b:List Int},Inc a→Inc b→(∀ x,x∈a↔x∈b)→a=b
  | [],[],_,_,_=>rfl
  | [],y::s,_,_,h=>absurd ((h y).2 (by simp)) (by simp)
  | x::r,[],_,_,h=>absurd ((h x).1 (by simp)) (by simp)
  | x::r,y::s,ha,hb,h=>by
    obtain⟨ha1,ha2⟩:=List.pairwise_cons.1 ha
    obtain⟨hb1,hb2⟩:=List.pairwise_cons.1 hb
    have e:x=y:=by
      rcases List.mem_cons.1 ((h x).1 (by simp))with e | h1
      ·exact e
      ·rcases List.mem_cons.1 ((h y).2 (by simp))with e | h2
       ·exact e.symm
       ·have:=ha1 y h2;have:=hb1 x h1;omega
    subst e
    rw[Rs ha2 hb2 (fun z=>?_)]
    constructor
    ·intro hz
     rcases List.mem_cons.1 ((h z).1 (List.mem_cons_of_mem _ hz))with e | h1
     ·have:=ha1 z hz;omega
     ·exact h1
    ·intro hz
     rcases List.mem_cons.1 ((h z).2 (List.mem_cons_of_mem _ hz))with e | h1
     ·have:=hb1 z hz;omega
     ·exact h1
def norm (xs:List Int):List Int:=Ch (Dc xs)
theorem Rn (xs:List Int):(Dc xs).Pairwise (·≤·):=by
  have:=List.pairwise_mergeSort (le:=fun x y:Int=>decide (x≤y)) (fun a b c h1 h2=>by simp at *;omega) (fun a b=>by simp;omega) xs
  exact this.imp (fun h=>by simpa using h)
theorem Ns (xs:List Int) (a:Int):a∈Dc xs↔a∈xs:=(List.mergeSort_perm xs _).mem_iff
theorem Fj {zs:List Int} {j:Nat} (h:j<zs.length):zs.toArray[j]! =zs[j]:=by simp[h]
theorem Xp {zs:List Int} (a:Int):a∈Ch zs↔a∈zs:=by
  unfold Ch Lib.compact Lib.compactUpTo
  rw[List.mem_map]
  constructor
  ·rintro⟨j,hj,rfl⟩
   have h1:=List.mem_range.1 (List.mem_filter.1 hj).1
   rw[Fj h1];exact List.getElem_mem h1
  ·intro ha
   obtain⟨i,hi,rfl⟩:=List.getElem_of_mem ha
   induction i with
   | zero=>exact ⟨0,List.mem_filter.2 ⟨List.mem_range.2 hi,by simp[Lib.keeps]⟩,Fj hi⟩
   | succ i ih=>
     by_cases e:zs[i+1]=zs[i]
     ·rw[e];exact ih (by omega) (List.getElem_mem _)
     ·refine⟨i+1,List.mem_filter.2 ⟨List.mem_range.2 hi,?_⟩,Fj hi⟩
      unfold Lib.keeps
      rw[Fj hi,Nat.add_sub_cancel,Fj (show i<zs.length by omega)]
      exact Ajq (.inr e)
theorem Xq {zs:List Int} (h:zs.Pairwise (·≤·)):Inc (Ch zs):=by
  unfold Ch Lib.compact Lib.compactUpTo Inc
  rw[List.pairwise_map]
  refine(List.pairwise_lt_range.filter _).imp_of_mem (fun {i j} hi hj hlt=>?_)
  obtain⟨hj1,hj2⟩:=List.mem_filter.1 hj
  have hj1:=List.mem_range.1 hj1
  rw[Fj (show i<zs.length by omega),Fj hj1]
  unfold Lib.keeps at hj2
  have hne:=Ajp hj2
  rw[Fj hj1,Fj (show j - 1<zs.length by omega)]at hne
  rw[List.pairwise_iff_getElem]at h
  have h1:=h (j - 1) j (by omega) hj1 (by omega)
  rcases Nat.lt_or_ge i (j - 1)with hh | hh
  ·have:=h i (j - 1) (by omega) (by omega) hh;omega
  ·have e:i=j - 1:=by omega
   subst e;omega
theorem W8 (xs:List Int):Inc (norm xs):=Xq (Rn xs)
theorem W7 (xs:List Int) (a:Int):a∈norm xs↔a∈xs:=by unfold norm;rw[Xp,Ns]
theorem gather {step:Nat→Bf→List Int→Option (Out (List Int) (List Int))} {l:List Bf} (f:Bf→List Int) (p:Bf→Bool) (hl:l.length≤50) (hf:∀ x∈l,(f x).length≤100)
    (hs:∀ k x s,x∈l→step k x s=bif p x then chk (s.length+(f x).length) (some (Out.next (s++f x)))else some (Out.next s)) :
    ((Am step 0 l []).bind fun o2=>o2.on fun s2=>chk s2.length (chk s2.length (some (Ch (Dc s2)))))=some (norm ((l.filter p).flatMap f)):=by
  obtain⟨s',h1,h2,h3⟩:=Dv (step:=step) (l:=l) (s:=[]) (fun k s=>s=((l.take k).filter p).flatMap f∧s.length≤100*k) ⟨by simp,by simp⟩ (fun k x s hk ⟨hI,hn⟩=>by
    have hlt:=(List.getElem?_eq_some_iff.1 hk).1
    have hx:=Ajt hk
    have:=hf x hx
    rw[hs k x s hx]
    cases hp:p x with
    | true=>
      rw[cond_true,Cj (by omega)]
      refine⟨_,rfl,?_,by rw[List.length_append];omega⟩
      rw[List.take_add_one,hk,hI];simp[hp]
    | false=>
      rw[cond_false]
      refine⟨_,rfl,?_,by omega⟩
      rw[List.take_add_one,hk,hI];simp[hp])
  rw[h1]
  show chk s'.length (chk s'.length _)=_
  rw[Cj (by omega),Cj (by omega),h2,List.take_length];rfl
theorem vW {l:List Bf} {levels:List Int} (hs:Small l) (hr:∀ x∈l,InR x) (hl:levels.length≤9223372036854775807):Gf l levels=some (norm ((l.filter fun x=>decide (Y8 x levels)).flatMap Bf.Zones)):=
  gather Bf.Zones (fun x=>decide (Y8 x levels)) hs.1 (fun x hx=>(hs.2 x hx).1) (fun k x s hx=>by
    unfold Iy;rw[m9 (hr x hx) hl,Option.bind_some])
theorem wE (a b:List Int) (x y:Int):((a++y::x::b).set (a.length+1) y).set a.length x=a++x::y::b:=by
  simp[List.set_append]
theorem xC {at_:Nat} {out:List Int} {x:Int} (hat:at_≤out.length) (hlen:out.length≤100000000) :
    ∃ a b,Fz out x (at_:Int)=some (.next (a++x::b))∧a++b=out∧a.length=at_:=by
  unfold Fz
  rw[Cj (by omega),wrap_small (by omega) (by omega)]
  obtain⟨r,h1,a,b,h2,h3,h4⟩:=Ik (step:=Ku (at_:Int)) (fun s=>∃ a b:List Int,s=((a.length:Int),a++x::b)∧a++b=out∧at_≤a.length)
    (fun r=>∃ a b,r= .next (a++x::b)∧a++b=out∧a.length=at_) (fun s=>s.1.toNat) (fun s hI=>by
      obtain⟨a,b,rfl,hab,ha⟩:=hI
      unfold Ku
      show(∃ s',(bif decide ((at_:Int)<((a.length:Nat):Int))then _ else _)=_∧_)∨_
      by_cases hlt:at_<a.length
      ·rw[Ajq (by omega),cond_true]
       rcases List.eq_nil_or_concat a with e | ⟨a',y,e⟩
       ·subst e;simp at hlt
       ·rw[List.concat_eq_append]at e
        subst e
        have hl':(a'++[y]).length=a'.length+1:=by simp
        rw[hl']at hlt ha
        have hle:a'.length+1≤out.length:=by rw[← hab];simp
        have e1:a'++[y]++x::b=a'++y::x::b:=by simp
        have g1:(a'++y::x::b)[a'.length]? =some y:=by simp
        have g2:(a'++y::x::b)[a'.length+1]? =some x:=by simp
        have g3:((a'++y::x::b).set (a'.length+1) y)[a'.length]? =some y:=by rw[List.getElem?_set_ne (by omega)];exact g1
        simp only[hl',e1,Rx (show 0<a'.length+1 by omega) (by omega),Nat.add_sub_cancel,Ay g1,Ay g2,Option.bind_some,Int.toNat_natCast,Ay g3,wE]
        exact .inl ⟨_,rfl,⟨a',y::b,rfl,by rw[← hab];simp,by omega⟩,by omega⟩
      ·rw[Ajr (by omega),cond_false]
       exact .inr ⟨_,rfl,a,b,rfl,hab,by omega⟩) fuel ((out.length:Int),out++[x]) ⟨out,[],rfl,by simp,hat⟩ (by show out.length<fuel;unfold fuel;omega)
  refine⟨a,b,?_,h3,h4⟩
  rw[show((((out.length+1:Nat):Int)) - 1)=(out.length:Int) by omega,h1,h2];rfl
theorem uV (k:Nat) (x:Int) {out:List Int} (hi:Inc out) (hlen:out.length≤100000000) :
    ∃ out',Ez k x out=some (.next out')∧Inc out'∧(∀ a,a∈out'↔a∈out∨a=x)∧out'.length≤out.length+1:=by
  unfold Ez
  obtain⟨r,h1,out',h2,h3⟩:=Ik (step:=Kt out x) (fun(s:Int)=>∃ n:Nat,s=(n:Int)∧n≤out.length∧∀ i y,i<n→out[i]? =some y→y<x)
    (fun r=>∃ out',r= .next out'∧Inc out'∧(∀ a,a∈out'↔a∈out∨a=x)∧out'.length≤out.length+1) (fun s=>out.length - s.toNat) (fun s hI=>by
      obtain⟨n,rfl,hn,hI⟩:=hI
      have hins:(∀ y,out[n]? =some y→x<y)→∃ out',Fz out x (n:Int)=some (.next out')∧Inc out'∧(∀ a,a∈out'↔a∈out∨a=x)∧out'.length≤out.length+1:=fun hgt=>by
        obtain⟨a,b,g1,g2,g3⟩:=xC (x:=x) hn hlen
        refine⟨_,g1,?_,fun c=>?_,by rw[← g2];simp;omega⟩
        ·subst g2
         unfold Inc at hi ⊢
         obtain⟨p1,p2,p3⟩:=List.pairwise_append.1 hi
         have hb:∀ y∈b,x<y:=fun y hy=>by
           cases b with
           | nil=>cases hy
           | cons z b'=>
             have hz:x<z:=hgt z (by rw[← g3];simp)
             rcases List.mem_cons.1 hy with e | hy
             ·subst e;exact hz
             ·have:=(List.pairwise_cons.1 p2).1 y hy;omega
         have ha:∀ y∈a,y<x:=fun y hy=>by
           obtain⟨i,hi',rfl⟩:=List.getElem_of_mem hy
           exact hI i _ (by omega) (by rw[List.getElem?_append_left hi'];exact Ajs hi')
         refine List.pairwise_append.2 ⟨p1,List.pairwise_cons.2 ⟨hb,p2⟩,fun y hy z hz=>?_⟩
         rcases List.mem_cons.1 hz with e | hz
         ·subst e;exact ha y hy
         ·exact p3 y hy z hz
        ·subst g2;simp only[List.mem_append,List.mem_cons]
         constructor
         ·rintro(h | h | h)
          ·exact .inl (.inl h)
          ·exact .inr h
          ·exact .inl (.inr h)
         ·rintro((h | h) | h)
          ·exact .inl h
          ·exact .inr (.inr h)
          ·exact .inr (.inl h)
      unfold Kt
      by_cases hlt:n<out.length
      ·rw[Ajq (by omega),cond_true,Yi hlt,Option.bind_some]
       have hg:out[n]? =some out[n]:=Ajs hlt
       by_cases hx:out[n]< x
       ·rw[Ajq hx,cond_true,Ry (by omega)]
        refine .inl ⟨_,rfl,⟨n+1,rfl,by omega,fun i y hi' hy=>?_⟩,by omega⟩
        by_cases e:i=n
        ·subst e;rw[hg]at hy;obtain rfl:=Option.some.inj hy;exact hx
        ·exact hI i y (by omega) hy
       ·rw[Ajr hx,cond_false]
        unfold Hn
        rw[Ajq (by omega),cond_true,Yi hlt,Option.bind_some]
        by_cases e:out[n]=x
        ·rw[Ajq e,cond_true]
         refine .inr ⟨_,rfl,out,rfl,hi,fun a=>⟨.inl,fun h=>?_⟩,by omega⟩
         rcases h with h | h
         ·exact h
         ·rw[h,← e];exact List.getElem_mem hlt
        ·rw[Ajr e,cond_false]
         obtain⟨out',g1,g2⟩:=hins (fun y hy=>by rw[hg]at hy;obtain rfl:=Option.some.inj hy;omega)
         rw[g1]
         exact .inr ⟨_,rfl,out',rfl,g2⟩
      ·rw[Ajr (by omega),cond_false,cond_false]
       unfold Hn
       rw[Ajr (by omega),cond_false]
       obtain⟨out',g1,g2⟩:=hins (fun y hy=>by rw[List.getElem?_eq_none (by omega)]at hy;cases hy)
       rw[g1]
       exact .inr ⟨_,rfl,out',rfl,g2⟩) fuel 0 ⟨0,rfl,by omega,fun i y h=>by omega⟩ (by show out.length - 0<fuel;unfold fuel;omega)
  exact⟨out',by rw[h1,h2];rfl,h3⟩
theorem uW (zs:List Int) {out:List Int} (hi:Inc out) (hlen:out.length+zs.length≤100000000) :
    ∃ out',Am Ez 0 zs out=some (.next out')∧Inc out'∧(∀ a,a∈out'↔a∈out∨a∈zs)∧out'.length≤out.length+zs.length:=by
  obtain⟨s',h1,h2,h3,h4⟩:=Dv (step:=Ez) (l:=zs) (s:=out) (fun k s=>Inc s∧(∀ a,a∈s↔a∈out∨a∈zs.take k)∧s.length≤out.length+k) ⟨hi,by simp,by omega⟩ (fun k x s hk ⟨hI1,hI2,hI3⟩=>by
    have hlt:=(List.getElem?_eq_some_iff.1 hk).1
    obtain⟨out',g1,g2,g3,g4⟩:=uV k x hI1 (by omega)
    refine⟨out',g1,g2,fun a=>?_,by omega⟩
    rw[g3,hI2,List.take_add_one,hk]
    simp[or_assoc])
  rw[List.take_length]at h3
  exact⟨s',h1,h2,h3,h4⟩
theorem refgather {step:Nat→Bf→List Int→Option (Out (List Int) (List Int))} {l:List Bf} (f:Bf→List Int) (p:Bf→Bool) (hl:l.length≤50) (hf:∀ x∈l,(f x).length≤100)
    (hs:∀ k x s,x∈l→step k x s=bif p x then(Am Ez 0 (f x) s).bind fun o7=>o7.on fun s7=>some (Out.next s7)else some (Out.next s)) :
    ((Am step 0 l []).bind fun o2=>o2.on fun s2=>some s2)=some (norm ((l.filter p).flatMap f)):=by
  obtain⟨s',h1,h2,h3,h4⟩:=Dv (step:=step) (l:=l) (s:=[]) (fun k s=>Inc s∧(∀ a,a∈s↔a∈((l.take k).filter p).flatMap f)∧s.length≤100*k) ⟨List.Pairwise.nil,by simp,by simp⟩ (fun k x s hk ⟨hI1,hI2,hI3⟩=>by
    have hlt:=(List.getElem?_eq_some_iff.1 hk).1
    have hx:=Ajt hk
    have:=hf x hx
    rw[hs k x s hx]
    cases hp:p x with
    | true=>
      rw[cond_true]
      obtain⟨out',g1,g2,g3,g4⟩:=uW (f x) hI1 (by omega)
      refine⟨out',by rw[g1];rfl,g2,fun a=>?_,by omega⟩
      rw[g3,hI2,List.take_add_one,hk];simp[hp]
    | false=>
      rw[cond_false]
      refine⟨_,rfl,hI1,fun a=>?_,by omega⟩
      rw[hI2,List.take_add_one,hk];simp[hp])
  rw[List.take_length]at h3
  rw[h1]
  show some s'=_
  rw[Rs h2 (W8 _) (fun a=>by rw[h3,W7])]
theorem nR {l:List Bf} {levels:List Int} (hs:Small l) (hr:bZ l) (hl:levels.length≤9223372036854775807):Ny l levels=some (norm ((l.filter fun x=>decide (Y8 x levels)).flatMap Bf.Zones)):=
  refgather Bf.Zones (fun x=>decide (Y8 x levels)) hs.1 (fun x hx=>(hs.2 x hx).1) (fun k x s hx=>by
    unfold Ot;rw[gY (hr.at hx).1 hl (fun z hz=>((hr.at hx).2.2.1.1 z hz).1),Option.bind_some])
end Go.Proofs.YtjopghiagoidgaaGreat.S50
namespace Go.Proofs.YtjopghiagoidgaaGreat
open Go Go.Ab
set_option linter.unusedSimpArgs false
set_option linter.unusedVariables false
def Ag {α:Type} (a b:Option α):Prop:=∃ r,a=some r∧b=some r
theorem Ag.some {α:Type} (x:α):Ag (some x) (some x):=⟨x,rfl,rfl⟩
theorem Ag.refl {α:Type} {a:Option α} (h:∃ x,a=Option.some x):Ag a a:=by obtain⟨x,h⟩:=h;exact⟨x,h,h⟩
theorem Ag.symm {α:Type} {a b:Option α} (h:Ag a b):Ag b a:=by obtain⟨x,h,k⟩:=h;exact⟨x,k,h⟩
theorem Ag.trans {α:Type} {a b c:Option α} (h:Ag a b) (k:Ag b c):Ag a c:=by
  obtain⟨x,h1,h2⟩:=h;obtain⟨y,k1,k2⟩:=k
  rw[h2]at k1;obtain rfl:=Option.some.inj k1
  exact⟨x,h1,k2⟩
theorem Ag.eq {α:Type} {a b:Option α} (h:Ag a b):a=b:=by obtain⟨x,h1,h2⟩:=h;rw[h1,h2]
theorem Ag.of {α:Type} {a b:Option α} (h:∃ x,a=Option.some x) (e:a=b):Ag a b:=by obtain⟨x,h⟩:=h;exact⟨x,h,by rw[← e];exact h⟩
theorem Ag.bind {α β:Type} {a b:Option α} {f g:α→Option β} (h:Ag a b) (k:∀ x,a=Option.some x→b=Option.some x→Ag (f x) (g x)):Ag (a.bind f) (b.bind g):=by
  obtain⟨x,h1,h2⟩:=h
  have:=k x h1 h2
  rw[h1,h2];exact this
theorem Ag.bif {α:Type} {c d:Bool} {a b a' b':Option α} (hc:c=d) (h:c=true→Ag a b) (k:c=false→Ag a' b'):Ag (bif c then a else a') (bif d then b else b'):=by
  subst hc
  cases c with
  | true=>exact h rfl
  | false=>exact k rfl
theorem lK {α σ ρ:Type} {step:Nat→α→σ→Option (Out σ ρ)}:∀ {l:List α} {k:Nat},(∀ i x s,l[i]? =Option.some x→∃ o,step (k+i) x s=Option.some o)→∀ s,∃ o,Am step k l s=Option.some o
  | [],k,_,s=>⟨_,rfl⟩
  | x::l,k,h,s=>by
    obtain⟨o,ho⟩:=h 0 x s rfl
    rw[Nat.add_zero]at ho
    rw[Am,ho]
    cases o with
    | ret r=>exact ⟨_,rfl⟩
    | next s'=>exact lK (fun i y s hy=>by have:=h (i+1) y s (by simpa using hy);rwa [show k+(i+1)=k+1+i by omega]at this) s'
theorem Ag.xN {α σ ρ:Type} {step step':Nat→α→σ→Option (Out σ ρ)}:∀ {l:List α} {k:Nat},(∀ i x s,l[i]? =Option.some x→Ag (step (k+i) x s) (step' (k+i) x s))→∀ s,Ag (Am step k l s) (Am step' k l s)
  | [],k,_,s=>⟨_,rfl,rfl⟩
  | x::l,k,h,s=>by
    obtain⟨o,ho,ho'⟩:=h 0 x s rfl
    rw[Nat.add_zero]at ho ho'
    rw[Am,Am,ho,ho']
    cases o with
    | ret r=>exact ⟨_,rfl,rfl⟩
    | next s'=>exact Ag.xN (fun i y s hy=>by have:=h (i+1) y s (by simpa using hy);rwa [show k+(i+1)=k+1+i by omega]at this) s'
theorem Ag.Am {α σ ρ:Type} {step step':Nat→α→σ→Option (Out σ ρ)} {l:List α} {s:σ} (h:∀ i x s,l[i]? =Option.some x→Ag (step i x s) (step' i x s)):Ag (Am step 0 l s) (Am step' 0 l s):=
  Ag.xN (fun i x s hx=>by rw[Nat.zero_add];exact h i x s hx) s
theorem Ag.on {σ ρ:Type} {o:Out σ ρ} {f g:σ→Option ρ} (h:∀ s,o= .next s→Ag (f s) (g s)):Ag (o.on f) (o.on g):=by
  cases o with
  | ret r=>exact ⟨_,rfl,rfl⟩
  | next s=>exact h s rfl
theorem dR {α:Type} {l:List α} {k:Nat} (hk:k<l.length) (h0:0<k) (hl:l.length≤9223372036854775807):∃ x,Dl l (IntKind.i64.wrap ((k:Int) - 1))=Option.some x∧l[k - 1]? =Option.some x:=by
  have hx:l[k - 1]? =Option.some (l[k - 1]'(by omega)):=Ajs (by omega)
  exact⟨_,Rt (Rx h0 (by omega)) hx,hx⟩
def Tot {α:Type} (a:Option α):Prop:=∃ r,a=Option.some r
theorem Tot.some {α:Type} (x:α):Tot (Option.some x):=⟨x,rfl⟩
theorem Tot.bif {α:Type} {c:Bool} {a b:Option α} (h:c=true→Tot a) (k:c=false→Tot b):Tot (bif c then a else b):=by
  cases c with
  | true=>exact h rfl
  | false=>exact k rfl
theorem Tot.bind {α β:Type} {a:Option α} {f:α→Option β} (h:Tot a) (k:∀ x,a=Option.some x→Tot (f x)):Tot (a.bind f):=by
  obtain⟨x,h⟩:=h
  have:=k x h
  rw[h];exact this
theorem Tot.on {σ ρ:Type} {o:Out σ ρ} {f:σ→Option ρ} (h:∀ s,Tot (f s)):Tot (o.on f):=by
  cases o with
  | ret r=>exact ⟨_,rfl⟩
  | next s=>exact h s
theorem Tot.Am {α σ ρ:Type} {step:Nat→α→σ→Option (Out σ ρ)} {l:List α} {s:σ} (h:∀ i x s,l[i]? =Option.some x→Tot (step i x s)):Tot (Am step 0 l s):=
  lK (fun i x s hx=>by rw[Nat.zero_add];exact h i x s hx) s
theorem Tot.pred {α β:Type} {l:List α} {k:Nat} {f:α→Option β} (hk:k<l.length) (h0:decide ((0:Int)<((k:Nat):Int))=true) (hl:l.length≤9223372036854775807) (h:∀ y,Tot (f y)):Tot ((Dl l (IntKind.i64.wrap (((k:Nat):Int) - (1:Int)))).bind f):=by
  obtain⟨x,h1,_⟩:=dR hk (by have:=Ajp h0;omega) hl
  rw[h1];exact h x
theorem Ag.oB {α:Type} {a b:Option α} (h:Tot a) (e:a=b):Ag a b:=Ag.of h e
def Dh {σ ρ:Type} (P:ρ→Prop) (o:Option (Out σ ρ)):Prop:=∀ r,o=Option.some (.ret r)→P r
theorem Dh.next {σ ρ:Type} {P:ρ→Prop} (s:σ):Dh P (Option.some (Out.next s)):=by intro r h;cases h
theorem Dh.ret {σ ρ:Type} {P:ρ→Prop} {r:ρ} (h:P r):Dh (σ:=σ) P (Option.some (Out.ret r)):=by intro r' h';cases h';exact h
theorem Dh.bif {σ ρ:Type} {P:ρ→Prop} {c:Bool} {a b:Option (Out σ ρ)} (h:c=true→Dh P a) (k:c=false→Dh P b):Dh P (bif c then a else b):=by
  cases c with
  | true=>exact h rfl
  | false=>exact k rfl
theorem Dh.bind {α σ ρ:Type} {P:ρ→Prop} {a:Option α} {f:α→Option (Out σ ρ)} (h:∀ x,a=Option.some x→Dh P (f x)):Dh P (a.bind f):=by
  intro r hr
  obtain⟨x,h1,h2⟩:=Ah hr
  exact h x h1 r h2
theorem Dh.okB {σ ρ:Type} {P:ρ→Prop} {c:Bool} {o:Option (Out σ ρ)} (h:Dh P o):Dh P (okB c o):=by
  cases c with
  | true=>exact h
  | false=>intro r h';cases h'
theorem Dh.Am {α σ ρ:Type} {P:ρ→Prop} {step:Nat→α→σ→Option (Out σ ρ)} (h:∀ i x s,Dh P (step i x s)):∀ {l:List α} {k:Nat} {s:σ},Dh P (Am step k l s)
  | [],k,s=>Dh.next _
  | x::l,k,s=>by
    intro r hr
    rw[Go.Ab.Am]at hr
    obtain⟨o,h1,h2⟩:=Ah hr
    cases o with
    | ret q=>exact h k x s r (by rw[h1];exact h2 ▸ rfl)
    | next s'=>exact Dh.Am h r h2
theorem qQ {σ:Type} {o:Option (Out σ Int)} {rest:Option Int} (h:Dh (·≠0) o):((o.bind fun x=>x.on fun _=>Option.some (0:Int)).bind fun y=>bif decide (y≠(0:Int))then Option.some y else rest)=o.bind fun x=>x.on fun _=>rest:=by
  cases o with
  | none=>rfl
  | some x=>
    cases x with
    | next s=>rfl
    | ret r=>
      have:=h r rfl
      show(bif decide (r≠0)then Option.some r else rest)=Option.some r
      rw[Ajq this];rfl
theorem mS {α:Type} {n lo hi:Int} {a b:α}:(bif decide (n<lo)then a else(bif decide (hi<n)then a else b))=(bif !decide (lo≤n∧n≤hi)then a else b):=by
  by_cases h1:n<lo
  ·rw[Ajq h1,Ajr (p:=lo≤n∧n≤hi) (by omega)];rfl
  ·by_cases h2:hi<n
   ·rw[Ajr h1,Ajq h2,Ajr (by omega)];rfl
   ·rw[Ajr h1,Ajr h2,Ajq (by omega)];rfl
theorem bf {p q:Prop} [Decidable p] [Decidable q]:(bif decide p then Option.some false else Option.some (decide q))=Option.some (decide (¬p∧q)):=by
  by_cases h1:p<;>by_cases h2:q<;>simp[h1,h2]
theorem bt {p q:Prop} [Decidable p] [Decidable q]:(bif decide p then Option.some (decide q)else Option.some false)=Option.some (decide (p∧q)):=by
  by_cases h1:p<;>by_cases h2:q<;>simp[h1,h2]
theorem ba {α:Type} {p q:Prop} [Decidable p] [Decidable q] {a b:α}:(bif !decide p then a else(bif !decide q then a else b))=(bif !decide (p∧q)then a else b):=by
  by_cases h1:p<;>by_cases h2:q<;>simp[h1,h2]
theorem tK {α:Type} {x y:Int} {a b:α}:(bif decide (x<y)then a else b)=(bif !decide (y≤x)then a else b):=by
  by_cases h:x<y
  ·rw[Ajq h,Ajr (by omega)];rfl
  ·rw[Ajr h,Ajq (by omega)];rfl
theorem zN {α:Type} {x y:Int} {a b:α}:(bif decide (x≤y)then a else b)=(bif !decide (y<x)then a else b):=by
  by_cases h:x≤y
  ·rw[Ajq h,Ajr (by omega)];rfl
  ·rw[Ajr h,Ajq (by omega)];rfl
theorem in2 {lo n hi:Int}:(bif (decide (lo≤n))then Option.some (decide (n≤hi))else Option.some false)=Option.some (decide (lo≤n∧n≤hi)):=bt
theorem lJ {α σ τ ρ:Type} {step:Nat→α→σ→Option (Out σ ρ)} {step':Nat→α→τ→Option (Out τ ρ)} (l:List α) (R:Nat→σ→τ→Prop)
    (hs:∀ i x s t,l[i]? =Option.some x→R i s t→(∃ s' t',step i x s=Option.some (.next s')∧step' i x t=Option.some (.next t')∧R (i+1) s' t')∨(∃ r,step i x s=Option.some (.ret r)∧step' i x t=Option.some (.ret r))) :
    ∀ (n k:Nat) (s:σ) (t:τ),l.length - k=n→k≤l.length→R k s t→(∃ s' t',Am step k (l.drop k) s=Option.some (.next s')∧Am step' k (l.drop k) t=Option.some (.next t')∧R l.length s' t')∨(∃ r,Am step k (l.drop k) s=Option.some (.ret r)∧Am step' k (l.drop k) t=Option.some (.ret r))
  | 0,k,s,t,hn,hk,hR=>by
    have:k=l.length:=by omega
    subst this
    rw[List.drop_length]
    exact .inl ⟨s,t,rfl,rfl,hR⟩
  | n+1,k,s,t,hn,hk,hR=>by
    have hlt:k<l.length:=by omega
    rw[List.drop_eq_getElem_cons hlt]
    rcases hs k _ s t (Ajs hlt) hR with⟨s',t',h1,h2,h3⟩ | ⟨r,h1,h2⟩
    ·rcases lJ l R hs n (k+1) s' t' (by omega) hlt h3 with⟨s2,t2,h4,h5,h6⟩ | ⟨r,h4,h5⟩
     ·exact .inl ⟨s2,t2,by rw[Go.Ab.Am,h1];exact h4,by rw[Go.Ab.Am,h2];exact h5,h6⟩
     ·exact .inr ⟨r,by rw[Go.Ab.Am,h1];exact h4,by rw[Go.Ab.Am,h2];exact h5⟩
    ·exact .inr ⟨r,by rw[Go.Ab.Am,h1];rfl,by rw[Go.Ab.Am,h2];rfl⟩
theorem rJ (c:Bn):R2 c=some (decide (1≤c.Kind∧c.Kind≤3∧1≤c.Target∧c.Target≤9999∧1≤c.By∧c.By≤6∧0≤c.Since∧c.Since≤20000000)):=by
  unfold R2;simp only[bt]
theorem xV (l:List Bn) (a b c:Int):Pf l ⟨a,b,c⟩=Fm l a b c:=by
  have:Jl ⟨a,b,c⟩=Ey a b c:=by
    funext k x s
    unfold Jl Ey Js
    rw[Option.bind_some]
    dsimp only
    cases decide (x.Kind=a)<;>cases decide (x.Target=b)<;>cases decide (x.By=c)<;>rfl
  unfold Pf Fm;rw[this]
theorem uI (l:List Bn) (a b c:Int):Tot (Fm l a b c):=by
  unfold Fm
  refine Tot.bind (Tot.Am fun i x s _=>?_) fun o _=>Tot.on fun _=>Tot.some _
  unfold Ey
  repeat' first | exact Tot.some _ | refine Tot.bif (fun _=>?_) (fun _=>?_)
theorem rW (l:List Bn) (hl:l.length≤1000):Ag (Mz l) (Ig l):=by
  unfold Mz Ig
  refine Ag.bif rfl (fun _=>Ag.some _) fun _=>?_
  refine Ag.bind (Ag.Am fun i x s hx=>?_) fun o _ _=>Ag.on fun _ _=>Ag.some _
  have hi:=(List.getElem?_eq_some_iff.1 hx).1
  unfold Ma Hl
  refine Ag.bind (a:=Nc x) (b:=R2 x) ⟨_,rJ x,rJ x⟩ fun y _ _=>?_
  refine Ag.bif rfl (fun _=>Ag.some _) fun _=>?_
  rw[Py (by omega),Py (by omega)]
  unfold Js
  rw[Option.bind_some,xV]
  exact Ag.bind (Ag.refl (uI _ _ _ _)) fun y _ _=>Ag.bif rfl (fun _=>Ag.some _) fun _=>Ag.some _
theorem oQ (l:List Int) (n:Int):Uy l n=some (decide (n∈l)):=Xe fun k x hx=>rfl
theorem gJ (n lo hi:Int):Qs n lo hi=some (decide (lo≤n∧n≤hi)):=by unfold Qs;exact in2
theorem rM (l:Bq) (h1:l.Items.length≤9223372036854775807) (h2:l.Signs.length≤9223372036854775807):Ag (Jr l) (Gj l):=by
  unfold Jr Gj
  refine Ag.bif rfl (fun _=>Ag.some _) fun hl1=>?_
  refine Ag.bif rfl (fun _=>Ag.some _) fun hl2=>?_
  have hl1:=Ajo hl1
  have hl2:=Ajo hl2
  rw[mS,gJ,Option.bind_some]
  refine Ag.bif rfl (fun _=>Ag.some _) fun _=>?_
  refine Ag.bind (Ag.Am fun i x s hx=>?_) fun o _ _=>Ag.on fun _ _=>?_
  ·have hi:=(List.getElem?_eq_some_iff.1 hx).1
   unfold L6 Ox
   rw[mS,gJ,Option.bind_some]
   refine Ag.bif rfl (fun _=>Ag.some _) fun _=>?_
   rw[Py (by omega),Py (by omega)]
   simp only[contains_eq,oQ,Option.bind_some]
   exact Ag.bif rfl (fun _=>Ag.some _) fun _=>Ag.some _
  ·unfold L5 Ow
   refine Ag.bind (Ag.Am fun i x s hx=>?_) fun o _ _=>Ag.on fun _ _=>Ag.some _
   have hi:=(List.getElem?_eq_some_iff.1 hx).1
   unfold L7 Oy
   simp only[contains_eq,oQ,Option.bind_some]
   refine Ag.bif rfl (fun _=>Ag.some _) fun _=>?_
   rw[mS,gJ,Option.bind_some]
   refine Ag.bif rfl (fun _=>Ag.some _) fun _=>?_
   rw[mS,gJ,Option.bind_some]
   refine Ag.bif rfl (fun _=>Ag.some _) fun _=>?_
   refine Ag.bif rfl (fun h0=>?_) fun _=>Ag.some _
   refine Ag.refl ?_
   exact Tot.pred hi h0 (by omega) fun y=>Tot.bif (fun _=>Tot.some _) fun _=>Tot.some _
theorem oP {l:Bq} (h:Gj l=some 0):l.Items.length≤64∧l.Signs.length≤200:=by
  unfold Gj at h
  by_cases h1:((64:Int)<((l.Items.length:Nat):Int))
  ·rw[Ajq h1]at h;cases h
  ·by_cases h2:((200:Int)<((l.Signs.length:Nat):Int))
   ·rw[Ajr h1,Ajq h2]at h;cases h
   ·omega
theorem mO (l:List Cv) (n:Int):Mw l n=some (match l.findIdx? (fun x=>decide (x.ID=n))with | some k=>(k:Int) | none=> -1):=by
  unfold Mw
  have key:∀ (l:List Cv) (k:Nat),Am (Ft n) k l ()=match l.findIdx? (fun x=>decide (x.ID=n))with | some j=>some (.ret ((j+k:Nat):Int)) | none=>some (.next ()):=by
    intro l
    induction l with
    | nil=>intro k;rfl
    | cons x l ih=>
      intro k
      rw[Am,List.findIdx?_cons]
      unfold Ft
      cases hx:decide (x.ID=n)with
      | true=>simp[Out.cont]
      | false=>
        rw[cond_false,Option.bind_some]
        show Am (Ft n) (k+1) l ()=_
        rw[ih (k+1)]
        cases l.findIdx? (fun x=>decide (x.ID=n))with
        | none=>rfl
        | some j=>simp;omega
  rw[key l 0]
  cases l.findIdx? (fun x=>decide (x.ID=n))with
  | none=>rfl
  | some j=>rfl
theorem uJ (p:Cb) (h1:p.Bw.length≤1000) (h2:p.Hazards.length≤1000) (h3:∀ x∈p.Bw,x.List_.Items.length≤9223372036854775807∧x.List_.Signs.length≤9223372036854775807):Ag (O2 p) (Ie p):=by
  unfold O2 Ie
  refine Ag.bif rfl (fun _=>Ag.some _) fun _=>?_
  refine Ag.bif rfl (fun _=>Ag.some _) fun _=>?_
  refine Ag.bind (Ag.Am fun i x s hx=>?_) fun o _ _=>Ag.on fun _ _=>?_
  ·have hi:=(List.getElem?_eq_some_iff.1 hx).1
   have hI:=rM x.List_ (h3 x (Ajt hx)).1 (h3 x (Ajt hx)).2
   unfold M9 Hk
   refine Ag.bif rfl (fun _=>Ag.some _) fun _=>?_
   refine Ag.bif rfl (fun _=>Ag.some _) fun _=>?_
   refine Ag.bif rfl (fun h0=>?_) fun _=>?_
   ·obtain⟨y,hy,_⟩:=dR hi (by have:=Ajp h0;omega) (by omega)
    refine Ag.bind ⟨y,hy,hy⟩ fun y _ _=>?_
    refine Ag.bif rfl (fun _=>Ag.some _) fun _=>?_
    exact Ag.bind hI fun z _ _=>Ag.bif rfl (fun _=>Ag.some _) fun _=>Ag.some _
   ·exact Ag.bind hI fun z _ _=>Ag.bif rfl (fun _=>Ag.some _) fun _=>Ag.some _
  ·unfold M8 Oj
   refine Ag.bind (Ag.Am fun i x s hx=>?_) fun o _ _=>Ag.on fun _ _=>Ag.some _
   have hi:=(List.getElem?_eq_some_iff.1 hx).1
   have hat:Tot (Oi p x.Run):=by
     unfold Oi
     refine Tot.bind (Tot.Am fun i x s _=>?_) fun o _=>Tot.on fun _=>Tot.some _
     unfold Nv
     exact Tot.bif (fun _=>Tot.some _) fun _=>Tot.some _
   unfold Na Ol
   refine Ag.bif rfl (fun _=>Ag.some _) fun _=>?_
   refine Ag.bif rfl (fun _=>Ag.some _) fun _=>?_
   refine Ag.bif rfl (fun _=>Ag.some _) fun _=>?_
   refine Ag.bif rfl (fun _=>Ag.some _) fun _=>?_
   rw[Py (by omega),mO,Option.bind_some]
   have hat2:Ag ((Le p x.Run).bind fun y5=>(bif (decide (y5<(0:Int)))then some (Out.ret (8:Int))else some (Out.next ()))) ((Oi p x.Run).bind fun y6=>(bif (decide (y6<(0:Int)))then some (Out.ret (8:Int))else some (Out.next ()))):=
     Ag.bind (a:=Le p x.Run) (b:=Oi p x.Run) (Ag.refl hat) fun z _ _=>Ag.bif rfl (fun _=>Ag.some _) fun _=>Ag.some _
   rcases Xk (step:=Ks p x) (n:=i) (s:=()) (by omega) (fun j _=>∀ y∈p.Hazards.take j,y.ID≠x.ID) (fun r=>r= .ret 7∧∃ y∈p.Hazards.take i,y.ID=x.ID) (by simp) (fun j s hj hI=>by
       have hy:p.Hazards[j]? =some (p.Hazards[j]'(by omega)):=Ajs (by omega)
       generalize (p.Hazards[j]'(by omega))=y at hy
       unfold Ks
       rw[Rt rfl hy,Option.bind_some]
       by_cases e:y.ID=x.ID
       ·rw[Ajq e]
        exact .inr ⟨_,rfl,rfl,y,Ajt (by rw[List.getElem?_take,if_pos hj];exact hy),e⟩
       ·rw[Ajr e]
        refine .inl ⟨_,rfl,fun z hz=>?_⟩
        rw[B3 hy,List.mem_append,List.mem_singleton]at hz
        rcases hz with hz | rfl
        ·exact hI z hz
        ·exact e)with ⟨s',e1,e2⟩ | ⟨r,e1,rfl,e2⟩
   ·have e3:(p.Hazards.take i).findIdx? (fun y=>decide (y.ID=x.ID))=none:=by
      rw[List.findIdx?_eq_none_iff];intro y hy;simpa using e2 y hy
    rw[e1,e3]
    exact hat2
   ·rw[e1]
    cases e3:(p.Hazards.take i).findIdx? (fun y=>decide (y.ID=x.ID))with
    | none=>
      rw[List.findIdx?_eq_none_iff]at e3
      obtain⟨y,hy,e⟩:=e2
      have:=e3 y hy;simp[e]at this
    | some j=>
      show Ag (bif decide ((0:Int)≤((j:Nat):Int))then _ else _) _
      rw[Ajq (Int.natCast_nonneg j)]
      exact Ag.some _
theorem qP (l:List Cx) (hl:l.length≤1000):Ag (Ml l) (Qp l):=by
  refine Ag.oB ?_ rfl
  unfold Ml
  refine Tot.bif (fun _=>Tot.some _) fun _=>?_
  refine Tot.bind (Tot.Am fun i x s hx=>?_) fun o _=>Tot.on fun _=>Tot.some _
  have hi:=(List.getElem?_eq_some_iff.1 hx).1
  unfold Lq
  repeat' first | exact Tot.some _ | (refine Tot.pred hi ‹_› (by omega) fun y=>?_) | refine Tot.bif (fun h0=>?_) (fun _=>?_)
theorem m7 (l:List Int) (hl:l.length≤9223372036854775807):Tot (Kx l):=by
  unfold Kx
  refine Tot.bind (Tot.Am fun i x s hx=>?_) fun o _=>Tot.on fun _=>Tot.some _
  have hi:=(List.getElem?_eq_some_iff.1 hx).1
  unfold Hp
  repeat' first | exact Tot.some _ | (refine Tot.pred hi ‹_› (by omega) fun y=>?_) | refine Tot.bif (fun h0=>?_) (fun _=>?_)
def qH (b:Bp):Prop:=1≤b.Version∧b.Version≤1000000∧0≤b.Span.From∧b.Span.From<b.Span.To∧b.Span.To≤20000000∧0≤b.Low∧b.Low<b.High∧b.High≤6000∧1≤b.Level∧b.Level≤5
instance (b:Bp):Decidable (qH b):=by unfold qH;infer_instance
theorem xX (b:Bp):Hx b=some (decide (qH b)):=by
  unfold Hx;simp only[bf,bt]
  congr 1
  rw[decide_eq_decide];unfold qH;omega
theorem j8 (l:List Bp) (i:Nat) (x:Bp):Eh l i x ()=E0 l i x ():=by
  unfold Eh E0
  rw[xX,Option.bind_some]
  by_cases h:qH x
  ·obtain⟨h1,h2,h3,h4,h5,h6,h7,h8,h9,h10⟩:=id h
   rw[Ajq h,Ajr (p:=x.Version<1) (by omega),Ajr (p:=(1000000:Int)<x.Version) (by omega),Ajr (p:=x.Span.From<0) (by omega),Ajr (p:=x.Span.To≤x.Span.From) (by omega),Ajr (p:=(20000000:Int)<x.Span.To) (by omega),Ajr (p:=x.Low<0) (by omega),Ajr (p:=x.High≤x.Low) (by omega),Ajr (p:=(6000:Int)<x.High) (by omega),Ajr (p:=x.Level<1) (by omega),Ajr (p:=(5:Int)<x.Level) (by omega)]
   rfl
  ·rw[Ajr h]
   show some (Out.ret (2:Int))=_
   by_cases h1:x.Version<1
   ·rw[Ajq h1];rfl
   rw[Ajr h1]
   by_cases h2:(1000000:Int)<x.Version
   ·rw[Ajq h2];rfl
   rw[Ajr h2]
   by_cases h3:x.Span.From<0
   ·rw[Ajq h3];rfl
   rw[Ajr h3]
   by_cases h4:x.Span.To≤x.Span.From
   ·rw[Ajq h4];rfl
   rw[Ajr h4]
   by_cases h5:(20000000:Int)<x.Span.To
   ·rw[Ajq h5];rfl
   rw[Ajr h5]
   by_cases h6:x.Low<0
   ·rw[Ajq h6];rfl
   rw[Ajr h6]
   by_cases h7:x.High≤x.Low
   ·rw[Ajq h7];rfl
   rw[Ajr h7]
   by_cases h8:(6000:Int)<x.High
   ·rw[Ajq h8];rfl
   rw[Ajr h8]
   by_cases h9:x.Level<1
   ·rw[Ajq h9];rfl
   rw[Ajr h9]
   by_cases h10:(5:Int)<x.Level
   ·rw[Ajq h10];rfl
   exact absurd ⟨by omega,by omega,by omega,by omega,by omega,by omega,by omega,by omega,by omega,by omega⟩ h
theorem pP (l:List Bp) (hl:l.length≤1000) (hz:∀ b∈l,b.Zones.length≤9223372036854775807):Ag (Hy l) (Ii l):=by
  refine Ag.oB ?_ ?_
  ·unfold Hy
   refine Tot.bif (fun _=>Tot.some _) fun _=>?_
   refine Tot.bind (Tot.Am fun i x s hx=>?_) fun o _=>Tot.on fun _=>Tot.some _
   have hi:=(List.getElem?_eq_some_iff.1 hx).1
   unfold Eh
   rw[xX,Option.bind_some]
   refine Tot.bif (fun _=>Tot.some _) fun _=>?_
   refine Tot.bind (m7 x.Zones (hz x (Ajt hx))) fun y _=>?_
   refine Tot.bif (fun _=>Tot.some _) fun _=>?_
   refine Tot.bif (fun h0=>?_) fun _=>Tot.some _
   exact Tot.pred hi h0 (by omega) fun y=>Tot.bif (fun _=>Tot.some _) fun _=>Tot.some _
  ·unfold Hy Ii
   have:Eh l=E0 l:=by funext i x s;exact j8 l i x
   rw[this]
theorem mN (n lo hi:Int):Ms n lo hi=some (decide (lo≤n∧n≤hi)):=by unfold Ms;exact in2
theorem yY (n lo hi:Int):K4 n lo hi=some (decide (lo≤n∧n≤hi)):=by unfold K4;exact in2
def lV (m:Bi):Prop:=1≤m.ID∧m.ID≤9999∧1≤m.Slide∧m.Slide≤9999∧1≤m.By∧m.By≤9999∧0≤m.State∧m.State≤6∧0≤m.Since∧m.Since≤20000000∧0≤m.Window.From∧m.Window.From<m.Window.To∧m.Window.To≤20000000
instance (m:Bi):Decidable (lV m):=by unfold lV;infer_instance
theorem Aaj (m:Bi):M0 m=some (decide (lV m)):=by
  unfold M0;simp only[bf,bt]
  congr 1
  rw[decide_eq_decide];unfold lV;omega
theorem pR (m:Bi):P3 m=some (decide (0≤m.State∧m.State≤4)):=by
  unfold P3 Ix Et
  by_cases h0:m.State=0
  ·rw[Ajq h0,Ajq (p:=0≤m.State∧m.State≤4) (by omega)];rfl
  ·by_cases h1:m.State=1
   ·rw[Ajr h0,Ajq h1,Ajq (p:=0≤m.State∧m.State≤4) (by omega)];rfl
   ·by_cases h2:m.State=2
    ·rw[Ajr h0,Ajr h1,Ajq h2,Ajq (p:=0≤m.State∧m.State≤4) (by omega)];rfl
    ·by_cases h3:m.State=3
     ·rw[Ajr h0,Ajr h1,Ajr h2,Ajq h3,Ajq (p:=0≤m.State∧m.State≤4) (by omega)];rfl
     ·by_cases h4:m.State=4
      ·rw[Ajr h0,Ajr h1,Ajr h2,Ajr h3,Ajq h4,Ajq (p:=0≤m.State∧m.State≤4) (by omega)];rfl
      ·rw[Ajr h0,Ajr h1,Ajr h2,Ajr h3,Ajr h4,Ajr (p:=0≤m.State∧m.State≤4) (by omega)];rfl
theorem gV (m:Bi):Nl m=some (decide (0≤m.State∧m.State≤4)):=by unfold Nl;rw[mN];rfl
def opn (m:Bi):Bool:=decide (0≤m.State∧m.State≤4)
theorem wC (l:List Bi) (s:Int):Qn l s=some (l.any fun x=>opn x&&decide (x.Slide=s)):=by
  unfold Qn
  rw[Fo (fun x=>opn x&&decide (x.Slide=s)) (fun _=>true) (fun k x _=>by
   unfold On;rw[gV,Option.bind_some];show(bif opn x then _ else _)=_
   cases opn x<;>cases decide (x.Slide=s)<;>rfl)]
  cases h:l.find? (fun x=>opn x&&decide (x.Slide=s))with
  | none=>
    have:(l.any fun x=>opn x&&decide (x.Slide=s))=false:=by
      rw[List.any_eq_false];rw[List.find?_eq_none]at h;exact h
    rw[this];rfl
  | some x=>
    have:(l.any fun x=>opn x&&decide (x.Slide=s))=true:=by
      rw[List.any_eq_true];exact⟨x,List.mem_of_find?_eq_some h,List.find?_some (p:=fun x=>opn x&&decide (x.Slide=s)) h⟩
    rw[this];rfl
theorem r5 (l:List Bi) (i:Nat) (x:Bi) (hi:i<l.length) (hl:l.length≤1000) :
    ((Kc (H3 l i x) i ()).bind fun o4=>o4.on fun s4=>some (Out.next ()))=(some (bif opn x&&((l.take i).any fun y=>opn y&&decide (y.Slide=x.Slide))then Out.ret (15:Int)else Out.next ()):Option (Out Unit Int)):=by
  rcases Xk (step:=H3 l i x) (n:=i) (s:=()) (by omega) (fun j _=>∀ y∈l.take j,¬ (opn x=true∧opn y=true∧y.Slide=x.Slide)) (fun r=>r= .ret 15∧∃ y∈l.take i,opn x=true∧opn y=true∧y.Slide=x.Slide) (by simp) (fun j s hj hI=>by
      have hy:l[j]? =some (l[j]'(by omega)):=Ajs (by omega)
      generalize (l[j]'(by omega))=y at hy
      have hyt:(l.take i)[j]? =some y:=by rw[List.getElem?_take,if_pos hj];exact hy
      unfold H3
      rw[Rt rfl hyt,Option.bind_some,pR,pR,Option.bind_some,Option.bind_some]
      show(∃ s',(bif opn x then bif opn y then _ else _ else _)=_∧_)∨(∃ r,(bif opn x then bif opn y then _ else _ else _)=_∧_)
      by_cases e:opn x=true∧opn y=true∧y.Slide=x.Slide
      ·rw[e.1,e.2.1,Ajq e.2.2]
       exact .inr ⟨_,rfl,rfl,y,Ajt hyt,e.1 ▸ e⟩
      ·refine .inl ⟨(),?_,fun z hz=>?_⟩
       ·cases h1:opn x with
        | false=>rfl
        | true=>
          cases h2:opn y with
          | false=>rfl
          | true=>rw[Ajr (fun h3=>e ⟨h1,h2,h3⟩)];rfl
       ·rw[B3 hy,List.mem_append,List.mem_singleton]at hz
        rcases hz with hz | rfl
        ·exact hI z hz
        ·exact e)with ⟨s',e1,e2⟩ | ⟨r,e1,rfl,y,hy,e2,e3,e4⟩
  ·rw[e1]
   have:(opn x&&((l.take i).any fun y=>opn y&&decide (y.Slide=x.Slide)))=false:=by
     rw[Bool.and_eq_false_iff]
     by_cases hx:opn x=true
     ·right
      rw[List.any_eq_false]
      intro y hy h
      simp at h
      exact e2 y hy ⟨hx,h.1,h.2⟩
     ·left;simpa using hx
   rw[this];rfl
  ·rw[e1]
   have:(opn x&&((l.take i).any fun y=>opn y&&decide (y.Slide=x.Slide)))=true:=by
     rw[Bool.and_eq_true]
     exact⟨e2,List.any_eq_true.2 ⟨y,hy,by simp[e3,e4]⟩⟩
   rw[this];rfl
theorem uY (l:List Bi) (n:Int):Tot (Nx l n):=by
  unfold Nx
  refine Tot.bind (Tot.Am fun i x s _=>?_) fun o _=>Tot.on fun _=>Tot.some _
  unfold Oo
  exact Tot.bif (fun _=>Tot.some _) fun _=>Tot.some _
theorem xY (l:List Bi) (hl:l.length≤1000):Ag (Q2 l) (Ih l):=by
  unfold Q2 Ih
  refine Ag.bif rfl (fun _=>Ag.some _) fun _=>?_
  refine Ag.bind (Ag.Am fun i x s hx=>?_) fun o _ _=>Ag.on fun _ _=>Ag.some _
  have hi:=(List.getElem?_eq_some_iff.1 hx).1
  unfold Pg Hm
  simp only[Aaj,mN,Option.bind_some]
  rw[tK (x:=x.Window.From),zN (x:=x.Window.To),tK (y:=x.Window.To)]
  simp only[ba]
  rw[show decide (lV x)=decide ((1≤x.ID∧x.ID≤9999)∧(1≤x.Slide∧x.Slide≤9999)∧(1≤x.By∧x.By≤9999)∧(0≤x.State∧x.State≤6)∧(0≤x.Since∧x.Since≤20000000)∧0≤x.Window.From∧x.Window.From<x.Window.To∧x.Window.To≤20000000) from by rw[decide_eq_decide];unfold lV;omega]
  refine Ag.bif rfl (fun _=>Ag.some _) fun _=>?_
  have ho:∀ {α:Type} (o:Option α),okB (decide ((0:Int)≤((i:Nat):Int)∧((i:Nat):Int)≤((l.length:Nat):Int))) o=o:=fun o=>Py (by omega)
  simp only[ho]
  refine Ag.bind (a:=Vz (l.take i) x.ID) (b:=Nx (l.take i) x.ID) (Ag.refl (uY _ _)) fun y _ _=>?_
  refine Ag.bif rfl (fun _=>Ag.some _) fun _=>?_
  rw[r5 l i x hi hl,gV,Option.bind_some]
  show Ag _ (bif opn x then _ else _)
  cases h:opn x with
  | false=>exact Ag.some _
  | true=>
    rw[cond_true,wC,Option.bind_some,Bool.true_and]
    cases((l.take i).any fun y=>opn y&&decide (y.Slide=x.Slide))<;>exact Ag.some _
def lX (g:B6):Prop:=1≤g.ID∧g.ID≤9999∧1≤g.Node∧g.Node≤9999∧0≤g.Fuel∧g.Fuel≤1000000∧0≤g.State∧g.State≤2∧0≤g.Until∧g.Until≤20000000∧0≤g.To∧g.To≤9999∧0≤g.Run∧g.Run≤9999
instance (m:B6):Decidable (lX m):=by unfold lX;infer_instance
theorem Aao (m:B6):Jj m=some (decide (lX m)):=by
  unfold Jj;simp only[bf,bt]
  congr 1
  rw[decide_eq_decide];unfold lX;omega
theorem oR (l:List B6) (n:Int):∃ r,Qr l n=some r∧(0≤r↔∃ x∈l,x.ID=n):=by
  unfold Qr
  rcases Fb (step:=K3 n) (l:=l) (s:=()) (fun k _=>∀ x∈l.take k,x.ID≠n) (fun r=>0≤r∧∃ x∈l,x.ID=n) (by simp) (fun k x s hk hI=>by
      unfold K3
      by_cases e:x.ID=n
      ·rw[Ajq e];exact .inr ⟨_,rfl,by omega,x,Ajt hk,e⟩
      ·rw[Ajr e]
       refine .inl ⟨_,rfl,fun z hz=>?_⟩
       rw[B3 hk,List.mem_append,List.mem_singleton]at hz
       rcases hz with hz | rfl
       ·exact hI z hz
       ·exact e)with ⟨s',e1,e2⟩ | ⟨r,e1,e2,e3⟩
  ·rw[List.take_length]at e2
   rw[e1]
   exact⟨_,rfl,by constructor
                  ·intro h;exact absurd h (by decide)
                  ·rintro⟨x,hx,e⟩;exact absurd e (e2 x hx)⟩
  ·rw[e1];exact⟨r,rfl,fun _=>e3,fun _=>e2⟩
theorem rP (l:List B6) (hl:l.length≤1000):Ag (Mx l) (N2 l):=by
  unfold Mx N2
  refine Ag.bif rfl (fun _=>Ag.some _) fun _=>?_
  have key:=lJ (step:=Hu) (step':=K5 l) l (fun k sv _=>∀ n,mget false sv n=decide (∃ x∈l.take k,x.ID=n)) (fun i x sv t hx hR=>by
    have hi:=(List.getElem?_eq_some_iff.1 hx).1
    unfold Hu K5
    simp only[Aao,yY,Option.bind_some,ba]
    rw[show decide (lX x)=decide ((1≤x.ID∧x.ID≤9999)∧(1≤x.Node∧x.Node≤9999)∧(0≤x.Fuel∧x.Fuel≤1000000)∧(0≤x.State∧x.State≤2)∧(0≤x.Until∧x.Until≤20000000)∧(0≤x.To∧x.To≤9999)∧0≤x.Run∧x.Run≤9999) from by rw[decide_eq_decide];unfold lX;omega]
    rw[Py (by omega)]
    obtain⟨r,h1,h2⟩:=oR (l.take i) x.ID
    rw[h1,Option.bind_some,hR,show decide ((0:Int)≤r)=decide (∃ y∈l.take i,y.ID=x.ID) from by rw[decide_eq_decide];exact h2]
    generalize (!decide ((1≤x.ID∧x.ID≤9999)∧(1≤x.Node∧x.Node≤9999)∧(0≤x.Fuel∧x.Fuel≤1000000)∧(0≤x.State∧x.State≤2)∧(0≤x.Until∧x.Until≤20000000)∧(0≤x.To∧x.To≤9999)∧0≤x.Run∧x.Run≤9999))=b1
    generalize hb2:decide (∃ y∈l.take i,y.ID=x.ID)=b2
    generalize (decide (x.To≠0) !=decide (x.State=1))=b3
    generalize (decide (x.Run≠0) !=decide (x.State=2))=b4
    cases b1 with
    | true=>exact .inr ⟨_,rfl,rfl⟩
    | false=>
      cases b2 with
      | true=>exact .inr ⟨_,rfl,rfl⟩
      | false=>
        cases b3 with
        | true=>exact .inr ⟨_,rfl,rfl⟩
        | false=>
          cases b4 with
          | true=>exact .inr ⟨_,rfl,rfl⟩
          | false=>
            refine .inl ⟨_,_,rfl,rfl,fun n=>?_⟩
            rw[Yh,hR]
            by_cases e:x.ID=n
            ·subst e
             rw[if_pos rfl,eq_comm,decide_eq_true_iff]
             exact⟨x,by rw[B3 hx];simp,rfl⟩
            ·rw[if_neg e,decide_eq_decide,B3 hx]
             constructor
             ·rintro⟨y,hy,e'⟩;exact⟨y,List.mem_append_left _ hy,e'⟩
             ·rintro⟨y,hy,e'⟩
              rw[List.mem_append,List.mem_singleton]at hy
              rcases hy with hy | rfl
              ·exact⟨y,hy,e'⟩
              ·exact absurd e' e) l.length 0 [] () rfl (Nat.zero_le _) (fun n=>by simp[mget])
  rw[List.drop_zero]at key
  rcases key with⟨s',t',h1,h2,_⟩ | ⟨r,h1,h2⟩
  ·rw[h1,h2];exact Ag.some _
  ·rw[h1,h2];exact Ag.some _
theorem Aae (m:Bd):gP m=Mk m:=rfl
theorem Aak (m:Bd):Ag (Mk m) (Ij m):=by
  obtain⟨r,h1,h2,_⟩:=Wu m
  exact⟨r,by rw[← Aae];exact h1,h2⟩
theorem S3 (m:Bd) (id:Int):Ex m id=some (Kb m id):=Xl fun _ _ _=>rfl
theorem aN (m:Bd) (id:Int):Lz m id=some (Kb m id):=Xl fun _ _ _=>rfl
theorem wB (m:Bd) (id:Int):Od m id=some (Abk m id):=Xl fun _ _ _=>rfl
theorem wA (m:Bd) (id:Int):Dz m id=some (Cw m id):=Xl fun _ _ _=>rfl
structure sK (f:Ak):Prop where
  closures:f.Closures.length≤12
  lists:f.Patrol.Bw.length≤12
  hazards:f.Patrol.Hazards.length≤12
  surfaces:f.Surfaces.length≤12
  slides:f.Slides.length≤12
  bulletin:f.Bulletin.length≤12
  missions:f.Missions.length≤12
  winches:f.Winches.length≤12
  groomers:f.Groomers.length≤12
structure vU (f:Ak):Prop where
  items:∀ x∈f.Patrol.Bw,x.List_.Items.length≤9223372036854775807∧x.List_.Signs.length≤9223372036854775807
  zones:∀ x∈f.Slides,x.Zones.length≤9223372036854775807∧x.Lifts.length≤9223372036854775807
  bzones:∀ x∈f.Bulletin,x.Zones.length≤9223372036854775807
  runs:∀ x∈f.Winches,x.Runs.length≤9223372036854775807
theorem wS (f:Ak) (h:sK f) (hi:vU f):Ag (E3 f) (Km f):=by
  obtain⟨y1,a1,b1⟩:=Aak f.Map
  obtain⟨y2,a2,b2⟩:=rW f.Closures (by have:=h.closures;omega)
  obtain⟨y3,a3,b3⟩:=uJ f.Patrol (by have:=h.lists;omega) (by have:=h.hazards;omega) (fun x hx=>by have:=hi.items x hx;omega)
  obtain⟨y4,a4,b4⟩:=qP f.Surfaces (by have:=h.surfaces;omega)
  obtain⟨y5,a5,b5,_⟩:=S50.Wu f.Slides ⟨by have:=h.slides;omega,hi.zones⟩
  obtain⟨y6,a6,b6⟩:=pP f.Bulletin (by have:=h.bulletin;omega) hi.bzones
  obtain⟨y7,a7,b7⟩:=xY f.Missions (by have:=h.missions;omega)
  obtain⟨y8,b8,a8,_⟩:=W46.nK hi.runs
  obtain⟨y9,a9,b9⟩:=rP f.Groomers (by have:=h.groomers;omega)
  unfold E3 Km
  simp only[a1,a2,a3,a4,a5,a6,a7,a8,a9,b1,b2,b3,b4,b5,b6,b7,b8,b9,Option.bind_some]
  have st:∀ (k:Nat) y,[y1,y2,y3,y4,y5,y6,y7,y8,y9][k]? =some y→∀ s:Unit,Fy y1 y2 y3 y4 y5 y6 y7 y8 y9 k () s=(bif decide (y≠0)then some (Out.ret y)else some (Out.next ())):=by
    intro k y hk s
    unfold Fy
    rw[Rt rfl hk];rfl
  unfold Kc
  rw[if_pos (by decide),show List.replicate 9 ()=[(),(),(),(),(),(),(),(),()] from rfl]
  simp only[Am,Nat.zero_add,Nat.reduceAdd]
  simp only[st 0 y1 rfl,st 1 y2 rfl,st 2 y3 rfl,st 3 y4 rfl,st 4 y5 rfl,st 5 y6 rfl,st 6 y7 rfl,st 7 y8 rfl,st 8 y9 rfl]
  by_cases e9:y9=0
  ·subst e9
   cases decide (y1≠0)
   rotate_left
   ·exact⟨_,rfl,rfl⟩
   cases decide (y2≠0)
   rotate_left
   ·exact⟨_,rfl,rfl⟩
   cases decide (y3≠0)
   rotate_left
   ·exact⟨_,rfl,rfl⟩
   cases decide (y4≠0)
   rotate_left
   ·exact⟨_,rfl,rfl⟩
   cases decide (y5≠0)
   rotate_left
   ·exact⟨_,rfl,rfl⟩
   cases decide (y6≠0)
   rotate_left
   ·exact⟨_,rfl,rfl⟩
   cases decide (y7≠0)
   rotate_left
   ·exact⟨_,rfl,rfl⟩
   cases decide (y8≠0)
   rotate_left
   ·exact⟨_,rfl,rfl⟩
   exact⟨_,rfl,rfl⟩
  ·rw[Ajq (p:=y9≠0) e9]
   cases decide (y1≠0)
   rotate_left
   ·exact⟨_,rfl,rfl⟩
   cases decide (y2≠0)
   rotate_left
   ·exact⟨_,rfl,rfl⟩
   cases decide (y3≠0)
   rotate_left
   ·exact⟨_,rfl,rfl⟩
   cases decide (y4≠0)
   rotate_left
   ·exact⟨_,rfl,rfl⟩
   cases decide (y5≠0)
   rotate_left
   ·exact⟨_,rfl,rfl⟩
   cases decide (y6≠0)
   rotate_left
   ·exact⟨_,rfl,rfl⟩
   cases decide (y7≠0)
   rotate_left
   ·exact⟨_,rfl,rfl⟩
   cases decide (y8≠0)
   rotate_left
   ·exact⟨_,rfl,rfl⟩
   exact⟨_,rfl,rfl⟩
theorem kR (p:Fe):Ki p=K6 p:=rfl
theorem mE (p:Fe):K6 p=some (decide ((0≤p.Natural∧p.Natural≤20000)∧(0≤p.Machine∧p.Machine≤20000)∧50≤p.Density∧p.Density≤900)):=by
  unfold K6 Uz
  simp only[bt,Option.bind_some]
theorem lI (f:Ak) (h:sK f) (hi:vU f) (h1:f.Lifts.length≤100) (h2:f.Packs.length≤100) (h3:f.Status.length≤100):Ag (Ge f) (Ic f):=by
  unfold Ge Ic
  refine Ag.bind (wS f h hi) fun y _ _=>?_
  refine Ag.bif rfl (fun _=>Ag.some _) fun _=>?_
  refine Ag.bif rfl (fun _=>Ag.some _) fun _=>?_
  refine Ag.bif rfl (fun _=>Ag.some _) fun _=>?_
  refine Ag.bif rfl (fun _=>Ag.some _) fun _=>?_
  unfold Gn
  rw[qQ (Dh.Am fun i x s=>by
   unfold D6
   repeat' first | exact Dh.ret (by decide) | exact Dh.next _ | refine Dh.bif (fun _=>?_) (fun _=>?_) | refine Dh.bind fun _ _=>?_)]
  refine Ag.bind (Ag.Am fun i x s hx=>?_) fun o _ _=>Ag.on fun _ _=>?_
  ·have hi':=(List.getElem?_eq_some_iff.1 hx).1
   refine Ag.oB ?_ rfl
   unfold D6
   rw[wB,Option.bind_some]
   repeat' first | exact Tot.some _ | (refine Tot.pred hi' ‹_› (by omega) fun y=>?_) | refine Tot.bif (fun h0=>?_) (fun _=>?_)
  unfold Gm Ko
  rw[qQ (Dh.Am fun i x s=>by
   unfold D5
   repeat' first | exact Dh.ret (by decide) | exact Dh.next _ | refine Dh.bif (fun _=>?_) (fun _=>?_) | refine Dh.bind fun _ _=>?_)]
  refine Ag.bind (Ag.Am fun i x s hx=>?_) fun o _ _=>Ag.on fun _ _=>?_
  ·have hi':=(List.getElem?_eq_some_iff.1 hx).1
   refine Ag.oB ?_ rfl
   unfold D5
   rw[kR,mE,Option.bind_some]
   repeat' first | exact Tot.some _ | (refine Tot.pred hi' ‹_› (by omega) fun y=>?_) | refine Tot.bif (fun h0=>?_) (fun _=>?_)
  unfold Ga Kn
  rw[qQ (Dh.Am fun i x s=>by
   unfold Dy
   repeat' first | exact Dh.ret (by decide) | exact Dh.next _ | refine Dh.bif (fun _=>?_) (fun _=>?_) | refine Dh.bind fun _ _=>?_)]
  refine Ag.bind (Ag.Am fun i x s hx=>?_) fun o _ _=>Ag.on fun _ _=>?_
  ·have hi':=(List.getElem?_eq_some_iff.1 hx).1
   refine Ag.oB ?_ rfl
   unfold Dy
   rw[S3,Option.bind_some]
   repeat' first | exact Tot.some _ | (refine Tot.pred hi' ‹_› (by omega) fun y=>?_) | refine Tot.bif (fun h0=>?_) (fun _=>?_)
  refine Ag.refl ?_
  repeat' first | exact Tot.some _ | refine Tot.bif (fun h0=>?_) (fun _=>?_)
def stp (L:List Int→Int→Bool) (s:List Int):List Int:=s.filter (L s)
def iter (L:List Int→Int→Bool):Nat→List Int→List Int
  | 0,s=>s
  | n+1,s=>iter L n (stp L s)
section
variable {L:List Int→Int→Bool}
theorem gF (s:List Int):(stp L s).Sublist s:=List.filter_sublist
theorem sQ {s:List Int} (h:(stp L s).length=s.length):stp L s=s:=(gF s).eq_of_length h
theorem Xb {s:List Int} (h:stp L s=s):∀ n,iter L n s=s
  | 0=>rfl
  | n+1=>by rw[iter,h];exact Xb h n
theorem Tg:∀ (n:Nat) (s:List Int),s.length≤n→stp L (iter L n s)=iter L n s
  | 0,s,h=>by
    have:s=[]:=List.eq_nil_of_length_eq_zero (by omega)
    subst this;rfl
  | n+1,s,h=>by
    by_cases e:stp L s=s
    ·rw[Xb e];exact e
    ·have h1:=(gF (L:=L) s).length_le
     have h2:(stp L s).length≠s.length:=fun h=>e (sQ h)
     exact Tg n _ (by omega)
theorem iN:∀ (n m:Nat) (s:List Int),iter L (n+m) s=iter L m (iter L n s)
  | 0,m,s=>by rw[Nat.zero_add];rfl
  | n+1,m,s=>by rw[Nat.succ_add];exact iN n m _
theorem iter_eq {s:List Int} {n m:Nat} (hn:stp L (iter L n s)=iter L n s) (hm:stp L (iter L m s)=iter L m s):iter L n s=iter L m s:=by
  have h1:=Xb hn m
  have h2:=Xb hm n
  rw[← iN]at h1 h2
  rw[← h1,Nat.add_comm,h2]
theorem oO:∀ (n:Nat) (s:List Int),(iter L n s).Sublist s
  | 0,s=>List.Sublist.refl _
  | n+1,s=>(oO n _).trans (gF s)
def gfp (L:List Int→Int→Bool) (s:List Int):List Int:=iter L s.length s
theorem rQ (s:List Int):stp L (gfp L s)=gfp L s:=Tg _ _ (Nat.le_refl _)
theorem eX {s:List Int} {n:Nat} (h:stp L (iter L n s)=iter L n s):iter L n s=gfp L s:=iter_eq h (rQ s)
end
theorem U8 {α:Type} {step:Nat→α→Unit→Option (Out Unit Bool)} {l:List α} (p:α→Bool) (hs:∀ k x,x∈l→step k x ()=bif p x then some (.ret true)else some (.next ())) :
    ((Am step 0 l ()).bind fun o=>o.on fun _=>some false)=some (l.any p):=by
  rw[Fo p (fun _=>true) hs]
  cases h:l.find? p with
  | none=>
    have:l.any p=false:=by rw[List.any_eq_false];rw[List.find?_eq_none]at h;exact h
    rw[this];rfl
  | some x=>
    have:l.any p=true:=by rw[List.any_eq_true];exact⟨x,List.mem_of_find?_eq_some h,List.find?_some h⟩
    rw[this];rfl
theorem tC {α:Type} {step:Nat→α→Unit→Option (Out Unit Int)} {l:List α} (p:α→Bool) (hs:∀ k x,x∈l→step k x ()=bif p x then some (.ret ((k:Nat):Int))else some (.next ())) :
    ∃ r,((Am step 0 l ()).bind fun o=>o.on fun _=>some (-1:Int))=some r∧((r= -1∧∀ x∈l,p x=false)∨∃ (k:Nat) (x:α),r=(k:Int)∧l[k]? =some x∧p x=true):=by
  rcases Fb (step:=step) (l:=l) (s:=()) (fun k _=>∀ x∈l.take k,p x=false) (fun r=>∃ (k:Nat) (x:α),r=(k:Int)∧l[k]? =some x∧p x=true) (by simp) (fun k x s hk hI=>by
      rw[hs k x (Ajt hk)]
      cases h:p x with
      | true=>exact .inr ⟨_,rfl,k,x,rfl,hk,h⟩
      | false=>
        refine .inl ⟨_,rfl,fun z hz=>?_⟩
        rw[B3 hk,List.mem_append,List.mem_singleton]at hz
        rcases hz with hz | rfl
        ·exact hI z hz
        ·exact h)with ⟨s',e1,e2⟩ | ⟨r,e1,e2⟩
  ·rw[List.take_length]at e2
   rw[e1];exact⟨_,rfl,.inl ⟨rfl,e2⟩⟩
  ·rw[e1];exact⟨r,rfl,.inr e2⟩
def clo (l:List Bn) (kind target:Int):Bool:=l.any fun c=>decide (c.Kind=kind)&&decide (c.Target=target)
theorem lQ (l:List Bn) (kind target:Int):Hw l kind target=some (clo l kind target):=by
  unfold Hw clo
  refine U8 _ fun k x _=>?_
  unfold J7
  rw[Ajq (Int.natCast_nonneg k)]
  cases decide (x.Kind=kind)<;>cases decide (x.Target=target)<;>rfl
theorem rB (l:List Bn) (a b c:Int):∃ r,Fm l a b c=some r∧(0≤r↔∃ x∈l,x.Kind=a∧x.Target=b∧x.By=c):=by
  unfold Fm
  obtain⟨r,h1,h2⟩:=tC (step:=Ey a b c) (l:=l) (fun x=>decide (x.Kind=a)&&(decide (x.Target=b)&&decide (x.By=c))) (fun k x _=>by
    unfold Ey
    cases decide (x.Kind=a)<;>cases decide (x.Target=b)<;>cases decide (x.By=c)<;>rfl)
  refine⟨r,h1,?_⟩
  rcases h2 with⟨rfl,h2⟩ | ⟨k,x,rfl,h3,h4⟩
  ·constructor
   ·intro h;exact absurd h (by decide)
   ·rintro⟨x,hx,e1,e2,e3⟩
    have:=h2 x hx
    simp[e1,e2,e3]at this
  ·simp at h4
   exact⟨fun _=>⟨x,Ajt h3,h4.1,h4.2.1,h4.2.2⟩,fun _=>Int.natCast_nonneg k⟩
theorem of_eq {l:List Bn} (hb:∀ c∈l,1≤c.By∧c.By≤6) (kind target:Int):∃ r,Sc l kind target=some r∧decide ((0:Int)<((r.length:Nat):Int))=clo l kind target:=by
  unfold Sc
  obtain⟨s',h1,h2,h3⟩:=bH (ρ:=List Int) (n:=6) (step:=Qm l kind target) (s:=[]) (by omega) (fun k s=>s.length≤k∧(s≠[]↔∃ x∈l,x.Kind=kind∧x.Target=target∧x.By≤k)) ⟨by simp,by
      constructor
      ·intro h;exact absurd rfl h
      ·rintro⟨x,hx,_,_,h⟩;have:=(hb x hx).1;omega⟩ (fun k s hk ⟨hI1,hI2⟩=>by
    obtain⟨r,h1,h2⟩:=rB l kind target (((k:Nat):Int)+1)
    unfold Qm
    rw[h1,Option.bind_some]
    by_cases h:0≤r
    ·rw[Ajq h,cond_true,Cj (by omega)]
     refine⟨_,rfl,by simp;omega,?_⟩
     obtain⟨x,hx,e1,e2,e3⟩:=h2.1 h
     exact⟨fun _=>⟨x,hx,e1,e2,by rw[e3];omega⟩,fun _=>by simp⟩
    ·rw[Ajr h]
     refine⟨_,rfl,by omega,?_⟩
     rw[hI2]
     constructor
     ·rintro⟨x,hx,e1,e2,e3⟩;exact⟨x,hx,e1,e2,by omega⟩
     ·rintro⟨x,hx,e1,e2,e3⟩
      refine⟨x,hx,e1,e2,?_⟩
      by_cases e:x.By=(k:Int)+1
      ·exact absurd (h2.2 ⟨x,hx,e1,e2,e⟩) h
      ·omega)
  rw[h1]
  refine⟨s',rfl,?_⟩
  have:(0:Int)<((s'.length:Nat):Int)↔s'≠[]:=by
    constructor
    ·intro h e;subst e;simp at h
    ·intro h;have:=List.length_pos_iff.2 h;omega
  unfold clo
  rw[Bool.eq_iff_iff,decide_eq_true_iff,this,h3,List.any_eq_true]
  constructor
  ·rintro⟨x,hx,e1,e2,_⟩;exact⟨x,hx,by simp[e1,e2]⟩
  ·rintro⟨x,hx,e⟩;simp at e;exact⟨x,hx,e.1,e.2,(hb x hx).2⟩
theorem zI (m:Bd) (l:List Bn) (run:Int) (h:(Kb m run).2=true):Q1 m l run=some (clo l 1 run||clo l 3 (Kb m run).1.Zone):=by
  unfold Q1
  rw[S3,Option.bind_some,h,cond_true,lQ,lQ,Option.bind_some]
  cases clo l 1 run<;>rfl
theorem wP {m:Bd} {l:List Bn} (hb:∀ c∈l,1≤c.By∧c.By≤6) (run:Int) (h:(Kb m run).2=true):Uu m l run=some (clo l 1 run||clo l 3 (Kb m run).1.Zone):=by
  obtain⟨r1,h1,h2⟩:=of_eq hb 1 run
  obtain⟨r3,h3,h4⟩:=of_eq hb 3 (Kb m run).1.Zone
  unfold Uu
  rw[aN,Option.bind_some,h,cond_true,h1,Option.bind_some,h2,h3,Option.bind_some,h4]
  cases clo l 1 run<;>rfl
def gon (l:List B6) (run:Int):Bool:=l.any fun g=>decide (g.State=2)&&decide (g.Run=run)
theorem Aap (l:List B6) (run:Int):Sn l run=some (gon l run):=by
  unfold Sn gon
  refine U8 _ fun k x _=>?_
  unfold Qf
  rw[Ajq (Int.natCast_nonneg k)]
  cases decide (x.State=2)<;>cases decide (x.Run=run)<;>rfl
theorem yK (l:List B6) (run:Int):W3 l run=some (gon l run):=by
  unfold W3 gon
  refine U8 _ fun k x _=>?_
  unfold Td
  cases decide (x.State=2)<;>cases decide (x.Run=run)<;>rfl
theorem Zn (l:List Int) (n:Int):Hj l n=some (decide (n∈l)):=Xe fun k x hx=>rfl
def act (m:Bi):Bool:=decide (1≤m.State∧m.State≤4)
theorem Aa0 (m:Bi):Ix m=some (act m):=by
  unfold Ix Et act
  by_cases h1:m.State=1
  ·rw[Ajq h1,Ajq (p:=1≤m.State∧m.State≤4) (by omega)];rfl
  ·by_cases h2:m.State=2
   ·rw[Ajr h1,Ajq h2,Ajq (p:=1≤m.State∧m.State≤4) (by omega)];rfl
   ·by_cases h3:m.State=3
    ·rw[Ajr h1,Ajr h2,Ajq h3,Ajq (p:=1≤m.State∧m.State≤4) (by omega)];rfl
    ·by_cases h4:m.State=4
     ·rw[Ajr h1,Ajr h2,Ajr h3,Ajq h4,Ajq (p:=1≤m.State∧m.State≤4) (by omega)];rfl
     ·rw[Ajr h1,Ajr h2,Ajr h3,Ajr h4,Ajr (p:=1≤m.State∧m.State≤4) (by omega)];rfl
def acts (l:List Bi):List Int:=(l.filter act).map Bi.Slide
theorem r7 {l:List Bi} (hl:l.length≤1000):Mc l=some (Dc (acts l)):=by
  unfold Mc
  rw[C4 (p:=act) (g:=Bi.Slide) (by omega) (fun k x s _=>by unfold Nd;rw[Aa0,Option.bind_some])]
  show chk (acts l).length _=_
  rw[Cj (by have:=List.length_filter_le act l;unfold acts;rw[List.length_map];omega)];rfl
theorem mB (l:List Bi) (last:Int) (h0:0≤last) (hr:∀ m∈l,1≤m.Slide):∃ s,Am (Gd last) 0 l 0=some (.next s)∧((s=0∧∀ n∈acts l,n≤last)∨(s∈acts l∧last<s∧∀ n∈acts l,last<n→s≤n)):=by
  obtain⟨s',h1,h2⟩:=Dv (ρ:=Out (Int×List Int) (List Int)) (step:=Gd last) (l:=l) (s:=0) (fun k s=>(s=0∧∀ n∈acts (l.take k),n≤last)∨(s∈acts (l.take k)∧last<s∧∀ n∈acts (l.take k),last<n→s≤n)) (.inl ⟨rfl,by simp[acts]⟩) (fun k x s hk hI=>by
    have hx:=Ajt hk
    have hx1:=hr x hx
    have e:acts (l.take (k+1))=acts (l.take k)++(if act x=true then [x.Slide]else []):=by
      unfold acts;rw[B3 hk,List.filter_append,List.map_append]
      cases h:act x<;>simp[h]
    unfold Gd
    rw[gV,Option.bind_some,e]
    by_cases ha:1≤x.State∧x.State≤4
    ·have hact:act x=true:=Ajq ha
     rw[Ajq (p:=0≤x.State∧x.State≤4) (by omega),Ajq (p:=x.State≠0) (by omega),if_pos hact]
     simp only[cond_true]
     by_cases hl:last<x.Slide
     ·rw[Ajq hl,cond_true]
      by_cases hs:s=0
      ·rw[Ajq hs]
       refine⟨_,rfl,.inr ⟨by simp,hl,fun n hn hln=>?_⟩⟩
       rcases hI with⟨_,hI⟩ | ⟨hI1,hI2,_⟩
       ·rw[List.mem_append,List.mem_singleton]at hn
        rcases hn with hn | rfl
        ·have:=hI n hn;omega
        ·exact Int.le_refl _
       ·omega
      ·rw[Ajr hs,cond_false]
       rcases hI with⟨h,_⟩ | ⟨hI1,hI2,hI3⟩
       ·exact absurd h hs
       by_cases hlt:x.Slide<s
       ·rw[Ajq hlt]
        refine⟨_,rfl,.inr ⟨by simp,hl,fun n hn hln=>?_⟩⟩
        rw[List.mem_append,List.mem_singleton]at hn
        rcases hn with hn | rfl
        ·have:=hI3 n hn hln;omega
        ·exact Int.le_refl _
       ·rw[Ajr hlt]
        refine⟨_,rfl,.inr ⟨List.mem_append_left _ hI1,hI2,fun n hn hln=>?_⟩⟩
        rw[List.mem_append,List.mem_singleton]at hn
        rcases hn with hn | rfl
        ·exact hI3 n hn hln
        ·omega
     ·rw[Ajr hl]
      refine⟨_,rfl,?_⟩
      rcases hI with⟨h,hI⟩ | ⟨hI1,hI2,hI3⟩
      ·refine .inl ⟨h,fun n hn=>?_⟩
       rw[List.mem_append,List.mem_singleton]at hn
       rcases hn with hn | rfl
       ·exact hI n hn
       ·omega
      ·refine .inr ⟨List.mem_append_left _ hI1,hI2,fun n hn hln=>?_⟩
       rw[List.mem_append,List.mem_singleton]at hn
       rcases hn with hn | rfl
       ·exact hI3 n hn hln
       ·omega
    ·have hact:¬ act x=true:=by unfold act;simpa using ha
     rw[if_neg hact,List.append_nil]
     by_cases h1:0≤x.State∧x.State≤4
     ·rw[Ajq h1,Ajr (p:=x.State≠0) (by omega)];exact⟨_,rfl,hI⟩
     ·rw[Ajr h1];exact⟨_,rfl,hI⟩)
  rw[List.take_length]at h2
  exact⟨s',h1,h2⟩
theorem q5 {l:List Bi} (hr:∀ m∈l,1≤m.Slide∧m.Slide≤9999):∃ r,Lw l=some r∧∀ n,n∈r↔n∈acts l:=by
  have hacts:∀ n∈acts l,1≤n∧n≤9999:=by
    intro n hn
    unfold acts at hn
    obtain⟨m,hm,rfl⟩:=List.mem_map.1 hn
    exact hr m (List.mem_filter.1 hm).1
  unfold Lw
  obtain⟨r,h1,h2⟩:=Ik (step:=Jf l) (fun s=>0≤s.1∧s.1≤9999∧(s.2.length:Int)≤s.1∧∀ n,n∈s.2↔n∈acts l∧n≤s.1) (fun r=>∀ n,n∈r↔n∈acts l) (fun s=>(9999 - s.1).toNat) (by
      rintro⟨last,out⟩ ⟨i0,i1,i2,i3⟩
      dsimp only at i0 i1 i2 i3
      obtain⟨s,e1,e2⟩:=mB l last i0 (fun m hm=>(hr m hm).1)
      unfold Jf
      dsimp only
      rw[e1,Option.bind_some]
      show(∃ s',(bif decide (s=0)then _ else _)=_∧_)∨(∃ r,(bif decide (s=0)then _ else _)=_∧_)
      rcases e2 with⟨rfl,e2⟩ | ⟨e2,e3,e4⟩
      ·exact .inr ⟨out,rfl,fun n=>by rw[i3];exact⟨fun h=>h.1,fun h=>⟨h,e2 n h⟩⟩⟩
      ·have hb:=hacts s e2
       rw[Ajr (by omega),cond_false,Cj (by omega)]
       refine .inl ⟨_,rfl,⟨by dsimp only;omega,by dsimp only;omega,by dsimp only;rw[List.length_append,List.length_singleton];omega,fun n=>?_⟩,by dsimp only;omega⟩
       dsimp only
       rw[List.mem_append,List.mem_singleton,i3]
       constructor
       ·rintro(⟨h,h'⟩ | rfl)
        ·exact⟨h,by omega⟩
        ·exact⟨e2,Int.le_refl _⟩
       ·rintro⟨h,h'⟩
        by_cases hn:n≤last
        ·exact .inl ⟨h,hn⟩
        ·right;have:=e4 n h (by omega);omega) fuel (0,[]) ⟨by simp,by simp,by simp,fun n=>by simp;intro h;have:=hacts n h;omega⟩ (by unfold fuel;dsimp only;omega)
  rw[h1]
  exact⟨r,rfl,h2⟩
def blasted (f:Ak) (zone:Int):Bool:=f.Slides.any fun s=>decide (s.ID∈acts f.Missions)&&decide (zone∈s.Zones)
theorem rZ (f:Ak) (zone:Int) (hl:f.Missions.length≤1000):Gr f zone=some (blasted f zone):=by
  unfold Gr blasted
  rw[r7 hl,Option.bind_some]
  refine U8 _ fun k x _=>?_
  unfold Gq
  simp only[contains_eq,Option.bind_some,Ns]
  rw[Ajq (Int.natCast_nonneg k)]
  cases decide (x.ID∈acts f.Missions)<;>cases decide (zone∈x.Zones)<;>rfl
theorem nW (f:Ak) (zone:Int) (hr:∀ m∈f.Missions,1≤m.Slide∧m.Slide≤9999):Mq f zone=some (blasted f zone):=by
  obtain⟨r,h1,h2⟩:=q5 hr
  unfold Mq blasted
  rw[h1,Option.bind_some]
  refine U8 _ fun k x _=>?_
  unfold Lv
  simp only[Zn,Option.bind_some,h2]
  cases decide (x.ID∈acts f.Missions)<;>cases decide (zone∈x.Zones)<;>rfl
end Go.Proofs.YtjopghiagoidgaaGreat
