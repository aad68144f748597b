/- Our own texts: a layer of abstract values over the model, the walks of the functions, the plain laws; joined and shortened by a small program of our own (wip/dce2.py, wip/pack.py). -/
import Derived.Test.YtjopghiagoidgaaGreatA4
import Derived.Calls
import Derived.Tactics2
import Derived.Below
import Derived.Deep.LoopGhost
import Derived.KernelRfl
import Derived.Laws.Shifts
import Derived.Laws.CopyRow
import Derived.Laws.AppendOwn
import Derived.Laws.MakeOwn
import Derived.Laws.StructEq
import Derived.Maps.RangeRun
import Derived.Lib.SliceRun
import Derived.TacticsIn
import Derived.OrdersIn
import Derived.Sort.LoopGhostIn
import Derived.RangeFuncRecord
import Derived.Orders
import Derived.ProofKit
import Derived.OpenShut
import Derived.ShutString
import Derived.ChangeOld
import Derived.Carry
import Derived.WideShapes
import Derived.ChangeArms
import Derived.ChangeShapes
import Derived.Handed
import Derived.JoinedOf
import Derived.Sort.Grow
import Derived.Lib.SlicesCompact
import Derived.Lib.SlKeysI
import Derived.Maps.Own
import Derived.WideKeyRuns
import Derived.Test.YtjopghiagoidgaaGreatChecked
import Derived.Test.YtjopghiagoidgaaGreatProg
import Derived.Shelf.SortM.Plain
import Derived.Shelf.SortM.SortNone
import Derived.Shelf.SlIterI.Nil
import Derived.Shelf.Slices.CompactI
namespace Go.Proofs.YtjopghiagoidgaaGreat
open Go Go.Ab
attribute [local irreducible] AWP Al B1 Ad Go.Ab.Sub alist dlist Bk Cy D2 G4
set_option maxRecDepth 100000
set_option maxHeartbeats 4000000
set_option linter.unusedSimpArgs false
set_option linter.unusedVariables false
noncomputable section
def Lu (b:Bp) (t:Int):Option (Bool):=
 (bif (decide (b.Span.From≤t))then some (decide (t<b.Span.To))else some false)
theorem Te (b:Bp) (t:Int) {r:Bool} (h:Lu b t=some r):Ad Tryz.prog 99 [.agg (Ar b),.int .i64 t] (·= .bool r):=by
 refine Ad.nle (Ad.intro Tryz.func99 rfl rfl (by show _≤17;simp) ?_)
 unfold Lu at h
 refine nS (sq ?_)
 refine ar rfl (qn (sq ?_))
 refine rg rfl fun K j=>?_
 revert h;refine gt (fun hc h=>?_) fun hc h=>?_
 ·refine j _ _ (qn (rt ?_))
  cases h;exact en Tryz.results99
 refine j _ _ (qn (rt ?_))
 cases h;exact en Tryz.results99
def Fq (t:Int) (k1:Nat) (x_3:Bp) (sv:Int):Option (Out (Int) (Int)):=
 (Lu x_3 t).bind fun y4=>(bif y4 then some (Out.next (if sv<x_3.Version then x_3.Version else sv))else some (Out.next sv))
def Gy (l:List Bp) (t:Int):Option (Int):=
 (Am (Fq t) 0 l 0).bind fun o1=>o1.on fun s1=>some s1
theorem Zp (l:List Bp) (t:Int) {r:Int} (h:Gy l t=some r):Ad Tryz.prog 100 [.sl 7 (l.map Ar),.int .i64 t] (·= .int .i64 r):=by
 refine Ad.nle (Ad.intro Tryz.func100 rfl rfl (by show _≤27;simp) ?_)
 unfold Gy at h
 refine nS (sq ?_)
 refine ar rfl (qn (sq ?_))
 refine ar rfl (qn (sq (sq ?_)))
 refine ar rfl (qn (bk ?_))
 obtain⟨o1,hJ1,hO1⟩:=Ah h
 clear h
 refine AWP.Br (ι:=Nat×(Int)×(Unit)) (fun zz=>[(0,.sl 7 (l.map Ar)),(1,.int .i64 t),(5,.int .i64 zz.2.1),(6,.int .i64 ((zz.1:Nat):Int))]) (fun zz=>[]) (fun zz=>zz.1≤l.length∧Am (Fq t) zz.1 ((l).drop zz.1) zz.2.1=some o1) (fun zz=>l.length - zz.1) (0,0,()) ⟨Nat.zero_le _,hJ1⟩ cu cu (fun x=>⟨rfl,rfl,rfl⟩) ?_
 clear hJ1
 rintro⟨k1,n_1,⟨⟩⟩ ⟨hk1,hJ1⟩
 dsimp only at hk1 hJ1 ⊢
 refine sq (sq ?_)
 refine rg rfl fun K j=>?_
 intro hm
 refine j _ _ (qn ?_)
 refine AWP.cond (Aj (fun hc=>?_) (fun hc=>?_))
 rotate_left
 ·obtain rfl:=Bc hJ1 (fun hl=>by have:=Ajm hc;omega)
  have h:=Bb hO1;try dsimp only at h
  have hkl:l.length=k1:=by have:=Ajm hc;omega
  subst hkl
  refine xt (qe (qe (bs (qn (sq (ar rfl (qn (rt ?_))))))))
  cases h;exact en Tryz.results100
 have hlt1:k1<l.length:=by have:=Ajn hc;omega
 obtain⟨x_3,b1,hx1_,h,hJ1⟩:=A2 hJ1 hlt1
 have hx1:=Az hx1_
 have hw1:=wk (k:=k1) (by omega)
 unfold Fq at h;try dsimp only at h
 refine sk (qn (sq (bk (sq ?_))))
 refine rg rfl fun K j=>?_
 refine Bk.of (f:=Ar) (l:=l) hx1 ?_
 refine nS ?_
 obtain⟨y4,hy4,h⟩:=Ah h
 refine Al.pure Tryz.call99 (Te x_3 t hy4) rfl fun _ hr=>?_
 subst hr
 refine nS ?_
 refine j _ _ (qn ?_)
 revert h;refine ca rfl (fun hc h=>?_) fun hc h=>?_
 ·refine rg rfl fun K j=>?_
  refine Bk.of (f:=Ar) (l:=l) hx1 ?_
  refine nS ?_
  refine j _ _ (bn (qn ?_))
  refine ar rfl (qn ?_)
  obtain rfl:=Aa h
  refine⟨(k1+1,(if n_1<x_3.Version then x_3.Version else n_1),()),⟨by dsimp only;omega,Ae hJ1⟩,by dsimp only;omega,?_,?_⟩
  ·exact cuw hw1
  exact cuw hw1
 refine sk (bn (qn (ar rfl (qn ?_))))
 obtain rfl:=Aa h
 refine⟨(k1+1,n_1,()),⟨by dsimp only;omega,Ae hJ1⟩,by dsimp only;omega,?_,?_⟩
 ·exact cuw hw1
 exact cuw hw1
def Vb (n_:Int) (k0:Nat) (x_2:Int) (sv:Unit):Option (Out (Unit) (Bool)):=
 (bif (decide (x_2=n_))then some (Out.ret true)else some (Out.next ()))
def X8 (l:List Int) (n_:Int):Option (Bool):=
 (Am (Vb n_) 0 l ()).bind fun o0=>o0.on fun s0=>some false
theorem hG (l:List Int) (n_:Int) {r:Bool} (h:X8 l n_=some r):Ad Tryz.prog 101 [.sl 1 (l.map Av),.int .i64 n_] (·= .bool r):=by
 refine Ad.nle (Ad.intro Tryz.func101 rfl rfl (by show _≤18;simp) ?_)
 unfold X8 at h
 refine nS (sq ?_)
 refine ar rfl (qn (sq (sq ?_)))
 refine ar rfl (qn (bk ?_))
 obtain⟨o0,hJ0,hO0⟩:=Ah h
 clear h
 refine AWP.Br (ι:=Nat×(Unit)×(Unit)) (fun zz=>[(0,.sl 1 (l.map Av)),(1,.int .i64 n_),(5,.int .i64 ((zz.1:Nat):Int))]) (fun zz=>[]) (fun zz=>zz.1≤l.length∧Am (Vb n_) zz.1 ((l).drop zz.1) zz.2.1=some o0) (fun zz=>l.length - zz.1) (0,(),()) ⟨Nat.zero_le _,hJ0⟩ cu cu (fun x=>⟨rfl,rfl,rfl⟩) ?_
 clear hJ0
 rintro⟨k0,⟨⟩,⟨⟩⟩ ⟨hk0,hJ0⟩
 dsimp only at hk0 hJ0 ⊢
 refine sq (sq ?_)
 refine rg rfl fun K j=>?_
 intro hm
 refine j _ _ (qn ?_)
 refine AWP.cond (Aj (fun hc=>?_) (fun hc=>?_))
 rotate_left
 ·obtain rfl:=Bc hJ0 (fun hl=>by have:=Ajm hc;omega)
  have h:=Bb hO0;try dsimp only at h
  have hkl:l.length=k0:=by have:=Ajm hc;omega
  subst hkl
  refine xt (qe (qe (bs (qn (sq (ar rfl (qn (rt ?_))))))))
  cases h;exact en Tryz.results101
 have hlt0:k0<l.length:=by have:=Ajn hc;omega
 obtain⟨x_2,b0,hx0_,h,hJ0⟩:=A2 hJ0 hlt0
 have hx0:=Az hx0_
 have hw0:=wk (k:=k0) (by omega)
 unfold Vb at h;try dsimp only at h
 refine sk (qn (sq (bk (sq ?_))))
 refine rg rfl fun K j=>?_
 refine Bk.of (f:=Av) (l:=l) hx0 ?_
 refine nS ?_
 refine j _ _ (qn ?_)
 revert h;refine ca rfl (fun hc h=>?_) fun hc h=>?_
 ·refine sq (ar rfl (qn (rt (br (qr (qr ?_))))))
  obtain rfl:=Aa h
  obtain rfl:=Af hJ0
  replace h:=An hO0
  refine br (qr ?_)
  cases h;exact en Tryz.results101
 refine sk (bn (qn (ar rfl (qn ?_))))
 obtain rfl:=Aa h
 refine⟨(k0+1,(),()),⟨by dsimp only;omega,Ae hJ0⟩,by dsimp only;omega,?_,?_⟩
 ·exact cuw hw0
 exact cuw hw0
def Oy (l:List Bp) (zone:Int) (low:Int) (high:Int) (t:Int) (k1:Nat) (x_3:Bp) (sv:Int):Option (Out (Int) (Int)):=
 (Lu x_3 t).bind fun y4=>(bif y4 then(Gy l t).bind fun y5=>(bif (decide (x_3.Version=y5))then (X8 x_3.Zones zone).bind fun y6=>(bif y6 then(bif (decide (x_3.Low<high))then (bif (decide (low<x_3.High))then some (Out.next (if sv<x_3.Level then x_3.Level else sv))else some (Out.next sv))else some (Out.next sv))else some (Out.next sv))else some (Out.next sv))else some (Out.next sv))
def Qn (l:List Bp) (zone:Int) (low:Int) (high:Int) (t:Int):Option (Int):=
 (Am (Oy l zone low high t) 0 l 0).bind fun o1=>o1.on fun s1=>some s1
theorem cW (l:List Bp) (zone:Int) (low:Int) (high:Int) (t:Int) {r:Int} (h:Qn l zone low high t=some r):Ad Tryz.prog 47 [.sl 7 (l.map Ar),.int .i64 zone,.int .i64 low,.int .i64 high,.int .i64 t] (·= .int .i64 r):=by
 refine Ad.nle (Ad.intro Tryz.func47 rfl rfl (by show _≤58;simp) ?_)
 unfold Qn at h
 refine nS (sq ?_)
 refine ar rfl (qn (sq ?_))
 refine ar rfl (qn (sq (sq ?_)))
 refine ar rfl (qn (bk ?_))
 obtain⟨o1,hJ1,hO1⟩:=Ah h
 clear h
 refine AWP.Br (ι:=Nat×(Int)×(Unit)) (fun zz=>[(0,.sl 7 (l.map Ar)),(1,.int .i64 zone),(2,.int .i64 low),(3,.int .i64 high),(4,.int .i64 t),(11,.int .i64 zz.2.1),(12,.int .i64 ((zz.1:Nat):Int))]) (fun zz=>[]) (fun zz=>zz.1≤l.length∧Am (Oy l zone low high t) zz.1 ((l).drop zz.1) zz.2.1=some o1) (fun zz=>l.length - zz.1) (0,0,()) ⟨Nat.zero_le _,hJ1⟩ cu cu (fun x=>⟨rfl,rfl,rfl⟩) ?_
 clear hJ1
 rintro⟨k1,n_1,⟨⟩⟩ ⟨hk1,hJ1⟩
 dsimp only at hk1 hJ1 ⊢
 refine sq (sq ?_)
 refine rg rfl fun K j=>?_
 intro hm
 refine j _ _ (qn ?_)
 refine AWP.cond (Aj (fun hc=>?_) (fun hc=>?_))
 rotate_left
 ·obtain rfl:=Bc hJ1 (fun hl=>by have:=Ajm hc;omega)
  have h:=Bb hO1;try dsimp only at h
  have hkl:l.length=k1:=by have:=Ajm hc;omega
  subst hkl
  refine xt (qe (qe (bs (qn (sq (ar rfl (qn (rt ?_))))))))
  cases h;exact en Tryz.results47
 have hlt1:k1<l.length:=by have:=Ajn hc;omega
 obtain⟨x_3,b1,hx1_,h,hJ1⟩:=A2 hJ1 hlt1
 have hx1:=Az hx1_
 have hw1:=wk (k:=k1) (by omega)
 unfold Oy at h;try dsimp only at h
 refine sk (qn (sq (bk (sq ?_))))
 refine rg rfl fun K j=>?_
 refine Bk.of (f:=Ar) (l:=l) hx1 ?_
 refine nS ?_
 refine j _ _ (qn (sq ?_))
 refine AWP.draw Tryz.mixed (by kernel_rfl) ?_;intro K j
 refine nS ?_
 obtain⟨y4,hy4,h⟩:=Ah h
 refine B1.pure Tryz.call99 (Te x_3 t hy4) rfl ?_
 refine nS ?_
 revert h;refine gt (fun hc h=>?_) fun hc h=>?_
 ·obtain⟨y5,hy5,h⟩:=Ah h
  refine B1.pure Tryz.call100 (Zp l t hy5) rfl ?_
  refine nS ?_
  revert h;refine gt (fun hc h=>?_) fun hc h=>?_
  ·obtain⟨y6,hy6,h⟩:=Ah h
   refine B1.pure Tryz.call101 (hG x_3.Zones zone hy6) rfl ?_
   refine nS ?_
   revert h;refine gt (fun hc h=>?_) fun hc h=>?_
   ·revert h;refine gt (fun hc h=>?_) fun hc h=>?_
    ·refine j _ _ _ (by kernel_rfl) ?_
     refine qn ?_
     revert h;refine ca rfl (fun hc h=>?_) fun hc h=>?_
     ·refine ar rfl (bn (qn ?_))
      refine ar rfl (qn ?_)
      obtain rfl:=Aa h
      refine⟨(k1+1,(if n_1<x_3.Level then x_3.Level else n_1),()),⟨by dsimp only;omega,Ae hJ1⟩,by dsimp only;omega,?_,?_⟩
      ·exact cuw hw1
      exact cuw hw1
     refine sk (bn (qn (ar rfl (qn ?_))))
     obtain rfl:=Aa h
     refine⟨(k1+1,n_1,()),⟨by dsimp only;omega,Ae hJ1⟩,by dsimp only;omega,?_,?_⟩
     ·exact cuw hw1
     exact cuw hw1
    refine j _ _ _ (by kernel_rfl) ?_
    refine qn ?_
    refine AWP.cond (Bg ?_)
    refine sk (bn (qn (ar rfl (qn ?_))))
    obtain rfl:=Aa h
    refine⟨(k1+1,n_1,()),⟨by dsimp only;omega,Ae hJ1⟩,by dsimp only;omega,?_,?_⟩
    ·exact cuw hw1
    exact cuw hw1
   refine j _ _ _ (by kernel_rfl) ?_
   refine qn ?_
   refine AWP.cond (Bg ?_)
   refine sk (bn (qn (ar rfl (qn ?_))))
   obtain rfl:=Aa h
   refine⟨(k1+1,n_1,()),⟨by dsimp only;omega,Ae hJ1⟩,by dsimp only;omega,?_,?_⟩
   ·exact cuw hw1
   exact cuw hw1
  refine j _ _ _ (by kernel_rfl) ?_
  refine qn ?_
  refine AWP.cond (Bg ?_)
  refine sk (bn (qn (ar rfl (qn ?_))))
  obtain rfl:=Aa h
  refine⟨(k1+1,n_1,()),⟨by dsimp only;omega,Ae hJ1⟩,by dsimp only;omega,?_,?_⟩
  ·exact cuw hw1
  exact cuw hw1
 refine j _ _ _ (by kernel_rfl) ?_
 refine qn ?_
 refine AWP.cond (Bg ?_)
 refine sk (bn (qn (ar rfl (qn ?_))))
 obtain rfl:=Aa h
 refine⟨(k1+1,n_1,()),⟨by dsimp only;omega,Ae hJ1⟩,by dsimp only;omega,?_,?_⟩
 ·exact cuw hw1
 exact cuw hw1
def Gc (f_:Ak) (k2:Nat) (k5:Nat) (x_7:Cf) (sv:Int×Int):Option (Out (Int×Int) (Out ((List Int)) ((List Int)))):=
 (bif (decide (x_7.Zone≠(((k2:Nat):Int)+1)))then some (Out.next (sv.1,sv.2))else (Jm f_.Map x_7.To).bind fun y8=>(bif (decide (y8<sv.1))then (Jm f_.Map x_7.To).bind fun y9=>(Jm f_.Map x_7.From).bind fun y10=>(bif (decide (sv.2<y10))then (Jm f_.Map x_7.From).bind fun y11=>some (Out.next (y9,y11))else some (Out.next (y9,sv.2)))else (Jm f_.Map x_7.From).bind fun y12=>(bif (decide (sv.2<y12))then (Jm f_.Map x_7.From).bind fun y13=>some (Out.next (sv.1,y13))else some (Out.next (sv.1,sv.2)))))
def Es (f_:Ak) (k2:Nat) (_x:Unit) (sv:(List Int)):Option (Out ((List Int)) ((List Int))):=
 (Am (Gc f_ k2) 0 f_.Map.Runs (9999,(-1))).bind fun o5=>o5.on fun s5=>(bif (decide (0≤s5.2))then (Qn f_.Bulletin (((k2:Nat):Int)+1) s5.1 s5.2 f_.Time).bind fun y14=>chk (sv.length+1) (some (Out.next (sv++[y14])))else chk (sv.length+1) (some (Out.next (sv++[(0:Int)]))))
def It (f_:Ak):Option ((List Int)):=
 (Ka (Es f_) 32 []).bind fun o2=>o2.on fun s2=>some s2
theorem Zn (f_:Ak) {r:(List Int)} (h:It f_=some r):Bh Tryz.prog 17 [.agg (Bw f_)] (·= .sl 1 (r.map Av)):=by
 refine Bh.nle (Bh.intro Tryz.func17 rfl rfl (by show _≤72;simp) ?_)
 unfold It at h
 refine nS (sq ?_)
 refine ar rfl (qn (sq ?_))
 refine ar rfl (qn (sq (sq ?_)))
 refine ar rfl (qn (bk ?_))
 obtain⟨o2,hJ2,hO2⟩:=Ah h
 clear h
 obtain⟨hn2,hJ2⟩:=Nd hJ2
 refine AWP.Br (ι:=Nat×((List Int))×(Nat)) (fun zz=>[(1,.ptr 0 0),(3,.own 1 zz.2.2 0 zz.2.1.length),(4,.int .i64 (((zz.1:Nat):Int)+(1:Int)))]) (fun zz=>[.box [.sl 2 (f_.Map.Nodes.map A9),.sl 8 (f_.Map.Lifts.map A6),.sl 7 (f_.Map.Runs.map Bd),.sl 1 (f_.Map.Bases.map Av),.sl 2 (f_.Lifts.map Ay),.sl 4 (f_.Closures.map Aq),.sl 4 (f_.Patrol.Bv.map Ax),.sl 3 (f_.Patrol.Hazards.map A3),.sl 3 (f_.Surfaces.map A8),.sl 5 (f_.Packs.map A4),.sl 6 (f_.Slides.map A5),.sl 7 (f_.Bulletin.map Ar),.sl 7 (f_.Missions.map Ap),.sl 4 (f_.Winches.map Ao),.sl 8 (f_.Groomers.map A1),.sl 3 (f_.Status.map A7),.int .i64 f_.Depth,.int .i64 f_.Time],.row zz.2.2 1 (zz.2.1.map Av)]) (fun zz=>zz.1≤32∧Am (Es f_) zz.1 ((List.replicate 32 ()).drop zz.1) zz.2.1=some o2) (fun zz=>32 - zz.1) (0,[],0) ⟨Nat.zero_le _,hJ2⟩ cu cu (fun x=>⟨rfl,rfl,rfl⟩) ?_
 clear hJ2
 rintro⟨k2,out1,ver2⟩ ⟨hk2,hJ2⟩
 dsimp only at hk2 hJ2 ⊢
 refine sq (sq (ar rfl (qn ?_)))
 refine AWP.cond (Aj (fun hc=>?_) (fun hc=>?_))
 rotate_left
 ·obtain rfl:=Bc hJ2 (fun hl=>by rw[List.length_replicate]at hl;have:=Ajm hc;omega)
  have h:=Bb hO2;try dsimp only at h
  have hkl:32=k2:=by have:=Ajm hc;omega
  subst hkl
  refine xt (qe (qe (bs (qn (sq (ar rfl (qn (rt ?_))))))))
  cases h;exact en Tryz.results17
 have hlt2:k2<32:=by have:=Ajn hc;omega
 obtain⟨_,b2,_,h,hJ2⟩:=A2 hJ2 (by rw[List.length_replicate];exact hlt2)
 have hw2:IntKind.i64.wrap ((((k2:Nat):Int)+1)+1)=(((k2:Nat):Int)+1+1):=by rw[wrap_i64]<;>omega
 unfold Es at h;try dsimp only at h
 refine sk (qn (sq (bk (sq (ar rfl (qn (sq (sq ?_))))))))
 refine ar rfl (qn (bk ?_))
 obtain⟨o5,hJ5,hO5⟩:=Ah h
 clear h
 refine AWP.Br (ι:=Nat×(Int×Int)×(Unit)) (fun zz=>[(1,.ptr 0 0),(3,.own 1 ver2 0 out1.length),(4,.int .i64 (((k2:Nat):Int)+1)),(5,.int .i64 zz.2.1.1),(6,.int .i64 zz.2.1.2),(7,.int .i64 ((zz.1:Nat):Int))]) (fun zz=>[.box [.sl 2 (f_.Map.Nodes.map A9),.sl 8 (f_.Map.Lifts.map A6),.sl 7 (f_.Map.Runs.map Bd),.sl 1 (f_.Map.Bases.map Av),.sl 2 (f_.Lifts.map Ay),.sl 4 (f_.Closures.map Aq),.sl 4 (f_.Patrol.Bv.map Ax),.sl 3 (f_.Patrol.Hazards.map A3),.sl 3 (f_.Surfaces.map A8),.sl 5 (f_.Packs.map A4),.sl 6 (f_.Slides.map A5),.sl 7 (f_.Bulletin.map Ar),.sl 7 (f_.Missions.map Ap),.sl 4 (f_.Winches.map Ao),.sl 8 (f_.Groomers.map A1),.sl 3 (f_.Status.map A7),.int .i64 f_.Depth,.int .i64 f_.Time],.row ver2 1 (out1.map Av)]) (fun zz=>zz.1≤f_.Map.Runs.length∧Am (Gc f_ k2) zz.1 ((f_.Map.Runs).drop zz.1) zz.2.1=some o5) (fun zz=>f_.Map.Runs.length - zz.1) (0,(9999,(-1)),()) ⟨Nat.zero_le _,hJ5⟩ cu cu (fun x=>⟨rfl,rfl,rfl⟩) ?_
 clear hJ5
 rintro⟨k5,⟨low4,high5⟩,⟨⟩⟩ ⟨hk5,hJ5⟩
 dsimp only at hk5 hJ5 ⊢
 refine sq (sq ?_)
 refine rg rfl fun K j=>?_
 intro hm
 refine j _ _ (qn ?_)
 refine AWP.cond (Aj (fun hc=>?_) (fun hc=>?_))
 rotate_left
 ·obtain rfl:=Bc hJ5 (fun hl=>by have:=Ajm hc;omega)
  have h:=Bb hO5;try dsimp only at h
  have hkl:f_.Map.Runs.length=k5:=by have:=Ajm hc;omega
  subst hkl
  refine xt (qe (qe (bs (qn (sq (ar rfl (qn (sq (sq ?_)))))))))
  refine ar rfl (qn ?_)
  revert h;refine ca rfl (fun hc h=>?_) fun hc h=>?_
  ·refine rg rfl fun K j=>?_
   obtain⟨y14,hy14,h⟩:=Ah h
   refine Al.pure Tryz.call47 (cW f_.Bulletin (((k2:Nat):Int)+1) low4 high5 f_.Time hy14) rfl fun _ hr=>?_
   subst hr
   refine nS ?_
   refine j _ _ (qn ?_)
   refine rg rfl fun K j=>?_
   obtain⟨hk,h⟩:=Bz h
   (repeat refine rp ?_);try simp +decide -implicitDefEqProofs only[go_sem]
   refine j _ _ (bn (qn ?_))
   refine ar rfl (qn ?_)
   obtain rfl:=Aa h
   refine⟨(k2+1,(out1++[y14]),(ver2+1)),⟨by dsimp only;omega,Ae hJ2⟩,by dsimp only;omega,?_,?_⟩
   ·exact cuw hw2
   exact cuw hw2
  refine sk (qn ?_)
  refine rg rfl fun K j=>?_
  obtain⟨hk,h⟩:=Bz h
  (repeat refine rp ?_);try simp +decide -implicitDefEqProofs only[go_sem]
  refine j _ _ (bn (qn ?_))
  refine ar rfl (qn ?_)
  obtain rfl:=Aa h
  refine⟨(k2+1,(out1++[(0:Int)]),(ver2+1)),⟨by dsimp only;omega,Ae hJ2⟩,by dsimp only;omega,?_,?_⟩
  ·exact cuw hw2
  exact cuw hw2
 have hlt5:k5<f_.Map.Runs.length:=by have:=Ajn hc;omega
 obtain⟨x_7,b5,hx5_,h,hJ5⟩:=A2 hJ5 hlt5
 have hx5:=Az hx5_
 have hw5:=wk (k:=k5) (by omega)
 unfold Gc at h;try dsimp only at h
 refine sk (qn (sq (bk (sq ?_))))
 refine rg rfl fun K j=>?_
 refine Bk.of (f:=Bd) (l:=f_.Map.Runs) hx5 ?_
 refine nS ?_
 refine j _ _ (qn (sq (sq ?_)))
 refine ar rfl (qn ?_)
 revert h;refine ca rfl (fun hc h=>?_) fun hc h=>?_
 ·refine xt (qe (bs (qn (ar rfl (qn ?_)))))
  obtain rfl:=Aa h
  refine⟨(k5+1,(low4,high5),()),⟨by dsimp only;omega,Ae hJ5⟩,by dsimp only;omega,?_,?_⟩
  ·exact cuw hw5
  exact cuw hw5
 refine sk (qn (sq (sq ?_)))
 refine rg rfl fun K j=>?_
 obtain⟨y8,hy8,h⟩:=Ah h
 refine Al.pure Tryz.call46 (Hi f_.Map x_7.To hy8) rfl fun _ hr=>?_
 subst hr
 refine nS ?_
 refine j _ _ (qn ?_)
 revert h;refine ca rfl (fun hc h=>?_) fun hc h=>?_
 ·refine rg rfl fun K j=>?_
  obtain⟨y9,hy9,h⟩:=Ah h
  refine Al.pure Tryz.call46 (Hi f_.Map x_7.To hy9) rfl fun _ hr=>?_
  subst hr
  refine nS ?_
  refine j _ _ (qn (sq ?_))
  refine rg rfl fun K j=>?_
  obtain⟨y10,hy10,h⟩:=Ah h
  refine Al.pure Tryz.call46 (Hi f_.Map x_7.From hy10) rfl fun _ hr=>?_
  subst hr
  refine nS ?_
  refine j _ _ (qn ?_)
  revert h;refine ca rfl (fun hc h=>?_) fun hc h=>?_
  ·refine rg rfl fun K j=>?_
   obtain⟨y11,hy11,h⟩:=Ah h
   refine Al.pure Tryz.call46 (Hi f_.Map x_7.From hy11) rfl fun _ hr=>?_
   subst hr
   refine nS ?_
   refine j _ _ (bn (qn ?_))
   refine ar rfl (qn ?_)
   obtain rfl:=Aa h
   refine⟨(k5+1,(y9,y11),()),⟨by dsimp only;omega,Ae hJ5⟩,by dsimp only;omega,?_,?_⟩
   ·exact cuw hw5
   exact cuw hw5
  refine sk (bn (qn (ar rfl (qn ?_))))
  obtain rfl:=Aa h
  refine⟨(k5+1,(y9,high5),()),⟨by dsimp only;omega,Ae hJ5⟩,by dsimp only;omega,?_,?_⟩
  ·exact cuw hw5
  exact cuw hw5
 refine sk (qn (sq ?_))
 refine rg rfl fun K j=>?_
 obtain⟨y12,hy12,h⟩:=Ah h
 refine Al.pure Tryz.call46 (Hi f_.Map x_7.From hy12) rfl fun _ hr=>?_
 subst hr
 refine nS ?_
 refine j _ _ (qn ?_)
 revert h;refine ca rfl (fun hc h=>?_) fun hc h=>?_
 ·refine rg rfl fun K j=>?_
  obtain⟨y13,hy13,h⟩:=Ah h
  refine Al.pure Tryz.call46 (Hi f_.Map x_7.From hy13) rfl fun _ hr=>?_
  subst hr
  refine nS ?_
  refine j _ _ (bn (qn ?_))
  refine ar rfl (qn ?_)
  obtain rfl:=Aa h
  refine⟨(k5+1,(low4,y13),()),⟨by dsimp only;omega,Ae hJ5⟩,by dsimp only;omega,?_,?_⟩
  ·exact cuw hw5
  exact cuw hw5
 refine sk (bn (qn (ar rfl (qn ?_))))
 obtain rfl:=Aa h
 refine⟨(k5+1,(low4,high5),()),⟨by dsimp only;omega,Ae hJ5⟩,by dsimp only;omega,?_,?_⟩
 ·exact cuw hw5
 exact cuw hw5
theorem aM (f_:Ak) {r:(List Int)} (h:It f_=some r):Ad Tryz.prog 17 [.agg (Bw f_)] (·= .sl 1 (r.map Av)):=(Zn f_ h).pure
def Ql (l:List Bn) (kind:Int) (target:Int) (k2:Nat) (_x:Unit) (sv:(List Int)):Option (Out ((List Int)) ((List Int))):=
 (Fl l kind target (((k2:Nat):Int)+1)).bind fun y4=>(bif (decide (0≤y4))then chk (sv.length+1) (some (Out.next (sv++[(((k2:Nat):Int)+1)])))else some (Out.next sv))
def Sd (l:List Bn) (kind:Int) (target:Int):Option ((List Int)):=
 (Ka (Ql l kind target) 6 []).bind fun o2=>o2.on fun s2=>some s2
theorem gZ (l:List Bn) (kind:Int) (target:Int) {r:(List Int)} (h:Sd l kind target=some r):Bh Tryz.prog 216 [.sl 4 (l.map Aq),.int .i64 kind,.int .i64 target] (·= .sl 1 (r.map Av)):=by
 refine Bh.nle (Bh.intro Tryz.func216 rfl rfl (by show _≤24;simp) ?_)
 unfold Sd at h
 refine nS (sq ?_)
 refine ar rfl (qn (sq ?_))
 refine ar rfl (qn (sq (sq ?_)))
 refine ar rfl (qn (bk ?_))
 refine AWP.ghost 7 1 rfl (by decide) ?_
 obtain⟨o2,hJ2,hO2⟩:=Ah h
 clear h
 obtain⟨hn2,hJ2⟩:=Nd hJ2
 refine AWP.Br (ι:=Nat×((List Int))×(Nat)) (fun zz=>[(0,.sl 4 (l.map Aq)),(1,.int .i64 kind),(2,.int .i64 target),(7,.own 0 zz.2.2 0 zz.2.1.length),(8,.int .i64 (((zz.1:Nat):Int)+(1:Int)))]) (fun zz=>[.row zz.2.2 1 (zz.2.1.map Av)]) (fun zz=>zz.1≤6∧Am (Ql l kind target) zz.1 ((List.replicate 6 ()).drop zz.1) zz.2.1=some o2) (fun zz=>6 - zz.1) (0,[],0) ⟨Nat.zero_le _,hJ2⟩ cu cu (fun x=>⟨rfl,rfl,rfl⟩) ?_
 clear hJ2
 rintro⟨k2,out1,ver2⟩ ⟨hk2,hJ2⟩
 dsimp only at hk2 hJ2 ⊢
 refine sq (sq (ar rfl (qn ?_)))
 refine AWP.cond (Aj (fun hc=>?_) (fun hc=>?_))
 rotate_left
 ·obtain rfl:=Bc hJ2 (fun hl=>by rw[List.length_replicate]at hl;have:=Ajm hc;omega)
  have h:=Bb hO2;try dsimp only at h
  have hkl:6=k2:=by have:=Ajm hc;omega
  subst hkl
  refine xt (qe (qe (bs (qn (sq (ar rfl (qn (rt ?_))))))))
  cases h;exact en Tryz.results216
 have hlt2:k2<6:=by have:=Ajn hc;omega
 obtain⟨_,b2,_,h,hJ2⟩:=A2 hJ2 (by rw[List.length_replicate];exact hlt2)
 have hw2:IntKind.i64.wrap ((((k2:Nat):Int)+1)+1)=(((k2:Nat):Int)+1+1):=by rw[wrap_i64]<;>omega
 unfold Ql at h;try dsimp only at h
 refine sk (qn (sq (bk (sq ?_))))
 refine rg rfl fun K j=>?_
 obtain⟨y4,hy4,h⟩:=Ah h
 refine Al.pure Tryz.call182 (Us l kind target (((k2:Nat):Int)+1) hy4) rfl fun _ hr=>?_
 subst hr
 refine nS ?_
 refine j _ _ (qn ?_)
 revert h;refine ca rfl (fun hc h=>?_) fun hc h=>?_
 ·refine rg rfl fun K j=>?_
  obtain⟨hk,h⟩:=Bz h
  (repeat refine rp ?_);try simp +decide -implicitDefEqProofs only[go_sem]
  refine j _ _ (bn (qn ?_))
  refine ar rfl (qn ?_)
  obtain rfl:=Aa h
  refine⟨(k2+1,(out1++[(((k2:Nat):Int)+1)]),(ver2+1)),⟨by dsimp only;omega,Ae hJ2⟩,by dsimp only;omega,?_,?_⟩
  ·exact cuw hw2
  exact cuw hw2
 refine sk (bn (qn (ar rfl (qn ?_))))
 obtain rfl:=Aa h
 refine⟨(k2+1,out1,ver2),⟨by dsimp only;omega,Ae hJ2⟩,by dsimp only;omega,?_,?_⟩
 ·exact cuw hw2
 exact cuw hw2
theorem Y6 (l:List Bn) (kind:Int) (target:Int) {r:(List Int)} (h:Sd l kind target=some r):Ad Tryz.prog 216 [.sl 4 (l.map Aq),.int .i64 kind,.int .i64 target] (·= .sl 1 (r.map Av)):=(gZ l kind target h).pure
def Ur (m:Be) (l:List Bn) (run:Int):Option (Bool):=
 (Lw m run).bind fun y1=>(bif y1.2 then(Sd l 1 run).bind fun y2=>(bif (decide (0<((y2.length:Nat):Int)))then some true else(Sd l 3 y1.1.Zone).bind fun y3=>some (decide (0<((y3.length:Nat):Int))))else some false)
theorem gY (m:Be) (l:List Bn) (run:Int) {r:Bool} (h:Ur m l run=some r):Ad Tryz.prog 112 [.agg (Ca m),.sl 4 (l.map Aq),.int .i64 run] (·= .bool r):=by
 refine Ad.nle (Ad.intro Tryz.func112 rfl rfl (by show _≤31;simp) ?_)
 unfold Ur at h
 refine nS (sq ?_)
 refine ar rfl (qn (sq ?_))
 refine rg rfl fun K j=>?_
 obtain⟨y1,hy1,h⟩:=Ah h
 refine Al.pure Tryz.call32 (K6 m run hy1) rfl fun _ hr=>?_
 subst hr
 refine nS ?_
 refine j _ _ (qn (sq ?_))
 refine rg rfl fun K j=>?_
 revert h;refine gt (fun hc h=>?_) fun hc h=>?_
 ·obtain⟨y2,hy2,h⟩:=Ah h
  refine Al.pure Tryz.call216 (Y6 l 1 run hy2) rfl fun _ hr=>?_
  subst hr
  refine nS ?_
  intro hm
  revert h;refine gf (fun hc h=>?_) fun hc h=>?_
  ·obtain⟨y3,hy3,h⟩:=Ah h
   refine Al.pure Tryz.call216 (Y6 l 3 y1.1.Zone hy3) rfl fun _ hr=>?_
   subst hr
   refine nS ?_
   intro hm
   refine j _ _ (qn (rt ?_))
   cases h;exact en Tryz.results112
  refine j _ _ (qn (rt ?_))
  cases h;exact en Tryz.results112
 refine j _ _ (qn (rt ?_))
 cases h;exact en Tryz.results112
def Tf (run:Int) (k0:Nat) (x_2:B6) (sv:Unit):Option (Out (Unit) (Bool)):=
 (bif (decide (x_2.State=2))then (bif (decide (x_2.Run=run))then some (Out.ret true)else some (Out.next ()))else some (Out.next ()))
def Ww (l:List B6) (run:Int):Option (Bool):=
 (Am (Tf run) 0 l ()).bind fun o0=>o0.on fun s0=>some false
theorem jZ (l:List B6) (run:Int) {r:Bool} (h:Ww l run=some r):Ad Tryz.prog 113 [.sl 8 (l.map A1),.int .i64 run] (·= .bool r):=by
 refine Ad.nle (Ad.intro Tryz.func113 rfl rfl (by show _≤27;simp) ?_)
 unfold Ww at h
 refine nS (sq ?_)
 refine ar rfl (qn (sq (sq ?_)))
 refine ar rfl (qn (bk ?_))
 obtain⟨o0,hJ0,hO0⟩:=Ah h
 clear h
 refine AWP.Br (ι:=Nat×(Unit)×(Unit)) (fun zz=>[(0,.sl 8 (l.map A1)),(1,.int .i64 run),(5,.int .i64 ((zz.1:Nat):Int))]) (fun zz=>[]) (fun zz=>zz.1≤l.length∧Am (Tf run) zz.1 ((l).drop zz.1) zz.2.1=some o0) (fun zz=>l.length - zz.1) (0,(),()) ⟨Nat.zero_le _,hJ0⟩ cu cu (fun x=>⟨rfl,rfl,rfl⟩) ?_
 clear hJ0
 rintro⟨k0,⟨⟩,⟨⟩⟩ ⟨hk0,hJ0⟩
 dsimp only at hk0 hJ0 ⊢
 refine sq (sq ?_)
 refine rg rfl fun K j=>?_
 intro hm
 refine j _ _ (qn ?_)
 refine AWP.cond (Aj (fun hc=>?_) (fun hc=>?_))
 rotate_left
 ·obtain rfl:=Bc hJ0 (fun hl=>by have:=Ajm hc;omega)
  have h:=Bb hO0;try dsimp only at h
  have hkl:l.length=k0:=by have:=Ajm hc;omega
  subst hkl
  refine xt (qe (qe (bs (qn (sq (ar rfl (qn (rt ?_))))))))
  cases h;exact en Tryz.results113
 have hlt0:k0<l.length:=by have:=Ajn hc;omega
 obtain⟨x_2,b0,hx0_,h,hJ0⟩:=A2 hJ0 hlt0
 have hx0:=Az hx0_
 have hw0:=wk (k:=k0) (by omega)
 unfold Tf at h;try dsimp only at h
 refine sk (qn (sq (bk (sq ?_))))
 refine rg rfl fun K j=>?_
 refine Bk.of (f:=A1) (l:=l) hx0 ?_
 refine nS ?_
 revert h;refine gt (fun hc h=>?_) fun hc h=>?_
 ·refine Bk.of (f:=A1) (l:=l) hx0 ?_
  refine nS ?_
  refine j _ _ (qn ?_)
  revert h;refine ca rfl (fun hc h=>?_) fun hc h=>?_
  ·refine sq (ar rfl (qn (rt (br (qr (qr ?_))))))
   obtain rfl:=Aa h
   obtain rfl:=Af hJ0
   replace h:=An hO0
   refine br (qr ?_)
   cases h;exact en Tryz.results113
  refine sk (bn (qn (ar rfl (qn ?_))))
  obtain rfl:=Aa h
  refine⟨(k0+1,(),()),⟨by dsimp only;omega,Ae hJ0⟩,by dsimp only;omega,?_,?_⟩
  ·exact cuw hw0
  exact cuw hw0
 refine j _ _ (qn ?_)
 refine AWP.cond (Bg ?_)
 refine sk (bn (qn (ar rfl (qn ?_))))
 obtain rfl:=Aa h
 refine⟨(k0+1,(),()),⟨by dsimp only;omega,Ae hJ0⟩,by dsimp only;omega,?_,?_⟩
 ·exact cuw hw0
 exact cuw hw0
def Kw (t:Int) (out1:List Int) (k2:Nat) (k3:Nat) (x_5:Ba) (sv:Unit):Option (Out (Unit) (Out ((List Int)) ((List Int)))):=
 (bif (decide (x_5.From≤t))then (bif (decide (t<x_5.To))then (R5 x_5.Runs (((k2:Nat):Int)+1)).bind fun y6=>(bif y6 then chk (out1.length+1) (some (Out.ret (Out.next (out1++[(((k2:Nat):Int)+1)]))))else some (Out.next ()))else some (Out.next ()))else some (Out.next ()))
def Kx (l:List Ba) (t:Int) (k2:Nat) (_x:Unit) (sv:(List Int)):Option (Out ((List Int)) ((List Int))):=
 (Am (Kw t sv k2) 0 l ()).bind fun o3=>o3.on fun s3=>some (Out.next sv)
def N4 (l:List Ba) (t:Int):Option ((List Int)):=
 (Ka (Kx l t) 9999 []).bind fun o2=>o2.on fun s2=>some s2
theorem aP (l:List Ba) (t:Int) {r:(List Int)} (h:N4 l t=some r):Bh Tryz.prog 114 [.sl 4 (l.map Ao),.int .i64 t] (·= .sl 1 (r.map Av)):=by
 refine Bh.nle (Bh.intro Tryz.func114 rfl rfl (by show _≤48;simp) ?_)
 unfold N4 at h
 refine nS (sq ?_)
 refine ar rfl (qn (sq ?_))
 refine ar rfl (qn (sq (sq ?_)))
 refine ar rfl (qn (bk ?_))
 refine AWP.ghost 5 1 rfl (by decide) ?_
 obtain⟨o2,hJ2,hO2⟩:=Ah h
 clear h
 obtain⟨hn2,hJ2⟩:=Nd hJ2
 refine AWP.Br (ι:=Nat×((List Int))×(Nat)) (fun zz=>[(0,.sl 4 (l.map Ao)),(1,.int .i64 t),(5,.own 0 zz.2.2 0 zz.2.1.length),(6,.int .i64 (((zz.1:Nat):Int)+(1:Int)))]) (fun zz=>[.row zz.2.2 1 (zz.2.1.map Av)]) (fun zz=>zz.1≤9999∧Am (Kx l t) zz.1 ((List.replicate 9999 ()).drop zz.1) zz.2.1=some o2) (fun zz=>9999 - zz.1) (0,[],0) ⟨Nat.zero_le _,hJ2⟩ cu cu (fun x=>⟨rfl,rfl,rfl⟩) ?_
 clear hJ2
 rintro⟨k2,out1,ver2⟩ ⟨hk2,hJ2⟩
 dsimp only at hk2 hJ2 ⊢
 refine sq (sq (ar rfl (qn ?_)))
 refine AWP.cond (Aj (fun hc=>?_) (fun hc=>?_))
 rotate_left
 ·obtain rfl:=Bc hJ2 (fun hl=>by rw[List.length_replicate]at hl;have:=Ajm hc;omega)
  have h:=Bb hO2;try dsimp only at h
  have hkl:9999=k2:=by have:=Ajm hc;omega
  subst hkl
  refine xt (qe (qe (bs (qn (sq (ar rfl (qn (rt ?_))))))))
  cases h;exact en Tryz.results114
 have hlt2:k2<9999:=by have:=Ajn hc;omega
 obtain⟨_,b2,_,h,hJ2⟩:=A2 hJ2 (by rw[List.length_replicate];exact hlt2)
 have hw2:IntKind.i64.wrap ((((k2:Nat):Int)+1)+1)=(((k2:Nat):Int)+1+1):=by rw[wrap_i64]<;>omega
 unfold Kx at h;try dsimp only at h
 refine sk (qn (sq (bk (sq (ar rfl (qn (bk ?_)))))))
 obtain⟨o3,hJ3,hO3⟩:=Ah h
 clear h
 refine AWP.Br (ι:=Nat×(Unit)×(Unit)) (fun zz=>[(0,.sl 4 (l.map Ao)),(1,.int .i64 t),(5,.own 0 ver2 0 out1.length),(6,.int .i64 (((k2:Nat):Int)+1)),(7,.int .i64 ((zz.1:Nat):Int))]) (fun zz=>[.row ver2 1 (out1.map Av)]) (fun zz=>zz.1≤l.length∧Am (Kw t out1 k2) zz.1 ((l).drop zz.1) zz.2.1=some o3) (fun zz=>l.length - zz.1) (0,(),()) ⟨Nat.zero_le _,hJ3⟩ cu cu (fun x=>⟨rfl,rfl,rfl⟩) ?_
 clear hJ3
 rintro⟨k3,⟨⟩,⟨⟩⟩ ⟨hk3,hJ3⟩
 dsimp only at hk3 hJ3 ⊢
 refine sq (sq ?_)
 refine rg rfl fun K j=>?_
 intro hm
 refine j _ _ (qn ?_)
 refine AWP.cond (Aj (fun hc=>?_) (fun hc=>?_))
 rotate_left
 ·obtain rfl:=Bc hJ3 (fun hl=>by have:=Ajm hc;omega)
  have h:=Bb hO3;try dsimp only at h
  have hkl:l.length=k3:=by have:=Ajm hc;omega
  subst hkl
  refine xt (qe (qe (bs (bn (qn (ar rfl (qn ?_)))))))
  obtain rfl:=Aa h
  refine⟨(k2+1,out1,ver2),⟨by dsimp only;omega,Ae hJ2⟩,by dsimp only;omega,?_,?_⟩
  ·exact cuw hw2
  exact cuw hw2
 have hlt3:k3<l.length:=by have:=Ajn hc;omega
 obtain⟨x_5,b3,hx3_,h,hJ3⟩:=A2 hJ3 hlt3
 have hx3:=Az hx3_
 have hw3:=wk (k:=k3) (by omega)
 unfold Kw at h;try dsimp only at h
 refine sk (qn (sq (bk (sq ?_))))
 refine rg rfl fun K j=>?_
 refine Bk.of (f:=Ao) (l:=l) hx3 ?_
 refine nS ?_
 revert h;refine gt (fun hc h=>?_) fun hc h=>?_
 ·refine Bk.of (f:=Ao) (l:=l) hx3 ?_
  refine nS ?_
  revert h;refine gt (fun hc h=>?_) fun hc h=>?_
  ·refine Bk.of (f:=Ao) (l:=l) hx3 ?_
   refine nS ?_
   obtain⟨y6,hy6,h⟩:=Ah h
   refine Al.pure Tryz.call217 (Wv x_5.Runs (((k2:Nat):Int)+1) hy6) rfl fun _ hr=>?_
   subst hr
   refine nS ?_
   refine j _ _ (qn ?_)
   revert h;refine ca rfl (fun hc h=>?_) fun hc h=>?_
   ·refine sq ?_
    refine rg rfl fun K j=>?_
    obtain⟨hk,h⟩:=Bz h
    (repeat refine rp ?_);try simp +decide -implicitDefEqProofs only[go_sem]
    refine j _ _ (qn (xt (mA (by decide) (qe (qe ?_)))))
    obtain rfl:=Aa h
    obtain rfl:=Af hJ3
    replace h:=An hO3
    refine bs (bn (qn (ar rfl (qn ?_))))
    obtain rfl:=Aa h
    refine⟨(k2+1,(out1++[(((k2:Nat):Int)+1)]),(ver2+1)),⟨by dsimp only;omega,Ae hJ2⟩,by dsimp only;omega,?_,?_⟩
    ·exact cuw hw2
    exact cuw hw2
   refine sk (bn (qn (ar rfl (qn ?_))))
   obtain rfl:=Aa h
   refine⟨(k3+1,(),()),⟨by dsimp only;omega,Ae hJ3⟩,by dsimp only;omega,?_,?_⟩
   ·exact cuw hw3
   exact cuw hw3
  refine j _ _ (qn ?_)
  refine AWP.cond (Bg ?_)
  refine sk (bn (qn (ar rfl (qn ?_))))
  obtain rfl:=Aa h
  refine⟨(k3+1,(),()),⟨by dsimp only;omega,Ae hJ3⟩,by dsimp only;omega,?_,?_⟩
  ·exact cuw hw3
  exact cuw hw3
 refine j _ _ (qn ?_)
 refine AWP.cond (Bg ?_)
 refine sk (bn (qn (ar rfl (qn ?_))))
 obtain rfl:=Aa h
 refine⟨(k3+1,(),()),⟨by dsimp only;omega,Ae hJ3⟩,by dsimp only;omega,?_,?_⟩
 ·exact cuw hw3
 exact cuw hw3
theorem cZ (l:List Ba) (t:Int) {r:(List Int)} (h:N4 l t=some r):Ad Tryz.prog 114 [.sl 4 (l.map Ao),.int .i64 t] (·= .sl 1 (r.map Av)):=(aP l t h).pure
def Wu (n_:Int) (k0:Nat) (x_2:Int) (sv:Unit):Option (Out (Unit) (Bool)):=
 (bif (decide (x_2=n_))then some (Out.ret true)else some (Out.next ()))
def Hj (l:List Int) (n_:Int):Option (Bool):=
 (Am (Wu n_) 0 l ()).bind fun o0=>o0.on fun s0=>some false
theorem Jn (l:List Int) (n_:Int) {r:Bool} (h:Hj l n_=some r):Ad Tryz.prog 31 [.sl 1 (l.map Av),.int .i64 n_] (·= .bool r):=by
 refine Ad.nle (Ad.intro Tryz.func31 rfl rfl (by show _≤18;simp) ?_)
 unfold Hj at h
 refine nS (sq ?_)
 refine ar rfl (qn (sq (sq ?_)))
 refine ar rfl (qn (bk ?_))
 obtain⟨o0,hJ0,hO0⟩:=Ah h
 clear h
 refine AWP.Br (ι:=Nat×(Unit)×(Unit)) (fun zz=>[(0,.sl 1 (l.map Av)),(1,.int .i64 n_),(5,.int .i64 ((zz.1:Nat):Int))]) (fun zz=>[]) (fun zz=>zz.1≤l.length∧Am (Wu n_) zz.1 ((l).drop zz.1) zz.2.1=some o0) (fun zz=>l.length - zz.1) (0,(),()) ⟨Nat.zero_le _,hJ0⟩ cu cu (fun x=>⟨rfl,rfl,rfl⟩) ?_
 clear hJ0
 rintro⟨k0,⟨⟩,⟨⟩⟩ ⟨hk0,hJ0⟩
 dsimp only at hk0 hJ0 ⊢
 refine sq (sq ?_)
 refine rg rfl fun K j=>?_
 intro hm
 refine j _ _ (qn ?_)
 refine AWP.cond (Aj (fun hc=>?_) (fun hc=>?_))
 rotate_left
 ·obtain rfl:=Bc hJ0 (fun hl=>by have:=Ajm hc;omega)
  have h:=Bb hO0;try dsimp only at h
  have hkl:l.length=k0:=by have:=Ajm hc;omega
  subst hkl
  refine xt (qe (qe (bs (qn (sq (ar rfl (qn (rt ?_))))))))
  cases h;exact en Tryz.results31
 have hlt0:k0<l.length:=by have:=Ajn hc;omega
 obtain⟨x_2,b0,hx0_,h,hJ0⟩:=A2 hJ0 hlt0
 have hx0:=Az hx0_
 have hw0:=wk (k:=k0) (by omega)
 unfold Wu at h;try dsimp only at h
 refine sk (qn (sq (bk (sq ?_))))
 refine rg rfl fun K j=>?_
 refine Bk.of (f:=Av) (l:=l) hx0 ?_
 refine nS ?_
 refine j _ _ (qn ?_)
 revert h;refine ca rfl (fun hc h=>?_) fun hc h=>?_
 ·refine sq (ar rfl (qn (rt (br (qr (qr ?_))))))
  obtain rfl:=Aa h
  obtain rfl:=Af hJ0
  replace h:=An hO0
  refine br (qr ?_)
  cases h;exact en Tryz.results31
 refine sk (bn (qn (ar rfl (qn ?_))))
 obtain rfl:=Aa h
 refine⟨(k0+1,(),()),⟨by dsimp only;omega,Ae hJ0⟩,by dsimp only;omega,?_,?_⟩
 ·exact cuw hw0
 exact cuw hw0
def Gd (last1:Int) (k5:Nat) (x_7:Bi) (sv:Int):Option (Out (Int) (Out (Int×(List Int)) ((List Int)))):=
 (Np x_7).bind fun y8=>(bif y8 then(bif (decide (x_7.State≠0))then (bif (decide (last1<x_7.Slide))then (bif (decide (sv=0))then some (Out.next x_7.Slide)else (bif (decide (x_7.Slide<sv))then some (Out.next x_7.Slide)else some (Out.next sv)))else some (Out.next sv))else some (Out.next sv))else some (Out.next sv))
def Jd (l:List Bi) (sv:Int×(List Int)):Option (Out (Int×(List Int)) ((List Int))):=
 (Am (Gd sv.1) 0 l 0).bind fun o5=>o5.on fun s5=>(bif (decide (s5=0))then some (Out.ret sv.2)else chk (sv.2.length+1) (some (Out.next (s5,(sv.2++[s5])))))
def Lt (l:List Bi):Option ((List Int)):=
 (Ds (Jd l) fuel (0,[])).bind fun o3=>o3.on fun _=>none
theorem Zo (l:List Bi) {r:(List Int)} (h:Lt l=some r):Bh Tryz.prog 218 [.sl 7 (l.map Ap)] (·= .sl 1 (r.map Av)):=by
 refine Bh.nle (Bh.intro Tryz.func218 rfl rfl (by show _≤61;simp) ?_)
 unfold Lt at h
 refine nS (sq ?_)
 refine ar rfl (qn (sq ?_))
 refine ar rfl (qn (sq ?_))
 refine ar rfl (qn (bk ?_))
 refine AWP.ghost 3 1 rfl (by decide) ?_
 obtain⟨o3,hJ3,hO3⟩:=Ah h
 clear h
 refine AWP.Br (ι:=Nat×(Int×(List Int))×(Nat)) (fun zz=>[(0,.sl 7 (l.map Ap)),(3,.own 0 zz.2.2 0 zz.2.1.2.length),(4,.int .i64 zz.2.1.1)]) (fun zz=>[.row zz.2.2 1 (zz.2.1.2.map Av)]) (fun zz=>Ds (Jd l) zz.1 zz.2.1=some o3) (fun zz=>zz.1) (fuel,(0,[]),0) hJ3 cu cu (fun x=>⟨rfl,rfl,rfl⟩) ?_
 clear hJ3
 rintro⟨n3,⟨last1,out2⟩,ver3⟩ hJ3
 dsimp only at hJ3 ⊢
 obtain⟨m3,b3,rfl,h,hJ3⟩:=Fw hJ3
 unfold Jd at h;try dsimp only at h
 refine bk (sq (ar rfl (qn (sq (sq ?_)))))
 refine ar rfl (qn (bk ?_))
 obtain⟨o5,hJ5,hO5⟩:=Ah h
 clear h
 refine AWP.Br (ι:=Nat×(Int)×(Unit)) (fun zz=>[(0,.sl 7 (l.map Ap)),(3,.own 0 ver3 0 out2.length),(4,.int .i64 last1),(5,.int .i64 zz.2.1),(6,.int .i64 ((zz.1:Nat):Int))]) (fun zz=>[.row ver3 1 (out2.map Av)]) (fun zz=>zz.1≤l.length∧Am (Gd last1) zz.1 ((l).drop zz.1) zz.2.1=some o5) (fun zz=>l.length - zz.1) (0,0,()) ⟨Nat.zero_le _,hJ5⟩ cu cu (fun x=>⟨rfl,rfl,rfl⟩) ?_
 clear hJ5
 rintro⟨k5,next_5,⟨⟩⟩ ⟨hk5,hJ5⟩
 dsimp only at hk5 hJ5 ⊢
 refine sq (sq ?_)
 refine rg rfl fun K j=>?_
 intro hm
 refine j _ _ (qn ?_)
 refine AWP.cond (Aj (fun hc=>?_) (fun hc=>?_))
 rotate_left
 ·obtain rfl:=Bc hJ5 (fun hl=>by have:=Ajm hc;omega)
  have h:=Bb hO5;try dsimp only at h
  have hkl:l.length=k5:=by have:=Ajm hc;omega
  subst hkl
  refine xt (qe (qe (bs (qn (sq (sq (ar rfl (qn ?_))))))))
  revert h;refine ca rfl (fun hc h=>?_) fun hc h=>?_
  ·refine sq (ar rfl (qn (rt (qr (br (qr ?_))))))
   obtain rfl:=Aa h
   obtain rfl:=Af hJ3
   replace h:=An hO3
   refine br ?_
   cases h;exact en Tryz.results218
  refine sk (qn (sq ?_))
  refine rg rfl fun K j=>?_
  obtain⟨hk,h⟩:=Bz h
  (repeat refine rp ?_);try simp +decide -implicitDefEqProofs only[go_sem]
  refine j _ _ (qn ?_)
  refine ar rfl (bn (qn ?_))
  obtain rfl:=Aa h
  refine⟨(m3,(next_5,(out2++[next_5])),(ver3+1)),Ae hJ3,by dsimp only;omega,?_,?_⟩
  ·exact cu
  exact cu
 have hlt5:k5<l.length:=by have:=Ajn hc;omega
 obtain⟨x_7,b5,hx5_,h,hJ5⟩:=A2 hJ5 hlt5
 have hx5:=Az hx5_
 have hw5:=wk (k:=k5) (by omega)
 unfold Gd at h;try dsimp only at h
 refine sk (qn (sq (bk (sq ?_))))
 refine rg rfl fun K j=>?_
 refine Bk.of (f:=Ap) (l:=l) hx5 ?_
 refine nS ?_
 obtain⟨y8,hy8,h⟩:=Ah h
 refine Al.pure Tryz.call189 (Q8 x_7 hy8) rfl fun _ hr=>?_
 subst hr
 refine nS ?_
 revert h;refine gt (fun hc h=>?_) fun hc h=>?_
 ·refine Bk.of (f:=Ap) (l:=l) hx5 ?_
  refine nS ?_
  revert h;refine gt (fun hc h=>?_) fun hc h=>?_
  ·refine Bk.of (f:=Ap) (l:=l) hx5 ?_
   refine nS ?_
   revert h;refine gt (fun hc h=>?_) fun hc h=>?_
   ·revert h;refine gf (fun hc h=>?_) fun hc h=>?_
    ·refine Bk.of (f:=Ap) (l:=l) hx5 ?_
     refine nS ?_
     refine j _ _ (qn ?_)
     revert h;refine ca rfl (fun hc h=>?_) fun hc h=>?_
     ·refine rg rfl fun K j=>?_
      refine Bk.of (f:=Ap) (l:=l) hx5 ?_
      refine nS ?_
      refine j _ _ (bn (qn ?_))
      refine ar rfl (qn ?_)
      obtain rfl:=Aa h
      refine⟨(k5+1,x_7.Slide,()),⟨by dsimp only;omega,Ae hJ5⟩,by dsimp only;omega,?_,?_⟩
      ·exact cuw hw5
      exact cuw hw5
     refine sk (bn (qn (ar rfl (qn ?_))))
     obtain rfl:=Aa h
     refine⟨(k5+1,next_5,()),⟨by dsimp only;omega,Ae hJ5⟩,by dsimp only;omega,?_,?_⟩
     ·exact cuw hw5
     exact cuw hw5
    refine j _ _ (qn ?_)
    refine AWP.cond (Ai ?_)
    refine rg rfl fun K j=>?_
    refine Bk.of (f:=Ap) (l:=l) hx5 ?_
    refine nS ?_
    refine j _ _ (bn (qn ?_))
    refine ar rfl (qn ?_)
    obtain rfl:=Aa h
    refine⟨(k5+1,x_7.Slide,()),⟨by dsimp only;omega,Ae hJ5⟩,by dsimp only;omega,?_,?_⟩
    ·exact cuw hw5
    exact cuw hw5
   refine j _ _ (qn ?_)
   refine AWP.cond (Bg ?_)
   refine sk (bn (qn (ar rfl (qn ?_))))
   obtain rfl:=Aa h
   refine⟨(k5+1,next_5,()),⟨by dsimp only;omega,Ae hJ5⟩,by dsimp only;omega,?_,?_⟩
   ·exact cuw hw5
   exact cuw hw5
  refine j _ _ (qn ?_)
  refine AWP.cond (Bg ?_)
  refine sk (bn (qn (ar rfl (qn ?_))))
  obtain rfl:=Aa h
  refine⟨(k5+1,next_5,()),⟨by dsimp only;omega,Ae hJ5⟩,by dsimp only;omega,?_,?_⟩
  ·exact cuw hw5
  exact cuw hw5
 refine j _ _ (qn ?_)
 refine AWP.cond (Bg ?_)
 refine sk (bn (qn (ar rfl (qn ?_))))
 obtain rfl:=Aa h
 refine⟨(k5+1,next_5,()),⟨by dsimp only;omega,Ae hJ5⟩,by dsimp only;omega,?_,?_⟩
 ·exact cuw hw5
 exact cuw hw5
theorem aN (l:List Bi) {r:(List Int)} (h:Lt l=some r):Ad Tryz.prog 218 [.sl 7 (l.map Ap)] (·= .sl 1 (r.map Av)):=(Zo l h).pure
def Ls (zone:Int) (y1:(List Int)) (k1:Nat) (x_3:Bf) (sv:Unit):Option (Out (Unit) (Bool)):=
 (Hj y1 x_3.ID).bind fun y4=>(bif y4 then(Hj x_3.Zones zone).bind fun y5=>(bif y5 then some (Out.ret true)else some (Out.next ()))else some (Out.next ()))
def Mn (f_:Ak) (zone:Int):Option (Bool):=
 (Lt f_.Missions).bind fun y1=>(Am (Ls zone y1) 0 f_.Slides ()).bind fun o1=>o1.on fun s1=>some false
theorem Zl (f_:Ak) (zone:Int) {r:Bool} (h:Mn f_ zone=some r):Ad Tryz.prog 115 [.agg (Bw f_),.int .i64 zone] (·= .bool r):=by
 refine Ad.nle (Ad.intro Tryz.func115 rfl rfl (by show _≤35;simp) ?_)
 unfold Mn at h
 refine nS (sq ?_)
 refine ar rfl (qn (sq ?_))
 refine rg rfl fun K j=>?_
 obtain⟨y1,hy1,h⟩:=Ah h
 refine Al.pure Tryz.call218 (aN f_.Missions hy1) rfl fun _ hr=>?_
 subst hr
 refine nS ?_
 refine j _ _ (qn (sq (sq ?_)))
 refine ar rfl (qn (bk ?_))
 obtain⟨o1,hJ1,hO1⟩:=Ah h
 clear h
 refine AWP.Br (ι:=Nat×(Unit)×(Unit)) (fun zz=>[(1,.int .i64 zone),(2,.ptr 0 0),(5,.sl 1 (y1.map Av)),(6,.int .i64 ((zz.1:Nat):Int))]) (fun zz=>[.box [.sl 2 (f_.Map.Nodes.map A9),.sl 8 (f_.Map.Lifts.map A6),.sl 7 (f_.Map.Runs.map Bd),.sl 1 (f_.Map.Bases.map Av),.sl 2 (f_.Lifts.map Ay),.sl 4 (f_.Closures.map Aq),.sl 4 (f_.Patrol.Bv.map Ax),.sl 3 (f_.Patrol.Hazards.map A3),.sl 3 (f_.Surfaces.map A8),.sl 5 (f_.Packs.map A4),.sl 6 (f_.Slides.map A5),.sl 7 (f_.Bulletin.map Ar),.sl 7 (f_.Missions.map Ap),.sl 4 (f_.Winches.map Ao),.sl 8 (f_.Groomers.map A1),.sl 3 (f_.Status.map A7),.int .i64 f_.Depth,.int .i64 f_.Time]]) (fun zz=>zz.1≤f_.Slides.length∧Am (Ls zone y1) zz.1 ((f_.Slides).drop zz.1) zz.2.1=some o1) (fun zz=>f_.Slides.length - zz.1) (0,(),()) ⟨Nat.zero_le _,hJ1⟩ cu cu (fun x=>⟨rfl,rfl,rfl⟩) ?_
 clear hJ1
 rintro⟨k1,⟨⟩,⟨⟩⟩ ⟨hk1,hJ1⟩
 dsimp only at hk1 hJ1 ⊢
 refine sq (sq ?_)
 refine rg rfl fun K j=>?_
 intro hm
 refine j _ _ (qn ?_)
 refine AWP.cond (Aj (fun hc=>?_) (fun hc=>?_))
 rotate_left
 ·obtain rfl:=Bc hJ1 (fun hl=>by have:=Ajm hc;omega)
  have h:=Bb hO1;try dsimp only at h
  have hkl:f_.Slides.length=k1:=by have:=Ajm hc;omega
  subst hkl
  refine xt (qe (qe (bs (qn (sq (ar rfl (qn (rt ?_))))))))
  cases h;exact en Tryz.results115
 have hlt1:k1<f_.Slides.length:=by have:=Ajn hc;omega
 obtain⟨x_3,b1,hx1_,h,hJ1⟩:=A2 hJ1 hlt1
 have hx1:=Az hx1_
 have hw1:=wk (k:=k1) (by omega)
 unfold Ls at h;try dsimp only at h
 refine sk (qn (sq (bk (sq ?_))))
 refine rg rfl fun K j=>?_
 refine Bk.of (f:=A5) (l:=f_.Slides) hx1 ?_
 refine nS ?_
 obtain⟨y4,hy4,h⟩:=Ah h
 refine Al.pure Tryz.call31 (Jn y1 x_3.ID hy4) rfl fun _ hr=>?_
 subst hr
 refine nS ?_
 revert h;refine gt (fun hc h=>?_) fun hc h=>?_
 ·refine Bk.of (f:=A5) (l:=f_.Slides) hx1 ?_
  refine nS ?_
  obtain⟨y5,hy5,h⟩:=Ah h
  refine Al.pure Tryz.call31 (Jn x_3.Zones zone hy5) rfl fun _ hr=>?_
  subst hr
  refine nS ?_
  refine j _ _ (qn ?_)
  revert h;refine ca rfl (fun hc h=>?_) fun hc h=>?_
  ·refine sq (ar rfl (qn (rt (br (qr (qr ?_))))))
   obtain rfl:=Aa h
   obtain rfl:=Af hJ1
   replace h:=An hO1
   refine br (qr ?_)
   cases h;exact en Tryz.results115
  refine sk (bn (qn (ar rfl (qn ?_))))
  obtain rfl:=Aa h
  refine⟨(k1+1,(),()),⟨by dsimp only;omega,Ae hJ1⟩,by dsimp only;omega,?_,?_⟩
  ·exact cuw hw1
  exact cuw hw1
 refine j _ _ (qn ?_)
 refine AWP.cond (Bg ?_)
 refine sk (bn (qn (ar rfl (qn ?_))))
 obtain rfl:=Aa h
 refine⟨(k1+1,(),()),⟨by dsimp only;omega,Ae hJ1⟩,by dsimp only;omega,?_,?_⟩
 ·exact cuw hw1
 exact cuw hw1
def Kt (levels:List Int) (k1:Nat) (x_3:Int) (sv:Int):Option (Out (Int) (Int)):=
 (bif (decide (x_3≤((levels.length:Nat):Int)))then (Di levels (IntKind.i64.wrap (x_3 - 1))).bind fun x_4=>(bif (decide (((k1:Nat):Int)=0))then some (Out.next x_4)else (bif (decide (sv<x_4))then some (Out.next x_4)else some (Out.next sv)))else (bif (decide (((k1:Nat):Int)=0))then some (Out.next 0)else (bif (decide (sv<0))then some (Out.next 0)else some (Out.next sv))))
def Td (s_:Bf) (levels:List Int):Option (Int):=
 (Am (Kt levels) 0 s_.Zones 0).bind fun o1=>o1.on fun s1=>some s1
theorem cT (s_:Bf) (levels:List Int) {r:Int} (h:Td s_ levels=some r):Ad Tryz.prog 269 [.agg (A5 s_),.sl 1 (levels.map Av)] (·= .int .i64 r):=by
 refine Ad.nle (Ad.intro Tryz.func269 rfl rfl (by show _≤41;simp) ?_)
 unfold Td at h
 refine nS (sq ?_)
 refine ar rfl (qn (sq ?_))
 refine ar rfl (qn (sq (sq ?_)))
 refine ar rfl (qn (bk ?_))
 obtain⟨o1,hJ1,hO1⟩:=Ah h
 clear h
 refine AWP.Br (ι:=Nat×(Int)×(Unit)) (fun zz=>[(1,.sl 1 (levels.map Av)),(2,.ptr 0 0),(5,.int .i64 zz.2.1),(6,.int .i64 ((zz.1:Nat):Int))]) (fun zz=>[.box [.int .i64 s_.ID,.sl 1 (s_.Zones.map Av),.sl 1 (s_.Lifts.map Av),.int .i64 s_.Limit,.int .i64 s_.Load,.int .i64 s_.Controlled]]) (fun zz=>zz.1≤s_.Zones.length∧Am (Kt levels) zz.1 ((s_.Zones).drop zz.1) zz.2.1=some o1) (fun zz=>s_.Zones.length - zz.1) (0,0,()) ⟨Nat.zero_le _,hJ1⟩ cu cu (fun x=>⟨rfl,rfl,rfl⟩) ?_
 clear hJ1
 rintro⟨k1,most1,⟨⟩⟩ ⟨hk1,hJ1⟩
 dsimp only at hk1 hJ1 ⊢
 refine sq (sq ?_)
 refine rg rfl fun K j=>?_
 intro hm
 refine j _ _ (qn ?_)
 refine AWP.cond (Aj (fun hc=>?_) (fun hc=>?_))
 rotate_left
 ·obtain rfl:=Bc hJ1 (fun hl=>by have:=Ajm hc;omega)
  have h:=Bb hO1;try dsimp only at h
  have hkl:s_.Zones.length=k1:=by have:=Ajm hc;omega
  subst hkl
  refine xt (qe (qe (bs (qn (sq (ar rfl (qn (rt ?_))))))))
  cases h;exact en Tryz.results269
 have hlt1:k1<s_.Zones.length:=by have:=Ajn hc;omega
 obtain⟨x_3,b1,hx1_,h,hJ1⟩:=A2 hJ1 hlt1
 have hx1:=Az hx1_
 have hw1:=wk (k:=k1) (by omega)
 unfold Kt at h;try dsimp only at h
 refine sk (qn (sq (bk (sq (ar rfl (qn (sq (sq ?_))))))))
 refine rg rfl fun K j=>?_
 refine Bk.of (f:=Av) (l:=s_.Zones) hx1 ?_
 refine nS ?_
 intro hm
 refine j _ _ (qn ?_)
 revert h;refine ca rfl (fun hc h=>?_) fun hc h=>?_
 ·refine rg rfl fun K j=>?_
  refine Bk.of (f:=Av) (l:=s_.Zones) hx1 ?_
  refine nS ?_
  obtain⟨x_4,hx_4,h⟩:=Ah h
  refine Bk.of (f:=Av) (l:=levels) hx_4 ?_
  refine nS ?_
  refine j _ _ (qn (sq ?_))
  refine rg rfl fun K j=>?_
  revert h;refine gf (fun hc h=>?_) fun hc h=>?_
  ·refine j _ _ (qn ?_)
   revert h;refine ca rfl (fun hc h=>?_) fun hc h=>?_
   ·refine ar rfl (bn (qn ?_))
    refine ar rfl (qn ?_)
    obtain rfl:=Aa h
    refine⟨(k1+1,x_4,()),⟨by dsimp only;omega,Ae hJ1⟩,by dsimp only;omega,?_,?_⟩
    ·exact cuw hw1
    exact cuw hw1
   refine sk (bn (qn (ar rfl (qn ?_))))
   obtain rfl:=Aa h
   refine⟨(k1+1,most1,()),⟨by dsimp only;omega,Ae hJ1⟩,by dsimp only;omega,?_,?_⟩
   ·exact cuw hw1
   exact cuw hw1
  refine j _ _ (qn ?_)
  refine AWP.cond (Ai ?_)
  refine ar rfl (bn (qn ?_))
  refine ar rfl (qn ?_)
  obtain rfl:=Aa h
  refine⟨(k1+1,x_4,()),⟨by dsimp only;omega,Ae hJ1⟩,by dsimp only;omega,?_,?_⟩
  ·exact cuw hw1
  exact cuw hw1
 refine sk (qn (sq ?_))
 refine rg rfl fun K j=>?_
 revert h;refine gf (fun hc h=>?_) fun hc h=>?_
 ·refine j _ _ (qn ?_)
  revert h;refine ca rfl (fun hc h=>?_) fun hc h=>?_
  ·refine ar rfl (bn (qn ?_))
   refine ar rfl (qn ?_)
   obtain rfl:=Aa h
   refine⟨(k1+1,0,()),⟨by dsimp only;omega,Ae hJ1⟩,by dsimp only;omega,?_,?_⟩
   ·exact cuw hw1
   exact cuw hw1
  refine sk (bn (qn (ar rfl (qn ?_))))
  obtain rfl:=Aa h
  refine⟨(k1+1,most1,()),⟨by dsimp only;omega,Ae hJ1⟩,by dsimp only;omega,?_,?_⟩
  ·exact cuw hw1
  exact cuw hw1
 refine j _ _ (qn ?_)
 refine AWP.cond (Ai ?_)
 refine ar rfl (bn (qn ?_))
 refine ar rfl (qn ?_)
 obtain rfl:=Aa h
 refine⟨(k1+1,0,()),⟨by dsimp only;omega,Ae hJ1⟩,by dsimp only;omega,?_,?_⟩
 ·exact cuw hw1
 exact cuw hw1
def Ks (s_:Bf) (levels:List Int):Option (Bool):=
 (Td s_ levels).bind fun y1=>(bif (decide (4<y1))then some true else(bif (decide (y1=4))then some (decide ((IntKind.i64.wrap (Int.tdiv s_.Limit 4))≤s_.Load))else (bif (decide (y1=3))then some (decide ((IntKind.i64.wrap (Int.tdiv s_.Limit 2))≤s_.Load))else some (decide (s_.Limit≤s_.Load)))))
theorem Yv (s_:Bf) (levels:List Int) {r:Bool} (h:Ks s_ levels=some r):Ad Tryz.prog 219 [.agg (A5 s_),.sl 1 (levels.map Av)] (·= .bool r):=by
 refine Ad.nle (Ad.intro Tryz.func219 rfl rfl (by show _≤35;simp) ?_)
 unfold Ks at h
 refine nS (sq ?_)
 refine ar rfl (qn (sq ?_))
 refine rg rfl fun K j=>?_
 obtain⟨y1,hy1,h⟩:=Ah h
 refine Al.pure Tryz.call269 (cT s_ levels hy1) rfl fun _ hr=>?_
 subst hr
 refine nS ?_
 refine j _ _ (qn (bk (sq ?_)))
 refine ar rfl (qn ?_)
 revert h;refine ca rfl (fun hc h=>?_) fun hc h=>?_
 ·refine sq (ar rfl (qn (rt (br ?_))))
  cases h;exact en Tryz.results219
 refine sq (ar rfl (qn ?_))
 revert h;refine ca rfl (fun hc h=>?_) fun hc h=>?_
 ·refine sq (ar rfl (qn (rt (br ?_))))
  cases h;exact en Tryz.results219
 refine sq (ar rfl (qn ?_))
 revert h;refine ca rfl (fun hc h=>?_) fun hc h=>?_
 ·refine sq (ar rfl (qn (rt (br ?_))))
  cases h;exact en Tryz.results219
 refine sq (ar rfl (qn (rt (br ?_))))
 cases h;exact en Tryz.results219
def Kr (at_10:Int) (sv:Int×(List Int)):Option (Out (Int×(List Int)) (Out ((List Int)) (Out ((List Int)) ((List Int))))):=
 (bif (decide (at_10<sv.1))then (Di sv.2 (IntKind.i64.wrap (sv.1 - 1))).bind fun x_17=>(Di sv.2 sv.1).bind fun x_18=>(Di (sv.2.set sv.1.toNat x_17) (IntKind.i64.wrap (sv.1 - 1))).bind fun x_20=>some (Out.next ((IntKind.i64.wrap (sv.1 - 1)),((sv.2.set sv.1.toNat x_17).set (IntKind.i64.wrap (sv.1 - 1)).toNat x_18)))else some (Out.ret (Out.next sv.2)))
def Fy (out6:List Int) (x_9:Int) (at_10:Int):Option (Out ((List Int)) (Out ((List Int)) ((List Int)))):=
 chk (out6.length+1) ((Ds (Kr at_10) fuel ((IntKind.i64.wrap ((((out6.length+1):Nat):Int) - 1)),(out6++[x_9]))).bind fun o15=>o15.on fun _=>none)
def Hn (out6:List Int) (x_9:Int) (at_10:Int):Option (Out ((List Int)) (Out ((List Int)) ((List Int)))):=
 (bif (decide (at_10<((out6.length:Nat):Int)))then (Di out6 at_10).bind fun x_22=>(bif (decide (x_22=x_9))then some (Out.next out6)else Fy out6 x_9 at_10)else Fy out6 x_9 at_10)
def Kq (out6:List Int) (x_9:Int) (sv:Int):Option (Out (Int) (Out ((List Int)) (Out ((List Int)) ((List Int))))):=
 (bif (decide (sv<((out6.length:Nat):Int)))then (Di out6 sv).bind fun x_25=>(bif (decide (x_25<x_9))then some (Out.next (IntKind.i64.wrap (sv+1)))else (Hn out6 x_9 sv).bind fun q25=>some (Out.ret q25))else (bif false then some (Out.next (IntKind.i64.wrap (sv+1)))else (Hn out6 x_9 sv).bind fun q26=>some (Out.ret q26)))
def E0 (k7:Nat) (x_9:Int) (sv:(List Int)):Option (Out ((List Int)) (Out ((List Int)) ((List Int)))):=
 (Ds (Kq sv x_9) fuel 0).bind fun o23=>o23.on fun _=>none
def Ox (levels:List Int) (k2:Nat) (x_4:Bf) (sv:(List Int)):Option (Out ((List Int)) ((List Int))):=
 (Ks x_4 levels).bind fun y5=>(bif y5 then(Am E0 0 x_4.Zones sv).bind fun o7=>o7.on fun s7=>some (Out.next s7)else some (Out.next sv))
def N2 (l:List Bf) (levels:List Int):Option ((List Int)):=
 (Am (Ox levels) 0 l []).bind fun o2=>o2.on fun s2=>some s2
theorem aO (l:List Bf) (levels:List Int) {r:(List Int)} (h:N2 l levels=some r):Bh Tryz.prog 116 [.sl 6 (l.map A5),.sl 1 (levels.map Av)] (·= .sl 1 (r.map Av)):=by
 refine Bh.nle (Bh.intro Tryz.func116 rfl rfl (by show _≤27;simp) ?_)
 unfold N2 at h
 refine nS (sq ?_)
 refine ar rfl (qn (sq ?_))
 refine ar rfl (qn (sq (sq ?_)))
 refine ar rfl (qn (bk ?_))
 refine AWP.ghost 5 1 rfl (by decide) ?_
 obtain⟨o2,hJ2,hO2⟩:=Ah h
 clear h
 refine AWP.Br (ι:=Nat×((List Int))×(Nat)) (fun zz=>[(0,.sl 6 (l.map A5)),(1,.sl 1 (levels.map Av)),(5,.own 0 zz.2.2 0 zz.2.1.length),(6,.int .i64 ((zz.1:Nat):Int))]) (fun zz=>[.row zz.2.2 1 (zz.2.1.map Av)]) (fun zz=>zz.1≤l.length∧Am (Ox levels) zz.1 ((l).drop zz.1) zz.2.1=some o2) (fun zz=>l.length - zz.1) (0,[],0) ⟨Nat.zero_le _,hJ2⟩ cu cu (fun x=>⟨rfl,rfl,rfl⟩) ?_
 clear hJ2
 rintro⟨k2,out1,ver2⟩ ⟨hk2,hJ2⟩
 dsimp only at hk2 hJ2 ⊢
 refine sq (sq ?_)
 refine rg rfl fun K j=>?_
 intro hm
 refine j _ _ (qn ?_)
 refine AWP.cond (Aj (fun hc=>?_) (fun hc=>?_))
 rotate_left
 ·obtain rfl:=Bc hJ2 (fun hl=>by have:=Ajm hc;omega)
  have h:=Bb hO2;try dsimp only at h
  have hkl:l.length=k2:=by have:=Ajm hc;omega
  subst hkl
  refine xt (qe (qe (bs (qn (sq (ar rfl (qn (rt ?_))))))))
  cases h;exact en Tryz.results116
 have hlt2:k2<l.length:=by have:=Ajn hc;omega
 obtain⟨x_4,b2,hx2_,h,hJ2⟩:=A2 hJ2 hlt2
 have hx2:=Az hx2_
 have hw2:=wk (k:=k2) (by omega)
 unfold Ox at h;try dsimp only at h
 refine sk (qn (sq (bk (sq ?_))))
 refine rg rfl fun K j=>?_
 refine Bk.of (f:=A5) (l:=l) hx2 ?_
 refine nS ?_
 obtain⟨y5,hy5,h⟩:=Ah h
 refine Al.pure Tryz.call219 (Yv x_4 levels hy5) rfl fun _ hr=>?_
 subst hr
 refine nS ?_
 refine j _ _ (qn ?_)
 revert h;refine ca rfl (fun hc h=>?_) fun hc h=>?_
 ·refine rg rfl fun K j=>?_
  refine Bk.of (f:=A5) (l:=l) hx2 ?_
  refine nS ?_
  refine Al.inline Tryz.call220 Tryz.func220 rfl rfl (by show _≤78;simp) ?_
  refine nS (sq ?_)
  refine ar rfl (qn (sq (sq ?_)))
  refine ar rfl (qn (bk ?_))
  obtain⟨o7,hJ7,hO7⟩:=Ah h
  clear h
  refine AWP.Br (ι:=Nat×((List Int))×(Nat)) (fun zz=>[(0,.own 0 zz.2.2 0 zz.2.1.length),(1,.sl 1 (x_4.Zones.map Av)),(5,.int .i64 ((zz.1:Nat):Int))]) (fun zz=>[.row zz.2.2 1 (zz.2.1.map Av)]) (fun zz=>zz.1≤x_4.Zones.length∧Am E0 zz.1 ((x_4.Zones).drop zz.1) zz.2.1=some o7) (fun zz=>x_4.Zones.length - zz.1) (0,out1,ver2) ⟨Nat.zero_le _,hJ7⟩ cu cu (fun x=>⟨rfl,rfl,rfl⟩) ?_
  clear hJ7
  rintro⟨k7,out6,ver7⟩ ⟨hk7,hJ7⟩
  dsimp only at hk7 hJ7 ⊢
  refine sq (sq ?_)
  refine rg rfl fun K j=>?_
  intro hm
  refine j _ _ (qn ?_);clear j K
  refine AWP.cond (Aj (fun hc=>?_) (fun hc=>?_))
  rotate_left
  ·obtain rfl:=Bc hJ7 (fun hl=>by have:=Ajm hc;omega)
   have h:=Bb hO7;try dsimp only at h
   have hkl:x_4.Zones.length=k7:=by have:=Ajm hc;omega
   subst hkl
   refine xt (qe (qe (bs (qn (sq (ar rfl (qn (rt ?_))))))))
   refine nSc Tryz.results220 ?_
   refine j _ _ (bn (qn ?_))
   refine ar rfl (qn ?_)
   obtain rfl:=Aa h
   refine⟨(k2+1,out6,ver7),⟨by dsimp only;omega,Ae hJ2⟩,by dsimp only;omega,?_,?_⟩
   ·exact cuw hw2
   exact cuw hw2
  have hlt7:k7<x_4.Zones.length:=by have:=Ajn hc;omega
  obtain⟨x_9,b7,hx7_,h,hJ7⟩:=A2 hJ7 hlt7
  have hx7:=Az hx7_
  have hw7:=wk (k:=k7) (by omega)
  unfold E0 at h;try dsimp only at h
  refine sk (qn (sq (bk (sq (ar rfl (qn ?_))))))
  refine AWP.G6 (ι:=(Int)×(Unit)) (fun zz=>[(0,.own 0 ver7 0 out6.length),(1,.sl 1 (x_4.Zones.map Av)),(5,.int .i64 ((k7:Nat):Int)),(6,.int .i64 zz.1)]) (fun zz=>[.row ver7 1 (out6.map Av)]) (fun zz=>Hn out6 x_9 zz.1=some b7) (fun zz=>⟨rfl,rfl,rfl⟩) ?_ ?_
  ·refine bk ?_
   obtain⟨o23,hJ23,hO23⟩:=Ah h
   clear h
   refine AWP.Br (ι:=Nat×(Int)×(Unit)) (fun zz=>[(0,.own 0 ver7 0 out6.length),(1,.sl 1 (x_4.Zones.map Av)),(5,.int .i64 ((k7:Nat):Int)),(6,.int .i64 zz.2.1)]) (fun zz=>[.row ver7 1 (out6.map Av)]) (fun zz=>Ds (Kq out6 x_9) zz.1 zz.2.1=some o23) (fun zz=>zz.1) (fuel,0,()) hJ23 cu cu (fun x=>⟨rfl,rfl,rfl⟩) ?_
   clear hJ23
   rintro⟨n23,at_23,⟨⟩⟩ hJ23
   dsimp only at hJ23 ⊢
   obtain⟨m23,b23,rfl,h,hJ23⟩:=Fw hJ23
   unfold Kq at h;try dsimp only at h
   refine sq (sq ?_)
   refine AWP.draw Tryz.mixed (by kernel_rfl) ?_;intro K j
   refine nS ?_
   intro hm
   revert h;refine gt (fun hc h=>?_) fun hc h=>?_
   ·obtain⟨x_25,hx_25,h⟩:=Ah h
    refine F2 hx_25 (by first | rfl | exact(Cd _).symm | (simp only[List.length_append,List.length_cons,List.length_nil,List.length_set,List.length_replicate]<;>omega)) ?_
    refine nS ?_
    refine Cy.of (f:=Av) (l:=out6) (n:=at_23) hx_25 ?_
    refine nS ?_
    refine Bk.of (f:=Av) (l:=x_4.Zones) hx7 ?_
    refine nS ?_
    refine j _ _ _ (by kernel_rfl) ?_;clear j K
    refine qn ?_
    revert h;refine ca rfl (fun hc h=>?_) fun hc h=>?_
    ·refine sk (qn (bk (ar rfl (bn (qn ?_)))))
     obtain rfl:=Aa h
     refine⟨(m23,(IntKind.i64.wrap (at_23+1)),()),Ae hJ23,by dsimp only;omega,?_,?_⟩
     ·exact cu
     exact cu
    refine xt (qe (qe ?_))
    obtain⟨q25,hq,h⟩:=Ah h
    obtain rfl:=Aa h
    obtain rfl:=Af hJ23
    replace h:=hq.trans (An hO23)
    refine bs (qn ?_)
    exact⟨(at_23,()),h,cu,cu⟩
   refine j _ _ _ (by kernel_rfl) ?_;clear j K
   refine qn ?_
   revert h;refine ca rfl (fun hc h=>?_) fun hc h=>?_
   ·refine sk (qn (bk (ar rfl (bn (qn ?_)))))
    obtain rfl:=Aa h
    refine⟨(m23,(IntKind.i64.wrap (at_23+1)),()),Ae hJ23,by dsimp only;omega,?_,?_⟩
    ·exact cu
    exact cu
   refine xt (qe (qe ?_))
   obtain⟨q26,hq,h⟩:=Ah h
   obtain rfl:=Aa h
   obtain rfl:=Af hJ23
   replace h:=hq.trans (An hO23)
   refine bs (qn ?_)
   exact⟨(at_23,()),h,cu,cu⟩
  rintro⟨at_10,⟨⟩⟩ h
  try dsimp only at h ⊢
  unfold Hn at h;try dsimp only at h
  refine AWP.G6 (ι:=(Unit)×(Unit)) (fun zz=>[(0,.own 0 ver7 0 out6.length),(1,.sl 1 (x_4.Zones.map Av)),(5,.int .i64 ((k7:Nat):Int)),(6,.int .i64 at_10)]) (fun zz=>[.row ver7 1 (out6.map Av)]) (fun zz=>Fy out6 x_9 at_10=some b7) (fun zz=>⟨rfl,rfl,rfl⟩) ?_ ?_
  ·refine sq ?_
   refine AWP.draw Tryz.mixed (by kernel_rfl) ?_;intro K j
   refine nS ?_
   intro hm
   revert h;refine gt (fun hc h=>?_) fun hc h=>?_
   ·obtain⟨x_22,hx_22,h⟩:=Ah h
    refine F2 hx_22 (by first | rfl | exact(Cd _).symm | (simp only[List.length_append,List.length_cons,List.length_nil,List.length_set,List.length_replicate]<;>omega)) ?_
    refine nS ?_
    refine Cy.of (f:=Av) (l:=out6) (n:=at_10) hx_22 ?_
    refine nS ?_
    refine Bk.of (f:=Av) (l:=x_4.Zones) hx7 ?_
    refine nS ?_
    refine j _ _ _ (by kernel_rfl) ?_;clear j K
    refine qn ?_
    revert h;refine ca rfl (fun hc h=>?_) fun hc h=>?_
    ·refine xt (qe (bs (qn (ar rfl (qn ?_)))))
     obtain rfl:=Aa h
     refine⟨(k7+1,out6,ver7),⟨by dsimp only;omega,Ae hJ7⟩,by dsimp only;omega,?_,?_⟩
     ·exact cuw hw7
     exact cuw hw7
    refine sk (qn ?_)
    exact⟨((),()),h,cu,cu⟩
   refine j _ _ _ (by kernel_rfl) ?_;clear j K
   refine qn ?_
   refine AWP.cond (Bg ?_)
   refine sk (qn ?_)
   exact⟨((),()),h,cu,cu⟩
  rintro⟨⟨⟩,⟨⟩⟩ h
  try dsimp only at h ⊢
  unfold Fy at h;try dsimp only at h
  refine sq ?_
  refine rg rfl fun K j=>?_
  refine Bk.of (f:=Av) (l:=x_4.Zones) hx7 ?_
  refine nS ?_
  obtain⟨hk,h⟩:=Bz h
  (repeat refine rp ?_);try simp +decide -implicitDefEqProofs only[go_sem]
  refine j _ _ (qn (sq ?_));clear j K
  refine rg rfl fun K j=>?_
  intro hm
  refine j _ _ (qn (bk ?_));clear j K
  obtain⟨o15,hJ15,hO15⟩:=Ah h
  clear h
  refine AWP.Br (ι:=Nat×(Int×(List Int))×(Nat)) (fun zz=>[(0,.own 0 zz.2.2 0 zz.2.1.2.length),(1,.sl 1 (x_4.Zones.map Av)),(5,.int .i64 ((k7:Nat):Int)),(6,.int .i64 at_10),(7,.int .i64 zz.2.1.1)]) (fun zz=>[.row zz.2.2 1 (zz.2.1.2.map Av)]) (fun zz=>Ds (Kr at_10) zz.1 zz.2.1=some o15) (fun zz=>zz.1) (fuel,((IntKind.i64.wrap ((((out6.length+1):Nat):Int) - 1)),(out6++[x_9])),(ver7+1)) hJ15 cu cu (fun x=>⟨rfl,rfl,rfl⟩) ?_
  clear hJ15
  rintro⟨n15,⟨k_13,out14⟩,ver15⟩ hJ15
  dsimp only at hJ15 ⊢
  obtain⟨m15,b15,rfl,h,hJ15⟩:=Fw hJ15
  unfold Kr at h;try dsimp only at h
  refine sq (sq (ar rfl (qn ?_)))
  revert h;refine ca rfl (fun hc h=>?_) fun hc h=>?_
  ·refine sk (qn (sq (bk ?_)))
   refine AWP.draw Tryz.mixed (by kernel_rfl) ?_;intro K j
   refine nS ?_
   obtain⟨x_17,hx_17,h⟩:=Ah h
   refine F2 hx_17 (by first | rfl | exact(Cd _).symm | (simp only[List.length_append,List.length_cons,List.length_nil,List.length_set,List.length_replicate]<;>omega)) ?_
   refine nS ?_
   refine Cy.of (f:=Av) (l:=out14) (n:=(IntKind.i64.wrap (k_13 - 1))) hx_17 ?_
   refine nS ?_
   obtain⟨x_18,hx_18,h⟩:=Ah h
   refine F2 hx_18 (by first | rfl | exact(Cd _).symm | (simp only[List.length_append,List.length_cons,List.length_nil,List.length_set,List.length_replicate]<;>omega)) ?_
   refine nS ?_
   refine Cy.of (f:=Av) (l:=out14) (n:=k_13) hx_18 ?_
   refine nS ?_
   refine F2 hx_18 (by first | rfl | exact(Cd _).symm | (simp only[List.length_append,List.length_cons,List.length_nil,List.length_set,List.length_replicate]<;>omega)) ?_
   refine nS ?_
   refine Cy.of (f:=Av) (l:=out14) (n:=k_13) hx_18 ?_
   have hs19:=Ph (y:=x_17) hx_18
   refine nS ?_
   obtain⟨x_20,hx_20,h⟩:=Ah h
   refine F2 hx_20 (by first | rfl | exact(Cd _).symm | (simp only[List.length_append,List.length_cons,List.length_nil,List.length_set,List.length_replicate]<;>omega)) ?_
   refine nS ?_
   refine Cy.of (f:=Av) (l:=(out14.set k_13.toNat x_17)) (n:=(IntKind.i64.wrap (k_13 - 1))) hx_20 ?_
   have hs21:=Ph (y:=x_18) hx_20
   refine nS ?_
   refine j _ _ _ (by kernel_rfl) ?_;clear j K
   refine bn (qn (ar rfl (qn ?_)))
   obtain rfl:=Aa h
   refine⟨(m15,((IntKind.i64.wrap (k_13 - 1)),((out14.set k_13.toNat x_17).set (IntKind.i64.wrap (k_13 - 1)).toNat x_18)),ver15),Ae hJ15,by dsimp only;omega,?_,?_⟩
   ·exact cu
   exact cu
  refine xt (qe (qe ?_))
  obtain rfl:=Aa h
  obtain rfl:=Af hJ15
  replace h:=An hO15
  refine bs (bn (qn (ar rfl (qn ?_))))
  obtain rfl:=Aa h
  refine⟨(k7+1,out14,ver15),⟨by dsimp only;omega,Ae hJ7⟩,by dsimp only;omega,?_,?_⟩
  ·exact cuw hw7
  exact cuw hw7
 refine sk (bn (qn (ar rfl (qn ?_))))
 obtain rfl:=Aa h
 refine⟨(k2+1,out1,ver2),⟨by dsimp only;omega,Ae hJ2⟩,by dsimp only;omega,?_,?_⟩
 ·exact cuw hw2
 exact cuw hw2
theorem cQ (l:List Bf) (levels:List Int) {r:(List Int)} (h:N2 l levels=some r):Ad Tryz.prog 116 [.sl 6 (l.map A5),.sl 1 (levels.map Av)] (·= .sl 1 (r.map Av)):=(aO l levels h).pure
def Oz (l:Bq) (item:Int) (t:Int) (k1:Nat) (x_3:Fj) (sv:Int):Option (Out (Int) (Int)):=
 (bif (decide (x_3.Item=item))then (bif (decide (x_3.At≤t))then (bif (decide (t<(IntKind.i64.wrap (x_3.At+l.Every))))then some (Out.next (if sv<(IntKind.i64.wrap (x_3.At+l.Every))then (IntKind.i64.wrap (x_3.At+l.Every))else sv))else some (Out.next sv))else some (Out.next sv))else some (Out.next sv))
def Ut (l:Bq) (item:Int) (t:Int):Option (Int):=
 (Am (Oz l item t) 0 l.Signs t).bind fun o1=>o1.on fun s1=>some s1
theorem hN (l:Bq) (item:Int) (t:Int) {r:Int} (h:Ut l item t=some r):Ad Tryz.prog 283 [.agg (Dh l),.int .i64 item,.int .i64 t] (·= .int .i64 r):=by
 refine Ad.nle (Ad.intro Tryz.func283 rfl rfl (by show _≤50;simp) ?_)
 unfold Ut at h
 refine nS (sq ?_)
 refine ar rfl (qn (sq ?_))
 refine ar rfl (qn (sq (sq ?_)))
 refine ar rfl (qn (bk ?_))
 obtain⟨o1,hJ1,hO1⟩:=Ah h
 clear h
 refine AWP.Br (ι:=Nat×(Int)×(Unit)) (fun zz=>[(1,.int .i64 item),(2,.int .i64 t),(3,.ptr 0 0),(7,.int .i64 zz.2.1),(8,.int .i64 ((zz.1:Nat):Int))]) (fun zz=>[.box [.sl 1 (l.Items.map Av),.int .i64 l.Every,.sl 3 (l.Signs.map B8)]]) (fun zz=>zz.1≤l.Signs.length∧Am (Oz l item t) zz.1 ((l.Signs).drop zz.1) zz.2.1=some o1) (fun zz=>l.Signs.length - zz.1) (0,t,()) ⟨Nat.zero_le _,hJ1⟩ cu cu (fun x=>⟨rfl,rfl,rfl⟩) ?_
 clear hJ1
 rintro⟨k1,out1,⟨⟩⟩ ⟨hk1,hJ1⟩
 dsimp only at hk1 hJ1 ⊢
 refine sq (sq ?_)
 refine rg rfl fun K j=>?_
 intro hm
 refine j _ _ (qn ?_)
 refine AWP.cond (Aj (fun hc=>?_) (fun hc=>?_))
 rotate_left
 ·obtain rfl:=Bc hJ1 (fun hl=>by have:=Ajm hc;omega)
  have h:=Bb hO1;try dsimp only at h
  have hkl:l.Signs.length=k1:=by have:=Ajm hc;omega
  subst hkl
  refine xt (qe (qe (bs (qn (sq (ar rfl (qn (rt ?_))))))))
  cases h;exact en Tryz.results283
 have hlt1:k1<l.Signs.length:=by have:=Ajn hc;omega
 obtain⟨x_3,b1,hx1_,h,hJ1⟩:=A2 hJ1 hlt1
 have hx1:=Az hx1_
 have hw1:=wk (k:=k1) (by omega)
 unfold Oz at h;try dsimp only at h
 refine sk (qn (sq (bk (sq ?_))))
 refine rg rfl fun K j=>?_
 refine Bk.of (f:=B8) (l:=l.Signs) hx1 ?_
 refine nS ?_
 refine j _ _ (qn (sq ?_))
 refine rg rfl fun K j=>?_
 revert h;refine gt (fun hc h=>?_) fun hc h=>?_
 ·revert h;refine gt (fun hc h=>?_) fun hc h=>?_
  ·refine j _ _ (qn ?_)
   revert h;refine ca rfl (fun hc h=>?_) fun hc h=>?_
   ·refine ar rfl (bn (qn ?_))
    refine ar rfl (qn ?_)
    obtain rfl:=Aa h
    refine⟨(k1+1,(if out1<(IntKind.i64.wrap (x_3.At+l.Every))then (IntKind.i64.wrap (x_3.At+l.Every))else out1),()),⟨by dsimp only;omega,Ae hJ1⟩,by dsimp only;omega,?_,?_⟩
    ·exact cuw hw1
    exact cuw hw1
   refine sk (bn (qn (ar rfl (qn ?_))))
   obtain rfl:=Aa h
   refine⟨(k1+1,out1,()),⟨by dsimp only;omega,Ae hJ1⟩,by dsimp only;omega,?_,?_⟩
   ·exact cuw hw1
   exact cuw hw1
  refine j _ _ (qn ?_)
  refine AWP.cond (Bg ?_)
  refine sk (bn (qn (ar rfl (qn ?_))))
  obtain rfl:=Aa h
  refine⟨(k1+1,out1,()),⟨by dsimp only;omega,Ae hJ1⟩,by dsimp only;omega,?_,?_⟩
  ·exact cuw hw1
  exact cuw hw1
 refine j _ _ (qn ?_)
 refine AWP.cond (Bg ?_)
 refine sk (bn (qn (ar rfl (qn ?_))))
 obtain rfl:=Aa h
 refine⟨(k1+1,out1,()),⟨by dsimp only;omega,Ae hJ1⟩,by dsimp only;omega,?_,?_⟩
 ·exact cuw hw1
 exact cuw hw1
def Mu (l:Bq) (t:Int) (k2:Nat) (x_4:Int) (sv:(List Int)):Option (Out ((List Int)) ((List Int))):=
 (Ut l x_4 t).bind fun y5=>(bif (decide (y5=t))then chk (sv.length+1) (some (Out.next (sv++[x_4])))else some (Out.next sv))
def Pu (l:Bq) (t:Int):Option ((List Int)):=
 (Am (Mu l t) 0 l.Items []).bind fun o2=>o2.on fun s2=>some s2
theorem c9 (l:Bq) (t:Int) {r:(List Int)} (h:Pu l t=some r):Bh Tryz.prog 270 [.agg (Dh l),.int .i64 t] (·= .sl 1 (r.map Av)):=by
 refine Bh.nle (Bh.intro Tryz.func270 rfl rfl (by show _≤33;simp) ?_)
 unfold Pu at h
 refine nS (sq ?_)
 refine ar rfl (qn (sq ?_))
 refine ar rfl (qn (sq (sq ?_)))
 refine ar rfl (qn (bk ?_))
 refine AWP.ghost 5 1 rfl (by decide) ?_
 obtain⟨o2,hJ2,hO2⟩:=Ah h
 clear h
 refine AWP.Br (ι:=Nat×((List Int))×(Nat)) (fun zz=>[(1,.int .i64 t),(2,.ptr 0 0),(5,.own 1 zz.2.2 0 zz.2.1.length),(6,.int .i64 ((zz.1:Nat):Int))]) (fun zz=>[.box [.sl 1 (l.Items.map Av),.int .i64 l.Every,.sl 3 (l.Signs.map B8)],.row zz.2.2 1 (zz.2.1.map Av)]) (fun zz=>zz.1≤l.Items.length∧Am (Mu l t) zz.1 ((l.Items).drop zz.1) zz.2.1=some o2) (fun zz=>l.Items.length - zz.1) (0,[],0) ⟨Nat.zero_le _,hJ2⟩ cu cu (fun x=>⟨rfl,rfl,rfl⟩) ?_
 clear hJ2
 rintro⟨k2,out1,ver2⟩ ⟨hk2,hJ2⟩
 dsimp only at hk2 hJ2 ⊢
 refine sq (sq ?_)
 refine rg rfl fun K j=>?_
 intro hm
 refine j _ _ (qn ?_)
 refine AWP.cond (Aj (fun hc=>?_) (fun hc=>?_))
 rotate_left
 ·obtain rfl:=Bc hJ2 (fun hl=>by have:=Ajm hc;omega)
  have h:=Bb hO2;try dsimp only at h
  have hkl:l.Items.length=k2:=by have:=Ajm hc;omega
  subst hkl
  refine xt (qe (qe (bs (qn (sq (ar rfl (qn (rt ?_))))))))
  cases h;exact en Tryz.results270
 have hlt2:k2<l.Items.length:=by have:=Ajn hc;omega
 obtain⟨x_4,b2,hx2_,h,hJ2⟩:=A2 hJ2 hlt2
 have hx2:=Az hx2_
 have hw2:=wk (k:=k2) (by omega)
 unfold Mu at h;try dsimp only at h
 refine sk (qn (sq (bk (sq ?_))))
 refine AWP.draw Tryz.mixed (by kernel_rfl) ?_;intro K j
 refine nS ?_
 refine Bk.of (f:=Av) (l:=l.Items) hx2 ?_
 refine nS ?_
 obtain⟨y5,hy5,h⟩:=Ah h
 refine B1.pure Tryz.call283 (hN l x_4 t hy5) rfl ?_
 refine nS ?_
 refine j _ _ _ (by kernel_rfl) ?_
 refine qn ?_
 revert h;refine ca rfl (fun hc h=>?_) fun hc h=>?_
 ·refine rg rfl fun K j=>?_
  refine Bk.of (f:=Av) (l:=l.Items) hx2 ?_
  refine nS ?_
  obtain⟨hk,h⟩:=Bz h
  (repeat refine rp ?_);try simp +decide -implicitDefEqProofs only[go_sem]
  refine j _ _ (bn (qn ?_))
  refine ar rfl (qn ?_)
  obtain rfl:=Aa h
  refine⟨(k2+1,(out1++[x_4]),(ver2+1)),⟨by dsimp only;omega,Ae hJ2⟩,by dsimp only;omega,?_,?_⟩
  ·exact cuw hw2
  exact cuw hw2
 refine sk (bn (qn (ar rfl (qn ?_))))
 obtain rfl:=Aa h
 refine⟨(k2+1,out1,ver2),⟨by dsimp only;omega,Ae hJ2⟩,by dsimp only;omega,?_,?_⟩
 ·exact cuw hw2
 exact cuw hw2
theorem fM (l:Bq) (t:Int) {r:(List Int)} (h:Pu l t=some r):Ad Tryz.prog 270 [.agg (Dh l),.int .i64 t] (·= .sl 1 (r.map Av)):=(c9 l t h).pure
def Pv (l:Bq) (t:Int):Option (Bool):=
 (Pu l t).bind fun y1=>some (decide (((y1.length:Nat):Int)=0))
theorem fN (l:Bq) (t:Int) {r:Bool} (h:Pv l t=some r):Ad Tryz.prog 221 [.agg (Dh l),.int .i64 t] (·= .bool r):=by
 refine Ad.nle (Ad.intro Tryz.func221 rfl rfl (by show _≤10;simp) ?_)
 unfold Pv at h
 refine nS (sq ?_)
 refine ar rfl (qn (sq ?_))
 refine rg rfl fun K j=>?_
 obtain⟨y1,hy1,h⟩:=Ah h
 refine Al.pure Tryz.call270 (fM l t hy1) rfl fun _ hr=>?_
 subst hr
 refine nS ?_
 intro hm
 refine j _ _ (qn (rt ?_))
 cases h;exact en Tryz.results221
def Ot (run:Int) (k3:Nat) (x_5:Cv) (sv:Unit):Option (Out (Unit) (Bool)):=
 (bif (decide (x_5.Run=run))then some (Out.ret false)else some (Out.next ()))
def N0 (p:Cb) (run:Int) (t:Int):Option (Bool):=
 (On p run).bind fun y1=>(bif (decide (y1<0))then some false else(Di p.Bv y1).bind fun x_2=>(Pv x_2.List_ t).bind fun y3=>(bif (!y3)then some false else(Am (Ot run) 0 p.Hazards ()).bind fun o3=>o3.on fun s3=>some true))
theorem cL (p:Cb) (run:Int) (t:Int) {r:Bool} (h:N0 p run t=some r):Ad Tryz.prog 117 [.agg (Gs p),.int .i64 run,.int .i64 t] (·= .bool r):=by
 refine Ad.nle (Ad.intro Tryz.func117 rfl rfl (by show _≤40;simp) ?_)
 unfold N0 at h
 refine nS (sq ?_)
 refine ar rfl (qn (sq ?_))
 refine rg rfl fun K j=>?_
 obtain⟨y1,hy1,h⟩:=Ah h
 refine Al.pure Tryz.call184 (Y5 p run hy1) rfl fun _ hr=>?_
 subst hr
 refine nS ?_
 refine j _ _ (qn (sq (sq ?_)))
 refine rg rfl fun K j=>?_
 revert h;refine gf (fun hc h=>?_) fun hc h=>?_
 rotate_left
 ·refine j _ _ (qn ?_)
  refine AWP.cond (Ai ?_)
  refine sq (ar rfl (qn (rt (qr ?_))))
  cases h;exact en Tryz.results117
 obtain⟨x_2,hx_2,h⟩:=Ah h
 refine Bk.of (f:=Ax) (l:=p.Bv) hx_2 ?_
 refine nS ?_
 obtain⟨y3,hy3,h⟩:=Ah h
 refine Al.pure Tryz.call221 (fN x_2.List_ t hy3) rfl fun _ hr=>?_
 subst hr
 refine nS ?_
 refine j _ _ (qn ?_)
 revert h;refine ca rfl (fun hc h=>?_) fun hc h=>?_
 ·refine sq (ar rfl (qn (rt (qr ?_))))
  cases h;exact en Tryz.results117
 refine sk (qn (sq (sq (ar rfl (qn (bk ?_))))))
 obtain⟨o3,hJ3,hO3⟩:=Ah h
 clear h
 refine AWP.Br (ι:=Nat×(Unit)×(Unit)) (fun zz=>[(1,.int .i64 run),(3,.ptr 0 0),(8,.int .i64 ((zz.1:Nat):Int))]) (fun zz=>[.box [.sl 4 (p.Bv.map Ax),.sl 3 (p.Hazards.map A3)]]) (fun zz=>zz.1≤p.Hazards.length∧Am (Ot run) zz.1 ((p.Hazards).drop zz.1) zz.2.1=some o3) (fun zz=>p.Hazards.length - zz.1) (0,(),()) ⟨Nat.zero_le _,hJ3⟩ cu cu (fun x=>⟨rfl,rfl,rfl⟩) ?_
 clear hJ3
 rintro⟨k3,⟨⟩,⟨⟩⟩ ⟨hk3,hJ3⟩
 dsimp only at hk3 hJ3 ⊢
 refine sq (sq ?_)
 refine rg rfl fun K j=>?_
 intro hm
 refine j _ _ (qn ?_)
 refine AWP.cond (Aj (fun hc=>?_) (fun hc=>?_))
 rotate_left
 ·obtain rfl:=Bc hJ3 (fun hl=>by have:=Ajm hc;omega)
  have h:=Bb hO3;try dsimp only at h
  have hkl:p.Hazards.length=k3:=by have:=Ajm hc;omega
  subst hkl
  refine xt (qe (qe (bs (qn (sq (ar rfl (qn (rt ?_))))))))
  cases h;exact en Tryz.results117
 have hlt3:k3<p.Hazards.length:=by have:=Ajn hc;omega
 obtain⟨x_5,b3,hx3_,h,hJ3⟩:=A2 hJ3 hlt3
 have hx3:=Az hx3_
 have hw3:=wk (k:=k3) (by omega)
 unfold Ot at h;try dsimp only at h
 refine sk (qn (sq (bk (sq ?_))))
 refine rg rfl fun K j=>?_
 refine Bk.of (f:=A3) (l:=p.Hazards) hx3 ?_
 refine nS ?_
 refine j _ _ (qn ?_)
 revert h;refine ca rfl (fun hc h=>?_) fun hc h=>?_
 ·refine sq (ar rfl (qn (rt (br (qr (qr ?_))))))
  obtain rfl:=Aa h
  obtain rfl:=Af hJ3
  replace h:=An hO3
  refine br (qr ?_)
  cases h;exact en Tryz.results117
 refine sk (bn (qn (ar rfl (qn ?_))))
 obtain rfl:=Aa h
 refine⟨(k3+1,(),()),⟨by dsimp only;omega,Ae hJ3⟩,by dsimp only;omega,?_,?_⟩
 ·exact cuw hw3
 exact cuw hw3
def Qs (p:Fc):Option (Int×Int):=
 (K3 p).bind fun y1=>(bif (!y1)then some (0,1)else nz p.Density (some ((IntKind.i64.wrap (Int.tdiv (IntKind.i64.wrap ((IntKind.i64.wrap (p.Natural+p.Machine))*1000)) p.Density)),0)))
theorem dA (p:Fc) {r:Int×Int} (h:Qs p=some r):Ad Tryz.prog 222 [.agg (Nu p)] (·= .tuple [.int .i64 r.1,.int .i64 r.2]):=by
 refine Ad.nle (Ad.intro Tryz.func222 rfl rfl (by show _≤16;simp) ?_)
 unfold Qs at h
 refine nS (sq ?_)
 refine ar rfl (qn (sq (sq ?_)))
 refine rg rfl fun K j=>?_
 obtain⟨y1,hy1,h⟩:=Ah h
 refine Al.pure Tryz.call43 (Ux p hy1) rfl fun _ hr=>?_
 subst hr
 refine nS ?_
 refine j _ _ (qn ?_)
 revert h;refine ca rfl (fun hc h=>?_) fun hc h=>?_
 ·refine sq (ar rfl (qn (rt (qr ?_))))
  cases h;exact en Tryz.results222
 refine sk (qn (sq ?_))
 refine rg rfl fun K j=>?_
 obtain⟨hk,h⟩:=kR h
 refine⟨hk,?_⟩
 refine j _ _ (qn (rt ?_))
 cases h;exact en Tryz.results222
def Qa (f_:Ak) (run:Int) (k0:Nat) (x_2:C4) (sv:Unit):Option (Out (Unit) (Bool)):=
 (bif (decide (x_2.Run=run))then (Qs x_2.Pack).bind fun y3=>some (Out.ret (decide (f_.Depth≤y3.1)))else some (Out.next ()))
def Ps (f_:Ak) (run:Int):Option (Bool):=
 (Am (Qa f_ run) 0 f_.Packs ()).bind fun o0=>o0.on fun s0=>some false
theorem fJ (f_:Ak) (run:Int) {r:Bool} (h:Ps f_ run=some r):Ad Tryz.prog 118 [.agg (Bw f_),.int .i64 run] (·= .bool r):=by
 refine Ad.nle (Ad.intro Tryz.func118 rfl rfl (by show _≤37;simp) ?_)
 unfold Ps at h
 refine nS (sq ?_)
 refine ar rfl (qn (sq (sq ?_)))
 refine ar rfl (qn (bk ?_))
 obtain⟨o0,hJ0,hO0⟩:=Ah h
 clear h
 refine AWP.Br (ι:=Nat×(Unit)×(Unit)) (fun zz=>[(1,.int .i64 run),(2,.ptr 0 0),(5,.int .i64 ((zz.1:Nat):Int))]) (fun zz=>[.box [.sl 2 (f_.Map.Nodes.map A9),.sl 8 (f_.Map.Lifts.map A6),.sl 7 (f_.Map.Runs.map Bd),.sl 1 (f_.Map.Bases.map Av),.sl 2 (f_.Lifts.map Ay),.sl 4 (f_.Closures.map Aq),.sl 4 (f_.Patrol.Bv.map Ax),.sl 3 (f_.Patrol.Hazards.map A3),.sl 3 (f_.Surfaces.map A8),.sl 5 (f_.Packs.map A4),.sl 6 (f_.Slides.map A5),.sl 7 (f_.Bulletin.map Ar),.sl 7 (f_.Missions.map Ap),.sl 4 (f_.Winches.map Ao),.sl 8 (f_.Groomers.map A1),.sl 3 (f_.Status.map A7),.int .i64 f_.Depth,.int .i64 f_.Time]]) (fun zz=>zz.1≤f_.Packs.length∧Am (Qa f_ run) zz.1 ((f_.Packs).drop zz.1) zz.2.1=some o0) (fun zz=>f_.Packs.length - zz.1) (0,(),()) ⟨Nat.zero_le _,hJ0⟩ cu cu (fun x=>⟨rfl,rfl,rfl⟩) ?_
 clear hJ0
 rintro⟨k0,⟨⟩,⟨⟩⟩ ⟨hk0,hJ0⟩
 dsimp only at hk0 hJ0 ⊢
 refine sq (sq ?_)
 refine rg rfl fun K j=>?_
 intro hm
 refine j _ _ (qn ?_)
 refine AWP.cond (Aj (fun hc=>?_) (fun hc=>?_))
 rotate_left
 ·obtain rfl:=Bc hJ0 (fun hl=>by have:=Ajm hc;omega)
  have h:=Bb hO0;try dsimp only at h
  have hkl:f_.Packs.length=k0:=by have:=Ajm hc;omega
  subst hkl
  refine xt (qe (qe (bs (qn (sq (ar rfl (qn (rt ?_))))))))
  cases h;exact en Tryz.results118
 have hlt0:k0<f_.Packs.length:=by have:=Ajn hc;omega
 obtain⟨x_2,b0,hx0_,h,hJ0⟩:=A2 hJ0 hlt0
 have hx0:=Az hx0_
 have hw0:=wk (k:=k0) (by omega)
 unfold Qa at h;try dsimp only at h
 refine sk (qn (sq (bk (sq ?_))))
 refine rg rfl fun K j=>?_
 refine Bk.of (f:=A4) (l:=f_.Packs) hx0 ?_
 refine nS ?_
 refine j _ _ (qn ?_)
 revert h;refine ca rfl (fun hc h=>?_) fun hc h=>?_
 ·refine sq ?_
  refine rg rfl fun K j=>?_
  refine Bk.of (f:=A4) (l:=f_.Packs) hx0 ?_
  refine nS ?_
  obtain⟨y3,hy3,h⟩:=Ah h
  refine Al.pure Tryz.call222 (dA x_2.Pack hy3) rfl fun _ hr=>?_
  subst hr
  refine nS ?_
  refine j _ _ (qn (sq ?_))
  refine ar rfl (qn (rt (br (qr (qr ?_)))))
  obtain rfl:=Aa h
  obtain rfl:=Af hJ0
  replace h:=An hO0
  refine br (qr ?_)
  cases h;exact en Tryz.results118
 refine sk (bn (qn (ar rfl (qn ?_))))
 obtain rfl:=Aa h
 refine⟨(k0+1,(),()),⟨by dsimp only;omega,Ae hJ0⟩,by dsimp only;omega,?_,?_⟩
 ·exact cuw hw0
 exact cuw hw0
def Ny (f_:Ak) (x_:Cf):Option (Int):=
 (Ur f_.Map f_.Closures x_.ID).bind fun y1=>(bif y1 then some 13 else(Ww f_.Groomers x_.ID).bind fun y2=>(bif y2 then some 15 else(N4 f_.Winches f_.Time).bind fun y3=>(Hj y3 x_.ID).bind fun y4=>(bif y4 then some 15 else(Mn f_ x_.Zone).bind fun y5=>(bif y5 then some 15 else(It f_).bind fun y6=>(N2 f_.Slides y6).bind fun y7=>(Hj y7 x_.Zone).bind fun y8=>(bif y8 then some 10 else(N0 f_.Patrol x_.ID f_.Time).bind fun y9=>(bif (!y9)then some 14 else(Ps f_ x_.ID).bind fun y10=>(bif (!y10)then some 5 else some 0)))))))
theorem cG (f_:Ak) (x_:Cf) {r:Int} (h:Ny f_ x_=some r):Ad Tryz.prog 50 [.agg (Bw f_),.agg (Bd x_)] (·= .int .i64 r):=by
 refine Ad.nle (Ad.intro Tryz.func50 rfl rfl (by show _≤54;simp) ?_)
 unfold Ny at h
 refine nS (sq ?_)
 refine ar rfl (qn (sq (sq ?_)))
 refine rg rfl fun K j=>?_
 obtain⟨y1,hy1,h⟩:=Ah h
 refine Al.pure Tryz.call112 (gY f_.Map f_.Closures x_.ID hy1) rfl fun _ hr=>?_
 subst hr
 refine nS ?_
 refine j _ _ (qn ?_)
 revert h;refine ca rfl (fun hc h=>?_) fun hc h=>?_
 ·refine sq (ar rfl (qn (rt (qr ?_))))
  cases h;exact en Tryz.results50
 refine sk (qn (sq (sq ?_)))
 refine AWP.draw Tryz.mixed (by kernel_rfl) ?_;intro K j
 refine nS ?_
 obtain⟨y2,hy2,h⟩:=Ah h
 refine B1.pure Tryz.call113 (jZ f_.Groomers x_.ID hy2) rfl ?_
 refine nS ?_
 revert h;refine gf (fun hc h=>?_) fun hc h=>?_
 rotate_left
 ·refine j _ _ _ (by kernel_rfl) ?_
  refine qn ?_
  refine AWP.cond (Ai ?_)
  refine sq (ar rfl (qn (rt (qr ?_))))
  cases h;exact en Tryz.results50
 obtain⟨y3,hy3,h⟩:=Ah h
 refine B1.pure Tryz.call114 (cZ f_.Winches f_.Time hy3) rfl ?_
 refine nS ?_
 obtain⟨y4,hy4,h⟩:=Ah h
 refine B1.pure Tryz.call31 (Jn y3 x_.ID hy4) rfl ?_
 refine nS ?_
 revert h;refine gf (fun hc h=>?_) fun hc h=>?_
 rotate_left
 ·refine j _ _ _ (by kernel_rfl) ?_
  refine qn ?_
  refine AWP.cond (Ai ?_)
  refine sq (ar rfl (qn (rt (qr ?_))))
  cases h;exact en Tryz.results50
 obtain⟨y5,hy5,h⟩:=Ah h
 refine B1.pure Tryz.call115 (Zl f_ x_.Zone hy5) rfl ?_
 refine nS ?_
 refine j _ _ _ (by kernel_rfl) ?_
 refine qn ?_
 revert h;refine ca rfl (fun hc h=>?_) fun hc h=>?_
 ·refine sq (ar rfl (qn (rt (qr ?_))))
  cases h;exact en Tryz.results50
 refine sk (qn (sq (sq ?_)))
 refine AWP.draw Tryz.mixed (by kernel_rfl) ?_;intro K j
 refine nS ?_
 obtain⟨y6,hy6,h⟩:=Ah h
 refine B1.pure Tryz.call17 (aM f_ hy6) rfl ?_
 refine nS ?_
 obtain⟨y7,hy7,h⟩:=Ah h
 refine B1.pure Tryz.call116 (cQ f_.Slides y6 hy7) rfl ?_
 refine nS ?_
 obtain⟨y8,hy8,h⟩:=Ah h
 refine B1.pure Tryz.call31 (Jn y7 x_.Zone hy8) rfl ?_
 refine nS ?_
 refine j _ _ _ (by kernel_rfl) ?_
 refine qn ?_
 revert h;refine ca rfl (fun hc h=>?_) fun hc h=>?_
 ·refine sq (ar rfl (qn (rt (qr ?_))))
  cases h;exact en Tryz.results50
 refine sk (qn (sq (sq ?_)))
 refine rg rfl fun K j=>?_
 obtain⟨y9,hy9,h⟩:=Ah h
 refine Al.pure Tryz.call117 (cL f_.Patrol x_.ID f_.Time hy9) rfl fun _ hr=>?_
 subst hr
 refine nS ?_
 refine j _ _ (qn ?_)
 revert h;refine ca rfl (fun hc h=>?_) fun hc h=>?_
 ·refine sq (ar rfl (qn (rt (qr ?_))))
  cases h;exact en Tryz.results50
 refine sk (qn (sq (sq ?_)))
 refine rg rfl fun K j=>?_
 obtain⟨y10,hy10,h⟩:=Ah h
 refine Al.pure Tryz.call118 (fJ f_ x_.ID hy10) rfl fun _ hr=>?_
 subst hr
 refine nS ?_
 refine j _ _ (qn ?_)
 revert h;refine ca rfl (fun hc h=>?_) fun hc h=>?_
 ·refine sq (ar rfl (qn (rt (qr ?_))))
  cases h;exact en Tryz.results50
 refine sk (qn (sq (ar rfl (qn (rt ?_)))))
 cases h;exact en Tryz.results50
def M5 (k2:Nat) (x_4:Cr) (sv:(List Int)):Option (Out ((List Int)) ((List Int))):=
 (bif (decide (x_4.Mode=1))then chk (sv.length+1) (some (Out.next (sv++[x_4.Lift])))else some (Out.next sv))
def Gh (f_:Ak):Option ((List Int)):=
 (Am M5 0 f_.Lifts []).bind fun o2=>o2.on fun s2=>some s2
theorem Zk (f_:Ak) {r:(List Int)} (h:Gh f_=some r):Bh Tryz.prog 52 [.agg (Bw f_)] (·= .sl 1 (r.map Av)):=by
 refine Bh.nle (Bh.intro Tryz.func52 rfl rfl (by show _≤30;simp) ?_)
 unfold Gh at h
 refine nS (sq ?_)
 refine ar rfl (qn (sq ?_))
 refine ar rfl (qn (sq (sq ?_)))
 refine ar rfl (qn (bk ?_))
 obtain⟨o2,hJ2,hO2⟩:=Ah h
 clear h
 refine AWP.Br (ι:=Nat×((List Int))×(Nat)) (fun zz=>[(1,.ptr 0 0),(3,.own 1 zz.2.2 0 zz.2.1.length),(4,.int .i64 ((zz.1:Nat):Int))]) (fun zz=>[.box [.sl 2 (f_.Map.Nodes.map A9),.sl 8 (f_.Map.Lifts.map A6),.sl 7 (f_.Map.Runs.map Bd),.sl 1 (f_.Map.Bases.map Av),.sl 2 (f_.Lifts.map Ay),.sl 4 (f_.Closures.map Aq),.sl 4 (f_.Patrol.Bv.map Ax),.sl 3 (f_.Patrol.Hazards.map A3),.sl 3 (f_.Surfaces.map A8),.sl 5 (f_.Packs.map A4),.sl 6 (f_.Slides.map A5),.sl 7 (f_.Bulletin.map Ar),.sl 7 (f_.Missions.map Ap),.sl 4 (f_.Winches.map Ao),.sl 8 (f_.Groomers.map A1),.sl 3 (f_.Status.map A7),.int .i64 f_.Depth,.int .i64 f_.Time],.row zz.2.2 1 (zz.2.1.map Av)]) (fun zz=>zz.1≤f_.Lifts.length∧Am M5 zz.1 ((f_.Lifts).drop zz.1) zz.2.1=some o2) (fun zz=>f_.Lifts.length - zz.1) (0,[],0) ⟨Nat.zero_le _,hJ2⟩ cu cu (fun x=>⟨rfl,rfl,rfl⟩) ?_
 clear hJ2
 rintro⟨k2,out1,ver2⟩ ⟨hk2,hJ2⟩
 dsimp only at hk2 hJ2 ⊢
 refine sq (sq ?_)
 refine rg rfl fun K j=>?_
 intro hm
 refine j _ _ (qn ?_)
 refine AWP.cond (Aj (fun hc=>?_) (fun hc=>?_))
 rotate_left
 ·obtain rfl:=Bc hJ2 (fun hl=>by have:=Ajm hc;omega)
  have h:=Bb hO2;try dsimp only at h
  have hkl:f_.Lifts.length=k2:=by have:=Ajm hc;omega
  subst hkl
  refine xt (qe (qe (bs (qn (sq (ar rfl (qn (rt ?_))))))))
  cases h;exact en Tryz.results52
 have hlt2:k2<f_.Lifts.length:=by have:=Ajn hc;omega
 obtain⟨x_4,b2,hx2_,h,hJ2⟩:=A2 hJ2 hlt2
 have hx2:=Az hx2_
 have hw2:=wk (k:=k2) (by omega)
 unfold M5 at h;try dsimp only at h
 refine sk (qn (sq (bk (sq ?_))))
 refine rg rfl fun K j=>?_
 refine Bk.of (f:=Ay) (l:=f_.Lifts) hx2 ?_
 refine nS ?_
 refine j _ _ (qn ?_)
 revert h;refine ca rfl (fun hc h=>?_) fun hc h=>?_
 ·refine rg rfl fun K j=>?_
  refine Bk.of (f:=Ay) (l:=f_.Lifts) hx2 ?_
  refine nS ?_
  obtain⟨hk,h⟩:=Bz h
  (repeat refine rp ?_);try simp +decide -implicitDefEqProofs only[go_sem]
  refine j _ _ (bn (qn ?_))
  refine ar rfl (qn ?_)
  obtain rfl:=Aa h
  refine⟨(k2+1,(out1++[x_4.Lift]),(ver2+1)),⟨by dsimp only;omega,Ae hJ2⟩,by dsimp only;omega,?_,?_⟩
  ·exact cuw hw2
  exact cuw hw2
 refine sk (bn (qn (ar rfl (qn ?_))))
 obtain rfl:=Aa h
 refine⟨(k2+1,out1,ver2),⟨by dsimp only;omega,Ae hJ2⟩,by dsimp only;omega,?_,?_⟩
 ·exact cuw hw2
 exact cuw hw2
theorem aL (f_:Ak) {r:(List Int)} (h:Gh f_=some r):Ad Tryz.prog 52 [.agg (Bw f_)] (·= .sl 1 (r.map Av)):=(Zk f_ h).pure
def Vg (n_:Int) (k0:Nat) (x_2:Int) (sv:Unit):Option (Out (Unit) (Bool)):=
 (bif (decide (x_2=n_))then some (Out.ret true)else some (Out.next ()))
def Px (l:List Int) (n_:Int):Option (Bool):=
 (Am (Vg n_) 0 l ()).bind fun o0=>o0.on fun s0=>some false
theorem O5 (l:List Int) (n_:Int) {r:Bool} (h:Px l n_=some r):Ad Tryz.prog 119 [.sl 1 (l.map Av),.int .i64 n_] (·= .bool r):=by
 refine Ad.nle (Ad.intro Tryz.func119 rfl rfl (by show _≤18;simp) ?_)
 unfold Px at h
 refine nS (sq ?_)
 refine ar rfl (qn (sq (sq ?_)))
 refine ar rfl (qn (bk ?_))
 obtain⟨o0,hJ0,hO0⟩:=Ah h
 clear h
 refine AWP.Br (ι:=Nat×(Unit)×(Unit)) (fun zz=>[(0,.sl 1 (l.map Av)),(1,.int .i64 n_),(5,.int .i64 ((zz.1:Nat):Int))]) (fun zz=>[]) (fun zz=>zz.1≤l.length∧Am (Vg n_) zz.1 ((l).drop zz.1) zz.2.1=some o0) (fun zz=>l.length - zz.1) (0,(),()) ⟨Nat.zero_le _,hJ0⟩ cu cu (fun x=>⟨rfl,rfl,rfl⟩) ?_
 clear hJ0
 rintro⟨k0,⟨⟩,⟨⟩⟩ ⟨hk0,hJ0⟩
 dsimp only at hk0 hJ0 ⊢
 refine sq (sq ?_)
 refine rg rfl fun K j=>?_
 intro hm
 refine j _ _ (qn ?_)
 refine AWP.cond (Aj (fun hc=>?_) (fun hc=>?_))
 rotate_left
 ·obtain rfl:=Bc hJ0 (fun hl=>by have:=Ajm hc;omega)
  have h:=Bb hO0;try dsimp only at h
  have hkl:l.length=k0:=by have:=Ajm hc;omega
  subst hkl
  refine xt (qe (qe (bs (qn (sq (ar rfl (qn (rt ?_))))))))
  cases h;exact en Tryz.results119
 have hlt0:k0<l.length:=by have:=Ajn hc;omega
 obtain⟨x_2,b0,hx0_,h,hJ0⟩:=A2 hJ0 hlt0
 have hx0:=Az hx0_
 have hw0:=wk (k:=k0) (by omega)
 unfold Vg at h;try dsimp only at h
 refine sk (qn (sq (bk (sq ?_))))
 refine rg rfl fun K j=>?_
 refine Bk.of (f:=Av) (l:=l) hx0 ?_
 refine nS ?_
 refine j _ _ (qn ?_)
 revert h;refine ca rfl (fun hc h=>?_) fun hc h=>?_
 ·refine sq (ar rfl (qn (rt (br (qr (qr ?_))))))
  obtain rfl:=Aa h
  obtain rfl:=Af hJ0
  replace h:=An hO0
  refine br (qr ?_)
  cases h;exact en Tryz.results119
 refine sk (bn (qn (ar rfl (qn ?_))))
 obtain rfl:=Aa h
 refine⟨(k0+1,(),()),⟨by dsimp only;omega,Ae hJ0⟩,by dsimp only;omega,?_,?_⟩
 ·exact cuw hw0
 exact cuw hw0
def Qd (runs:List Int) (k2:Nat) (x_4:Cf) (sv:(List Au)):Option (Out ((List Au)) ((List Au))):=
 (Px runs x_4.ID).bind fun y5=>(bif y5 then chk (sv.length+1) (some (Out.next (sv++[(Au.mk x_4.ID x_4.From x_4.To x_4.Length)])))else some (Out.next sv))
def Nq (m:Be) (runs:List Int):Option ((List Au)):=
 (Am (Qd runs) 0 m.Runs []).bind fun o2=>o2.on fun s2=>some s2
theorem dB (m:Be) (runs:List Int) {r:(List Au)} (h:Nq m runs=some r):Bh Tryz.prog 73 [.agg (Ca m),.sl 1 (runs.map Av)] (·= .sl 4 (r.map Bj)):=by
 refine Bh.nle (Bh.intro Tryz.func73 rfl rfl (by show _≤37;simp) ?_)
 unfold Nq at h
 refine nS (sq ?_)
 refine ar rfl (qn (sq ?_))
 refine ar rfl (qn (sq (sq ?_)))
 refine ar rfl (qn (bk ?_))
 refine AWP.ghost 5 4 rfl (by decide) ?_
 obtain⟨o2,hJ2,hO2⟩:=Ah h
 clear h
 refine AWP.Br (ι:=Nat×((List Au))×(Nat)) (fun zz=>[(1,.sl 1 (runs.map Av)),(2,.ptr 0 0),(5,.own 1 zz.2.2 0 zz.2.1.length),(6,.int .i64 ((zz.1:Nat):Int))]) (fun zz=>[.box [.sl 2 (m.Nodes.map A9),.sl 8 (m.Lifts.map A6),.sl 7 (m.Runs.map Bd),.sl 1 (m.Bases.map Av)],.row zz.2.2 4 (zz.2.1.map Bj)]) (fun zz=>zz.1≤m.Runs.length∧Am (Qd runs) zz.1 ((m.Runs).drop zz.1) zz.2.1=some o2) (fun zz=>m.Runs.length - zz.1) (0,[],0) ⟨Nat.zero_le _,hJ2⟩ cu cu (fun x=>⟨rfl,rfl,rfl⟩) ?_
 clear hJ2
 rintro⟨k2,out1,ver2⟩ ⟨hk2,hJ2⟩
 dsimp only at hk2 hJ2 ⊢
 refine sq (sq ?_)
 refine rg rfl fun K j=>?_
 intro hm
 refine j _ _ (qn ?_)
 refine AWP.cond (Aj (fun hc=>?_) (fun hc=>?_))
 rotate_left
 ·obtain rfl:=Bc hJ2 (fun hl=>by have:=Ajm hc;omega)
  have h:=Bb hO2;try dsimp only at h
  have hkl:m.Runs.length=k2:=by have:=Ajm hc;omega
  subst hkl
  refine xt (qe (qe (bs (qn (sq (ar rfl (qn (rt ?_))))))))
  cases h;exact en Tryz.results73
 have hlt2:k2<m.Runs.length:=by have:=Ajn hc;omega
 obtain⟨x_4,b2,hx2_,h,hJ2⟩:=A2 hJ2 hlt2
 have hx2:=Az hx2_
 have hw2:=wk (k:=k2) (by omega)
 unfold Qd at h;try dsimp only at h
 refine sk (qn (sq (bk (sq ?_))))
 refine rg rfl fun K j=>?_
 refine Bk.of (f:=Bd) (l:=m.Runs) hx2 ?_
 refine nS ?_
 refine j _ _ (qn (sq ?_))
 refine rg rfl fun K j=>?_
 obtain⟨y5,hy5,h⟩:=Ah h
 refine Al.pure Tryz.call119 (O5 runs x_4.ID hy5) rfl fun _ hr=>?_
 subst hr
 refine nS ?_
 refine j _ _ (qn ?_)
 revert h;refine ca rfl (fun hc h=>?_) fun hc h=>?_
 ·refine rg rfl fun K j=>?_
  obtain⟨hk,h⟩:=Bz h
  (repeat refine rp ?_);try simp +decide -implicitDefEqProofs only[go_sem]
  refine j _ _ (bn (qn ?_))
  refine ar rfl (qn ?_)
  obtain rfl:=Aa h
  refine⟨(k2+1,(out1++[(Au.mk x_4.ID x_4.From x_4.To x_4.Length)]),(ver2+1)),⟨by dsimp only;omega,Ae hJ2⟩,by dsimp only;omega,?_,?_⟩
  ·exact cuw hw2
  exact cuw hw2
 refine sk (bn (qn (ar rfl (qn ?_))))
 obtain rfl:=Aa h
 refine⟨(k2+1,out1,ver2),⟨by dsimp only;omega,Ae hJ2⟩,by dsimp only;omega,?_,?_⟩
 ·exact cuw hw2
 exact cuw hw2
theorem V9 (m:Be) (runs:List Int) {r:(List Au)} (h:Nq m runs=some r):Ad Tryz.prog 73 [.agg (Ca m),.sl 1 (runs.map Av)] (·= .sl 4 (r.map Bj)):=(dB m runs h).pure
def O4 (n_:Int) (k3:Nat) (x_5:Int) (sv:Bool×(List Int)):Option (Out (Bool×(List Int)) ((List Int))):=
 (bif (!sv.1)then (bif (decide (n_≤x_5))then (bif (decide (n_<x_5))then chk (sv.2.length+1) (chk ((sv.2.length+1)+1) (some (Out.next (true,((sv.2++[n_])++[x_5])))))else chk (sv.2.length+1) (some (Out.next (true,(sv.2++[x_5])))))else chk (sv.2.length+1) (some (Out.next (sv.1,(sv.2++[x_5])))))else chk (sv.2.length+1) (some (Out.next (sv.1,(sv.2++[x_5])))))
def Pw (l:List Int) (n_:Int):Option ((List Int)):=
 (Am (O4 n_) 0 l (false,[])).bind fun o3=>o3.on fun s3=>(bif (!s3.1)then chk (s3.2.length+1) (some (s3.2++[n_]))else some s3.2)
theorem fQ (l:List Int) (n_:Int) {r:(List Int)} (h:Pw l n_=some r):Bh Tryz.prog 237 [.sl 1 (l.map Av),.int .i64 n_] (·= .sl 1 (r.map Av)):=by
 refine Bh.nle (Bh.intro Tryz.func237 rfl rfl (by show _≤48;simp) ?_)
 unfold Pw at h
 refine nS (sq ?_)
 refine ar rfl (qn (sq ?_))
 refine ar rfl (qn (sq ?_))
 refine ar rfl (qn (sq (sq ?_)))
 refine ar rfl (qn (bk ?_))
 refine AWP.ghost 5 1 rfl (by decide) ?_
 obtain⟨o3,hJ3,hO3⟩:=Ah h
 clear h
 refine AWP.Br (ι:=Nat×(Bool×(List Int))×(Nat)) (fun zz=>[(0,.sl 1 (l.map Av)),(1,.int .i64 n_),(5,.own 0 zz.2.2 0 zz.2.1.2.length),(6,.bool zz.2.1.1),(7,.int .i64 ((zz.1:Nat):Int))]) (fun zz=>[.row zz.2.2 1 (zz.2.1.2.map Av)]) (fun zz=>zz.1≤l.length∧Am (O4 n_) zz.1 ((l).drop zz.1) zz.2.1=some o3) (fun zz=>l.length - zz.1) (0,(false,[]),0) ⟨Nat.zero_le _,hJ3⟩ cu cu (fun x=>⟨rfl,rfl,rfl⟩) ?_
 clear hJ3
 rintro⟨k3,⟨done1,out2⟩,ver3⟩ ⟨hk3,hJ3⟩
 dsimp only at hk3 hJ3 ⊢
 refine sq (sq ?_)
 refine rg rfl fun K j=>?_
 intro hm
 refine j _ _ (qn ?_)
 refine AWP.cond (Aj (fun hc=>?_) (fun hc=>?_))
 rotate_left
 ·obtain rfl:=Bc hJ3 (fun hl=>by have:=Ajm hc;omega)
  have h:=Bb hO3;try dsimp only at h
  have hkl:l.length=k3:=by have:=Ajm hc;omega
  subst hkl
  refine xt (qe (qe (bs (qn (sq (sq (ar rfl (qn ?_))))))))
  revert h;refine ca rfl (fun hc h=>?_) fun hc h=>?_
  ·refine rg rfl fun K j=>?_
   obtain⟨hk,h⟩:=Bz h
   (repeat refine rp ?_);try simp +decide -implicitDefEqProofs only[go_sem]
   refine j _ _ (qn (sq ?_))
   refine ar rfl (qn (rt ?_))
   cases h;exact en Tryz.results237
  refine sk (qn (sq (ar rfl (qn (rt ?_)))))
  cases h;exact en Tryz.results237
 have hlt3:k3<l.length:=by have:=Ajn hc;omega
 obtain⟨x_5,b3,hx3_,h,hJ3⟩:=A2 hJ3 hlt3
 have hx3:=Az hx3_
 have hw3:=wk (k:=k3) (by omega)
 unfold O4 at h;try dsimp only at h
 refine sk (qn (sq (bk (sq (sq ?_)))))
 refine rg rfl fun K j=>?_
 revert h;refine gt (fun hc h=>?_) fun hc h=>?_
 ·refine Bk.of (f:=Av) (l:=l) hx3 ?_
  refine nS ?_
  refine j _ _ (qn ?_)
  revert h;refine ca rfl (fun hc h=>?_) fun hc h=>?_
  ·refine sq (sq ?_)
   refine rg rfl fun K j=>?_
   refine Bk.of (f:=Av) (l:=l) hx3 ?_
   refine nS ?_
   refine j _ _ (qn ?_)
   revert h;refine ca rfl (fun hc h=>?_) fun hc h=>?_
   ·refine rg rfl fun K j=>?_
    obtain⟨hk,h⟩:=Bz h
    (repeat refine rp ?_);try simp +decide -implicitDefEqProofs only[go_sem]
    refine j _ _ (qn ?_)
    refine ar rfl (qn ?_)
    refine rg rfl fun K j=>?_
    refine Bk.of (f:=Av) (l:=l) hx3 ?_
    refine nS ?_
    obtain⟨hk,h⟩:=Bz h
    (repeat refine rp ?_);try simp +decide -implicitDefEqProofs only[go_sem]
    refine j _ _ (bn (qn ?_))
    refine ar rfl (qn ?_)
    obtain rfl:=Aa h
    refine⟨(k3+1,(true,((out2++[n_])++[x_5])),((ver3+1)+1)),⟨by dsimp only;omega,Ae hJ3⟩,by dsimp only;omega,?_,?_⟩
    ·exact cuw hw3
    exact cuw hw3
   refine sk (qn (ar rfl (qn ?_)))
   refine rg rfl fun K j=>?_
   refine Bk.of (f:=Av) (l:=l) hx3 ?_
   refine nS ?_
   obtain⟨hk,h⟩:=Bz h
   (repeat refine rp ?_);try simp +decide -implicitDefEqProofs only[go_sem]
   refine j _ _ (bn (qn ?_))
   refine ar rfl (qn ?_)
   obtain rfl:=Aa h
   refine⟨(k3+1,(true,(out2++[x_5])),(ver3+1)),⟨by dsimp only;omega,Ae hJ3⟩,by dsimp only;omega,?_,?_⟩
   ·exact cuw hw3
   exact cuw hw3
  refine sk (qn ?_)
  refine rg rfl fun K j=>?_
  refine Bk.of (f:=Av) (l:=l) hx3 ?_
  refine nS ?_
  obtain⟨hk,h⟩:=Bz h
  (repeat refine rp ?_);try simp +decide -implicitDefEqProofs only[go_sem]
  refine j _ _ (bn (qn ?_))
  refine ar rfl (qn ?_)
  obtain rfl:=Aa h
  refine⟨(k3+1,(done1,(out2++[x_5])),(ver3+1)),⟨by dsimp only;omega,Ae hJ3⟩,by dsimp only;omega,?_,?_⟩
  ·exact cuw hw3
  exact cuw hw3
 refine j _ _ (qn ?_)
 refine AWP.cond (Bg ?_)
 refine sk (qn ?_)
 refine rg rfl fun K j=>?_
 refine Bk.of (f:=Av) (l:=l) hx3 ?_
 refine nS ?_
 obtain⟨hk,h⟩:=Bz h
 (repeat refine rp ?_);try simp +decide -implicitDefEqProofs only[go_sem]
 refine j _ _ (bn (qn ?_))
 refine ar rfl (qn ?_)
 obtain rfl:=Aa h
 refine⟨(k3+1,(done1,(out2++[x_5])),(ver3+1)),⟨by dsimp only;omega,Ae hJ3⟩,by dsimp only;omega,?_,?_⟩
 ·exact cuw hw3
 exact cuw hw3
theorem Wz (l:List Int) (n_:Int) {r:(List Int)} (h:Pw l n_=some r):Ad Tryz.prog 237 [.sl 1 (l.map Av),.int .i64 n_] (·= .sl 1 (r.map Av)):=(fQ l n_ h).pure
def Hr (k6:Nat) (x_8:Au) (sv:(List Int)):Option (Out ((List Int)) (Out ((List Int)×Int) ((List Int)))):=
 (Px sv x_8.From).bind fun y9=>(bif y9 then(Pw sv x_8.To).bind fun y10=>some (Out.next y10)else some (Out.next sv))
def K9 (l:List Au) (sv:(List Int)×Int):Option (Out ((List Int)×Int) ((List Int))):=
 (bif (decide (sv.2<((sv.1.length:Nat):Int)))then (Am Hr 0 l sv.1).bind fun o6=>o6.on fun s6=>some (Out.next (s6,((sv.1.length:Nat):Int)))else some (Out.ret sv.1))
def K7 (l:List Au) (out1:List Int):Option ((List Int)):=
 (Ds (K9 l) fuel (out1,(-1))).bind fun o4=>o4.on fun _=>none
def K8 (k11:Nat) (x_13:Int) (sv:(List Int)):Option (Out ((List Int)) ((List Int))):=
 (Pw sv x_13).bind fun y14=>some (Out.next y14)
def La (l:List Au) (from_:List Int):Option ((List Int)):=
 (Am K8 0 from_ []).bind fun o11=>o11.on fun s11=>K7 l s11
theorem Uy (l:List Au) (from_:List Int) {r:(List Int)} (h:La l from_=some r):Ad Tryz.prog 151 [.sl 4 (l.map Bj),.sl 1 (from_.map Av)] (·= .sl 1 (r.map Av)):=by
 refine Ad.nle (Ad.intro Tryz.func151 rfl rfl (by show _≤48;simp) ?_)
 unfold La at h
 refine nS (sq ?_)
 refine ar rfl (qn (sq ?_))
 refine ar rfl (qn ?_)
 refine AWP.G6 (ι:=((List Int))×(Unit)) (fun zz=>[(0,.sl 4 (l.map Bj)),(5,.sl 1 (zz.1.map Av))]) (fun zz=>[]) (fun zz=>K7 l zz.1=some r) (fun zz=>⟨rfl,rfl,rfl⟩) ?_ ?_
 ·refine sq (ar rfl (qn (bk ?_)))
  obtain⟨o11,hJ11,hO11⟩:=Ah h
  clear h
  refine AWP.Br (ι:=Nat×((List Int))×(Unit)) (fun zz=>[(0,.sl 4 (l.map Bj)),(1,.sl 1 (from_.map Av)),(5,.sl 1 (zz.2.1.map Av)),(6,.int .i64 ((zz.1:Nat):Int))]) (fun zz=>[]) (fun zz=>zz.1≤from_.length∧Am K8 zz.1 ((from_).drop zz.1) zz.2.1=some o11) (fun zz=>from_.length - zz.1) (0,[],()) ⟨Nat.zero_le _,hJ11⟩ cu cu (fun x=>⟨rfl,rfl,rfl⟩) ?_
  clear hJ11
  rintro⟨k11,out11,⟨⟩⟩ ⟨hk11,hJ11⟩
  dsimp only at hk11 hJ11 ⊢
  refine sq (sq ?_)
  refine rg rfl fun K j=>?_
  intro hm
  refine j _ _ (qn ?_)
  refine AWP.cond (Aj (fun hc=>?_) (fun hc=>?_))
  ·have hlt11:k11<from_.length:=by have:=Ajn hc;omega
   obtain⟨x_13,b11,hx11_,h,hJ11⟩:=A2 hJ11 hlt11
   have hx11:=Az hx11_
   have hw11:=wk (k:=k11) (by omega)
   unfold K8 at h;try dsimp only at h
   refine sk (qn (sq (bk ?_)))
   refine rg rfl fun K j=>?_
   refine Bk.of (f:=Av) (l:=from_) hx11 ?_
   refine nS ?_
   obtain⟨y14,hy14,h⟩:=Ah h
   refine Al.pure Tryz.call237 (Wz out11 x_13 hy14) rfl fun _ hr=>?_
   subst hr
   refine nS ?_
   refine j _ _ (bn (qn ?_))
   refine ar rfl (qn ?_)
   obtain rfl:=Aa h
   refine⟨(k11+1,y14,()),⟨by dsimp only;omega,Ae hJ11⟩,by dsimp only;omega,?_,?_⟩
   ·exact cuw hw11
   exact cuw hw11
  obtain rfl:=Bc hJ11 (fun hl=>by have:=Ajm hc;omega)
  have h:=Bb hO11;try dsimp only at h
  have hkl:from_.length=k11:=by have:=Ajm hc;omega
  subst hkl
  refine xt (qe (qe (bs (qn ?_))))
  exact⟨(out11,()),h,cu,cu⟩
 rintro⟨out1,⟨⟩⟩ h
 try dsimp only at h ⊢
 unfold K7 at h;try dsimp only at h
 refine sq (sq (ar rfl (qn (bk ?_))))
 obtain⟨o4,hJ4,hO4⟩:=Ah h
 clear h
 refine AWP.Br (ι:=Nat×((List Int)×Int)×(Unit)) (fun zz=>[(0,.sl 4 (l.map Bj)),(5,.sl 1 (zz.2.1.1.map Av)),(7,.int .i64 zz.2.1.2)]) (fun zz=>[]) (fun zz=>Ds (K9 l) zz.1 zz.2.1=some o4) (fun zz=>zz.1) (fuel,(out1,(-1)),()) hJ4 cu cu (fun x=>⟨rfl,rfl,rfl⟩) ?_
 clear hJ4
 rintro⟨n4,⟨out3,was4⟩,⟨⟩⟩ hJ4
 dsimp only at hJ4 ⊢
 obtain⟨m4,b4,rfl,h,hJ4⟩:=Fw hJ4
 unfold K9 at h;try dsimp only at h
 refine sq (sq ?_)
 refine rg rfl fun K j=>?_
 intro hm
 refine j _ _ (qn ?_)
 revert h;refine ca rfl (fun hc h=>?_) fun hc h=>?_
 rotate_left
 ·refine xt (qe (qe ?_))
  obtain rfl:=Aa h
  obtain rfl:=Af hJ4
  replace h:=An hO4
  refine bs (qn (sq (ar rfl (qn (rt ?_)))))
  cases h;exact en Tryz.results151
 refine sk (qn (bk (sq ?_)))
 refine rg rfl fun K j=>?_
 intro hm
 refine j _ _ (qn (sq ?_))
 refine ar rfl (qn (bk ?_))
 obtain⟨o6,hJ6,hO6⟩:=Ah h
 clear h
 refine AWP.Br (ι:=Nat×((List Int))×(Unit)) (fun zz=>[(0,.sl 4 (l.map Bj)),(5,.sl 1 (zz.2.1.map Av)),(7,.int .i64 ((out3.length:Nat):Int)),(8,.int .i64 ((zz.1:Nat):Int))]) (fun zz=>[]) (fun zz=>zz.1≤l.length∧Am Hr zz.1 ((l).drop zz.1) zz.2.1=some o6) (fun zz=>l.length - zz.1) (0,out3,()) ⟨Nat.zero_le _,hJ6⟩ cu cu (fun x=>⟨rfl,rfl,rfl⟩) ?_
 clear hJ6
 rintro⟨k6,out6,⟨⟩⟩ ⟨hk6,hJ6⟩
 dsimp only at hk6 hJ6 ⊢
 refine sq (sq ?_)
 refine rg rfl fun K j=>?_
 intro hm
 refine j _ _ (qn ?_)
 refine AWP.cond (Aj (fun hc=>?_) (fun hc=>?_))
 rotate_left
 ·obtain rfl:=Bc hJ6 (fun hl=>by have:=Ajm hc;omega)
  have h:=Bb hO6;try dsimp only at h
  have hkl:l.length=k6:=by have:=Ajm hc;omega
  subst hkl
  refine xt (qe (qe (bs (bn (qn ?_)))))
  obtain rfl:=Aa h
  refine⟨(m4,(out6,((out3.length:Nat):Int)),()),Ae hJ4,by dsimp only;omega,?_,?_⟩
  ·exact cu
  exact cu
 have hlt6:k6<l.length:=by have:=Ajn hc;omega
 obtain⟨x_8,b6,hx6_,h,hJ6⟩:=A2 hJ6 hlt6
 have hx6:=Az hx6_
 have hw6:=wk (k:=k6) (by omega)
 unfold Hr at h;try dsimp only at h
 refine sk (qn (sq (bk (sq ?_))))
 refine rg rfl fun K j=>?_
 refine Bk.of (f:=Bj) (l:=l) hx6 ?_
 refine nS ?_
 obtain⟨y9,hy9,h⟩:=Ah h
 refine Al.pure Tryz.call119 (O5 out6 x_8.From hy9) rfl fun _ hr=>?_
 subst hr
 refine nS ?_
 refine j _ _ (qn ?_)
 revert h;refine ca rfl (fun hc h=>?_) fun hc h=>?_
 ·refine rg rfl fun K j=>?_
  refine Bk.of (f:=Bj) (l:=l) hx6 ?_
  refine nS ?_
  obtain⟨y10,hy10,h⟩:=Ah h
  refine Al.pure Tryz.call237 (Wz out6 x_8.To hy10) rfl fun _ hr=>?_
  subst hr
  refine nS ?_
  refine j _ _ (bn (qn ?_))
  refine ar rfl (qn ?_)
  obtain rfl:=Aa h
  refine⟨(k6+1,y10,()),⟨by dsimp only;omega,Ae hJ6⟩,by dsimp only;omega,?_,?_⟩
  ·exact cuw hw6
  exact cuw hw6
 refine sk (bn (qn (ar rfl (qn ?_))))
 obtain rfl:=Aa h
 refine⟨(k6+1,out6,()),⟨by dsimp only;omega,Ae hJ6⟩,by dsimp only;omega,?_,?_⟩
 ·exact cuw hw6
 exact cuw hw6
def F1 (lifts:List Int) (k3:Nat) (x_5:Ce) (sv:(List Au)):Option (Out ((List Au)) ((List Int))):=
 (Px lifts x_5.ID).bind fun y6=>(bif y6 then chk (sv.length+1) (some (Out.next (sv++[(Au.mk 0 x_5.From x_5.To 0)])))else some (Out.next sv))
def Je (m:Be) (lifts:List Int) (runs:List Int):Option ((List Int)):=
 (Nq m runs).bind fun y1=>chk y1.length ((Am (F1 lifts) 0 m.Lifts y1).bind fun o3=>o3.on fun s3=>(La s3 m.Bases).bind fun y7=>some y7)
theorem Wy (m:Be) (lifts:List Int) (runs:List Int) {r:(List Int)} (h:Je m lifts runs=some r):Ad Tryz.prog 120 [.agg (Ca m),.sl 1 (lifts.map Av),.sl 1 (runs.map Av)] (·= .sl 1 (r.map Av)):=by
 refine Ad.nle (Ad.intro Tryz.func120 rfl rfl (by show _≤49;simp) ?_)
 unfold Je at h
 refine nS (sq ?_)
 refine ar rfl (qn (sq ?_))
 refine ar rfl (qn (sq ?_))
 refine rg rfl fun K j=>?_
 obtain⟨y1,hy1,h⟩:=Ah h
 refine Al.pure Tryz.call73 (V9 m runs hy1) rfl fun _ hr=>?_
 subst hr
 refine nS ?_
 obtain⟨hk,h⟩:=Bz h
 (repeat refine rp ?_);try simp +decide -implicitDefEqProofs only[go_sem]
 refine j _ _ (qn (sq (sq ?_)))
 refine ar rfl (qn (bk ?_))
 obtain⟨o3,hJ3,hO3⟩:=Ah h
 clear h
 refine AWP.Br (ι:=Nat×((List Au))×(Nat)) (fun zz=>[(1,.sl 1 (lifts.map Av)),(3,.ptr 0 0),(7,.own 1 zz.2.2 0 zz.2.1.length),(8,.int .i64 ((zz.1:Nat):Int))]) (fun zz=>[.box [.sl 2 (m.Nodes.map A9),.sl 8 (m.Lifts.map A6),.sl 7 (m.Runs.map Bd),.sl 1 (m.Bases.map Av)],.row zz.2.2 4 (zz.2.1.map Bj)]) (fun zz=>zz.1≤m.Lifts.length∧Am (F1 lifts) zz.1 ((m.Lifts).drop zz.1) zz.2.1=some o3) (fun zz=>m.Lifts.length - zz.1) (0,y1,0) ⟨Nat.zero_le _,hJ3⟩ cu cu (fun x=>⟨rfl,rfl,rfl⟩) ?_
 clear hJ3
 rintro⟨k3,l2,ver3⟩ ⟨hk3,hJ3⟩
 dsimp only at hk3 hJ3 ⊢
 refine sq (sq ?_)
 refine rg rfl fun K j=>?_
 intro hm
 refine j _ _ (qn ?_)
 refine AWP.cond (Aj (fun hc=>?_) (fun hc=>?_))
 rotate_left
 ·obtain rfl:=Bc hJ3 (fun hl=>by have:=Ajm hc;omega)
  have h:=Bb hO3;try dsimp only at h
  have hkl:m.Lifts.length=k3:=by have:=Ajm hc;omega
  subst hkl
  refine xt (qe (qe (bs (qn (sq ?_)))))
  refine rg rfl fun K j=>?_
  obtain⟨y7,hy7,h⟩:=Ah h
  refine Al.Dm 1 rfl ?_
  refine nS ?_
  refine Al.pure Tryz.call151 (Uy l2 m.Bases hy7) rfl fun _ hr=>?_
  subst hr
  refine nS ?_
  refine j _ _ (qn (rt ?_))
  cases h;exact en Tryz.results120
 have hlt3:k3<m.Lifts.length:=by have:=Ajn hc;omega
 obtain⟨x_5,b3,hx3_,h,hJ3⟩:=A2 hJ3 hlt3
 have hx3:=Az hx3_
 have hw3:=wk (k:=k3) (by omega)
 unfold F1 at h;try dsimp only at h
 refine sk (qn (sq (bk (sq ?_))))
 refine rg rfl fun K j=>?_
 refine Bk.of (f:=A6) (l:=m.Lifts) hx3 ?_
 refine nS ?_
 obtain⟨y6,hy6,h⟩:=Ah h
 refine Al.pure Tryz.call119 (O5 lifts x_5.ID hy6) rfl fun _ hr=>?_
 subst hr
 refine nS ?_
 refine j _ _ (qn ?_)
 revert h;refine ca rfl (fun hc h=>?_) fun hc h=>?_
 ·refine AWP.draw Tryz.mixed (by kernel_rfl) ?_;intro K j
  refine nS ?_
  refine Bk.of (f:=A6) (l:=m.Lifts) hx3 ?_
  refine nS ?_
  refine Bk.of (f:=A6) (l:=m.Lifts) hx3 ?_
  refine nS ?_
  obtain⟨hk,h⟩:=Bz h
  (repeat refine rp ?_);try simp +decide -implicitDefEqProofs only[go_sem]
  refine j _ _ _ (by kernel_rfl) ?_
  refine bn (qn (ar rfl (qn ?_)))
  obtain rfl:=Aa h
  refine⟨(k3+1,(l2++[(Au.mk 0 x_5.From x_5.To 0)]),(ver3+1)),⟨by dsimp only;omega,Ae hJ3⟩,by dsimp only;omega,?_,?_⟩
  ·exact cuw hw3
  exact cuw hw3
 refine sk (bn (qn (ar rfl (qn ?_))))
 obtain rfl:=Aa h
 refine⟨(k3+1,l2,ver3),⟨by dsimp only;omega,Ae hJ3⟩,by dsimp only;omega,?_,?_⟩
 ·exact cuw hw3
 exact cuw hw3
def K4 (m:Be) (lifts:List Int) (runs:List Int) (run:Int):Option (Bool):=
 (Lw m run).bind fun y1=>(bif y1.2 then(Je m lifts runs).bind fun y2=>(Px y2 y1.1.From).bind fun y3=>some y3 else some false)
theorem dC (m:Be) (lifts:List Int) (runs:List Int) (run:Int) {r:Bool} (h:K4 m lifts runs run=some r):Ad Tryz.prog 51 [.agg (Ca m),.sl 1 (lifts.map Av),.sl 1 (runs.map Av),.int .i64 run] (·= .bool r):=by
 refine Ad.nle (Ad.intro Tryz.func51 rfl rfl (by show _≤27;simp) ?_)
 unfold K4 at h
 refine nS (sq ?_)
 refine ar rfl (qn (sq ?_))
 refine rg rfl fun K j=>?_
 obtain⟨y1,hy1,h⟩:=Ah h
 refine Al.pure Tryz.call32 (K6 m run hy1) rfl fun _ hr=>?_
 subst hr
 refine nS ?_
 refine j _ _ (qn (sq ?_))
 refine AWP.draw Tryz.mixed (by kernel_rfl) ?_;intro K j
 refine nS ?_
 revert h;refine gt (fun hc h=>?_) fun hc h=>?_
 ·obtain⟨y2,hy2,h⟩:=Ah h
  refine B1.pure Tryz.call120 (Wy m lifts runs hy2) rfl ?_
  refine nS ?_
  obtain⟨y3,hy3,h⟩:=Ah h
  refine B1.pure Tryz.call119 (O5 y2 y1.1.From hy3) rfl ?_
  refine nS ?_
  refine j _ _ _ (by kernel_rfl) ?_
  refine qn (rt ?_)
  cases h;exact en Tryz.results51
 refine j _ _ _ (by kernel_rfl) ?_
 refine qn (rt ?_)
 cases h;exact en Tryz.results51
def M8 (k2:Nat) (x_4:Au) (sv:(List Au)):Option (Out ((List Au)) ((List Au))):=
 chk (sv.length+1) (some (Out.next (sv++[(Au.mk x_4.ID x_4.To x_4.From x_4.Cost)])))
def Lx (l:List Au):Option ((List Au)):=
 (Am M8 0 l []).bind fun o2=>o2.on fun s2=>some s2
theorem Zq (l:List Au) {r:(List Au)} (h:Lx l=some r):Bh Tryz.prog 152 [.sl 4 (l.map Bj)] (·= .sl 4 (r.map Bj)):=by
 refine Bh.nle (Bh.intro Tryz.func152 rfl rfl (by show _≤36;simp) ?_)
 unfold Lx at h
 refine nS (sq ?_)
 refine ar rfl (qn (sq ?_))
 refine ar rfl (qn (sq (sq ?_)))
 refine ar rfl (qn (bk ?_))
 refine AWP.ghost 3 4 rfl (by decide) ?_
 obtain⟨o2,hJ2,hO2⟩:=Ah h
 clear h
 refine AWP.Br (ι:=Nat×((List Au))×(Nat)) (fun zz=>[(0,.sl 4 (l.map Bj)),(3,.own 0 zz.2.2 0 zz.2.1.length),(4,.int .i64 ((zz.1:Nat):Int))]) (fun zz=>[.row zz.2.2 4 (zz.2.1.map Bj)]) (fun zz=>zz.1≤l.length∧Am M8 zz.1 ((l).drop zz.1) zz.2.1=some o2) (fun zz=>l.length - zz.1) (0,[],0) ⟨Nat.zero_le _,hJ2⟩ cu cu (fun x=>⟨rfl,rfl,rfl⟩) ?_
 clear hJ2
 rintro⟨k2,out1,ver2⟩ ⟨hk2,hJ2⟩
 dsimp only at hk2 hJ2 ⊢
 refine sq (sq ?_)
 refine rg rfl fun K j=>?_
 intro hm
 refine j _ _ (qn ?_)
 refine AWP.cond (Aj (fun hc=>?_) (fun hc=>?_))
 rotate_left
 ·obtain rfl:=Bc hJ2 (fun hl=>by have:=Ajm hc;omega)
  have h:=Bb hO2;try dsimp only at h
  have hkl:l.length=k2:=by have:=Ajm hc;omega
  subst hkl
  refine xt (qe (qe (bs (qn (sq (ar rfl (qn (rt ?_))))))))
  cases h;exact en Tryz.results152
 have hlt2:k2<l.length:=by have:=Ajn hc;omega
 obtain⟨x_4,b2,hx2_,h,hJ2⟩:=A2 hJ2 hlt2
 have hx2:=Az hx2_
 have hw2:=wk (k:=k2) (by omega)
 unfold M8 at h;try dsimp only at h
 refine sk (qn (sq (bk ?_)))
 refine AWP.draw Tryz.mixed (by kernel_rfl) ?_;intro K j
 refine nS ?_
 refine Bk.of (f:=Bj) (l:=l) hx2 ?_
 refine nS ?_
 refine Bk.of (f:=Bj) (l:=l) hx2 ?_
 refine nS ?_
 refine Bk.of (f:=Bj) (l:=l) hx2 ?_
 refine nS ?_
 refine Bk.of (f:=Bj) (l:=l) hx2 ?_
 refine nS ?_
 obtain⟨hk,h⟩:=Bz h
 (repeat refine rp ?_);try simp +decide -implicitDefEqProofs only[go_sem]
 refine j _ _ _ (by kernel_rfl) ?_
 refine bn (qn (ar rfl (qn ?_)))
 obtain rfl:=Aa h
 refine⟨(k2+1,(out1++[(Au.mk x_4.ID x_4.To x_4.From x_4.Cost)]),(ver2+1)),⟨by dsimp only;omega,Ae hJ2⟩,by dsimp only;omega,?_,?_⟩
 ·exact cuw hw2
 exact cuw hw2
theorem aQ (l:List Au) {r:(List Au)} (h:Lx l=some r):Ad Tryz.prog 152 [.sl 4 (l.map Bj)] (·= .sl 4 (r.map Bj)):=(Zq l h).pure
def Si (l:List Au) (to_:List Int):Option ((List Int)):=
 (Lx l).bind fun y1=>(La y1 to_).bind fun y2=>some y2
theorem fR (l:List Au) (to_:List Int) {r:(List Int)} (h:Si l to_=some r):Ad Tryz.prog 72 [.sl 4 (l.map Bj),.sl 1 (to_.map Av)] (·= .sl 1 (r.map Av)):=by
 refine Ad.nle (Ad.intro Tryz.func72 rfl rfl (by show _≤9;simp) ?_)
 unfold Si at h
 refine nS (sq ?_)
 refine ar rfl (qn (sq ?_))
 refine rg rfl fun K j=>?_
 obtain⟨y1,hy1,h⟩:=Ah h
 refine Al.pure Tryz.call152 (aQ l hy1) rfl fun _ hr=>?_
 subst hr
 refine nS ?_
 obtain⟨y2,hy2,h⟩:=Ah h
 refine Al.pure Tryz.call151 (Uy y1 to_ hy2) rfl fun _ hr=>?_
 subst hr
 refine nS ?_
 refine j _ _ (qn (rt ?_))
 cases h;exact en Tryz.results72
def Nr (m:Be) (runs:List Int):Option ((List Int)):=
 (Nq m runs).bind fun y1=>(Si y1 m.Bases).bind fun y2=>some y2
theorem fO (m:Be) (runs:List Int) {r:(List Int)} (h:Nr m runs=some r):Ad Tryz.prog 35 [.agg (Ca m),.sl 1 (runs.map Av)] (·= .sl 1 (r.map Av)):=by
 refine Ad.nle (Ad.intro Tryz.func35 rfl rfl (by show _≤11;simp) ?_)
 unfold Nr at h
 refine nS (sq ?_)
 refine ar rfl (qn (sq ?_))
 refine AWP.draw Tryz.mixed (by kernel_rfl) ?_;intro K j
 refine nS ?_
 obtain⟨y1,hy1,h⟩:=Ah h
 refine B1.pure Tryz.call73 (V9 m runs hy1) rfl ?_
 refine nS ?_
 obtain⟨y2,hy2,h⟩:=Ah h
 refine B1.pure Tryz.call72 (fR y1 m.Bases hy2) rfl ?_
 refine nS ?_
 refine j _ _ _ (by kernel_rfl) ?_
 refine qn (rt ?_)
 cases h;exact en Tryz.results35
def Uq (f_:Ak) (open_:List Int) (run:Int):Option (Int):=
 (Lw f_.Map run).bind fun y1=>(bif (!y1.2)then some 8 else(Ny f_ y1.1).bind fun y2=>(bif (decide (y2≠0))then some y2 else(Gh f_).bind fun y3=>(K4 f_.Map y3 open_ run).bind fun y4=>(bif (!y4)then some 16 else(Nr f_.Map open_).bind fun y5=>(Hj y5 y1.1.To).bind fun y6=>(bif (!y6)then some 16 else some 0))))
def l7 (k2:Nat) (x_4:Bo) (sv:(List Int)):Option (Out ((List Int)) ((List Int))):=
 (bif x_4.Open then chk (sv.length+1) (some (Out.next (sv++[x_4.Run])))else some (Out.next sv))
def cI (f_:Ak):Option ((List Int)):=
 (Am l7 0 f_.Status []).bind fun o2=>o2.on fun s2=>some s2
def Y4 (f_:Ak) (y1:(List Int)) (k1:Nat) (x_3:Int) (sv:Unit):Option (Out (Unit) (Bool)):=
 (Uq f_ y1 x_3).bind fun y4=>(bif (decide (y4≠0))then some (Out.ret false)else some (Out.next ()))
def Zm (f_:Ak):Option (Bool):=
 (cI f_).bind fun y1=>(Am (Y4 f_ y1) 0 y1 ()).bind fun o1=>o1.on fun s1=>some true
def Mq (f_:Ak) (now4:List Int) (y7:(List Int)) (y8:(List Int)) (k10:Nat) (x_12:Int) (sv:(List Int)):Option (Out ((List Int)) (Out ((List Int)) ((List Int)))):=
 (Lw f_.Map x_12).bind fun y13=>(K4 f_.Map y7 now4 x_12).bind fun y14=>(bif y14 then(Hj y8 y13.1.To).bind fun y15=>(bif y15 then chk (sv.length+1) (some (Out.next (sv++[x_12])))else some (Out.next sv))else some (Out.next sv))
def Mr (f_:Ak) (k5:Nat) (_x:Unit) (sv:(List Int)):Option (Out ((List Int)) ((List Int))):=
 (Gh f_).bind fun y7=>(Nr f_.Map sv).bind fun y8=>(Am (Mq f_ sv y7 y8) 0 sv []).bind fun o10=>o10.on fun s10=>some (Out.next s10)
def Mo (f_:Ak) (now1:List Int):Option ((List Int)):=
 (Ka (Mr f_) (f_.Map.Runs.length+1) now1).bind fun o5=>o5.on fun s5=>some s5
def Mp (f_:Ak) (runs:List Int) (k17:Nat) (x_19:Cf) (sv:(List Int)):Option (Out ((List Int)) ((List Int))):=
 (Hj runs x_19.ID).bind fun y20=>(bif y20 then(Ny f_ x_19).bind fun y21=>(bif (decide (y21=0))then chk (sv.length+1) (some (Out.next (sv++[x_19.ID])))else some (Out.next sv))else some (Out.next sv))
def Nn (f_:Ak) (runs:List Int):Option ((List Int)):=
 (Am (Mp f_ runs) 0 f_.Map.Runs []).bind fun o17=>o17.on fun s17=>Mo f_ s17
theorem cJ (f_:Ak) (runs:List Int) {r:(List Int)} (h:Nn f_ runs=some r):Bh Tryz.prog 30 [.agg (Bw f_),.sl 1 (runs.map Av)] (·= .sl 1 (r.map Av)):=by
 refine Bh.nle (Bh.intro Tryz.func30 rfl rfl (by show _≤108;simp) ?_)
 unfold Nn at h
 refine nS (sq ?_)
 refine ar rfl (qn (sq ?_))
 refine ar rfl (qn ?_)
 refine AWP.G6 (ι:=((List Int))×(Nat)) (fun zz=>[(2,.ptr 0 0),(5,.own 1 zz.2 0 zz.1.length)]) (fun zz=>[.box [.sl 2 (f_.Map.Nodes.map A9),.sl 8 (f_.Map.Lifts.map A6),.sl 7 (f_.Map.Runs.map Bd),.sl 1 (f_.Map.Bases.map Av),.sl 2 (f_.Lifts.map Ay),.sl 4 (f_.Closures.map Aq),.sl 4 (f_.Patrol.Bv.map Ax),.sl 3 (f_.Patrol.Hazards.map A3),.sl 3 (f_.Surfaces.map A8),.sl 5 (f_.Packs.map A4),.sl 6 (f_.Slides.map A5),.sl 7 (f_.Bulletin.map Ar),.sl 7 (f_.Missions.map Ap),.sl 4 (f_.Winches.map Ao),.sl 8 (f_.Groomers.map A1),.sl 3 (f_.Status.map A7),.int .i64 f_.Depth,.int .i64 f_.Time],.row zz.2 1 (zz.1.map Av)]) (fun zz=>Mo f_ zz.1=some r) (fun zz=>⟨rfl,rfl,rfl⟩) ?_ ?_
 ·refine sq (ar rfl (qn (bk ?_)))
  obtain⟨o17,hJ17,hO17⟩:=Ah h
  clear h
  refine AWP.Br (ι:=Nat×((List Int))×(Nat)) (fun zz=>[(1,.sl 1 (runs.map Av)),(2,.ptr 0 0),(5,.own 1 zz.2.2 0 zz.2.1.length),(6,.int .i64 ((zz.1:Nat):Int))]) (fun zz=>[.box [.sl 2 (f_.Map.Nodes.map A9),.sl 8 (f_.Map.Lifts.map A6),.sl 7 (f_.Map.Runs.map Bd),.sl 1 (f_.Map.Bases.map Av),.sl 2 (f_.Lifts.map Ay),.sl 4 (f_.Closures.map Aq),.sl 4 (f_.Patrol.Bv.map Ax),.sl 3 (f_.Patrol.Hazards.map A3),.sl 3 (f_.Surfaces.map A8),.sl 5 (f_.Packs.map A4),.sl 6 (f_.Slides.map A5),.sl 7 (f_.Bulletin.map Ar),.sl 7 (f_.Missions.map Ap),.sl 4 (f_.Winches.map Ao),.sl 8 (f_.Groomers.map A1),.sl 3 (f_.Status.map A7),.int .i64 f_.Depth,.int .i64 f_.Time],.row zz.2.2 1 (zz.2.1.map Av)]) (fun zz=>zz.1≤f_.Map.Runs.length∧Am (Mp f_ runs) zz.1 ((f_.Map.Runs).drop zz.1) zz.2.1=some o17) (fun zz=>f_.Map.Runs.length - zz.1) (0,[],0) ⟨Nat.zero_le _,hJ17⟩ cu cu (fun x=>⟨rfl,rfl,rfl⟩) ?_
  clear hJ17
  rintro⟨k17,now16,ver17⟩ ⟨hk17,hJ17⟩
  dsimp only at hk17 hJ17 ⊢
  refine sq (sq ?_)
  refine rg rfl fun K j=>?_
  intro hm
  refine j _ _ (qn ?_)
  refine AWP.cond (Aj (fun hc=>?_) (fun hc=>?_))
  rotate_left
  ·obtain rfl:=Bc hJ17 (fun hl=>by have:=Ajm hc;omega)
   have h:=Bb hO17;try dsimp only at h
   have hkl:f_.Map.Runs.length=k17:=by have:=Ajm hc;omega
   subst hkl
   refine xt (qe (qe (bs (qn ?_))))
   exact⟨(now16,ver17),h,cu,cu⟩
  have hlt17:k17<f_.Map.Runs.length:=by have:=Ajn hc;omega
  obtain⟨x_19,b17,hx17_,h,hJ17⟩:=A2 hJ17 hlt17
  have hx17:=Az hx17_
  have hw17:=wk (k:=k17) (by omega)
  unfold Mp at h;try dsimp only at h
  refine sk (qn (sq (bk (sq ?_))))
  refine AWP.draw Tryz.mixed (by kernel_rfl) ?_;intro K j
  refine nS ?_
  refine Bk.of (f:=Bd) (l:=f_.Map.Runs) hx17 ?_
  refine nS ?_
  obtain⟨y20,hy20,h⟩:=Ah h
  refine B1.pure Tryz.call31 (Jn runs x_19.ID hy20) rfl ?_
  refine nS ?_
  revert h;refine gt (fun hc h=>?_) fun hc h=>?_
  ·refine Bk.of (f:=Bd) (l:=f_.Map.Runs) hx17 ?_
   refine nS ?_
   obtain⟨y21,hy21,h⟩:=Ah h
   refine B1.pure Tryz.call50 (cG f_ x_19 hy21) rfl ?_
   refine nS ?_
   refine j _ _ _ (by kernel_rfl) ?_
   refine qn ?_
   revert h;refine ca rfl (fun hc h=>?_) fun hc h=>?_
   ·refine rg rfl fun K j=>?_
    refine Bk.of (f:=Bd) (l:=f_.Map.Runs) hx17 ?_
    refine nS ?_
    obtain⟨hk,h⟩:=Bz h
    (repeat refine rp ?_);try simp +decide -implicitDefEqProofs only[go_sem]
    refine j _ _ (bn (qn ?_))
    refine ar rfl (qn ?_)
    obtain rfl:=Aa h
    refine⟨(k17+1,(now16++[x_19.ID]),(ver17+1)),⟨by dsimp only;omega,Ae hJ17⟩,by dsimp only;omega,?_,?_⟩
    ·exact cuw hw17
    exact cuw hw17
   refine sk (bn (qn (ar rfl (qn ?_))))
   obtain rfl:=Aa h
   refine⟨(k17+1,now16,ver17),⟨by dsimp only;omega,Ae hJ17⟩,by dsimp only;omega,?_,?_⟩
   ·exact cuw hw17
   exact cuw hw17
  refine j _ _ _ (by kernel_rfl) ?_
  refine qn ?_
  refine AWP.cond (Bg ?_)
  refine sk (bn (qn (ar rfl (qn ?_))))
  obtain rfl:=Aa h
  refine⟨(k17+1,now16,ver17),⟨by dsimp only;omega,Ae hJ17⟩,by dsimp only;omega,?_,?_⟩
  ·exact cuw hw17
  exact cuw hw17
 rintro⟨now1,ver2⟩ h
 try dsimp only at h ⊢
 unfold Mo at h;try dsimp only at h
 refine sq (sq (ar rfl (qn (bk ?_))))
 obtain⟨o5,hJ5,hO5⟩:=Ah h
 clear h
 obtain⟨hn5,hJ5⟩:=Nd hJ5
 refine AWP.kV (ι:=Nat×((List Int))×(Nat)) (fun zz=>[(2,.ptr 0 0),(5,.own 1 zz.2.2 0 zz.2.1.length),(7,.int .i64 ((zz.1:Nat):Int))]) (fun zz=>[.box [.sl 2 (f_.Map.Nodes.map A9),.sl 8 (f_.Map.Lifts.map A6),.sl 7 (f_.Map.Runs.map Bd),.sl 1 (f_.Map.Bases.map Av),.sl 2 (f_.Lifts.map Ay),.sl 4 (f_.Closures.map Aq),.sl 4 (f_.Patrol.Bv.map Ax),.sl 3 (f_.Patrol.Hazards.map A3),.sl 3 (f_.Surfaces.map A8),.sl 5 (f_.Packs.map A4),.sl 6 (f_.Slides.map A5),.sl 7 (f_.Bulletin.map Ar),.sl 7 (f_.Missions.map Ap),.sl 4 (f_.Winches.map Ao),.sl 8 (f_.Groomers.map A1),.sl 3 (f_.Status.map A7),.int .i64 f_.Depth,.int .i64 f_.Time],.row zz.2.2 1 (zz.2.1.map Av)]) (fun zz=>zz.1≤(f_.Map.Runs.length+1)∧Am (Mr f_) zz.1 ((List.replicate (f_.Map.Runs.length+1) ()).drop zz.1) zz.2.1=some o5) (fun zz=>(f_.Map.Runs.length+1) - zz.1) (0,now1,ver2) ⟨Nat.zero_le _,hJ5⟩ cu cu (fun x=>⟨rfl,rfl,rfl⟩) ?_
 clear hJ5
 rintro⟨k5,now4,ver5⟩ ⟨hk5,hJ5⟩
 dsimp only at hk5 hJ5 ⊢
 refine sq (sq ?_)
 refine rg rfl fun K j=>?_
 intro hm
 refine j _ _ (qn ?_)
 refine AWP.cond (Aj (fun hc=>?_) (fun hc=>?_))
 rotate_left
 ·obtain rfl:=Bc hJ5 (fun hl=>by rw[List.length_replicate]at hl;have:=Ajm hc;omega)
  have h:=Bb hO5;try dsimp only at h
  have hkl:(f_.Map.Runs.length+1)=k5:=by have:=Ajm hc;omega
  subst hkl
  refine xt (qe (qe (bs (qn (sq (ar rfl (qn (rt ?_))))))))
  cases h;exact en Tryz.results30
 have hlt5:k5<(f_.Map.Runs.length+1):=by have:=Ajn hc;omega
 obtain⟨_,b5,_,h,hJ5⟩:=A2 hJ5 (by rw[List.length_replicate];exact hlt5)
 have hw5:=wk (k:=k5) (by omega)
 unfold Mr at h;try dsimp only at h
 refine sk (qn (sq (bk (sq (ar rfl (qn (sq ?_)))))))
 refine rg rfl fun K j=>?_
 obtain⟨y7,hy7,h⟩:=Ah h
 refine Al.pure Tryz.call52 (aL f_ hy7) rfl fun _ hr=>?_
 subst hr
 refine nS ?_
 refine j _ _ (qn (sq ?_))
 refine AWP.gA ?_
 refine ALP.cut 3 (ALP.part rfl ?_);intro K j
 refine nS ?_
 refine j _ _ ?_
 refine ALP.sub (Sub.Dm 1 rfl) ?_
 refine nS ?_
 refine ALP.last rfl ?_;intro K j
 refine nS ?_
 obtain⟨y8,hy8,h⟩:=Ah h
 refine Al.pure Tryz.call35 (fO f_.Map now4 hy8) rfl fun _ hr=>?_
 subst hr
 refine nS ?_
 refine j _ _ (qn (sq (sq ?_)))
 refine ar rfl (qn (bk ?_))
 obtain⟨o10,hJ10,hO10⟩:=Ah h
 clear h
 refine AWP.Br (ι:=Nat×((List Int))×(Nat)) (fun zz=>[(2,.ptr 0 0),(5,.sl 1 (now4.map Av)),(7,.int .i64 ((k5:Nat):Int)),(8,.own 2 zz.2.2 0 zz.2.1.length),(9,.sl 1 (y7.map Av)),(10,.sl 1 (y8.map Av)),(11,.int .i64 ((zz.1:Nat):Int))]) (fun zz=>[.box [.sl 2 (f_.Map.Nodes.map A9),.sl 8 (f_.Map.Lifts.map A6),.sl 7 (f_.Map.Runs.map Bd),.sl 1 (f_.Map.Bases.map Av),.sl 2 (f_.Lifts.map Ay),.sl 4 (f_.Closures.map Aq),.sl 4 (f_.Patrol.Bv.map Ax),.sl 3 (f_.Patrol.Hazards.map A3),.sl 3 (f_.Surfaces.map A8),.sl 5 (f_.Packs.map A4),.sl 6 (f_.Slides.map A5),.sl 7 (f_.Bulletin.map Ar),.sl 7 (f_.Missions.map Ap),.sl 4 (f_.Winches.map Ao),.sl 8 (f_.Groomers.map A1),.sl 3 (f_.Status.map A7),.int .i64 f_.Depth,.int .i64 f_.Time],.gone,.row zz.2.2 1 (zz.2.1.map Av)]) (fun zz=>zz.1≤now4.length∧Am (Mq f_ now4 y7 y8) zz.1 ((now4).drop zz.1) zz.2.1=some o10) (fun zz=>now4.length - zz.1) (0,[],0) ⟨Nat.zero_le _,hJ10⟩ cu cu (fun x=>⟨rfl,rfl,rfl⟩) ?_
 clear hJ10
 rintro⟨k10,next_9,ver10⟩ ⟨hk10,hJ10⟩
 dsimp only at hk10 hJ10 ⊢
 refine sq (sq ?_)
 refine rg rfl fun K j=>?_
 intro hm
 refine j _ _ (qn ?_)
 refine AWP.cond (Aj (fun hc=>?_) (fun hc=>?_))
 rotate_left
 ·obtain rfl:=Bc hJ10 (fun hl=>by have:=Ajm hc;omega)
  have h:=Bb hO10;try dsimp only at h
  have hkl:now4.length=k10:=by have:=Ajm hc;omega
  subst hkl
  refine xt (qe (qe (bs (qn (ar rfl (bn (qn ?_)))))))
  refine ar rfl (qn ?_)
  obtain rfl:=Aa h
  refine⟨(k5+1,next_9,ver10),⟨by dsimp only;omega,Ae hJ5⟩,by dsimp only;omega,_,_,Sub.swap 2 1 rfl rfl rfl,?_,?_⟩
  ·exact cuw hw5
  exact cuw hw5
 have hlt10:k10<now4.length:=by have:=Ajn hc;omega
 obtain⟨x_12,b10,hx10_,h,hJ10⟩:=A2 hJ10 hlt10
 have hx10:=Az hx10_
 have hw10:=wk (k:=k10) (by omega)
 unfold Mq at h;try dsimp only at h
 refine sk (qn (sq (bk (sq ?_))))
 refine AWP.draw Tryz.mixed (by kernel_rfl) ?_;intro K j
 refine nS ?_
 refine Bk.of (f:=Av) (l:=now4) hx10 ?_
 refine nS ?_
 obtain⟨y13,hy13,h⟩:=Ah h
 refine B1.pure Tryz.call32 (K6 f_.Map x_12 hy13) rfl ?_
 refine nS ?_
 refine j _ _ _ (by kernel_rfl) ?_
 refine qn (sq ?_)
 refine AWP.draw Tryz.mixed (by kernel_rfl) ?_;intro K j
 refine nS ?_
 refine Bk.of (f:=Av) (l:=now4) hx10 ?_
 refine nS ?_
 obtain⟨y14,hy14,h⟩:=Ah h
 refine B1.pure Tryz.call51 (dC f_.Map y7 now4 x_12 hy14) rfl ?_
 refine nS ?_
 revert h;refine gt (fun hc h=>?_) fun hc h=>?_
 ·obtain⟨y15,hy15,h⟩:=Ah h
  refine B1.pure Tryz.call31 (Jn y8 y13.1.To hy15) rfl ?_
  refine nS ?_
  refine j _ _ _ (by kernel_rfl) ?_
  refine qn ?_
  revert h;refine ca rfl (fun hc h=>?_) fun hc h=>?_
  ·refine rg rfl fun K j=>?_
   refine Bk.of (f:=Av) (l:=now4) hx10 ?_
   refine nS ?_
   obtain⟨hk,h⟩:=Bz h
   (repeat refine rp ?_);try simp +decide -implicitDefEqProofs only[go_sem]
   refine j _ _ (bn (qn ?_))
   refine ar rfl (qn ?_)
   obtain rfl:=Aa h
   refine⟨(k10+1,(next_9++[x_12]),(ver10+1)),⟨by dsimp only;omega,Ae hJ10⟩,by dsimp only;omega,?_,?_⟩
   ·exact cuw hw10
   exact cuw hw10
  refine sk (bn (qn (ar rfl (qn ?_))))
  obtain rfl:=Aa h
  refine⟨(k10+1,next_9,ver10),⟨by dsimp only;omega,Ae hJ10⟩,by dsimp only;omega,?_,?_⟩
  ·exact cuw hw10
  exact cuw hw10
 refine j _ _ _ (by kernel_rfl) ?_
 refine qn ?_
 refine AWP.cond (Bg ?_)
 refine sk (bn (qn (ar rfl (qn ?_))))
 obtain rfl:=Aa h
 refine⟨(k10+1,next_9,ver10),⟨by dsimp only;omega,Ae hJ10⟩,by dsimp only;omega,?_,?_⟩
 ·exact cuw hw10
 exact cuw hw10
theorem fK (f_:Ak) (runs:List Int) {r:(List Int)} (h:Nn f_ runs=some r):Ad Tryz.prog 30 [.agg (Bw f_),.sl 1 (runs.map Av)] (·= .sl 1 (r.map Av)):=(cJ f_ runs h).pure
def Q7 (f_:Ak) (y2:(List Int)) (k6:Nat) (x_8:Bo) (sv:(List Bo)×(List Int)):Option (Out ((List Bo)×(List Int)) (Ak×(List Int))):=
 (bif x_8.Open then(Hj y2 x_8.Run).bind fun y9=>(bif (!y9)then chk (sv.2.length+1) (chk (sv.1.length+1) (some (Out.next ((sv.1++[(Bo.mk x_8.Run false f_.Time)]),(sv.2++[x_8.Run])))))else chk (sv.1.length+1) (some (Out.next ((sv.1++[(Bo.mk x_8.Run true x_8.Since)]),sv.2))))else chk (sv.1.length+1) (some (Out.next ((sv.1++[(Bo.mk x_8.Run false x_8.Since)]),sv.2))))
def Va (f_:Ak):Option (Ak×(List Int)):=
 (cI f_).bind fun y1=>(Nn f_ y1).bind fun y2=>(Am (Q7 f_ y2) 0 f_.Status ([],[])).bind fun o6=>o6.on fun s6=>some ((Ak.mk f_.Map f_.Lifts f_.Closures f_.Patrol f_.Surfaces f_.Packs f_.Slides f_.Bulletin f_.Missions f_.Winches f_.Groomers s6.1 f_.Depth f_.Time),s6.2)
def Gl (f_:Ak) (runs:List Int):Option (Bool):=
 (Qw).bind fun y1=>(bif (!y1)then some false else(N9 f_ runs).bind fun y2=>(bif (!y2)then some true else(Ef f_ runs).bind fun y3=>(Nn f_ runs).bind fun y4=>(No y3 y4).bind fun y5=>some y5))
theorem S2 (f_:Ak) (runs:List Int) {r:Bool} (h:Gl f_ runs=some r):Ad Tryz.prog 6 [.agg (Bw f_),.sl 1 (runs.map Av)] (·= .bool r):=by
 refine Ad.nle (Ad.intro Tryz.func6 rfl rfl (by show _≤18;simp) ?_)
 unfold Gl at h
 refine nS (sq ?_)
 refine ar rfl (qn (sq (sq ?_)))
 refine rg rfl fun K j=>?_
 obtain⟨y1,hy1,h⟩:=Ah h
 refine Al.pure Tryz.call10 (dL hy1) rfl fun _ hr=>?_
 subst hr
 refine nS ?_
 refine j _ _ (qn ?_)
 revert h;refine ca rfl (fun hc h=>?_) fun hc h=>?_
 ·refine sq (ar rfl (qn (rt (qr ?_))))
  cases h;exact en Tryz.results6
 refine sk (qn (sq (sq ?_)))
 refine rg rfl fun K j=>?_
 obtain⟨y2,hy2,h⟩:=Ah h
 refine Al.pure Tryz.call14 (dK f_ runs hy2) rfl fun _ hr=>?_
 subst hr
 refine nS ?_
 refine j _ _ (qn ?_)
 revert h;refine ca rfl (fun hc h=>?_) fun hc h=>?_
 ·refine sq (ar rfl (qn (rt (qr ?_))))
  cases h;exact en Tryz.results6
 refine sk (qn (sq ?_))
 refine AWP.draw Tryz.mixed (by kernel_rfl) ?_;intro K j
 refine nS ?_
 obtain⟨y3,hy3,h⟩:=Ah h
 refine B1.pure Tryz.call29 (Rk f_ runs hy3) rfl ?_
 refine nS ?_
 obtain⟨y4,hy4,h⟩:=Ah h
 refine B1.pure Tryz.call30 (fK f_ runs hy4) rfl ?_
 refine nS ?_
 obtain⟨y5,hy5,h⟩:=Ah h
 refine B1.pure Tryz.call15 (M6 y3 y4 hy5) rfl ?_
 refine nS ?_
 refine j _ _ _ (by kernel_rfl) ?_
 refine qn (rt ?_)
 cases h;exact en Tryz.results6
end
end Go.Proofs.YtjopghiagoidgaaGreat
namespace Go.Proofs.YtjopghiagoidgaaGreat
open Go Go.Ab
set_option linter.unusedSimpArgs false
set_option linter.unusedVariables false
inductive Rch (l:List Au) (S:Int→Prop):Int→Prop
  | base {n:Int}:S n→Rch l S n
  | step {e:Au}:e∈l→Rch l S e.From→Rch l S e.To
theorem Rch.mono {l l':List Au} {S T:Int→Prop} (hl:∀ e∈l,e∈l') (hS:∀ n,S n→T n) {n:Int} (h:Rch l S n):Rch l' T n:=by
  induction h with
  | base h=>exact .base (hS _ h)
  | step he _ ih=>exact .step (hl _ he) ih
structure Qg (l:List Au) (f r:List Int):Prop where
  inc:Inc r
  mem:∀ n,n∈r↔Rch l (·∈f) n
theorem Qg.unique {l:List Au} {f r r':List Int} (h:Qg l f r) (h':Qg l f r'):r=r':=
  Rt h.inc h'.inc fun x=>by rw[h.mem,h'.mem]
theorem Qg.of_closed {l:List Au} {f r:List Int} (h:Inc r) (h1:∀ n∈r,Rch l (·∈f) n) (h2:∀ n∈f,n∈r) (h3:∀ e∈l,e.From∈r→e.To∈r):Qg l f r:=
  ⟨h,fun n=>⟨h1 n,fun hr=>by
    induction hr with
    | base h=>exact h2 _ h
    | step he _ ih=>exact h3 _ he ih⟩⟩
theorem R6 {l:List Au} {f:List Int} {n:Int} (h:Rch l (·∈f) n):n∈f++l.map (·.To):=by
  cases h with
  | base h=>exact List.mem_append.2 (.inl h)
  | step he _=>exact List.mem_append.2 (.inr (List.mem_map_of_mem he))
def aE (e:Au):Au:=⟨e.ID,e.To,e.From,e.Cost⟩
def turn (l:List Au):List Au:=l.map aE
theorem wW {l:List Au} {e:Au}:e∈turn l↔aE e∈l:=by
  unfold turn
  rw[List.mem_map]
  constructor
  ·rintro⟨x,hx,rfl⟩;exact hx
  ·intro h;exact⟨aE e,h,rfl⟩
def Jl (l:List Au):Int→List Au→Int→Prop
  | n,[],t=>n=t
  | n,e::es,t=>e∈l∧e.From=n∧Jl l e.To es t
def ecost (es:List Au):Int:=(es.map (·.Cost)).sum
theorem P1 (e:Au) (es:List Au):ecost (e::es)=e.Cost+ecost es:=by simp[ecost]
theorem lL:∀ (a b:List Au),ecost (a++b)=ecost a+ecost b
  | [],b=>by simp[ecost]
  | e::a,b=>by rw[List.cons_append,P1,P1,lL a b];omega
theorem Yn {l:List Au}:∀ {a b:List Au} {n t:Int},Jl l n (a++b) t↔∃ m,Jl l n a m∧Jl l m b t
  | [],b,n,t=>by simp[Jl]
  | e::a,b,n,t=>by
    simp only[List.cons_append,Jl,Yn (a:=a)]
    constructor
    ·rintro⟨h1,h2,m,h3,h4⟩;exact⟨m,⟨h1,h2,h3⟩,h4⟩
    ·rintro⟨m,⟨h1,h2,h3⟩,h4⟩;exact⟨h1,h2,m,h3,h4⟩
theorem Jl.mem {l:List Au}:∀ {es:List Au} {n t:Int},Jl l n es t→∀ e∈es,e∈l
  | [],n,t,h,e,he=>by simp at he
  | x::es,n,t,h,e,he=>by
    rcases List.mem_cons.1 he with rfl | he
    ·exact h.1
    ·exact Jl.mem h.2.2 e he
theorem Jl.mono {l l':List Au} (hs:∀ e∈l,e∈l'):∀ {es:List Au} {n t:Int},Jl l n es t→Jl l' n es t
  | [],n,t,h=>h
  | x::es,n,t,h=>⟨hs _ h.1,h.2.1,Jl.mono hs h.2.2⟩
def lexle (a b:Int×Nat):Prop:=a.1<b.1∨(a.1=b.1∧a.2≤b.2)
theorem lexle.refl (a:Int×Nat):lexle a a:=.inr ⟨rfl,Nat.le_refl _⟩
theorem lexle.trans {a b c:Int×Nat} (h:lexle a b) (k:lexle b c):lexle a c:=by
  unfold lexle at *;omega
theorem lexle.antisymm {a b:Int×Nat} (h:lexle a b) (k:lexle b a):a=b:=by
  obtain⟨a1,a2⟩:=a;obtain⟨b1,b2⟩:=b
  unfold lexle at *
  simp only at h k
  have h1:a1=b1:=by omega
  have h2:a2=b2:=by omega
  rw[h1,h2]
theorem lexle.add {a b:Int×Nat} (h:lexle a b) (c:Int):lexle (a.1+c,a.2+1) (b.1+c,b.2+1):=by
  unfold lexle at *;simp only;omega
theorem lexle.sub {a b:Int×Nat} {c:Int} (h:lexle (a.1+c,a.2+1) (b.1+c,b.2+1)):lexle a b:=by
  unfold lexle at *;simp only at h;omega
def cst (es:List Au):Int×Nat:=(ecost es,es.length)
theorem bI (e:Au) (es:List Au):cst (e::es)=((cst es).1+e.Cost,(cst es).2+1):=by
  unfold cst;rw[P1,Int.add_comm];rfl
theorem lM {α:Type} [DecidableEq α]:∀ {es:List α},¬ es.Nodup→∃ a e b d,es=a++e::(b++e::d)
  | [],h=>absurd List.nodup_nil h
  | x::es,h=>by
    by_cases hx:x∈es
    ·obtain⟨b,d,rfl⟩:=List.append_of_mem hx
     exact⟨[],x,b,d,rfl⟩
    ·have:¬ es.Nodup:=fun hn=>h (List.nodup_cons.2 ⟨hx,hn⟩)
     obtain⟨a,e,b,d,rfl⟩:=lM this
     exact⟨x::a,e,b,d,rfl⟩
theorem shorten {l:List Au} (h0:∀ e∈l,0≤e.Cost):∀ (k:Nat) {n t:Int} {es:List Au},es.length≤k→Jl l n es t→∃ es',Jl l n es' t∧es'.length≤l.length∧lexle (cst es') (cst es)
  | 0,n,t,es,hk,h=>⟨es,h,by omega,.refl _⟩
  | k+1,n,t,es,hk,h=>by
    by_cases hn:es.Nodup
    ·exact⟨es,h,Jp hn (Jl.mem h),.refl _⟩
    ·obtain⟨a,e,b,d,rfl⟩:=lM hn
     obtain⟨m,h1,h2,h3,h4⟩:=Yn.1 h
     obtain⟨m',h5,h6,h7,h8⟩:=Yn.1 h4
     have hc:Jl l n (a++e::d) t:=Yn.2 ⟨m,h1,h2,h3,h8⟩
     obtain⟨es',g1,g2,g3⟩:=shorten h0 k (by simp at hk ⊢;omega) hc
     refine⟨es',g1,g2,g3.trans ?_⟩
     have hb:0≤ecost b:=by
       have:∀ {b:List Au},(∀ e∈b,0≤e.Cost)→0≤ecost b:=by
         intro b
         induction b with
         | nil=>intro _;simp[ecost]
         | cons x b ih=>intro h;rw[P1];have:=h x (by simp);have:=ih fun y hy=>h y (List.mem_cons_of_mem _ hy);omega
       exact this fun x hx=>h0 x (Jl.mem h5 x hx)
     have he:=h0 e h2
     unfold lexle cst
     simp only[lL,P1,List.length_append,List.length_cons]
     omega
structure eJ (l:List Au) (t n:Int) (p:Int×Nat):Prop where
  walk:∃ es,Jl l n es t∧p=cst es
  least:∀ es,Jl l n es t→lexle p (cst es)
theorem eJ.unique {l:List Au} {t n:Int} {p q:Int×Nat} (h:eJ l t n p) (k:eJ l t n q):p=q:=by
  obtain⟨es,h1,h2⟩:=h.walk
  obtain⟨es',k1,k2⟩:=k.walk
  exact(k2 ▸ h.least es' k1).antisymm (h2 ▸ k.least es h1)
theorem eJ.Aav {l:List Au} (h0:∀ e∈l,0≤e.Cost) {t:Int}:eJ l t t (0,0):=by
  refine⟨⟨[],rfl,rfl⟩,fun es h=>?_⟩
  have:0≤ecost es:=by
    have:∀ {b:List Au},(∀ e∈b,0≤e.Cost)→0≤ecost b:=by
      intro b
      induction b with
      | nil=>intro _;simp[ecost]
      | cons x b ih=>intro h;rw[P1];have:=h x (by simp);have:=ih fun y hy=>h y (List.mem_cons_of_mem _ hy);omega
    exact this fun x hx=>h0 x (Jl.mem h x hx)
  unfold lexle cst;simp only;omega
def Good (l:List Au) (t n:Int) (e:Au):Prop:=e∈l∧e.From=n∧∃ p,eJ l t e.To p∧eJ l t n (p.1+e.Cost,p.2+1)
theorem eJ.step {l:List Au} {t n:Int} {p:Int×Nat} (h:eJ l t n p) (hn:n≠t):∃ e,Good l t n e:=by
  obtain⟨es,h1,h2⟩:=h.walk
  cases es with
  | nil=>exact absurd h1 hn
  | cons e es=>
    refine⟨e,h1.1,h1.2.1,cst es,⟨⟨es,h1.2.2,rfl⟩,fun es' h'=>?_⟩,by rw[← bI,← h2];exact h⟩
    have:=h.least (e::es') ⟨h1.1,h1.2.1,h'⟩
    rw[h2,bI,bI]at this
    exact this.sub
inductive Rx (l:List Au) (t:Int):Int→List Int→Prop
  | done:Rx l t t []
  | step {n:Int} {i:Nat} {e:Au} {ids:List Int}:n≠t→l[i]? =some e→Good l t n e→(∀ j e',j<i→l[j]? =some e'→¬ Good l t n e')→Rx l t e.To ids→Rx l t n (e.ID::ids)
theorem Rx.unique {l:List Au} {t n:Int} {a b:List Int} (h:Rx l t n a) (k:Rx l t n b):a=b:=by
  induction h generalizing b with
  | done=>
    cases k with
    | done=>rfl
    | step hn=>exact absurd rfl hn
  | @step n i e ids hn hi hg hf _ ih=>
    cases k with
    | done=>exact absurd rfl hn
    | @step _ i' e' ids' hn' hi' hg' hf' hr'=>
      have:i=i':=by
        rcases Nat.lt_trichotomy i i' with h | h | h
        ·exact absurd hg (hf' i e h hi)
        ·exact h
        ·exact absurd hg' (hf i' e' h hi')
      subst this
      rw[hi]at hi'
      obtain rfl:=Option.some.inj hi'
      rw[ih hr']
theorem Rx.walk {l:List Au} {t n:Int} {ids:List Int} (h:Rx l t n ids) {p:Int×Nat} (hb:eJ l t n p) (h0:∀ e∈l,0≤e.Cost):∃ es,Jl l n es t∧es.map (·.ID)=ids∧cst es=p:=by
  induction h generalizing p with
  | done=>exact ⟨[],rfl,rfl,(eJ.Aav h0).unique hb⟩
  | @step n i e ids hn hi hg hf _ ih=>
    obtain⟨g1,g2,q,g3,g4⟩:=hg
    obtain⟨es,e1,e2,e3⟩:=ih g3
    exact⟨e::es,⟨g1,g2,e1⟩,by rw[List.map_cons,e2],by rw[bI,e3];exact g4.unique hb⟩
inductive qB (l:List Au) (f t:Int):List Int×Int×Bool→Prop
  | none:(∀ es,¬ Jl l f es t)→qB l f t ([],0,false)
  | some {p:Int×Nat} {ids:List Int}:eJ l t f p→Rx l t f ids→qB l f t (ids,p.1,true)
theorem qB.unique {l:List Au} {f t:Int} {r r':List Int×Int×Bool} (h:qB l f t r) (k:qB l f t r'):r=r':=by
  cases h with
  | none h=>
    cases k with
    | none=>rfl
    | some hb=>obtain ⟨es,h1,_⟩:=hb.walk;exact absurd h1 (h es)
  | some hb hp=>
    cases k with
    | none k=>obtain ⟨es,h1,_⟩:=hb.walk;exact absurd h1 (k es)
    | some kb kp=>rw[hb.unique kb,hp.unique kp]
abbrev Tab:=Int→Option (Int×Nat)
def lexlt (a b:Int×Nat):Prop:=a.1<b.1∨(a.1=b.1∧a.2<b.2)
instance (a b:Int×Nat):Decidable (lexlt a b):=by unfold lexlt;infer_instance
def TLe (x y:Option (Int×Nat)):Prop:=∀ b,y=some b→∃ a,x=some a∧lexle a b
theorem TLe.refl (x:Option (Int×Nat)):TLe x x:=fun b h=>⟨b,h,.refl b⟩
theorem TLe.trans {x y z:Option (Int×Nat)} (h:TLe x y) (k:TLe y z):TLe x z:=fun b hb=>by
  obtain⟨a,h1,h2⟩:=k b hb
  obtain⟨c,h3,h4⟩:=h a h1
  exact⟨c,h3,h4.trans h2⟩
def Cov (l:List Au) (t:Int) (T:Tab) (i:Nat):Prop:=∀ n es,Jl l n es t→es.length≤i→TLe (T n) (some (cst es))
theorem Cov.all {l:List Au} (h0:∀ e∈l,0≤e.Cost) {t:Int} {T:Tab} {i:Nat} (h:Cov l t T i) (hi:l.length≤i):∀ j,Cov l t T j:=by
  intro j n es hc _
  obtain⟨es',g1,g2,g3⟩:=shorten h0 _ (Nat.le_refl _) hc
  refine(h n es' g1 (by omega)).trans fun b hb=>?_
  obtain rfl:=Option.some.inj hb
  exact⟨_,rfl,g3⟩
structure Exact (l:List Au) (t:Int) (T:Tab):Prop where
  best:∀ n p,T n=some p↔eJ l t n p
  cov:∀ i,Cov l t T i
theorem Exact.none {l:List Au} {t:Int} {T:Tab} (h:Exact l t T) {n:Int} (hn:T n=none):∀ es,¬ Jl l n es t:=fun es hc=>by
  obtain⟨a,h1,_⟩:=h.cov es.length n es hc (Nat.le_refl _) _ rfl
  rw[hn]at h1;cases h1
theorem back_eq {l:List Au} (hl:l.length≤100000) (f:List Int):Nt l f=E5 (turn l) f:=by
  unfold Nt Eu
  rw[Cj (by omega),Option.bind_some]
  obtain⟨s,h1,h2,h3⟩:=Du (ρ:=List Int) (step:=G1) (l:=l) (s:=l) (fun k s=>s.length=l.length∧∀ i e,l[i]? =some e→s[i]? =some (if i<k then aE e else e)) ⟨rfl,fun i e h=>by simpa using h⟩ (fun k x s hk ⟨i1,i2⟩=>by
    have hlt:=(List.getElem?_eq_some_iff.1 hk).1
    have hx:=i2 k x hk
    rw[if_neg (Nat.lt_irrefl k)]at hx
    refine⟨(s.set k (Au.mk x.ID x.To x.To x.Cost)).set k (aE x),?_,by simp[i1],fun i e he=>?_⟩
    ·unfold G1
     rw[Az hx,Option.bind_some];rfl
    ·rw[List.set_set]
     by_cases h:k=i
     ·subst h
      rw[hk]at he;obtain rfl:=Option.some.inj he
      rw[List.getElem?_set_self (by omega),if_pos (by omega)]
     ·rw[List.getElem?_set_ne h,i2 i e he]
      by_cases h2:i<k
      ·rw[if_pos h2,if_pos (by omega)]
      ·rw[if_neg h2,if_neg (by omega)])
  rw[h1]
  have:s=turn l:=by
    apply List.ext_getElem?
    intro i
    unfold turn
    rw[List.getElem?_map]
    by_cases hi:i<l.length
    ·have he:=Ajq hi
     rw[h3 i _ he,he,if_pos hi];rfl
    ·rw[List.getElem?_eq_none (by omega),List.getElem?_eq_none (by omega)];rfl
  subst this
  show(E5 (turn l) f).bind _=_
  cases E5 (turn l) f<;>rfl
theorem iG (l:List Au) (n:Int):mget [] (B4 l) n=(l.filter fun e=>decide (e.From=n)).map (·.To):=by
  have key:∀ (l:List Au) (g:List (Int×List Int)),mget [] (l.foldl (fun g e=>gadd g e.From e.To) g) n=mget [] g n++(l.filter fun e=>decide (e.From=n)).map (·.To):=by
    intro l
    induction l with
    | nil=>intro g;simp
    | cons e l ih=>
      intro g
      rw[List.foldl_cons,ih,uJ]
      by_cases h:e.From=n<;>simp[h]
  have:=key l []
  simpa[mget,B4]using this
theorem j1 (l:List Au) (m:List (Int×Bool)) (i:List Int) (x:Int) (hi:i.length≤549755813888) :
    Eg l (m,i++[x])=bif (!(mget false m x))then chk (i.length+(mget [] (B4 l) x).length) (some (Out.next (mset m x true,i++mget [] (B4 l) x)))else some (Out.next (m,i)):=by
  unfold Eg
  have e1:IntKind.i64.wrap ((((i++[x]).length:Nat):Int) - 1)=((i.length:Nat):Int):=by
    rw[wrap_i64]<;>simp<;>omega
  simp only[e1]
  rw[Ajo (show(0:Int)<(((i++[x]).length:Nat):Int) by simp),cond_true,Az (x:=x) (by simp),Option.bind_some,Py (by simp;omega)]
  simp[List.take_left]
theorem nR {l:List Au} {f:List Int} (hl:l.length≤100000) (hf:f.length≤100000) (hE:∀ e∈l,I64 e.To) (hF:∀ n∈f,I64 n):∃ r,E5 l f=some r∧Qg l f r:=by
  have hlen:∀ n,(mget [] (B4 l) n).length≤l.length:=fun n=>by
    rw[iG,List.length_map];exact List.length_filter_le _ _
  have hC:(f++l.map (·.To)).length=f.length+l.length:=by simp
  have hB:(f.length+l.length)*(l.length+1)+f.length≤30000000000:=by
    have:=Nat.mul_le_mul (show f.length+l.length≤200000 by omega) (show l.length+1≤100001 by omega)
    omega
  obtain⟨r,h1,h2⟩:=Ik (step:=Eg l)
    (fun s=>(mkeys s.1).Nodup∧(∀ n,mget false s.1 n=true↔n∈mkeys s.1)∧(∀ n∈mkeys s.1,Rch l (·∈f) n)∧(∀ n∈s.2,Rch l (·∈f) n)∧(∀ n∈f,n∈mkeys s.1∨n∈s.2)∧(∀ e∈l,e.From∈mkeys s.1→e.To∈mkeys s.1∨e.To∈s.2)∧
      (f.length+l.length - s.1.length)*(l.length+1)+s.2.length≤30000000000)
    (fun r=>Qg l f r) (fun s=>(f.length+l.length - s.1.length)*(l.length+1)+s.2.length) (fun s ⟨i1,i2,i3,i4,i5,i6,i7⟩=>by
      obtain⟨m,o⟩:=s
      simp only at i1 i2 i3 i4 i5 i6 i7 ⊢
      have hk:m.length≤f.length+l.length:=by
        have:=Jp i1 (b:=f++l.map (·.To)) fun n hn=>R6 (i3 n hn)
        rw[hC]at this
        simpa[mkeys]using this
      have ho:o=[]∨∃ i x,o=i++[x]:=by
        rcases List.eq_nil_or_concat o with h | ⟨i,x,h⟩
        ·exact .inl h
        ·exact .inr ⟨i,x,by rw[h,List.concat_eq_append]⟩
      rcases ho with rfl | ⟨i,x,rfl⟩
      ·refine .inr ⟨Db (mkeys m),?_,?_⟩
       ·unfold Eg
        have hr:∀ k∈mkeys m, -9223372036854775808≤k∧k≤9223372036854775807:=fun k hk=>by
          rcases List.mem_append.1 (R6 (i3 k hk))with h | h
          ·exact hF k h
          ·obtain⟨e,he,rfl⟩:=List.mem_map.1 h;exact hE e he
        simp only[List.length_nil,Int.natCast_zero,Int.lt_irrefl,decide_false,cond_false]
        rw[Py hr,Cj (by omega)];rfl
       ·refine .of_closed (tW i1) (fun n hn=>i3 n ((Nx _ _).1 hn)) (fun n hn=>(Nx _ _).2 ?_) (fun e he hm=>(Nx _ _).2 ?_)
        ·simpa using i5 n hn
        ·simpa using i6 e he ((Nx _ _).1 hm)
      ·simp only[List.length_append,List.length_cons,List.length_nil]at i7
       rw[j1 l m i x (by omega)]
       have hx:=i4 x (by simp)
       cases hb:mget false m x with
       | false=>
         have hnew:x ∉ mkeys m:=fun h=>by rw[(i2 x).2 h]at hb;cases hb
         have hlx:=hlen x
         have hle:m.length+1≤f.length+l.length:=by
           have hn:(x::mkeys m).Nodup:=List.nodup_cons.2 ⟨hnew,i1⟩
           have:=Jp hn (b:=f++l.map (·.To)) fun n hn=>by
             rcases List.mem_cons.1 hn with rfl | hn
             ·exact R6 hx
             ·exact R6 (i3 n hn)
           rw[hC]at this
           simpa[mkeys]using this
         have hml:(mset m x true).length=m.length+1:=by
           have hh:mhas m x=false:=by
             cases h:mhas m x with
             | false=>rfl
             | true=>exact absurd ((iI m x).1 h) hnew
           rw[oF,hh];rfl
         have hk2:mkeys (mset m x true)=mkeys m++[x]:=by rw[Yb,if_neg hnew]
         obtain⟨d,hd⟩:∃ d,f.length+l.length=m.length+1+d:=⟨_,(Nat.add_sub_cancel' hle).symm⟩
         have e1:f.length+l.length - m.length=d+1:=by omega
         have e2:f.length+l.length - (m.length+1)=d:=by omega
         rw[e1,Nat.succ_mul]at i7
         simp only[Bool.not_false,cond_true]
         rw[Cj (by omega)]
         refine .inl ⟨_,rfl,⟨rE i1 _ _,fun n=>?_,fun n hn=>?_,fun n hn=>?_,fun n hn=>?_,fun e he hm=>?_,?_⟩,?_⟩
         ·simp only[hk2,Yc,List.mem_append,List.mem_singleton]
          by_cases h:x=n
          ·simp[h]
          ·rw[if_neg h,i2];exact⟨.inl,fun h'=>h'.elim id fun h'=>absurd h'.symm h⟩
         ·simp only[hk2,List.mem_append,List.mem_singleton]at hn
          rcases hn with hn | rfl
          ·exact i3 n hn
          ·exact hx
         ·rcases List.mem_append.1 hn with hn | hn
          ·exact i4 n (by simp[hn])
          ·rw[iG]at hn
           obtain⟨e,he,rfl⟩:=List.mem_map.1 hn
           have:=List.mem_filter.1 he
           have hfx:=Ajn this.2
           exact .step this.1 (hfx ▸ hx)
         ·simp only[hk2,List.mem_append,List.mem_singleton]
          rcases i5 n hn with h | h
          ·exact .inl (.inl h)
          ·rcases List.mem_append.1 h with h | h
           ·exact .inr (.inl h)
           ·exact .inl (.inr (by simpa using h))
         ·simp only[hk2,List.mem_append,List.mem_singleton]at hm ⊢
          rcases hm with hm | hm
          ·rcases i6 e he hm with h | h
           ·exact .inl (.inl h)
           ·rcases List.mem_append.1 h with h | h
            ·exact .inr (.inl h)
            ·exact .inl (.inr (by simpa using h))
          ·refine .inr (.inr ?_)
           rw[iG]
           exact List.mem_map.2 ⟨e,List.mem_filter.2 ⟨he,Ajo hm⟩,rfl⟩
         ·simp only[hml,e2,List.length_append];omega
         ·simp only[hml,e1,e2,List.length_append,Nat.succ_mul,List.length_cons,List.length_nil];omega
       | true=>
         have hold:=(i2 x).1 hb
         refine .inl ⟨_,rfl,⟨i1,i2,i3,fun n hn=>i4 n (by simp[hn]),fun n hn=>?_,fun e he hm=>?_,?_⟩,?_⟩
         ·rcases i5 n hn with h | h
          ·exact .inl h
          ·rcases List.mem_append.1 h with h | h
           ·exact .inr h
           ·exact .inl (by rw[show n=x by simpa using h];exact hold)
         ·rcases i6 e he hm with h | h
          ·exact .inl h
          ·rcases List.mem_append.1 h with h | h
           ·exact .inr h
           ·exact .inl (by rw[show e.To=x by simpa using h];exact hold)
         ·simp only;omega
         ·simp only[List.length_append,List.length_cons,List.length_nil];omega)
    fuel ([],f) ⟨by simp[mkeys],by simp[mget,mkeys],by simp[mkeys],fun n hn=>.base hn,fun n hn=>.inr hn,by simp[mkeys],by simpa using hB⟩ (by show _<1099511627776;simp only[List.length_nil,Nat.sub_zero];omega)
  refine⟨r,?_,h2⟩
  unfold E5 B9
  rw[Cj (by omega),Cj (by omega),Option.bind_some,h1];rfl
def Ej (n_:Int) (least:Int) (most:Int):Option (Bool):=
  (bif (decide (least≤n_))then some (decide (n_≤most))else some false)
def Pq (m:Be) (k0:Nat) (x_2:Cl) (sv:Unit):Option (Out (Unit) (Int)):=
  (Ej x_2.ID (1:Int) (9999:Int)).bind fun y3=>(bif (!y3)then some (Out.ret (2:Int))else (Ej x_2.Alt (0:Int) (5000:Int)).bind fun y4=>(bif (!y4)then some (Out.ret (2:Int))else (bif (decide ((0:Int)<((k0:Nat):Int)))then (Di m.Nodes (IntKind.i64.wrap (((k0:Nat):Int) - (1:Int)))).bind fun x_5=>(bif (decide (x_2.ID≤x_5.ID))then some (Out.ret (7:Int))else some (Out.next ()))else some (Out.next ()))))
def Tv (m:Be):Option (Int):=
  (Am (Pq m) 0 m.Nodes ()).bind fun o0=>o0.on fun s0=>some (0:Int)
def Ll (m:Be) (x_2:Ce):Option (Out (Unit) (Int)):=
  (Ed m x_2.From).bind fun y10=>(Ed m x_2.To).bind fun y11=>(bif (!y10.2)then some (Out.ret (8:Int))else (bif (!y11.2)then some (Out.ret (8:Int))else (bif (decide (y11.1.Alt≤y10.1.Alt))then some (Out.ret (11:Int))else nz x_2.Spacing ((bif (decide ((Int.tmod (IntKind.i64.wrap ((2:Int)*x_2.Length)) x_2.Spacing)≠(0:Int)))then some (Out.ret (1:Int))else nz x_2.Spacing ((Ej (IntKind.i64.wrap (Int.tdiv (IntKind.i64.wrap ((2:Int)*x_2.Length)) x_2.Spacing)) (1:Int) (200:Int)).bind fun y12=>(bif (!y12)then some (Out.ret (1:Int))else some (Out.next ()))))))))
def Hf (m:Be) (k0:Nat) (x_2:Ce) (sv:Unit):Option (Out (Unit) (Int)):=
  (Ej x_2.ID (1:Int) (9999:Int)).bind fun y3=>(bif (!y3)then some (Out.ret (2:Int))else (Ej x_2.Operator (1:Int) (8:Int)).bind fun y4=>(bif (!y4)then some (Out.ret (2:Int))else (Ej x_2.Length (10:Int) (6000:Int)).bind fun y5=>(bif (!y5)then some (Out.ret (2:Int))else (Ej x_2.Speed (500:Int) (12000:Int)).bind fun y6=>(bif (!y6)then some (Out.ret (2:Int))else (Ej x_2.Seats (1:Int) (16:Int)).bind fun y7=>(bif (!y7)then some (Out.ret (2:Int))else (Ej x_2.Spacing (5:Int) (1000:Int)).bind fun y8=>(bif (!y8)then some (Out.ret (2:Int))else (bif (decide ((0:Int)<((k0:Nat):Int)))then (Di m.Lifts (IntKind.i64.wrap (((k0:Nat):Int) - (1:Int)))).bind fun x_13=>(bif (decide (x_2.ID≤x_13.ID))then some (Out.ret (7:Int))else Ll m x_2)else Ll m x_2)))))))
def P7 (m:Be):Option (Int):=
  (Am (Hf m) 0 m.Lifts ()).bind fun o0=>o0.on fun s0=>some (0:Int)
def I4 (m:Be) (k0:Nat) (x_2:Cf) (sv:Unit):Option (Out (Unit) (Int)):=
  (Ej x_2.ID (1:Int) (9999:Int)).bind fun y3=>(bif (!y3)then some (Out.ret (2:Int))else (Ej x_2.Operator (1:Int) (8:Int)).bind fun y4=>(bif (!y4)then some (Out.ret (2:Int))else (Ej x_2.Grade (1:Int) (4:Int)).bind fun y5=>(bif (!y5)then some (Out.ret (2:Int))else (Ej x_2.Zone (1:Int) (32:Int)).bind fun y6=>(bif (!y6)then some (Out.ret (2:Int))else (Ej x_2.Length (10:Int) (20000:Int)).bind fun y7=>(bif (!y7)then some (Out.ret (2:Int))else (bif (decide ((0:Int)<((k0:Nat):Int)))then (Di m.Runs (IntKind.i64.wrap (((k0:Nat):Int) - (1:Int)))).bind fun x_8=>(bif (decide (x_2.ID≤x_8.ID))then some (Out.ret (7:Int))else (Ed m x_2.From).bind fun y9=>(Ed m x_2.To).bind fun y10=>(bif (!y9.2)then some (Out.ret (8:Int))else (bif (!y10.2)then some (Out.ret (8:Int))else (bif (decide (y9.1.Alt≤y10.1.Alt))then some (Out.ret (11:Int))else some (Out.next ())))))else (Ed m x_2.From).bind fun y11=>(Ed m x_2.To).bind fun y12=>(bif (!y11.2)then some (Out.ret (8:Int))else (bif (!y12.2)then some (Out.ret (8:Int))else (bif (decide (y11.1.Alt≤y12.1.Alt))then some (Out.ret (11:Int))else some (Out.next ()))))))))))
def Rn (m:Be):Option (Int):=
  (Am (I4 m) 0 m.Runs ()).bind fun o0=>o0.on fun s0=>some (0:Int)
def Hg (m:Be) (k1:Nat) (x_3:Int) (sv:Unit):Option (Out (Unit) (Int)):=
  (bif (decide ((0:Int)<((k1:Nat):Int)))then (Di m.Bases (IntKind.i64.wrap (((k1:Nat):Int) - (1:Int)))).bind fun x_4=>(bif (decide (x_3≤x_4))then some (Out.ret (7:Int))else some (Out.next ()))else some (Out.next ()))
def bZ (m:Be):Option (Int):=
  (Am (Hg m) 0 m.Bases ()).bind fun o1=>o1.on fun s1=>some (0:Int)
def Fp (m:Be) (k4:Nat) (x_6:Int) (sv:Unit):Option (Out (Unit) (Int)):=
  (Ed m x_6).bind fun y7=>(bif (!y7.2)then some (Out.ret (8:Int))else some (Out.next ()))
def Tw (m:Be):Option (Int):=
  (bif (decide (((m.Bases.length:Nat):Int)=(0:Int)))then some (8:Int)else (Am (Fp m) 0 m.Bases ()).bind fun o4=>o4.on fun s4=>bZ m)
def gM (m:Be):Option (Int):=
  (bif (decide ((64:Int)<((m.Nodes.length:Nat):Int)))then some (4:Int)else (bif (decide ((32:Int)<((m.Lifts.length:Nat):Int)))then some (4:Int)else (bif (decide ((64:Int)<((m.Runs.length:Nat):Int)))then some (4:Int)else (bif (decide ((64:Int)<((m.Bases.length:Nat):Int)))then some (4:Int)else (Tv m).bind fun y1=>(bif (decide (y1≠(0:Int)))then some y1 else(P7 m).bind fun y2=>(bif (decide (y2≠(0:Int)))then some y2 else(Rn m).bind fun y3=>(bif (decide (y3≠(0:Int)))then some y3 else(Tw m).bind fun y4=>some y4)))))))
def Xh {α:Type} (idf:α→Int) (d:α) (l:List α) (id:Int):α×Bool:=match l.find? (fun x=>decide (idf x=id))with | some x=>(x,true) | none=>(d,false)
def Cw (m:Be) (id:Int):Cl×Bool:=Xh Cl.ID ⟨0,0⟩ m.Nodes id
def Abi (m:Be) (id:Int):Ce×Bool:=Xh Ce.ID ⟨0,0,0,0,0,0,0,0⟩ m.Lifts id
def J9 (m:Be) (id:Int):Cf×Bool:=Xh Cf.ID ⟨0,0,0,0,0,0,0⟩ m.Runs id
theorem Xg {α:Type} {idf:α→Int} {d:α} {l:List α} {id:Int} {step:Nat→α→Unit→Option (Out Unit (α×Bool))} (hs:∀ k x,x∈l→step k x ()=bif decide (idf x=id)then some (.ret (x,true))else some (.next ())) :
    ((Am step 0 l ()).bind fun o=>o.on fun _=>some (d,false))=some (Xh idf d l id):=by
  rw[Fm (fun x=>decide (idf x=id)) (fun x=>(x,true)) hs,Xh]
  cases l.find? (fun x=>decide (idf x=id))<;>rfl
theorem jB {α:Type} {idf:α→Int} {d:α} {l:List α} {id:Int} (h:(Xh idf d l id).2=true):(Xh idf d l id).1∈l∧idf (Xh idf d l id).1=id:=by
  unfold Xh at h ⊢
  split
  ·rename_i x hx
   exact⟨List.mem_of_find?_eq_some hx,by simpa using List.find?_some hx⟩
  ·rename_i hx;rw[hx]at h;cases h
theorem u3 {α:Type} {idf:α→Int} {d:α} {l:List α} {x:α} (h:x∈l):(Xh idf d l (idf x)).2=true:=by
  unfold Xh
  split
  ·rfl
  ·rename_i hx
   have:=List.find?_eq_none.1 hx x h
   simp at this
theorem Zu {m:Be} {id:Int} (h:(Cw m id).2=true):(Cw m id).1∈m.Nodes∧(Cw m id).1.ID=id:=jB h
theorem cC {m:Be} {id:Int} (h:(J9 m id).2=true):(J9 m id).1∈m.Runs∧(J9 m id).1.ID=id:=jB h
theorem G0 (m:Be) (id:Int):Ed m id=some (Cw m id):=Xg fun _ _ _=>rfl
theorem R1 (n lo hi:Int):Ej n lo hi=some (decide (lo≤n∧n≤hi)):=by
  unfold Ej
  by_cases h:lo≤n
  ·simp[h]
  ·simp[h]
theorem xB (n lo hi:Int):E3 n lo hi=some (decide (lo≤n∧n≤hi)):=R1 n lo hi
def Li {α:Type} (idf:α→Int) (l:List α):Prop:=∀ k x y,l[k+1]? =some x→l[k]? =some y→idf y<idf x
def before {α ρ:Type} (idf:α→Int) (l:List α) (k:Nat) (x:α) (bad good:Option (Out Unit ρ)):Option (Out Unit ρ):=
  bif decide (0<((k:Nat):Int))then (Di l (IntKind.i64.wrap ((k:Int) - 1))).bind fun y=>bif decide (idf x≤idf y)then bad else good else good
theorem Yo {α ρ:Type} {idf:α→Int} {l:List α} {k:Nat} {x:α} {bad good:Option (Out Unit ρ)} (hk:l[k]? =some x) (hl:l.length≤100000) :
    ((∀ y,0<k→l[k - 1]? =some y→idf y<idf x)∧before idf l k x bad good=good)∨(¬ (∀ y,0<k→l[k - 1]? =some y→idf y<idf x)∧before idf l k x bad good=bad):=by
  have hlt:=(List.getElem?_eq_some_iff.1 hk).1
  unfold before
  by_cases h0:0<k
  ·rw[Ajo (by omega),cond_true,Ry h0 (by omega),Yd (by omega)]
   have hy:l[k - 1]? =some l[k - 1]:=Ajq (by omega)
   show(_∧(bif decide (idf x≤idf l[k - 1])then bad else good)=_)∨(_∧(bif decide (idf x≤idf l[k - 1])then bad else good)=_)
   by_cases hle:idf x≤idf l[k - 1]
   ·rw[Ajo hle,cond_true]
    refine .inr ⟨fun h=>?_,rfl⟩
    have:=h _ h0 hy
    omega
   ·rw[Ajp hle,cond_false]
    refine .inl ⟨fun y _ hy'=>?_,rfl⟩
    rw[hy]at hy'
    obtain rfl:=Option.some.inj hy'
    omega
  ·rw[Ajp (by omega),cond_false]
   exact .inl ⟨fun y h=>absurd h h0,rfl⟩
theorem U8 {α:Type} {idf:α→Int} {l:List α}:Li idf l↔∀ (k:Nat) x,l[k]? =some x→∀ y,0<k→l[k - 1]? =some y→idf y<idf x:=by
  constructor
  ·intro h k x hx y h0 hy
   refine h (k - 1) x y ?_ hy
   rwa [show k - 1+1=k by omega]
  ·intro h k x y hx hy
   exact h (k+1) x hx y (by omega) (by simpa using hy)
def yC (x:Cl):Prop:=(1≤x.ID∧x.ID≤9999)∧(0≤x.Alt∧x.Alt≤5000)
def bV (m:Be) (a b:Int):Prop:=(Cw m a).2=true∧(Cw m b).2=true∧(Cw m a).1.Alt<(Cw m b).1.Alt
def zS (x:Ce):Prop:=(1≤x.ID∧x.ID≤9999)∧(1≤x.Operator∧x.Operator≤8)∧(10≤x.Length∧x.Length≤6000)∧(500≤x.Speed∧x.Speed≤12000)∧(1≤x.Seats∧x.Seats≤16)∧(5≤x.Spacing∧x.Spacing≤1000)
def bW (x:Ce):Prop:=(2*x.Length).tmod x.Spacing=0∧1≤(2*x.Length).tdiv x.Spacing∧(2*x.Length).tdiv x.Spacing≤200
def yD (m:Be) (x:Ce):Prop:=zS x∧bV m x.From x.To∧bW x
def Aaz (x:Cf):Prop:=(1≤x.ID∧x.ID≤9999)∧(1≤x.Operator∧x.Operator≤8)∧(1≤x.Grade∧x.Grade≤4)∧(1≤x.Zone∧x.Zone≤32)∧(10≤x.Length∧x.Length≤20000)
def z6 (m:Be) (x:Cf):Prop:=Aaz x∧bV m x.To x.From
structure Lj (m:Be):Prop where
  lenN:m.Nodes.length≤64
  lenL:m.Lifts.length≤32
  lenR:m.Runs.length≤64
  lenB:m.Bases.length≤64
  nodes:∀ x∈m.Nodes,yC x
  nodesR:Li Cl.ID m.Nodes
  lifts:∀ x∈m.Lifts,yD m x
  liftsR:Li Ce.ID m.Lifts
  runs:∀ x∈m.Runs,z6 m x
  runsR:Li Cf.ID m.Runs
  some:m.Bases≠[]
  bases:∀ b∈m.Bases,(Cw m b).2=true
  basesR:Li (fun b:Int=>b) m.Bases
theorem tests {α:Type} {step:Nat→α→Unit→Option (Out Unit Int)} {l:List α} (ok:Nat→α→Prop) (hs:∀ k x,l[k]? =some x→(step k x ()=some (.next ())∧ok k x)∨(∃ r,step k x ()=some (.ret r)∧r≠0∧¬ ok k x)) :
    ∃ r,((Am step 0 l ()).bind fun o=>o.on fun _=>some 0)=some r∧(r=0↔∀ k x,l[k]? =some x→ok k x):=by
  rcases Fa (step:=step) (l:=l) (s:=()) (fun k _=>∀ i x,i<k→l[i]? =some x→ok i x) (fun r=>r≠0∧∃ k x,l[k]? =some x∧¬ ok k x) (fun i x h=>by omega) (fun k x u hk hI=>by
    rcases hs k x hk with⟨h1,h2⟩ | ⟨r,h1,h2,h3⟩
    ·refine .inl ⟨(),h1,fun i y hi hy=>?_⟩
     by_cases h:i=k
     ·subst h;rw[hk]at hy;obtain rfl:=Option.some.inj hy;exact h2
     ·exact hI i y (by omega) hy
    ·exact .inr ⟨r,h1,h2,k,x,hk,h3⟩)with ⟨u,h1,h2⟩ | ⟨r,h1,h2,k,x,hk,h3⟩
  ·refine⟨0,by rw[h1];rfl,fun _ k x hk=>h2 k x (List.getElem?_eq_some_iff.1 hk).1 hk,fun _=>rfl⟩
  ·refine⟨r,by rw[h1];rfl,fun h=>absurd h h2,fun h=>absurd (h k x hk) h3⟩
theorem mV {α:Type} {l:List α} {P:α→Prop} {Q:Nat→α→Prop}:(∀ (k:Nat) x,l[k]? =some x→P x∧Q k x)↔(∀ x∈l,P x)∧∀ (k:Nat) x,l[k]? =some x→Q k x:=by
  constructor
  ·intro h
   refine⟨fun x hx=>?_,fun k x hk=>(h k x hk).2⟩
   obtain⟨k,hk⟩:=List.getElem?_of_mem hx
   exact(h k x hk).1
  ·intro h k x hk
   exact⟨h.1 x (Ajr hk),h.2 k x hk⟩
theorem jU (m:Be) (hl:m.Nodes.length≤64):∃ r,Tv m=some r∧(r=0↔(∀ x∈m.Nodes,yC x)∧Li Cl.ID m.Nodes):=by
  rw[U8,← mV]
  refine tests _ fun k x hk=>?_
  have hb:Pq m k x ()=(bif !decide (1≤x.ID∧x.ID≤9999)then some (Out.ret 2)else bif !decide (0≤x.Alt∧x.Alt≤5000)then some (Out.ret 2)else before Cl.ID m.Nodes k x (some (Out.ret 7)) (some (Out.next ()))):=by
    simp only[Pq,R1,Option.bind_some];rfl
  rw[hb]
  by_cases h1:1≤x.ID∧x.ID≤9999
  ·by_cases h2:0≤x.Alt∧x.Alt≤5000
   ·rw[Ajo h1,Ajo h2]
    rcases Yo (idf:=Cl.ID) (bad:=some (Out.ret (7:Int))) (good:=some (Out.next ())) hk (by omega)with ⟨h3,e⟩ | ⟨h3,e⟩
    ·exact .inl ⟨e,⟨h1,h2⟩,h3⟩
    ·exact .inr ⟨7,e,by decide,fun h=>h3 h.2⟩
   ·rw[Ajo h1,Ajp h2]
    exact .inr ⟨2,rfl,by decide,fun h=>h2 h.1.2⟩
  ·rw[Ajp h1]
   exact .inr ⟨2,rfl,by decide,fun h=>h1 h.1.1⟩
theorem hX (m:Be):Tg m.Nodes=Tv m:=rfl
theorem Aa1 {n:Int} (h:10≤n∧n≤6000):IntKind.i64.wrap (2*n)=2*n:=by rw[wrap_i64]<;>omega
theorem qI {a b:Int} (ha:0≤a) (hb:0<b):0≤a.tdiv b∧a.tdiv b≤a:=by
  rw[Int.tdiv_eq_ediv_of_nonneg ha]
  exact⟨Int.ediv_nonneg ha (by omega),Int.ediv_le_self _ ha⟩
theorem tP {n s:Int} (h:10≤n∧n≤6000) (hs:5≤s∧s≤1000):IntKind.i64.wrap ((2*n).tdiv s)=(2*n).tdiv s:=by
  have:=qI (a:=2*n) (b:=s) (by omega) (by omega)
  rw[wrap_i64]<;>omega
def leads (m:Be) (a b:Int) (good:Option (Out Unit Int)):Option (Out Unit Int):=
  bif !(Cw m a).2 then some (.ret 8)else bif !(Cw m b).2 then some (.ret 8)else bif decide ((Cw m b).1.Alt≤(Cw m a).1.Alt)then some (.ret 11)else good
theorem oK (m:Be) (a b:Int) (good:Option (Out Unit Int)):(bV m a b∧leads m a b good=good)∨(¬ bV m a b∧∃ r,leads m a b good=some (.ret r)∧r≠0):=by
  unfold leads bV
  cases h1:(Cw m a).2 with
  | false=>exact .inr ⟨by simp,8,rfl,by decide⟩
  | true=>
    cases h2:(Cw m b).2 with
    | false=>exact .inr ⟨by simp,8,rfl,by decide⟩
    | true=>
      by_cases h3:(Cw m b).1.Alt≤(Cw m a).1.Alt
      ·rw[Ajo h3]
       exact .inr ⟨fun h=>by omega,11,rfl,by decide⟩
      ·rw[Ajp h3]
       exact .inl ⟨⟨rfl,rfl,by omega⟩,rfl⟩
def carr (x:Ce) (good:Option (Out Unit Int)):Option (Out Unit Int):=
  nz x.Spacing (bif decide ((IntKind.i64.wrap (2*x.Length)).tmod x.Spacing≠0)then some (.ret 1)else nz x.Spacing (bif !decide (1≤IntKind.i64.wrap ((IntKind.i64.wrap (2*x.Length)).tdiv x.Spacing)∧IntKind.i64.wrap ((IntKind.i64.wrap (2*x.Length)).tdiv x.Spacing)≤200)then some (.ret 1)else good))
theorem zK {x:Ce} (hl:10≤x.Length∧x.Length≤6000) (hs:5≤x.Spacing∧x.Spacing≤1000) (good:Option (Out Unit Int)):(bW x∧carr x good=good)∨(¬ bW x∧∃ r,carr x good=some (.ret r)∧r≠0):=by
  unfold carr bW
  rw[iC (by omega),iC (by omega),Aa1 hl,tP hl hs]
  by_cases h1:(2*x.Length).tmod x.Spacing=0
  ·rw[Ajp (by simpa using h1)]
   by_cases h2:1≤(2*x.Length).tdiv x.Spacing∧(2*x.Length).tdiv x.Spacing≤200
   ·rw[Ajo h2];exact .inl ⟨⟨h1,h2.1,h2.2⟩,rfl⟩
   ·rw[Ajp h2];exact .inr ⟨fun h=>h2 h.2,1,rfl,by decide⟩
  ·rw[Ajo (by simpa using h1)];exact .inr ⟨fun h=>h1 h.1,1,rfl,by decide⟩
theorem jV (m:Be) (hl:m.Lifts.length≤32):∃ r,P7 m=some r∧(r=0↔(∀ x∈m.Lifts,yD m x)∧Li Ce.ID m.Lifts):=by
  rw[U8,← mV]
  refine tests _ fun k x hk=>?_
  have hb:Hf m k x ()=(bif !decide (1≤x.ID∧x.ID≤9999)then some (Out.ret 2)else bif !decide (1≤x.Operator∧x.Operator≤8)then some (Out.ret 2)else bif !decide (10≤x.Length∧x.Length≤6000)then some (Out.ret 2)else
   bif !decide (500≤x.Speed∧x.Speed≤12000)then some (Out.ret 2)else bif !decide (1≤x.Seats∧x.Seats≤16)then some (Out.ret 2)else bif !decide (5≤x.Spacing∧x.Spacing≤1000)then some (Out.ret 2)else
   before Ce.ID m.Lifts k x (some (Out.ret 7)) (leads m x.From x.To (carr x (some (.next ()))))):=by
    simp only[Hf,Ll,R1,G0,Option.bind_some];rfl
  rw[hb]
  by_cases h1:1≤x.ID∧x.ID≤9999
  case neg=>rw[Ajp h1];exact .inr ⟨2,rfl,by decide,fun h=>h1 h.1.1.1⟩
  by_cases h2:1≤x.Operator∧x.Operator≤8
  case neg=>rw[Ajo h1,Ajp h2];exact .inr ⟨2,rfl,by decide,fun h=>h2 h.1.1.2.1⟩
  by_cases h3:10≤x.Length∧x.Length≤6000
  case neg=>rw[Ajo h1,Ajo h2,Ajp h3];exact .inr ⟨2,rfl,by decide,fun h=>h3 h.1.1.2.2.1⟩
  by_cases h4:500≤x.Speed∧x.Speed≤12000
  case neg=>rw[Ajo h1,Ajo h2,Ajo h3,Ajp h4];exact .inr ⟨2,rfl,by decide,fun h=>h4 h.1.1.2.2.2.1⟩
  by_cases h5:1≤x.Seats∧x.Seats≤16
  case neg=>rw[Ajo h1,Ajo h2,Ajo h3,Ajo h4,Ajp h5];exact .inr ⟨2,rfl,by decide,fun h=>h5 h.1.1.2.2.2.2.1⟩
  by_cases h6:5≤x.Spacing∧x.Spacing≤1000
  case neg=>rw[Ajo h1,Ajo h2,Ajo h3,Ajo h4,Ajo h5,Ajp h6];exact .inr ⟨2,rfl,by decide,fun h=>h6 h.1.1.2.2.2.2.2⟩
  rw[Ajo h1,Ajo h2,Ajo h3,Ajo h4,Ajo h5,Ajo h6]
  rcases Yo (idf:=Ce.ID) (bad:=some (Out.ret (7:Int))) (good:=leads m x.From x.To (carr x (some (.next ())))) hk (by omega)with ⟨h7,e⟩ | ⟨h7,e⟩
  case inr=>exact .inr ⟨7,e,by decide,fun h=>h7 h.2⟩
  rcases oK m x.From x.To (carr x (some (.next ())))with ⟨h8,e2⟩ | ⟨h8,r,e2,hr⟩
  case inr=>exact .inr ⟨r,e.trans e2,hr,fun h=>h8 h.1.2.1⟩
  rcases zK h3 h6 (some (.next ()))with ⟨h9,e3⟩ | ⟨h9,r,e3,hr⟩
  case inr=>exact .inr ⟨r,e.trans (e2.trans e3),hr,fun h=>h9 h.1.2.2⟩
  exact .inl ⟨e.trans (e2.trans e3),⟨⟨h1,h2,h3,h4,h5,h6⟩,h8,h9⟩,h7⟩
theorem lZ (m:Be) (hl:m.Runs.length≤64):∃ r,Rn m=some r∧(r=0↔(∀ x∈m.Runs,z6 m x)∧Li Cf.ID m.Runs):=by
  rw[U8,← mV]
  refine tests _ fun k x hk=>?_
  have hlead:∀ (good:Option (Out Unit Int)),(bif !(Cw m x.From).2 then some (.ret 8)else bif !(Cw m x.To).2 then some (.ret 8)else bif decide ((Cw m x.From).1.Alt≤(Cw m x.To).1.Alt)then some (.ret 11)else good)=leads m x.To x.From good:=by
    intro good
    unfold leads
    cases(Cw m x.From).2<;>cases (Cw m x.To).2<;>rfl
  have hb:I4 m k x ()=(bif !decide (1≤x.ID∧x.ID≤9999)then some (Out.ret 2)else bif !decide (1≤x.Operator∧x.Operator≤8)then some (Out.ret 2)else bif !decide (1≤x.Grade∧x.Grade≤4)then some (Out.ret 2)else
   bif !decide (1≤x.Zone∧x.Zone≤32)then some (Out.ret 2)else bif !decide (10≤x.Length∧x.Length≤20000)then some (Out.ret 2)else
   before Cf.ID m.Runs k x (some (Out.ret 7)) (leads m x.To x.From (some (.next ())))):=by
    simp only[I4,R1,G0,Option.bind_some,hlead];rfl
  rw[hb]
  by_cases h1:1≤x.ID∧x.ID≤9999
  case neg=>rw[Ajp h1];exact .inr ⟨2,rfl,by decide,fun h=>h1 h.1.1.1⟩
  by_cases h2:1≤x.Operator∧x.Operator≤8
  case neg=>rw[Ajo h1,Ajp h2];exact .inr ⟨2,rfl,by decide,fun h=>h2 h.1.1.2.1⟩
  by_cases h3:1≤x.Grade∧x.Grade≤4
  case neg=>rw[Ajo h1,Ajo h2,Ajp h3];exact .inr ⟨2,rfl,by decide,fun h=>h3 h.1.1.2.2.1⟩
  by_cases h4:1≤x.Zone∧x.Zone≤32
  case neg=>rw[Ajo h1,Ajo h2,Ajo h3,Ajp h4];exact .inr ⟨2,rfl,by decide,fun h=>h4 h.1.1.2.2.2.1⟩
  by_cases h5:10≤x.Length∧x.Length≤20000
  case neg=>rw[Ajo h1,Ajo h2,Ajo h3,Ajo h4,Ajp h5];exact .inr ⟨2,rfl,by decide,fun h=>h5 h.1.1.2.2.2.2⟩
  rw[Ajo h1,Ajo h2,Ajo h3,Ajo h4,Ajo h5]
  rcases Yo (idf:=Cf.ID) (bad:=some (Out.ret (7:Int))) (good:=leads m x.To x.From (some (.next ()))) hk (by omega)with ⟨h7,e⟩ | ⟨h7,e⟩
  case inr=>exact .inr ⟨7,e,by decide,fun h=>h7 h.2⟩
  rcases oK m x.To x.From (some (.next ()))with ⟨h8,e2⟩ | ⟨h8,r,e2,hr⟩
  case inr=>exact .inr ⟨r,e.trans e2,hr,fun h=>h8 h.1.2⟩
  exact .inl ⟨e.trans e2,⟨⟨h1,h2,h3,h4,h5⟩,h8⟩,h7⟩
theorem qH {α:Type} {step:Nat→α→Unit→Option (Out Unit Int)} {l:List α} (e:Int) (ok:Nat→α→Prop) (hs:∀ k x,l[k]? =some x→(step k x ()=some (.next ())∧ok k x)∨(step k x ()=some (.ret e)∧¬ ok k x)) :
    (Am step 0 l ()=some (.next ())∧∀ k x,l[k]? =some x→ok k x)∨(Am step 0 l ()=some (.ret e)∧¬ ∀ k x,l[k]? =some x→ok k x):=by
  rcases Fa (step:=step) (l:=l) (s:=()) (fun k _=>∀ i x,i<k→l[i]? =some x→ok i x) (fun r=>r=e∧∃ k x,l[k]? =some x∧¬ ok k x) (fun i x h=>by omega) (fun k x u hk hI=>by
    rcases hs k x hk with⟨h1,h2⟩ | ⟨h1,h3⟩
    ·refine .inl ⟨(),h1,fun i y hi hy=>?_⟩
     by_cases h:i=k
     ·subst h;rw[hk]at hy;obtain rfl:=Option.some.inj hy;exact h2
     ·exact hI i y (by omega) hy
    ·exact .inr ⟨e,h1,rfl,k,x,hk,h3⟩)with ⟨u,h1,h2⟩ | ⟨r,h1,h2,k,x,hk,h3⟩
  ·exact .inl ⟨h1,fun k x hk=>h2 k x (List.getElem?_eq_some_iff.1 hk).1 hk⟩
  ·subst h2;exact .inr ⟨h1,fun h=>h3 (h k x hk)⟩
theorem Aat (m:Be):(Am (Fp m) 0 m.Bases ()=some (.next ())∧∀ b∈m.Bases,(Cw m b).2=true)∨(Am (Fp m) 0 m.Bases ()=some (.ret 8)∧¬ ∀ b∈m.Bases,(Cw m b).2=true):=by
  have h:=qH (step:=Fp m) (l:=m.Bases) 8 (fun _ b=>(Cw m b).2=true) (fun k x hk=>by
    simp only[Fp,G0,Option.bind_some]
    cases(Cw m x).2<;>simp)
  have e:(∀ (k:Nat) x,m.Bases[k]? =some x→(Cw m x).2=true)↔∀ b∈m.Bases,(Cw m b).2=true:=
    ⟨fun h b hb=>by obtain⟨k,hk⟩:=List.getElem?_of_mem hb;exact h k b hk,fun h k x hk=>h x (Ajr hk)⟩
  rwa [e]at h
theorem Aas (m:Be) (hl:m.Bases.length≤64):(Am (Hg m) 0 m.Bases ()=some (.next ())∧Li (fun b:Int=>b) m.Bases)∨(Am (Hg m) 0 m.Bases ()=some (.ret 7)∧¬ Li (fun b:Int=>b) m.Bases):=by
  rw[U8]
  refine qH _ _ fun k x hk=>?_
  rcases Yo (idf:=fun b:Int=>b) (bad:=some (Out.ret (7:Int))) (good:=some (Out.next ())) hk (by omega)with ⟨h,e⟩ | ⟨h,e⟩
  ·exact .inl ⟨e,h⟩
  ·exact .inr ⟨e,h⟩
theorem tJ (m:Be) (hl:m.Bases.length≤64):(Ka (Ec m) (m.Bases.length - 1) ()=some (.next ())∧Li (fun b:Int=>b) m.Bases)∨(Ka (Ec m) (m.Bases.length - 1) ()=some (.ret 7)∧¬ Li (fun b:Int=>b) m.Bases):=by
  have hn:m.Bases.length - 1≤9223372036854775807:=by omega
  rw[Ka,if_pos hn]
  have h:=qH (step:=Ec m) (l:=List.replicate (m.Bases.length - 1) ()) 7 (fun k _=>∀ x y,m.Bases[k+1]? =some x→m.Bases[k]? =some y→y<x) (fun k u hk=>by
    have hk:=T9 hk
    have h1:m.Bases[k+1]? =some m.Bases[k+1]:=Ajq (by omega)
    have h2:m.Bases[k]? =some m.Bases[k]:=Ajq (by omega)
    have e1:Di m.Bases ((k:Int)+1)=some m.Bases[k+1]:=Ru (by omega) h1
    have e2:Di m.Bases (IntKind.i64.wrap ((k:Int)+1 - 1))=some m.Bases[k]:=Ru (by rw[wrap_i64]<;>omega) h2
    simp only[Ec,e1,e2,Option.bind_some]
    by_cases hle:m.Bases[k+1]≤m.Bases[k]
    ·rw[Ajo hle]
     exact .inr ⟨rfl,fun h=>by have:=h _ _ h1 h2;omega⟩
    ·rw[Ajp hle]
     refine .inl ⟨rfl,fun x y hx hy=>?_⟩
     rw[h1]at hx;rw[h2]at hy
     obtain rfl:=Option.some.inj hx;obtain rfl:=Option.some.inj hy
     omega)
  have e:(∀ (k:Nat) (u:Unit),(List.replicate (m.Bases.length - 1) ())[k]? =some u→∀ x y,m.Bases[k+1]? =some x→m.Bases[k]? =some y→y<x)↔Li (fun b:Int=>b) m.Bases:=by
    constructor
    ·intro h k x y hx hy
     have:=(List.getElem?_eq_some_iff.1 hx).1
     exact h k () (by rw[List.getElem?_replicate,if_pos (by omega)]) x y hx hy
    ·intro h k _ _ x y hx hy
     exact h k x y hx hy
  rwa [e]at h
theorem jW (m:Be) (hl:m.Bases.length≤64):∃ r,Tw m=some r∧Qu m=some r∧(r=0↔m.Bases≠[]∧(∀ b∈m.Bases,(Cw m b).2=true)∧Li (fun b:Int=>b) m.Bases):=by
  unfold Tw Qu
  by_cases h0:m.Bases=[]
  ·exact⟨8,by simp[h0],by simp[h0],by simp[h0]⟩
  have hlen:¬ ((m.Bases.length:Nat):Int)=0:=by
    have:=List.length_pos_iff.2 h0;omega
  rw[Ajp hlen,cond_false,cond_false]
  have e1:Am (O3 m) 0 m.Bases ()=Am (Fp m) 0 m.Bases ():=rfl
  rw[e1]
  rcases Aat m with⟨h1,h2⟩ | ⟨h1,h2⟩
  case inr=>exact ⟨8,by rw[h1];rfl,by rw[h1];rfl,by simp[h2]⟩
  rcases Aas m hl with⟨h3,h4⟩ | ⟨h3,h4⟩
  ·rcases tJ m hl with⟨h5,h6⟩ | ⟨h5,h6⟩
   ·refine⟨0,?_,?_,fun _=>⟨h0,h2,h4⟩,fun _=>rfl⟩
    ·rw[h1];show((Am (Hg m) 0 m.Bases ()).bind fun o=>o.on fun _=>some 0)=_;rw[h3];rfl
    ·rw[h1];show((Ka (Ec m) (m.Bases.length - 1) ()).bind fun o=>o.on fun _=>some 0)=_;rw[h5];rfl
   ·exact absurd h4 h6
  ·rcases tJ m hl with⟨h5,h6⟩ | ⟨h5,h6⟩
   ·exact absurd h6 h4
   ·refine⟨7,?_,?_,fun h=>by omega,fun h=>absurd h.2.2 h4⟩
    ·rw[h1];show((Am (Hg m) 0 m.Bases ()).bind fun o=>o.on fun _=>some 0)=_;rw[h3];rfl
    ·rw[h1];show((Ka (Ec m) (m.Bases.length - 1) ()).bind fun o=>o.on fun _=>some 0)=_;rw[h5];rfl
theorem wJ (m:Be) (a b:Int):Gj m a b=some (if(Cw m a).2=false then 8 else if(Cw m b).2=false then 8 else if(Cw m b).1.Alt≤(Cw m a).1.Alt then 11 else 0):=by
  unfold Gj
  simp only[G0,Option.bind_some]
  cases(Cw m a).2<;>cases (Cw m b).2<;>simp
  by_cases h:(Cw m b).1.Alt≤(Cw m a).1.Alt
  ·simp[h]
  ·simp[h]
theorem eP (m:Be) (a b:Int) (good:Option (Out Unit Int)):((Gj m a b).bind fun y=>bif decide (y≠0)then some (Out.ret y)else good)=leads m a b good:=by
  rw[wJ]
  unfold leads
  cases(Cw m a).2
  ·rfl
  cases(Cw m b).2
  ·rfl
  show(bif decide ((if(Cw m b).1.Alt≤(Cw m a).1.Alt then(11:Int)else 0)≠0)then some (Out.ret (if(Cw m b).1.Alt≤(Cw m a).1.Alt then(11:Int)else 0))else good)=bif decide ((Cw m b).1.Alt≤(Cw m a).1.Alt)then some (Out.ret 11)else good
  by_cases h:(Cw m b).1.Alt≤(Cw m a).1.Alt
  ·rw[if_pos h,Ajo h];rfl
  ·rw[if_neg h,Ajp h];rfl
theorem xT (x:Ce) (good:Option (Out Unit Int)):((Hq x).bind fun y=>bif !y then some (Out.ret 1)else good)=carr x good:=by
  unfold Hq carr
  simp only[xB]
  by_cases hs:x.Spacing=0
  ·simp[nz,hs]
  rw[iC hs,iC hs,iC hs,iC hs]
  by_cases h:(IntKind.i64.wrap (2*x.Length)).tmod x.Spacing=0
  ·have e1:decide ((IntKind.i64.wrap (2*x.Length)).tmod x.Spacing=0)=true:=Ajo h
   have e2:decide ((IntKind.i64.wrap (2*x.Length)).tmod x.Spacing≠0)=false:=Ajp (by simpa using h)
   rw[e1,e2];rfl
  ·have e1:decide ((IntKind.i64.wrap (2*x.Length)).tmod x.Spacing=0)=false:=Ajp h
   have e2:decide ((IntKind.i64.wrap (2*x.Length)).tmod x.Spacing≠0)=true:=Ajo h
   rw[e1,e2];rfl
theorem hY (m:Be):Qt m=P7 m:=by
  have h:K5 m=Hf m:=by
    funext k x u
    simp only[K5,xB,Option.bind_some,eP,xT,Hf,Ll,R1,G0]
    rfl
  unfold Qt P7
  rw[h]
theorem j0 (m:Be):Sf m=Rn m:=by
  have hlead:∀ (a b:Int) (good:Option (Out Unit Int)),(bif !(Cw m b).2 then some (.ret 8)else bif !(Cw m a).2 then some (.ret 8)else bif decide ((Cw m b).1.Alt≤(Cw m a).1.Alt)then some (.ret 11)else good)=leads m a b good:=by
    intro a b good
    unfold leads
    cases(Cw m a).2<;>cases (Cw m b).2<;>rfl
  have h:Mv m=I4 m:=by
    funext k x u
    simp only[Mv,xB,Option.bind_some,eP,I4,R1,G0,hlead]
  unfold Sf Rn
  rw[h]
theorem Wr (m:Be):∃ r,gM m=some r∧Ij m=some r∧(r=0↔Lj m):=by
  unfold gM Ij
  by_cases h1:(64:Int)<((m.Nodes.length:Nat):Int)
  ·rw[Ajo h1];exact⟨4,rfl,rfl,fun h=>by omega,fun h=>by have:=h.lenN;omega⟩
  by_cases h2:(32:Int)<((m.Lifts.length:Nat):Int)
  ·rw[Ajp h1,Ajo h2];exact⟨4,rfl,rfl,fun h=>by omega,fun h=>by have:=h.lenL;omega⟩
  by_cases h3:(64:Int)<((m.Runs.length:Nat):Int)
  ·rw[Ajp h1,Ajp h2,Ajo h3];exact⟨4,rfl,rfl,fun h=>by omega,fun h=>by have:=h.lenR;omega⟩
  by_cases h4:(64:Int)<((m.Bases.length:Nat):Int)
  ·rw[Ajp h1,Ajp h2,Ajp h3,Ajo h4];exact⟨4,rfl,rfl,fun h=>by omega,fun h=>by have:=h.lenB;omega⟩
  rw[Ajp h1,Ajp h2,Ajp h3,Ajp h4]
  obtain⟨r1,e1,i1⟩:=jU m (by omega)
  obtain⟨r2,e2,i2⟩:=jV m (by omega)
  obtain⟨r3,e3,i3⟩:=lZ m (by omega)
  obtain⟨r4,e4,e4',i4⟩:=jW m (by omega)
  simp only[cond_false,hX,hY,j0,e1,e2,e3,e4,e4',Option.bind_some]
  by_cases z1:r1=0
  case neg=>rw[Ajo z1];exact⟨r1,rfl,rfl,fun h=>absurd h z1,fun h=>absurd (i1.2 ⟨h.nodes,h.nodesR⟩) z1⟩
  by_cases z2:r2=0
  case neg=>rw[Ajp (by simpa using z1),Ajo z2];exact⟨r2,rfl,rfl,fun h=>absurd h z2,fun h=>absurd (i2.2 ⟨h.lifts,h.liftsR⟩) z2⟩
  by_cases z3:r3=0
  case neg=>rw[Ajp (by simpa using z1),Ajp (by simpa using z2),Ajo z3];exact⟨r3,rfl,rfl,fun h=>absurd h z3,fun h=>absurd (i3.2 ⟨h.runs,h.runsR⟩) z3⟩
  rw[Ajp (by simpa using z1),Ajp (by simpa using z2),Ajp (by simpa using z3)]
  refine⟨r4,rfl,rfl,fun h=>?_,fun h=>i4.2 ⟨h.some,h.bases,h.basesR⟩⟩
  have g1:=i1.1 z1;have g2:=i2.1 z2;have g3:=i3.1 z3;have g4:=i4.1 h
  exact⟨by omega,by omega,by omega,by omega,g1.1,g1.2,g2.1,g2.2,g3.1,g3.2,g4.1,g4.2.1,g4.2.2⟩
theorem qT (m:Be):∃ r,Ij m=some r∧(r=0↔Lj m):=by
  obtain⟨r,_,h1,h2⟩:=Wr m
  exact⟨r,h1,h2⟩
theorem gB (l:List Int) (n:Int):Px l n=some (decide (n∈l)):=W9 fun k x hx=>rfl
theorem put_eq {l:List Int} (h:Inc l) (hl:l.length≤100000000) (n:Int):∃ r,Pw l n=some r∧Inc r∧(∀ x,x∈r↔x∈l∨x=n):=by
  have hpw:=List.pairwise_iff_getElem.1 h
  obtain⟨s,h1,h2,h3,h4,h5,h6⟩:=Du (ρ:=List Int) (step:=O4 n) (l:=l) (s:=(false,[])) (fun k s=>Inc s.2∧(∀ y∈s.2,(y∈l.take k∨(y=n∧∀ z∈l.drop k,n<z)))∧(∀ x,x∈s.2↔x∈l.take k∨(s.1=true∧x=n))∧(s.1=false→∀ x∈l.take k,x<n)∧s.2.length≤k+1)
    ⟨List.Pairwise.nil,by simp,by simp,by simp,by simp⟩ (fun k x s hk ⟨i1,i2,i3,i4,i5⟩=>by
      obtain⟨d,o⟩:=s
      simp only at i1 i2 i3 i4 i5
      have hlt:=(List.getElem?_eq_some_iff.1 hk).1
      have hx:l[k]=x:=(List.getElem?_eq_some_iff.1 hk).2
      have tk:∀ y∈l.take k,y<x:=fun y hy=>by
        obtain⟨i,hi,rfl⟩:=List.getElem_of_mem hy
        rw[List.length_take]at hi
        rw[List.getElem_take,← hx]
        exact hpw i k (by omega) hlt (by omega)
      have dk:l.drop k=x::l.drop (k+1):=by rw[List.drop_eq_getElem_cons hlt,hx]
      have dk1:∀ z∈l.drop (k+1),x<z:=fun z hz=>by
        obtain⟨i,hi,rfl⟩:=List.getElem_of_mem hz
        rw[List.length_drop]at hi
        rw[List.getElem_drop,← hx]
        exact hpw k (k+1+i) hlt (by omega) (by omega)
      have ts:=B3 hk
      have olt:∀ y∈o,(d=true→y<x)∧(d=false→y<x∧y<n):=fun y hy=>by
        refine⟨fun _=>?_,fun hd=>?_⟩
        ·rcases i2 y hy with h | ⟨rfl,h⟩
         ·exact tk y h
         ·exact h x (by rw[dk];simp)
        ·rcases(i3 y).1 hy with h | ⟨h,_⟩
         ·exact⟨tk y h,i4 hd y h⟩
         ·rw[hd]at h;cases h
      have app:∀ {o:List Int} {z:Int},Inc o→(∀ y∈o,y<z)→Inc (o++[z]):=fun ho hz=>by
        unfold Inc
        rw[List.pairwise_append]
        refine⟨ho,by simp,fun a ha b hb=>?_⟩
        simp at hb;subst hb;exact hz a ha
      unfold O4
      simp only
      cases d with
      | true=>
        simp only[Bool.not_true,cond_false]
        rw[Cj (by omega)]
        refine⟨_,rfl,app i1 fun y hy=>(olt y hy).1 rfl,fun y hy=>?_,fun y=>?_,(fun h=>by cases h),by simp;omega⟩
        ·rw[ts]
         rcases List.mem_append.1 hy with hy | hy
         ·rcases i2 y hy with h | ⟨h,h'⟩
          ·exact .inl (List.mem_append.2 (.inl h))
          ·exact .inr ⟨h,fun z hz=>h' z (by rw[dk];exact List.mem_cons_of_mem _ hz)⟩
         ·exact .inl (List.mem_append.2 (.inr hy))
        ·simp only[ts,List.mem_append,i3,List.mem_singleton]
         constructor
         ·rintro((h | h) | h)
          ·exact .inl (.inl h)
          ·exact .inr h
          ·exact .inl (.inr h)
         ·rintro((h | h) | h)
          ·exact .inl (.inl h)
          ·exact .inr h
          ·exact .inl (.inr h)
      | false=>
        simp only[Bool.not_false,cond_true]
        have hok:o.length≤k:=by
          have:=Jp i1.nodup (b:=l.take k) fun z hz=>by
            rcases(i3 z).1 hz with h | ⟨h,_⟩
            ·exact h
            ·cases h
          rw[List.length_take]at this;omega
        by_cases c1:n≤x
        ·rw[Ajo c1,cond_true]
         by_cases c2:n<x
         ·rw[Ajo c2,cond_true,Cj (by omega),Cj (by omega)]
          refine⟨_,rfl,app (app i1 fun y hy=>((olt y hy).2 rfl).2) fun y hy=>?_,fun y hy=>?_,fun y=>?_,(fun h=>by cases h),by simp;omega⟩
          ·rcases List.mem_append.1 hy with hy | hy
           ·exact((olt y hy).2 rfl).1
           ·simp at hy;subst hy;exact c2
          ·rw[ts]
           simp only[List.mem_append,List.mem_singleton]at hy ⊢
           rcases hy with(hy | hy) | hy
           ·rcases i2 y hy with h | ⟨h,h'⟩
            ·exact .inl (.inl h)
            ·exact .inr ⟨h,fun z hz=>h' z (by rw[dk];exact List.mem_cons_of_mem _ hz)⟩
           ·exact .inr ⟨hy,fun z hz=>by have:=dk1 z hz;omega⟩
           ·exact .inl (.inr hy)
          ·simp only[ts,List.mem_append,i3,List.mem_singleton]
           constructor
           ·rintro(((h | ⟨h,_⟩) | h) | h)
            ·exact .inl (.inl h)
            ·cases h
            ·exact .inr ⟨trivial,h⟩
            ·exact .inl (.inr h)
           ·rintro((h | h) | ⟨_,h⟩)
            ·exact .inl (.inl (.inl h))
            ·exact .inr h
            ·exact .inl (.inr h)
         ·have e:x=n:=by omega
          rw[Ajp c2,cond_false,Cj (by omega)]
          refine⟨_,rfl,app i1 fun y hy=>((olt y hy).2 rfl).1,fun y hy=>?_,fun y=>?_,(fun h=>by cases h),by simp;omega⟩
          ·rw[ts]
           simp only[List.mem_append,List.mem_singleton]at hy ⊢
           rcases hy with hy | hy
           ·rcases i2 y hy with h | ⟨h,h'⟩
            ·exact .inl (.inl h)
            ·exact .inr ⟨h,fun z hz=>h' z (by rw[dk];exact List.mem_cons_of_mem _ hz)⟩
           ·exact .inl (.inr hy)
          ·simp only[ts,List.mem_append,i3,List.mem_singleton]
           constructor
           ·rintro((h | ⟨h,_⟩) | h)
            ·exact .inl (.inl h)
            ·cases h
            ·exact .inl (.inr h)
           ·rintro((h | h) | ⟨_,h⟩)
            ·exact .inl (.inl h)
            ·exact .inr h
            ·exact .inr (by rw[e];exact h)
        ·rw[Ajp c1,cond_false,Cj (by omega)]
         refine⟨_,rfl,app i1 fun y hy=>((olt y hy).2 rfl).1,fun y hy=>?_,fun y=>?_,fun _ y hy=>?_,by simp;omega⟩
         ·rw[ts]
          simp only[List.mem_append,List.mem_singleton]at hy ⊢
          rcases hy with hy | hy
          ·rcases i2 y hy with h | ⟨h,h'⟩
           ·exact .inl (.inl h)
           ·exact .inr ⟨h,fun z hz=>h' z (by rw[dk];exact List.mem_cons_of_mem _ hz)⟩
          ·exact .inl (.inr hy)
         ·simp only[ts,List.mem_append,i3,List.mem_singleton]
          constructor
          ·rintro((h | ⟨h,_⟩) | h)
           ·exact .inl (.inl h)
           ·cases h
           ·exact .inl (.inr h)
          ·rintro((h | h) | ⟨h,_⟩)
           ·exact .inl (.inl h)
           ·exact .inr h
           ·cases h
         ·rw[ts]at hy
          rcases List.mem_append.1 hy with hy | hy
          ·exact i4 rfl y hy
          ·simp at hy;subst hy;omega)
  rw[List.take_length]at h4 h5
  unfold Pw
  rw[h1]
  show ∃ r,(bif (!s.1)then _ else _)=some r∧_
  cases hd:s.1 with
  | true=>
    refine⟨s.2,rfl,h2,fun x=>?_⟩
    rw[h4,hd];simp
  | false=>
    rw[Bool.not_false,cond_true,Cj (by omega)]
    refine⟨_,rfl,?_,fun x=>?_⟩
    ·unfold Inc
     rw[List.pairwise_append]
     refine⟨h2,by simp,fun a ha b hb=>?_⟩
     simp at hb;subst hb
     rcases(h4 a).1 ha with h | ⟨h,_⟩
     ·exact h5 hd a h
     ·rw[hd]at h;cases h
    ·simp only[List.mem_append,List.mem_singleton,h4,hd];simp
theorem Aae {l r:List Int} {n:Int} (h:Inc l) (hr:Inc r) (hm:∀ x,x∈r↔x∈l∨x=n) (hn:n∈l):r=l:=
  Rt hr h fun x=>by rw[hm];exact⟨fun h=>h.elim id fun h=>h ▸ hn,.inl⟩
theorem yL {l r:List Int} {n:Int} (h:Inc l) (hr:Inc r) (hm:∀ x,x∈r↔x∈l∨x=n) (hn:n ∉ l):r.length=l.length+1:=by
  have h1:(n::l).Nodup:=List.nodup_cons.2 ⟨hn,h.nodup⟩
  have a:=Jp h1 (b:=r) fun x hx=>by rw[hm];rcases List.mem_cons.1 hx with h | h;exact .inr h;exact .inl h
  have b:=Jp hr.nodup (b:=n::l) fun x hx=>by rcases(hm x).1 hx with h | h;exact List.mem_cons_of_mem _ h;exact h ▸ List.mem_cons_self
  simp at a b;omega
theorem nW {l:List Au} {f out:List Int} (h:Inc out) (hr:∀ n∈out,Rch l (·∈f) n) (hC:(f++l.map (·.To)).length≤1000000) :
    ∃ s,Am Hr 0 l out=some (.next s)∧Inc s∧(∀ n∈s,Rch l (·∈f) n)∧(∀ n∈out,n∈s)∧((s=out∧∀ e∈l,e.From∈out→e.To∈out)∨out.length<s.length):=by
  obtain⟨s,h1,h2,h3,h4,h5⟩:=Du (ρ:=Out (List Int×Int) (List Int)) (step:=Hr) (l:=l) (s:=out) (fun k s=>Inc s∧(∀ n∈s,Rch l (·∈f) n)∧(∀ n∈out,n∈s)∧((s=out∧∀ e∈l.take k,e.From∈out→e.To∈out)∨out.length<s.length))
    ⟨h,hr,fun n h=>h,.inl ⟨rfl,by simp⟩⟩ (fun k e s hk ⟨i1,i2,i3,i4⟩=>by
      have he:=Ajr hk
      unfold Hr
      rw[gB,Option.bind_some]
      have hlen:s.length≤1000000:=Nat.le_trans (Jp i1.nodup fun n hn=>R6 (i2 n hn)) hC
      by_cases hf:e.From∈s
      ·obtain⟨r,g1,g2,g3⟩:=put_eq i1 (by omega) e.To
       rw[Ajo hf,cond_true,g1]
       refine⟨r,rfl,g2,fun n hn=>?_,fun n hn=>(g3 n).2 (.inl (i3 n hn)),?_⟩
       ·rcases(g3 n).1 hn with h | rfl
        ·exact i2 n h
        ·exact .step he (i2 _ hf)
       ·by_cases ht:e.To∈s
        ·obtain rfl:=Aae i1 g2 g3 ht
         rcases i4 with⟨rfl,h⟩ | h
         ·refine .inl ⟨rfl,fun x hx=>?_⟩
          rw[B3 hk]at hx
          rcases List.mem_append.1 hx with hx | hx
          ·exact h x hx
          ·simp at hx;subst hx;exact fun _=>ht
         ·exact .inr h
        ·have:=yL i1 g2 g3 ht
         refine .inr ?_
         rcases i4 with⟨rfl,_⟩ | h<;>omega
      ·rw[Ajp hf,cond_false]
       refine⟨s,rfl,i1,i2,i3,?_⟩
       rcases i4 with⟨rfl,h⟩ | h
       ·refine .inl ⟨rfl,fun x hx=>?_⟩
        rw[B3 hk]at hx
        rcases List.mem_append.1 hx with hx | hx
        ·exact h x hx
        ·simp at hx;subst hx;exact fun h=>absurd h hf
       ·exact .inr h)
  rw[List.take_length]at h5
  exact⟨s,h1,h2,h3,h4,h5⟩
theorem kN {l:List Au} {f:List Int} (hl:l.length≤100000) (hf:f.length≤100000):∃ r,La l f=some r∧Qg l f r:=by
  have hC:(f++l.map (·.To)).length≤1000000:=by simp;omega
  obtain⟨s,h1,h2,h3⟩:=Du (ρ:=List Int) (step:=K8) (l:=f) (s:=[]) (fun k s=>Inc s∧∀ x,x∈s↔x∈f.take k) ⟨List.Pairwise.nil,by simp⟩ (fun k x s hk ⟨i1,i2⟩=>by
    have hlen:s.length≤100000:=Nat.le_trans (Jp i1.nodup (b:=f) fun n hn=>List.mem_of_mem_take ((i2 n).1 hn)) hf
    obtain⟨r,g1,g2,g3⟩:=put_eq i1 (by omega) x
    refine⟨r,by unfold K8;rw[g1];rfl,g2,fun y=>?_⟩
    rw[g3,i2,B3 hk];simp)
  rw[List.take_length]at h3
  have s1:∀ n∈s,Rch l (·∈f) n:=fun n hn=>.base ((h3 n).1 hn)
  unfold La
  rw[h1]
  show ∃ r,K7 l s=some r∧_
  unfold K7
  have hlen:∀ o:List Int,Inc o→(∀ n∈o,Rch l (·∈f) n)→o.length≤1000000:=fun o ho hr=>Nat.le_trans (Jp ho.nodup fun n hn=>R6 (hr n hn)) hC
  obtain⟨r,g1,g2⟩:=Ik (step:=K9 l) (fun st=>Inc st.1∧(∀ n∈st.1,Rch l (·∈f) n)∧(∀ n∈f,n∈st.1)∧st.2≤(st.1.length:Int)∧(st.2=(st.1.length:Int)→∀ e∈l,e.From∈st.1→e.To∈st.1)) (fun r=>Qg l f r)
    (fun st=>2*(1000000 - st.1.length)+if st.2<(st.1.length:Int)then 1 else 0) (fun st ⟨i1,i2,i3,i4,i5⟩=>by
      obtain⟨o,w⟩:=st
      simp only at i1 i2 i3 i4 i5 ⊢
      unfold K9
      simp only
      by_cases hw:w<(o.length:Int)
      ·obtain⟨s,e1,e2,e3,e4,e5⟩:=nW i1 i2 hC
       rw[Ajo hw,cond_true,e1]
       have:=hlen s e2 e3
       have:=hlen o i1 i2
       refine .inl ⟨_,rfl,⟨e2,e3,fun n hn=>e4 n (i3 n hn),?_,fun hh=>?_⟩,?_⟩
       ·simp only
        rcases e5 with⟨rfl,_⟩ | h<;>omega
       ·rcases e5 with⟨rfl,h⟩ | h
        ·exact h
        ·simp only at hh;omega
       ·simp only
        rw[if_pos hw]
        rcases e5 with⟨rfl,_⟩ | h
        ·rw[if_neg (by omega)];omega
        ·rw[if_pos (by omega)];omega
      ·rw[Ajp hw,cond_false]
       exact .inr ⟨o,rfl,.of_closed i1 i2 i3 (i5 (by omega))⟩) fuel (s, -1) ⟨h2,s1,fun n hn=>(h3 n).2 hn,by simp only;omega,fun h=>by simp only at h;omega⟩ (by show _<1099511627776;simp only;split<;>omega)
  rw[g1]
  exact⟨r,rfl,g2⟩
theorem qY {l:List Au} (hl:l.length≤100000):Lx l=some (turn l):=by
  unfold Lx
  rw[C0 (step:=M8) (fun _=>true) aE (by omega) (fun k x s hx=>rfl),List.filter_eq_self.2 (fun a _=>rfl)];rfl
theorem wN {l:List Au} {f:List Int} (hl:l.length≤100000) (hf:f.length≤100000):∃ r,Si l f=some r∧Qg (turn l) f r:=by
  obtain⟨r,h1,h2⟩:=kN (l:=turn l) (f:=f) (by simpa[turn]using hl) hf
  refine⟨r,?_,h2⟩
  unfold Si
  rw[qY hl,Option.bind_some,h1];rfl
theorem contains_eq (l:List Int) (v:Int):Bt l v=some (decide (v∈l)):=by
  unfold Bt F9
  rcases Fa (step:=Dv v) (l:=l) (s:=()) (fun k _=>v ∉ l.take k) (fun r=>v∈l∧0≤r) (by simp) (fun k x u hk hI=>by
    unfold Dv
    by_cases e:v=x
    ·rw[Ajo e];exact .inr ⟨_,rfl,e ▸ Ajr hk,by omega⟩
    ·rw[Ajp e]
     refine .inl ⟨(),rfl,?_⟩
     rw[B3 hk];simp[hI,e])with ⟨u,h1,h2⟩ | ⟨r,h1,h2,h3⟩
  ·rw[List.take_length]at h2
   rw[h1,Ajp h2];rfl
  ·rw[h1,Ajo h2]
   show some (decide (0≤r))=some true
   rw[Ajo h3]
def yF (x:Cf):Au:=⟨x.ID,x.From,x.To,x.Length⟩
def sW (x:Ce):Au:=⟨x.ID,x.From,x.To,x.Length⟩
def Ss (m:Be) (runs:List Int):List Au:=(m.Runs.filter fun x=>decide (x.ID∈runs)).map yF
def upE (m:Be) (lifts:List Int):List Au:=(m.Lifts.filter fun x=>decide (x.ID∈lifts)).map sW
theorem uK {m:Be} {runs:List Int} {e:Au}:e∈Ss m runs↔∃ x∈m.Runs,x.ID∈runs∧yF x=e:=by
  unfold Ss
  simp only[List.mem_map,List.mem_filter,decide_eq_true_eq,and_assoc]
theorem mF {m:Be} {lifts:List Int} {e:Au}:e∈upE m lifts↔∃ x∈m.Lifts,x.ID∈lifts∧sW x=e:=by
  unfold upE
  simp only[List.mem_map,List.mem_filter,decide_eq_true_eq,and_assoc]
theorem gC {m:Be} (M:Lj m) {n:Int} (h:(Cw m n).2=true):1≤n∧n≤9999:=by
  obtain⟨h1,h2⟩:=Zu h
  have:=(M.nodes _ h1).1
  rw[h2]at this;exact this
theorem jG {m:Be} (M:Lj m) {runs:List Int} {e:Au} (h:e∈Ss m runs):(Cw m e.From).2=true∧(Cw m e.To).2=true∧10≤e.Cost∧e.Cost≤20000:=by
  obtain⟨x,hx,_,rfl⟩:=uK.1 h
  have:=M.runs x hx
  exact⟨this.2.2.1,this.2.1,this.1.2.2.2.2.1,this.1.2.2.2.2.2⟩
theorem vW {m:Be} (M:Lj m) {lifts:List Int} {e:Au} (h:e∈upE m lifts):(Cw m e.From).2=true∧(Cw m e.To).2=true:=by
  obtain⟨x,hx,_,rfl⟩:=mF.1 h
  have:=M.lifts x hx
  exact⟨this.2.1.1,this.2.1.2.1⟩
theorem bH {m:Be} (M:Lj m) (runs:List Int):(Ss m runs).length≤64:=by
  unfold Ss;rw[List.length_map];exact Nat.le_trans (List.length_filter_le _ _) M.lenR
theorem Aab {m:Be} (M:Lj m) (lifts:List Int):(upE m lifts).length≤32:=by
  unfold upE;rw[List.length_map];exact Nat.le_trans (List.length_filter_le _ _) M.lenL
theorem tD {m:Be} (M:Lj m) (runs:List Int):Il m runs=some (Ss m runs):=by
  have:=M.lenR
  unfold Il
  rw[C0 (fun x=>decide (x.ID∈runs)) yF (by omega) (fun k x s hx=>by unfold M4;rw[contains_eq];rfl)];rfl
theorem nT {m:Be} (M:Lj m) (runs:List Int):Nq m runs=some (Ss m runs):=by
  have:=M.lenR
  unfold Nq
  rw[C0 (fun x=>decide (x.ID∈runs)) yF (by omega) (fun k x s hx=>by unfold Qd;rw[gB];rfl)];rfl
theorem Aa2 {m:Be} (M:Lj m) (lifts:List Int):Pr m lifts=some (upE m lifts):=by
  have:=M.lenL
  unfold Pr
  rw[C0 (fun x=>decide (x.ID∈lifts)) sW (by omega) (fun k x s hx=>by unfold P8;rw[contains_eq];rfl)];rfl
def J0 (a b:List Au):Prop:=a.map (fun e=>(e.From,e.To))=b.map (fun e=>(e.From,e.To))
theorem J0.rch {a b:List Au} (h:J0 a b) {S:Int→Prop} {n:Int} (hr:Rch a S n):Rch b S n:=by
  induction hr with
  | base h=>exact .base h
  | @step e he _ ih=>
    have:(e.From,e.To)∈a.map fun e=>(e.From,e.To):=List.mem_map.2 ⟨e,he,rfl⟩
    rw[h]at this
    obtain⟨e',he',hh⟩:=List.mem_map.1 this
    rw[Prod.mk.injEq]at hh
    rw[← hh.2]
    exact .step he' (by rw[hh.1];exact ih)
theorem J0.turn {a b:List Au} (h:J0 a b):J0 (turn a) (turn b):=by
  unfold J0 Proofs.YtjopghiagoidgaaGreat.turn at *
  rw[List.map_map,List.map_map]
  have e:∀ l:List Au,l.map ((fun e:Au=>(e.From,e.To))∘aE)=(l.map fun e=>(e.From,e.To)).map Prod.swap:=fun l=>by rw[List.map_map];rfl
  rw[e,e,h]
theorem dM (l s:List Au) (hl:s.length+l.length≤100000):∃ s',Am Lk 0 l s=some (.next s')∧J0 s' (s++l):=by
  obtain⟨s',h1,h2⟩:=Du (ρ:=Out (List Au) (List Au)) (step:=Lk) (l:=l) (s:=s) (fun k t=>J0 t (s++l.take k)) (by simp[J0]) (fun k e t hk hI=>by
    have hlt:=(List.getElem?_eq_some_iff.1 hk).1
    have hlen:=congrArg List.length hI
    simp at hlen
    refine⟨_,by unfold Lk;rw[Cj (by omega)],?_⟩
    unfold J0 at *
    rw[B3 hk,← List.append_assoc,List.map_append,List.map_append,hI];rfl)
  rw[List.take_length]at h2
  exact⟨s',h1,h2⟩
theorem J0.len {a b:List Au} (h:J0 a b):a.length=b.length:=by
  have:=congrArg List.length h;simpa using this
theorem Abj {a b:List Au} (ha:a.length≤1000) (hb:b.length≤1000):∃ r,Nw [a,b]=some r∧J0 r (a++b):=by
  obtain⟨s1,h1,h2⟩:=dM a [] (by simp;omega)
  have l1:=h2.len
  simp at l1
  obtain⟨s2,h3,h4⟩:=dM b s1 (by omega)
  refine⟨s2,?_,?_⟩
  ·unfold Nw Am Og
   rw[h1]
   simp only[Option.bind_some,Out.on,Out.cont,Am,h3]
  ·unfold J0 at *
   rw[h4,List.map_append,h2,List.nil_append,List.map_append]
theorem Abk {a:List Au} (ha:a.length≤1000):∃ r,Nw [a]=some r∧J0 r a:=by
  obtain⟨s1,h1,h2⟩:=dM a [] (by simp;omega)
  refine⟨s1,?_,by simpa using h2⟩
  unfold Nw Am Og
  rw[h1];rfl
def RR (m:Be) (lifts runs:List Int) (n:Int):Prop:=Rch (upE m lifts++Ss m runs) (·∈m.Bases) n
def HH (m:Be) (runs:List Int) (n:Int):Prop:=Rch (turn (Ss m runs)) (·∈m.Bases) n
structure V6 (P:Int→Prop) (r:List Int):Prop where
  inc:Inc r
  mem:∀ n,n∈r↔P n
theorem V6.unique {P:Int→Prop} {r r':List Int} (h:V6 P r) (h':V6 P r'):r=r':=Rt h.inc h'.inc fun n=>by rw[h.mem,h'.mem]
theorem tI {m:Be} (M:Lj m):∀ n∈m.Bases,I64 n:=fun n hn=>by have:=gC M (M.bases n hn);exact⟨by omega,by omega⟩
theorem l8 {m:Be} (M:Lj m) (lifts runs:List Int):∃ r,He m lifts runs=some r∧V6 (RR m lifts runs) r:=by
  have hb:=M.lenB
  have h1:=Aab M lifts
  have h2:=bH M runs
  obtain⟨j,e1,e2⟩:=Abj (a:=upE m lifts) (b:=Ss m runs) (by omega) (by omega)
  have hl:=e2.len
  rw[List.length_append]at hl
  obtain⟨r,e3,e4⟩:=nR (l:=j) (f:=m.Bases) (by omega) (by omega) (fun e he=>by
    have:(e.From,e.To)∈j.map fun e=>(e.From,e.To):=List.mem_map.2 ⟨e,he,rfl⟩
    rw[e2]at this
    obtain⟨e',he',hh⟩:=List.mem_map.1 this
    rw[Prod.mk.injEq]at hh
    rw[← hh.2]
    rcases List.mem_append.1 he' with he' | he'
    ·have:=gC M (vW M he').2;exact⟨by omega,by omega⟩
    ·have:=gC M (jG M he').2.1;exact⟨by omega,by omega⟩) (tI M)
  refine⟨r,?_,e4.inc,fun n=>?_⟩
  ·unfold He
   rw[Aa2 M,Option.bind_some,tD M,Option.bind_some,e1,Option.bind_some,e3];rfl
  ·rw[e4.mem];exact⟨fun h=>e2.rch h,fun h=>J0.rch e2.symm h⟩
theorem jT {m:Be} (M:Lj m) (lifts runs:List Int):∃ r,Je m lifts runs=some r∧V6 (RR m lifts runs) r:=by
  have hb:=M.lenB
  have hL:=M.lenL
  have h2:=bH M runs
  obtain⟨s,g1,g2⟩:=Du (ρ:=List Int) (step:=F1 lifts) (l:=m.Lifts) (s:=Ss m runs) (fun k s=>s=Ss m runs++((m.Lifts.take k).filter fun x=>decide (x.ID∈lifts)).map fun x=>Au.mk 0 x.From x.To 0) (by simp) (fun k x s hk hI=>by
    have hlt:=(List.getElem?_eq_some_iff.1 hk).1
    have hlen:s.length≤1000:=by
      rw[hI,List.length_append,List.length_map]
      have:=List.length_filter_le (fun x:Ce=>decide (x.ID∈lifts)) (m.Lifts.take k)
      rw[List.length_take]at this;omega
    unfold F1
    rw[gB,Option.bind_some]
    by_cases hx:x.ID∈lifts
    ·rw[Ajo hx,cond_true,Cj (by omega)]
     refine⟨_,rfl,?_⟩
     rw[B3 hk,List.filter_append,List.filter_cons_of_pos (by simpa using hx),List.filter_nil,List.map_append,hI];simp
    ·rw[Ajp hx,cond_false]
     refine⟨_,rfl,?_⟩
     rw[B3 hk,List.filter_append,List.filter_cons_of_neg (by simpa using hx),List.filter_nil,List.append_nil,hI])
  rw[List.take_length]at g2
  have hlen:s.length≤1000:=by
    rw[g2,List.length_append,List.length_map]
    have:=List.length_filter_le (fun x:Ce=>decide (x.ID∈lifts)) m.Lifts
    omega
  obtain⟨r,e3,e4⟩:=kN (l:=s) (f:=m.Bases) (by omega) (by omega)
  refine⟨r,?_,e4.inc,fun n=>?_⟩
  ·unfold Je
   rw[nT M,Option.bind_some,Cj (by omega),g1]
   show(La s m.Bases).bind _=_
   rw[e3];rfl
  ·rw[e4.mem]
   constructor
   ·intro h
    refine J0.rch (a:=upE m lifts++Ss m runs) rfl ?_
    induction h with
    | base h=>exact .base h
    | step he _ ih=>
      rw[g2]at he
      rcases List.mem_append.1 he with he | he
      ·exact .step (List.mem_append.2 (.inr he)) ih
      ·obtain⟨x,hx,rfl⟩:=List.mem_map.1 he
       have hx:=List.mem_filter.1 hx
       exact Rch.step (e:=sW x) (List.mem_append.2 (.inl (mF.2 ⟨x,hx.1,by simpa using hx.2,rfl⟩))) ih
   ·intro h
    unfold RR at h
    induction h with
    | base h=>exact .base h
    | step he _ ih=>
      rcases List.mem_append.1 he with he | he
      ·obtain⟨x,hx,hi,rfl⟩:=mF.1 he
       refine Rch.step (e:=Au.mk 0 x.From x.To 0) ?_ ih
       rw[g2]
       exact List.mem_append.2 (.inr (List.mem_map.2 ⟨x,List.mem_filter.2 ⟨hx,by simpa using hi⟩,rfl⟩))
      ·exact Rch.step (by rw[g2];exact List.mem_append.2 (.inl he)) ih
theorem yY {m:Be} (M:Lj m) (runs:List Int):∃ r,R2 m runs=some r∧V6 (HH m runs) r:=by
  have hb:=M.lenB
  have h2:=bH M runs
  obtain⟨j,e1,e2⟩:=Abk (a:=Ss m runs) (by omega)
  have hl:=e2.len
  obtain⟨r,e3,e4⟩:=nR (l:=turn j) (f:=m.Bases) (by simp[turn];omega) (by omega) (fun e he=>by
    have he:=wW.1 he
    have:((aE e).From,(aE e).To)∈j.map fun e=>(e.From,e.To):=List.mem_map.2 ⟨_,he,rfl⟩
    rw[e2]at this
    obtain⟨e',he',hh⟩:=List.mem_map.1 this
    rw[Prod.mk.injEq]at hh
    have:e.To=e'.From:=hh.1.symm
    rw[this]
    have:=gC M (jG M he').1;exact⟨by omega,by omega⟩) (tI M)
  refine⟨r,?_,e4.inc,fun n=>?_⟩
  ·unfold R2
   rw[tD M,Option.bind_some,e1,Option.bind_some,back_eq (by omega),e3];rfl
  ·rw[e4.mem];exact⟨fun h=>e2.turn.rch h,fun h=>J0.rch e2.turn.symm h⟩
theorem nK {m:Be} (M:Lj m) (runs:List Int):∃ r,Nr m runs=some r∧V6 (HH m runs) r:=by
  have hb:=M.lenB
  have h2:=bH M runs
  obtain⟨r,e3,e4⟩:=wN (l:=Ss m runs) (f:=m.Bases) (by omega) (by omega)
  refine⟨r,?_,e4.inc,e4.mem⟩
  unfold Nr
  rw[nT M,Option.bind_some,e3];rfl
theorem qQ {α:Type} {idf:α→Int} {l:List α} (h:Li idf l) {a b:α} (ha:a∈l) (hb:b∈l) (e:idf a=idf b):a=b:=by
  have key:∀ (d i:Nat) (hj:i+d+1<l.length),idf (l[i]'(by omega))<idf l[i+d+1]:=by
    intro d
    induction d with
    | zero=>
      intro i hj
      exact h i _ _ (Ajq (by omega)) (Ajq (by omega))
    | succ d ih=>
      intro i hj
      have h1:=ih i (by omega)
      have h2:=h (i+d+1) l[i+(d+1)+1] l[i+d+1] (by rw[Ajq (by omega)];rfl) (Ajq (by omega))
      omega
  obtain⟨i,hi,rfl⟩:=List.getElem_of_mem ha
  obtain⟨j,hj,rfl⟩:=List.getElem_of_mem hb
  rcases Nat.lt_trichotomy i j with h1 | h1 | h1
  ·have:=key (j - i - 1) i (by omega)
   simp only[show i+(j - i - 1)+1=j by omega]at this;omega
  ·subst h1;rfl
  ·have:=key (i - j - 1) j (by omega)
   simp only[show j+(i - j - 1)+1=i by omega]at this;omega
end Go.Proofs.YtjopghiagoidgaaGreat
namespace Go.Proofs.YtjopghiagoidgaaGreat.W46
open Go Go.Ab
set_option linter.unusedSimpArgs false
set_option linter.unusedVariables false
theorem tQ {a:Int} (h0:0≤a) (h1:a≤4611686018427387904):IntKind.i64.wrap (gQ (IntKind.u64.wrap (IntKind.i64.wrap a)) 1)=a / 2:=by
  have e1:IntKind.i64.wrap a=a:=by rw[wrap_i64]<;>omega
  have e2:IntKind.u64.wrap a=a:=by rw[IntKind.wrap_u64];omega
  have e3:gQ a 1=a / 2:=by unfold gQ;simp
  rw[e1,e2,e3,wrap_i64]<;>omega
theorem yU (x y:Int):cmp_Less_int x y=some (decide (x<y)):=rfl
theorem aZ {xs:List Int} (hi:Inc xs) {i j:Nat} {x y:Int} (hx:xs[i]? =some x) (hy:xs[j]? =some y) (h:i<j):x<y:=by
  obtain⟨h1,rfl⟩:=List.getElem?_eq_some_iff.1 hx
  obtain⟨h2,rfl⟩:=List.getElem?_eq_some_iff.1 hy
  exact(List.pairwise_iff_getElem.1 hi) i j h1 h2 h
theorem tY {xs:List Int} (hi:Inc xs) (hl:xs.length≤549755813888) (t:Int):∃ i,Dg xs t=some (i,decide (t∈xs)):=by
  obtain⟨r,h1,h2⟩:=Ik (step:=C8 xs t)
    (fun s=>0≤s.1∧s.1≤s.2∧s.2≤xs.length∧(∀ (k:Nat) x,(k:Int)<s.1→xs[k]? =some x→x<t)∧(∀ (k:Nat) x,s.2≤(k:Int)→xs[k]? =some x→t≤x))
    (fun r=>r.2=decide (t∈xs)) (fun s=>(s.2 - s.1).toNat) (by
      rintro⟨i,j⟩ ⟨h0,h1,h2,h3,h4⟩
      dsimp only at h0 h1 h2 h3 h4
      unfold C8
      dsimp only
      by_cases hij:i<j
      ·rw[Ajo hij,cond_true,tQ (by omega) (by omega)]
       have hm:((i+j) / 2).toNat<xs.length:=by omega
       have hmm:(i+j) / 2=(((i+j) / 2).toNat:Int):=by omega
       have hx:xs[((i+j) / 2).toNat]? =some xs[((i+j) / 2).toNat]:=Ajq hm
       generalize xs[((i+j) / 2).toNat]=x at hx
       rw[Ru hmm hx,Option.bind_some,yU,Option.bind_some]
       by_cases hlt:x<t
       ·rw[Ajo hlt,cond_true,wrap_i64 (by omega) (by omega)]
        refine .inl ⟨_,rfl,⟨by dsimp only;omega,by dsimp only;omega,h2,fun k y hk hy=>?_,h4⟩,by dsimp only;omega⟩
        dsimp only at hk
        by_cases e:k=((i+j) / 2).toNat
        ·subst e;rw[hx]at hy;obtain rfl:=Option.some.inj hy;exact hlt
        ·have:=aZ hi hy hx (by omega);omega
       ·rw[Ajp hlt,cond_false]
        refine .inl ⟨_,rfl,⟨h0,by dsimp only;omega,by dsimp only;omega,h3,fun k y hk hy=>?_⟩,by dsimp only;omega⟩
        dsimp only at hk
        by_cases e:k=((i+j) / 2).toNat
        ·subst e;rw[hx]at hy;obtain rfl:=Option.some.inj hy;omega
        ·have:=aZ hi hx hy (by omega);omega
      ·rw[Ajp hij,cond_false]
       have e:j=i:=by omega
       subst e
       right
       by_cases hlen:j<(xs.length:Int)
       ·rw[Ajo hlen,cond_true]
        have hjj:j=(j.toNat:Int):=by omega
        have hx:xs[j.toNat]? =some xs[j.toNat]:=Ajq (by omega)
        generalize xs[j.toNat]=x at hx
        rw[Ru hjj hx,Option.bind_some]
        by_cases hxt:x=t
        ·rw[Ajo hxt,cond_true]
         subst hxt
         exact⟨_,rfl,(Ajo (Ajr hx)).symm⟩
        ·rw[Ajp hxt,cond_false]
         refine⟨_,rfl,(Ajp fun hm=>?_).symm⟩
         obtain⟨k,hk⟩:=List.mem_iff_getElem?.1 hm
         by_cases h5:(k:Int)<j
         ·have:=h3 k t h5 hk;omega
         ·have h6:=h4 j.toNat x (by omega) hx
          by_cases e:k=j.toNat
          ·subst e;rw[hx]at hk;exact hxt (Option.some.inj hk)
          ·have:=aZ hi hx hk (by omega);omega
       ·rw[Ajp hlen,cond_false]
        refine⟨_,rfl,(Ajp fun hm=>?_).symm⟩
        obtain⟨k,hk⟩:=List.mem_iff_getElem?.1 hm
        have:=(List.getElem?_eq_some_iff.1 hk).1
        have:=h3 k t (by omega) hk;omega)
    fuel (0,(xs.length:Int)) ⟨by simp,by simp,by simp,fun k x hk _=>by simp at hk;omega,fun k x hk hx=>by have:=(List.getElem?_eq_some_iff.1 hx).1;simp at hk;omega⟩ (by unfold fuel;simp;omega)
  refine⟨r.1,?_⟩
  unfold Dg
  rw[h1,← h2];rfl
theorem tU {w:Ba} (hi:Inc w.Runs) (hl:w.Runs.length≤549755813888) (n:Int):Oe w n=some (decide (n∈w.Runs)):=by
  obtain⟨i,h⟩:=tY hi hl n
  unfold Oe;rw[h];rfl
structure jP (l:List Int):Prop where
  ne:l≠[]
  inc:Inc l
  lo:∀ x∈l,1≤x
  hi:∀ x∈l,x≤9999
theorem rJ {l:List Int} (h:∀ (k:Nat) (x y:Int),l[k+1]? =some x→l[k]? =some y→y<x):Inc l:=by
  unfold Inc
  rw[List.pairwise_iff_getElem]
  have key:∀ (d i:Nat) (hj:i+d+1<l.length),l[i]'(by omega)<l[i+d+1]:=by
    intro d
    induction d with
    | zero=>
      intro i hj
      exact h i _ _ (Ajq (by omega)) (Ajq (by omega))
    | succ d ih=>
      intro i hj
      have h1:=ih i (by omega)
      have h2:=h (i+d+1) l[i+(d+1)+1] l[i+d+1] (by rw[Ajq (by omega)];rfl) (Ajq (by omega))
      omega
  intro i j hi hj hlt
  have:=key (j - i - 1) i (by omega)
  simpa[show i+(j - i - 1)+1=j by omega]using this
theorem sP {l:List Int} (hl:l.length≤9223372036854775807):∃ b,Pt l=some b∧(b=true↔jP l):=by
  unfold Pt
  rcases Fa (step:=Mt l) (l:=l) (s:=()) (fun k _=>∀ (i:Nat) x,i<k→l[i]? =some x→1≤x∧x≤9999∧∀ y,0<i→l[i - 1]? =some y→y<x) (fun r=>r=false∧¬ jP l)
    (fun i x h=>by omega) (fun k x u hk hI=>by
      have hlt:=(List.getElem?_eq_some_iff.1 hk).1
      unfold Mt
      by_cases h1:x<1
      ·rw[Ajo h1]
       exact .inr ⟨_,rfl,rfl,fun h=>by have:=h.lo x (Ajr hk);omega⟩
      rw[Ajp h1,cond_false]
      by_cases h2:9999<x
      ·rw[Ajo h2]
       exact .inr ⟨_,rfl,rfl,fun h=>by have:=h.hi x (Ajr hk);omega⟩
      rw[Ajp h2,cond_false]
      by_cases h3:(0:Int)<(k:Int)
      ·rw[Ajo h3,cond_true,Ry (by omega) (by omega)]
       have hy:l[k - 1]? =some l[k - 1]:=Ajq (by omega)
       generalize l[k - 1]=y at hy
       rw[Az hy,Option.bind_some]
       by_cases h4:x≤y
       ·rw[Ajo h4]
        refine .inr ⟨_,rfl,rfl,fun h=>?_⟩
        have:=aZ h.inc hy hk (by omega);omega
       ·rw[Ajp h4]
        refine .inl ⟨_,rfl,fun i z hi hz=>?_⟩
        by_cases e:i=k
        ·subst e;rw[hk]at hz;obtain rfl:=Option.some.inj hz
         exact⟨by omega,by omega,fun y' _ hy'=>by rw[hy]at hy';obtain rfl:=Option.some.inj hy';omega⟩
        ·exact hI i z (by omega) hz
      ·rw[Ajp h3]
       refine .inl ⟨_,rfl,fun i z hi hz=>?_⟩
       have e:i=k:=by omega
       subst e;rw[hk]at hz;obtain rfl:=Option.some.inj hz
       exact⟨by omega,by omega,fun y' h _=>by omega⟩)with ⟨s',h1,h2⟩ | ⟨r,h1,rfl,h2⟩
  ·rw[h1]
   refine⟨_,rfl,?_⟩
   rw[decide_eq_true_eq]
   have hmem:∀ x∈l,1≤x∧x≤9999:=fun x hx=>by
     obtain⟨i,hi⟩:=List.mem_iff_getElem?.1 hx
     have:=h2 i x (List.getElem?_eq_some_iff.1 hi).1 hi
     exact⟨this.1,this.2.1⟩
   constructor
   ·intro h
    refine⟨fun e=>by rw[e]at h;simp at h,rJ fun k x y hx hy=>?_,fun x hx=>(hmem x hx).1,fun x hx=>(hmem x hx).2⟩
    exact(h2 (k+1) x (List.getElem?_eq_some_iff.1 hx).1 hx).2.2 y (by omega) (by simpa using hy)
   ·intro h
    have:=List.length_pos_iff.2 h.ne
    omega
  ·rw[h1]
   exact⟨false,rfl,by simp[h2]⟩
theorem iN {l:List Int} (h:Inc l) (lo:∀ x∈l,1≤x):∀ (k:Nat) (x:Int),l[k]? =some x→(k:Int)+1≤x
  | 0,x,hx=>by have:=lo x (Ajr hx);omega
  | k+1,x,hx=>by
    have hlt:=(List.getElem?_eq_some_iff.1 hx).1
    have hy:l[k]? =some l[k]:=Ajq (by omega)
    have h1:=iN h lo k _ hy
    have h2:=aZ h hy hx (by omega)
    omega
theorem jP.len {l:List Int} (h:jP l):l.length≤9999:=by
  by_cases e:l.length=0
  ·omega
  ·have hx:l[l.length - 1]? =some (l[l.length - 1]'(by omega)):=Ajq (by omega)
   have h1:=iN h.inc h.lo _ _ hx
   have h2:=h.hi _ (Ajr hx)
   omega
theorem X6 (l:List Int):Rm l=Pt l:=rfl
theorem has_eq (l:List Int) (n:Int):R5 l n=some (decide (n∈l)):=by
  unfold R5
  exact W9 fun k x hx=>rfl
def clash (a b:Ba):Bool:=decide (a.From<b.To)&&decide (b.From<a.To)&&(decide (a.Groomer=b.Groomer)||a.Runs.any fun x=>decide (x∈b.Runs))
theorem kM (a b:Ba):Qp a b=some (clash a b):=by
  unfold Qp clash
  by_cases h1:b.To≤a.From
  ·rw[Ajo h1,Ajp (show ¬ a.From<b.To by omega)];rfl
  rw[Ajp h1,Ajo (show a.From<b.To by omega),cond_false]
  by_cases h2:a.To≤b.From
  ·rw[Ajo h2,Ajp (show ¬ b.From<a.To by omega)];rfl
  rw[Ajp h2,Ajo (show b.From<a.To by omega),cond_false]
  rw[Fm (step:=Kv b) (fun x=>decide (x∈b.Runs)) (fun _=>true) (fun k x hx=>by unfold Kv;rw[has_eq];rfl)]
  cases hf:a.Runs.find? fun x=>decide (x∈b.Runs)with
  | some x=>
    have:(a.Runs.any fun x=>decide (x∈b.Runs))=true:=List.any_eq_true.2 ⟨x,List.mem_of_find?_eq_some hf,List.find?_some (p:=fun x=>decide (x∈b.Runs)) hf⟩
    rw[this];simp[Out.on]
  | none=>
    have:(a.Runs.any fun x=>decide (x∈b.Runs))=false:=List.any_eq_false.2 fun x hx=>by simpa using List.find?_eq_none.1 hf x hx
    rw[this];simp[Out.on]
theorem pJ {a b:Ba} (hi:Inc b.Runs) (hl:b.Runs.length≤549755813888):Kb a b=some (clash a b):=by
  unfold Kb clash
  by_cases h1:b.To≤a.From
  ·rw[Ajo h1,Ajp (show ¬ a.From<b.To by omega)];rfl
  rw[Ajp h1,Ajo (show a.From<b.To by omega),cond_false]
  by_cases h2:a.To≤b.From
  ·rw[Ajo h2,Ajp (show ¬ b.From<a.To by omega)];rfl
  rw[Ajp h2,Ajo (show b.From<a.To by omega),cond_false]
  by_cases h3:a.Groomer=b.Groomer
  ·rw[Ajo h3];rfl
  rw[Ajp h3,cond_false]
  rw[Fm (step:=Gg b) (fun x=>decide (x∈b.Runs)) (fun _=>true) (fun k x hx=>by
   unfold Gg;rw[tU hi hl,Option.bind_some,Ajo (show(0:Int)≤(k:Int) by omega)])]
  cases hf:a.Runs.find? fun x=>decide (x∈b.Runs)with
  | some x=>
    have:(a.Runs.any fun x=>decide (x∈b.Runs))=true:=List.any_eq_true.2 ⟨x,List.mem_of_find?_eq_some hf,List.find?_some (p:=fun x=>decide (x∈b.Runs)) hf⟩
    rw[this];simp[Out.on]
  | none=>
    have:(a.Runs.any fun x=>decide (x∈b.Runs))=false:=List.any_eq_false.2 fun x hx=>by simpa using List.find?_eq_none.1 hf x hx
    rw[this];simp[Out.on]
structure yA (w:Ba):Prop where
  g1:1≤w.Groomer
  g2:w.Groomer≤9999
  f0:0≤w.From
  ft:w.From<w.To
  t1:w.To≤20000000
  runs:jP w.Runs
structure gK (l:List Ba):Prop where
  len:l.length≤16
  rope:∀ w∈l,yA w
  apart:l.Pairwise fun a b=>clash a b=false
theorem xA {l:List Ba} {x:Ba} {k:Nat} (hk:k≤l.length) (hl:l.length≤16) :
    (Ka (Eb l x) k ()=some (.next ())∧∀ (j:Nat) w,j<k→l[j]? =some w→clash w x=false)∨(Ka (Eb l x) k ()=some (.ret (.ret 15))∧∃ (j:Nat) (w:Ba),j<k∧l[j]? =some w∧clash w x=true):=by
  rcases Xf (n:=k) (step:=Eb l x) (s:=()) (by omega) (fun i _=>∀ (j:Nat) w,j<i→l[j]? =some w→clash w x=false) (fun r=>r= .ret 15∧∃ (j:Nat) (w:Ba),j<k∧l[j]? =some w∧clash w x=true)
    (fun j w h=>by omega) (fun i s hi hI=>by
      have hw:l[i]? =some l[i]:=Ajq (by omega)
      generalize l[i]=w at hw
      unfold Eb
      rw[Az hw,Option.bind_some,kM,Option.bind_some]
      cases hc:clash w x with
      | true=>exact .inr ⟨_,rfl,rfl,i,w,hi,hw,hc⟩
      | false=>
        refine .inl ⟨(),rfl,fun j w' hj hw'=>?_⟩
        by_cases e:j=i
        ·subst e;rw[hw]at hw';obtain rfl:=Option.some.inj hw';exact hc
        ·exact hI j w' (by omega) hw')with ⟨s',h1,h2⟩ | ⟨r,h1,rfl,h2⟩
  ·exact .inl ⟨h1,h2⟩
  ·exact .inr ⟨h1,h2⟩
theorem step_eq {l:List Ba} {x:Ba} {k:Nat} (hk:l[k]? =some x) (hl:l.length≤16) (hr:x.Runs.length≤9223372036854775807):Hd l k x ()=E2 l k x ():=by
  have hlt:=(List.getElem?_eq_some_iff.1 hk).1
  unfold Hd E2
  obtain⟨b,hb,hbr⟩:=sP hr
  rw[X6,hb,Option.bind_some,Option.bind_some]
  cases b with
  | false=>rfl
  | true=>
    have hinc:=(hbr.1 rfl).inc
    have hin:Ka (Kd l k x) k ()=Ka (Eb l x) k ():=by
      unfold Ka
      rw[if_pos (by omega),if_pos (by omega)]
      refine L6 fun i u s hi=>?_
      have hik:i<k:=T9 hi
      have hw:l[i]? =some l[i]:=Ajq (by omega)
      generalize l[i]=w at hw
      have hw':(l.take k)[i]? =some w:=by rw[List.getElem?_take,if_pos hik];exact hw
      unfold Kd Eb
      rw[Az hw,Az hw',Option.bind_some,Option.bind_some,pJ hinc (by have:=(hbr.1 rfl).len;omega),kM,Ajo (show(0:Int)≤(i:Int) by omega)]
      cases clash w x<;>rfl
    rw[hin,Py (show(0:Int)≤(k:Int)∧(k:Int)≤(l.length:Int) by omega)]
theorem nI {l:List Ba} (hr:∀ w∈l,w.Runs.length≤9223372036854775807):∃ e,N5 l=some e∧Qi l=some e∧(e=0↔gK l):=by
  unfold Qi N5
  by_cases h16:(16:Int)<(l.length:Int)
  ·rw[Ajo h16]
   exact⟨4,rfl,rfl,by simp,fun h=>by have:=h.len;omega⟩
  rw[Ajp h16,cond_false,cond_false]
  rw[L6 (step:=Hd l) (step':=E2 l) fun i x s hi=>step_eq hi (by omega) (hr x (Ajr hi))]
  rcases Fa (step:=E2 l) (l:=l) (s:=()) (fun k _=>∀ (i:Nat) w,i<k→l[i]? =some w→yA w∧∀ (j:Nat) v,j<i→l[j]? =some v→clash v w=false) (fun r=>r≠0∧¬ gK l)
    (fun i w h=>by omega) (fun k x u hk hI=>by
      have hlt:=(List.getElem?_eq_some_iff.1 hk).1
      have hmem:=Ajr hk
      unfold E2
      by_cases h1:x.Groomer<1
      ·rw[Ajo h1];exact .inr ⟨_,rfl,by simp,fun h=>by have:=(h.rope x hmem).g1;omega⟩
      rw[Ajp h1,cond_false]
      by_cases h2:9999<x.Groomer
      ·rw[Ajo h2];exact .inr ⟨_,rfl,by simp,fun h=>by have:=(h.rope x hmem).g2;omega⟩
      rw[Ajp h2,cond_false]
      by_cases h3:x.From<0
      ·rw[Ajo h3];exact .inr ⟨_,rfl,by simp,fun h=>by have:=(h.rope x hmem).f0;omega⟩
      rw[Ajp h3,cond_false]
      by_cases h4:x.To≤x.From
      ·rw[Ajo h4];exact .inr ⟨_,rfl,by simp,fun h=>by have:=(h.rope x hmem).ft;omega⟩
      rw[Ajp h4,cond_false]
      by_cases h5:20000000<x.To
      ·rw[Ajo h5];exact .inr ⟨_,rfl,by simp,fun h=>by have:=(h.rope x hmem).t1;omega⟩
      rw[Ajp h5,cond_false]
      obtain⟨b,hb,hbr⟩:=sP (hr x hmem)
      rw[hb,Option.bind_some]
      cases b with
      | false=>exact .inr ⟨1,rfl,by simp,fun h=>by have:=hbr.2 (h.rope x hmem).runs;cases this⟩
      | true=>
        rcases xA (l:=l) (x:=x) (k:=k) (by omega) (by omega)with ⟨h6,h7⟩ | ⟨h6,j,w,hj,hw,hc⟩
        ·refine .inl ⟨(),by rw[h6];rfl,fun i w hi hw=>?_⟩
         by_cases e:i=k
         ·subst e;rw[hk]at hw;obtain rfl:=Option.some.inj hw
          exact⟨⟨by omega,by omega,by omega,by omega,by omega,hbr.1 rfl⟩,h7⟩
         ·exact hI i w (by omega) hw
        ·refine .inr ⟨15,by rw[h6];rfl,by simp,fun h=>?_⟩
         obtain⟨h8,rfl⟩:=List.getElem?_eq_some_iff.1 hw
         obtain⟨h9,rfl⟩:=List.getElem?_eq_some_iff.1 hk
         have:=(List.pairwise_iff_getElem.1 h.apart) j k h8 h9 hj
         rw[this]at hc;cases hc)with ⟨s',h1,h2⟩ | ⟨r,h1,h2,h3⟩
  ·rw[h1]
   refine⟨0,rfl,rfl,fun _=>?_,fun _=>rfl⟩
   refine⟨by omega,fun w hw=>?_,?_⟩
   ·obtain⟨i,hi⟩:=List.mem_iff_getElem?.1 hw
    exact(h2 i w (List.getElem?_eq_some_iff.1 hi).1 hi).1
   ·rw[List.pairwise_iff_getElem]
    intro i j hi hj hij
    exact(h2 j _ hj (Ajq hj)).2 i _ hij (Ajq hi)
  ·rw[h1]
   exact⟨r,rfl,rfl,fun e=>absurd e h2,fun h=>absurd h h3⟩
structure Few (l:List Ba):Prop where
  len:l.length≤40
  runs:∀ w∈l,w.Runs.length≤10000
def atT (l:List Ba) (t:Int):List Ba:=l.filter fun w=>decide (w.From≤t)&&decide (t<w.To)
def Kj (l:List Ba) (t:Int):List Int:=(atT l t).flatMap (·.Runs)
theorem mG {l:List Ba} {t:Int} {w:Ba}:w∈atT l t↔w∈l∧w.From≤t∧t<w.To:=by simp[atT]
theorem Vn {l:List Ba} {t n:Int}:n∈Kj l t↔∃ w∈l,(w.From≤t∧t<w.To)∧n∈w.Runs:=by
  unfold Kj
  rw[List.mem_flatMap]
  constructor
  ·rintro⟨w,hw,hn⟩;exact⟨w,(mG.1 hw).1,(mG.1 hw).2,hn⟩
  ·rintro⟨w,hw,ht,hn⟩;exact⟨w,mG.2 ⟨hw,ht⟩,hn⟩
theorem iL {l:List Ba} {t:Int} (h:∀ w∈l,w.Runs.length≤10000):(Kj l t).length≤10000*l.length:=by
  induction l with
  | nil=>simp[Kj,atT]
  | cons w l ih=>
    have ih:=ih fun w hw=>h w (List.mem_cons_of_mem _ hw)
    have hw:=h w (by simp)
    unfold Kj atT at ih ⊢
    rw[List.filter_cons]
    split
    ·rw[List.flatMap_cons,List.length_append,List.length_cons];omega
    ·rw[List.length_cons];omega
theorem nE (l:List Ba) (x:Ba) (t:Int):Kj (l++[x]) t=if x.From≤t∧t<x.To then Kj l t++x.Runs else Kj l t:=by
  unfold Kj atT
  rw[List.filter_append]
  by_cases h:x.From≤t∧t<x.To
  ·rw[if_pos h,List.filter_cons_of_pos (by simp[h]),List.filter_nil,List.flatMap_append];simp
  ·rw[if_neg h,List.filter_cons_of_neg (by simpa using h),List.filter_nil,List.append_nil]
theorem wA {l:List Ba} (h:Few l) (t:Int):Qh l t=some (norm (Kj l t)):=by
  unfold Qh
  obtain⟨s',h1,h2⟩:=Du (step:=Kc t) (l:=l) (s:=[]) (fun k s=>s=Kj (l.take k) t) (by simp[Kj,atT]) (fun k x s hk hI=>by
    have hlt:=(List.getElem?_eq_some_iff.1 hk).1
    have hlen:s.length≤10000*k:=by
      rw[hI]
      have:=iL (l:=l.take k) (t:=t) fun w hw=>h.runs w (List.mem_of_mem_take hw)
      rw[List.length_take]at this;omega
    have hx:=h.runs x (Ajr hk)
    have hl:=h.len
    rw[B3 hk,nE]
    unfold Kc
    by_cases h1:x.From≤t
    ·rw[Ajo h1,cond_true]
     by_cases h2:t<x.To
     ·rw[Ajo h2,cond_true,Cj (by omega),if_pos ⟨h1,h2⟩,hI]
      exact⟨_,rfl,rfl⟩
     ·rw[Ajp h2,cond_false,if_neg (fun h=>h2 h.2)]
      exact⟨_,rfl,hI⟩
    ·rw[Ajp h1,cond_false,if_neg (fun h=>h1 h.1)]
     exact⟨_,rfl,hI⟩)
  rw[List.take_length]at h2
  have hl:=iL (l:=l) (t:=t) h.runs
  have:=h.len
  rw[h1,Option.bind_some]
  show chk s'.length _=_
  rw[h2,Cj (by omega),Cj (by omega)];rfl
theorem uA {l:List Ba} (hr:gK l) (t:Int):N4 l t=some (norm (Kj l t)):=by
  unfold N4
  obtain⟨s',h1,h2,h3,h4⟩:=bC (ρ:=List Int) (n:=9999) (step:=Kx l t) (s:=[]) (by omega) (fun k s=>Inc s∧s.length≤k∧∀ n,n∈s↔(n≤k∧n∈Kj l t))
    ⟨List.Pairwise.nil,by simp,fun n=>by
      constructor
      ·intro h;simp at h
      ·rintro⟨h,hn⟩
       obtain⟨w,hw,_,hm⟩:=Vn.1 hn
       have:=(hr.rope w hw).runs.lo n hm;simp at h;omega⟩ (fun k s hk hI=>by
    obtain⟨i1,i2,i3⟩:=hI
    unfold Kx
    rw[Fm (step:=Kw t s k) (fun w=>decide (w.From≤t)&&(decide (t<w.To)&&decide (((k:Nat):Int)+1∈w.Runs))) (fun _=>.next (s++[((k:Nat):Int)+1])) (fun j w hw=>by
     unfold Kw
     rw[has_eq]
     by_cases h1:w.From≤t<;>by_cases h2:t<w.To<;>by_cases h3:((k:Nat):Int)+1∈w.Runs<;>simp[h1,h2,h3,Cj (show s.length+1≤549755813888 by omega)])]
    have old:∀ n,n∈Kj l t→n≤((k+1:Nat):Int)→n≤(k:Int)∨n=(k:Int)+1:=fun n _ h=>by omega
    cases hf:l.find? (fun w=>decide (w.From≤t)&&(decide (t<w.To)&&decide (((k:Nat):Int)+1∈w.Runs)))with
    | some w=>
      have hp:=List.find?_some hf
      have hw:=List.mem_of_find?_eq_some hf
      simp only[Bool.and_eq_true,decide_eq_true_eq]at hp
      have hin:((k:Nat):Int)+1∈Kj l t:=Vn.2 ⟨w,hw,⟨hp.1,hp.2.1⟩,hp.2.2⟩
      refine⟨_,rfl,?_,by simp;omega,fun n=>?_⟩
      ·unfold Inc
       rw[List.pairwise_append]
       exact⟨i1,by simp,fun a ha b hb=>by simp at hb;have:=((i3 a).1 ha).1;omega⟩
      ·rw[List.mem_append,i3,List.mem_singleton]
       constructor
       ·rintro(h | rfl)
        ·exact⟨by omega,h.2⟩
        ·exact⟨by omega,hin⟩
       ·rintro⟨h,hn⟩
        rcases old n hn h with h | h
        ·exact .inl ⟨h,hn⟩
        ·exact .inr h
    | none=>
      refine⟨_,rfl,i1,by omega,fun n=>?_⟩
      rw[i3]
      constructor
      ·rintro⟨h,hn⟩;exact⟨by omega,hn⟩
      ·rintro⟨h,hn⟩
       rcases old n hn h with h | rfl
       ·exact⟨h,hn⟩
       ·obtain⟨w,hw,ht,hm⟩:=Vn.1 hn
        have:=List.find?_eq_none.1 hf w hw
        simp[ht.1,ht.2,hm]at this)
  rw[h1,Option.bind_some]
  show some s'=_
  congr 1
  refine Rt h2 (W3 _) fun n=>?_
  rw[W2,h4]
  refine⟨fun h=>h.2,fun h=>⟨?_,h⟩⟩
  obtain⟨w,hw,_,hm⟩:=Vn.1 h
  exact(hr.rope w hw).runs.hi n hm
end Go.Proofs.YtjopghiagoidgaaGreat.W46
namespace Go.Proofs.YtjopghiagoidgaaGreat.S50
open Go Go.Ab
set_option linter.unusedSimpArgs false
set_option linter.unusedVariables false
section
variable {α σ ρ:Type}
theorem Qz {step step':Nat→α→σ→Option (Out σ ρ)}:∀ {l:List α} {k:Nat},(∀ i x s,l[i]? =some x→step (k+i) x s=step' (k+i) x s)→∀ s,Am step k l s=Am step' k l s
  | [],k,h,s=>rfl
  | x::r,k,h,s=>by
    have h0:=h 0 x s rfl
    rw[Nat.add_zero]at h0
    rw[Am,Am,h0]
    have ih:∀ s,Am step (k+1) r s=Am step' (k+1) r s:=Qz (l:=r) (k:=k+1) (fun i y s hy=>by
      have:=h (i+1) y s (by simpa using hy)
      rwa [show k+(i+1)=k+1+i by omega]at this)
    cases step' k x s with
    | none=>rfl
    | some o=>cases o with
      | next s'=>exact ih s'
      | ret r=>rfl
theorem L6 {step step':Nat→α→σ→Option (Out σ ρ)} {l:List α} {s:σ} (h:∀ i x s,l[i]? =some x→step i x s=step' i x s):Am step 0 l s=Am step' 0 l s:=
  Qz (k:=0) (fun i x s hx=>by rw[Nat.zero_add];exact h i x s hx) s
end
def Small (l:List Bf):Prop:=l.length≤50∧∀ s∈l,s.Zones.length≤100∧True
def Inc (l:List Int):Prop:=l.Pairwise (·< ·)
def Tu (most:Int) (l:List Int):Prop:=(∀ x∈l,1≤x∧x≤most)∧Inc l
instance (most:Int) (l:List Int):Decidable (Tu most l):=by unfold Tu Inc;infer_instance
theorem mL {l:List Int} (h:∀ k x y,l[k+1]? =some x→l[k]? =some y→y<x):Inc l:=by
  unfold Inc
  rw[List.pairwise_iff_getElem]
  have key:∀ (d i:Nat) (hj:i+d+1<l.length),l[i]'(by omega)<l[i+d+1]:=by
    intro d
    induction d with
    | zero=>
      intro i hj
      exact h i _ _ (Ajq (by omega)) (Ajq (by omega))
    | succ d ih=>
      intro i hj
      have h1:=ih i (by omega)
      have h2:=h (i+d+1) l[i+(d+1)+1] l[i+d+1] (by rw[Ajq (by omega)];rfl) (Ajq (by omega))
      omega
  intro i j hi hj hlt
  have:=key (j - i - 1) i (by omega)
  simpa[show i+(j - i - 1)+1=j by omega]using this
theorem uV {l:List Int} (h:Inc l) {k:Nat} {x y:Int} (hx:l[k+1]? =some x) (hy:l[k]? =some y):y<x:=by
  unfold Inc at h
  rw[List.pairwise_iff_getElem]at h
  obtain⟨h1,rfl⟩:=List.getElem?_eq_some_iff.1 hx
  obtain⟨h2,rfl⟩:=List.getElem?_eq_some_iff.1 hy
  exact h k (k+1) h2 h1 (by omega)
theorem T8 (l:List Int) (most:Int) (hl:l.length≤9223372036854775807):D9 l most=some (decide (Tu most l)):=by
  unfold D9
  rcases Fa (step:=D8 l most) (l:=l) (s:=()) (fun k _=>(∀ i x,i<k→l[i]? =some x→1≤x∧x≤most)∧∀ i x y,i+1<k→l[i+1]? =some x→l[i]? =some y→y<x)
    (fun r=>r=false∧¬ Tu most l) ⟨fun i x h=>by omega,fun i x y h=>by omega⟩ (fun k x u hk ⟨hI1,hI2⟩=>by
      have hlt:=(List.getElem?_eq_some_iff.1 hk).1
      have hm:=Ajr hk
      unfold D8
      by_cases h1:x<1
      ·rw[Ajo h1];exact .inr ⟨false,rfl,rfl,fun h=>by have:=h.1 x hm;omega⟩
      rw[Ajp h1,cond_false]
      by_cases h2:most<x
      ·rw[Ajo h2];exact .inr ⟨false,rfl,rfl,fun h=>by have:=h.1 x hm;omega⟩
      rw[Ajp h2,cond_false]
      have hI1':∀ i y,i<k+1→l[i]? =some y→1≤y∧y≤most:=fun i y hi hy=>by
        by_cases e:i=k
        ·subst e;rw[hk]at hy;obtain rfl:=Option.some.inj hy;omega
        ·exact hI1 i y (by omega) hy
      by_cases h3:(0:Int)<(k:Int)
      ·rw[Ajo h3,cond_true,Ry (by omega) (by omega),Yd (k:=k - 1) (by omega),Option.bind_some]
       have hp:l[k - 1]? =some l[k - 1]:=Ajq (by omega)
       by_cases h4:x≤l[k - 1]
       ·rw[Ajo h4]
        refine .inr ⟨false,rfl,rfl,fun h=>?_⟩
        have:=uV h.2 (k:=k - 1) (by rw[Nat.sub_add_cancel (by omega)];exact hk) hp
        omega
       ·rw[Ajp h4]
        refine .inl ⟨(),rfl,hI1',fun i a b hi ha hb=>?_⟩
        by_cases e:i+1=k
        ·rw[e,hk]at ha;obtain rfl:=Option.some.inj ha
         obtain rfl:i=k - 1:=by omega
         rw[hp]at hb;obtain rfl:=Option.some.inj hb;omega
        ·exact hI2 i a b (by omega) ha hb
      ·rw[Ajp h3]
       exact .inl ⟨(),rfl,hI1',fun i a b hi ha hb=>by omega⟩)with ⟨u,h1,h2,h3⟩ | ⟨r,h1,h2,h3⟩
  ·have:Tu most l:=⟨fun x hx=>by
     obtain⟨i,hi,rfl⟩:=List.getElem_of_mem hx
     exact h2 i _ hi (Ajq hi),mL fun k x y hx hy=>h3 k x y (List.getElem?_eq_some_iff.1 hx).1 hx hy⟩
   rw[h1,Ajo this];rfl
  ·subst h2
   rw[h1,Ajp h3];rfl
theorem X6 (l:List Int) (most:Int) (hl:l.length≤9223372036854775807):Ow l most=some (decide (Tu most l)):=T8 l most hl
theorem find_eq (l:List Bf) (n:Int):(H4 l n=some (-1)∧∀ x∈l,x.ID≠n)∨(∃ (k:Nat) (x:Bf),H4 l n=some (k:Int)∧l[k]? =some x∧x.ID=n∧∀ j y,j<k→l[j]? =some y→y.ID≠n):=by
  unfold H4
  rcases Fa (step:=Gu n) (l:=l) (s:=()) (fun k _=>∀ i x,i<k→l[i]? =some x→x.ID≠n)
    (fun r=>∃ (k:Nat) (x:Bf),r=(k:Int)∧l[k]? =some x∧x.ID=n∧∀ j y,j<k→l[j]? =some y→y.ID≠n) (fun i x h=>by omega) (fun k x u hk hI=>by
      unfold Gu
      by_cases e:x.ID=n
      ·rw[Ajo e];exact .inr ⟨_,rfl,k,x,rfl,hk,e,hI⟩
      ·rw[Ajp e]
       refine .inl ⟨(),rfl,fun i y hi hy=>?_⟩
       by_cases h:i=k
       ·subst h;rw[hk]at hy;obtain rfl:=Option.some.inj hy;exact e
       ·exact hI i y (by omega) hy)with ⟨u,h1,h2⟩ | ⟨r,h1,k,x,rfl,h2,h3,h4⟩
  ·refine .inl ⟨by rw[h1];rfl,fun x hx=>?_⟩
   obtain⟨i,hi,rfl⟩:=List.getElem_of_mem hx
   exact h2 i _ hi (Ajq hi)
  ·exact .inr ⟨k,x,by rw[h1];rfl,h2,h3,h4⟩
def InR (s:Bf):Prop:=1≤s.ID∧s.ID≤9999∧4≤s.Limit∧s.Limit≤100000∧0≤s.Load∧s.Load≤100000∧-1≤s.Controlled∧s.Controlled≤20000000
instance (s:Bf):Decidable (InR s):=by unfold InR;infer_instance
def Bv (s:Bf):Prop:=s.Zones≠[]∧Tu 32 s.Zones∧Tu 9999 s.Lifts
instance (s:Bf):Decidable (Bv s):=by unfold Bv;infer_instance
def lS (l:List Bf) (k:Nat) (s:Bf):Prop:=∃ y∈l.take k,y.ID=s.ID
instance (l:List Bf) (k:Nat) (s:Bf):Decidable (lS l k s):=by unfold lS;infer_instance
def Xj (l:List Bf) (k:Nat) (s:Bf):Option Int:=if ¬ InR s then some 2 else if lS l k s then some 7 else if ¬ Bv s then some 1 else none
def ans (o:Option Int):Option (Out Unit Int):=match o with | none=>some (.next ()) | some e=>some (.ret e)
theorem rK (s:Bf):Gt s=some (decide (InR s)):=by
  unfold Gt InR
  by_cases h1:1≤s.ID<;>by_cases h2:s.ID≤9999<;>by_cases h3:4≤s.Limit<;>by_cases h4:s.Limit≤100000<;>by_cases h5:0≤s.Load<;>by_cases h6:s.Load≤100000<;>by_cases h7: -1≤s.Controlled<;>simp[h1,h2,h3,h4,h5,h6,h7]
theorem kW (s:Bf):decide (((s.Zones.length:Nat):Int)=(0:Int))=decide (s.Zones=[]):=by
  cases s.Zones<;>simp<;>omega
theorem qS (l:List Bf) (hl:l.length≤9223372036854775807) (k:Nat) (x:Bf) (hk:l[k]? =some x) (hz:x.Zones.length≤9223372036854775807) (hf:x.Lifts.length≤9223372036854775807) :
    Ex l k x ()=ans (Xj l k x):=by
  have hlt:=(List.getElem?_eq_some_iff.1 hk).1
  unfold Ex Xj
  rw[rK,Option.bind_some]
  by_cases h1:InR x
  ·rw[Ajo h1,Bool.not_true,cond_false,Py ⟨by omega,by omega⟩,if_neg (by simpa using h1)]
   rcases find_eq (l.take k) x.ID with⟨h2,h3⟩ | ⟨j,y,h2,h3,h4,_⟩
   ·rw[h2,Option.bind_some,if_neg (fun⟨y,hy,e⟩=>h3 y hy e)]
    show(bif decide (((x.Zones.length:Nat):Int)=(0:Int))then _ else _)=_
    rw[kW,T8 _ _ hz,T8 _ _ hf]
    unfold Bv
    by_cases h5:x.Zones=[]<;>by_cases h6:Tu 32 x.Zones<;>by_cases h7:Tu 9999 x.Lifts<;>simp[h5,h6,h7,ans]
   ·rw[h2,Option.bind_some,Ajo (Int.natCast_nonneg j),cond_true,if_pos ⟨y,Ajr h3,h4⟩];rfl
  ·rw[Ajp h1,if_pos h1];rfl
theorem uC (l:List Bf) (k:Nat) (x:Bf) (hk:k<l.length) (hl:l.length≤9223372036854775807) :
    (lS l k x∧Ka (Fz l x) k ()=some (.ret (.ret 7)))∨(¬ lS l k x∧Ka (Fz l x) k ()=some (.next ())):=by
  rcases Xf (step:=Fz l x) (n:=k) (s:=()) (by omega) (fun i _=>∀ j y,j<i→l[j]? =some y→y.ID≠x.ID) (fun r=>r= .ret 7∧lS l k x) (fun j y h=>by omega) (fun i u hi hI=>by
    unfold Fz
    have hy:l[i]? =some l[i]:=Ajq (by omega)
    rw[Az hy,Option.bind_some]
    by_cases e:l[i].ID=x.ID
    ·rw[Ajo e]
     refine .inr ⟨_,rfl,rfl,l[i],Ajr (i:=i) ?_,e⟩
     rw[List.getElem?_take,if_pos hi];exact hy
    ·rw[Ajp e]
     refine .inl ⟨(),rfl,fun j y hj hy'=>?_⟩
     by_cases h:j=i
     ·subst h;rw[hy]at hy';obtain rfl:=Option.some.inj hy';exact e
     ·exact hI j y (by omega) hy')with ⟨u,h1,h2⟩ | ⟨r,h1,h2,h3⟩
  ·refine .inr ⟨fun⟨y,hy,e⟩=>?_,h1⟩
   obtain⟨j,hj,rfl⟩:=List.getElem_of_mem hy
   rw[List.length_take]at hj
   rw[List.getElem_take]at e
   exact h2 j _ (by omega) (Ajq (by omega)) e
  ·subst h2;exact .inl ⟨h3,h1⟩
theorem jX (l:List Bf) (hl:l.length≤9223372036854775807) (k:Nat) (x:Bf) (hk:l[k]? =some x) (hz:x.Zones.length≤9223372036854775807) (hf:x.Lifts.length≤9223372036854775807) :
    Ho l k x ()=ans (Xj l k x):=by
  have hlt:=(List.getElem?_eq_some_iff.1 hk).1
  unfold Ho Xj
  by_cases h1:InR x
  ·obtain⟨a1,a2,a3,a4,a5,a6,a7,a8⟩:=h1
   rw[Ajp (by omega),cond_false,Ajp (by omega),cond_false,Ajp (by omega),cond_false,Ajp (by omega),cond_false,Ajp (by omega),cond_false,
    Ajp (by omega),cond_false,Ajp (by omega),cond_false,Ajp (by omega),cond_false,if_neg (fun hn=>hn (show InR x from⟨a1,a2,a3,a4,a5,a6,a7,a8⟩))]
   rcases uC l k x hlt hl with⟨h2,h3⟩ | ⟨h2,h3⟩
   ·rw[h3,if_pos h2];rfl
   ·rw[h3,if_neg h2,Option.bind_some]
    show(bif decide (((x.Zones.length:Nat):Int)=(0:Int))then _ else _)=_
    rw[kW,X6 _ _ hz,X6 _ _ hf]
    unfold Bv
    by_cases h5:x.Zones=[]<;>by_cases h6:Tu 32 x.Zones<;>by_cases h7:Tu 9999 x.Lifts<;>simp[h5,h6,h7,ans]
  ·rw[if_pos h1]
   by_cases b1:x.ID<1
   ·rw[Ajo b1];rfl
   rw[Ajp b1,cond_false]
   by_cases b2:9999<x.ID
   ·rw[Ajo b2];rfl
   rw[Ajp b2,cond_false]
   by_cases b3:x.Limit<4
   ·rw[Ajo b3];rfl
   rw[Ajp b3,cond_false]
   by_cases b4:100000<x.Limit
   ·rw[Ajo b4];rfl
   rw[Ajp b4,cond_false]
   by_cases b5:x.Load<0
   ·rw[Ajo b5];rfl
   rw[Ajp b5,cond_false]
   by_cases b6:100000<x.Load
   ·rw[Ajo b6];rfl
   rw[Ajp b6,cond_false]
   by_cases b7:x.Controlled < -1
   ·rw[Ajo b7];rfl
   rw[Ajp b7,cond_false]
   by_cases b8:20000000<x.Controlled
   ·rw[Ajo b8];rfl
   exact absurd (show InR x from⟨by omega,by omega,by omega,by omega,by omega,by omega,by omega,by omega⟩) h1
def bU (l:List Bf):Prop:=l.length≤32∧∀ k x,l[k]? =some x→Xj l k x=none
def Aa0 (l:List Bf):Prop:=l.length≤9223372036854775807∧∀ s∈l,s.Zones.length≤9223372036854775807∧s.Lifts.length≤9223372036854775807
theorem x3 (l:List Bf) (g:Nat→Bf→Option Int):∃ r,((Am (fun k x (_:Unit)=>ans (g k x)) 0 l ()).bind fun o=>o.on fun _=>some (0:Int))=some r∧((∀ k x,l[k]? =some x→g k x≠some 0)→(r=0↔∀ k x,l[k]? =some x→g k x=none)):=by
  rcases Fa (step:=fun k x (_:Unit)=>ans (g k x)) (l:=l) (s:=()) (fun i _=>∀ k x,k<i→l[k]? =some x→g k x=none) (fun r=>∃ k x,l[k]? =some x∧g k x=some r) (fun k x h=>by omega) (fun k x u hk hI=>by
    cases hg:g k x with
    | none=>
      refine .inl ⟨(),by simp only[hg,ans],fun i y hi hy=>?_⟩
      by_cases e:i=k
      ·subst e;rw[hk]at hy;obtain rfl:=Option.some.inj hy;exact hg
      ·exact hI i y (by omega) hy
    | some e=>exact .inr ⟨e,by simp only[hg,ans],k,x,hk,hg⟩)with ⟨u,h1,h2⟩ | ⟨r,h1,k,x,h2,h3⟩
  ·exact⟨0,by rw[h1];rfl,fun _=>⟨fun _ k x hx=>h2 k x (List.getElem?_eq_some_iff.1 hx).1 hx,fun _=>rfl⟩⟩
  ·refine⟨r,by rw[h1];rfl,fun hn=>⟨fun e=>?_,fun h=>?_⟩⟩
   ·subst e;exact absurd h3 (hn k x h2)
   ·rw[h k x h2]at h3;cases h3
theorem xN (l:List Bf) (k:Nat) (x:Bf):Xj l k x≠some 0:=by
  unfold Xj;split<;>(try split)<;>(try split)<;>simp
theorem Wr (l:List Bf) (h:Aa0 l):∃ r,Jk l=some r∧N3 l=some r∧(r=0↔bU l):=by
  unfold Jk N3
  by_cases hl:(32:Int)<((l.length:Nat):Int)
  ·rw[Ajo hl]
   exact⟨4,rfl,rfl,fun e=>by omega,fun h=>by have:=h.1;omega⟩
  ·rw[Ajp hl,cond_false,cond_false]
   rw[L6 (step:=Ex l) (step':=fun k x (_:Unit)=>ans (Xj l k x)) (fun k x u hx=>qS l h.1 k x hx (h.2 x (Ajr hx)).1 (h.2 x (Ajr hx)).2),
    L6 (step:=Ho l) (step':=fun k x (_:Unit)=>ans (Xj l k x)) (fun k x u hx=>jX l h.1 k x hx (h.2 x (Ajr hx)).1 (h.2 x (Ajr hx)).2)]
   obtain⟨r,h1,h2⟩:=x3 l (Xj l)
   refine⟨r,h1,h1,(h2 fun k x _=>xN l k x).trans ⟨fun h=>⟨by omega,h⟩,fun h=>h.2⟩⟩
theorem bU.at {l:List Bf} (h:bU l) {x:Bf} (hx:x∈l):InR x∧Bv x:=by
  obtain⟨k,hk,rfl⟩:=List.getElem_of_mem hx
  have:=h.2 k _ (Ajq hk)
  unfold Xj at this
  split at this
  ·cases this
  ·split at this
   ·cases this
   ·split at this
    ·cases this
    ·rename_i a b c;exact⟨by simpa using a,by simpa using c⟩
theorem wrap_small {n:Int} (h: -9223372036854775808≤n) (h2:n≤9223372036854775807):IntKind.i64.wrap n=n:=by simp[IntKind.wrap,IntKind.bits,IntKind.signed]<;>omega
def lvl (levels:List Int) (z:Int):Int:=if 1≤z then(levels[(z - 1).toNat]?).getD 0 else 0
def W5 (levels:List Int):List Int→Int
  | []=>0
  | z::r=>r.foldl (fun a z=>if a<lvl levels z then lvl levels z else a) (lvl levels z)
theorem uP (levels:List Int) (zs:List Int) (z:Int):W5 levels (zs++[z])=if zs=[]∨W5 levels zs<lvl levels z then lvl levels z else W5 levels zs:=by
  cases zs with
  | nil=>rfl
  | cons y r=>
    simp only[List.cons_append,W5,List.foldl_append,List.foldl_cons,List.foldl_nil,reduceCtorEq,false_or]
theorem wX {levels:List Int} {z:Int} (hl:levels.length≤9223372036854775807) (h1:1≤z) (h2:z≤(levels.length:Int)):Di levels (IntKind.i64.wrap (z - 1))=some (lvl levels z):=by
  rw[wrap_small (by omega) (by omega)]
  have hlt:(z - 1).toNat<levels.length:=by omega
  unfold lvl
  rw[if_pos h1,Ajq hlt]
  exact Ru (k:=(z - 1).toNat) (by omega) (Ajq hlt)
theorem mH {levels:List Int} {z:Int} (h:¬ (1≤z∧z≤(levels.length:Int))):lvl levels z=0:=by
  unfold lvl
  by_cases h1:1≤z
  ·rw[if_pos h1,List.getElem?_eq_none (by omega)];rfl
  ·rw[if_neg h1]
theorem W4 (k:Nat) (v sv:Int):(bif (decide (((k:Nat):Int)=(0:Int)))then some (Out.next v)else (bif (decide (sv<v))then some (Out.next v)else some (Out.next sv)):Option (Out Int Int))=some (.next (if k=0∨sv<v then v else sv)):=by
  by_cases h1:k=0
  ·rw[Ajo (by omega),if_pos (.inl h1)];rfl
  ·rw[Ajp (by omega),cond_false]
   by_cases h2:sv<v
   ·rw[Ajo h2,if_pos (.inr h2)];rfl
   ·rw[Ajp h2,if_neg (by omega)];rfl
theorem rH {levels:List Int} (hl:levels.length≤9223372036854775807) (k:Nat) (x sv:Int):F6 levels k x sv=some (.next (if k=0∨sv<lvl levels x then lvl levels x else sv)):=by
  unfold F6
  by_cases h1:1≤x
  ·rw[Ajo h1,cond_true]
   by_cases h2:x≤(levels.length:Int)
   ·rw[Ajo h2,cond_true,wX hl h1 h2,Option.bind_some];exact W4 k _ sv
   ·rw[Ajp h2,cond_false,mH (fun h=>h2 h.2)];exact W4 k _ sv
  ·rw[Ajp h1,cond_false,mH (fun h=>h1 h.1)];exact W4 k _ sv
theorem jY {levels:List Int} (hl:levels.length≤9223372036854775807) (k:Nat) (x sv:Int) (h1:1≤x):Kt levels k x sv=some (.next (if k=0∨sv<lvl levels x then lvl levels x else sv)):=by
  unfold Kt
  by_cases h2:x≤(levels.length:Int)
  ·rw[Ajo h2,cond_true,wX hl h1 h2,Option.bind_some];exact W4 k _ sv
  ·rw[Ajp h2,cond_false,mH (fun h=>h2 h.2)];exact W4 k _ sv
theorem oJ {step:Nat→Int→Int→Option (Out Int Int)} {levels zs:List Int} (hs:∀ k x sv,x∈zs→step k x sv=some (.next (if k=0∨sv<lvl levels x then lvl levels x else sv))) :
    ((Am step 0 zs 0).bind fun o=>o.on fun s=>some s)=some (W5 levels zs):=by
  obtain⟨s',h1,h2⟩:=Du (step:=step) (l:=zs) (s:=0) (fun k s=>s=W5 levels (zs.take k)) rfl (fun k x s hk hI=>by
    have hlt:=(List.getElem?_eq_some_iff.1 hk).1
    rw[hs k x s (Ajr hk)]
    refine⟨_,rfl,?_⟩
    rw[List.take_add_one,hk,hI]
    show _=W5 levels (zs.take k++[x])
    rw[uP]
    have:zs.take k=[]↔k=0:=by
      constructor
      ·intro h
       have:=congrArg List.length h
       simp at this
       rcases this with h | h
       ·exact h
       ·subst h;simp at hlt
      ·intro h;subst h;rfl
    simp only[this])
  rw[h1,h2,List.take_length];rfl
theorem w0 (s:Bf) {levels:List Int} (hl:levels.length≤9223372036854775807):Nh s levels=some (W5 levels s.Zones):=
  oJ fun k x sv _=>rH hl k x sv
theorem nQ (s:Bf) {levels:List Int} (hl:levels.length≤9223372036854775807) (hz:∀ z∈s.Zones,1≤z):Td s levels=some (W5 levels s.Zones):=
  oJ fun k x sv hx=>jY hl k x sv (hz x hx)
def Y2 (s:Bf) (levels:List Int):Prop:=
  s.Limit≤s.Load∨(W5 levels s.Zones=3∧s.Limit / 2≤s.Load)∨(W5 levels s.Zones=4∧s.Limit / 4≤s.Load)∨4<W5 levels s.Zones
instance (s:Bf) (levels:List Int):Decidable (Y2 s levels):=by unfold Y2;infer_instance
theorem gI {n d:Int} (h0:0≤n) (h1:n≤100000) (hd:1≤d):IntKind.i64.wrap (Int.tdiv n d)=n / d:=by
  have h2:n / d≤n:=Int.ediv_le_self d h0
  have h3:0≤n / d:=Int.ediv_nonneg h0 (by omega)
  rw[Int.tdiv_eq_ediv_of_nonneg h0,wrap_small (by omega) (by omega)]
theorem m8 {s:Bf} (hr:InR s) {levels:List Int} (hl:levels.length≤9223372036854775807):F5 s levels=some (decide (Y2 s levels)):=by
  unfold InR at hr
  unfold F5
  rw[w0 s hl,gI (by omega) (by omega) (by omega),gI (by omega) (by omega) (by omega)]
  by_cases h1:s.Limit≤s.Load
  ·rw[Ajo h1,Ajo (show Y2 s levels from .inl h1)];rfl
  rw[Ajp h1,cond_false,Option.bind_some]
  by_cases h2:W5 levels s.Zones=3
  ·rw[Ajo h2,cond_true]
   refine congrArg some (decide_eq_decide.2 ?_)
   unfold Y2;omega
  rw[Ajp h2,cond_false]
  by_cases h3:W5 levels s.Zones=4
  ·rw[Ajo h3,cond_true]
   refine congrArg some (decide_eq_decide.2 ?_)
   unfold Y2;omega
  rw[Ajp h3,cond_false]
  refine congrArg some (decide_eq_decide.2 ?_)
  unfold Y2;omega
theorem gW {s:Bf} (hr:InR s) {levels:List Int} (hl:levels.length≤9223372036854775807) (hz:∀ z∈s.Zones,1≤z):Ks s levels=some (decide (Y2 s levels)):=by
  unfold InR at hr
  unfold Ks
  rw[nQ s hl hz,gI (by omega) (by omega) (by omega),gI (by omega) (by omega) (by omega),Option.bind_some]
  by_cases h1:4<W5 levels s.Zones
  ·rw[Ajo h1,Ajo (show Y2 s levels from .inr (.inr (.inr h1)))];rfl
  rw[Ajp h1,cond_false]
  by_cases h3:W5 levels s.Zones=4
  ·rw[Ajo h3,cond_true]
   refine congrArg some (decide_eq_decide.2 ?_)
   unfold Y2;omega
  rw[Ajp h3,cond_false]
  by_cases h2:W5 levels s.Zones=3
  ·rw[Ajo h2,cond_true]
   refine congrArg some (decide_eq_decide.2 ?_)
   unfold Y2;omega
  rw[Ajp h2,cond_false]
  refine congrArg some (decide_eq_decide.2 ?_)
  unfold Y2;omega
theorem Rt:∀ {a b:List Int},Inc a→Inc b→(∀ x,x∈a↔x∈b)→a=b
  | [],[],_,_,_=>rfl
  | [],y::s,_,_,h=>absurd ((h y).2 (by simp)) (by simp)
  | x::r,[],_,_,h=>absurd ((h x).1 (by simp)) (by simp)
  | x::r,y::s,ha,hb,h=>by
    obtain⟨ha1,ha2⟩:=List.pairwise_cons.1 ha
    obtain⟨hb1,hb2⟩:=List.pairwise_cons.1 hb
    have e:x=y:=by
      rcases List.mem_cons.1 ((h x).1 (by simp))with e | h1
      ·exact e
      ·rcases List.mem_cons.1 ((h y).2 (by simp))with e | h2
       ·exact e.symm
       ·have:=ha1 y h2;have:=hb1 x h1;omega
    subst e
    rw[Rt ha2 hb2 (fun z=>?_)]
    constructor
    ·intro hz
     rcases List.mem_cons.1 ((h z).1 (List.mem_cons_of_mem _ hz))with e | h1
     ·have:=ha1 z hz;omega
     ·exact h1
    ·intro hz
     rcases List.mem_cons.1 ((h z).2 (List.mem_cons_of_mem _ hz))with e | h1
     ·have:=hb1 z hz;omega
     ·exact h1
def norm (xs:List Int):List Int:=Ch (Db xs)
theorem Ro (xs:List Int):(Db xs).Pairwise (·≤·):=by
  have:=List.pairwise_mergeSort (le:=fun x y:Int=>decide (x≤y)) (fun a b c h1 h2=>by simp at *;omega) (fun a b=>by simp;omega) xs
  exact this.imp (fun h=>by simpa using h)
theorem Nx (xs:List Int) (a:Int):a∈Db xs↔a∈xs:=(List.mergeSort_perm xs _).mem_iff
theorem Fi {zs:List Int} {j:Nat} (h:j<zs.length):zs.toArray[j]! =zs[j]:=by simp[h]
theorem Xk {zs:List Int} (a:Int):a∈Ch zs↔a∈zs:=by
  unfold Ch Lib.compact Lib.compactUpTo
  rw[List.mem_map]
  constructor
  ·rintro⟨j,hj,rfl⟩
   have h1:=List.mem_range.1 (List.mem_filter.1 hj).1
   rw[Fi h1];exact List.getElem_mem h1
  ·intro ha
   obtain⟨i,hi,rfl⟩:=List.getElem_of_mem ha
   induction i with
   | zero=>exact ⟨0,List.mem_filter.2 ⟨List.mem_range.2 hi,by simp[Lib.keeps]⟩,Fi hi⟩
   | succ i ih=>
     by_cases e:zs[i+1]=zs[i]
     ·rw[e];exact ih (by omega) (List.getElem_mem _)
     ·refine⟨i+1,List.mem_filter.2 ⟨List.mem_range.2 hi,?_⟩,Fi hi⟩
      unfold Lib.keeps
      rw[Fi hi,Nat.add_sub_cancel,Fi (show i<zs.length by omega)]
      exact Ajo (.inr e)
theorem Xl {zs:List Int} (h:zs.Pairwise (·≤·)):Inc (Ch zs):=by
  unfold Ch Lib.compact Lib.compactUpTo Inc
  rw[List.pairwise_map]
  refine(List.pairwise_lt_range.filter _).imp_of_mem (fun {i j} hi hj hlt=>?_)
  obtain⟨hj1,hj2⟩:=List.mem_filter.1 hj
  have hj1:=List.mem_range.1 hj1
  rw[Fi (show i<zs.length by omega),Fi hj1]
  unfold Lib.keeps at hj2
  have hne:=Ajn hj2
  rw[Fi hj1,Fi (show j - 1<zs.length by omega)]at hne
  rw[List.pairwise_iff_getElem]at h
  have h1:=h (j - 1) j (by omega) hj1 (by omega)
  rcases Nat.lt_or_ge i (j - 1)with hh | hh
  ·have:=h i (j - 1) (by omega) (by omega) hh;omega
  ·have e:i=j - 1:=by omega
   subst e;omega
theorem W3 (xs:List Int):Inc (norm xs):=Xl (Ro xs)
theorem W2 (xs:List Int) (a:Int):a∈norm xs↔a∈xs:=by unfold norm;rw[Xk,Nx]
theorem gather {step:Nat→Bf→List Int→Option (Out (List Int) (List Int))} {l:List Bf} (f:Bf→List Int) (p:Bf→Bool) (hl:l.length≤50) (hf:∀ x∈l,(f x).length≤100)
    (hs:∀ k x s,x∈l→step k x s=bif p x then chk (s.length+(f x).length) (some (Out.next (s++f x)))else some (Out.next s)) :
    ((Am step 0 l []).bind fun o2=>o2.on fun s2=>chk s2.length (chk s2.length (some (Ch (Db s2)))))=some (norm ((l.filter p).flatMap f)):=by
  obtain⟨s',h1,h2,h3⟩:=Du (step:=step) (l:=l) (s:=[]) (fun k s=>s=((l.take k).filter p).flatMap f∧s.length≤100*k) ⟨by simp,by simp⟩ (fun k x s hk ⟨hI,hn⟩=>by
    have hlt:=(List.getElem?_eq_some_iff.1 hk).1
    have hx:=Ajr hk
    have:=hf x hx
    rw[hs k x s hx]
    cases hp:p x with
    | true=>
      rw[cond_true,Cj (by omega)]
      refine⟨_,rfl,?_,by rw[List.length_append];omega⟩
      rw[List.take_add_one,hk,hI];simp[hp]
    | false=>
      rw[cond_false]
      refine⟨_,rfl,?_,by omega⟩
      rw[List.take_add_one,hk,hI];simp[hp])
  rw[h1]
  show chk s'.length (chk s'.length _)=_
  rw[Cj (by omega),Cj (by omega),h2,List.take_length];rfl
theorem vS {l:List Bf} {levels:List Int} (hs:Small l) (hr:∀ x∈l,InR x) (hl:levels.length≤9223372036854775807):Gf l levels=some (norm ((l.filter fun x=>decide (Y2 x levels)).flatMap Bf.Zones)):=
  gather Bf.Zones (fun x=>decide (Y2 x levels)) hs.1 (fun x hx=>(hs.2 x hx).1) (fun k x s hx=>by
    unfold Ix;rw[m8 (hr x hx) hl,Option.bind_some])
theorem wB (a b:List Int) (x y:Int):((a++y::x::b).set (a.length+1) y).set a.length x=a++x::y::b:=by
  simp[List.set_append]
theorem w9 {at_:Nat} {out:List Int} {x:Int} (hat:at_≤out.length) (hlen:out.length≤100000000) :
    ∃ a b,Fy out x (at_:Int)=some (.next (a++x::b))∧a++b=out∧a.length=at_:=by
  unfold Fy
  rw[Cj (by omega),wrap_small (by omega) (by omega)]
  obtain⟨r,h1,a,b,h2,h3,h4⟩:=Ik (step:=Kr (at_:Int)) (fun s=>∃ a b:List Int,s=((a.length:Int),a++x::b)∧a++b=out∧at_≤a.length)
    (fun r=>∃ a b,r= .next (a++x::b)∧a++b=out∧a.length=at_) (fun s=>s.1.toNat) (fun s hI=>by
      obtain⟨a,b,rfl,hab,ha⟩:=hI
      unfold Kr
      show(∃ s',(bif decide ((at_:Int)<((a.length:Nat):Int))then _ else _)=_∧_)∨_
      by_cases hlt:at_<a.length
      ·rw[Ajo (by omega),cond_true]
       rcases List.eq_nil_or_concat a with e | ⟨a',y,e⟩
       ·subst e;simp at hlt
       ·rw[List.concat_eq_append]at e
        subst e
        have hl':(a'++[y]).length=a'.length+1:=by simp
        rw[hl']at hlt ha
        have hle:a'.length+1≤out.length:=by rw[← hab];simp
        have e1:a'++[y]++x::b=a'++y::x::b:=by simp
        have g1:(a'++y::x::b)[a'.length]? =some y:=by simp
        have g2:(a'++y::x::b)[a'.length+1]? =some x:=by simp
        have g3:((a'++y::x::b).set (a'.length+1) y)[a'.length]? =some y:=by rw[List.getElem?_set_ne (by omega)];exact g1
        simp only[hl',e1,Ry (show 0<a'.length+1 by omega) (by omega),Nat.add_sub_cancel,Az g1,Az g2,Option.bind_some,Int.toNat_natCast,Az g3,wB]
        exact .inl ⟨_,rfl,⟨a',y::b,rfl,by rw[← hab];simp,by omega⟩,by omega⟩
      ·rw[Ajp (by omega),cond_false]
       exact .inr ⟨_,rfl,a,b,rfl,hab,by omega⟩) fuel ((out.length:Int),out++[x]) ⟨out,[],rfl,by simp,hat⟩ (by show out.length<fuel;unfold fuel;omega)
  refine⟨a,b,?_,h3,h4⟩
  rw[show((((out.length+1:Nat):Int)) - 1)=(out.length:Int) by omega,h1,h2];rfl
theorem uR (k:Nat) (x:Int) {out:List Int} (hi:Inc out) (hlen:out.length≤100000000) :
    ∃ out',E0 k x out=some (.next out')∧Inc out'∧(∀ a,a∈out'↔a∈out∨a=x)∧out'.length≤out.length+1:=by
  unfold E0
  obtain⟨r,h1,out',h2,h3⟩:=Ik (step:=Kq out x) (fun(s:Int)=>∃ n:Nat,s=(n:Int)∧n≤out.length∧∀ i y,i<n→out[i]? =some y→y<x)
    (fun r=>∃ out',r= .next out'∧Inc out'∧(∀ a,a∈out'↔a∈out∨a=x)∧out'.length≤out.length+1) (fun s=>out.length - s.toNat) (fun s hI=>by
      obtain⟨n,rfl,hn,hI⟩:=hI
      have hins:(∀ y,out[n]? =some y→x<y)→∃ out',Fy out x (n:Int)=some (.next out')∧Inc out'∧(∀ a,a∈out'↔a∈out∨a=x)∧out'.length≤out.length+1:=fun hgt=>by
        obtain⟨a,b,g1,g2,g3⟩:=w9 (x:=x) hn hlen
        refine⟨_,g1,?_,fun c=>?_,by rw[← g2];simp;omega⟩
        ·subst g2
         unfold Inc at hi ⊢
         obtain⟨p1,p2,p3⟩:=List.pairwise_append.1 hi
         have hb:∀ y∈b,x<y:=fun y hy=>by
           cases b with
           | nil=>cases hy
           | cons z b'=>
             have hz:x<z:=hgt z (by rw[← g3];simp)
             rcases List.mem_cons.1 hy with e | hy
             ·subst e;exact hz
             ·have:=(List.pairwise_cons.1 p2).1 y hy;omega
         have ha:∀ y∈a,y<x:=fun y hy=>by
           obtain⟨i,hi',rfl⟩:=List.getElem_of_mem hy
           exact hI i _ (by omega) (by rw[List.getElem?_append_left hi'];exact Ajq hi')
         refine List.pairwise_append.2 ⟨p1,List.pairwise_cons.2 ⟨hb,p2⟩,fun y hy z hz=>?_⟩
         rcases List.mem_cons.1 hz with e | hz
         ·subst e;exact ha y hy
         ·exact p3 y hy z hz
        ·subst g2;simp only[List.mem_append,List.mem_cons]
         constructor
         ·rintro(h | h | h)
          ·exact .inl (.inl h)
          ·exact .inr h
          ·exact .inl (.inr h)
         ·rintro((h | h) | h)
          ·exact .inl h
          ·exact .inr (.inr h)
          ·exact .inr (.inl h)
      unfold Kq
      by_cases hlt:n<out.length
      ·rw[Ajo (by omega),cond_true,Yd hlt,Option.bind_some]
       have hg:out[n]? =some out[n]:=Ajq hlt
       by_cases hx:out[n]< x
       ·rw[Ajo hx,cond_true,Rz (by omega)]
        refine .inl ⟨_,rfl,⟨n+1,rfl,by omega,fun i y hi' hy=>?_⟩,by omega⟩
        by_cases e:i=n
        ·subst e;rw[hg]at hy;obtain rfl:=Option.some.inj hy;exact hx
        ·exact hI i y (by omega) hy
       ·rw[Ajp hx,cond_false]
        unfold Hn
        rw[Ajo (by omega),cond_true,Yd hlt,Option.bind_some]
        by_cases e:out[n]=x
        ·rw[Ajo e,cond_true]
         refine .inr ⟨_,rfl,out,rfl,hi,fun a=>⟨.inl,fun h=>?_⟩,by omega⟩
         rcases h with h | h
         ·exact h
         ·rw[h,← e];exact List.getElem_mem hlt
        ·rw[Ajp e,cond_false]
         obtain⟨out',g1,g2⟩:=hins (fun y hy=>by rw[hg]at hy;obtain rfl:=Option.some.inj hy;omega)
         rw[g1]
         exact .inr ⟨_,rfl,out',rfl,g2⟩
      ·rw[Ajp (by omega),cond_false,cond_false]
       unfold Hn
       rw[Ajp (by omega),cond_false]
       obtain⟨out',g1,g2⟩:=hins (fun y hy=>by rw[List.getElem?_eq_none (by omega)]at hy;cases hy)
       rw[g1]
       exact .inr ⟨_,rfl,out',rfl,g2⟩) fuel 0 ⟨0,rfl,by omega,fun i y h=>by omega⟩ (by show out.length - 0<fuel;unfold fuel;omega)
  exact⟨out',by rw[h1,h2];rfl,h3⟩
theorem uS (zs:List Int) {out:List Int} (hi:Inc out) (hlen:out.length+zs.length≤100000000) :
    ∃ out',Am E0 0 zs out=some (.next out')∧Inc out'∧(∀ a,a∈out'↔a∈out∨a∈zs)∧out'.length≤out.length+zs.length:=by
  obtain⟨s',h1,h2,h3,h4⟩:=Du (step:=E0) (l:=zs) (s:=out) (fun k s=>Inc s∧(∀ a,a∈s↔a∈out∨a∈zs.take k)∧s.length≤out.length+k) ⟨hi,by simp,by omega⟩ (fun k x s hk ⟨hI1,hI2,hI3⟩=>by
    have hlt:=(List.getElem?_eq_some_iff.1 hk).1
    obtain⟨out',g1,g2,g3,g4⟩:=uR k x hI1 (by omega)
    refine⟨out',g1,g2,fun a=>?_,by omega⟩
    rw[g3,hI2,List.take_add_one,hk]
    simp[or_assoc])
  rw[List.take_length]at h3
  exact⟨s',h1,h2,h3,h4⟩
theorem refgather {step:Nat→Bf→List Int→Option (Out (List Int) (List Int))} {l:List Bf} (f:Bf→List Int) (p:Bf→Bool) (hl:l.length≤50) (hf:∀ x∈l,(f x).length≤100)
    (hs:∀ k x s,x∈l→step k x s=bif p x then(Am E0 0 (f x) s).bind fun o7=>o7.on fun s7=>some (Out.next s7)else some (Out.next s)) :
    ((Am step 0 l []).bind fun o2=>o2.on fun s2=>some s2)=some (norm ((l.filter p).flatMap f)):=by
  obtain⟨s',h1,h2,h3,h4⟩:=Du (step:=step) (l:=l) (s:=[]) (fun k s=>Inc s∧(∀ a,a∈s↔a∈((l.take k).filter p).flatMap f)∧s.length≤100*k) ⟨List.Pairwise.nil,by simp,by simp⟩ (fun k x s hk ⟨hI1,hI2,hI3⟩=>by
    have hlt:=(List.getElem?_eq_some_iff.1 hk).1
    have hx:=Ajr hk
    have:=hf x hx
    rw[hs k x s hx]
    cases hp:p x with
    | true=>
      rw[cond_true]
      obtain⟨out',g1,g2,g3,g4⟩:=uS (f x) hI1 (by omega)
      refine⟨out',by rw[g1];rfl,g2,fun a=>?_,by omega⟩
      rw[g3,hI2,List.take_add_one,hk];simp[hp]
    | false=>
      rw[cond_false]
      refine⟨_,rfl,hI1,fun a=>?_,by omega⟩
      rw[hI2,List.take_add_one,hk];simp[hp])
  rw[List.take_length]at h3
  rw[h1]
  show some s'=_
  rw[Rt h2 (W3 _) (fun a=>by rw[h3,W2])]
theorem nP {l:List Bf} {levels:List Int} (hs:Small l) (hr:bU l) (hl:levels.length≤9223372036854775807):N2 l levels=some (norm ((l.filter fun x=>decide (Y2 x levels)).flatMap Bf.Zones)):=
  refgather Bf.Zones (fun x=>decide (Y2 x levels)) hs.1 (fun x hx=>(hs.2 x hx).1) (fun k x s hx=>by
    unfold Ox;rw[gW (hr.at hx).1 hl (fun z hz=>((hr.at hx).2.2.1.1 z hz).1),Option.bind_some])
end Go.Proofs.YtjopghiagoidgaaGreat.S50
namespace Go.Proofs.YtjopghiagoidgaaGreat
open Go Go.Ab
set_option linter.unusedSimpArgs false
set_option linter.unusedVariables false
def Ag {α:Type} (a b:Option α):Prop:=∃ r,a=some r∧b=some r
theorem Ag.some {α:Type} (x:α):Ag (some x) (some x):=⟨x,rfl,rfl⟩
theorem Ag.refl {α:Type} {a:Option α} (h:∃ x,a=Option.some x):Ag a a:=by obtain⟨x,h⟩:=h;exact⟨x,h,h⟩
theorem Ag.symm {α:Type} {a b:Option α} (h:Ag a b):Ag b a:=by obtain⟨x,h,k⟩:=h;exact⟨x,k,h⟩
theorem Ag.trans {α:Type} {a b c:Option α} (h:Ag a b) (k:Ag b c):Ag a c:=by
  obtain⟨x,h1,h2⟩:=h;obtain⟨y,k1,k2⟩:=k
  rw[h2]at k1;obtain rfl:=Option.some.inj k1
  exact⟨x,h1,k2⟩
theorem Ag.eq {α:Type} {a b:Option α} (h:Ag a b):a=b:=by obtain⟨x,h1,h2⟩:=h;rw[h1,h2]
theorem Ag.of {α:Type} {a b:Option α} (h:∃ x,a=Option.some x) (e:a=b):Ag a b:=by obtain⟨x,h⟩:=h;exact⟨x,h,by rw[← e];exact h⟩
theorem Ag.bind {α β:Type} {a b:Option α} {f g:α→Option β} (h:Ag a b) (k:∀ x,a=Option.some x→b=Option.some x→Ag (f x) (g x)):Ag (a.bind f) (b.bind g):=by
  obtain⟨x,h1,h2⟩:=h
  have:=k x h1 h2
  rw[h1,h2];exact this
theorem Ag.bif {α:Type} {c d:Bool} {a b a' b':Option α} (hc:c=d) (h:c=true→Ag a b) (k:c=false→Ag a' b'):Ag (bif c then a else a') (bif d then b else b'):=by
  subst hc
  cases c with
  | true=>exact h rfl
  | false=>exact k rfl
theorem lJ {α σ ρ:Type} {step:Nat→α→σ→Option (Out σ ρ)}:∀ {l:List α} {k:Nat},(∀ i x s,l[i]? =Option.some x→∃ o,step (k+i) x s=Option.some o)→∀ s,∃ o,Am step k l s=Option.some o
  | [],k,_,s=>⟨_,rfl⟩
  | x::l,k,h,s=>by
    obtain⟨o,ho⟩:=h 0 x s rfl
    rw[Nat.add_zero]at ho
    rw[Am,ho]
    cases o with
    | ret r=>exact ⟨_,rfl⟩
    | next s'=>exact lJ (fun i y s hy=>by have:=h (i+1) y s (by simpa using hy);rwa [show k+(i+1)=k+1+i by omega]at this) s'
theorem Ag.xK {α σ ρ:Type} {step step':Nat→α→σ→Option (Out σ ρ)}:∀ {l:List α} {k:Nat},(∀ i x s,l[i]? =Option.some x→Ag (step (k+i) x s) (step' (k+i) x s))→∀ s,Ag (Am step k l s) (Am step' k l s)
  | [],k,_,s=>⟨_,rfl,rfl⟩
  | x::l,k,h,s=>by
    obtain⟨o,ho,ho'⟩:=h 0 x s rfl
    rw[Nat.add_zero]at ho ho'
    rw[Am,Am,ho,ho']
    cases o with
    | ret r=>exact ⟨_,rfl,rfl⟩
    | next s'=>exact Ag.xK (fun i y s hy=>by have:=h (i+1) y s (by simpa using hy);rwa [show k+(i+1)=k+1+i by omega]at this) s'
theorem Ag.Am {α σ ρ:Type} {step step':Nat→α→σ→Option (Out σ ρ)} {l:List α} {s:σ} (h:∀ i x s,l[i]? =Option.some x→Ag (step i x s) (step' i x s)):Ag (Am step 0 l s) (Am step' 0 l s):=
  Ag.xK (fun i x s hx=>by rw[Nat.zero_add];exact h i x s hx) s
theorem Ag.on {σ ρ:Type} {o:Out σ ρ} {f g:σ→Option ρ} (h:∀ s,o= .next s→Ag (f s) (g s)):Ag (o.on f) (o.on g):=by
  cases o with
  | ret r=>exact ⟨_,rfl,rfl⟩
  | next s=>exact h s rfl
theorem dN {α:Type} {l:List α} {k:Nat} (hk:k<l.length) (h0:0<k) (hl:l.length≤9223372036854775807):∃ x,Di l (IntKind.i64.wrap ((k:Int) - 1))=Option.some x∧l[k - 1]? =Option.some x:=by
  have hx:l[k - 1]? =Option.some (l[k - 1]'(by omega)):=Ajq (by omega)
  exact⟨_,Ru (Ry h0 (by omega)) hx,hx⟩
def Tot {α:Type} (a:Option α):Prop:=∃ r,a=Option.some r
theorem Tot.some {α:Type} (x:α):Tot (Option.some x):=⟨x,rfl⟩
theorem Tot.bif {α:Type} {c:Bool} {a b:Option α} (h:c=true→Tot a) (k:c=false→Tot b):Tot (bif c then a else b):=by
  cases c with
  | true=>exact h rfl
  | false=>exact k rfl
theorem Tot.bind {α β:Type} {a:Option α} {f:α→Option β} (h:Tot a) (k:∀ x,a=Option.some x→Tot (f x)):Tot (a.bind f):=by
  obtain⟨x,h⟩:=h
  have:=k x h
  rw[h];exact this
theorem Tot.on {σ ρ:Type} {o:Out σ ρ} {f:σ→Option ρ} (h:∀ s,Tot (f s)):Tot (o.on f):=by
  cases o with
  | ret r=>exact ⟨_,rfl⟩
  | next s=>exact h s
theorem Tot.Am {α σ ρ:Type} {step:Nat→α→σ→Option (Out σ ρ)} {l:List α} {s:σ} (h:∀ i x s,l[i]? =Option.some x→Tot (step i x s)):Tot (Am step 0 l s):=
  lJ (fun i x s hx=>by rw[Nat.zero_add];exact h i x s hx) s
theorem Tot.pred {α β:Type} {l:List α} {k:Nat} {f:α→Option β} (hk:k<l.length) (h0:decide ((0:Int)<((k:Nat):Int))=true) (hl:l.length≤9223372036854775807) (h:∀ y,Tot (f y)):Tot ((Di l (IntKind.i64.wrap (((k:Nat):Int) - (1:Int)))).bind f):=by
  obtain⟨x,h1,_⟩:=dN hk (by have:=Ajn h0;omega) hl
  rw[h1];exact h x
theorem Ag.n0 {α:Type} {a b:Option α} (h:Tot a) (e:a=b):Ag a b:=Ag.of h e
def Df {σ ρ:Type} (P:ρ→Prop) (o:Option (Out σ ρ)):Prop:=∀ r,o=Option.some (.ret r)→P r
theorem Df.next {σ ρ:Type} {P:ρ→Prop} (s:σ):Df P (Option.some (Out.next s)):=by intro r h;cases h
theorem Df.ret {σ ρ:Type} {P:ρ→Prop} {r:ρ} (h:P r):Df (σ:=σ) P (Option.some (Out.ret r)):=by intro r' h';cases h';exact h
theorem Df.bif {σ ρ:Type} {P:ρ→Prop} {c:Bool} {a b:Option (Out σ ρ)} (h:c=true→Df P a) (k:c=false→Df P b):Df P (bif c then a else b):=by
  cases c with
  | true=>exact h rfl
  | false=>exact k rfl
theorem Df.bind {α σ ρ:Type} {P:ρ→Prop} {a:Option α} {f:α→Option (Out σ ρ)} (h:∀ x,a=Option.some x→Df P (f x)):Df P (a.bind f):=by
  intro r hr
  obtain⟨x,h1,h2⟩:=Ah hr
  exact h x h1 r h2
theorem Df.okB {σ ρ:Type} {P:ρ→Prop} {c:Bool} {o:Option (Out σ ρ)} (h:Df P o):Df P (okB c o):=by
  cases c with
  | true=>exact h
  | false=>intro r h';cases h'
theorem Df.Am {α σ ρ:Type} {P:ρ→Prop} {step:Nat→α→σ→Option (Out σ ρ)} (h:∀ i x s,Df P (step i x s)):∀ {l:List α} {k:Nat} {s:σ},Df P (Am step k l s)
  | [],k,s=>Df.next _
  | x::l,k,s=>by
    intro r hr
    rw[Go.Ab.Am]at hr
    obtain⟨o,h1,h2⟩:=Ah hr
    cases o with
    | ret q=>exact h k x s r (by rw[h1];exact h2 ▸ rfl)
    | next s'=>exact Df.Am h r h2
theorem qM {σ:Type} {o:Option (Out σ Int)} {rest:Option Int} (h:Df (·≠0) o):((o.bind fun x=>x.on fun _=>Option.some (0:Int)).bind fun y=>bif decide (y≠(0:Int))then Option.some y else rest)=o.bind fun x=>x.on fun _=>rest:=by
  cases o with
  | none=>rfl
  | some x=>
    cases x with
    | next s=>rfl
    | ret r=>
      have:=h r rfl
      show(bif decide (r≠0)then Option.some r else rest)=Option.some r
      rw[Ajo this];rfl
theorem mR {α:Type} {n lo hi:Int} {a b:α}:(bif decide (n<lo)then a else(bif decide (hi<n)then a else b))=(bif !decide (lo≤n∧n≤hi)then a else b):=by
  by_cases h1:n<lo
  ·rw[Ajo h1,Ajp (p:=lo≤n∧n≤hi) (by omega)];rfl
  ·by_cases h2:hi<n
   ·rw[Ajp h1,Ajo h2,Ajp (by omega)];rfl
   ·rw[Ajp h1,Ajp h2,Ajo (by omega)];rfl
theorem bf {p q:Prop} [Decidable p] [Decidable q]:(bif decide p then Option.some false else Option.some (decide q))=Option.some (decide (¬p∧q)):=by
  by_cases h1:p<;>by_cases h2:q<;>simp[h1,h2]
theorem bt {p q:Prop} [Decidable p] [Decidable q]:(bif decide p then Option.some (decide q)else Option.some false)=Option.some (decide (p∧q)):=by
  by_cases h1:p<;>by_cases h2:q<;>simp[h1,h2]
theorem ba {α:Type} {p q:Prop} [Decidable p] [Decidable q] {a b:α}:(bif !decide p then a else(bif !decide q then a else b))=(bif !decide (p∧q)then a else b):=by
  by_cases h1:p<;>by_cases h2:q<;>simp[h1,h2]
theorem tF {α:Type} {x y:Int} {a b:α}:(bif decide (x<y)then a else b)=(bif !decide (y≤x)then a else b):=by
  by_cases h:x<y
  ·rw[Ajo h,Ajp (by omega)];rfl
  ·rw[Ajp h,Ajo (by omega)];rfl
theorem zL {α:Type} {x y:Int} {a b:α}:(bif decide (x≤y)then a else b)=(bif !decide (y<x)then a else b):=by
  by_cases h:x≤y
  ·rw[Ajo h,Ajp (by omega)];rfl
  ·rw[Ajp h,Ajo (by omega)];rfl
theorem in2 {lo n hi:Int}:(bif (decide (lo≤n))then Option.some (decide (n≤hi))else Option.some false)=Option.some (decide (lo≤n∧n≤hi)):=bt
theorem lI {α σ τ ρ:Type} {step:Nat→α→σ→Option (Out σ ρ)} {step':Nat→α→τ→Option (Out τ ρ)} (l:List α) (R:Nat→σ→τ→Prop)
    (hs:∀ i x s t,l[i]? =Option.some x→R i s t→(∃ s' t',step i x s=Option.some (.next s')∧step' i x t=Option.some (.next t')∧R (i+1) s' t')∨(∃ r,step i x s=Option.some (.ret r)∧step' i x t=Option.some (.ret r))) :
    ∀ (n k:Nat) (s:σ) (t:τ),l.length - k=n→k≤l.length→R k s t→(∃ s' t',Am step k (l.drop k) s=Option.some (.next s')∧Am step' k (l.drop k) t=Option.some (.next t')∧R l.length s' t')∨(∃ r,Am step k (l.drop k) s=Option.some (.ret r)∧Am step' k (l.drop k) t=Option.some (.ret r))
  | 0,k,s,t,hn,hk,hR=>by
    have:k=l.length:=by omega
    subst this
    rw[List.drop_length]
    exact .inl ⟨s,t,rfl,rfl,hR⟩
  | n+1,k,s,t,hn,hk,hR=>by
    have hlt:k<l.length:=by omega
    rw[List.drop_eq_getElem_cons hlt]
    rcases hs k _ s t (Ajq hlt) hR with⟨s',t',h1,h2,h3⟩ | ⟨r,h1,h2⟩
    ·rcases lI l R hs n (k+1) s' t' (by omega) hlt h3 with⟨s2,t2,h4,h5,h6⟩ | ⟨r,h4,h5⟩
     ·exact .inl ⟨s2,t2,by rw[Go.Ab.Am,h1];exact h4,by rw[Go.Ab.Am,h2];exact h5,h6⟩
     ·exact .inr ⟨r,by rw[Go.Ab.Am,h1];exact h4,by rw[Go.Ab.Am,h2];exact h5⟩
    ·exact .inr ⟨r,by rw[Go.Ab.Am,h1];rfl,by rw[Go.Ab.Am,h2];rfl⟩
theorem rF (c:Bn):R4 c=some (decide (1≤c.Kind∧c.Kind≤3∧1≤c.Target∧c.Target≤9999∧1≤c.By∧c.By≤6∧0≤c.Since∧c.Since≤20000000)):=by
  unfold R4;simp only[bt]
theorem xS (l:List Bn) (a b c:Int):Pj l ⟨a,b,c⟩=Fl l a b c:=by
  have:Jj ⟨a,b,c⟩=Ez a b c:=by
    funext k x s
    unfold Jj Ez Jr
    rw[Option.bind_some]
    dsimp only
    cases decide (x.Kind=a)<;>cases decide (x.Target=b)<;>cases decide (x.By=c)<;>rfl
  unfold Pj Fl;rw[this]
theorem uD (l:List Bn) (a b c:Int):Tot (Fl l a b c):=by
  unfold Fl
  refine Tot.bind (Tot.Am fun i x s _=>?_) fun o _=>Tot.on fun _=>Tot.some _
  unfold Ez
  repeat' first | exact Tot.some _ | refine Tot.bif (fun _=>?_) (fun _=>?_)
theorem rS (l:List Bn) (hl:l.length≤1000):Ag (Mz l) (Ig l):=by
  unfold Mz Ig
  refine Ag.bif rfl (fun _=>Ag.some _) fun _=>?_
  refine Ag.bind (Ag.Am fun i x s hx=>?_) fun o _ _=>Ag.on fun _ _=>Ag.some _
  have hi:=(List.getElem?_eq_some_iff.1 hx).1
  unfold L7 Hl
  refine Ag.bind (a:=Nf x) (b:=R4 x) ⟨_,rF x,rF x⟩ fun y _ _=>?_
  refine Ag.bif rfl (fun _=>Ag.some _) fun _=>?_
  rw[Py (by omega),Py (by omega)]
  unfold Jr
  rw[Option.bind_some,xS]
  exact Ag.bind (Ag.refl (uD _ _ _ _)) fun y _ _=>Ag.bif rfl (fun _=>Ag.some _) fun _=>Ag.some _
theorem oN (l:List Int) (n:Int):Uv l n=some (decide (n∈l)):=W9 fun k x hx=>rfl
theorem gG (n lo hi:Int):Qr n lo hi=some (decide (lo≤n∧n≤hi)):=by unfold Qr;exact in2
theorem rI (l:Bq) (h1:l.Items.length≤9223372036854775807) (h2:l.Signs.length≤9223372036854775807):Ag (Jq l) (Gi l):=by
  unfold Jq Gi
  refine Ag.bif rfl (fun _=>Ag.some _) fun hl1=>?_
  refine Ag.bif rfl (fun _=>Ag.some _) fun hl2=>?_
  have hl1:=Ajm hl1
  have hl2:=Ajm hl2
  rw[mR,gG,Option.bind_some]
  refine Ag.bif rfl (fun _=>Ag.some _) fun _=>?_
  refine Ag.bind (Ag.Am fun i x s hx=>?_) fun o _ _=>Ag.on fun _ _=>?_
  ·have hi:=(List.getElem?_eq_some_iff.1 hx).1
   unfold L3 O1
   rw[mR,gG,Option.bind_some]
   refine Ag.bif rfl (fun _=>Ag.some _) fun _=>?_
   rw[Py (by omega),Py (by omega)]
   simp only[contains_eq,oN,Option.bind_some]
   exact Ag.bif rfl (fun _=>Ag.some _) fun _=>Ag.some _
  ·unfold L0 O0
   refine Ag.bind (Ag.Am fun i x s hx=>?_) fun o _ _=>Ag.on fun _ _=>Ag.some _
   have hi:=(List.getElem?_eq_some_iff.1 hx).1
   unfold L4 O2
   simp only[contains_eq,oN,Option.bind_some]
   refine Ag.bif rfl (fun _=>Ag.some _) fun _=>?_
   rw[mR,gG,Option.bind_some]
   refine Ag.bif rfl (fun _=>Ag.some _) fun _=>?_
   rw[mR,gG,Option.bind_some]
   refine Ag.bif rfl (fun _=>Ag.some _) fun _=>?_
   refine Ag.bif rfl (fun h0=>?_) fun _=>Ag.some _
   refine Ag.refl ?_
   exact Tot.pred hi h0 (by omega) fun y=>Tot.bif (fun _=>Tot.some _) fun _=>Tot.some _
theorem oM {l:Bq} (h:Gi l=some 0):l.Items.length≤64∧l.Signs.length≤200:=by
  unfold Gi at h
  by_cases h1:((64:Int)<((l.Items.length:Nat):Int))
  ·rw[Ajo h1]at h;cases h
  ·by_cases h2:((200:Int)<((l.Signs.length:Nat):Int))
   ·rw[Ajp h1,Ajo h2]at h;cases h
   ·omega
theorem mN (l:List Cv) (n:Int):Mw l n=some (match l.findIdx? (fun x=>decide (x.ID=n))with | some k=>(k:Int) | none=> -1):=by
  unfold Mw
  have key:∀ (l:List Cv) (k:Nat),Am (Fs n) k l ()=match l.findIdx? (fun x=>decide (x.ID=n))with | some j=>some (.ret ((j+k:Nat):Int)) | none=>some (.next ()):=by
    intro l
    induction l with
    | nil=>intro k;rfl
    | cons x l ih=>
      intro k
      rw[Am,List.findIdx?_cons]
      unfold Fs
      cases hx:decide (x.ID=n)with
      | true=>simp[Out.cont]
      | false=>
        rw[cond_false,Option.bind_some]
        show Am (Fs n) (k+1) l ()=_
        rw[ih (k+1)]
        cases l.findIdx? (fun x=>decide (x.ID=n))with
        | none=>rfl
        | some j=>simp;omega
  rw[key l 0]
  cases l.findIdx? (fun x=>decide (x.ID=n))with
  | none=>rfl
  | some j=>rfl
theorem uE (p:Cb) (h1:p.Bv.length≤1000) (h2:p.Hazards.length≤1000) (h3:∀ x∈p.Bv,x.List_.Items.length≤9223372036854775807∧x.List_.Signs.length≤9223372036854775807):Ag (O6 p) (Ie p):=by
  unfold O6 Ie
  refine Ag.bif rfl (fun _=>Ag.some _) fun _=>?_
  refine Ag.bif rfl (fun _=>Ag.some _) fun _=>?_
  refine Ag.bind (Ag.Am fun i x s hx=>?_) fun o _ _=>Ag.on fun _ _=>?_
  ·have hi:=(List.getElem?_eq_some_iff.1 hx).1
   have hI:=rI x.List_ (h3 x (Ajr hx)).1 (h3 x (Ajr hx)).2
   unfold Na Hk
   refine Ag.bif rfl (fun _=>Ag.some _) fun _=>?_
   refine Ag.bif rfl (fun _=>Ag.some _) fun _=>?_
   refine Ag.bif rfl (fun h0=>?_) fun _=>?_
   ·obtain⟨y,hy,_⟩:=dN hi (by have:=Ajn h0;omega) (by omega)
    refine Ag.bind ⟨y,hy,hy⟩ fun y _ _=>?_
    refine Ag.bif rfl (fun _=>Ag.some _) fun _=>?_
    exact Ag.bind hI fun z _ _=>Ag.bif rfl (fun _=>Ag.some _) fun _=>Ag.some _
   ·exact Ag.bind hI fun z _ _=>Ag.bif rfl (fun _=>Ag.some _) fun _=>Ag.some _
  ·unfold M9 Oo
   refine Ag.bind (Ag.Am fun i x s hx=>?_) fun o _ _=>Ag.on fun _ _=>Ag.some _
   have hi:=(List.getElem?_eq_some_iff.1 hx).1
   have hat:Tot (On p x.Run):=by
     unfold On
     refine Tot.bind (Tot.Am fun i x s _=>?_) fun o _=>Tot.on fun _=>Tot.some _
     unfold Nz
     exact Tot.bif (fun _=>Tot.some _) fun _=>Tot.some _
   unfold Nb Oq
   refine Ag.bif rfl (fun _=>Ag.some _) fun _=>?_
   refine Ag.bif rfl (fun _=>Ag.some _) fun _=>?_
   refine Ag.bif rfl (fun _=>Ag.some _) fun _=>?_
   refine Ag.bif rfl (fun _=>Ag.some _) fun _=>?_
   rw[Py (by omega),mN,Option.bind_some]
   have hat2:Ag ((Lb p x.Run).bind fun y5=>(bif (decide (y5<(0:Int)))then some (Out.ret (8:Int))else some (Out.next ()))) ((On p x.Run).bind fun y6=>(bif (decide (y6<(0:Int)))then some (Out.ret (8:Int))else some (Out.next ()))):=
     Ag.bind (a:=Lb p x.Run) (b:=On p x.Run) (Ag.refl hat) fun z _ _=>Ag.bif rfl (fun _=>Ag.some _) fun _=>Ag.some _
   rcases Xf (step:=Kp p x) (n:=i) (s:=()) (by omega) (fun j _=>∀ y∈p.Hazards.take j,y.ID≠x.ID) (fun r=>r= .ret 7∧∃ y∈p.Hazards.take i,y.ID=x.ID) (by simp) (fun j s hj hI=>by
       have hy:p.Hazards[j]? =some (p.Hazards[j]'(by omega)):=Ajq (by omega)
       generalize (p.Hazards[j]'(by omega))=y at hy
       unfold Kp
       rw[Ru rfl hy,Option.bind_some]
       by_cases e:y.ID=x.ID
       ·rw[Ajo e]
        exact .inr ⟨_,rfl,rfl,y,Ajr (by rw[List.getElem?_take,if_pos hj];exact hy),e⟩
       ·rw[Ajp e]
        refine .inl ⟨_,rfl,fun z hz=>?_⟩
        rw[B3 hy,List.mem_append,List.mem_singleton]at hz
        rcases hz with hz | rfl
        ·exact hI z hz
        ·exact e)with ⟨s',e1,e2⟩ | ⟨r,e1,rfl,e2⟩
   ·have e3:(p.Hazards.take i).findIdx? (fun y=>decide (y.ID=x.ID))=none:=by
      rw[List.findIdx?_eq_none_iff];intro y hy;simpa using e2 y hy
    rw[e1,e3]
    exact hat2
   ·rw[e1]
    cases e3:(p.Hazards.take i).findIdx? (fun y=>decide (y.ID=x.ID))with
    | none=>
      rw[List.findIdx?_eq_none_iff]at e3
      obtain⟨y,hy,e⟩:=e2
      have:=e3 y hy;simp[e]at this
    | some j=>
      show Ag (bif decide ((0:Int)≤((j:Nat):Int))then _ else _) _
      rw[Ajo (Int.natCast_nonneg j)]
      exact Ag.some _
theorem qL (l:List Cx) (hl:l.length≤1000):Ag (Mi l) (Qo l):=by
  refine Ag.n0 ?_ rfl
  unfold Mi
  refine Tot.bif (fun _=>Tot.some _) fun _=>?_
  refine Tot.bind (Tot.Am fun i x s hx=>?_) fun o _=>Tot.on fun _=>Tot.some _
  have hi:=(List.getElem?_eq_some_iff.1 hx).1
  unfold Ln
  repeat' first | exact Tot.some _ | (refine Tot.pred hi ‹_› (by omega) fun y=>?_) | refine Tot.bif (fun h0=>?_) (fun _=>?_)
theorem m0 (l:List Int) (hl:l.length≤9223372036854775807):Tot (Ku l):=by
  unfold Ku
  refine Tot.bind (Tot.Am fun i x s hx=>?_) fun o _=>Tot.on fun _=>Tot.some _
  have hi:=(List.getElem?_eq_some_iff.1 hx).1
  unfold Hp
  repeat' first | exact Tot.some _ | (refine Tot.pred hi ‹_› (by omega) fun y=>?_) | refine Tot.bif (fun h0=>?_) (fun _=>?_)
def qE (b:Bp):Prop:=1≤b.Version∧b.Version≤1000000∧0≤b.Span.From∧b.Span.From<b.Span.To∧b.Span.To≤20000000∧0≤b.Low∧b.Low<b.High∧b.High≤6000∧1≤b.Level∧b.Level≤5
instance (b:Bp):Decidable (qE b):=by unfold qE;infer_instance
theorem xU (b:Bp):Hx b=some (decide (qE b)):=by
  unfold Hx;simp only[bf,bt]
  congr 1
  rw[decide_eq_decide];unfold qE;omega
theorem j7 (l:List Bp) (i:Nat) (x:Bp):Eh l i x ()=E1 l i x ():=by
  unfold Eh E1
  rw[xU,Option.bind_some]
  by_cases h:qE x
  ·obtain⟨h1,h2,h3,h4,h5,h6,h7,h8,h9,h10⟩:=id h
   rw[Ajo h,Ajp (p:=x.Version<1) (by omega),Ajp (p:=(1000000:Int)<x.Version) (by omega),Ajp (p:=x.Span.From<0) (by omega),Ajp (p:=x.Span.To≤x.Span.From) (by omega),Ajp (p:=(20000000:Int)<x.Span.To) (by omega),Ajp (p:=x.Low<0) (by omega),Ajp (p:=x.High≤x.Low) (by omega),Ajp (p:=(6000:Int)<x.High) (by omega),Ajp (p:=x.Level<1) (by omega),Ajp (p:=(5:Int)<x.Level) (by omega)]
   rfl
  ·rw[Ajp h]
   show some (Out.ret (2:Int))=_
   by_cases h1:x.Version<1
   ·rw[Ajo h1];rfl
   rw[Ajp h1]
   by_cases h2:(1000000:Int)<x.Version
   ·rw[Ajo h2];rfl
   rw[Ajp h2]
   by_cases h3:x.Span.From<0
   ·rw[Ajo h3];rfl
   rw[Ajp h3]
   by_cases h4:x.Span.To≤x.Span.From
   ·rw[Ajo h4];rfl
   rw[Ajp h4]
   by_cases h5:(20000000:Int)<x.Span.To
   ·rw[Ajo h5];rfl
   rw[Ajp h5]
   by_cases h6:x.Low<0
   ·rw[Ajo h6];rfl
   rw[Ajp h6]
   by_cases h7:x.High≤x.Low
   ·rw[Ajo h7];rfl
   rw[Ajp h7]
   by_cases h8:(6000:Int)<x.High
   ·rw[Ajo h8];rfl
   rw[Ajp h8]
   by_cases h9:x.Level<1
   ·rw[Ajo h9];rfl
   rw[Ajp h9]
   by_cases h10:(5:Int)<x.Level
   ·rw[Ajo h10];rfl
   exact absurd ⟨by omega,by omega,by omega,by omega,by omega,by omega,by omega,by omega,by omega,by omega⟩ h
theorem pM (l:List Bp) (hl:l.length≤1000) (hz:∀ b∈l,b.Zones.length≤9223372036854775807):Ag (Hy l) (Ii l):=by
  refine Ag.n0 ?_ ?_
  ·unfold Hy
   refine Tot.bif (fun _=>Tot.some _) fun _=>?_
   refine Tot.bind (Tot.Am fun i x s hx=>?_) fun o _=>Tot.on fun _=>Tot.some _
   have hi:=(List.getElem?_eq_some_iff.1 hx).1
   unfold Eh
   rw[xU,Option.bind_some]
   refine Tot.bif (fun _=>Tot.some _) fun _=>?_
   refine Tot.bind (m0 x.Zones (hz x (Ajr hx))) fun y _=>?_
   refine Tot.bif (fun _=>Tot.some _) fun _=>?_
   refine Tot.bif (fun h0=>?_) fun _=>Tot.some _
   exact Tot.pred hi h0 (by omega) fun y=>Tot.bif (fun _=>Tot.some _) fun _=>Tot.some _
  ·unfold Hy Ii
   have:Eh l=E1 l:=by funext i x s;exact j7 l i x
   rw[this]
theorem mM (n lo hi:Int):Ms n lo hi=some (decide (lo≤n∧n≤hi)):=by unfold Ms;exact in2
theorem yW (n lo hi:Int):Kz n lo hi=some (decide (lo≤n∧n≤hi)):=by unfold Kz;exact in2
def lU (m:Bi):Prop:=1≤m.ID∧m.ID≤9999∧1≤m.Slide∧m.Slide≤9999∧1≤m.By∧m.By≤9999∧0≤m.State∧m.State≤6∧0≤m.Since∧m.Since≤20000000∧0≤m.Window.From∧m.Window.From<m.Window.To∧m.Window.To≤20000000
instance (m:Bi):Decidable (lU m):=by unfold lU;infer_instance
theorem Aah (m:Bi):M0 m=some (decide (lU m)):=by
  unfold M0;simp only[bf,bt]
  congr 1
  rw[decide_eq_decide];unfold lU;omega
theorem pO (m:Bi):P3 m=some (decide (0≤m.State∧m.State≤4)):=by
  unfold P3 Iw Et
  by_cases h0:m.State=0
  ·rw[Ajo h0,Ajo (p:=0≤m.State∧m.State≤4) (by omega)];rfl
  ·by_cases h1:m.State=1
   ·rw[Ajp h0,Ajo h1,Ajo (p:=0≤m.State∧m.State≤4) (by omega)];rfl
   ·by_cases h2:m.State=2
    ·rw[Ajp h0,Ajp h1,Ajo h2,Ajo (p:=0≤m.State∧m.State≤4) (by omega)];rfl
    ·by_cases h3:m.State=3
     ·rw[Ajp h0,Ajp h1,Ajp h2,Ajo h3,Ajo (p:=0≤m.State∧m.State≤4) (by omega)];rfl
     ·by_cases h4:m.State=4
      ·rw[Ajp h0,Ajp h1,Ajp h2,Ajp h3,Ajo h4,Ajo (p:=0≤m.State∧m.State≤4) (by omega)];rfl
      ·rw[Ajp h0,Ajp h1,Ajp h2,Ajp h3,Ajp h4,Ajp (p:=0≤m.State∧m.State≤4) (by omega)];rfl
theorem gS (m:Bi):Np m=some (decide (0≤m.State∧m.State≤4)):=by unfold Np;rw[mM];rfl
def opn (m:Bi):Bool:=decide (0≤m.State∧m.State≤4)
theorem v8 (l:List Bi) (s:Int):Qm l s=some (l.any fun x=>opn x&&decide (x.Slide=s)):=by
  unfold Qm
  rw[Fm (fun x=>opn x&&decide (x.Slide=s)) (fun _=>true) (fun k x _=>by
   unfold Ou;rw[gS,Option.bind_some];show(bif opn x then _ else _)=_
   cases opn x<;>cases decide (x.Slide=s)<;>rfl)]
  cases h:l.find? (fun x=>opn x&&decide (x.Slide=s))with
  | none=>
    have:(l.any fun x=>opn x&&decide (x.Slide=s))=false:=by
      rw[List.any_eq_false];rw[List.find?_eq_none]at h;exact h
    rw[this];rfl
  | some x=>
    have:(l.any fun x=>opn x&&decide (x.Slide=s))=true:=by
      rw[List.any_eq_true];exact⟨x,List.mem_of_find?_eq_some h,List.find?_some (p:=fun x=>opn x&&decide (x.Slide=s)) h⟩
    rw[this];rfl
theorem rW (l:List Bi) (i:Nat) (x:Bi) (hi:i<l.length) (hl:l.length≤1000) :
    ((Ka (H3 l i x) i ()).bind fun o4=>o4.on fun s4=>some (Out.next ()))=(some (bif opn x&&((l.take i).any fun y=>opn y&&decide (y.Slide=x.Slide))then Out.ret (15:Int)else Out.next ()):Option (Out Unit Int)):=by
  rcases Xf (step:=H3 l i x) (n:=i) (s:=()) (by omega) (fun j _=>∀ y∈l.take j,¬ (opn x=true∧opn y=true∧y.Slide=x.Slide)) (fun r=>r= .ret 15∧∃ y∈l.take i,opn x=true∧opn y=true∧y.Slide=x.Slide) (by simp) (fun j s hj hI=>by
      have hy:l[j]? =some (l[j]'(by omega)):=Ajq (by omega)
      generalize (l[j]'(by omega))=y at hy
      have hyt:(l.take i)[j]? =some y:=by rw[List.getElem?_take,if_pos hj];exact hy
      unfold H3
      rw[Ru rfl hyt,Option.bind_some,pO,pO,Option.bind_some,Option.bind_some]
      show(∃ s',(bif opn x then bif opn y then _ else _ else _)=_∧_)∨(∃ r,(bif opn x then bif opn y then _ else _ else _)=_∧_)
      by_cases e:opn x=true∧opn y=true∧y.Slide=x.Slide
      ·rw[e.1,e.2.1,Ajo e.2.2]
       exact .inr ⟨_,rfl,rfl,y,Ajr hyt,e.1 ▸ e⟩
      ·refine .inl ⟨(),?_,fun z hz=>?_⟩
       ·cases h1:opn x with
        | false=>rfl
        | true=>
          cases h2:opn y with
          | false=>rfl
          | true=>rw[Ajp (fun h3=>e ⟨h1,h2,h3⟩)];rfl
       ·rw[B3 hy,List.mem_append,List.mem_singleton]at hz
        rcases hz with hz | rfl
        ·exact hI z hz
        ·exact e)with ⟨s',e1,e2⟩ | ⟨r,e1,rfl,y,hy,e2,e3,e4⟩
  ·rw[e1]
   have:(opn x&&((l.take i).any fun y=>opn y&&decide (y.Slide=x.Slide)))=false:=by
     rw[Bool.and_eq_false_iff]
     by_cases hx:opn x=true
     ·right
      rw[List.any_eq_false]
      intro y hy h
      simp at h
      exact e2 y hy ⟨hx,h.1,h.2⟩
     ·left;simpa using hx
   rw[this];rfl
  ·rw[e1]
   have:(opn x&&((l.take i).any fun y=>opn y&&decide (y.Slide=x.Slide)))=true:=by
     rw[Bool.and_eq_true]
     exact⟨e2,List.any_eq_true.2 ⟨y,hy,by simp[e3,e4]⟩⟩
   rw[this];rfl
theorem uU (l:List Bi) (n:Int):Tot (N1 l n):=by
  unfold N1
  refine Tot.bind (Tot.Am fun i x s _=>?_) fun o _=>Tot.on fun _=>Tot.some _
  unfold Ov
  exact Tot.bif (fun _=>Tot.some _) fun _=>Tot.some _
theorem xV (l:List Bi) (hl:l.length≤1000):Ag (Q1 l) (Ih l):=by
  unfold Q1 Ih
  refine Ag.bif rfl (fun _=>Ag.some _) fun _=>?_
  refine Ag.bind (Ag.Am fun i x s hx=>?_) fun o _ _=>Ag.on fun _ _=>Ag.some _
  have hi:=(List.getElem?_eq_some_iff.1 hx).1
  unfold Pk Hm
  simp only[Aah,mM,Option.bind_some]
  rw[tF (x:=x.Window.From),zL (x:=x.Window.To),tF (y:=x.Window.To)]
  simp only[ba]
  rw[show decide (lU x)=decide ((1≤x.ID∧x.ID≤9999)∧(1≤x.Slide∧x.Slide≤9999)∧(1≤x.By∧x.By≤9999)∧(0≤x.State∧x.State≤6)∧(0≤x.Since∧x.Since≤20000000)∧0≤x.Window.From∧x.Window.From<x.Window.To∧x.Window.To≤20000000) from by rw[decide_eq_decide];unfold lU;omega]
  refine Ag.bif rfl (fun _=>Ag.some _) fun _=>?_
  have ho:∀ {α:Type} (o:Option α),okB (decide ((0:Int)≤((i:Nat):Int)∧((i:Nat):Int)≤((l.length:Nat):Int))) o=o:=fun o=>Py (by omega)
  simp only[ho]
  refine Ag.bind (a:=Vv (l.take i) x.ID) (b:=N1 (l.take i) x.ID) (Ag.refl (uU _ _)) fun y _ _=>?_
  refine Ag.bif rfl (fun _=>Ag.some _) fun _=>?_
  rw[rW l i x hi hl,gS,Option.bind_some]
  show Ag _ (bif opn x then _ else _)
  cases h:opn x with
  | false=>exact Ag.some _
  | true=>
    rw[cond_true,v8,Option.bind_some,Bool.true_and]
    cases((l.take i).any fun y=>opn y&&decide (y.Slide=x.Slide))<;>exact Ag.some _
def lW (g:B6):Prop:=1≤g.ID∧g.ID≤9999∧1≤g.Node∧g.Node≤9999∧0≤g.Fuel∧g.Fuel≤1000000∧0≤g.State∧g.State≤2∧0≤g.Until∧g.Until≤20000000∧0≤g.To∧g.To≤9999∧0≤g.Run∧g.Run≤9999
instance (m:B6):Decidable (lW m):=by unfold lW;infer_instance
theorem Aam (m:B6):Jh m=some (decide (lW m)):=by
  unfold Jh;simp only[bf,bt]
  congr 1
  rw[decide_eq_decide];unfold lW;omega
theorem oO (l:List B6) (n:Int):∃ r,Qq l n=some r∧(0≤r↔∃ x∈l,x.ID=n):=by
  unfold Qq
  rcases Fa (step:=Ky n) (l:=l) (s:=()) (fun k _=>∀ x∈l.take k,x.ID≠n) (fun r=>0≤r∧∃ x∈l,x.ID=n) (by simp) (fun k x s hk hI=>by
      unfold Ky
      by_cases e:x.ID=n
      ·rw[Ajo e];exact .inr ⟨_,rfl,by omega,x,Ajr hk,e⟩
      ·rw[Ajp e]
       refine .inl ⟨_,rfl,fun z hz=>?_⟩
       rw[B3 hk,List.mem_append,List.mem_singleton]at hz
       rcases hz with hz | rfl
       ·exact hI z hz
       ·exact e)with ⟨s',e1,e2⟩ | ⟨r,e1,e2,e3⟩
  ·rw[List.take_length]at e2
   rw[e1]
   exact⟨_,rfl,by constructor
                  ·intro h;exact absurd h (by decide)
                  ·rintro⟨x,hx,e⟩;exact absurd e (e2 x hx)⟩
  ·rw[e1];exact⟨r,rfl,fun _=>e3,fun _=>e2⟩
theorem rL (l:List B6) (hl:l.length≤1000):Ag (Mx l) (N6 l):=by
  unfold Mx N6
  refine Ag.bif rfl (fun _=>Ag.some _) fun _=>?_
  have key:=lI (step:=Hu) (step':=K0 l) l (fun k sv _=>∀ n,mget false sv n=decide (∃ x∈l.take k,x.ID=n)) (fun i x sv t hx hR=>by
    have hi:=(List.getElem?_eq_some_iff.1 hx).1
    unfold Hu K0
    simp only[Aam,yW,Option.bind_some,ba]
    rw[show decide (lW x)=decide ((1≤x.ID∧x.ID≤9999)∧(1≤x.Node∧x.Node≤9999)∧(0≤x.Fuel∧x.Fuel≤1000000)∧(0≤x.State∧x.State≤2)∧(0≤x.Until∧x.Until≤20000000)∧(0≤x.To∧x.To≤9999)∧0≤x.Run∧x.Run≤9999) from by rw[decide_eq_decide];unfold lW;omega]
    rw[Py (by omega)]
    obtain⟨r,h1,h2⟩:=oO (l.take i) x.ID
    rw[h1,Option.bind_some,hR,show decide ((0:Int)≤r)=decide (∃ y∈l.take i,y.ID=x.ID) from by rw[decide_eq_decide];exact h2]
    generalize (!decide ((1≤x.ID∧x.ID≤9999)∧(1≤x.Node∧x.Node≤9999)∧(0≤x.Fuel∧x.Fuel≤1000000)∧(0≤x.State∧x.State≤2)∧(0≤x.Until∧x.Until≤20000000)∧(0≤x.To∧x.To≤9999)∧0≤x.Run∧x.Run≤9999))=b1
    generalize hb2:decide (∃ y∈l.take i,y.ID=x.ID)=b2
    generalize (decide (x.To≠0) !=decide (x.State=1))=b3
    generalize (decide (x.Run≠0) !=decide (x.State=2))=b4
    cases b1 with
    | true=>exact .inr ⟨_,rfl,rfl⟩
    | false=>
      cases b2 with
      | true=>exact .inr ⟨_,rfl,rfl⟩
      | false=>
        cases b3 with
        | true=>exact .inr ⟨_,rfl,rfl⟩
        | false=>
          cases b4 with
          | true=>exact .inr ⟨_,rfl,rfl⟩
          | false=>
            refine .inl ⟨_,_,rfl,rfl,fun n=>?_⟩
            rw[Yc,hR]
            by_cases e:x.ID=n
            ·subst e
             rw[if_pos rfl,eq_comm,decide_eq_true_iff]
             exact⟨x,by rw[B3 hx];simp,rfl⟩
            ·rw[if_neg e,decide_eq_decide,B3 hx]
             constructor
             ·rintro⟨y,hy,e'⟩;exact⟨y,List.mem_append_left _ hy,e'⟩
             ·rintro⟨y,hy,e'⟩
              rw[List.mem_append,List.mem_singleton]at hy
              rcases hy with hy | rfl
              ·exact⟨y,hy,e'⟩
              ·exact absurd e' e) l.length 0 [] () rfl (Nat.zero_le _) (fun n=>by simp[mget])
  rw[List.drop_zero]at key
  rcases key with⟨s',t',h1,h2,_⟩ | ⟨r,h1,h2⟩
  ·rw[h1,h2];exact Ag.some _
  ·rw[h1,h2];exact Ag.some _
theorem Aac (m:Be):gM m=Mh m:=rfl
theorem Aai (m:Be):Ag (Mh m) (Ij m):=by
  obtain⟨r,h1,h2,_⟩:=Wr m
  exact⟨r,by rw[← Aac];exact h1,h2⟩
theorem S6 (m:Be) (id:Int):Ey m id=some (J9 m id):=Xg fun _ _ _=>rfl
theorem aI (m:Be) (id:Int):Lw m id=some (J9 m id):=Xg fun _ _ _=>rfl
theorem v7 (m:Be) (id:Int):Oi m id=some (Abi m id):=Xg fun _ _ _=>rfl
theorem vZ (m:Be) (id:Int):Dy m id=some (Cw m id):=Xg fun _ _ _=>rfl
structure sG (f:Ak):Prop where
  closures:f.Closures.length≤12
  lists:f.Patrol.Bv.length≤12
  hazards:f.Patrol.Hazards.length≤12
  surfaces:f.Surfaces.length≤12
  slides:f.Slides.length≤12
  bulletin:f.Bulletin.length≤12
  missions:f.Missions.length≤12
  winches:f.Winches.length≤12
  groomers:f.Groomers.length≤12
structure vQ (f:Ak):Prop where
  items:∀ x∈f.Patrol.Bv,x.List_.Items.length≤9223372036854775807∧x.List_.Signs.length≤9223372036854775807
  zones:∀ x∈f.Slides,x.Zones.length≤9223372036854775807∧x.Lifts.length≤9223372036854775807
  bzones:∀ x∈f.Bulletin,x.Zones.length≤9223372036854775807
  runs:∀ x∈f.Winches,x.Runs.length≤9223372036854775807
theorem wP (f:Ak) (h:sG f) (hi:vQ f):Ag (E4 f) (Kk f):=by
  obtain⟨y1,a1,b1⟩:=Aai f.Map
  obtain⟨y2,a2,b2⟩:=rS f.Closures (by have:=h.closures;omega)
  obtain⟨y3,a3,b3⟩:=uE f.Patrol (by have:=h.lists;omega) (by have:=h.hazards;omega) (fun x hx=>by have:=hi.items x hx;omega)
  obtain⟨y4,a4,b4⟩:=qL f.Surfaces (by have:=h.surfaces;omega)
  obtain⟨y5,a5,b5,_⟩:=S50.Wr f.Slides ⟨by have:=h.slides;omega,hi.zones⟩
  obtain⟨y6,a6,b6⟩:=pM f.Bulletin (by have:=h.bulletin;omega) hi.bzones
  obtain⟨y7,a7,b7⟩:=xV f.Missions (by have:=h.missions;omega)
  obtain⟨y8,b8,a8,_⟩:=W46.nI hi.runs
  obtain⟨y9,a9,b9⟩:=rL f.Groomers (by have:=h.groomers;omega)
  unfold E4 Kk
  simp only[a1,a2,a3,a4,a5,a6,a7,a8,a9,b1,b2,b3,b4,b5,b6,b7,b8,b9,Option.bind_some]
  have st:∀ (k:Nat) y,[y1,y2,y3,y4,y5,y6,y7,y8,y9][k]? =some y→∀ s:Unit,Fx y1 y2 y3 y4 y5 y6 y7 y8 y9 k () s=(bif decide (y≠0)then some (Out.ret y)else some (Out.next ())):=by
    intro k y hk s
    unfold Fx
    rw[Ru rfl hk];rfl
  unfold Ka
  rw[if_pos (by decide),show List.replicate 9 ()=[(),(),(),(),(),(),(),(),()] from rfl]
  simp only[Am,Nat.zero_add,Nat.reduceAdd]
  simp only[st 0 y1 rfl,st 1 y2 rfl,st 2 y3 rfl,st 3 y4 rfl,st 4 y5 rfl,st 5 y6 rfl,st 6 y7 rfl,st 7 y8 rfl,st 8 y9 rfl]
  by_cases e9:y9=0
  ·subst e9
   cases decide (y1≠0)
   rotate_left
   ·exact⟨_,rfl,rfl⟩
   cases decide (y2≠0)
   rotate_left
   ·exact⟨_,rfl,rfl⟩
   cases decide (y3≠0)
   rotate_left
   ·exact⟨_,rfl,rfl⟩
   cases decide (y4≠0)
   rotate_left
   ·exact⟨_,rfl,rfl⟩
   cases decide (y5≠0)
   rotate_left
   ·exact⟨_,rfl,rfl⟩
   cases decide (y6≠0)
   rotate_left
   ·exact⟨_,rfl,rfl⟩
   cases decide (y7≠0)
   rotate_left
   ·exact⟨_,rfl,rfl⟩
   cases decide (y8≠0)
   rotate_left
   ·exact⟨_,rfl,rfl⟩
   exact⟨_,rfl,rfl⟩
  ·rw[Ajo (p:=y9≠0) e9]
   cases decide (y1≠0)
   rotate_left
   ·exact⟨_,rfl,rfl⟩
   cases decide (y2≠0)
   rotate_left
   ·exact⟨_,rfl,rfl⟩
   cases decide (y3≠0)
   rotate_left
   ·exact⟨_,rfl,rfl⟩
   cases decide (y4≠0)
   rotate_left
   ·exact⟨_,rfl,rfl⟩
   cases decide (y5≠0)
   rotate_left
   ·exact⟨_,rfl,rfl⟩
   cases decide (y6≠0)
   rotate_left
   ·exact⟨_,rfl,rfl⟩
   cases decide (y7≠0)
   rotate_left
   ·exact⟨_,rfl,rfl⟩
   cases decide (y8≠0)
   rotate_left
   ·exact⟨_,rfl,rfl⟩
   exact⟨_,rfl,rfl⟩
theorem kQ (p:Fc):Kg p=K3 p:=rfl
theorem mC (p:Fc):K3 p=some (decide ((0≤p.Natural∧p.Natural≤20000)∧(0≤p.Machine∧p.Machine≤20000)∧50≤p.Density∧p.Density≤900)):=by
  unfold K3 Uw
  simp only[bt,Option.bind_some]
theorem lH (f:Ak) (h:sG f) (hi:vQ f) (h1:f.Lifts.length≤100) (h2:f.Packs.length≤100) (h3:f.Status.length≤100):Ag (Ge f) (Ic f):=by
  unfold Ge Ic
  refine Ag.bind (wP f h hi) fun y _ _=>?_
  refine Ag.bif rfl (fun _=>Ag.some _) fun _=>?_
  refine Ag.bif rfl (fun _=>Ag.some _) fun _=>?_
  refine Ag.bif rfl (fun _=>Ag.some _) fun _=>?_
  refine Ag.bif rfl (fun _=>Ag.some _) fun _=>?_
  unfold Gn
  rw[qM (Df.Am fun i x s=>by
   unfold D6
   repeat' first | exact Df.ret (by decide) | exact Df.next _ | refine Df.bif (fun _=>?_) (fun _=>?_) | refine Df.bind fun _ _=>?_)]
  refine Ag.bind (Ag.Am fun i x s hx=>?_) fun o _ _=>Ag.on fun _ _=>?_
  ·have hi':=(List.getElem?_eq_some_iff.1 hx).1
   refine Ag.n0 ?_ rfl
   unfold D6
   rw[v7,Option.bind_some]
   repeat' first | exact Tot.some _ | (refine Tot.pred hi' ‹_› (by omega) fun y=>?_) | refine Tot.bif (fun h0=>?_) (fun _=>?_)
  unfold Gm Km
  rw[qM (Df.Am fun i x s=>by
   unfold D5
   repeat' first | exact Df.ret (by decide) | exact Df.next _ | refine Df.bif (fun _=>?_) (fun _=>?_) | refine Df.bind fun _ _=>?_)]
  refine Ag.bind (Ag.Am fun i x s hx=>?_) fun o _ _=>Ag.on fun _ _=>?_
  ·have hi':=(List.getElem?_eq_some_iff.1 hx).1
   refine Ag.n0 ?_ rfl
   unfold D5
   rw[kQ,mC,Option.bind_some]
   repeat' first | exact Tot.some _ | (refine Tot.pred hi' ‹_› (by omega) fun y=>?_) | refine Tot.bif (fun h0=>?_) (fun _=>?_)
  unfold Ga Kl
  rw[qM (Df.Am fun i x s=>by
   unfold Dx
   repeat' first | exact Df.ret (by decide) | exact Df.next _ | refine Df.bif (fun _=>?_) (fun _=>?_) | refine Df.bind fun _ _=>?_)]
  refine Ag.bind (Ag.Am fun i x s hx=>?_) fun o _ _=>Ag.on fun _ _=>?_
  ·have hi':=(List.getElem?_eq_some_iff.1 hx).1
   refine Ag.n0 ?_ rfl
   unfold Dx
   rw[S6,Option.bind_some]
   repeat' first | exact Tot.some _ | (refine Tot.pred hi' ‹_› (by omega) fun y=>?_) | refine Tot.bif (fun h0=>?_) (fun _=>?_)
  refine Ag.refl ?_
  repeat' first | exact Tot.some _ | refine Tot.bif (fun h0=>?_) (fun _=>?_)
def stp (L:List Int→Int→Bool) (s:List Int):List Int:=s.filter (L s)
def iter (L:List Int→Int→Bool):Nat→List Int→List Int
  | 0,s=>s
  | n+1,s=>iter L n (stp L s)
section
variable {L:List Int→Int→Bool}
theorem fZ (s:List Int):(stp L s).Sublist s:=List.filter_sublist
theorem sM {s:List Int} (h:(stp L s).length=s.length):stp L s=s:=(fZ s).eq_of_length h
theorem W6 {s:List Int} (h:stp L s=s):∀ n,iter L n s=s
  | 0=>rfl
  | n+1=>by rw[iter,h];exact W6 h n
theorem Ti:∀ (n:Nat) (s:List Int),s.length≤n→stp L (iter L n s)=iter L n s
  | 0,s,h=>by
    have:s=[]:=List.eq_nil_of_length_eq_zero (by omega)
    subst this;rfl
  | n+1,s,h=>by
    by_cases e:stp L s=s
    ·rw[W6 e];exact e
    ·have h1:=(fZ (L:=L) s).length_le
     have h2:(stp L s).length≠s.length:=fun h=>e (sM h)
     exact Ti n _ (by omega)
theorem iM:∀ (n m:Nat) (s:List Int),iter L (n+m) s=iter L m (iter L n s)
  | 0,m,s=>by rw[Nat.zero_add];rfl
  | n+1,m,s=>by rw[Nat.succ_add];exact iM n m _
theorem iter_eq {s:List Int} {n m:Nat} (hn:stp L (iter L n s)=iter L n s) (hm:stp L (iter L m s)=iter L m s):iter L n s=iter L m s:=by
  have h1:=W6 hn m
  have h2:=W6 hm n
  rw[← iM]at h1 h2
  rw[← h1,Nat.add_comm,h2]
theorem oL:∀ (n:Nat) (s:List Int),(iter L n s).Sublist s
  | 0,s=>List.Sublist.refl _
  | n+1,s=>(oL n _).trans (fZ s)
def gfp (L:List Int→Int→Bool) (s:List Int):List Int:=iter L s.length s
theorem rM (s:List Int):stp L (gfp L s)=gfp L s:=Ti _ _ (Nat.le_refl _)
theorem eT {s:List Int} {n:Nat} (h:stp L (iter L n s)=iter L n s):iter L n s=gfp L s:=iter_eq h (rM s)
end
theorem U5 {α:Type} {step:Nat→α→Unit→Option (Out Unit Bool)} {l:List α} (p:α→Bool) (hs:∀ k x,x∈l→step k x ()=bif p x then some (.ret true)else some (.next ())) :
    ((Am step 0 l ()).bind fun o=>o.on fun _=>some false)=some (l.any p):=by
  rw[Fm p (fun _=>true) hs]
  cases h:l.find? p with
  | none=>
    have:l.any p=false:=by rw[List.any_eq_false];rw[List.find?_eq_none]at h;exact h
    rw[this];rfl
  | some x=>
    have:l.any p=true:=by rw[List.any_eq_true];exact⟨x,List.mem_of_find?_eq_some h,List.find?_some h⟩
    rw[this];rfl
theorem sX {α:Type} {step:Nat→α→Unit→Option (Out Unit Int)} {l:List α} (p:α→Bool) (hs:∀ k x,x∈l→step k x ()=bif p x then some (.ret ((k:Nat):Int))else some (.next ())) :
    ∃ r,((Am step 0 l ()).bind fun o=>o.on fun _=>some (-1:Int))=some r∧((r= -1∧∀ x∈l,p x=false)∨∃ (k:Nat) (x:α),r=(k:Int)∧l[k]? =some x∧p x=true):=by
  rcases Fa (step:=step) (l:=l) (s:=()) (fun k _=>∀ x∈l.take k,p x=false) (fun r=>∃ (k:Nat) (x:α),r=(k:Int)∧l[k]? =some x∧p x=true) (by simp) (fun k x s hk hI=>by
      rw[hs k x (Ajr hk)]
      cases h:p x with
      | true=>exact .inr ⟨_,rfl,k,x,rfl,hk,h⟩
      | false=>
        refine .inl ⟨_,rfl,fun z hz=>?_⟩
        rw[B3 hk,List.mem_append,List.mem_singleton]at hz
        rcases hz with hz | rfl
        ·exact hI z hz
        ·exact h)with ⟨s',e1,e2⟩ | ⟨r,e1,e2⟩
  ·rw[List.take_length]at e2
   rw[e1];exact⟨_,rfl,.inl ⟨rfl,e2⟩⟩
  ·rw[e1];exact⟨r,rfl,.inr e2⟩
def clo (l:List Bn) (kind target:Int):Bool:=l.any fun c=>decide (c.Kind=kind)&&decide (c.Target=target)
theorem lP (l:List Bn) (kind target:Int):Hw l kind target=some (clo l kind target):=by
  unfold Hw clo
  refine U5 _ fun k x _=>?_
  unfold J5
  rw[Ajo (Int.natCast_nonneg k)]
  cases decide (x.Kind=kind)<;>cases decide (x.Target=target)<;>rfl
theorem q0 (l:List Bn) (a b c:Int):∃ r,Fl l a b c=some r∧(0≤r↔∃ x∈l,x.Kind=a∧x.Target=b∧x.By=c):=by
  unfold Fl
  obtain⟨r,h1,h2⟩:=sX (step:=Ez a b c) (l:=l) (fun x=>decide (x.Kind=a)&&(decide (x.Target=b)&&decide (x.By=c))) (fun k x _=>by
    unfold Ez
    cases decide (x.Kind=a)<;>cases decide (x.Target=b)<;>cases decide (x.By=c)<;>rfl)
  refine⟨r,h1,?_⟩
  rcases h2 with⟨rfl,h2⟩ | ⟨k,x,rfl,h3,h4⟩
  ·constructor
   ·intro h;exact absurd h (by decide)
   ·rintro⟨x,hx,e1,e2,e3⟩
    have:=h2 x hx
    simp[e1,e2,e3]at this
  ·simp at h4
   exact⟨fun _=>⟨x,Ajr h3,h4.1,h4.2.1,h4.2.2⟩,fun _=>Int.natCast_nonneg k⟩
theorem of_eq {l:List Bn} (hb:∀ c∈l,1≤c.By∧c.By≤6) (kind target:Int):∃ r,Sd l kind target=some r∧decide ((0:Int)<((r.length:Nat):Int))=clo l kind target:=by
  unfold Sd
  obtain⟨s',h1,h2,h3⟩:=bC (ρ:=List Int) (n:=6) (step:=Ql l kind target) (s:=[]) (by omega) (fun k s=>s.length≤k∧(s≠[]↔∃ x∈l,x.Kind=kind∧x.Target=target∧x.By≤k)) ⟨by simp,by
      constructor
      ·intro h;exact absurd rfl h
      ·rintro⟨x,hx,_,_,h⟩;have:=(hb x hx).1;omega⟩ (fun k s hk ⟨hI1,hI2⟩=>by
    obtain⟨r,h1,h2⟩:=q0 l kind target (((k:Nat):Int)+1)
    unfold Ql
    rw[h1,Option.bind_some]
    by_cases h:0≤r
    ·rw[Ajo h,cond_true,Cj (by omega)]
     refine⟨_,rfl,by simp;omega,?_⟩
     obtain⟨x,hx,e1,e2,e3⟩:=h2.1 h
     exact⟨fun _=>⟨x,hx,e1,e2,by rw[e3];omega⟩,fun _=>by simp⟩
    ·rw[Ajp h]
     refine⟨_,rfl,by omega,?_⟩
     rw[hI2]
     constructor
     ·rintro⟨x,hx,e1,e2,e3⟩;exact⟨x,hx,e1,e2,by omega⟩
     ·rintro⟨x,hx,e1,e2,e3⟩
      refine⟨x,hx,e1,e2,?_⟩
      by_cases e:x.By=(k:Int)+1
      ·exact absurd (h2.2 ⟨x,hx,e1,e2,e⟩) h
      ·omega)
  rw[h1]
  refine⟨s',rfl,?_⟩
  have:(0:Int)<((s'.length:Nat):Int)↔s'≠[]:=by
    constructor
    ·intro h e;subst e;simp at h
    ·intro h;have:=List.length_pos_iff.2 h;omega
  unfold clo
  rw[Bool.eq_iff_iff,decide_eq_true_iff,this,h3,List.any_eq_true]
  constructor
  ·rintro⟨x,hx,e1,e2,_⟩;exact⟨x,hx,by simp[e1,e2]⟩
  ·rintro⟨x,hx,e⟩;simp at e;exact⟨x,hx,e.1,e.2,(hb x hx).2⟩
theorem zG (m:Be) (l:List Bn) (run:Int) (h:(J9 m run).2=true):Q0 m l run=some (clo l 1 run||clo l 3 (J9 m run).1.Zone):=by
  unfold Q0
  rw[S6,Option.bind_some,h,cond_true,lP,lP,Option.bind_some]
  cases clo l 1 run<;>rfl
theorem wM {m:Be} {l:List Bn} (hb:∀ c∈l,1≤c.By∧c.By≤6) (run:Int) (h:(J9 m run).2=true):Ur m l run=some (clo l 1 run||clo l 3 (J9 m run).1.Zone):=by
  obtain⟨r1,h1,h2⟩:=of_eq hb 1 run
  obtain⟨r3,h3,h4⟩:=of_eq hb 3 (J9 m run).1.Zone
  unfold Ur
  rw[aI,Option.bind_some,h,cond_true,h1,Option.bind_some,h2,h3,Option.bind_some,h4]
  cases clo l 1 run<;>rfl
def gon (l:List B6) (run:Int):Bool:=l.any fun g=>decide (g.State=2)&&decide (g.Run=run)
theorem Aan (l:List B6) (run:Int):Sp l run=some (gon l run):=by
  unfold Sp gon
  refine U5 _ fun k x _=>?_
  unfold Qe
  rw[Ajo (Int.natCast_nonneg k)]
  cases decide (x.State=2)<;>cases decide (x.Run=run)<;>rfl
theorem yI (l:List B6) (run:Int):Ww l run=some (gon l run):=by
  unfold Ww gon
  refine U5 _ fun k x _=>?_
  unfold Tf
  cases decide (x.State=2)<;>cases decide (x.Run=run)<;>rfl
theorem Zi (l:List Int) (n:Int):Hj l n=some (decide (n∈l)):=W9 fun k x hx=>rfl
def act (m:Bi):Bool:=decide (1≤m.State∧m.State≤4)
theorem Aay (m:Bi):Iw m=some (act m):=by
  unfold Iw Et act
  by_cases h1:m.State=1
  ·rw[Ajo h1,Ajo (p:=1≤m.State∧m.State≤4) (by omega)];rfl
  ·by_cases h2:m.State=2
   ·rw[Ajp h1,Ajo h2,Ajo (p:=1≤m.State∧m.State≤4) (by omega)];rfl
   ·by_cases h3:m.State=3
    ·rw[Ajp h1,Ajp h2,Ajo h3,Ajo (p:=1≤m.State∧m.State≤4) (by omega)];rfl
    ·by_cases h4:m.State=4
     ·rw[Ajp h1,Ajp h2,Ajp h3,Ajo h4,Ajo (p:=1≤m.State∧m.State≤4) (by omega)];rfl
     ·rw[Ajp h1,Ajp h2,Ajp h3,Ajp h4,Ajp (p:=1≤m.State∧m.State≤4) (by omega)];rfl
def acts (l:List Bi):List Int:=(l.filter act).map Bi.Slide
theorem rY {l:List Bi} (hl:l.length≤1000):L9 l=some (Db (acts l)):=by
  unfold L9
  rw[C0 (p:=act) (g:=Bi.Slide) (by omega) (fun k x s _=>by unfold Ng;rw[Aay,Option.bind_some])]
  show chk (acts l).length _=_
  rw[Cj (by have:=List.length_filter_le act l;unfold acts;rw[List.length_map];omega)];rfl
theorem l9 (l:List Bi) (last:Int) (h0:0≤last) (hr:∀ m∈l,1≤m.Slide):∃ s,Am (Gd last) 0 l 0=some (.next s)∧((s=0∧∀ n∈acts l,n≤last)∨(s∈acts l∧last<s∧∀ n∈acts l,last<n→s≤n)):=by
  obtain⟨s',h1,h2⟩:=Du (ρ:=Out (Int×List Int) (List Int)) (step:=Gd last) (l:=l) (s:=0) (fun k s=>(s=0∧∀ n∈acts (l.take k),n≤last)∨(s∈acts (l.take k)∧last<s∧∀ n∈acts (l.take k),last<n→s≤n)) (.inl ⟨rfl,by simp[acts]⟩) (fun k x s hk hI=>by
    have hx:=Ajr hk
    have hx1:=hr x hx
    have e:acts (l.take (k+1))=acts (l.take k)++(if act x=true then [x.Slide]else []):=by
      unfold acts;rw[B3 hk,List.filter_append,List.map_append]
      cases h:act x<;>simp[h]
    unfold Gd
    rw[gS,Option.bind_some,e]
    by_cases ha:1≤x.State∧x.State≤4
    ·have hact:act x=true:=Ajo ha
     rw[Ajo (p:=0≤x.State∧x.State≤4) (by omega),Ajo (p:=x.State≠0) (by omega),if_pos hact]
     simp only[cond_true]
     by_cases hl:last<x.Slide
     ·rw[Ajo hl,cond_true]
      by_cases hs:s=0
      ·rw[Ajo hs]
       refine⟨_,rfl,.inr ⟨by simp,hl,fun n hn hln=>?_⟩⟩
       rcases hI with⟨_,hI⟩ | ⟨hI1,hI2,_⟩
       ·rw[List.mem_append,List.mem_singleton]at hn
        rcases hn with hn | rfl
        ·have:=hI n hn;omega
        ·exact Int.le_refl _
       ·omega
      ·rw[Ajp hs,cond_false]
       rcases hI with⟨h,_⟩ | ⟨hI1,hI2,hI3⟩
       ·exact absurd h hs
       by_cases hlt:x.Slide<s
       ·rw[Ajo hlt]
        refine⟨_,rfl,.inr ⟨by simp,hl,fun n hn hln=>?_⟩⟩
        rw[List.mem_append,List.mem_singleton]at hn
        rcases hn with hn | rfl
        ·have:=hI3 n hn hln;omega
        ·exact Int.le_refl _
       ·rw[Ajp hlt]
        refine⟨_,rfl,.inr ⟨List.mem_append_left _ hI1,hI2,fun n hn hln=>?_⟩⟩
        rw[List.mem_append,List.mem_singleton]at hn
        rcases hn with hn | rfl
        ·exact hI3 n hn hln
        ·omega
     ·rw[Ajp hl]
      refine⟨_,rfl,?_⟩
      rcases hI with⟨h,hI⟩ | ⟨hI1,hI2,hI3⟩
      ·refine .inl ⟨h,fun n hn=>?_⟩
       rw[List.mem_append,List.mem_singleton]at hn
       rcases hn with hn | rfl
       ·exact hI n hn
       ·omega
      ·refine .inr ⟨List.mem_append_left _ hI1,hI2,fun n hn hln=>?_⟩
       rw[List.mem_append,List.mem_singleton]at hn
       rcases hn with hn | rfl
       ·exact hI3 n hn hln
       ·omega
    ·have hact:¬ act x=true:=by unfold act;simpa using ha
     rw[if_neg hact,List.append_nil]
     by_cases h1:0≤x.State∧x.State≤4
     ·rw[Ajo h1,Ajp (p:=x.State≠0) (by omega)];exact⟨_,rfl,hI⟩
     ·rw[Ajp h1];exact⟨_,rfl,hI⟩)
  rw[List.take_length]at h2
  exact⟨s',h1,h2⟩
theorem qX {l:List Bi} (hr:∀ m∈l,1≤m.Slide∧m.Slide≤9999):∃ r,Lt l=some r∧∀ n,n∈r↔n∈acts l:=by
  have hacts:∀ n∈acts l,1≤n∧n≤9999:=by
    intro n hn
    unfold acts at hn
    obtain⟨m,hm,rfl⟩:=List.mem_map.1 hn
    exact hr m (List.mem_filter.1 hm).1
  unfold Lt
  obtain⟨r,h1,h2⟩:=Ik (step:=Jd l) (fun s=>0≤s.1∧s.1≤9999∧(s.2.length:Int)≤s.1∧∀ n,n∈s.2↔n∈acts l∧n≤s.1) (fun r=>∀ n,n∈r↔n∈acts l) (fun s=>(9999 - s.1).toNat) (by
      rintro⟨last,out⟩ ⟨i0,i1,i2,i3⟩
      dsimp only at i0 i1 i2 i3
      obtain⟨s,e1,e2⟩:=l9 l last i0 (fun m hm=>(hr m hm).1)
      unfold Jd
      dsimp only
      rw[e1,Option.bind_some]
      show(∃ s',(bif decide (s=0)then _ else _)=_∧_)∨(∃ r,(bif decide (s=0)then _ else _)=_∧_)
      rcases e2 with⟨rfl,e2⟩ | ⟨e2,e3,e4⟩
      ·exact .inr ⟨out,rfl,fun n=>by rw[i3];exact⟨fun h=>h.1,fun h=>⟨h,e2 n h⟩⟩⟩
      ·have hb:=hacts s e2
       rw[Ajp (by omega),cond_false,Cj (by omega)]
       refine .inl ⟨_,rfl,⟨by dsimp only;omega,by dsimp only;omega,by dsimp only;rw[List.length_append,List.length_singleton];omega,fun n=>?_⟩,by dsimp only;omega⟩
       dsimp only
       rw[List.mem_append,List.mem_singleton,i3]
       constructor
       ·rintro(⟨h,h'⟩ | rfl)
        ·exact⟨h,by omega⟩
        ·exact⟨e2,Int.le_refl _⟩
       ·rintro⟨h,h'⟩
        by_cases hn:n≤last
        ·exact .inl ⟨h,hn⟩
        ·right;have:=e4 n h (by omega);omega) fuel (0,[]) ⟨by simp,by simp,by simp,fun n=>by simp;intro h;have:=hacts n h;omega⟩ (by unfold fuel;dsimp only;omega)
  rw[h1]
  exact⟨r,rfl,h2⟩
def blasted (f:Ak) (zone:Int):Bool:=f.Slides.any fun s=>decide (s.ID∈acts f.Missions)&&decide (zone∈s.Zones)
theorem rV (f:Ak) (zone:Int) (hl:f.Missions.length≤1000):Gr f zone=some (blasted f zone):=by
  unfold Gr blasted
  rw[rY hl,Option.bind_some]
  refine U5 _ fun k x _=>?_
  unfold Gq
  simp only[contains_eq,Option.bind_some,Nx]
  rw[Ajo (Int.natCast_nonneg k)]
  cases decide (x.ID∈acts f.Missions)<;>cases decide (zone∈x.Zones)<;>rfl
theorem nU (f:Ak) (zone:Int) (hr:∀ m∈f.Missions,1≤m.Slide∧m.Slide≤9999):Mn f zone=some (blasted f zone):=by
  obtain⟨r,h1,h2⟩:=qX hr
  unfold Mn blasted
  rw[h1,Option.bind_some]
  refine U5 _ fun k x _=>?_
  unfold Ls
  simp only[Zi,Option.bind_some,h2]
  cases decide (x.ID∈acts f.Missions)<;>cases decide (zone∈x.Zones)<;>rfl
end Go.Proofs.YtjopghiagoidgaaGreat
