/- Our own texts: a layer of abstract values over the model, the walks of the functions, the plain laws; joined and shortened by a small program of our own (wip/dce2.py, wip/pack.py). -/
import Derived.Test.YtjopghiagoidgaaGreatA4
import Derived.Calls
import Derived.Tactics2
import Derived.Below
import Derived.Deep.LoopGhost
import Derived.KernelRfl
import Derived.Laws.Shifts
import Derived.Laws.CopyRow
import Derived.Laws.AppendOwn
import Derived.Laws.MakeOwn
import Derived.Laws.StructEq
import Derived.Maps.RangeRun
import Derived.Lib.SliceRun
import Derived.TacticsIn
import Derived.OrdersIn
import Derived.Sort.LoopGhostIn
import Derived.RangeFuncRecord
import Derived.Orders
import Derived.ProofKit
import Derived.OpenShut
import Derived.ShutString
import Derived.ChangeOld
import Derived.Carry
import Derived.WideShapes
import Derived.ChangeArms
import Derived.ChangeShapes
import Derived.Handed
import Derived.JoinedOf
import Derived.Sort.Grow
import Derived.Lib.SlicesCompact
import Derived.Lib.SlKeysI
import Derived.Maps.Own
import Derived.WideKeyRuns
import Derived.Test.YtjopghiagoidgaaGreatChecked
import Derived.Test.YtjopghiagoidgaaGreatProg
import Derived.Shelf.SortM.Plain
import Derived.Shelf.SortM.SortNone
import Derived.Shelf.SlIterI.Nil
import Derived.Shelf.Slices.CompactI
namespace Go.Proofs.YtjopghiagoidgaaGreat
open Go Go.Ab
attribute [local irreducible] AWP An B7 Ad Go.Ab.Sub alist dlist Bn De D1 Gy
set_option maxRecDepth 100000
set_option maxHeartbeats 4000000
set_option linter.unusedSimpArgs false
set_option linter.unusedVariables false
noncomputable section
def Qv (b:Bp) (t:Int):Option (Bool):=
 (bif (decide (b.Span.From≤t))then some (decide (t<b.Span.To))else some false)
def Lf (t:Int) (k1:Nat) (x_3:Bp) (sv:Int):Option (Out (Int) (Int)):=
 (Qv x_3 t).bind fun y4=>(bif y4 then some (Out.next (if sv<x_3.Version then x_3.Version else sv))else some (Out.next sv))
def L9 (l:List Bp) (t:Int):Option (Int):=
 (Am (Lf t) 0 l 0).bind fun o1=>o1.on fun s1=>some s1
def lE (n_:Int) (k0:Nat) (x_2:Int) (sv:Unit):Option (Out (Unit) (Bool)):=
 (bif (decide (x_2=n_))then some (Out.ret true)else some (Out.next ()))
def jV (l:List Int) (n_:Int):Option (Bool):=
 (Am (lE n_) 0 l ()).bind fun o0=>o0.on fun s0=>some false
def Wl (l:List Bp) (zone:Int) (low:Int) (high:Int) (t:Int) (k1:Nat) (x_3:Bp) (sv:Int):Option (Out (Int) (Int)):=
 (Qv x_3 t).bind fun y4=>(bif y4 then(L9 l t).bind fun y5=>(bif (decide (x_3.Version=y5))then (jV x_3.Zones zone).bind fun y6=>(bif y6 then(bif (decide (x_3.Low<high))then (bif (decide (low<x_3.High))then some (Out.next (if sv<x_3.Level then x_3.Level else sv))else some (Out.next sv))else some (Out.next sv))else some (Out.next sv))else some (Out.next sv))else some (Out.next sv))
def Wm (l:List Bp) (zone:Int) (low:Int) (high:Int) (t:Int):Option (Int):=
 (Am (Wl l zone low high t) 0 l 0).bind fun o1=>o1.on fun s1=>some s1
def Mk (f_:Aj) (k2:Nat) (k5:Nat) (x_7:Ce) (sv:Int×Int):Option (Out (Int×Int) (Out ((List Int)) ((List Int)))):=
 (bif (decide (x_7.Zone≠(((k2:Nat):Int)+1)))then some (Out.next (sv.1,sv.2))else (M8 f_.Map x_7.To).bind fun y8=>(bif (decide (y8<sv.1))then (M8 f_.Map x_7.To).bind fun y9=>(M8 f_.Map x_7.From).bind fun y10=>(bif (decide (sv.2<y10))then (M8 f_.Map x_7.From).bind fun y11=>some (Out.next (y9,y11))else some (Out.next (y9,sv.2)))else (M8 f_.Map x_7.From).bind fun y12=>(bif (decide (sv.2<y12))then (M8 f_.Map x_7.From).bind fun y13=>some (Out.next (sv.1,y13))else some (Out.next (sv.1,sv.2)))))
def Gb (f_:Aj) (k2:Nat) (_x:Unit) (sv:(List Int)):Option (Out ((List Int)) ((List Int))):=
 (Am (Mk f_ k2) 0 f_.Map.Runs (9999,(-1))).bind fun o5=>o5.on fun s5=>(bif (decide (0≤s5.2))then (Wm f_.Bulletin (((k2:Nat):Int)+1) s5.1 s5.2 f_.Time).bind fun y14=>chk (sv.length+1) (some (Out.next (sv++[y14])))else chk (sv.length+1) (some (Out.next (sv++[(0:Int)]))))
def Qu (f_:Aj):Option ((List Int)):=
 (J0 (Gb f_) 32 []).bind fun o2=>o2.on fun s2=>some s2
def Wi (l:List Bl) (kind:Int) (target:Int) (k2:Nat) (_x:Unit) (sv:(List Int)):Option (Out ((List Int)) ((List Int))):=
 (Fp l kind target (((k2:Nat):Int)+1)).bind fun y4=>(bif (decide (0≤y4))then chk (sv.length+1) (some (Out.next (sv++[(((k2:Nat):Int)+1)])))else some (Out.next sv))
def Z5 (l:List Bl) (kind:Int) (target:Int):Option ((List Int)):=
 (J0 (Wi l kind target) 6 []).bind fun o2=>o2.on fun s2=>some s2
def bO (m:Bb) (l:List Bl) (run:Int):Option (Bool):=
 (Jc m run).bind fun y1=>(bif y1.2 then(Z5 l 1 run).bind fun y2=>(bif (decide (0<((y2.length:Nat):Int)))then some true else(Z5 l 3 y1.1.Zone).bind fun y3=>some (decide (0<((y3.length:Nat):Int))))else some false)
def dT (run:Int) (k0:Nat) (x_2:B5) (sv:Unit):Option (Out (Unit) (Bool)):=
 (bif (decide (x_2.State=2))then (bif (decide (x_2.Run=run))then some (Out.ret true)else some (Out.next ()))else some (Out.next ()))
def fW (l:List B5) (run:Int):Option (Bool):=
 (Am (dT run) 0 l ()).bind fun o0=>o0.on fun s0=>some false
def Rj (t:Int) (out1:List Int) (k2:Nat) (k3:Nat) (x_5:A8) (sv:Unit):Option (Out (Unit) (Out ((List Int)) ((List Int)))):=
 (bif (decide (x_5.From≤t))then (bif (decide (t<x_5.To))then (Q5 x_5.Runs (((k2:Nat):Int)+1)).bind fun y6=>(bif y6 then chk (out1.length+1) (some (Out.ret (Out.next (out1++[(((k2:Nat):Int)+1)]))))else some (Out.next ()))else some (Out.next ()))else some (Out.next ()))
def Rk (l:List A8) (t:Int) (k2:Nat) (_x:Unit) (sv:(List Int)):Option (Out ((List Int)) ((List Int))):=
 (Am (Rj t sv k2) 0 l ()).bind fun o3=>o3.on fun s3=>some (Out.next sv)
def Wn (l:List A8) (t:Int):Option ((List Int)):=
 (J0 (Rk l t) 9999 []).bind fun o2=>o2.on fun s2=>some s2
def Wg (n_:Int) (k0:Nat) (x_2:Int) (sv:Unit):Option (Out (Unit) (Bool)):=
 (bif (decide (x_2=n_))then some (Out.ret true)else some (Out.next ()))
def Fz (l:List Int) (n_:Int):Option (Bool):=
 (Am (Wg n_) 0 l ()).bind fun o0=>o0.on fun s0=>some false
theorem Yv (l:List Int) (n_:Int) {r:Bool} (h:Fz l n_=some r):Ad Tryz.prog 31 [.sl 1 (l.map A2),.int .i64 n_] (·= .bool r):=by
 refine Ad.nle (Ad.intro Tryz.func31 rfl rfl (by show _≤18;simp) ?_)
 unfold Fz at h
 refine nS (sq ?_)
 refine ar rfl (qn (sq (sq ?_)))
 refine ar rfl (qn (bk ?_))
 obtain⟨o0,hJ0,hO0⟩:=Af h
 clear h
 refine AWP.Bw (ι:=Nat×(Unit)×(Unit)) (fun zz=>[(0,.sl 1 (l.map A2)),(1,.int .i64 n_),(5,.int .i64 ((zz.1:Nat):Int))]) (fun zz=>[]) (fun zz=>zz.1≤l.length∧Am (Wg n_) zz.1 ((l).drop zz.1) zz.2.1=some o0) (fun zz=>l.length - zz.1) (0,(),()) ⟨Nat.zero_le _,hJ0⟩ cu cu (fun x=>⟨rfl,rfl,rfl⟩) ?_
 clear hJ0
 rintro⟨k0,⟨⟩,⟨⟩⟩ ⟨hk0,hJ0⟩
 dsimp only at hk0 hJ0 ⊢
 refine sq (sq ?_)
 refine rg rfl fun K j=>?_
 intro hm
 refine j _ _ (qn ?_)
 refine AWP.cond (Ak (fun hc=>?_) (fun hc=>?_))
 rotate_left
 ·obtain rfl:=Bf hJ0 (fun hl=>by have:=Aiz hc;omega)
  have h:=Be hO0;try dsimp only at h
  have hkl:l.length=k0:=by have:=Aiz hc;omega
  subst hkl
  refine xt (qe (qe (bs (qn (sq (ar rfl (qn (rt ?_))))))))
  cases h;exact en Tryz.results31
 have hlt0:k0<l.length:=by have:=Ai0 hc;omega
 obtain⟨x_2,b0,hx0_,h,hJ0⟩:=A9 hJ0 hlt0
 have hx0:=Ay hx0_
 have hw0:=wk (k:=k0) (by omega)
 unfold Wg at h;try dsimp only at h
 refine sk (qn (sq (bk (sq ?_))))
 refine rg rfl fun K j=>?_
 refine Bn.of (f:=A2) (l:=l) hx0 ?_
 refine nS ?_
 refine j _ _ (qn ?_)
 revert h;refine ca rfl (fun hc h=>?_) fun hc h=>?_
 ·refine sq (ar rfl (qn (rt (br (qr (qr ?_))))))
  obtain rfl:=Aa h
  obtain rfl:=Ae hJ0
  replace h:=Al hO0
  refine br (qr ?_)
  cases h;exact en Tryz.results31
 refine sk (bn (qn (ar rfl (qn ?_))))
 obtain rfl:=Aa h
 refine⟨(k0+1,(),()),⟨by dsimp only;omega,Ai hJ0⟩,by dsimp only;omega,?_,?_⟩
 ·exact cuw hw0
 exact cuw hw0
def Ml (last1:Int) (k5:Nat) (x_7:Bh) (sv:Int):Option (Out (Int) (Out (Int×(List Int)) ((List Int)))):=
 (Mz x_7).bind fun y8=>(bif y8 then(bif (decide (x_7.State≠0))then (bif (decide (last1<x_7.Slide))then (bif (decide (sv=0))then some (Out.next x_7.Slide)else (bif (decide (x_7.Slide<sv))then some (Out.next x_7.Slide)else some (Out.next sv)))else some (Out.next sv))else some (Out.next sv))else some (Out.next sv))
def Qc (l:List Bh) (sv:Int×(List Int)):Option (Out (Int×(List Int)) ((List Int))):=
 (Am (Ml sv.1) 0 l 0).bind fun o5=>o5.on fun s5=>(bif (decide (s5=0))then some (Out.ret sv.2)else chk (sv.2.length+1) (some (Out.next (s5,(sv.2++[s5])))))
def Ux (l:List Bh):Option ((List Int)):=
 (Ea (Qc l) fuel (0,[])).bind fun o3=>o3.on fun _=>none
def Ua (zone:Int) (y1:(List Int)) (k1:Nat) (x_3:Bd) (sv:Unit):Option (Out (Unit) (Bool)):=
 (Fz y1 x_3.ID).bind fun y4=>(bif y4 then(Fz x_3.Zones zone).bind fun y5=>(bif y5 then some (Out.ret true)else some (Out.next ()))else some (Out.next ()))
def S8 (f_:Aj) (zone:Int):Option (Bool):=
 (Ux f_.Missions).bind fun y1=>(Am (Ua zone y1) 0 f_.Slides ()).bind fun o1=>o1.on fun s1=>some false
def Rh (levels:List Int) (k1:Nat) (x_3:Int) (sv:Int):Option (Out (Int) (Int)):=
 (bif (decide (x_3≤((levels.length:Nat):Int)))then (Dk levels (IntKind.i64.wrap (x_3 - 1))).bind fun x_4=>(bif (decide (((k1:Nat):Int)=0))then some (Out.next x_4)else (bif (decide (sv<x_4))then some (Out.next x_4)else some (Out.next sv)))else (bif (decide (((k1:Nat):Int)=0))then some (Out.next 0)else (bif (decide (sv<0))then some (Out.next 0)else some (Out.next sv))))
def dS (s_:Bd) (levels:List Int):Option (Int):=
 (Am (Rh levels) 0 s_.Zones 0).bind fun o1=>o1.on fun s1=>some s1
def Rg (s_:Bd) (levels:List Int):Option (Bool):=
 (dS s_ levels).bind fun y1=>(bif (decide (4<y1))then some true else(bif (decide (y1=4))then some (decide ((IntKind.i64.wrap (Int.tdiv s_.Limit 4))≤s_.Load))else (bif (decide (y1=3))then some (decide ((IntKind.i64.wrap (Int.tdiv s_.Limit 2))≤s_.Load))else some (decide (s_.Limit≤s_.Load)))))
def Rf (at_10:Int) (sv:Int×(List Int)):Option (Out (Int×(List Int)) (Out ((List Int)) (Out ((List Int)) ((List Int))))):=
 (bif (decide (at_10<sv.1))then (Dk sv.2 (IntKind.i64.wrap (sv.1 - 1))).bind fun x_17=>(Dk sv.2 sv.1).bind fun x_18=>(Dk (sv.2.set sv.1.toNat x_17) (IntKind.i64.wrap (sv.1 - 1))).bind fun x_20=>some (Out.next ((IntKind.i64.wrap (sv.1 - 1)),((sv.2.set sv.1.toNat x_17).set (IntKind.i64.wrap (sv.1 - 1)).toNat x_18)))else some (Out.ret (Out.next sv.2)))
def Kh (out6:List Int) (x_9:Int) (at_10:Int):Option (Out ((List Int)) (Out ((List Int)) ((List Int)))):=
 chk (out6.length+1) ((Ea (Rf at_10) fuel ((IntKind.i64.wrap ((((out6.length+1):Nat):Int) - 1)),(out6++[x_9]))).bind fun o15=>o15.on fun _=>none)
def N1 (out6:List Int) (x_9:Int) (at_10:Int):Option (Out ((List Int)) (Out ((List Int)) ((List Int)))):=
 (bif (decide (at_10<((out6.length:Nat):Int)))then (Dk out6 at_10).bind fun x_22=>(bif (decide (x_22=x_9))then some (Out.next out6)else Kh out6 x_9 at_10)else Kh out6 x_9 at_10)
def Re (out6:List Int) (x_9:Int) (sv:Int):Option (Out (Int) (Out ((List Int)) (Out ((List Int)) ((List Int))))):=
 (bif (decide (sv<((out6.length:Nat):Int)))then (Dk out6 sv).bind fun x_25=>(bif (decide (x_25<x_9))then some (Out.next (IntKind.i64.wrap (sv+1)))else (N1 out6 x_9 sv).bind fun q25=>some (Out.ret q25))else (bif false then some (Out.next (IntKind.i64.wrap (sv+1)))else (N1 out6 x_9 sv).bind fun q26=>some (Out.ret q26)))
def Hf (k7:Nat) (x_9:Int) (sv:(List Int)):Option (Out ((List Int)) (Out ((List Int)) ((List Int)))):=
 (Ea (Re sv x_9) fuel 0).bind fun o23=>o23.on fun _=>none
def Wj (levels:List Int) (k2:Nat) (x_4:Bd) (sv:(List Int)):Option (Out ((List Int)) ((List Int))):=
 (Rg x_4 levels).bind fun y5=>(bif y5 then(Am Hf 0 x_4.Zones sv).bind fun o7=>o7.on fun s7=>some (Out.next s7)else some (Out.next sv))
def Wk (l:List Bd) (levels:List Int):Option ((List Int)):=
 (Am (Wj levels) 0 l []).bind fun o2=>o2.on fun s2=>some s2
def Uz (l:Br) (item:Int) (t:Int) (k1:Nat) (x_3:Fl) (sv:Int):Option (Out (Int) (Int)):=
 (bif (decide (x_3.Item=item))then (bif (decide (x_3.At≤t))then (bif (decide (t<(IntKind.i64.wrap (x_3.At+l.Every))))then some (Out.next (if sv<(IntKind.i64.wrap (x_3.At+l.Every))then (IntKind.i64.wrap (x_3.At+l.Every))else sv))else some (Out.next sv))else some (Out.next sv))else some (Out.next sv))
def cC (l:Br) (item:Int) (t:Int):Option (Int):=
 (Am (Uz l item t) 0 l.Signs t).bind fun o1=>o1.on fun s1=>some s1
def Td (l:Br) (t:Int) (k2:Nat) (x_4:Int) (sv:(List Int)):Option (Out ((List Int)) ((List Int))):=
 (cC l x_4 t).bind fun y5=>(bif (decide (y5=t))then chk (sv.length+1) (some (Out.next (sv++[x_4])))else some (Out.next sv))
def Za (l:Br) (t:Int):Option ((List Int)):=
 (Am (Td l t) 0 l.Items []).bind fun o2=>o2.on fun s2=>some s2
def U1 (l:Br) (t:Int):Option (Bool):=
 (Za l t).bind fun y1=>some (decide (((y1.length:Nat):Int)=0))
def Wh (run:Int) (k3:Nat) (x_5:Cv) (sv:Unit):Option (Out (Unit) (Bool)):=
 (bif (decide (x_5.Run=run))then some (Out.ret false)else some (Out.next ()))
def Sp (p:Ca) (run:Int) (t:Int):Option (Bool):=
 (Nv p run).bind fun y1=>(bif (decide (y1<0))then some false else(Dk p.Bu y1).bind fun x_2=>(U1 x_2.List_ t).bind fun y3=>(bif (!y3)then some false else(Am (Wh run) 0 p.Hazards ()).bind fun o3=>o3.on fun s3=>some true))
def Wp (p:Fm):Option (Int×Int):=
 (Kn p).bind fun y1=>(bif (!y1)then some (0,1)else nz p.Density (some ((IntKind.i64.wrap (Int.tdiv (IntKind.i64.wrap ((IntKind.i64.wrap (p.Natural+p.Machine))*1000)) p.Density)),0)))
def Yt (f_:Aj) (run:Int) (k0:Nat) (x_2:C5) (sv:Unit):Option (Out (Unit) (Bool)):=
 (bif (decide (x_2.Run=run))then (Wp x_2.Pack).bind fun y3=>some (Out.ret (decide (f_.Depth≤y3.1)))else some (Out.next ()))
def Uv (f_:Aj) (run:Int):Option (Bool):=
 (Am (Yt f_ run) 0 f_.Packs ()).bind fun o0=>o0.on fun s0=>some false
def Sn (f_:Aj) (x_:Ce):Option (Int):=
 (bO f_.Map f_.Closures x_.ID).bind fun y1=>(bif y1 then some 13 else(fW f_.Groomers x_.ID).bind fun y2=>(bif y2 then some 15 else(Wn f_.Winches f_.Time).bind fun y3=>(Fz y3 x_.ID).bind fun y4=>(bif y4 then some 15 else(S8 f_ x_.Zone).bind fun y5=>(bif y5 then some 15 else(Qu f_).bind fun y6=>(Wk f_.Slides y6).bind fun y7=>(Fz y7 x_.Zone).bind fun y8=>(bif y8 then some 10 else(Sp f_.Patrol x_.ID f_.Time).bind fun y9=>(bif (!y9)then some 14 else(Uv f_ x_.ID).bind fun y10=>(bif (!y10)then some 5 else some 0)))))))
def Vv (k2:Nat) (x_4:Cr) (sv:(List Int)):Option (Out ((List Int)) ((List Int))):=
 (bif (decide (x_4.Mode=1))then chk (sv.length+1) (some (Out.next (sv++[x_4.Lift])))else some (Out.next sv))
def Nt (f_:Aj):Option ((List Int)):=
 (Am Vv 0 f_.Lifts []).bind fun o2=>o2.on fun s2=>some s2
def U4 (n_:Int) (k0:Nat) (x_2:Int) (sv:Unit):Option (Out (Unit) (Bool)):=
 (bif (decide (x_2=n_))then some (Out.ret true)else some (Out.next ()))
def Oy (l:List Int) (n_:Int):Option (Bool):=
 (Am (U4 n_) 0 l ()).bind fun o0=>o0.on fun s0=>some false
theorem Wr (l:List Int) (n_:Int) {r:Bool} (h:Oy l n_=some r):Ad Tryz.prog 119 [.sl 1 (l.map A2),.int .i64 n_] (·= .bool r):=by
 refine Ad.nle (Ad.intro Tryz.func119 rfl rfl (by show _≤18;simp) ?_)
 unfold Oy at h
 refine nS (sq ?_)
 refine ar rfl (qn (sq (sq ?_)))
 refine ar rfl (qn (bk ?_))
 obtain⟨o0,hJ0,hO0⟩:=Af h
 clear h
 refine AWP.Bw (ι:=Nat×(Unit)×(Unit)) (fun zz=>[(0,.sl 1 (l.map A2)),(1,.int .i64 n_),(5,.int .i64 ((zz.1:Nat):Int))]) (fun zz=>[]) (fun zz=>zz.1≤l.length∧Am (U4 n_) zz.1 ((l).drop zz.1) zz.2.1=some o0) (fun zz=>l.length - zz.1) (0,(),()) ⟨Nat.zero_le _,hJ0⟩ cu cu (fun x=>⟨rfl,rfl,rfl⟩) ?_
 clear hJ0
 rintro⟨k0,⟨⟩,⟨⟩⟩ ⟨hk0,hJ0⟩
 dsimp only at hk0 hJ0 ⊢
 refine sq (sq ?_)
 refine rg rfl fun K j=>?_
 intro hm
 refine j _ _ (qn ?_)
 refine AWP.cond (Ak (fun hc=>?_) (fun hc=>?_))
 rotate_left
 ·obtain rfl:=Bf hJ0 (fun hl=>by have:=Aiz hc;omega)
  have h:=Be hO0;try dsimp only at h
  have hkl:l.length=k0:=by have:=Aiz hc;omega
  subst hkl
  refine xt (qe (qe (bs (qn (sq (ar rfl (qn (rt ?_))))))))
  cases h;exact en Tryz.results119
 have hlt0:k0<l.length:=by have:=Ai0 hc;omega
 obtain⟨x_2,b0,hx0_,h,hJ0⟩:=A9 hJ0 hlt0
 have hx0:=Ay hx0_
 have hw0:=wk (k:=k0) (by omega)
 unfold U4 at h;try dsimp only at h
 refine sk (qn (sq (bk (sq ?_))))
 refine rg rfl fun K j=>?_
 refine Bn.of (f:=A2) (l:=l) hx0 ?_
 refine nS ?_
 refine j _ _ (qn ?_)
 revert h;refine ca rfl (fun hc h=>?_) fun hc h=>?_
 ·refine sq (ar rfl (qn (rt (br (qr (qr ?_))))))
  obtain rfl:=Aa h
  obtain rfl:=Ae hJ0
  replace h:=Al hO0
  refine br (qr ?_)
  cases h;exact en Tryz.results119
 refine sk (bn (qn (ar rfl (qn ?_))))
 obtain rfl:=Aa h
 refine⟨(k0+1,(),()),⟨by dsimp only;omega,Ai hJ0⟩,by dsimp only;omega,?_,?_⟩
 ·exact cuw hw0
 exact cuw hw0
def Pg (runs:List Int) (k2:Nat) (x_4:Ce) (sv:(List Aq)):Option (Out ((List Aq)) ((List Aq))):=
 (Oy runs x_4.ID).bind fun y5=>(bif y5 then chk (sv.length+1) (some (Out.next (sv++[(Aq.mk x_4.ID x_4.From x_4.To x_4.Length)])))else some (Out.next sv))
def M0 (m:Bb) (runs:List Int):Option ((List Aq)):=
 (Am (Pg runs) 0 m.Runs []).bind fun o2=>o2.on fun s2=>some s2
theorem cE (m:Bb) (runs:List Int) {r:(List Aq)} (h:M0 m runs=some r):Bo Tryz.prog 73 [.agg (Cd m),.sl 1 (runs.map A2)] (·= .sl 4 (r.map Bg)):=by
 refine Bo.nle (Bo.intro Tryz.func73 rfl rfl (by show _≤37;simp) ?_)
 unfold M0 at h
 refine nS (sq ?_)
 refine ar rfl (qn (sq ?_))
 refine ar rfl (qn (sq (sq ?_)))
 refine ar rfl (qn (bk ?_))
 refine AWP.ghost 5 4 rfl (by decide) ?_
 obtain⟨o2,hJ2,hO2⟩:=Af h
 clear h
 refine AWP.Bw (ι:=Nat×((List Aq))×(Nat)) (fun zz=>[(1,.sl 1 (runs.map A2)),(2,.ptr 0 0),(5,.own 1 zz.2.2 0 zz.2.1.length),(6,.int .i64 ((zz.1:Nat):Int))]) (fun zz=>[.box [.sl 2 (m.Nodes.map A6),.sl 8 (m.Lifts.map A7),.sl 7 (m.Runs.map Bc),.sl 1 (m.Bases.map A2)],.row zz.2.2 4 (zz.2.1.map Bg)]) (fun zz=>zz.1≤m.Runs.length∧Am (Pg runs) zz.1 ((m.Runs).drop zz.1) zz.2.1=some o2) (fun zz=>m.Runs.length - zz.1) (0,[],0) ⟨Nat.zero_le _,hJ2⟩ cu cu (fun x=>⟨rfl,rfl,rfl⟩) ?_
 clear hJ2
 rintro⟨k2,out1,ver2⟩ ⟨hk2,hJ2⟩
 dsimp only at hk2 hJ2 ⊢
 refine sq (sq ?_)
 refine rg rfl fun K j=>?_
 intro hm
 refine j _ _ (qn ?_)
 refine AWP.cond (Ak (fun hc=>?_) (fun hc=>?_))
 rotate_left
 ·obtain rfl:=Bf hJ2 (fun hl=>by have:=Aiz hc;omega)
  have h:=Be hO2;try dsimp only at h
  have hkl:m.Runs.length=k2:=by have:=Aiz hc;omega
  subst hkl
  refine xt (qe (qe (bs (qn (sq (ar rfl (qn (rt ?_))))))))
  cases h;exact en Tryz.results73
 have hlt2:k2<m.Runs.length:=by have:=Ai0 hc;omega
 obtain⟨x_4,b2,hx2_,h,hJ2⟩:=A9 hJ2 hlt2
 have hx2:=Ay hx2_
 have hw2:=wk (k:=k2) (by omega)
 unfold Pg at h;try dsimp only at h
 refine sk (qn (sq (bk (sq ?_))))
 refine rg rfl fun K j=>?_
 refine Bn.of (f:=Bc) (l:=m.Runs) hx2 ?_
 refine nS ?_
 refine j _ _ (qn (sq ?_))
 refine rg rfl fun K j=>?_
 obtain⟨y5,hy5,h⟩:=Af h
 refine An.pure Tryz.call119 (Wr runs x_4.ID hy5) rfl fun _ hr=>?_
 subst hr
 refine nS ?_
 refine j _ _ (qn ?_)
 revert h;refine ca rfl (fun hc h=>?_) fun hc h=>?_
 ·refine rg rfl fun K j=>?_
  obtain⟨hk,h⟩:=B4 h
  (repeat refine rp ?_);try simp +decide -implicitDefEqProofs only[go_sem]
  refine j _ _ (bn (qn ?_))
  refine ar rfl (qn ?_)
  obtain rfl:=Aa h
  refine⟨(k2+1,(out1++[(Aq.mk x_4.ID x_4.From x_4.To x_4.Length)]),(ver2+1)),⟨by dsimp only;omega,Ai hJ2⟩,by dsimp only;omega,?_,?_⟩
  ·exact cuw hw2
  exact cuw hw2
 refine sk (bn (qn (ar rfl (qn ?_))))
 obtain rfl:=Aa h
 refine⟨(k2+1,out1,ver2),⟨by dsimp only;omega,Ai hJ2⟩,by dsimp only;omega,?_,?_⟩
 ·exact cuw hw2
 exact cuw hw2
theorem eM (m:Bb) (runs:List Int) {r:(List Aq)} (h:M0 m runs=some r):Ad Tryz.prog 73 [.agg (Cd m),.sl 1 (runs.map A2)] (·= .sl 4 (r.map Bg)):=(cE m runs h).pure
def N6 (n_:Int) (k3:Nat) (x_5:Int) (sv:Bool×(List Int)):Option (Out (Bool×(List Int)) ((List Int))):=
 (bif (!sv.1)then (bif (decide (n_≤x_5))then (bif (decide (n_<x_5))then chk (sv.2.length+1) (chk ((sv.2.length+1)+1) (some (Out.next (true,((sv.2++[n_])++[x_5])))))else chk (sv.2.length+1) (some (Out.next (true,(sv.2++[x_5])))))else chk (sv.2.length+1) (some (Out.next (sv.1,(sv.2++[x_5])))))else chk (sv.2.length+1) (some (Out.next (sv.1,(sv.2++[x_5])))))
def Ox (l:List Int) (n_:Int):Option ((List Int)):=
 (Am (N6 n_) 0 l (false,[])).bind fun o3=>o3.on fun s3=>(bif (!s3.1)then chk (s3.2.length+1) (some (s3.2++[n_]))else some s3.2)
theorem eP (l:List Int) (n_:Int) {r:(List Int)} (h:Ox l n_=some r):Bo Tryz.prog 237 [.sl 1 (l.map A2),.int .i64 n_] (·= .sl 1 (r.map A2)):=by
 refine Bo.nle (Bo.intro Tryz.func237 rfl rfl (by show _≤48;simp) ?_)
 unfold Ox at h
 refine nS (sq ?_)
 refine ar rfl (qn (sq ?_))
 refine ar rfl (qn (sq ?_))
 refine ar rfl (qn (sq (sq ?_)))
 refine ar rfl (qn (bk ?_))
 refine AWP.ghost 5 1 rfl (by decide) ?_
 obtain⟨o3,hJ3,hO3⟩:=Af h
 clear h
 refine AWP.Bw (ι:=Nat×(Bool×(List Int))×(Nat)) (fun zz=>[(0,.sl 1 (l.map A2)),(1,.int .i64 n_),(5,.own 0 zz.2.2 0 zz.2.1.2.length),(6,.bool zz.2.1.1),(7,.int .i64 ((zz.1:Nat):Int))]) (fun zz=>[.row zz.2.2 1 (zz.2.1.2.map A2)]) (fun zz=>zz.1≤l.length∧Am (N6 n_) zz.1 ((l).drop zz.1) zz.2.1=some o3) (fun zz=>l.length - zz.1) (0,(false,[]),0) ⟨Nat.zero_le _,hJ3⟩ cu cu (fun x=>⟨rfl,rfl,rfl⟩) ?_
 clear hJ3
 rintro⟨k3,⟨done1,out2⟩,ver3⟩ ⟨hk3,hJ3⟩
 dsimp only at hk3 hJ3 ⊢
 refine sq (sq ?_)
 refine rg rfl fun K j=>?_
 intro hm
 refine j _ _ (qn ?_)
 refine AWP.cond (Ak (fun hc=>?_) (fun hc=>?_))
 rotate_left
 ·obtain rfl:=Bf hJ3 (fun hl=>by have:=Aiz hc;omega)
  have h:=Be hO3;try dsimp only at h
  have hkl:l.length=k3:=by have:=Aiz hc;omega
  subst hkl
  refine xt (qe (qe (bs (qn (sq (sq (ar rfl (qn ?_))))))))
  revert h;refine ca rfl (fun hc h=>?_) fun hc h=>?_
  ·refine rg rfl fun K j=>?_
   obtain⟨hk,h⟩:=B4 h
   (repeat refine rp ?_);try simp +decide -implicitDefEqProofs only[go_sem]
   refine j _ _ (qn (sq ?_))
   refine ar rfl (qn (rt ?_))
   cases h;exact en Tryz.results237
  refine sk (qn (sq (ar rfl (qn (rt ?_)))))
  cases h;exact en Tryz.results237
 have hlt3:k3<l.length:=by have:=Ai0 hc;omega
 obtain⟨x_5,b3,hx3_,h,hJ3⟩:=A9 hJ3 hlt3
 have hx3:=Ay hx3_
 have hw3:=wk (k:=k3) (by omega)
 unfold N6 at h;try dsimp only at h
 refine sk (qn (sq (bk (sq (sq ?_)))))
 refine rg rfl fun K j=>?_
 revert h;refine gt (fun hc h=>?_) fun hc h=>?_
 ·refine Bn.of (f:=A2) (l:=l) hx3 ?_
  refine nS ?_
  refine j _ _ (qn ?_)
  revert h;refine ca rfl (fun hc h=>?_) fun hc h=>?_
  ·refine sq (sq ?_)
   refine rg rfl fun K j=>?_
   refine Bn.of (f:=A2) (l:=l) hx3 ?_
   refine nS ?_
   refine j _ _ (qn ?_)
   revert h;refine ca rfl (fun hc h=>?_) fun hc h=>?_
   ·refine rg rfl fun K j=>?_
    obtain⟨hk,h⟩:=B4 h
    (repeat refine rp ?_);try simp +decide -implicitDefEqProofs only[go_sem]
    refine j _ _ (qn ?_)
    refine ar rfl (qn ?_)
    refine rg rfl fun K j=>?_
    refine Bn.of (f:=A2) (l:=l) hx3 ?_
    refine nS ?_
    obtain⟨hk,h⟩:=B4 h
    (repeat refine rp ?_);try simp +decide -implicitDefEqProofs only[go_sem]
    refine j _ _ (bn (qn ?_))
    refine ar rfl (qn ?_)
    obtain rfl:=Aa h
    refine⟨(k3+1,(true,((out2++[n_])++[x_5])),((ver3+1)+1)),⟨by dsimp only;omega,Ai hJ3⟩,by dsimp only;omega,?_,?_⟩
    ·exact cuw hw3
    exact cuw hw3
   refine sk (qn (ar rfl (qn ?_)))
   refine rg rfl fun K j=>?_
   refine Bn.of (f:=A2) (l:=l) hx3 ?_
   refine nS ?_
   obtain⟨hk,h⟩:=B4 h
   (repeat refine rp ?_);try simp +decide -implicitDefEqProofs only[go_sem]
   refine j _ _ (bn (qn ?_))
   refine ar rfl (qn ?_)
   obtain rfl:=Aa h
   refine⟨(k3+1,(true,(out2++[x_5])),(ver3+1)),⟨by dsimp only;omega,Ai hJ3⟩,by dsimp only;omega,?_,?_⟩
   ·exact cuw hw3
   exact cuw hw3
  refine sk (qn ?_)
  refine rg rfl fun K j=>?_
  refine Bn.of (f:=A2) (l:=l) hx3 ?_
  refine nS ?_
  obtain⟨hk,h⟩:=B4 h
  (repeat refine rp ?_);try simp +decide -implicitDefEqProofs only[go_sem]
  refine j _ _ (bn (qn ?_))
  refine ar rfl (qn ?_)
  obtain rfl:=Aa h
  refine⟨(k3+1,(done1,(out2++[x_5])),(ver3+1)),⟨by dsimp only;omega,Ai hJ3⟩,by dsimp only;omega,?_,?_⟩
  ·exact cuw hw3
  exact cuw hw3
 refine j _ _ (qn ?_)
 refine AWP.cond (Bk ?_)
 refine sk (qn ?_)
 refine rg rfl fun K j=>?_
 refine Bn.of (f:=A2) (l:=l) hx3 ?_
 refine nS ?_
 obtain⟨hk,h⟩:=B4 h
 (repeat refine rp ?_);try simp +decide -implicitDefEqProofs only[go_sem]
 refine j _ _ (bn (qn ?_))
 refine ar rfl (qn ?_)
 obtain rfl:=Aa h
 refine⟨(k3+1,(done1,(out2++[x_5])),(ver3+1)),⟨by dsimp only;omega,Ai hJ3⟩,by dsimp only;omega,?_,?_⟩
 ·exact cuw hw3
 exact cuw hw3
theorem Wq (l:List Int) (n_:Int) {r:(List Int)} (h:Ox l n_=some r):Ad Tryz.prog 237 [.sl 1 (l.map A2),.int .i64 n_] (·= .sl 1 (r.map A2)):=(eP l n_ h).pure
def Hj (k6:Nat) (x_8:Aq) (sv:(List Int)):Option (Out ((List Int)) (Out ((List Int)×Int) ((List Int)))):=
 (Oy sv x_8.From).bind fun y9=>(bif y9 then(Ox sv x_8.To).bind fun y10=>some (Out.next y10)else some (Out.next sv))
def Ks (l:List Aq) (sv:(List Int)×Int):Option (Out ((List Int)×Int) ((List Int))):=
 (bif (decide (sv.2<((sv.1.length:Nat):Int)))then (Am Hj 0 l sv.1).bind fun o6=>o6.on fun s6=>some (Out.next (s6,((sv.1.length:Nat):Int)))else some (Out.ret sv.1))
def Kq (l:List Aq) (out1:List Int):Option ((List Int)):=
 (Ea (Ks l) fuel (out1,(-1))).bind fun o4=>o4.on fun _=>none
def Kr (k11:Nat) (x_13:Int) (sv:(List Int)):Option (Out ((List Int)) ((List Int))):=
 (Ox sv x_13).bind fun y14=>some (Out.next y14)
def Kt (l:List Aq) (from_:List Int):Option ((List Int)):=
 (Am Kr 0 from_ []).bind fun o11=>o11.on fun s11=>Kq l s11
theorem cJ (l:List Aq) (from_:List Int) {r:(List Int)} (h:Kt l from_=some r):Ad Tryz.prog 151 [.sl 4 (l.map Bg),.sl 1 (from_.map A2)] (·= .sl 1 (r.map A2)):=by
 refine Ad.nle (Ad.intro Tryz.func151 rfl rfl (by show _≤48;simp) ?_)
 unfold Kt at h
 refine nS (sq ?_)
 refine ar rfl (qn (sq ?_))
 refine ar rfl (qn ?_)
 refine AWP.Le (ι:=((List Int))×(Unit)) (fun zz=>[(0,.sl 4 (l.map Bg)),(5,.sl 1 (zz.1.map A2))]) (fun zz=>[]) (fun zz=>Kq l zz.1=some r) (fun zz=>⟨rfl,rfl,rfl⟩) ?_ ?_
 ·refine sq (ar rfl (qn (bk ?_)))
  obtain⟨o11,hJ11,hO11⟩:=Af h
  clear h
  refine AWP.Bw (ι:=Nat×((List Int))×(Unit)) (fun zz=>[(0,.sl 4 (l.map Bg)),(1,.sl 1 (from_.map A2)),(5,.sl 1 (zz.2.1.map A2)),(6,.int .i64 ((zz.1:Nat):Int))]) (fun zz=>[]) (fun zz=>zz.1≤from_.length∧Am Kr zz.1 ((from_).drop zz.1) zz.2.1=some o11) (fun zz=>from_.length - zz.1) (0,[],()) ⟨Nat.zero_le _,hJ11⟩ cu cu (fun x=>⟨rfl,rfl,rfl⟩) ?_
  clear hJ11
  rintro⟨k11,out11,⟨⟩⟩ ⟨hk11,hJ11⟩
  dsimp only at hk11 hJ11 ⊢
  refine sq (sq ?_)
  refine rg rfl fun K j=>?_
  intro hm
  refine j _ _ (qn ?_)
  refine AWP.cond (Ak (fun hc=>?_) (fun hc=>?_))
  ·have hlt11:k11<from_.length:=by have:=Ai0 hc;omega
   obtain⟨x_13,b11,hx11_,h,hJ11⟩:=A9 hJ11 hlt11
   have hx11:=Ay hx11_
   have hw11:=wk (k:=k11) (by omega)
   unfold Kr at h;try dsimp only at h
   refine sk (qn (sq (bk ?_)))
   refine rg rfl fun K j=>?_
   refine Bn.of (f:=A2) (l:=from_) hx11 ?_
   refine nS ?_
   obtain⟨y14,hy14,h⟩:=Af h
   refine An.pure Tryz.call237 (Wq out11 x_13 hy14) rfl fun _ hr=>?_
   subst hr
   refine nS ?_
   refine j _ _ (bn (qn ?_))
   refine ar rfl (qn ?_)
   obtain rfl:=Aa h
   refine⟨(k11+1,y14,()),⟨by dsimp only;omega,Ai hJ11⟩,by dsimp only;omega,?_,?_⟩
   ·exact cuw hw11
   exact cuw hw11
  obtain rfl:=Bf hJ11 (fun hl=>by have:=Aiz hc;omega)
  have h:=Be hO11;try dsimp only at h
  have hkl:from_.length=k11:=by have:=Aiz hc;omega
  subst hkl
  refine xt (qe (qe (bs (qn ?_))))
  exact⟨(out11,()),h,cu,cu⟩
 rintro⟨out1,⟨⟩⟩ h
 try dsimp only at h ⊢
 unfold Kq at h;try dsimp only at h
 refine sq (sq (ar rfl (qn (bk ?_))))
 obtain⟨o4,hJ4,hO4⟩:=Af h
 clear h
 refine AWP.Bw (ι:=Nat×((List Int)×Int)×(Unit)) (fun zz=>[(0,.sl 4 (l.map Bg)),(5,.sl 1 (zz.2.1.1.map A2)),(7,.int .i64 zz.2.1.2)]) (fun zz=>[]) (fun zz=>Ea (Ks l) zz.1 zz.2.1=some o4) (fun zz=>zz.1) (fuel,(out1,(-1)),()) hJ4 cu cu (fun x=>⟨rfl,rfl,rfl⟩) ?_
 clear hJ4
 rintro⟨n4,⟨out3,was4⟩,⟨⟩⟩ hJ4
 dsimp only at hJ4 ⊢
 obtain⟨m4,b4,rfl,h,hJ4⟩:=J4 hJ4
 unfold Ks at h;try dsimp only at h
 refine sq (sq ?_)
 refine rg rfl fun K j=>?_
 intro hm
 refine j _ _ (qn ?_)
 revert h;refine ca rfl (fun hc h=>?_) fun hc h=>?_
 rotate_left
 ·refine xt (qe (qe ?_))
  obtain rfl:=Aa h
  obtain rfl:=Ae hJ4
  replace h:=Al hO4
  refine bs (qn (sq (ar rfl (qn (rt ?_)))))
  cases h;exact en Tryz.results151
 refine sk (qn (bk (sq ?_)))
 refine rg rfl fun K j=>?_
 intro hm
 refine j _ _ (qn (sq ?_))
 refine ar rfl (qn (bk ?_))
 obtain⟨o6,hJ6,hO6⟩:=Af h
 clear h
 refine AWP.Bw (ι:=Nat×((List Int))×(Unit)) (fun zz=>[(0,.sl 4 (l.map Bg)),(5,.sl 1 (zz.2.1.map A2)),(7,.int .i64 ((out3.length:Nat):Int)),(8,.int .i64 ((zz.1:Nat):Int))]) (fun zz=>[]) (fun zz=>zz.1≤l.length∧Am Hj zz.1 ((l).drop zz.1) zz.2.1=some o6) (fun zz=>l.length - zz.1) (0,out3,()) ⟨Nat.zero_le _,hJ6⟩ cu cu (fun x=>⟨rfl,rfl,rfl⟩) ?_
 clear hJ6
 rintro⟨k6,out6,⟨⟩⟩ ⟨hk6,hJ6⟩
 dsimp only at hk6 hJ6 ⊢
 refine sq (sq ?_)
 refine rg rfl fun K j=>?_
 intro hm
 refine j _ _ (qn ?_)
 refine AWP.cond (Ak (fun hc=>?_) (fun hc=>?_))
 rotate_left
 ·obtain rfl:=Bf hJ6 (fun hl=>by have:=Aiz hc;omega)
  have h:=Be hO6;try dsimp only at h
  have hkl:l.length=k6:=by have:=Aiz hc;omega
  subst hkl
  refine xt (qe (qe (bs (bn (qn ?_)))))
  obtain rfl:=Aa h
  refine⟨(m4,(out6,((out3.length:Nat):Int)),()),Ai hJ4,by dsimp only;omega,?_,?_⟩
  ·exact cu
  exact cu
 have hlt6:k6<l.length:=by have:=Ai0 hc;omega
 obtain⟨x_8,b6,hx6_,h,hJ6⟩:=A9 hJ6 hlt6
 have hx6:=Ay hx6_
 have hw6:=wk (k:=k6) (by omega)
 unfold Hj at h;try dsimp only at h
 refine sk (qn (sq (bk (sq ?_))))
 refine rg rfl fun K j=>?_
 refine Bn.of (f:=Bg) (l:=l) hx6 ?_
 refine nS ?_
 obtain⟨y9,hy9,h⟩:=Af h
 refine An.pure Tryz.call119 (Wr out6 x_8.From hy9) rfl fun _ hr=>?_
 subst hr
 refine nS ?_
 refine j _ _ (qn ?_)
 revert h;refine ca rfl (fun hc h=>?_) fun hc h=>?_
 ·refine rg rfl fun K j=>?_
  refine Bn.of (f:=Bg) (l:=l) hx6 ?_
  refine nS ?_
  obtain⟨y10,hy10,h⟩:=Af h
  refine An.pure Tryz.call237 (Wq out6 x_8.To hy10) rfl fun _ hr=>?_
  subst hr
  refine nS ?_
  refine j _ _ (bn (qn ?_))
  refine ar rfl (qn ?_)
  obtain rfl:=Aa h
  refine⟨(k6+1,y10,()),⟨by dsimp only;omega,Ai hJ6⟩,by dsimp only;omega,?_,?_⟩
  ·exact cuw hw6
  exact cuw hw6
 refine sk (bn (qn (ar rfl (qn ?_))))
 obtain rfl:=Aa h
 refine⟨(k6+1,out6,()),⟨by dsimp only;omega,Ai hJ6⟩,by dsimp only;omega,?_,?_⟩
 ·exact cuw hw6
 exact cuw hw6
def M1 (lifts:List Int) (k3:Nat) (x_5:Cc) (sv:(List Aq)):Option (Out ((List Aq)) ((List Int))):=
 (Oy lifts x_5.ID).bind fun y6=>(bif y6 then chk (sv.length+1) (some (Out.next (sv++[(Aq.mk 0 x_5.From x_5.To 0)])))else some (Out.next sv))
def Qe (m:Bb) (lifts:List Int) (runs:List Int):Option ((List Int)):=
 (M0 m runs).bind fun y1=>chk y1.length ((Am (M1 lifts) 0 m.Lifts y1).bind fun o3=>o3.on fun s3=>(Kt s3 m.Bases).bind fun y7=>some y7)
def Pv (m:Bb) (lifts:List Int) (runs:List Int) (run:Int):Option (Bool):=
 (Jc m run).bind fun y1=>(bif y1.2 then(Qe m lifts runs).bind fun y2=>(Oy y2 y1.1.From).bind fun y3=>some y3 else some false)
def Mm (k2:Nat) (x_4:Aq) (sv:(List Aq)):Option (Out ((List Aq)) ((List Aq))):=
 chk (sv.length+1) (some (Out.next (sv++[(Aq.mk x_4.ID x_4.To x_4.From x_4.Cost)])))
def Lh (l:List Aq):Option ((List Aq)):=
 (Am Mm 0 l []).bind fun o2=>o2.on fun s2=>some s2
theorem Zb (l:List Aq) {r:(List Aq)} (h:Lh l=some r):Bo Tryz.prog 152 [.sl 4 (l.map Bg)] (·= .sl 4 (r.map Bg)):=by
 refine Bo.nle (Bo.intro Tryz.func152 rfl rfl (by show _≤36;simp) ?_)
 unfold Lh at h
 refine nS (sq ?_)
 refine ar rfl (qn (sq ?_))
 refine ar rfl (qn (sq (sq ?_)))
 refine ar rfl (qn (bk ?_))
 refine AWP.ghost 3 4 rfl (by decide) ?_
 obtain⟨o2,hJ2,hO2⟩:=Af h
 clear h
 refine AWP.Bw (ι:=Nat×((List Aq))×(Nat)) (fun zz=>[(0,.sl 4 (l.map Bg)),(3,.own 0 zz.2.2 0 zz.2.1.length),(4,.int .i64 ((zz.1:Nat):Int))]) (fun zz=>[.row zz.2.2 4 (zz.2.1.map Bg)]) (fun zz=>zz.1≤l.length∧Am Mm zz.1 ((l).drop zz.1) zz.2.1=some o2) (fun zz=>l.length - zz.1) (0,[],0) ⟨Nat.zero_le _,hJ2⟩ cu cu (fun x=>⟨rfl,rfl,rfl⟩) ?_
 clear hJ2
 rintro⟨k2,out1,ver2⟩ ⟨hk2,hJ2⟩
 dsimp only at hk2 hJ2 ⊢
 refine sq (sq ?_)
 refine rg rfl fun K j=>?_
 intro hm
 refine j _ _ (qn ?_)
 refine AWP.cond (Ak (fun hc=>?_) (fun hc=>?_))
 rotate_left
 ·obtain rfl:=Bf hJ2 (fun hl=>by have:=Aiz hc;omega)
  have h:=Be hO2;try dsimp only at h
  have hkl:l.length=k2:=by have:=Aiz hc;omega
  subst hkl
  refine xt (qe (qe (bs (qn (sq (ar rfl (qn (rt ?_))))))))
  cases h;exact en Tryz.results152
 have hlt2:k2<l.length:=by have:=Ai0 hc;omega
 obtain⟨x_4,b2,hx2_,h,hJ2⟩:=A9 hJ2 hlt2
 have hx2:=Ay hx2_
 have hw2:=wk (k:=k2) (by omega)
 unfold Mm at h;try dsimp only at h
 refine sk (qn (sq (bk ?_)))
 refine AWP.draw Tryz.mixed (by kernel_rfl) ?_;intro K j
 refine nS ?_
 refine Bn.of (f:=Bg) (l:=l) hx2 ?_
 refine nS ?_
 refine Bn.of (f:=Bg) (l:=l) hx2 ?_
 refine nS ?_
 refine Bn.of (f:=Bg) (l:=l) hx2 ?_
 refine nS ?_
 refine Bn.of (f:=Bg) (l:=l) hx2 ?_
 refine nS ?_
 obtain⟨hk,h⟩:=B4 h
 (repeat refine rp ?_);try simp +decide -implicitDefEqProofs only[go_sem]
 refine j _ _ _ (by kernel_rfl) ?_
 refine bn (qn (ar rfl (qn ?_)))
 obtain rfl:=Aa h
 refine⟨(k2+1,(out1++[(Aq.mk x_4.ID x_4.To x_4.From x_4.Cost)]),(ver2+1)),⟨by dsimp only;omega,Ai hJ2⟩,by dsimp only;omega,?_,?_⟩
 ·exact cuw hw2
 exact cuw hw2
theorem Z6 (l:List Aq) {r:(List Aq)} (h:Lh l=some r):Ad Tryz.prog 152 [.sl 4 (l.map Bg)] (·= .sl 4 (r.map Bg)):=(Zb l h).pure
def Rp (l:List Aq) (to_:List Int):Option ((List Int)):=
 (Lh l).bind fun y1=>(Kt y1 to_).bind fun y2=>some y2
theorem eQ (l:List Aq) (to_:List Int) {r:(List Int)} (h:Rp l to_=some r):Ad Tryz.prog 72 [.sl 4 (l.map Bg),.sl 1 (to_.map A2)] (·= .sl 1 (r.map A2)):=by
 refine Ad.nle (Ad.intro Tryz.func72 rfl rfl (by show _≤9;simp) ?_)
 unfold Rp at h
 refine nS (sq ?_)
 refine ar rfl (qn (sq ?_))
 refine rg rfl fun K j=>?_
 obtain⟨y1,hy1,h⟩:=Af h
 refine An.pure Tryz.call152 (Z6 l hy1) rfl fun _ hr=>?_
 subst hr
 refine nS ?_
 obtain⟨y2,hy2,h⟩:=Af h
 refine An.pure Tryz.call151 (cJ y1 to_ hy2) rfl fun _ hr=>?_
 subst hr
 refine nS ?_
 refine j _ _ (qn (rt ?_))
 cases h;exact en Tryz.results72
def Ko (m:Bb) (runs:List Int):Option ((List Int)):=
 (M0 m runs).bind fun y1=>(Rp y1 m.Bases).bind fun y2=>some y2
theorem eN (m:Bb) (runs:List Int) {r:(List Int)} (h:Ko m runs=some r):Ad Tryz.prog 35 [.agg (Cd m),.sl 1 (runs.map A2)] (·= .sl 1 (r.map A2)):=by
 refine Ad.nle (Ad.intro Tryz.func35 rfl rfl (by show _≤11;simp) ?_)
 unfold Ko at h
 refine nS (sq ?_)
 refine ar rfl (qn (sq ?_))
 refine AWP.draw Tryz.mixed (by kernel_rfl) ?_;intro K j
 refine nS ?_
 obtain⟨y1,hy1,h⟩:=Af h
 refine B7.pure Tryz.call73 (eM m runs hy1) rfl ?_
 refine nS ?_
 obtain⟨y2,hy2,h⟩:=Af h
 refine B7.pure Tryz.call72 (eQ y1 m.Bases hy2) rfl ?_
 refine nS ?_
 refine j _ _ _ (by kernel_rfl) ?_
 refine qn (rt ?_)
 cases h;exact en Tryz.results35
def Ub (f_:Aj) (open_:List Int) (run:Int):Option (Int):=
 (Jc f_.Map run).bind fun y1=>(bif (!y1.2)then some 8 else(Sn f_ y1.1).bind fun y2=>(bif (decide (y2≠0))then some y2 else(Nt f_).bind fun y3=>(Pv f_.Map y3 open_ run).bind fun y4=>(bif (!y4)then some 16 else(Ko f_.Map open_).bind fun y5=>(Fz y5 y1.1.To).bind fun y6=>(bif (!y6)then some 16 else some 0))))
def lD (k2:Nat) (x_4:Bi) (sv:(List Int)):Option (Out ((List Int)) ((List Int))):=
 (bif x_4.Open then chk (sv.length+1) (some (Out.next (sv++[x_4.Run])))else some (Out.next sv))
def bM (f_:Aj):Option ((List Int)):=
 (Am lD 0 f_.Status []).bind fun o2=>o2.on fun s2=>some s2
def Yu (f_:Aj) (y1:(List Int)) (k1:Nat) (x_3:Int) (sv:Unit):Option (Out (Unit) (Bool)):=
 (Ub f_ y1 x_3).bind fun y4=>(bif (decide (y4≠0))then some (Out.ret false)else some (Out.next ()))
def Y8 (f_:Aj):Option (Bool):=
 (bM f_).bind fun y1=>(Am (Yu f_ y1) 0 y1 ()).bind fun o1=>o1.on fun s1=>some true
def Tb (f_:Aj) (now4:List Int) (y7:(List Int)) (y8:(List Int)) (k10:Nat) (x_12:Int) (sv:(List Int)):Option (Out ((List Int)) (Out ((List Int)) ((List Int)))):=
 (Jc f_.Map x_12).bind fun y13=>(Pv f_.Map y7 now4 x_12).bind fun y14=>(bif y14 then(Fz y8 y13.1.To).bind fun y15=>(bif y15 then chk (sv.length+1) (some (Out.next (sv++[x_12])))else some (Out.next sv))else some (Out.next sv))
def Tc (f_:Aj) (k5:Nat) (_x:Unit) (sv:(List Int)):Option (Out ((List Int)) ((List Int))):=
 (Nt f_).bind fun y7=>(Ko f_.Map sv).bind fun y8=>(Am (Tb f_ sv y7 y8) 0 sv []).bind fun o10=>o10.on fun s10=>some (Out.next s10)
def S9 (f_:Aj) (now1:List Int):Option ((List Int)):=
 (J0 (Tc f_) (f_.Map.Runs.length+1) now1).bind fun o5=>o5.on fun s5=>some s5
def Ta (f_:Aj) (runs:List Int) (k17:Nat) (x_19:Ce) (sv:(List Int)):Option (Out ((List Int)) ((List Int))):=
 (Fz runs x_19.ID).bind fun y20=>(bif y20 then(Sn f_ x_19).bind fun y21=>(bif (decide (y21=0))then chk (sv.length+1) (some (Out.next (sv++[x_19.ID])))else some (Out.next sv))else some (Out.next sv))
def Y9 (f_:Aj) (runs:List Int):Option ((List Int)):=
 (Am (Ta f_ runs) 0 f_.Map.Runs []).bind fun o17=>o17.on fun s17=>S9 f_ s17
def Qa (f_:Aj) (y2:(List Int)) (k6:Nat) (x_8:Bi) (sv:(List Bi)×(List Int)):Option (Out ((List Bi)×(List Int)) (Aj×(List Int))):=
 (bif x_8.Open then(Fz y2 x_8.Run).bind fun y9=>(bif (!y9)then chk (sv.2.length+1) (chk (sv.1.length+1) (some (Out.next ((sv.1++[(Bi.mk x_8.Run false f_.Time)]),(sv.2++[x_8.Run])))))else chk (sv.1.length+1) (some (Out.next ((sv.1++[(Bi.mk x_8.Run true x_8.Since)]),sv.2))))else chk (sv.1.length+1) (some (Out.next ((sv.1++[(Bi.mk x_8.Run false x_8.Since)]),sv.2))))
def Uw (f_:Aj):Option (Aj×(List Int)):=
 (bM f_).bind fun y1=>(Y9 f_ y1).bind fun y2=>(Am (Qa f_ y2) 0 f_.Status ([],[])).bind fun o6=>o6.on fun s6=>some ((Aj.mk f_.Map f_.Lifts f_.Closures f_.Patrol f_.Surfaces f_.Packs f_.Slides f_.Bulletin f_.Missions f_.Winches f_.Groomers s6.1 f_.Depth f_.Time),s6.2)
def Ii (y3:Aj×(List Int)) (y5:(List Int)) (k5:Nat) (x_7:Int) (sv:Unit):Option (Out (Unit) (Bool)):=
 (C0 y3.1 y5 x_7).bind fun y8=>(bif (decide (y8≠0))then some (Out.ret false)else some (Out.next ()))
def Qm (f_:Aj) (run:Int):Option (Bool):=
 (Nh).bind fun y1=>(bif (!y1)then some false else(Ky f_ []).bind fun y2=>(bif (!y2)then some true else(Ex f_).bind fun y3=>(Dp y3.1).bind fun y4=>(bif (!y4)then some false else(Cw y3.1).bind fun y5=>(Am (Ii y3 y5) 0 y5 ()).bind fun o5=>o5.on fun s5=>(F3 y3.1 run).bind fun y9=>(bif (decide (y9.2=0))then (Dp y9.1).bind fun y10=>(bif (!y10)then some false else(Cw y9.1).bind fun y11=>(Fz y11 run).bind fun y12=>(bif (!y12)then some false else(Cw y9.1).bind fun y13=>(bif (decide (((y13.length:Nat):Int)≠(IntKind.i64.wrap (((y5.length:Nat):Int)+1))))then some false else(Dp (Aj.mk f_.Map f_.Lifts f_.Closures f_.Patrol f_.Surfaces f_.Packs f_.Slides f_.Bulletin f_.Missions f_.Winches f_.Groomers [] f_.Depth f_.Time)).bind fun y14=>some y14)))else (Dp (Aj.mk f_.Map f_.Lifts f_.Closures f_.Patrol f_.Surfaces f_.Packs f_.Slides f_.Bulletin f_.Missions f_.Winches f_.Groomers [] f_.Depth f_.Time)).bind fun y15=>some y15))))
theorem jB (f_:Aj) (run:Int) {r:Bool} (h:Qm f_ run=some r):Ad Tryz.prog 7 [.agg (B3 f_),.int .i64 run] (·= .bool r):=by
 refine Ad.nle (Ad.intro Tryz.func7 rfl rfl (by show _≤74;simp) ?_)
 unfold Qm at h
 refine nS (sq ?_)
 refine ar rfl (qn (sq (sq ?_)))
 refine rg rfl fun K j=>?_
 obtain⟨y1,hy1,h⟩:=Af h
 refine An.pure Tryz.call10 (Uj hy1) rfl fun _ hr=>?_
 subst hr
 refine nS ?_
 refine j _ _ (qn ?_)
 revert h;refine ca rfl (fun hc h=>?_) fun hc h=>?_
 ·refine sq (ar rfl (qn (rt (qr ?_))))
  cases h;exact en Tryz.results7
 refine sk (qn (sq (sq ?_)))
 refine rg rfl fun K j=>?_
 obtain⟨y2,hy2,h⟩:=Af h
 refine An.pure Tryz.call14 (Ad.yS (args:=[.agg [.sl 2 (f_.Map.Nodes.map A6),.sl 8 (f_.Map.Lifts.map A7),.sl 7 (f_.Map.Runs.map Bc),.sl 1 (f_.Map.Bases.map A2),.sl 2 (f_.Lifts.map Aw),.sl 4 (f_.Closures.map Au),.sl 4 (f_.Patrol.Bu.map Av),.sl 3 (f_.Patrol.Hazards.map Az),.sl 3 (f_.Surfaces.map A4),.sl 5 (f_.Packs.map A3),.sl 6 (f_.Slides.map Ba),.sl 7 (f_.Bulletin.map Ax),.sl 7 (f_.Missions.map Ap),.sl 4 (f_.Winches.map Ao),.sl 8 (f_.Groomers.map A1),.sl 3 (f_.Status.map A5),.int .i64 f_.Depth,.int .i64 f_.Time],.nils]) (by simp +decide -implicitDefEqProofs only[go_sem,Dg,Ac.int.injEq,Int.natCast_zero,List.replicate_zero,List.length_take,List.length_drop,Ac.own.injEq,reduceCtorEq,Int.reduceAdd,Ru,Rv,Om,Rt,Ol]) (Ui f_ [] hy2)) rfl fun _ hr=>?_
 subst hr
 refine nS ?_
 refine j _ _ (qn ?_)
 revert h;refine ca rfl (fun hc h=>?_) fun hc h=>?_
 ·refine sq (ar rfl (qn (rt (qr ?_))))
  cases h;exact en Tryz.results7
 refine sk (qn (sq ?_))
 refine rg rfl fun K j=>?_
 obtain⟨y3,hy3,h⟩:=Af h
 refine An.pure Tryz.call27 (Jo f_ hy3) rfl fun _ hr=>?_
 subst hr
 refine nS ?_
 refine j _ _ (qn (sq (sq ?_)))
 refine rg rfl fun K j=>?_
 obtain⟨y4,hy4,h⟩:=Af h
 refine An.pure Tryz.call22 (Es y3.1 hy4) rfl fun _ hr=>?_
 subst hr
 refine nS ?_
 refine j _ _ (qn ?_)
 revert h;refine ca rfl (fun hc h=>?_) fun hc h=>?_
 ·refine sq (ar rfl (qn (rt (qr ?_))))
  cases h;exact en Tryz.results7
 refine sk (qn (sq ?_))
 refine rg rfl fun K j=>?_
 obtain⟨y5,hy5,h⟩:=Af h
 refine An.pure Tryz.call20 (D2 y3.1 hy5) rfl fun _ hr=>?_
 subst hr
 refine nS ?_
 refine j _ _ (qn (sq (sq ?_)))
 refine ar rfl (qn (bk ?_))
 obtain⟨o5,hJ5,hO5⟩:=Af h
 clear h
 refine AWP.Bw (ι:=Nat×(Unit)×(Unit)) (fun zz=>[(1,.int .i64 run),(2,.ptr 0 0),(5,.ptr 1 0),(7,.sl 1 (y5.map A2)),(8,.int .i64 ((zz.1:Nat):Int))]) (fun zz=>[.box [.sl 2 (f_.Map.Nodes.map A6),.sl 8 (f_.Map.Lifts.map A7),.sl 7 (f_.Map.Runs.map Bc),.sl 1 (f_.Map.Bases.map A2),.sl 2 (f_.Lifts.map Aw),.sl 4 (f_.Closures.map Au),.sl 4 (f_.Patrol.Bu.map Av),.sl 3 (f_.Patrol.Hazards.map Az),.sl 3 (f_.Surfaces.map A4),.sl 5 (f_.Packs.map A3),.sl 6 (f_.Slides.map Ba),.sl 7 (f_.Bulletin.map Ax),.sl 7 (f_.Missions.map Ap),.sl 4 (f_.Winches.map Ao),.sl 8 (f_.Groomers.map A1),.sl 3 (f_.Status.map A5),.int .i64 f_.Depth,.int .i64 f_.Time],.box [.sl 2 (y3.1.Map.Nodes.map A6),.sl 8 (y3.1.Map.Lifts.map A7),.sl 7 (y3.1.Map.Runs.map Bc),.sl 1 (y3.1.Map.Bases.map A2),.sl 2 (y3.1.Lifts.map Aw),.sl 4 (y3.1.Closures.map Au),.sl 4 (y3.1.Patrol.Bu.map Av),.sl 3 (y3.1.Patrol.Hazards.map Az),.sl 3 (y3.1.Surfaces.map A4),.sl 5 (y3.1.Packs.map A3),.sl 6 (y3.1.Slides.map Ba),.sl 7 (y3.1.Bulletin.map Ax),.sl 7 (y3.1.Missions.map Ap),.sl 4 (y3.1.Winches.map Ao),.sl 8 (y3.1.Groomers.map A1),.sl 3 (y3.1.Status.map A5),.int .i64 y3.1.Depth,.int .i64 y3.1.Time]]) (fun zz=>zz.1≤y5.length∧Am (Ii y3 y5) zz.1 ((y5).drop zz.1) zz.2.1=some o5) (fun zz=>y5.length - zz.1) (0,(),()) ⟨Nat.zero_le _,hJ5⟩ cu cu (fun x=>⟨rfl,rfl,rfl⟩) ?_
 clear hJ5
 rintro⟨k5,⟨⟩,⟨⟩⟩ ⟨hk5,hJ5⟩
 dsimp only at hk5 hJ5 ⊢
 refine sq (sq ?_)
 refine rg rfl fun K j=>?_
 intro hm
 refine j _ _ (qn ?_)
 refine AWP.cond (Ak (fun hc=>?_) (fun hc=>?_))
 ·have hlt5:k5<y5.length:=by have:=Ai0 hc;omega
  obtain⟨x_7,b5,hx5_,h,hJ5⟩:=A9 hJ5 hlt5
  have hx5:=Ay hx5_
  have hw5:=wk (k:=k5) (by omega)
  unfold Ii at h;try dsimp only at h
  refine sk (qn (sq (bk (sq ?_))))
  refine AWP.draw Tryz.mixed (by kernel_rfl) ?_;intro K j
  refine nS ?_
  refine Bn.of (f:=A2) (l:=y5) hx5 ?_
  refine nS ?_
  obtain⟨y8,hy8,h⟩:=Af h
  refine B7.pure Tryz.call18 (Dh y3.1 y5 x_7 hy8) rfl ?_
  refine nS ?_
  refine j _ _ _ (by kernel_rfl) ?_
  refine qn ?_
  revert h;refine ca rfl (fun hc h=>?_) fun hc h=>?_
  ·refine sq (ar rfl (qn (rt (br (qr (qr ?_))))))
   obtain rfl:=Aa h
   obtain rfl:=Ae hJ5
   replace h:=Al hO5
   refine br (qr ?_)
   cases h;exact en Tryz.results7
  refine sk (bn (qn (ar rfl (qn ?_))))
  obtain rfl:=Aa h
  refine⟨(k5+1,(),()),⟨by dsimp only;omega,Ai hJ5⟩,by dsimp only;omega,?_,?_⟩
  ·exact cuw hw5
  exact cuw hw5
 obtain rfl:=Bf hJ5 (fun hl=>by have:=Aiz hc;omega)
 have h:=Be hO5;try dsimp only at h
 have hkl:y5.length=k5:=by have:=Aiz hc;omega
 subst hkl
 refine xt (qe (qe (bs (qn (sq ?_)))))
 refine rg rfl fun K j=>?_
 obtain⟨y9,hy9,h⟩:=Af h
 refine An.pure Tryz.call24 (Lw y3.1 run hy9) rfl fun _ hr=>?_
 subst hr
 refine nS ?_
 refine j _ _ (qn (sq (sq ?_)))
 refine rg rfl fun K j=>?_
 revert h;refine gt (fun hc h=>?_) fun hc h=>?_
 rotate_left
 ·refine j _ _ (qn ?_)
  refine AWP.cond (Bk ?_)
  refine sk (qn (sq (ar rfl (qn (sq ?_)))))
  refine ar rfl (qn (sq ?_))
  refine rg rfl fun K j=>?_
  obtain⟨y15,hy15,h⟩:=Af h
  refine An.pure Tryz.call22 (Ad.yS (args:=[.agg [.sl 2 (f_.Map.Nodes.map A6),.sl 8 (f_.Map.Lifts.map A7),.sl 7 (f_.Map.Runs.map Bc),.sl 1 (f_.Map.Bases.map A2),.sl 2 (f_.Lifts.map Aw),.sl 4 (f_.Closures.map Au),.sl 4 (f_.Patrol.Bu.map Av),.sl 3 (f_.Patrol.Hazards.map Az),.sl 3 (f_.Surfaces.map A4),.sl 5 (f_.Packs.map A3),.sl 6 (f_.Slides.map Ba),.sl 7 (f_.Bulletin.map Ax),.sl 7 (f_.Missions.map Ap),.sl 4 (f_.Winches.map Ao),.sl 8 (f_.Groomers.map A1),.nils,.int .i64 f_.Depth,.int .i64 f_.Time]]) (by simp +decide -implicitDefEqProofs only[go_sem,Dg,Ac.int.injEq,Int.natCast_zero,List.replicate_zero,List.length_take,List.length_drop,Ac.own.injEq,reduceCtorEq,Int.reduceAdd,Ru,Rv,Om,Rt,Ol]) (Es (Aj.mk f_.Map f_.Lifts f_.Closures f_.Patrol f_.Surfaces f_.Packs f_.Slides f_.Bulletin f_.Missions f_.Winches f_.Groomers [] f_.Depth f_.Time) hy15)) rfl fun _ hr=>?_
  subst hr
  refine nS ?_
  refine j _ _ (qn (rt ?_))
  cases h;exact en Tryz.results7
 obtain⟨y10,hy10,h⟩:=Af h
 refine An.pure Tryz.call22 (Es y9.1 hy10) rfl fun _ hr=>?_
 subst hr
 refine nS ?_
 revert h;refine gf (fun hc h=>?_) fun hc h=>?_
 rotate_left
 ·refine j _ _ (qn ?_)
  refine AWP.cond (Ah ?_)
  refine sq (ar rfl (qn (rt (qr ?_))))
  cases h;exact en Tryz.results7
 obtain⟨y11,hy11,h⟩:=Af h
 refine An.pure Tryz.call20 (D2 y9.1 hy11) rfl fun _ hr=>?_
 subst hr
 refine nS ?_
 obtain⟨y12,hy12,h⟩:=Af h
 refine An.pure Tryz.call31 (Yv y11 run hy12) rfl fun _ hr=>?_
 subst hr
 refine nS ?_
 revert h;refine gf (fun hc h=>?_) fun hc h=>?_
 rotate_left
 ·refine j _ _ (qn ?_)
  refine AWP.cond (Ah ?_)
  refine sq (ar rfl (qn (rt (qr ?_))))
  cases h;exact en Tryz.results7
 obtain⟨y13,hy13,h⟩:=Af h
 refine An.pure Tryz.call20 (D2 y9.1 hy13) rfl fun _ hr=>?_
 subst hr
 refine nS ?_
 intro hm
 intro hm
 refine j _ _ (qn ?_)
 revert h;refine ca rfl (fun hc h=>?_) fun hc h=>?_
 ·refine sq (ar rfl (qn (rt (qr ?_))))
  cases h;exact en Tryz.results7
 refine sk (qn (sq (ar rfl (qn (sq ?_)))))
 refine ar rfl (qn (sq ?_))
 refine rg rfl fun K j=>?_
 obtain⟨y14,hy14,h⟩:=Af h
 refine An.pure Tryz.call22 (Ad.yS (args:=[.agg [.sl 2 (f_.Map.Nodes.map A6),.sl 8 (f_.Map.Lifts.map A7),.sl 7 (f_.Map.Runs.map Bc),.sl 1 (f_.Map.Bases.map A2),.sl 2 (f_.Lifts.map Aw),.sl 4 (f_.Closures.map Au),.sl 4 (f_.Patrol.Bu.map Av),.sl 3 (f_.Patrol.Hazards.map Az),.sl 3 (f_.Surfaces.map A4),.sl 5 (f_.Packs.map A3),.sl 6 (f_.Slides.map Ba),.sl 7 (f_.Bulletin.map Ax),.sl 7 (f_.Missions.map Ap),.sl 4 (f_.Winches.map Ao),.sl 8 (f_.Groomers.map A1),.nils,.int .i64 f_.Depth,.int .i64 f_.Time]]) (by simp +decide -implicitDefEqProofs only[go_sem,Dg,Ac.int.injEq,Int.natCast_zero,List.replicate_zero,List.length_take,List.length_drop,Ac.own.injEq,reduceCtorEq,Int.reduceAdd,Ru,Rv,Om,Rt,Ol]) (Es (Aj.mk f_.Map f_.Lifts f_.Closures f_.Patrol f_.Surfaces f_.Packs f_.Slides f_.Bulletin f_.Missions f_.Winches f_.Groomers [] f_.Depth f_.Time) hy14)) rfl fun _ hr=>?_
 subst hr
 refine nS ?_
 refine j _ _ (qn (rt ?_))
 cases h;exact en Tryz.results7
def Ef (y3:Aj×(List Int)) (y5:(List Int)) (k5:Nat) (x_7:Int) (sv:Unit):Option (Out (Unit) (Bool)):=
 (Jc y3.1.Map x_7).bind fun y8=>(bif (!y8.2)then some (Out.ret false)else (Fz y5 y8.1.To).bind fun y9=>(bif (!y9)then some (Out.ret false)else some (Out.next ())))
def G1 (f_:Aj):Option (Bool):=
 (Nh).bind fun y1=>(bif (!y1)then some false else(Ky f_ []).bind fun y2=>(bif (!y2)then some true else(Ex f_).bind fun y3=>(Cw y3.1).bind fun y4=>(Ko y3.1.Map y4).bind fun y5=>(Am (Ef y3 y5) 0 y4 ()).bind fun o5=>o5.on fun s5=>some true))
theorem Tk (f_:Aj) {r:Bool} (h:G1 f_=some r):Ad Tryz.prog 9 [.agg (B3 f_)] (·= .bool r):=by
 refine Ad.nle (Ad.intro Tryz.func9 rfl rfl (by show _≤51;simp) ?_)
 unfold G1 at h
 refine nS (sq ?_)
 refine ar rfl (qn (sq (sq ?_)))
 refine rg rfl fun K j=>?_
 obtain⟨y1,hy1,h⟩:=Af h
 refine An.pure Tryz.call10 (Uj hy1) rfl fun _ hr=>?_
 subst hr
 refine nS ?_
 refine j _ _ (qn ?_)
 revert h;refine ca rfl (fun hc h=>?_) fun hc h=>?_
 ·refine sq (ar rfl (qn (rt (qr ?_))))
  cases h;exact en Tryz.results9
 refine sk (qn (sq (sq ?_)))
 refine rg rfl fun K j=>?_
 obtain⟨y2,hy2,h⟩:=Af h
 refine An.pure Tryz.call14 (Ad.yS (args:=[.agg [.sl 2 (f_.Map.Nodes.map A6),.sl 8 (f_.Map.Lifts.map A7),.sl 7 (f_.Map.Runs.map Bc),.sl 1 (f_.Map.Bases.map A2),.sl 2 (f_.Lifts.map Aw),.sl 4 (f_.Closures.map Au),.sl 4 (f_.Patrol.Bu.map Av),.sl 3 (f_.Patrol.Hazards.map Az),.sl 3 (f_.Surfaces.map A4),.sl 5 (f_.Packs.map A3),.sl 6 (f_.Slides.map Ba),.sl 7 (f_.Bulletin.map Ax),.sl 7 (f_.Missions.map Ap),.sl 4 (f_.Winches.map Ao),.sl 8 (f_.Groomers.map A1),.sl 3 (f_.Status.map A5),.int .i64 f_.Depth,.int .i64 f_.Time],.nils]) (by simp +decide -implicitDefEqProofs only[go_sem,Dg,Ac.int.injEq,Int.natCast_zero,List.replicate_zero,List.length_take,List.length_drop,Ac.own.injEq,reduceCtorEq,Int.reduceAdd,Ru,Rv,Om,Rt,Ol]) (Ui f_ [] hy2)) rfl fun _ hr=>?_
 subst hr
 refine nS ?_
 refine j _ _ (qn ?_)
 revert h;refine ca rfl (fun hc h=>?_) fun hc h=>?_
 ·refine sq (ar rfl (qn (rt (qr ?_))))
  cases h;exact en Tryz.results9
 refine sk (qn (sq ?_))
 refine rg rfl fun K j=>?_
 obtain⟨y3,hy3,h⟩:=Af h
 refine An.pure Tryz.call27 (Jo f_ hy3) rfl fun _ hr=>?_
 subst hr
 refine nS ?_
 refine j _ _ (qn (sq ?_))
 refine rg rfl fun K j=>?_
 obtain⟨y4,hy4,h⟩:=Af h
 refine An.pure Tryz.call20 (D2 y3.1 hy4) rfl fun _ hr=>?_
 subst hr
 refine nS ?_
 refine j _ _ (qn (sq ?_))
 refine rg rfl fun K j=>?_
 obtain⟨y5,hy5,h⟩:=Af h
 refine An.pure Tryz.call35 (eN y3.1.Map y4 hy5) rfl fun _ hr=>?_
 subst hr
 refine nS ?_
 refine j _ _ (qn (sq (sq ?_)))
 refine ar rfl (qn (bk ?_))
 obtain⟨o5,hJ5,hO5⟩:=Af h
 clear h
 refine AWP.Bw (ι:=Nat×(Unit)×(Unit)) (fun zz=>[(3,.ptr 1 0),(5,.sl 1 (y4.map A2)),(6,.sl 1 (y5.map A2)),(7,.int .i64 ((zz.1:Nat):Int))]) (fun zz=>[.gone,.box [.sl 2 (y3.1.Map.Nodes.map A6),.sl 8 (y3.1.Map.Lifts.map A7),.sl 7 (y3.1.Map.Runs.map Bc),.sl 1 (y3.1.Map.Bases.map A2),.sl 2 (y3.1.Lifts.map Aw),.sl 4 (y3.1.Closures.map Au),.sl 4 (y3.1.Patrol.Bu.map Av),.sl 3 (y3.1.Patrol.Hazards.map Az),.sl 3 (y3.1.Surfaces.map A4),.sl 5 (y3.1.Packs.map A3),.sl 6 (y3.1.Slides.map Ba),.sl 7 (y3.1.Bulletin.map Ax),.sl 7 (y3.1.Missions.map Ap),.sl 4 (y3.1.Winches.map Ao),.sl 8 (y3.1.Groomers.map A1),.sl 3 (y3.1.Status.map A5),.int .i64 y3.1.Depth,.int .i64 y3.1.Time]]) (fun zz=>zz.1≤y4.length∧Am (Ef y3 y5) zz.1 ((y4).drop zz.1) zz.2.1=some o5) (fun zz=>y4.length - zz.1) (0,(),()) ⟨Nat.zero_le _,hJ5⟩ cu cu (fun x=>⟨rfl,rfl,rfl⟩) ?_
 clear hJ5
 rintro⟨k5,⟨⟩,⟨⟩⟩ ⟨hk5,hJ5⟩
 dsimp only at hk5 hJ5 ⊢
 refine sq (sq ?_)
 refine rg rfl fun K j=>?_
 intro hm
 refine j _ _ (qn ?_)
 refine AWP.cond (Ak (fun hc=>?_) (fun hc=>?_))
 rotate_left
 ·obtain rfl:=Bf hJ5 (fun hl=>by have:=Aiz hc;omega)
  have h:=Be hO5;try dsimp only at h
  have hkl:y4.length=k5:=by have:=Aiz hc;omega
  subst hkl
  refine xt (qe (qe (bs (qn (sq (ar rfl (qn (rt ?_))))))))
  cases h;exact en Tryz.results9
 have hlt5:k5<y4.length:=by have:=Ai0 hc;omega
 obtain⟨x_7,b5,hx5_,h,hJ5⟩:=A9 hJ5 hlt5
 have hx5:=Ay hx5_
 have hw5:=wk (k:=k5) (by omega)
 unfold Ef at h;try dsimp only at h
 refine sk (qn (sq (bk (sq ?_))))
 refine AWP.draw Tryz.mixed (by kernel_rfl) ?_;intro K j
 refine nS ?_
 refine Bn.of (f:=A2) (l:=y4) hx5 ?_
 refine nS ?_
 obtain⟨y8,hy8,h⟩:=Af h
 refine B7.pure Tryz.call32 (Ro y3.1.Map x_7 hy8) rfl ?_
 refine nS ?_
 refine j _ _ _ (by kernel_rfl) ?_
 refine qn (sq ?_)
 refine rg rfl fun K j=>?_
 revert h;refine gf (fun hc h=>?_) fun hc h=>?_
 ·obtain⟨y9,hy9,h⟩:=Af h
  refine An.pure Tryz.call31 (Yv y5 y8.1.To hy9) rfl fun _ hr=>?_
  subst hr
  refine nS ?_
  refine j _ _ (qn ?_)
  revert h;refine ca rfl (fun hc h=>?_) fun hc h=>?_
  ·refine sq (ar rfl (qn (rt (br (qr (qr ?_))))))
   obtain rfl:=Aa h
   obtain rfl:=Ae hJ5
   replace h:=Al hO5
   refine br (qr ?_)
   cases h;exact en Tryz.results9
  refine sk (bn (qn (ar rfl (qn ?_))))
  obtain rfl:=Aa h
  refine⟨(k5+1,(),()),⟨by dsimp only;omega,Ai hJ5⟩,by dsimp only;omega,?_,?_⟩
  ·exact cuw hw5
  exact cuw hw5
 refine j _ _ (qn ?_)
 refine AWP.cond (Ah ?_)
 refine sq (ar rfl (qn (rt (br (qr (qr ?_))))))
 obtain rfl:=Aa h
 obtain rfl:=Ae hJ5
 replace h:=Al hO5
 refine br (qr ?_)
 cases h;exact en Tryz.results9
end
end Go.Proofs.YtjopghiagoidgaaGreat
namespace Go.Proofs.YtjopghiagoidgaaGreat
open Go Go.Ab
set_option linter.unusedSimpArgs false
set_option linter.unusedVariables false
inductive Rch (l:List Aq) (S:Int→Prop):Int→Prop
  | base {n:Int}:S n→Rch l S n
  | step {e:Aq}:e∈l→Rch l S e.From→Rch l S e.To
theorem Rch.mono {l l':List Aq} {S T:Int→Prop} (hl:∀ e∈l,e∈l') (hS:∀ n,S n→T n) {n:Int} (h:Rch l S n):Rch l' T n:=by
  induction h with
  | base h=>exact .base (hS _ h)
  | step he _ ih=>exact .step (hl _ he) ih
structure Pl (l:List Aq) (f r:List Int):Prop where
  inc:Inc r
  mem:∀ n,n∈r↔Rch l (·∈f) n
theorem Pl.unique {l:List Aq} {f r r':List Int} (h:Pl l f r) (h':Pl l f r'):r=r':=
  Ph h.inc h'.inc fun x=>by rw[h.mem,h'.mem]
theorem Pl.of_closed {l:List Aq} {f r:List Int} (h:Inc r) (h1:∀ n∈r,Rch l (·∈f) n) (h2:∀ n∈f,n∈r) (h3:∀ e∈l,e.From∈r→e.To∈r):Pl l f r:=
  ⟨h,fun n=>⟨h1 n,fun hr=>by
    induction hr with
    | base h=>exact h2 _ h
    | step he _ ih=>exact h3 _ he ih⟩⟩
theorem Q6 {l:List Aq} {f:List Int} {n:Int} (h:Rch l (·∈f) n):n∈f++l.map (·.To):=by
  cases h with
  | base h=>exact List.mem_append.2 (.inl h)
  | step he _=>exact List.mem_append.2 (.inr (List.mem_map_of_mem he))
def Zz (e:Aq):Aq:=⟨e.ID,e.To,e.From,e.Cost⟩
def turn (l:List Aq):List Aq:=l.map Zz
theorem vX {l:List Aq} {e:Aq}:e∈turn l↔Zz e∈l:=by
  unfold turn
  rw[List.mem_map]
  constructor
  ·rintro⟨x,hx,rfl⟩;exact hx
  ·intro h;exact⟨Zz e,h,rfl⟩
def Ja (l:List Aq):Int→List Aq→Int→Prop
  | n,[],t=>n=t
  | n,e::es,t=>e∈l∧e.From=n∧Ja l e.To es t
def ecost (es:List Aq):Int:=(es.map (·.Cost)).sum
theorem O3 (e:Aq) (es:List Aq):ecost (e::es)=e.Cost+ecost es:=by simp[ecost]
theorem kJ:∀ (a b:List Aq),ecost (a++b)=ecost a+ecost b
  | [],b=>by simp[ecost]
  | e::a,b=>by rw[List.cons_append,O3,O3,kJ a b];omega
theorem Yc {l:List Aq}:∀ {a b:List Aq} {n t:Int},Ja l n (a++b) t↔∃ m,Ja l n a m∧Ja l m b t
  | [],b,n,t=>by simp[Ja]
  | e::a,b,n,t=>by
    simp only[List.cons_append,Ja,Yc (a:=a)]
    constructor
    ·rintro⟨h1,h2,m,h3,h4⟩;exact⟨m,⟨h1,h2,h3⟩,h4⟩
    ·rintro⟨m,⟨h1,h2,h3⟩,h4⟩;exact⟨h1,h2,m,h3,h4⟩
theorem Ja.mem {l:List Aq}:∀ {es:List Aq} {n t:Int},Ja l n es t→∀ e∈es,e∈l
  | [],n,t,h,e,he=>by simp at he
  | x::es,n,t,h,e,he=>by
    rcases List.mem_cons.1 he with rfl | he
    ·exact h.1
    ·exact Ja.mem h.2.2 e he
theorem Ja.mono {l l':List Aq} (hs:∀ e∈l,e∈l'):∀ {es:List Aq} {n t:Int},Ja l n es t→Ja l' n es t
  | [],n,t,h=>h
  | x::es,n,t,h=>⟨hs _ h.1,h.2.1,Ja.mono hs h.2.2⟩
def lexle (a b:Int×Nat):Prop:=a.1<b.1∨(a.1=b.1∧a.2≤b.2)
theorem lexle.refl (a:Int×Nat):lexle a a:=.inr ⟨rfl,Nat.le_refl _⟩
theorem lexle.trans {a b c:Int×Nat} (h:lexle a b) (k:lexle b c):lexle a c:=by
  unfold lexle at *;omega
theorem lexle.antisymm {a b:Int×Nat} (h:lexle a b) (k:lexle b a):a=b:=by
  obtain⟨a1,a2⟩:=a;obtain⟨b1,b2⟩:=b
  unfold lexle at *
  simp only at h k
  have h1:a1=b1:=by omega
  have h2:a2=b2:=by omega
  rw[h1,h2]
theorem lexle.add {a b:Int×Nat} (h:lexle a b) (c:Int):lexle (a.1+c,a.2+1) (b.1+c,b.2+1):=by
  unfold lexle at *;simp only;omega
theorem lexle.sub {a b:Int×Nat} {c:Int} (h:lexle (a.1+c,a.2+1) (b.1+c,b.2+1)):lexle a b:=by
  unfold lexle at *;simp only at h;omega
def cst (es:List Aq):Int×Nat:=(ecost es,es.length)
theorem aN (e:Aq) (es:List Aq):cst (e::es)=((cst es).1+e.Cost,(cst es).2+1):=by
  unfold cst;rw[O3,Int.add_comm];rfl
theorem kK {α:Type} [DecidableEq α]:∀ {es:List α},¬ es.Nodup→∃ a e b d,es=a++e::(b++e::d)
  | [],h=>absurd List.nodup_nil h
  | x::es,h=>by
    by_cases hx:x∈es
    ·obtain⟨b,d,rfl⟩:=List.append_of_mem hx
     exact⟨[],x,b,d,rfl⟩
    ·have:¬ es.Nodup:=fun hn=>h (List.nodup_cons.2 ⟨hx,hn⟩)
     obtain⟨a,e,b,d,rfl⟩:=kK this
     exact⟨x::a,e,b,d,rfl⟩
theorem shorten {l:List Aq} (h0:∀ e∈l,0≤e.Cost):∀ (k:Nat) {n t:Int} {es:List Aq},es.length≤k→Ja l n es t→∃ es',Ja l n es' t∧es'.length≤l.length∧lexle (cst es') (cst es)
  | 0,n,t,es,hk,h=>⟨es,h,by omega,.refl _⟩
  | k+1,n,t,es,hk,h=>by
    by_cases hn:es.Nodup
    ·exact⟨es,h,Jd hn (Ja.mem h),.refl _⟩
    ·obtain⟨a,e,b,d,rfl⟩:=kK hn
     obtain⟨m,h1,h2,h3,h4⟩:=Yc.1 h
     obtain⟨m',h5,h6,h7,h8⟩:=Yc.1 h4
     have hc:Ja l n (a++e::d) t:=Yc.2 ⟨m,h1,h2,h3,h8⟩
     obtain⟨es',g1,g2,g3⟩:=shorten h0 k (by simp at hk ⊢;omega) hc
     refine⟨es',g1,g2,g3.trans ?_⟩
     have hb:0≤ecost b:=by
       have:∀ {b:List Aq},(∀ e∈b,0≤e.Cost)→0≤ecost b:=by
         intro b
         induction b with
         | nil=>intro _;simp[ecost]
         | cons x b ih=>intro h;rw[O3];have:=h x (by simp);have:=ih fun y hy=>h y (List.mem_cons_of_mem _ hy);omega
       exact this fun x hx=>h0 x (Ja.mem h5 x hx)
     have he:=h0 e h2
     unfold lexle cst
     simp only[kJ,O3,List.length_append,List.length_cons]
     omega
structure dJ (l:List Aq) (t n:Int) (p:Int×Nat):Prop where
  walk:∃ es,Ja l n es t∧p=cst es
  least:∀ es,Ja l n es t→lexle p (cst es)
theorem dJ.unique {l:List Aq} {t n:Int} {p q:Int×Nat} (h:dJ l t n p) (k:dJ l t n q):p=q:=by
  obtain⟨es,h1,h2⟩:=h.walk
  obtain⟨es',k1,k2⟩:=k.walk
  exact(k2 ▸ h.least es' k1).antisymm (h2 ▸ k.least es h1)
theorem dJ.z7 {l:List Aq} (h0:∀ e∈l,0≤e.Cost) {t:Int}:dJ l t t (0,0):=by
  refine⟨⟨[],rfl,rfl⟩,fun es h=>?_⟩
  have:0≤ecost es:=by
    have:∀ {b:List Aq},(∀ e∈b,0≤e.Cost)→0≤ecost b:=by
      intro b
      induction b with
      | nil=>intro _;simp[ecost]
      | cons x b ih=>intro h;rw[O3];have:=h x (by simp);have:=ih fun y hy=>h y (List.mem_cons_of_mem _ hy);omega
    exact this fun x hx=>h0 x (Ja.mem h x hx)
  unfold lexle cst;simp only;omega
def Good (l:List Aq) (t n:Int) (e:Aq):Prop:=e∈l∧e.From=n∧∃ p,dJ l t e.To p∧dJ l t n (p.1+e.Cost,p.2+1)
theorem dJ.step {l:List Aq} {t n:Int} {p:Int×Nat} (h:dJ l t n p) (hn:n≠t):∃ e,Good l t n e:=by
  obtain⟨es,h1,h2⟩:=h.walk
  cases es with
  | nil=>exact absurd h1 hn
  | cons e es=>
    refine⟨e,h1.1,h1.2.1,cst es,⟨⟨es,h1.2.2,rfl⟩,fun es' h'=>?_⟩,by rw[← aN,← h2];exact h⟩
    have:=h.least (e::es') ⟨h1.1,h1.2.1,h'⟩
    rw[h2,aN,aN]at this
    exact this.sub
inductive Qz (l:List Aq) (t:Int):Int→List Int→Prop
  | done:Qz l t t []
  | step {n:Int} {i:Nat} {e:Aq} {ids:List Int}:n≠t→l[i]? =some e→Good l t n e→(∀ j e',j<i→l[j]? =some e'→¬ Good l t n e')→Qz l t e.To ids→Qz l t n (e.ID::ids)
theorem Qz.unique {l:List Aq} {t n:Int} {a b:List Int} (h:Qz l t n a) (k:Qz l t n b):a=b:=by
  induction h generalizing b with
  | done=>
    cases k with
    | done=>rfl
    | step hn=>exact absurd rfl hn
  | @step n i e ids hn hi hg hf _ ih=>
    cases k with
    | done=>exact absurd rfl hn
    | @step _ i' e' ids' hn' hi' hg' hf' hr'=>
      have:i=i':=by
        rcases Nat.lt_trichotomy i i' with h | h | h
        ·exact absurd hg (hf' i e h hi)
        ·exact h
        ·exact absurd hg' (hf i' e' h hi')
      subst this
      rw[hi]at hi'
      obtain rfl:=Option.some.inj hi'
      rw[ih hr']
theorem Qz.walk {l:List Aq} {t n:Int} {ids:List Int} (h:Qz l t n ids) {p:Int×Nat} (hb:dJ l t n p) (h0:∀ e∈l,0≤e.Cost):∃ es,Ja l n es t∧es.map (·.ID)=ids∧cst es=p:=by
  induction h generalizing p with
  | done=>exact ⟨[],rfl,rfl,(dJ.z7 h0).unique hb⟩
  | @step n i e ids hn hi hg hf _ ih=>
    obtain⟨g1,g2,q,g3,g4⟩:=hg
    obtain⟨es,e1,e2,e3⟩:=ih g3
    exact⟨e::es,⟨g1,g2,e1⟩,by rw[List.map_cons,e2],by rw[aN,e3];exact g4.unique hb⟩
inductive pB (l:List Aq) (f t:Int):List Int×Int×Bool→Prop
  | none:(∀ es,¬ Ja l f es t)→pB l f t ([],0,false)
  | some {p:Int×Nat} {ids:List Int}:dJ l t f p→Qz l t f ids→pB l f t (ids,p.1,true)
theorem pB.unique {l:List Aq} {f t:Int} {r r':List Int×Int×Bool} (h:pB l f t r) (k:pB l f t r'):r=r':=by
  cases h with
  | none h=>
    cases k with
    | none=>rfl
    | some hb=>obtain ⟨es,h1,_⟩:=hb.walk;exact absurd h1 (h es)
  | some hb hp=>
    cases k with
    | none k=>obtain ⟨es,h1,_⟩:=hb.walk;exact absurd h1 (k es)
    | some kb kp=>rw[hb.unique kb,hp.unique kp]
abbrev Tab:=Int→Option (Int×Nat)
def lexlt (a b:Int×Nat):Prop:=a.1<b.1∨(a.1=b.1∧a.2<b.2)
instance (a b:Int×Nat):Decidable (lexlt a b):=by unfold lexlt;infer_instance
def TLe (x y:Option (Int×Nat)):Prop:=∀ b,y=some b→∃ a,x=some a∧lexle a b
theorem TLe.refl (x:Option (Int×Nat)):TLe x x:=fun b h=>⟨b,h,.refl b⟩
theorem TLe.trans {x y z:Option (Int×Nat)} (h:TLe x y) (k:TLe y z):TLe x z:=fun b hb=>by
  obtain⟨a,h1,h2⟩:=k b hb
  obtain⟨c,h3,h4⟩:=h a h1
  exact⟨c,h3,h4.trans h2⟩
def Cov (l:List Aq) (t:Int) (T:Tab) (i:Nat):Prop:=∀ n es,Ja l n es t→es.length≤i→TLe (T n) (some (cst es))
theorem Cov.all {l:List Aq} (h0:∀ e∈l,0≤e.Cost) {t:Int} {T:Tab} {i:Nat} (h:Cov l t T i) (hi:l.length≤i):∀ j,Cov l t T j:=by
  intro j n es hc _
  obtain⟨es',g1,g2,g3⟩:=shorten h0 _ (Nat.le_refl _) hc
  refine(h n es' g1 (by omega)).trans fun b hb=>?_
  obtain rfl:=Option.some.inj hb
  exact⟨_,rfl,g3⟩
structure Exact (l:List Aq) (t:Int) (T:Tab):Prop where
  best:∀ n p,T n=some p↔dJ l t n p
  cov:∀ i,Cov l t T i
theorem Exact.none {l:List Aq} {t:Int} {T:Tab} (h:Exact l t T) {n:Int} (hn:T n=none):∀ es,¬ Ja l n es t:=fun es hc=>by
  obtain⟨a,h1,_⟩:=h.cov es.length n es hc (Nat.le_refl _) _ rfl
  rw[hn]at h1;cases h1
theorem back_eq {l:List Aq} (hl:l.length≤100000) (f:List Int):M3 l f=E7 (turn l) f:=by
  unfold M3 Ev
  rw[Ci (by omega),Option.bind_some]
  obtain⟨s,h1,h2,h3⟩:=Dt (ρ:=List Int) (step:=Gv) (l:=l) (s:=l) (fun k s=>s.length=l.length∧∀ i e,l[i]? =some e→s[i]? =some (if i<k then Zz e else e)) ⟨rfl,fun i e h=>by simpa using h⟩ (fun k x s hk ⟨i1,i2⟩=>by
    have hlt:=(List.getElem?_eq_some_iff.1 hk).1
    have hx:=i2 k x hk
    rw[if_neg (Nat.lt_irrefl k)]at hx
    refine⟨(s.set k (Aq.mk x.ID x.To x.To x.Cost)).set k (Zz x),?_,by simp[i1],fun i e he=>?_⟩
    ·unfold Gv
     rw[Ay hx,Option.bind_some];rfl
    ·rw[List.set_set]
     by_cases h:k=i
     ·subst h
      rw[hk]at he;obtain rfl:=Option.some.inj he
      rw[List.getElem?_set_self (by omega),if_pos (by omega)]
     ·rw[List.getElem?_set_ne h,i2 i e he]
      by_cases h2:i<k
      ·rw[if_pos h2,if_pos (by omega)]
      ·rw[if_neg h2,if_neg (by omega)])
  rw[h1]
  have:s=turn l:=by
    apply List.ext_getElem?
    intro i
    unfold turn
    rw[List.getElem?_map]
    by_cases hi:i<l.length
    ·have he:=Ai3 hi
     rw[h3 i _ he,he,if_pos hi];rfl
    ·rw[List.getElem?_eq_none (by omega),List.getElem?_eq_none (by omega)];rfl
  subst this
  show(E7 (turn l) f).bind _=_
  cases E7 (turn l) f<;>rfl
theorem gH (l:List Aq) (n:Int):mget [] (Bz l) n=(l.filter fun e=>decide (e.From=n)).map (·.To):=by
  have key:∀ (l:List Aq) (g:List (Int×List Int)),mget [] (l.foldl (fun g e=>gadd g e.From e.To) g) n=mget [] g n++(l.filter fun e=>decide (e.From=n)).map (·.To):=by
    intro l
    induction l with
    | nil=>intro g;simp
    | cons e l ih=>
      intro g
      rw[List.foldl_cons,ih,tJ]
      by_cases h:e.From=n<;>simp[h]
  have:=key l []
  simpa[mget,Bz]using this
theorem iZ (l:List Aq) (m:List (Int×Bool)) (i:List Int) (x:Int) (hi:i.length≤549755813888) :
    Eh l (m,i++[x])=bif (!(mget false m x))then chk (i.length+(mget [] (Bz l) x).length) (some (Out.next (mset m x true,i++mget [] (Bz l) x)))else some (Out.next (m,i)):=by
  unfold Eh
  have e1:IntKind.i64.wrap ((((i++[x]).length:Nat):Int) - 1)=((i.length:Nat):Int):=by
    rw[wrap_i64]<;>simp<;>omega
  simp only[e1]
  rw[Ai1 (show(0:Int)<(((i++[x]).length:Nat):Int) by simp),cond_true,Ay (x:=x) (by simp),Option.bind_some,Oz (by simp;omega)]
  simp[List.take_left]
theorem mV {l:List Aq} {f:List Int} (hl:l.length≤100000) (hf:f.length≤100000) (hE:∀ e∈l,I64 e.To) (hF:∀ n∈f,I64 n):∃ r,E7 l f=some r∧Pl l f r:=by
  have hlen:∀ n,(mget [] (Bz l) n).length≤l.length:=fun n=>by
    rw[gH,List.length_map];exact List.length_filter_le _ _
  have hC:(f++l.map (·.To)).length=f.length+l.length:=by simp
  have hB:(f.length+l.length)*(l.length+1)+f.length≤30000000000:=by
    have:=Nat.mul_le_mul (show f.length+l.length≤200000 by omega) (show l.length+1≤100001 by omega)
    omega
  obtain⟨r,h1,h2⟩:=H8 (step:=Eh l)
    (fun s=>(mkeys s.1).Nodup∧(∀ n,mget false s.1 n=true↔n∈mkeys s.1)∧(∀ n∈mkeys s.1,Rch l (·∈f) n)∧(∀ n∈s.2,Rch l (·∈f) n)∧(∀ n∈f,n∈mkeys s.1∨n∈s.2)∧(∀ e∈l,e.From∈mkeys s.1→e.To∈mkeys s.1∨e.To∈s.2)∧
      (f.length+l.length - s.1.length)*(l.length+1)+s.2.length≤30000000000)
    (fun r=>Pl l f r) (fun s=>(f.length+l.length - s.1.length)*(l.length+1)+s.2.length) (fun s ⟨i1,i2,i3,i4,i5,i6,i7⟩=>by
      obtain⟨m,o⟩:=s
      simp only at i1 i2 i3 i4 i5 i6 i7 ⊢
      have hk:m.length≤f.length+l.length:=by
        have:=Jd i1 (b:=f++l.map (·.To)) fun n hn=>Q6 (i3 n hn)
        rw[hC]at this
        simpa[mkeys]using this
      have ho:o=[]∨∃ i x,o=i++[x]:=by
        rcases List.eq_nil_or_concat o with h | ⟨i,x,h⟩
        ·exact .inl h
        ·exact .inr ⟨i,x,by rw[h,List.concat_eq_append]⟩
      rcases ho with rfl | ⟨i,x,rfl⟩
      ·refine .inr ⟨Dc (mkeys m),?_,?_⟩
       ·unfold Eh
        have hr:∀ k∈mkeys m, -9223372036854775808≤k∧k≤9223372036854775807:=fun k hk=>by
          rcases List.mem_append.1 (Q6 (i3 k hk))with h | h
          ·exact hF k h
          ·obtain⟨e,he,rfl⟩:=List.mem_map.1 h;exact hE e he
        simp only[List.length_nil,Int.natCast_zero,Int.lt_irrefl,decide_false,cond_false]
        rw[Oz hr,Ci (by omega)];rfl
       ·refine .of_closed (sV i1) (fun n hn=>i3 n ((M7 _ _).1 hn)) (fun n hn=>(M7 _ _).2 ?_) (fun e he hm=>(M7 _ _).2 ?_)
        ·simpa using i5 n hn
        ·simpa using i6 e he ((M7 _ _).1 hm)
      ·simp only[List.length_append,List.length_cons,List.length_nil]at i7
       rw[iZ l m i x (by omega)]
       have hx:=i4 x (by simp)
       cases hb:mget false m x with
       | false=>
         have hnew:x ∉ mkeys m:=fun h=>by rw[(i2 x).2 h]at hb;cases hb
         have hlx:=hlen x
         have hle:m.length+1≤f.length+l.length:=by
           have hn:(x::mkeys m).Nodup:=List.nodup_cons.2 ⟨hnew,i1⟩
           have:=Jd hn (b:=f++l.map (·.To)) fun n hn=>by
             rcases List.mem_cons.1 hn with rfl | hn
             ·exact Q6 hx
             ·exact Q6 (i3 n hn)
           rw[hC]at this
           simpa[mkeys]using this
         have hml:(mset m x true).length=m.length+1:=by
           have hh:mhas m x=false:=by
             cases h:mhas m x with
             | false=>rfl
             | true=>exact absurd ((gJ m x).1 h) hnew
           rw[nF,hh];rfl
         have hk2:mkeys (mset m x true)=mkeys m++[x]:=by rw[X1,if_neg hnew]
         obtain⟨d,hd⟩:∃ d,f.length+l.length=m.length+1+d:=⟨_,(Nat.add_sub_cancel' hle).symm⟩
         have e1:f.length+l.length - m.length=d+1:=by omega
         have e2:f.length+l.length - (m.length+1)=d:=by omega
         rw[e1,Nat.succ_mul]at i7
         simp only[Bool.not_false,cond_true]
         rw[Ci (by omega)]
         refine .inl ⟨_,rfl,⟨qF i1 _ _,fun n=>?_,fun n hn=>?_,fun n hn=>?_,fun n hn=>?_,fun e he hm=>?_,?_⟩,?_⟩
         ·simp only[hk2,X2,List.mem_append,List.mem_singleton]
          by_cases h:x=n
          ·simp[h]
          ·rw[if_neg h,i2];exact⟨.inl,fun h'=>h'.elim id fun h'=>absurd h'.symm h⟩
         ·simp only[hk2,List.mem_append,List.mem_singleton]at hn
          rcases hn with hn | rfl
          ·exact i3 n hn
          ·exact hx
         ·rcases List.mem_append.1 hn with hn | hn
          ·exact i4 n (by simp[hn])
          ·rw[gH]at hn
           obtain⟨e,he,rfl⟩:=List.mem_map.1 hn
           have:=List.mem_filter.1 he
           have hfx:=Ai0 this.2
           exact .step this.1 (hfx ▸ hx)
         ·simp only[hk2,List.mem_append,List.mem_singleton]
          rcases i5 n hn with h | h
          ·exact .inl (.inl h)
          ·rcases List.mem_append.1 h with h | h
           ·exact .inr (.inl h)
           ·exact .inl (.inr (by simpa using h))
         ·simp only[hk2,List.mem_append,List.mem_singleton]at hm ⊢
          rcases hm with hm | hm
          ·rcases i6 e he hm with h | h
           ·exact .inl (.inl h)
           ·rcases List.mem_append.1 h with h | h
            ·exact .inr (.inl h)
            ·exact .inl (.inr (by simpa using h))
          ·refine .inr (.inr ?_)
           rw[gH]
           exact List.mem_map.2 ⟨e,List.mem_filter.2 ⟨he,Ai1 hm⟩,rfl⟩
         ·simp only[hml,e2,List.length_append];omega
         ·simp only[hml,e1,e2,List.length_append,Nat.succ_mul,List.length_cons,List.length_nil];omega
       | true=>
         have hold:=(i2 x).1 hb
         refine .inl ⟨_,rfl,⟨i1,i2,i3,fun n hn=>i4 n (by simp[hn]),fun n hn=>?_,fun e he hm=>?_,?_⟩,?_⟩
         ·rcases i5 n hn with h | h
          ·exact .inl h
          ·rcases List.mem_append.1 h with h | h
           ·exact .inr h
           ·exact .inl (by rw[show n=x by simpa using h];exact hold)
         ·rcases i6 e he hm with h | h
          ·exact .inl h
          ·rcases List.mem_append.1 h with h | h
           ·exact .inr h
           ·exact .inl (by rw[show e.To=x by simpa using h];exact hold)
         ·simp only;omega
         ·simp only[List.length_append,List.length_cons,List.length_nil];omega)
    fuel ([],f) ⟨by simp[mkeys],by simp[mget,mkeys],by simp[mkeys],fun n hn=>.base hn,fun n hn=>.inr hn,by simp[mkeys],by simpa using hB⟩ (by show _<1099511627776;simp only[List.length_nil,Nat.sub_zero];omega)
  refine⟨r,?_,h2⟩
  unfold E7 B8
  rw[Ci (by omega),Ci (by omega),Option.bind_some,h1];rfl
def Ek (n_:Int) (least:Int) (most:Int):Option (Bool):=
  (bif (decide (least≤n_))then some (decide (n_≤most))else some false)
def Ot (m:Bb) (k0:Nat) (x_2:Ck) (sv:Unit):Option (Out (Unit) (Int)):=
  (Ek x_2.ID (1:Int) (9999:Int)).bind fun y3=>(bif (!y3)then some (Out.ret (2:Int))else (Ek x_2.Alt (0:Int) (5000:Int)).bind fun y4=>(bif (!y4)then some (Out.ret (2:Int))else (bif (decide ((0:Int)<((k0:Nat):Int)))then (Dk m.Nodes (IntKind.i64.wrap (((k0:Nat):Int) - (1:Int)))).bind fun x_5=>(bif (decide (x_2.ID≤x_5.ID))then some (Out.ret (7:Int))else some (Out.next ()))else some (Out.next ()))))
def S6 (m:Bb):Option (Int):=
  (Am (Ot m) 0 m.Nodes ()).bind fun o0=>o0.on fun s0=>some (0:Int)
def K7 (m:Bb) (x_2:Cc):Option (Out (Unit) (Int)):=
  (Ee m x_2.From).bind fun y10=>(Ee m x_2.To).bind fun y11=>(bif (!y10.2)then some (Out.ret (8:Int))else (bif (!y11.2)then some (Out.ret (8:Int))else (bif (decide (y11.1.Alt≤y10.1.Alt))then some (Out.ret (11:Int))else nz x_2.Spacing ((bif (decide ((Int.tmod (IntKind.i64.wrap ((2:Int)*x_2.Length)) x_2.Spacing)≠(0:Int)))then some (Out.ret (1:Int))else nz x_2.Spacing ((Ek (IntKind.i64.wrap (Int.tdiv (IntKind.i64.wrap ((2:Int)*x_2.Length)) x_2.Spacing)) (1:Int) (200:Int)).bind fun y12=>(bif (!y12)then some (Out.ret (1:Int))else some (Out.next ()))))))))
def G9 (m:Bb) (k0:Nat) (x_2:Cc) (sv:Unit):Option (Out (Unit) (Int)):=
  (Ek x_2.ID (1:Int) (9999:Int)).bind fun y3=>(bif (!y3)then some (Out.ret (2:Int))else (Ek x_2.Operator (1:Int) (8:Int)).bind fun y4=>(bif (!y4)then some (Out.ret (2:Int))else (Ek x_2.Length (10:Int) (6000:Int)).bind fun y5=>(bif (!y5)then some (Out.ret (2:Int))else (Ek x_2.Speed (500:Int) (12000:Int)).bind fun y6=>(bif (!y6)then some (Out.ret (2:Int))else (Ek x_2.Seats (1:Int) (16:Int)).bind fun y7=>(bif (!y7)then some (Out.ret (2:Int))else (Ek x_2.Spacing (5:Int) (1000:Int)).bind fun y8=>(bif (!y8)then some (Out.ret (2:Int))else (bif (decide ((0:Int)<((k0:Nat):Int)))then (Dk m.Lifts (IntKind.i64.wrap (((k0:Nat):Int) - (1:Int)))).bind fun x_13=>(bif (decide (x_2.ID≤x_13.ID))then some (Out.ret (7:Int))else K7 m x_2)else K7 m x_2)))))))
def O9 (m:Bb):Option (Int):=
  (Am (G9 m) 0 m.Lifts ()).bind fun o0=>o0.on fun s0=>some (0:Int)
def Iq (m:Bb) (k0:Nat) (x_2:Ce) (sv:Unit):Option (Out (Unit) (Int)):=
  (Ek x_2.ID (1:Int) (9999:Int)).bind fun y3=>(bif (!y3)then some (Out.ret (2:Int))else (Ek x_2.Operator (1:Int) (8:Int)).bind fun y4=>(bif (!y4)then some (Out.ret (2:Int))else (Ek x_2.Grade (1:Int) (4:Int)).bind fun y5=>(bif (!y5)then some (Out.ret (2:Int))else (Ek x_2.Zone (1:Int) (32:Int)).bind fun y6=>(bif (!y6)then some (Out.ret (2:Int))else (Ek x_2.Length (10:Int) (20000:Int)).bind fun y7=>(bif (!y7)then some (Out.ret (2:Int))else (bif (decide ((0:Int)<((k0:Nat):Int)))then (Dk m.Runs (IntKind.i64.wrap (((k0:Nat):Int) - (1:Int)))).bind fun x_8=>(bif (decide (x_2.ID≤x_8.ID))then some (Out.ret (7:Int))else (Ee m x_2.From).bind fun y9=>(Ee m x_2.To).bind fun y10=>(bif (!y9.2)then some (Out.ret (8:Int))else (bif (!y10.2)then some (Out.ret (8:Int))else (bif (decide (y9.1.Alt≤y10.1.Alt))then some (Out.ret (11:Int))else some (Out.next ())))))else (Ee m x_2.From).bind fun y11=>(Ee m x_2.To).bind fun y12=>(bif (!y11.2)then some (Out.ret (8:Int))else (bif (!y12.2)then some (Out.ret (8:Int))else (bif (decide (y11.1.Alt≤y12.1.Alt))then some (Out.ret (11:Int))else some (Out.next ()))))))))))
def Qq (m:Bb):Option (Int):=
  (Am (Iq m) 0 m.Runs ()).bind fun o0=>o0.on fun s0=>some (0:Int)
def Ha (m:Bb) (k1:Nat) (x_3:Int) (sv:Unit):Option (Out (Unit) (Int)):=
  (bif (decide ((0:Int)<((k1:Nat):Int)))then (Dk m.Bases (IntKind.i64.wrap (((k1:Nat):Int) - (1:Int)))).bind fun x_4=>(bif (decide (x_3≤x_4))then some (Out.ret (7:Int))else some (Out.next ()))else some (Out.next ()))
def bE (m:Bb):Option (Int):=
  (Am (Ha m) 0 m.Bases ()).bind fun o1=>o1.on fun s1=>some (0:Int)
def Ft (m:Bb) (k4:Nat) (x_6:Int) (sv:Unit):Option (Out (Unit) (Int)):=
  (Ee m x_6).bind fun y7=>(bif (!y7.2)then some (Out.ret (8:Int))else some (Out.next ()))
def S7 (m:Bb):Option (Int):=
  (bif (decide (((m.Bases.length:Nat):Int)=(0:Int)))then some (8:Int)else (Am (Ft m) 0 m.Bases ()).bind fun o4=>o4.on fun s4=>bE m)
def fJ (m:Bb):Option (Int):=
  (bif (decide ((64:Int)<((m.Nodes.length:Nat):Int)))then some (4:Int)else (bif (decide ((32:Int)<((m.Lifts.length:Nat):Int)))then some (4:Int)else (bif (decide ((64:Int)<((m.Runs.length:Nat):Int)))then some (4:Int)else (bif (decide ((64:Int)<((m.Bases.length:Nat):Int)))then some (4:Int)else (S6 m).bind fun y1=>(bif (decide (y1≠(0:Int)))then some y1 else(O9 m).bind fun y2=>(bif (decide (y2≠(0:Int)))then some y2 else(Qq m).bind fun y3=>(bif (decide (y3≠(0:Int)))then some y3 else(S7 m).bind fun y4=>some y4)))))))
def W7 {α:Type} (idf:α→Int) (d:α) (l:List α) (id:Int):α×Bool:=match l.find? (fun x=>decide (idf x=id))with | some x=>(x,true) | none=>(d,false)
def Cx (m:Bb) (id:Int):Ck×Bool:=W7 Ck.ID ⟨0,0⟩ m.Nodes id
def Aav (m:Bb) (id:Int):Cc×Bool:=W7 Cc.ID ⟨0,0,0,0,0,0,0,0⟩ m.Lifts id
def Jz (m:Bb) (id:Int):Ce×Bool:=W7 Ce.ID ⟨0,0,0,0,0,0,0⟩ m.Runs id
theorem W6 {α:Type} {idf:α→Int} {d:α} {l:List α} {id:Int} {step:Nat→α→Unit→Option (Out Unit (α×Bool))} (hs:∀ k x,x∈l→step k x ()=bif decide (idf x=id)then some (.ret (x,true))else some (.next ())) :
    ((Am step 0 l ()).bind fun o=>o.on fun _=>some (d,false))=some (W7 idf d l id):=by
  rw[Fq (fun x=>decide (idf x=id)) (fun x=>(x,true)) hs,W7]
  cases l.find? (fun x=>decide (idf x=id))<;>rfl
theorem iA {α:Type} {idf:α→Int} {d:α} {l:List α} {id:Int} (h:(W7 idf d l id).2=true):(W7 idf d l id).1∈l∧idf (W7 idf d l id).1=id:=by
  unfold W7 at h ⊢
  split
  ·rename_i x hx
   exact⟨List.mem_of_find?_eq_some hx,by simpa using List.find?_some hx⟩
  ·rename_i hx;rw[hx]at h;cases h
theorem uB {α:Type} {idf:α→Int} {d:α} {l:List α} {x:α} (h:x∈l):(W7 idf d l (idf x)).2=true:=by
  unfold W7
  split
  ·rfl
  ·rename_i hx
   have:=List.find?_eq_none.1 hx x h
   simp at this
theorem Zf {m:Bb} {id:Int} (h:(Cx m id).2=true):(Cx m id).1∈m.Nodes∧(Cx m id).1.ID=id:=iA h
theorem bH {m:Bb} {id:Int} (h:(Jz m id).2=true):(Jz m id).1∈m.Runs∧(Jz m id).1.ID=id:=iA h
theorem Gu (m:Bb) (id:Int):Ee m id=some (Cx m id):=W6 fun _ _ _=>rfl
theorem Q2 (n lo hi:Int):Ek n lo hi=some (decide (lo≤n∧n≤hi)):=by
  unfold Ek
  by_cases h:lo≤n
  ·simp[h]
  ·simp[h]
theorem wJ (n lo hi:Int):E4 n lo hi=some (decide (lo≤n∧n≤hi)):=Q2 n lo hi
def Jq {α:Type} (idf:α→Int) (l:List α):Prop:=∀ k x y,l[k+1]? =some x→l[k]? =some y→idf y<idf x
def before {α ρ:Type} (idf:α→Int) (l:List α) (k:Nat) (x:α) (bad good:Option (Out Unit ρ)):Option (Out Unit ρ):=
  bif decide (0<((k:Nat):Int))then (Dk l (IntKind.i64.wrap ((k:Int) - 1))).bind fun y=>bif decide (idf x≤idf y)then bad else good else good
theorem Yd {α ρ:Type} {idf:α→Int} {l:List α} {k:Nat} {x:α} {bad good:Option (Out Unit ρ)} (hk:l[k]? =some x) (hl:l.length≤100000) :
    ((∀ y,0<k→l[k - 1]? =some y→idf y<idf x)∧before idf l k x bad good=good)∨(¬ (∀ y,0<k→l[k - 1]? =some y→idf y<idf x)∧before idf l k x bad good=bad):=by
  have hlt:=(List.getElem?_eq_some_iff.1 hk).1
  unfold before
  by_cases h0:0<k
  ·rw[Ai1 (by omega),cond_true,Q0 h0 (by omega),X3 (by omega)]
   have hy:l[k - 1]? =some l[k - 1]:=Ai3 (by omega)
   show(_∧(bif decide (idf x≤idf l[k - 1])then bad else good)=_)∨(_∧(bif decide (idf x≤idf l[k - 1])then bad else good)=_)
   by_cases hle:idf x≤idf l[k - 1]
   ·rw[Ai1 hle,cond_true]
    refine .inr ⟨fun h=>?_,rfl⟩
    have:=h _ h0 hy
    omega
   ·rw[Ai2 hle,cond_false]
    refine .inl ⟨fun y _ hy'=>?_,rfl⟩
    rw[hy]at hy'
    obtain rfl:=Option.some.inj hy'
    omega
  ·rw[Ai2 (by omega),cond_false]
   exact .inl ⟨fun y h=>absurd h h0,rfl⟩
theorem Ut {α:Type} {idf:α→Int} {l:List α}:Jq idf l↔∀ (k:Nat) x,l[k]? =some x→∀ y,0<k→l[k - 1]? =some y→idf y<idf x:=by
  constructor
  ·intro h k x hx y h0 hy
   refine h (k - 1) x y ?_ hy
   rwa [show k - 1+1=k by omega]
  ·intro h k x y hx hy
   exact h (k+1) x hx y (by omega) (by simpa using hy)
def xM (x:Ck):Prop:=(1≤x.ID∧x.ID≤9999)∧(0≤x.Alt∧x.Alt≤5000)
def bA (m:Bb) (a b:Int):Prop:=(Cx m a).2=true∧(Cx m b).2=true∧(Cx m a).1.Alt<(Cx m b).1.Alt
def yX (x:Cc):Prop:=(1≤x.ID∧x.ID≤9999)∧(1≤x.Operator∧x.Operator≤8)∧(10≤x.Length∧x.Length≤6000)∧(500≤x.Speed∧x.Speed≤12000)∧(1≤x.Seats∧x.Seats≤16)∧(5≤x.Spacing∧x.Spacing≤1000)
def bB (x:Cc):Prop:=(2*x.Length).tmod x.Spacing=0∧1≤(2*x.Length).tdiv x.Spacing∧(2*x.Length).tdiv x.Spacing≤200
def xN (m:Bb) (x:Cc):Prop:=yX x∧bA m x.From x.To∧bB x
def Aac (x:Ce):Prop:=(1≤x.ID∧x.ID≤9999)∧(1≤x.Operator∧x.Operator≤8)∧(1≤x.Grade∧x.Grade≤4)∧(1≤x.Zone∧x.Zone≤32)∧(10≤x.Length∧x.Length≤20000)
def zE (m:Bb) (x:Ce):Prop:=Aac x∧bA m x.To x.From
structure K5 (m:Bb):Prop where
  lenN:m.Nodes.length≤64
  lenL:m.Lifts.length≤32
  lenR:m.Runs.length≤64
  lenB:m.Bases.length≤64
  nodes:∀ x∈m.Nodes,xM x
  nodesR:Jq Ck.ID m.Nodes
  lifts:∀ x∈m.Lifts,xN m x
  liftsR:Jq Cc.ID m.Lifts
  runs:∀ x∈m.Runs,zE m x
  runsR:Jq Ce.ID m.Runs
  some:m.Bases≠[]
  bases:∀ b∈m.Bases,(Cx m b).2=true
  basesR:Jq (fun b:Int=>b) m.Bases
theorem tests {α:Type} {step:Nat→α→Unit→Option (Out Unit Int)} {l:List α} (ok:Nat→α→Prop) (hs:∀ k x,l[k]? =some x→(step k x ()=some (.next ())∧ok k x)∨(∃ r,step k x ()=some (.ret r)∧r≠0∧¬ ok k x)) :
    ∃ r,((Am step 0 l ()).bind fun o=>o.on fun _=>some 0)=some r∧(r=0↔∀ k x,l[k]? =some x→ok k x):=by
  rcases Fe (step:=step) (l:=l) (s:=()) (fun k _=>∀ i x,i<k→l[i]? =some x→ok i x) (fun r=>r≠0∧∃ k x,l[k]? =some x∧¬ ok k x) (fun i x h=>by omega) (fun k x u hk hI=>by
    rcases hs k x hk with⟨h1,h2⟩ | ⟨r,h1,h2,h3⟩
    ·refine .inl ⟨(),h1,fun i y hi hy=>?_⟩
     by_cases h:i=k
     ·subst h;rw[hk]at hy;obtain rfl:=Option.some.inj hy;exact h2
     ·exact hI i y (by omega) hy
    ·exact .inr ⟨r,h1,h2,k,x,hk,h3⟩)with ⟨u,h1,h2⟩ | ⟨r,h1,h2,k,x,hk,h3⟩
  ·refine⟨0,by rw[h1];rfl,fun _ k x hk=>h2 k x (List.getElem?_eq_some_iff.1 hk).1 hk,fun _=>rfl⟩
  ·refine⟨r,by rw[h1];rfl,fun h=>absurd h h2,fun h=>absurd (h k x hk) h3⟩
theorem l5 {α:Type} {l:List α} {P:α→Prop} {Q:Nat→α→Prop}:(∀ (k:Nat) x,l[k]? =some x→P x∧Q k x)↔(∀ x∈l,P x)∧∀ (k:Nat) x,l[k]? =some x→Q k x:=by
  constructor
  ·intro h
   refine⟨fun x hx=>?_,fun k x hk=>(h k x hk).2⟩
   obtain⟨k,hk⟩:=List.getElem?_of_mem hx
   exact(h k x hk).1
  ·intro h k x hk
   exact⟨h.1 x (Ai4 hk),h.2 k x hk⟩
theorem iS (m:Bb) (hl:m.Nodes.length≤64):∃ r,S6 m=some r∧(r=0↔(∀ x∈m.Nodes,xM x)∧Jq Ck.ID m.Nodes):=by
  rw[Ut,← l5]
  refine tests _ fun k x hk=>?_
  have hb:Ot m k x ()=(bif !decide (1≤x.ID∧x.ID≤9999)then some (Out.ret 2)else bif !decide (0≤x.Alt∧x.Alt≤5000)then some (Out.ret 2)else before Ck.ID m.Nodes k x (some (Out.ret 7)) (some (Out.next ()))):=by
    simp only[Ot,Q2,Option.bind_some];rfl
  rw[hb]
  by_cases h1:1≤x.ID∧x.ID≤9999
  ·by_cases h2:0≤x.Alt∧x.Alt≤5000
   ·rw[Ai1 h1,Ai1 h2]
    rcases Yd (idf:=Ck.ID) (bad:=some (Out.ret (7:Int))) (good:=some (Out.next ())) hk (by omega)with ⟨h3,e⟩ | ⟨h3,e⟩
    ·exact .inl ⟨e,⟨h1,h2⟩,h3⟩
    ·exact .inr ⟨7,e,by decide,fun h=>h3 h.2⟩
   ·rw[Ai1 h1,Ai2 h2]
    exact .inr ⟨2,rfl,by decide,fun h=>h2 h.1.2⟩
  ·rw[Ai2 h1]
   exact .inr ⟨2,rfl,by decide,fun h=>h1 h.1.1⟩
theorem fX (m:Bb):Sr m.Nodes=S6 m:=rfl
theorem Aae {n:Int} (h:10≤n∧n≤6000):IntKind.i64.wrap (2*n)=2*n:=by rw[wrap_i64]<;>omega
theorem pI {a b:Int} (ha:0≤a) (hb:0<b):0≤a.tdiv b∧a.tdiv b≤a:=by
  rw[Int.tdiv_eq_ediv_of_nonneg ha]
  exact⟨Int.ediv_nonneg ha (by omega),Int.ediv_le_self _ ha⟩
theorem sN {n s:Int} (h:10≤n∧n≤6000) (hs:5≤s∧s≤1000):IntKind.i64.wrap ((2*n).tdiv s)=(2*n).tdiv s:=by
  have:=pI (a:=2*n) (b:=s) (by omega) (by omega)
  rw[wrap_i64]<;>omega
def leads (m:Bb) (a b:Int) (good:Option (Out Unit Int)):Option (Out Unit Int):=
  bif !(Cx m a).2 then some (.ret 8)else bif !(Cx m b).2 then some (.ret 8)else bif decide ((Cx m b).1.Alt≤(Cx m a).1.Alt)then some (.ret 11)else good
theorem nL (m:Bb) (a b:Int) (good:Option (Out Unit Int)):(bA m a b∧leads m a b good=good)∨(¬ bA m a b∧∃ r,leads m a b good=some (.ret r)∧r≠0):=by
  unfold leads bA
  cases h1:(Cx m a).2 with
  | false=>exact .inr ⟨by simp,8,rfl,by decide⟩
  | true=>
    cases h2:(Cx m b).2 with
    | false=>exact .inr ⟨by simp,8,rfl,by decide⟩
    | true=>
      by_cases h3:(Cx m b).1.Alt≤(Cx m a).1.Alt
      ·rw[Ai1 h3]
       exact .inr ⟨fun h=>by omega,11,rfl,by decide⟩
      ·rw[Ai2 h3]
       exact .inl ⟨⟨rfl,rfl,by omega⟩,rfl⟩
def carr (x:Cc) (good:Option (Out Unit Int)):Option (Out Unit Int):=
  nz x.Spacing (bif decide ((IntKind.i64.wrap (2*x.Length)).tmod x.Spacing≠0)then some (.ret 1)else nz x.Spacing (bif !decide (1≤IntKind.i64.wrap ((IntKind.i64.wrap (2*x.Length)).tdiv x.Spacing)∧IntKind.i64.wrap ((IntKind.i64.wrap (2*x.Length)).tdiv x.Spacing)≤200)then some (.ret 1)else good))
theorem yN {x:Cc} (hl:10≤x.Length∧x.Length≤6000) (hs:5≤x.Spacing∧x.Spacing≤1000) (good:Option (Out Unit Int)):(bB x∧carr x good=good)∨(¬ bB x∧∃ r,carr x good=some (.ret r)∧r≠0):=by
  unfold carr bB
  rw[gC (by omega),gC (by omega),Aae hl,sN hl hs]
  by_cases h1:(2*x.Length).tmod x.Spacing=0
  ·rw[Ai2 (by simpa using h1)]
   by_cases h2:1≤(2*x.Length).tdiv x.Spacing∧(2*x.Length).tdiv x.Spacing≤200
   ·rw[Ai1 h2];exact .inl ⟨⟨h1,h2.1,h2.2⟩,rfl⟩
   ·rw[Ai2 h2];exact .inr ⟨fun h=>h2 h.2,1,rfl,by decide⟩
  ·rw[Ai1 (by simpa using h1)];exact .inr ⟨fun h=>h1 h.1,1,rfl,by decide⟩
theorem iT (m:Bb) (hl:m.Lifts.length≤32):∃ r,O9 m=some r∧(r=0↔(∀ x∈m.Lifts,xN m x)∧Jq Cc.ID m.Lifts):=by
  rw[Ut,← l5]
  refine tests _ fun k x hk=>?_
  have hb:G9 m k x ()=(bif !decide (1≤x.ID∧x.ID≤9999)then some (Out.ret 2)else bif !decide (1≤x.Operator∧x.Operator≤8)then some (Out.ret 2)else bif !decide (10≤x.Length∧x.Length≤6000)then some (Out.ret 2)else
   bif !decide (500≤x.Speed∧x.Speed≤12000)then some (Out.ret 2)else bif !decide (1≤x.Seats∧x.Seats≤16)then some (Out.ret 2)else bif !decide (5≤x.Spacing∧x.Spacing≤1000)then some (Out.ret 2)else
   before Cc.ID m.Lifts k x (some (Out.ret 7)) (leads m x.From x.To (carr x (some (.next ()))))):=by
    simp only[G9,K7,Q2,Gu,Option.bind_some];rfl
  rw[hb]
  by_cases h1:1≤x.ID∧x.ID≤9999
  case neg=>rw[Ai2 h1];exact .inr ⟨2,rfl,by decide,fun h=>h1 h.1.1.1⟩
  by_cases h2:1≤x.Operator∧x.Operator≤8
  case neg=>rw[Ai1 h1,Ai2 h2];exact .inr ⟨2,rfl,by decide,fun h=>h2 h.1.1.2.1⟩
  by_cases h3:10≤x.Length∧x.Length≤6000
  case neg=>rw[Ai1 h1,Ai1 h2,Ai2 h3];exact .inr ⟨2,rfl,by decide,fun h=>h3 h.1.1.2.2.1⟩
  by_cases h4:500≤x.Speed∧x.Speed≤12000
  case neg=>rw[Ai1 h1,Ai1 h2,Ai1 h3,Ai2 h4];exact .inr ⟨2,rfl,by decide,fun h=>h4 h.1.1.2.2.2.1⟩
  by_cases h5:1≤x.Seats∧x.Seats≤16
  case neg=>rw[Ai1 h1,Ai1 h2,Ai1 h3,Ai1 h4,Ai2 h5];exact .inr ⟨2,rfl,by decide,fun h=>h5 h.1.1.2.2.2.2.1⟩
  by_cases h6:5≤x.Spacing∧x.Spacing≤1000
  case neg=>rw[Ai1 h1,Ai1 h2,Ai1 h3,Ai1 h4,Ai1 h5,Ai2 h6];exact .inr ⟨2,rfl,by decide,fun h=>h6 h.1.1.2.2.2.2.2⟩
  rw[Ai1 h1,Ai1 h2,Ai1 h3,Ai1 h4,Ai1 h5,Ai1 h6]
  rcases Yd (idf:=Cc.ID) (bad:=some (Out.ret (7:Int))) (good:=leads m x.From x.To (carr x (some (.next ())))) hk (by omega)with ⟨h7,e⟩ | ⟨h7,e⟩
  case inr=>exact .inr ⟨7,e,by decide,fun h=>h7 h.2⟩
  rcases nL m x.From x.To (carr x (some (.next ())))with ⟨h8,e2⟩ | ⟨h8,r,e2,hr⟩
  case inr=>exact .inr ⟨r,e.trans e2,hr,fun h=>h8 h.1.2.1⟩
  rcases yN h3 h6 (some (.next ()))with ⟨h9,e3⟩ | ⟨h9,r,e3,hr⟩
  case inr=>exact .inr ⟨r,e.trans (e2.trans e3),hr,fun h=>h9 h.1.2.2⟩
  exact .inl ⟨e.trans (e2.trans e3),⟨⟨h1,h2,h3,h4,h5,h6⟩,h8,h9⟩,h7⟩
theorem kY (m:Bb) (hl:m.Runs.length≤64):∃ r,Qq m=some r∧(r=0↔(∀ x∈m.Runs,zE m x)∧Jq Ce.ID m.Runs):=by
  rw[Ut,← l5]
  refine tests _ fun k x hk=>?_
  have hlead:∀ (good:Option (Out Unit Int)),(bif !(Cx m x.From).2 then some (.ret 8)else bif !(Cx m x.To).2 then some (.ret 8)else bif decide ((Cx m x.From).1.Alt≤(Cx m x.To).1.Alt)then some (.ret 11)else good)=leads m x.To x.From good:=by
    intro good
    unfold leads
    cases(Cx m x.From).2<;>cases (Cx m x.To).2<;>rfl
  have hb:Iq m k x ()=(bif !decide (1≤x.ID∧x.ID≤9999)then some (Out.ret 2)else bif !decide (1≤x.Operator∧x.Operator≤8)then some (Out.ret 2)else bif !decide (1≤x.Grade∧x.Grade≤4)then some (Out.ret 2)else
   bif !decide (1≤x.Zone∧x.Zone≤32)then some (Out.ret 2)else bif !decide (10≤x.Length∧x.Length≤20000)then some (Out.ret 2)else
   before Ce.ID m.Runs k x (some (Out.ret 7)) (leads m x.To x.From (some (.next ())))):=by
    simp only[Iq,Q2,Gu,Option.bind_some,hlead];rfl
  rw[hb]
  by_cases h1:1≤x.ID∧x.ID≤9999
  case neg=>rw[Ai2 h1];exact .inr ⟨2,rfl,by decide,fun h=>h1 h.1.1.1⟩
  by_cases h2:1≤x.Operator∧x.Operator≤8
  case neg=>rw[Ai1 h1,Ai2 h2];exact .inr ⟨2,rfl,by decide,fun h=>h2 h.1.1.2.1⟩
  by_cases h3:1≤x.Grade∧x.Grade≤4
  case neg=>rw[Ai1 h1,Ai1 h2,Ai2 h3];exact .inr ⟨2,rfl,by decide,fun h=>h3 h.1.1.2.2.1⟩
  by_cases h4:1≤x.Zone∧x.Zone≤32
  case neg=>rw[Ai1 h1,Ai1 h2,Ai1 h3,Ai2 h4];exact .inr ⟨2,rfl,by decide,fun h=>h4 h.1.1.2.2.2.1⟩
  by_cases h5:10≤x.Length∧x.Length≤20000
  case neg=>rw[Ai1 h1,Ai1 h2,Ai1 h3,Ai1 h4,Ai2 h5];exact .inr ⟨2,rfl,by decide,fun h=>h5 h.1.1.2.2.2.2⟩
  rw[Ai1 h1,Ai1 h2,Ai1 h3,Ai1 h4,Ai1 h5]
  rcases Yd (idf:=Ce.ID) (bad:=some (Out.ret (7:Int))) (good:=leads m x.To x.From (some (.next ()))) hk (by omega)with ⟨h7,e⟩ | ⟨h7,e⟩
  case inr=>exact .inr ⟨7,e,by decide,fun h=>h7 h.2⟩
  rcases nL m x.To x.From (some (.next ()))with ⟨h8,e2⟩ | ⟨h8,r,e2,hr⟩
  case inr=>exact .inr ⟨r,e.trans e2,hr,fun h=>h8 h.1.2⟩
  exact .inl ⟨e.trans e2,⟨⟨h1,h2,h3,h4,h5⟩,h8⟩,h7⟩
theorem pH {α:Type} {step:Nat→α→Unit→Option (Out Unit Int)} {l:List α} (e:Int) (ok:Nat→α→Prop) (hs:∀ k x,l[k]? =some x→(step k x ()=some (.next ())∧ok k x)∨(step k x ()=some (.ret e)∧¬ ok k x)) :
    (Am step 0 l ()=some (.next ())∧∀ k x,l[k]? =some x→ok k x)∨(Am step 0 l ()=some (.ret e)∧¬ ∀ k x,l[k]? =some x→ok k x):=by
  rcases Fe (step:=step) (l:=l) (s:=()) (fun k _=>∀ i x,i<k→l[i]? =some x→ok i x) (fun r=>r=e∧∃ k x,l[k]? =some x∧¬ ok k x) (fun i x h=>by omega) (fun k x u hk hI=>by
    rcases hs k x hk with⟨h1,h2⟩ | ⟨h1,h3⟩
    ·refine .inl ⟨(),h1,fun i y hi hy=>?_⟩
     by_cases h:i=k
     ·subst h;rw[hk]at hy;obtain rfl:=Option.some.inj hy;exact h2
     ·exact hI i y (by omega) hy
    ·exact .inr ⟨e,h1,rfl,k,x,hk,h3⟩)with ⟨u,h1,h2⟩ | ⟨r,h1,h2,k,x,hk,h3⟩
  ·exact .inl ⟨h1,fun k x hk=>h2 k x (List.getElem?_eq_some_iff.1 hk).1 hk⟩
  ·subst h2;exact .inr ⟨h1,fun h=>h3 (h k x hk)⟩
theorem zZ (m:Bb):(Am (Ft m) 0 m.Bases ()=some (.next ())∧∀ b∈m.Bases,(Cx m b).2=true)∨(Am (Ft m) 0 m.Bases ()=some (.ret 8)∧¬ ∀ b∈m.Bases,(Cx m b).2=true):=by
  have h:=pH (step:=Ft m) (l:=m.Bases) 8 (fun _ b=>(Cx m b).2=true) (fun k x hk=>by
    simp only[Ft,Gu,Option.bind_some]
    cases(Cx m x).2<;>simp)
  have e:(∀ (k:Nat) x,m.Bases[k]? =some x→(Cx m x).2=true)↔∀ b∈m.Bases,(Cx m b).2=true:=
    ⟨fun h b hb=>by obtain⟨k,hk⟩:=List.getElem?_of_mem hb;exact h k b hk,fun h k x hk=>h x (Ai4 hk)⟩
  rwa [e]at h
theorem zY (m:Bb) (hl:m.Bases.length≤64):(Am (Ha m) 0 m.Bases ()=some (.next ())∧Jq (fun b:Int=>b) m.Bases)∨(Am (Ha m) 0 m.Bases ()=some (.ret 7)∧¬ Jq (fun b:Int=>b) m.Bases):=by
  rw[Ut]
  refine pH _ _ fun k x hk=>?_
  rcases Yd (idf:=fun b:Int=>b) (bad:=some (Out.ret (7:Int))) (good:=some (Out.next ())) hk (by omega)with ⟨h,e⟩ | ⟨h,e⟩
  ·exact .inl ⟨e,h⟩
  ·exact .inr ⟨e,h⟩
theorem sH (m:Bb) (hl:m.Bases.length≤64):(J0 (Ed m) (m.Bases.length - 1) ()=some (.next ())∧Jq (fun b:Int=>b) m.Bases)∨(J0 (Ed m) (m.Bases.length - 1) ()=some (.ret 7)∧¬ Jq (fun b:Int=>b) m.Bases):=by
  have hn:m.Bases.length - 1≤9223372036854775807:=by omega
  rw[J0,if_pos hn]
  have h:=pH (step:=Ed m) (l:=List.replicate (m.Bases.length - 1) ()) 7 (fun k _=>∀ x y,m.Bases[k+1]? =some x→m.Bases[k]? =some y→y<x) (fun k u hk=>by
    have hk:=Ts hk
    have h1:m.Bases[k+1]? =some m.Bases[k+1]:=Ai3 (by omega)
    have h2:m.Bases[k]? =some m.Bases[k]:=Ai3 (by omega)
    have e1:Dk m.Bases ((k:Int)+1)=some m.Bases[k+1]:=Qw (by omega) h1
    have e2:Dk m.Bases (IntKind.i64.wrap ((k:Int)+1 - 1))=some m.Bases[k]:=Qw (by rw[wrap_i64]<;>omega) h2
    simp only[Ed,e1,e2,Option.bind_some]
    by_cases hle:m.Bases[k+1]≤m.Bases[k]
    ·rw[Ai1 hle]
     exact .inr ⟨rfl,fun h=>by have:=h _ _ h1 h2;omega⟩
    ·rw[Ai2 hle]
     refine .inl ⟨rfl,fun x y hx hy=>?_⟩
     rw[h1]at hx;rw[h2]at hy
     obtain rfl:=Option.some.inj hx;obtain rfl:=Option.some.inj hy
     omega)
  have e:(∀ (k:Nat) (u:Unit),(List.replicate (m.Bases.length - 1) ())[k]? =some u→∀ x y,m.Bases[k+1]? =some x→m.Bases[k]? =some y→y<x)↔Jq (fun b:Int=>b) m.Bases:=by
    constructor
    ·intro h k x y hx hy
     have:=(List.getElem?_eq_some_iff.1 hx).1
     exact h k () (by rw[List.getElem?_replicate,if_pos (by omega)]) x y hx hy
    ·intro h k _ _ x y hx hy
     exact h k x y hx hy
  rwa [e]at h
theorem iU (m:Bb) (hl:m.Bases.length≤64):∃ r,S7 m=some r∧Px m=some r∧(r=0↔m.Bases≠[]∧(∀ b∈m.Bases,(Cx m b).2=true)∧Jq (fun b:Int=>b) m.Bases):=by
  unfold S7 Px
  by_cases h0:m.Bases=[]
  ·exact⟨8,by simp[h0],by simp[h0],by simp[h0]⟩
  have hlen:¬ ((m.Bases.length:Nat):Int)=0:=by
    have:=List.length_pos_iff.2 h0;omega
  rw[Ai2 hlen,cond_false,cond_false]
  have e1:Am (N5 m) 0 m.Bases ()=Am (Ft m) 0 m.Bases ():=rfl
  rw[e1]
  rcases zZ m with⟨h1,h2⟩ | ⟨h1,h2⟩
  case inr=>exact ⟨8,by rw[h1];rfl,by rw[h1];rfl,by simp[h2]⟩
  rcases zY m hl with⟨h3,h4⟩ | ⟨h3,h4⟩
  ·rcases sH m hl with⟨h5,h6⟩ | ⟨h5,h6⟩
   ·refine⟨0,?_,?_,fun _=>⟨h0,h2,h4⟩,fun _=>rfl⟩
    ·rw[h1];show((Am (Ha m) 0 m.Bases ()).bind fun o=>o.on fun _=>some 0)=_;rw[h3];rfl
    ·rw[h1];show((J0 (Ed m) (m.Bases.length - 1) ()).bind fun o=>o.on fun _=>some 0)=_;rw[h5];rfl
   ·exact absurd h4 h6
  ·rcases sH m hl with⟨h5,h6⟩ | ⟨h5,h6⟩
   ·exact absurd h6 h4
   ·refine⟨7,?_,?_,fun h=>by omega,fun h=>absurd h.2.2 h4⟩
    ·rw[h1];show((Am (Ha m) 0 m.Bases ()).bind fun o=>o.on fun _=>some 0)=_;rw[h3];rfl
    ·rw[h1];show((J0 (Ed m) (m.Bases.length - 1) ()).bind fun o=>o.on fun _=>some 0)=_;rw[h5];rfl
theorem vJ (m:Bb) (a b:Int):Gg m a b=some (if(Cx m a).2=false then 8 else if(Cx m b).2=false then 8 else if(Cx m b).1.Alt≤(Cx m a).1.Alt then 11 else 0):=by
  unfold Gg
  simp only[Gu,Option.bind_some]
  cases(Cx m a).2<;>cases (Cx m b).2<;>simp
  by_cases h:(Cx m b).1.Alt≤(Cx m a).1.Alt
  ·simp[h]
  ·simp[h]
theorem dP (m:Bb) (a b:Int) (good:Option (Out Unit Int)):((Gg m a b).bind fun y=>bif decide (y≠0)then some (Out.ret y)else good)=leads m a b good:=by
  rw[vJ]
  unfold leads
  cases(Cx m a).2
  ·rfl
  cases(Cx m b).2
  ·rfl
  show(bif decide ((if(Cx m b).1.Alt≤(Cx m a).1.Alt then(11:Int)else 0)≠0)then some (Out.ret (if(Cx m b).1.Alt≤(Cx m a).1.Alt then(11:Int)else 0))else good)=bif decide ((Cx m b).1.Alt≤(Cx m a).1.Alt)then some (Out.ret 11)else good
  by_cases h:(Cx m b).1.Alt≤(Cx m a).1.Alt
  ·rw[if_pos h,Ai1 h];rfl
  ·rw[if_neg h,Ai2 h];rfl
theorem w5 (x:Cc) (good:Option (Out Unit Int)):((Hi x).bind fun y=>bif !y then some (Out.ret 1)else good)=carr x good:=by
  unfold Hi carr
  simp only[wJ]
  by_cases hs:x.Spacing=0
  ·simp[nz,hs]
  rw[gC hs,gC hs,gC hs,gC hs]
  by_cases h:(IntKind.i64.wrap (2*x.Length)).tmod x.Spacing=0
  ·have e1:decide ((IntKind.i64.wrap (2*x.Length)).tmod x.Spacing=0)=true:=Ai1 h
   have e2:decide ((IntKind.i64.wrap (2*x.Length)).tmod x.Spacing≠0)=false:=Ai2 (by simpa using h)
   rw[e1,e2];rfl
  ·have e1:decide ((IntKind.i64.wrap (2*x.Length)).tmod x.Spacing=0)=false:=Ai2 h
   have e2:decide ((IntKind.i64.wrap (2*x.Length)).tmod x.Spacing≠0)=true:=Ai1 h
   rw[e1,e2];rfl
theorem fY (m:Bb):Pw m=O9 m:=by
  have h:Kp m=G9 m:=by
    funext k x u
    simp only[Kp,wJ,Option.bind_some,dP,w5,G9,K7,Q2,Gu]
    rfl
  unfold Pw O9
  rw[h]
theorem iY (m:Bb):Rl m=Qq m:=by
  have hlead:∀ (a b:Int) (good:Option (Out Unit Int)),(bif !(Cx m b).2 then some (.ret 8)else bif !(Cx m a).2 then some (.ret 8)else bif decide ((Cx m b).1.Alt≤(Cx m a).1.Alt)then some (.ret 11)else good)=leads m a b good:=by
    intro a b good
    unfold leads
    cases(Cx m a).2<;>cases (Cx m b).2<;>rfl
  have h:Mb m=Iq m:=by
    funext k x u
    simp only[Mb,wJ,Option.bind_some,dP,Iq,Q2,Gu,hlead]
  unfold Rl Qq
  rw[h]
theorem Wd (m:Bb):∃ r,fJ m=some r∧H7 m=some r∧(r=0↔K5 m):=by
  unfold fJ H7
  by_cases h1:(64:Int)<((m.Nodes.length:Nat):Int)
  ·rw[Ai1 h1];exact⟨4,rfl,rfl,fun h=>by omega,fun h=>by have:=h.lenN;omega⟩
  by_cases h2:(32:Int)<((m.Lifts.length:Nat):Int)
  ·rw[Ai2 h1,Ai1 h2];exact⟨4,rfl,rfl,fun h=>by omega,fun h=>by have:=h.lenL;omega⟩
  by_cases h3:(64:Int)<((m.Runs.length:Nat):Int)
  ·rw[Ai2 h1,Ai2 h2,Ai1 h3];exact⟨4,rfl,rfl,fun h=>by omega,fun h=>by have:=h.lenR;omega⟩
  by_cases h4:(64:Int)<((m.Bases.length:Nat):Int)
  ·rw[Ai2 h1,Ai2 h2,Ai2 h3,Ai1 h4];exact⟨4,rfl,rfl,fun h=>by omega,fun h=>by have:=h.lenB;omega⟩
  rw[Ai2 h1,Ai2 h2,Ai2 h3,Ai2 h4]
  obtain⟨r1,e1,i1⟩:=iS m (by omega)
  obtain⟨r2,e2,i2⟩:=iT m (by omega)
  obtain⟨r3,e3,i3⟩:=kY m (by omega)
  obtain⟨r4,e4,e4',i4⟩:=iU m (by omega)
  simp only[cond_false,fX,fY,iY,e1,e2,e3,e4,e4',Option.bind_some]
  by_cases z1:r1=0
  case neg=>rw[Ai1 z1];exact⟨r1,rfl,rfl,fun h=>absurd h z1,fun h=>absurd (i1.2 ⟨h.nodes,h.nodesR⟩) z1⟩
  by_cases z2:r2=0
  case neg=>rw[Ai2 (by simpa using z1),Ai1 z2];exact⟨r2,rfl,rfl,fun h=>absurd h z2,fun h=>absurd (i2.2 ⟨h.lifts,h.liftsR⟩) z2⟩
  by_cases z3:r3=0
  case neg=>rw[Ai2 (by simpa using z1),Ai2 (by simpa using z2),Ai1 z3];exact⟨r3,rfl,rfl,fun h=>absurd h z3,fun h=>absurd (i3.2 ⟨h.runs,h.runsR⟩) z3⟩
  rw[Ai2 (by simpa using z1),Ai2 (by simpa using z2),Ai2 (by simpa using z3)]
  refine⟨r4,rfl,rfl,fun h=>?_,fun h=>i4.2 ⟨h.some,h.bases,h.basesR⟩⟩
  have g1:=i1.1 z1;have g2:=i2.1 z2;have g3:=i3.1 z3;have g4:=i4.1 h
  exact⟨by omega,by omega,by omega,by omega,g1.1,g1.2,g2.1,g2.2,g3.1,g3.2,g4.1,g4.2.1,g4.2.2⟩
theorem pS (m:Bb):∃ r,H7 m=some r∧(r=0↔K5 m):=by
  obtain⟨r,_,h1,h2⟩:=Wd m
  exact⟨r,h1,h2⟩
theorem eZ (l:List Int) (n:Int):Oy l n=some (decide (n∈l)):=Wx fun k x hx=>rfl
theorem put_eq {l:List Int} (h:Inc l) (hl:l.length≤100000000) (n:Int):∃ r,Ox l n=some r∧Inc r∧(∀ x,x∈r↔x∈l∨x=n):=by
  have hpw:=List.pairwise_iff_getElem.1 h
  obtain⟨s,h1,h2,h3,h4,h5,h6⟩:=Dt (ρ:=List Int) (step:=N6 n) (l:=l) (s:=(false,[])) (fun k s=>Inc s.2∧(∀ y∈s.2,(y∈l.take k∨(y=n∧∀ z∈l.drop k,n<z)))∧(∀ x,x∈s.2↔x∈l.take k∨(s.1=true∧x=n))∧(s.1=false→∀ x∈l.take k,x<n)∧s.2.length≤k+1)
    ⟨List.Pairwise.nil,by simp,by simp,by simp,by simp⟩ (fun k x s hk ⟨i1,i2,i3,i4,i5⟩=>by
      obtain⟨d,o⟩:=s
      simp only at i1 i2 i3 i4 i5
      have hlt:=(List.getElem?_eq_some_iff.1 hk).1
      have hx:l[k]=x:=(List.getElem?_eq_some_iff.1 hk).2
      have tk:∀ y∈l.take k,y<x:=fun y hy=>by
        obtain⟨i,hi,rfl⟩:=List.getElem_of_mem hy
        rw[List.length_take]at hi
        rw[List.getElem_take,← hx]
        exact hpw i k (by omega) hlt (by omega)
      have dk:l.drop k=x::l.drop (k+1):=by rw[List.drop_eq_getElem_cons hlt,hx]
      have dk1:∀ z∈l.drop (k+1),x<z:=fun z hz=>by
        obtain⟨i,hi,rfl⟩:=List.getElem_of_mem hz
        rw[List.length_drop]at hi
        rw[List.getElem_drop,← hx]
        exact hpw k (k+1+i) hlt (by omega) (by omega)
      have ts:=Bx hk
      have olt:∀ y∈o,(d=true→y<x)∧(d=false→y<x∧y<n):=fun y hy=>by
        refine⟨fun _=>?_,fun hd=>?_⟩
        ·rcases i2 y hy with h | ⟨rfl,h⟩
         ·exact tk y h
         ·exact h x (by rw[dk];simp)
        ·rcases(i3 y).1 hy with h | ⟨h,_⟩
         ·exact⟨tk y h,i4 hd y h⟩
         ·rw[hd]at h;cases h
      have app:∀ {o:List Int} {z:Int},Inc o→(∀ y∈o,y<z)→Inc (o++[z]):=fun ho hz=>by
        unfold Inc
        rw[List.pairwise_append]
        refine⟨ho,by simp,fun a ha b hb=>?_⟩
        simp at hb;subst hb;exact hz a ha
      unfold N6
      simp only
      cases d with
      | true=>
        simp only[Bool.not_true,cond_false]
        rw[Ci (by omega)]
        refine⟨_,rfl,app i1 fun y hy=>(olt y hy).1 rfl,fun y hy=>?_,fun y=>?_,(fun h=>by cases h),by simp;omega⟩
        ·rw[ts]
         rcases List.mem_append.1 hy with hy | hy
         ·rcases i2 y hy with h | ⟨h,h'⟩
          ·exact .inl (List.mem_append.2 (.inl h))
          ·exact .inr ⟨h,fun z hz=>h' z (by rw[dk];exact List.mem_cons_of_mem _ hz)⟩
         ·exact .inl (List.mem_append.2 (.inr hy))
        ·simp only[ts,List.mem_append,i3,List.mem_singleton]
         constructor
         ·rintro((h | h) | h)
          ·exact .inl (.inl h)
          ·exact .inr h
          ·exact .inl (.inr h)
         ·rintro((h | h) | h)
          ·exact .inl (.inl h)
          ·exact .inr h
          ·exact .inl (.inr h)
      | false=>
        simp only[Bool.not_false,cond_true]
        have hok:o.length≤k:=by
          have:=Jd i1.nodup (b:=l.take k) fun z hz=>by
            rcases(i3 z).1 hz with h | ⟨h,_⟩
            ·exact h
            ·cases h
          rw[List.length_take]at this;omega
        by_cases c1:n≤x
        ·rw[Ai1 c1,cond_true]
         by_cases c2:n<x
         ·rw[Ai1 c2,cond_true,Ci (by omega),Ci (by omega)]
          refine⟨_,rfl,app (app i1 fun y hy=>((olt y hy).2 rfl).2) fun y hy=>?_,fun y hy=>?_,fun y=>?_,(fun h=>by cases h),by simp;omega⟩
          ·rcases List.mem_append.1 hy with hy | hy
           ·exact((olt y hy).2 rfl).1
           ·simp at hy;subst hy;exact c2
          ·rw[ts]
           simp only[List.mem_append,List.mem_singleton]at hy ⊢
           rcases hy with(hy | hy) | hy
           ·rcases i2 y hy with h | ⟨h,h'⟩
            ·exact .inl (.inl h)
            ·exact .inr ⟨h,fun z hz=>h' z (by rw[dk];exact List.mem_cons_of_mem _ hz)⟩
           ·exact .inr ⟨hy,fun z hz=>by have:=dk1 z hz;omega⟩
           ·exact .inl (.inr hy)
          ·simp only[ts,List.mem_append,i3,List.mem_singleton]
           constructor
           ·rintro(((h | ⟨h,_⟩) | h) | h)
            ·exact .inl (.inl h)
            ·cases h
            ·exact .inr ⟨trivial,h⟩
            ·exact .inl (.inr h)
           ·rintro((h | h) | ⟨_,h⟩)
            ·exact .inl (.inl (.inl h))
            ·exact .inr h
            ·exact .inl (.inr h)
         ·have e:x=n:=by omega
          rw[Ai2 c2,cond_false,Ci (by omega)]
          refine⟨_,rfl,app i1 fun y hy=>((olt y hy).2 rfl).1,fun y hy=>?_,fun y=>?_,(fun h=>by cases h),by simp;omega⟩
          ·rw[ts]
           simp only[List.mem_append,List.mem_singleton]at hy ⊢
           rcases hy with hy | hy
           ·rcases i2 y hy with h | ⟨h,h'⟩
            ·exact .inl (.inl h)
            ·exact .inr ⟨h,fun z hz=>h' z (by rw[dk];exact List.mem_cons_of_mem _ hz)⟩
           ·exact .inl (.inr hy)
          ·simp only[ts,List.mem_append,i3,List.mem_singleton]
           constructor
           ·rintro((h | ⟨h,_⟩) | h)
            ·exact .inl (.inl h)
            ·cases h
            ·exact .inl (.inr h)
           ·rintro((h | h) | ⟨_,h⟩)
            ·exact .inl (.inl h)
            ·exact .inr h
            ·exact .inr (by rw[e];exact h)
        ·rw[Ai2 c1,cond_false,Ci (by omega)]
         refine⟨_,rfl,app i1 fun y hy=>((olt y hy).2 rfl).1,fun y hy=>?_,fun y=>?_,fun _ y hy=>?_,by simp;omega⟩
         ·rw[ts]
          simp only[List.mem_append,List.mem_singleton]at hy ⊢
          rcases hy with hy | hy
          ·rcases i2 y hy with h | ⟨h,h'⟩
           ·exact .inl (.inl h)
           ·exact .inr ⟨h,fun z hz=>h' z (by rw[dk];exact List.mem_cons_of_mem _ hz)⟩
          ·exact .inl (.inr hy)
         ·simp only[ts,List.mem_append,i3,List.mem_singleton]
          constructor
          ·rintro((h | ⟨h,_⟩) | h)
           ·exact .inl (.inl h)
           ·cases h
           ·exact .inl (.inr h)
          ·rintro((h | h) | ⟨h,_⟩)
           ·exact .inl (.inl h)
           ·exact .inr h
           ·cases h
         ·rw[ts]at hy
          rcases List.mem_append.1 hy with hy | hy
          ·exact i4 rfl y hy
          ·simp at hy;subst hy;omega)
  rw[List.take_length]at h4 h5
  unfold Ox
  rw[h1]
  show ∃ r,(bif (!s.1)then _ else _)=some r∧_
  cases hd:s.1 with
  | true=>
    refine⟨s.2,rfl,h2,fun x=>?_⟩
    rw[h4,hd];simp
  | false=>
    rw[Bool.not_false,cond_true,Ci (by omega)]
    refine⟨_,rfl,?_,fun x=>?_⟩
    ·unfold Inc
     rw[List.pairwise_append]
     refine⟨h2,by simp,fun a ha b hb=>?_⟩
     simp at hb;subst hb
     rcases(h4 a).1 ha with h | ⟨h,_⟩
     ·exact h5 hd a h
     ·rw[hd]at h;cases h
    ·simp only[List.mem_append,List.mem_singleton,h4,hd];simp
theorem zL {l r:List Int} {n:Int} (h:Inc l) (hr:Inc r) (hm:∀ x,x∈r↔x∈l∨x=n) (hn:n∈l):r=l:=
  Ph hr h fun x=>by rw[hm];exact⟨fun h=>h.elim id fun h=>h ▸ hn,.inl⟩
theorem xV {l r:List Int} {n:Int} (h:Inc l) (hr:Inc r) (hm:∀ x,x∈r↔x∈l∨x=n) (hn:n ∉ l):r.length=l.length+1:=by
  have h1:(n::l).Nodup:=List.nodup_cons.2 ⟨hn,h.nodup⟩
  have a:=Jd h1 (b:=r) fun x hx=>by rw[hm];rcases List.mem_cons.1 hx with h | h;exact .inr h;exact .inl h
  have b:=Jd hr.nodup (b:=n::l) fun x hx=>by rcases(hm x).1 hx with h | h;exact List.mem_cons_of_mem _ h;exact h ▸ List.mem_cons_self
  simp at a b;omega
theorem mZ {l:List Aq} {f out:List Int} (h:Inc out) (hr:∀ n∈out,Rch l (·∈f) n) (hC:(f++l.map (·.To)).length≤1000000) :
    ∃ s,Am Hj 0 l out=some (.next s)∧Inc s∧(∀ n∈s,Rch l (·∈f) n)∧(∀ n∈out,n∈s)∧((s=out∧∀ e∈l,e.From∈out→e.To∈out)∨out.length<s.length):=by
  obtain⟨s,h1,h2,h3,h4,h5⟩:=Dt (ρ:=Out (List Int×Int) (List Int)) (step:=Hj) (l:=l) (s:=out) (fun k s=>Inc s∧(∀ n∈s,Rch l (·∈f) n)∧(∀ n∈out,n∈s)∧((s=out∧∀ e∈l.take k,e.From∈out→e.To∈out)∨out.length<s.length))
    ⟨h,hr,fun n h=>h,.inl ⟨rfl,by simp⟩⟩ (fun k e s hk ⟨i1,i2,i3,i4⟩=>by
      have he:=Ai4 hk
      unfold Hj
      rw[eZ,Option.bind_some]
      have hlen:s.length≤1000000:=Nat.le_trans (Jd i1.nodup fun n hn=>Q6 (i2 n hn)) hC
      by_cases hf:e.From∈s
      ·obtain⟨r,g1,g2,g3⟩:=put_eq i1 (by omega) e.To
       rw[Ai1 hf,cond_true,g1]
       refine⟨r,rfl,g2,fun n hn=>?_,fun n hn=>(g3 n).2 (.inl (i3 n hn)),?_⟩
       ·rcases(g3 n).1 hn with h | rfl
        ·exact i2 n h
        ·exact .step he (i2 _ hf)
       ·by_cases ht:e.To∈s
        ·obtain rfl:=zL i1 g2 g3 ht
         rcases i4 with⟨rfl,h⟩ | h
         ·refine .inl ⟨rfl,fun x hx=>?_⟩
          rw[Bx hk]at hx
          rcases List.mem_append.1 hx with hx | hx
          ·exact h x hx
          ·simp at hx;subst hx;exact fun _=>ht
         ·exact .inr h
        ·have:=xV i1 g2 g3 ht
         refine .inr ?_
         rcases i4 with⟨rfl,_⟩ | h<;>omega
      ·rw[Ai2 hf,cond_false]
       refine⟨s,rfl,i1,i2,i3,?_⟩
       rcases i4 with⟨rfl,h⟩ | h
       ·refine .inl ⟨rfl,fun x hx=>?_⟩
        rw[Bx hk]at hx
        rcases List.mem_append.1 hx with hx | hx
        ·exact h x hx
        ·simp at hx;subst hx;exact fun h=>absurd h hf
       ·exact .inr h)
  rw[List.take_length]at h5
  exact⟨s,h1,h2,h3,h4,h5⟩
theorem jX {l:List Aq} {f:List Int} (hl:l.length≤100000) (hf:f.length≤100000):∃ r,Kt l f=some r∧Pl l f r:=by
  have hC:(f++l.map (·.To)).length≤1000000:=by simp;omega
  obtain⟨s,h1,h2,h3⟩:=Dt (ρ:=List Int) (step:=Kr) (l:=f) (s:=[]) (fun k s=>Inc s∧∀ x,x∈s↔x∈f.take k) ⟨List.Pairwise.nil,by simp⟩ (fun k x s hk ⟨i1,i2⟩=>by
    have hlen:s.length≤100000:=Nat.le_trans (Jd i1.nodup (b:=f) fun n hn=>List.mem_of_mem_take ((i2 n).1 hn)) hf
    obtain⟨r,g1,g2,g3⟩:=put_eq i1 (by omega) x
    refine⟨r,by unfold Kr;rw[g1];rfl,g2,fun y=>?_⟩
    rw[g3,i2,Bx hk];simp)
  rw[List.take_length]at h3
  have s1:∀ n∈s,Rch l (·∈f) n:=fun n hn=>.base ((h3 n).1 hn)
  unfold Kt
  rw[h1]
  show ∃ r,Kq l s=some r∧_
  unfold Kq
  have hlen:∀ o:List Int,Inc o→(∀ n∈o,Rch l (·∈f) n)→o.length≤1000000:=fun o ho hr=>Nat.le_trans (Jd ho.nodup fun n hn=>Q6 (hr n hn)) hC
  obtain⟨r,g1,g2⟩:=H8 (step:=Ks l) (fun st=>Inc st.1∧(∀ n∈st.1,Rch l (·∈f) n)∧(∀ n∈f,n∈st.1)∧st.2≤(st.1.length:Int)∧(st.2=(st.1.length:Int)→∀ e∈l,e.From∈st.1→e.To∈st.1)) (fun r=>Pl l f r)
    (fun st=>2*(1000000 - st.1.length)+if st.2<(st.1.length:Int)then 1 else 0) (fun st ⟨i1,i2,i3,i4,i5⟩=>by
      obtain⟨o,w⟩:=st
      simp only at i1 i2 i3 i4 i5 ⊢
      unfold Ks
      simp only
      by_cases hw:w<(o.length:Int)
      ·obtain⟨s,e1,e2,e3,e4,e5⟩:=mZ i1 i2 hC
       rw[Ai1 hw,cond_true,e1]
       have:=hlen s e2 e3
       have:=hlen o i1 i2
       refine .inl ⟨_,rfl,⟨e2,e3,fun n hn=>e4 n (i3 n hn),?_,fun hh=>?_⟩,?_⟩
       ·simp only
        rcases e5 with⟨rfl,_⟩ | h<;>omega
       ·rcases e5 with⟨rfl,h⟩ | h
        ·exact h
        ·simp only at hh;omega
       ·simp only
        rw[if_pos hw]
        rcases e5 with⟨rfl,_⟩ | h
        ·rw[if_neg (by omega)];omega
        ·rw[if_pos (by omega)];omega
      ·rw[Ai2 hw,cond_false]
       exact .inr ⟨o,rfl,.of_closed i1 i2 i3 (i5 (by omega))⟩) fuel (s, -1) ⟨h2,s1,fun n hn=>(h3 n).2 hn,by simp only;omega,fun h=>by simp only at h;omega⟩ (by show _<1099511627776;simp only;split<;>omega)
  rw[g1]
  exact⟨r,rfl,g2⟩
theorem pX {l:List Aq} (hl:l.length≤100000):Lh l=some (turn l):=by
  unfold Lh
  rw[C4 (step:=Mm) (fun _=>true) Zz (by omega) (fun k x s hx=>rfl),List.filter_eq_self.2 (fun a _=>rfl)];rfl
theorem vN {l:List Aq} {f:List Int} (hl:l.length≤100000) (hf:f.length≤100000):∃ r,Rp l f=some r∧Pl (turn l) f r:=by
  obtain⟨r,h1,h2⟩:=jX (l:=turn l) (f:=f) (by simpa[turn]using hl) hf
  refine⟨r,?_,h2⟩
  unfold Rp
  rw[pX hl,Option.bind_some,h1];rfl
theorem contains_eq (l:List Int) (v:Int):Bs l v=some (decide (v∈l)):=by
  unfold Bs F8
  rcases Fe (step:=Du v) (l:=l) (s:=()) (fun k _=>v ∉ l.take k) (fun r=>v∈l∧0≤r) (by simp) (fun k x u hk hI=>by
    unfold Du
    by_cases e:v=x
    ·rw[Ai1 e];exact .inr ⟨_,rfl,e ▸ Ai4 hk,by omega⟩
    ·rw[Ai2 e]
     refine .inl ⟨(),rfl,?_⟩
     rw[Bx hk];simp[hI,e])with ⟨u,h1,h2⟩ | ⟨r,h1,h2,h3⟩
  ·rw[List.take_length]at h2
   rw[h1,Ai2 h2];rfl
  ·rw[h1,Ai1 h2]
   show some (decide (0≤r))=some true
   rw[Ai1 h3]
def xP (x:Ce):Aq:=⟨x.ID,x.From,x.To,x.Length⟩
def rX (x:Cc):Aq:=⟨x.ID,x.From,x.To,x.Length⟩
def R5 (m:Bb) (runs:List Int):List Aq:=(m.Runs.filter fun x=>decide (x.ID∈runs)).map xP
def upE (m:Bb) (lifts:List Int):List Aq:=(m.Lifts.filter fun x=>decide (x.ID∈lifts)).map rX
theorem tK {m:Bb} {runs:List Int} {e:Aq}:e∈R5 m runs↔∃ x∈m.Runs,x.ID∈runs∧xP x=e:=by
  unfold R5
  simp only[List.mem_map,List.mem_filter,decide_eq_true_eq,and_assoc]
theorem lL {m:Bb} {lifts:List Int} {e:Aq}:e∈upE m lifts↔∃ x∈m.Lifts,x.ID∈lifts∧rX x=e:=by
  unfold upE
  simp only[List.mem_map,List.mem_filter,decide_eq_true_eq,and_assoc]
theorem fA {m:Bb} (M:K5 m) {n:Int} (h:(Cx m n).2=true):1≤n∧n≤9999:=by
  obtain⟨h1,h2⟩:=Zf h
  have:=(M.nodes _ h1).1
  rw[h2]at this;exact this
theorem iF {m:Bb} (M:K5 m) {runs:List Int} {e:Aq} (h:e∈R5 m runs):(Cx m e.From).2=true∧(Cx m e.To).2=true∧10≤e.Cost∧e.Cost≤20000:=by
  obtain⟨x,hx,_,rfl⟩:=tK.1 h
  have:=M.runs x hx
  exact⟨this.2.2.1,this.2.1,this.1.2.2.2.2.1,this.1.2.2.2.2.2⟩
theorem u3 {m:Bb} (M:K5 m) {lifts:List Int} {e:Aq} (h:e∈upE m lifts):(Cx m e.From).2=true∧(Cx m e.To).2=true:=by
  obtain⟨x,hx,_,rfl⟩:=lL.1 h
  have:=M.lifts x hx
  exact⟨this.2.1.1,this.2.1.2.1⟩
theorem aM {m:Bb} (M:K5 m) (runs:List Int):(R5 m runs).length≤64:=by
  unfold R5;rw[List.length_map];exact Nat.le_trans (List.length_filter_le _ _) M.lenR
theorem zI {m:Bb} (M:K5 m) (lifts:List Int):(upE m lifts).length≤32:=by
  unfold upE;rw[List.length_map];exact Nat.le_trans (List.length_filter_le _ _) M.lenL
theorem sB {m:Bb} (M:K5 m) (runs:List Int):H9 m runs=some (R5 m runs):=by
  have:=M.lenR
  unfold H9
  rw[C4 (fun x=>decide (x.ID∈runs)) xP (by omega) (fun k x s hx=>by unfold Mj;rw[contains_eq];rfl)];rfl
theorem mW {m:Bb} (M:K5 m) (runs:List Int):M0 m runs=some (R5 m runs):=by
  have:=M.lenR
  unfold M0
  rw[C4 (fun x=>decide (x.ID∈runs)) xP (by omega) (fun k x s hx=>by unfold Pg;rw[eZ];rfl)];rfl
theorem Aaf {m:Bb} (M:K5 m) (lifts:List Int):Ou m lifts=some (upE m lifts):=by
  have:=M.lenL
  unfold Ou
  rw[C4 (fun x=>decide (x.ID∈lifts)) rX (by omega) (fun k x s hx=>by unfold Pc;rw[contains_eq];rfl)];rfl
def Jp (a b:List Aq):Prop:=a.map (fun e=>(e.From,e.To))=b.map (fun e=>(e.From,e.To))
theorem Jp.rch {a b:List Aq} (h:Jp a b) {S:Int→Prop} {n:Int} (hr:Rch a S n):Rch b S n:=by
  induction hr with
  | base h=>exact .base h
  | @step e he _ ih=>
    have:(e.From,e.To)∈a.map fun e=>(e.From,e.To):=List.mem_map.2 ⟨e,he,rfl⟩
    rw[h]at this
    obtain⟨e',he',hh⟩:=List.mem_map.1 this
    rw[Prod.mk.injEq]at hh
    rw[← hh.2]
    exact .step he' (by rw[hh.1];exact ih)
theorem Jp.turn {a b:List Aq} (h:Jp a b):Jp (turn a) (turn b):=by
  unfold Jp Proofs.YtjopghiagoidgaaGreat.turn at *
  rw[List.map_map,List.map_map]
  have e:∀ l:List Aq,l.map ((fun e:Aq=>(e.From,e.To))∘Zz)=(l.map fun e=>(e.From,e.To)).map Prod.swap:=fun l=>by rw[List.map_map];rfl
  rw[e,e,h]
theorem cO (l s:List Aq) (hl:s.length+l.length≤100000):∃ s',Am K6 0 l s=some (.next s')∧Jp s' (s++l):=by
  obtain⟨s',h1,h2⟩:=Dt (ρ:=Out (List Aq) (List Aq)) (step:=K6) (l:=l) (s:=s) (fun k t=>Jp t (s++l.take k)) (by simp[Jp]) (fun k e t hk hI=>by
    have hlt:=(List.getElem?_eq_some_iff.1 hk).1
    have hlen:=congrArg List.length hI
    simp at hlen
    refine⟨_,by unfold K6;rw[Ci (by omega)],?_⟩
    unfold Jp at *
    rw[Bx hk,← List.append_assoc,List.map_append,List.map_append,hI];rfl)
  rw[List.take_length]at h2
  exact⟨s',h1,h2⟩
theorem Jp.len {a b:List Aq} (h:Jp a b):a.length=b.length:=by
  have:=congrArg List.length h;simpa using this
theorem Aaw {a b:List Aq} (ha:a.length≤1000) (hb:b.length≤1000):∃ r,M6 [a,b]=some r∧Jp r (a++b):=by
  obtain⟨s1,h1,h2⟩:=cO a [] (by simp;omega)
  have l1:=h2.len
  simp at l1
  obtain⟨s2,h3,h4⟩:=cO b s1 (by omega)
  refine⟨s2,?_,?_⟩
  ·unfold M6 Am No
   rw[h1]
   simp only[Option.bind_some,Out.on,Out.cont,Am,h3]
  ·unfold Jp at *
   rw[h4,List.map_append,h2,List.nil_append,List.map_append]
theorem Aax {a:List Aq} (ha:a.length≤1000):∃ r,M6 [a]=some r∧Jp r a:=by
  obtain⟨s1,h1,h2⟩:=cO a [] (by simp;omega)
  refine⟨s1,?_,by simpa using h2⟩
  unfold M6 Am No
  rw[h1];rfl
def RR (m:Bb) (lifts runs:List Int) (n:Int):Prop:=Rch (upE m lifts++R5 m runs) (·∈m.Bases) n
def HH (m:Bb) (runs:List Int) (n:Int):Prop:=Rch (turn (R5 m runs)) (·∈m.Bases) n
structure Vs (P:Int→Prop) (r:List Int):Prop where
  inc:Inc r
  mem:∀ n,n∈r↔P n
theorem Vs.unique {P:Int→Prop} {r r':List Int} (h:Vs P r) (h':Vs P r'):r=r':=Ph h.inc h'.inc fun n=>by rw[h.mem,h'.mem]
theorem sG {m:Bb} (M:K5 m):∀ n∈m.Bases,I64 n:=fun n hn=>by have:=fA M (M.bases n hn);exact⟨by omega,by omega⟩
theorem lF {m:Bb} (M:K5 m) (lifts runs:List Int):∃ r,G8 m lifts runs=some r∧Vs (RR m lifts runs) r:=by
  have hb:=M.lenB
  have h1:=zI M lifts
  have h2:=aM M runs
  obtain⟨j,e1,e2⟩:=Aaw (a:=upE m lifts) (b:=R5 m runs) (by omega) (by omega)
  have hl:=e2.len
  rw[List.length_append]at hl
  obtain⟨r,e3,e4⟩:=mV (l:=j) (f:=m.Bases) (by omega) (by omega) (fun e he=>by
    have:(e.From,e.To)∈j.map fun e=>(e.From,e.To):=List.mem_map.2 ⟨e,he,rfl⟩
    rw[e2]at this
    obtain⟨e',he',hh⟩:=List.mem_map.1 this
    rw[Prod.mk.injEq]at hh
    rw[← hh.2]
    rcases List.mem_append.1 he' with he' | he'
    ·have:=fA M (u3 M he').2;exact⟨by omega,by omega⟩
    ·have:=fA M (iF M he').2.1;exact⟨by omega,by omega⟩) (sG M)
  refine⟨r,?_,e4.inc,fun n=>?_⟩
  ·unfold G8
   rw[Aaf M,Option.bind_some,sB M,Option.bind_some,e1,Option.bind_some,e3];rfl
  ·rw[e4.mem];exact⟨fun h=>e2.rch h,fun h=>Jp.rch e2.symm h⟩
theorem iR {m:Bb} (M:K5 m) (lifts runs:List Int):∃ r,Qe m lifts runs=some r∧Vs (RR m lifts runs) r:=by
  have hb:=M.lenB
  have hL:=M.lenL
  have h2:=aM M runs
  obtain⟨s,g1,g2⟩:=Dt (ρ:=List Int) (step:=M1 lifts) (l:=m.Lifts) (s:=R5 m runs) (fun k s=>s=R5 m runs++((m.Lifts.take k).filter fun x=>decide (x.ID∈lifts)).map fun x=>Aq.mk 0 x.From x.To 0) (by simp) (fun k x s hk hI=>by
    have hlt:=(List.getElem?_eq_some_iff.1 hk).1
    have hlen:s.length≤1000:=by
      rw[hI,List.length_append,List.length_map]
      have:=List.length_filter_le (fun x:Cc=>decide (x.ID∈lifts)) (m.Lifts.take k)
      rw[List.length_take]at this;omega
    unfold M1
    rw[eZ,Option.bind_some]
    by_cases hx:x.ID∈lifts
    ·rw[Ai1 hx,cond_true,Ci (by omega)]
     refine⟨_,rfl,?_⟩
     rw[Bx hk,List.filter_append,List.filter_cons_of_pos (by simpa using hx),List.filter_nil,List.map_append,hI];simp
    ·rw[Ai2 hx,cond_false]
     refine⟨_,rfl,?_⟩
     rw[Bx hk,List.filter_append,List.filter_cons_of_neg (by simpa using hx),List.filter_nil,List.append_nil,hI])
  rw[List.take_length]at g2
  have hlen:s.length≤1000:=by
    rw[g2,List.length_append,List.length_map]
    have:=List.length_filter_le (fun x:Cc=>decide (x.ID∈lifts)) m.Lifts
    omega
  obtain⟨r,e3,e4⟩:=jX (l:=s) (f:=m.Bases) (by omega) (by omega)
  refine⟨r,?_,e4.inc,fun n=>?_⟩
  ·unfold Qe
   rw[mW M,Option.bind_some,Ci (by omega),g1]
   show(Kt s m.Bases).bind _=_
   rw[e3];rfl
  ·rw[e4.mem]
   constructor
   ·intro h
    refine Jp.rch (a:=upE m lifts++R5 m runs) rfl ?_
    induction h with
    | base h=>exact .base h
    | step he _ ih=>
      rw[g2]at he
      rcases List.mem_append.1 he with he | he
      ·exact .step (List.mem_append.2 (.inr he)) ih
      ·obtain⟨x,hx,rfl⟩:=List.mem_map.1 he
       have hx:=List.mem_filter.1 hx
       exact Rch.step (e:=rX x) (List.mem_append.2 (.inl (lL.2 ⟨x,hx.1,by simpa using hx.2,rfl⟩))) ih
   ·intro h
    unfold RR at h
    induction h with
    | base h=>exact .base h
    | step he _ ih=>
      rcases List.mem_append.1 he with he | he
      ·obtain⟨x,hx,hi,rfl⟩:=lL.1 he
       refine Rch.step (e:=Aq.mk 0 x.From x.To 0) ?_ ih
       rw[g2]
       exact List.mem_append.2 (.inr (List.mem_map.2 ⟨x,List.mem_filter.2 ⟨hx,by simpa using hi⟩,rfl⟩))
      ·exact Rch.step (by rw[g2];exact List.mem_append.2 (.inl he)) ih
theorem yA {m:Bb} (M:K5 m) (runs:List Int):∃ r,Q3 m runs=some r∧Vs (HH m runs) r:=by
  have hb:=M.lenB
  have h2:=aM M runs
  obtain⟨j,e1,e2⟩:=Aax (a:=R5 m runs) (by omega)
  have hl:=e2.len
  obtain⟨r,e3,e4⟩:=mV (l:=turn j) (f:=m.Bases) (by simp[turn];omega) (by omega) (fun e he=>by
    have he:=vX.1 he
    have:((Zz e).From,(Zz e).To)∈j.map fun e=>(e.From,e.To):=List.mem_map.2 ⟨_,he,rfl⟩
    rw[e2]at this
    obtain⟨e',he',hh⟩:=List.mem_map.1 this
    rw[Prod.mk.injEq]at hh
    have:e.To=e'.From:=hh.1.symm
    rw[this]
    have:=fA M (iF M he').1;exact⟨by omega,by omega⟩) (sG M)
  refine⟨r,?_,e4.inc,fun n=>?_⟩
  ·unfold Q3
   rw[sB M,Option.bind_some,e1,Option.bind_some,back_eq (by omega),e3];rfl
  ·rw[e4.mem];exact⟨fun h=>e2.turn.rch h,fun h=>Jp.rch e2.turn.symm h⟩
theorem fQ {m:Bb} (M:K5 m) (runs:List Int):∃ r,Ko m runs=some r∧Vs (HH m runs) r:=by
  have hb:=M.lenB
  have h2:=aM M runs
  obtain⟨r,e3,e4⟩:=vN (l:=R5 m runs) (f:=m.Bases) (by omega) (by omega)
  refine⟨r,?_,e4.inc,e4.mem⟩
  unfold Ko
  rw[mW M,Option.bind_some,e3];rfl
theorem pQ {α:Type} {idf:α→Int} {l:List α} (h:Jq idf l) {a b:α} (ha:a∈l) (hb:b∈l) (e:idf a=idf b):a=b:=by
  have key:∀ (d i:Nat) (hj:i+d+1<l.length),idf (l[i]'(by omega))<idf l[i+d+1]:=by
    intro d
    induction d with
    | zero=>
      intro i hj
      exact h i _ _ (Ai3 (by omega)) (Ai3 (by omega))
    | succ d ih=>
      intro i hj
      have h1:=ih i (by omega)
      have h2:=h (i+d+1) l[i+(d+1)+1] l[i+d+1] (by rw[Ai3 (by omega)];rfl) (Ai3 (by omega))
      omega
  obtain⟨i,hi,rfl⟩:=List.getElem_of_mem ha
  obtain⟨j,hj,rfl⟩:=List.getElem_of_mem hb
  rcases Nat.lt_trichotomy i j with h1 | h1 | h1
  ·have:=key (j - i - 1) i (by omega)
   simp only[show i+(j - i - 1)+1=j by omega]at this;omega
  ·subst h1;rfl
  ·have:=key (i - j - 1) j (by omega)
   simp only[show j+(i - j - 1)+1=i by omega]at this;omega
end Go.Proofs.YtjopghiagoidgaaGreat
namespace Go.Proofs.YtjopghiagoidgaaGreat.W46
open Go Go.Ab
set_option linter.unusedSimpArgs false
set_option linter.unusedVariables false
theorem sO {a:Int} (h0:0≤a) (h1:a≤4611686018427387904):IntKind.i64.wrap (fN (IntKind.u64.wrap (IntKind.i64.wrap a)) 1)=a / 2:=by
  have e1:IntKind.i64.wrap a=a:=by rw[wrap_i64]<;>omega
  have e2:IntKind.u64.wrap a=a:=by rw[IntKind.wrap_u64];omega
  have e3:fN a 1=a / 2:=by unfold fN;simp
  rw[e1,e2,e3,wrap_i64]<;>omega
theorem x6 (x y:Int):cmp_Less_int x y=some (decide (x<y)):=rfl
theorem aE {xs:List Int} (hi:Inc xs) {i j:Nat} {x y:Int} (hx:xs[i]? =some x) (hy:xs[j]? =some y) (h:i<j):x<y:=by
  obtain⟨h1,rfl⟩:=List.getElem?_eq_some_iff.1 hx
  obtain⟨h2,rfl⟩:=List.getElem?_eq_some_iff.1 hy
  exact(List.pairwise_iff_getElem.1 hi) i j h1 h2 h
theorem sX {xs:List Int} (hi:Inc xs) (hl:xs.length≤549755813888) (t:Int):∃ i,Dj xs t=some (i,decide (t∈xs)):=by
  obtain⟨r,h1,h2⟩:=H8 (step:=C9 xs t)
    (fun s=>0≤s.1∧s.1≤s.2∧s.2≤xs.length∧(∀ (k:Nat) x,(k:Int)<s.1→xs[k]? =some x→x<t)∧(∀ (k:Nat) x,s.2≤(k:Int)→xs[k]? =some x→t≤x))
    (fun r=>r.2=decide (t∈xs)) (fun s=>(s.2 - s.1).toNat) (by
      rintro⟨i,j⟩ ⟨h0,h1,h2,h3,h4⟩
      dsimp only at h0 h1 h2 h3 h4
      unfold C9
      dsimp only
      by_cases hij:i<j
      ·rw[Ai1 hij,cond_true,sO (by omega) (by omega)]
       have hm:((i+j) / 2).toNat<xs.length:=by omega
       have hmm:(i+j) / 2=(((i+j) / 2).toNat:Int):=by omega
       have hx:xs[((i+j) / 2).toNat]? =some xs[((i+j) / 2).toNat]:=Ai3 hm
       generalize xs[((i+j) / 2).toNat]=x at hx
       rw[Qw hmm hx,Option.bind_some,x6,Option.bind_some]
       by_cases hlt:x<t
       ·rw[Ai1 hlt,cond_true,wrap_i64 (by omega) (by omega)]
        refine .inl ⟨_,rfl,⟨by dsimp only;omega,by dsimp only;omega,h2,fun k y hk hy=>?_,h4⟩,by dsimp only;omega⟩
        dsimp only at hk
        by_cases e:k=((i+j) / 2).toNat
        ·subst e;rw[hx]at hy;obtain rfl:=Option.some.inj hy;exact hlt
        ·have:=aE hi hy hx (by omega);omega
       ·rw[Ai2 hlt,cond_false]
        refine .inl ⟨_,rfl,⟨h0,by dsimp only;omega,by dsimp only;omega,h3,fun k y hk hy=>?_⟩,by dsimp only;omega⟩
        dsimp only at hk
        by_cases e:k=((i+j) / 2).toNat
        ·subst e;rw[hx]at hy;obtain rfl:=Option.some.inj hy;omega
        ·have:=aE hi hx hy (by omega);omega
      ·rw[Ai2 hij,cond_false]
       have e:j=i:=by omega
       subst e
       right
       by_cases hlen:j<(xs.length:Int)
       ·rw[Ai1 hlen,cond_true]
        have hjj:j=(j.toNat:Int):=by omega
        have hx:xs[j.toNat]? =some xs[j.toNat]:=Ai3 (by omega)
        generalize xs[j.toNat]=x at hx
        rw[Qw hjj hx,Option.bind_some]
        by_cases hxt:x=t
        ·rw[Ai1 hxt,cond_true]
         subst hxt
         exact⟨_,rfl,(Ai1 (Ai4 hx)).symm⟩
        ·rw[Ai2 hxt,cond_false]
         refine⟨_,rfl,(Ai2 fun hm=>?_).symm⟩
         obtain⟨k,hk⟩:=List.mem_iff_getElem?.1 hm
         by_cases h5:(k:Int)<j
         ·have:=h3 k t h5 hk;omega
         ·have h6:=h4 j.toNat x (by omega) hx
          by_cases e:k=j.toNat
          ·subst e;rw[hx]at hk;exact hxt (Option.some.inj hk)
          ·have:=aE hi hx hk (by omega);omega
       ·rw[Ai2 hlen,cond_false]
        refine⟨_,rfl,(Ai2 fun hm=>?_).symm⟩
        obtain⟨k,hk⟩:=List.mem_iff_getElem?.1 hm
        have:=(List.getElem?_eq_some_iff.1 hk).1
        have:=h3 k t (by omega) hk;omega)
    fuel (0,(xs.length:Int)) ⟨by simp,by simp,by simp,fun k x hk _=>by simp at hk;omega,fun k x hk hx=>by have:=(List.getElem?_eq_some_iff.1 hx).1;simp at hk;omega⟩ (by unfold fuel;simp;omega)
  refine⟨r.1,?_⟩
  unfold Dj
  rw[h1,← h2];rfl
theorem sR {w:A8} (hi:Inc w.Runs) (hl:w.Runs.length≤549755813888) (n:Int):Nn w n=some (decide (n∈w.Runs)):=by
  obtain⟨i,h⟩:=sX hi hl n
  unfold Nn;rw[h];rfl
structure iO (l:List Int):Prop where
  ne:l≠[]
  inc:Inc l
  lo:∀ x∈l,1≤x
  hi:∀ x∈l,x≤9999
theorem qK {l:List Int} (h:∀ (k:Nat) (x y:Int),l[k+1]? =some x→l[k]? =some y→y<x):Inc l:=by
  unfold Inc
  rw[List.pairwise_iff_getElem]
  have key:∀ (d i:Nat) (hj:i+d+1<l.length),l[i]'(by omega)<l[i+d+1]:=by
    intro d
    induction d with
    | zero=>
      intro i hj
      exact h i _ _ (Ai3 (by omega)) (Ai3 (by omega))
    | succ d ih=>
      intro i hj
      have h1:=ih i (by omega)
      have h2:=h (i+d+1) l[i+(d+1)+1] l[i+d+1] (by rw[Ai3 (by omega)];rfl) (Ai3 (by omega))
      omega
  intro i j hi hj hlt
  have:=key (j - i - 1) i (by omega)
  simpa[show i+(j - i - 1)+1=j by omega]using this
theorem rS {l:List Int} (hl:l.length≤9223372036854775807):∃ b,Ow l=some b∧(b=true↔iO l):=by
  unfold Ow
  rcases Fe (step:=Ma l) (l:=l) (s:=()) (fun k _=>∀ (i:Nat) x,i<k→l[i]? =some x→1≤x∧x≤9999∧∀ y,0<i→l[i - 1]? =some y→y<x) (fun r=>r=false∧¬ iO l)
    (fun i x h=>by omega) (fun k x u hk hI=>by
      have hlt:=(List.getElem?_eq_some_iff.1 hk).1
      unfold Ma
      by_cases h1:x<1
      ·rw[Ai1 h1]
       exact .inr ⟨_,rfl,rfl,fun h=>by have:=h.lo x (Ai4 hk);omega⟩
      rw[Ai2 h1,cond_false]
      by_cases h2:9999<x
      ·rw[Ai1 h2]
       exact .inr ⟨_,rfl,rfl,fun h=>by have:=h.hi x (Ai4 hk);omega⟩
      rw[Ai2 h2,cond_false]
      by_cases h3:(0:Int)<(k:Int)
      ·rw[Ai1 h3,cond_true,Q0 (by omega) (by omega)]
       have hy:l[k - 1]? =some l[k - 1]:=Ai3 (by omega)
       generalize l[k - 1]=y at hy
       rw[Ay hy,Option.bind_some]
       by_cases h4:x≤y
       ·rw[Ai1 h4]
        refine .inr ⟨_,rfl,rfl,fun h=>?_⟩
        have:=aE h.inc hy hk (by omega);omega
       ·rw[Ai2 h4]
        refine .inl ⟨_,rfl,fun i z hi hz=>?_⟩
        by_cases e:i=k
        ·subst e;rw[hk]at hz;obtain rfl:=Option.some.inj hz
         exact⟨by omega,by omega,fun y' _ hy'=>by rw[hy]at hy';obtain rfl:=Option.some.inj hy';omega⟩
        ·exact hI i z (by omega) hz
      ·rw[Ai2 h3]
       refine .inl ⟨_,rfl,fun i z hi hz=>?_⟩
       have e:i=k:=by omega
       subst e;rw[hk]at hz;obtain rfl:=Option.some.inj hz
       exact⟨by omega,by omega,fun y' h _=>by omega⟩)with ⟨s',h1,h2⟩ | ⟨r,h1,rfl,h2⟩
  ·rw[h1]
   refine⟨_,rfl,?_⟩
   rw[decide_eq_true_eq]
   have hmem:∀ x∈l,1≤x∧x≤9999:=fun x hx=>by
     obtain⟨i,hi⟩:=List.mem_iff_getElem?.1 hx
     have:=h2 i x (List.getElem?_eq_some_iff.1 hi).1 hi
     exact⟨this.1,this.2.1⟩
   constructor
   ·intro h
    refine⟨fun e=>by rw[e]at h;simp at h,qK fun k x y hx hy=>?_,fun x hx=>(hmem x hx).1,fun x hx=>(hmem x hx).2⟩
    exact(h2 (k+1) x (List.getElem?_eq_some_iff.1 hx).1 hx).2.2 y (by omega) (by simpa using hy)
   ·intro h
    have:=List.length_pos_iff.2 h.ne
    omega
  ·rw[h1]
   exact⟨false,rfl,by simp[h2]⟩
theorem gP {l:List Int} (h:Inc l) (lo:∀ x∈l,1≤x):∀ (k:Nat) (x:Int),l[k]? =some x→(k:Int)+1≤x
  | 0,x,hx=>by have:=lo x (Ai4 hx);omega
  | k+1,x,hx=>by
    have hlt:=(List.getElem?_eq_some_iff.1 hx).1
    have hy:l[k]? =some l[k]:=Ai3 (by omega)
    have h1:=gP h lo k _ hy
    have h2:=aE h hy hx (by omega)
    omega
theorem iO.len {l:List Int} (h:iO l):l.length≤9999:=by
  by_cases e:l.length=0
  ·omega
  ·have hx:l[l.length - 1]? =some (l[l.length - 1]'(by omega)):=Ai3 (by omega)
   have h1:=gP h.inc h.lo _ _ hx
   have h2:=h.hi _ (Ai4 hx)
   omega
theorem Xx (l:List Int):Qp l=Ow l:=rfl
theorem has_eq (l:List Int) (n:Int):Q5 l n=some (decide (n∈l)):=by
  unfold Q5
  exact Wx fun k x hx=>rfl
def clash (a b:A8):Bool:=decide (a.From<b.To)&&decide (b.From<a.To)&&(decide (a.Groomer=b.Groomer)||a.Runs.any fun x=>decide (x∈b.Runs))
theorem jW (a b:A8):Ps a b=some (clash a b):=by
  unfold Ps clash
  by_cases h1:b.To≤a.From
  ·rw[Ai1 h1,Ai2 (show ¬ a.From<b.To by omega)];rfl
  rw[Ai2 h1,Ai1 (show a.From<b.To by omega),cond_false]
  by_cases h2:a.To≤b.From
  ·rw[Ai1 h2,Ai2 (show ¬ b.From<a.To by omega)];rfl
  rw[Ai2 h2,Ai1 (show b.From<a.To by omega),cond_false]
  rw[Fq (step:=Kj b) (fun x=>decide (x∈b.Runs)) (fun _=>true) (fun k x hx=>by unfold Kj;rw[has_eq];rfl)]
  cases hf:a.Runs.find? fun x=>decide (x∈b.Runs)with
  | some x=>
    have:(a.Runs.any fun x=>decide (x∈b.Runs))=true:=List.any_eq_true.2 ⟨x,List.mem_of_find?_eq_some hf,List.find?_some (p:=fun x=>decide (x∈b.Runs)) hf⟩
    rw[this];simp[Out.on]
  | none=>
    have:(a.Runs.any fun x=>decide (x∈b.Runs))=false:=List.any_eq_false.2 fun x hx=>by simpa using List.find?_eq_none.1 hf x hx
    rw[this];simp[Out.on]
theorem oJ {a b:A8} (hi:Inc b.Runs) (hl:b.Runs.length≤549755813888):J1 a b=some (clash a b):=by
  unfold J1 clash
  by_cases h1:b.To≤a.From
  ·rw[Ai1 h1,Ai2 (show ¬ a.From<b.To by omega)];rfl
  rw[Ai2 h1,Ai1 (show a.From<b.To by omega),cond_false]
  by_cases h2:a.To≤b.From
  ·rw[Ai1 h2,Ai2 (show ¬ b.From<a.To by omega)];rfl
  rw[Ai2 h2,Ai1 (show b.From<a.To by omega),cond_false]
  by_cases h3:a.Groomer=b.Groomer
  ·rw[Ai1 h3];rfl
  rw[Ai2 h3,cond_false]
  rw[Fq (step:=Ge b) (fun x=>decide (x∈b.Runs)) (fun _=>true) (fun k x hx=>by
   unfold Ge;rw[sR hi hl,Option.bind_some,Ai1 (show(0:Int)≤(k:Int) by omega)])]
  cases hf:a.Runs.find? fun x=>decide (x∈b.Runs)with
  | some x=>
    have:(a.Runs.any fun x=>decide (x∈b.Runs))=true:=List.any_eq_true.2 ⟨x,List.mem_of_find?_eq_some hf,List.find?_some (p:=fun x=>decide (x∈b.Runs)) hf⟩
    rw[this];simp[Out.on]
  | none=>
    have:(a.Runs.any fun x=>decide (x∈b.Runs))=false:=List.any_eq_false.2 fun x hx=>by simpa using List.find?_eq_none.1 hf x hx
    rw[this];simp[Out.on]
structure xK (w:A8):Prop where
  g1:1≤w.Groomer
  g2:w.Groomer≤9999
  f0:0≤w.From
  ft:w.From<w.To
  t1:w.To≤20000000
  runs:iO w.Runs
structure fG (l:List A8):Prop where
  len:l.length≤16
  rope:∀ w∈l,xK w
  apart:l.Pairwise fun a b=>clash a b=false
theorem wI {l:List A8} {x:A8} {k:Nat} (hk:k≤l.length) (hl:l.length≤16) :
    (J0 (Ec l x) k ()=some (.next ())∧∀ (j:Nat) w,j<k→l[j]? =some w→clash w x=false)∨(J0 (Ec l x) k ()=some (.ret (.ret 15))∧∃ (j:Nat) (w:A8),j<k∧l[j]? =some w∧clash w x=true):=by
  rcases W5 (n:=k) (step:=Ec l x) (s:=()) (by omega) (fun i _=>∀ (j:Nat) w,j<i→l[j]? =some w→clash w x=false) (fun r=>r= .ret 15∧∃ (j:Nat) (w:A8),j<k∧l[j]? =some w∧clash w x=true)
    (fun j w h=>by omega) (fun i s hi hI=>by
      have hw:l[i]? =some l[i]:=Ai3 (by omega)
      generalize l[i]=w at hw
      unfold Ec
      rw[Ay hw,Option.bind_some,jW,Option.bind_some]
      cases hc:clash w x with
      | true=>exact .inr ⟨_,rfl,rfl,i,w,hi,hw,hc⟩
      | false=>
        refine .inl ⟨(),rfl,fun j w' hj hw'=>?_⟩
        by_cases e:j=i
        ·subst e;rw[hw]at hw';obtain rfl:=Option.some.inj hw';exact hc
        ·exact hI j w' (by omega) hw')with ⟨s',h1,h2⟩ | ⟨r,h1,rfl,h2⟩
  ·exact .inl ⟨h1,h2⟩
  ·exact .inr ⟨h1,h2⟩
theorem step_eq {l:List A8} {x:A8} {k:Nat} (hk:l[k]? =some x) (hl:l.length≤16) (hr:x.Runs.length≤9223372036854775807):G7 l k x ()=E3 l k x ():=by
  have hlt:=(List.getElem?_eq_some_iff.1 hk).1
  unfold G7 E3
  obtain⟨b,hb,hbr⟩:=rS hr
  rw[Xx,hb,Option.bind_some,Option.bind_some]
  cases b with
  | false=>rfl
  | true=>
    have hinc:=(hbr.1 rfl).inc
    have hin:J0 (J3 l k x) k ()=J0 (Ec l x) k ():=by
      unfold J0
      rw[if_pos (by omega),if_pos (by omega)]
      refine Lo fun i u s hi=>?_
      have hik:i<k:=Ts hi
      have hw:l[i]? =some l[i]:=Ai3 (by omega)
      generalize l[i]=w at hw
      have hw':(l.take k)[i]? =some w:=by rw[List.getElem?_take,if_pos hik];exact hw
      unfold J3 Ec
      rw[Ay hw,Ay hw',Option.bind_some,Option.bind_some,oJ hinc (by have:=(hbr.1 rfl).len;omega),jW,Ai1 (show(0:Int)≤(i:Int) by omega)]
      cases clash w x<;>rfl
    rw[hin,Oz (show(0:Int)≤(k:Int)∧(k:Int)≤(l.length:Int) by omega)]
theorem mN {l:List A8} (hr:∀ w∈l,w.Runs.length≤9223372036854775807):∃ e,Nc l=some e∧Pn l=some e∧(e=0↔fG l):=by
  unfold Pn Nc
  by_cases h16:(16:Int)<(l.length:Int)
  ·rw[Ai1 h16]
   exact⟨4,rfl,rfl,by simp,fun h=>by have:=h.len;omega⟩
  rw[Ai2 h16,cond_false,cond_false]
  rw[Lo (step:=G7 l) (step':=E3 l) fun i x s hi=>step_eq hi (by omega) (hr x (Ai4 hi))]
  rcases Fe (step:=E3 l) (l:=l) (s:=()) (fun k _=>∀ (i:Nat) w,i<k→l[i]? =some w→xK w∧∀ (j:Nat) v,j<i→l[j]? =some v→clash v w=false) (fun r=>r≠0∧¬ fG l)
    (fun i w h=>by omega) (fun k x u hk hI=>by
      have hlt:=(List.getElem?_eq_some_iff.1 hk).1
      have hmem:=Ai4 hk
      unfold E3
      by_cases h1:x.Groomer<1
      ·rw[Ai1 h1];exact .inr ⟨_,rfl,by simp,fun h=>by have:=(h.rope x hmem).g1;omega⟩
      rw[Ai2 h1,cond_false]
      by_cases h2:9999<x.Groomer
      ·rw[Ai1 h2];exact .inr ⟨_,rfl,by simp,fun h=>by have:=(h.rope x hmem).g2;omega⟩
      rw[Ai2 h2,cond_false]
      by_cases h3:x.From<0
      ·rw[Ai1 h3];exact .inr ⟨_,rfl,by simp,fun h=>by have:=(h.rope x hmem).f0;omega⟩
      rw[Ai2 h3,cond_false]
      by_cases h4:x.To≤x.From
      ·rw[Ai1 h4];exact .inr ⟨_,rfl,by simp,fun h=>by have:=(h.rope x hmem).ft;omega⟩
      rw[Ai2 h4,cond_false]
      by_cases h5:20000000<x.To
      ·rw[Ai1 h5];exact .inr ⟨_,rfl,by simp,fun h=>by have:=(h.rope x hmem).t1;omega⟩
      rw[Ai2 h5,cond_false]
      obtain⟨b,hb,hbr⟩:=rS (hr x hmem)
      rw[hb,Option.bind_some]
      cases b with
      | false=>exact .inr ⟨1,rfl,by simp,fun h=>by have:=hbr.2 (h.rope x hmem).runs;cases this⟩
      | true=>
        rcases wI (l:=l) (x:=x) (k:=k) (by omega) (by omega)with ⟨h6,h7⟩ | ⟨h6,j,w,hj,hw,hc⟩
        ·refine .inl ⟨(),by rw[h6];rfl,fun i w hi hw=>?_⟩
         by_cases e:i=k
         ·subst e;rw[hk]at hw;obtain rfl:=Option.some.inj hw
          exact⟨⟨by omega,by omega,by omega,by omega,by omega,hbr.1 rfl⟩,h7⟩
         ·exact hI i w (by omega) hw
        ·refine .inr ⟨15,by rw[h6];rfl,by simp,fun h=>?_⟩
         obtain⟨h8,rfl⟩:=List.getElem?_eq_some_iff.1 hw
         obtain⟨h9,rfl⟩:=List.getElem?_eq_some_iff.1 hk
         have:=(List.pairwise_iff_getElem.1 h.apart) j k h8 h9 hj
         rw[this]at hc;cases hc)with ⟨s',h1,h2⟩ | ⟨r,h1,h2,h3⟩
  ·rw[h1]
   refine⟨0,rfl,rfl,fun _=>?_,fun _=>rfl⟩
   refine⟨by omega,fun w hw=>?_,?_⟩
   ·obtain⟨i,hi⟩:=List.mem_iff_getElem?.1 hw
    exact(h2 i w (List.getElem?_eq_some_iff.1 hi).1 hi).1
   ·rw[List.pairwise_iff_getElem]
    intro i j hi hj hij
    exact(h2 j _ hj (Ai3 hj)).2 i _ hij (Ai3 hi)
  ·rw[h1]
   exact⟨r,rfl,rfl,fun e=>absurd e h2,fun h=>absurd h h3⟩
structure Few (l:List A8):Prop where
  len:l.length≤40
  runs:∀ w∈l,w.Runs.length≤10000
def atT (l:List A8) (t:Int):List A8:=l.filter fun w=>decide (w.From≤t)&&decide (t<w.To)
def Ka (l:List A8) (t:Int):List Int:=(atT l t).flatMap (·.Runs)
theorem lM {l:List A8} {t:Int} {w:A8}:w∈atT l t↔w∈l∧w.From≤t∧t<w.To:=by simp[atT]
theorem U9 {l:List A8} {t n:Int}:n∈Ka l t↔∃ w∈l,(w.From≤t∧t<w.To)∧n∈w.Runs:=by
  unfold Ka
  rw[List.mem_flatMap]
  constructor
  ·rintro⟨w,hw,hn⟩;exact⟨w,(lM.1 hw).1,(lM.1 hw).2,hn⟩
  ·rintro⟨w,hw,ht,hn⟩;exact⟨w,lM.2 ⟨hw,ht⟩,hn⟩
theorem gM {l:List A8} {t:Int} (h:∀ w∈l,w.Runs.length≤10000):(Ka l t).length≤10000*l.length:=by
  induction l with
  | nil=>simp[Ka,atT]
  | cons w l ih=>
    have ih:=ih fun w hw=>h w (List.mem_cons_of_mem _ hw)
    have hw:=h w (by simp)
    unfold Ka atT at ih ⊢
    rw[List.filter_cons]
    split
    ·rw[List.flatMap_cons,List.length_append,List.length_cons];omega
    ·rw[List.length_cons];omega
theorem mI (l:List A8) (x:A8) (t:Int):Ka (l++[x]) t=if x.From≤t∧t<x.To then Ka l t++x.Runs else Ka l t:=by
  unfold Ka atT
  rw[List.filter_append]
  by_cases h:x.From≤t∧t<x.To
  ·rw[if_pos h,List.filter_cons_of_pos (by simp[h]),List.filter_nil,List.flatMap_append];simp
  ·rw[if_neg h,List.filter_cons_of_neg (by simpa using h),List.filter_nil,List.append_nil]
theorem vA {l:List A8} (h:Few l) (t:Int):Pm l t=some (norm (Ka l t)):=by
  unfold Pm
  obtain⟨s',h1,h2⟩:=Dt (step:=J2 t) (l:=l) (s:=[]) (fun k s=>s=Ka (l.take k) t) (by simp[Ka,atT]) (fun k x s hk hI=>by
    have hlt:=(List.getElem?_eq_some_iff.1 hk).1
    have hlen:s.length≤10000*k:=by
      rw[hI]
      have:=gM (l:=l.take k) (t:=t) fun w hw=>h.runs w (List.mem_of_mem_take hw)
      rw[List.length_take]at this;omega
    have hx:=h.runs x (Ai4 hk)
    have hl:=h.len
    rw[Bx hk,mI]
    unfold J2
    by_cases h1:x.From≤t
    ·rw[Ai1 h1,cond_true]
     by_cases h2:t<x.To
     ·rw[Ai1 h2,cond_true,Ci (by omega),if_pos ⟨h1,h2⟩,hI]
      exact⟨_,rfl,rfl⟩
     ·rw[Ai2 h2,cond_false,if_neg (fun h=>h2 h.2)]
      exact⟨_,rfl,hI⟩
    ·rw[Ai2 h1,cond_false,if_neg (fun h=>h1 h.1)]
     exact⟨_,rfl,hI⟩)
  rw[List.take_length]at h2
  have hl:=gM (l:=l) (t:=t) h.runs
  have:=h.len
  rw[h1,Option.bind_some]
  show chk s'.length _=_
  rw[h2,Ci (by omega),Ci (by omega)];rfl
theorem sZ {l:List A8} (hr:fG l) (t:Int):Wn l t=some (norm (Ka l t)):=by
  unfold Wn
  obtain⟨s',h1,h2,h3,h4⟩:=aH (ρ:=List Int) (n:=9999) (step:=Rk l t) (s:=[]) (by omega) (fun k s=>Inc s∧s.length≤k∧∀ n,n∈s↔(n≤k∧n∈Ka l t))
    ⟨List.Pairwise.nil,by simp,fun n=>by
      constructor
      ·intro h;simp at h
      ·rintro⟨h,hn⟩
       obtain⟨w,hw,_,hm⟩:=U9.1 hn
       have:=(hr.rope w hw).runs.lo n hm;simp at h;omega⟩ (fun k s hk hI=>by
    obtain⟨i1,i2,i3⟩:=hI
    unfold Rk
    rw[Fq (step:=Rj t s k) (fun w=>decide (w.From≤t)&&(decide (t<w.To)&&decide (((k:Nat):Int)+1∈w.Runs))) (fun _=>.next (s++[((k:Nat):Int)+1])) (fun j w hw=>by
     unfold Rj
     rw[has_eq]
     by_cases h1:w.From≤t<;>by_cases h2:t<w.To<;>by_cases h3:((k:Nat):Int)+1∈w.Runs<;>simp[h1,h2,h3,Ci (show s.length+1≤549755813888 by omega)])]
    have old:∀ n,n∈Ka l t→n≤((k+1:Nat):Int)→n≤(k:Int)∨n=(k:Int)+1:=fun n _ h=>by omega
    cases hf:l.find? (fun w=>decide (w.From≤t)&&(decide (t<w.To)&&decide (((k:Nat):Int)+1∈w.Runs)))with
    | some w=>
      have hp:=List.find?_some hf
      have hw:=List.mem_of_find?_eq_some hf
      simp only[Bool.and_eq_true,decide_eq_true_eq]at hp
      have hin:((k:Nat):Int)+1∈Ka l t:=U9.2 ⟨w,hw,⟨hp.1,hp.2.1⟩,hp.2.2⟩
      refine⟨_,rfl,?_,by simp;omega,fun n=>?_⟩
      ·unfold Inc
       rw[List.pairwise_append]
       exact⟨i1,by simp,fun a ha b hb=>by simp at hb;have:=((i3 a).1 ha).1;omega⟩
      ·rw[List.mem_append,i3,List.mem_singleton]
       constructor
       ·rintro(h | rfl)
        ·exact⟨by omega,h.2⟩
        ·exact⟨by omega,hin⟩
       ·rintro⟨h,hn⟩
        rcases old n hn h with h | h
        ·exact .inl ⟨h,hn⟩
        ·exact .inr h
    | none=>
      refine⟨_,rfl,i1,by omega,fun n=>?_⟩
      rw[i3]
      constructor
      ·rintro⟨h,hn⟩;exact⟨by omega,hn⟩
      ·rintro⟨h,hn⟩
       rcases old n hn h with h | rfl
       ·exact⟨h,hn⟩
       ·obtain⟨w,hw,ht,hm⟩:=U9.1 hn
        have:=List.find?_eq_none.1 hf w hw
        simp[ht.1,ht.2,hm]at this)
  rw[h1,Option.bind_some]
  show some s'=_
  congr 1
  refine Ph h2 (Uh _) fun n=>?_
  rw[Ug,h4]
  refine⟨fun h=>h.2,fun h=>⟨?_,h⟩⟩
  obtain⟨w,hw,_,hm⟩:=U9.1 h
  exact(hr.rope w hw).runs.hi n hm
end Go.Proofs.YtjopghiagoidgaaGreat.W46
namespace Go.Proofs.YtjopghiagoidgaaGreat.S50
open Go Go.Ab
set_option linter.unusedSimpArgs false
set_option linter.unusedVariables false
section
variable {α σ ρ:Type}
theorem P2 {step step':Nat→α→σ→Option (Out σ ρ)}:∀ {l:List α} {k:Nat},(∀ i x s,l[i]? =some x→step (k+i) x s=step' (k+i) x s)→∀ s,Am step k l s=Am step' k l s
  | [],k,h,s=>rfl
  | x::r,k,h,s=>by
    have h0:=h 0 x s rfl
    rw[Nat.add_zero]at h0
    rw[Am,Am,h0]
    have ih:∀ s,Am step (k+1) r s=Am step' (k+1) r s:=P2 (l:=r) (k:=k+1) (fun i y s hy=>by
      have:=h (i+1) y s (by simpa using hy)
      rwa [show k+(i+1)=k+1+i by omega]at this)
    cases step' k x s with
    | none=>rfl
    | some o=>cases o with
      | next s'=>exact ih s'
      | ret r=>rfl
theorem Lo {step step':Nat→α→σ→Option (Out σ ρ)} {l:List α} {s:σ} (h:∀ i x s,l[i]? =some x→step i x s=step' i x s):Am step 0 l s=Am step' 0 l s:=
  P2 (k:=0) (fun i x s hx=>by rw[Nat.zero_add];exact h i x s hx) s
end
def Small (l:List Bd):Prop:=l.length≤50∧∀ s∈l,s.Zones.length≤100∧True
def Inc (l:List Int):Prop:=l.Pairwise (·< ·)
def S5 (most:Int) (l:List Int):Prop:=(∀ x∈l,1≤x∧x≤most)∧Inc l
instance (most:Int) (l:List Int):Decidable (S5 most l):=by unfold S5 Inc;infer_instance
theorem lR {l:List Int} (h:∀ k x y,l[k+1]? =some x→l[k]? =some y→y<x):Inc l:=by
  unfold Inc
  rw[List.pairwise_iff_getElem]
  have key:∀ (d i:Nat) (hj:i+d+1<l.length),l[i]'(by omega)<l[i+d+1]:=by
    intro d
    induction d with
    | zero=>
      intro i hj
      exact h i _ _ (Ai3 (by omega)) (Ai3 (by omega))
    | succ d ih=>
      intro i hj
      have h1:=ih i (by omega)
      have h2:=h (i+d+1) l[i+(d+1)+1] l[i+d+1] (by rw[Ai3 (by omega)];rfl) (Ai3 (by omega))
      omega
  intro i j hi hj hlt
  have:=key (j - i - 1) i (by omega)
  simpa[show i+(j - i - 1)+1=j by omega]using this
theorem tV {l:List Int} (h:Inc l) {k:Nat} {x y:Int} (hx:l[k+1]? =some x) (hy:l[k]? =some y):y<x:=by
  unfold Inc at h
  rw[List.pairwise_iff_getElem]at h
  obtain⟨h1,rfl⟩:=List.getElem?_eq_some_iff.1 hx
  obtain⟨h2,rfl⟩:=List.getElem?_eq_some_iff.1 hy
  exact h k (k+1) h2 h1 (by omega)
theorem Tr (l:List Int) (most:Int) (hl:l.length≤9223372036854775807):D9 l most=some (decide (S5 most l)):=by
  unfold D9
  rcases Fe (step:=D8 l most) (l:=l) (s:=()) (fun k _=>(∀ i x,i<k→l[i]? =some x→1≤x∧x≤most)∧∀ i x y,i+1<k→l[i+1]? =some x→l[i]? =some y→y<x)
    (fun r=>r=false∧¬ S5 most l) ⟨fun i x h=>by omega,fun i x y h=>by omega⟩ (fun k x u hk ⟨hI1,hI2⟩=>by
      have hlt:=(List.getElem?_eq_some_iff.1 hk).1
      have hm:=Ai4 hk
      unfold D8
      by_cases h1:x<1
      ·rw[Ai1 h1];exact .inr ⟨false,rfl,rfl,fun h=>by have:=h.1 x hm;omega⟩
      rw[Ai2 h1,cond_false]
      by_cases h2:most<x
      ·rw[Ai1 h2];exact .inr ⟨false,rfl,rfl,fun h=>by have:=h.1 x hm;omega⟩
      rw[Ai2 h2,cond_false]
      have hI1':∀ i y,i<k+1→l[i]? =some y→1≤y∧y≤most:=fun i y hi hy=>by
        by_cases e:i=k
        ·subst e;rw[hk]at hy;obtain rfl:=Option.some.inj hy;omega
        ·exact hI1 i y (by omega) hy
      by_cases h3:(0:Int)<(k:Int)
      ·rw[Ai1 h3,cond_true,Q0 (by omega) (by omega),X3 (k:=k - 1) (by omega),Option.bind_some]
       have hp:l[k - 1]? =some l[k - 1]:=Ai3 (by omega)
       by_cases h4:x≤l[k - 1]
       ·rw[Ai1 h4]
        refine .inr ⟨false,rfl,rfl,fun h=>?_⟩
        have:=tV h.2 (k:=k - 1) (by rw[Nat.sub_add_cancel (by omega)];exact hk) hp
        omega
       ·rw[Ai2 h4]
        refine .inl ⟨(),rfl,hI1',fun i a b hi ha hb=>?_⟩
        by_cases e:i+1=k
        ·rw[e,hk]at ha;obtain rfl:=Option.some.inj ha
         obtain rfl:i=k - 1:=by omega
         rw[hp]at hb;obtain rfl:=Option.some.inj hb;omega
        ·exact hI2 i a b (by omega) ha hb
      ·rw[Ai2 h3]
       exact .inl ⟨(),rfl,hI1',fun i a b hi ha hb=>by omega⟩)with ⟨u,h1,h2,h3⟩ | ⟨r,h1,h2,h3⟩
  ·have:S5 most l:=⟨fun x hx=>by
     obtain⟨i,hi,rfl⟩:=List.getElem_of_mem hx
     exact h2 i _ hi (Ai3 hi),lR fun k x y hx hy=>h3 k x y (List.getElem?_eq_some_iff.1 hx).1 hx hy⟩
   rw[h1,Ai1 this];rfl
  ·subst h2
   rw[h1,Ai2 h3];rfl
theorem Xx (l:List Int) (most:Int) (hl:l.length≤9223372036854775807):N0 l most=some (decide (S5 most l)):=Tr l most hl
theorem find_eq (l:List Bd) (n:Int):(Hs l n=some (-1)∧∀ x∈l,x.ID≠n)∨(∃ (k:Nat) (x:Bd),Hs l n=some (k:Int)∧l[k]? =some x∧x.ID=n∧∀ j y,j<k→l[j]? =some y→y.ID≠n):=by
  unfold Hs
  rcases Fe (step:=Gp n) (l:=l) (s:=()) (fun k _=>∀ i x,i<k→l[i]? =some x→x.ID≠n)
    (fun r=>∃ (k:Nat) (x:Bd),r=(k:Int)∧l[k]? =some x∧x.ID=n∧∀ j y,j<k→l[j]? =some y→y.ID≠n) (fun i x h=>by omega) (fun k x u hk hI=>by
      unfold Gp
      by_cases e:x.ID=n
      ·rw[Ai1 e];exact .inr ⟨_,rfl,k,x,rfl,hk,e,hI⟩
      ·rw[Ai2 e]
       refine .inl ⟨(),rfl,fun i y hi hy=>?_⟩
       by_cases h:i=k
       ·subst h;rw[hk]at hy;obtain rfl:=Option.some.inj hy;exact e
       ·exact hI i y (by omega) hy)with ⟨u,h1,h2⟩ | ⟨r,h1,k,x,rfl,h2,h3,h4⟩
  ·refine .inl ⟨by rw[h1];rfl,fun x hx=>?_⟩
   obtain⟨i,hi,rfl⟩:=List.getElem_of_mem hx
   exact h2 i _ hi (Ai3 hi)
  ·exact .inr ⟨k,x,by rw[h1];rfl,h2,h3,h4⟩
def InR (s:Bd):Prop:=1≤s.ID∧s.ID≤9999∧4≤s.Limit∧s.Limit≤100000∧0≤s.Load∧s.Load≤100000∧-1≤s.Controlled∧s.Controlled≤20000000
instance (s:Bd):Decidable (InR s):=by unfold InR;infer_instance
def Bu (s:Bd):Prop:=s.Zones≠[]∧S5 32 s.Zones∧S5 9999 s.Lifts
instance (s:Bd):Decidable (Bu s):=by unfold Bu;infer_instance
def kQ (l:List Bd) (k:Nat) (s:Bd):Prop:=∃ y∈l.take k,y.ID=s.ID
instance (l:List Bd) (k:Nat) (s:Bd):Decidable (kQ l k s):=by unfold kQ;infer_instance
def W9 (l:List Bd) (k:Nat) (s:Bd):Option Int:=if ¬ InR s then some 2 else if kQ l k s then some 7 else if ¬ Bu s then some 1 else none
def ans (o:Option Int):Option (Out Unit Int):=match o with | none=>some (.next ()) | some e=>some (.ret e)
theorem qM (s:Bd):Gn s=some (decide (InR s)):=by
  unfold Gn InR
  by_cases h1:1≤s.ID<;>by_cases h2:s.ID≤9999<;>by_cases h3:4≤s.Limit<;>by_cases h4:s.Limit≤100000<;>by_cases h5:0≤s.Load<;>by_cases h6:s.Load≤100000<;>by_cases h7: -1≤s.Controlled<;>simp[h1,h2,h3,h4,h5,h6,h7]
theorem j4 (s:Bd):decide (((s.Zones.length:Nat):Int)=(0:Int))=decide (s.Zones=[]):=by
  cases s.Zones<;>simp<;>omega
theorem pR (l:List Bd) (hl:l.length≤9223372036854775807) (k:Nat) (x:Bd) (hk:l[k]? =some x) (hz:x.Zones.length≤9223372036854775807) (hf:x.Lifts.length≤9223372036854775807) :
    Ez l k x ()=ans (W9 l k x):=by
  have hlt:=(List.getElem?_eq_some_iff.1 hk).1
  unfold Ez W9
  rw[qM,Option.bind_some]
  by_cases h1:InR x
  ·rw[Ai1 h1,Bool.not_true,cond_false,Oz ⟨by omega,by omega⟩,if_neg (by simpa using h1)]
   rcases find_eq (l.take k) x.ID with⟨h2,h3⟩ | ⟨j,y,h2,h3,h4,_⟩
   ·rw[h2,Option.bind_some,if_neg (fun⟨y,hy,e⟩=>h3 y hy e)]
    show(bif decide (((x.Zones.length:Nat):Int)=(0:Int))then _ else _)=_
    rw[j4,Tr _ _ hz,Tr _ _ hf]
    unfold Bu
    by_cases h5:x.Zones=[]<;>by_cases h6:S5 32 x.Zones<;>by_cases h7:S5 9999 x.Lifts<;>simp[h5,h6,h7,ans]
   ·rw[h2,Option.bind_some,Ai1 (Int.natCast_nonneg j),cond_true,if_pos ⟨y,Ai4 h3,h4⟩];rfl
  ·rw[Ai2 h1,if_pos h1];rfl
theorem tB (l:List Bd) (k:Nat) (x:Bd) (hk:k<l.length) (hl:l.length≤9223372036854775807) :
    (kQ l k x∧J0 (F1 l x) k ()=some (.ret (.ret 7)))∨(¬ kQ l k x∧J0 (F1 l x) k ()=some (.next ())):=by
  rcases W5 (step:=F1 l x) (n:=k) (s:=()) (by omega) (fun i _=>∀ j y,j<i→l[j]? =some y→y.ID≠x.ID) (fun r=>r= .ret 7∧kQ l k x) (fun j y h=>by omega) (fun i u hi hI=>by
    unfold F1
    have hy:l[i]? =some l[i]:=Ai3 (by omega)
    rw[Ay hy,Option.bind_some]
    by_cases e:l[i].ID=x.ID
    ·rw[Ai1 e]
     refine .inr ⟨_,rfl,rfl,l[i],Ai4 (i:=i) ?_,e⟩
     rw[List.getElem?_take,if_pos hi];exact hy
    ·rw[Ai2 e]
     refine .inl ⟨(),rfl,fun j y hj hy'=>?_⟩
     by_cases h:j=i
     ·subst h;rw[hy]at hy';obtain rfl:=Option.some.inj hy';exact e
     ·exact hI j y (by omega) hy')with ⟨u,h1,h2⟩ | ⟨r,h1,h2,h3⟩
  ·refine .inr ⟨fun⟨y,hy,e⟩=>?_,h1⟩
   obtain⟨j,hj,rfl⟩:=List.getElem_of_mem hy
   rw[List.length_take]at hj
   rw[List.getElem_take]at e
   exact h2 j _ (by omega) (Ai3 (by omega)) e
  ·subst h2;exact .inl ⟨h3,h1⟩
theorem iV (l:List Bd) (hl:l.length≤9223372036854775807) (k:Nat) (x:Bd) (hk:l[k]? =some x) (hz:x.Zones.length≤9223372036854775807) (hf:x.Lifts.length≤9223372036854775807) :
    Hg l k x ()=ans (W9 l k x):=by
  have hlt:=(List.getElem?_eq_some_iff.1 hk).1
  unfold Hg W9
  by_cases h1:InR x
  ·obtain⟨a1,a2,a3,a4,a5,a6,a7,a8⟩:=h1
   rw[Ai2 (by omega),cond_false,Ai2 (by omega),cond_false,Ai2 (by omega),cond_false,Ai2 (by omega),cond_false,Ai2 (by omega),cond_false,
    Ai2 (by omega),cond_false,Ai2 (by omega),cond_false,Ai2 (by omega),cond_false,if_neg (fun hn=>hn (show InR x from⟨a1,a2,a3,a4,a5,a6,a7,a8⟩))]
   rcases tB l k x hlt hl with⟨h2,h3⟩ | ⟨h2,h3⟩
   ·rw[h3,if_pos h2];rfl
   ·rw[h3,if_neg h2,Option.bind_some]
    show(bif decide (((x.Zones.length:Nat):Int)=(0:Int))then _ else _)=_
    rw[j4,Xx _ _ hz,Xx _ _ hf]
    unfold Bu
    by_cases h5:x.Zones=[]<;>by_cases h6:S5 32 x.Zones<;>by_cases h7:S5 9999 x.Lifts<;>simp[h5,h6,h7,ans]
  ·rw[if_pos h1]
   by_cases b1:x.ID<1
   ·rw[Ai1 b1];rfl
   rw[Ai2 b1,cond_false]
   by_cases b2:9999<x.ID
   ·rw[Ai1 b2];rfl
   rw[Ai2 b2,cond_false]
   by_cases b3:x.Limit<4
   ·rw[Ai1 b3];rfl
   rw[Ai2 b3,cond_false]
   by_cases b4:100000<x.Limit
   ·rw[Ai1 b4];rfl
   rw[Ai2 b4,cond_false]
   by_cases b5:x.Load<0
   ·rw[Ai1 b5];rfl
   rw[Ai2 b5,cond_false]
   by_cases b6:100000<x.Load
   ·rw[Ai1 b6];rfl
   rw[Ai2 b6,cond_false]
   by_cases b7:x.Controlled < -1
   ·rw[Ai1 b7];rfl
   rw[Ai2 b7,cond_false]
   by_cases b8:20000000<x.Controlled
   ·rw[Ai1 b8];rfl
   exact absurd (show InR x from⟨by omega,by omega,by omega,by omega,by omega,by omega,by omega,by omega⟩) h1
def aZ (l:List Bd):Prop:=l.length≤32∧∀ k x,l[k]? =some x→W9 l k x=none
def Aad (l:List Bd):Prop:=l.length≤9223372036854775807∧∀ s∈l,s.Zones.length≤9223372036854775807∧s.Lifts.length≤9223372036854775807
theorem xD (l:List Bd) (g:Nat→Bd→Option Int):∃ r,((Am (fun k x (_:Unit)=>ans (g k x)) 0 l ()).bind fun o=>o.on fun _=>some (0:Int))=some r∧((∀ k x,l[k]? =some x→g k x≠some 0)→(r=0↔∀ k x,l[k]? =some x→g k x=none)):=by
  rcases Fe (step:=fun k x (_:Unit)=>ans (g k x)) (l:=l) (s:=()) (fun i _=>∀ k x,k<i→l[k]? =some x→g k x=none) (fun r=>∃ k x,l[k]? =some x∧g k x=some r) (fun k x h=>by omega) (fun k x u hk hI=>by
    cases hg:g k x with
    | none=>
      refine .inl ⟨(),by simp only[hg,ans],fun i y hi hy=>?_⟩
      by_cases e:i=k
      ·subst e;rw[hk]at hy;obtain rfl:=Option.some.inj hy;exact hg
      ·exact hI i y (by omega) hy
    | some e=>exact .inr ⟨e,by simp only[hg,ans],k,x,hk,hg⟩)with ⟨u,h1,h2⟩ | ⟨r,h1,k,x,h2,h3⟩
  ·exact⟨0,by rw[h1];rfl,fun _=>⟨fun _ k x hx=>h2 k x (List.getElem?_eq_some_iff.1 hx).1 hx,fun _=>rfl⟩⟩
  ·refine⟨r,by rw[h1];rfl,fun hn=>⟨fun e=>?_,fun h=>?_⟩⟩
   ·subst e;exact absurd h3 (hn k x h2)
   ·rw[h k x h2]at h3;cases h3
theorem wW (l:List Bd) (k:Nat) (x:Bd):W9 l k x≠some 0:=by
  unfold W9;split<;>(try split)<;>(try split)<;>simp
theorem Wd (l:List Bd) (h:Aad l):∃ r,I9 l=some r∧Nb l=some r∧(r=0↔aZ l):=by
  unfold I9 Nb
  by_cases hl:(32:Int)<((l.length:Nat):Int)
  ·rw[Ai1 hl]
   exact⟨4,rfl,rfl,fun e=>by omega,fun h=>by have:=h.1;omega⟩
  ·rw[Ai2 hl,cond_false,cond_false]
   rw[Lo (step:=Ez l) (step':=fun k x (_:Unit)=>ans (W9 l k x)) (fun k x u hx=>pR l h.1 k x hx (h.2 x (Ai4 hx)).1 (h.2 x (Ai4 hx)).2),
    Lo (step:=Hg l) (step':=fun k x (_:Unit)=>ans (W9 l k x)) (fun k x u hx=>iV l h.1 k x hx (h.2 x (Ai4 hx)).1 (h.2 x (Ai4 hx)).2)]
   obtain⟨r,h1,h2⟩:=xD l (W9 l)
   refine⟨r,h1,h1,(h2 fun k x _=>wW l k x).trans ⟨fun h=>⟨by omega,h⟩,fun h=>h.2⟩⟩
theorem aZ.at {l:List Bd} (h:aZ l) {x:Bd} (hx:x∈l):InR x∧Bu x:=by
  obtain⟨k,hk,rfl⟩:=List.getElem_of_mem hx
  have:=h.2 k _ (Ai3 hk)
  unfold W9 at this
  split at this
  ·cases this
  ·split at this
   ·cases this
   ·split at this
    ·cases this
    ·rename_i a b c;exact⟨by simpa using a,by simpa using c⟩
theorem wrap_small {n:Int} (h: -9223372036854775808≤n) (h2:n≤9223372036854775807):IntKind.i64.wrap n=n:=by simp[IntKind.wrap,IntKind.bits,IntKind.signed]<;>omega
def lvl (levels:List Int) (z:Int):Int:=if 1≤z then(levels[(z - 1).toNat]?).getD 0 else 0
def Wt (levels:List Int):List Int→Int
  | []=>0
  | z::r=>r.foldl (fun a z=>if a<lvl levels z then lvl levels z else a) (lvl levels z)
theorem tP (levels:List Int) (zs:List Int) (z:Int):Wt levels (zs++[z])=if zs=[]∨Wt levels zs<lvl levels z then lvl levels z else Wt levels zs:=by
  cases zs with
  | nil=>rfl
  | cons y r=>
    simp only[List.cons_append,Wt,List.foldl_append,List.foldl_cons,List.foldl_nil,reduceCtorEq,false_or]
theorem vY {levels:List Int} {z:Int} (hl:levels.length≤9223372036854775807) (h1:1≤z) (h2:z≤(levels.length:Int)):Dk levels (IntKind.i64.wrap (z - 1))=some (lvl levels z):=by
  rw[wrap_small (by omega) (by omega)]
  have hlt:(z - 1).toNat<levels.length:=by omega
  unfold lvl
  rw[if_pos h1,Ai3 hlt]
  exact Qw (k:=(z - 1).toNat) (by omega) (Ai3 hlt)
theorem lN {levels:List Int} {z:Int} (h:¬ (1≤z∧z≤(levels.length:Int))):lvl levels z=0:=by
  unfold lvl
  by_cases h1:1≤z
  ·rw[if_pos h1,List.getElem?_eq_none (by omega)];rfl
  ·rw[if_neg h1]
theorem Ws (k:Nat) (v sv:Int):(bif (decide (((k:Nat):Int)=(0:Int)))then some (Out.next v)else (bif (decide (sv<v))then some (Out.next v)else some (Out.next sv)):Option (Out Int Int))=some (.next (if k=0∨sv<v then v else sv)):=by
  by_cases h1:k=0
  ·rw[Ai1 (by omega),if_pos (.inl h1)];rfl
  ·rw[Ai2 (by omega),cond_false]
   by_cases h2:sv<v
   ·rw[Ai1 h2,if_pos (.inr h2)];rfl
   ·rw[Ai2 h2,if_neg (by omega)];rfl
theorem qI {levels:List Int} (hl:levels.length≤9223372036854775807) (k:Nat) (x sv:Int):F5 levels k x sv=some (.next (if k=0∨sv<lvl levels x then lvl levels x else sv)):=by
  unfold F5
  by_cases h1:1≤x
  ·rw[Ai1 h1,cond_true]
   by_cases h2:x≤(levels.length:Int)
   ·rw[Ai1 h2,cond_true,vY hl h1 h2,Option.bind_some];exact Ws k _ sv
   ·rw[Ai2 h2,cond_false,lN (fun h=>h2 h.2)];exact Ws k _ sv
  ·rw[Ai2 h1,cond_false,lN (fun h=>h1 h.1)];exact Ws k _ sv
theorem iW {levels:List Int} (hl:levels.length≤9223372036854775807) (k:Nat) (x sv:Int) (h1:1≤x):Rh levels k x sv=some (.next (if k=0∨sv<lvl levels x then lvl levels x else sv)):=by
  unfold Rh
  by_cases h2:x≤(levels.length:Int)
  ·rw[Ai1 h2,cond_true,vY hl h1 h2,Option.bind_some];exact Ws k _ sv
  ·rw[Ai2 h2,cond_false,lN (fun h=>h2 h.2)];exact Ws k _ sv
theorem nK {step:Nat→Int→Int→Option (Out Int Int)} {levels zs:List Int} (hs:∀ k x sv,x∈zs→step k x sv=some (.next (if k=0∨sv<lvl levels x then lvl levels x else sv))) :
    ((Am step 0 zs 0).bind fun o=>o.on fun s=>some s)=some (Wt levels zs):=by
  obtain⟨s',h1,h2⟩:=Dt (step:=step) (l:=zs) (s:=0) (fun k s=>s=Wt levels (zs.take k)) rfl (fun k x s hk hI=>by
    have hlt:=(List.getElem?_eq_some_iff.1 hk).1
    rw[hs k x s (Ai4 hk)]
    refine⟨_,rfl,?_⟩
    rw[List.take_add_one,hk,hI]
    show _=Wt levels (zs.take k++[x])
    rw[tP]
    have:zs.take k=[]↔k=0:=by
      constructor
      ·intro h
       have:=congrArg List.length h
       simp at this
       rcases this with h | h
       ·exact h
       ·subst h;simp at hlt
      ·intro h;subst h;rfl
    simp only[this])
  rw[h1,h2,List.take_length];rfl
theorem v8 (s:Bd) {levels:List Int} (hl:levels.length≤9223372036854775807):Mt s levels=some (Wt levels s.Zones):=
  nK fun k x sv _=>qI hl k x sv
theorem mU (s:Bd) {levels:List Int} (hl:levels.length≤9223372036854775807) (hz:∀ z∈s.Zones,1≤z):dS s levels=some (Wt levels s.Zones):=
  nK fun k x sv hx=>iW hl k x sv (hz x hx)
def Yr (s:Bd) (levels:List Int):Prop:=
  s.Limit≤s.Load∨(Wt levels s.Zones=3∧s.Limit / 2≤s.Load)∨(Wt levels s.Zones=4∧s.Limit / 4≤s.Load)∨4<Wt levels s.Zones
instance (s:Bd) (levels:List Int):Decidable (Yr s levels):=by unfold Yr;infer_instance
theorem fE {n d:Int} (h0:0≤n) (h1:n≤100000) (hd:1≤d):IntKind.i64.wrap (Int.tdiv n d)=n / d:=by
  have h2:n / d≤n:=Int.ediv_le_self d h0
  have h3:0≤n / d:=Int.ediv_nonneg h0 (by omega)
  rw[Int.tdiv_eq_ediv_of_nonneg h0,wrap_small (by omega) (by omega)]
theorem mC {s:Bd} (hr:InR s) {levels:List Int} (hl:levels.length≤9223372036854775807):F4 s levels=some (decide (Yr s levels)):=by
  unfold InR at hr
  unfold F4
  rw[v8 s hl,fE (by omega) (by omega) (by omega),fE (by omega) (by omega) (by omega)]
  by_cases h1:s.Limit≤s.Load
  ·rw[Ai1 h1,Ai1 (show Yr s levels from .inl h1)];rfl
  rw[Ai2 h1,cond_false,Option.bind_some]
  by_cases h2:Wt levels s.Zones=3
  ·rw[Ai1 h2,cond_true]
   refine congrArg some (decide_eq_decide.2 ?_)
   unfold Yr;omega
  rw[Ai2 h2,cond_false]
  by_cases h3:Wt levels s.Zones=4
  ·rw[Ai1 h3,cond_true]
   refine congrArg some (decide_eq_decide.2 ?_)
   unfold Yr;omega
  rw[Ai2 h3,cond_false]
  refine congrArg some (decide_eq_decide.2 ?_)
  unfold Yr;omega
theorem fT {s:Bd} (hr:InR s) {levels:List Int} (hl:levels.length≤9223372036854775807) (hz:∀ z∈s.Zones,1≤z):Rg s levels=some (decide (Yr s levels)):=by
  unfold InR at hr
  unfold Rg
  rw[mU s hl hz,fE (by omega) (by omega) (by omega),fE (by omega) (by omega) (by omega),Option.bind_some]
  by_cases h1:4<Wt levels s.Zones
  ·rw[Ai1 h1,Ai1 (show Yr s levels from .inr (.inr (.inr h1)))];rfl
  rw[Ai2 h1,cond_false]
  by_cases h3:Wt levels s.Zones=4
  ·rw[Ai1 h3,cond_true]
   refine congrArg some (decide_eq_decide.2 ?_)
   unfold Yr;omega
  rw[Ai2 h3,cond_false]
  by_cases h2:Wt levels s.Zones=3
  ·rw[Ai1 h2,cond_true]
   refine congrArg some (decide_eq_decide.2 ?_)
   unfold Yr;omega
  rw[Ai2 h2,cond_false]
  refine congrArg some (decide_eq_decide.2 ?_)
  unfold Yr;omega
theorem Ph:∀ {a b:List Int},Inc a→Inc b→(∀ x,x∈a↔x∈b)→a=b
  | [],[],_,_,_=>rfl
  | [],y::s,_,_,h=>absurd ((h y).2 (by simp)) (by simp)
  | x::r,[],_,_,h=>absurd ((h x).1 (by simp)) (by simp)
  | x::r,y::s,ha,hb,h=>by
    obtain⟨ha1,ha2⟩:=List.pairwise_cons.1 ha
    obtain⟨hb1,hb2⟩:=List.pairwise_cons.1 hb
    have e:x=y:=by
      rcases List.mem_cons.1 ((h x).1 (by simp))with e | h1
      ·exact e
      ·rcases List.mem_cons.1 ((h y).2 (by simp))with e | h2
       ·exact e.symm
       ·have:=ha1 y h2;have:=hb1 x h1;omega
    subst e
    rw[Ph ha2 hb2 (fun z=>?_)]
    constructor
    ·intro hz
     rcases List.mem_cons.1 ((h z).1 (List.mem_cons_of_mem _ hz))with e | h1
     ·have:=ha1 z hz;omega
     ·exact h1
    ·intro hz
     rcases List.mem_cons.1 ((h z).2 (List.mem_cons_of_mem _ hz))with e | h1
     ·have:=hb1 z hz;omega
     ·exact h1
def norm (xs:List Int):List Int:=Cg (Dc xs)
theorem Qr (xs:List Int):(Dc xs).Pairwise (·≤·):=by
  have:=List.pairwise_mergeSort (le:=fun x y:Int=>decide (x≤y)) (fun a b c h1 h2=>by simp at *;omega) (fun a b=>by simp;omega) xs
  exact this.imp (fun h=>by simpa using h)
theorem M7 (xs:List Int) (a:Int):a∈Dc xs↔a∈xs:=(List.mergeSort_perm xs _).mem_iff
theorem Fk {zs:List Int} {j:Nat} (h:j<zs.length):zs.toArray[j]! =zs[j]:=by simp[h]
theorem Xa {zs:List Int} (a:Int):a∈Cg zs↔a∈zs:=by
  unfold Cg Lib.compact Lib.compactUpTo
  rw[List.mem_map]
  constructor
  ·rintro⟨j,hj,rfl⟩
   have h1:=List.mem_range.1 (List.mem_filter.1 hj).1
   rw[Fk h1];exact List.getElem_mem h1
  ·intro ha
   obtain⟨i,hi,rfl⟩:=List.getElem_of_mem ha
   induction i with
   | zero=>exact ⟨0,List.mem_filter.2 ⟨List.mem_range.2 hi,by simp[Lib.keeps]⟩,Fk hi⟩
   | succ i ih=>
     by_cases e:zs[i+1]=zs[i]
     ·rw[e];exact ih (by omega) (List.getElem_mem _)
     ·refine⟨i+1,List.mem_filter.2 ⟨List.mem_range.2 hi,?_⟩,Fk hi⟩
      unfold Lib.keeps
      rw[Fk hi,Nat.add_sub_cancel,Fk (show i<zs.length by omega)]
      exact Ai1 (.inr e)
theorem Xb {zs:List Int} (h:zs.Pairwise (·≤·)):Inc (Cg zs):=by
  unfold Cg Lib.compact Lib.compactUpTo Inc
  rw[List.pairwise_map]
  refine(List.pairwise_lt_range.filter _).imp_of_mem (fun {i j} hi hj hlt=>?_)
  obtain⟨hj1,hj2⟩:=List.mem_filter.1 hj
  have hj1:=List.mem_range.1 hj1
  rw[Fk (show i<zs.length by omega),Fk hj1]
  unfold Lib.keeps at hj2
  have hne:=Ai0 hj2
  rw[Fk hj1,Fk (show j - 1<zs.length by omega)]at hne
  rw[List.pairwise_iff_getElem]at h
  have h1:=h (j - 1) j (by omega) hj1 (by omega)
  rcases Nat.lt_or_ge i (j - 1)with hh | hh
  ·have:=h i (j - 1) (by omega) (by omega) hh;omega
  ·have e:i=j - 1:=by omega
   subst e;omega
theorem Uh (xs:List Int):Inc (norm xs):=Xb (Qr xs)
theorem Ug (xs:List Int) (a:Int):a∈norm xs↔a∈xs:=by unfold norm;rw[Xa,M7]
theorem gather {step:Nat→Bd→List Int→Option (Out (List Int) (List Int))} {l:List Bd} (f:Bd→List Int) (p:Bd→Bool) (hl:l.length≤50) (hf:∀ x∈l,(f x).length≤100)
    (hs:∀ k x s,x∈l→step k x s=bif p x then chk (s.length+(f x).length) (some (Out.next (s++f x)))else some (Out.next s)) :
    ((Am step 0 l []).bind fun o2=>o2.on fun s2=>chk s2.length (chk s2.length (some (Cg (Dc s2)))))=some (norm ((l.filter p).flatMap f)):=by
  obtain⟨s',h1,h2,h3⟩:=Dt (step:=step) (l:=l) (s:=[]) (fun k s=>s=((l.take k).filter p).flatMap f∧s.length≤100*k) ⟨by simp,by simp⟩ (fun k x s hk ⟨hI,hn⟩=>by
    have hlt:=(List.getElem?_eq_some_iff.1 hk).1
    have hx:=Ai4 hk
    have:=hf x hx
    rw[hs k x s hx]
    cases hp:p x with
    | true=>
      rw[cond_true,Ci (by omega)]
      refine⟨_,rfl,?_,by rw[List.length_append];omega⟩
      rw[List.take_add_one,hk,hI];simp[hp]
    | false=>
      rw[cond_false]
      refine⟨_,rfl,?_,by omega⟩
      rw[List.take_add_one,hk,hI];simp[hp])
  rw[h1]
  show chk s'.length (chk s'.length _)=_
  rw[Ci (by omega),Ci (by omega),h2,List.take_length];rfl
theorem uZ {l:List Bd} {levels:List Int} (hs:Small l) (hr:∀ x∈l,InR x) (hl:levels.length≤9223372036854775807):Gd l levels=some (norm ((l.filter fun x=>decide (Yr x levels)).flatMap Bd.Zones)):=
  gather Bd.Zones (fun x=>decide (Yr x levels)) hs.1 (fun x hx=>(hs.2 x hx).1) (fun k x s hx=>by
    unfold Im;rw[mC (hr x hx) hl,Option.bind_some])
theorem vB (a b:List Int) (x y:Int):((a++y::x::b).set (a.length+1) y).set a.length x=a++x::y::b:=by
  simp[List.set_append]
theorem wH {at_:Nat} {out:List Int} {x:Int} (hat:at_≤out.length) (hlen:out.length≤100000000) :
    ∃ a b,Kh out x (at_:Int)=some (.next (a++x::b))∧a++b=out∧a.length=at_:=by
  unfold Kh
  rw[Ci (by omega),wrap_small (by omega) (by omega)]
  obtain⟨r,h1,a,b,h2,h3,h4⟩:=H8 (step:=Rf (at_:Int)) (fun s=>∃ a b:List Int,s=((a.length:Int),a++x::b)∧a++b=out∧at_≤a.length)
    (fun r=>∃ a b,r= .next (a++x::b)∧a++b=out∧a.length=at_) (fun s=>s.1.toNat) (fun s hI=>by
      obtain⟨a,b,rfl,hab,ha⟩:=hI
      unfold Rf
      show(∃ s',(bif decide ((at_:Int)<((a.length:Nat):Int))then _ else _)=_∧_)∨_
      by_cases hlt:at_<a.length
      ·rw[Ai1 (by omega),cond_true]
       rcases List.eq_nil_or_concat a with e | ⟨a',y,e⟩
       ·subst e;simp at hlt
       ·rw[List.concat_eq_append]at e
        subst e
        have hl':(a'++[y]).length=a'.length+1:=by simp
        rw[hl']at hlt ha
        have hle:a'.length+1≤out.length:=by rw[← hab];simp
        have e1:a'++[y]++x::b=a'++y::x::b:=by simp
        have g1:(a'++y::x::b)[a'.length]? =some y:=by simp
        have g2:(a'++y::x::b)[a'.length+1]? =some x:=by simp
        have g3:((a'++y::x::b).set (a'.length+1) y)[a'.length]? =some y:=by rw[List.getElem?_set_ne (by omega)];exact g1
        simp only[hl',e1,Q0 (show 0<a'.length+1 by omega) (by omega),Nat.add_sub_cancel,Ay g1,Ay g2,Option.bind_some,Int.toNat_natCast,Ay g3,vB]
        exact .inl ⟨_,rfl,⟨a',y::b,rfl,by rw[← hab];simp,by omega⟩,by omega⟩
      ·rw[Ai2 (by omega),cond_false]
       exact .inr ⟨_,rfl,a,b,rfl,hab,by omega⟩) fuel ((out.length:Int),out++[x]) ⟨out,[],rfl,by simp,hat⟩ (by show out.length<fuel;unfold fuel;omega)
  refine⟨a,b,?_,h3,h4⟩
  rw[show((((out.length+1:Nat):Int)) - 1)=(out.length:Int) by omega,h1,h2];rfl
theorem tR (k:Nat) (x:Int) {out:List Int} (hi:Inc out) (hlen:out.length≤100000000) :
    ∃ out',Hf k x out=some (.next out')∧Inc out'∧(∀ a,a∈out'↔a∈out∨a=x)∧out'.length≤out.length+1:=by
  unfold Hf
  obtain⟨r,h1,out',h2,h3⟩:=H8 (step:=Re out x) (fun(s:Int)=>∃ n:Nat,s=(n:Int)∧n≤out.length∧∀ i y,i<n→out[i]? =some y→y<x)
    (fun r=>∃ out',r= .next out'∧Inc out'∧(∀ a,a∈out'↔a∈out∨a=x)∧out'.length≤out.length+1) (fun s=>out.length - s.toNat) (fun s hI=>by
      obtain⟨n,rfl,hn,hI⟩:=hI
      have hins:(∀ y,out[n]? =some y→x<y)→∃ out',Kh out x (n:Int)=some (.next out')∧Inc out'∧(∀ a,a∈out'↔a∈out∨a=x)∧out'.length≤out.length+1:=fun hgt=>by
        obtain⟨a,b,g1,g2,g3⟩:=wH (x:=x) hn hlen
        refine⟨_,g1,?_,fun c=>?_,by rw[← g2];simp;omega⟩
        ·subst g2
         unfold Inc at hi ⊢
         obtain⟨p1,p2,p3⟩:=List.pairwise_append.1 hi
         have hb:∀ y∈b,x<y:=fun y hy=>by
           cases b with
           | nil=>cases hy
           | cons z b'=>
             have hz:x<z:=hgt z (by rw[← g3];simp)
             rcases List.mem_cons.1 hy with e | hy
             ·subst e;exact hz
             ·have:=(List.pairwise_cons.1 p2).1 y hy;omega
         have ha:∀ y∈a,y<x:=fun y hy=>by
           obtain⟨i,hi',rfl⟩:=List.getElem_of_mem hy
           exact hI i _ (by omega) (by rw[List.getElem?_append_left hi'];exact Ai3 hi')
         refine List.pairwise_append.2 ⟨p1,List.pairwise_cons.2 ⟨hb,p2⟩,fun y hy z hz=>?_⟩
         rcases List.mem_cons.1 hz with e | hz
         ·subst e;exact ha y hy
         ·exact p3 y hy z hz
        ·subst g2;simp only[List.mem_append,List.mem_cons]
         constructor
         ·rintro(h | h | h)
          ·exact .inl (.inl h)
          ·exact .inr h
          ·exact .inl (.inr h)
         ·rintro((h | h) | h)
          ·exact .inl h
          ·exact .inr (.inr h)
          ·exact .inr (.inl h)
      unfold Re
      by_cases hlt:n<out.length
      ·rw[Ai1 (by omega),cond_true,X3 hlt,Option.bind_some]
       have hg:out[n]? =some out[n]:=Ai3 hlt
       by_cases hx:out[n]< x
       ·rw[Ai1 hx,cond_true,Q1 (by omega)]
        refine .inl ⟨_,rfl,⟨n+1,rfl,by omega,fun i y hi' hy=>?_⟩,by omega⟩
        by_cases e:i=n
        ·subst e;rw[hg]at hy;obtain rfl:=Option.some.inj hy;exact hx
        ·exact hI i y (by omega) hy
       ·rw[Ai2 hx,cond_false]
        unfold N1
        rw[Ai1 (by omega),cond_true,X3 hlt,Option.bind_some]
        by_cases e:out[n]=x
        ·rw[Ai1 e,cond_true]
         refine .inr ⟨_,rfl,out,rfl,hi,fun a=>⟨.inl,fun h=>?_⟩,by omega⟩
         rcases h with h | h
         ·exact h
         ·rw[h,← e];exact List.getElem_mem hlt
        ·rw[Ai2 e,cond_false]
         obtain⟨out',g1,g2⟩:=hins (fun y hy=>by rw[hg]at hy;obtain rfl:=Option.some.inj hy;omega)
         rw[g1]
         exact .inr ⟨_,rfl,out',rfl,g2⟩
      ·rw[Ai2 (by omega),cond_false,cond_false]
       unfold N1
       rw[Ai2 (by omega),cond_false]
       obtain⟨out',g1,g2⟩:=hins (fun y hy=>by rw[List.getElem?_eq_none (by omega)]at hy;cases hy)
       rw[g1]
       exact .inr ⟨_,rfl,out',rfl,g2⟩) fuel 0 ⟨0,rfl,by omega,fun i y h=>by omega⟩ (by show out.length - 0<fuel;unfold fuel;omega)
  exact⟨out',by rw[h1,h2];rfl,h3⟩
theorem tS (zs:List Int) {out:List Int} (hi:Inc out) (hlen:out.length+zs.length≤100000000) :
    ∃ out',Am Hf 0 zs out=some (.next out')∧Inc out'∧(∀ a,a∈out'↔a∈out∨a∈zs)∧out'.length≤out.length+zs.length:=by
  obtain⟨s',h1,h2,h3,h4⟩:=Dt (step:=Hf) (l:=zs) (s:=out) (fun k s=>Inc s∧(∀ a,a∈s↔a∈out∨a∈zs.take k)∧s.length≤out.length+k) ⟨hi,by simp,by omega⟩ (fun k x s hk ⟨hI1,hI2,hI3⟩=>by
    have hlt:=(List.getElem?_eq_some_iff.1 hk).1
    obtain⟨out',g1,g2,g3,g4⟩:=tR k x hI1 (by omega)
    refine⟨out',g1,g2,fun a=>?_,by omega⟩
    rw[g3,hI2,List.take_add_one,hk]
    simp[or_assoc])
  rw[List.take_length]at h3
  exact⟨s',h1,h2,h3,h4⟩
theorem refgather {step:Nat→Bd→List Int→Option (Out (List Int) (List Int))} {l:List Bd} (f:Bd→List Int) (p:Bd→Bool) (hl:l.length≤50) (hf:∀ x∈l,(f x).length≤100)
    (hs:∀ k x s,x∈l→step k x s=bif p x then(Am Hf 0 (f x) s).bind fun o7=>o7.on fun s7=>some (Out.next s7)else some (Out.next s)) :
    ((Am step 0 l []).bind fun o2=>o2.on fun s2=>some s2)=some (norm ((l.filter p).flatMap f)):=by
  obtain⟨s',h1,h2,h3,h4⟩:=Dt (step:=step) (l:=l) (s:=[]) (fun k s=>Inc s∧(∀ a,a∈s↔a∈((l.take k).filter p).flatMap f)∧s.length≤100*k) ⟨List.Pairwise.nil,by simp,by simp⟩ (fun k x s hk ⟨hI1,hI2,hI3⟩=>by
    have hlt:=(List.getElem?_eq_some_iff.1 hk).1
    have hx:=Ai4 hk
    have:=hf x hx
    rw[hs k x s hx]
    cases hp:p x with
    | true=>
      rw[cond_true]
      obtain⟨out',g1,g2,g3,g4⟩:=tS (f x) hI1 (by omega)
      refine⟨out',by rw[g1];rfl,g2,fun a=>?_,by omega⟩
      rw[g3,hI2,List.take_add_one,hk];simp[hp]
    | false=>
      rw[cond_false]
      refine⟨_,rfl,hI1,fun a=>?_,by omega⟩
      rw[hI2,List.take_add_one,hk];simp[hp])
  rw[List.take_length]at h3
  rw[h1]
  show some s'=_
  rw[Ph h2 (Uh _) (fun a=>by rw[h3,Ug])]
theorem mT {l:List Bd} {levels:List Int} (hs:Small l) (hr:aZ l) (hl:levels.length≤9223372036854775807):Wk l levels=some (norm ((l.filter fun x=>decide (Yr x levels)).flatMap Bd.Zones)):=
  refgather Bd.Zones (fun x=>decide (Yr x levels)) hs.1 (fun x hx=>(hs.2 x hx).1) (fun k x s hx=>by
    unfold Wj;rw[fT (hr.at hx).1 hl (fun z hz=>((hr.at hx).2.2.1.1 z hz).1),Option.bind_some])
end Go.Proofs.YtjopghiagoidgaaGreat.S50
namespace Go.Proofs.YtjopghiagoidgaaGreat
open Go Go.Ab
set_option linter.unusedSimpArgs false
set_option linter.unusedVariables false
def Ag {α:Type} (a b:Option α):Prop:=∃ r,a=some r∧b=some r
theorem Ag.some {α:Type} (x:α):Ag (some x) (some x):=⟨x,rfl,rfl⟩
theorem Ag.refl {α:Type} {a:Option α} (h:∃ x,a=Option.some x):Ag a a:=by obtain⟨x,h⟩:=h;exact⟨x,h,h⟩
theorem Ag.symm {α:Type} {a b:Option α} (h:Ag a b):Ag b a:=by obtain⟨x,h,k⟩:=h;exact⟨x,k,h⟩
theorem Ag.trans {α:Type} {a b c:Option α} (h:Ag a b) (k:Ag b c):Ag a c:=by
  obtain⟨x,h1,h2⟩:=h;obtain⟨y,k1,k2⟩:=k
  rw[h2]at k1;obtain rfl:=Option.some.inj k1
  exact⟨x,h1,k2⟩
theorem Ag.eq {α:Type} {a b:Option α} (h:Ag a b):a=b:=by obtain⟨x,h1,h2⟩:=h;rw[h1,h2]
theorem Ag.of {α:Type} {a b:Option α} (h:∃ x,a=Option.some x) (e:a=b):Ag a b:=by obtain⟨x,h⟩:=h;exact⟨x,h,by rw[← e];exact h⟩
theorem Ag.bind {α β:Type} {a b:Option α} {f g:α→Option β} (h:Ag a b) (k:∀ x,a=Option.some x→b=Option.some x→Ag (f x) (g x)):Ag (a.bind f) (b.bind g):=by
  obtain⟨x,h1,h2⟩:=h
  have:=k x h1 h2
  rw[h1,h2];exact this
theorem Ag.bif {α:Type} {c d:Bool} {a b a' b':Option α} (hc:c=d) (h:c=true→Ag a b) (k:c=false→Ag a' b'):Ag (bif c then a else a') (bif d then b else b'):=by
  subst hc
  cases c with
  | true=>exact h rfl
  | false=>exact k rfl
theorem kH {α σ ρ:Type} {step:Nat→α→σ→Option (Out σ ρ)}:∀ {l:List α} {k:Nat},(∀ i x s,l[i]? =Option.some x→∃ o,step (k+i) x s=Option.some o)→∀ s,∃ o,Am step k l s=Option.some o
  | [],k,_,s=>⟨_,rfl⟩
  | x::l,k,h,s=>by
    obtain⟨o,ho⟩:=h 0 x s rfl
    rw[Nat.add_zero]at ho
    rw[Am,ho]
    cases o with
    | ret r=>exact ⟨_,rfl⟩
    | next s'=>exact kH (fun i y s hy=>by have:=h (i+1) y s (by simpa using hy);rwa [show k+(i+1)=k+1+i by omega]at this) s'
theorem Ag.wT {α σ ρ:Type} {step step':Nat→α→σ→Option (Out σ ρ)}:∀ {l:List α} {k:Nat},(∀ i x s,l[i]? =Option.some x→Ag (step (k+i) x s) (step' (k+i) x s))→∀ s,Ag (Am step k l s) (Am step' k l s)
  | [],k,_,s=>⟨_,rfl,rfl⟩
  | x::l,k,h,s=>by
    obtain⟨o,ho,ho'⟩:=h 0 x s rfl
    rw[Nat.add_zero]at ho ho'
    rw[Am,Am,ho,ho']
    cases o with
    | ret r=>exact ⟨_,rfl,rfl⟩
    | next s'=>exact Ag.wT (fun i y s hy=>by have:=h (i+1) y s (by simpa using hy);rwa [show k+(i+1)=k+1+i by omega]at this) s'
theorem Ag.Am {α σ ρ:Type} {step step':Nat→α→σ→Option (Out σ ρ)} {l:List α} {s:σ} (h:∀ i x s,l[i]? =Option.some x→Ag (step i x s) (step' i x s)):Ag (Am step 0 l s) (Am step' 0 l s):=
  Ag.wT (fun i x s hx=>by rw[Nat.zero_add];exact h i x s hx) s
theorem Ag.on {σ ρ:Type} {o:Out σ ρ} {f g:σ→Option ρ} (h:∀ s,o= .next s→Ag (f s) (g s)):Ag (o.on f) (o.on g):=by
  cases o with
  | ret r=>exact ⟨_,rfl,rfl⟩
  | next s=>exact h s rfl
theorem cQ {α:Type} {l:List α} {k:Nat} (hk:k<l.length) (h0:0<k) (hl:l.length≤9223372036854775807):∃ x,Dk l (IntKind.i64.wrap ((k:Int) - 1))=Option.some x∧l[k - 1]? =Option.some x:=by
  have hx:l[k - 1]? =Option.some (l[k - 1]'(by omega)):=Ai3 (by omega)
  exact⟨_,Qw (Q0 h0 (by omega)) hx,hx⟩
def Tot {α:Type} (a:Option α):Prop:=∃ r,a=Option.some r
theorem Tot.some {α:Type} (x:α):Tot (Option.some x):=⟨x,rfl⟩
theorem Tot.bif {α:Type} {c:Bool} {a b:Option α} (h:c=true→Tot a) (k:c=false→Tot b):Tot (bif c then a else b):=by
  cases c with
  | true=>exact h rfl
  | false=>exact k rfl
theorem Tot.bind {α β:Type} {a:Option α} {f:α→Option β} (h:Tot a) (k:∀ x,a=Option.some x→Tot (f x)):Tot (a.bind f):=by
  obtain⟨x,h⟩:=h
  have:=k x h
  rw[h];exact this
theorem Tot.on {σ ρ:Type} {o:Out σ ρ} {f:σ→Option ρ} (h:∀ s,Tot (f s)):Tot (o.on f):=by
  cases o with
  | ret r=>exact ⟨_,rfl⟩
  | next s=>exact h s
theorem Tot.Am {α σ ρ:Type} {step:Nat→α→σ→Option (Out σ ρ)} {l:List α} {s:σ} (h:∀ i x s,l[i]? =Option.some x→Tot (step i x s)):Tot (Am step 0 l s):=
  kH (fun i x s hx=>by rw[Nat.zero_add];exact h i x s hx) s
theorem Tot.pred {α β:Type} {l:List α} {k:Nat} {f:α→Option β} (hk:k<l.length) (h0:decide ((0:Int)<((k:Nat):Int))=true) (hl:l.length≤9223372036854775807) (h:∀ y,Tot (f y)):Tot ((Dk l (IntKind.i64.wrap (((k:Nat):Int) - (1:Int)))).bind f):=by
  obtain⟨x,h1,_⟩:=cQ hk (by have:=Ai0 h0;omega) hl
  rw[h1];exact h x
theorem Ag.m9 {α:Type} {a b:Option α} (h:Tot a) (e:a=b):Ag a b:=Ag.of h e
def Di {σ ρ:Type} (P:ρ→Prop) (o:Option (Out σ ρ)):Prop:=∀ r,o=Option.some (.ret r)→P r
theorem Di.next {σ ρ:Type} {P:ρ→Prop} (s:σ):Di P (Option.some (Out.next s)):=by intro r h;cases h
theorem Di.ret {σ ρ:Type} {P:ρ→Prop} {r:ρ} (h:P r):Di (σ:=σ) P (Option.some (Out.ret r)):=by intro r' h';cases h';exact h
theorem Di.bif {σ ρ:Type} {P:ρ→Prop} {c:Bool} {a b:Option (Out σ ρ)} (h:c=true→Di P a) (k:c=false→Di P b):Di P (bif c then a else b):=by
  cases c with
  | true=>exact h rfl
  | false=>exact k rfl
theorem Di.bind {α σ ρ:Type} {P:ρ→Prop} {a:Option α} {f:α→Option (Out σ ρ)} (h:∀ x,a=Option.some x→Di P (f x)):Di P (a.bind f):=by
  intro r hr
  obtain⟨x,h1,h2⟩:=Af hr
  exact h x h1 r h2
theorem Di.okB {σ ρ:Type} {P:ρ→Prop} {c:Bool} {o:Option (Out σ ρ)} (h:Di P o):Di P (okB c o):=by
  cases c with
  | true=>exact h
  | false=>intro r h';cases h'
theorem Di.Am {α σ ρ:Type} {P:ρ→Prop} {step:Nat→α→σ→Option (Out σ ρ)} (h:∀ i x s,Di P (step i x s)):∀ {l:List α} {k:Nat} {s:σ},Di P (Am step k l s)
  | [],k,s=>Di.next _
  | x::l,k,s=>by
    intro r hr
    rw[Go.Ab.Am]at hr
    obtain⟨o,h1,h2⟩:=Af hr
    cases o with
    | ret q=>exact h k x s r (by rw[h1];exact h2 ▸ rfl)
    | next s'=>exact Di.Am h r h2
theorem pM {σ:Type} {o:Option (Out σ Int)} {rest:Option Int} (h:Di (·≠0) o):((o.bind fun x=>x.on fun _=>Option.some (0:Int)).bind fun y=>bif decide (y≠(0:Int))then Option.some y else rest)=o.bind fun x=>x.on fun _=>rest:=by
  cases o with
  | none=>rfl
  | some x=>
    cases x with
    | next s=>rfl
    | ret r=>
      have:=h r rfl
      show(bif decide (r≠0)then Option.some r else rest)=Option.some r
      rw[Ai1 this];rfl
theorem lX {α:Type} {n lo hi:Int} {a b:α}:(bif decide (n<lo)then a else(bif decide (hi<n)then a else b))=(bif !decide (lo≤n∧n≤hi)then a else b):=by
  by_cases h1:n<lo
  ·rw[Ai1 h1,Ai2 (p:=lo≤n∧n≤hi) (by omega)];rfl
  ·by_cases h2:hi<n
   ·rw[Ai2 h1,Ai1 h2,Ai2 (by omega)];rfl
   ·rw[Ai2 h1,Ai2 h2,Ai1 (by omega)];rfl
theorem bf {p q:Prop} [Decidable p] [Decidable q]:(bif decide p then Option.some false else Option.some (decide q))=Option.some (decide (¬p∧q)):=by
  by_cases h1:p<;>by_cases h2:q<;>simp[h1,h2]
theorem bt {p q:Prop} [Decidable p] [Decidable q]:(bif decide p then Option.some (decide q)else Option.some false)=Option.some (decide (p∧q)):=by
  by_cases h1:p<;>by_cases h2:q<;>simp[h1,h2]
theorem ba {α:Type} {p q:Prop} [Decidable p] [Decidable q] {a b:α}:(bif !decide p then a else(bif !decide q then a else b))=(bif !decide (p∧q)then a else b):=by
  by_cases h1:p<;>by_cases h2:q<;>simp[h1,h2]
theorem sD {α:Type} {x y:Int} {a b:α}:(bif decide (x<y)then a else b)=(bif !decide (y≤x)then a else b):=by
  by_cases h:x<y
  ·rw[Ai1 h,Ai2 (by omega)];rfl
  ·rw[Ai2 h,Ai1 (by omega)];rfl
theorem yO {α:Type} {x y:Int} {a b:α}:(bif decide (x≤y)then a else b)=(bif !decide (y<x)then a else b):=by
  by_cases h:x≤y
  ·rw[Ai1 h,Ai2 (by omega)];rfl
  ·rw[Ai2 h,Ai1 (by omega)];rfl
theorem in2 {lo n hi:Int}:(bif (decide (lo≤n))then Option.some (decide (n≤hi))else Option.some false)=Option.some (decide (lo≤n∧n≤hi)):=bt
theorem kG {α σ τ ρ:Type} {step:Nat→α→σ→Option (Out σ ρ)} {step':Nat→α→τ→Option (Out τ ρ)} (l:List α) (R:Nat→σ→τ→Prop)
    (hs:∀ i x s t,l[i]? =Option.some x→R i s t→(∃ s' t',step i x s=Option.some (.next s')∧step' i x t=Option.some (.next t')∧R (i+1) s' t')∨(∃ r,step i x s=Option.some (.ret r)∧step' i x t=Option.some (.ret r))) :
    ∀ (n k:Nat) (s:σ) (t:τ),l.length - k=n→k≤l.length→R k s t→(∃ s' t',Am step k (l.drop k) s=Option.some (.next s')∧Am step' k (l.drop k) t=Option.some (.next t')∧R l.length s' t')∨(∃ r,Am step k (l.drop k) s=Option.some (.ret r)∧Am step' k (l.drop k) t=Option.some (.ret r))
  | 0,k,s,t,hn,hk,hR=>by
    have:k=l.length:=by omega
    subst this
    rw[List.drop_length]
    exact .inl ⟨s,t,rfl,rfl,hR⟩
  | n+1,k,s,t,hn,hk,hR=>by
    have hlt:k<l.length:=by omega
    rw[List.drop_eq_getElem_cons hlt]
    rcases hs k _ s t (Ai3 hlt) hR with⟨s',t',h1,h2,h3⟩ | ⟨r,h1,h2⟩
    ·rcases kG l R hs n (k+1) s' t' (by omega) hlt h3 with⟨s2,t2,h4,h5,h6⟩ | ⟨r,h4,h5⟩
     ·exact .inl ⟨s2,t2,by rw[Go.Ab.Am,h1];exact h4,by rw[Go.Ab.Am,h2];exact h5,h6⟩
     ·exact .inr ⟨r,by rw[Go.Ab.Am,h1];exact h4,by rw[Go.Ab.Am,h2];exact h5⟩
    ·exact .inr ⟨r,by rw[Go.Ab.Am,h1];rfl,by rw[Go.Ab.Am,h2];rfl⟩
theorem qG (c:Bl):Q4 c=some (decide (1≤c.Kind∧c.Kind≤3∧1≤c.Target∧c.Target≤9999∧1≤c.By∧c.By≤6∧0≤c.Since∧c.Since≤20000000)):=by
  unfold Q4;simp only[bt]
theorem w4 (l:List Bl) (a b c:Int):Oh l ⟨a,b,c⟩=Fp l a b c:=by
  have:I8 ⟨a,b,c⟩=E1 a b c:=by
    funext k x s
    unfold I8 E1 Jf
    rw[Option.bind_some]
    dsimp only
    cases decide (x.Kind=a)<;>cases decide (x.Target=b)<;>cases decide (x.By=c)<;>rfl
  unfold Oh Fp;rw[this]
theorem tC (l:List Bl) (a b c:Int):Tot (Fp l a b c):=by
  unfold Fp
  refine Tot.bind (Tot.Am fun i x s _=>?_) fun o _=>Tot.on fun _=>Tot.some _
  unfold E1
  repeat' first | exact Tot.some _ | refine Tot.bif (fun _=>?_) (fun _=>?_)
theorem qT (l:List Bl) (hl:l.length≤1000):Ag (Mf l) (H4 l):=by
  unfold Mf H4
  refine Ag.bif rfl (fun _=>Ag.some _) fun _=>?_
  refine Ag.bind (Ag.Am fun i x s hx=>?_) fun o _ _=>Ag.on fun _ _=>Ag.some _
  have hi:=(List.getElem?_eq_some_iff.1 hx).1
  unfold Lp Hd
  refine Ag.bind (a:=Mr x) (b:=Q4 x) ⟨_,qG x,qG x⟩ fun y _ _=>?_
  refine Ag.bif rfl (fun _=>Ag.some _) fun _=>?_
  rw[Oz (by omega),Oz (by omega)]
  unfold Jf
  rw[Option.bind_some,w4]
  exact Ag.bind (Ag.refl (tC _ _ _ _)) fun y _ _=>Ag.bif rfl (fun _=>Ag.some _) fun _=>Ag.some _
theorem nN (l:List Int) (n:Int):Ud l n=some (decide (n∈l)):=Wx fun k x hx=>rfl
theorem fC (n lo hi:Int):Pu n lo hi=some (decide (lo≤n∧n≤hi)):=by unfold Pu;exact in2
theorem qJ (l:Br) (h1:l.Items.length≤9223372036854775807) (h2:l.Signs.length≤9223372036854775807):Ag (Je l) (Gf l):=by
  unfold Je Gf
  refine Ag.bif rfl (fun _=>Ag.some _) fun hl1=>?_
  refine Ag.bif rfl (fun _=>Ag.some _) fun hl2=>?_
  have hl1:=Aiz hl1
  have hl2:=Aiz hl2
  rw[lX,fC,Option.bind_some]
  refine Ag.bif rfl (fun _=>Ag.some _) fun _=>?_
  refine Ag.bind (Ag.Am fun i x s hx=>?_) fun o _ _=>Ag.on fun _ _=>?_
  ·have hi:=(List.getElem?_eq_some_iff.1 hx).1
   unfold Ll N3
   rw[lX,fC,Option.bind_some]
   refine Ag.bif rfl (fun _=>Ag.some _) fun _=>?_
   rw[Oz (by omega),Oz (by omega)]
   simp only[contains_eq,nN,Option.bind_some]
   exact Ag.bif rfl (fun _=>Ag.some _) fun _=>Ag.some _
  ·unfold Lk N2
   refine Ag.bind (Ag.Am fun i x s hx=>?_) fun o _ _=>Ag.on fun _ _=>Ag.some _
   have hi:=(List.getElem?_eq_some_iff.1 hx).1
   unfold Lm N4
   simp only[contains_eq,nN,Option.bind_some]
   refine Ag.bif rfl (fun _=>Ag.some _) fun _=>?_
   rw[lX,fC,Option.bind_some]
   refine Ag.bif rfl (fun _=>Ag.some _) fun _=>?_
   rw[lX,fC,Option.bind_some]
   refine Ag.bif rfl (fun _=>Ag.some _) fun _=>?_
   refine Ag.bif rfl (fun h0=>?_) fun _=>Ag.some _
   refine Ag.refl ?_
   exact Tot.pred hi h0 (by omega) fun y=>Tot.bif (fun _=>Tot.some _) fun _=>Tot.some _
theorem nM {l:Br} (h:Gf l=some 0):l.Items.length≤64∧l.Signs.length≤200:=by
  unfold Gf at h
  by_cases h1:((64:Int)<((l.Items.length:Nat):Int))
  ·rw[Ai1 h1]at h;cases h
  ·by_cases h2:((200:Int)<((l.Signs.length:Nat):Int))
   ·rw[Ai2 h1,Ai1 h2]at h;cases h
   ·omega
theorem lT (l:List Cv) (n:Int):Mc l n=some (match l.findIdx? (fun x=>decide (x.ID=n))with | some k=>(k:Int) | none=> -1):=by
  unfold Mc
  have key:∀ (l:List Cv) (k:Nat),Am (Fu n) k l ()=match l.findIdx? (fun x=>decide (x.ID=n))with | some j=>some (.ret ((j+k:Nat):Int)) | none=>some (.next ()):=by
    intro l
    induction l with
    | nil=>intro k;rfl
    | cons x l ih=>
      intro k
      rw[Am,List.findIdx?_cons]
      unfold Fu
      cases hx:decide (x.ID=n)with
      | true=>simp[Out.cont]
      | false=>
        rw[cond_false,Option.bind_some]
        show Am (Fu n) (k+1) l ()=_
        rw[ih (k+1)]
        cases l.findIdx? (fun x=>decide (x.ID=n))with
        | none=>rfl
        | some j=>simp;omega
  rw[key l 0]
  cases l.findIdx? (fun x=>decide (x.ID=n))with
  | none=>rfl
  | some j=>rfl
theorem tD (p:Ca) (h1:p.Bu.length≤1000) (h2:p.Hazards.length≤1000) (h3:∀ x∈p.Bu,x.List_.Items.length≤9223372036854775807∧x.List_.Signs.length≤9223372036854775807):Ag (N7 p) (H3 p):=by
  unfold N7 H3
  refine Ag.bif rfl (fun _=>Ag.some _) fun _=>?_
  refine Ag.bif rfl (fun _=>Ag.some _) fun _=>?_
  refine Ag.bind (Ag.Am fun i x s hx=>?_) fun o _ _=>Ag.on fun _ _=>?_
  ·have hi:=(List.getElem?_eq_some_iff.1 hx).1
   have hI:=qJ x.List_ (h3 x (Ai4 hx)).1 (h3 x (Ai4 hx)).2
   unfold Mo Hc
   refine Ag.bif rfl (fun _=>Ag.some _) fun _=>?_
   refine Ag.bif rfl (fun _=>Ag.some _) fun _=>?_
   refine Ag.bif rfl (fun h0=>?_) fun _=>?_
   ·obtain⟨y,hy,_⟩:=cQ hi (by have:=Ai0 h0;omega) (by omega)
    refine Ag.bind ⟨y,hy,hy⟩ fun y _ _=>?_
    refine Ag.bif rfl (fun _=>Ag.some _) fun _=>?_
    exact Ag.bind hI fun z _ _=>Ag.bif rfl (fun _=>Ag.some _) fun _=>Ag.some _
   ·exact Ag.bind hI fun z _ _=>Ag.bif rfl (fun _=>Ag.some _) fun _=>Ag.some _
  ·unfold Mn Nw
   refine Ag.bind (Ag.Am fun i x s hx=>?_) fun o _ _=>Ag.on fun _ _=>Ag.some _
   have hi:=(List.getElem?_eq_some_iff.1 hx).1
   have hat:Tot (Nv p x.Run):=by
     unfold Nv
     refine Tot.bind (Tot.Am fun i x s _=>?_) fun o _=>Tot.on fun _=>Tot.some _
     unfold M9
     exact Tot.bif (fun _=>Tot.some _) fun _=>Tot.some _
   unfold Mp Nx
   refine Ag.bif rfl (fun _=>Ag.some _) fun _=>?_
   refine Ag.bif rfl (fun _=>Ag.some _) fun _=>?_
   refine Ag.bif rfl (fun _=>Ag.some _) fun _=>?_
   refine Ag.bif rfl (fun _=>Ag.some _) fun _=>?_
   rw[Oz (by omega),lT,Option.bind_some]
   have hat2:Ag ((Ku p x.Run).bind fun y5=>(bif (decide (y5<(0:Int)))then some (Out.ret (8:Int))else some (Out.next ()))) ((Nv p x.Run).bind fun y6=>(bif (decide (y6<(0:Int)))then some (Out.ret (8:Int))else some (Out.next ()))):=
     Ag.bind (a:=Ku p x.Run) (b:=Nv p x.Run) (Ag.refl hat) fun z _ _=>Ag.bif rfl (fun _=>Ag.some _) fun _=>Ag.some _
   rcases W5 (step:=Kg p x) (n:=i) (s:=()) (by omega) (fun j _=>∀ y∈p.Hazards.take j,y.ID≠x.ID) (fun r=>r= .ret 7∧∃ y∈p.Hazards.take i,y.ID=x.ID) (by simp) (fun j s hj hI=>by
       have hy:p.Hazards[j]? =some (p.Hazards[j]'(by omega)):=Ai3 (by omega)
       generalize (p.Hazards[j]'(by omega))=y at hy
       unfold Kg
       rw[Qw rfl hy,Option.bind_some]
       by_cases e:y.ID=x.ID
       ·rw[Ai1 e]
        exact .inr ⟨_,rfl,rfl,y,Ai4 (by rw[List.getElem?_take,if_pos hj];exact hy),e⟩
       ·rw[Ai2 e]
        refine .inl ⟨_,rfl,fun z hz=>?_⟩
        rw[Bx hy,List.mem_append,List.mem_singleton]at hz
        rcases hz with hz | rfl
        ·exact hI z hz
        ·exact e)with ⟨s',e1,e2⟩ | ⟨r,e1,rfl,e2⟩
   ·have e3:(p.Hazards.take i).findIdx? (fun y=>decide (y.ID=x.ID))=none:=by
      rw[List.findIdx?_eq_none_iff];intro y hy;simpa using e2 y hy
    rw[e1,e3]
    exact hat2
   ·rw[e1]
    cases e3:(p.Hazards.take i).findIdx? (fun y=>decide (y.ID=x.ID))with
    | none=>
      rw[List.findIdx?_eq_none_iff]at e3
      obtain⟨y,hy,e⟩:=e2
      have:=e3 y hy;simp[e]at this
    | some j=>
      show Ag (bif decide ((0:Int)≤((j:Nat):Int))then _ else _) _
      rw[Ai1 (Int.natCast_nonneg j)]
      exact Ag.some _
theorem pL (l:List Cy) (hl:l.length≤1000):Ag (L0 l) (Pr l):=by
  refine Ag.m9 ?_ rfl
  unfold L0
  refine Tot.bif (fun _=>Tot.some _) fun _=>?_
  refine Tot.bind (Tot.Am fun i x s hx=>?_) fun o _=>Tot.on fun _=>Tot.some _
  have hi:=(List.getElem?_eq_some_iff.1 hx).1
  unfold K9
  repeat' first | exact Tot.some _ | (refine Tot.pred hi ‹_› (by omega) fun y=>?_) | refine Tot.bif (fun h0=>?_) (fun _=>?_)
theorem mA (l:List Int) (hl:l.length≤9223372036854775807):Tot (Ki l):=by
  unfold Ki
  refine Tot.bind (Tot.Am fun i x s hx=>?_) fun o _=>Tot.on fun _=>Tot.some _
  have hi:=(List.getElem?_eq_some_iff.1 hx).1
  unfold Hh
  repeat' first | exact Tot.some _ | (refine Tot.pred hi ‹_› (by omega) fun y=>?_) | refine Tot.bif (fun h0=>?_) (fun _=>?_)
def pE (b:Bp):Prop:=1≤b.Version∧b.Version≤1000000∧0≤b.Span.From∧b.Span.From<b.Span.To∧b.Span.To≤20000000∧0≤b.Low∧b.Low<b.High∧b.High≤6000∧1≤b.Level∧b.Level≤5
instance (b:Bp):Decidable (pE b):=by unfold pE;infer_instance
theorem w6 (b:Bp):Hn b=some (decide (pE b)):=by
  unfold Hn;simp only[bf,bt]
  congr 1
  rw[decide_eq_decide];unfold pE;omega
theorem jF (l:List Bp) (i:Nat) (x:Bp):Ei l i x ()=E2 l i x ():=by
  unfold Ei E2
  rw[w6,Option.bind_some]
  by_cases h:pE x
  ·obtain⟨h1,h2,h3,h4,h5,h6,h7,h8,h9,h10⟩:=id h
   rw[Ai1 h,Ai2 (p:=x.Version<1) (by omega),Ai2 (p:=(1000000:Int)<x.Version) (by omega),Ai2 (p:=x.Span.From<0) (by omega),Ai2 (p:=x.Span.To≤x.Span.From) (by omega),Ai2 (p:=(20000000:Int)<x.Span.To) (by omega),Ai2 (p:=x.Low<0) (by omega),Ai2 (p:=x.High≤x.Low) (by omega),Ai2 (p:=(6000:Int)<x.High) (by omega),Ai2 (p:=x.Level<1) (by omega),Ai2 (p:=(5:Int)<x.Level) (by omega)]
   rfl
  ·rw[Ai2 h]
   show some (Out.ret (2:Int))=_
   by_cases h1:x.Version<1
   ·rw[Ai1 h1];rfl
   rw[Ai2 h1]
   by_cases h2:(1000000:Int)<x.Version
   ·rw[Ai1 h2];rfl
   rw[Ai2 h2]
   by_cases h3:x.Span.From<0
   ·rw[Ai1 h3];rfl
   rw[Ai2 h3]
   by_cases h4:x.Span.To≤x.Span.From
   ·rw[Ai1 h4];rfl
   rw[Ai2 h4]
   by_cases h5:(20000000:Int)<x.Span.To
   ·rw[Ai1 h5];rfl
   rw[Ai2 h5]
   by_cases h6:x.Low<0
   ·rw[Ai1 h6];rfl
   rw[Ai2 h6]
   by_cases h7:x.High≤x.Low
   ·rw[Ai1 h7];rfl
   rw[Ai2 h7]
   by_cases h8:(6000:Int)<x.High
   ·rw[Ai1 h8];rfl
   rw[Ai2 h8]
   by_cases h9:x.Level<1
   ·rw[Ai1 h9];rfl
   rw[Ai2 h9]
   by_cases h10:(5:Int)<x.Level
   ·rw[Ai1 h10];rfl
   exact absurd ⟨by omega,by omega,by omega,by omega,by omega,by omega,by omega,by omega,by omega,by omega⟩ h
theorem oM (l:List Bp) (hl:l.length≤1000) (hz:∀ b∈l,b.Zones.length≤9223372036854775807):Ag (Ho l) (H6 l):=by
  refine Ag.m9 ?_ ?_
  ·unfold Ho
   refine Tot.bif (fun _=>Tot.some _) fun _=>?_
   refine Tot.bind (Tot.Am fun i x s hx=>?_) fun o _=>Tot.on fun _=>Tot.some _
   have hi:=(List.getElem?_eq_some_iff.1 hx).1
   unfold Ei
   rw[w6,Option.bind_some]
   refine Tot.bif (fun _=>Tot.some _) fun _=>?_
   refine Tot.bind (mA x.Zones (hz x (Ai4 hx))) fun y _=>?_
   refine Tot.bif (fun _=>Tot.some _) fun _=>?_
   refine Tot.bif (fun h0=>?_) fun _=>Tot.some _
   exact Tot.pred hi h0 (by omega) fun y=>Tot.bif (fun _=>Tot.some _) fun _=>Tot.some _
  ·unfold Ho H6
   have:Ei l=E2 l:=by funext i x s;exact jF l i x
   rw[this]
theorem lS (n lo hi:Int):L8 n lo hi=some (decide (lo≤n∧n≤hi)):=by unfold L8;exact in2
theorem x8 (n lo hi:Int):Kl n lo hi=some (decide (lo≤n∧n≤hi)):=by unfold Kl;exact in2
def kS (m:Bh):Prop:=1≤m.ID∧m.ID≤9999∧1≤m.Slide∧m.Slide≤9999∧1≤m.By∧m.By≤9999∧0≤m.State∧m.State≤6∧0≤m.Since∧m.Since≤20000000∧0≤m.Window.From∧m.Window.From<m.Window.To∧m.Window.To≤20000000
instance (m:Bh):Decidable (kS m):=by unfold kS;infer_instance
theorem zO (m:Bh):Mg m=some (decide (kS m)):=by
  unfold Mg;simp only[bf,bt]
  congr 1
  rw[decide_eq_decide];unfold kS;omega
theorem oO (m:Bh):O5 m=some (decide (0≤m.State∧m.State≤4)):=by
  unfold O5 Il Eu
  by_cases h0:m.State=0
  ·rw[Ai1 h0,Ai1 (p:=0≤m.State∧m.State≤4) (by omega)];rfl
  ·by_cases h1:m.State=1
   ·rw[Ai2 h0,Ai1 h1,Ai1 (p:=0≤m.State∧m.State≤4) (by omega)];rfl
   ·by_cases h2:m.State=2
    ·rw[Ai2 h0,Ai2 h1,Ai1 h2,Ai1 (p:=0≤m.State∧m.State≤4) (by omega)];rfl
    ·by_cases h3:m.State=3
     ·rw[Ai2 h0,Ai2 h1,Ai2 h2,Ai1 h3,Ai1 (p:=0≤m.State∧m.State≤4) (by omega)];rfl
     ·by_cases h4:m.State=4
      ·rw[Ai2 h0,Ai2 h1,Ai2 h2,Ai2 h3,Ai1 h4,Ai1 (p:=0≤m.State∧m.State≤4) (by omega)];rfl
      ·rw[Ai2 h0,Ai2 h1,Ai2 h2,Ai2 h3,Ai2 h4,Ai2 (p:=0≤m.State∧m.State≤4) (by omega)];rfl
theorem fO (m:Bh):Mz m=some (decide (0≤m.State∧m.State≤4)):=by unfold Mz;rw[lS];rfl
def opn (m:Bh):Bool:=decide (0≤m.State∧m.State≤4)
theorem u9 (l:List Bh) (s:Int):Pq l s=some (l.any fun x=>opn x&&decide (x.Slide=s)):=by
  unfold Pq
  rw[Fq (fun x=>opn x&&decide (x.Slide=s)) (fun _=>true) (fun k x _=>by
   unfold Ny;rw[fO,Option.bind_some];show(bif opn x then _ else _)=_
   cases opn x<;>cases decide (x.Slide=s)<;>rfl)]
  cases h:l.find? (fun x=>opn x&&decide (x.Slide=s))with
  | none=>
    have:(l.any fun x=>opn x&&decide (x.Slide=s))=false:=by
      rw[List.any_eq_false];rw[List.find?_eq_none]at h;exact h
    rw[this];rfl
  | some x=>
    have:(l.any fun x=>opn x&&decide (x.Slide=s))=true:=by
      rw[List.any_eq_true];exact⟨x,List.mem_of_find?_eq_some h,List.find?_some (p:=fun x=>opn x&&decide (x.Slide=s)) h⟩
    rw[this];rfl
theorem qX (l:List Bh) (i:Nat) (x:Bh) (hi:i<l.length) (hl:l.length≤1000) :
    ((J0 (Hr l i x) i ()).bind fun o4=>o4.on fun s4=>some (Out.next ()))=(some (bif opn x&&((l.take i).any fun y=>opn y&&decide (y.Slide=x.Slide))then Out.ret (15:Int)else Out.next ()):Option (Out Unit Int)):=by
  rcases W5 (step:=Hr l i x) (n:=i) (s:=()) (by omega) (fun j _=>∀ y∈l.take j,¬ (opn x=true∧opn y=true∧y.Slide=x.Slide)) (fun r=>r= .ret 15∧∃ y∈l.take i,opn x=true∧opn y=true∧y.Slide=x.Slide) (by simp) (fun j s hj hI=>by
      have hy:l[j]? =some (l[j]'(by omega)):=Ai3 (by omega)
      generalize (l[j]'(by omega))=y at hy
      have hyt:(l.take i)[j]? =some y:=by rw[List.getElem?_take,if_pos hj];exact hy
      unfold Hr
      rw[Qw rfl hyt,Option.bind_some,oO,oO,Option.bind_some,Option.bind_some]
      show(∃ s',(bif opn x then bif opn y then _ else _ else _)=_∧_)∨(∃ r,(bif opn x then bif opn y then _ else _ else _)=_∧_)
      by_cases e:opn x=true∧opn y=true∧y.Slide=x.Slide
      ·rw[e.1,e.2.1,Ai1 e.2.2]
       exact .inr ⟨_,rfl,rfl,y,Ai4 hyt,e.1 ▸ e⟩
      ·refine .inl ⟨(),?_,fun z hz=>?_⟩
       ·cases h1:opn x with
        | false=>rfl
        | true=>
          cases h2:opn y with
          | false=>rfl
          | true=>rw[Ai2 (fun h3=>e ⟨h1,h2,h3⟩)];rfl
       ·rw[Bx hy,List.mem_append,List.mem_singleton]at hz
        rcases hz with hz | rfl
        ·exact hI z hz
        ·exact e)with ⟨s',e1,e2⟩ | ⟨r,e1,rfl,y,hy,e2,e3,e4⟩
  ·rw[e1]
   have:(opn x&&((l.take i).any fun y=>opn y&&decide (y.Slide=x.Slide)))=false:=by
     rw[Bool.and_eq_false_iff]
     by_cases hx:opn x=true
     ·right
      rw[List.any_eq_false]
      intro y hy h
      simp at h
      exact e2 y hy ⟨hx,h.1,h.2⟩
     ·left;simpa using hx
   rw[this];rfl
  ·rw[e1]
   have:(opn x&&((l.take i).any fun y=>opn y&&decide (y.Slide=x.Slide)))=true:=by
     rw[Bool.and_eq_true]
     exact⟨e2,List.any_eq_true.2 ⟨y,hy,by simp[e3,e4]⟩⟩
   rw[this];rfl
theorem tU (l:List Bh) (n:Int):Tot (Na l n):=by
  unfold Na
  refine Tot.bind (Tot.Am fun i x s _=>?_) fun o _=>Tot.on fun _=>Tot.some _
  unfold Nz
  exact Tot.bif (fun _=>Tot.some _) fun _=>Tot.some _
theorem w7 (l:List Bh) (hl:l.length≤1000):Ag (P4 l) (H5 l):=by
  unfold P4 H5
  refine Ag.bif rfl (fun _=>Ag.some _) fun _=>?_
  refine Ag.bind (Ag.Am fun i x s hx=>?_) fun o _ _=>Ag.on fun _ _=>Ag.some _
  have hi:=(List.getElem?_eq_some_iff.1 hx).1
  unfold Oi He
  simp only[zO,lS,Option.bind_some]
  rw[sD (x:=x.Window.From),yO (x:=x.Window.To),sD (y:=x.Window.To)]
  simp only[ba]
  rw[show decide (kS x)=decide ((1≤x.ID∧x.ID≤9999)∧(1≤x.Slide∧x.Slide≤9999)∧(1≤x.By∧x.By≤9999)∧(0≤x.State∧x.State≤6)∧(0≤x.Since∧x.Since≤20000000)∧0≤x.Window.From∧x.Window.From<x.Window.To∧x.Window.To≤20000000) from by rw[decide_eq_decide];unfold kS;omega]
  refine Ag.bif rfl (fun _=>Ag.some _) fun _=>?_
  have ho:∀ {α:Type} (o:Option α),okB (decide ((0:Int)≤((i:Nat):Int)∧((i:Nat):Int)≤((l.length:Nat):Int))) o=o:=fun o=>Oz (by omega)
  simp only[ho]
  refine Ag.bind (a:=Vh (l.take i) x.ID) (b:=Na (l.take i) x.ID) (Ag.refl (tU _ _)) fun y _ _=>?_
  refine Ag.bif rfl (fun _=>Ag.some _) fun _=>?_
  rw[qX l i x hi hl,fO,Option.bind_some]
  show Ag _ (bif opn x then _ else _)
  cases h:opn x with
  | false=>exact Ag.some _
  | true=>
    rw[cond_true,u9,Option.bind_some,Bool.true_and]
    cases((l.take i).any fun y=>opn y&&decide (y.Slide=x.Slide))<;>exact Ag.some _
def kV (g:B5):Prop:=1≤g.ID∧g.ID≤9999∧1≤g.Node∧g.Node≤9999∧0≤g.Fuel∧g.Fuel≤1000000∧0≤g.State∧g.State≤2∧0≤g.Until∧g.Until≤20000000∧0≤g.To∧g.To≤9999∧0≤g.Run∧g.Run≤9999
instance (m:B5):Decidable (kV m):=by unfold kV;infer_instance
theorem zS (m:B5):I6 m=some (decide (kV m)):=by
  unfold I6;simp only[bf,bt]
  congr 1
  rw[decide_eq_decide];unfold kV;omega
theorem nO (l:List B5) (n:Int):∃ r,Pt l n=some r∧(0≤r↔∃ x∈l,x.ID=n):=by
  unfold Pt
  rcases Fe (step:=Kk n) (l:=l) (s:=()) (fun k _=>∀ x∈l.take k,x.ID≠n) (fun r=>0≤r∧∃ x∈l,x.ID=n) (by simp) (fun k x s hk hI=>by
      unfold Kk
      by_cases e:x.ID=n
      ·rw[Ai1 e];exact .inr ⟨_,rfl,by omega,x,Ai4 hk,e⟩
      ·rw[Ai2 e]
       refine .inl ⟨_,rfl,fun z hz=>?_⟩
       rw[Bx hk,List.mem_append,List.mem_singleton]at hz
       rcases hz with hz | rfl
       ·exact hI z hz
       ·exact e)with ⟨s',e1,e2⟩ | ⟨r,e1,e2,e3⟩
  ·rw[List.take_length]at e2
   rw[e1]
   exact⟨_,rfl,by constructor
                  ·intro h;exact absurd h (by decide)
                  ·rintro⟨x,hx,e⟩;exact absurd e (e2 x hx)⟩
  ·rw[e1];exact⟨r,rfl,fun _=>e3,fun _=>e2⟩
theorem qN (l:List B5) (hl:l.length≤1000):Ag (Md l) (Nd l):=by
  unfold Md Nd
  refine Ag.bif rfl (fun _=>Ag.some _) fun _=>?_
  have key:=kG (step:=Hk) (step':=Km l) l (fun k sv _=>∀ n,mget false sv n=decide (∃ x∈l.take k,x.ID=n)) (fun i x sv t hx hR=>by
    have hi:=(List.getElem?_eq_some_iff.1 hx).1
    unfold Hk Km
    simp only[zS,x8,Option.bind_some,ba]
    rw[show decide (kV x)=decide ((1≤x.ID∧x.ID≤9999)∧(1≤x.Node∧x.Node≤9999)∧(0≤x.Fuel∧x.Fuel≤1000000)∧(0≤x.State∧x.State≤2)∧(0≤x.Until∧x.Until≤20000000)∧(0≤x.To∧x.To≤9999)∧0≤x.Run∧x.Run≤9999) from by rw[decide_eq_decide];unfold kV;omega]
    rw[Oz (by omega)]
    obtain⟨r,h1,h2⟩:=nO (l.take i) x.ID
    rw[h1,Option.bind_some,hR,show decide ((0:Int)≤r)=decide (∃ y∈l.take i,y.ID=x.ID) from by rw[decide_eq_decide];exact h2]
    generalize (!decide ((1≤x.ID∧x.ID≤9999)∧(1≤x.Node∧x.Node≤9999)∧(0≤x.Fuel∧x.Fuel≤1000000)∧(0≤x.State∧x.State≤2)∧(0≤x.Until∧x.Until≤20000000)∧(0≤x.To∧x.To≤9999)∧0≤x.Run∧x.Run≤9999))=b1
    generalize hb2:decide (∃ y∈l.take i,y.ID=x.ID)=b2
    generalize (decide (x.To≠0) !=decide (x.State=1))=b3
    generalize (decide (x.Run≠0) !=decide (x.State=2))=b4
    cases b1 with
    | true=>exact .inr ⟨_,rfl,rfl⟩
    | false=>
      cases b2 with
      | true=>exact .inr ⟨_,rfl,rfl⟩
      | false=>
        cases b3 with
        | true=>exact .inr ⟨_,rfl,rfl⟩
        | false=>
          cases b4 with
          | true=>exact .inr ⟨_,rfl,rfl⟩
          | false=>
            refine .inl ⟨_,_,rfl,rfl,fun n=>?_⟩
            rw[X2,hR]
            by_cases e:x.ID=n
            ·subst e
             rw[if_pos rfl,eq_comm,decide_eq_true_iff]
             exact⟨x,by rw[Bx hx];simp,rfl⟩
            ·rw[if_neg e,decide_eq_decide,Bx hx]
             constructor
             ·rintro⟨y,hy,e'⟩;exact⟨y,List.mem_append_left _ hy,e'⟩
             ·rintro⟨y,hy,e'⟩
              rw[List.mem_append,List.mem_singleton]at hy
              rcases hy with hy | rfl
              ·exact⟨y,hy,e'⟩
              ·exact absurd e' e) l.length 0 [] () rfl (Nat.zero_le _) (fun n=>by simp[mget])
  rw[List.drop_zero]at key
  rcases key with⟨s',t',h1,h2,_⟩ | ⟨r,h1,h2⟩
  ·rw[h1,h2];exact Ag.some _
  ·rw[h1,h2];exact Ag.some _
theorem zJ (m:Bb):fJ m=Lz m:=rfl
theorem zP (m:Bb):Ag (Lz m) (H7 m):=by
  obtain⟨r,h1,h2,_⟩:=Wd m
  exact⟨r,by rw[← zJ];exact h1,h2⟩
theorem Sh (m:Bb) (id:Int):E0 m id=some (Jz m id):=W6 fun _ _ _=>rfl
theorem Xw (m:Bb) (id:Int):Jc m id=some (Jz m id):=W6 fun _ _ _=>rfl
theorem u7 (m:Bb) (id:Int):Nq m id=some (Aav m id):=W6 fun _ _ _=>rfl
theorem u6 (m:Bb) (id:Int):Dx m id=some (Cx m id):=W6 fun _ _ _=>rfl
structure rJ (f:Aj):Prop where
  closures:f.Closures.length≤12
  lists:f.Patrol.Bu.length≤12
  hazards:f.Patrol.Hazards.length≤12
  surfaces:f.Surfaces.length≤12
  slides:f.Slides.length≤12
  bulletin:f.Bulletin.length≤12
  missions:f.Missions.length≤12
  winches:f.Winches.length≤12
  groomers:f.Groomers.length≤12
structure uX (f:Aj):Prop where
  items:∀ x∈f.Patrol.Bu,x.List_.Items.length≤9223372036854775807∧x.List_.Signs.length≤9223372036854775807
  zones:∀ x∈f.Slides,x.Zones.length≤9223372036854775807∧x.Lifts.length≤9223372036854775807
  bzones:∀ x∈f.Bulletin,x.Zones.length≤9223372036854775807
  runs:∀ x∈f.Winches,x.Runs.length≤9223372036854775807
theorem vP (f:Aj) (h:rJ f) (hi:uX f):Ag (E5 f) (Kb f):=by
  obtain⟨y1,a1,b1⟩:=zP f.Map
  obtain⟨y2,a2,b2⟩:=qT f.Closures (by have:=h.closures;omega)
  obtain⟨y3,a3,b3⟩:=tD f.Patrol (by have:=h.lists;omega) (by have:=h.hazards;omega) (fun x hx=>by have:=hi.items x hx;omega)
  obtain⟨y4,a4,b4⟩:=pL f.Surfaces (by have:=h.surfaces;omega)
  obtain⟨y5,a5,b5,_⟩:=S50.Wd f.Slides ⟨by have:=h.slides;omega,hi.zones⟩
  obtain⟨y6,a6,b6⟩:=oM f.Bulletin (by have:=h.bulletin;omega) hi.bzones
  obtain⟨y7,a7,b7⟩:=w7 f.Missions (by have:=h.missions;omega)
  obtain⟨y8,b8,a8,_⟩:=W46.mN hi.runs
  obtain⟨y9,a9,b9⟩:=qN f.Groomers (by have:=h.groomers;omega)
  unfold E5 Kb
  simp only[a1,a2,a3,a4,a5,a6,a7,a8,a9,b1,b2,b3,b4,b5,b6,b7,b8,b9,Option.bind_some]
  have st:∀ (k:Nat) y,[y1,y2,y3,y4,y5,y6,y7,y8,y9][k]? =some y→∀ s:Unit,Fy y1 y2 y3 y4 y5 y6 y7 y8 y9 k () s=(bif decide (y≠0)then some (Out.ret y)else some (Out.next ())):=by
    intro k y hk s
    unfold Fy
    rw[Qw rfl hk];rfl
  unfold J0
  rw[if_pos (by decide),show List.replicate 9 ()=[(),(),(),(),(),(),(),(),()] from rfl]
  simp only[Am,Nat.zero_add,Nat.reduceAdd]
  simp only[st 0 y1 rfl,st 1 y2 rfl,st 2 y3 rfl,st 3 y4 rfl,st 4 y5 rfl,st 5 y6 rfl,st 6 y7 rfl,st 7 y8 rfl,st 8 y9 rfl]
  by_cases e9:y9=0
  ·subst e9
   cases decide (y1≠0)
   rotate_left
   ·exact⟨_,rfl,rfl⟩
   cases decide (y2≠0)
   rotate_left
   ·exact⟨_,rfl,rfl⟩
   cases decide (y3≠0)
   rotate_left
   ·exact⟨_,rfl,rfl⟩
   cases decide (y4≠0)
   rotate_left
   ·exact⟨_,rfl,rfl⟩
   cases decide (y5≠0)
   rotate_left
   ·exact⟨_,rfl,rfl⟩
   cases decide (y6≠0)
   rotate_left
   ·exact⟨_,rfl,rfl⟩
   cases decide (y7≠0)
   rotate_left
   ·exact⟨_,rfl,rfl⟩
   cases decide (y8≠0)
   rotate_left
   ·exact⟨_,rfl,rfl⟩
   exact⟨_,rfl,rfl⟩
  ·rw[Ai1 (p:=y9≠0) e9]
   cases decide (y1≠0)
   rotate_left
   ·exact⟨_,rfl,rfl⟩
   cases decide (y2≠0)
   rotate_left
   ·exact⟨_,rfl,rfl⟩
   cases decide (y3≠0)
   rotate_left
   ·exact⟨_,rfl,rfl⟩
   cases decide (y4≠0)
   rotate_left
   ·exact⟨_,rfl,rfl⟩
   cases decide (y5≠0)
   rotate_left
   ·exact⟨_,rfl,rfl⟩
   cases decide (y6≠0)
   rotate_left
   ·exact⟨_,rfl,rfl⟩
   cases decide (y7≠0)
   rotate_left
   ·exact⟨_,rfl,rfl⟩
   cases decide (y8≠0)
   rotate_left
   ·exact⟨_,rfl,rfl⟩
   exact⟨_,rfl,rfl⟩
theorem j0 (p:Fm):J7 p=Kn p:=rfl
theorem lI (p:Fm):Kn p=some (decide ((0≤p.Natural∧p.Natural≤20000)∧(0≤p.Machine∧p.Machine≤20000)∧50≤p.Density∧p.Density≤900)):=by
  unfold Kn Ue
  simp only[bt,Option.bind_some]
theorem kF (f:Aj) (h:rJ f) (hi:uX f) (h1:f.Lifts.length≤100) (h2:f.Packs.length≤100) (h3:f.Status.length≤100):Ag (Gc f) (H0 f):=by
  unfold Gc H0
  refine Ag.bind (vP f h hi) fun y _ _=>?_
  refine Ag.bif rfl (fun _=>Ag.some _) fun _=>?_
  refine Ag.bif rfl (fun _=>Ag.some _) fun _=>?_
  refine Ag.bif rfl (fun _=>Ag.some _) fun _=>?_
  refine Ag.bif rfl (fun _=>Ag.some _) fun _=>?_
  unfold Gj
  rw[pM (Di.Am fun i x s=>by
   unfold D6
   repeat' first | exact Di.ret (by decide) | exact Di.next _ | refine Di.bif (fun _=>?_) (fun _=>?_) | refine Di.bind fun _ _=>?_)]
  refine Ag.bind (Ag.Am fun i x s hx=>?_) fun o _ _=>Ag.on fun _ _=>?_
  ·have hi':=(List.getElem?_eq_some_iff.1 hx).1
   refine Ag.m9 ?_ rfl
   unfold D6
   rw[u7,Option.bind_some]
   repeat' first | exact Tot.some _ | (refine Tot.pred hi' ‹_› (by omega) fun y=>?_) | refine Tot.bif (fun h0=>?_) (fun _=>?_)
  unfold Gi Kd
  rw[pM (Di.Am fun i x s=>by
   unfold D5
   repeat' first | exact Di.ret (by decide) | exact Di.next _ | refine Di.bif (fun _=>?_) (fun _=>?_) | refine Di.bind fun _ _=>?_)]
  refine Ag.bind (Ag.Am fun i x s hx=>?_) fun o _ _=>Ag.on fun _ _=>?_
  ·have hi':=(List.getElem?_eq_some_iff.1 hx).1
   refine Ag.m9 ?_ rfl
   unfold D5
   rw[j0,lI,Option.bind_some]
   repeat' first | exact Tot.some _ | (refine Tot.pred hi' ‹_› (by omega) fun y=>?_) | refine Tot.bif (fun h0=>?_) (fun _=>?_)
  unfold F9 Kc
  rw[pM (Di.Am fun i x s=>by
   unfold Dw
   repeat' first | exact Di.ret (by decide) | exact Di.next _ | refine Di.bif (fun _=>?_) (fun _=>?_) | refine Di.bind fun _ _=>?_)]
  refine Ag.bind (Ag.Am fun i x s hx=>?_) fun o _ _=>Ag.on fun _ _=>?_
  ·have hi':=(List.getElem?_eq_some_iff.1 hx).1
   refine Ag.m9 ?_ rfl
   unfold Dw
   rw[Sh,Option.bind_some]
   repeat' first | exact Tot.some _ | (refine Tot.pred hi' ‹_› (by omega) fun y=>?_) | refine Tot.bif (fun h0=>?_) (fun _=>?_)
  refine Ag.refl ?_
  repeat' first | exact Tot.some _ | refine Tot.bif (fun h0=>?_) (fun _=>?_)
def stp (L:List Int→Int→Bool) (s:List Int):List Int:=s.filter (L s)
def iter (L:List Int→Int→Bool):Nat→List Int→List Int
  | 0,s=>s
  | n+1,s=>iter L n (stp L s)
section
variable {L:List Int→Int→Bool}
theorem eY (s:List Int):(stp L s).Sublist s:=List.filter_sublist
theorem rP {s:List Int} (h:(stp L s).length=s.length):stp L s=s:=(eY s).eq_of_length h
theorem Wu {s:List Int} (h:stp L s=s):∀ n,iter L n s=s
  | 0=>rfl
  | n+1=>by rw[iter,h];exact Wu h n
theorem St:∀ (n:Nat) (s:List Int),s.length≤n→stp L (iter L n s)=iter L n s
  | 0,s,h=>by
    have:s=[]:=List.eq_nil_of_length_eq_zero (by omega)
    subst this;rfl
  | n+1,s,h=>by
    by_cases e:stp L s=s
    ·rw[Wu e];exact e
    ·have h1:=(eY (L:=L) s).length_le
     have h2:(stp L s).length≠s.length:=fun h=>e (rP h)
     exact St n _ (by omega)
theorem gO:∀ (n m:Nat) (s:List Int),iter L (n+m) s=iter L m (iter L n s)
  | 0,m,s=>by rw[Nat.zero_add];rfl
  | n+1,m,s=>by rw[Nat.succ_add];exact gO n m _
theorem iter_eq {s:List Int} {n m:Nat} (hn:stp L (iter L n s)=iter L n s) (hm:stp L (iter L m s)=iter L m s):iter L n s=iter L m s:=by
  have h1:=Wu hn m
  have h2:=Wu hm n
  rw[← gO]at h1 h2
  rw[← h1,Nat.add_comm,h2]
theorem gN:∀ (n:Nat) (s:List Int),(iter L n s).Sublist s
  | 0,s=>List.Sublist.refl _
  | n+1,s=>(gN n _).trans (eY s)
def gfp (L:List Int→Int→Bool) (s:List Int):List Int:=iter L s.length s
theorem gV (s:List Int):stp L (gfp L s)=gfp L s:=St _ _ (Nat.le_refl _)
theorem r6 (s:List Int):(gfp L s).Sublist s:=gN _ _
theorem wM {s:List Int} {r:Int} (h:r∈gfp L s):L (gfp L s) r=true:=by
  have h':r∈stp L (gfp L s):=by rw[gV];exact h
  exact(List.mem_filter.1 h').2
theorem dV {s:List Int} {n:Nat} (h:stp L (iter L n s)=iter L n s):iter L n s=gfp L s:=iter_eq h (gV s)
end
theorem Up {α:Type} {step:Nat→α→Unit→Option (Out Unit Bool)} {l:List α} (p:α→Bool) (hs:∀ k x,x∈l→step k x ()=bif p x then some (.ret true)else some (.next ())) :
    ((Am step 0 l ()).bind fun o=>o.on fun _=>some false)=some (l.any p):=by
  rw[Fq p (fun _=>true) hs]
  cases h:l.find? p with
  | none=>
    have:l.any p=false:=by rw[List.any_eq_false];rw[List.find?_eq_none]at h;exact h
    rw[this];rfl
  | some x=>
    have:l.any p=true:=by rw[List.any_eq_true];exact⟨x,List.mem_of_find?_eq_some h,List.find?_some h⟩
    rw[this];rfl
theorem rZ {α:Type} {step:Nat→α→Unit→Option (Out Unit Int)} {l:List α} (p:α→Bool) (hs:∀ k x,x∈l→step k x ()=bif p x then some (.ret ((k:Nat):Int))else some (.next ())) :
    ∃ r,((Am step 0 l ()).bind fun o=>o.on fun _=>some (-1:Int))=some r∧((r= -1∧∀ x∈l,p x=false)∨∃ (k:Nat) (x:α),r=(k:Int)∧l[k]? =some x∧p x=true):=by
  rcases Fe (step:=step) (l:=l) (s:=()) (fun k _=>∀ x∈l.take k,p x=false) (fun r=>∃ (k:Nat) (x:α),r=(k:Int)∧l[k]? =some x∧p x=true) (by simp) (fun k x s hk hI=>by
      rw[hs k x (Ai4 hk)]
      cases h:p x with
      | true=>exact .inr ⟨_,rfl,k,x,rfl,hk,h⟩
      | false=>
        refine .inl ⟨_,rfl,fun z hz=>?_⟩
        rw[Bx hk,List.mem_append,List.mem_singleton]at hz
        rcases hz with hz | rfl
        ·exact hI z hz
        ·exact h)with ⟨s',e1,e2⟩ | ⟨r,e1,e2⟩
  ·rw[List.take_length]at e2
   rw[e1];exact⟨_,rfl,.inl ⟨rfl,e2⟩⟩
  ·rw[e1];exact⟨r,rfl,.inr e2⟩
def clo (l:List Bl) (kind target:Int):Bool:=l.any fun c=>decide (c.Kind=kind)&&decide (c.Target=target)
theorem kN (l:List Bl) (kind target:Int):Hm l kind target=some (clo l kind target):=by
  unfold Hm clo
  refine Up _ fun k x _=>?_
  unfold Jv
  rw[Ai1 (Int.natCast_nonneg k)]
  cases decide (x.Kind=kind)<;>cases decide (x.Target=target)<;>rfl
theorem pZ (l:List Bl) (a b c:Int):∃ r,Fp l a b c=some r∧(0≤r↔∃ x∈l,x.Kind=a∧x.Target=b∧x.By=c):=by
  unfold Fp
  obtain⟨r,h1,h2⟩:=rZ (step:=E1 a b c) (l:=l) (fun x=>decide (x.Kind=a)&&(decide (x.Target=b)&&decide (x.By=c))) (fun k x _=>by
    unfold E1
    cases decide (x.Kind=a)<;>cases decide (x.Target=b)<;>cases decide (x.By=c)<;>rfl)
  refine⟨r,h1,?_⟩
  rcases h2 with⟨rfl,h2⟩ | ⟨k,x,rfl,h3,h4⟩
  ·constructor
   ·intro h;exact absurd h (by decide)
   ·rintro⟨x,hx,e1,e2,e3⟩
    have:=h2 x hx
    simp[e1,e2,e3]at this
  ·simp at h4
   exact⟨fun _=>⟨x,Ai4 h3,h4.1,h4.2.1,h4.2.2⟩,fun _=>Int.natCast_nonneg k⟩
theorem of_eq {l:List Bl} (hb:∀ c∈l,1≤c.By∧c.By≤6) (kind target:Int):∃ r,Z5 l kind target=some r∧decide ((0:Int)<((r.length:Nat):Int))=clo l kind target:=by
  unfold Z5
  obtain⟨s',h1,h2,h3⟩:=aH (ρ:=List Int) (n:=6) (step:=Wi l kind target) (s:=[]) (by omega) (fun k s=>s.length≤k∧(s≠[]↔∃ x∈l,x.Kind=kind∧x.Target=target∧x.By≤k)) ⟨by simp,by
      constructor
      ·intro h;exact absurd rfl h
      ·rintro⟨x,hx,_,_,h⟩;have:=(hb x hx).1;omega⟩ (fun k s hk ⟨hI1,hI2⟩=>by
    obtain⟨r,h1,h2⟩:=pZ l kind target (((k:Nat):Int)+1)
    unfold Wi
    rw[h1,Option.bind_some]
    by_cases h:0≤r
    ·rw[Ai1 h,cond_true,Ci (by omega)]
     refine⟨_,rfl,by simp;omega,?_⟩
     obtain⟨x,hx,e1,e2,e3⟩:=h2.1 h
     exact⟨fun _=>⟨x,hx,e1,e2,by rw[e3];omega⟩,fun _=>by simp⟩
    ·rw[Ai2 h]
     refine⟨_,rfl,by omega,?_⟩
     rw[hI2]
     constructor
     ·rintro⟨x,hx,e1,e2,e3⟩;exact⟨x,hx,e1,e2,by omega⟩
     ·rintro⟨x,hx,e1,e2,e3⟩
      refine⟨x,hx,e1,e2,?_⟩
      by_cases e:x.By=(k:Int)+1
      ·exact absurd (h2.2 ⟨x,hx,e1,e2,e⟩) h
      ·omega)
  rw[h1]
  refine⟨s',rfl,?_⟩
  have:(0:Int)<((s'.length:Nat):Int)↔s'≠[]:=by
    constructor
    ·intro h e;subst e;simp at h
    ·intro h;have:=List.length_pos_iff.2 h;omega
  unfold clo
  rw[Bool.eq_iff_iff,decide_eq_true_iff,this,h3,List.any_eq_true]
  constructor
  ·rintro⟨x,hx,e1,e2,_⟩;exact⟨x,hx,by simp[e1,e2]⟩
  ·rintro⟨x,hx,e⟩;simp at e;exact⟨x,hx,e.1,e.2,(hb x hx).2⟩
theorem yJ (m:Bb) (l:List Bl) (run:Int) (h:(Jz m run).2=true):P3 m l run=some (clo l 1 run||clo l 3 (Jz m run).1.Zone):=by
  unfold P3
  rw[Sh,Option.bind_some,h,cond_true,kN,kN,Option.bind_some]
  cases clo l 1 run<;>rfl
theorem vM {m:Bb} {l:List Bl} (hb:∀ c∈l,1≤c.By∧c.By≤6) (run:Int) (h:(Jz m run).2=true):bO m l run=some (clo l 1 run||clo l 3 (Jz m run).1.Zone):=by
  obtain⟨r1,h1,h2⟩:=of_eq hb 1 run
  obtain⟨r3,h3,h4⟩:=of_eq hb 3 (Jz m run).1.Zone
  unfold bO
  rw[Xw,Option.bind_some,h,cond_true,h1,Option.bind_some,h2,h3,Option.bind_some,h4]
  cases clo l 1 run<;>rfl
def gon (l:List B5) (run:Int):Bool:=l.any fun g=>decide (g.State=2)&&decide (g.Run=run)
theorem zT (l:List B5) (run:Int):R1 l run=some (gon l run):=by
  unfold R1 gon
  refine Up _ fun k x _=>?_
  unfold Pj
  rw[Ai1 (Int.natCast_nonneg k)]
  cases decide (x.State=2)<;>cases decide (x.Run=run)<;>rfl
theorem xS (l:List B5) (run:Int):fW l run=some (gon l run):=by
  unfold fW gon
  refine Up _ fun k x _=>?_
  unfold dT
  cases decide (x.State=2)<;>cases decide (x.Run=run)<;>rfl
theorem Wc (l:List Int) (n:Int):Fz l n=some (decide (n∈l)):=Wx fun k x hx=>rfl
def act (m:Bh):Bool:=decide (1≤m.State∧m.State≤4)
theorem Aab (m:Bh):Il m=some (act m):=by
  unfold Il Eu act
  by_cases h1:m.State=1
  ·rw[Ai1 h1,Ai1 (p:=1≤m.State∧m.State≤4) (by omega)];rfl
  ·by_cases h2:m.State=2
   ·rw[Ai2 h1,Ai1 h2,Ai1 (p:=1≤m.State∧m.State≤4) (by omega)];rfl
   ·by_cases h3:m.State=3
    ·rw[Ai2 h1,Ai2 h2,Ai1 h3,Ai1 (p:=1≤m.State∧m.State≤4) (by omega)];rfl
    ·by_cases h4:m.State=4
     ·rw[Ai2 h1,Ai2 h2,Ai2 h3,Ai1 h4,Ai1 (p:=1≤m.State∧m.State≤4) (by omega)];rfl
     ·rw[Ai2 h1,Ai2 h2,Ai2 h3,Ai2 h4,Ai2 (p:=1≤m.State∧m.State≤4) (by omega)];rfl
def acts (l:List Bh):List Int:=(l.filter act).map Bh.Slide
theorem qZ {l:List Bh} (hl:l.length≤1000):Lr l=some (Dc (acts l)):=by
  unfold Lr
  rw[C4 (p:=act) (g:=Bh.Slide) (by omega) (fun k x s _=>by unfold Ms;rw[Aab,Option.bind_some])]
  show chk (acts l).length _=_
  rw[Ci (by have:=List.length_filter_le act l;unfold acts;rw[List.length_map];omega)];rfl
theorem lG (l:List Bh) (last:Int) (h0:0≤last) (hr:∀ m∈l,1≤m.Slide):∃ s,Am (Ml last) 0 l 0=some (.next s)∧((s=0∧∀ n∈acts l,n≤last)∨(s∈acts l∧last<s∧∀ n∈acts l,last<n→s≤n)):=by
  obtain⟨s',h1,h2⟩:=Dt (ρ:=Out (Int×List Int) (List Int)) (step:=Ml last) (l:=l) (s:=0) (fun k s=>(s=0∧∀ n∈acts (l.take k),n≤last)∨(s∈acts (l.take k)∧last<s∧∀ n∈acts (l.take k),last<n→s≤n)) (.inl ⟨rfl,by simp[acts]⟩) (fun k x s hk hI=>by
    have hx:=Ai4 hk
    have hx1:=hr x hx
    have e:acts (l.take (k+1))=acts (l.take k)++(if act x=true then [x.Slide]else []):=by
      unfold acts;rw[Bx hk,List.filter_append,List.map_append]
      cases h:act x<;>simp[h]
    unfold Ml
    rw[fO,Option.bind_some,e]
    by_cases ha:1≤x.State∧x.State≤4
    ·have hact:act x=true:=Ai1 ha
     rw[Ai1 (p:=0≤x.State∧x.State≤4) (by omega),Ai1 (p:=x.State≠0) (by omega),if_pos hact]
     simp only[cond_true]
     by_cases hl:last<x.Slide
     ·rw[Ai1 hl,cond_true]
      by_cases hs:s=0
      ·rw[Ai1 hs]
       refine⟨_,rfl,.inr ⟨by simp,hl,fun n hn hln=>?_⟩⟩
       rcases hI with⟨_,hI⟩ | ⟨hI1,hI2,_⟩
       ·rw[List.mem_append,List.mem_singleton]at hn
        rcases hn with hn | rfl
        ·have:=hI n hn;omega
        ·exact Int.le_refl _
       ·omega
      ·rw[Ai2 hs,cond_false]
       rcases hI with⟨h,_⟩ | ⟨hI1,hI2,hI3⟩
       ·exact absurd h hs
       by_cases hlt:x.Slide<s
       ·rw[Ai1 hlt]
        refine⟨_,rfl,.inr ⟨by simp,hl,fun n hn hln=>?_⟩⟩
        rw[List.mem_append,List.mem_singleton]at hn
        rcases hn with hn | rfl
        ·have:=hI3 n hn hln;omega
        ·exact Int.le_refl _
       ·rw[Ai2 hlt]
        refine⟨_,rfl,.inr ⟨List.mem_append_left _ hI1,hI2,fun n hn hln=>?_⟩⟩
        rw[List.mem_append,List.mem_singleton]at hn
        rcases hn with hn | rfl
        ·exact hI3 n hn hln
        ·omega
     ·rw[Ai2 hl]
      refine⟨_,rfl,?_⟩
      rcases hI with⟨h,hI⟩ | ⟨hI1,hI2,hI3⟩
      ·refine .inl ⟨h,fun n hn=>?_⟩
       rw[List.mem_append,List.mem_singleton]at hn
       rcases hn with hn | rfl
       ·exact hI n hn
       ·omega
      ·refine .inr ⟨List.mem_append_left _ hI1,hI2,fun n hn hln=>?_⟩
       rw[List.mem_append,List.mem_singleton]at hn
       rcases hn with hn | rfl
       ·exact hI3 n hn hln
       ·omega
    ·have hact:¬ act x=true:=by unfold act;simpa using ha
     rw[if_neg hact,List.append_nil]
     by_cases h1:0≤x.State∧x.State≤4
     ·rw[Ai1 h1,Ai2 (p:=x.State≠0) (by omega)];exact⟨_,rfl,hI⟩
     ·rw[Ai2 h1];exact⟨_,rfl,hI⟩)
  rw[List.take_length]at h2
  exact⟨s',h1,h2⟩
theorem pW {l:List Bh} (hr:∀ m∈l,1≤m.Slide∧m.Slide≤9999):∃ r,Ux l=some r∧∀ n,n∈r↔n∈acts l:=by
  have hacts:∀ n∈acts l,1≤n∧n≤9999:=by
    intro n hn
    unfold acts at hn
    obtain⟨m,hm,rfl⟩:=List.mem_map.1 hn
    exact hr m (List.mem_filter.1 hm).1
  unfold Ux
  obtain⟨r,h1,h2⟩:=H8 (step:=Qc l) (fun s=>0≤s.1∧s.1≤9999∧(s.2.length:Int)≤s.1∧∀ n,n∈s.2↔n∈acts l∧n≤s.1) (fun r=>∀ n,n∈r↔n∈acts l) (fun s=>(9999 - s.1).toNat) (by
      rintro⟨last,out⟩ ⟨i0,i1,i2,i3⟩
      dsimp only at i0 i1 i2 i3
      obtain⟨s,e1,e2⟩:=lG l last i0 (fun m hm=>(hr m hm).1)
      unfold Qc
      dsimp only
      rw[e1,Option.bind_some]
      show(∃ s',(bif decide (s=0)then _ else _)=_∧_)∨(∃ r,(bif decide (s=0)then _ else _)=_∧_)
      rcases e2 with⟨rfl,e2⟩ | ⟨e2,e3,e4⟩
      ·exact .inr ⟨out,rfl,fun n=>by rw[i3];exact⟨fun h=>h.1,fun h=>⟨h,e2 n h⟩⟩⟩
      ·have hb:=hacts s e2
       rw[Ai2 (by omega),cond_false,Ci (by omega)]
       refine .inl ⟨_,rfl,⟨by dsimp only;omega,by dsimp only;omega,by dsimp only;rw[List.length_append,List.length_singleton];omega,fun n=>?_⟩,by dsimp only;omega⟩
       dsimp only
       rw[List.mem_append,List.mem_singleton,i3]
       constructor
       ·rintro(⟨h,h'⟩ | rfl)
        ·exact⟨h,by omega⟩
        ·exact⟨e2,Int.le_refl _⟩
       ·rintro⟨h,h'⟩
        by_cases hn:n≤last
        ·exact .inl ⟨h,hn⟩
        ·right;have:=e4 n h (by omega);omega) fuel (0,[]) ⟨by simp,by simp,by simp,fun n=>by simp;intro h;have:=hacts n h;omega⟩ (by unfold fuel;dsimp only;omega)
  rw[h1]
  exact⟨r,rfl,h2⟩
def blasted (f:Aj) (zone:Int):Bool:=f.Slides.any fun s=>decide (s.ID∈acts f.Missions)&&decide (zone∈s.Zones)
theorem qW (f:Aj) (zone:Int) (hl:f.Missions.length≤1000):Gm f zone=some (blasted f zone):=by
  unfold Gm blasted
  rw[qZ hl,Option.bind_some]
  refine Up _ fun k x _=>?_
  unfold Gl
  simp only[contains_eq,Option.bind_some,M7]
  rw[Ai1 (Int.natCast_nonneg k)]
  cases decide (x.ID∈acts f.Missions)<;>cases decide (zone∈x.Zones)<;>rfl
theorem mX (f:Aj) (zone:Int) (hr:∀ m∈f.Missions,1≤m.Slide∧m.Slide≤9999):S8 f zone=some (blasted f zone):=by
  obtain⟨r,h1,h2⟩:=pW hr
  unfold S8 blasted
  rw[h1,Option.bind_some]
  refine Up _ fun k x _=>?_
  unfold Ua
  simp only[Wc,Option.bind_some,h2]
  cases decide (x.ID∈acts f.Missions)<;>cases decide (zone∈x.Zones)<;>rfl
def jP (s:Gs) (t:Int):Bool:=decide (s.From≤t∧t<s.To)
theorem sE (s:Gs) (t:Int):Lq s t=some (jP s t):=by unfold Lq jP;exact bt
theorem c6 (b:Bp) (t:Int):Qv b t=some (jP b.Span t):=by unfold Qv jP;exact bt
theorem yI (l:List Bp) (t:Int):Tot (L9 l t):=by
  unfold L9
  refine Tot.bind (Tot.Am fun i x s _=>?_) fun o _=>Tot.on fun _=>Tot.some _
  unfold Lf
  rw[c6,Option.bind_some]
  exact Tot.bif (fun _=>Tot.some _) fun _=>Tot.some _
theorem zV (l:List Bp) (t:Int):Hq l t=L9 l t:=by
  have:Fi t=Lf t:=by
    funext k x sv
    unfold Fi Lf
    rw[sE,c6,Option.bind_some,Option.bind_some]
    cases jP x.Span t with
    | false=>rfl
    | true=>
      rw[cond_true,cond_true]
      by_cases h:sv<x.Version
      ·rw[Ai1 h,if_pos h];rfl
      ·rw[Ai2 h,if_neg h];rfl
  unfold Hq L9;rw[this]
theorem wL (l:List Int) (n:Int):jV l n=some (decide (n∈l)):=Wx fun k x hx=>rfl
theorem kO (l:List Bp) (zone low high t:Int):Ag (Hp l zone low high t) (Wm l zone low high t):=by
  obtain⟨c,hc⟩:=yI l t
  unfold Hp Wm
  rw[zV,hc,Option.bind_some]
  refine Ag.bind (Ag.Am fun i x s hx=>?_) fun o _ _=>Ag.on fun _ _=>Ag.some _
  unfold Jw Wl
  simp only[sE,c6,hc,wL,contains_eq,Option.bind_some]
  generalize decide (x.Version=c)=b1
  generalize jP x.Span t=b2
  generalize decide (zone∈x.Zones)=b3
  generalize decide (x.Low<high)=b4
  generalize decide (low<x.High)=b5
  by_cases h:s<x.Level
  ·rw[Ai1 h,if_pos h]
   cases b1<;>cases b2<;>cases b3<;>cases b4<;>cases b5<;>exact ⟨_,rfl,rfl⟩
  ·rw[Ai2 h,if_neg h]
   cases b1<;>cases b2<;>cases b3<;>cases b4<;>cases b5<;>exact ⟨_,rfl,rfl⟩
def K0 (m:Bb) (n:Int):Int:=(Cx m n).1.Alt
theorem Aaa (m:Bb) (n:Int):M8 m n=some (K0 m n):=by unfold M8 K0;rw[Gu];rfl
def tL (m:Bb) (x:Ce) (s:Int):Int:=if K0 m x.To<s then K0 m x.To else s
def gT (m:Bb) (x:Ce) (s:Int):Int:=if s<K0 m x.From then K0 m x.From else s
def FF (m:Bb) (l:List Ce):Int×Int:=l.foldl (fun s x=>(tL m x s.1,gT m x s.2)) (9999, -1)
theorem sL (m:Bb) (l:List Ce) (x:Ce):FF m (l++[x])=(tL m x (FF m l).1,gT m x (FF m l).2):=by unfold FF;rw[List.foldl_append];rfl
theorem mJ {m:Bb} (M:K5 m) {x:Ce} (hx:x∈m.Runs):(0≤K0 m x.To∧K0 m x.To≤5000)∧0≤K0 m x.From∧K0 m x.From≤5000:=by
  have h:=(M.runs x hx).2
  have h1:=Zf h.1
  have h2:=Zf h.2.1
  exact⟨(M.nodes _ h1.1).2,(M.nodes _ h2.1).2⟩
theorem jS (f:Aj) (k:Nat):Am (Mk f k) 0 f.Map.Runs (9999, -1)=some (.next (FF f.Map (f.Map.Runs.filter fun x=>decide (x.Zone=(k:Int)+1)))):=by
  obtain⟨s',h1,h2⟩:=Dt (ρ:=Out (List Int) (List Int)) (step:=Mk f k) (l:=f.Map.Runs) (s:=(9999, -1)) (fun j s=>s=FF f.Map ((f.Map.Runs.take j).filter fun x=>decide (x.Zone=(k:Int)+1))) rfl (fun j x s hj hI=>by
    unfold Mk
    simp only[Aaa,Option.bind_some]
    rw[Bx hj,List.filter_append]
    by_cases hz:x.Zone=(k:Int)+1
    ·rw[Ai2 (p:=x.Zone≠(k:Int)+1) (fun h=>h hz),cond_false,List.filter_cons_of_pos (by simpa using hz),List.filter_nil,sL,← hI]
     unfold tL gT
     by_cases h1:K0 f.Map x.To<s.1
     ·rw[Ai1 h1,cond_true,if_pos h1]
      by_cases h2:s.2<K0 f.Map x.From
      ·rw[Ai1 h2,if_pos h2];exact⟨_,rfl,rfl⟩
      ·rw[Ai2 h2,if_neg h2];exact⟨_,rfl,rfl⟩
     ·rw[Ai2 h1,cond_false,if_neg h1]
      by_cases h2:s.2<K0 f.Map x.From
      ·rw[Ai1 h2,if_pos h2];exact⟨_,rfl,rfl⟩
      ·rw[Ai2 h2,if_neg h2];exact⟨_,rfl,rfl⟩
    ·rw[Ai1 (p:=x.Zone≠(k:Int)+1) hz,List.filter_cons_of_neg (by simpa using hz),List.filter_nil,List.append_nil]
     exact⟨_,rfl,hI⟩)
  rw[h1,h2,List.take_length]
theorem mK {m:Bb} (M:K5 m) {x:Ce} (hx:x∈m.Runs):Jz m x.ID=(x,true):=by
  have h:(Jz m x.ID).2=true:=uB hx
  have h1:=bH h
  have h2:=pQ M.runsR h1.1 hx h1.2
  exact Prod.ext h2 h
theorem u5 {m:Bb} (M:K5 m) (z:Int):K8 m z=some ((m.Runs.filter fun x=>decide (x.Zone=z)).map Ce.ID):=by
  unfold K8
  rw[C4 (step:=Mi z) (p:=fun x=>decide (x.Zone=z)) (g:=Ce.ID) (by have:=M.lenR;omega) (fun k x s _=>rfl)]
  rfl
theorem yU {m:Bb} (M:K5 m) (z:Int):Fh m z=some (bif (m.Runs.filter fun x=>decide (x.Zone=z)).isEmpty then(0,0,false)else ((FF m (m.Runs.filter fun x=>decide (x.Zone=z))).1,(FF m (m.Runs.filter fun x=>decide (x.Zone=z))).2,true)):=by
  unfold Fh
  rw[u5 M,Option.bind_some]
  generalize hR:(m.Runs.filter fun x=>decide (x.Zone=z))=R
  have hsub:∀ x∈R,x∈m.Runs:=fun x hx=>by rw[← hR]at hx;exact(List.mem_filter.1 hx).1
  obtain⟨s',h1,h2⟩:=Dt (ρ:=Int×Int×Bool) (step:=Eg m) (l:=R.map Ce.ID) (s:=((0:Int),(0:Int),false)) (fun j s=>s=bif (R.take j).isEmpty then(0,0,false)else ((FF m (R.take j)).1,(FF m (R.take j)).2,true)) rfl (fun j id s hj hI=>by
    rw[List.getElem?_map]at hj
    obtain⟨x,hx,rfl⟩:=Option.map_eq_some_iff.1 hj
    have hm:=hsub x (Ai4 hx)
    have ha:=mJ M hm
    unfold Eg
    simp only[Sh,u6,Option.bind_some,mK M hm]
    rw[Bx hx,sL]
    have hne:(R.take j++[x]).isEmpty=false:=by simp
    rw[hne,cond_false]
    change ∃ s',(bif (!s.2.2)then some (Out.next ((if K0 m x.To<K0 m x.To then K0 m x.To else K0 m x.To),(if K0 m x.From<K0 m x.From then K0 m x.From else K0 m x.From),true))else some (Out.next ((if K0 m x.To<s.1 then K0 m x.To else s.1),(if s.2.1<K0 m x.From then K0 m x.From else s.2.1),s.2.2)))=_∧_
    cases hE:(R.take j).isEmpty with
    | true=>
      rw[hE]at hI
      have e0:R.take j=[]:=by simpa using hE
      subst hI
      rw[e0]
      refine⟨_,rfl,?_⟩
      have e1:tL m x 9999=K0 m x.To:=if_pos (by omega)
      have e2:gT m x (-1)=K0 m x.From:=if_pos (by omega)
      show((if K0 m x.To<K0 m x.To then K0 m x.To else K0 m x.To),(if K0 m x.From<K0 m x.From then K0 m x.From else K0 m x.From),true)=(tL m x 9999,gT m x (-1),true)
      rw[e1,e2];simp only[ite_self]
    | false=>
      rw[hE]at hI
      subst hI
      exact⟨_,rfl,rfl⟩)
  rw[h1]
  rw[List.length_map,List.take_length]at h2
  rw[h2]
  cases R.isEmpty<;>rfl
theorem yY {m:Bb} (M:K5 m) {R:List Ce} (hR:∀ x∈R,x∈m.Runs):R≠[]→0≤(FF m R).2:=by
  have key:∀ (l:List Ce) (s:Int×Int),(∀ x∈l,x∈m.Runs)→(l≠[]∨0≤s.2)→0≤(l.foldl (fun s x=>(tL m x s.1,gT m x s.2)) s).2:=by
    intro l
    induction l with
    | nil=>intro s _ h;rcases h with h | h;exact absurd rfl h;exact h
    | cons x l ih=>
      intro s hl h
      rw[List.foldl_cons]
      refine ih _ (fun y hy=>hl y (List.mem_cons_of_mem _ hy)) (.inr ?_)
      have:=(mJ M (hl x (by simp))).2
      dsimp only;unfold gT
      split<;>omega
  intro h
  exact key R _ hR (.inl h)
theorem tO {f:Aj} (M:K5 f.Map):∃ L,Ey f=some L∧Qu f=some L∧L.length=32:=by
  have hstep:∀ k s,Et f k () s=Gb f k () s:=by
    intro k s
    unfold Et Gb
    rw[yU M,jS,Option.bind_some,Option.bind_some]
    show(bif (bif _ then _ else _:Int×Int×Bool).2.2 then _ else _)=(bif _ then _ else _)
    generalize hR:(f.Map.Runs.filter fun x=>decide (x.Zone=(k:Int)+1))=R
    have hsub:∀ x∈R,x∈f.Map.Runs:=fun x hx=>by rw[← hR]at hx;exact(List.mem_filter.1 hx).1
    cases R with
    | nil=>rfl
    | cons x R=>
      have hh:=yY M hsub (by simp)
      rw[Ai1 hh]
      show(Hp _ _ _ _ _).bind _=_
      rw[(kO f.Bulletin _ _ _ _).eq]
      rfl
  obtain⟨s',h1,h2⟩:=aH (ρ:=List Int) (n:=32) (step:=Gb f) (s:=[]) (by omega) (fun k s=>s.length=k) rfl (fun k s hk hI=>by
    unfold Gb
    rw[jS,Option.bind_some]
    show ∃ s',(bif _ then _ else _)=_∧_
    cases decide ((0:Int)≤(FF f.Map (f.Map.Runs.filter fun x=>decide (x.Zone=(k:Int)+1))).2)with
    | true=>
      obtain⟨n,_,hn⟩:=kO f.Bulletin ((k:Int)+1) (FF f.Map (f.Map.Runs.filter fun x=>decide (x.Zone=(k:Int)+1))).1 (FF f.Map (f.Map.Runs.filter fun x=>decide (x.Zone=(k:Int)+1))).2 f.Time
      rw[cond_true,hn,Option.bind_some,Ci (by omega)]
      exact⟨_,rfl,by simp[hI]⟩
    | false=>
      rw[cond_false,Ci (by omega)]
      exact⟨_,rfl,by simp[hI]⟩)
  have he:J0 (Et f) 32 []=J0 (Gb f) 32 []:=by
    unfold J0
    rw[if_pos (by decide),if_pos (by decide)]
    exact S50.Lo fun i x s _=>hstep i s
  refine⟨s',?_,?_,h2⟩
  ·unfold Ey
   rw[yK (by omega),he,h1];rfl
  ·unfold Qu
   rw[h1];rfl
theorem xZ {σ:Type} {o:Option (Out σ Int)} {rest:σ→Option Int} (h:Di (·≠0) o) (e:(o.bind fun x=>x.on rest)=some 0):∃ s,o=some (.next s)∧rest s=some 0:=by
  obtain⟨x,h1,h2⟩:=Af e
  cases x with
  | ret r=>obtain rfl:=Option.some.inj h2;exact absurd rfl (h 0 h1)
  | next s=>exact ⟨s,h1,h2⟩
theorem Ng {α:Type} {step:Nat→α→Unit→Option (Out Unit Int)} {l:List α} {rest:Unit→Option Int} (hr:∀ i x s,Di (·≠0) (step i x s)) (e:((Am step 0 l ()).bind fun o=>o.on rest)=some 0):(∀ i x,l[i]? =some x→step i x ()=some (.next ()))∧rest ()=some 0:=by
  obtain⟨s,h1,h2⟩:=xZ (Di.Am hr) e
  refine⟨fun i x hx=>?_,h2⟩
  have:=Um.1 h1 i x hx
  rwa [Nat.zero_add]at this
theorem bz {c:Bool} {e:Int} {b:Option Int} (h:(bif c then some e else b)=some 0) (he:e≠0):c=false∧b=some 0:=by
  cases c with
  | false=>exact ⟨rfl,h⟩
  | true=>exact absurd (Option.some.inj h) he
theorem bn {c:Bool} {e:Int} {b:Option (Out Unit Int)} (h:(bif c then some (.ret e)else b)=some (.next ())):c=false∧b=some (.next ()):=by
  cases c with
  | false=>exact ⟨rfl,h⟩
  | true=>cases h
theorem bnot {p:Prop} [Decidable p] (h:(!decide p)=false):p:=by simpa using h
theorem zW {l:List Bl} (e:H4 l=some 0):∀ c∈l,1≤c.By∧c.By≤6:=by
  unfold H4 at e
  obtain⟨_,e⟩:=bz e (by decide)
  obtain⟨h,_⟩:=Ng (fun i x s=>by
    unfold Hd
    repeat' first | exact Di.ret (by decide) | exact Di.next _ | refine Di.okB ?_ | refine Di.bif (fun _=>?_) (fun _=>?_) | refine Di.bind fun _ _=>?_) e
  intro c hc
  obtain⟨i,hi⟩:=List.mem_iff_getElem?.1 hc
  have:=h i c hi
  unfold Hd at this
  rw[qG,Option.bind_some]at this
  have:=bnot (bn this).1
  omega
theorem v7 {p:Ca} (e:H3 p=some 0):p.Bu.length≤64∧p.Hazards.length≤200∧∀ x∈p.Bu,x.List_.Items.length≤64∧x.List_.Signs.length≤200:=by
  unfold H3 at e
  obtain⟨h1,e⟩:=bz e (by decide)
  obtain⟨h2,e⟩:=bz e (by decide)
  have h1:=Aiz h1
  have h2:=Aiz h2
  obtain⟨h,_⟩:=Ng (fun i x s=>by
    unfold Hc
    repeat' first | exact Di.ret (by decide) | exact Di.ret (Ai0 ‹_›) | exact Di.next _ | refine Di.bif (fun _=>?_) (fun _=>?_) | refine Di.bind fun _ _=>?_) e
  refine⟨by omega,by omega,fun x hx=>?_⟩
  obtain⟨i,hi⟩:=List.mem_iff_getElem?.1 hx
  have:=h i x hi
  unfold Hc at this
  obtain⟨_,this⟩:=bn this
  obtain⟨_,this⟩:=bn this
  have fin:∀ {o:Option (Out Unit Int)},o=some (.next ())→o=((Gf x.List_).bind fun y10=>bif decide (y10≠(0:Int))then some (Out.ret y10)else some (Out.next ()))→x.List_.Items.length≤64∧x.List_.Signs.length≤200:=by
    intro o ho h
    rw[ho]at h
    obtain⟨y,hy,h⟩:=Af h.symm
    have hy0:=(bn h).1
    have:y=0:=by simpa using hy0
    subst this
    exact nM hy
  cases hc:decide ((0:Int)<((i:Nat):Int))with
  | true=>
    rw[hc]at this
    obtain⟨y,_,this⟩:=Af this
    exact fin (bn this).2 rfl
  | false=>
    rw[hc]at this
    exact fin this rfl
theorem zN {l:List Bh} (e:H5 l=some 0):l.length≤64∧∀ m∈l,1≤m.Slide∧m.Slide≤9999:=by
  unfold H5 at e
  obtain⟨h1,e⟩:=bz e (by decide)
  have h1:=Aiz h1
  obtain⟨h,_⟩:=Ng (fun i x s=>by
    unfold He
    repeat' first | exact Di.ret (by decide) | exact Di.next _ | refine Di.okB ?_ | refine Di.bif (fun _=>?_) (fun _=>?_) | refine Di.bind fun _ _=>?_) e
  refine⟨by omega,fun c hc=>?_⟩
  obtain⟨i,hi⟩:=List.mem_iff_getElem?.1 hc
  have:=h i c hi
  unfold He at this
  simp only[lS,Option.bind_some]at this
  exact bnot (bn (bn this).2).1
theorem mB {l:List Int} (hl:l.length≤9223372036854775807) (e:Ki l=some true):l.length≤32:=by
  unfold Ki at e
  obtain⟨o,h1,h2⟩:=Af e
  cases o with
  | ret r=>
    have:r=false:=Di.Am (P:=fun r=>r=false) (fun i x s=>by
      unfold Hh
      repeat' first | exact Di.ret rfl | exact Di.next _ | refine Di.bif (fun _=>?_) (fun _=>?_) | refine Di.bind fun _ _=>?_) r h1
    subst this;cases h2
  | next s=>
    have hs:=Um.1 h1
    have key:∀ (i:Nat) (x:Int),l[i]? =some x→(1≤x∧x≤32)∧∀ y,0<i→l[i - 1]? =some y→y<x:=by
      intro i x hx
      have hlt:=(List.getElem?_eq_some_iff.1 hx).1
      have h:=hs i x hx
      rw[Nat.zero_add]at h
      unfold Hh at h
      have bf':∀ {c:Bool} {b:Option (Out Unit Bool)},(bif c then some (.ret false)else b)=some (.next ())→c=false∧b=some (.next ()):=fun {c b} h=>by
        cases c with
        | false=>exact ⟨rfl,h⟩
        | true=>cases h
      obtain⟨c1,h⟩:=bf' h
      obtain⟨c2,h⟩:=bf' h
      have c1:=Aiz c1
      have c2:=Aiz c2
      refine⟨by omega,fun y h0 hy=>?_⟩
      rw[Ai1 (by omega),cond_true,Q0 h0 (by omega),Ay hy,Option.bind_some]at h
      have:=Aiz (bf' h).1
      omega
    have hinc:Inc l:=W46.qK fun k x y hx hy=>(key (k+1) x hx).2 y (by omega) (by simpa using hy)
    by_cases e0:l.length=0
    ·omega
    ·have hx:l[l.length - 1]? =some (l[l.length - 1]'(by omega)):=Ai3 (by omega)
     have g1:=W46.gP hinc (fun x hx=>by obtain⟨i,hi⟩:=List.mem_iff_getElem?.1 hx;exact(key i x hi).1.1) _ _ hx
     have g2:=(key _ _ hx).1.2
     omega
theorem zX {l:List Bp} (hl:∀ b∈l,b.Zones.length≤9223372036854775807) (e:H6 l=some 0):∀ b∈l,b.Zones.length≤32:=by
  unfold H6 at e
  obtain⟨_,e⟩:=bz e (by decide)
  obtain⟨h,_⟩:=Ng (fun i x s=>by
    unfold E2
    repeat' first | exact Di.ret (by decide) | exact Di.next _ | refine Di.bif (fun _=>?_) (fun _=>?_) | refine Di.bind fun _ _=>?_) e
  intro b hb
  obtain⟨i,hi⟩:=List.mem_iff_getElem?.1 hb
  have:=h i b hi
  unfold E2 at this
  obtain⟨y,h1,h2⟩:=Af (bn (bn (bn (bn (bn (bn (bn (bn (bn (bn this).2).2).2).2).2).2).2).2).2).2
  have hy:=(bn h2).1
  have:y=true:=by simpa using hy
  subst this
  exact mB (hl b hb) h1
theorem vO {f:Aj} (e:Kb f=some 0):H7 f.Map=some 0∧H4 f.Closures=some 0∧H3 f.Patrol=some 0∧Pr f.Surfaces=some 0∧Nb f.Slides=some 0∧H6 f.Bulletin=some 0∧H5 f.Missions=some 0∧Nc f.Winches=some 0∧Nd f.Groomers=some 0:=by
  unfold Kb at e
  obtain⟨y1,h1,e⟩:=Af e
  obtain⟨y2,h2,e⟩:=Af e
  obtain⟨y3,h3,e⟩:=Af e
  obtain⟨y4,h4,e⟩:=Af e
  obtain⟨y5,h5,e⟩:=Af e
  obtain⟨y6,h6,e⟩:=Af e
  obtain⟨y7,h7,e⟩:=Af e
  obtain⟨y8,h8,e⟩:=Af e
  obtain⟨y9,h9,e⟩:=Af e
  unfold J0 at e
  rw[if_pos (by decide)]at e
  obtain⟨h,_⟩:=Ng (fun i x s=>by
    unfold Fy
    refine Di.bind fun y hy=>?_
    exact Di.bif (fun hc=>Di.ret (Ai0 hc)) fun _=>Di.next _) e
  have key:∀ (k:Nat) y,k<9→[y1,y2,y3,y4,y5,y6,y7,y8,y9][k]? =some y→y=0:=by
    intro k y hk hy
    have:=h k () (by rw[List.getElem?_replicate,if_pos hk])
    unfold Fy at this
    rw[Ay hy,Option.bind_some]at this
    simpa using(bn this).1
  have k1:=key 0 y1 (by decide) rfl
  have k2:=key 1 y2 (by decide) rfl
  have k3:=key 2 y3 (by decide) rfl
  have k4:=key 3 y4 (by decide) rfl
  have k5:=key 4 y5 (by decide) rfl
  have k6:=key 5 y6 (by decide) rfl
  have k7:=key 6 y7 (by decide) rfl
  have k8:=key 7 y8 (by decide) rfl
  have k9:=key 8 y9 (by decide) rfl
  subst k1 k2 k3 k4 k5 k6 k7 k8 k9
  exact⟨h1,h2,h3,h4,h5,h6,h7,h8,h9⟩
structure FOK (f:Aj):Prop where
  map:K5 f.Map
  clo:∀ c∈f.Closures,1≤c.By∧c.By≤6
  lists:∀ x∈f.Patrol.Bu,x.List_.Items.length≤64∧x.List_.Signs.length≤200
  listsL:f.Patrol.Bu.length≤64
  slides:S50.aZ f.Slides
  misL:f.Missions.length≤64
  mis:∀ m∈f.Missions,1≤m.Slide∧m.Slide≤9999
  ropes:W46.fG f.Winches
  bul:∀ b∈f.Bulletin,b.Zones.length≤32
  packs:∀ p∈f.Packs,(0≤p.Pack.Natural∧p.Pack.Natural≤20000)∧(0≤p.Pack.Machine∧p.Pack.Machine≤20000)∧50≤p.Pack.Density∧p.Pack.Density≤900
  liftsL:f.Lifts.length≤32
  packsL:f.Packs.length≤64
  statL:f.Status.length≤64
  stat:∀ x∈f.Status,(Jz f.Map x.Run).2=true
  statR:Jq Bi.Run f.Status
theorem wU {f:Aj} (hi:uX f) (hs:f.Slides.length≤9223372036854775807) (e:H0 f=some 0):FOK f:=by
  unfold H0 at e
  obtain⟨y,hp,e⟩:=Af e
  have hy:y=0:=by
    by_cases h:y=0
    ·exact h
    ·rw[Ai1 (p:=y≠0) h]at e
     exact Option.some.inj e
  subst hy
  rw[show decide ((0:Int)≠0)=false from rfl,cond_false]at e
  obtain⟨p1,p2,p3,p4,p5,p6,p7,p8,p9⟩:=vO hp
  obtain⟨l1,e⟩:=bz e (by decide)
  obtain⟨l2,e⟩:=bz e (by decide)
  obtain⟨l3,e⟩:=bz e (by decide)
  have l1:=Aiz l1
  have l2:=Aiz l2
  have l3:=Aiz l3
  obtain⟨_,e⟩:=Ng (fun i x s=>by
    unfold Nu
    repeat' first | exact Di.ret (by decide) | exact Di.next _ | refine Di.bif (fun _=>?_) (fun _=>?_) | refine Di.bind fun _ _=>?_) e
  unfold Kd at e
  obtain⟨hpk,e⟩:=Ng (fun i x s=>by
    unfold Ke
    repeat' first | exact Di.ret (by decide) | exact Di.next _ | refine Di.bif (fun _=>?_) (fun _=>?_) | refine Di.bind fun _ _=>?_) e
  unfold Kc at e
  obtain⟨hst,_⟩:=Ng (fun i x s=>by
    unfold Kf
    repeat' first | exact Di.ret (by decide) | exact Di.next _ | refine Di.bif (fun _=>?_) (fun _=>?_) | refine Di.bind fun _ _=>?_) e
  obtain⟨r10,a1,a2⟩:=pS f.Map
  rw[p1]at a1;obtain rfl:=Option.some.inj a1
  obtain⟨r50,b1,b2,b3⟩:=S50.Wd f.Slides ⟨hs,hi.zones⟩
  rw[p5]at b2;obtain rfl:=Option.some.inj b2
  obtain⟨r46,c1,c2,c3⟩:=W46.mN hi.runs
  rw[p8]at c1;obtain rfl:=Option.some.inj c1
  have hP:=v7 p3
  have hM:=zN p7
  have stat:∀ (i:Nat) (x:Bi),f.Status[i]? =some x→(Jz f.Map x.Run).2=true∧∀ y,0<i→f.Status[i - 1]? =some y→y.Run<x.Run:=by
    intro i x hx
    have hlt:=(List.getElem?_eq_some_iff.1 hx).1
    have h:=hst i x hx
    unfold Kf at h
    rw[Xw,Option.bind_some]at h
    by_cases h0:(0:Int)<((i:Nat):Int)
    ·rw[Ai1 h0,cond_true]at h
     obtain⟨y,h1,h2⟩:=cQ hlt (by omega) (by omega)
     rw[h1,Option.bind_some]at h
     obtain⟨g1,h⟩:=bn h
     have g2:=(bn h).1
     refine⟨by simpa using g2,fun z _ hz=>?_⟩
     rw[h2]at hz;obtain rfl:=Option.some.inj hz
     have:=Aiz g1;omega
    ·rw[Ai2 h0,cond_false]at h
     have g2:=(bn h).1
     exact⟨by simpa using g2,fun z h _=>by omega⟩
  refine⟨a2.1 rfl,zW p2,hP.2.2,hP.1,b3.1 rfl,hM.1,hM.2,c3.1 rfl,zX hi.bzones p6,fun p hp=>?_,by omega,by omega,by omega,fun x hx=>?_,?_⟩
  ·obtain⟨i,hi⟩:=List.mem_iff_getElem?.1 hp
   have:=hpk i p hi
   unfold Ke at this
   obtain⟨_,this⟩:=bn this
   obtain⟨_,this⟩:=bn this
   rw[lI,Option.bind_some]at this
   exact bnot (bn this).1
  ·obtain⟨i,hi⟩:=List.mem_iff_getElem?.1 hx
   exact(stat i x hi).1
  ·exact fun k x y hx hy=>(stat (k+1) x hx).2 y (by omega) (by simpa using hy)
theorem sA {f:Aj} (h:Sc f):uX f:=by
  obtain⟨_,_,_,h4,_,_,h7,h8,_,h10,_⟩:=h
  exact⟨fun x hx=>⟨(h4.1.2 x hx).2.1.1,(h4.1.2 x hx).2.2.2.1⟩,fun x hx=>⟨(h7.2 x hx).2.1.1,(h7.2 x hx).2.2.1.1⟩,fun x hx=>(h8.2 x hx).2.2.2.2.1.1,fun x hx=>(h10.2 x hx).2.2.2.1⟩
def signed (l:Br) (t x:Int) (s:Fl):Bool:=decide (s.Item=x)&&(decide (s.At≤t)&&decide (t<IntKind.i64.wrap (s.At+l.Every)))
def opens (l:Br) (t:Int):List Int:=l.Items.filter fun x=>!l.Signs.any (signed l t x)
theorem wE {l:Br} (t:Int) (h:l.Items.length≤1000):Ln l t=some (opens l t):=by
  unfold Ln
  rw[C4 (step:=I5 l t) (p:=fun x=>!l.Signs.any (signed l t x)) (g:=id) (by omega) (fun k x s hx=>by
   unfold I5
   rw[Fq (step:=I4 l t s x) (signed l t x) (fun _=>Out.next s) (fun k' y _=>by
    unfold I4 signed
    rw[Ai1 (Int.natCast_nonneg k')]
    cases decide (y.Item=x)<;>cases decide (y.At≤t)<;>cases decide (t<IntKind.i64.wrap (y.At+l.Every))<;>rfl)]
   cases hf:l.Signs.find? (signed l t x)with
   | none=>
     have:l.Signs.any (signed l t x)=false:=by rw[List.any_eq_false];exact List.find?_eq_none.1 hf
     rw[this];rfl
   | some y=>
     have:l.Signs.any (signed l t x)=true:=by rw[List.any_eq_true];exact⟨y,List.mem_of_find?_eq_some hf,List.find?_some hf⟩
     rw[this];rfl)]
  rw[List.map_id];rfl
theorem xU (l:Br) (x t:Int):∃ r,cC l x t=some r∧decide (r=t)= !l.Signs.any (signed l t x):=by
  unfold cC
  obtain⟨s',h1,h2,h3⟩:=Dt (ρ:=Int) (step:=Uz l x t) (l:=l.Signs) (s:=t) (fun k s=>t≤s∧(s=t↔∀ y∈l.Signs.take k,signed l t x y=false)) ⟨Int.le_refl _,by simp⟩ (fun k y s hk ⟨i1,i2⟩=>by
    have fin:∀ s2,t≤s2→(s2=t↔s=t∧signed l t x y=false)→(t≤s2∧(s2=t↔∀ z∈l.Signs.take (k+1),signed l t x z=false)):=fun s2 a b=>by
      refine⟨a,?_⟩
      rw[b,i2,Bx hk]
      constructor
      ·rintro⟨h1,h2⟩ z hz
       rw[List.mem_append,List.mem_singleton]at hz
       rcases hz with hz | rfl
       ·exact h1 z hz
       ·exact h2
      ·intro h
       exact⟨fun z hz=>h z (List.mem_append_left _ hz),h y (by simp)⟩
    unfold Uz
    by_cases c1:y.Item=x
    ·by_cases c2:y.At≤t
     ·by_cases c3:t<IntKind.i64.wrap (y.At+l.Every)
      ·rw[Ai1 c1,Ai1 c2,Ai1 c3]
       refine⟨_,rfl,fin _ (by split<;>omega) ?_⟩
       have:signed l t x y=true:=by unfold signed;rw[Ai1 c1,Ai1 c2,Ai1 c3];rfl
       rw[this]
       constructor
       ·intro h;split at h<;>omega
       ·rintro⟨_,h⟩;cases h
      ·rw[Ai1 c1,Ai1 c2,Ai2 c3]
       refine⟨_,rfl,fin _ i1 ?_⟩
       have:signed l t x y=false:=by unfold signed;rw[Ai1 c1,Ai1 c2,Ai2 c3];rfl
       rw[this];simp
     ·rw[Ai1 c1,Ai2 c2]
      refine⟨_,rfl,fin _ i1 ?_⟩
      have:signed l t x y=false:=by unfold signed;rw[Ai2 c2];simp
      rw[this];simp
    ·rw[Ai2 c1]
     refine⟨_,rfl,fin _ i1 ?_⟩
     have:signed l t x y=false:=by unfold signed;rw[Ai2 c1];rfl
     rw[this];simp)
  rw[List.take_length]at h3
  rw[h1]
  refine⟨s',rfl,?_⟩
  rw[Bool.eq_iff_iff,decide_eq_true_iff,h3,Bool.not_eq_true',List.any_eq_false]
  simp
theorem pO {l:Br} (t:Int) (h:l.Items.length≤1000):Za l t=some (opens l t):=by
  unfold Za
  rw[C4 (step:=Td l t) (p:=fun x=>!l.Signs.any (signed l t x)) (g:=id) (by omega) (fun k x s hx=>by
   unfold Td
   obtain⟨r,h1,h2⟩:=xU l x t
   rw[h1,Option.bind_some,h2];rfl)]
  rw[List.map_id];rfl
theorem yH {l:Br} (t:Int) (h:l.Items.length≤1000):Og l t=U1 l t∧Tot (U1 l t):=by
  unfold Og U1
  rw[wE t h,pO t h]
  exact⟨rfl,Tot.some _⟩
theorem vL {p:Ca} (run t:Int) (h:∀ x∈p.Bu,x.List_.Items.length≤64):Ag (Li p run t) (Sp p run t):=by
  obtain⟨r,h1,h2⟩:=rZ (step:=M9 run) (l:=p.Bu) (fun x=>decide (x.Run=run)) (fun k x _=>by unfold M9;rfl)
  have e2:Nv p run=some r:=h1
  have e1:Ku p run=some r:=h1
  unfold Li Sp
  rw[e1,e2,Option.bind_some,Option.bind_some]
  rcases h2 with⟨rfl,_⟩ | ⟨k,x,rfl,hx,_⟩
  ·exact Ag.some _
  ·rw[Ai2 (p:=((k:Nat):Int)<0) (by omega),cond_false,cond_false,Ay hx,Option.bind_some,Option.bind_some]
   obtain⟨d1,d2⟩:=yH (l:=x.List_) t (by have:=h x (Ai4 hx);omega)
   rw[d1]
   refine Ag.bind (Ag.refl d2) fun y _ _=>Ag.bif rfl (fun _=>Ag.some _) fun _=>?_
   refine Ag.bind (Ag.Am fun i z s _=>?_) fun o _ _=>Ag.on fun _ _=>Ag.some _
   unfold Mq Wh
   rw[Ai1 (Int.natCast_nonneg i)]
   exact Ag.bif rfl (fun _=>Ag.some _) fun _=>Ag.some _
theorem w0 {p:Fm} (h:(0≤p.Natural∧p.Natural≤20000)∧(0≤p.Machine∧p.Machine≤20000)∧50≤p.Density∧p.Density≤900):∃ d,J8 p=some (d,0)∧Wp p=some (d,0):=by
  unfold J8 Wp Ns
  rw[j0,lI,Ai1 h]
  simp only[Option.bind_some,Bool.not_true,cond_false]
  rw[gC (by omega)]
  exact⟨_,rfl,rfl⟩
theorem qR {f:Aj} (F:FOK f) (run:Int):Ag (Fa f run) (Uv f run):=by
  unfold Fa Uv
  refine Ag.bind (Ag.Am fun i x s hx=>?_) fun o _ _=>Ag.on fun _ _=>Ag.some _
  unfold Gk Yt
  refine Ag.bif rfl (fun _=>?_) fun _=>Ag.some _
  obtain⟨d,h1,h2⟩:=w0 (F.packs x (Ai4 hx))
  rw[h1,h2,Ai2 (p:=((i:Nat):Int)<0) (by omega)]
  exact⟨_,rfl,rfl⟩
theorem FOK.few {f:Aj} (F:FOK f):W46.Few f.Winches:=⟨by have:=F.ropes.len;omega,fun w hw=>by have:=(F.ropes.rope w hw).runs.len;omega⟩
theorem tW {most:Int} {l:List Int} (h:S50.S5 most l) (hm:most≤100):l.length≤100:=by
  by_cases e:l.length=0
  ·omega
  ·have hx:l[l.length - 1]? =some (l[l.length - 1]'(by omega)):=Ai3 (by omega)
   have h1:=W46.gP h.2 (fun x hx=>(h.1 x hx).1) _ _ hx
   have h2:=(h.1 _ (Ai4 hx)).2
   omega
theorem FOK.small {f:Aj} (F:FOK f):S50.Small f.Slides:=⟨by have:=F.slides.1;omega,fun s hs=>⟨tW (F.slides.at hs).2.2.1 (by decide),trivial⟩⟩
theorem xT {f:Aj} (F:FOK f) (run zone:Int) :
    Ag ((Ey f).bind fun y5=>(Gd f.Slides y5).bind fun y6=>(Bs y6 zone).bind fun y7=>(bif y7 then some (10:Int)else (Li f.Patrol run f.Time).bind fun y8=>(bif (!y8)then some (14:Int)else (Fa f run).bind fun y9=>(bif (!y9)then some (5:Int)else some (0:Int)))))
     ((Qu f).bind fun y6=>(Wk f.Slides y6).bind fun y7=>(Fz y7 zone).bind fun y8=>(bif y8 then some (10:Int)else (Sp f.Patrol run f.Time).bind fun y9=>(bif (!y9)then some (14:Int)else (Uv f run).bind fun y10=>(bif (!y10)then some (5:Int)else some (0:Int))))):=by
  obtain⟨L,h1,h2,h3⟩:=tO F.map
  rw[h1,h2,Option.bind_some,Option.bind_some,S50.uZ F.small (fun x hx=>(F.slides.at hx).1) (by omega),S50.mT F.small F.slides (by omega),Option.bind_some,Option.bind_some,contains_eq,Wc,Option.bind_some,Option.bind_some]
  refine Ag.bif rfl (fun _=>Ag.some _) fun _=>?_
  refine Ag.bind (vL run f.Time fun x hx=>(F.lists x hx).1) fun y _ _=>Ag.bif rfl (fun _=>Ag.some _) fun _=>?_
  exact Ag.bind (qR F run) fun y _ _=>Ag.bif rfl (fun _=>Ag.some _) fun _=>Ag.some _
theorem S1 {f:Aj} {run:Int} (h:(Jz f.Map run).2=false):Cz f run=some 8:=by
  unfold Cz
  rw[Sh,Option.bind_some,h];rfl
theorem dA {f:Aj} (F:FOK f) {run:Int} (h:(Jz f.Map run).2=true):Ag (Cz f run) (Sn f (Jz f.Map run).1):=by
  have hID:=(bH h).2
  unfold Cz Sn
  rw[Sh,Option.bind_some,h,Bool.not_true,cond_false,hID]
  rw[yJ f.Map f.Closures run h,vM F.clo run h,Option.bind_some,Option.bind_some]
  refine Ag.bif rfl (fun _=>Ag.some _) fun _=>?_
  rw[zT,xS,Option.bind_some,Option.bind_some,W46.vA F.few,W46.sZ F.ropes,Option.bind_some,Option.bind_some,contains_eq,Wc,Option.bind_some,Option.bind_some]
  rw[qW f _ (by have:=F.misL;omega),mX f _ F.mis,Option.bind_some,Option.bind_some]
  unfold Ep
  have R:=xT F run (Jz f.Map run).1.Zone
  cases gon f.Groomers run with
  | true=>exact Ag.some _
  | false=>
    cases decide (run∈norm (W46.Ka f.Winches f.Time))with
    | true=>exact Ag.some _
    | false=>
      cases blasted f (Jz f.Map run).1.Zone with
      | true=>exact Ag.some _
      | false=>exact R
theorem iG {f:Aj} (F:FOK f) (run:Int):Tot (Cz f run):=by
  cases h:(Jz f.Map run).2 with
  | false=>exact ⟨8,S1 h⟩
  | true=>obtain ⟨e,h1,_⟩:=dA F h;exact⟨e,h1⟩
def E8 (f:Aj) (run:Int):Bool:=decide (Cz f run=some 0)
theorem wQ {f:Aj} {run:Int} (h:E8 f run=true):(Jz f.Map run).2=true:=by
  cases e:(Jz f.Map run).2 with
  | true=>rfl
  | false=>unfold E8 at h;rw[S1 e]at h;cases h
theorem X5 {f:Aj} {run e:Int} (h:Cz f run=some e):E8 f run=decide (e=0):=by
  unfold E8;rw[h];simp
def pub (f:Aj):List Int:=(f.Lifts.filter fun x=>decide (x.Mode=1)).map Cr.Lift
theorem cK {f:Aj} (F:FOK f):Fv f=some (pub f)∧Nt f=some (pub f):=by
  have:=F.liftsL
  constructor
  ·unfold Fv
   rw[C4 (step:=G2) (p:=fun x=>decide (x.Mode=1)) (g:=Cr.Lift) (by omega) (fun k x s _=>rfl)];rfl
  ·unfold Nt
   rw[C4 (step:=Vv) (p:=fun x=>decide (x.Mode=1)) (g:=Cr.Lift) (by omega) (fun k x s _=>rfl)];rfl
theorem cY {m:Bb} (M:K5 m) (lifts runs:List Int) (run:Int):∃ b,Ra m lifts runs run=some b∧Pv m lifts runs run=some b∧(b=true↔(Jz m run).2=true∧RR m lifts runs (Jz m run).1.From):=by
  obtain⟨a,e1,f1⟩:=lF M lifts runs
  obtain⟨a',e2,f2⟩:=iR M lifts runs
  obtain rfl:=f1.unique f2
  unfold Ra Pv
  rw[Sh,Xw,Option.bind_some,Option.bind_some]
  cases h:(Jz m run).2 with
  | false=>exact ⟨false,rfl,rfl,by simp⟩
  | true=>exact ⟨decide ((Jz m run).1.From∈a),by simp[e1,contains_eq],by simp[e2,eZ],by simp[f1.mem]⟩
def Lnk (f:Aj) (op:List Int) (run:Int):Prop:=((Jz f.Map run).2=true∧RR f.Map (pub f) op (Jz f.Map run).1.From)∧HH f.Map op (Jz f.Map run).1.To
noncomputable def lnk (f:Aj) (op:List Int) (run:Int):Bool:=@decide (Lnk f op run) (Classical.propDecidable _)
theorem Rw {f:Aj} {op:List Int} {run:Int}:lnk f op run=true↔Lnk f op run:=by unfold lnk;exact @decide_eq_true_iff _ (Classical.propDecidable _)
theorem j5 {f:Aj} (F:FOK f) (op:List Int) (run:Int):D7 f op run=some (lnk f op run):=by
  obtain⟨b,h1,_,h3⟩:=cY F.map (pub f) op run
  obtain⟨r,g1,g2⟩:=yA F.map op
  unfold D7
  rw[Sh,Option.bind_some,(cK F).1,Option.bind_some,h1,Option.bind_some,g1,Option.bind_some,contains_eq,Option.bind_some]
  cases b with
  | false=>
    have:lnk f op run=false:=by
      rw[Bool.eq_false_iff];intro h;have:=h3.2 (Rw.1 h).1;cases this
    rw[this];rfl
  | true=>
    rw[cond_true]
    congr 1
    rw[Bool.eq_iff_iff,decide_eq_true_iff,Rw,g2.mem]
    exact⟨fun h=>⟨h3.1 rfl,h⟩,fun h=>h.2⟩
theorem pP {f:Aj} (F:FOK f) (op:List Int) {run:Int} {α:Type} (A B:Option α):((Nt f).bind fun y3=>(Pv f.Map y3 op run).bind fun y4=>(bif (!y4)then A else(Ko f.Map op).bind fun y5=>(Fz y5 (Jz f.Map run).1.To).bind fun y6=>(bif (!y6)then A else B)))=(bif lnk f op run then B else A):=by
  obtain⟨b,_,h1,h3⟩:=cY F.map (pub f) op run
  obtain⟨r,g1,g2⟩:=fQ F.map op
  rw[(cK F).2,Option.bind_some,h1,Option.bind_some,g1,Option.bind_some,Wc,Option.bind_some]
  cases b with
  | false=>
    have:lnk f op run=false:=by
      rw[Bool.eq_false_iff];intro h;have:=h3.2 (Rw.1 h).1;cases this
    rw[this];rfl
  | true=>
    have:lnk f op run=decide ((Jz f.Map run).1.To∈r):=by
      rw[Bool.eq_iff_iff,decide_eq_true_iff,Rw,g2.mem]
      exact⟨fun h=>h.2,fun h=>⟨h3.1 rfl,h⟩⟩
    rw[this]
    cases decide ((Jz f.Map run).1.To∈r)<;>rfl
noncomputable def y0 (f:Aj) (op:List Int) (run:Int):Bool:=E8 f run&&lnk f op run
theorem u0 {f:Aj} (F:FOK f) (op:List Int) (run:Int):∃ e,C0 f op run=some e∧Ub f op run=some e∧decide (e=0)=y0 f op run:=by
  unfold C0 Ub y0
  rw[Xw,Option.bind_some]
  cases h:(Jz f.Map run).2 with
  | false=>
    rw[X5 (S1 h),S1 h]
    exact⟨8,rfl,rfl,rfl⟩
  | true=>
    obtain⟨e,h1,h2⟩:=dA F h
    rw[X5 h1,h1,h2,Option.bind_some,Bool.not_true,cond_false,Option.bind_some]
    by_cases h0:e=0
    ·subst h0
     rw[show decide ((0:Int)≠0)=false from rfl,cond_false,cond_false,pP F op,j5 F,Option.bind_some]
     cases lnk f op run with
     | true=>exact ⟨0,rfl,rfl,rfl⟩
     | false=>exact ⟨16,rfl,rfl,rfl⟩
    ·rw[Ai1 (p:=e≠0) h0,Ai2 h0]
     exact⟨e,rfl,rfl,by rw[Ai2 h0];rfl⟩
theorem yC {L:List Int→Int→Bool} (s:List Int):gfp L (stp L s)=gfp L s:=by
  have h1:stp L (iter L ((stp L s).length+1) s)=iter L ((stp L s).length+1) s:=St (L:=L) _ (stp L s) (Nat.le_refl _)
  exact dV h1
theorem O4 {l:List Int} (h:l.length≤549755813888):B8 l=some l:=by unfold B8;rw[Ci h]
theorem x7 {f:Aj} (F:FOK f) {s:List Int} (h:s.length≤1000):Am (Fb f s) 0 s []=some (.next (stp (lnk f) s)):=by
  rw[C4 (step:=Fb f s) (p:=lnk f s) (g:=id) (by omega) (fun k x t _=>by unfold Fb;rw[j5 F,Option.bind_some];rfl),List.map_id];rfl
theorem j6 {f:Aj} (F:FOK f) {s:List Int} (h:s.length≤1000):Ea (Dm f) fuel s=some (.ret (gfp (lnk f) s)):=by
  obtain⟨r,h1,h2⟩:=H8 (step:=Dm f) (fun t=>t.length≤1000∧gfp (lnk f) t=gfp (lnk f) s) (fun r=>r=gfp (lnk f) s) (fun t=>t.length) (by
    rintro t ⟨i1,i2⟩
    have hl:=(eY (L:=lnk f) t).length_le
    unfold Dm
    rw[x7 F i1,Option.bind_some]
    show(∃ s',(bif _ then _ else _)=_∧_)∨(∃ r,(bif _ then _ else _)=_∧_)
    by_cases e:(stp (lnk f) t).length=t.length
    ·rw[Ai1 (by omega)]
     refine .inr ⟨_,rfl,?_⟩
     have e2:=rP e
     rw[e2,← i2]
     exact(Wu e2 _).symm
    ·rw[Ai2 (by omega)]
     exact .inl ⟨_,rfl,⟨by omega,by rw[yC,i2]⟩,by omega⟩) fuel s ⟨h,rfl⟩ (by unfold fuel;omega)
  rw[h1,h2]
theorem wD {f:Aj} (F:FOK f) {s:List Int} (h:s.length≤1000) {k:Nat} {x:Int} (hk:s[k]? =some x) (hx:E8 f x=false) (hb:(s.take k).filter (E8 f)=s.take k) :
    Ea (Dr f) fuel ((k:Int),(k:Int)+1,s)=some (.ret (gfp (lnk f) (s.filter (E8 f)))):=by
  have hlt:=(List.getElem?_eq_some_iff.1 hk).1
  obtain⟨r,h1,h2⟩:=H8 (step:=Dr f) (fun v=>∃ i j:Nat,v.1=(i:Int)∧v.2.1=(j:Int)∧i<j∧j≤s.length∧v.2.2.length=s.length∧v.2.2.take i=(s.take j).filter (E8 f)∧v.2.2.drop j=s.drop j) (fun r=>r=gfp (lnk f) (s.filter (E8 f))) (fun v=>(s.length - v.2.1).toNat) (by
    rintro⟨iv,jv,l⟩ ⟨i,j,rfl,rfl,hij,hj,hl,ht,hd⟩
    dsimp only at *
    unfold Dr
    dsimp only
    by_cases hjn:j<l.length
    ·rw[Ai1 (by omega),cond_true]
     have hy:l[j]? =some (l[j]'hjn):=Ai3 hjn
     generalize l[j]'hjn=y at hy
     have hys:s[j]? =some y:=by
       have:(l.drop j)[0]? =some y:=by rw[List.getElem?_drop];exact hy
       rw[hd,List.getElem?_drop]at this;exact this
     obtain⟨e,he⟩:=iG F y
     rw[Ay hy,Option.bind_some,he,Option.bind_some]
     have hfr:(!decide (e≠0))=E8 f y:=by rw[X5 he];by_cases e0:e=0<;>simp[e0]
     have wi:IntKind.i64.wrap ((i:Int)+1)=((i+1:Nat):Int):=Q1 (by omega)
     have wj:IntKind.i64.wrap ((j:Int)+1)=((j+1:Nat):Int):=Q1 (by omega)
     have hts:(s.take (j+1)).filter (E8 f)=(s.take j).filter (E8 f)++[y].filter (E8 f):=by rw[Bx hys,List.filter_append]
     rw[hfr,wi,wj]
     have hd2:∀ l':List Int,l'.drop j=s.drop j→l'.drop (j+1)=s.drop (j+1):=fun l' h=>by
       have:=congrArg (List.drop 1) h
       rwa [List.drop_drop,List.drop_drop]at this
     cases hf:E8 f y with
     | false=>
       rw[cond_false]
       refine .inl ⟨_,rfl,⟨i,j+1,rfl,rfl,by omega,by omega,hl,?_,hd2 _ hd⟩,by dsimp only;omega⟩
       rw[hts,ht,List.filter_cons_of_neg (by rw[hf];decide),List.filter_nil,List.append_nil]
     | true=>
       rw[cond_true]
       have hi:l[i]? =some (l[i]'(by omega)):=Ai3 (by omega)
       rw[Ay hi,Option.bind_some]
       refine .inl ⟨_,rfl,⟨i+1,j+1,rfl,rfl,by omega,by omega,by simp[hl],?_,?_⟩,by dsimp only;omega⟩
       ·rw[hts,List.filter_cons_of_pos hf,List.filter_nil,← ht,Int.toNat_natCast]
        have hi2:(l.set i y)[i]? =some y:=by rw[List.getElem?_set_self (by omega)]
        rw[Bx hi2,List.take_set_of_le (Nat.le_refl _)]
       ·rw[Int.toNat_natCast]
        refine hd2 _ ?_
        rw[List.drop_set_of_lt hij];exact hd
    ·have e:j=s.length:=by omega
     subst e
     rw[Ai2 (by omega),cond_false,Oz (by omega),Oz (by omega),Int.toNat_natCast]
     rw[List.take_length]at ht
     have hti:((l.take i)++(List.replicate (l.length - i) (0:Int))).take i=s.filter (E8 f):=by
       rw[List.take_append_of_le_length (by rw[List.length_take];omega),List.take_take,Nat.min_self,ht]
     rw[hti]
     have:=j6 F (s:=s.filter (E8 f)) (by have:=List.length_filter_le (E8 f) s;omega)
     have e5:Jt f=Dm f:=rfl
     rw[e5,this]
     exact .inr ⟨_,rfl,rfl⟩) fuel ((k:Int),(k:Int)+1,s) ⟨k,k+1,rfl,rfl,by omega,by omega,rfl,(by dsimp only;rw[Bx hk,List.filter_append,hb,List.filter_cons_of_neg (by rw[hx];decide),List.filter_nil,List.append_nil]),rfl⟩ (by unfold fuel;dsimp only;omega)
  ·rw[h1,h2]
noncomputable def Ni (f:Aj) (runs:List Int):List Int:=gfp (lnk f) ((norm runs).filter (E8 f))
theorem vT (xs:List Int):(norm xs).length≤xs.length:=Jd (Uh xs).nodup fun x hx=>(Ug xs x).1 hx
theorem rY {f:Aj} (F:FOK f) {runs:List Int} (h:runs.length≤1000):E6 f runs=some (Ni f runs):=by
  have hl:=vT runs
  unfold E6
  rw[O4 (by omega),Option.bind_some,Ci (by omega),Ci (by omega)]
  show((Am (Fc f runs) 0 (norm runs) ()).bind fun o1=>o1.on fun s1=>(Ea (Dm f) fuel (norm runs)).bind fun o33=>o33.on fun _=>none)=_
  rcases Fe (step:=Fc f runs) (l:=norm runs) (s:=()) (fun k _=>((norm runs).take k).filter (E8 f)=(norm runs).take k) (fun r=>r=Ni f runs) rfl (fun k x u hk hI=>by
    have hlt:=(List.getElem?_eq_some_iff.1 hk).1
    obtain⟨e,he⟩:=iG F x
    unfold Fc
    rw[he,Option.bind_some]
    by_cases e0:e=0
    ·rw[Ai2 (p:=e≠0) (fun h=>h e0)]
     refine .inl ⟨_,rfl,?_⟩
     have hf:E8 f x=true:=by rw[X5 he,Ai1 e0]
     rw[Bx hk,List.filter_append,hI,List.filter_cons_of_pos hf,List.filter_nil]
    ·rw[Ai1 (p:=e≠0) e0,cond_true,Ai2 (p:=((k:Nat):Int)= -1) (by omega),cond_false]
     have hf:E8 f x=false:=by rw[X5 he,Ai2 e0]
     have key:=wD F (s:=norm runs) (by omega) hk hf hI
     have hw:IntKind.i64.wrap (((k:Nat):Int)+1)=(k:Int)+1:=by rw[Q1 (by omega)];rfl
     change (∃ s',((Ea (Dr f) fuel (((k:Nat):Int),IntKind.i64.wrap (((k:Nat):Int)+1),norm runs)).bind fun o16=>o16.on fun _=>none).bind (fun q30=>some (Out.ret q30))=_∧_)∨(∃ r,((Ea (Dr f) fuel (((k:Nat):Int),IntKind.i64.wrap (((k:Nat):Int)+1),norm runs)).bind fun o16=>o16.on fun _=>none).bind (fun q30=>some (Out.ret q30))=_∧_)
     rw[hw,key]
     exact .inr ⟨_,rfl,rfl⟩)with ⟨s',h1,h2⟩ | ⟨r,h1,rfl⟩
  ·rw[List.take_length]at h2
   rw[h1]
   show(Ea (Dm f) fuel (norm runs)).bind _=_
   rw[j6 F (by omega)]
   unfold Ni
   rw[h2];rfl
  ·rw[h1];rfl
theorem fP {α:Type} {idf:α→Int} {l:List α} (h:Jq idf l):Inc (l.map idf):=W46.qK fun k x y hx hy=>by
  rw[List.getElem?_map]at hx hy
  obtain⟨a,ha,rfl⟩:=Option.map_eq_some_iff.1 hx
  obtain⟨b,hb,rfl⟩:=Option.map_eq_some_iff.1 hy
  exact h k a b ha hb
theorem cP {l:List Int} (h:Inc l) (p:Int→Bool):Inc (l.filter p):=List.Pairwise.filter p h
theorem qL {l l':List Int} (h:Inc l) (hs:l'.Sublist l):Inc l':=List.Pairwise.sublist hs h
theorem tT {L:List Int→Int→Bool} (n:Nat) (s:List Int):iter L (n+1) s=stp L (iter L n s):=by rw[gO n 1 s];rfl
theorem mM {f:Aj} (F:FOK f) (runs:List Int):Y9 f runs=some (Ni f runs):=by
  have hR:=F.map.lenR
  unfold Y9
  rw[C4 (step:=Ta f runs) (p:=fun x=>decide (x.ID∈runs)&&E8 f x.ID) (g:=Ce.ID) (by omega) (fun k x t hx=>by
   unfold Ta
   have hm:=mK F.map hx
   have h1:=dA F (run:=x.ID) (by rw[hm])
   rw[hm]at h1
   obtain⟨e,h2,h3⟩:=h1
   rw[Wc,Option.bind_some,h3,Option.bind_some,X5 h2]
   cases decide (x.ID∈runs)<;>rfl)]
  show S9 f _=_
  generalize hnow:(f.Map.Runs.filter fun x=>decide (x.ID∈runs)&&E8 f x.ID).map Ce.ID=now
  have hlen:now.length≤f.Map.Runs.length:=by rw[← hnow,List.length_map];exact List.length_filter_le _ _
  have heq:now=(norm runs).filter (E8 f):=by
    refine Ph ?_ (cP (Uh runs) _) fun x=>?_
    ·rw[← hnow]
     exact qL (fP F.map.runsR) (List.filter_sublist.map _)
    ·rw[← hnow,List.mem_map,List.mem_filter,Ug]
     constructor
     ·rintro⟨y,hy,rfl⟩
      rw[List.mem_filter,Bool.and_eq_true,decide_eq_true_iff]at hy
      exact hy.2
     ·rintro⟨h1,h2⟩
      have hr:=bH (wQ h2)
      refine⟨(Jz f.Map x).1,List.mem_filter.2 ⟨hr.1,?_⟩,hr.2⟩
      rw[hr.2,Ai1 h1,h2];rfl
  unfold S9
  obtain⟨s',h1,h2⟩:=aH (ρ:=List Int) (n:=f.Map.Runs.length+1) (step:=Tc f) (s:=now) (by omega) (fun k s=>s=iter (lnk f) k now) rfl (fun k s hk hI=>by
    have hs:s.length≤64:=by rw[hI];exact Nat.le_trans (gN _ _).length_le (by omega)
    refine⟨stp (lnk f) s,?_,by rw[hI,← tT]⟩
    obtain⟨r,g1,g2⟩:=fQ F.map s
    unfold Tc
    rw[(cK F).2,Option.bind_some,g1,Option.bind_some]
    rw[C4 (step:=Tb f s (pub f) r) (p:=lnk f s) (g:=id) (by omega) (fun k x t hx=>by
     obtain⟨b,_,f1,f3⟩:=cY F.map (pub f) s x
     unfold Tb
     rw[Xw,Option.bind_some,f1,Option.bind_some,Wc,Option.bind_some]
     cases b with
     | false=>
       have:lnk f s x=false:=by
         rw[Bool.eq_false_iff];intro h;have:=f3.2 (Rw.1 h).1;cases this
       rw[this];rfl
     | true=>
       have:lnk f s x=decide ((Jz f.Map x).1.To∈r):=by
         rw[Bool.eq_iff_iff,decide_eq_true_iff,Rw,g2.mem]
         exact⟨fun h=>h.2,fun h=>⟨f3.1 rfl,h⟩⟩
       rw[this];rfl),List.map_id]
    rfl)
  rw[h1,h2]
  show some (iter (lnk f) (f.Map.Runs.length+1) now)=_
  rw[dV (St (f.Map.Runs.length+1) now (by omega)),heq];rfl
theorem wB {f:Aj} {runs:List Int} {x:Int} (h:x∈Ni f runs):x∈runs∧E8 f x=true:=by
  have:=List.mem_filter.1 ((r6 _).subset h)
  rw[Ug]at this;exact this
theorem wC (f:Aj) (runs:List Int):Inc (Ni f runs):=qL (cP (Uh runs) _) (r6 _)
theorem lQ (a b:List Int):Ov a b=some (decide (a=b)):=
  vF fun k x y hx hy=>by unfold Pe;rw[Ay hy];rfl
theorem gQ {most:Int} {l:List Int} (h:S50.S5 most l):(l.length:Int)≤most∨l.length=0:=by
  by_cases e:l.length=0
  ·exact .inr e
  ·left
   have hx:l[l.length - 1]? =some (l[l.length - 1]'(by omega)):=Ai3 (by omega)
   have h1:=W46.gP h.2 (fun x hx=>(h.1 x hx).1) _ _ hx
   have h2:=(h.1 _ (Ai4 hx)).2
   omega
theorem Ya {α ρ:Type} {step:Nat→α→List α→Option (Out (List α) ρ)} {c:α→Option α} {l:List α} (hl:l.length≤1000) (hs:∀ k x s,step k x s=(c x).bind fun y=>chk (s.length+1) (some (.next (s++[y])))) (hc:∀ x∈l,c x=some x):Am step 0 l []=some (.next l):=by
  rw[C4 (p:=fun _=>true) (g:=id) (by omega) (fun k x s hx=>by rw[hs,hc x hx];rfl),List.map_id,List.filter_eq_self.2 (fun _ _=>rfl)]
theorem Aa4 {x:Cj} (h:x.List_.Items.length≤64∧x.List_.Signs.length≤200):Eo x=some x:=by
  unfold Eo C6
  rw[O4 (by omega),Option.bind_some,Ci (by omega)];rfl
theorem Aa3 {x:Bd} (h:S50.Bu x):En x=some x:=by
  have h1:=gQ h.2.1
  have h2:=gQ h.2.2
  unfold En
  rw[O4 (by omega),Option.bind_some,O4 (by omega)];rfl
theorem Aa2 {x:Bp} (h:x.Zones.length≤32):Em x=some x:=by
  unfold Em
  rw[O4 (by omega)];rfl
theorem Aa1 {x:A8} (h:x.Runs.length≤9999):El x=some x:=by
  unfold El
  rw[O4 (by omega)];rfl
def Pz (l:List Bi):List Int:=(l.filter fun x=>x.Open).map Bi.Run
theorem vR (l:List Bi):(Pz l).length≤l.length:=by unfold Pz;rw[List.length_map];exact List.length_filter_le _ _
theorem cL {f:Aj} (h:f.Status.length≤1000):Cw f=some (Pz f.Status):=by
  unfold Cw
  rw[C4 (step:=Fw) (p:=fun x=>x.Open) (g:=Bi.Run) (by omega) (fun k x s _=>rfl)];rfl
theorem rU {f:Aj} (h:f.Status.length≤1000):bM f=some (Pz f.Status):=cL h
theorem vS {l:List Bi} (h:Jq Bi.Run l):Inc (Pz l):=qL (fP h) (List.filter_sublist.map _)
def L7 (K:List Int) (x:Bi):Bool:=x.Open&&!decide (x.Run∈K)
def Uq (K:List Int) (t:Int) (x:Bi):Bi:=bif L7 K x then⟨x.Run,false,t⟩else x
def fH (f:Aj) (l:List Bi):Aj:=Aj.mk f.Map f.Lifts f.Closures f.Patrol f.Surfaces f.Packs f.Slides f.Bulletin f.Missions f.Winches f.Groomers l f.Depth f.Time
theorem u1 (f:Aj) (K:List Int) {l:List Bi} (hl:l.length≤1000):Am (Er f K) 0 l (l,[])=some (.next (l.map (Uq K f.Time),(l.filter (L7 K)).map Bi.Run)):=by
  obtain⟨s',h1,h2⟩:=Dt (ρ:=Aj×List Int) (step:=Er f K) (l:=l) (s:=(l,[])) (fun k s=>s=((l.take k).map (Uq K f.Time)++l.drop k,((l.take k).filter (L7 K)).map Bi.Run)) (by simp) (fun k x s hk hI=>by
    have hlt:=(List.getElem?_eq_some_iff.1 hk).1
    have hlen:((l.take k).map (Uq K f.Time)).length=k:=by simp;omega
    have hx:s.1[k]? =some x:=by
      rw[hI];dsimp only
      rw[List.getElem?_append_right (by omega),hlen,Nat.sub_self,List.getElem?_drop];exact hk
    have hs2:s.2.length≤k:=by
      rw[hI];dsimp only
      rw[List.length_map]
      have:=List.length_filter_le (L7 K) (l.take k)
      rw[List.length_take]at this;omega
    have hset:∀ y:Bi,s.1.set k y=(l.take k).map (Uq K f.Time)++y::l.drop (k+1):=fun y=>by
      rw[hI];dsimp only
      rw[List.set_append_right _ _ (by omega),hlen,Nat.sub_self,List.drop_eq_getElem_cons hlt];rfl
    have hsame:s.1=(l.take k).map (Uq K f.Time)++x::l.drop (k+1):=by
      rw[hI];dsimp only
      rw[List.drop_eq_getElem_cons hlt]
      rw[Ai3 hlt]at hk
      rw[Option.some.inj hk]
    unfold Er
    rw[Ay hx,Option.bind_some,contains_eq,Option.bind_some]
    rw[Bx hk,List.map_append,List.filter_append,List.map_append,List.append_assoc]
    have hu:Uq K f.Time x=bif L7 K x then⟨x.Run,false,f.Time⟩else x:=rfl
    have hsh:L7 K x=(x.Open&&!decide (x.Run∈K)):=rfl
    cases ho:x.Open with
    | false=>
      rw[ho]at hsh
      have hsh:L7 K x=false:=hsh
      rw[cond_false,List.filter_cons_of_neg (by rw[hsh];decide)]
      rw[hsh]at hu
      refine⟨_,rfl,?_⟩
      rw[Prod.mk.injEq]
      exact⟨by rw[hsame];simp[hu],by rw[hI];simp⟩
    | true=>
      rw[ho,Bool.true_and]at hsh
      rw[cond_true]
      cases hd:decide (x.Run∈K)with
      | true=>
        rw[hd]at hsh
        have hsh:L7 K x=false:=hsh
        rw[List.filter_cons_of_neg (by rw[hsh];decide)]
        rw[hsh]at hu
        refine⟨_,rfl,?_⟩
        rw[Prod.mk.injEq]
        exact⟨by rw[hsame];simp[hu],by rw[hI];simp⟩
      | false=>
        rw[hd]at hsh
        have hsh:L7 K x=true:=hsh
        rw[List.filter_cons_of_pos hsh]
        rw[hsh]at hu
        rw[Bool.not_false,cond_true,Ci (by omega)]
        refine⟨_,rfl,?_⟩
        rw[Prod.mk.injEq]
        exact⟨by rw[List.set_set,hset];simp[hu],by rw[hI];simp⟩)
  rw[List.take_length,List.drop_length,List.append_nil]at h2
  rw[h1,h2]
theorem jN {f:Aj} (F:FOK f) (W:rJ f):Ex f=some (fH f (f.Status.map (Uq (Ni f (Pz f.Status)) f.Time)),(f.Status.filter (L7 (Ni f (Pz f.Status)))).map Bi.Run):=by
  have M:=F.map
  have hS:=F.statL
  have hn:=vR f.Status
  have:=M.lenN
  have:=M.lenL
  have:=M.lenR
  have:=M.lenB
  have:=F.liftsL
  have:=F.packsL
  have:=F.listsL
  have:=F.misL
  have:=W.closures
  have:=W.hazards
  have:=W.surfaces
  have:=W.slides
  have:=W.bulletin
  have:=W.winches
  have:=W.groomers
  have q1:=Ya (ρ:=Aj×List Int) (step:=G6) (c:=Eo) (l:=f.Patrol.Bu) (by omega) (fun k x s=>rfl) (fun x hx=>Aa4 (F.lists x hx))
  have q2:=Ya (ρ:=Aj×List Int) (step:=G5) (c:=En) (l:=f.Slides) (by omega) (fun k x s=>rfl) (fun x hx=>Aa3 (F.slides.at hx).2)
  have q3:=Ya (ρ:=Aj×List Int) (step:=G4) (c:=Em) (l:=f.Bulletin) (by omega) (fun k x s=>rfl) (fun x hx=>Aa2 (F.bul x hx))
  have q4:=Ya (ρ:=Aj×List Int) (step:=G3) (c:=El) (l:=f.Winches) (by omega) (fun k x s=>rfl) (fun x hx=>Aa1 (F.ropes.rope x hx).runs.len)
  unfold Ex
  rw[cL (by omega),Option.bind_some,rY F (by omega),Option.bind_some]
  unfold C7 C8 Df Cf Cq Cu Cm Cn Co Cp Dv
  rw[Ci (n:=f.Map.Nodes.length) (by omega),Option.bind_some,Ci (n:=f.Map.Lifts.length) (by omega),Option.bind_some,Ci (n:=f.Map.Runs.length) (by omega),Option.bind_some,O4 (by omega),Option.bind_some,
   Ci (n:=f.Lifts.length) (by omega),Option.bind_some,Ci (n:=f.Closures.length) (by omega),Option.bind_some,Ci (n:=f.Patrol.Bu.length) (by omega),q1,Option.bind_some]
  show(chk f.Patrol.Hazards.length (some f.Patrol.Hazards)).bind _=_
  rw[Ci (n:=f.Patrol.Hazards.length) (by omega),Option.bind_some,Ci (n:=f.Surfaces.length) (by omega),Option.bind_some,Ci (n:=f.Packs.length) (by omega),Option.bind_some,Ci (n:=f.Slides.length) (by omega),q2,Option.bind_some]
  show chk f.Bulletin.length _=_
  rw[Ci (n:=f.Bulletin.length) (by omega),q3,Option.bind_some]
  show(chk f.Missions.length (some f.Missions)).bind _=_
  rw[Ci (n:=f.Missions.length) (by omega),Option.bind_some,Ci (n:=f.Winches.length) (by omega),q4,Option.bind_some]
  show(chk f.Groomers.length (some f.Groomers)).bind _=_
  rw[Ci (n:=f.Groomers.length) (by omega),Option.bind_some,Ci (n:=f.Status.length) (by omega),Option.bind_some,u1 f _ (by omega)]
  rfl
theorem pN {f:Aj} (F:FOK f):Uw f=some (fH f (f.Status.map (Uq (Ni f (Pz f.Status)) f.Time)),(f.Status.filter (L7 (Ni f (Pz f.Status)))).map Bi.Run):=by
  have hS:=F.statL
  unfold Uw
  rw[rU (by omega),Option.bind_some,mM F,Option.bind_some]
  generalize Ni f (Pz f.Status)=K
  obtain⟨s',h1,h2⟩:=Dt (ρ:=Aj×List Int) (step:=Qa f K) (l:=f.Status) (s:=([],[])) (fun k s=>s=((f.Status.take k).map (Uq K f.Time),((f.Status.take k).filter (L7 K)).map Bi.Run)) rfl (fun k x s hk hI=>by
    have hlt:=(List.getElem?_eq_some_iff.1 hk).1
    have hs1:s.1.length≤k:=by rw[hI];simp;omega
    have hs2:s.2.length≤k:=by
      rw[hI];dsimp only
      rw[List.length_map]
      have:=List.length_filter_le (L7 K) (f.Status.take k)
      rw[List.length_take]at this;omega
    unfold Qa
    rw[Wc,Option.bind_some,Bx hk,List.map_append,List.filter_append,List.map_append]
    have hu:Uq K f.Time x=bif L7 K x then⟨x.Run,false,f.Time⟩else x:=rfl
    have hsh:L7 K x=(x.Open&&!decide (x.Run∈K)):=rfl
    obtain⟨xr,xo,xs⟩:=x
    dsimp only at *
    cases xo with
    | false=>
      have hsh:L7 K ⟨xr,false,xs⟩=false:=hsh
      rw[cond_false,Ci (by omega),List.filter_cons_of_neg (by rw[hsh];decide)]
      rw[hsh]at hu
      refine⟨_,rfl,?_⟩
      rw[Prod.mk.injEq]
      exact⟨by rw[hI];simp[hu],by rw[hI];simp⟩
    | true=>
      rw[Bool.true_and]at hsh
      rw[cond_true]
      cases hd:decide (xr∈K)with
      | true=>
        rw[hd]at hsh
        have hsh:L7 K ⟨xr,true,xs⟩=false:=hsh
        rw[List.filter_cons_of_neg (by rw[hsh];decide)]
        rw[hsh]at hu
        rw[Bool.not_true,cond_false,Ci (by omega)]
        refine⟨_,rfl,?_⟩
        rw[Prod.mk.injEq]
        exact⟨by rw[hI];simp[hu],by rw[hI];simp⟩
      | false=>
        rw[hd]at hsh
        have hsh:L7 K ⟨xr,true,xs⟩=true:=hsh
        rw[List.filter_cons_of_pos hsh]
        rw[hsh]at hu
        rw[Bool.not_false,cond_true,Ci (by omega),Ci (by omega)]
        refine⟨_,rfl,?_⟩
        rw[Prod.mk.injEq]
        exact⟨by rw[hI];simp[hu],by rw[hI];simp⟩)
  rw[List.take_length]at h2
  rw[h1,h2];rfl
theorem bff {α:Type} {c:Bool} {a b r:α} (hc:c=false) (h:b=r):(bif c then a else b)=r:=by subst hc;exact h
theorem bft {α:Type} {c:Bool} {a b r:α} (hc:c=true) (h:a=r):(bif c then a else b)=r:=by subst hc;exact h
theorem xO {f:Aj} (F:FOK f):Ag (Dp f) (Y8 f):=by
  have:=F.statL
  unfold Dp Y8
  rw[cL (by omega),rU (by omega),Option.bind_some,Option.bind_some]
  refine Ag.bind (Ag.Am fun i x s _=>?_) fun o _ _=>Ag.on fun _ _=>Ag.some _
  obtain⟨e,h1,h2,_⟩:=u0 F (Pz f.Status) x
  unfold Jr Yu
  rw[h1,h2]
  exact Ag.bif rfl (fun _=>Ag.some _) fun _=>Ag.some _
theorem jR {f:Aj} (F:FOK f) {b:Bool} (h:Y8 f=some b):Dp f=some b:=by rw[(xO F).eq,h]
theorem T3 {f:Aj} (F:FOK f) {op:List Int} {run e:Int} (h:Ub f op run=some e):C0 f op run=some e:=by
  obtain⟨e',h1,h2,_⟩:=u0 F op run
  rw[h]at h2;rw[h1,Option.some.inj h2]
def z54:Aj:=Aj.mk (Bb.mk [] [] [] []) [] [] (Ca.mk [] []) [] [] [] [] [] [] [] [] (0:Int) (0:Int)
theorem m7 {f:Aj} (F:FOK f) (hs:f.Status=[]) {run e:Int} (hr:(Jz f.Map run).2=true) (he:e≠0) (h:Ub f [run] run=some e):F3 f run=some (z54,e):=by
  unfold F3
  rw[Sh,Option.bind_some,hr,cL (by rw[hs];decide),Option.bind_some,contains_eq,Option.bind_some,hs]
  refine bff rfl (bff rfl ?_)
  refine Dz (x:=.next ()) rfl ?_
  rw[Out.on]
  refine bff rfl ?_
  rw[Ci (by decide)]
  show(C0 f [run] run).bind _=_
  rw[T3 F h,Option.bind_some]
  exact bft (Ai1 he) rfl
def Eb:Aj:=(Aj.mk (Bb.mk [(Ck.mk (1:Int) (1000:Int)),(Ck.mk (2:Int) (2000:Int)),(Ck.mk (3:Int) (1500:Int))] [(Cc.mk (1:Int) (1:Int) (1:Int) (2:Int) (1000:Int) (5000:Int) (4:Int) (50:Int))] [(Ce.mk (1:Int) (1:Int) (2:Int) (3:Int) (2:Int) (1:Int) (800:Int)),(Ce.mk (2:Int) (1:Int) (3:Int) (1:Int) (2:Int) (1:Int) (800:Int))] [(1:Int)]) [(Cr.mk (1:Int) (1:Int))] [] (Ca.mk [(Cj.mk (1:Int) (Br.mk [] (60:Int) [])),(Cj.mk (2:Int) (Br.mk [] (60:Int) []))] []) [] [(C5.mk (1:Int) (100:Int) (Fm.mk (0:Int) (450:Int) (450:Int))),(C5.mk (2:Int) (100:Int) (Fm.mk (0:Int) (450:Int) (450:Int)))] [] [] [] [] [] [] (300:Int) (0:Int))
def Aag:List Bi:=[(Bi.mk (1:Int) true (0:Int)),(Bi.mk (2:Int) true (0:Int))]
def exA:Aj:=fH Eb Aag
def exB:Aj:=Aj.mk Eb.Map Eb.Lifts [(Bl.mk (1:Int) (2:Int) (1:Int) (0:Int))] Eb.Patrol Eb.Surfaces Eb.Packs Eb.Slides Eb.Bulletin Eb.Missions Eb.Winches Eb.Groomers Aag Eb.Depth Eb.Time
def exH:Aj:=Aj.mk Eb.Map Eb.Lifts Eb.Closures (Ca.mk Eb.Patrol.Bu [(Cv.mk (1:Int) (1:Int) (0:Int))]) Eb.Surfaces Eb.Packs Eb.Slides Eb.Bulletin Eb.Missions Eb.Winches Eb.Groomers Eb.Status Eb.Depth Eb.Time
def exD:Aj:=Aj.mk Eb.Map Eb.Lifts Eb.Closures Eb.Patrol Eb.Surfaces Eb.Packs Eb.Slides Eb.Bulletin Eb.Missions Eb.Winches Eb.Groomers Eb.Status (1001:Int) Eb.Time
def exS:Aj:=Aj.mk Eb.Map Eb.Lifts Eb.Closures Eb.Patrol Eb.Surfaces Eb.Packs [(Bd.mk (1:Int) [(1:Int)] [] (100:Int) (100:Int) (-1:Int))] Eb.Bulletin Eb.Missions Eb.Winches Eb.Groomers Eb.Status Eb.Depth Eb.Time
theorem exI {f:Aj} (h1:f.Patrol.Bu=Eb.Patrol.Bu) (h2:f.Slides=[]∨f.Slides=[(Bd.mk (1:Int) [(1:Int)] [] (100:Int) (100:Int) (-1:Int))]) (h3:f.Bulletin=[]) (h4:f.Winches=[]):uX f∧f.Slides.length≤9223372036854775807:=by
  refine⟨⟨?_,?_,?_,?_⟩,?_⟩
  ·rw[h1];simp[Eb]
  ·rcases h2 with h2 | h2<;>rw[h2]<;>simp
  ·rw[h3];simp
  ·rw[h4];simp
  ·rcases h2 with h2 | h2<;>rw[h2]<;>simp
theorem uC {f:Aj} (h:uX f∧f.Slides.length≤9223372036854775807) (e:H0 f=some 0):FOK f:=wU h.1 h.2 e
theorem F0:FOK Eb:=uC (exI rfl (.inl rfl) rfl rfl) (by decide +kernel)
theorem FA:FOK exA:=uC (exI rfl (.inl rfl) rfl rfl) (by decide +kernel)
theorem FB:FOK exB:=uC (exI rfl (.inl rfl) rfl rfl) (by decide +kernel)
theorem FH:FOK exH:=uC (exI rfl (.inl rfl) rfl rfl) (by decide +kernel)
theorem FD:FOK exD:=uC (exI rfl (.inl rfl) rfl rfl) (by decide +kernel)
theorem FS:FOK exS:=uC (exI rfl (.inr rfl) rfl rfl) (by decide +kernel)
theorem W0:rJ Eb:=⟨by decide,by decide,by decide,by decide,by decide,by decide,by decide,by decide,by decide⟩
theorem WB:rJ exB:=⟨by decide,by decide,by decide,by decide,by decide,by decide,by decide,by decide,by decide⟩
theorem yV:Nh=some true:=by
  have o1:=m7 F0 rfl (run:=1) (e:=16) (by decide +kernel) (by decide) (by decide +kernel)
  have o2:=m7 F0 rfl (run:=2) (e:=16) (by decide +kernel) (by decide) (by decide +kernel)
  have hR:Gc Eb=some 0:=by
    rw[(kF Eb W0 (exI rfl (.inl rfl) rfl rfl).1 (by decide) (by decide) (by decide)).eq];decide +kernel
  have hK:E6 Eb [1,2]=some [1,2]:=by
    rw[rY F0 (by decide),← mM F0];decide +kernel
  have hU:=jN FB WB
  rw[← pN FB]at hU
  have hU2:(Uw exB).map (fun p=>(p.2,Pz p.1.Status,decide (p.1.Status.length≤1000)))=some ([1,2],[],true):=by decide +kernel
  obtain⟨p,hp,hq⟩:=Option.map_eq_some_iff.1 hU2
  rw[hp]at hU
  rw[Prod.mk.injEq,Prod.mk.injEq]at hq
  unfold Nh
  refine Dz (x:=Eb) rfl ?_
  refine Dz o1 ?_
  refine Dz o2 ?_
  refine Dz hR ?_
  refine bff rfl (bff rfl (bff rfl ?_))
  refine Dz hK ?_
  refine Dz (lQ _ _) ?_
  refine bff rfl ?_
  refine Dz (jR FA (b:=true) (by decide +kernel)) ?_
  refine bff rfl ?_
  refine Dz (x:=[1,2]) rfl ?_
  refine Dz (lQ _ _) ?_
  refine bff rfl ?_
  refine Dz hU ?_
  refine Dz (jR FB (b:=false) (by decide +kernel)) ?_
  refine bff rfl ?_
  refine Dz (lQ _ _) ?_
  rw[hq.1]
  refine bff rfl ?_
  refine Dz (cL (Ai0 hq.2.2)) ?_
  rw[hq.2.1]
  refine bff rfl ?_
  refine Dz (T3 FH (e:=14) (by decide +kernel)) ?_
  refine bft rfl ?_
  refine Dz (T3 FD (e:=5) (by decide +kernel)) ?_
  refine bft rfl ?_
  refine Dz (T3 FS (e:=10) (by decide +kernel)) ?_
  refine bft rfl ?_
  refine Dz (T3 F0 (e:=8) (by decide +kernel)) ?_
  refine bft rfl ?_
  refine Dz (T3 F0 (e:=0) (by decide +kernel)) ?_
  rfl
theorem sW (f:Aj):Tot (Kx f):=by
  unfold Kx
  repeat' first | exact Tot.some _ | refine Tot.bif (fun _=>?_) (fun _=>?_)
theorem bfs {c:Bool} {b:Option Bool} (h:(bif c then some false else b)=some true):c=false∧b=some true:=by
  cases c with
  | false=>exact ⟨rfl,h⟩
  | true=>cases h
theorem bts {c:Bool} {b:Option Bool} (h:(bif c then b else some false)=some true):c=true∧b=some true:=by
  cases c with
  | true=>exact ⟨rfl,h⟩
  | false=>cases h
theorem vC {f:Aj} (h:Kx f=some true):rJ f∧f.Lifts.length≤12∧f.Packs.length≤12∧f.Status.length≤12:=by
  unfold Kx at h
  obtain⟨_,h⟩:=bfs h
  obtain⟨_,h⟩:=bfs h
  obtain⟨_,h⟩:=bfs h
  obtain⟨_,h⟩:=bfs h
  obtain⟨a1,h⟩:=bfs h
  obtain⟨a2,h⟩:=bfs h
  obtain⟨a3,h⟩:=bfs h
  obtain⟨a4,h⟩:=bfs h
  obtain⟨a5,h⟩:=bfs h
  obtain⟨a6,h⟩:=bfs h
  obtain⟨a7,h⟩:=bfs h
  obtain⟨a8,h⟩:=bfs h
  obtain⟨a9,h⟩:=bts h
  obtain⟨a10,h⟩:=bts h
  obtain⟨a11,h⟩:=bts h
  have a12:=Ai0 (Option.some.inj h)
  have a1:=Aiz a1
  have a2:=Aiz a2
  have a3:=Aiz a3
  have a4:=Aiz a4
  have a5:=Aiz a5
  have a6:=Aiz a6
  have a7:=Aiz a7
  have a8:=Aiz a8
  have a9:=Ai0 a9
  have a10:=Ai0 a10
  have a11:=Ai0 a11
  exact⟨⟨by omega,by omega,by omega,by omega,by omega,by omega,by omega,by omega,by omega⟩,by omega,by omega,by omega⟩
theorem mO {f:Aj} (h:Sc f) (l:List Int):Ky f l=some false∨(Ky f l=some true∧l.length≤40∧rJ f∧FOK f):=by
  unfold Ky
  cases hl:decide (((l.length:Nat):Int)≤40)with
  | false=>exact .inl rfl
  | true=>
    have hl:=Ai0 hl
    obtain⟨b,hb⟩:=sW f
    rw[hb,cond_true,Option.bind_some]
    cases b with
    | false=>exact .inl rfl
    | true=>
      obtain⟨W,w1,w2,w3⟩:=vC hb
      obtain⟨e,_,he⟩:=kF f W (sA h) (by omega) (by omega) (by omega)
      rw[he,cond_true,Option.bind_some]
      by_cases e0:e=0
      ·subst e0
       exact .inr ⟨rfl,by omega,W,wU (sA h) h.2.2.2.2.2.2.1.1 he⟩
      ·rw[Ai2 e0];exact .inl rfl
theorem nB (K:List Int) (t:Int):∀ (l:List Bi),Pz (l.map (Uq K t))=(Pz l).filter fun x=>decide (x∈K)
  | []=>rfl
  | x::l=>by
    have ih:=nB K t l
    unfold Pz at *
    obtain⟨xr,xo,xs⟩:=x
    cases xo with
    | false=>
      have hu:Uq K t ⟨xr,false,xs⟩=⟨xr,false,xs⟩:=rfl
      rw[List.map_cons,hu,List.filter_cons_of_neg (by simp),List.filter_cons_of_neg (by simp)]
      exact ih
    | true=>
      by_cases hx:xr∈K
      ·have hu:Uq K t ⟨xr,true,xs⟩=⟨xr,true,xs⟩:=by unfold Uq L7;rw[Ai1 (p:=(Bi.mk xr true xs).Run∈K) hx];rfl
       rw[List.map_cons,hu,List.filter_cons_of_pos rfl,List.filter_cons_of_pos rfl,List.map_cons,List.map_cons,List.filter_cons_of_pos (by simpa using hx),ih]
      ·have hu:Uq K t ⟨xr,true,xs⟩=⟨xr,false,t⟩:=by unfold Uq L7;rw[Ai2 (p:=(Bi.mk xr true xs).Run∈K) hx];rfl
       rw[List.map_cons,hu,List.filter_cons_of_neg (by simp),List.filter_cons_of_pos rfl,List.map_cons,List.filter_cons_of_neg (by simpa using hx),ih]
theorem x1 {f:Aj} (F:FOK f) (t:Int):Pz (f.Status.map (Uq (Ni f (Pz f.Status)) t))=Ni f (Pz f.Status):=by
  rw[nB]
  refine Ph (cP (vS F.statR) _) (wC f _) fun x=>?_
  rw[List.mem_filter,decide_eq_true_iff]
  exact⟨fun h=>h.2,fun h=>⟨(wB h).1,h⟩⟩
theorem Tj (f:Aj) (h:Sc f):G1 f=some true:=by
  unfold G1
  refine Dz yV (bff rfl ?_)
  rcases mO h []with hb | ⟨hb,hl,W,F⟩
  ·exact Dz hb rfl
  refine Dz hb (bff rfl ?_)
  have hS:=F.statL
  refine Dz (jN F W) ?_
  refine Dz (cL (f:=fH f _) (by unfold fH;dsimp only;rw[List.length_map];omega)) ?_
  obtain⟨r,e1,e2⟩:=fQ F.map (Ni f (Pz f.Status))
  have hn:Pz (fH f (f.Status.map (Uq (Ni f (Pz f.Status)) f.Time))).Status=Ni f (Pz f.Status):=x1 F f.Time
  rw[hn]
  refine Dz e1 ?_
  generalize hy:((fH f (f.Status.map (Uq (Ni f (Pz f.Status)) f.Time)),(f.Status.filter (L7 (Ni f (Pz f.Status)))).map Bi.Run):Aj×List Int)=y
  have hm:y.1.Map=f.Map:=by rw[← hy];rfl
  have:Am (Ef y r) 0 (Ni f (Pz f.Status)) ()=some (.next ()):=Um.2 fun i x hx=>by
    have hx:=Ai4 hx
    have hlk:lnk f (Ni f (Pz f.Status)) x=true:=wM hx
    have hL:=Rw.1 hlk
    unfold Ef
    rw[hm,Xw,Option.bind_some,hL.1.1,Wc,Option.bind_some,Ai1 ((e2.mem _).2 hL.2)];rfl
  rw[this];rfl
end Go.Proofs.YtjopghiagoidgaaGreat
