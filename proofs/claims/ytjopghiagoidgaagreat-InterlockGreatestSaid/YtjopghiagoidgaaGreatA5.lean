/- Our own texts: a layer of abstract values over the model, the walks of the functions, the plain laws; joined and shortened by a small program of our own (wip/dce2.py, wip/pack.py). -/
import Derived.Test.YtjopghiagoidgaaGreatA4
import Derived.Calls
import Derived.Tactics2
import Derived.Below
import Derived.Deep.LoopGhost
import Derived.KernelRfl
import Derived.Laws.Shifts
import Derived.Laws.CopyRow
import Derived.Laws.AppendOwn
import Derived.Laws.MakeOwn
import Derived.Laws.StructEq
import Derived.Maps.RangeRun
import Derived.Lib.SliceRun
import Derived.TacticsIn
import Derived.OrdersIn
import Derived.Sort.LoopGhostIn
import Derived.RangeFuncRecord
import Derived.Orders
import Derived.ProofKit
import Derived.OpenShut
import Derived.ShutString
import Derived.ChangeOld
import Derived.Carry
import Derived.WideShapes
import Derived.ChangeArms
import Derived.ChangeShapes
import Derived.Handed
import Derived.JoinedOf
import Derived.Sort.Grow
import Derived.Lib.SlicesCompact
import Derived.Lib.SlKeysI
import Derived.Maps.Own
import Derived.WideKeyRuns
import Derived.Test.YtjopghiagoidgaaGreatChecked
import Derived.Test.YtjopghiagoidgaaGreatProg
import Derived.Shelf.SortM.Plain
import Derived.Shelf.SortM.SortNone
import Derived.Shelf.SlIterI.Nil
import Derived.Shelf.Slices.CompactI
namespace Go.Proofs.YtjopghiagoidgaaGreat
open Go Go.Ab
attribute [local irreducible] AWP An B7 Ad Go.Ab.Sub alist dlist Bn Df D7 G5
set_option maxRecDepth 100000
set_option maxHeartbeats 4000000
set_option linter.unusedSimpArgs false
set_option linter.unusedVariables false
noncomputable section
def Qw (b:Bl) (t:Int):Option (Bool):=
 (bif (decide (b.Span.From≤t))then some (decide (t<b.Span.To))else some false)
def Lg (t:Int) (k1:Nat) (x_3:Bl) (sv:Int):Option (Out (Int) (Int)):=
 (Qw x_3 t).bind fun y4=>(bif y4 then some (Out.next (if sv<x_3.Version then x_3.Version else sv))else some (Out.next sv))
def L8 (l:List Bl) (t:Int):Option (Int):=
 (Al (Lg t) 0 l 0).bind fun o1=>o1.on fun s1=>some s1
def lK (n_:Int) (k0:Nat) (x_2:Int) (sv:Unit):Option (Out (Unit) (Bool)):=
 (bif (decide (x_2=n_))then some (Out.ret true)else some (Out.next ()))
def jZ (l:List Int) (n_:Int):Option (Bool):=
 (Al (lK n_) 0 l ()).bind fun o0=>o0.on fun s0=>some false
def Wq (l:List Bl) (zone:Int) (low:Int) (high:Int) (t:Int) (k1:Nat) (x_3:Bl) (sv:Int):Option (Out (Int) (Int)):=
 (Qw x_3 t).bind fun y4=>(bif y4 then(L8 l t).bind fun y5=>(bif (decide (x_3.Version=y5))then (jZ x_3.Zones zone).bind fun y6=>(bif y6 then(bif (decide (x_3.Low<high))then (bif (decide (low<x_3.High))then some (Out.next (if sv<x_3.Level then x_3.Level else sv))else some (Out.next sv))else some (Out.next sv))else some (Out.next sv))else some (Out.next sv))else some (Out.next sv))
def Wr (l:List Bl) (zone:Int) (low:Int) (high:Int) (t:Int):Option (Int):=
 (Al (Wq l zone low high t) 0 l 0).bind fun o1=>o1.on fun s1=>some s1
def Mj (f_:Aj) (k2:Nat) (k5:Nat) (x_7:Cd) (sv:Int×Int):Option (Out (Int×Int) (Out ((List Int)) ((List Int)))):=
 (bif (decide (x_7.Zone≠(((k2:Nat):Int)+1)))then some (Out.next (sv.1,sv.2))else (M7 f_.Map x_7.To).bind fun y8=>(bif (decide (y8<sv.1))then (M7 f_.Map x_7.To).bind fun y9=>(M7 f_.Map x_7.From).bind fun y10=>(bif (decide (sv.2<y10))then (M7 f_.Map x_7.From).bind fun y11=>some (Out.next (y9,y11))else some (Out.next (y9,sv.2)))else (M7 f_.Map x_7.From).bind fun y12=>(bif (decide (sv.2<y12))then (M7 f_.Map x_7.From).bind fun y13=>some (Out.next (sv.1,y13))else some (Out.next (sv.1,sv.2)))))
def Gg (f_:Aj) (k2:Nat) (_x:Unit) (sv:(List Int)):Option (Out ((List Int)) ((List Int))):=
 (Al (Mj f_ k2) 0 f_.Map.Runs (9999,(-1))).bind fun o5=>o5.on fun s5=>(bif (decide (0≤s5.2))then (Wr f_.Bulletin (((k2:Nat):Int)+1) s5.1 s5.2 f_.Time).bind fun y14=>chk (sv.length+1) (some (Out.next (sv++[y14])))else chk (sv.length+1) (some (Out.next (sv++[(0:Int)]))))
def Qv (f_:Aj):Option ((List Int)):=
 (J5 (Gg f_) 32 []).bind fun o2=>o2.on fun s2=>some s2
def Wn (l:List Bk) (kind:Int) (target:Int) (k2:Nat) (_x:Unit) (sv:(List Int)):Option (Out ((List Int)) ((List Int))):=
 (Fw l kind target (((k2:Nat):Int)+1)).bind fun y4=>(bif (decide (0≤y4))then chk (sv.length+1) (some (Out.next (sv++[(((k2:Nat):Int)+1)])))else some (Out.next sv))
def aC (l:List Bk) (kind:Int) (target:Int):Option ((List Int)):=
 (J5 (Wn l kind target) 6 []).bind fun o2=>o2.on fun s2=>some s2
def bW (m:Bb) (l:List Bk) (run:Int):Option (Bool):=
 (Jj m run).bind fun y1=>(bif y1.2 then(aC l 1 run).bind fun y2=>(bif (decide (0<((y2.length:Nat):Int)))then some true else(aC l 3 y1.1.Zone).bind fun y3=>some (decide (0<((y3.length:Nat):Int))))else some false)
def dY (run:Int) (k0:Nat) (x_2:B4) (sv:Unit):Option (Out (Unit) (Bool)):=
 (bif (decide (x_2.State=2))then (bif (decide (x_2.Run=run))then some (Out.ret true)else some (Out.next ()))else some (Out.next ()))
def fU (l:List B4) (run:Int):Option (Bool):=
 (Al (dY run) 0 l ()).bind fun o0=>o0.on fun s0=>some false
def Rl (t:Int) (out1:List Int) (k2:Nat) (k3:Nat) (x_5:A8) (sv:Unit):Option (Out (Unit) (Out ((List Int)) ((List Int)))):=
 (bif (decide (x_5.From≤t))then (bif (decide (t<x_5.To))then (Q6 x_5.Runs (((k2:Nat):Int)+1)).bind fun y6=>(bif y6 then chk (out1.length+1) (some (Out.ret (Out.next (out1++[(((k2:Nat):Int)+1)]))))else some (Out.next ()))else some (Out.next ()))else some (Out.next ()))
def Rm (l:List A8) (t:Int) (k2:Nat) (_x:Unit) (sv:(List Int)):Option (Out ((List Int)) ((List Int))):=
 (Al (Rl t sv k2) 0 l ()).bind fun o3=>o3.on fun s3=>some (Out.next sv)
def Ws (l:List A8) (t:Int):Option ((List Int)):=
 (J5 (Rm l t) 9999 []).bind fun o2=>o2.on fun s2=>some s2
def Wl (n_:Int) (k0:Nat) (x_2:Int) (sv:Unit):Option (Out (Unit) (Bool)):=
 (bif (decide (x_2=n_))then some (Out.ret true)else some (Out.next ()))
def E5 (l:List Int) (n_:Int):Option (Bool):=
 (Al (Wl n_) 0 l ()).bind fun o0=>o0.on fun s0=>some false
theorem Pe (l:List Int) (n_:Int) {r:Bool} (h:E5 l n_=some r):Ad Tryz.prog 31 [.sl 1 (l.map A5),.int .i64 n_] (·= .bool r):=by
 refine Ad.nle (Ad.intro Tryz.func31 rfl rfl (by show _≤18;simp) ?_)
 unfold E5 at h
 refine nS (sq ?_)
 refine ar rfl (qn (sq (sq ?_)))
 refine ar rfl (qn (bk ?_))
 obtain⟨o0,hJ0,hO0⟩:=Af h
 clear h
 refine AWP.Bw (ι:=Nat×(Unit)×(Unit)) (fun zz=>[(0,.sl 1 (l.map A5)),(1,.int .i64 n_),(5,.int .i64 ((zz.1:Nat):Int))]) (fun zz=>[]) (fun zz=>zz.1≤l.length∧Al (Wl n_) zz.1 ((l).drop zz.1) zz.2.1=some o0) (fun zz=>l.length - zz.1) (0,(),()) ⟨Nat.zero_le _,hJ0⟩ cu cu (fun x=>⟨rfl,rfl,rfl⟩) ?_
 clear hJ0
 rintro⟨k0,⟨⟩,⟨⟩⟩ ⟨hk0,hJ0⟩
 dsimp only at hk0 hJ0 ⊢
 refine sq (sq ?_)
 refine rg rfl fun K j=>?_
 intro hm
 refine j _ _ (qn ?_)
 refine AWP.cond (Ak (fun hc=>?_) (fun hc=>?_))
 rotate_left
 ·obtain rfl:=Bf hJ0 (fun hl=>by have:=Ai7 hc;omega)
  have h:=Be hO0;try dsimp only at h
  have hkl:l.length=k0:=by have:=Ai7 hc;omega
  subst hkl
  refine xt (qe (qe (bs (qn (sq (ar rfl (qn (rt ?_))))))))
  cases h;exact en Tryz.results31
 have hlt0:k0<l.length:=by have:=Ai8 hc;omega
 obtain⟨x_2,b0,hx0_,h,hJ0⟩:=Ba hJ0 hlt0
 have hx0:=A2 hx0_
 have hw0:=wk (k:=k0) (by omega)
 unfold Wl at h;try dsimp only at h
 refine sk (qn (sq (bk (sq ?_))))
 refine rg rfl fun K j=>?_
 refine Bn.of (f:=A5) (l:=l) hx0 ?_
 refine nS ?_
 refine j _ _ (qn ?_)
 revert h;refine ca rfl (fun hc h=>?_) fun hc h=>?_
 ·refine sq (ar rfl (qn (rt (br (qr (qr ?_))))))
  obtain rfl:=Aa h
  obtain rfl:=Ae hJ0
  replace h:=Am hO0
  refine br (qr ?_)
  cases h;exact en Tryz.results31
 refine sk (bn (qn (ar rfl (qn ?_))))
 obtain rfl:=Aa h
 refine⟨(k0+1,(),()),⟨by dsimp only;omega,Ai hJ0⟩,by dsimp only;omega,?_,?_⟩
 ·exact cuw hw0
 exact cuw hw0
def Ml (last1:Int) (k5:Nat) (x_7:Bg) (sv:Int):Option (Out (Int) (Out (Int×(List Int)) ((List Int)))):=
 (Mz x_7).bind fun y8=>(bif y8 then(bif (decide (x_7.State≠0))then (bif (decide (last1<x_7.Slide))then (bif (decide (sv=0))then some (Out.next x_7.Slide)else (bif (decide (x_7.Slide<sv))then some (Out.next x_7.Slide)else some (Out.next sv)))else some (Out.next sv))else some (Out.next sv))else some (Out.next sv))
def Qa (l:List Bg) (sv:Int×(List Int)):Option (Out (Int×(List Int)) ((List Int))):=
 (Al (Ml sv.1) 0 l 0).bind fun o5=>o5.on fun s5=>(bif (decide (s5=0))then some (Out.ret sv.2)else chk (sv.2.length+1) (some (Out.next (s5,(sv.2++[s5])))))
def U0 (l:List Bg):Option ((List Int)):=
 (D8 (Qa l) fuel (0,[])).bind fun o3=>o3.on fun _=>none
def Ue (zone:Int) (y1:(List Int)) (k1:Nat) (x_3:Bd) (sv:Unit):Option (Out (Unit) (Bool)):=
 (E5 y1 x_3.ID).bind fun y4=>(bif y4 then(E5 x_3.Zones zone).bind fun y5=>(bif y5 then some (Out.ret true)else some (Out.next ()))else some (Out.next ()))
def Te (f_:Aj) (zone:Int):Option (Bool):=
 (U0 f_.Missions).bind fun y1=>(Al (Ue zone y1) 0 f_.Slides ()).bind fun o1=>o1.on fun s1=>some false
def Rj (levels:List Int) (k1:Nat) (x_3:Int) (sv:Int):Option (Out (Int) (Int)):=
 (bif (decide (x_3≤((levels.length:Nat):Int)))then (Dk levels (IntKind.i64.wrap (x_3 - 1))).bind fun x_4=>(bif (decide (((k1:Nat):Int)=0))then some (Out.next x_4)else (bif (decide (sv<x_4))then some (Out.next x_4)else some (Out.next sv)))else (bif (decide (((k1:Nat):Int)=0))then some (Out.next 0)else (bif (decide (sv<0))then some (Out.next 0)else some (Out.next sv))))
def dX (s_:Bd) (levels:List Int):Option (Int):=
 (Al (Rj levels) 0 s_.Zones 0).bind fun o1=>o1.on fun s1=>some s1
def Ri (s_:Bd) (levels:List Int):Option (Bool):=
 (dX s_ levels).bind fun y1=>(bif (decide (4<y1))then some true else(bif (decide (y1=4))then some (decide ((IntKind.i64.wrap (Int.tdiv s_.Limit 4))≤s_.Load))else (bif (decide (y1=3))then some (decide ((IntKind.i64.wrap (Int.tdiv s_.Limit 2))≤s_.Load))else some (decide (s_.Limit≤s_.Load)))))
def Rh (at_10:Int) (sv:Int×(List Int)):Option (Out (Int×(List Int)) (Out ((List Int)) (Out ((List Int)) ((List Int))))):=
 (bif (decide (at_10<sv.1))then (Dk sv.2 (IntKind.i64.wrap (sv.1 - 1))).bind fun x_17=>(Dk sv.2 sv.1).bind fun x_18=>(Dk (sv.2.set sv.1.toNat x_17) (IntKind.i64.wrap (sv.1 - 1))).bind fun x_20=>some (Out.next ((IntKind.i64.wrap (sv.1 - 1)),((sv.2.set sv.1.toNat x_17).set (IntKind.i64.wrap (sv.1 - 1)).toNat x_18)))else some (Out.ret (Out.next sv.2)))
def Km (out6:List Int) (x_9:Int) (at_10:Int):Option (Out ((List Int)) (Out ((List Int)) ((List Int)))):=
 chk (out6.length+1) ((D8 (Rh at_10) fuel ((IntKind.i64.wrap ((((out6.length+1):Nat):Int) - 1)),(out6++[x_9]))).bind fun o15=>o15.on fun _=>none)
def N0 (out6:List Int) (x_9:Int) (at_10:Int):Option (Out ((List Int)) (Out ((List Int)) ((List Int)))):=
 (bif (decide (at_10<((out6.length:Nat):Int)))then (Dk out6 at_10).bind fun x_22=>(bif (decide (x_22=x_9))then some (Out.next out6)else Km out6 x_9 at_10)else Km out6 x_9 at_10)
def Rg (out6:List Int) (x_9:Int) (sv:Int):Option (Out (Int) (Out ((List Int)) (Out ((List Int)) ((List Int))))):=
 (bif (decide (sv<((out6.length:Nat):Int)))then (Dk out6 sv).bind fun x_25=>(bif (decide (x_25<x_9))then some (Out.next (IntKind.i64.wrap (sv+1)))else (N0 out6 x_9 sv).bind fun q25=>some (Out.ret q25))else (bif false then some (Out.next (IntKind.i64.wrap (sv+1)))else (N0 out6 x_9 sv).bind fun q26=>some (Out.ret q26)))
def Hl (k7:Nat) (x_9:Int) (sv:(List Int)):Option (Out ((List Int)) (Out ((List Int)) ((List Int)))):=
 (D8 (Rg sv x_9) fuel 0).bind fun o23=>o23.on fun _=>none
def Wo (levels:List Int) (k2:Nat) (x_4:Bd) (sv:(List Int)):Option (Out ((List Int)) ((List Int))):=
 (Ri x_4 levels).bind fun y5=>(bif y5 then(Al Hl 0 x_4.Zones sv).bind fun o7=>o7.on fun s7=>some (Out.next s7)else some (Out.next sv))
def Wp (l:List Bd) (levels:List Int):Option ((List Int)):=
 (Al (Wo levels) 0 l []).bind fun o2=>o2.on fun s2=>some s2
def U2 (l:Bq) (item:Int) (t:Int) (k1:Nat) (x_3:Ft) (sv:Int):Option (Out (Int) (Int)):=
 (bif (decide (x_3.Item=item))then (bif (decide (x_3.At≤t))then (bif (decide (t<(IntKind.i64.wrap (x_3.At+l.Every))))then some (Out.next (if sv<(IntKind.i64.wrap (x_3.At+l.Every))then (IntKind.i64.wrap (x_3.At+l.Every))else sv))else some (Out.next sv))else some (Out.next sv))else some (Out.next sv))
def cK (l:Bq) (item:Int) (t:Int):Option (Int):=
 (Al (U2 l item t) 0 l.Signs t).bind fun o1=>o1.on fun s1=>some s1
def Tj (l:Bq) (t:Int) (k2:Nat) (x_4:Int) (sv:(List Int)):Option (Out ((List Int)) ((List Int))):=
 (cK l x_4 t).bind fun y5=>(bif (decide (y5=t))then chk (sv.length+1) (some (Out.next (sv++[x_4])))else some (Out.next sv))
def Ze (l:Bq) (t:Int):Option ((List Int)):=
 (Al (Tj l t) 0 l.Items []).bind fun o2=>o2.on fun s2=>some s2
def U4 (l:Bq) (t:Int):Option (Bool):=
 (Ze l t).bind fun y1=>some (decide (((y1.length:Nat):Int)=0))
def Wm (run:Int) (k3:Nat) (x_5:Cv) (sv:Unit):Option (Out (Unit) (Bool)):=
 (bif (decide (x_5.Run=run))then some (Out.ret false)else some (Out.next ()))
def Su (p:Ca) (run:Int) (t:Int):Option (Bool):=
 (Nu p run).bind fun y1=>(bif (decide (y1<0))then some false else(Dk p.Bt y1).bind fun x_2=>(U4 x_2.List_ t).bind fun y3=>(bif (!y3)then some false else(Al (Wm run) 0 p.Hazards ()).bind fun o3=>o3.on fun s3=>some true))
def Wu (p:Fu):Option (Int×Int):=
 (Ks p).bind fun y1=>(bif (!y1)then some (0,1)else nz p.Density (some ((IntKind.i64.wrap (Int.tdiv (IntKind.i64.wrap ((IntKind.i64.wrap (p.Natural+p.Machine))*1000)) p.Density)),0)))
def Yx (f_:Aj) (run:Int) (k0:Nat) (x_2:C6) (sv:Unit):Option (Out (Unit) (Bool)):=
 (bif (decide (x_2.Run=run))then (Wu x_2.Pack).bind fun y3=>some (Out.ret (decide (f_.Depth≤y3.1)))else some (Out.next ()))
def Uy (f_:Aj) (run:Int):Option (Bool):=
 (Al (Yx f_ run) 0 f_.Packs ()).bind fun o0=>o0.on fun s0=>some false
def St (f_:Aj) (x_:Cd):Option (Int):=
 (bW f_.Map f_.Closures x_.ID).bind fun y1=>(bif y1 then some 13 else(fU f_.Groomers x_.ID).bind fun y2=>(bif y2 then some 15 else(Ws f_.Winches f_.Time).bind fun y3=>(E5 y3 x_.ID).bind fun y4=>(bif y4 then some 15 else(Te f_ x_.Zone).bind fun y5=>(bif y5 then some 15 else(Qv f_).bind fun y6=>(Wp f_.Slides y6).bind fun y7=>(E5 y7 x_.Zone).bind fun y8=>(bif y8 then some 10 else(Su f_.Patrol x_.ID f_.Time).bind fun y9=>(bif (!y9)then some 14 else(Uy f_ x_.ID).bind fun y10=>(bif (!y10)then some 5 else some 0)))))))
def V0 (k2:Nat) (x_4:Cr) (sv:(List Int)):Option (Out ((List Int)) ((List Int))):=
 (bif (decide (x_4.Mode=1))then chk (sv.length+1) (some (Out.next (sv++[x_4.Lift])))else some (Out.next sv))
def Ns (f_:Aj):Option ((List Int)):=
 (Al V0 0 f_.Lifts []).bind fun o2=>o2.on fun s2=>some s2
def lL (n_:Int) (k0:Nat) (x_2:Int) (sv:Unit):Option (Out (Unit) (Bool)):=
 (bif (decide (x_2=n_))then some (Out.ret true)else some (Out.next ()))
def Uj (l:List Int) (n_:Int):Option (Bool):=
 (Al (lL n_) 0 l ()).bind fun o0=>o0.on fun s0=>some false
def Yz (runs:List Int) (k2:Nat) (x_4:Cd) (sv:(List Ax)):Option (Out ((List Ax)) ((List Ax))):=
 (Uj runs x_4.ID).bind fun y5=>(bif y5 then chk (sv.length+1) (some (Out.next (sv++[(Ax.mk x_4.ID x_4.From x_4.To x_4.Length)])))else some (Out.next sv))
def U5 (m:Bb) (runs:List Int):Option ((List Ax)):=
 (Al (Yz runs) 0 m.Runs []).bind fun o2=>o2.on fun s2=>some s2
def U9 (n_:Int) (k3:Nat) (x_5:Int) (sv:Bool×(List Int)):Option (Out (Bool×(List Int)) ((List Int))):=
 (bif (!sv.1)then (bif (decide (n_≤x_5))then (bif (decide (n_<x_5))then chk (sv.2.length+1) (chk ((sv.2.length+1)+1) (some (Out.next (true,((sv.2++[n_])++[x_5])))))else chk (sv.2.length+1) (some (Out.next (true,(sv.2++[x_5])))))else chk (sv.2.length+1) (some (Out.next (sv.1,(sv.2++[x_5])))))else chk (sv.2.length+1) (some (Out.next (sv.1,(sv.2++[x_5])))))
def X3 (l:List Int) (n_:Int):Option ((List Int)):=
 (Al (U9 n_) 0 l (false,[])).bind fun o3=>o3.on fun s3=>(bif (!s3.1)then chk (s3.2.length+1) (some (s3.2++[n_]))else some s3.2)
def N5 (k6:Nat) (x_8:Ax) (sv:(List Int)):Option (Out ((List Int)) (Out ((List Int)×Int) ((List Int)))):=
 (Uj sv x_8.From).bind fun y9=>(bif y9 then(X3 sv x_8.To).bind fun y10=>some (Out.next y10)else some (Out.next sv))
def Ru (l:List Ax) (sv:(List Int)×Int):Option (Out ((List Int)×Int) ((List Int))):=
 (bif (decide (sv.2<((sv.1.length:Nat):Int)))then (Al N5 0 l sv.1).bind fun o6=>o6.on fun s6=>some (Out.next (s6,((sv.1.length:Nat):Int)))else some (Out.ret sv.1))
def Rs (l:List Ax) (out1:List Int):Option ((List Int)):=
 (D8 (Ru l) fuel (out1,(-1))).bind fun o4=>o4.on fun _=>none
def Rt (k11:Nat) (x_13:Int) (sv:(List Int)):Option (Out ((List Int)) ((List Int))):=
 (X3 sv x_13).bind fun y14=>some (Out.next y14)
def Px (l:List Ax) (from_:List Int):Option ((List Int)):=
 (Al Rt 0 from_ []).bind fun o11=>o11.on fun s11=>Rs l s11
def M0 (lifts:List Int) (k3:Nat) (x_5:Cc) (sv:(List Ax)):Option (Out ((List Ax)) ((List Int))):=
 (Uj lifts x_5.ID).bind fun y6=>(bif y6 then chk (sv.length+1) (some (Out.next (sv++[(Ax.mk 0 x_5.From x_5.To 0)])))else some (Out.next sv))
def Qc (m:Bb) (lifts:List Int) (runs:List Int):Option ((List Int)):=
 (U5 m runs).bind fun y1=>chk y1.length ((Al (M0 lifts) 0 m.Lifts y1).bind fun o3=>o3.on fun s3=>(Px s3 m.Bases).bind fun y7=>some y7)
def Pu (m:Bb) (lifts:List Int) (runs:List Int) (run:Int):Option (Bool):=
 (Jj m run).bind fun y1=>(bif y1.2 then(Qc m lifts runs).bind fun y2=>(Uj y2 y1.1.From).bind fun y3=>some y3 else some false)
def V3 (k2:Nat) (x_4:Ax) (sv:(List Ax)):Option (Out ((List Ax)) ((List Ax))):=
 chk (sv.length+1) (some (Out.next (sv++[(Ax.mk x_4.ID x_4.To x_4.From x_4.Cost)])))
def U8 (l:List Ax):Option ((List Ax)):=
 (Al V3 0 l []).bind fun o2=>o2.on fun s2=>some s2
def Zf (l:List Ax) (to_:List Int):Option ((List Int)):=
 (U8 l).bind fun y1=>(Px y1 to_).bind fun y2=>some y2
def Rn (m:Bb) (runs:List Int):Option ((List Int)):=
 (U5 m runs).bind fun y1=>(Zf y1 m.Bases).bind fun y2=>some y2
def Uf (f_:Aj) (open_:List Int) (run:Int):Option (Int):=
 (Jj f_.Map run).bind fun y1=>(bif (!y1.2)then some 8 else(St f_ y1.1).bind fun y2=>(bif (decide (y2≠0))then some y2 else(Ns f_).bind fun y3=>(Pu f_.Map y3 open_ run).bind fun y4=>(bif (!y4)then some 16 else(Rn f_.Map open_).bind fun y5=>(E5 y5 y1.1.To).bind fun y6=>(bif (!y6)then some 16 else some 0))))
def lJ (k2:Nat) (x_4:Bj) (sv:(List Int)):Option (Out ((List Int)) ((List Int))):=
 (bif x_4.Open then chk (sv.length+1) (some (Out.next (sv++[x_4.Run])))else some (Out.next sv))
def bU (f_:Aj):Option ((List Int)):=
 (Al lJ 0 f_.Status []).bind fun o2=>o2.on fun s2=>some s2
def Yy (f_:Aj) (y1:(List Int)) (k1:Nat) (x_3:Int) (sv:Unit):Option (Out (Unit) (Bool)):=
 (Uf f_ y1 x_3).bind fun y4=>(bif (decide (y4≠0))then some (Out.ret false)else some (Out.next ()))
def Zc (f_:Aj):Option (Bool):=
 (bU f_).bind fun y1=>(Al (Yy f_ y1) 0 y1 ()).bind fun o1=>o1.on fun s1=>some true
def Th (f_:Aj) (now4:List Int) (y7:(List Int)) (y8:(List Int)) (k10:Nat) (x_12:Int) (sv:(List Int)):Option (Out ((List Int)) (Out ((List Int)) ((List Int)))):=
 (Jj f_.Map x_12).bind fun y13=>(Pu f_.Map y7 now4 x_12).bind fun y14=>(bif y14 then(E5 y8 y13.1.To).bind fun y15=>(bif y15 then chk (sv.length+1) (some (Out.next (sv++[x_12])))else some (Out.next sv))else some (Out.next sv))
def Ti (f_:Aj) (k5:Nat) (_x:Unit) (sv:(List Int)):Option (Out ((List Int)) ((List Int))):=
 (Ns f_).bind fun y7=>(Rn f_.Map sv).bind fun y8=>(Al (Th f_ sv y7 y8) 0 sv []).bind fun o10=>o10.on fun s10=>some (Out.next s10)
def Tf (f_:Aj) (now1:List Int):Option ((List Int)):=
 (J5 (Ti f_) (f_.Map.Runs.length+1) now1).bind fun o5=>o5.on fun s5=>some s5
def Tg (f_:Aj) (runs:List Int) (k17:Nat) (x_19:Cd) (sv:(List Int)):Option (Out ((List Int)) ((List Int))):=
 (E5 runs x_19.ID).bind fun y20=>(bif y20 then(St f_ x_19).bind fun y21=>(bif (decide (y21=0))then chk (sv.length+1) (some (Out.next (sv++[x_19.ID])))else some (Out.next sv))else some (Out.next sv))
def Zd (f_:Aj) (runs:List Int):Option ((List Int)):=
 (Al (Tg f_ runs) 0 f_.Map.Runs []).bind fun o17=>o17.on fun s17=>Tf f_ s17
def P9 (f_:Aj) (y2:(List Int)) (k6:Nat) (x_8:Bj) (sv:(List Bj)×(List Int)):Option (Out ((List Bj)×(List Int)) (Aj×(List Int))):=
 (bif x_8.Open then(E5 y2 x_8.Run).bind fun y9=>(bif (!y9)then chk (sv.2.length+1) (chk (sv.1.length+1) (some (Out.next ((sv.1++[(Bj.mk x_8.Run false f_.Time)]),(sv.2++[x_8.Run])))))else chk (sv.1.length+1) (some (Out.next ((sv.1++[(Bj.mk x_8.Run true x_8.Since)]),sv.2))))else chk (sv.1.length+1) (some (Out.next ((sv.1++[(Bj.mk x_8.Run false x_8.Since)]),sv.2))))
def Uz (f_:Aj):Option (Aj×(List Int)):=
 (bU f_).bind fun y1=>(Zd f_ y1).bind fun y2=>(Al (P9 f_ y2) 0 f_.Status ([],[])).bind fun o6=>o6.on fun s6=>some ((Aj.mk f_.Map f_.Lifts f_.Closures f_.Patrol f_.Surfaces f_.Packs f_.Slides f_.Bulletin f_.Missions f_.Winches f_.Groomers s6.1 f_.Depth f_.Time),s6.2)
def Io (y3:Aj×(List Int)) (y5:(List Int)) (k5:Nat) (x_7:Int) (sv:Unit):Option (Out (Unit) (Bool)):=
 (Cw y3.1 y5 x_7).bind fun y8=>(bif (decide (y8≠0))then some (Out.ret false)else some (Out.next ()))
def Qm (f_:Aj) (run:Int):Option (Bool):=
 (Ng).bind fun y1=>(bif (!y1)then some false else(Ky f_ []).bind fun y2=>(bif (!y2)then some true else(F2 f_).bind fun y3=>(Dv y3.1).bind fun y4=>(bif (!y4)then some false else(C4 y3.1).bind fun y5=>(Al (Io y3 y5) 0 y5 ()).bind fun o5=>o5.on fun s5=>(F8 y3.1 run).bind fun y9=>(bif (decide (y9.2=0))then (Dv y9.1).bind fun y10=>(bif (!y10)then some false else(C4 y9.1).bind fun y11=>(E5 y11 run).bind fun y12=>(bif (!y12)then some false else(C4 y9.1).bind fun y13=>(bif (decide (((y13.length:Nat):Int)≠(IntKind.i64.wrap (((y5.length:Nat):Int)+1))))then some false else(Dv (Aj.mk f_.Map f_.Lifts f_.Closures f_.Patrol f_.Surfaces f_.Packs f_.Slides f_.Bulletin f_.Missions f_.Winches f_.Groomers [] f_.Depth f_.Time)).bind fun y14=>some y14)))else (Dv (Aj.mk f_.Map f_.Lifts f_.Closures f_.Patrol f_.Surfaces f_.Packs f_.Slides f_.Bulletin f_.Missions f_.Winches f_.Groomers [] f_.Depth f_.Time)).bind fun y15=>some y15))))
theorem jH (f_:Aj) (run:Int) {r:Bool} (h:Qm f_ run=some r):Ad Tryz.prog 7 [.agg (B3 f_),.int .i64 run] (·= .bool r):=by
 refine Ad.nle (Ad.intro Tryz.func7 rfl rfl (by show _≤74;simp) ?_)
 unfold Qm at h
 refine nS (sq ?_)
 refine ar rfl (qn (sq (sq ?_)))
 refine rg rfl fun K j=>?_
 obtain⟨y1,hy1,h⟩:=Af h
 refine An.pure Tryz.call10 (Un hy1) rfl fun _ hr=>?_
 subst hr
 refine nS ?_
 refine j _ _ (qn ?_)
 revert h;refine ca rfl (fun hc h=>?_) fun hc h=>?_
 ·refine sq (ar rfl (qn (rt (qr ?_))))
  cases h;exact en Tryz.results7
 refine sk (qn (sq (sq ?_)))
 refine rg rfl fun K j=>?_
 obtain⟨y2,hy2,h⟩:=Af h
 refine An.pure Tryz.call14 (Ad.Aah (args:=[.agg [.sl 2 (f_.Map.Nodes.map A6),.sl 8 (f_.Map.Lifts.map A7),.sl 7 (f_.Map.Runs.map Bc),.sl 1 (f_.Map.Bases.map A5),.sl 2 (f_.Lifts.map Av),.sl 4 (f_.Closures.map Aq),.sl 4 (f_.Patrol.Bt.map Au),.sl 3 (f_.Patrol.Hazards.map Az),.sl 3 (f_.Surfaces.map A3),.sl 5 (f_.Packs.map A1),.sl 6 (f_.Slides.map A9),.sl 7 (f_.Bulletin.map Aw),.sl 7 (f_.Missions.map Ap),.sl 4 (f_.Winches.map Ao),.sl 8 (f_.Groomers.map Ay),.sl 3 (f_.Status.map A4),.int .i64 f_.Depth,.int .i64 f_.Time],.nils]) (by simp +decide -implicitDefEqProofs only[go_sem,Dj,Ac.int.injEq,Int.natCast_zero,List.replicate_zero,List.length_take,List.length_drop,Ac.own.injEq,reduceCtorEq,Int.reduceAdd,Sh,Si,Oz,Sg,Oy]) (Um f_ [] hy2)) rfl fun _ hr=>?_
 subst hr
 refine nS ?_
 refine j _ _ (qn ?_)
 revert h;refine ca rfl (fun hc h=>?_) fun hc h=>?_
 ·refine sq (ar rfl (qn (rt (qr ?_))))
  cases h;exact en Tryz.results7
 refine sk (qn (sq ?_))
 refine rg rfl fun K j=>?_
 obtain⟨y3,hy3,h⟩:=Af h
 refine An.pure Tryz.call27 (Oq f_ hy3) rfl fun _ hr=>?_
 subst hr
 refine nS ?_
 refine j _ _ (qn (sq (sq ?_)))
 refine rg rfl fun K j=>?_
 obtain⟨y4,hy4,h⟩:=Af h
 refine An.pure Tryz.call22 (Ew y3.1 hy4) rfl fun _ hr=>?_
 subst hr
 refine nS ?_
 refine j _ _ (qn ?_)
 revert h;refine ca rfl (fun hc h=>?_) fun hc h=>?_
 ·refine sq (ar rfl (qn (rt (qr ?_))))
  cases h;exact en Tryz.results7
 refine sk (qn (sq ?_))
 refine rg rfl fun K j=>?_
 obtain⟨y5,hy5,h⟩:=Af h
 refine An.pure Tryz.call20 (E1 y3.1 hy5) rfl fun _ hr=>?_
 subst hr
 refine nS ?_
 refine j _ _ (qn (sq (sq ?_)))
 refine ar rfl (qn (bk ?_))
 obtain⟨o5,hJ5,hO5⟩:=Af h
 clear h
 refine AWP.Bw (ι:=Nat×(Unit)×(Unit)) (fun zz=>[(1,.int .i64 run),(2,.ptr 0 0),(5,.ptr 1 0),(7,.sl 1 (y5.map A5)),(8,.int .i64 ((zz.1:Nat):Int))]) (fun zz=>[.box [.sl 2 (f_.Map.Nodes.map A6),.sl 8 (f_.Map.Lifts.map A7),.sl 7 (f_.Map.Runs.map Bc),.sl 1 (f_.Map.Bases.map A5),.sl 2 (f_.Lifts.map Av),.sl 4 (f_.Closures.map Aq),.sl 4 (f_.Patrol.Bt.map Au),.sl 3 (f_.Patrol.Hazards.map Az),.sl 3 (f_.Surfaces.map A3),.sl 5 (f_.Packs.map A1),.sl 6 (f_.Slides.map A9),.sl 7 (f_.Bulletin.map Aw),.sl 7 (f_.Missions.map Ap),.sl 4 (f_.Winches.map Ao),.sl 8 (f_.Groomers.map Ay),.sl 3 (f_.Status.map A4),.int .i64 f_.Depth,.int .i64 f_.Time],.box [.sl 2 (y3.1.Map.Nodes.map A6),.sl 8 (y3.1.Map.Lifts.map A7),.sl 7 (y3.1.Map.Runs.map Bc),.sl 1 (y3.1.Map.Bases.map A5),.sl 2 (y3.1.Lifts.map Av),.sl 4 (y3.1.Closures.map Aq),.sl 4 (y3.1.Patrol.Bt.map Au),.sl 3 (y3.1.Patrol.Hazards.map Az),.sl 3 (y3.1.Surfaces.map A3),.sl 5 (y3.1.Packs.map A1),.sl 6 (y3.1.Slides.map A9),.sl 7 (y3.1.Bulletin.map Aw),.sl 7 (y3.1.Missions.map Ap),.sl 4 (y3.1.Winches.map Ao),.sl 8 (y3.1.Groomers.map Ay),.sl 3 (y3.1.Status.map A4),.int .i64 y3.1.Depth,.int .i64 y3.1.Time]]) (fun zz=>zz.1≤y5.length∧Al (Io y3 y5) zz.1 ((y5).drop zz.1) zz.2.1=some o5) (fun zz=>y5.length - zz.1) (0,(),()) ⟨Nat.zero_le _,hJ5⟩ cu cu (fun x=>⟨rfl,rfl,rfl⟩) ?_
 clear hJ5
 rintro⟨k5,⟨⟩,⟨⟩⟩ ⟨hk5,hJ5⟩
 dsimp only at hk5 hJ5 ⊢
 refine sq (sq ?_)
 refine rg rfl fun K j=>?_
 intro hm
 refine j _ _ (qn ?_)
 refine AWP.cond (Ak (fun hc=>?_) (fun hc=>?_))
 ·have hlt5:k5<y5.length:=by have:=Ai8 hc;omega
  obtain⟨x_7,b5,hx5_,h,hJ5⟩:=Ba hJ5 hlt5
  have hx5:=A2 hx5_
  have hw5:=wk (k:=k5) (by omega)
  unfold Io at h;try dsimp only at h
  refine sk (qn (sq (bk (sq ?_))))
  refine AWP.draw Tryz.mixed (by kernel_rfl) ?_;intro K j
  refine nS ?_
  refine Bn.of (f:=A5) (l:=y5) hx5 ?_
  refine nS ?_
  obtain⟨y8,hy8,h⟩:=Af h
  refine B7.pure Tryz.call18 (C0 y3.1 y5 x_7 hy8) rfl ?_
  refine nS ?_
  refine j _ _ _ (by kernel_rfl) ?_
  refine qn ?_
  revert h;refine ca rfl (fun hc h=>?_) fun hc h=>?_
  ·refine sq (ar rfl (qn (rt (br (qr (qr ?_))))))
   obtain rfl:=Aa h
   obtain rfl:=Ae hJ5
   replace h:=Am hO5
   refine br (qr ?_)
   cases h;exact en Tryz.results7
  refine sk (bn (qn (ar rfl (qn ?_))))
  obtain rfl:=Aa h
  refine⟨(k5+1,(),()),⟨by dsimp only;omega,Ai hJ5⟩,by dsimp only;omega,?_,?_⟩
  ·exact cuw hw5
  exact cuw hw5
 obtain rfl:=Bf hJ5 (fun hl=>by have:=Ai7 hc;omega)
 have h:=Be hO5;try dsimp only at h
 have hkl:y5.length=k5:=by have:=Ai7 hc;omega
 subst hkl
 refine xt (qe (qe (bs (qn (sq ?_)))))
 refine rg rfl fun K j=>?_
 obtain⟨y9,hy9,h⟩:=Af h
 refine An.pure Tryz.call24 (Lw y3.1 run hy9) rfl fun _ hr=>?_
 subst hr
 refine nS ?_
 refine j _ _ (qn (sq (sq ?_)))
 refine rg rfl fun K j=>?_
 revert h;refine gt (fun hc h=>?_) fun hc h=>?_
 rotate_left
 ·refine j _ _ (qn ?_)
  refine AWP.cond (Bi ?_)
  refine sk (qn (sq (ar rfl (qn (sq ?_)))))
  refine ar rfl (qn (sq ?_))
  refine rg rfl fun K j=>?_
  obtain⟨y15,hy15,h⟩:=Af h
  refine An.pure Tryz.call22 (Ad.Aah (args:=[.agg [.sl 2 (f_.Map.Nodes.map A6),.sl 8 (f_.Map.Lifts.map A7),.sl 7 (f_.Map.Runs.map Bc),.sl 1 (f_.Map.Bases.map A5),.sl 2 (f_.Lifts.map Av),.sl 4 (f_.Closures.map Aq),.sl 4 (f_.Patrol.Bt.map Au),.sl 3 (f_.Patrol.Hazards.map Az),.sl 3 (f_.Surfaces.map A3),.sl 5 (f_.Packs.map A1),.sl 6 (f_.Slides.map A9),.sl 7 (f_.Bulletin.map Aw),.sl 7 (f_.Missions.map Ap),.sl 4 (f_.Winches.map Ao),.sl 8 (f_.Groomers.map Ay),.nils,.int .i64 f_.Depth,.int .i64 f_.Time]]) (by simp +decide -implicitDefEqProofs only[go_sem,Dj,Ac.int.injEq,Int.natCast_zero,List.replicate_zero,List.length_take,List.length_drop,Ac.own.injEq,reduceCtorEq,Int.reduceAdd,Sh,Si,Oz,Sg,Oy]) (Ew (Aj.mk f_.Map f_.Lifts f_.Closures f_.Patrol f_.Surfaces f_.Packs f_.Slides f_.Bulletin f_.Missions f_.Winches f_.Groomers [] f_.Depth f_.Time) hy15)) rfl fun _ hr=>?_
  subst hr
  refine nS ?_
  refine j _ _ (qn (rt ?_))
  cases h;exact en Tryz.results7
 obtain⟨y10,hy10,h⟩:=Af h
 refine An.pure Tryz.call22 (Ew y9.1 hy10) rfl fun _ hr=>?_
 subst hr
 refine nS ?_
 revert h;refine gf (fun hc h=>?_) fun hc h=>?_
 rotate_left
 ·refine j _ _ (qn ?_)
  refine AWP.cond (Ah ?_)
  refine sq (ar rfl (qn (rt (qr ?_))))
  cases h;exact en Tryz.results7
 obtain⟨y11,hy11,h⟩:=Af h
 refine An.pure Tryz.call20 (E1 y9.1 hy11) rfl fun _ hr=>?_
 subst hr
 refine nS ?_
 obtain⟨y12,hy12,h⟩:=Af h
 refine An.pure Tryz.call31 (Pe y11 run hy12) rfl fun _ hr=>?_
 subst hr
 refine nS ?_
 revert h;refine gf (fun hc h=>?_) fun hc h=>?_
 rotate_left
 ·refine j _ _ (qn ?_)
  refine AWP.cond (Ah ?_)
  refine sq (ar rfl (qn (rt (qr ?_))))
  cases h;exact en Tryz.results7
 obtain⟨y13,hy13,h⟩:=Af h
 refine An.pure Tryz.call20 (E1 y9.1 hy13) rfl fun _ hr=>?_
 subst hr
 refine nS ?_
 intro hm
 intro hm
 refine j _ _ (qn ?_)
 revert h;refine ca rfl (fun hc h=>?_) fun hc h=>?_
 ·refine sq (ar rfl (qn (rt (qr ?_))))
  cases h;exact en Tryz.results7
 refine sk (qn (sq (ar rfl (qn (sq ?_)))))
 refine ar rfl (qn (sq ?_))
 refine rg rfl fun K j=>?_
 obtain⟨y14,hy14,h⟩:=Af h
 refine An.pure Tryz.call22 (Ad.Aah (args:=[.agg [.sl 2 (f_.Map.Nodes.map A6),.sl 8 (f_.Map.Lifts.map A7),.sl 7 (f_.Map.Runs.map Bc),.sl 1 (f_.Map.Bases.map A5),.sl 2 (f_.Lifts.map Av),.sl 4 (f_.Closures.map Aq),.sl 4 (f_.Patrol.Bt.map Au),.sl 3 (f_.Patrol.Hazards.map Az),.sl 3 (f_.Surfaces.map A3),.sl 5 (f_.Packs.map A1),.sl 6 (f_.Slides.map A9),.sl 7 (f_.Bulletin.map Aw),.sl 7 (f_.Missions.map Ap),.sl 4 (f_.Winches.map Ao),.sl 8 (f_.Groomers.map Ay),.nils,.int .i64 f_.Depth,.int .i64 f_.Time]]) (by simp +decide -implicitDefEqProofs only[go_sem,Dj,Ac.int.injEq,Int.natCast_zero,List.replicate_zero,List.length_take,List.length_drop,Ac.own.injEq,reduceCtorEq,Int.reduceAdd,Sh,Si,Oz,Sg,Oy]) (Ew (Aj.mk f_.Map f_.Lifts f_.Closures f_.Patrol f_.Surfaces f_.Packs f_.Slides f_.Bulletin f_.Missions f_.Winches f_.Groomers [] f_.Depth f_.Time) hy14)) rfl fun _ hr=>?_
 subst hr
 refine nS ?_
 refine j _ _ (qn (rt ?_))
 cases h;exact en Tryz.results7
def Ob (f_:Aj) (l:List Int) (k0:Nat) (x_2:Int) (sv:Unit):Option (Out (Unit) (Bool)):=
 (Cw f_ l x_2).bind fun y3=>(bif (decide (y3≠0))then some (Out.ret false)else some (Out.next ()))
def Nh (f_:Aj) (l:List Int):Option (Bool):=
 (Al (Ob f_ l) 0 l ()).bind fun o0=>o0.on fun s0=>some true
theorem Uo (f_:Aj) (l:List Int) {r:Bool} (h:Nh f_ l=some r):Ad Tryz.prog 33 [.agg (B3 f_),.sl 1 (l.map A5)] (·= .bool r):=by
 refine Ad.nle (Ad.intro Tryz.func33 rfl rfl (by show _≤20;simp) ?_)
 unfold Nh at h
 refine nS (sq ?_)
 refine ar rfl (qn (sq (sq ?_)))
 refine ar rfl (qn (bk ?_))
 obtain⟨o0,hJ0,hO0⟩:=Af h
 clear h
 refine AWP.Bw (ι:=Nat×(Unit)×(Unit)) (fun zz=>[(1,.sl 1 (l.map A5)),(2,.ptr 0 0),(5,.int .i64 ((zz.1:Nat):Int))]) (fun zz=>[.box [.sl 2 (f_.Map.Nodes.map A6),.sl 8 (f_.Map.Lifts.map A7),.sl 7 (f_.Map.Runs.map Bc),.sl 1 (f_.Map.Bases.map A5),.sl 2 (f_.Lifts.map Av),.sl 4 (f_.Closures.map Aq),.sl 4 (f_.Patrol.Bt.map Au),.sl 3 (f_.Patrol.Hazards.map Az),.sl 3 (f_.Surfaces.map A3),.sl 5 (f_.Packs.map A1),.sl 6 (f_.Slides.map A9),.sl 7 (f_.Bulletin.map Aw),.sl 7 (f_.Missions.map Ap),.sl 4 (f_.Winches.map Ao),.sl 8 (f_.Groomers.map Ay),.sl 3 (f_.Status.map A4),.int .i64 f_.Depth,.int .i64 f_.Time]]) (fun zz=>zz.1≤l.length∧Al (Ob f_ l) zz.1 ((l).drop zz.1) zz.2.1=some o0) (fun zz=>l.length - zz.1) (0,(),()) ⟨Nat.zero_le _,hJ0⟩ cu cu (fun x=>⟨rfl,rfl,rfl⟩) ?_
 clear hJ0
 rintro⟨k0,⟨⟩,⟨⟩⟩ ⟨hk0,hJ0⟩
 dsimp only at hk0 hJ0 ⊢
 refine sq (sq ?_)
 refine rg rfl fun K j=>?_
 intro hm
 refine j _ _ (qn ?_)
 refine AWP.cond (Ak (fun hc=>?_) (fun hc=>?_))
 rotate_left
 ·obtain rfl:=Bf hJ0 (fun hl=>by have:=Ai7 hc;omega)
  have h:=Be hO0;try dsimp only at h
  have hkl:l.length=k0:=by have:=Ai7 hc;omega
  subst hkl
  refine xt (qe (qe (bs (qn (sq (ar rfl (qn (rt ?_))))))))
  cases h;exact en Tryz.results33
 have hlt0:k0<l.length:=by have:=Ai8 hc;omega
 obtain⟨x_2,b0,hx0_,h,hJ0⟩:=Ba hJ0 hlt0
 have hx0:=A2 hx0_
 have hw0:=wk (k:=k0) (by omega)
 unfold Ob at h;try dsimp only at h
 refine sk (qn (sq (bk (sq ?_))))
 refine AWP.draw Tryz.mixed (by kernel_rfl) ?_;intro K j
 refine nS ?_
 refine Bn.of (f:=A5) (l:=l) hx0 ?_
 refine nS ?_
 obtain⟨y3,hy3,h⟩:=Af h
 refine B7.pure Tryz.call18 (C0 f_ l x_2 hy3) rfl ?_
 refine nS ?_
 refine j _ _ _ (by kernel_rfl) ?_
 refine qn ?_
 revert h;refine ca rfl (fun hc h=>?_) fun hc h=>?_
 ·refine sq (ar rfl (qn (rt (br (qr (qr ?_))))))
  obtain rfl:=Aa h
  obtain rfl:=Ae hJ0
  replace h:=Am hO0
  refine br (qr ?_)
  cases h;exact en Tryz.results33
 refine sk (bn (qn (ar rfl (qn ?_))))
 obtain rfl:=Aa h
 refine⟨(k0+1,(),()),⟨by dsimp only;omega,Ai hJ0⟩,by dsimp only;omega,?_,?_⟩
 ·exact cuw hw0
 exact cuw hw0
def I9 (bits:Int) (k2:Nat) (x_4:Int) (sv:(List Int)):Option (Out ((List Int)) ((List Int))):=
 okB (decide (0≤(IntKind.u64.wrap ((k2:Nat):Int))∧(IntKind.u64.wrap ((k2:Nat):Int))≤8)) ((bif (decide ((Int.tmod (bN bits (IntKind.u64.wrap ((k2:Nat):Int))) 2)=1))then chk (sv.length+1) (some (Out.next (sv++[x_4])))else some (Out.next sv)))
def Oa (l:List Int) (bits:Int):Option ((List Int)):=
 (Al (I9 bits) 0 l []).bind fun o2=>o2.on fun s2=>some s2
theorem Zl (l:List Int) (bits:Int) {r:(List Int)} (h:Oa l bits=some r):Bp Tryz.prog 34 [.sl 1 (l.map A5),.int .i64 bits] (·= .sl 1 (r.map A5)):=by
 refine Bp.nle (Bp.intro Tryz.func34 rfl rfl (by show _≤28;simp) ?_)
 unfold Oa at h
 refine nS (sq ?_)
 refine ar rfl (qn (sq ?_))
 refine ar rfl (qn (sq (sq ?_)))
 refine ar rfl (qn (bk ?_))
 obtain⟨o2,hJ2,hO2⟩:=Af h
 clear h
 refine AWP.Bw (ι:=Nat×((List Int))×(Nat)) (fun zz=>[(0,.sl 1 (l.map A5)),(1,.int .i64 bits),(5,.own 0 zz.2.2 0 zz.2.1.length),(6,.int .i64 ((zz.1:Nat):Int))]) (fun zz=>[.row zz.2.2 1 (zz.2.1.map A5)]) (fun zz=>zz.1≤l.length∧Al (I9 bits) zz.1 ((l).drop zz.1) zz.2.1=some o2) (fun zz=>l.length - zz.1) (0,[],0) ⟨Nat.zero_le _,hJ2⟩ cu cu (fun x=>⟨rfl,rfl,rfl⟩) ?_
 clear hJ2
 rintro⟨k2,out1,ver2⟩ ⟨hk2,hJ2⟩
 dsimp only at hk2 hJ2 ⊢
 refine sq (sq ?_)
 refine rg rfl fun K j=>?_
 intro hm
 refine j _ _ (qn ?_)
 refine AWP.cond (Ak (fun hc=>?_) (fun hc=>?_))
 rotate_left
 ·obtain rfl:=Bf hJ2 (fun hl=>by have:=Ai7 hc;omega)
  have h:=Be hO2;try dsimp only at h
  have hkl:l.length=k2:=by have:=Ai7 hc;omega
  subst hkl
  refine xt (qe (qe (bs (qn (sq (ar rfl (qn (rt ?_))))))))
  cases h;exact en Tryz.results34
 have hlt2:k2<l.length:=by have:=Ai8 hc;omega
 obtain⟨x_4,b2,hx2_,h,hJ2⟩:=Ba hJ2 hlt2
 have hx2:=A2 hx2_
 have hw2:=wk (k:=k2) (by omega)
 unfold I9 at h;try dsimp only at h
 refine sk (qn (sq (bk (sq ?_))))
 refine rg rfl fun K j=>?_
 obtain⟨hk,h⟩:=Hp h
 first | refine⟨hk,?_⟩ | refine⟨hk.2,?_⟩
 refine j _ _ (qn ?_)
 revert h;refine ca rfl (fun hc h=>?_) fun hc h=>?_
 ·refine rg rfl fun K j=>?_
  refine Bn.of (f:=A5) (l:=l) hx2 ?_
  refine nS ?_
  obtain⟨hk,h⟩:=B6 h
  (repeat refine rp ?_);try simp +decide -implicitDefEqProofs only[go_sem]
  refine j _ _ (bn (qn ?_))
  refine ar rfl (qn ?_)
  obtain rfl:=Aa h
  refine⟨(k2+1,(out1++[x_4]),(ver2+1)),⟨by dsimp only;omega,Ai hJ2⟩,by dsimp only;omega,?_,?_⟩
  ·exact cuw hw2
  exact cuw hw2
 refine sk (bn (qn (ar rfl (qn ?_))))
 obtain rfl:=Aa h
 refine⟨(k2+1,out1,ver2),⟨by dsimp only;omega,Ai hJ2⟩,by dsimp only;omega,?_,?_⟩
 ·exact cuw hw2
 exact cuw hw2
def Dt (y6:(List Int)) (k13:Nat) (x_15:Int) (sv:Unit):Option (Out (Unit) (Out (Int) (Bool))):=
 (E5 y6 x_15).bind fun y16=>(bif (!y16)then some (Out.ret (Out.ret false))else some (Out.next ()))
def Ds (y17:(List Int)) (k17:Nat) (x_19:Int) (sv:Unit):Option (Out (Unit) (Bool)):=
 (E5 y17 x_19).bind fun y20=>(bif (!y20)then some (Out.ret false)else some (Out.next ()))
def Du (f_:Aj) (more:Int) (l3:List Int) (y6:(List Int)) (sv:Int):Option (Out (Int) (Bool)):=
 okB (decide (0≤(IntKind.u64.wrap ((l3.length:Nat):Int))∧(IntKind.u64.wrap ((l3.length:Nat):Int))≤8)) ((bif (decide (sv<(IntKind.i64.wrap (vQ 1 (IntKind.u64.wrap ((l3.length:Nat):Int))))))then (Oa l3 sv).bind fun y12=>(Nh f_ y12).bind fun y13=>(bif (!y13)then some (Out.next (IntKind.i64.wrap (sv+1)))else (Al (Dt y6) 0 y12 ()).bind fun o13=>o13.on fun s13=>some (Out.next (IntKind.i64.wrap (sv+1))))else (chk l3.length (chk (l3.length+1) ((Dw f_ (l3++[more])).bind fun y17=>(Al (Ds y17) 0 y6 ()).bind fun o17=>o17.on fun s17=>some true))).bind fun q20=>some (Out.ret q20)))
def Dq (f_:Aj) (more:Int) (l3:List Int):Option (Bool):=
 (Dw f_ l3).bind fun y6=>(Nh f_ y6).bind fun y7=>(bif (!y7)then some false else(Dw f_ y6).bind fun y8=>(My y8 y6).bind fun y9=>(bif (!y9)then some false else(D8 (Du f_ more l3 y6) fuel 0).bind fun o10=>o10.on fun _=>none))
def Dr (f_:Aj) (k23:Nat) (x_25:Int) (sv:(List Int)):Option (Out ((List Int)) (Bool)):=
 (Jj f_.Map x_25).bind fun y26=>(bif y26.2 then(E5 sv x_25).bind fun y27=>(bif (!y27)then (bif (decide (((sv.length:Nat):Int)<6))then chk (sv.length+1) (some (Out.next (sv++[x_25])))else some (Out.next sv))else some (Out.next sv))else some (Out.next sv))
def Fg (f_:Aj) (runs:List Int) (more:Int):Option (Bool):=
 (Ng).bind fun y1=>(bif (!y1)then some false else(Ky f_ runs).bind fun y2=>(bif (!y2)then some true else(Al (Dr f_) 0 runs []).bind fun o23=>o23.on fun s23=>Dq f_ more s23))
theorem Qf (f_:Aj) (runs:List Int) (more:Int) {r:Bool} (h:Fg f_ runs more=some r):Ad Tryz.prog 8 [.agg (B3 f_),.sl 1 (runs.map A5),.int .i64 more] (·= .bool r):=by
 refine Ad.nle (Ad.intro Tryz.func8 rfl rfl (by show _≤126;simp) ?_)
 unfold Fg at h
 refine nS (sq ?_)
 refine ar rfl (qn (sq (sq ?_)))
 refine rg rfl fun K j=>?_
 obtain⟨y1,hy1,h⟩:=Af h
 refine An.pure Tryz.call10 (Un hy1) rfl fun _ hr=>?_
 subst hr
 refine nS ?_
 refine j _ _ (qn ?_)
 revert h;refine ca rfl (fun hc h=>?_) fun hc h=>?_
 ·refine sq (ar rfl (qn (rt (qr ?_))))
  cases h;exact en Tryz.results8
 refine sk (qn (sq (sq ?_)))
 refine rg rfl fun K j=>?_
 obtain⟨y2,hy2,h⟩:=Af h
 refine An.pure Tryz.call14 (Um f_ runs hy2) rfl fun _ hr=>?_
 subst hr
 refine nS ?_
 refine j _ _ (qn ?_)
 revert h;refine ca rfl (fun hc h=>?_) fun hc h=>?_
 ·refine sq (ar rfl (qn (rt (qr ?_))))
  cases h;exact en Tryz.results8
 refine sk (qn (sq (ar rfl (qn ?_))))
 refine AWP.Lf (ι:=((List Int))×(Nat)) (fun zz=>[(2,.int .i64 more),(3,.ptr 0 0),(7,.own 1 zz.2 0 zz.1.length)]) (fun zz=>[.box [.sl 2 (f_.Map.Nodes.map A6),.sl 8 (f_.Map.Lifts.map A7),.sl 7 (f_.Map.Runs.map Bc),.sl 1 (f_.Map.Bases.map A5),.sl 2 (f_.Lifts.map Av),.sl 4 (f_.Closures.map Aq),.sl 4 (f_.Patrol.Bt.map Au),.sl 3 (f_.Patrol.Hazards.map Az),.sl 3 (f_.Surfaces.map A3),.sl 5 (f_.Packs.map A1),.sl 6 (f_.Slides.map A9),.sl 7 (f_.Bulletin.map Aw),.sl 7 (f_.Missions.map Ap),.sl 4 (f_.Winches.map Ao),.sl 8 (f_.Groomers.map Ay),.sl 3 (f_.Status.map A4),.int .i64 f_.Depth,.int .i64 f_.Time],.row zz.2 1 (zz.1.map A5)]) (fun zz=>Dq f_ more zz.1=some r) (fun zz=>⟨rfl,rfl,rfl⟩) ?_ ?_
 ·refine sq (ar rfl (qn (bk ?_)))
  obtain⟨o23,hJ23,hO23⟩:=Af h
  clear h
  refine AWP.Bw (ι:=Nat×((List Int))×(Nat)) (fun zz=>[(1,.sl 1 (runs.map A5)),(2,.int .i64 more),(3,.ptr 0 0),(7,.own 1 zz.2.2 0 zz.2.1.length),(8,.int .i64 ((zz.1:Nat):Int))]) (fun zz=>[.box [.sl 2 (f_.Map.Nodes.map A6),.sl 8 (f_.Map.Lifts.map A7),.sl 7 (f_.Map.Runs.map Bc),.sl 1 (f_.Map.Bases.map A5),.sl 2 (f_.Lifts.map Av),.sl 4 (f_.Closures.map Aq),.sl 4 (f_.Patrol.Bt.map Au),.sl 3 (f_.Patrol.Hazards.map Az),.sl 3 (f_.Surfaces.map A3),.sl 5 (f_.Packs.map A1),.sl 6 (f_.Slides.map A9),.sl 7 (f_.Bulletin.map Aw),.sl 7 (f_.Missions.map Ap),.sl 4 (f_.Winches.map Ao),.sl 8 (f_.Groomers.map Ay),.sl 3 (f_.Status.map A4),.int .i64 f_.Depth,.int .i64 f_.Time],.row zz.2.2 1 (zz.2.1.map A5)]) (fun zz=>zz.1≤runs.length∧Al (Dr f_) zz.1 ((runs).drop zz.1) zz.2.1=some o23) (fun zz=>runs.length - zz.1) (0,[],0) ⟨Nat.zero_le _,hJ23⟩ cu cu (fun x=>⟨rfl,rfl,rfl⟩) ?_
  clear hJ23
  rintro⟨k23,l22,ver23⟩ ⟨hk23,hJ23⟩
  dsimp only at hk23 hJ23 ⊢
  refine sq (sq ?_)
  refine rg rfl fun K j=>?_
  intro hm
  refine j _ _ (qn ?_)
  refine AWP.cond (Ak (fun hc=>?_) (fun hc=>?_))
  rotate_left
  ·obtain rfl:=Bf hJ23 (fun hl=>by have:=Ai7 hc;omega)
   have h:=Be hO23;try dsimp only at h
   have hkl:runs.length=k23:=by have:=Ai7 hc;omega
   subst hkl
   refine xt (qe (qe (bs (qn ?_))))
   exact⟨(l22,ver23),h,cu,cu⟩
  have hlt23:k23<runs.length:=by have:=Ai8 hc;omega
  obtain⟨x_25,b23,hx23_,h,hJ23⟩:=Ba hJ23 hlt23
  have hx23:=A2 hx23_
  have hw23:=wk (k:=k23) (by omega)
  unfold Dr at h;try dsimp only at h
  refine sk (qn (sq (bk (sq ?_))))
  refine AWP.draw Tryz.mixed (by kernel_rfl) ?_;intro K j
  refine nS ?_
  refine Bn.of (f:=A5) (l:=runs) hx23 ?_
  refine nS ?_
  obtain⟨y26,hy26,h⟩:=Af h
  refine B7.pure Tryz.call32 (Rr f_.Map x_25 hy26) rfl ?_
  refine nS ?_
  refine j _ _ _ (by kernel_rfl) ?_
  refine qn (sq ?_)
  refine rg rfl fun K j=>?_
  revert h;refine gt (fun hc h=>?_) fun hc h=>?_
  ·refine Bn.of (f:=A5) (l:=runs) hx23 ?_
   refine nS ?_
   obtain⟨y27,hy27,h⟩:=Af h
   refine An.snap Tryz.call31 (Pe l22 x_25 hy27) (by simp +decide -implicitDefEqProofs only[go_sem]) (by rintro _ rfl;rfl) fun _ hr=>?_
   subst hr
   refine nS ?_
   revert h;refine gt (fun hc h=>?_) fun hc h=>?_
   ·intro hm
    refine j _ _ (qn ?_)
    revert h;refine ca rfl (fun hc h=>?_) fun hc h=>?_
    ·refine rg rfl fun K j=>?_
     refine Bn.of (f:=A5) (l:=runs) hx23 ?_
     refine nS ?_
     obtain⟨hk,h⟩:=B6 h
     (repeat refine rp ?_);try simp +decide -implicitDefEqProofs only[go_sem]
     refine j _ _ (bn (qn ?_))
     refine ar rfl (qn ?_)
     obtain rfl:=Aa h
     refine⟨(k23+1,(l22++[x_25]),(ver23+1)),⟨by dsimp only;omega,Ai hJ23⟩,by dsimp only;omega,?_,?_⟩
     ·exact cuw hw23
     exact cuw hw23
    refine sk (bn (qn (ar rfl (qn ?_))))
    obtain rfl:=Aa h
    refine⟨(k23+1,l22,ver23),⟨by dsimp only;omega,Ai hJ23⟩,by dsimp only;omega,?_,?_⟩
    ·exact cuw hw23
    exact cuw hw23
   refine j _ _ (qn ?_)
   refine AWP.cond (Bi ?_)
   refine sk (bn (qn (ar rfl (qn ?_))))
   obtain rfl:=Aa h
   refine⟨(k23+1,l22,ver23),⟨by dsimp only;omega,Ai hJ23⟩,by dsimp only;omega,?_,?_⟩
   ·exact cuw hw23
   exact cuw hw23
  refine j _ _ (qn ?_)
  refine AWP.cond (Bi ?_)
  refine sk (bn (qn (ar rfl (qn ?_))))
  obtain rfl:=Aa h
  refine⟨(k23+1,l22,ver23),⟨by dsimp only;omega,Ai hJ23⟩,by dsimp only;omega,?_,?_⟩
  ·exact cuw hw23
  exact cuw hw23
 rintro⟨l3,ver4⟩ h
 try dsimp only at h ⊢
 unfold Dq at h;try dsimp only at h
 refine sq ?_
 refine rg rfl fun K j=>?_
 obtain⟨y6,hy6,h⟩:=Af h
 refine An.Z9 Tryz.call29 (Gt f_ l3 hy6) (by simp +decide -implicitDefEqProofs only[go_sem]) fun _ hr=>?_
 subst hr
 refine nS ?_
 refine j _ _ (qn (sq (sq ?_)))
 refine rg rfl fun K j=>?_
 obtain⟨y7,hy7,h⟩:=Af h
 refine An.pure Tryz.call33 (Uo f_ y6 hy7) rfl fun _ hr=>?_
 subst hr
 refine nS ?_
 revert h;refine gf (fun hc h=>?_) fun hc h=>?_
 rotate_left
 ·refine j _ _ (qn ?_)
  refine AWP.cond (Ah ?_)
  refine sq (ar rfl (qn (rt (qr ?_))))
  cases h;exact en Tryz.results8
 obtain⟨y8,hy8,h⟩:=Af h
 refine An.pure Tryz.call29 (Qo f_ y6 hy8) rfl fun _ hr=>?_
 subst hr
 refine nS ?_
 obtain⟨y9,hy9,h⟩:=Af h
 refine An.pure Tryz.call15 (Mk y8 y6 hy9) rfl fun _ hr=>?_
 subst hr
 refine nS ?_
 refine j _ _ (qn ?_)
 revert h;refine ca rfl (fun hc h=>?_) fun hc h=>?_
 ·refine sq (ar rfl (qn (rt (qr ?_))))
  cases h;exact en Tryz.results8
 refine sk (qn (sq (sq (ar rfl (qn (bk ?_))))))
 obtain⟨o10,hJ10,hO10⟩:=Af h
 clear h
 refine AWP.Bw (ι:=Nat×(Int)×(Unit)) (fun zz=>[(2,.int .i64 more),(3,.ptr 0 0),(7,.own 1 ver4 0 l3.length),(11,.sl 1 (y6.map A5)),(12,.int .i64 zz.2.1)]) (fun zz=>[.box [.sl 2 (f_.Map.Nodes.map A6),.sl 8 (f_.Map.Lifts.map A7),.sl 7 (f_.Map.Runs.map Bc),.sl 1 (f_.Map.Bases.map A5),.sl 2 (f_.Lifts.map Av),.sl 4 (f_.Closures.map Aq),.sl 4 (f_.Patrol.Bt.map Au),.sl 3 (f_.Patrol.Hazards.map Az),.sl 3 (f_.Surfaces.map A3),.sl 5 (f_.Packs.map A1),.sl 6 (f_.Slides.map A9),.sl 7 (f_.Bulletin.map Aw),.sl 7 (f_.Missions.map Ap),.sl 4 (f_.Winches.map Ao),.sl 8 (f_.Groomers.map Ay),.sl 3 (f_.Status.map A4),.int .i64 f_.Depth,.int .i64 f_.Time],.row ver4 1 (l3.map A5)]) (fun zz=>D8 (Du f_ more l3 y6) zz.1 zz.2.1=some o10) (fun zz=>zz.1) (fuel,0,()) hJ10 cu cu (fun x=>⟨rfl,rfl,rfl⟩) ?_
 clear hJ10
 rintro⟨n10,bits10,⟨⟩⟩ hJ10
 dsimp only at hJ10 ⊢
 obtain⟨m10,b10,rfl,h,hJ10⟩:=J9 hJ10
 unfold Du at h;try dsimp only at h
 refine sq (sq ?_)
 refine rg rfl fun K j=>?_
 intro hm
 obtain⟨hk,h⟩:=Hp h
 first | refine⟨hk,?_⟩ | refine⟨hk.2,?_⟩
 refine j _ _ (qn ?_)
 revert h;refine ca rfl (fun hc h=>?_) fun hc h=>?_
 ·refine sk (qn (sq (bk (sq ?_))))
  refine rg rfl fun K j=>?_
  obtain⟨y12,hy12,h⟩:=Af h
  refine An.Z9 Tryz.call34 (Zl l3 bits10 hy12) (by simp +decide -implicitDefEqProofs only[go_sem]) fun _ hr=>?_
  subst hr
  refine nS ?_
  refine j _ _ (qn (sq (sq ?_)))
  refine rg rfl fun K j=>?_
  obtain⟨y13,hy13,h⟩:=Af h
  refine An.pure Tryz.call33 (Uo f_ y12 hy13) rfl fun _ hr=>?_
  subst hr
  refine nS ?_
  refine j _ _ (qn ?_)
  revert h;refine ca rfl (fun hc h=>?_) fun hc h=>?_
  ·refine xt (qe (bs (qn (ar rfl (qn ?_)))))
   obtain rfl:=Aa h
   refine⟨(m10,(IntKind.i64.wrap (bits10+1)),()),Ai hJ10,by dsimp only;omega,?_,?_⟩
   ·exact cu
   exact cu
  refine sk (qn (sq (ar rfl (qn (bk ?_)))))
  obtain⟨o13,hJ13,hO13⟩:=Af h
  clear h
  refine AWP.Bw (ι:=Nat×(Unit)×(Unit)) (fun zz=>[(2,.int .i64 more),(3,.ptr 0 0),(7,.own 1 ver4 0 l3.length),(11,.sl 1 (y6.map A5)),(12,.int .i64 bits10),(13,.sl 1 (y12.map A5)),(14,.int .i64 ((zz.1:Nat):Int))]) (fun zz=>[.box [.sl 2 (f_.Map.Nodes.map A6),.sl 8 (f_.Map.Lifts.map A7),.sl 7 (f_.Map.Runs.map Bc),.sl 1 (f_.Map.Bases.map A5),.sl 2 (f_.Lifts.map Av),.sl 4 (f_.Closures.map Aq),.sl 4 (f_.Patrol.Bt.map Au),.sl 3 (f_.Patrol.Hazards.map Az),.sl 3 (f_.Surfaces.map A3),.sl 5 (f_.Packs.map A1),.sl 6 (f_.Slides.map A9),.sl 7 (f_.Bulletin.map Aw),.sl 7 (f_.Missions.map Ap),.sl 4 (f_.Winches.map Ao),.sl 8 (f_.Groomers.map Ay),.sl 3 (f_.Status.map A4),.int .i64 f_.Depth,.int .i64 f_.Time],.row ver4 1 (l3.map A5)]) (fun zz=>zz.1≤y12.length∧Al (Dt y6) zz.1 ((y12).drop zz.1) zz.2.1=some o13) (fun zz=>y12.length - zz.1) (0,(),()) ⟨Nat.zero_le _,hJ13⟩ cu cu (fun x=>⟨rfl,rfl,rfl⟩) ?_
  clear hJ13
  rintro⟨k13,⟨⟩,⟨⟩⟩ ⟨hk13,hJ13⟩
  dsimp only at hk13 hJ13 ⊢
  refine sq (sq ?_)
  refine rg rfl fun K j=>?_
  intro hm
  refine j _ _ (qn ?_)
  refine AWP.cond (Ak (fun hc=>?_) (fun hc=>?_))
  rotate_left
  ·obtain rfl:=Bf hJ13 (fun hl=>by have:=Ai7 hc;omega)
   have h:=Be hO13;try dsimp only at h
   have hkl:y12.length=k13:=by have:=Ai7 hc;omega
   subst hkl
   refine xt (qe (qe (bs (bn (qn (ar rfl (qn ?_)))))))
   obtain rfl:=Aa h
   refine⟨(m10,(IntKind.i64.wrap (bits10+1)),()),Ai hJ10,by dsimp only;omega,?_,?_⟩
   ·exact cu
   exact cu
  have hlt13:k13<y12.length:=by have:=Ai8 hc;omega
  obtain⟨x_15,b13,hx13_,h,hJ13⟩:=Ba hJ13 hlt13
  have hx13:=A2 hx13_
  have hw13:=wk (k:=k13) (by omega)
  unfold Dt at h;try dsimp only at h
  refine sk (qn (sq (bk (sq ?_))))
  refine rg rfl fun K j=>?_
  refine Bn.of (f:=A5) (l:=y12) hx13 ?_
  refine nS ?_
  obtain⟨y16,hy16,h⟩:=Af h
  refine An.pure Tryz.call31 (Pe y6 x_15 hy16) rfl fun _ hr=>?_
  subst hr
  refine nS ?_
  refine j _ _ (qn ?_)
  revert h;refine ca rfl (fun hc h=>?_) fun hc h=>?_
  ·refine sq (ar rfl (qn (rt (br (qr (qr ?_))))))
   obtain rfl:=Aa h
   obtain rfl:=Ae hJ13
   replace h:=Am hO13
   refine br (br (qr (qr ?_)))
   obtain rfl:=Aa h
   obtain rfl:=Ae hJ10
   replace h:=Am hO10
   refine br (qr ?_)
   cases h;exact en Tryz.results8
  refine sk (bn (qn (ar rfl (qn ?_))))
  obtain rfl:=Aa h
  refine⟨(k13+1,(),()),⟨by dsimp only;omega,Ai hJ13⟩,by dsimp only;omega,?_,?_⟩
  ·exact cuw hw13
  exact cuw hw13
 refine xt (qe (qe ?_))
 obtain⟨q20,hq,h⟩:=Af h
 obtain rfl:=Aa h
 obtain rfl:=Ae hJ10
 replace h:=hq.trans (Am hO10)
 refine bs (qn (sq ?_))
 refine AWP.draw Tryz.mixed (by kernel_rfl) ?_;intro K j
 refine nS ?_
 obtain⟨hk,h⟩:=B6 h
 (repeat refine rp ?_);try simp +decide -implicitDefEqProofs only[go_sem]
 obtain⟨hk,h⟩:=B6 h
 (repeat refine rp ?_);try simp +decide -implicitDefEqProofs only[go_sem]
 obtain⟨y17,hy17,h⟩:=Af h
 refine B7.Z9 Tryz.call29 (Gt f_ (l3++[more]) hy17) (by simp +decide -implicitDefEqProofs only[go_sem]) ?_
 refine nS ?_
 refine j _ _ _ (by kernel_rfl) ?_
 refine qn (sq (sq (ar rfl (qn (bk ?_)))))
 obtain⟨o17,hJ17,hO17⟩:=Af h
 clear h
 refine AWP.Bw (ι:=Nat×(Unit)×(Unit)) (fun zz=>[(11,.sl 1 (y6.map A5)),(15,.sl 1 (y17.map A5)),(16,.int .i64 ((zz.1:Nat):Int))]) (fun zz=>[]) (fun zz=>zz.1≤y6.length∧Al (Ds y17) zz.1 ((y6).drop zz.1) zz.2.1=some o17) (fun zz=>y6.length - zz.1) (0,(),()) ⟨Nat.zero_le _,hJ17⟩ cu cu (fun x=>⟨rfl,rfl,rfl⟩) ?_
 clear hJ17
 rintro⟨k17,⟨⟩,⟨⟩⟩ ⟨hk17,hJ17⟩
 dsimp only at hk17 hJ17 ⊢
 refine sq (sq ?_)
 refine rg rfl fun K j=>?_
 intro hm
 refine j _ _ (qn ?_)
 refine AWP.cond (Ak (fun hc=>?_) (fun hc=>?_))
 rotate_left
 ·obtain rfl:=Bf hJ17 (fun hl=>by have:=Ai7 hc;omega)
  have h:=Be hO17;try dsimp only at h
  have hkl:y6.length=k17:=by have:=Ai7 hc;omega
  subst hkl
  refine xt (qe (qe (bs (qn (sq (ar rfl (qn (rt ?_))))))))
  cases h;exact en Tryz.results8
 have hlt17:k17<y6.length:=by have:=Ai8 hc;omega
 obtain⟨x_19,b17,hx17_,h,hJ17⟩:=Ba hJ17 hlt17
 have hx17:=A2 hx17_
 have hw17:=wk (k:=k17) (by omega)
 unfold Ds at h;try dsimp only at h
 refine sk (qn (sq (bk (sq ?_))))
 refine rg rfl fun K j=>?_
 refine Bn.of (f:=A5) (l:=y6) hx17 ?_
 refine nS ?_
 obtain⟨y20,hy20,h⟩:=Af h
 refine An.pure Tryz.call31 (Pe y17 x_19 hy20) rfl fun _ hr=>?_
 subst hr
 refine nS ?_
 refine j _ _ (qn ?_)
 revert h;refine ca rfl (fun hc h=>?_) fun hc h=>?_
 ·refine sq (ar rfl (qn (rt (br (qr (qr ?_))))))
  obtain rfl:=Aa h
  obtain rfl:=Ae hJ17
  replace h:=Am hO17
  refine br (qr ?_)
  cases h;exact en Tryz.results8
 refine sk (bn (qn (ar rfl (qn ?_))))
 obtain rfl:=Aa h
 refine⟨(k17+1,(),()),⟨by dsimp only;omega,Ai hJ17⟩,by dsimp only;omega,?_,?_⟩
 ·exact cuw hw17
 exact cuw hw17
end
end Go.Proofs.YtjopghiagoidgaaGreat
namespace Go.Proofs.YtjopghiagoidgaaGreat
open Go Go.Ab
set_option linter.unusedSimpArgs false
set_option linter.unusedVariables false
inductive Rch (l:List Ax) (S:Int→Prop):Int→Prop
  | base {n:Int}:S n→Rch l S n
  | step {e:Ax}:e∈l→Rch l S e.From→Rch l S e.To
theorem Rch.mono {l l':List Ax} {S T:Int→Prop} (hl:∀ e∈l,e∈l') (hS:∀ n,S n→T n) {n:Int} (h:Rch l S n):Rch l' T n:=by
  induction h with
  | base h=>exact .base (hS _ h)
  | step he _ ih=>exact .step (hl _ he) ih
structure Pk (l:List Ax) (f r:List Int):Prop where
  inc:Inc r
  mem:∀ n,n∈r↔Rch l (·∈f) n
theorem Pk.unique {l:List Ax} {f r r':List Int} (h:Pk l f r) (h':Pk l f r'):r=r':=
  Pg h.inc h'.inc fun x=>by rw[h.mem,h'.mem]
theorem Pk.of_closed {l:List Ax} {f r:List Int} (h:Inc r) (h1:∀ n∈r,Rch l (·∈f) n) (h2:∀ n∈f,n∈r) (h3:∀ e∈l,e.From∈r→e.To∈r):Pk l f r:=
  ⟨h,fun n=>⟨h1 n,fun hr=>by
    induction hr with
    | base h=>exact h2 _ h
    | step he _ ih=>exact h3 _ he ih⟩⟩
theorem Q7 {l:List Ax} {f:List Int} {n:Int} (h:Rch l (·∈f) n):n∈f++l.map (·.To):=by
  cases h with
  | base h=>exact List.mem_append.2 (.inl h)
  | step he _=>exact List.mem_append.2 (.inr (List.mem_map_of_mem he))
def Z5 (e:Ax):Ax:=⟨e.ID,e.To,e.From,e.Cost⟩
def turn (l:List Ax):List Ax:=l.map Z5
theorem gK {l:List Ax} {e:Ax}:e∈turn l↔Z5 e∈l:=by
  unfold turn
  rw[List.mem_map]
  constructor
  ·rintro⟨x,hx,rfl⟩;exact hx
  ·intro h;exact⟨Z5 e,h,rfl⟩
def Jh (l:List Ax):Int→List Ax→Int→Prop
  | n,[],t=>n=t
  | n,e::es,t=>e∈l∧e.From=n∧Jh l e.To es t
def ecost (es:List Ax):Int:=(es.map (·.Cost)).sum
theorem O2 (e:Ax) (es:List Ax):ecost (e::es)=e.Cost+ecost es:=by simp[ecost]
theorem kO:∀ (a b:List Ax),ecost (a++b)=ecost a+ecost b
  | [],b=>by simp[ecost]
  | e::a,b=>by rw[List.cons_append,O2,O2,kO a b];omega
theorem Yh {l:List Ax}:∀ {a b:List Ax} {n t:Int},Jh l n (a++b) t↔∃ m,Jh l n a m∧Jh l m b t
  | [],b,n,t=>by simp[Jh]
  | e::a,b,n,t=>by
    simp only[List.cons_append,Jh,Yh (a:=a)]
    constructor
    ·rintro⟨h1,h2,m,h3,h4⟩;exact⟨m,⟨h1,h2,h3⟩,h4⟩
    ·rintro⟨m,⟨h1,h2,h3⟩,h4⟩;exact⟨h1,h2,m,h3,h4⟩
theorem Jh.mem {l:List Ax}:∀ {es:List Ax} {n t:Int},Jh l n es t→∀ e∈es,e∈l
  | [],n,t,h,e,he=>by simp at he
  | x::es,n,t,h,e,he=>by
    rcases List.mem_cons.1 he with rfl | he
    ·exact h.1
    ·exact Jh.mem h.2.2 e he
theorem Jh.mono {l l':List Ax} (hs:∀ e∈l,e∈l'):∀ {es:List Ax} {n t:Int},Jh l n es t→Jh l' n es t
  | [],n,t,h=>h
  | x::es,n,t,h=>⟨hs _ h.1,h.2.1,Jh.mono hs h.2.2⟩
def lexle (a b:Int×Nat):Prop:=a.1<b.1∨(a.1=b.1∧a.2≤b.2)
theorem lexle.refl (a:Int×Nat):lexle a a:=.inr ⟨rfl,Nat.le_refl _⟩
theorem lexle.trans {a b c:Int×Nat} (h:lexle a b) (k:lexle b c):lexle a c:=by
  unfold lexle at *;omega
theorem lexle.antisymm {a b:Int×Nat} (h:lexle a b) (k:lexle b a):a=b:=by
  obtain⟨a1,a2⟩:=a;obtain⟨b1,b2⟩:=b
  unfold lexle at *
  simp only at h k
  have h1:a1=b1:=by omega
  have h2:a2=b2:=by omega
  rw[h1,h2]
theorem lexle.add {a b:Int×Nat} (h:lexle a b) (c:Int):lexle (a.1+c,a.2+1) (b.1+c,b.2+1):=by
  unfold lexle at *;simp only;omega
theorem lexle.sub {a b:Int×Nat} {c:Int} (h:lexle (a.1+c,a.2+1) (b.1+c,b.2+1)):lexle a b:=by
  unfold lexle at *;simp only at h;omega
def cst (es:List Ax):Int×Nat:=(ecost es,es.length)
theorem aU (e:Ax) (es:List Ax):cst (e::es)=((cst es).1+e.Cost,(cst es).2+1):=by
  unfold cst;rw[O2,Int.add_comm];rfl
theorem kP {α:Type} [DecidableEq α]:∀ {es:List α},¬ es.Nodup→∃ a e b d,es=a++e::(b++e::d)
  | [],h=>absurd List.nodup_nil h
  | x::es,h=>by
    by_cases hx:x∈es
    ·obtain⟨b,d,rfl⟩:=List.append_of_mem hx
     exact⟨[],x,b,d,rfl⟩
    ·have:¬ es.Nodup:=fun hn=>h (List.nodup_cons.2 ⟨hx,hn⟩)
     obtain⟨a,e,b,d,rfl⟩:=kP this
     exact⟨x::a,e,b,d,rfl⟩
theorem shorten {l:List Ax} (h0:∀ e∈l,0≤e.Cost):∀ (k:Nat) {n t:Int} {es:List Ax},es.length≤k→Jh l n es t→∃ es',Jh l n es' t∧es'.length≤l.length∧lexle (cst es') (cst es)
  | 0,n,t,es,hk,h=>⟨es,h,by omega,.refl _⟩
  | k+1,n,t,es,hk,h=>by
    by_cases hn:es.Nodup
    ·exact⟨es,h,Jk hn (Jh.mem h),.refl _⟩
    ·obtain⟨a,e,b,d,rfl⟩:=kP hn
     obtain⟨m,h1,h2,h3,h4⟩:=Yh.1 h
     obtain⟨m',h5,h6,h7,h8⟩:=Yh.1 h4
     have hc:Jh l n (a++e::d) t:=Yh.2 ⟨m,h1,h2,h3,h8⟩
     obtain⟨es',g1,g2,g3⟩:=shorten h0 k (by simp at hk ⊢;omega) hc
     refine⟨es',g1,g2,g3.trans ?_⟩
     have hb:0≤ecost b:=by
       have:∀ {b:List Ax},(∀ e∈b,0≤e.Cost)→0≤ecost b:=by
         intro b
         induction b with
         | nil=>intro _;simp[ecost]
         | cons x b ih=>intro h;rw[O2];have:=h x (by simp);have:=ih fun y hy=>h y (List.mem_cons_of_mem _ hy);omega
       exact this fun x hx=>h0 x (Jh.mem h5 x hx)
     have he:=h0 e h2
     unfold lexle cst
     simp only[kO,O2,List.length_append,List.length_cons]
     omega
structure dO (l:List Ax) (t n:Int) (p:Int×Nat):Prop where
  walk:∃ es,Jh l n es t∧p=cst es
  least:∀ es,Jh l n es t→lexle p (cst es)
theorem dO.unique {l:List Ax} {t n:Int} {p q:Int×Nat} (h:dO l t n p) (k:dO l t n q):p=q:=by
  obtain⟨es,h1,h2⟩:=h.walk
  obtain⟨es',k1,k2⟩:=k.walk
  exact(k2 ▸ h.least es' k1).antisymm (h2 ▸ k.least es h1)
theorem dO.Aag {l:List Ax} (h0:∀ e∈l,0≤e.Cost) {t:Int}:dO l t t (0,0):=by
  refine⟨⟨[],rfl,rfl⟩,fun es h=>?_⟩
  have:0≤ecost es:=by
    have:∀ {b:List Ax},(∀ e∈b,0≤e.Cost)→0≤ecost b:=by
      intro b
      induction b with
      | nil=>intro _;simp[ecost]
      | cons x b ih=>intro h;rw[O2];have:=h x (by simp);have:=ih fun y hy=>h y (List.mem_cons_of_mem _ hy);omega
    exact this fun x hx=>h0 x (Jh.mem h x hx)
  unfold lexle cst;simp only;omega
def Good (l:List Ax) (t n:Int) (e:Ax):Prop:=e∈l∧e.From=n∧∃ p,dO l t e.To p∧dO l t n (p.1+e.Cost,p.2+1)
theorem dO.step {l:List Ax} {t n:Int} {p:Int×Nat} (h:dO l t n p) (hn:n≠t):∃ e,Good l t n e:=by
  obtain⟨es,h1,h2⟩:=h.walk
  cases es with
  | nil=>exact absurd h1 hn
  | cons e es=>
    refine⟨e,h1.1,h1.2.1,cst es,⟨⟨es,h1.2.2,rfl⟩,fun es' h'=>?_⟩,by rw[← aU,← h2];exact h⟩
    have:=h.least (e::es') ⟨h1.1,h1.2.1,h'⟩
    rw[h2,aU,aU]at this
    exact this.sub
inductive Q0 (l:List Ax) (t:Int):Int→List Int→Prop
  | done:Q0 l t t []
  | step {n:Int} {i:Nat} {e:Ax} {ids:List Int}:n≠t→l[i]? =some e→Good l t n e→(∀ j e',j<i→l[j]? =some e'→¬ Good l t n e')→Q0 l t e.To ids→Q0 l t n (e.ID::ids)
theorem Q0.unique {l:List Ax} {t n:Int} {a b:List Int} (h:Q0 l t n a) (k:Q0 l t n b):a=b:=by
  induction h generalizing b with
  | done=>
    cases k with
    | done=>rfl
    | step hn=>exact absurd rfl hn
  | @step n i e ids hn hi hg hf _ ih=>
    cases k with
    | done=>exact absurd rfl hn
    | @step _ i' e' ids' hn' hi' hg' hf' hr'=>
      have:i=i':=by
        rcases Nat.lt_trichotomy i i' with h | h | h
        ·exact absurd hg (hf' i e h hi)
        ·exact h
        ·exact absurd hg' (hf i' e' h hi')
      subst this
      rw[hi]at hi'
      obtain rfl:=Option.some.inj hi'
      rw[ih hr']
theorem Q0.walk {l:List Ax} {t n:Int} {ids:List Int} (h:Q0 l t n ids) {p:Int×Nat} (hb:dO l t n p) (h0:∀ e∈l,0≤e.Cost):∃ es,Jh l n es t∧es.map (·.ID)=ids∧cst es=p:=by
  induction h generalizing p with
  | done=>exact ⟨[],rfl,rfl,(dO.Aag h0).unique hb⟩
  | @step n i e ids hn hi hg hf _ ih=>
    obtain⟨g1,g2,q,g3,g4⟩:=hg
    obtain⟨es,e1,e2,e3⟩:=ih g3
    exact⟨e::es,⟨g1,g2,e1⟩,by rw[List.map_cons,e2],by rw[aU,e3];exact g4.unique hb⟩
inductive pL (l:List Ax) (f t:Int):List Int×Int×Bool→Prop
  | none:(∀ es,¬ Jh l f es t)→pL l f t ([],0,false)
  | some {p:Int×Nat} {ids:List Int}:dO l t f p→Q0 l t f ids→pL l f t (ids,p.1,true)
theorem pL.unique {l:List Ax} {f t:Int} {r r':List Int×Int×Bool} (h:pL l f t r) (k:pL l f t r'):r=r':=by
  cases h with
  | none h=>
    cases k with
    | none=>rfl
    | some hb=>obtain ⟨es,h1,_⟩:=hb.walk;exact absurd h1 (h es)
  | some hb hp=>
    cases k with
    | none k=>obtain ⟨es,h1,_⟩:=hb.walk;exact absurd h1 (k es)
    | some kb kp=>rw[hb.unique kb,hp.unique kp]
abbrev Tab:=Int→Option (Int×Nat)
def lexlt (a b:Int×Nat):Prop:=a.1<b.1∨(a.1=b.1∧a.2<b.2)
instance (a b:Int×Nat):Decidable (lexlt a b):=by unfold lexlt;infer_instance
def TLe (x y:Option (Int×Nat)):Prop:=∀ b,y=some b→∃ a,x=some a∧lexle a b
theorem TLe.refl (x:Option (Int×Nat)):TLe x x:=fun b h=>⟨b,h,.refl b⟩
theorem TLe.trans {x y z:Option (Int×Nat)} (h:TLe x y) (k:TLe y z):TLe x z:=fun b hb=>by
  obtain⟨a,h1,h2⟩:=k b hb
  obtain⟨c,h3,h4⟩:=h a h1
  exact⟨c,h3,h4.trans h2⟩
def Cov (l:List Ax) (t:Int) (T:Tab) (i:Nat):Prop:=∀ n es,Jh l n es t→es.length≤i→TLe (T n) (some (cst es))
theorem Cov.all {l:List Ax} (h0:∀ e∈l,0≤e.Cost) {t:Int} {T:Tab} {i:Nat} (h:Cov l t T i) (hi:l.length≤i):∀ j,Cov l t T j:=by
  intro j n es hc _
  obtain⟨es',g1,g2,g3⟩:=shorten h0 _ (Nat.le_refl _) hc
  refine(h n es' g1 (by omega)).trans fun b hb=>?_
  obtain rfl:=Option.some.inj hb
  exact⟨_,rfl,g3⟩
structure Exact (l:List Ax) (t:Int) (T:Tab):Prop where
  best:∀ n p,T n=some p↔dO l t n p
  cov:∀ i,Cov l t T i
theorem Exact.none {l:List Ax} {t:Int} {T:Tab} (h:Exact l t T) {n:Int} (hn:T n=none):∀ es,¬ Jh l n es t:=fun es hc=>by
  obtain⟨a,h1,_⟩:=h.cov es.length n es hc (Nat.le_refl _) _ rfl
  rw[hn]at h1;cases h1
theorem back_eq {l:List Ax} (hl:l.length≤100000) (f:List Int):M3 l f=Fb (turn l) f:=by
  unfold M3 Ez
  rw[Ce (by omega),Option.bind_some]
  obtain⟨s,h1,h2,h3⟩:=Dp (ρ:=List Int) (step:=G2) (l:=l) (s:=l) (fun k s=>s.length=l.length∧∀ i e,l[i]? =some e→s[i]? =some (if i<k then Z5 e else e)) ⟨rfl,fun i e h=>by simpa using h⟩ (fun k x s hk ⟨i1,i2⟩=>by
    have hlt:=(List.getElem?_eq_some_iff.1 hk).1
    have hx:=i2 k x hk
    rw[if_neg (Nat.lt_irrefl k)]at hx
    refine⟨(s.set k (Ax.mk x.ID x.To x.To x.Cost)).set k (Z5 x),?_,by simp[i1],fun i e he=>?_⟩
    ·unfold G2
     rw[A2 hx,Option.bind_some];rfl
    ·rw[List.set_set]
     by_cases h:k=i
     ·subst h
      rw[hk]at he;obtain rfl:=Option.some.inj he
      rw[List.getElem?_set_self (by omega),if_pos (by omega)]
     ·rw[List.getElem?_set_ne h,i2 i e he]
      by_cases h2:i<k
      ·rw[if_pos h2,if_pos (by omega)]
      ·rw[if_neg h2,if_neg (by omega)])
  rw[h1]
  have:s=turn l:=by
    apply List.ext_getElem?
    intro i
    unfold turn
    rw[List.getElem?_map]
    by_cases hi:i<l.length
    ·have he:=Ajb hi
     rw[h3 i _ he,he,if_pos hi];rfl
    ·rw[List.getElem?_eq_none (by omega),List.getElem?_eq_none (by omega)];rfl
  subst this
  show(Fb (turn l) f).bind _=_
  cases Fb (turn l) f<;>rfl
theorem gH (l:List Ax) (n:Int):mget [] (Bz l) n=(l.filter fun e=>decide (e.From=n)).map (·.To):=by
  have key:∀ (l:List Ax) (g:List (Int×List Int)),mget [] (l.foldl (fun g e=>gadd g e.From e.To) g) n=mget [] g n++(l.filter fun e=>decide (e.From=n)).map (·.To):=by
    intro l
    induction l with
    | nil=>intro g;simp
    | cons e l ih=>
      intro g
      rw[List.foldl_cons,ih,tU]
      by_cases h:e.From=n<;>simp[h]
  have:=key l []
  simpa[mget,Bz]using this
theorem jF (l:List Ax) (m:List (Int×Bool)) (i:List Int) (x:Int) (hi:i.length≤549755813888) :
    El l (m,i++[x])=bif (!(mget false m x))then chk (i.length+(mget [] (Bz l) x).length) (some (Out.next (mset m x true,i++mget [] (Bz l) x)))else some (Out.next (m,i)):=by
  unfold El
  have e1:IntKind.i64.wrap ((((i++[x]).length:Nat):Int) - 1)=((i.length:Nat):Int):=by
    rw[wrap_i64]<;>simp<;>omega
  simp only[e1]
  rw[Ai9 (show(0:Int)<(((i++[x]).length:Nat):Int) by simp),cond_true,A2 (x:=x) (by simp),Option.bind_some,M1 (by simp;omega)]
  simp[List.take_left]
theorem m9 {l:List Ax} {f:List Int} (hl:l.length≤100000) (hf:f.length≤100000) (hE:∀ e∈l,I64 e.To) (hF:∀ n∈f,I64 n):∃ r,Fb l f=some r∧Pk l f r:=by
  have hlen:∀ n,(mget [] (Bz l) n).length≤l.length:=fun n=>by
    rw[gH,List.length_map];exact List.length_filter_le _ _
  have hC:(f++l.map (·.To)).length=f.length+l.length:=by simp
  have hB:(f.length+l.length)*(l.length+1)+f.length≤30000000000:=by
    have:=Nat.mul_le_mul (show f.length+l.length≤200000 by omega) (show l.length+1≤100001 by omega)
    omega
  obtain⟨r,h1,h2⟩:=Gz (step:=El l)
    (fun s=>(mkeys s.1).Nodup∧(∀ n,mget false s.1 n=true↔n∈mkeys s.1)∧(∀ n∈mkeys s.1,Rch l (·∈f) n)∧(∀ n∈s.2,Rch l (·∈f) n)∧(∀ n∈f,n∈mkeys s.1∨n∈s.2)∧(∀ e∈l,e.From∈mkeys s.1→e.To∈mkeys s.1∨e.To∈s.2)∧
      (f.length+l.length - s.1.length)*(l.length+1)+s.2.length≤30000000000)
    (fun r=>Pk l f r) (fun s=>(f.length+l.length - s.1.length)*(l.length+1)+s.2.length) (fun s ⟨i1,i2,i3,i4,i5,i6,i7⟩=>by
      obtain⟨m,o⟩:=s
      simp only at i1 i2 i3 i4 i5 i6 i7 ⊢
      have hk:m.length≤f.length+l.length:=by
        have:=Jk i1 (b:=f++l.map (·.To)) fun n hn=>Q7 (i3 n hn)
        rw[hC]at this
        simpa[mkeys]using this
      have ho:o=[]∨∃ i x,o=i++[x]:=by
        rcases List.eq_nil_or_concat o with h | ⟨i,x,h⟩
        ·exact .inl h
        ·exact .inr ⟨i,x,by rw[h,List.concat_eq_append]⟩
      rcases ho with rfl | ⟨i,x,rfl⟩
      ·refine .inr ⟨Dd (mkeys m),?_,?_⟩
       ·unfold El
        have hr:∀ k∈mkeys m, -9223372036854775808≤k∧k≤9223372036854775807:=fun k hk=>by
          rcases List.mem_append.1 (Q7 (i3 k hk))with h | h
          ·exact hF k h
          ·obtain⟨e,he,rfl⟩:=List.mem_map.1 h;exact hE e he
        simp only[List.length_nil,Int.natCast_zero,Int.lt_irrefl,decide_false,cond_false]
        rw[M1 hr,Ce (by omega)];rfl
       ·refine .of_closed (tH i1) (fun n hn=>i3 n ((M6 _ _).1 hn)) (fun n hn=>(M6 _ _).2 ?_) (fun e he hm=>(M6 _ _).2 ?_)
        ·simpa using i5 n hn
        ·simpa using i6 e he ((M6 _ _).1 hm)
      ·simp only[List.length_append,List.length_cons,List.length_nil]at i7
       rw[jF l m i x (by omega)]
       have hx:=i4 x (by simp)
       cases hb:mget false m x with
       | false=>
         have hnew:x ∉ mkeys m:=fun h=>by rw[(i2 x).2 h]at hb;cases hb
         have hlx:=hlen x
         have hle:m.length+1≤f.length+l.length:=by
           have hn:(x::mkeys m).Nodup:=List.nodup_cons.2 ⟨hnew,i1⟩
           have:=Jk hn (b:=f++l.map (·.To)) fun n hn=>by
             rcases List.mem_cons.1 hn with rfl | hn
             ·exact Q7 hx
             ·exact Q7 (i3 n hn)
           rw[hC]at this
           simpa[mkeys]using this
         have hml:(mset m x true).length=m.length+1:=by
           have hh:mhas m x=false:=by
             cases h:mhas m x with
             | false=>rfl
             | true=>exact absurd ((gJ m x).1 h) hnew
           rw[nN,hh];rfl
         have hk2:mkeys (mset m x true)=mkeys m++[x]:=by rw[X6,if_neg hnew]
         obtain⟨d,hd⟩:∃ d,f.length+l.length=m.length+1+d:=⟨_,(Nat.add_sub_cancel' hle).symm⟩
         have e1:f.length+l.length - m.length=d+1:=by omega
         have e2:f.length+l.length - (m.length+1)=d:=by omega
         rw[e1,Nat.succ_mul]at i7
         simp only[Bool.not_false,cond_true]
         rw[Ce (by omega)]
         refine .inl ⟨_,rfl,⟨qS i1 _ _,fun n=>?_,fun n hn=>?_,fun n hn=>?_,fun n hn=>?_,fun e he hm=>?_,?_⟩,?_⟩
         ·simp only[hk2,X7,List.mem_append,List.mem_singleton]
          by_cases h:x=n
          ·simp[h]
          ·rw[if_neg h,i2];exact⟨.inl,fun h'=>h'.elim id fun h'=>absurd h'.symm h⟩
         ·simp only[hk2,List.mem_append,List.mem_singleton]at hn
          rcases hn with hn | rfl
          ·exact i3 n hn
          ·exact hx
         ·rcases List.mem_append.1 hn with hn | hn
          ·exact i4 n (by simp[hn])
          ·rw[gH]at hn
           obtain⟨e,he,rfl⟩:=List.mem_map.1 hn
           have:=List.mem_filter.1 he
           have hfx:=Ai8 this.2
           exact .step this.1 (hfx ▸ hx)
         ·simp only[hk2,List.mem_append,List.mem_singleton]
          rcases i5 n hn with h | h
          ·exact .inl (.inl h)
          ·rcases List.mem_append.1 h with h | h
           ·exact .inr (.inl h)
           ·exact .inl (.inr (by simpa using h))
         ·simp only[hk2,List.mem_append,List.mem_singleton]at hm ⊢
          rcases hm with hm | hm
          ·rcases i6 e he hm with h | h
           ·exact .inl (.inl h)
           ·rcases List.mem_append.1 h with h | h
            ·exact .inr (.inl h)
            ·exact .inl (.inr (by simpa using h))
          ·refine .inr (.inr ?_)
           rw[gH]
           exact List.mem_map.2 ⟨e,List.mem_filter.2 ⟨he,Ai9 hm⟩,rfl⟩
         ·simp only[hml,e2,List.length_append];omega
         ·simp only[hml,e1,e2,List.length_append,Nat.succ_mul,List.length_cons,List.length_nil];omega
       | true=>
         have hold:=(i2 x).1 hb
         refine .inl ⟨_,rfl,⟨i1,i2,i3,fun n hn=>i4 n (by simp[hn]),fun n hn=>?_,fun e he hm=>?_,?_⟩,?_⟩
         ·rcases i5 n hn with h | h
          ·exact .inl h
          ·rcases List.mem_append.1 h with h | h
           ·exact .inr h
           ·exact .inl (by rw[show n=x by simpa using h];exact hold)
         ·rcases i6 e he hm with h | h
          ·exact .inl h
          ·rcases List.mem_append.1 h with h | h
           ·exact .inr h
           ·exact .inl (by rw[show e.To=x by simpa using h];exact hold)
         ·simp only;omega
         ·simp only[List.length_append,List.length_cons,List.length_nil];omega)
    fuel ([],f) ⟨by simp[mkeys],by simp[mget,mkeys],by simp[mkeys],fun n hn=>.base hn,fun n hn=>.inr hn,by simp[mkeys],by simpa using hB⟩ (by show _<1099511627776;simp only[List.length_nil,Nat.sub_zero];omega)
  refine⟨r,?_,h2⟩
  unfold Fb B8
  rw[Ce (by omega),Ce (by omega),Option.bind_some,h1];rfl
def Eo (n_:Int) (least:Int) (most:Int):Option (Bool):=
  (bif (decide (least≤n_))then some (decide (n_≤most))else some false)
def Ou (m:Bb) (k0:Nat) (x_2:Ck) (sv:Unit):Option (Out (Unit) (Int)):=
  (Eo x_2.ID (1:Int) (9999:Int)).bind fun y3=>(bif (!y3)then some (Out.ret (2:Int))else (Eo x_2.Alt (0:Int) (5000:Int)).bind fun y4=>(bif (!y4)then some (Out.ret (2:Int))else (bif (decide ((0:Int)<((k0:Nat):Int)))then (Dk m.Nodes (IntKind.i64.wrap (((k0:Nat):Int) - (1:Int)))).bind fun x_5=>(bif (decide (x_2.ID≤x_5.ID))then some (Out.ret (7:Int))else some (Out.next ()))else some (Out.next ()))))
def Tb (m:Bb):Option (Int):=
  (Al (Ou m) 0 m.Nodes ()).bind fun o0=>o0.on fun s0=>some (0:Int)
def K8 (m:Bb) (x_2:Cc):Option (Out (Unit) (Int)):=
  (Ej m x_2.From).bind fun y10=>(Ej m x_2.To).bind fun y11=>(bif (!y10.2)then some (Out.ret (8:Int))else (bif (!y11.2)then some (Out.ret (8:Int))else (bif (decide (y11.1.Alt≤y10.1.Alt))then some (Out.ret (11:Int))else nz x_2.Spacing ((bif (decide ((Int.tmod (IntKind.i64.wrap ((2:Int)*x_2.Length)) x_2.Spacing)≠(0:Int)))then some (Out.ret (1:Int))else nz x_2.Spacing ((Eo (IntKind.i64.wrap (Int.tdiv (IntKind.i64.wrap ((2:Int)*x_2.Length)) x_2.Spacing)) (1:Int) (200:Int)).bind fun y12=>(bif (!y12)then some (Out.ret (1:Int))else some (Out.next ()))))))))
def Hf (m:Bb) (k0:Nat) (x_2:Cc) (sv:Unit):Option (Out (Unit) (Int)):=
  (Eo x_2.ID (1:Int) (9999:Int)).bind fun y3=>(bif (!y3)then some (Out.ret (2:Int))else (Eo x_2.Operator (1:Int) (8:Int)).bind fun y4=>(bif (!y4)then some (Out.ret (2:Int))else (Eo x_2.Length (10:Int) (6000:Int)).bind fun y5=>(bif (!y5)then some (Out.ret (2:Int))else (Eo x_2.Speed (500:Int) (12000:Int)).bind fun y6=>(bif (!y6)then some (Out.ret (2:Int))else (Eo x_2.Seats (1:Int) (16:Int)).bind fun y7=>(bif (!y7)then some (Out.ret (2:Int))else (Eo x_2.Spacing (5:Int) (1000:Int)).bind fun y8=>(bif (!y8)then some (Out.ret (2:Int))else (bif (decide ((0:Int)<((k0:Nat):Int)))then (Dk m.Lifts (IntKind.i64.wrap (((k0:Nat):Int) - (1:Int)))).bind fun x_13=>(bif (decide (x_2.ID≤x_13.ID))then some (Out.ret (7:Int))else K8 m x_2)else K8 m x_2)))))))
def O8 (m:Bb):Option (Int):=
  (Al (Hf m) 0 m.Lifts ()).bind fun o0=>o0.on fun s0=>some (0:Int)
def Iw (m:Bb) (k0:Nat) (x_2:Cd) (sv:Unit):Option (Out (Unit) (Int)):=
  (Eo x_2.ID (1:Int) (9999:Int)).bind fun y3=>(bif (!y3)then some (Out.ret (2:Int))else (Eo x_2.Operator (1:Int) (8:Int)).bind fun y4=>(bif (!y4)then some (Out.ret (2:Int))else (Eo x_2.Grade (1:Int) (4:Int)).bind fun y5=>(bif (!y5)then some (Out.ret (2:Int))else (Eo x_2.Zone (1:Int) (32:Int)).bind fun y6=>(bif (!y6)then some (Out.ret (2:Int))else (Eo x_2.Length (10:Int) (20000:Int)).bind fun y7=>(bif (!y7)then some (Out.ret (2:Int))else (bif (decide ((0:Int)<((k0:Nat):Int)))then (Dk m.Runs (IntKind.i64.wrap (((k0:Nat):Int) - (1:Int)))).bind fun x_8=>(bif (decide (x_2.ID≤x_8.ID))then some (Out.ret (7:Int))else (Ej m x_2.From).bind fun y9=>(Ej m x_2.To).bind fun y10=>(bif (!y9.2)then some (Out.ret (8:Int))else (bif (!y10.2)then some (Out.ret (8:Int))else (bif (decide (y9.1.Alt≤y10.1.Alt))then some (Out.ret (11:Int))else some (Out.next ())))))else (Ej m x_2.From).bind fun y11=>(Ej m x_2.To).bind fun y12=>(bif (!y11.2)then some (Out.ret (8:Int))else (bif (!y12.2)then some (Out.ret (8:Int))else (bif (decide (y11.1.Alt≤y12.1.Alt))then some (Out.ret (11:Int))else some (Out.next ()))))))))))
def Qr (m:Bb):Option (Int):=
  (Al (Iw m) 0 m.Runs ()).bind fun o0=>o0.on fun s0=>some (0:Int)
def Hg (m:Bb) (k1:Nat) (x_3:Int) (sv:Unit):Option (Out (Unit) (Int)):=
  (bif (decide ((0:Int)<((k1:Nat):Int)))then (Dk m.Bases (IntKind.i64.wrap (((k1:Nat):Int) - (1:Int)))).bind fun x_4=>(bif (decide (x_3≤x_4))then some (Out.ret (7:Int))else some (Out.next ()))else some (Out.next ()))
def bL (m:Bb):Option (Int):=
  (Al (Hg m) 0 m.Bases ()).bind fun o1=>o1.on fun s1=>some (0:Int)
def Fy (m:Bb) (k4:Nat) (x_6:Int) (sv:Unit):Option (Out (Unit) (Int)):=
  (Ej m x_6).bind fun y7=>(bif (!y7.2)then some (Out.ret (8:Int))else some (Out.next ()))
def Tc (m:Bb):Option (Int):=
  (bif (decide (((m.Bases.length:Nat):Int)=(0:Int)))then some (8:Int)else (Al (Fy m) 0 m.Bases ()).bind fun o4=>o4.on fun s4=>bL m)
def fK (m:Bb):Option (Int):=
  (bif (decide ((64:Int)<((m.Nodes.length:Nat):Int)))then some (4:Int)else (bif (decide ((32:Int)<((m.Lifts.length:Nat):Int)))then some (4:Int)else (bif (decide ((64:Int)<((m.Runs.length:Nat):Int)))then some (4:Int)else (bif (decide ((64:Int)<((m.Bases.length:Nat):Int)))then some (4:Int)else (Tb m).bind fun y1=>(bif (decide (y1≠(0:Int)))then some y1 else(O8 m).bind fun y2=>(bif (decide (y2≠(0:Int)))then some y2 else(Qr m).bind fun y3=>(bif (decide (y3≠(0:Int)))then some y3 else(Tc m).bind fun y4=>some y4)))))))
def Xb {α:Type} (idf:α→Int) (d:α) (l:List α) (id:Int):α×Bool:=match l.find? (fun x=>decide (idf x=id))with | some x=>(x,true) | none=>(d,false)
def Cx (m:Bb) (id:Int):Ck×Bool:=Xb Ck.ID ⟨0,0⟩ m.Nodes id
def Aa4 (m:Bb) (id:Int):Cc×Bool:=Xb Cc.ID ⟨0,0,0,0,0,0,0,0⟩ m.Lifts id
def Jt (m:Bb) (id:Int):Cd×Bool:=Xb Cd.ID ⟨0,0,0,0,0,0,0⟩ m.Runs id
theorem Xa {α:Type} {idf:α→Int} {d:α} {l:List α} {id:Int} {step:Nat→α→Unit→Option (Out Unit (α×Bool))} (hs:∀ k x,x∈l→step k x ()=bif decide (idf x=id)then some (.ret (x,true))else some (.next ())) :
    ((Al step 0 l ()).bind fun o=>o.on fun _=>some (d,false))=some (Xb idf d l id):=by
  rw[Fe (fun x=>decide (idf x=id)) (fun x=>(x,true)) hs,Xb]
  cases l.find? (fun x=>decide (idf x=id))<;>rfl
theorem iF {α:Type} {idf:α→Int} {d:α} {l:List α} {id:Int} (h:(Xb idf d l id).2=true):(Xb idf d l id).1∈l∧idf (Xb idf d l id).1=id:=by
  unfold Xb at h ⊢
  split
  ·rename_i x hx
   exact⟨List.mem_of_find?_eq_some hx,by simpa using List.find?_some hx⟩
  ·rename_i hx;rw[hx]at h;cases h
theorem uN {α:Type} {idf:α→Int} {d:α} {l:List α} {x:α} (h:x∈l):(Xb idf d l (idf x)).2=true:=by
  unfold Xb
  split
  ·rfl
  ·rename_i hx
   have:=List.find?_eq_none.1 hx x h
   simp at this
theorem Zj {m:Bb} {id:Int} (h:(Cx m id).2=true):(Cx m id).1∈m.Nodes∧(Cx m id).1.ID=id:=iF h
theorem bP {m:Bb} {id:Int} (h:(Jt m id).2=true):(Jt m id).1∈m.Runs∧(Jt m id).1.ID=id:=iF h
theorem G1 (m:Bb) (id:Int):Ej m id=some (Cx m id):=Xa fun _ _ _=>rfl
theorem Q3 (n lo hi:Int):Eo n lo hi=some (decide (lo≤n∧n≤hi)):=by
  unfold Eo
  by_cases h:lo≤n
  ·simp[h]
  ·simp[h]
theorem wU (n lo hi:Int):E9 n lo hi=some (decide (lo≤n∧n≤hi)):=Q3 n lo hi
def K5 {α:Type} (idf:α→Int) (l:List α):Prop:=∀ k x y,l[k+1]? =some x→l[k]? =some y→idf y<idf x
def before {α ρ:Type} (idf:α→Int) (l:List α) (k:Nat) (x:α) (bad good:Option (Out Unit ρ)):Option (Out Unit ρ):=
  bif decide (0<((k:Nat):Int))then (Dk l (IntKind.i64.wrap ((k:Int) - 1))).bind fun y=>bif decide (idf x≤idf y)then bad else good else good
theorem Yi {α ρ:Type} {idf:α→Int} {l:List α} {k:Nat} {x:α} {bad good:Option (Out Unit ρ)} (hk:l[k]? =some x) (hl:l.length≤100000) :
    ((∀ y,0<k→l[k - 1]? =some y→idf y<idf x)∧before idf l k x bad good=good)∨(¬ (∀ y,0<k→l[k - 1]? =some y→idf y<idf x)∧before idf l k x bad good=bad):=by
  have hlt:=(List.getElem?_eq_some_iff.1 hk).1
  unfold before
  by_cases h0:0<k
  ·rw[Ai9 (by omega),cond_true,Q1 h0 (by omega),X8 (by omega)]
   have hy:l[k - 1]? =some l[k - 1]:=Ajb (by omega)
   show(_∧(bif decide (idf x≤idf l[k - 1])then bad else good)=_)∨(_∧(bif decide (idf x≤idf l[k - 1])then bad else good)=_)
   by_cases hle:idf x≤idf l[k - 1]
   ·rw[Ai9 hle,cond_true]
    refine .inr ⟨fun h=>?_,rfl⟩
    have:=h _ h0 hy
    omega
   ·rw[Aja hle,cond_false]
    refine .inl ⟨fun y _ hy'=>?_,rfl⟩
    rw[hy]at hy'
    obtain rfl:=Option.some.inj hy'
    omega
  ·rw[Aja (by omega),cond_false]
   exact .inl ⟨fun y h=>absurd h h0,rfl⟩
theorem Uw {α:Type} {idf:α→Int} {l:List α}:K5 idf l↔∀ (k:Nat) x,l[k]? =some x→∀ y,0<k→l[k - 1]? =some y→idf y<idf x:=by
  constructor
  ·intro h k x hx y h0 hy
   refine h (k - 1) x y ?_ hy
   rwa [show k - 1+1=k by omega]
  ·intro h k x y hx hy
   exact h (k+1) x hx y (by omega) (by simpa using hy)
def xY (x:Ck):Prop:=(1≤x.ID∧x.ID≤9999)∧(0≤x.Alt∧x.Alt≤5000)
def bH (m:Bb) (a b:Int):Prop:=(Cx m a).2=true∧(Cx m b).2=true∧(Cx m a).1.Alt<(Cx m b).1.Alt
def zG (x:Cc):Prop:=(1≤x.ID∧x.ID≤9999)∧(1≤x.Operator∧x.Operator≤8)∧(10≤x.Length∧x.Length≤6000)∧(500≤x.Speed∧x.Speed≤12000)∧(1≤x.Seats∧x.Seats≤16)∧(5≤x.Spacing∧x.Spacing≤1000)
def bI (x:Cc):Prop:=(2*x.Length).tmod x.Spacing=0∧1≤(2*x.Length).tdiv x.Spacing∧(2*x.Length).tdiv x.Spacing≤200
def xZ (m:Bb) (x:Cc):Prop:=zG x∧bH m x.From x.To∧bI x
def Aal (x:Cd):Prop:=(1≤x.ID∧x.ID≤9999)∧(1≤x.Operator∧x.Operator≤8)∧(1≤x.Grade∧x.Grade≤4)∧(1≤x.Zone∧x.Zone≤32)∧(10≤x.Length∧x.Length≤20000)
def zN (m:Bb) (x:Cd):Prop:=Aal x∧bH m x.To x.From
structure K6 (m:Bb):Prop where
  lenN:m.Nodes.length≤64
  lenL:m.Lifts.length≤32
  lenR:m.Runs.length≤64
  lenB:m.Bases.length≤64
  nodes:∀ x∈m.Nodes,xY x
  nodesR:K5 Ck.ID m.Nodes
  lifts:∀ x∈m.Lifts,xZ m x
  liftsR:K5 Cc.ID m.Lifts
  runs:∀ x∈m.Runs,zN m x
  runsR:K5 Cd.ID m.Runs
  some:m.Bases≠[]
  bases:∀ b∈m.Bases,(Cx m b).2=true
  basesR:K5 (fun b:Int=>b) m.Bases
theorem tests {α:Type} {step:Nat→α→Unit→Option (Out Unit Int)} {l:List α} (ok:Nat→α→Prop) (hs:∀ k x,l[k]? =some x→(step k x ()=some (.next ())∧ok k x)∨(∃ r,step k x ()=some (.ret r)∧r≠0∧¬ ok k x)) :
    ∃ r,((Al step 0 l ()).bind fun o=>o.on fun _=>some 0)=some r∧(r=0↔∀ k x,l[k]? =some x→ok k x):=by
  rcases Fk (step:=step) (l:=l) (s:=()) (fun k _=>∀ i x,i<k→l[i]? =some x→ok i x) (fun r=>r≠0∧∃ k x,l[k]? =some x∧¬ ok k x) (fun i x h=>by omega) (fun k x u hk hI=>by
    rcases hs k x hk with⟨h1,h2⟩ | ⟨r,h1,h2,h3⟩
    ·refine .inl ⟨(),h1,fun i y hi hy=>?_⟩
     by_cases h:i=k
     ·subst h;rw[hk]at hy;obtain rfl:=Option.some.inj hy;exact h2
     ·exact hI i y (by omega) hy
    ·exact .inr ⟨r,h1,h2,k,x,hk,h3⟩)with ⟨u,h1,h2⟩ | ⟨r,h1,h2,k,x,hk,h3⟩
  ·refine⟨0,by rw[h1];rfl,fun _ k x hk=>h2 k x (List.getElem?_eq_some_iff.1 hk).1 hk,fun _=>rfl⟩
  ·refine⟨r,by rw[h1];rfl,fun h=>absurd h h2,fun h=>absurd (h k x hk) h3⟩
theorem mC {α:Type} {l:List α} {P:α→Prop} {Q:Nat→α→Prop}:(∀ (k:Nat) x,l[k]? =some x→P x∧Q k x)↔(∀ x∈l,P x)∧∀ (k:Nat) x,l[k]? =some x→Q k x:=by
  constructor
  ·intro h
   refine⟨fun x hx=>?_,fun k x hk=>(h k x hk).2⟩
   obtain⟨k,hk⟩:=List.getElem?_of_mem hx
   exact(h k x hk).1
  ·intro h k x hk
   exact⟨h.1 x (Ajc hk),h.2 k x hk⟩
theorem iY (m:Bb) (hl:m.Nodes.length≤64):∃ r,Tb m=some r∧(r=0↔(∀ x∈m.Nodes,xY x)∧K5 Ck.ID m.Nodes):=by
  rw[Uw,← mC]
  refine tests _ fun k x hk=>?_
  have hb:Ou m k x ()=(bif !decide (1≤x.ID∧x.ID≤9999)then some (Out.ret 2)else bif !decide (0≤x.Alt∧x.Alt≤5000)then some (Out.ret 2)else before Ck.ID m.Nodes k x (some (Out.ret 7)) (some (Out.next ()))):=by
    simp only[Ou,Q3,Option.bind_some];rfl
  rw[hb]
  by_cases h1:1≤x.ID∧x.ID≤9999
  ·by_cases h2:0≤x.Alt∧x.Alt≤5000
   ·rw[Ai9 h1,Ai9 h2]
    rcases Yi (idf:=Ck.ID) (bad:=some (Out.ret (7:Int))) (good:=some (Out.next ())) hk (by omega)with ⟨h3,e⟩ | ⟨h3,e⟩
    ·exact .inl ⟨e,⟨h1,h2⟩,h3⟩
    ·exact .inr ⟨7,e,by decide,fun h=>h3 h.2⟩
   ·rw[Ai9 h1,Aja h2]
    exact .inr ⟨2,rfl,by decide,fun h=>h2 h.1.2⟩
  ·rw[Aja h1]
   exact .inr ⟨2,rfl,by decide,fun h=>h1 h.1.1⟩
theorem fV (m:Bb):Sw m.Nodes=Tb m:=rfl
theorem Aan {n:Int} (h:10≤n∧n≤6000):IntKind.i64.wrap (2*n)=2*n:=by rw[wrap_i64]<;>omega
theorem pT {a b:Int} (ha:0≤a) (hb:0<b):0≤a.tdiv b∧a.tdiv b≤a:=by
  rw[Int.tdiv_eq_ediv_of_nonneg ha]
  exact⟨Int.ediv_nonneg ha (by omega),Int.ediv_le_self _ ha⟩
theorem sZ {n s:Int} (h:10≤n∧n≤6000) (hs:5≤s∧s≤1000):IntKind.i64.wrap ((2*n).tdiv s)=(2*n).tdiv s:=by
  have:=pT (a:=2*n) (b:=s) (by omega) (by omega)
  rw[wrap_i64]<;>omega
def leads (m:Bb) (a b:Int) (good:Option (Out Unit Int)):Option (Out Unit Int):=
  bif !(Cx m a).2 then some (.ret 8)else bif !(Cx m b).2 then some (.ret 8)else bif decide ((Cx m b).1.Alt≤(Cx m a).1.Alt)then some (.ret 11)else good
theorem nU (m:Bb) (a b:Int) (good:Option (Out Unit Int)):(bH m a b∧leads m a b good=good)∨(¬ bH m a b∧∃ r,leads m a b good=some (.ret r)∧r≠0):=by
  unfold leads bH
  cases h1:(Cx m a).2 with
  | false=>exact .inr ⟨by simp,8,rfl,by decide⟩
  | true=>
    cases h2:(Cx m b).2 with
    | false=>exact .inr ⟨by simp,8,rfl,by decide⟩
    | true=>
      by_cases h3:(Cx m b).1.Alt≤(Cx m a).1.Alt
      ·rw[Ai9 h3]
       exact .inr ⟨fun h=>by omega,11,rfl,by decide⟩
      ·rw[Aja h3]
       exact .inl ⟨⟨rfl,rfl,by omega⟩,rfl⟩
def carr (x:Cc) (good:Option (Out Unit Int)):Option (Out Unit Int):=
  nz x.Spacing (bif decide ((IntKind.i64.wrap (2*x.Length)).tmod x.Spacing≠0)then some (.ret 1)else nz x.Spacing (bif !decide (1≤IntKind.i64.wrap ((IntKind.i64.wrap (2*x.Length)).tdiv x.Spacing)∧IntKind.i64.wrap ((IntKind.i64.wrap (2*x.Length)).tdiv x.Spacing)≤200)then some (.ret 1)else good))
theorem yZ {x:Cc} (hl:10≤x.Length∧x.Length≤6000) (hs:5≤x.Spacing∧x.Spacing≤1000) (good:Option (Out Unit Int)):(bI x∧carr x good=good)∨(¬ bI x∧∃ r,carr x good=some (.ret r)∧r≠0):=by
  unfold carr bI
  rw[gA (by omega),gA (by omega),Aan hl,sZ hl hs]
  by_cases h1:(2*x.Length).tmod x.Spacing=0
  ·rw[Aja (by simpa using h1)]
   by_cases h2:1≤(2*x.Length).tdiv x.Spacing∧(2*x.Length).tdiv x.Spacing≤200
   ·rw[Ai9 h2];exact .inl ⟨⟨h1,h2.1,h2.2⟩,rfl⟩
   ·rw[Aja h2];exact .inr ⟨fun h=>h2 h.2,1,rfl,by decide⟩
  ·rw[Ai9 (by simpa using h1)];exact .inr ⟨fun h=>h1 h.1,1,rfl,by decide⟩
theorem iZ (m:Bb) (hl:m.Lifts.length≤32):∃ r,O8 m=some r∧(r=0↔(∀ x∈m.Lifts,xZ m x)∧K5 Cc.ID m.Lifts):=by
  rw[Uw,← mC]
  refine tests _ fun k x hk=>?_
  have hb:Hf m k x ()=(bif !decide (1≤x.ID∧x.ID≤9999)then some (Out.ret 2)else bif !decide (1≤x.Operator∧x.Operator≤8)then some (Out.ret 2)else bif !decide (10≤x.Length∧x.Length≤6000)then some (Out.ret 2)else
   bif !decide (500≤x.Speed∧x.Speed≤12000)then some (Out.ret 2)else bif !decide (1≤x.Seats∧x.Seats≤16)then some (Out.ret 2)else bif !decide (5≤x.Spacing∧x.Spacing≤1000)then some (Out.ret 2)else
   before Cc.ID m.Lifts k x (some (Out.ret 7)) (leads m x.From x.To (carr x (some (.next ()))))):=by
    simp only[Hf,K8,Q3,G1,Option.bind_some];rfl
  rw[hb]
  by_cases h1:1≤x.ID∧x.ID≤9999
  case neg=>rw[Aja h1];exact .inr ⟨2,rfl,by decide,fun h=>h1 h.1.1.1⟩
  by_cases h2:1≤x.Operator∧x.Operator≤8
  case neg=>rw[Ai9 h1,Aja h2];exact .inr ⟨2,rfl,by decide,fun h=>h2 h.1.1.2.1⟩
  by_cases h3:10≤x.Length∧x.Length≤6000
  case neg=>rw[Ai9 h1,Ai9 h2,Aja h3];exact .inr ⟨2,rfl,by decide,fun h=>h3 h.1.1.2.2.1⟩
  by_cases h4:500≤x.Speed∧x.Speed≤12000
  case neg=>rw[Ai9 h1,Ai9 h2,Ai9 h3,Aja h4];exact .inr ⟨2,rfl,by decide,fun h=>h4 h.1.1.2.2.2.1⟩
  by_cases h5:1≤x.Seats∧x.Seats≤16
  case neg=>rw[Ai9 h1,Ai9 h2,Ai9 h3,Ai9 h4,Aja h5];exact .inr ⟨2,rfl,by decide,fun h=>h5 h.1.1.2.2.2.2.1⟩
  by_cases h6:5≤x.Spacing∧x.Spacing≤1000
  case neg=>rw[Ai9 h1,Ai9 h2,Ai9 h3,Ai9 h4,Ai9 h5,Aja h6];exact .inr ⟨2,rfl,by decide,fun h=>h6 h.1.1.2.2.2.2.2⟩
  rw[Ai9 h1,Ai9 h2,Ai9 h3,Ai9 h4,Ai9 h5,Ai9 h6]
  rcases Yi (idf:=Cc.ID) (bad:=some (Out.ret (7:Int))) (good:=leads m x.From x.To (carr x (some (.next ())))) hk (by omega)with ⟨h7,e⟩ | ⟨h7,e⟩
  case inr=>exact .inr ⟨7,e,by decide,fun h=>h7 h.2⟩
  rcases nU m x.From x.To (carr x (some (.next ())))with ⟨h8,e2⟩ | ⟨h8,r,e2,hr⟩
  case inr=>exact .inr ⟨r,e.trans e2,hr,fun h=>h8 h.1.2.1⟩
  rcases yZ h3 h6 (some (.next ()))with ⟨h9,e3⟩ | ⟨h9,r,e3,hr⟩
  case inr=>exact .inr ⟨r,e.trans (e2.trans e3),hr,fun h=>h9 h.1.2.2⟩
  exact .inl ⟨e.trans (e2.trans e3),⟨⟨h1,h2,h3,h4,h5,h6⟩,h8,h9⟩,h7⟩
theorem lE (m:Bb) (hl:m.Runs.length≤64):∃ r,Qr m=some r∧(r=0↔(∀ x∈m.Runs,zN m x)∧K5 Cd.ID m.Runs):=by
  rw[Uw,← mC]
  refine tests _ fun k x hk=>?_
  have hlead:∀ (good:Option (Out Unit Int)),(bif !(Cx m x.From).2 then some (.ret 8)else bif !(Cx m x.To).2 then some (.ret 8)else bif decide ((Cx m x.From).1.Alt≤(Cx m x.To).1.Alt)then some (.ret 11)else good)=leads m x.To x.From good:=by
    intro good
    unfold leads
    cases(Cx m x.From).2<;>cases (Cx m x.To).2<;>rfl
  have hb:Iw m k x ()=(bif !decide (1≤x.ID∧x.ID≤9999)then some (Out.ret 2)else bif !decide (1≤x.Operator∧x.Operator≤8)then some (Out.ret 2)else bif !decide (1≤x.Grade∧x.Grade≤4)then some (Out.ret 2)else
   bif !decide (1≤x.Zone∧x.Zone≤32)then some (Out.ret 2)else bif !decide (10≤x.Length∧x.Length≤20000)then some (Out.ret 2)else
   before Cd.ID m.Runs k x (some (Out.ret 7)) (leads m x.To x.From (some (.next ())))):=by
    simp only[Iw,Q3,G1,Option.bind_some,hlead];rfl
  rw[hb]
  by_cases h1:1≤x.ID∧x.ID≤9999
  case neg=>rw[Aja h1];exact .inr ⟨2,rfl,by decide,fun h=>h1 h.1.1.1⟩
  by_cases h2:1≤x.Operator∧x.Operator≤8
  case neg=>rw[Ai9 h1,Aja h2];exact .inr ⟨2,rfl,by decide,fun h=>h2 h.1.1.2.1⟩
  by_cases h3:1≤x.Grade∧x.Grade≤4
  case neg=>rw[Ai9 h1,Ai9 h2,Aja h3];exact .inr ⟨2,rfl,by decide,fun h=>h3 h.1.1.2.2.1⟩
  by_cases h4:1≤x.Zone∧x.Zone≤32
  case neg=>rw[Ai9 h1,Ai9 h2,Ai9 h3,Aja h4];exact .inr ⟨2,rfl,by decide,fun h=>h4 h.1.1.2.2.2.1⟩
  by_cases h5:10≤x.Length∧x.Length≤20000
  case neg=>rw[Ai9 h1,Ai9 h2,Ai9 h3,Ai9 h4,Aja h5];exact .inr ⟨2,rfl,by decide,fun h=>h5 h.1.1.2.2.2.2⟩
  rw[Ai9 h1,Ai9 h2,Ai9 h3,Ai9 h4,Ai9 h5]
  rcases Yi (idf:=Cd.ID) (bad:=some (Out.ret (7:Int))) (good:=leads m x.To x.From (some (.next ()))) hk (by omega)with ⟨h7,e⟩ | ⟨h7,e⟩
  case inr=>exact .inr ⟨7,e,by decide,fun h=>h7 h.2⟩
  rcases nU m x.To x.From (some (.next ()))with ⟨h8,e2⟩ | ⟨h8,r,e2,hr⟩
  case inr=>exact .inr ⟨r,e.trans e2,hr,fun h=>h8 h.1.2⟩
  exact .inl ⟨e.trans e2,⟨⟨h1,h2,h3,h4,h5⟩,h8⟩,h7⟩
theorem pS {α:Type} {step:Nat→α→Unit→Option (Out Unit Int)} {l:List α} (e:Int) (ok:Nat→α→Prop) (hs:∀ k x,l[k]? =some x→(step k x ()=some (.next ())∧ok k x)∨(step k x ()=some (.ret e)∧¬ ok k x)) :
    (Al step 0 l ()=some (.next ())∧∀ k x,l[k]? =some x→ok k x)∨(Al step 0 l ()=some (.ret e)∧¬ ∀ k x,l[k]? =some x→ok k x):=by
  rcases Fk (step:=step) (l:=l) (s:=()) (fun k _=>∀ i x,i<k→l[i]? =some x→ok i x) (fun r=>r=e∧∃ k x,l[k]? =some x∧¬ ok k x) (fun i x h=>by omega) (fun k x u hk hI=>by
    rcases hs k x hk with⟨h1,h2⟩ | ⟨h1,h3⟩
    ·refine .inl ⟨(),h1,fun i y hi hy=>?_⟩
     by_cases h:i=k
     ·subst h;rw[hk]at hy;obtain rfl:=Option.some.inj hy;exact h2
     ·exact hI i y (by omega) hy
    ·exact .inr ⟨e,h1,rfl,k,x,hk,h3⟩)with ⟨u,h1,h2⟩ | ⟨r,h1,h2,k,x,hk,h3⟩
  ·exact .inl ⟨h1,fun k x hk=>h2 k x (List.getElem?_eq_some_iff.1 hk).1 hk⟩
  ·subst h2;exact .inr ⟨h1,fun h=>h3 (h k x hk)⟩
theorem Aae (m:Bb):(Al (Fy m) 0 m.Bases ()=some (.next ())∧∀ b∈m.Bases,(Cx m b).2=true)∨(Al (Fy m) 0 m.Bases ()=some (.ret 8)∧¬ ∀ b∈m.Bases,(Cx m b).2=true):=by
  have h:=pS (step:=Fy m) (l:=m.Bases) 8 (fun _ b=>(Cx m b).2=true) (fun k x hk=>by
    simp only[Fy,G1,Option.bind_some]
    cases(Cx m x).2<;>simp)
  have e:(∀ (k:Nat) x,m.Bases[k]? =some x→(Cx m x).2=true)↔∀ b∈m.Bases,(Cx m b).2=true:=
    ⟨fun h b hb=>by obtain⟨k,hk⟩:=List.getElem?_of_mem hb;exact h k b hk,fun h k x hk=>h x (Ajc hk)⟩
  rwa [e]at h
theorem Aad (m:Bb) (hl:m.Bases.length≤64):(Al (Hg m) 0 m.Bases ()=some (.next ())∧K5 (fun b:Int=>b) m.Bases)∨(Al (Hg m) 0 m.Bases ()=some (.ret 7)∧¬ K5 (fun b:Int=>b) m.Bases):=by
  rw[Uw]
  refine pS _ _ fun k x hk=>?_
  rcases Yi (idf:=fun b:Int=>b) (bad:=some (Out.ret (7:Int))) (good:=some (Out.next ())) hk (by omega)with ⟨h,e⟩ | ⟨h,e⟩
  ·exact .inl ⟨e,h⟩
  ·exact .inr ⟨e,h⟩
theorem sR (m:Bb) (hl:m.Bases.length≤64):(J5 (Ei m) (m.Bases.length - 1) ()=some (.next ())∧K5 (fun b:Int=>b) m.Bases)∨(J5 (Ei m) (m.Bases.length - 1) ()=some (.ret 7)∧¬ K5 (fun b:Int=>b) m.Bases):=by
  have hn:m.Bases.length - 1≤9223372036854775807:=by omega
  rw[J5,if_pos hn]
  have h:=pS (step:=Ei m) (l:=List.replicate (m.Bases.length - 1) ()) 7 (fun k _=>∀ x y,m.Bases[k+1]? =some x→m.Bases[k]? =some y→y<x) (fun k u hk=>by
    have hk:=Tw hk
    have h1:m.Bases[k+1]? =some m.Bases[k+1]:=Ajb (by omega)
    have h2:m.Bases[k]? =some m.Bases[k]:=Ajb (by omega)
    have e1:Dk m.Bases ((k:Int)+1)=some m.Bases[k+1]:=Qx (by omega) h1
    have e2:Dk m.Bases (IntKind.i64.wrap ((k:Int)+1 - 1))=some m.Bases[k]:=Qx (by rw[wrap_i64]<;>omega) h2
    simp only[Ei,e1,e2,Option.bind_some]
    by_cases hle:m.Bases[k+1]≤m.Bases[k]
    ·rw[Ai9 hle]
     exact .inr ⟨rfl,fun h=>by have:=h _ _ h1 h2;omega⟩
    ·rw[Aja hle]
     refine .inl ⟨rfl,fun x y hx hy=>?_⟩
     rw[h1]at hx;rw[h2]at hy
     obtain rfl:=Option.some.inj hx;obtain rfl:=Option.some.inj hy
     omega)
  have e:(∀ (k:Nat) (u:Unit),(List.replicate (m.Bases.length - 1) ())[k]? =some u→∀ x y,m.Bases[k+1]? =some x→m.Bases[k]? =some y→y<x)↔K5 (fun b:Int=>b) m.Bases:=by
    constructor
    ·intro h k x y hx hy
     have:=(List.getElem?_eq_some_iff.1 hx).1
     exact h k () (by rw[List.getElem?_replicate,if_pos (by omega)]) x y hx hy
    ·intro h k _ _ x y hx hy
     exact h k x y hx hy
  rwa [e]at h
theorem jA (m:Bb) (hl:m.Bases.length≤64):∃ r,Tc m=some r∧Pw m=some r∧(r=0↔m.Bases≠[]∧(∀ b∈m.Bases,(Cx m b).2=true)∧K5 (fun b:Int=>b) m.Bases):=by
  unfold Tc Pw
  by_cases h0:m.Bases=[]
  ·exact⟨8,by simp[h0],by simp[h0],by simp[h0]⟩
  have hlen:¬ ((m.Bases.length:Nat):Int)=0:=by
    have:=List.length_pos_iff.2 h0;omega
  rw[Aja hlen,cond_false,cond_false]
  have e1:Al (N4 m) 0 m.Bases ()=Al (Fy m) 0 m.Bases ():=rfl
  rw[e1]
  rcases Aae m with⟨h1,h2⟩ | ⟨h1,h2⟩
  case inr=>exact ⟨8,by rw[h1];rfl,by rw[h1];rfl,by simp[h2]⟩
  rcases Aad m hl with⟨h3,h4⟩ | ⟨h3,h4⟩
  ·rcases sR m hl with⟨h5,h6⟩ | ⟨h5,h6⟩
   ·refine⟨0,?_,?_,fun _=>⟨h0,h2,h4⟩,fun _=>rfl⟩
    ·rw[h1];show((Al (Hg m) 0 m.Bases ()).bind fun o=>o.on fun _=>some 0)=_;rw[h3];rfl
    ·rw[h1];show((J5 (Ei m) (m.Bases.length - 1) ()).bind fun o=>o.on fun _=>some 0)=_;rw[h5];rfl
   ·exact absurd h4 h6
  ·rcases sR m hl with⟨h5,h6⟩ | ⟨h5,h6⟩
   ·exact absurd h6 h4
   ·refine⟨7,?_,?_,fun h=>by omega,fun h=>absurd h.2.2 h4⟩
    ·rw[h1];show((Al (Hg m) 0 m.Bases ()).bind fun o=>o.on fun _=>some 0)=_;rw[h3];rfl
    ·rw[h1];show((J5 (Ei m) (m.Bases.length - 1) ()).bind fun o=>o.on fun _=>some 0)=_;rw[h5];rfl
theorem vW (m:Bb) (a b:Int):Gl m a b=some (if(Cx m a).2=false then 8 else if(Cx m b).2=false then 8 else if(Cx m b).1.Alt≤(Cx m a).1.Alt then 11 else 0):=by
  unfold Gl
  simp only[G1,Option.bind_some]
  cases(Cx m a).2<;>cases (Cx m b).2<;>simp
  by_cases h:(Cx m b).1.Alt≤(Cx m a).1.Alt
  ·simp[h]
  ·simp[h]
theorem dU (m:Bb) (a b:Int) (good:Option (Out Unit Int)):((Gl m a b).bind fun y=>bif decide (y≠0)then some (Out.ret y)else good)=leads m a b good:=by
  rw[vW]
  unfold leads
  cases(Cx m a).2
  ·rfl
  cases(Cx m b).2
  ·rfl
  show(bif decide ((if(Cx m b).1.Alt≤(Cx m a).1.Alt then(11:Int)else 0)≠0)then some (Out.ret (if(Cx m b).1.Alt≤(Cx m a).1.Alt then(11:Int)else 0))else good)=bif decide ((Cx m b).1.Alt≤(Cx m a).1.Alt)then some (Out.ret 11)else good
  by_cases h:(Cx m b).1.Alt≤(Cx m a).1.Alt
  ·rw[if_pos h,Ai9 h];rfl
  ·rw[if_neg h,Aja h];rfl
theorem xG (x:Cc) (good:Option (Out Unit Int)):((Ho x).bind fun y=>bif !y then some (Out.ret 1)else good)=carr x good:=by
  unfold Ho carr
  simp only[wU]
  by_cases hs:x.Spacing=0
  ·simp[nz,hs]
  rw[gA hs,gA hs,gA hs,gA hs]
  by_cases h:(IntKind.i64.wrap (2*x.Length)).tmod x.Spacing=0
  ·have e1:decide ((IntKind.i64.wrap (2*x.Length)).tmod x.Spacing=0)=true:=Ai9 h
   have e2:decide ((IntKind.i64.wrap (2*x.Length)).tmod x.Spacing≠0)=false:=Aja (by simpa using h)
   rw[e1,e2];rfl
  ·have e1:decide ((IntKind.i64.wrap (2*x.Length)).tmod x.Spacing=0)=false:=Aja h
   have e2:decide ((IntKind.i64.wrap (2*x.Length)).tmod x.Spacing≠0)=true:=Ai9 h
   rw[e1,e2];rfl
theorem fW (m:Bb):Pv m=O8 m:=by
  have h:Kt m=Hf m:=by
    funext k x u
    simp only[Kt,wU,Option.bind_some,dU,xG,Hf,K8,Q3,G1]
    rfl
  unfold Pv O8
  rw[h]
theorem jE (m:Bb):Ro m=Qr m:=by
  have hlead:∀ (a b:Int) (good:Option (Out Unit Int)),(bif !(Cx m b).2 then some (.ret 8)else bif !(Cx m a).2 then some (.ret 8)else bif decide ((Cx m b).1.Alt≤(Cx m a).1.Alt)then some (.ret 11)else good)=leads m a b good:=by
    intro a b good
    unfold leads
    cases(Cx m a).2<;>cases (Cx m b).2<;>rfl
  have h:Ma m=Iw m:=by
    funext k x u
    simp only[Ma,wU,Option.bind_some,dU,Iw,Q3,G1,hlead]
  unfold Ro Qr
  rw[h]
theorem Wi (m:Bb):∃ r,fK m=some r∧Ie m=some r∧(r=0↔K6 m):=by
  unfold fK Ie
  by_cases h1:(64:Int)<((m.Nodes.length:Nat):Int)
  ·rw[Ai9 h1];exact⟨4,rfl,rfl,fun h=>by omega,fun h=>by have:=h.lenN;omega⟩
  by_cases h2:(32:Int)<((m.Lifts.length:Nat):Int)
  ·rw[Aja h1,Ai9 h2];exact⟨4,rfl,rfl,fun h=>by omega,fun h=>by have:=h.lenL;omega⟩
  by_cases h3:(64:Int)<((m.Runs.length:Nat):Int)
  ·rw[Aja h1,Aja h2,Ai9 h3];exact⟨4,rfl,rfl,fun h=>by omega,fun h=>by have:=h.lenR;omega⟩
  by_cases h4:(64:Int)<((m.Bases.length:Nat):Int)
  ·rw[Aja h1,Aja h2,Aja h3,Ai9 h4];exact⟨4,rfl,rfl,fun h=>by omega,fun h=>by have:=h.lenB;omega⟩
  rw[Aja h1,Aja h2,Aja h3,Aja h4]
  obtain⟨r1,e1,i1⟩:=iY m (by omega)
  obtain⟨r2,e2,i2⟩:=iZ m (by omega)
  obtain⟨r3,e3,i3⟩:=lE m (by omega)
  obtain⟨r4,e4,e4',i4⟩:=jA m (by omega)
  simp only[cond_false,fV,fW,jE,e1,e2,e3,e4,e4',Option.bind_some]
  by_cases z1:r1=0
  case neg=>rw[Ai9 z1];exact⟨r1,rfl,rfl,fun h=>absurd h z1,fun h=>absurd (i1.2 ⟨h.nodes,h.nodesR⟩) z1⟩
  by_cases z2:r2=0
  case neg=>rw[Aja (by simpa using z1),Ai9 z2];exact⟨r2,rfl,rfl,fun h=>absurd h z2,fun h=>absurd (i2.2 ⟨h.lifts,h.liftsR⟩) z2⟩
  by_cases z3:r3=0
  case neg=>rw[Aja (by simpa using z1),Aja (by simpa using z2),Ai9 z3];exact⟨r3,rfl,rfl,fun h=>absurd h z3,fun h=>absurd (i3.2 ⟨h.runs,h.runsR⟩) z3⟩
  rw[Aja (by simpa using z1),Aja (by simpa using z2),Aja (by simpa using z3)]
  refine⟨r4,rfl,rfl,fun h=>?_,fun h=>i4.2 ⟨h.some,h.bases,h.basesR⟩⟩
  have g1:=i1.1 z1;have g2:=i2.1 z2;have g3:=i3.1 z3;have g4:=i4.1 h
  exact⟨by omega,by omega,by omega,by omega,g1.1,g1.2,g2.1,g2.2,g3.1,g3.2,g4.1,g4.2.1,g4.2.2⟩
theorem qE (m:Bb):∃ r,Ie m=some r∧(r=0↔K6 m):=by
  obtain⟨r,_,h1,h2⟩:=Wi m
  exact⟨r,h1,h2⟩
theorem fA (l:List Int) (n:Int):Uj l n=some (decide (n∈l)):=W3 fun k x hx=>rfl
theorem put_eq {l:List Int} (h:Inc l) (hl:l.length≤100000000) (n:Int):∃ r,X3 l n=some r∧Inc r∧(∀ x,x∈r↔x∈l∨x=n):=by
  have hpw:=List.pairwise_iff_getElem.1 h
  obtain⟨s,h1,h2,h3,h4,h5,h6⟩:=Dp (ρ:=List Int) (step:=U9 n) (l:=l) (s:=(false,[])) (fun k s=>Inc s.2∧(∀ y∈s.2,(y∈l.take k∨(y=n∧∀ z∈l.drop k,n<z)))∧(∀ x,x∈s.2↔x∈l.take k∨(s.1=true∧x=n))∧(s.1=false→∀ x∈l.take k,x<n)∧s.2.length≤k+1)
    ⟨List.Pairwise.nil,by simp,by simp,by simp,by simp⟩ (fun k x s hk ⟨i1,i2,i3,i4,i5⟩=>by
      obtain⟨d,o⟩:=s
      simp only at i1 i2 i3 i4 i5
      have hlt:=(List.getElem?_eq_some_iff.1 hk).1
      have hx:l[k]=x:=(List.getElem?_eq_some_iff.1 hk).2
      have tk:∀ y∈l.take k,y<x:=fun y hy=>by
        obtain⟨i,hi,rfl⟩:=List.getElem_of_mem hy
        rw[List.length_take]at hi
        rw[List.getElem_take,← hx]
        exact hpw i k (by omega) hlt (by omega)
      have dk:l.drop k=x::l.drop (k+1):=by rw[List.drop_eq_getElem_cons hlt,hx]
      have dk1:∀ z∈l.drop (k+1),x<z:=fun z hz=>by
        obtain⟨i,hi,rfl⟩:=List.getElem_of_mem hz
        rw[List.length_drop]at hi
        rw[List.getElem_drop,← hx]
        exact hpw k (k+1+i) hlt (by omega) (by omega)
      have ts:=Bx hk
      have olt:∀ y∈o,(d=true→y<x)∧(d=false→y<x∧y<n):=fun y hy=>by
        refine⟨fun _=>?_,fun hd=>?_⟩
        ·rcases i2 y hy with h | ⟨rfl,h⟩
         ·exact tk y h
         ·exact h x (by rw[dk];simp)
        ·rcases(i3 y).1 hy with h | ⟨h,_⟩
         ·exact⟨tk y h,i4 hd y h⟩
         ·rw[hd]at h;cases h
      have app:∀ {o:List Int} {z:Int},Inc o→(∀ y∈o,y<z)→Inc (o++[z]):=fun ho hz=>by
        unfold Inc
        rw[List.pairwise_append]
        refine⟨ho,by simp,fun a ha b hb=>?_⟩
        simp at hb;subst hb;exact hz a ha
      unfold U9
      simp only
      cases d with
      | true=>
        simp only[Bool.not_true,cond_false]
        rw[Ce (by omega)]
        refine⟨_,rfl,app i1 fun y hy=>(olt y hy).1 rfl,fun y hy=>?_,fun y=>?_,(fun h=>by cases h),by simp;omega⟩
        ·rw[ts]
         rcases List.mem_append.1 hy with hy | hy
         ·rcases i2 y hy with h | ⟨h,h'⟩
          ·exact .inl (List.mem_append.2 (.inl h))
          ·exact .inr ⟨h,fun z hz=>h' z (by rw[dk];exact List.mem_cons_of_mem _ hz)⟩
         ·exact .inl (List.mem_append.2 (.inr hy))
        ·simp only[ts,List.mem_append,i3,List.mem_singleton]
         constructor
         ·rintro((h | h) | h)
          ·exact .inl (.inl h)
          ·exact .inr h
          ·exact .inl (.inr h)
         ·rintro((h | h) | h)
          ·exact .inl (.inl h)
          ·exact .inr h
          ·exact .inl (.inr h)
      | false=>
        simp only[Bool.not_false,cond_true]
        have hok:o.length≤k:=by
          have:=Jk i1.nodup (b:=l.take k) fun z hz=>by
            rcases(i3 z).1 hz with h | ⟨h,_⟩
            ·exact h
            ·cases h
          rw[List.length_take]at this;omega
        by_cases c1:n≤x
        ·rw[Ai9 c1,cond_true]
         by_cases c2:n<x
         ·rw[Ai9 c2,cond_true,Ce (by omega),Ce (by omega)]
          refine⟨_,rfl,app (app i1 fun y hy=>((olt y hy).2 rfl).2) fun y hy=>?_,fun y hy=>?_,fun y=>?_,(fun h=>by cases h),by simp;omega⟩
          ·rcases List.mem_append.1 hy with hy | hy
           ·exact((olt y hy).2 rfl).1
           ·simp at hy;subst hy;exact c2
          ·rw[ts]
           simp only[List.mem_append,List.mem_singleton]at hy ⊢
           rcases hy with(hy | hy) | hy
           ·rcases i2 y hy with h | ⟨h,h'⟩
            ·exact .inl (.inl h)
            ·exact .inr ⟨h,fun z hz=>h' z (by rw[dk];exact List.mem_cons_of_mem _ hz)⟩
           ·exact .inr ⟨hy,fun z hz=>by have:=dk1 z hz;omega⟩
           ·exact .inl (.inr hy)
          ·simp only[ts,List.mem_append,i3,List.mem_singleton]
           constructor
           ·rintro(((h | ⟨h,_⟩) | h) | h)
            ·exact .inl (.inl h)
            ·cases h
            ·exact .inr ⟨trivial,h⟩
            ·exact .inl (.inr h)
           ·rintro((h | h) | ⟨_,h⟩)
            ·exact .inl (.inl (.inl h))
            ·exact .inr h
            ·exact .inl (.inr h)
         ·have e:x=n:=by omega
          rw[Aja c2,cond_false,Ce (by omega)]
          refine⟨_,rfl,app i1 fun y hy=>((olt y hy).2 rfl).1,fun y hy=>?_,fun y=>?_,(fun h=>by cases h),by simp;omega⟩
          ·rw[ts]
           simp only[List.mem_append,List.mem_singleton]at hy ⊢
           rcases hy with hy | hy
           ·rcases i2 y hy with h | ⟨h,h'⟩
            ·exact .inl (.inl h)
            ·exact .inr ⟨h,fun z hz=>h' z (by rw[dk];exact List.mem_cons_of_mem _ hz)⟩
           ·exact .inl (.inr hy)
          ·simp only[ts,List.mem_append,i3,List.mem_singleton]
           constructor
           ·rintro((h | ⟨h,_⟩) | h)
            ·exact .inl (.inl h)
            ·cases h
            ·exact .inl (.inr h)
           ·rintro((h | h) | ⟨_,h⟩)
            ·exact .inl (.inl h)
            ·exact .inr h
            ·exact .inr (by rw[e];exact h)
        ·rw[Aja c1,cond_false,Ce (by omega)]
         refine⟨_,rfl,app i1 fun y hy=>((olt y hy).2 rfl).1,fun y hy=>?_,fun y=>?_,fun _ y hy=>?_,by simp;omega⟩
         ·rw[ts]
          simp only[List.mem_append,List.mem_singleton]at hy ⊢
          rcases hy with hy | hy
          ·rcases i2 y hy with h | ⟨h,h'⟩
           ·exact .inl (.inl h)
           ·exact .inr ⟨h,fun z hz=>h' z (by rw[dk];exact List.mem_cons_of_mem _ hz)⟩
          ·exact .inl (.inr hy)
         ·simp only[ts,List.mem_append,i3,List.mem_singleton]
          constructor
          ·rintro((h | ⟨h,_⟩) | h)
           ·exact .inl (.inl h)
           ·cases h
           ·exact .inl (.inr h)
          ·rintro((h | h) | ⟨h,_⟩)
           ·exact .inl (.inl h)
           ·exact .inr h
           ·cases h
         ·rw[ts]at hy
          rcases List.mem_append.1 hy with hy | hy
          ·exact i4 rfl y hy
          ·simp at hy;subst hy;omega)
  rw[List.take_length]at h4 h5
  unfold X3
  rw[h1]
  show ∃ r,(bif (!s.1)then _ else _)=some r∧_
  cases hd:s.1 with
  | true=>
    refine⟨s.2,rfl,h2,fun x=>?_⟩
    rw[h4,hd];simp
  | false=>
    rw[Bool.not_false,cond_true,Ce (by omega)]
    refine⟨_,rfl,?_,fun x=>?_⟩
    ·unfold Inc
     rw[List.pairwise_append]
     refine⟨h2,by simp,fun a ha b hb=>?_⟩
     simp at hb;subst hb
     rcases(h4 a).1 ha with h | ⟨h,_⟩
     ·exact h5 hd a h
     ·rw[hd]at h;cases h
    ·simp only[List.mem_append,List.mem_singleton,h4,hd];simp
theorem zT {l r:List Int} {n:Int} (h:Inc l) (hr:Inc r) (hm:∀ x,x∈r↔x∈l∨x=n) (hn:n∈l):r=l:=
  Pg hr h fun x=>by rw[hm];exact⟨fun h=>h.elim id fun h=>h ▸ hn,.inl⟩
theorem x9 {l r:List Int} {n:Int} (h:Inc l) (hr:Inc r) (hm:∀ x,x∈r↔x∈l∨x=n) (hn:n ∉ l):r.length=l.length+1:=by
  have h1:(n::l).Nodup:=List.nodup_cons.2 ⟨hn,h.nodup⟩
  have a:=Jk h1 (b:=r) fun x hx=>by rw[hm];rcases List.mem_cons.1 hx with h | h;exact .inr h;exact .inl h
  have b:=Jk hr.nodup (b:=n::l) fun x hx=>by rcases(hm x).1 hx with h | h;exact List.mem_cons_of_mem _ h;exact h ▸ List.mem_cons_self
  simp at a b;omega
theorem nD {l:List Ax} {f out:List Int} (h:Inc out) (hr:∀ n∈out,Rch l (·∈f) n) (hC:(f++l.map (·.To)).length≤1000000) :
    ∃ s,Al N5 0 l out=some (.next s)∧Inc s∧(∀ n∈s,Rch l (·∈f) n)∧(∀ n∈out,n∈s)∧((s=out∧∀ e∈l,e.From∈out→e.To∈out)∨out.length<s.length):=by
  obtain⟨s,h1,h2,h3,h4,h5⟩:=Dp (ρ:=Out (List Int×Int) (List Int)) (step:=N5) (l:=l) (s:=out) (fun k s=>Inc s∧(∀ n∈s,Rch l (·∈f) n)∧(∀ n∈out,n∈s)∧((s=out∧∀ e∈l.take k,e.From∈out→e.To∈out)∨out.length<s.length))
    ⟨h,hr,fun n h=>h,.inl ⟨rfl,by simp⟩⟩ (fun k e s hk ⟨i1,i2,i3,i4⟩=>by
      have he:=Ajc hk
      unfold N5
      rw[fA,Option.bind_some]
      have hlen:s.length≤1000000:=Nat.le_trans (Jk i1.nodup fun n hn=>Q7 (i2 n hn)) hC
      by_cases hf:e.From∈s
      ·obtain⟨r,g1,g2,g3⟩:=put_eq i1 (by omega) e.To
       rw[Ai9 hf,cond_true,g1]
       refine⟨r,rfl,g2,fun n hn=>?_,fun n hn=>(g3 n).2 (.inl (i3 n hn)),?_⟩
       ·rcases(g3 n).1 hn with h | rfl
        ·exact i2 n h
        ·exact .step he (i2 _ hf)
       ·by_cases ht:e.To∈s
        ·obtain rfl:=zT i1 g2 g3 ht
         rcases i4 with⟨rfl,h⟩ | h
         ·refine .inl ⟨rfl,fun x hx=>?_⟩
          rw[Bx hk]at hx
          rcases List.mem_append.1 hx with hx | hx
          ·exact h x hx
          ·simp at hx;subst hx;exact fun _=>ht
         ·exact .inr h
        ·have:=x9 i1 g2 g3 ht
         refine .inr ?_
         rcases i4 with⟨rfl,_⟩ | h<;>omega
      ·rw[Aja hf,cond_false]
       refine⟨s,rfl,i1,i2,i3,?_⟩
       rcases i4 with⟨rfl,h⟩ | h
       ·refine .inl ⟨rfl,fun x hx=>?_⟩
        rw[Bx hk]at hx
        rcases List.mem_append.1 hx with hx | hx
        ·exact h x hx
        ·simp at hx;subst hx;exact fun h=>absurd h hf
       ·exact .inr h)
  rw[List.take_length]at h5
  exact⟨s,h1,h2,h3,h4,h5⟩
theorem j1 {l:List Ax} {f:List Int} (hl:l.length≤100000) (hf:f.length≤100000):∃ r,Px l f=some r∧Pk l f r:=by
  have hC:(f++l.map (·.To)).length≤1000000:=by simp;omega
  obtain⟨s,h1,h2,h3⟩:=Dp (ρ:=List Int) (step:=Rt) (l:=f) (s:=[]) (fun k s=>Inc s∧∀ x,x∈s↔x∈f.take k) ⟨List.Pairwise.nil,by simp⟩ (fun k x s hk ⟨i1,i2⟩=>by
    have hlen:s.length≤100000:=Nat.le_trans (Jk i1.nodup (b:=f) fun n hn=>List.mem_of_mem_take ((i2 n).1 hn)) hf
    obtain⟨r,g1,g2,g3⟩:=put_eq i1 (by omega) x
    refine⟨r,by unfold Rt;rw[g1];rfl,g2,fun y=>?_⟩
    rw[g3,i2,Bx hk];simp)
  rw[List.take_length]at h3
  have s1:∀ n∈s,Rch l (·∈f) n:=fun n hn=>.base ((h3 n).1 hn)
  unfold Px
  rw[h1]
  show ∃ r,Rs l s=some r∧_
  unfold Rs
  have hlen:∀ o:List Int,Inc o→(∀ n∈o,Rch l (·∈f) n)→o.length≤1000000:=fun o ho hr=>Nat.le_trans (Jk ho.nodup fun n hn=>Q7 (hr n hn)) hC
  obtain⟨r,g1,g2⟩:=Gz (step:=Ru l) (fun st=>Inc st.1∧(∀ n∈st.1,Rch l (·∈f) n)∧(∀ n∈f,n∈st.1)∧st.2≤(st.1.length:Int)∧(st.2=(st.1.length:Int)→∀ e∈l,e.From∈st.1→e.To∈st.1)) (fun r=>Pk l f r)
    (fun st=>2*(1000000 - st.1.length)+if st.2<(st.1.length:Int)then 1 else 0) (fun st ⟨i1,i2,i3,i4,i5⟩=>by
      obtain⟨o,w⟩:=st
      simp only at i1 i2 i3 i4 i5 ⊢
      unfold Ru
      simp only
      by_cases hw:w<(o.length:Int)
      ·obtain⟨s,e1,e2,e3,e4,e5⟩:=nD i1 i2 hC
       rw[Ai9 hw,cond_true,e1]
       have:=hlen s e2 e3
       have:=hlen o i1 i2
       refine .inl ⟨_,rfl,⟨e2,e3,fun n hn=>e4 n (i3 n hn),?_,fun hh=>?_⟩,?_⟩
       ·simp only
        rcases e5 with⟨rfl,_⟩ | h<;>omega
       ·rcases e5 with⟨rfl,h⟩ | h
        ·exact h
        ·simp only at hh;omega
       ·simp only
        rw[if_pos hw]
        rcases e5 with⟨rfl,_⟩ | h
        ·rw[if_neg (by omega)];omega
        ·rw[if_pos (by omega)];omega
      ·rw[Aja hw,cond_false]
       exact .inr ⟨o,rfl,.of_closed i1 i2 i3 (i5 (by omega))⟩) fuel (s, -1) ⟨h2,s1,fun n hn=>(h3 n).2 hn,by simp only;omega,fun h=>by simp only at h;omega⟩ (by show _<1099511627776;simp only;split<;>omega)
  rw[g1]
  exact⟨r,rfl,g2⟩
theorem qJ {l:List Ax} (hl:l.length≤100000):U8 l=some (turn l):=by
  unfold U8
  rw[C5 (step:=V3) (fun _=>true) Z5 (by omega) (fun k x s hx=>rfl),List.filter_eq_self.2 (fun a _=>rfl)];rfl
theorem v7 {l:List Ax} {f:List Int} (hl:l.length≤100000) (hf:f.length≤100000):∃ r,Zf l f=some r∧Pk (turn l) f r:=by
  obtain⟨r,h1,h2⟩:=j1 (l:=turn l) (f:=f) (by simpa[turn]using hl) hf
  refine⟨r,?_,h2⟩
  unfold Zf
  rw[qJ hl,Option.bind_some,h1];rfl
theorem contains_eq (l:List Int) (v:Int):Br l v=some (decide (v∈l)):=by
  unfold Br Gd
  rcases Fk (step:=D2 v) (l:=l) (s:=()) (fun k _=>v ∉ l.take k) (fun r=>v∈l∧0≤r) (by simp) (fun k x u hk hI=>by
    unfold D2
    by_cases e:v=x
    ·rw[Ai9 e];exact .inr ⟨_,rfl,e ▸ Ajc hk,by omega⟩
    ·rw[Aja e]
     refine .inl ⟨(),rfl,?_⟩
     rw[Bx hk];simp[hI,e])with ⟨u,h1,h2⟩ | ⟨r,h1,h2,h3⟩
  ·rw[List.take_length]at h2
   rw[h1,Aja h2];rfl
  ·rw[h1,Ai9 h2]
   show some (decide (0≤r))=some true
   rw[Ai9 h3]
def x3 (x:Cd):Ax:=⟨x.ID,x.From,x.To,x.Length⟩
def sE (x:Cc):Ax:=⟨x.ID,x.From,x.To,x.Length⟩
def P1 (m:Bb) (runs:List Int):List Ax:=(m.Runs.filter fun x=>decide (x.ID∈runs)).map x3
def upE (m:Bb) (lifts:List Int):List Ax:=(m.Lifts.filter fun x=>decide (x.ID∈lifts)).map sE
theorem cT {m:Bb} {runs:List Int} {e:Ax}:e∈P1 m runs↔∃ x∈m.Runs,x.ID∈runs∧x3 x=e:=by
  unfold P1
  simp only[List.mem_map,List.mem_filter,decide_eq_true_eq,and_assoc]
theorem lS {m:Bb} {lifts:List Int} {e:Ax}:e∈upE m lifts↔∃ x∈m.Lifts,x.ID∈lifts∧sE x=e:=by
  unfold upE
  simp only[List.mem_map,List.mem_filter,decide_eq_true_eq,and_assoc]
theorem fB {m:Bb} (M:K6 m) {n:Int} (h:(Cx m n).2=true):1≤n∧n≤9999:=by
  obtain⟨h1,h2⟩:=Zj h
  have:=(M.nodes _ h1).1
  rw[h2]at this;exact this
theorem iK {m:Bb} (M:K6 m) {runs:List Int} {e:Ax} (h:e∈P1 m runs):(Cx m e.From).2=true∧(Cx m e.To).2=true∧10≤e.Cost∧e.Cost≤20000:=by
  obtain⟨x,hx,_,rfl⟩:=cT.1 h
  have:=M.runs x hx
  exact⟨this.2.2.1,this.2.1,this.1.2.2.2.2.1,this.1.2.2.2.2.2⟩
theorem vG {m:Bb} (M:K6 m) {lifts:List Int} {e:Ax} (h:e∈upE m lifts):(Cx m e.From).2=true∧(Cx m e.To).2=true:=by
  obtain⟨x,hx,_,rfl⟩:=lS.1 h
  have:=M.lifts x hx
  exact⟨this.2.1.1,this.2.1.2.1⟩
theorem aT {m:Bb} (M:K6 m) (runs:List Int):(P1 m runs).length≤64:=by
  unfold P1;rw[List.length_map];exact Nat.le_trans (List.length_filter_le _ _) M.lenR
theorem zR {m:Bb} (M:K6 m) (lifts:List Int):(upE m lifts).length≤32:=by
  unfold upE;rw[List.length_map];exact Nat.le_trans (List.length_filter_le _ _) M.lenL
theorem sL {m:Bb} (M:K6 m) (runs:List Int):Ig m runs=some (P1 m runs):=by
  have:=M.lenR
  unfold Ig
  rw[C5 (fun x=>decide (x.ID∈runs)) x3 (by omega) (fun k x s hx=>by unfold Mi;rw[contains_eq];rfl)];rfl
theorem nA {m:Bb} (M:K6 m) (runs:List Int):U5 m runs=some (P1 m runs):=by
  have:=M.lenR
  unfold U5
  rw[C5 (fun x=>decide (x.ID∈runs)) x3 (by omega) (fun k x s hx=>by unfold Yz;rw[fA];rfl)];rfl
theorem Aao {m:Bb} (M:K6 m) (lifts:List Int):Ov m lifts=some (upE m lifts):=by
  have:=M.lenL
  unfold Ov
  rw[C5 (fun x=>decide (x.ID∈lifts)) sE (by omega) (fun k x s hx=>by unfold O9;rw[contains_eq];rfl)];rfl
def Jv (a b:List Ax):Prop:=a.map (fun e=>(e.From,e.To))=b.map (fun e=>(e.From,e.To))
theorem Jv.rch {a b:List Ax} (h:Jv a b) {S:Int→Prop} {n:Int} (hr:Rch a S n):Rch b S n:=by
  induction hr with
  | base h=>exact .base h
  | @step e he _ ih=>
    have:(e.From,e.To)∈a.map fun e=>(e.From,e.To):=List.mem_map.2 ⟨e,he,rfl⟩
    rw[h]at this
    obtain⟨e',he',hh⟩:=List.mem_map.1 this
    rw[Prod.mk.injEq]at hh
    rw[← hh.2]
    exact .step he' (by rw[hh.1];exact ih)
theorem Jv.turn {a b:List Ax} (h:Jv a b):Jv (turn a) (turn b):=by
  unfold Jv Proofs.YtjopghiagoidgaaGreat.turn at *
  rw[List.map_map,List.map_map]
  have e:∀ l:List Ax,l.map ((fun e:Ax=>(e.From,e.To))∘Z5)=(l.map fun e=>(e.From,e.To)).map Prod.swap:=fun l=>by rw[List.map_map];rfl
  rw[e,e,h]
theorem cV (l s:List Ax) (hl:s.length+l.length≤100000):∃ s',Al K7 0 l s=some (.next s')∧Jv s' (s++l):=by
  obtain⟨s',h1,h2⟩:=Dp (ρ:=Out (List Ax) (List Ax)) (step:=K7) (l:=l) (s:=s) (fun k t=>Jv t (s++l.take k)) (by simp[Jv]) (fun k e t hk hI=>by
    have hlt:=(List.getElem?_eq_some_iff.1 hk).1
    have hlen:=congrArg List.length hI
    simp at hlen
    refine⟨_,by unfold K7;rw[Ce (by omega)],?_⟩
    unfold Jv at *
    rw[Bx hk,← List.append_assoc,List.map_append,List.map_append,hI];rfl)
  rw[List.take_length]at h2
  exact⟨s',h1,h2⟩
theorem Jv.len {a b:List Ax} (h:Jv a b):a.length=b.length:=by
  have:=congrArg List.length h;simpa using this
theorem Aa5 {a b:List Ax} (ha:a.length≤1000) (hb:b.length≤1000):∃ r,M5 [a,b]=some r∧Jv r (a++b):=by
  obtain⟨s1,h1,h2⟩:=cV a [] (by simp;omega)
  have l1:=h2.len
  simp at l1
  obtain⟨s2,h3,h4⟩:=cV b s1 (by omega)
  refine⟨s2,?_,?_⟩
  ·unfold M5 Al Nn
   rw[h1]
   simp only[Option.bind_some,Out.on,Out.cont,Al,h3]
  ·unfold Jv at *
   rw[h4,List.map_append,h2,List.nil_append,List.map_append]
theorem Aa6 {a:List Ax} (ha:a.length≤1000):∃ r,M5 [a]=some r∧Jv r a:=by
  obtain⟨s1,h1,h2⟩:=cV a [] (by simp;omega)
  refine⟨s1,?_,by simpa using h2⟩
  unfold M5 Al Nn
  rw[h1];rfl
def RR (m:Bb) (lifts runs:List Int) (n:Int):Prop:=Rch (upE m lifts++P1 m runs) (·∈m.Bases) n
def HH (m:Bb) (runs:List Int) (n:Int):Prop:=Rch (turn (P1 m runs)) (·∈m.Bases) n
structure Vx (P:Int→Prop) (r:List Int):Prop where
  inc:Inc r
  mem:∀ n,n∈r↔P n
theorem Vx.unique {P:Int→Prop} {r r':List Int} (h:Vx P r) (h':Vx P r'):r=r':=Pg h.inc h'.inc fun n=>by rw[h.mem,h'.mem]
theorem sQ {m:Bb} (M:K6 m):∀ n∈m.Bases,I64 n:=fun n hn=>by have:=fB M (M.bases n hn);exact⟨by omega,by omega⟩
theorem lM {m:Bb} (M:K6 m) (lifts runs:List Int):∃ r,He m lifts runs=some r∧Vx (RR m lifts runs) r:=by
  have hb:=M.lenB
  have h1:=zR M lifts
  have h2:=aT M runs
  obtain⟨j,e1,e2⟩:=Aa5 (a:=upE m lifts) (b:=P1 m runs) (by omega) (by omega)
  have hl:=e2.len
  rw[List.length_append]at hl
  obtain⟨r,e3,e4⟩:=m9 (l:=j) (f:=m.Bases) (by omega) (by omega) (fun e he=>by
    have:(e.From,e.To)∈j.map fun e=>(e.From,e.To):=List.mem_map.2 ⟨e,he,rfl⟩
    rw[e2]at this
    obtain⟨e',he',hh⟩:=List.mem_map.1 this
    rw[Prod.mk.injEq]at hh
    rw[← hh.2]
    rcases List.mem_append.1 he' with he' | he'
    ·have:=fB M (vG M he').2;exact⟨by omega,by omega⟩
    ·have:=fB M (iK M he').2.1;exact⟨by omega,by omega⟩) (sQ M)
  refine⟨r,?_,e4.inc,fun n=>?_⟩
  ·unfold He
   rw[Aao M,Option.bind_some,sL M,Option.bind_some,e1,Option.bind_some,e3];rfl
  ·rw[e4.mem];exact⟨fun h=>e2.rch h,fun h=>Jv.rch e2.symm h⟩
theorem iX {m:Bb} (M:K6 m) (lifts runs:List Int):∃ r,Qc m lifts runs=some r∧Vx (RR m lifts runs) r:=by
  have hb:=M.lenB
  have hL:=M.lenL
  have h2:=aT M runs
  obtain⟨s,g1,g2⟩:=Dp (ρ:=List Int) (step:=M0 lifts) (l:=m.Lifts) (s:=P1 m runs) (fun k s=>s=P1 m runs++((m.Lifts.take k).filter fun x=>decide (x.ID∈lifts)).map fun x=>Ax.mk 0 x.From x.To 0) (by simp) (fun k x s hk hI=>by
    have hlt:=(List.getElem?_eq_some_iff.1 hk).1
    have hlen:s.length≤1000:=by
      rw[hI,List.length_append,List.length_map]
      have:=List.length_filter_le (fun x:Cc=>decide (x.ID∈lifts)) (m.Lifts.take k)
      rw[List.length_take]at this;omega
    unfold M0
    rw[fA,Option.bind_some]
    by_cases hx:x.ID∈lifts
    ·rw[Ai9 hx,cond_true,Ce (by omega)]
     refine⟨_,rfl,?_⟩
     rw[Bx hk,List.filter_append,List.filter_cons_of_pos (by simpa using hx),List.filter_nil,List.map_append,hI];simp
    ·rw[Aja hx,cond_false]
     refine⟨_,rfl,?_⟩
     rw[Bx hk,List.filter_append,List.filter_cons_of_neg (by simpa using hx),List.filter_nil,List.append_nil,hI])
  rw[List.take_length]at g2
  have hlen:s.length≤1000:=by
    rw[g2,List.length_append,List.length_map]
    have:=List.length_filter_le (fun x:Cc=>decide (x.ID∈lifts)) m.Lifts
    omega
  obtain⟨r,e3,e4⟩:=j1 (l:=s) (f:=m.Bases) (by omega) (by omega)
  refine⟨r,?_,e4.inc,fun n=>?_⟩
  ·unfold Qc
   rw[nA M,Option.bind_some,Ce (by omega),g1]
   show(Px s m.Bases).bind _=_
   rw[e3];rfl
  ·rw[e4.mem]
   constructor
   ·intro h
    refine Jv.rch (a:=upE m lifts++P1 m runs) rfl ?_
    induction h with
    | base h=>exact .base h
    | step he _ ih=>
      rw[g2]at he
      rcases List.mem_append.1 he with he | he
      ·exact .step (List.mem_append.2 (.inr he)) ih
      ·obtain⟨x,hx,rfl⟩:=List.mem_map.1 he
       have hx:=List.mem_filter.1 hx
       exact Rch.step (e:=sE x) (List.mem_append.2 (.inl (lS.2 ⟨x,hx.1,by simpa using hx.2,rfl⟩))) ih
   ·intro h
    unfold RR at h
    induction h with
    | base h=>exact .base h
    | step he _ ih=>
      rcases List.mem_append.1 he with he | he
      ·obtain⟨x,hx,hi,rfl⟩:=lS.1 he
       refine Rch.step (e:=Ax.mk 0 x.From x.To 0) ?_ ih
       rw[g2]
       exact List.mem_append.2 (.inr (List.mem_map.2 ⟨x,List.mem_filter.2 ⟨hx,by simpa using hi⟩,rfl⟩))
      ·exact Rch.step (by rw[g2];exact List.mem_append.2 (.inl he)) ih
theorem yL {m:Bb} (M:K6 m) (runs:List Int):∃ r,Q4 m runs=some r∧Vx (HH m runs) r:=by
  have hb:=M.lenB
  have h2:=aT M runs
  obtain⟨j,e1,e2⟩:=Aa6 (a:=P1 m runs) (by omega)
  have hl:=e2.len
  obtain⟨r,e3,e4⟩:=m9 (l:=turn j) (f:=m.Bases) (by simp[turn];omega) (by omega) (fun e he=>by
    have he:=gK.1 he
    have:((Z5 e).From,(Z5 e).To)∈j.map fun e=>(e.From,e.To):=List.mem_map.2 ⟨_,he,rfl⟩
    rw[e2]at this
    obtain⟨e',he',hh⟩:=List.mem_map.1 this
    rw[Prod.mk.injEq]at hh
    have:e.To=e'.From:=hh.1.symm
    rw[this]
    have:=fB M (iK M he').1;exact⟨by omega,by omega⟩) (sQ M)
  refine⟨r,?_,e4.inc,fun n=>?_⟩
  ·unfold Q4
   rw[sL M,Option.bind_some,e1,Option.bind_some,back_eq (by omega),e3];rfl
  ·rw[e4.mem];exact⟨fun h=>e2.turn.rch h,fun h=>Jv.rch e2.turn.symm h⟩
theorem mW {m:Bb} (M:K6 m) (runs:List Int):∃ r,Rn m runs=some r∧Vx (HH m runs) r:=by
  have hb:=M.lenB
  have h2:=aT M runs
  obtain⟨r,e3,e4⟩:=v7 (l:=P1 m runs) (f:=m.Bases) (by omega) (by omega)
  refine⟨r,?_,e4.inc,e4.mem⟩
  unfold Rn
  rw[nA M,Option.bind_some,e3];rfl
theorem qB {α:Type} {idf:α→Int} {l:List α} (h:K5 idf l) {a b:α} (ha:a∈l) (hb:b∈l) (e:idf a=idf b):a=b:=by
  have key:∀ (d i:Nat) (hj:i+d+1<l.length),idf (l[i]'(by omega))<idf l[i+d+1]:=by
    intro d
    induction d with
    | zero=>
      intro i hj
      exact h i _ _ (Ajb (by omega)) (Ajb (by omega))
    | succ d ih=>
      intro i hj
      have h1:=ih i (by omega)
      have h2:=h (i+d+1) l[i+(d+1)+1] l[i+d+1] (by rw[Ajb (by omega)];rfl) (Ajb (by omega))
      omega
  obtain⟨i,hi,rfl⟩:=List.getElem_of_mem ha
  obtain⟨j,hj,rfl⟩:=List.getElem_of_mem hb
  rcases Nat.lt_trichotomy i j with h1 | h1 | h1
  ·have:=key (j - i - 1) i (by omega)
   simp only[show i+(j - i - 1)+1=j by omega]at this;omega
  ·subst h1;rfl
  ·have:=key (i - j - 1) j (by omega)
   simp only[show j+(i - j - 1)+1=i by omega]at this;omega
theorem kR {m:Bb} {runs runs':List Int} (h:∀ n∈runs,n∈runs'):∀ e∈P1 m runs,e∈P1 m runs':=fun e he=>by
  obtain⟨x,hx,hi,rfl⟩:=cT.1 he
  exact cT.2 ⟨x,hx,h _ hi,rfl⟩
end Go.Proofs.YtjopghiagoidgaaGreat
namespace Go.Proofs.YtjopghiagoidgaaGreat.W46
open Go Go.Ab
set_option linter.unusedSimpArgs false
set_option linter.unusedVariables false
theorem tA {a:Int} (h0:0≤a) (h1:a≤4611686018427387904):IntKind.i64.wrap (bN (IntKind.u64.wrap (IntKind.i64.wrap a)) 1)=a / 2:=by
  have e1:IntKind.i64.wrap a=a:=by rw[wrap_i64]<;>omega
  have e2:IntKind.u64.wrap a=a:=by rw[IntKind.wrap_u64];omega
  have e3:bN a 1=a / 2:=by unfold bN;simp
  rw[e1,e2,e3,wrap_i64]<;>omega
theorem yH (x y:Int):cmp_Less_int x y=some (decide (x<y)):=rfl
theorem aL {xs:List Int} (hi:Inc xs) {i j:Nat} {x y:Int} (hx:xs[i]? =some x) (hy:xs[j]? =some y) (h:i<j):x<y:=by
  obtain⟨h1,rfl⟩:=List.getElem?_eq_some_iff.1 hx
  obtain⟨h2,rfl⟩:=List.getElem?_eq_some_iff.1 hy
  exact(List.pairwise_iff_getElem.1 hi) i j h1 h2 h
theorem tJ {xs:List Int} (hi:Inc xs) (hl:xs.length≤549755813888) (t:Int):∃ i,Di xs t=some (i,decide (t∈xs)):=by
  obtain⟨r,h1,h2⟩:=Gz (step:=Da xs t)
    (fun s=>0≤s.1∧s.1≤s.2∧s.2≤xs.length∧(∀ (k:Nat) x,(k:Int)<s.1→xs[k]? =some x→x<t)∧(∀ (k:Nat) x,s.2≤(k:Int)→xs[k]? =some x→t≤x))
    (fun r=>r.2=decide (t∈xs)) (fun s=>(s.2 - s.1).toNat) (by
      rintro⟨i,j⟩ ⟨h0,h1,h2,h3,h4⟩
      dsimp only at h0 h1 h2 h3 h4
      unfold Da
      dsimp only
      by_cases hij:i<j
      ·rw[Ai9 hij,cond_true,tA (by omega) (by omega)]
       have hm:((i+j) / 2).toNat<xs.length:=by omega
       have hmm:(i+j) / 2=(((i+j) / 2).toNat:Int):=by omega
       have hx:xs[((i+j) / 2).toNat]? =some xs[((i+j) / 2).toNat]:=Ajb hm
       generalize xs[((i+j) / 2).toNat]=x at hx
       rw[Qx hmm hx,Option.bind_some,yH,Option.bind_some]
       by_cases hlt:x<t
       ·rw[Ai9 hlt,cond_true,wrap_i64 (by omega) (by omega)]
        refine .inl ⟨_,rfl,⟨by dsimp only;omega,by dsimp only;omega,h2,fun k y hk hy=>?_,h4⟩,by dsimp only;omega⟩
        dsimp only at hk
        by_cases e:k=((i+j) / 2).toNat
        ·subst e;rw[hx]at hy;obtain rfl:=Option.some.inj hy;exact hlt
        ·have:=aL hi hy hx (by omega);omega
       ·rw[Aja hlt,cond_false]
        refine .inl ⟨_,rfl,⟨h0,by dsimp only;omega,by dsimp only;omega,h3,fun k y hk hy=>?_⟩,by dsimp only;omega⟩
        dsimp only at hk
        by_cases e:k=((i+j) / 2).toNat
        ·subst e;rw[hx]at hy;obtain rfl:=Option.some.inj hy;omega
        ·have:=aL hi hx hy (by omega);omega
      ·rw[Aja hij,cond_false]
       have e:j=i:=by omega
       subst e
       right
       by_cases hlen:j<(xs.length:Int)
       ·rw[Ai9 hlen,cond_true]
        have hjj:j=(j.toNat:Int):=by omega
        have hx:xs[j.toNat]? =some xs[j.toNat]:=Ajb (by omega)
        generalize xs[j.toNat]=x at hx
        rw[Qx hjj hx,Option.bind_some]
        by_cases hxt:x=t
        ·rw[Ai9 hxt,cond_true]
         subst hxt
         exact⟨_,rfl,(Ai9 (Ajc hx)).symm⟩
        ·rw[Aja hxt,cond_false]
         refine⟨_,rfl,(Aja fun hm=>?_).symm⟩
         obtain⟨k,hk⟩:=List.mem_iff_getElem?.1 hm
         by_cases h5:(k:Int)<j
         ·have:=h3 k t h5 hk;omega
         ·have h6:=h4 j.toNat x (by omega) hx
          by_cases e:k=j.toNat
          ·subst e;rw[hx]at hk;exact hxt (Option.some.inj hk)
          ·have:=aL hi hx hk (by omega);omega
       ·rw[Aja hlen,cond_false]
        refine⟨_,rfl,(Aja fun hm=>?_).symm⟩
        obtain⟨k,hk⟩:=List.mem_iff_getElem?.1 hm
        have:=(List.getElem?_eq_some_iff.1 hk).1
        have:=h3 k t (by omega) hk;omega)
    fuel (0,(xs.length:Int)) ⟨by simp,by simp,by simp,fun k x hk _=>by simp at hk;omega,fun k x hk hx=>by have:=(List.getElem?_eq_some_iff.1 hx).1;simp at hk;omega⟩ (by unfold fuel;simp;omega)
  refine⟨r.1,?_⟩
  unfold Di
  rw[h1,← h2];rfl
theorem tE {w:A8} (hi:Inc w.Runs) (hl:w.Runs.length≤549755813888) (n:Int):Nm w n=some (decide (n∈w.Runs)):=by
  obtain⟨i,h⟩:=tJ hi hl n
  unfold Nm;rw[h];rfl
structure iT (l:List Int):Prop where
  ne:l≠[]
  inc:Inc l
  lo:∀ x∈l,1≤x
  hi:∀ x∈l,x≤9999
theorem qX {l:List Int} (h:∀ (k:Nat) (x y:Int),l[k+1]? =some x→l[k]? =some y→y<x):Inc l:=by
  unfold Inc
  rw[List.pairwise_iff_getElem]
  have key:∀ (d i:Nat) (hj:i+d+1<l.length),l[i]'(by omega)<l[i+d+1]:=by
    intro d
    induction d with
    | zero=>
      intro i hj
      exact h i _ _ (Ajb (by omega)) (Ajb (by omega))
    | succ d ih=>
      intro i hj
      have h1:=ih i (by omega)
      have h2:=h (i+d+1) l[i+(d+1)+1] l[i+d+1] (by rw[Ajb (by omega)];rfl) (Ajb (by omega))
      omega
  intro i j hi hj hlt
  have:=key (j - i - 1) i (by omega)
  simpa[show i+(j - i - 1)+1=j by omega]using this
theorem r9 {l:List Int} (hl:l.length≤9223372036854775807):∃ b,Ow l=some b∧(b=true↔iT l):=by
  unfold Ow
  rcases Fk (step:=L9 l) (l:=l) (s:=()) (fun k _=>∀ (i:Nat) x,i<k→l[i]? =some x→1≤x∧x≤9999∧∀ y,0<i→l[i - 1]? =some y→y<x) (fun r=>r=false∧¬ iT l)
    (fun i x h=>by omega) (fun k x u hk hI=>by
      have hlt:=(List.getElem?_eq_some_iff.1 hk).1
      unfold L9
      by_cases h1:x<1
      ·rw[Ai9 h1]
       exact .inr ⟨_,rfl,rfl,fun h=>by have:=h.lo x (Ajc hk);omega⟩
      rw[Aja h1,cond_false]
      by_cases h2:9999<x
      ·rw[Ai9 h2]
       exact .inr ⟨_,rfl,rfl,fun h=>by have:=h.hi x (Ajc hk);omega⟩
      rw[Aja h2,cond_false]
      by_cases h3:(0:Int)<(k:Int)
      ·rw[Ai9 h3,cond_true,Q1 (by omega) (by omega)]
       have hy:l[k - 1]? =some l[k - 1]:=Ajb (by omega)
       generalize l[k - 1]=y at hy
       rw[A2 hy,Option.bind_some]
       by_cases h4:x≤y
       ·rw[Ai9 h4]
        refine .inr ⟨_,rfl,rfl,fun h=>?_⟩
        have:=aL h.inc hy hk (by omega);omega
       ·rw[Aja h4]
        refine .inl ⟨_,rfl,fun i z hi hz=>?_⟩
        by_cases e:i=k
        ·subst e;rw[hk]at hz;obtain rfl:=Option.some.inj hz
         exact⟨by omega,by omega,fun y' _ hy'=>by rw[hy]at hy';obtain rfl:=Option.some.inj hy';omega⟩
        ·exact hI i z (by omega) hz
      ·rw[Aja h3]
       refine .inl ⟨_,rfl,fun i z hi hz=>?_⟩
       have e:i=k:=by omega
       subst e;rw[hk]at hz;obtain rfl:=Option.some.inj hz
       exact⟨by omega,by omega,fun y' h _=>by omega⟩)with ⟨s',h1,h2⟩ | ⟨r,h1,rfl,h2⟩
  ·rw[h1]
   refine⟨_,rfl,?_⟩
   rw[decide_eq_true_eq]
   have hmem:∀ x∈l,1≤x∧x≤9999:=fun x hx=>by
     obtain⟨i,hi⟩:=List.mem_iff_getElem?.1 hx
     have:=h2 i x (List.getElem?_eq_some_iff.1 hi).1 hi
     exact⟨this.1,this.2.1⟩
   constructor
   ·intro h
    refine⟨fun e=>by rw[e]at h;simp at h,qX fun k x y hx hy=>?_,fun x hx=>(hmem x hx).1,fun x hx=>(hmem x hx).2⟩
    exact(h2 (k+1) x (List.getElem?_eq_some_iff.1 hx).1 hx).2.2 y (by omega) (by simpa using hy)
   ·intro h
    have:=List.length_pos_iff.2 h.ne
    omega
  ·rw[h1]
   exact⟨false,rfl,by simp[h2]⟩
theorem gU {l:List Int} (h:Inc l) (lo:∀ x∈l,1≤x):∀ (k:Nat) (x:Int),l[k]? =some x→(k:Int)+1≤x
  | 0,x,hx=>by have:=lo x (Ajc hx);omega
  | k+1,x,hx=>by
    have hlt:=(List.getElem?_eq_some_iff.1 hx).1
    have hy:l[k]? =some l[k]:=Ajb (by omega)
    have h1:=gU h lo k _ hy
    have h2:=aL h hy hx (by omega)
    omega
theorem iT.len {l:List Int} (h:iT l):l.length≤9999:=by
  by_cases e:l.length=0
  ·omega
  ·have hx:l[l.length - 1]? =some (l[l.length - 1]'(by omega)):=Ajb (by omega)
   have h1:=gU h.inc h.lo _ _ hx
   have h2:=h.hi _ (Ajc hx)
   omega
theorem X1 (l:List Int):Qq l=Ow l:=rfl
theorem has_eq (l:List Int) (n:Int):Q6 l n=some (decide (n∈l)):=by
  unfold Q6
  exact W3 fun k x hx=>rfl
def clash (a b:A8):Bool:=decide (a.From<b.To)&&decide (b.From<a.To)&&(decide (a.Groomer=b.Groomer)||a.Runs.any fun x=>decide (x∈b.Runs))
theorem j0 (a b:A8):Pr a b=some (clash a b):=by
  unfold Pr clash
  by_cases h1:b.To≤a.From
  ·rw[Ai9 h1,Aja (show ¬ a.From<b.To by omega)];rfl
  rw[Aja h1,Ai9 (show a.From<b.To by omega),cond_false]
  by_cases h2:a.To≤b.From
  ·rw[Ai9 h2,Aja (show ¬ b.From<a.To by omega)];rfl
  rw[Aja h2,Ai9 (show b.From<a.To by omega),cond_false]
  rw[Fe (step:=Ko b) (fun x=>decide (x∈b.Runs)) (fun _=>true) (fun k x hx=>by unfold Ko;rw[has_eq];rfl)]
  cases hf:a.Runs.find? fun x=>decide (x∈b.Runs)with
  | some x=>
    have:(a.Runs.any fun x=>decide (x∈b.Runs))=true:=List.any_eq_true.2 ⟨x,List.mem_of_find?_eq_some hf,List.find?_some (p:=fun x=>decide (x∈b.Runs)) hf⟩
    rw[this];simp[Out.on]
  | none=>
    have:(a.Runs.any fun x=>decide (x∈b.Runs))=false:=List.any_eq_false.2 fun x hx=>by simpa using List.find?_eq_none.1 hf x hx
    rw[this];simp[Out.on]
theorem oS {a b:A8} (hi:Inc b.Runs) (hl:b.Runs.length≤549755813888):J6 a b=some (clash a b):=by
  unfold J6 clash
  by_cases h1:b.To≤a.From
  ·rw[Ai9 h1,Aja (show ¬ a.From<b.To by omega)];rfl
  rw[Aja h1,Ai9 (show a.From<b.To by omega),cond_false]
  by_cases h2:a.To≤b.From
  ·rw[Ai9 h2,Aja (show ¬ b.From<a.To by omega)];rfl
  rw[Aja h2,Ai9 (show b.From<a.To by omega),cond_false]
  by_cases h3:a.Groomer=b.Groomer
  ·rw[Ai9 h3];rfl
  rw[Aja h3,cond_false]
  rw[Fe (step:=Gj b) (fun x=>decide (x∈b.Runs)) (fun _=>true) (fun k x hx=>by
   unfold Gj;rw[tE hi hl,Option.bind_some,Ai9 (show(0:Int)≤(k:Int) by omega)])]
  cases hf:a.Runs.find? fun x=>decide (x∈b.Runs)with
  | some x=>
    have:(a.Runs.any fun x=>decide (x∈b.Runs))=true:=List.any_eq_true.2 ⟨x,List.mem_of_find?_eq_some hf,List.find?_some (p:=fun x=>decide (x∈b.Runs)) hf⟩
    rw[this];simp[Out.on]
  | none=>
    have:(a.Runs.any fun x=>decide (x∈b.Runs))=false:=List.any_eq_false.2 fun x hx=>by simpa using List.find?_eq_none.1 hf x hx
    rw[this];simp[Out.on]
structure xW (w:A8):Prop where
  g1:1≤w.Groomer
  g2:w.Groomer≤9999
  f0:0≤w.From
  ft:w.From<w.To
  t1:w.To≤20000000
  runs:iT w.Runs
structure fI (l:List A8):Prop where
  len:l.length≤16
  rope:∀ w∈l,xW w
  apart:l.Pairwise fun a b=>clash a b=false
theorem wS {l:List A8} {x:A8} {k:Nat} (hk:k≤l.length) (hl:l.length≤16) :
    (J5 (Eh l x) k ()=some (.next ())∧∀ (j:Nat) w,j<k→l[j]? =some w→clash w x=false)∨(J5 (Eh l x) k ()=some (.ret (.ret 15))∧∃ (j:Nat) (w:A8),j<k∧l[j]? =some w∧clash w x=true):=by
  rcases W9 (n:=k) (step:=Eh l x) (s:=()) (by omega) (fun i _=>∀ (j:Nat) w,j<i→l[j]? =some w→clash w x=false) (fun r=>r= .ret 15∧∃ (j:Nat) (w:A8),j<k∧l[j]? =some w∧clash w x=true)
    (fun j w h=>by omega) (fun i s hi hI=>by
      have hw:l[i]? =some l[i]:=Ajb (by omega)
      generalize l[i]=w at hw
      unfold Eh
      rw[A2 hw,Option.bind_some,j0,Option.bind_some]
      cases hc:clash w x with
      | true=>exact .inr ⟨_,rfl,rfl,i,w,hi,hw,hc⟩
      | false=>
        refine .inl ⟨(),rfl,fun j w' hj hw'=>?_⟩
        by_cases e:j=i
        ·subst e;rw[hw]at hw';obtain rfl:=Option.some.inj hw';exact hc
        ·exact hI j w' (by omega) hw')with ⟨s',h1,h2⟩ | ⟨r,h1,rfl,h2⟩
  ·exact .inl ⟨h1,h2⟩
  ·exact .inr ⟨h1,h2⟩
theorem step_eq {l:List A8} {x:A8} {k:Nat} (hk:l[k]? =some x) (hl:l.length≤16) (hr:x.Runs.length≤9223372036854775807):Hd l k x ()=E8 l k x ():=by
  have hlt:=(List.getElem?_eq_some_iff.1 hk).1
  unfold Hd E8
  obtain⟨b,hb,hbr⟩:=r9 hr
  rw[X1,hb,Option.bind_some,Option.bind_some]
  cases b with
  | false=>rfl
  | true=>
    have hinc:=(hbr.1 rfl).inc
    have hin:J5 (J8 l k x) k ()=J5 (Eh l x) k ():=by
      unfold J5
      rw[if_pos (by omega),if_pos (by omega)]
      refine Lo fun i u s hi=>?_
      have hik:i<k:=Tw hi
      have hw:l[i]? =some l[i]:=Ajb (by omega)
      generalize l[i]=w at hw
      have hw':(l.take k)[i]? =some w:=by rw[List.getElem?_take,if_pos hik];exact hw
      unfold J8 Eh
      rw[A2 hw,A2 hw',Option.bind_some,Option.bind_some,oS hinc (by have:=(hbr.1 rfl).len;omega),j0,Ai9 (show(0:Int)≤(i:Int) by omega)]
      cases clash w x<;>rfl
    rw[hin,M1 (show(0:Int)≤(k:Int)∧(k:Int)≤(l.length:Int) by omega)]
theorem mU {l:List A8} (hr:∀ w∈l,w.Runs.length≤9223372036854775807):∃ e,Nb l=some e∧Pm l=some e∧(e=0↔fI l):=by
  unfold Pm Nb
  by_cases h16:(16:Int)<(l.length:Int)
  ·rw[Ai9 h16]
   exact⟨4,rfl,rfl,by simp,fun h=>by have:=h.len;omega⟩
  rw[Aja h16,cond_false,cond_false]
  rw[Lo (step:=Hd l) (step':=E8 l) fun i x s hi=>step_eq hi (by omega) (hr x (Ajc hi))]
  rcases Fk (step:=E8 l) (l:=l) (s:=()) (fun k _=>∀ (i:Nat) w,i<k→l[i]? =some w→xW w∧∀ (j:Nat) v,j<i→l[j]? =some v→clash v w=false) (fun r=>r≠0∧¬ fI l)
    (fun i w h=>by omega) (fun k x u hk hI=>by
      have hlt:=(List.getElem?_eq_some_iff.1 hk).1
      have hmem:=Ajc hk
      unfold E8
      by_cases h1:x.Groomer<1
      ·rw[Ai9 h1];exact .inr ⟨_,rfl,by simp,fun h=>by have:=(h.rope x hmem).g1;omega⟩
      rw[Aja h1,cond_false]
      by_cases h2:9999<x.Groomer
      ·rw[Ai9 h2];exact .inr ⟨_,rfl,by simp,fun h=>by have:=(h.rope x hmem).g2;omega⟩
      rw[Aja h2,cond_false]
      by_cases h3:x.From<0
      ·rw[Ai9 h3];exact .inr ⟨_,rfl,by simp,fun h=>by have:=(h.rope x hmem).f0;omega⟩
      rw[Aja h3,cond_false]
      by_cases h4:x.To≤x.From
      ·rw[Ai9 h4];exact .inr ⟨_,rfl,by simp,fun h=>by have:=(h.rope x hmem).ft;omega⟩
      rw[Aja h4,cond_false]
      by_cases h5:20000000<x.To
      ·rw[Ai9 h5];exact .inr ⟨_,rfl,by simp,fun h=>by have:=(h.rope x hmem).t1;omega⟩
      rw[Aja h5,cond_false]
      obtain⟨b,hb,hbr⟩:=r9 (hr x hmem)
      rw[hb,Option.bind_some]
      cases b with
      | false=>exact .inr ⟨1,rfl,by simp,fun h=>by have:=hbr.2 (h.rope x hmem).runs;cases this⟩
      | true=>
        rcases wS (l:=l) (x:=x) (k:=k) (by omega) (by omega)with ⟨h6,h7⟩ | ⟨h6,j,w,hj,hw,hc⟩
        ·refine .inl ⟨(),by rw[h6];rfl,fun i w hi hw=>?_⟩
         by_cases e:i=k
         ·subst e;rw[hk]at hw;obtain rfl:=Option.some.inj hw
          exact⟨⟨by omega,by omega,by omega,by omega,by omega,hbr.1 rfl⟩,h7⟩
         ·exact hI i w (by omega) hw
        ·refine .inr ⟨15,by rw[h6];rfl,by simp,fun h=>?_⟩
         obtain⟨h8,rfl⟩:=List.getElem?_eq_some_iff.1 hw
         obtain⟨h9,rfl⟩:=List.getElem?_eq_some_iff.1 hk
         have:=(List.pairwise_iff_getElem.1 h.apart) j k h8 h9 hj
         rw[this]at hc;cases hc)with ⟨s',h1,h2⟩ | ⟨r,h1,h2,h3⟩
  ·rw[h1]
   refine⟨0,rfl,rfl,fun _=>?_,fun _=>rfl⟩
   refine⟨by omega,fun w hw=>?_,?_⟩
   ·obtain⟨i,hi⟩:=List.mem_iff_getElem?.1 hw
    exact(h2 i w (List.getElem?_eq_some_iff.1 hi).1 hi).1
   ·rw[List.pairwise_iff_getElem]
    intro i j hi hj hij
    exact(h2 j _ hj (Ajb hj)).2 i _ hij (Ajb hi)
  ·rw[h1]
   exact⟨r,rfl,rfl,fun e=>absurd e h2,fun h=>absurd h h3⟩
structure Few (l:List A8):Prop where
  len:l.length≤40
  runs:∀ w∈l,w.Runs.length≤10000
def atT (l:List A8) (t:Int):List A8:=l.filter fun w=>decide (w.From≤t)&&decide (t<w.To)
def Kf (l:List A8) (t:Int):List Int:=(atT l t).flatMap (·.Runs)
theorem lT {l:List A8} {t:Int} {w:A8}:w∈atT l t↔w∈l∧w.From≤t∧t<w.To:=by simp[atT]
theorem Ve {l:List A8} {t n:Int}:n∈Kf l t↔∃ w∈l,(w.From≤t∧t<w.To)∧n∈w.Runs:=by
  unfold Kf
  rw[List.mem_flatMap]
  constructor
  ·rintro⟨w,hw,hn⟩;exact⟨w,(lT.1 hw).1,(lT.1 hw).2,hn⟩
  ·rintro⟨w,hw,ht,hn⟩;exact⟨w,lT.2 ⟨hw,ht⟩,hn⟩
theorem gN {l:List A8} {t:Int} (h:∀ w∈l,w.Runs.length≤10000):(Kf l t).length≤10000*l.length:=by
  induction l with
  | nil=>simp[Kf,atT]
  | cons w l ih=>
    have ih:=ih fun w hw=>h w (List.mem_cons_of_mem _ hw)
    have hw:=h w (by simp)
    unfold Kf atT at ih ⊢
    rw[List.filter_cons]
    split
    ·rw[List.flatMap_cons,List.length_append,List.length_cons];omega
    ·rw[List.length_cons];omega
theorem mP (l:List A8) (x:A8) (t:Int):Kf (l++[x]) t=if x.From≤t∧t<x.To then Kf l t++x.Runs else Kf l t:=by
  unfold Kf atT
  rw[List.filter_append]
  by_cases h:x.From≤t∧t<x.To
  ·rw[if_pos h,List.filter_cons_of_pos (by simp[h]),List.filter_nil,List.flatMap_append];simp
  ·rw[if_neg h,List.filter_cons_of_neg (by simpa using h),List.filter_nil,List.append_nil]
theorem vM {l:List A8} (h:Few l) (t:Int):Pl l t=some (norm (Kf l t)):=by
  unfold Pl
  obtain⟨s',h1,h2⟩:=Dp (step:=J7 t) (l:=l) (s:=[]) (fun k s=>s=Kf (l.take k) t) (by simp[Kf,atT]) (fun k x s hk hI=>by
    have hlt:=(List.getElem?_eq_some_iff.1 hk).1
    have hlen:s.length≤10000*k:=by
      rw[hI]
      have:=gN (l:=l.take k) (t:=t) fun w hw=>h.runs w (List.mem_of_mem_take hw)
      rw[List.length_take]at this;omega
    have hx:=h.runs x (Ajc hk)
    have hl:=h.len
    rw[Bx hk,mP]
    unfold J7
    by_cases h1:x.From≤t
    ·rw[Ai9 h1,cond_true]
     by_cases h2:t<x.To
     ·rw[Ai9 h2,cond_true,Ce (by omega),if_pos ⟨h1,h2⟩,hI]
      exact⟨_,rfl,rfl⟩
     ·rw[Aja h2,cond_false,if_neg (fun h=>h2 h.2)]
      exact⟨_,rfl,hI⟩
    ·rw[Aja h1,cond_false,if_neg (fun h=>h1 h.1)]
     exact⟨_,rfl,hI⟩)
  rw[List.take_length]at h2
  have hl:=gN (l:=l) (t:=t) h.runs
  have:=h.len
  rw[h1,Option.bind_some]
  show chk s'.length _=_
  rw[h2,Ce (by omega),Ce (by omega)];rfl
theorem tL {l:List A8} (hr:fI l) (t:Int):Ws l t=some (norm (Kf l t)):=by
  unfold Ws
  obtain⟨s',h1,h2,h3,h4⟩:=aO (ρ:=List Int) (n:=9999) (step:=Rm l t) (s:=[]) (by omega) (fun k s=>Inc s∧s.length≤k∧∀ n,n∈s↔(n≤k∧n∈Kf l t))
    ⟨List.Pairwise.nil,by simp,fun n=>by
      constructor
      ·intro h;simp at h
      ·rintro⟨h,hn⟩
       obtain⟨w,hw,_,hm⟩:=Ve.1 hn
       have:=(hr.rope w hw).runs.lo n hm;simp at h;omega⟩ (fun k s hk hI=>by
    obtain⟨i1,i2,i3⟩:=hI
    unfold Rm
    rw[Fe (step:=Rl t s k) (fun w=>decide (w.From≤t)&&(decide (t<w.To)&&decide (((k:Nat):Int)+1∈w.Runs))) (fun _=>.next (s++[((k:Nat):Int)+1])) (fun j w hw=>by
     unfold Rl
     rw[has_eq]
     by_cases h1:w.From≤t<;>by_cases h2:t<w.To<;>by_cases h3:((k:Nat):Int)+1∈w.Runs<;>simp[h1,h2,h3,Ce (show s.length+1≤549755813888 by omega)])]
    have old:∀ n,n∈Kf l t→n≤((k+1:Nat):Int)→n≤(k:Int)∨n=(k:Int)+1:=fun n _ h=>by omega
    cases hf:l.find? (fun w=>decide (w.From≤t)&&(decide (t<w.To)&&decide (((k:Nat):Int)+1∈w.Runs)))with
    | some w=>
      have hp:=List.find?_some hf
      have hw:=List.mem_of_find?_eq_some hf
      simp only[Bool.and_eq_true,decide_eq_true_eq]at hp
      have hin:((k:Nat):Int)+1∈Kf l t:=Ve.2 ⟨w,hw,⟨hp.1,hp.2.1⟩,hp.2.2⟩
      refine⟨_,rfl,?_,by simp;omega,fun n=>?_⟩
      ·unfold Inc
       rw[List.pairwise_append]
       exact⟨i1,by simp,fun a ha b hb=>by simp at hb;have:=((i3 a).1 ha).1;omega⟩
      ·rw[List.mem_append,i3,List.mem_singleton]
       constructor
       ·rintro(h | rfl)
        ·exact⟨by omega,h.2⟩
        ·exact⟨by omega,hin⟩
       ·rintro⟨h,hn⟩
        rcases old n hn h with h | h
        ·exact .inl ⟨h,hn⟩
        ·exact .inr h
    | none=>
      refine⟨_,rfl,i1,by omega,fun n=>?_⟩
      rw[i3]
      constructor
      ·rintro⟨h,hn⟩;exact⟨by omega,hn⟩
      ·rintro⟨h,hn⟩
       rcases old n hn h with h | rfl
       ·exact⟨h,hn⟩
       ·obtain⟨w,hw,ht,hm⟩:=Ve.1 hn
        have:=List.find?_eq_none.1 hf w hw
        simp[ht.1,ht.2,hm]at this)
  rw[h1,Option.bind_some]
  show some s'=_
  congr 1
  refine Pg h2 (Ul _) fun n=>?_
  rw[Rx,h4]
  refine⟨fun h=>h.2,fun h=>⟨?_,h⟩⟩
  obtain⟨w,hw,_,hm⟩:=Ve.1 h
  exact(hr.rope w hw).runs.hi n hm
end Go.Proofs.YtjopghiagoidgaaGreat.W46
namespace Go.Proofs.YtjopghiagoidgaaGreat.S50
open Go Go.Ab
set_option linter.unusedSimpArgs false
set_option linter.unusedVariables false
section
variable {α σ ρ:Type}
theorem P0 {step step':Nat→α→σ→Option (Out σ ρ)}:∀ {l:List α} {k:Nat},(∀ i x s,l[i]? =some x→step (k+i) x s=step' (k+i) x s)→∀ s,Al step k l s=Al step' k l s
  | [],k,h,s=>rfl
  | x::r,k,h,s=>by
    have h0:=h 0 x s rfl
    rw[Nat.add_zero]at h0
    rw[Al,Al,h0]
    have ih:∀ s,Al step (k+1) r s=Al step' (k+1) r s:=P0 (l:=r) (k:=k+1) (fun i y s hy=>by
      have:=h (i+1) y s (by simpa using hy)
      rwa [show k+(i+1)=k+1+i by omega]at this)
    cases step' k x s with
    | none=>rfl
    | some o=>cases o with
      | next s'=>exact ih s'
      | ret r=>rfl
theorem Lo {step step':Nat→α→σ→Option (Out σ ρ)} {l:List α} {s:σ} (h:∀ i x s,l[i]? =some x→step i x s=step' i x s):Al step 0 l s=Al step' 0 l s:=
  P0 (k:=0) (fun i x s hx=>by rw[Nat.zero_add];exact h i x s hx) s
end
def Small (l:List Bd):Prop:=l.length≤50∧∀ s∈l,s.Zones.length≤100∧True
def Inc (l:List Int):Prop:=l.Pairwise (·< ·)
def Ta (most:Int) (l:List Int):Prop:=(∀ x∈l,1≤x∧x≤most)∧Inc l
instance (most:Int) (l:List Int):Decidable (Ta most l):=by unfold Ta Inc;infer_instance
theorem lX {l:List Int} (h:∀ k x y,l[k+1]? =some x→l[k]? =some y→y<x):Inc l:=by
  unfold Inc
  rw[List.pairwise_iff_getElem]
  have key:∀ (d i:Nat) (hj:i+d+1<l.length),l[i]'(by omega)<l[i+d+1]:=by
    intro d
    induction d with
    | zero=>
      intro i hj
      exact h i _ _ (Ajb (by omega)) (Ajb (by omega))
    | succ d ih=>
      intro i hj
      have h1:=ih i (by omega)
      have h2:=h (i+d+1) l[i+(d+1)+1] l[i+d+1] (by rw[Ajb (by omega)];rfl) (Ajb (by omega))
      omega
  intro i j hi hj hlt
  have:=key (j - i - 1) i (by omega)
  simpa[show i+(j - i - 1)+1=j by omega]using this
theorem uG {l:List Int} (h:Inc l) {k:Nat} {x y:Int} (hx:l[k+1]? =some x) (hy:l[k]? =some y):y<x:=by
  unfold Inc at h
  rw[List.pairwise_iff_getElem]at h
  obtain⟨h1,rfl⟩:=List.getElem?_eq_some_iff.1 hx
  obtain⟨h2,rfl⟩:=List.getElem?_eq_some_iff.1 hy
  exact h k (k+1) h2 h1 (by omega)
theorem Tv (l:List Int) (most:Int) (hl:l.length≤9223372036854775807):Ef l most=some (decide (Ta most l)):=by
  unfold Ef
  rcases Fk (step:=Ee l most) (l:=l) (s:=()) (fun k _=>(∀ i x,i<k→l[i]? =some x→1≤x∧x≤most)∧∀ i x y,i+1<k→l[i+1]? =some x→l[i]? =some y→y<x)
    (fun r=>r=false∧¬ Ta most l) ⟨fun i x h=>by omega,fun i x y h=>by omega⟩ (fun k x u hk ⟨hI1,hI2⟩=>by
      have hlt:=(List.getElem?_eq_some_iff.1 hk).1
      have hm:=Ajc hk
      unfold Ee
      by_cases h1:x<1
      ·rw[Ai9 h1];exact .inr ⟨false,rfl,rfl,fun h=>by have:=h.1 x hm;omega⟩
      rw[Aja h1,cond_false]
      by_cases h2:most<x
      ·rw[Ai9 h2];exact .inr ⟨false,rfl,rfl,fun h=>by have:=h.1 x hm;omega⟩
      rw[Aja h2,cond_false]
      have hI1':∀ i y,i<k+1→l[i]? =some y→1≤y∧y≤most:=fun i y hi hy=>by
        by_cases e:i=k
        ·subst e;rw[hk]at hy;obtain rfl:=Option.some.inj hy;omega
        ·exact hI1 i y (by omega) hy
      by_cases h3:(0:Int)<(k:Int)
      ·rw[Ai9 h3,cond_true,Q1 (by omega) (by omega),X8 (k:=k - 1) (by omega),Option.bind_some]
       have hp:l[k - 1]? =some l[k - 1]:=Ajb (by omega)
       by_cases h4:x≤l[k - 1]
       ·rw[Ai9 h4]
        refine .inr ⟨false,rfl,rfl,fun h=>?_⟩
        have:=uG h.2 (k:=k - 1) (by rw[Nat.sub_add_cancel (by omega)];exact hk) hp
        omega
       ·rw[Aja h4]
        refine .inl ⟨(),rfl,hI1',fun i a b hi ha hb=>?_⟩
        by_cases e:i+1=k
        ·rw[e,hk]at ha;obtain rfl:=Option.some.inj ha
         obtain rfl:i=k - 1:=by omega
         rw[hp]at hb;obtain rfl:=Option.some.inj hb;omega
        ·exact hI2 i a b (by omega) ha hb
      ·rw[Aja h3]
       exact .inl ⟨(),rfl,hI1',fun i a b hi ha hb=>by omega⟩)with ⟨u,h1,h2,h3⟩ | ⟨r,h1,h2,h3⟩
  ·have:Ta most l:=⟨fun x hx=>by
     obtain⟨i,hi,rfl⟩:=List.getElem_of_mem hx
     exact h2 i _ hi (Ajb hi),lX fun k x y hx hy=>h3 k x y (List.getElem?_eq_some_iff.1 hx).1 hx hy⟩
   rw[h1,Ai9 this];rfl
  ·subst h2
   rw[h1,Aja h3];rfl
theorem X1 (l:List Int) (most:Int) (hl:l.length≤9223372036854775807):Nz l most=some (decide (Ta most l)):=Tv l most hl
theorem find_eq (l:List Bd) (n:Int):(Hy l n=some (-1)∧∀ x∈l,x.ID≠n)∨(∃ (k:Nat) (x:Bd),Hy l n=some (k:Int)∧l[k]? =some x∧x.ID=n∧∀ j y,j<k→l[j]? =some y→y.ID≠n):=by
  unfold Hy
  rcases Fk (step:=Gv n) (l:=l) (s:=()) (fun k _=>∀ i x,i<k→l[i]? =some x→x.ID≠n)
    (fun r=>∃ (k:Nat) (x:Bd),r=(k:Int)∧l[k]? =some x∧x.ID=n∧∀ j y,j<k→l[j]? =some y→y.ID≠n) (fun i x h=>by omega) (fun k x u hk hI=>by
      unfold Gv
      by_cases e:x.ID=n
      ·rw[Ai9 e];exact .inr ⟨_,rfl,k,x,rfl,hk,e,hI⟩
      ·rw[Aja e]
       refine .inl ⟨(),rfl,fun i y hi hy=>?_⟩
       by_cases h:i=k
       ·subst h;rw[hk]at hy;obtain rfl:=Option.some.inj hy;exact e
       ·exact hI i y (by omega) hy)with ⟨u,h1,h2⟩ | ⟨r,h1,k,x,rfl,h2,h3,h4⟩
  ·refine .inl ⟨by rw[h1];rfl,fun x hx=>?_⟩
   obtain⟨i,hi,rfl⟩:=List.getElem_of_mem hx
   exact h2 i _ hi (Ajb hi)
  ·exact .inr ⟨k,x,by rw[h1];rfl,h2,h3,h4⟩
def InR (s:Bd):Prop:=1≤s.ID∧s.ID≤9999∧4≤s.Limit∧s.Limit≤100000∧0≤s.Load∧s.Load≤100000∧-1≤s.Controlled∧s.Controlled≤20000000
instance (s:Bd):Decidable (InR s):=by unfold InR;infer_instance
def Bt (s:Bd):Prop:=s.Zones≠[]∧Ta 32 s.Zones∧Ta 9999 s.Lifts
instance (s:Bd):Decidable (Bt s):=by unfold Bt;infer_instance
def kX (l:List Bd) (k:Nat) (s:Bd):Prop:=∃ y∈l.take k,y.ID=s.ID
instance (l:List Bd) (k:Nat) (s:Bd):Decidable (kX l k s):=by unfold kX;infer_instance
def Xd (l:List Bd) (k:Nat) (s:Bd):Option Int:=if ¬ InR s then some 2 else if kX l k s then some 7 else if ¬ Bt s then some 1 else none
def ans (o:Option Int):Option (Out Unit Int):=match o with | none=>some (.next ()) | some e=>some (.ret e)
theorem qY (s:Bd):Gu s=some (decide (InR s)):=by
  unfold Gu InR
  by_cases h1:1≤s.ID<;>by_cases h2:s.ID≤9999<;>by_cases h3:4≤s.Limit<;>by_cases h4:s.Limit≤100000<;>by_cases h5:0≤s.Load<;>by_cases h6:s.Load≤100000<;>by_cases h7: -1≤s.Controlled<;>simp[h1,h2,h3,h4,h5,h6,h7]
theorem j8 (s:Bd):decide (((s.Zones.length:Nat):Int)=(0:Int))=decide (s.Zones=[]):=by
  cases s.Zones<;>simp<;>omega
theorem qD (l:List Bd) (hl:l.length≤9223372036854775807) (k:Nat) (x:Bd) (hk:l[k]? =some x) (hz:x.Zones.length≤9223372036854775807) (hf:x.Lifts.length≤9223372036854775807) :
    E3 l k x ()=ans (Xd l k x):=by
  have hlt:=(List.getElem?_eq_some_iff.1 hk).1
  unfold E3 Xd
  rw[qY,Option.bind_some]
  by_cases h1:InR x
  ·rw[Ai9 h1,Bool.not_true,cond_false,M1 ⟨by omega,by omega⟩,if_neg (by simpa using h1)]
   rcases find_eq (l.take k) x.ID with⟨h2,h3⟩ | ⟨j,y,h2,h3,h4,_⟩
   ·rw[h2,Option.bind_some,if_neg (fun⟨y,hy,e⟩=>h3 y hy e)]
    show(bif decide (((x.Zones.length:Nat):Int)=(0:Int))then _ else _)=_
    rw[j8,Tv _ _ hz,Tv _ _ hf]
    unfold Bt
    by_cases h5:x.Zones=[]<;>by_cases h6:Ta 32 x.Zones<;>by_cases h7:Ta 9999 x.Lifts<;>simp[h5,h6,h7,ans]
   ·rw[h2,Option.bind_some,Ai9 (Int.natCast_nonneg j),cond_true,if_pos ⟨y,Ajc h3,h4⟩];rfl
  ·rw[Aja h1,if_pos h1];rfl
theorem tN (l:List Bd) (k:Nat) (x:Bd) (hk:k<l.length) (hl:l.length≤9223372036854775807) :
    (kX l k x∧J5 (F6 l x) k ()=some (.ret (.ret 7)))∨(¬ kX l k x∧J5 (F6 l x) k ()=some (.next ())):=by
  rcases W9 (step:=F6 l x) (n:=k) (s:=()) (by omega) (fun i _=>∀ j y,j<i→l[j]? =some y→y.ID≠x.ID) (fun r=>r= .ret 7∧kX l k x) (fun j y h=>by omega) (fun i u hi hI=>by
    unfold F6
    have hy:l[i]? =some l[i]:=Ajb (by omega)
    rw[A2 hy,Option.bind_some]
    by_cases e:l[i].ID=x.ID
    ·rw[Ai9 e]
     refine .inr ⟨_,rfl,rfl,l[i],Ajc (i:=i) ?_,e⟩
     rw[List.getElem?_take,if_pos hi];exact hy
    ·rw[Aja e]
     refine .inl ⟨(),rfl,fun j y hj hy'=>?_⟩
     by_cases h:j=i
     ·subst h;rw[hy]at hy';obtain rfl:=Option.some.inj hy';exact e
     ·exact hI j y (by omega) hy')with ⟨u,h1,h2⟩ | ⟨r,h1,h2,h3⟩
  ·refine .inr ⟨fun⟨y,hy,e⟩=>?_,h1⟩
   obtain⟨j,hj,rfl⟩:=List.getElem_of_mem hy
   rw[List.length_take]at hj
   rw[List.getElem_take]at e
   exact h2 j _ (by omega) (Ajb (by omega)) e
  ·subst h2;exact .inl ⟨h3,h1⟩
theorem jB (l:List Bd) (hl:l.length≤9223372036854775807) (k:Nat) (x:Bd) (hk:l[k]? =some x) (hz:x.Zones.length≤9223372036854775807) (hf:x.Lifts.length≤9223372036854775807) :
    Hm l k x ()=ans (Xd l k x):=by
  have hlt:=(List.getElem?_eq_some_iff.1 hk).1
  unfold Hm Xd
  by_cases h1:InR x
  ·obtain⟨a1,a2,a3,a4,a5,a6,a7,a8⟩:=h1
   rw[Aja (by omega),cond_false,Aja (by omega),cond_false,Aja (by omega),cond_false,Aja (by omega),cond_false,Aja (by omega),cond_false,
    Aja (by omega),cond_false,Aja (by omega),cond_false,Aja (by omega),cond_false,if_neg (fun hn=>hn (show InR x from⟨a1,a2,a3,a4,a5,a6,a7,a8⟩))]
   rcases tN l k x hlt hl with⟨h2,h3⟩ | ⟨h2,h3⟩
   ·rw[h3,if_pos h2];rfl
   ·rw[h3,if_neg h2,Option.bind_some]
    show(bif decide (((x.Zones.length:Nat):Int)=(0:Int))then _ else _)=_
    rw[j8,X1 _ _ hz,X1 _ _ hf]
    unfold Bt
    by_cases h5:x.Zones=[]<;>by_cases h6:Ta 32 x.Zones<;>by_cases h7:Ta 9999 x.Lifts<;>simp[h5,h6,h7,ans]
  ·rw[if_pos h1]
   by_cases b1:x.ID<1
   ·rw[Ai9 b1];rfl
   rw[Aja b1,cond_false]
   by_cases b2:9999<x.ID
   ·rw[Ai9 b2];rfl
   rw[Aja b2,cond_false]
   by_cases b3:x.Limit<4
   ·rw[Ai9 b3];rfl
   rw[Aja b3,cond_false]
   by_cases b4:100000<x.Limit
   ·rw[Ai9 b4];rfl
   rw[Aja b4,cond_false]
   by_cases b5:x.Load<0
   ·rw[Ai9 b5];rfl
   rw[Aja b5,cond_false]
   by_cases b6:100000<x.Load
   ·rw[Ai9 b6];rfl
   rw[Aja b6,cond_false]
   by_cases b7:x.Controlled < -1
   ·rw[Ai9 b7];rfl
   rw[Aja b7,cond_false]
   by_cases b8:20000000<x.Controlled
   ·rw[Ai9 b8];rfl
   exact absurd (show InR x from⟨by omega,by omega,by omega,by omega,by omega,by omega,by omega,by omega⟩) h1
def bG (l:List Bd):Prop:=l.length≤32∧∀ k x,l[k]? =some x→Xd l k x=none
def Aam (l:List Bd):Prop:=l.length≤9223372036854775807∧∀ s∈l,s.Zones.length≤9223372036854775807∧s.Lifts.length≤9223372036854775807
theorem xO (l:List Bd) (g:Nat→Bd→Option Int):∃ r,((Al (fun k x (_:Unit)=>ans (g k x)) 0 l ()).bind fun o=>o.on fun _=>some (0:Int))=some r∧((∀ k x,l[k]? =some x→g k x≠some 0)→(r=0↔∀ k x,l[k]? =some x→g k x=none)):=by
  rcases Fk (step:=fun k x (_:Unit)=>ans (g k x)) (l:=l) (s:=()) (fun i _=>∀ k x,k<i→l[k]? =some x→g k x=none) (fun r=>∃ k x,l[k]? =some x∧g k x=some r) (fun k x h=>by omega) (fun k x u hk hI=>by
    cases hg:g k x with
    | none=>
      refine .inl ⟨(),by simp only[hg,ans],fun i y hi hy=>?_⟩
      by_cases e:i=k
      ·subst e;rw[hk]at hy;obtain rfl:=Option.some.inj hy;exact hg
      ·exact hI i y (by omega) hy
    | some e=>exact .inr ⟨e,by simp only[hg,ans],k,x,hk,hg⟩)with ⟨u,h1,h2⟩ | ⟨r,h1,k,x,h2,h3⟩
  ·exact⟨0,by rw[h1];rfl,fun _=>⟨fun _ k x hx=>h2 k x (List.getElem?_eq_some_iff.1 hx).1 hx,fun _=>rfl⟩⟩
  ·refine⟨r,by rw[h1];rfl,fun hn=>⟨fun e=>?_,fun h=>?_⟩⟩
   ·subst e;exact absurd h3 (hn k x h2)
   ·rw[h k x h2]at h3;cases h3
theorem xA (l:List Bd) (k:Nat) (x:Bd):Xd l k x≠some 0:=by
  unfold Xd;split<;>(try split)<;>(try split)<;>simp
theorem Wi (l:List Bd) (h:Aam l):∃ r,Jg l=some r∧Na l=some r∧(r=0↔bG l):=by
  unfold Jg Na
  by_cases hl:(32:Int)<((l.length:Nat):Int)
  ·rw[Ai9 hl]
   exact⟨4,rfl,rfl,fun e=>by omega,fun h=>by have:=h.1;omega⟩
  ·rw[Aja hl,cond_false,cond_false]
   rw[Lo (step:=E3 l) (step':=fun k x (_:Unit)=>ans (Xd l k x)) (fun k x u hx=>qD l h.1 k x hx (h.2 x (Ajc hx)).1 (h.2 x (Ajc hx)).2),
    Lo (step:=Hm l) (step':=fun k x (_:Unit)=>ans (Xd l k x)) (fun k x u hx=>jB l h.1 k x hx (h.2 x (Ajc hx)).1 (h.2 x (Ajc hx)).2)]
   obtain⟨r,h1,h2⟩:=xO l (Xd l)
   refine⟨r,h1,h1,(h2 fun k x _=>xA l k x).trans ⟨fun h=>⟨by omega,h⟩,fun h=>h.2⟩⟩
theorem bG.at {l:List Bd} (h:bG l) {x:Bd} (hx:x∈l):InR x∧Bt x:=by
  obtain⟨k,hk,rfl⟩:=List.getElem_of_mem hx
  have:=h.2 k _ (Ajb hk)
  unfold Xd at this
  split at this
  ·cases this
  ·split at this
   ·cases this
   ·split at this
    ·cases this
    ·rename_i a b c;exact⟨by simpa using a,by simpa using c⟩
theorem wrap_small {n:Int} (h: -9223372036854775808≤n) (h2:n≤9223372036854775807):IntKind.i64.wrap n=n:=by simp[IntKind.wrap,IntKind.bits,IntKind.signed]<;>omega
def lvl (levels:List Int) (z:Int):Int:=if 1≤z then(levels[(z - 1).toNat]?).getD 0 else 0
def Wx (levels:List Int):List Int→Int
  | []=>0
  | z::r=>r.foldl (fun a z=>if a<lvl levels z then lvl levels z else a) (lvl levels z)
theorem tZ (levels:List Int) (zs:List Int) (z:Int):Wx levels (zs++[z])=if zs=[]∨Wx levels zs<lvl levels z then lvl levels z else Wx levels zs:=by
  cases zs with
  | nil=>rfl
  | cons y r=>
    simp only[List.cons_append,Wx,List.foldl_append,List.foldl_cons,List.foldl_nil,reduceCtorEq,false_or]
theorem wG {levels:List Int} {z:Int} (hl:levels.length≤9223372036854775807) (h1:1≤z) (h2:z≤(levels.length:Int)):Dk levels (IntKind.i64.wrap (z - 1))=some (lvl levels z):=by
  rw[wrap_small (by omega) (by omega)]
  have hlt:(z - 1).toNat<levels.length:=by omega
  unfold lvl
  rw[if_pos h1,Ajb hlt]
  exact Qx (k:=(z - 1).toNat) (by omega) (Ajb hlt)
theorem lU {levels:List Int} {z:Int} (h:¬ (1≤z∧z≤(levels.length:Int))):lvl levels z=0:=by
  unfold lvl
  by_cases h1:1≤z
  ·rw[if_pos h1,List.getElem?_eq_none (by omega)];rfl
  ·rw[if_neg h1]
theorem Ww (k:Nat) (v sv:Int):(bif (decide (((k:Nat):Int)=(0:Int)))then some (Out.next v)else (bif (decide (sv<v))then some (Out.next v)else some (Out.next sv)):Option (Out Int Int))=some (.next (if k=0∨sv<v then v else sv)):=by
  by_cases h1:k=0
  ·rw[Ai9 (by omega),if_pos (.inl h1)];rfl
  ·rw[Aja (by omega),cond_false]
   by_cases h2:sv<v
   ·rw[Ai9 h2,if_pos (.inr h2)];rfl
   ·rw[Aja h2,if_neg (by omega)];rfl
theorem qV {levels:List Int} (hl:levels.length≤9223372036854775807) (k:Nat) (x sv:Int):Ga levels k x sv=some (.next (if k=0∨sv<lvl levels x then lvl levels x else sv)):=by
  unfold Ga
  by_cases h1:1≤x
  ·rw[Ai9 h1,cond_true]
   by_cases h2:x≤(levels.length:Int)
   ·rw[Ai9 h2,cond_true,wG hl h1 h2,Option.bind_some];exact Ww k _ sv
   ·rw[Aja h2,cond_false,lU (fun h=>h2 h.2)];exact Ww k _ sv
  ·rw[Aja h1,cond_false,lU (fun h=>h1 h.1)];exact Ww k _ sv
theorem jC {levels:List Int} (hl:levels.length≤9223372036854775807) (k:Nat) (x sv:Int) (h1:1≤x):Rj levels k x sv=some (.next (if k=0∨sv<lvl levels x then lvl levels x else sv)):=by
  unfold Rj
  by_cases h2:x≤(levels.length:Int)
  ·rw[Ai9 h2,cond_true,wG hl h1 h2,Option.bind_some];exact Ww k _ sv
  ·rw[Aja h2,cond_false,lU (fun h=>h2 h.2)];exact Ww k _ sv
theorem nT {step:Nat→Int→Int→Option (Out Int Int)} {levels zs:List Int} (hs:∀ k x sv,x∈zs→step k x sv=some (.next (if k=0∨sv<lvl levels x then lvl levels x else sv))) :
    ((Al step 0 zs 0).bind fun o=>o.on fun s=>some s)=some (Wx levels zs):=by
  obtain⟨s',h1,h2⟩:=Dp (step:=step) (l:=zs) (s:=0) (fun k s=>s=Wx levels (zs.take k)) rfl (fun k x s hk hI=>by
    have hlt:=(List.getElem?_eq_some_iff.1 hk).1
    rw[hs k x s (Ajc hk)]
    refine⟨_,rfl,?_⟩
    rw[List.take_add_one,hk,hI]
    show _=Wx levels (zs.take k++[x])
    rw[tZ]
    have:zs.take k=[]↔k=0:=by
      constructor
      ·intro h
       have:=congrArg List.length h
       simp at this
       rcases this with h | h
       ·exact h
       ·subst h;simp at hlt
      ·intro h;subst h;rfl
    simp only[this])
  rw[h1,h2,List.take_length];rfl
theorem wK (s:Bd) {levels:List Int} (hl:levels.length≤9223372036854775807):Ms s levels=some (Wx levels s.Zones):=
  nT fun k x sv _=>qV hl k x sv
theorem m8 (s:Bd) {levels:List Int} (hl:levels.length≤9223372036854775807) (hz:∀ z∈s.Zones,1≤z):dX s levels=some (Wx levels s.Zones):=
  nT fun k x sv hx=>jC hl k x sv (hz x hx)
def Yv (s:Bd) (levels:List Int):Prop:=
  s.Limit≤s.Load∨(Wx levels s.Zones=3∧s.Limit / 2≤s.Load)∨(Wx levels s.Zones=4∧s.Limit / 4≤s.Load)∨4<Wx levels s.Zones
instance (s:Bd) (levels:List Int):Decidable (Yv s levels):=by unfold Yv;infer_instance
theorem fG {n d:Int} (h0:0≤n) (h1:n≤100000) (hd:1≤d):IntKind.i64.wrap (Int.tdiv n d)=n / d:=by
  have h2:n / d≤n:=Int.ediv_le_self d h0
  have h3:0≤n / d:=Int.ediv_nonneg h0 (by omega)
  rw[Int.tdiv_eq_ediv_of_nonneg h0,wrap_small (by omega) (by omega)]
theorem mJ {s:Bd} (hr:InR s) {levels:List Int} (hl:levels.length≤9223372036854775807):F9 s levels=some (decide (Yv s levels)):=by
  unfold InR at hr
  unfold F9
  rw[wK s hl,fG (by omega) (by omega) (by omega),fG (by omega) (by omega) (by omega)]
  by_cases h1:s.Limit≤s.Load
  ·rw[Ai9 h1,Ai9 (show Yv s levels from .inl h1)];rfl
  rw[Aja h1,cond_false,Option.bind_some]
  by_cases h2:Wx levels s.Zones=3
  ·rw[Ai9 h2,cond_true]
   refine congrArg some (decide_eq_decide.2 ?_)
   unfold Yv;omega
  rw[Aja h2,cond_false]
  by_cases h3:Wx levels s.Zones=4
  ·rw[Ai9 h3,cond_true]
   refine congrArg some (decide_eq_decide.2 ?_)
   unfold Yv;omega
  rw[Aja h3,cond_false]
  refine congrArg some (decide_eq_decide.2 ?_)
  unfold Yv;omega
theorem fR {s:Bd} (hr:InR s) {levels:List Int} (hl:levels.length≤9223372036854775807) (hz:∀ z∈s.Zones,1≤z):Ri s levels=some (decide (Yv s levels)):=by
  unfold InR at hr
  unfold Ri
  rw[m8 s hl hz,fG (by omega) (by omega) (by omega),fG (by omega) (by omega) (by omega),Option.bind_some]
  by_cases h1:4<Wx levels s.Zones
  ·rw[Ai9 h1,Ai9 (show Yv s levels from .inr (.inr (.inr h1)))];rfl
  rw[Aja h1,cond_false]
  by_cases h3:Wx levels s.Zones=4
  ·rw[Ai9 h3,cond_true]
   refine congrArg some (decide_eq_decide.2 ?_)
   unfold Yv;omega
  rw[Aja h3,cond_false]
  by_cases h2:Wx levels s.Zones=3
  ·rw[Ai9 h2,cond_true]
   refine congrArg some (decide_eq_decide.2 ?_)
   unfold Yv;omega
  rw[Aja h2,cond_false]
  refine congrArg some (decide_eq_decide.2 ?_)
  unfold Yv;omega
theorem Pg:∀ {a b:List Int},Inc a→Inc b→(∀ x,x∈a↔x∈b)→a=b
  | [],[],_,_,_=>rfl
  | [],y::s,_,_,h=>absurd ((h y).2 (by simp)) (by simp)
  | x::r,[],_,_,h=>absurd ((h x).1 (by simp)) (by simp)
  | x::r,y::s,ha,hb,h=>by
    obtain⟨ha1,ha2⟩:=List.pairwise_cons.1 ha
    obtain⟨hb1,hb2⟩:=List.pairwise_cons.1 hb
    have e:x=y:=by
      rcases List.mem_cons.1 ((h x).1 (by simp))with e | h1
      ·exact e
      ·rcases List.mem_cons.1 ((h y).2 (by simp))with e | h2
       ·exact e.symm
       ·have:=ha1 y h2;have:=hb1 x h1;omega
    subst e
    rw[Pg ha2 hb2 (fun z=>?_)]
    constructor
    ·intro hz
     rcases List.mem_cons.1 ((h z).1 (List.mem_cons_of_mem _ hz))with e | h1
     ·have:=ha1 z hz;omega
     ·exact h1
    ·intro hz
     rcases List.mem_cons.1 ((h z).2 (List.mem_cons_of_mem _ hz))with e | h1
     ·have:=hb1 z hz;omega
     ·exact h1
def norm (xs:List Int):List Int:=Ch (Dd xs)
theorem Qs (xs:List Int):(Dd xs).Pairwise (·≤·):=by
  have:=List.pairwise_mergeSort (le:=fun x y:Int=>decide (x≤y)) (fun a b c h1 h2=>by simp at *;omega) (fun a b=>by simp;omega) xs
  exact this.imp (fun h=>by simpa using h)
theorem M6 (xs:List Int) (a:Int):a∈Dd xs↔a∈xs:=(List.mergeSort_perm xs _).mem_iff
theorem Fs {zs:List Int} {j:Nat} (h:j<zs.length):zs.toArray[j]! =zs[j]:=by simp[h]
theorem Xe {zs:List Int} (a:Int):a∈Ch zs↔a∈zs:=by
  unfold Ch Lib.compact Lib.compactUpTo
  rw[List.mem_map]
  constructor
  ·rintro⟨j,hj,rfl⟩
   have h1:=List.mem_range.1 (List.mem_filter.1 hj).1
   rw[Fs h1];exact List.getElem_mem h1
  ·intro ha
   obtain⟨i,hi,rfl⟩:=List.getElem_of_mem ha
   induction i with
   | zero=>exact ⟨0,List.mem_filter.2 ⟨List.mem_range.2 hi,by simp[Lib.keeps]⟩,Fs hi⟩
   | succ i ih=>
     by_cases e:zs[i+1]=zs[i]
     ·rw[e];exact ih (by omega) (List.getElem_mem _)
     ·refine⟨i+1,List.mem_filter.2 ⟨List.mem_range.2 hi,?_⟩,Fs hi⟩
      unfold Lib.keeps
      rw[Fs hi,Nat.add_sub_cancel,Fs (show i<zs.length by omega)]
      exact Ai9 (.inr e)
theorem Xf {zs:List Int} (h:zs.Pairwise (·≤·)):Inc (Ch zs):=by
  unfold Ch Lib.compact Lib.compactUpTo Inc
  rw[List.pairwise_map]
  refine(List.pairwise_lt_range.filter _).imp_of_mem (fun {i j} hi hj hlt=>?_)
  obtain⟨hj1,hj2⟩:=List.mem_filter.1 hj
  have hj1:=List.mem_range.1 hj1
  rw[Fs (show i<zs.length by omega),Fs hj1]
  unfold Lib.keeps at hj2
  have hne:=Ai8 hj2
  rw[Fs hj1,Fs (show j - 1<zs.length by omega)]at hne
  rw[List.pairwise_iff_getElem]at h
  have h1:=h (j - 1) j (by omega) hj1 (by omega)
  rcases Nat.lt_or_ge i (j - 1)with hh | hh
  ·have:=h i (j - 1) (by omega) (by omega) hh;omega
  ·have e:i=j - 1:=by omega
   subst e;omega
theorem Ul (xs:List Int):Inc (norm xs):=Xf (Qs xs)
theorem Rx (xs:List Int) (a:Int):a∈norm xs↔a∈xs:=by unfold norm;rw[Xe,M6]
theorem gather {step:Nat→Bd→List Int→Option (Out (List Int) (List Int))} {l:List Bd} (f:Bd→List Int) (p:Bd→Bool) (hl:l.length≤50) (hf:∀ x∈l,(f x).length≤100)
    (hs:∀ k x s,x∈l→step k x s=bif p x then chk (s.length+(f x).length) (some (Out.next (s++f x)))else some (Out.next s)) :
    ((Al step 0 l []).bind fun o2=>o2.on fun s2=>chk s2.length (chk s2.length (some (Ch (Dd s2)))))=some (norm ((l.filter p).flatMap f)):=by
  obtain⟨s',h1,h2,h3⟩:=Dp (step:=step) (l:=l) (s:=[]) (fun k s=>s=((l.take k).filter p).flatMap f∧s.length≤100*k) ⟨by simp,by simp⟩ (fun k x s hk ⟨hI,hn⟩=>by
    have hlt:=(List.getElem?_eq_some_iff.1 hk).1
    have hx:=Ajc hk
    have:=hf x hx
    rw[hs k x s hx]
    cases hp:p x with
    | true=>
      rw[cond_true,Ce (by omega)]
      refine⟨_,rfl,?_,by rw[List.length_append];omega⟩
      rw[List.take_add_one,hk,hI];simp[hp]
    | false=>
      rw[cond_false]
      refine⟨_,rfl,?_,by omega⟩
      rw[List.take_add_one,hk,hI];simp[hp])
  rw[h1]
  show chk s'.length (chk s'.length _)=_
  rw[Ce (by omega),Ce (by omega),h2,List.take_length];rfl
theorem vD {l:List Bd} {levels:List Int} (hs:Small l) (hr:∀ x∈l,InR x) (hl:levels.length≤9223372036854775807):Gi l levels=some (norm ((l.filter fun x=>decide (Yv x levels)).flatMap Bd.Zones)):=
  gather Bd.Zones (fun x=>decide (Yv x levels)) hs.1 (fun x hx=>(hs.2 x hx).1) (fun k x s hx=>by
    unfold It;rw[mJ (hr x hx) hl,Option.bind_some])
theorem vN (a b:List Int) (x y:Int):((a++y::x::b).set (a.length+1) y).set a.length x=a++x::y::b:=by
  simp[List.set_append]
theorem wR {at_:Nat} {out:List Int} {x:Int} (hat:at_≤out.length) (hlen:out.length≤100000000) :
    ∃ a b,Km out x (at_:Int)=some (.next (a++x::b))∧a++b=out∧a.length=at_:=by
  unfold Km
  rw[Ce (by omega),wrap_small (by omega) (by omega)]
  obtain⟨r,h1,a,b,h2,h3,h4⟩:=Gz (step:=Rh (at_:Int)) (fun s=>∃ a b:List Int,s=((a.length:Int),a++x::b)∧a++b=out∧at_≤a.length)
    (fun r=>∃ a b,r= .next (a++x::b)∧a++b=out∧a.length=at_) (fun s=>s.1.toNat) (fun s hI=>by
      obtain⟨a,b,rfl,hab,ha⟩:=hI
      unfold Rh
      show(∃ s',(bif decide ((at_:Int)<((a.length:Nat):Int))then _ else _)=_∧_)∨_
      by_cases hlt:at_<a.length
      ·rw[Ai9 (by omega),cond_true]
       rcases List.eq_nil_or_concat a with e | ⟨a',y,e⟩
       ·subst e;simp at hlt
       ·rw[List.concat_eq_append]at e
        subst e
        have hl':(a'++[y]).length=a'.length+1:=by simp
        rw[hl']at hlt ha
        have hle:a'.length+1≤out.length:=by rw[← hab];simp
        have e1:a'++[y]++x::b=a'++y::x::b:=by simp
        have g1:(a'++y::x::b)[a'.length]? =some y:=by simp
        have g2:(a'++y::x::b)[a'.length+1]? =some x:=by simp
        have g3:((a'++y::x::b).set (a'.length+1) y)[a'.length]? =some y:=by rw[List.getElem?_set_ne (by omega)];exact g1
        simp only[hl',e1,Q1 (show 0<a'.length+1 by omega) (by omega),Nat.add_sub_cancel,A2 g1,A2 g2,Option.bind_some,Int.toNat_natCast,A2 g3,vN]
        exact .inl ⟨_,rfl,⟨a',y::b,rfl,by rw[← hab];simp,by omega⟩,by omega⟩
      ·rw[Aja (by omega),cond_false]
       exact .inr ⟨_,rfl,a,b,rfl,hab,by omega⟩) fuel ((out.length:Int),out++[x]) ⟨out,[],rfl,by simp,hat⟩ (by show out.length<fuel;unfold fuel;omega)
  refine⟨a,b,?_,h3,h4⟩
  rw[show((((out.length+1:Nat):Int)) - 1)=(out.length:Int) by omega,h1,h2];rfl
theorem uC (k:Nat) (x:Int) {out:List Int} (hi:Inc out) (hlen:out.length≤100000000) :
    ∃ out',Hl k x out=some (.next out')∧Inc out'∧(∀ a,a∈out'↔a∈out∨a=x)∧out'.length≤out.length+1:=by
  unfold Hl
  obtain⟨r,h1,out',h2,h3⟩:=Gz (step:=Rg out x) (fun(s:Int)=>∃ n:Nat,s=(n:Int)∧n≤out.length∧∀ i y,i<n→out[i]? =some y→y<x)
    (fun r=>∃ out',r= .next out'∧Inc out'∧(∀ a,a∈out'↔a∈out∨a=x)∧out'.length≤out.length+1) (fun s=>out.length - s.toNat) (fun s hI=>by
      obtain⟨n,rfl,hn,hI⟩:=hI
      have hins:(∀ y,out[n]? =some y→x<y)→∃ out',Km out x (n:Int)=some (.next out')∧Inc out'∧(∀ a,a∈out'↔a∈out∨a=x)∧out'.length≤out.length+1:=fun hgt=>by
        obtain⟨a,b,g1,g2,g3⟩:=wR (x:=x) hn hlen
        refine⟨_,g1,?_,fun c=>?_,by rw[← g2];simp;omega⟩
        ·subst g2
         unfold Inc at hi ⊢
         obtain⟨p1,p2,p3⟩:=List.pairwise_append.1 hi
         have hb:∀ y∈b,x<y:=fun y hy=>by
           cases b with
           | nil=>cases hy
           | cons z b'=>
             have hz:x<z:=hgt z (by rw[← g3];simp)
             rcases List.mem_cons.1 hy with e | hy
             ·subst e;exact hz
             ·have:=(List.pairwise_cons.1 p2).1 y hy;omega
         have ha:∀ y∈a,y<x:=fun y hy=>by
           obtain⟨i,hi',rfl⟩:=List.getElem_of_mem hy
           exact hI i _ (by omega) (by rw[List.getElem?_append_left hi'];exact Ajb hi')
         refine List.pairwise_append.2 ⟨p1,List.pairwise_cons.2 ⟨hb,p2⟩,fun y hy z hz=>?_⟩
         rcases List.mem_cons.1 hz with e | hz
         ·subst e;exact ha y hy
         ·exact p3 y hy z hz
        ·subst g2;simp only[List.mem_append,List.mem_cons]
         constructor
         ·rintro(h | h | h)
          ·exact .inl (.inl h)
          ·exact .inr h
          ·exact .inl (.inr h)
         ·rintro((h | h) | h)
          ·exact .inl h
          ·exact .inr (.inr h)
          ·exact .inr (.inl h)
      unfold Rg
      by_cases hlt:n<out.length
      ·rw[Ai9 (by omega),cond_true,X8 hlt,Option.bind_some]
       have hg:out[n]? =some out[n]:=Ajb hlt
       by_cases hx:out[n]< x
       ·rw[Ai9 hx,cond_true,Q2 (by omega)]
        refine .inl ⟨_,rfl,⟨n+1,rfl,by omega,fun i y hi' hy=>?_⟩,by omega⟩
        by_cases e:i=n
        ·subst e;rw[hg]at hy;obtain rfl:=Option.some.inj hy;exact hx
        ·exact hI i y (by omega) hy
       ·rw[Aja hx,cond_false]
        unfold N0
        rw[Ai9 (by omega),cond_true,X8 hlt,Option.bind_some]
        by_cases e:out[n]=x
        ·rw[Ai9 e,cond_true]
         refine .inr ⟨_,rfl,out,rfl,hi,fun a=>⟨.inl,fun h=>?_⟩,by omega⟩
         rcases h with h | h
         ·exact h
         ·rw[h,← e];exact List.getElem_mem hlt
        ·rw[Aja e,cond_false]
         obtain⟨out',g1,g2⟩:=hins (fun y hy=>by rw[hg]at hy;obtain rfl:=Option.some.inj hy;omega)
         rw[g1]
         exact .inr ⟨_,rfl,out',rfl,g2⟩
      ·rw[Aja (by omega),cond_false,cond_false]
       unfold N0
       rw[Aja (by omega),cond_false]
       obtain⟨out',g1,g2⟩:=hins (fun y hy=>by rw[List.getElem?_eq_none (by omega)]at hy;cases hy)
       rw[g1]
       exact .inr ⟨_,rfl,out',rfl,g2⟩) fuel 0 ⟨0,rfl,by omega,fun i y h=>by omega⟩ (by show out.length - 0<fuel;unfold fuel;omega)
  exact⟨out',by rw[h1,h2];rfl,h3⟩
theorem uD (zs:List Int) {out:List Int} (hi:Inc out) (hlen:out.length+zs.length≤100000000) :
    ∃ out',Al Hl 0 zs out=some (.next out')∧Inc out'∧(∀ a,a∈out'↔a∈out∨a∈zs)∧out'.length≤out.length+zs.length:=by
  obtain⟨s',h1,h2,h3,h4⟩:=Dp (step:=Hl) (l:=zs) (s:=out) (fun k s=>Inc s∧(∀ a,a∈s↔a∈out∨a∈zs.take k)∧s.length≤out.length+k) ⟨hi,by simp,by omega⟩ (fun k x s hk ⟨hI1,hI2,hI3⟩=>by
    have hlt:=(List.getElem?_eq_some_iff.1 hk).1
    obtain⟨out',g1,g2,g3,g4⟩:=uC k x hI1 (by omega)
    refine⟨out',g1,g2,fun a=>?_,by omega⟩
    rw[g3,hI2,List.take_add_one,hk]
    simp[or_assoc])
  rw[List.take_length]at h3
  exact⟨s',h1,h2,h3,h4⟩
theorem refgather {step:Nat→Bd→List Int→Option (Out (List Int) (List Int))} {l:List Bd} (f:Bd→List Int) (p:Bd→Bool) (hl:l.length≤50) (hf:∀ x∈l,(f x).length≤100)
    (hs:∀ k x s,x∈l→step k x s=bif p x then(Al Hl 0 (f x) s).bind fun o7=>o7.on fun s7=>some (Out.next s7)else some (Out.next s)) :
    ((Al step 0 l []).bind fun o2=>o2.on fun s2=>some s2)=some (norm ((l.filter p).flatMap f)):=by
  obtain⟨s',h1,h2,h3,h4⟩:=Dp (step:=step) (l:=l) (s:=[]) (fun k s=>Inc s∧(∀ a,a∈s↔a∈((l.take k).filter p).flatMap f)∧s.length≤100*k) ⟨List.Pairwise.nil,by simp,by simp⟩ (fun k x s hk ⟨hI1,hI2,hI3⟩=>by
    have hlt:=(List.getElem?_eq_some_iff.1 hk).1
    have hx:=Ajc hk
    have:=hf x hx
    rw[hs k x s hx]
    cases hp:p x with
    | true=>
      rw[cond_true]
      obtain⟨out',g1,g2,g3,g4⟩:=uD (f x) hI1 (by omega)
      refine⟨out',by rw[g1];rfl,g2,fun a=>?_,by omega⟩
      rw[g3,hI2,List.take_add_one,hk];simp[hp]
    | false=>
      rw[cond_false]
      refine⟨_,rfl,hI1,fun a=>?_,by omega⟩
      rw[hI2,List.take_add_one,hk];simp[hp])
  rw[List.take_length]at h3
  rw[h1]
  show some s'=_
  rw[Pg h2 (Ul _) (fun a=>by rw[h3,Rx])]
theorem m7 {l:List Bd} {levels:List Int} (hs:Small l) (hr:bG l) (hl:levels.length≤9223372036854775807):Wp l levels=some (norm ((l.filter fun x=>decide (Yv x levels)).flatMap Bd.Zones)):=
  refgather Bd.Zones (fun x=>decide (Yv x levels)) hs.1 (fun x hx=>(hs.2 x hx).1) (fun k x s hx=>by
    unfold Wo;rw[fR (hr.at hx).1 hl (fun z hz=>((hr.at hx).2.2.1.1 z hz).1),Option.bind_some])
end Go.Proofs.YtjopghiagoidgaaGreat.S50
namespace Go.Proofs.YtjopghiagoidgaaGreat
open Go Go.Ab
set_option linter.unusedSimpArgs false
set_option linter.unusedVariables false
def Ag {α:Type} (a b:Option α):Prop:=∃ r,a=some r∧b=some r
theorem Ag.some {α:Type} (x:α):Ag (some x) (some x):=⟨x,rfl,rfl⟩
theorem Ag.refl {α:Type} {a:Option α} (h:∃ x,a=Option.some x):Ag a a:=by obtain⟨x,h⟩:=h;exact⟨x,h,h⟩
theorem Ag.symm {α:Type} {a b:Option α} (h:Ag a b):Ag b a:=by obtain⟨x,h,k⟩:=h;exact⟨x,k,h⟩
theorem Ag.trans {α:Type} {a b c:Option α} (h:Ag a b) (k:Ag b c):Ag a c:=by
  obtain⟨x,h1,h2⟩:=h;obtain⟨y,k1,k2⟩:=k
  rw[h2]at k1;obtain rfl:=Option.some.inj k1
  exact⟨x,h1,k2⟩
theorem Ag.eq {α:Type} {a b:Option α} (h:Ag a b):a=b:=by obtain⟨x,h1,h2⟩:=h;rw[h1,h2]
theorem Ag.of {α:Type} {a b:Option α} (h:∃ x,a=Option.some x) (e:a=b):Ag a b:=by obtain⟨x,h⟩:=h;exact⟨x,h,by rw[← e];exact h⟩
theorem Ag.bind {α β:Type} {a b:Option α} {f g:α→Option β} (h:Ag a b) (k:∀ x,a=Option.some x→b=Option.some x→Ag (f x) (g x)):Ag (a.bind f) (b.bind g):=by
  obtain⟨x,h1,h2⟩:=h
  have:=k x h1 h2
  rw[h1,h2];exact this
theorem Ag.bif {α:Type} {c d:Bool} {a b a' b':Option α} (hc:c=d) (h:c=true→Ag a b) (k:c=false→Ag a' b'):Ag (bif c then a else a') (bif d then b else b'):=by
  subst hc
  cases c with
  | true=>exact h rfl
  | false=>exact k rfl
theorem kM {α σ ρ:Type} {step:Nat→α→σ→Option (Out σ ρ)}:∀ {l:List α} {k:Nat},(∀ i x s,l[i]? =Option.some x→∃ o,step (k+i) x s=Option.some o)→∀ s,∃ o,Al step k l s=Option.some o
  | [],k,_,s=>⟨_,rfl⟩
  | x::l,k,h,s=>by
    obtain⟨o,ho⟩:=h 0 x s rfl
    rw[Nat.add_zero]at ho
    rw[Al,ho]
    cases o with
    | ret r=>exact ⟨_,rfl⟩
    | next s'=>exact kM (fun i y s hy=>by have:=h (i+1) y s (by simpa using hy);rwa [show k+(i+1)=k+1+i by omega]at this) s'
theorem Ag.w7 {α σ ρ:Type} {step step':Nat→α→σ→Option (Out σ ρ)}:∀ {l:List α} {k:Nat},(∀ i x s,l[i]? =Option.some x→Ag (step (k+i) x s) (step' (k+i) x s))→∀ s,Ag (Al step k l s) (Al step' k l s)
  | [],k,_,s=>⟨_,rfl,rfl⟩
  | x::l,k,h,s=>by
    obtain⟨o,ho,ho'⟩:=h 0 x s rfl
    rw[Nat.add_zero]at ho ho'
    rw[Al,Al,ho,ho']
    cases o with
    | ret r=>exact ⟨_,rfl,rfl⟩
    | next s'=>exact Ag.w7 (fun i y s hy=>by have:=h (i+1) y s (by simpa using hy);rwa [show k+(i+1)=k+1+i by omega]at this) s'
theorem Ag.Al {α σ ρ:Type} {step step':Nat→α→σ→Option (Out σ ρ)} {l:List α} {s:σ} (h:∀ i x s,l[i]? =Option.some x→Ag (step i x s) (step' i x s)):Ag (Al step 0 l s) (Al step' 0 l s):=
  Ag.w7 (fun i x s hx=>by rw[Nat.zero_add];exact h i x s hx) s
theorem Ag.on {σ ρ:Type} {o:Out σ ρ} {f g:σ→Option ρ} (h:∀ s,o= .next s→Ag (f s) (g s)):Ag (o.on f) (o.on g):=by
  cases o with
  | ret r=>exact ⟨_,rfl,rfl⟩
  | next s=>exact h s rfl
theorem cW {α:Type} {l:List α} {k:Nat} (hk:k<l.length) (h0:0<k) (hl:l.length≤9223372036854775807):∃ x,Dk l (IntKind.i64.wrap ((k:Int) - 1))=Option.some x∧l[k - 1]? =Option.some x:=by
  have hx:l[k - 1]? =Option.some (l[k - 1]'(by omega)):=Ajb (by omega)
  exact⟨_,Qx (Q1 h0 (by omega)) hx,hx⟩
def Tot {α:Type} (a:Option α):Prop:=∃ r,a=Option.some r
theorem Tot.some {α:Type} (x:α):Tot (Option.some x):=⟨x,rfl⟩
theorem Tot.bif {α:Type} {c:Bool} {a b:Option α} (h:c=true→Tot a) (k:c=false→Tot b):Tot (bif c then a else b):=by
  cases c with
  | true=>exact h rfl
  | false=>exact k rfl
theorem Tot.bind {α β:Type} {a:Option α} {f:α→Option β} (h:Tot a) (k:∀ x,a=Option.some x→Tot (f x)):Tot (a.bind f):=by
  obtain⟨x,h⟩:=h
  have:=k x h
  rw[h];exact this
theorem Tot.on {σ ρ:Type} {o:Out σ ρ} {f:σ→Option ρ} (h:∀ s,Tot (f s)):Tot (o.on f):=by
  cases o with
  | ret r=>exact ⟨_,rfl⟩
  | next s=>exact h s
theorem Tot.Al {α σ ρ:Type} {step:Nat→α→σ→Option (Out σ ρ)} {l:List α} {s:σ} (h:∀ i x s,l[i]? =Option.some x→Tot (step i x s)):Tot (Al step 0 l s):=
  kM (fun i x s hx=>by rw[Nat.zero_add];exact h i x s hx) s
theorem Tot.pred {α β:Type} {l:List α} {k:Nat} {f:α→Option β} (hk:k<l.length) (h0:decide ((0:Int)<((k:Nat):Int))=true) (hl:l.length≤9223372036854775807) (h:∀ y,Tot (f y)):Tot ((Dk l (IntKind.i64.wrap (((k:Nat):Int) - (1:Int)))).bind f):=by
  obtain⟨x,h1,_⟩:=cW hk (by have:=Ai8 h0;omega) hl
  rw[h1];exact h x
theorem Ag.nH {α:Type} {a b:Option α} (h:Tot a) (e:a=b):Ag a b:=Ag.of h e
def Dh {σ ρ:Type} (P:ρ→Prop) (o:Option (Out σ ρ)):Prop:=∀ r,o=Option.some (.ret r)→P r
theorem Dh.next {σ ρ:Type} {P:ρ→Prop} (s:σ):Dh P (Option.some (Out.next s)):=by intro r h;cases h
theorem Dh.ret {σ ρ:Type} {P:ρ→Prop} {r:ρ} (h:P r):Dh (σ:=σ) P (Option.some (Out.ret r)):=by intro r' h';cases h';exact h
theorem Dh.bif {σ ρ:Type} {P:ρ→Prop} {c:Bool} {a b:Option (Out σ ρ)} (h:c=true→Dh P a) (k:c=false→Dh P b):Dh P (bif c then a else b):=by
  cases c with
  | true=>exact h rfl
  | false=>exact k rfl
theorem Dh.bind {α σ ρ:Type} {P:ρ→Prop} {a:Option α} {f:α→Option (Out σ ρ)} (h:∀ x,a=Option.some x→Dh P (f x)):Dh P (a.bind f):=by
  intro r hr
  obtain⟨x,h1,h2⟩:=Af hr
  exact h x h1 r h2
theorem Dh.okB {σ ρ:Type} {P:ρ→Prop} {c:Bool} {o:Option (Out σ ρ)} (h:Dh P o):Dh P (okB c o):=by
  cases c with
  | true=>exact h
  | false=>intro r h';cases h'
theorem Dh.Al {α σ ρ:Type} {P:ρ→Prop} {step:Nat→α→σ→Option (Out σ ρ)} (h:∀ i x s,Dh P (step i x s)):∀ {l:List α} {k:Nat} {s:σ},Dh P (Al step k l s)
  | [],k,s=>Dh.next _
  | x::l,k,s=>by
    intro r hr
    rw[Go.Ab.Al]at hr
    obtain⟨o,h1,h2⟩:=Af hr
    cases o with
    | ret q=>exact h k x s r (by rw[h1];exact h2 ▸ rfl)
    | next s'=>exact Dh.Al h r h2
theorem pX {σ:Type} {o:Option (Out σ Int)} {rest:Option Int} (h:Dh (·≠0) o):((o.bind fun x=>x.on fun _=>Option.some (0:Int)).bind fun y=>bif decide (y≠(0:Int))then Option.some y else rest)=o.bind fun x=>x.on fun _=>rest:=by
  cases o with
  | none=>rfl
  | some x=>
    cases x with
    | next s=>rfl
    | ret r=>
      have:=h r rfl
      show(bif decide (r≠0)then Option.some r else rest)=Option.some r
      rw[Ai9 this];rfl
theorem l8 {α:Type} {n lo hi:Int} {a b:α}:(bif decide (n<lo)then a else(bif decide (hi<n)then a else b))=(bif !decide (lo≤n∧n≤hi)then a else b):=by
  by_cases h1:n<lo
  ·rw[Ai9 h1,Aja (p:=lo≤n∧n≤hi) (by omega)];rfl
  ·by_cases h2:hi<n
   ·rw[Aja h1,Ai9 h2,Aja (by omega)];rfl
   ·rw[Aja h1,Aja h2,Ai9 (by omega)];rfl
theorem bf {p q:Prop} [Decidable p] [Decidable q]:(bif decide p then Option.some false else Option.some (decide q))=Option.some (decide (¬p∧q)):=by
  by_cases h1:p<;>by_cases h2:q<;>simp[h1,h2]
theorem bt {p q:Prop} [Decidable p] [Decidable q]:(bif decide p then Option.some (decide q)else Option.some false)=Option.some (decide (p∧q)):=by
  by_cases h1:p<;>by_cases h2:q<;>simp[h1,h2]
theorem ba {α:Type} {p q:Prop} [Decidable p] [Decidable q] {a b:α}:(bif !decide p then a else(bif !decide q then a else b))=(bif !decide (p∧q)then a else b):=by
  by_cases h1:p<;>by_cases h2:q<;>simp[h1,h2]
theorem sN {α:Type} {x y:Int} {a b:α}:(bif decide (x<y)then a else b)=(bif !decide (y≤x)then a else b):=by
  by_cases h:x<y
  ·rw[Ai9 h,Aja (by omega)];rfl
  ·rw[Aja h,Ai9 (by omega)];rfl
theorem y0 {α:Type} {x y:Int} {a b:α}:(bif decide (x≤y)then a else b)=(bif !decide (y<x)then a else b):=by
  by_cases h:x≤y
  ·rw[Ai9 h,Aja (by omega)];rfl
  ·rw[Aja h,Ai9 (by omega)];rfl
theorem in2 {lo n hi:Int}:(bif (decide (lo≤n))then Option.some (decide (n≤hi))else Option.some false)=Option.some (decide (lo≤n∧n≤hi)):=bt
theorem kL {α σ τ ρ:Type} {step:Nat→α→σ→Option (Out σ ρ)} {step':Nat→α→τ→Option (Out τ ρ)} (l:List α) (R:Nat→σ→τ→Prop)
    (hs:∀ i x s t,l[i]? =Option.some x→R i s t→(∃ s' t',step i x s=Option.some (.next s')∧step' i x t=Option.some (.next t')∧R (i+1) s' t')∨(∃ r,step i x s=Option.some (.ret r)∧step' i x t=Option.some (.ret r))) :
    ∀ (n k:Nat) (s:σ) (t:τ),l.length - k=n→k≤l.length→R k s t→(∃ s' t',Al step k (l.drop k) s=Option.some (.next s')∧Al step' k (l.drop k) t=Option.some (.next t')∧R l.length s' t')∨(∃ r,Al step k (l.drop k) s=Option.some (.ret r)∧Al step' k (l.drop k) t=Option.some (.ret r))
  | 0,k,s,t,hn,hk,hR=>by
    have:k=l.length:=by omega
    subst this
    rw[List.drop_length]
    exact .inl ⟨s,t,rfl,rfl,hR⟩
  | n+1,k,s,t,hn,hk,hR=>by
    have hlt:k<l.length:=by omega
    rw[List.drop_eq_getElem_cons hlt]
    rcases hs k _ s t (Ajb hlt) hR with⟨s',t',h1,h2,h3⟩ | ⟨r,h1,h2⟩
    ·rcases kL l R hs n (k+1) s' t' (by omega) hlt h3 with⟨s2,t2,h4,h5,h6⟩ | ⟨r,h4,h5⟩
     ·exact .inl ⟨s2,t2,by rw[Go.Ab.Al,h1];exact h4,by rw[Go.Ab.Al,h2];exact h5,h6⟩
     ·exact .inr ⟨r,by rw[Go.Ab.Al,h1];exact h4,by rw[Go.Ab.Al,h2];exact h5⟩
    ·exact .inr ⟨r,by rw[Go.Ab.Al,h1];rfl,by rw[Go.Ab.Al,h2];rfl⟩
theorem qT (c:Bk):Q5 c=some (decide (1≤c.Kind∧c.Kind≤3∧1≤c.Target∧c.Target≤9999∧1≤c.By∧c.By≤6∧0≤c.Since∧c.Since≤20000000)):=by
  unfold Q5;simp only[bt]
theorem xF (l:List Bk) (a b c:Int):Oi l ⟨a,b,c⟩=Fw l a b c:=by
  have:Jf ⟨a,b,c⟩=E6 a b c:=by
    funext k x s
    unfold Jf E6 Jm
    rw[Option.bind_some]
    dsimp only
    cases decide (x.Kind=a)<;>cases decide (x.Target=b)<;>cases decide (x.By=c)<;>rfl
  unfold Oi Fw;rw[this]
theorem tO (l:List Bk) (a b c:Int):Tot (Fw l a b c):=by
  unfold Fw
  refine Tot.bind (Tot.Al fun i x s _=>?_) fun o _=>Tot.on fun _=>Tot.some _
  unfold E6
  repeat' first | exact Tot.some _ | refine Tot.bif (fun _=>?_) (fun _=>?_)
theorem rC (l:List Bk) (hl:l.length≤1000):Ag (Me l) (Ia l):=by
  unfold Me Ia
  refine Ag.bif rfl (fun _=>Ag.some _) fun _=>?_
  refine Ag.bind (Ag.Al fun i x s hx=>?_) fun o _ _=>Ag.on fun _ _=>Ag.some _
  have hi:=(List.getElem?_eq_some_iff.1 hx).1
  unfold Lp Hj
  refine Ag.bind (a:=Mq x) (b:=Q5 x) ⟨_,qT x,qT x⟩ fun y _ _=>?_
  refine Ag.bif rfl (fun _=>Ag.some _) fun _=>?_
  rw[M1 (by omega),M1 (by omega)]
  unfold Jm
  rw[Option.bind_some,xF]
  exact Ag.bind (Ag.refl (tO _ _ _ _)) fun y _ _=>Ag.bif rfl (fun _=>Ag.some _) fun _=>Ag.some _
theorem nX (l:List Int) (n:Int):Uh l n=some (decide (n∈l)):=W3 fun k x hx=>rfl
theorem fE (n lo hi:Int):Pt n lo hi=some (decide (lo≤n∧n≤hi)):=by unfold Pt;exact in2
theorem qW (l:Bq) (h1:l.Items.length≤9223372036854775807) (h2:l.Signs.length≤9223372036854775807):Ag (Jl l) (Gk l):=by
  unfold Jl Gk
  refine Ag.bif rfl (fun _=>Ag.some _) fun hl1=>?_
  refine Ag.bif rfl (fun _=>Ag.some _) fun hl2=>?_
  have hl1:=Ai7 hl1
  have hl2:=Ai7 hl2
  rw[l8,fE,Option.bind_some]
  refine Ag.bif rfl (fun _=>Ag.some _) fun _=>?_
  refine Ag.bind (Ag.Al fun i x s hx=>?_) fun o _ _=>Ag.on fun _ _=>?_
  ·have hi:=(List.getElem?_eq_some_iff.1 hx).1
   unfold Ll N2
   rw[l8,fE,Option.bind_some]
   refine Ag.bif rfl (fun _=>Ag.some _) fun _=>?_
   rw[M1 (by omega),M1 (by omega)]
   simp only[contains_eq,nX,Option.bind_some]
   exact Ag.bif rfl (fun _=>Ag.some _) fun _=>Ag.some _
  ·unfold Lk N1
   refine Ag.bind (Ag.Al fun i x s hx=>?_) fun o _ _=>Ag.on fun _ _=>Ag.some _
   have hi:=(List.getElem?_eq_some_iff.1 hx).1
   unfold Lm N3
   simp only[contains_eq,nX,Option.bind_some]
   refine Ag.bif rfl (fun _=>Ag.some _) fun _=>?_
   rw[l8,fE,Option.bind_some]
   refine Ag.bif rfl (fun _=>Ag.some _) fun _=>?_
   rw[l8,fE,Option.bind_some]
   refine Ag.bif rfl (fun _=>Ag.some _) fun _=>?_
   refine Ag.bif rfl (fun h0=>?_) fun _=>Ag.some _
   refine Ag.refl ?_
   exact Tot.pred hi h0 (by omega) fun y=>Tot.bif (fun _=>Tot.some _) fun _=>Tot.some _
theorem nW {l:Bq} (h:Gk l=some 0):l.Items.length≤64∧l.Signs.length≤200:=by
  unfold Gk at h
  by_cases h1:((64:Int)<((l.Items.length:Nat):Int))
  ·rw[Ai9 h1]at h;cases h
  ·by_cases h2:((200:Int)<((l.Signs.length:Nat):Int))
   ·rw[Aja h1,Ai9 h2]at h;cases h
   ·omega
theorem lZ (l:List Cv) (n:Int):Mb l n=some (match l.findIdx? (fun x=>decide (x.ID=n))with | some k=>(k:Int) | none=> -1):=by
  unfold Mb
  have key:∀ (l:List Cv) (k:Nat),Al (Fz n) k l ()=match l.findIdx? (fun x=>decide (x.ID=n))with | some j=>some (.ret ((j+k:Nat):Int)) | none=>some (.next ()):=by
    intro l
    induction l with
    | nil=>intro k;rfl
    | cons x l ih=>
      intro k
      rw[Al,List.findIdx?_cons]
      unfold Fz
      cases hx:decide (x.ID=n)with
      | true=>simp[Out.cont]
      | false=>
        rw[cond_false,Option.bind_some]
        show Al (Fz n) (k+1) l ()=_
        rw[ih (k+1)]
        cases l.findIdx? (fun x=>decide (x.ID=n))with
        | none=>rfl
        | some j=>simp;omega
  rw[key l 0]
  cases l.findIdx? (fun x=>decide (x.ID=n))with
  | none=>rfl
  | some j=>rfl
theorem tP (p:Ca) (h1:p.Bt.length≤1000) (h2:p.Hazards.length≤1000) (h3:∀ x∈p.Bt,x.List_.Items.length≤9223372036854775807∧x.List_.Signs.length≤9223372036854775807):Ag (N6 p) (H9 p):=by
  unfold N6 H9
  refine Ag.bif rfl (fun _=>Ag.some _) fun _=>?_
  refine Ag.bif rfl (fun _=>Ag.some _) fun _=>?_
  refine Ag.bind (Ag.Al fun i x s hx=>?_) fun o _ _=>Ag.on fun _ _=>?_
  ·have hi:=(List.getElem?_eq_some_iff.1 hx).1
   have hI:=qW x.List_ (h3 x (Ajc hx)).1 (h3 x (Ajc hx)).2
   unfold Mn Hi
   refine Ag.bif rfl (fun _=>Ag.some _) fun _=>?_
   refine Ag.bif rfl (fun _=>Ag.some _) fun _=>?_
   refine Ag.bif rfl (fun h0=>?_) fun _=>?_
   ·obtain⟨y,hy,_⟩:=cW hi (by have:=Ai8 h0;omega) (by omega)
    refine Ag.bind ⟨y,hy,hy⟩ fun y _ _=>?_
    refine Ag.bif rfl (fun _=>Ag.some _) fun _=>?_
    exact Ag.bind hI fun z _ _=>Ag.bif rfl (fun _=>Ag.some _) fun _=>Ag.some _
   ·exact Ag.bind hI fun z _ _=>Ag.bif rfl (fun _=>Ag.some _) fun _=>Ag.some _
  ·unfold Mm Nv
   refine Ag.bind (Ag.Al fun i x s hx=>?_) fun o _ _=>Ag.on fun _ _=>Ag.some _
   have hi:=(List.getElem?_eq_some_iff.1 hx).1
   have hat:Tot (Nu p x.Run):=by
     unfold Nu
     refine Tot.bind (Tot.Al fun i x s _=>?_) fun o _=>Tot.on fun _=>Tot.some _
     unfold M8
     exact Tot.bif (fun _=>Tot.some _) fun _=>Tot.some _
   unfold Mo Nw
   refine Ag.bif rfl (fun _=>Ag.some _) fun _=>?_
   refine Ag.bif rfl (fun _=>Ag.some _) fun _=>?_
   refine Ag.bif rfl (fun _=>Ag.some _) fun _=>?_
   refine Ag.bif rfl (fun _=>Ag.some _) fun _=>?_
   rw[M1 (by omega),lZ,Option.bind_some]
   have hat2:Ag ((Ku p x.Run).bind fun y5=>(bif (decide (y5<(0:Int)))then some (Out.ret (8:Int))else some (Out.next ()))) ((Nu p x.Run).bind fun y6=>(bif (decide (y6<(0:Int)))then some (Out.ret (8:Int))else some (Out.next ()))):=
     Ag.bind (a:=Ku p x.Run) (b:=Nu p x.Run) (Ag.refl hat) fun z _ _=>Ag.bif rfl (fun _=>Ag.some _) fun _=>Ag.some _
   rcases W9 (step:=Kl p x) (n:=i) (s:=()) (by omega) (fun j _=>∀ y∈p.Hazards.take j,y.ID≠x.ID) (fun r=>r= .ret 7∧∃ y∈p.Hazards.take i,y.ID=x.ID) (by simp) (fun j s hj hI=>by
       have hy:p.Hazards[j]? =some (p.Hazards[j]'(by omega)):=Ajb (by omega)
       generalize (p.Hazards[j]'(by omega))=y at hy
       unfold Kl
       rw[Qx rfl hy,Option.bind_some]
       by_cases e:y.ID=x.ID
       ·rw[Ai9 e]
        exact .inr ⟨_,rfl,rfl,y,Ajc (by rw[List.getElem?_take,if_pos hj];exact hy),e⟩
       ·rw[Aja e]
        refine .inl ⟨_,rfl,fun z hz=>?_⟩
        rw[Bx hy,List.mem_append,List.mem_singleton]at hz
        rcases hz with hz | rfl
        ·exact hI z hz
        ·exact e)with ⟨s',e1,e2⟩ | ⟨r,e1,rfl,e2⟩
   ·have e3:(p.Hazards.take i).findIdx? (fun y=>decide (y.ID=x.ID))=none:=by
      rw[List.findIdx?_eq_none_iff];intro y hy;simpa using e2 y hy
    rw[e1,e3]
    exact hat2
   ·rw[e1]
    cases e3:(p.Hazards.take i).findIdx? (fun y=>decide (y.ID=x.ID))with
    | none=>
      rw[List.findIdx?_eq_none_iff]at e3
      obtain⟨y,hy,e⟩:=e2
      have:=e3 y hy;simp[e]at this
    | some j=>
      show Ag (bif decide ((0:Int)≤((j:Nat):Int))then _ else _) _
      rw[Ai9 (Int.natCast_nonneg j)]
      exact Ag.some _
theorem pW (l:List Cy) (hl:l.length≤1000):Ag (L0 l) (Pq l):=by
  refine Ag.nH ?_ rfl
  unfold L0
  refine Tot.bif (fun _=>Tot.some _) fun _=>?_
  refine Tot.bind (Tot.Al fun i x s hx=>?_) fun o _=>Tot.on fun _=>Tot.some _
  have hi:=(List.getElem?_eq_some_iff.1 hx).1
  unfold La
  repeat' first | exact Tot.some _ | (refine Tot.pred hi ‹_› (by omega) fun y=>?_) | refine Tot.bif (fun h0=>?_) (fun _=>?_)
theorem mH (l:List Int) (hl:l.length≤9223372036854775807):Tot (Kn l):=by
  unfold Kn
  refine Tot.bind (Tot.Al fun i x s hx=>?_) fun o _=>Tot.on fun _=>Tot.some _
  have hi:=(List.getElem?_eq_some_iff.1 hx).1
  unfold Hn
  repeat' first | exact Tot.some _ | (refine Tot.pred hi ‹_› (by omega) fun y=>?_) | refine Tot.bif (fun h0=>?_) (fun _=>?_)
def pO (b:Bl):Prop:=1≤b.Version∧b.Version≤1000000∧0≤b.Span.From∧b.Span.From<b.Span.To∧b.Span.To≤20000000∧0≤b.Low∧b.Low<b.High∧b.High≤6000∧1≤b.Level∧b.Level≤5
instance (b:Bl):Decidable (pO b):=by unfold pO;infer_instance
theorem xH (b:Bl):Ht b=some (decide (pO b)):=by
  unfold Ht;simp only[bf,bt]
  congr 1
  rw[decide_eq_decide];unfold pO;omega
theorem jL (l:List Bl) (i:Nat) (x:Bl):Em l i x ()=E7 l i x ():=by
  unfold Em E7
  rw[xH,Option.bind_some]
  by_cases h:pO x
  ·obtain⟨h1,h2,h3,h4,h5,h6,h7,h8,h9,h10⟩:=id h
   rw[Ai9 h,Aja (p:=x.Version<1) (by omega),Aja (p:=(1000000:Int)<x.Version) (by omega),Aja (p:=x.Span.From<0) (by omega),Aja (p:=x.Span.To≤x.Span.From) (by omega),Aja (p:=(20000000:Int)<x.Span.To) (by omega),Aja (p:=x.Low<0) (by omega),Aja (p:=x.High≤x.Low) (by omega),Aja (p:=(6000:Int)<x.High) (by omega),Aja (p:=x.Level<1) (by omega),Aja (p:=(5:Int)<x.Level) (by omega)]
   rfl
  ·rw[Aja h]
   show some (Out.ret (2:Int))=_
   by_cases h1:x.Version<1
   ·rw[Ai9 h1];rfl
   rw[Aja h1]
   by_cases h2:(1000000:Int)<x.Version
   ·rw[Ai9 h2];rfl
   rw[Aja h2]
   by_cases h3:x.Span.From<0
   ·rw[Ai9 h3];rfl
   rw[Aja h3]
   by_cases h4:x.Span.To≤x.Span.From
   ·rw[Ai9 h4];rfl
   rw[Aja h4]
   by_cases h5:(20000000:Int)<x.Span.To
   ·rw[Ai9 h5];rfl
   rw[Aja h5]
   by_cases h6:x.Low<0
   ·rw[Ai9 h6];rfl
   rw[Aja h6]
   by_cases h7:x.High≤x.Low
   ·rw[Ai9 h7];rfl
   rw[Aja h7]
   by_cases h8:(6000:Int)<x.High
   ·rw[Ai9 h8];rfl
   rw[Aja h8]
   by_cases h9:x.Level<1
   ·rw[Ai9 h9];rfl
   rw[Aja h9]
   by_cases h10:(5:Int)<x.Level
   ·rw[Ai9 h10];rfl
   exact absurd ⟨by omega,by omega,by omega,by omega,by omega,by omega,by omega,by omega,by omega,by omega⟩ h
theorem oV (l:List Bl) (hl:l.length≤1000) (hz:∀ b∈l,b.Zones.length≤9223372036854775807):Ag (Hu l) (Ic l):=by
  refine Ag.nH ?_ ?_
  ·unfold Hu
   refine Tot.bif (fun _=>Tot.some _) fun _=>?_
   refine Tot.bind (Tot.Al fun i x s hx=>?_) fun o _=>Tot.on fun _=>Tot.some _
   have hi:=(List.getElem?_eq_some_iff.1 hx).1
   unfold Em
   rw[xH,Option.bind_some]
   refine Tot.bif (fun _=>Tot.some _) fun _=>?_
   refine Tot.bind (mH x.Zones (hz x (Ajc hx))) fun y _=>?_
   refine Tot.bif (fun _=>Tot.some _) fun _=>?_
   refine Tot.bif (fun h0=>?_) fun _=>Tot.some _
   exact Tot.pred hi h0 (by omega) fun y=>Tot.bif (fun _=>Tot.some _) fun _=>Tot.some _
  ·unfold Hu Ic
   have:Em l=E7 l:=by funext i x s;exact jL l i x
   rw[this]
theorem lY (n lo hi:Int):L7 n lo hi=some (decide (lo≤n∧n≤hi)):=by unfold L7;exact in2
theorem yJ (n lo hi:Int):Kq n lo hi=some (decide (lo≤n∧n≤hi)):=by unfold Kq;exact in2
def kZ (m:Bg):Prop:=1≤m.ID∧m.ID≤9999∧1≤m.Slide∧m.Slide≤9999∧1≤m.By∧m.By≤9999∧0≤m.State∧m.State≤6∧0≤m.Since∧m.Since≤20000000∧0≤m.Window.From∧m.Window.From<m.Window.To∧m.Window.To≤20000000
instance (m:Bg):Decidable (kZ m):=by unfold kZ;infer_instance
theorem zW (m:Bg):Mf m=some (decide (kZ m)):=by
  unfold Mf;simp only[bf,bt]
  congr 1
  rw[decide_eq_decide];unfold kZ;omega
theorem oX (m:Bg):O4 m=some (decide (0≤m.State∧m.State≤4)):=by
  unfold O4 Ir Ey
  by_cases h0:m.State=0
  ·rw[Ai9 h0,Ai9 (p:=0≤m.State∧m.State≤4) (by omega)];rfl
  ·by_cases h1:m.State=1
   ·rw[Aja h0,Ai9 h1,Ai9 (p:=0≤m.State∧m.State≤4) (by omega)];rfl
   ·by_cases h2:m.State=2
    ·rw[Aja h0,Aja h1,Ai9 h2,Ai9 (p:=0≤m.State∧m.State≤4) (by omega)];rfl
    ·by_cases h3:m.State=3
     ·rw[Aja h0,Aja h1,Aja h2,Ai9 h3,Ai9 (p:=0≤m.State∧m.State≤4) (by omega)];rfl
     ·by_cases h4:m.State=4
      ·rw[Aja h0,Aja h1,Aja h2,Aja h3,Ai9 h4,Ai9 (p:=0≤m.State∧m.State≤4) (by omega)];rfl
      ·rw[Aja h0,Aja h1,Aja h2,Aja h3,Aja h4,Aja (p:=0≤m.State∧m.State≤4) (by omega)];rfl
theorem fO (m:Bg):Mz m=some (decide (0≤m.State∧m.State≤4)):=by unfold Mz;rw[lY];rfl
def opn (m:Bg):Bool:=decide (0≤m.State∧m.State≤4)
theorem vL (l:List Bg) (s:Int):Pp l s=some (l.any fun x=>opn x&&decide (x.Slide=s)):=by
  unfold Pp
  rw[Fe (fun x=>opn x&&decide (x.Slide=s)) (fun _=>true) (fun k x _=>by
   unfold Nx;rw[fO,Option.bind_some];show(bif opn x then _ else _)=_
   cases opn x<;>cases decide (x.Slide=s)<;>rfl)]
  cases h:l.find? (fun x=>opn x&&decide (x.Slide=s))with
  | none=>
    have:(l.any fun x=>opn x&&decide (x.Slide=s))=false:=by
      rw[List.any_eq_false];rw[List.find?_eq_none]at h;exact h
    rw[this];rfl
  | some x=>
    have:(l.any fun x=>opn x&&decide (x.Slide=s))=true:=by
      rw[List.any_eq_true];exact⟨x,List.mem_of_find?_eq_some h,List.find?_some (p:=fun x=>opn x&&decide (x.Slide=s)) h⟩
    rw[this];rfl
theorem rG (l:List Bg) (i:Nat) (x:Bg) (hi:i<l.length) (hl:l.length≤1000) :
    ((J5 (Hx l i x) i ()).bind fun o4=>o4.on fun s4=>some (Out.next ()))=(some (bif opn x&&((l.take i).any fun y=>opn y&&decide (y.Slide=x.Slide))then Out.ret (15:Int)else Out.next ()):Option (Out Unit Int)):=by
  rcases W9 (step:=Hx l i x) (n:=i) (s:=()) (by omega) (fun j _=>∀ y∈l.take j,¬ (opn x=true∧opn y=true∧y.Slide=x.Slide)) (fun r=>r= .ret 15∧∃ y∈l.take i,opn x=true∧opn y=true∧y.Slide=x.Slide) (by simp) (fun j s hj hI=>by
      have hy:l[j]? =some (l[j]'(by omega)):=Ajb (by omega)
      generalize (l[j]'(by omega))=y at hy
      have hyt:(l.take i)[j]? =some y:=by rw[List.getElem?_take,if_pos hj];exact hy
      unfold Hx
      rw[Qx rfl hyt,Option.bind_some,oX,oX,Option.bind_some,Option.bind_some]
      show(∃ s',(bif opn x then bif opn y then _ else _ else _)=_∧_)∨(∃ r,(bif opn x then bif opn y then _ else _ else _)=_∧_)
      by_cases e:opn x=true∧opn y=true∧y.Slide=x.Slide
      ·rw[e.1,e.2.1,Ai9 e.2.2]
       exact .inr ⟨_,rfl,rfl,y,Ajc hyt,e.1 ▸ e⟩
      ·refine .inl ⟨(),?_,fun z hz=>?_⟩
       ·cases h1:opn x with
        | false=>rfl
        | true=>
          cases h2:opn y with
          | false=>rfl
          | true=>rw[Aja (fun h3=>e ⟨h1,h2,h3⟩)];rfl
       ·rw[Bx hy,List.mem_append,List.mem_singleton]at hz
        rcases hz with hz | rfl
        ·exact hI z hz
        ·exact e)with ⟨s',e1,e2⟩ | ⟨r,e1,rfl,y,hy,e2,e3,e4⟩
  ·rw[e1]
   have:(opn x&&((l.take i).any fun y=>opn y&&decide (y.Slide=x.Slide)))=false:=by
     rw[Bool.and_eq_false_iff]
     by_cases hx:opn x=true
     ·right
      rw[List.any_eq_false]
      intro y hy h
      simp at h
      exact e2 y hy ⟨hx,h.1,h.2⟩
     ·left;simpa using hx
   rw[this];rfl
  ·rw[e1]
   have:(opn x&&((l.take i).any fun y=>opn y&&decide (y.Slide=x.Slide)))=true:=by
     rw[Bool.and_eq_true]
     exact⟨e2,List.any_eq_true.2 ⟨y,hy,by simp[e3,e4]⟩⟩
   rw[this];rfl
theorem uF (l:List Bg) (n:Int):Tot (M9 l n):=by
  unfold M9
  refine Tot.bind (Tot.Al fun i x s _=>?_) fun o _=>Tot.on fun _=>Tot.some _
  unfold Ny
  exact Tot.bif (fun _=>Tot.some _) fun _=>Tot.some _
theorem xI (l:List Bg) (hl:l.length≤1000):Ag (P3 l) (Ib l):=by
  unfold P3 Ib
  refine Ag.bif rfl (fun _=>Ag.some _) fun _=>?_
  refine Ag.bind (Ag.Al fun i x s hx=>?_) fun o _ _=>Ag.on fun _ _=>Ag.some _
  have hi:=(List.getElem?_eq_some_iff.1 hx).1
  unfold Oj Hk
  simp only[zW,lY,Option.bind_some]
  rw[sN (x:=x.Window.From),y0 (x:=x.Window.To),sN (y:=x.Window.To)]
  simp only[ba]
  rw[show decide (kZ x)=decide ((1≤x.ID∧x.ID≤9999)∧(1≤x.Slide∧x.Slide≤9999)∧(1≤x.By∧x.By≤9999)∧(0≤x.State∧x.State≤6)∧(0≤x.Since∧x.Since≤20000000)∧0≤x.Window.From∧x.Window.From<x.Window.To∧x.Window.To≤20000000) from by rw[decide_eq_decide];unfold kZ;omega]
  refine Ag.bif rfl (fun _=>Ag.some _) fun _=>?_
  have ho:∀ {α:Type} (o:Option α),okB (decide ((0:Int)≤((i:Nat):Int)∧((i:Nat):Int)≤((l.length:Nat):Int))) o=o:=fun o=>M1 (by omega)
  simp only[ho]
  refine Ag.bind (a:=Vm (l.take i) x.ID) (b:=M9 (l.take i) x.ID) (Ag.refl (uF _ _)) fun y _ _=>?_
  refine Ag.bif rfl (fun _=>Ag.some _) fun _=>?_
  rw[rG l i x hi hl,fO,Option.bind_some]
  show Ag _ (bif opn x then _ else _)
  cases h:opn x with
  | false=>exact Ag.some _
  | true=>
    rw[cond_true,vL,Option.bind_some,Bool.true_and]
    cases((l.take i).any fun y=>opn y&&decide (y.Slide=x.Slide))<;>exact Ag.some _
def lB (g:B4):Prop:=1≤g.ID∧g.ID≤9999∧1≤g.Node∧g.Node≤9999∧0≤g.Fuel∧g.Fuel≤1000000∧0≤g.State∧g.State≤2∧0≤g.Until∧g.Until≤20000000∧0≤g.To∧g.To≤9999∧0≤g.Run∧g.Run≤9999
instance (m:B4):Decidable (lB m):=by unfold lB;infer_instance
theorem z6 (m:B4):Jd m=some (decide (lB m)):=by
  unfold Jd;simp only[bf,bt]
  congr 1
  rw[decide_eq_decide];unfold lB;omega
theorem nY (l:List B4) (n:Int):∃ r,Ps l n=some r∧(0≤r↔∃ x∈l,x.ID=n):=by
  unfold Ps
  rcases Fk (step:=Kp n) (l:=l) (s:=()) (fun k _=>∀ x∈l.take k,x.ID≠n) (fun r=>0≤r∧∃ x∈l,x.ID=n) (by simp) (fun k x s hk hI=>by
      unfold Kp
      by_cases e:x.ID=n
      ·rw[Ai9 e];exact .inr ⟨_,rfl,by omega,x,Ajc hk,e⟩
      ·rw[Aja e]
       refine .inl ⟨_,rfl,fun z hz=>?_⟩
       rw[Bx hk,List.mem_append,List.mem_singleton]at hz
       rcases hz with hz | rfl
       ·exact hI z hz
       ·exact e)with ⟨s',e1,e2⟩ | ⟨r,e1,e2,e3⟩
  ·rw[List.take_length]at e2
   rw[e1]
   exact⟨_,rfl,by constructor
                  ·intro h;exact absurd h (by decide)
                  ·rintro⟨x,hx,e⟩;exact absurd e (e2 x hx)⟩
  ·rw[e1];exact⟨r,rfl,fun _=>e3,fun _=>e2⟩
theorem qZ (l:List B4) (hl:l.length≤1000):Ag (Mc l) (Nc l):=by
  unfold Mc Nc
  refine Ag.bif rfl (fun _=>Ag.some _) fun _=>?_
  have key:=kL (step:=Hq) (step':=Kr l) l (fun k sv _=>∀ n,mget false sv n=decide (∃ x∈l.take k,x.ID=n)) (fun i x sv t hx hR=>by
    have hi:=(List.getElem?_eq_some_iff.1 hx).1
    unfold Hq Kr
    simp only[z6,yJ,Option.bind_some,ba]
    rw[show decide (lB x)=decide ((1≤x.ID∧x.ID≤9999)∧(1≤x.Node∧x.Node≤9999)∧(0≤x.Fuel∧x.Fuel≤1000000)∧(0≤x.State∧x.State≤2)∧(0≤x.Until∧x.Until≤20000000)∧(0≤x.To∧x.To≤9999)∧0≤x.Run∧x.Run≤9999) from by rw[decide_eq_decide];unfold lB;omega]
    rw[M1 (by omega)]
    obtain⟨r,h1,h2⟩:=nY (l.take i) x.ID
    rw[h1,Option.bind_some,hR,show decide ((0:Int)≤r)=decide (∃ y∈l.take i,y.ID=x.ID) from by rw[decide_eq_decide];exact h2]
    generalize (!decide ((1≤x.ID∧x.ID≤9999)∧(1≤x.Node∧x.Node≤9999)∧(0≤x.Fuel∧x.Fuel≤1000000)∧(0≤x.State∧x.State≤2)∧(0≤x.Until∧x.Until≤20000000)∧(0≤x.To∧x.To≤9999)∧0≤x.Run∧x.Run≤9999))=b1
    generalize hb2:decide (∃ y∈l.take i,y.ID=x.ID)=b2
    generalize (decide (x.To≠0) !=decide (x.State=1))=b3
    generalize (decide (x.Run≠0) !=decide (x.State=2))=b4
    cases b1 with
    | true=>exact .inr ⟨_,rfl,rfl⟩
    | false=>
      cases b2 with
      | true=>exact .inr ⟨_,rfl,rfl⟩
      | false=>
        cases b3 with
        | true=>exact .inr ⟨_,rfl,rfl⟩
        | false=>
          cases b4 with
          | true=>exact .inr ⟨_,rfl,rfl⟩
          | false=>
            refine .inl ⟨_,_,rfl,rfl,fun n=>?_⟩
            rw[X7,hR]
            by_cases e:x.ID=n
            ·subst e
             rw[if_pos rfl,eq_comm,decide_eq_true_iff]
             exact⟨x,by rw[Bx hx];simp,rfl⟩
            ·rw[if_neg e,decide_eq_decide,Bx hx]
             constructor
             ·rintro⟨y,hy,e'⟩;exact⟨y,List.mem_append_left _ hy,e'⟩
             ·rintro⟨y,hy,e'⟩
              rw[List.mem_append,List.mem_singleton]at hy
              rcases hy with hy | rfl
              ·exact⟨y,hy,e'⟩
              ·exact absurd e' e) l.length 0 [] () rfl (Nat.zero_le _) (fun n=>by simp[mget])
  rw[List.drop_zero]at key
  rcases key with⟨s',t',h1,h2,_⟩ | ⟨r,h1,h2⟩
  ·rw[h1,h2];exact Ag.some _
  ·rw[h1,h2];exact Ag.some _
theorem zS (m:Bb):fK m=Lz m:=rfl
theorem zX (m:Bb):Ag (Lz m) (Ie m):=by
  obtain⟨r,h1,h2,_⟩:=Wi m
  exact⟨r,by rw[← zS];exact h1,h2⟩
theorem Sm (m:Bb) (id:Int):E4 m id=some (Jt m id):=Xa fun _ _ _=>rfl
theorem X0 (m:Bb) (id:Int):Jj m id=some (Jt m id):=Xa fun _ _ _=>rfl
theorem vK (m:Bb) (id:Int):Np m id=some (Aa4 m id):=Xa fun _ _ _=>rfl
theorem vJ (m:Bb) (id:Int):D5 m id=some (Cx m id):=Xa fun _ _ _=>rfl
structure rV (f:Aj):Prop where
  closures:f.Closures.length≤12
  lists:f.Patrol.Bt.length≤12
  hazards:f.Patrol.Hazards.length≤12
  surfaces:f.Surfaces.length≤12
  slides:f.Slides.length≤12
  bulletin:f.Bulletin.length≤12
  missions:f.Missions.length≤12
  winches:f.Winches.length≤12
  groomers:f.Groomers.length≤12
structure vB (f:Aj):Prop where
  items:∀ x∈f.Patrol.Bt,x.List_.Items.length≤9223372036854775807∧x.List_.Signs.length≤9223372036854775807
  zones:∀ x∈f.Slides,x.Zones.length≤9223372036854775807∧x.Lifts.length≤9223372036854775807
  bzones:∀ x∈f.Bulletin,x.Zones.length≤9223372036854775807
  runs:∀ x∈f.Winches,x.Runs.length≤9223372036854775807
theorem wA (f:Aj) (h:rV f) (hi:vB f):Ag (Fa f) (Kg f):=by
  obtain⟨y1,a1,b1⟩:=zX f.Map
  obtain⟨y2,a2,b2⟩:=rC f.Closures (by have:=h.closures;omega)
  obtain⟨y3,a3,b3⟩:=tP f.Patrol (by have:=h.lists;omega) (by have:=h.hazards;omega) (fun x hx=>by have:=hi.items x hx;omega)
  obtain⟨y4,a4,b4⟩:=pW f.Surfaces (by have:=h.surfaces;omega)
  obtain⟨y5,a5,b5,_⟩:=S50.Wi f.Slides ⟨by have:=h.slides;omega,hi.zones⟩
  obtain⟨y6,a6,b6⟩:=oV f.Bulletin (by have:=h.bulletin;omega) hi.bzones
  obtain⟨y7,a7,b7⟩:=xI f.Missions (by have:=h.missions;omega)
  obtain⟨y8,b8,a8,_⟩:=W46.mU hi.runs
  obtain⟨y9,a9,b9⟩:=qZ f.Groomers (by have:=h.groomers;omega)
  unfold Fa Kg
  simp only[a1,a2,a3,a4,a5,a6,a7,a8,a9,b1,b2,b3,b4,b5,b6,b7,b8,b9,Option.bind_some]
  have st:∀ (k:Nat) y,[y1,y2,y3,y4,y5,y6,y7,y8,y9][k]? =some y→∀ s:Unit,F5 y1 y2 y3 y4 y5 y6 y7 y8 y9 k () s=(bif decide (y≠0)then some (Out.ret y)else some (Out.next ())):=by
    intro k y hk s
    unfold F5
    rw[Qx rfl hk];rfl
  unfold J5
  rw[if_pos (by decide),show List.replicate 9 ()=[(),(),(),(),(),(),(),(),()] from rfl]
  simp only[Al,Nat.zero_add,Nat.reduceAdd]
  simp only[st 0 y1 rfl,st 1 y2 rfl,st 2 y3 rfl,st 3 y4 rfl,st 4 y5 rfl,st 5 y6 rfl,st 6 y7 rfl,st 7 y8 rfl,st 8 y9 rfl]
  by_cases e9:y9=0
  ·subst e9
   cases decide (y1≠0)
   rotate_left
   ·exact⟨_,rfl,rfl⟩
   cases decide (y2≠0)
   rotate_left
   ·exact⟨_,rfl,rfl⟩
   cases decide (y3≠0)
   rotate_left
   ·exact⟨_,rfl,rfl⟩
   cases decide (y4≠0)
   rotate_left
   ·exact⟨_,rfl,rfl⟩
   cases decide (y5≠0)
   rotate_left
   ·exact⟨_,rfl,rfl⟩
   cases decide (y6≠0)
   rotate_left
   ·exact⟨_,rfl,rfl⟩
   cases decide (y7≠0)
   rotate_left
   ·exact⟨_,rfl,rfl⟩
   cases decide (y8≠0)
   rotate_left
   ·exact⟨_,rfl,rfl⟩
   exact⟨_,rfl,rfl⟩
  ·rw[Ai9 (p:=y9≠0) e9]
   cases decide (y1≠0)
   rotate_left
   ·exact⟨_,rfl,rfl⟩
   cases decide (y2≠0)
   rotate_left
   ·exact⟨_,rfl,rfl⟩
   cases decide (y3≠0)
   rotate_left
   ·exact⟨_,rfl,rfl⟩
   cases decide (y4≠0)
   rotate_left
   ·exact⟨_,rfl,rfl⟩
   cases decide (y5≠0)
   rotate_left
   ·exact⟨_,rfl,rfl⟩
   cases decide (y6≠0)
   rotate_left
   ·exact⟨_,rfl,rfl⟩
   cases decide (y7≠0)
   rotate_left
   ·exact⟨_,rfl,rfl⟩
   cases decide (y8≠0)
   rotate_left
   ·exact⟨_,rfl,rfl⟩
   exact⟨_,rfl,rfl⟩
theorem j5 (p:Fu):Kc p=Ks p:=rfl
theorem lP (p:Fu):Ks p=some (decide ((0≤p.Natural∧p.Natural≤20000)∧(0≤p.Machine∧p.Machine≤20000)∧50≤p.Density∧p.Density≤900)):=by
  unfold Ks Ui
  simp only[bt,Option.bind_some]
theorem kK (f:Aj) (h:rV f) (hi:vB f) (h1:f.Lifts.length≤100) (h2:f.Packs.length≤100) (h3:f.Status.length≤100):Ag (Gh f) (H8 f):=by
  unfold Gh H8
  refine Ag.bind (wA f h hi) fun y _ _=>?_
  refine Ag.bif rfl (fun _=>Ag.some _) fun _=>?_
  refine Ag.bif rfl (fun _=>Ag.some _) fun _=>?_
  refine Ag.bif rfl (fun _=>Ag.some _) fun _=>?_
  refine Ag.bif rfl (fun _=>Ag.some _) fun _=>?_
  unfold Gp
  rw[pX (Dh.Al fun i x s=>by
   unfold Ec
   repeat' first | exact Dh.ret (by decide) | exact Dh.next _ | refine Dh.bif (fun _=>?_) (fun _=>?_) | refine Dh.bind fun _ _=>?_)]
  refine Ag.bind (Ag.Al fun i x s hx=>?_) fun o _ _=>Ag.on fun _ _=>?_
  ·have hi':=(List.getElem?_eq_some_iff.1 hx).1
   refine Ag.nH ?_ rfl
   unfold Ec
   rw[vK,Option.bind_some]
   repeat' first | exact Tot.some _ | (refine Tot.pred hi' ‹_› (by omega) fun y=>?_) | refine Tot.bif (fun h0=>?_) (fun _=>?_)
  unfold Gn Ki
  rw[pX (Dh.Al fun i x s=>by
   unfold Eb
   repeat' first | exact Dh.ret (by decide) | exact Dh.next _ | refine Dh.bif (fun _=>?_) (fun _=>?_) | refine Dh.bind fun _ _=>?_)]
  refine Ag.bind (Ag.Al fun i x s hx=>?_) fun o _ _=>Ag.on fun _ _=>?_
  ·have hi':=(List.getElem?_eq_some_iff.1 hx).1
   refine Ag.nH ?_ rfl
   unfold Eb
   rw[j5,lP,Option.bind_some]
   repeat' first | exact Tot.some _ | (refine Tot.pred hi' ‹_› (by omega) fun y=>?_) | refine Tot.bif (fun h0=>?_) (fun _=>?_)
  unfold Ge Kh
  rw[pX (Dh.Al fun i x s=>by
   unfold D4
   repeat' first | exact Dh.ret (by decide) | exact Dh.next _ | refine Dh.bif (fun _=>?_) (fun _=>?_) | refine Dh.bind fun _ _=>?_)]
  refine Ag.bind (Ag.Al fun i x s hx=>?_) fun o _ _=>Ag.on fun _ _=>?_
  ·have hi':=(List.getElem?_eq_some_iff.1 hx).1
   refine Ag.nH ?_ rfl
   unfold D4
   rw[Sm,Option.bind_some]
   repeat' first | exact Tot.some _ | (refine Tot.pred hi' ‹_› (by omega) fun y=>?_) | refine Tot.bif (fun h0=>?_) (fun _=>?_)
  refine Ag.refl ?_
  repeat' first | exact Tot.some _ | refine Tot.bif (fun h0=>?_) (fun _=>?_)
def stp (L:List Int→Int→Bool) (s:List Int):List Int:=s.filter (L s)
def iter (L:List Int→Int→Bool):Nat→List Int→List Int
  | 0,s=>s
  | n+1,s=>iter L n (stp L s)
section
variable {L:List Int→Int→Bool}
theorem eZ (s:List Int):(stp L s).Sublist s:=List.filter_sublist
theorem r6 {s:List Int} (h:(stp L s).length=s.length):stp L s=s:=(eZ s).eq_of_length h
theorem Wy {s:List Int} (h:stp L s=s):∀ n,iter L n s=s
  | 0=>rfl
  | n+1=>by rw[iter,h];exact Wy h n
theorem Sy:∀ (n:Nat) (s:List Int),s.length≤n→stp L (iter L n s)=iter L n s
  | 0,s,h=>by
    have:s=[]:=List.eq_nil_of_length_eq_zero (by omega)
    subst this;rfl
  | n+1,s,h=>by
    by_cases e:stp L s=s
    ·rw[Wy e];exact e
    ·have h1:=(eZ (L:=L) s).length_le
     have h2:(stp L s).length≠s.length:=fun h=>e (r6 h)
     exact Sy n _ (by omega)
theorem gT:∀ (n m:Nat) (s:List Int),iter L (n+m) s=iter L m (iter L n s)
  | 0,m,s=>by rw[Nat.zero_add];rfl
  | n+1,m,s=>by rw[Nat.succ_add];exact gT n m _
theorem iter_eq {s:List Int} {n m:Nat} (hn:stp L (iter L n s)=iter L n s) (hm:stp L (iter L m s)=iter L m s):iter L n s=iter L m s:=by
  have h1:=Wy hn m
  have h2:=Wy hm n
  rw[← gT]at h1 h2
  rw[← h1,Nat.add_comm,h2]
theorem gQ:∀ (n:Nat) (s:List Int),(iter L n s).Sublist s
  | 0,s=>List.Sublist.refl _
  | n+1,s=>(gQ n _).trans (eZ s)
def gfp (L:List Int→Int→Bool) (s:List Int):List Int:=iter L s.length s
theorem gZ (s:List Int):stp L (gfp L s)=gfp L s:=Sy _ _ (Nat.le_refl _)
theorem l4 (s:List Int):(gfp L s).Sublist s:=gQ _ _
theorem wX {s:List Int} {r:Int} (h:r∈gfp L s):L (gfp L s) r=true:=by
  have h':r∈stp L (gfp L s):=by rw[gZ];exact h
  exact(List.mem_filter.1 h').2
theorem eA {s:List Int} {n:Nat} (h:stp L (iter L n s)=iter L n s):iter L n s=gfp L s:=iter_eq h (gZ s)
theorem gS (hm:∀ a b r,(∀ x∈a,x∈b)→L a r=true→L b r=true) {S:List Int} (hS:∀ r∈S,L S r=true):∀ (n:Nat) (s:List Int),(∀ r∈S,r∈s)→∀ r∈S,r∈iter L n s
  | 0,s,h,r,hr=>h r hr
  | n+1,s,h,r,hr=>gS hm hS n _ (fun x hx=>List.mem_filter.2 ⟨h x hx,hm _ _ _ h (hS x hx)⟩) r hr
theorem uJ (hm:∀ a b r,(∀ x∈a,x∈b)→L a r=true→L b r=true) {S s:List Int} (hS:∀ r∈S,L S r=true) (h:∀ r∈S,r∈s):∀ r∈S,r∈gfp L s:=gS hm hS _ _ h
end
theorem Ut {α:Type} {step:Nat→α→Unit→Option (Out Unit Bool)} {l:List α} (p:α→Bool) (hs:∀ k x,x∈l→step k x ()=bif p x then some (.ret true)else some (.next ())) :
    ((Al step 0 l ()).bind fun o=>o.on fun _=>some false)=some (l.any p):=by
  rw[Fe p (fun _=>true) hs]
  cases h:l.find? p with
  | none=>
    have:l.any p=false:=by rw[List.any_eq_false];rw[List.find?_eq_none]at h;exact h
    rw[this];rfl
  | some x=>
    have:l.any p=true:=by rw[List.any_eq_true];exact⟨x,List.mem_of_find?_eq_some h,List.find?_some h⟩
    rw[this];rfl
theorem sF {α:Type} {step:Nat→α→Unit→Option (Out Unit Int)} {l:List α} (p:α→Bool) (hs:∀ k x,x∈l→step k x ()=bif p x then some (.ret ((k:Nat):Int))else some (.next ())) :
    ∃ r,((Al step 0 l ()).bind fun o=>o.on fun _=>some (-1:Int))=some r∧((r= -1∧∀ x∈l,p x=false)∨∃ (k:Nat) (x:α),r=(k:Int)∧l[k]? =some x∧p x=true):=by
  rcases Fk (step:=step) (l:=l) (s:=()) (fun k _=>∀ x∈l.take k,p x=false) (fun r=>∃ (k:Nat) (x:α),r=(k:Int)∧l[k]? =some x∧p x=true) (by simp) (fun k x s hk hI=>by
      rw[hs k x (Ajc hk)]
      cases h:p x with
      | true=>exact .inr ⟨_,rfl,k,x,rfl,hk,h⟩
      | false=>
        refine .inl ⟨_,rfl,fun z hz=>?_⟩
        rw[Bx hk,List.mem_append,List.mem_singleton]at hz
        rcases hz with hz | rfl
        ·exact hI z hz
        ·exact h)with ⟨s',e1,e2⟩ | ⟨r,e1,e2⟩
  ·rw[List.take_length]at e2
   rw[e1];exact⟨_,rfl,.inl ⟨rfl,e2⟩⟩
  ·rw[e1];exact⟨r,rfl,.inr e2⟩
def clo (l:List Bk) (kind target:Int):Bool:=l.any fun c=>decide (c.Kind=kind)&&decide (c.Target=target)
theorem kU (l:List Bk) (kind target:Int):Hs l kind target=some (clo l kind target):=by
  unfold Hs clo
  refine Ut _ fun k x _=>?_
  unfold J1
  rw[Ai9 (Int.natCast_nonneg k)]
  cases decide (x.Kind=kind)<;>cases decide (x.Target=target)<;>rfl
theorem qL (l:List Bk) (a b c:Int):∃ r,Fw l a b c=some r∧(0≤r↔∃ x∈l,x.Kind=a∧x.Target=b∧x.By=c):=by
  unfold Fw
  obtain⟨r,h1,h2⟩:=sF (step:=E6 a b c) (l:=l) (fun x=>decide (x.Kind=a)&&(decide (x.Target=b)&&decide (x.By=c))) (fun k x _=>by
    unfold E6
    cases decide (x.Kind=a)<;>cases decide (x.Target=b)<;>cases decide (x.By=c)<;>rfl)
  refine⟨r,h1,?_⟩
  rcases h2 with⟨rfl,h2⟩ | ⟨k,x,rfl,h3,h4⟩
  ·constructor
   ·intro h;exact absurd h (by decide)
   ·rintro⟨x,hx,e1,e2,e3⟩
    have:=h2 x hx
    simp[e1,e2,e3]at this
  ·simp at h4
   exact⟨fun _=>⟨x,Ajc h3,h4.1,h4.2.1,h4.2.2⟩,fun _=>Int.natCast_nonneg k⟩
theorem of_eq {l:List Bk} (hb:∀ c∈l,1≤c.By∧c.By≤6) (kind target:Int):∃ r,aC l kind target=some r∧decide ((0:Int)<((r.length:Nat):Int))=clo l kind target:=by
  unfold aC
  obtain⟨s',h1,h2,h3⟩:=aO (ρ:=List Int) (n:=6) (step:=Wn l kind target) (s:=[]) (by omega) (fun k s=>s.length≤k∧(s≠[]↔∃ x∈l,x.Kind=kind∧x.Target=target∧x.By≤k)) ⟨by simp,by
      constructor
      ·intro h;exact absurd rfl h
      ·rintro⟨x,hx,_,_,h⟩;have:=(hb x hx).1;omega⟩ (fun k s hk ⟨hI1,hI2⟩=>by
    obtain⟨r,h1,h2⟩:=qL l kind target (((k:Nat):Int)+1)
    unfold Wn
    rw[h1,Option.bind_some]
    by_cases h:0≤r
    ·rw[Ai9 h,cond_true,Ce (by omega)]
     refine⟨_,rfl,by simp;omega,?_⟩
     obtain⟨x,hx,e1,e2,e3⟩:=h2.1 h
     exact⟨fun _=>⟨x,hx,e1,e2,by rw[e3];omega⟩,fun _=>by simp⟩
    ·rw[Aja h]
     refine⟨_,rfl,by omega,?_⟩
     rw[hI2]
     constructor
     ·rintro⟨x,hx,e1,e2,e3⟩;exact⟨x,hx,e1,e2,by omega⟩
     ·rintro⟨x,hx,e1,e2,e3⟩
      refine⟨x,hx,e1,e2,?_⟩
      by_cases e:x.By=(k:Int)+1
      ·exact absurd (h2.2 ⟨x,hx,e1,e2,e⟩) h
      ·omega)
  rw[h1]
  refine⟨s',rfl,?_⟩
  have:(0:Int)<((s'.length:Nat):Int)↔s'≠[]:=by
    constructor
    ·intro h e;subst e;simp at h
    ·intro h;have:=List.length_pos_iff.2 h;omega
  unfold clo
  rw[Bool.eq_iff_iff,decide_eq_true_iff,this,h3,List.any_eq_true]
  constructor
  ·rintro⟨x,hx,e1,e2,_⟩;exact⟨x,hx,by simp[e1,e2]⟩
  ·rintro⟨x,hx,e⟩;simp at e;exact⟨x,hx,e.1,e.2,(hb x hx).2⟩
theorem yV (m:Bb) (l:List Bk) (run:Int) (h:(Jt m run).2=true):P2 m l run=some (clo l 1 run||clo l 3 (Jt m run).1.Zone):=by
  unfold P2
  rw[Sm,Option.bind_some,h,cond_true,kU,kU,Option.bind_some]
  cases clo l 1 run<;>rfl
theorem vZ {m:Bb} {l:List Bk} (hb:∀ c∈l,1≤c.By∧c.By≤6) (run:Int) (h:(Jt m run).2=true):bW m l run=some (clo l 1 run||clo l 3 (Jt m run).1.Zone):=by
  obtain⟨r1,h1,h2⟩:=of_eq hb 1 run
  obtain⟨r3,h3,h4⟩:=of_eq hb 3 (Jt m run).1.Zone
  unfold bW
  rw[X0,Option.bind_some,h,cond_true,h1,Option.bind_some,h2,h3,Option.bind_some,h4]
  cases clo l 1 run<;>rfl
def gon (l:List B4) (run:Int):Bool:=l.any fun g=>decide (g.State=2)&&decide (g.Run=run)
theorem z7 (l:List B4) (run:Int):R5 l run=some (gon l run):=by
  unfold R5 gon
  refine Ut _ fun k x _=>?_
  unfold Ph
  rw[Ai9 (Int.natCast_nonneg k)]
  cases decide (x.State=2)<;>cases decide (x.Run=run)<;>rfl
theorem x6 (l:List B4) (run:Int):fU l run=some (gon l run):=by
  unfold fU gon
  refine Ut _ fun k x _=>?_
  unfold dY
  cases decide (x.State=2)<;>cases decide (x.Run=run)<;>rfl
theorem Td (l:List Int) (n:Int):E5 l n=some (decide (n∈l)):=W3 fun k x hx=>rfl
def act (m:Bg):Bool:=decide (1≤m.State∧m.State≤4)
theorem Aak (m:Bg):Ir m=some (act m):=by
  unfold Ir Ey act
  by_cases h1:m.State=1
  ·rw[Ai9 h1,Ai9 (p:=1≤m.State∧m.State≤4) (by omega)];rfl
  ·by_cases h2:m.State=2
   ·rw[Aja h1,Ai9 h2,Ai9 (p:=1≤m.State∧m.State≤4) (by omega)];rfl
   ·by_cases h3:m.State=3
    ·rw[Aja h1,Aja h2,Ai9 h3,Ai9 (p:=1≤m.State∧m.State≤4) (by omega)];rfl
    ·by_cases h4:m.State=4
     ·rw[Aja h1,Aja h2,Aja h3,Ai9 h4,Ai9 (p:=1≤m.State∧m.State≤4) (by omega)];rfl
     ·rw[Aja h1,Aja h2,Aja h3,Aja h4,Aja (p:=1≤m.State∧m.State≤4) (by omega)];rfl
def acts (l:List Bg):List Int:=(l.filter act).map Bg.Slide
theorem rI {l:List Bg} (hl:l.length≤1000):Lr l=some (Dd (acts l)):=by
  unfold Lr
  rw[C5 (p:=act) (g:=Bg.Slide) (by omega) (fun k x s _=>by unfold Mr;rw[Aak,Option.bind_some])]
  show chk (acts l).length _=_
  rw[Ce (by have:=List.length_filter_le act l;unfold acts;rw[List.length_map];omega)];rfl
theorem lN (l:List Bg) (last:Int) (h0:0≤last) (hr:∀ m∈l,1≤m.Slide):∃ s,Al (Ml last) 0 l 0=some (.next s)∧((s=0∧∀ n∈acts l,n≤last)∨(s∈acts l∧last<s∧∀ n∈acts l,last<n→s≤n)):=by
  obtain⟨s',h1,h2⟩:=Dp (ρ:=Out (Int×List Int) (List Int)) (step:=Ml last) (l:=l) (s:=0) (fun k s=>(s=0∧∀ n∈acts (l.take k),n≤last)∨(s∈acts (l.take k)∧last<s∧∀ n∈acts (l.take k),last<n→s≤n)) (.inl ⟨rfl,by simp[acts]⟩) (fun k x s hk hI=>by
    have hx:=Ajc hk
    have hx1:=hr x hx
    have e:acts (l.take (k+1))=acts (l.take k)++(if act x=true then [x.Slide]else []):=by
      unfold acts;rw[Bx hk,List.filter_append,List.map_append]
      cases h:act x<;>simp[h]
    unfold Ml
    rw[fO,Option.bind_some,e]
    by_cases ha:1≤x.State∧x.State≤4
    ·have hact:act x=true:=Ai9 ha
     rw[Ai9 (p:=0≤x.State∧x.State≤4) (by omega),Ai9 (p:=x.State≠0) (by omega),if_pos hact]
     simp only[cond_true]
     by_cases hl:last<x.Slide
     ·rw[Ai9 hl,cond_true]
      by_cases hs:s=0
      ·rw[Ai9 hs]
       refine⟨_,rfl,.inr ⟨by simp,hl,fun n hn hln=>?_⟩⟩
       rcases hI with⟨_,hI⟩ | ⟨hI1,hI2,_⟩
       ·rw[List.mem_append,List.mem_singleton]at hn
        rcases hn with hn | rfl
        ·have:=hI n hn;omega
        ·exact Int.le_refl _
       ·omega
      ·rw[Aja hs,cond_false]
       rcases hI with⟨h,_⟩ | ⟨hI1,hI2,hI3⟩
       ·exact absurd h hs
       by_cases hlt:x.Slide<s
       ·rw[Ai9 hlt]
        refine⟨_,rfl,.inr ⟨by simp,hl,fun n hn hln=>?_⟩⟩
        rw[List.mem_append,List.mem_singleton]at hn
        rcases hn with hn | rfl
        ·have:=hI3 n hn hln;omega
        ·exact Int.le_refl _
       ·rw[Aja hlt]
        refine⟨_,rfl,.inr ⟨List.mem_append_left _ hI1,hI2,fun n hn hln=>?_⟩⟩
        rw[List.mem_append,List.mem_singleton]at hn
        rcases hn with hn | rfl
        ·exact hI3 n hn hln
        ·omega
     ·rw[Aja hl]
      refine⟨_,rfl,?_⟩
      rcases hI with⟨h,hI⟩ | ⟨hI1,hI2,hI3⟩
      ·refine .inl ⟨h,fun n hn=>?_⟩
       rw[List.mem_append,List.mem_singleton]at hn
       rcases hn with hn | rfl
       ·exact hI n hn
       ·omega
      ·refine .inr ⟨List.mem_append_left _ hI1,hI2,fun n hn hln=>?_⟩
       rw[List.mem_append,List.mem_singleton]at hn
       rcases hn with hn | rfl
       ·exact hI3 n hn hln
       ·omega
    ·have hact:¬ act x=true:=by unfold act;simpa using ha
     rw[if_neg hact,List.append_nil]
     by_cases h1:0≤x.State∧x.State≤4
     ·rw[Ai9 h1,Aja (p:=x.State≠0) (by omega)];exact⟨_,rfl,hI⟩
     ·rw[Aja h1];exact⟨_,rfl,hI⟩)
  rw[List.take_length]at h2
  exact⟨s',h1,h2⟩
theorem qI {l:List Bg} (hr:∀ m∈l,1≤m.Slide∧m.Slide≤9999):∃ r,U0 l=some r∧∀ n,n∈r↔n∈acts l:=by
  have hacts:∀ n∈acts l,1≤n∧n≤9999:=by
    intro n hn
    unfold acts at hn
    obtain⟨m,hm,rfl⟩:=List.mem_map.1 hn
    exact hr m (List.mem_filter.1 hm).1
  unfold U0
  obtain⟨r,h1,h2⟩:=Gz (step:=Qa l) (fun s=>0≤s.1∧s.1≤9999∧(s.2.length:Int)≤s.1∧∀ n,n∈s.2↔n∈acts l∧n≤s.1) (fun r=>∀ n,n∈r↔n∈acts l) (fun s=>(9999 - s.1).toNat) (by
      rintro⟨last,out⟩ ⟨i0,i1,i2,i3⟩
      dsimp only at i0 i1 i2 i3
      obtain⟨s,e1,e2⟩:=lN l last i0 (fun m hm=>(hr m hm).1)
      unfold Qa
      dsimp only
      rw[e1,Option.bind_some]
      show(∃ s',(bif decide (s=0)then _ else _)=_∧_)∨(∃ r,(bif decide (s=0)then _ else _)=_∧_)
      rcases e2 with⟨rfl,e2⟩ | ⟨e2,e3,e4⟩
      ·exact .inr ⟨out,rfl,fun n=>by rw[i3];exact⟨fun h=>h.1,fun h=>⟨h,e2 n h⟩⟩⟩
      ·have hb:=hacts s e2
       rw[Aja (by omega),cond_false,Ce (by omega)]
       refine .inl ⟨_,rfl,⟨by dsimp only;omega,by dsimp only;omega,by dsimp only;rw[List.length_append,List.length_singleton];omega,fun n=>?_⟩,by dsimp only;omega⟩
       dsimp only
       rw[List.mem_append,List.mem_singleton,i3]
       constructor
       ·rintro(⟨h,h'⟩ | rfl)
        ·exact⟨h,by omega⟩
        ·exact⟨e2,Int.le_refl _⟩
       ·rintro⟨h,h'⟩
        by_cases hn:n≤last
        ·exact .inl ⟨h,hn⟩
        ·right;have:=e4 n h (by omega);omega) fuel (0,[]) ⟨by simp,by simp,by simp,fun n=>by simp;intro h;have:=hacts n h;omega⟩ (by unfold fuel;dsimp only;omega)
  rw[h1]
  exact⟨r,rfl,h2⟩
def blasted (f:Aj) (zone:Int):Bool:=f.Slides.any fun s=>decide (s.ID∈acts f.Missions)&&decide (zone∈s.Zones)
theorem rF (f:Aj) (zone:Int) (hl:f.Missions.length≤1000):Gs f zone=some (blasted f zone):=by
  unfold Gs blasted
  rw[rI hl,Option.bind_some]
  refine Ut _ fun k x _=>?_
  unfold Gr
  simp only[contains_eq,Option.bind_some,M6]
  rw[Ai9 (Int.natCast_nonneg k)]
  cases decide (x.ID∈acts f.Missions)<;>cases decide (zone∈x.Zones)<;>rfl
theorem nB (f:Aj) (zone:Int) (hr:∀ m∈f.Missions,1≤m.Slide∧m.Slide≤9999):Te f zone=some (blasted f zone):=by
  obtain⟨r,h1,h2⟩:=qI hr
  unfold Te blasted
  rw[h1,Option.bind_some]
  refine Ut _ fun k x _=>?_
  unfold Ue
  simp only[Td,Option.bind_some,h2]
  cases decide (x.ID∈acts f.Missions)<;>cases decide (zone∈x.Zones)<;>rfl
def jU (s:Gy) (t:Int):Bool:=decide (s.From≤t∧t<s.To)
theorem sO (s:Gy) (t:Int):Lq s t=some (jU s t):=by unfold Lq jU;exact bt
theorem dB (b:Bl) (t:Int):Qw b t=some (jU b.Span t):=by unfold Qw jU;exact bt
theorem yU (l:List Bl) (t:Int):Tot (L8 l t):=by
  unfold L8
  refine Tot.bind (Tot.Al fun i x s _=>?_) fun o _=>Tot.on fun _=>Tot.some _
  unfold Lg
  rw[dB,Option.bind_some]
  exact Tot.bif (fun _=>Tot.some _) fun _=>Tot.some _
theorem Aaa (l:List Bl) (t:Int):Hw l t=L8 l t:=by
  have:Fp t=Lg t:=by
    funext k x sv
    unfold Fp Lg
    rw[sO,dB,Option.bind_some,Option.bind_some]
    cases jU x.Span t with
    | false=>rfl
    | true=>
      rw[cond_true,cond_true]
      by_cases h:sv<x.Version
      ·rw[Ai9 h,if_pos h];rfl
      ·rw[Aja h,if_neg h];rfl
  unfold Hw L8;rw[this]
theorem wW (l:List Int) (n:Int):jZ l n=some (decide (n∈l)):=W3 fun k x hx=>rfl
theorem kV (l:List Bl) (zone low high t:Int):Ag (Hv l zone low high t) (Wr l zone low high t):=by
  obtain⟨c,hc⟩:=yU l t
  unfold Hv Wr
  rw[Aaa,hc,Option.bind_some]
  refine Ag.bind (Ag.Al fun i x s hx=>?_) fun o _ _=>Ag.on fun _ _=>Ag.some _
  unfold J2 Wq
  simp only[sO,dB,hc,wW,contains_eq,Option.bind_some]
  generalize decide (x.Version=c)=b1
  generalize jU x.Span t=b2
  generalize decide (zone∈x.Zones)=b3
  generalize decide (x.Low<high)=b4
  generalize decide (low<x.High)=b5
  by_cases h:s<x.Level
  ·rw[Ai9 h,if_pos h]
   cases b1<;>cases b2<;>cases b3<;>cases b4<;>cases b5<;>exact ⟨_,rfl,rfl⟩
  ·rw[Aja h,if_neg h]
   cases b1<;>cases b2<;>cases b3<;>cases b4<;>cases b5<;>exact ⟨_,rfl,rfl⟩
def K0 (m:Bb) (n:Int):Int:=(Cx m n).1.Alt
theorem Aaj (m:Bb) (n:Int):M7 m n=some (K0 m n):=by unfold M7 K0;rw[G1];rfl
def tV (m:Bb) (x:Cd) (s:Int):Int:=if K0 m x.To<s then K0 m x.To else s
def gX (m:Bb) (x:Cd) (s:Int):Int:=if s<K0 m x.From then K0 m x.From else s
def FF (m:Bb) (l:List Cd):Int×Int:=l.foldl (fun s x=>(tV m x s.1,gX m x s.2)) (9999, -1)
theorem sX (m:Bb) (l:List Cd) (x:Cd):FF m (l++[x])=(tV m x (FF m l).1,gX m x (FF m l).2):=by unfold FF;rw[List.foldl_append];rfl
theorem mQ {m:Bb} (M:K6 m) {x:Cd} (hx:x∈m.Runs):(0≤K0 m x.To∧K0 m x.To≤5000)∧0≤K0 m x.From∧K0 m x.From≤5000:=by
  have h:=(M.runs x hx).2
  have h1:=Zj h.1
  have h2:=Zj h.2.1
  exact⟨(M.nodes _ h1.1).2,(M.nodes _ h2.1).2⟩
theorem jW (f:Aj) (k:Nat):Al (Mj f k) 0 f.Map.Runs (9999, -1)=some (.next (FF f.Map (f.Map.Runs.filter fun x=>decide (x.Zone=(k:Int)+1)))):=by
  obtain⟨s',h1,h2⟩:=Dp (ρ:=Out (List Int) (List Int)) (step:=Mj f k) (l:=f.Map.Runs) (s:=(9999, -1)) (fun j s=>s=FF f.Map ((f.Map.Runs.take j).filter fun x=>decide (x.Zone=(k:Int)+1))) rfl (fun j x s hj hI=>by
    unfold Mj
    simp only[Aaj,Option.bind_some]
    rw[Bx hj,List.filter_append]
    by_cases hz:x.Zone=(k:Int)+1
    ·rw[Aja (p:=x.Zone≠(k:Int)+1) (fun h=>h hz),cond_false,List.filter_cons_of_pos (by simpa using hz),List.filter_nil,sX,← hI]
     unfold tV gX
     by_cases h1:K0 f.Map x.To<s.1
     ·rw[Ai9 h1,cond_true,if_pos h1]
      by_cases h2:s.2<K0 f.Map x.From
      ·rw[Ai9 h2,if_pos h2];exact⟨_,rfl,rfl⟩
      ·rw[Aja h2,if_neg h2];exact⟨_,rfl,rfl⟩
     ·rw[Aja h1,cond_false,if_neg h1]
      by_cases h2:s.2<K0 f.Map x.From
      ·rw[Ai9 h2,if_pos h2];exact⟨_,rfl,rfl⟩
      ·rw[Aja h2,if_neg h2];exact⟨_,rfl,rfl⟩
    ·rw[Ai9 (p:=x.Zone≠(k:Int)+1) hz,List.filter_cons_of_neg (by simpa using hz),List.filter_nil,List.append_nil]
     exact⟨_,rfl,hI⟩)
  rw[h1,h2,List.take_length]
theorem mR {m:Bb} (M:K6 m) {x:Cd} (hx:x∈m.Runs):Jt m x.ID=(x,true):=by
  have h:(Jt m x.ID).2=true:=uN hx
  have h1:=bP h
  have h2:=qB M.runsR h1.1 hx h1.2
  exact Prod.ext h2 h
theorem vI {m:Bb} (M:K6 m) (z:Int):K9 m z=some ((m.Runs.filter fun x=>decide (x.Zone=z)).map Cd.ID):=by
  unfold K9
  rw[C5 (step:=Mh z) (p:=fun x=>decide (x.Zone=z)) (g:=Cd.ID) (by have:=M.lenR;omega) (fun k x s _=>rfl)]
  rfl
theorem zD {m:Bb} (M:K6 m) (z:Int):Fo m z=some (bif (m.Runs.filter fun x=>decide (x.Zone=z)).isEmpty then(0,0,false)else ((FF m (m.Runs.filter fun x=>decide (x.Zone=z))).1,(FF m (m.Runs.filter fun x=>decide (x.Zone=z))).2,true)):=by
  unfold Fo
  rw[vI M,Option.bind_some]
  generalize hR:(m.Runs.filter fun x=>decide (x.Zone=z))=R
  have hsub:∀ x∈R,x∈m.Runs:=fun x hx=>by rw[← hR]at hx;exact(List.mem_filter.1 hx).1
  obtain⟨s',h1,h2⟩:=Dp (ρ:=Int×Int×Bool) (step:=Ek m) (l:=R.map Cd.ID) (s:=((0:Int),(0:Int),false)) (fun j s=>s=bif (R.take j).isEmpty then(0,0,false)else ((FF m (R.take j)).1,(FF m (R.take j)).2,true)) rfl (fun j id s hj hI=>by
    rw[List.getElem?_map]at hj
    obtain⟨x,hx,rfl⟩:=Option.map_eq_some_iff.1 hj
    have hm:=hsub x (Ajc hx)
    have ha:=mQ M hm
    unfold Ek
    simp only[Sm,vJ,Option.bind_some,mR M hm]
    rw[Bx hx,sX]
    have hne:(R.take j++[x]).isEmpty=false:=by simp
    rw[hne,cond_false]
    change ∃ s',(bif (!s.2.2)then some (Out.next ((if K0 m x.To<K0 m x.To then K0 m x.To else K0 m x.To),(if K0 m x.From<K0 m x.From then K0 m x.From else K0 m x.From),true))else some (Out.next ((if K0 m x.To<s.1 then K0 m x.To else s.1),(if s.2.1<K0 m x.From then K0 m x.From else s.2.1),s.2.2)))=_∧_
    cases hE:(R.take j).isEmpty with
    | true=>
      rw[hE]at hI
      have e0:R.take j=[]:=by simpa using hE
      subst hI
      rw[e0]
      refine⟨_,rfl,?_⟩
      have e1:tV m x 9999=K0 m x.To:=if_pos (by omega)
      have e2:gX m x (-1)=K0 m x.From:=if_pos (by omega)
      show((if K0 m x.To<K0 m x.To then K0 m x.To else K0 m x.To),(if K0 m x.From<K0 m x.From then K0 m x.From else K0 m x.From),true)=(tV m x 9999,gX m x (-1),true)
      rw[e1,e2];simp only[ite_self]
    | false=>
      rw[hE]at hI
      subst hI
      exact⟨_,rfl,rfl⟩)
  rw[h1]
  rw[List.length_map,List.take_length]at h2
  rw[h2]
  cases R.isEmpty<;>rfl
theorem zH {m:Bb} (M:K6 m) {R:List Cd} (hR:∀ x∈R,x∈m.Runs):R≠[]→0≤(FF m R).2:=by
  have key:∀ (l:List Cd) (s:Int×Int),(∀ x∈l,x∈m.Runs)→(l≠[]∨0≤s.2)→0≤(l.foldl (fun s x=>(tV m x s.1,gX m x s.2)) s).2:=by
    intro l
    induction l with
    | nil=>intro s _ h;rcases h with h | h;exact absurd rfl h;exact h
    | cons x l ih=>
      intro s hl h
      rw[List.foldl_cons]
      refine ih _ (fun y hy=>hl y (List.mem_cons_of_mem _ hy)) (.inr ?_)
      have:=(mQ M (hl x (by simp))).2
      dsimp only;unfold gX
      split<;>omega
  intro h
  exact key R _ hR (.inl h)
theorem tY {f:Aj} (M:K6 f.Map):∃ L,E2 f=some L∧Qv f=some L∧L.length=32:=by
  have hstep:∀ k s,Ex f k () s=Gg f k () s:=by
    intro k s
    unfold Ex Gg
    rw[zD M,jW,Option.bind_some,Option.bind_some]
    show(bif (bif _ then _ else _:Int×Int×Bool).2.2 then _ else _)=(bif _ then _ else _)
    generalize hR:(f.Map.Runs.filter fun x=>decide (x.Zone=(k:Int)+1))=R
    have hsub:∀ x∈R,x∈f.Map.Runs:=fun x hx=>by rw[← hR]at hx;exact(List.mem_filter.1 hx).1
    cases R with
    | nil=>rfl
    | cons x R=>
      have hh:=zH M hsub (by simp)
      rw[Ai9 hh]
      show(Hv _ _ _ _ _).bind _=_
      rw[(kV f.Bulletin _ _ _ _).eq]
      rfl
  obtain⟨s',h1,h2⟩:=aO (ρ:=List Int) (n:=32) (step:=Gg f) (s:=[]) (by omega) (fun k s=>s.length=k) rfl (fun k s hk hI=>by
    unfold Gg
    rw[jW,Option.bind_some]
    show ∃ s',(bif _ then _ else _)=_∧_
    cases decide ((0:Int)≤(FF f.Map (f.Map.Runs.filter fun x=>decide (x.Zone=(k:Int)+1))).2)with
    | true=>
      obtain⟨n,_,hn⟩:=kV f.Bulletin ((k:Int)+1) (FF f.Map (f.Map.Runs.filter fun x=>decide (x.Zone=(k:Int)+1))).1 (FF f.Map (f.Map.Runs.filter fun x=>decide (x.Zone=(k:Int)+1))).2 f.Time
      rw[cond_true,hn,Option.bind_some,Ce (by omega)]
      exact⟨_,rfl,by simp[hI]⟩
    | false=>
      rw[cond_false,Ce (by omega)]
      exact⟨_,rfl,by simp[hI]⟩)
  have he:J5 (Ex f) 32 []=J5 (Gg f) 32 []:=by
    unfold J5
    rw[if_pos (by decide),if_pos (by decide)]
    exact S50.Lo fun i x s _=>hstep i s
  refine⟨s',?_,?_,h2⟩
  ·unfold E2
   rw[yW (by omega),he,h1];rfl
  ·unfold Qv
   rw[h1];rfl
theorem yD {σ:Type} {o:Option (Out σ Int)} {rest:σ→Option Int} (h:Dh (·≠0) o) (e:(o.bind fun x=>x.on rest)=some 0):∃ s,o=some (.next s)∧rest s=some 0:=by
  obtain⟨x,h1,h2⟩:=Af e
  cases x with
  | ret r=>obtain rfl:=Option.some.inj h2;exact absurd rfl (h 0 h1)
  | next s=>exact ⟨s,h1,h2⟩
theorem Nf {α:Type} {step:Nat→α→Unit→Option (Out Unit Int)} {l:List α} {rest:Unit→Option Int} (hr:∀ i x s,Dh (·≠0) (step i x s)) (e:((Al step 0 l ()).bind fun o=>o.on rest)=some 0):(∀ i x,l[i]? =some x→step i x ()=some (.next ()))∧rest ()=some 0:=by
  obtain⟨s,h1,h2⟩:=yD (Dh.Al hr) e
  refine⟨fun i x hx=>?_,h2⟩
  have:=Q9.1 h1 i x hx
  rwa [Nat.zero_add]at this
theorem bz {c:Bool} {e:Int} {b:Option Int} (h:(bif c then some e else b)=some 0) (he:e≠0):c=false∧b=some 0:=by
  cases c with
  | false=>exact ⟨rfl,h⟩
  | true=>exact absurd (Option.some.inj h) he
theorem bn {c:Bool} {e:Int} {b:Option (Out Unit Int)} (h:(bif c then some (.ret e)else b)=some (.next ())):c=false∧b=some (.next ()):=by
  cases c with
  | false=>exact ⟨rfl,h⟩
  | true=>cases h
theorem bnot {p:Prop} [Decidable p] (h:(!decide p)=false):p:=by simpa using h
theorem Aab {l:List Bk} (e:Ia l=some 0):∀ c∈l,1≤c.By∧c.By≤6:=by
  unfold Ia at e
  obtain⟨_,e⟩:=bz e (by decide)
  obtain⟨h,_⟩:=Nf (fun i x s=>by
    unfold Hj
    repeat' first | exact Dh.ret (by decide) | exact Dh.next _ | refine Dh.okB ?_ | refine Dh.bif (fun _=>?_) (fun _=>?_) | refine Dh.bind fun _ _=>?_) e
  intro c hc
  obtain⟨i,hi⟩:=List.mem_iff_getElem?.1 hc
  have:=h i c hi
  unfold Hj at this
  rw[qT,Option.bind_some]at this
  have:=bnot (bn this).1
  omega
theorem wJ {p:Ca} (e:H9 p=some 0):p.Bt.length≤64∧p.Hazards.length≤200∧∀ x∈p.Bt,x.List_.Items.length≤64∧x.List_.Signs.length≤200:=by
  unfold H9 at e
  obtain⟨h1,e⟩:=bz e (by decide)
  obtain⟨h2,e⟩:=bz e (by decide)
  have h1:=Ai7 h1
  have h2:=Ai7 h2
  obtain⟨h,_⟩:=Nf (fun i x s=>by
    unfold Hi
    repeat' first | exact Dh.ret (by decide) | exact Dh.ret (Ai8 ‹_›) | exact Dh.next _ | refine Dh.bif (fun _=>?_) (fun _=>?_) | refine Dh.bind fun _ _=>?_) e
  refine⟨by omega,by omega,fun x hx=>?_⟩
  obtain⟨i,hi⟩:=List.mem_iff_getElem?.1 hx
  have:=h i x hi
  unfold Hi at this
  obtain⟨_,this⟩:=bn this
  obtain⟨_,this⟩:=bn this
  have fin:∀ {o:Option (Out Unit Int)},o=some (.next ())→o=((Gk x.List_).bind fun y10=>bif decide (y10≠(0:Int))then some (Out.ret y10)else some (Out.next ()))→x.List_.Items.length≤64∧x.List_.Signs.length≤200:=by
    intro o ho h
    rw[ho]at h
    obtain⟨y,hy,h⟩:=Af h.symm
    have hy0:=(bn h).1
    have:y=0:=by simpa using hy0
    subst this
    exact nW hy
  cases hc:decide ((0:Int)<((i:Nat):Int))with
  | true=>
    rw[hc]at this
    obtain⟨y,_,this⟩:=Af this
    exact fin (bn this).2 rfl
  | false=>
    rw[hc]at this
    exact fin this rfl
theorem zV {l:List Bg} (e:Ib l=some 0):l.length≤64∧∀ m∈l,1≤m.Slide∧m.Slide≤9999:=by
  unfold Ib at e
  obtain⟨h1,e⟩:=bz e (by decide)
  have h1:=Ai7 h1
  obtain⟨h,_⟩:=Nf (fun i x s=>by
    unfold Hk
    repeat' first | exact Dh.ret (by decide) | exact Dh.next _ | refine Dh.okB ?_ | refine Dh.bif (fun _=>?_) (fun _=>?_) | refine Dh.bind fun _ _=>?_) e
  refine⟨by omega,fun c hc=>?_⟩
  obtain⟨i,hi⟩:=List.mem_iff_getElem?.1 hc
  have:=h i c hi
  unfold Hk at this
  simp only[lY,Option.bind_some]at this
  exact bnot (bn (bn this).2).1
theorem mI {l:List Int} (hl:l.length≤9223372036854775807) (e:Kn l=some true):l.length≤32:=by
  unfold Kn at e
  obtain⟨o,h1,h2⟩:=Af e
  cases o with
  | ret r=>
    have:r=false:=Dh.Al (P:=fun r=>r=false) (fun i x s=>by
      unfold Hn
      repeat' first | exact Dh.ret rfl | exact Dh.next _ | refine Dh.bif (fun _=>?_) (fun _=>?_) | refine Dh.bind fun _ _=>?_) r h1
    subst this;cases h2
  | next s=>
    have hs:=Q9.1 h1
    have key:∀ (i:Nat) (x:Int),l[i]? =some x→(1≤x∧x≤32)∧∀ y,0<i→l[i - 1]? =some y→y<x:=by
      intro i x hx
      have hlt:=(List.getElem?_eq_some_iff.1 hx).1
      have h:=hs i x hx
      rw[Nat.zero_add]at h
      unfold Hn at h
      have bf':∀ {c:Bool} {b:Option (Out Unit Bool)},(bif c then some (.ret false)else b)=some (.next ())→c=false∧b=some (.next ()):=fun {c b} h=>by
        cases c with
        | false=>exact ⟨rfl,h⟩
        | true=>cases h
      obtain⟨c1,h⟩:=bf' h
      obtain⟨c2,h⟩:=bf' h
      have c1:=Ai7 c1
      have c2:=Ai7 c2
      refine⟨by omega,fun y h0 hy=>?_⟩
      rw[Ai9 (by omega),cond_true,Q1 h0 (by omega),A2 hy,Option.bind_some]at h
      have:=Ai7 (bf' h).1
      omega
    have hinc:Inc l:=W46.qX fun k x y hx hy=>(key (k+1) x hx).2 y (by omega) (by simpa using hy)
    by_cases e0:l.length=0
    ·omega
    ·have hx:l[l.length - 1]? =some (l[l.length - 1]'(by omega)):=Ajb (by omega)
     have g1:=W46.gU hinc (fun x hx=>by obtain⟨i,hi⟩:=List.mem_iff_getElem?.1 hx;exact(key i x hi).1.1) _ _ hx
     have g2:=(key _ _ hx).1.2
     omega
theorem Aac {l:List Bl} (hl:∀ b∈l,b.Zones.length≤9223372036854775807) (e:Ic l=some 0):∀ b∈l,b.Zones.length≤32:=by
  unfold Ic at e
  obtain⟨_,e⟩:=bz e (by decide)
  obtain⟨h,_⟩:=Nf (fun i x s=>by
    unfold E7
    repeat' first | exact Dh.ret (by decide) | exact Dh.next _ | refine Dh.bif (fun _=>?_) (fun _=>?_) | refine Dh.bind fun _ _=>?_) e
  intro b hb
  obtain⟨i,hi⟩:=List.mem_iff_getElem?.1 hb
  have:=h i b hi
  unfold E7 at this
  obtain⟨y,h1,h2⟩:=Af (bn (bn (bn (bn (bn (bn (bn (bn (bn (bn this).2).2).2).2).2).2).2).2).2).2
  have hy:=(bn h2).1
  have:y=true:=by simpa using hy
  subst this
  exact mI (hl b hb) h1
theorem v8 {f:Aj} (e:Kg f=some 0):Ie f.Map=some 0∧Ia f.Closures=some 0∧H9 f.Patrol=some 0∧Pq f.Surfaces=some 0∧Na f.Slides=some 0∧Ic f.Bulletin=some 0∧Ib f.Missions=some 0∧Nb f.Winches=some 0∧Nc f.Groomers=some 0:=by
  unfold Kg at e
  obtain⟨y1,h1,e⟩:=Af e
  obtain⟨y2,h2,e⟩:=Af e
  obtain⟨y3,h3,e⟩:=Af e
  obtain⟨y4,h4,e⟩:=Af e
  obtain⟨y5,h5,e⟩:=Af e
  obtain⟨y6,h6,e⟩:=Af e
  obtain⟨y7,h7,e⟩:=Af e
  obtain⟨y8,h8,e⟩:=Af e
  obtain⟨y9,h9,e⟩:=Af e
  unfold J5 at e
  rw[if_pos (by decide)]at e
  obtain⟨h,_⟩:=Nf (fun i x s=>by
    unfold F5
    refine Dh.bind fun y hy=>?_
    exact Dh.bif (fun hc=>Dh.ret (Ai8 hc)) fun _=>Dh.next _) e
  have key:∀ (k:Nat) y,k<9→[y1,y2,y3,y4,y5,y6,y7,y8,y9][k]? =some y→y=0:=by
    intro k y hk hy
    have:=h k () (by rw[List.getElem?_replicate,if_pos hk])
    unfold F5 at this
    rw[A2 hy,Option.bind_some]at this
    simpa using(bn this).1
  have k1:=key 0 y1 (by decide) rfl
  have k2:=key 1 y2 (by decide) rfl
  have k3:=key 2 y3 (by decide) rfl
  have k4:=key 3 y4 (by decide) rfl
  have k5:=key 4 y5 (by decide) rfl
  have k6:=key 5 y6 (by decide) rfl
  have k7:=key 6 y7 (by decide) rfl
  have k8:=key 7 y8 (by decide) rfl
  have k9:=key 8 y9 (by decide) rfl
  subst k1 k2 k3 k4 k5 k6 k7 k8 k9
  exact⟨h1,h2,h3,h4,h5,h6,h7,h8,h9⟩
structure FOK (f:Aj):Prop where
  map:K6 f.Map
  clo:∀ c∈f.Closures,1≤c.By∧c.By≤6
  lists:∀ x∈f.Patrol.Bt,x.List_.Items.length≤64∧x.List_.Signs.length≤200
  listsL:f.Patrol.Bt.length≤64
  slides:S50.bG f.Slides
  misL:f.Missions.length≤64
  mis:∀ m∈f.Missions,1≤m.Slide∧m.Slide≤9999
  ropes:W46.fI f.Winches
  bul:∀ b∈f.Bulletin,b.Zones.length≤32
  packs:∀ p∈f.Packs,(0≤p.Pack.Natural∧p.Pack.Natural≤20000)∧(0≤p.Pack.Machine∧p.Pack.Machine≤20000)∧50≤p.Pack.Density∧p.Pack.Density≤900
  liftsL:f.Lifts.length≤32
  packsL:f.Packs.length≤64
  statL:f.Status.length≤64
  stat:∀ x∈f.Status,(Jt f.Map x.Run).2=true
  statR:K5 Bj.Run f.Status
theorem w8 {f:Aj} (hi:vB f) (hs:f.Slides.length≤9223372036854775807) (e:H8 f=some 0):FOK f:=by
  unfold H8 at e
  obtain⟨y,hp,e⟩:=Af e
  have hy:y=0:=by
    by_cases h:y=0
    ·exact h
    ·rw[Ai9 (p:=y≠0) h]at e
     exact Option.some.inj e
  subst hy
  rw[show decide ((0:Int)≠0)=false from rfl,cond_false]at e
  obtain⟨p1,p2,p3,p4,p5,p6,p7,p8,p9⟩:=v8 hp
  obtain⟨l1,e⟩:=bz e (by decide)
  obtain⟨l2,e⟩:=bz e (by decide)
  obtain⟨l3,e⟩:=bz e (by decide)
  have l1:=Ai7 l1
  have l2:=Ai7 l2
  have l3:=Ai7 l3
  obtain⟨_,e⟩:=Nf (fun i x s=>by
    unfold Nt
    repeat' first | exact Dh.ret (by decide) | exact Dh.next _ | refine Dh.bif (fun _=>?_) (fun _=>?_) | refine Dh.bind fun _ _=>?_) e
  unfold Ki at e
  obtain⟨hpk,e⟩:=Nf (fun i x s=>by
    unfold Kj
    repeat' first | exact Dh.ret (by decide) | exact Dh.next _ | refine Dh.bif (fun _=>?_) (fun _=>?_) | refine Dh.bind fun _ _=>?_) e
  unfold Kh at e
  obtain⟨hst,_⟩:=Nf (fun i x s=>by
    unfold Kk
    repeat' first | exact Dh.ret (by decide) | exact Dh.next _ | refine Dh.bif (fun _=>?_) (fun _=>?_) | refine Dh.bind fun _ _=>?_) e
  obtain⟨r10,a1,a2⟩:=qE f.Map
  rw[p1]at a1;obtain rfl:=Option.some.inj a1
  obtain⟨r50,b1,b2,b3⟩:=S50.Wi f.Slides ⟨hs,hi.zones⟩
  rw[p5]at b2;obtain rfl:=Option.some.inj b2
  obtain⟨r46,c1,c2,c3⟩:=W46.mU hi.runs
  rw[p8]at c1;obtain rfl:=Option.some.inj c1
  have hP:=wJ p3
  have hM:=zV p7
  have stat:∀ (i:Nat) (x:Bj),f.Status[i]? =some x→(Jt f.Map x.Run).2=true∧∀ y,0<i→f.Status[i - 1]? =some y→y.Run<x.Run:=by
    intro i x hx
    have hlt:=(List.getElem?_eq_some_iff.1 hx).1
    have h:=hst i x hx
    unfold Kk at h
    rw[X0,Option.bind_some]at h
    by_cases h0:(0:Int)<((i:Nat):Int)
    ·rw[Ai9 h0,cond_true]at h
     obtain⟨y,h1,h2⟩:=cW hlt (by omega) (by omega)
     rw[h1,Option.bind_some]at h
     obtain⟨g1,h⟩:=bn h
     have g2:=(bn h).1
     refine⟨by simpa using g2,fun z _ hz=>?_⟩
     rw[h2]at hz;obtain rfl:=Option.some.inj hz
     have:=Ai7 g1;omega
    ·rw[Aja h0,cond_false]at h
     have g2:=(bn h).1
     exact⟨by simpa using g2,fun z h _=>by omega⟩
  refine⟨a2.1 rfl,Aab p2,hP.2.2,hP.1,b3.1 rfl,hM.1,hM.2,c3.1 rfl,Aac hi.bzones p6,fun p hp=>?_,by omega,by omega,by omega,fun x hx=>?_,?_⟩
  ·obtain⟨i,hi⟩:=List.mem_iff_getElem?.1 hp
   have:=hpk i p hi
   unfold Kj at this
   obtain⟨_,this⟩:=bn this
   obtain⟨_,this⟩:=bn this
   rw[lP,Option.bind_some]at this
   exact bnot (bn this).1
  ·obtain⟨i,hi⟩:=List.mem_iff_getElem?.1 hx
   exact(stat i x hi).1
  ·exact fun k x y hx hy=>(stat (k+1) x hx).2 y (by omega) (by simpa using hy)
theorem sK {f:Aj} (h:Se f):vB f:=by
  obtain⟨_,_,_,h4,_,_,h7,h8,_,h10,_⟩:=h
  exact⟨fun x hx=>⟨(h4.1.2 x hx).2.1.1,(h4.1.2 x hx).2.2.2.1⟩,fun x hx=>⟨(h7.2 x hx).2.1.1,(h7.2 x hx).2.2.1.1⟩,fun x hx=>(h8.2 x hx).2.2.2.2.1.1,fun x hx=>(h10.2 x hx).2.2.2.1⟩
def signed (l:Bq) (t x:Int) (s:Ft):Bool:=decide (s.Item=x)&&(decide (s.At≤t)&&decide (t<IntKind.i64.wrap (s.At+l.Every)))
def opens (l:Bq) (t:Int):List Int:=l.Items.filter fun x=>!l.Signs.any (signed l t x)
theorem wO {l:Bq} (t:Int) (h:l.Items.length≤1000):Ln l t=some (opens l t):=by
  unfold Ln
  rw[C5 (step:=Jc l t) (p:=fun x=>!l.Signs.any (signed l t x)) (g:=id) (by omega) (fun k x s hx=>by
   unfold Jc
   rw[Fe (step:=Jb l t s x) (signed l t x) (fun _=>Out.next s) (fun k' y _=>by
    unfold Jb signed
    rw[Ai9 (Int.natCast_nonneg k')]
    cases decide (y.Item=x)<;>cases decide (y.At≤t)<;>cases decide (t<IntKind.i64.wrap (y.At+l.Every))<;>rfl)]
   cases hf:l.Signs.find? (signed l t x)with
   | none=>
     have:l.Signs.any (signed l t x)=false:=by rw[List.any_eq_false];exact List.find?_eq_none.1 hf
     rw[this];rfl
   | some y=>
     have:l.Signs.any (signed l t x)=true:=by rw[List.any_eq_true];exact⟨y,List.mem_of_find?_eq_some hf,List.find?_some hf⟩
     rw[this];rfl)]
  rw[List.map_id];rfl
theorem x8 (l:Bq) (x t:Int):∃ r,cK l x t=some r∧decide (r=t)= !l.Signs.any (signed l t x):=by
  unfold cK
  obtain⟨s',h1,h2,h3⟩:=Dp (ρ:=Int) (step:=U2 l x t) (l:=l.Signs) (s:=t) (fun k s=>t≤s∧(s=t↔∀ y∈l.Signs.take k,signed l t x y=false)) ⟨Int.le_refl _,by simp⟩ (fun k y s hk ⟨i1,i2⟩=>by
    have fin:∀ s2,t≤s2→(s2=t↔s=t∧signed l t x y=false)→(t≤s2∧(s2=t↔∀ z∈l.Signs.take (k+1),signed l t x z=false)):=fun s2 a b=>by
      refine⟨a,?_⟩
      rw[b,i2,Bx hk]
      constructor
      ·rintro⟨h1,h2⟩ z hz
       rw[List.mem_append,List.mem_singleton]at hz
       rcases hz with hz | rfl
       ·exact h1 z hz
       ·exact h2
      ·intro h
       exact⟨fun z hz=>h z (List.mem_append_left _ hz),h y (by simp)⟩
    unfold U2
    by_cases c1:y.Item=x
    ·by_cases c2:y.At≤t
     ·by_cases c3:t<IntKind.i64.wrap (y.At+l.Every)
      ·rw[Ai9 c1,Ai9 c2,Ai9 c3]
       refine⟨_,rfl,fin _ (by split<;>omega) ?_⟩
       have:signed l t x y=true:=by unfold signed;rw[Ai9 c1,Ai9 c2,Ai9 c3];rfl
       rw[this]
       constructor
       ·intro h;split at h<;>omega
       ·rintro⟨_,h⟩;cases h
      ·rw[Ai9 c1,Ai9 c2,Aja c3]
       refine⟨_,rfl,fin _ i1 ?_⟩
       have:signed l t x y=false:=by unfold signed;rw[Ai9 c1,Ai9 c2,Aja c3];rfl
       rw[this];simp
     ·rw[Ai9 c1,Aja c2]
      refine⟨_,rfl,fin _ i1 ?_⟩
      have:signed l t x y=false:=by unfold signed;rw[Aja c2];simp
      rw[this];simp
    ·rw[Aja c1]
     refine⟨_,rfl,fin _ i1 ?_⟩
     have:signed l t x y=false:=by unfold signed;rw[Aja c1];rfl
     rw[this];simp)
  rw[List.take_length]at h3
  rw[h1]
  refine⟨s',rfl,?_⟩
  rw[Bool.eq_iff_iff,decide_eq_true_iff,h3,Bool.not_eq_true',List.any_eq_false]
  simp
theorem pZ {l:Bq} (t:Int) (h:l.Items.length≤1000):Ze l t=some (opens l t):=by
  unfold Ze
  rw[C5 (step:=Tj l t) (p:=fun x=>!l.Signs.any (signed l t x)) (g:=id) (by omega) (fun k x s hx=>by
   unfold Tj
   obtain⟨r,h1,h2⟩:=x8 l x t
   rw[h1,Option.bind_some,h2];rfl)]
  rw[List.map_id];rfl
theorem yS {l:Bq} (t:Int) (h:l.Items.length≤1000):Oh l t=U4 l t∧Tot (U4 l t):=by
  unfold Oh U4
  rw[wO t h,pZ t h]
  exact⟨rfl,Tot.some _⟩
theorem vY {p:Ca} (run t:Int) (h:∀ x∈p.Bt,x.List_.Items.length≤64):Ag (Li p run t) (Su p run t):=by
  obtain⟨r,h1,h2⟩:=sF (step:=M8 run) (l:=p.Bt) (fun x=>decide (x.Run=run)) (fun k x _=>by unfold M8;rfl)
  have e2:Nu p run=some r:=h1
  have e1:Ku p run=some r:=h1
  unfold Li Su
  rw[e1,e2,Option.bind_some,Option.bind_some]
  rcases h2 with⟨rfl,_⟩ | ⟨k,x,rfl,hx,_⟩
  ·exact Ag.some _
  ·rw[Aja (p:=((k:Nat):Int)<0) (by omega),cond_false,cond_false,A2 hx,Option.bind_some,Option.bind_some]
   obtain⟨d1,d2⟩:=yS (l:=x.List_) t (by have:=h x (Ajc hx);omega)
   rw[d1]
   refine Ag.bind (Ag.refl d2) fun y _ _=>Ag.bif rfl (fun _=>Ag.some _) fun _=>?_
   refine Ag.bind (Ag.Al fun i z s _=>?_) fun o _ _=>Ag.on fun _ _=>Ag.some _
   unfold Mp Wm
   rw[Ai9 (Int.natCast_nonneg i)]
   exact Ag.bif rfl (fun _=>Ag.some _) fun _=>Ag.some _
theorem xE {p:Fu} (h:(0≤p.Natural∧p.Natural≤20000)∧(0≤p.Machine∧p.Machine≤20000)∧50≤p.Density∧p.Density≤900):∃ d,Kd p=some (d,0)∧Wu p=some (d,0):=by
  unfold Kd Wu Nr
  rw[j5,lP,Ai9 h]
  simp only[Option.bind_some,Bool.not_true,cond_false]
  rw[gA (by omega)]
  exact⟨_,rfl,rfl⟩
theorem rA {f:Aj} (F:FOK f) (run:Int):Ag (Fh f run) (Uy f run):=by
  unfold Fh Uy
  refine Ag.bind (Ag.Al fun i x s hx=>?_) fun o _ _=>Ag.on fun _ _=>Ag.some _
  unfold Gq Yx
  refine Ag.bif rfl (fun _=>?_) fun _=>Ag.some _
  obtain⟨d,h1,h2⟩:=xE (F.packs x (Ajc hx))
  rw[h1,h2,Aja (p:=((i:Nat):Int)<0) (by omega)]
  exact⟨_,rfl,rfl⟩
theorem FOK.few {f:Aj} (F:FOK f):W46.Few f.Winches:=⟨by have:=F.ropes.len;omega,fun w hw=>by have:=(F.ropes.rope w hw).runs.len;omega⟩
theorem uH {most:Int} {l:List Int} (h:S50.Ta most l) (hm:most≤100):l.length≤100:=by
  by_cases e:l.length=0
  ·omega
  ·have hx:l[l.length - 1]? =some (l[l.length - 1]'(by omega)):=Ajb (by omega)
   have h1:=W46.gU h.2 (fun x hx=>(h.1 x hx).1) _ _ hx
   have h2:=(h.1 _ (Ajc hx)).2
   omega
theorem FOK.small {f:Aj} (F:FOK f):S50.Small f.Slides:=⟨by have:=F.slides.1;omega,fun s hs=>⟨uH (F.slides.at hs).2.2.1 (by decide),trivial⟩⟩
theorem x7 {f:Aj} (F:FOK f) (run zone:Int) :
    Ag ((E2 f).bind fun y5=>(Gi f.Slides y5).bind fun y6=>(Br y6 zone).bind fun y7=>(bif y7 then some (10:Int)else (Li f.Patrol run f.Time).bind fun y8=>(bif (!y8)then some (14:Int)else (Fh f run).bind fun y9=>(bif (!y9)then some (5:Int)else some (0:Int)))))
     ((Qv f).bind fun y6=>(Wp f.Slides y6).bind fun y7=>(E5 y7 zone).bind fun y8=>(bif y8 then some (10:Int)else (Su f.Patrol run f.Time).bind fun y9=>(bif (!y9)then some (14:Int)else (Uy f run).bind fun y10=>(bif (!y10)then some (5:Int)else some (0:Int))))):=by
  obtain⟨L,h1,h2,h3⟩:=tY F.map
  rw[h1,h2,Option.bind_some,Option.bind_some,S50.vD F.small (fun x hx=>(F.slides.at hx).1) (by omega),S50.m7 F.small F.slides (by omega),Option.bind_some,Option.bind_some,contains_eq,Td,Option.bind_some,Option.bind_some]
  refine Ag.bif rfl (fun _=>Ag.some _) fun _=>?_
  refine Ag.bind (vY run f.Time fun x hx=>(F.lists x hx).1) fun y _ _=>Ag.bif rfl (fun _=>Ag.some _) fun _=>?_
  exact Ag.bind (rA F run) fun y _ _=>Ag.bif rfl (fun _=>Ag.some _) fun _=>Ag.some _
theorem S6 {f:Aj} {run:Int} (h:(Jt f.Map run).2=false):Cz f run=some 8:=by
  unfold Cz
  rw[Sm,Option.bind_some,h];rfl
theorem dF {f:Aj} (F:FOK f) {run:Int} (h:(Jt f.Map run).2=true):Ag (Cz f run) (St f (Jt f.Map run).1):=by
  have hID:=(bP h).2
  unfold Cz St
  rw[Sm,Option.bind_some,h,Bool.not_true,cond_false,hID]
  rw[yV f.Map f.Closures run h,vZ F.clo run h,Option.bind_some,Option.bind_some]
  refine Ag.bif rfl (fun _=>Ag.some _) fun _=>?_
  rw[z7,x6,Option.bind_some,Option.bind_some,W46.vM F.few,W46.tL F.ropes,Option.bind_some,Option.bind_some,contains_eq,Td,Option.bind_some,Option.bind_some]
  rw[rF f _ (by have:=F.misL;omega),nB f _ F.mis,Option.bind_some,Option.bind_some]
  unfold Eu
  have R:=x7 F run (Jt f.Map run).1.Zone
  cases gon f.Groomers run with
  | true=>exact Ag.some _
  | false=>
    cases decide (run∈norm (W46.Kf f.Winches f.Time))with
    | true=>exact Ag.some _
    | false=>
      cases blasted f (Jt f.Map run).1.Zone with
      | true=>exact Ag.some _
      | false=>exact R
theorem iL {f:Aj} (F:FOK f) (run:Int):Tot (Cz f run):=by
  cases h:(Jt f.Map run).2 with
  | false=>exact ⟨8,S6 h⟩
  | true=>obtain ⟨e,h1,_⟩:=dF F h;exact⟨e,h1⟩
def Fc (f:Aj) (run:Int):Bool:=decide (Cz f run=some 0)
theorem w4 {f:Aj} {run:Int} (h:Fc f run=true):(Jt f.Map run).2=true:=by
  cases e:(Jt f.Map run).2 with
  | true=>rfl
  | false=>unfold Fc at h;rw[S6 e]at h;cases h
theorem Ya {f:Aj} {run e:Int} (h:Cz f run=some e):Fc f run=decide (e=0):=by
  unfold Fc;rw[h];simp
def pub (f:Aj):List Int:=(f.Lifts.filter fun x=>decide (x.Mode=1)).map Cr.Lift
theorem cQ {f:Aj} (F:FOK f):F1 f=some (pub f)∧Ns f=some (pub f):=by
  have:=F.liftsL
  constructor
  ·unfold F1
   rw[C5 (step:=G8) (p:=fun x=>decide (x.Mode=1)) (g:=Cr.Lift) (by omega) (fun k x s _=>rfl)];rfl
  ·unfold Ns
   rw[C5 (step:=V0) (p:=fun x=>decide (x.Mode=1)) (g:=Cr.Lift) (by omega) (fun k x s _=>rfl)];rfl
theorem c9 {m:Bb} (M:K6 m) (lifts runs:List Int) (run:Int):∃ b,Rc m lifts runs run=some b∧Pu m lifts runs run=some b∧(b=true↔(Jt m run).2=true∧RR m lifts runs (Jt m run).1.From):=by
  obtain⟨a,e1,f1⟩:=lM M lifts runs
  obtain⟨a',e2,f2⟩:=iX M lifts runs
  obtain rfl:=f1.unique f2
  unfold Rc Pu
  rw[Sm,X0,Option.bind_some,Option.bind_some]
  cases h:(Jt m run).2 with
  | false=>exact ⟨false,rfl,rfl,by simp⟩
  | true=>exact ⟨decide ((Jt m run).1.From∈a),by simp[e1,contains_eq],by simp[e2,fA],by simp[f1.mem]⟩
def Lnk (f:Aj) (op:List Int) (run:Int):Prop:=((Jt f.Map run).2=true∧RR f.Map (pub f) op (Jt f.Map run).1.From)∧HH f.Map op (Jt f.Map run).1.To
noncomputable def lnk (f:Aj) (op:List Int) (run:Int):Bool:=@decide (Lnk f op run) (Classical.propDecidable _)
theorem Rz {f:Aj} {op:List Int} {run:Int}:lnk f op run=true↔Lnk f op run:=by unfold lnk;exact @decide_eq_true_iff _ (Classical.propDecidable _)
theorem wI {f:Aj} {op op':List Int} {run:Int} (h:∀ x∈op,x∈op') (hl:lnk f op run=true):lnk f op' run=true:=by
  rw[Rz]at *
  refine⟨⟨hl.1.1,Rch.mono (fun e he=>?_) (fun n hn=>hn) hl.1.2⟩,Rch.mono (fun e he=>?_) (fun n hn=>hn) hl.2⟩
  ·rcases List.mem_append.1 he with he | he
   ·exact List.mem_append.2 (.inl he)
   ·exact List.mem_append.2 (.inr (kR h e he))
  ·exact gK.2 (kR h _ (gK.1 he))
theorem j9 {f:Aj} (F:FOK f) (op:List Int) (run:Int):Ed f op run=some (lnk f op run):=by
  obtain⟨b,h1,_,h3⟩:=c9 F.map (pub f) op run
  obtain⟨r,g1,g2⟩:=yL F.map op
  unfold Ed
  rw[Sm,Option.bind_some,(cQ F).1,Option.bind_some,h1,Option.bind_some,g1,Option.bind_some,contains_eq,Option.bind_some]
  cases b with
  | false=>
    have:lnk f op run=false:=by
      rw[Bool.eq_false_iff];intro h;have:=h3.2 (Rz.1 h).1;cases this
    rw[this];rfl
  | true=>
    rw[cond_true]
    congr 1
    rw[Bool.eq_iff_iff,decide_eq_true_iff,Rz,g2.mem]
    exact⟨fun h=>⟨h3.1 rfl,h⟩,fun h=>h.2⟩
theorem qA {f:Aj} (F:FOK f) (op:List Int) {run:Int} {α:Type} (A B:Option α):((Ns f).bind fun y3=>(Pu f.Map y3 op run).bind fun y4=>(bif (!y4)then A else(Rn f.Map op).bind fun y5=>(E5 y5 (Jt f.Map run).1.To).bind fun y6=>(bif (!y6)then A else B)))=(bif lnk f op run then B else A):=by
  obtain⟨b,_,h1,h3⟩:=c9 F.map (pub f) op run
  obtain⟨r,g1,g2⟩:=mW F.map op
  rw[(cQ F).2,Option.bind_some,h1,Option.bind_some,g1,Option.bind_some,Td,Option.bind_some]
  cases b with
  | false=>
    have:lnk f op run=false:=by
      rw[Bool.eq_false_iff];intro h;have:=h3.2 (Rz.1 h).1;cases this
    rw[this];rfl
  | true=>
    have:lnk f op run=decide ((Jt f.Map run).1.To∈r):=by
      rw[Bool.eq_iff_iff,decide_eq_true_iff,Rz,g2.mem]
      exact⟨fun h=>h.2,fun h=>⟨h3.1 rfl,h⟩⟩
    rw[this]
    cases decide ((Jt f.Map run).1.To∈r)<;>rfl
noncomputable def Wv (f:Aj) (op:List Int) (run:Int):Bool:=Fc f run&&lnk f op run
theorem pQ {f:Aj} (F:FOK f) (op:List Int) (run:Int):∃ e,Cw f op run=some e∧Uf f op run=some e∧decide (e=0)=Wv f op run:=by
  unfold Cw Uf Wv
  rw[X0,Option.bind_some]
  cases h:(Jt f.Map run).2 with
  | false=>
    rw[Ya (S6 h),S6 h]
    exact⟨8,rfl,rfl,rfl⟩
  | true=>
    obtain⟨e,h1,h2⟩:=dF F h
    rw[Ya h1,h1,h2,Option.bind_some,Bool.not_true,cond_false,Option.bind_some]
    by_cases h0:e=0
    ·subst h0
     rw[show decide ((0:Int)≠0)=false from rfl,cond_false,cond_false,qA F op,j9 F,Option.bind_some]
     cases lnk f op run with
     | true=>exact ⟨0,rfl,rfl,rfl⟩
     | false=>exact ⟨16,rfl,rfl,rfl⟩
    ·rw[Ai9 (p:=e≠0) h0,Aja h0]
     exact⟨e,rfl,rfl,by rw[Aja h0];rfl⟩
theorem yN {L:List Int→Int→Bool} (s:List Int):gfp L (stp L s)=gfp L s:=by
  have h1:stp L (iter L ((stp L s).length+1) s)=iter L ((stp L s).length+1) s:=Sy (L:=L) _ (stp L s) (Nat.le_refl _)
  exact eA h1
theorem O3 {l:List Int} (h:l.length≤549755813888):B8 l=some l:=by unfold B8;rw[Ce h]
theorem yI {f:Aj} (F:FOK f) {s:List Int} (h:s.length≤1000):Al (Fi f s) 0 s []=some (.next (stp (lnk f) s)):=by
  rw[C5 (step:=Fi f s) (p:=lnk f s) (g:=id) (by omega) (fun k x t _=>by unfold Fi;rw[j9 F,Option.bind_some];rfl),List.map_id];rfl
theorem kA {f:Aj} (F:FOK f) {s:List Int} (h:s.length≤1000):D8 (Dm f) fuel s=some (.ret (gfp (lnk f) s)):=by
  obtain⟨r,h1,h2⟩:=Gz (step:=Dm f) (fun t=>t.length≤1000∧gfp (lnk f) t=gfp (lnk f) s) (fun r=>r=gfp (lnk f) s) (fun t=>t.length) (by
    rintro t ⟨i1,i2⟩
    have hl:=(eZ (L:=lnk f) t).length_le
    unfold Dm
    rw[yI F i1,Option.bind_some]
    show(∃ s',(bif _ then _ else _)=_∧_)∨(∃ r,(bif _ then _ else _)=_∧_)
    by_cases e:(stp (lnk f) t).length=t.length
    ·rw[Ai9 (by omega)]
     refine .inr ⟨_,rfl,?_⟩
     have e2:=r6 e
     rw[e2,← i2]
     exact(Wy e2 _).symm
    ·rw[Aja (by omega)]
     exact .inl ⟨_,rfl,⟨by omega,by rw[yN,i2]⟩,by omega⟩) fuel s ⟨h,rfl⟩ (by unfold fuel;omega)
  rw[h1,h2]
theorem wN {f:Aj} (F:FOK f) {s:List Int} (h:s.length≤1000) {k:Nat} {x:Int} (hk:s[k]? =some x) (hx:Fc f x=false) (hb:(s.take k).filter (Fc f)=s.take k) :
    D8 (Dz f) fuel ((k:Int),(k:Int)+1,s)=some (.ret (gfp (lnk f) (s.filter (Fc f)))):=by
  have hlt:=(List.getElem?_eq_some_iff.1 hk).1
  obtain⟨r,h1,h2⟩:=Gz (step:=Dz f) (fun v=>∃ i j:Nat,v.1=(i:Int)∧v.2.1=(j:Int)∧i<j∧j≤s.length∧v.2.2.length=s.length∧v.2.2.take i=(s.take j).filter (Fc f)∧v.2.2.drop j=s.drop j) (fun r=>r=gfp (lnk f) (s.filter (Fc f))) (fun v=>(s.length - v.2.1).toNat) (by
    rintro⟨iv,jv,l⟩ ⟨i,j,rfl,rfl,hij,hj,hl,ht,hd⟩
    dsimp only at *
    unfold Dz
    dsimp only
    by_cases hjn:j<l.length
    ·rw[Ai9 (by omega),cond_true]
     have hy:l[j]? =some (l[j]'hjn):=Ajb hjn
     generalize l[j]'hjn=y at hy
     have hys:s[j]? =some y:=by
       have:(l.drop j)[0]? =some y:=by rw[List.getElem?_drop];exact hy
       rw[hd,List.getElem?_drop]at this;exact this
     obtain⟨e,he⟩:=iL F y
     rw[A2 hy,Option.bind_some,he,Option.bind_some]
     have hfr:(!decide (e≠0))=Fc f y:=by rw[Ya he];by_cases e0:e=0<;>simp[e0]
     have wi:IntKind.i64.wrap ((i:Int)+1)=((i+1:Nat):Int):=Q2 (by omega)
     have wj:IntKind.i64.wrap ((j:Int)+1)=((j+1:Nat):Int):=Q2 (by omega)
     have hts:(s.take (j+1)).filter (Fc f)=(s.take j).filter (Fc f)++[y].filter (Fc f):=by rw[Bx hys,List.filter_append]
     rw[hfr,wi,wj]
     have hd2:∀ l':List Int,l'.drop j=s.drop j→l'.drop (j+1)=s.drop (j+1):=fun l' h=>by
       have:=congrArg (List.drop 1) h
       rwa [List.drop_drop,List.drop_drop]at this
     cases hf:Fc f y with
     | false=>
       rw[cond_false]
       refine .inl ⟨_,rfl,⟨i,j+1,rfl,rfl,by omega,by omega,hl,?_,hd2 _ hd⟩,by dsimp only;omega⟩
       rw[hts,ht,List.filter_cons_of_neg (by rw[hf];decide),List.filter_nil,List.append_nil]
     | true=>
       rw[cond_true]
       have hi:l[i]? =some (l[i]'(by omega)):=Ajb (by omega)
       rw[A2 hi,Option.bind_some]
       refine .inl ⟨_,rfl,⟨i+1,j+1,rfl,rfl,by omega,by omega,by simp[hl],?_,?_⟩,by dsimp only;omega⟩
       ·rw[hts,List.filter_cons_of_pos hf,List.filter_nil,← ht,Int.toNat_natCast]
        have hi2:(l.set i y)[i]? =some y:=by rw[List.getElem?_set_self (by omega)]
        rw[Bx hi2,List.take_set_of_le (Nat.le_refl _)]
       ·rw[Int.toNat_natCast]
        refine hd2 _ ?_
        rw[List.drop_set_of_lt hij];exact hd
    ·have e:j=s.length:=by omega
     subst e
     rw[Aja (by omega),cond_false,M1 (by omega),M1 (by omega),Int.toNat_natCast]
     rw[List.take_length]at ht
     have hti:((l.take i)++(List.replicate (l.length - i) (0:Int))).take i=s.filter (Fc f):=by
       rw[List.take_append_of_le_length (by rw[List.length_take];omega),List.take_take,Nat.min_self,ht]
     rw[hti]
     have:=kA F (s:=s.filter (Fc f)) (by have:=List.length_filter_le (Fc f) s;omega)
     have e5:Jz f=Dm f:=rfl
     rw[e5,this]
     exact .inr ⟨_,rfl,rfl⟩) fuel ((k:Int),(k:Int)+1,s) ⟨k,k+1,rfl,rfl,by omega,by omega,rfl,(by dsimp only;rw[Bx hk,List.filter_append,hb,List.filter_cons_of_neg (by rw[hx];decide),List.filter_nil,List.append_nil]),rfl⟩ (by unfold fuel;dsimp only;omega)
  ·rw[h1,h2]
noncomputable def Ja (f:Aj) (runs:List Int):List Int:=gfp (lnk f) ((norm runs).filter (Fc f))
theorem nJ (xs:List Int):(norm xs).length≤xs.length:=Jk (Ul xs).nodup fun x hx=>(Rx xs x).1 hx
theorem aH {f:Aj} (F:FOK f) {runs:List Int} (h:runs.length≤1000):Dw f runs=some (Ja f runs):=by
  have hl:=nJ runs
  unfold Dw
  rw[O3 (by omega),Option.bind_some,Ce (by omega),Ce (by omega)]
  show((Al (Fj f runs) 0 (norm runs) ()).bind fun o1=>o1.on fun s1=>(D8 (Dm f) fuel (norm runs)).bind fun o33=>o33.on fun _=>none)=_
  rcases Fk (step:=Fj f runs) (l:=norm runs) (s:=()) (fun k _=>((norm runs).take k).filter (Fc f)=(norm runs).take k) (fun r=>r=Ja f runs) rfl (fun k x u hk hI=>by
    have hlt:=(List.getElem?_eq_some_iff.1 hk).1
    obtain⟨e,he⟩:=iL F x
    unfold Fj
    rw[he,Option.bind_some]
    by_cases e0:e=0
    ·rw[Aja (p:=e≠0) (fun h=>h e0)]
     refine .inl ⟨_,rfl,?_⟩
     have hf:Fc f x=true:=by rw[Ya he,Ai9 e0]
     rw[Bx hk,List.filter_append,hI,List.filter_cons_of_pos hf,List.filter_nil]
    ·rw[Ai9 (p:=e≠0) e0,cond_true,Aja (p:=((k:Nat):Int)= -1) (by omega),cond_false]
     have hf:Fc f x=false:=by rw[Ya he,Aja e0]
     have key:=wN F (s:=norm runs) (by omega) hk hf hI
     have hw:IntKind.i64.wrap (((k:Nat):Int)+1)=(k:Int)+1:=by rw[Q2 (by omega)];rfl
     change (∃ s',((D8 (Dz f) fuel (((k:Nat):Int),IntKind.i64.wrap (((k:Nat):Int)+1),norm runs)).bind fun o16=>o16.on fun _=>none).bind (fun q30=>some (Out.ret q30))=_∧_)∨(∃ r,((D8 (Dz f) fuel (((k:Nat):Int),IntKind.i64.wrap (((k:Nat):Int)+1),norm runs)).bind fun o16=>o16.on fun _=>none).bind (fun q30=>some (Out.ret q30))=_∧_)
     rw[hw,key]
     exact .inr ⟨_,rfl,rfl⟩)with ⟨s',h1,h2⟩ | ⟨r,h1,rfl⟩
  ·rw[List.take_length]at h2
   rw[h1]
   show(D8 (Dm f) fuel (norm runs)).bind _=_
   rw[kA F (by omega)]
   unfold Ja
   rw[h2];rfl
  ·rw[h1];rfl
theorem qC {α:Type} {idf:α→Int} {l:List α} (h:K5 idf l):Inc (l.map idf):=W46.qX fun k x y hx hy=>by
  rw[List.getElem?_map]at hx hy
  obtain⟨a,ha,rfl⟩:=Option.map_eq_some_iff.1 hx
  obtain⟨b,hb,rfl⟩:=Option.map_eq_some_iff.1 hy
  exact h k a b ha hb
theorem kB {l:List Int} (h:Inc l) (p:Int→Bool):Inc (l.filter p):=List.Pairwise.filter p h
theorem wT {l l':List Int} (h:Inc l) (hs:l'.Sublist l):Inc l':=List.Pairwise.sublist hs h
theorem uE {L:List Int→Int→Bool} (n:Nat) (s:List Int):iter L (n+1) s=stp L (iter L n s):=by rw[gT n 1 s];rfl
theorem mT {f:Aj} (F:FOK f) (runs:List Int):Zd f runs=some (Ja f runs):=by
  have hR:=F.map.lenR
  unfold Zd
  rw[C5 (step:=Tg f runs) (p:=fun x=>decide (x.ID∈runs)&&Fc f x.ID) (g:=Cd.ID) (by omega) (fun k x t hx=>by
   unfold Tg
   have hm:=mR F.map hx
   have h1:=dF F (run:=x.ID) (by rw[hm])
   rw[hm]at h1
   obtain⟨e,h2,h3⟩:=h1
   rw[Td,Option.bind_some,h3,Option.bind_some,Ya h2]
   cases decide (x.ID∈runs)<;>rfl)]
  show Tf f _=_
  generalize hnow:(f.Map.Runs.filter fun x=>decide (x.ID∈runs)&&Fc f x.ID).map Cd.ID=now
  have hlen:now.length≤f.Map.Runs.length:=by rw[← hnow,List.length_map];exact List.length_filter_le _ _
  have heq:now=(norm runs).filter (Fc f):=by
    refine Pg ?_ (kB (Ul runs) _) fun x=>?_
    ·rw[← hnow]
     exact wT (qC F.map.runsR) (List.filter_sublist.map _)
    ·rw[← hnow,List.mem_map,List.mem_filter,Rx]
     constructor
     ·rintro⟨y,hy,rfl⟩
      rw[List.mem_filter,Bool.and_eq_true,decide_eq_true_iff]at hy
      exact hy.2
     ·rintro⟨h1,h2⟩
      have hr:=bP (w4 h2)
      refine⟨(Jt f.Map x).1,List.mem_filter.2 ⟨hr.1,?_⟩,hr.2⟩
      rw[hr.2,Ai9 h1,h2];rfl
  unfold Tf
  obtain⟨s',h1,h2⟩:=aO (ρ:=List Int) (n:=f.Map.Runs.length+1) (step:=Ti f) (s:=now) (by omega) (fun k s=>s=iter (lnk f) k now) rfl (fun k s hk hI=>by
    have hs:s.length≤64:=by rw[hI];exact Nat.le_trans (gQ _ _).length_le (by omega)
    refine⟨stp (lnk f) s,?_,by rw[hI,← uE]⟩
    obtain⟨r,g1,g2⟩:=mW F.map s
    unfold Ti
    rw[(cQ F).2,Option.bind_some,g1,Option.bind_some]
    rw[C5 (step:=Th f s (pub f) r) (p:=lnk f s) (g:=id) (by omega) (fun k x t hx=>by
     obtain⟨b,_,f1,f3⟩:=c9 F.map (pub f) s x
     unfold Th
     rw[X0,Option.bind_some,f1,Option.bind_some,Td,Option.bind_some]
     cases b with
     | false=>
       have:lnk f s x=false:=by
         rw[Bool.eq_false_iff];intro h;have:=f3.2 (Rz.1 h).1;cases this
       rw[this];rfl
     | true=>
       have:lnk f s x=decide ((Jt f.Map x).1.To∈r):=by
         rw[Bool.eq_iff_iff,decide_eq_true_iff,Rz,g2.mem]
         exact⟨fun h=>h.2,fun h=>⟨f3.1 rfl,h⟩⟩
       rw[this];rfl),List.map_id]
    rfl)
  rw[h1,h2]
  show some (iter (lnk f) (f.Map.Runs.length+1) now)=_
  rw[eA (Sy (f.Map.Runs.length+1) now (by omega)),heq];rfl
theorem gO {f:Aj} {runs:List Int} {x:Int} (h:x∈Ja f runs):x∈runs∧Fc f x=true:=by
  have:=List.mem_filter.1 ((l4 _).subset h)
  rw[Rx]at this;exact this
theorem nV (f:Aj) (runs:List Int):Inc (Ja f runs):=wT (kB (Ul runs) _) (l4 _)
theorem gP {f:Aj} {runs:List Int} {x:Int} (h:x∈Ja f runs):Wv f (Ja f runs) x=true:=by
  unfold Wv;rw[(gO h).2];exact wX h
theorem Zn {f:Aj} {runs S:List Int} (hS:∀ x∈S,Wv f S x=true) (h:∀ x∈S,x∈runs):∀ x∈S,x∈Ja f runs:=by
  refine uJ (L:=lnk f) (fun a b r=>wI) (fun r hr=>?_) fun r hr=>List.mem_filter.2 ⟨(Rx _ _).2 (h r hr),?_⟩
  ·have:=hS r hr;unfold Wv at this;rw[Bool.and_eq_true]at this;exact this.2
  ·have:=hS r hr;unfold Wv at this;rw[Bool.and_eq_true]at this;exact this.1
theorem wM (f:Aj) (runs:List Int):(Ja f runs).length≤runs.length:=Nat.le_trans (l4 _).length_le (Nat.le_trans (List.length_filter_le _ _) (nJ _))
theorem uB (f:Aj) (runs:List Int):Ja f (Ja f runs)=Ja f runs:=by
  refine Pg (nV f _) (nV f _) fun x=>⟨fun h=>(gO h).1,fun h=>?_⟩
  exact Zn (fun y hy=>gP hy) (fun y hy=>hy) x h
theorem fD (a b:List Int):My a b=some (decide (a=b)):=
  vS fun k x y hx hy=>by unfold Pd;rw[A2 hy];rfl
theorem gV {most:Int} {l:List Int} (h:S50.Ta most l):(l.length:Int)≤most∨l.length=0:=by
  by_cases e:l.length=0
  ·exact .inr e
  ·left
   have hx:l[l.length - 1]? =some (l[l.length - 1]'(by omega)):=Ajb (by omega)
   have h1:=W46.gU h.2 (fun x hx=>(h.1 x hx).1) _ _ hx
   have h2:=(h.1 _ (Ajc hx)).2
   omega
theorem Yf {α ρ:Type} {step:Nat→α→List α→Option (Out (List α) ρ)} {c:α→Option α} {l:List α} (hl:l.length≤1000) (hs:∀ k x s,step k x s=(c x).bind fun y=>chk (s.length+1) (some (.next (s++[y])))) (hc:∀ x∈l,c x=some x):Al step 0 l []=some (.next l):=by
  rw[C5 (p:=fun _=>true) (g:=id) (by omega) (fun k x s hx=>by rw[hs,hc x hx];rfl),List.map_id,List.filter_eq_self.2 (fun _ _=>rfl)]
theorem Abd {x:Cj} (h:x.List_.Items.length≤64∧x.List_.Signs.length≤200):Et x=some x:=by
  unfold Et C7
  rw[O3 (by omega),Option.bind_some,Ce (by omega)];rfl
theorem Abc {x:Bd} (h:S50.Bt x):Es x=some x:=by
  have h1:=gV h.2.1
  have h2:=gV h.2.2
  unfold Es
  rw[O3 (by omega),Option.bind_some,O3 (by omega)];rfl
theorem Abb {x:Bl} (h:x.Zones.length≤32):Er x=some x:=by
  unfold Er
  rw[O3 (by omega)];rfl
theorem Aba {x:A8} (h:x.Runs.length≤9999):Ep x=some x:=by
  unfold Ep
  rw[O3 (by omega)];rfl
def gC (l:List Bj):List Int:=(l.filter fun x=>x.Open).map Bj.Run
theorem wC (l:List Bj):(gC l).length≤l.length:=by unfold gC;rw[List.length_map];exact List.length_filter_le _ _
theorem gB {f:Aj} (h:f.Status.length≤1000):C4 f=some (gC f.Status):=by
  unfold C4
  rw[C5 (step:=F3) (p:=fun x=>x.Open) (g:=Bj.Run) (by omega) (fun k x s _=>rfl)];rfl
theorem sB {f:Aj} (h:f.Status.length≤1000):bU f=some (gC f.Status):=gB h
def Oo (K:List Int) (x:Bj):Bool:=x.Open&&!decide (x.Run∈K)
def iV (K:List Int) (t:Int) (x:Bj):Bj:=bif Oo K x then⟨x.Run,false,t⟩else x
def vE (f:Aj) (l:List Bj):Aj:=Aj.mk f.Map f.Lifts f.Closures f.Patrol f.Surfaces f.Packs f.Slides f.Bulletin f.Missions f.Winches f.Groomers l f.Depth f.Time
theorem vF (f:Aj) (K:List Int) {l:List Bj} (hl:l.length≤1000):Al (Ev f K) 0 l (l,[])=some (.next (l.map (iV K f.Time),(l.filter (Oo K)).map Bj.Run)):=by
  obtain⟨s',h1,h2⟩:=Dp (ρ:=Aj×List Int) (step:=Ev f K) (l:=l) (s:=(l,[])) (fun k s=>s=((l.take k).map (iV K f.Time)++l.drop k,((l.take k).filter (Oo K)).map Bj.Run)) (by simp) (fun k x s hk hI=>by
    have hlt:=(List.getElem?_eq_some_iff.1 hk).1
    have hlen:((l.take k).map (iV K f.Time)).length=k:=by simp;omega
    have hx:s.1[k]? =some x:=by
      rw[hI];dsimp only
      rw[List.getElem?_append_right (by omega),hlen,Nat.sub_self,List.getElem?_drop];exact hk
    have hs2:s.2.length≤k:=by
      rw[hI];dsimp only
      rw[List.length_map]
      have:=List.length_filter_le (Oo K) (l.take k)
      rw[List.length_take]at this;omega
    have hset:∀ y:Bj,s.1.set k y=(l.take k).map (iV K f.Time)++y::l.drop (k+1):=fun y=>by
      rw[hI];dsimp only
      rw[List.set_append_right _ _ (by omega),hlen,Nat.sub_self,List.drop_eq_getElem_cons hlt];rfl
    have hsame:s.1=(l.take k).map (iV K f.Time)++x::l.drop (k+1):=by
      rw[hI];dsimp only
      rw[List.drop_eq_getElem_cons hlt]
      rw[Ajb hlt]at hk
      rw[Option.some.inj hk]
    unfold Ev
    rw[A2 hx,Option.bind_some,contains_eq,Option.bind_some]
    rw[Bx hk,List.map_append,List.filter_append,List.map_append,List.append_assoc]
    have hu:iV K f.Time x=bif Oo K x then⟨x.Run,false,f.Time⟩else x:=rfl
    have hsh:Oo K x=(x.Open&&!decide (x.Run∈K)):=rfl
    cases ho:x.Open with
    | false=>
      rw[ho]at hsh
      have hsh:Oo K x=false:=hsh
      rw[cond_false,List.filter_cons_of_neg (by rw[hsh];decide)]
      rw[hsh]at hu
      refine⟨_,rfl,?_⟩
      rw[Prod.mk.injEq]
      exact⟨by rw[hsame];simp[hu],by rw[hI];simp⟩
    | true=>
      rw[ho,Bool.true_and]at hsh
      rw[cond_true]
      cases hd:decide (x.Run∈K)with
      | true=>
        rw[hd]at hsh
        have hsh:Oo K x=false:=hsh
        rw[List.filter_cons_of_neg (by rw[hsh];decide)]
        rw[hsh]at hu
        refine⟨_,rfl,?_⟩
        rw[Prod.mk.injEq]
        exact⟨by rw[hsame];simp[hu],by rw[hI];simp⟩
      | false=>
        rw[hd]at hsh
        have hsh:Oo K x=true:=hsh
        rw[List.filter_cons_of_pos hsh]
        rw[hsh]at hu
        rw[Bool.not_false,cond_true,Ce (by omega)]
        refine⟨_,rfl,?_⟩
        rw[Prod.mk.injEq]
        exact⟨by rw[List.set_set,hset];simp[hu],by rw[hI];simp⟩)
  rw[List.take_length,List.drop_length,List.append_nil]at h2
  rw[h1,h2]
theorem tB {f:Aj} (F:FOK f) (W:rV f):F2 f=some (vE f (f.Status.map (iV (Ja f (gC f.Status)) f.Time)),(f.Status.filter (Oo (Ja f (gC f.Status)))).map Bj.Run):=by
  have M:=F.map
  have hS:=F.statL
  have hn:=wC f.Status
  have:=M.lenN
  have:=M.lenL
  have:=M.lenR
  have:=M.lenB
  have:=F.liftsL
  have:=F.packsL
  have:=F.listsL
  have:=F.misL
  have:=W.closures
  have:=W.hazards
  have:=W.surfaces
  have:=W.slides
  have:=W.bulletin
  have:=W.winches
  have:=W.groomers
  have q1:=Yf (ρ:=Aj×List Int) (step:=Hc) (c:=Et) (l:=f.Patrol.Bt) (by omega) (fun k x s=>rfl) (fun x hx=>Abd (F.lists x hx))
  have q2:=Yf (ρ:=Aj×List Int) (step:=Hb) (c:=Es) (l:=f.Slides) (by omega) (fun k x s=>rfl) (fun x hx=>Abc (F.slides.at hx).2)
  have q3:=Yf (ρ:=Aj×List Int) (step:=Ha) (c:=Er) (l:=f.Bulletin) (by omega) (fun k x s=>rfl) (fun x hx=>Abb (F.bul x hx))
  have q4:=Yf (ρ:=Aj×List Int) (step:=G9) (c:=Ep) (l:=f.Winches) (by omega) (fun k x s=>rfl) (fun x hx=>Aba (F.ropes.rope x hx).runs.len)
  unfold F2
  rw[gB (by omega),Option.bind_some,aH F (by omega),Option.bind_some]
  unfold C8 C9 Dg Cg Cq Cu Cm Cn Co Cp D3
  rw[Ce (n:=f.Map.Nodes.length) (by omega),Option.bind_some,Ce (n:=f.Map.Lifts.length) (by omega),Option.bind_some,Ce (n:=f.Map.Runs.length) (by omega),Option.bind_some,O3 (by omega),Option.bind_some,
   Ce (n:=f.Lifts.length) (by omega),Option.bind_some,Ce (n:=f.Closures.length) (by omega),Option.bind_some,Ce (n:=f.Patrol.Bt.length) (by omega),q1,Option.bind_some]
  show(chk f.Patrol.Hazards.length (some f.Patrol.Hazards)).bind _=_
  rw[Ce (n:=f.Patrol.Hazards.length) (by omega),Option.bind_some,Ce (n:=f.Surfaces.length) (by omega),Option.bind_some,Ce (n:=f.Packs.length) (by omega),Option.bind_some,Ce (n:=f.Slides.length) (by omega),q2,Option.bind_some]
  show chk f.Bulletin.length _=_
  rw[Ce (n:=f.Bulletin.length) (by omega),q3,Option.bind_some]
  show(chk f.Missions.length (some f.Missions)).bind _=_
  rw[Ce (n:=f.Missions.length) (by omega),Option.bind_some,Ce (n:=f.Winches.length) (by omega),q4,Option.bind_some]
  show(chk f.Groomers.length (some f.Groomers)).bind _=_
  rw[Ce (n:=f.Groomers.length) (by omega),Option.bind_some,Ce (n:=f.Status.length) (by omega),Option.bind_some,vF f _ (by omega)]
  rfl
theorem pY {f:Aj} (F:FOK f):Uz f=some (vE f (f.Status.map (iV (Ja f (gC f.Status)) f.Time)),(f.Status.filter (Oo (Ja f (gC f.Status)))).map Bj.Run):=by
  have hS:=F.statL
  unfold Uz
  rw[sB (by omega),Option.bind_some,mT F,Option.bind_some]
  generalize Ja f (gC f.Status)=K
  obtain⟨s',h1,h2⟩:=Dp (ρ:=Aj×List Int) (step:=P9 f K) (l:=f.Status) (s:=([],[])) (fun k s=>s=((f.Status.take k).map (iV K f.Time),((f.Status.take k).filter (Oo K)).map Bj.Run)) rfl (fun k x s hk hI=>by
    have hlt:=(List.getElem?_eq_some_iff.1 hk).1
    have hs1:s.1.length≤k:=by rw[hI];simp;omega
    have hs2:s.2.length≤k:=by
      rw[hI];dsimp only
      rw[List.length_map]
      have:=List.length_filter_le (Oo K) (f.Status.take k)
      rw[List.length_take]at this;omega
    unfold P9
    rw[Td,Option.bind_some,Bx hk,List.map_append,List.filter_append,List.map_append]
    have hu:iV K f.Time x=bif Oo K x then⟨x.Run,false,f.Time⟩else x:=rfl
    have hsh:Oo K x=(x.Open&&!decide (x.Run∈K)):=rfl
    obtain⟨xr,xo,xs⟩:=x
    dsimp only at *
    cases xo with
    | false=>
      have hsh:Oo K ⟨xr,false,xs⟩=false:=hsh
      rw[cond_false,Ce (by omega),List.filter_cons_of_neg (by rw[hsh];decide)]
      rw[hsh]at hu
      refine⟨_,rfl,?_⟩
      rw[Prod.mk.injEq]
      exact⟨by rw[hI];simp[hu],by rw[hI];simp⟩
    | true=>
      rw[Bool.true_and]at hsh
      rw[cond_true]
      cases hd:decide (xr∈K)with
      | true=>
        rw[hd]at hsh
        have hsh:Oo K ⟨xr,true,xs⟩=false:=hsh
        rw[List.filter_cons_of_neg (by rw[hsh];decide)]
        rw[hsh]at hu
        rw[Bool.not_true,cond_false,Ce (by omega)]
        refine⟨_,rfl,?_⟩
        rw[Prod.mk.injEq]
        exact⟨by rw[hI];simp[hu],by rw[hI];simp⟩
      | false=>
        rw[hd]at hsh
        have hsh:Oo K ⟨xr,true,xs⟩=true:=hsh
        rw[List.filter_cons_of_pos hsh]
        rw[hsh]at hu
        rw[Bool.not_false,cond_true,Ce (by omega),Ce (by omega)]
        refine⟨_,rfl,?_⟩
        rw[Prod.mk.injEq]
        exact⟨by rw[hI];simp[hu],by rw[hI];simp⟩)
  rw[List.take_length]at h2
  rw[h1,h2];rfl
theorem bff {α:Type} {c:Bool} {a b r:α} (hc:c=false) (h:b=r):(bif c then a else b)=r:=by subst hc;exact h
theorem bft {α:Type} {c:Bool} {a b r:α} (hc:c=true) (h:a=r):(bif c then a else b)=r:=by subst hc;exact h
theorem x1 {f:Aj} (F:FOK f):Ag (Dv f) (Zc f):=by
  have:=F.statL
  unfold Dv Zc
  rw[gB (by omega),sB (by omega),Option.bind_some,Option.bind_some]
  refine Ag.bind (Ag.Al fun i x s _=>?_) fun o _ _=>Ag.on fun _ _=>Ag.some _
  obtain⟨e,h1,h2,_⟩:=pQ F (gC f.Status) x
  unfold Jx Yy
  rw[h1,h2]
  exact Ag.bif rfl (fun _=>Ag.some _) fun _=>Ag.some _
theorem jV {f:Aj} (F:FOK f) {b:Bool} (h:Zc f=some b):Dv f=some b:=by rw[(x1 F).eq,h]
theorem T7 {f:Aj} (F:FOK f) {op:List Int} {run e:Int} (h:Uf f op run=some e):Cw f op run=some e:=by
  obtain⟨e',h1,h2,_⟩:=pQ F op run
  rw[h]at h2;rw[h1,Option.some.inj h2]
def z54:Aj:=Aj.mk (Bb.mk [] [] [] []) [] [] (Ca.mk [] []) [] [] [] [] [] [] [] [] (0:Int) (0:Int)
theorem nF {f:Aj} (F:FOK f) (hs:f.Status=[]) {run e:Int} (hr:(Jt f.Map run).2=true) (he:e≠0) (h:Uf f [run] run=some e):F8 f run=some (z54,e):=by
  unfold F8
  rw[Sm,Option.bind_some,hr,gB (by rw[hs];decide),Option.bind_some,contains_eq,Option.bind_some,hs]
  refine bff rfl (bff rfl ?_)
  refine Dy (x:=.next ()) rfl ?_
  rw[Out.on]
  refine bff rfl ?_
  rw[Ce (by decide)]
  show(Cw f [run] run).bind _=_
  rw[T7 F h,Option.bind_some]
  exact bft (Ai9 he) rfl
def Eg:Aj:=(Aj.mk (Bb.mk [(Ck.mk (1:Int) (1000:Int)),(Ck.mk (2:Int) (2000:Int)),(Ck.mk (3:Int) (1500:Int))] [(Cc.mk (1:Int) (1:Int) (1:Int) (2:Int) (1000:Int) (5000:Int) (4:Int) (50:Int))] [(Cd.mk (1:Int) (1:Int) (2:Int) (3:Int) (2:Int) (1:Int) (800:Int)),(Cd.mk (2:Int) (1:Int) (3:Int) (1:Int) (2:Int) (1:Int) (800:Int))] [(1:Int)]) [(Cr.mk (1:Int) (1:Int))] [] (Ca.mk [(Cj.mk (1:Int) (Bq.mk [] (60:Int) [])),(Cj.mk (2:Int) (Bq.mk [] (60:Int) []))] []) [] [(C6.mk (1:Int) (100:Int) (Fu.mk (0:Int) (450:Int) (450:Int))),(C6.mk (2:Int) (100:Int) (Fu.mk (0:Int) (450:Int) (450:Int)))] [] [] [] [] [] [] (300:Int) (0:Int))
def Aap:List Bj:=[(Bj.mk (1:Int) true (0:Int)),(Bj.mk (2:Int) true (0:Int))]
def exA:Aj:=vE Eg Aap
def exB:Aj:=Aj.mk Eg.Map Eg.Lifts [(Bk.mk (1:Int) (2:Int) (1:Int) (0:Int))] Eg.Patrol Eg.Surfaces Eg.Packs Eg.Slides Eg.Bulletin Eg.Missions Eg.Winches Eg.Groomers Aap Eg.Depth Eg.Time
def exH:Aj:=Aj.mk Eg.Map Eg.Lifts Eg.Closures (Ca.mk Eg.Patrol.Bt [(Cv.mk (1:Int) (1:Int) (0:Int))]) Eg.Surfaces Eg.Packs Eg.Slides Eg.Bulletin Eg.Missions Eg.Winches Eg.Groomers Eg.Status Eg.Depth Eg.Time
def exD:Aj:=Aj.mk Eg.Map Eg.Lifts Eg.Closures Eg.Patrol Eg.Surfaces Eg.Packs Eg.Slides Eg.Bulletin Eg.Missions Eg.Winches Eg.Groomers Eg.Status (1001:Int) Eg.Time
def exS:Aj:=Aj.mk Eg.Map Eg.Lifts Eg.Closures Eg.Patrol Eg.Surfaces Eg.Packs [(Bd.mk (1:Int) [(1:Int)] [] (100:Int) (100:Int) (-1:Int))] Eg.Bulletin Eg.Missions Eg.Winches Eg.Groomers Eg.Status Eg.Depth Eg.Time
theorem exI {f:Aj} (h1:f.Patrol.Bt=Eg.Patrol.Bt) (h2:f.Slides=[]∨f.Slides=[(Bd.mk (1:Int) [(1:Int)] [] (100:Int) (100:Int) (-1:Int))]) (h3:f.Bulletin=[]) (h4:f.Winches=[]):vB f∧f.Slides.length≤9223372036854775807:=by
  refine⟨⟨?_,?_,?_,?_⟩,?_⟩
  ·rw[h1];simp[Eg]
  ·rcases h2 with h2 | h2<;>rw[h2]<;>simp
  ·rw[h3];simp
  ·rw[h4];simp
  ·rcases h2 with h2 | h2<;>rw[h2]<;>simp
theorem uO {f:Aj} (h:vB f∧f.Slides.length≤9223372036854775807) (e:H8 f=some 0):FOK f:=w8 h.1 h.2 e
theorem F0:FOK Eg:=uO (exI rfl (.inl rfl) rfl rfl) (by decide +kernel)
theorem FA:FOK exA:=uO (exI rfl (.inl rfl) rfl rfl) (by decide +kernel)
theorem FB:FOK exB:=uO (exI rfl (.inl rfl) rfl rfl) (by decide +kernel)
theorem FH:FOK exH:=uO (exI rfl (.inl rfl) rfl rfl) (by decide +kernel)
theorem FD:FOK exD:=uO (exI rfl (.inl rfl) rfl rfl) (by decide +kernel)
theorem FS:FOK exS:=uO (exI rfl (.inr rfl) rfl rfl) (by decide +kernel)
theorem W0:rV Eg:=⟨by decide,by decide,by decide,by decide,by decide,by decide,by decide,by decide,by decide⟩
theorem WB:rV exB:=⟨by decide,by decide,by decide,by decide,by decide,by decide,by decide,by decide,by decide⟩
theorem zE:Ng=some true:=by
  have o1:=nF F0 rfl (run:=1) (e:=16) (by decide +kernel) (by decide) (by decide +kernel)
  have o2:=nF F0 rfl (run:=2) (e:=16) (by decide +kernel) (by decide) (by decide +kernel)
  have hR:Gh Eg=some 0:=by
    rw[(kK Eg W0 (exI rfl (.inl rfl) rfl rfl).1 (by decide) (by decide) (by decide)).eq];decide +kernel
  have hK:Dw Eg [1,2]=some [1,2]:=by
    rw[aH F0 (by decide),← mT F0];decide +kernel
  have hU:=tB FB WB
  rw[← pY FB]at hU
  have hU2:(Uz exB).map (fun p=>(p.2,gC p.1.Status,decide (p.1.Status.length≤1000)))=some ([1,2],[],true):=by decide +kernel
  obtain⟨p,hp,hq⟩:=Option.map_eq_some_iff.1 hU2
  rw[hp]at hU
  rw[Prod.mk.injEq,Prod.mk.injEq]at hq
  unfold Ng
  refine Dy (x:=Eg) rfl ?_
  refine Dy o1 ?_
  refine Dy o2 ?_
  refine Dy hR ?_
  refine bff rfl (bff rfl (bff rfl ?_))
  refine Dy hK ?_
  refine Dy (fD _ _) ?_
  refine bff rfl ?_
  refine Dy (jV FA (b:=true) (by decide +kernel)) ?_
  refine bff rfl ?_
  refine Dy (x:=[1,2]) rfl ?_
  refine Dy (fD _ _) ?_
  refine bff rfl ?_
  refine Dy hU ?_
  refine Dy (jV FB (b:=false) (by decide +kernel)) ?_
  refine bff rfl ?_
  refine Dy (fD _ _) ?_
  rw[hq.1]
  refine bff rfl ?_
  refine Dy (gB (Ai8 hq.2.2)) ?_
  rw[hq.2.1]
  refine bff rfl ?_
  refine Dy (T7 FH (e:=14) (by decide +kernel)) ?_
  refine bft rfl ?_
  refine Dy (T7 FD (e:=5) (by decide +kernel)) ?_
  refine bft rfl ?_
  refine Dy (T7 FS (e:=10) (by decide +kernel)) ?_
  refine bft rfl ?_
  refine Dy (T7 F0 (e:=8) (by decide +kernel)) ?_
  refine bft rfl ?_
  refine Dy (T7 F0 (e:=0) (by decide +kernel)) ?_
  rfl
theorem tI (f:Aj):Tot (Kx f):=by
  unfold Kx
  repeat' first | exact Tot.some _ | refine Tot.bif (fun _=>?_) (fun _=>?_)
theorem bfs {c:Bool} {b:Option Bool} (h:(bif c then some false else b)=some true):c=false∧b=some true:=by
  cases c with
  | false=>exact ⟨rfl,h⟩
  | true=>cases h
theorem bts {c:Bool} {b:Option Bool} (h:(bif c then b else some false)=some true):c=true∧b=some true:=by
  cases c with
  | true=>exact ⟨rfl,h⟩
  | false=>cases h
theorem vO {f:Aj} (h:Kx f=some true):rV f∧f.Lifts.length≤12∧f.Packs.length≤12∧f.Status.length≤12:=by
  unfold Kx at h
  obtain⟨_,h⟩:=bfs h
  obtain⟨_,h⟩:=bfs h
  obtain⟨_,h⟩:=bfs h
  obtain⟨_,h⟩:=bfs h
  obtain⟨a1,h⟩:=bfs h
  obtain⟨a2,h⟩:=bfs h
  obtain⟨a3,h⟩:=bfs h
  obtain⟨a4,h⟩:=bfs h
  obtain⟨a5,h⟩:=bfs h
  obtain⟨a6,h⟩:=bfs h
  obtain⟨a7,h⟩:=bfs h
  obtain⟨a8,h⟩:=bfs h
  obtain⟨a9,h⟩:=bts h
  obtain⟨a10,h⟩:=bts h
  obtain⟨a11,h⟩:=bts h
  have a12:=Ai8 (Option.some.inj h)
  have a1:=Ai7 a1
  have a2:=Ai7 a2
  have a3:=Ai7 a3
  have a4:=Ai7 a4
  have a5:=Ai7 a5
  have a6:=Ai7 a6
  have a7:=Ai7 a7
  have a8:=Ai7 a8
  have a9:=Ai8 a9
  have a10:=Ai8 a10
  have a11:=Ai8 a11
  exact⟨⟨by omega,by omega,by omega,by omega,by omega,by omega,by omega,by omega,by omega⟩,by omega,by omega,by omega⟩
theorem mV {f:Aj} (h:Se f) (l:List Int):Ky f l=some false∨(Ky f l=some true∧l.length≤40∧rV f∧FOK f):=by
  unfold Ky
  cases hl:decide (((l.length:Nat):Int)≤40)with
  | false=>exact .inl rfl
  | true=>
    have hl:=Ai8 hl
    obtain⟨b,hb⟩:=tI f
    rw[hb,cond_true,Option.bind_some]
    cases b with
    | false=>exact .inl rfl
    | true=>
      obtain⟨W,w1,w2,w3⟩:=vO hb
      obtain⟨e,_,he⟩:=kK f W (sK h) (by omega) (by omega) (by omega)
      rw[he,cond_true,Option.bind_some]
      by_cases e0:e=0
      ·subst e0
       exact .inr ⟨rfl,by omega,W,w8 (sK h) h.2.2.2.2.2.2.1.1 he⟩
      ·rw[Aja e0];exact .inl rfl
theorem pE {f:Aj} (F:FOK f) (l:List Int):Nh f l=some (l.all (Wv f l)):=by
  unfold Nh
  refine xP _ fun k x _=>?_
  obtain⟨e,h1,_,h2⟩:=pQ F l x
  unfold Ob
  rw[h1,Option.bind_some,← h2]
  by_cases e0:e=0
  ·rw[Ai9 e0,Aja (p:=e≠0) (fun h=>h e0)];rfl
  ·rw[Aja e0,Ai9 (p:=e≠0) e0];rfl
theorem tG {l:List Int} (hl:l.length≤8) (bits:Int):∃ s,Oa l bits=some s∧∀ x∈s,x∈l:=by
  unfold Oa
  obtain⟨s',h1,h2,h3⟩:=Dp (ρ:=List Int) (step:=I9 bits) (l:=l) (s:=[]) (fun k s=>s.length≤k∧∀ x∈s,x∈l) ⟨by simp,by simp⟩ (fun k x s hk ⟨i1,i2⟩=>by
    have hlt:=(List.getElem?_eq_some_iff.1 hk).1
    have hw:IntKind.u64.wrap ((k:Nat):Int)=(k:Int):=by simp[IntKind.wrap,IntKind.bits,IntKind.signed]<;>omega
    unfold I9
    rw[hw,M1 (by omega)]
    cases decide (Int.tmod (bN bits ((k:Nat):Int)) 2=1)with
    | true=>
      rw[cond_true,Ce (by omega)]
      refine⟨_,rfl,by simp;omega,fun y hy=>?_⟩
      rw[List.mem_append,List.mem_singleton]at hy
      rcases hy with hy | rfl
      ·exact i2 y hy
      ·exact Ajc hk
    | false=>exact ⟨_,rfl,by omega,i2⟩)
  rw[h1]
  exact⟨s',rfl,h3⟩
theorem Qe (f:Aj) (runs:List Int) (more:Int) (h:Se f) (ho:OkL I64 runs) (hm:I64 more):Fg f runs more=some true:=by
  unfold Fg
  refine Dy zE (bff rfl ?_)
  rcases mV h runs with hb | ⟨hb,hl,W,F⟩
  ·exact Dy hb rfl
  refine Dy hb (bff rfl ?_)
  obtain⟨l,h1,h2⟩:=Dp (ρ:=Bool) (step:=Dr f) (l:=runs) (s:=[]) (fun k s=>s.length≤6) (by simp) (fun k x s hk hI=>by
    unfold Dr
    rw[X0,Option.bind_some,Td,Option.bind_some]
    cases(Jt f.Map x).2 with
    | false=>exact ⟨_,rfl,hI⟩
    | true=>
      cases decide (x∈s)with
      | true=>exact ⟨_,rfl,hI⟩
      | false=>
        by_cases h6:((s.length:Nat):Int)<6
        ·rw[Ai9 h6,Ce (by omega)]
         exact⟨_,rfl,by simp;omega⟩
        ·rw[Aja h6]
         exact⟨_,rfl,hI⟩)
  refine Dy h1 ?_
  show Dq f more l=some true
  unfold Dq
  refine Dy (aH F (by omega)) ?_
  refine Dy (pE F _) ?_
  have hall:(Ja f l).all (Wv f (Ja f l))=true:=List.all_eq_true.2 fun x hx=>gP hx
  refine bff (by rw[hall];rfl) ?_
  have hkl:=wM f l
  refine Dy (aH F (by omega)) (Dy (fD _ _) ?_)
  refine bff (by rw[uB,Ai9 rfl];rfl) ?_
  obtain⟨N,hN,hN2⟩:∃ N,IntKind.i64.wrap (vQ (1:Int) (IntKind.u64.wrap ((l.length:Nat):Int)))=N∧N≤64:=by
    generalize l.length=n at h2
    have:n=0∨n=1∨n=2∨n=3∨n=4∨n=5∨n=6:=by omega
    rcases this with rfl | rfl | rfl | rfl | rfl | rfl | rfl<;>exact ⟨_,rfl,by decide⟩
  have hw:IntKind.u64.wrap ((l.length:Nat):Int)=(l.length:Int):=by simp[IntKind.wrap,IntKind.bits,IntKind.signed]<;>omega
  obtain⟨r,e1,e2⟩:=Gz (step:=Du f more l (Ja f l)) (fun v=>0≤v) (fun r=>r=true) (fun v=>(N - v).toNat) (by
    intro v hv
    unfold Du
    rw[hN,hw,M1 (by omega)]
    by_cases hvN:v<N
    ·rw[Ai9 hvN,cond_true]
     obtain⟨s,s1,s2⟩:=tG (l:=l) (by omega) v
     rw[s1,Option.bind_some,pE F,Option.bind_some]
     have hnx:IntKind.i64.wrap (v+1)=v+1:=by rw[wrap_i64]<;>omega
     rw[hnx]
     cases ha:s.all (Wv f s)with
     | false=>exact .inl ⟨_,rfl,by omega,by omega⟩
     | true=>
       have hS:∀ x∈s,Wv f s x=true:=List.all_eq_true.1 ha
       have hin:=Zn (f:=f) (runs:=l) hS s2
       have:Al (Dt (Ja f l)) 0 s ()=some (.next ()):=Q9.2 fun i x hx=>by
         unfold Dt
         rw[Td,Option.bind_some,Ai9 (hin x (Ajc hx))];rfl
       rw[this]
       exact .inl ⟨_,rfl,by omega,by omega⟩
    ·rw[Aja hvN,cond_false,Ce (by omega),Ce (by omega),aH F (by simp;omega),Option.bind_some]
     have hin:=Zn (f:=f) (runs:=l++[more]) (S:=Ja f l) (fun x hx=>gP hx) (fun x hx=>List.mem_append_left _ (gO hx).1)
     have:Al (Ds (Ja f (l++[more]))) 0 (Ja f l) ()=some (.next ()):=Q9.2 fun i x hx=>by
       unfold Ds
       rw[Td,Option.bind_some,Ai9 (hin x (Ajc hx))];rfl
     rw[this]
     exact .inr ⟨_,rfl,rfl⟩) fuel 0 (by omega) (by unfold fuel;omega)
  rw[e1,e2];rfl
end Go.Proofs.YtjopghiagoidgaaGreat
