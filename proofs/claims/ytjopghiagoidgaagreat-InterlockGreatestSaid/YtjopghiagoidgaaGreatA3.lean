/- Our own texts: a layer of abstract values over the model, the walks of the functions, the plain laws; joined and shortened by a small program of our own (wip/dce2.py, wip/pack.py). -/
import Derived.Test.YtjopghiagoidgaaGreatA2
import Derived.Calls
import Derived.Tactics2
import Derived.Below
import Derived.Deep.LoopGhost
import Derived.KernelRfl
import Derived.Laws.Shifts
import Derived.Laws.CopyRow
import Derived.Laws.AppendOwn
import Derived.Laws.MakeOwn
import Derived.Laws.StructEq
import Derived.Maps.RangeRun
import Derived.Lib.SliceRun
import Derived.TacticsIn
import Derived.OrdersIn
import Derived.Sort.LoopGhostIn
import Derived.RangeFuncRecord
import Derived.Orders
import Derived.ProofKit
import Derived.OpenShut
import Derived.ShutString
import Derived.ChangeOld
import Derived.Carry
import Derived.WideShapes
import Derived.ChangeArms
import Derived.ChangeShapes
import Derived.Handed
import Derived.JoinedOf
import Derived.Sort.Grow
import Derived.Lib.SlicesCompact
import Derived.Lib.SlKeysI
import Derived.Maps.Own
import Derived.WideKeyRuns
import Derived.Test.YtjopghiagoidgaaGreatChecked
import Derived.Test.YtjopghiagoidgaaGreatProg
import Derived.Shelf.SortM.Plain
import Derived.Shelf.SortM.SortNone
import Derived.Shelf.SlIterI.Nil
import Derived.Shelf.Slices.CompactI
namespace Go.Proofs.YtjopghiagoidgaaGreat
open Go Go.Ab
attribute [local irreducible] AWP An B7 Ad Go.Ab.Sub alist dlist Bn Df D7 G5
set_option maxRecDepth 100000
set_option maxHeartbeats 4000000
set_option linter.unusedSimpArgs false
set_option linter.unusedVariables false
noncomputable section
def Tp:Option (Aj):=
 some (Aj.mk (Bb.mk [(Ck.mk 1 1000),(Ck.mk 2 2000),(Ck.mk 3 1500)] [(Cc.mk 1 1 1 2 1000 5000 4 50)] [(Cd.mk 1 1 2 3 2 1 800),(Cd.mk 2 1 3 1 2 1 800)] [(1:Int)]) [(Cr.mk 1 1)] [] (Ca.mk [(Cj.mk 1 (Bq.mk [] 60 [])),(Cj.mk 2 (Bq.mk [] 60 []))] []) [] [(C6.mk 1 100 (Fu.mk 0 450 450)),(C6.mk 2 100 (Fu.mk 0 450 450))] [] [] [] [] [] [] 300 0)
theorem Zm {r:Aj} (h:Tp=some r):Ad Tryz.prog 36 [] (·= .agg (B3 r)):=by
 refine Ad.nle (Ad.intro Tryz.func36 rfl rfl (by show _≤28;simp) ?_)
 unfold Tp at h
 refine nS (sq ?_)
 refine ar rfl (qn (sq ?_))
 refine ar rfl (qn (sq ?_))
 refine ar rfl (qn ?_)
 refine AWP.sub (Sub.denil 7 ([(Cj.mk (1:Int) (Bq.mk [] (60:Int) [])),(Cj.mk (2:Int) (Bq.mk [] (60:Int) []))].map Au) rfl (by simp +decide -implicitDefEqProofs only[go_sem,Dj,Ac.int.injEq,Int.natCast_zero,List.replicate_zero,List.length_take,List.length_drop,Ac.own.injEq,reduceCtorEq,Int.reduceAdd,Sh,Si,Oz,Sg,Oy,wD,Oy,Oz])) ?_
 refine nS (rt ?_)
 cases h;exact en Tryz.results36
def Re (id_:Int) (k0:Nat) (x_2:Cd) (sv:Unit):Option (Out (Unit) (Cd×Bool)):=
 (bif (decide (x_2.ID=id_))then some (Out.ret (x_2,true))else some (Out.next ()))
def E4 (m:Bb) (id_:Int):Option (Cd×Bool):=
 (Al (Re id_) 0 m.Runs ()).bind fun o0=>o0.on fun s0=>some ((Cd.mk 0 0 0 0 0 0 0),false)
theorem D9 (m:Bb) (id_:Int) {r:Cd×Bool} (h:E4 m id_=some r):Ad Tryz.prog 53 [.agg (Cf m),.int .i64 id_] (·= .tuple [.agg (Bc r.1),.bool r.2]):=by
 refine Ad.nle (Ad.intro Tryz.func53 rfl rfl (by show _≤22;simp) ?_)
 unfold E4 at h
 refine nS (sq ?_)
 refine ar rfl (qn (sq (sq ?_)))
 refine rg rfl fun K j=>?_
 intro hm
 refine j _ _ (qn (bk ?_))
 obtain⟨o0,hJ0,hO0⟩:=Af h
 clear h
 refine AWP.Bw (ι:=Nat×(Unit)×(Unit)) (fun zz=>[(1,.int .i64 id_),(4,.ptr 1 0),(9,.sl 7 (m.Runs.map Bc)),(10,.int .i64 ((m.Runs.length:Nat):Int)),(11,.int .i64 ((zz.1:Nat):Int))]) (fun zz=>[.gone,.box [.int .i64 0,.int .i64 0,.int .i64 0,.int .i64 0,.int .i64 0,.int .i64 0,.int .i64 0]]) (fun zz=>zz.1≤m.Runs.length∧Al (Re id_) zz.1 ((m.Runs).drop zz.1) zz.2.1=some o0) (fun zz=>m.Runs.length - zz.1) (0,(),()) ⟨Nat.zero_le _,hJ0⟩ cu cu (fun x=>⟨rfl,rfl,rfl⟩) ?_
 clear hJ0
 rintro⟨k0,⟨⟩,⟨⟩⟩ ⟨hk0,hJ0⟩
 dsimp only at hk0 hJ0 ⊢
 refine sq (ar rfl (qn (sq ?_)))
 refine AWP.cond (Ak (fun hc=>?_) (fun hc=>?_))
 rotate_left
 ·obtain rfl:=Bf hJ0 (fun hl=>by have:=Ai7 hc;omega)
  have h:=Be hO0;try dsimp only at h
  have hkl:m.Runs.length=k0:=by have:=Ai7 hc;omega
  subst hkl
  refine xt (qe (qe (bs (qn (sq (ar rfl (qn (rt ?_))))))))
  cases h;exact en Tryz.results53
 have hlt0:k0<m.Runs.length:=by have:=Ai8 hc;omega
 obtain⟨x_2,b0,hx0_,h,hJ0⟩:=Ba hJ0 hlt0
 have hx0:=A2 hx0_
 have hw0:=wk (k:=k0) (by omega)
 unfold Re at h;try dsimp only at h
 refine sk (qn (sq (bk (sq ?_))))
 refine rg rfl fun K j=>?_
 refine Bn.of (f:=Bc) (l:=m.Runs) hx0 ?_
 refine nS ?_
 refine j _ _ (qn (sq ?_))
 refine ar rfl (qn ?_)
 revert h;refine ca rfl (fun hc h=>?_) fun hc h=>?_
 ·refine sq (ar rfl (qn (rt (br (qr (qr ?_))))))
  obtain rfl:=Aa h
  obtain rfl:=Ae hJ0
  replace h:=Am hO0
  refine br (qr ?_)
  cases h;exact en Tryz.results53
 refine sk (bn (qn (ar rfl (qn ?_))))
 obtain rfl:=Aa h
 refine⟨(k0+1,(),()),⟨by dsimp only;omega,Ai hJ0⟩,by dsimp only;omega,?_,?_⟩
 ·exact cuw hw0
 exact cuw hw0
def F3 (k2:Nat) (x_4:Bj) (sv:(List Int)):Option (Out ((List Int)) ((List Int))):=
 (bif x_4.Open then chk (sv.length+1) (some (Out.next (sv++[x_4.Run])))else some (Out.next sv))
def C4 (f_:Aj):Option ((List Int)):=
 (Al F3 0 f_.Status []).bind fun o2=>o2.on fun s2=>some s2
theorem Qn (f_:Aj) {r:(List Int)} (h:C4 f_=some r):Bp Tryz.prog 20 [.agg (B3 f_)] (·= .sl 1 (r.map A5)):=by
 refine Bp.nle (Bp.intro Tryz.func20 rfl rfl (by show _≤22;simp) ?_)
 unfold C4 at h
 refine nS (sq ?_)
 refine ar rfl (qn (sq ?_))
 refine ar rfl (qn (sq (sq ?_)))
 refine rg rfl fun K j=>?_
 intro hm
 refine j _ _ (qn (bk ?_))
 refine AWP.ghost 3 1 rfl (by decide) ?_
 obtain⟨o2,hJ2,hO2⟩:=Af h
 clear h
 refine AWP.Bw (ι:=Nat×((List Int))×(Nat)) (fun zz=>[(3,.own 1 zz.2.2 0 zz.2.1.length),(7,.sl 3 (f_.Status.map A4)),(8,.int .i64 ((f_.Status.length:Nat):Int)),(9,.int .i64 ((zz.1:Nat):Int))]) (fun zz=>[.gone,.row zz.2.2 1 (zz.2.1.map A5)]) (fun zz=>zz.1≤f_.Status.length∧Al F3 zz.1 ((f_.Status).drop zz.1) zz.2.1=some o2) (fun zz=>f_.Status.length - zz.1) (0,[],0) ⟨Nat.zero_le _,hJ2⟩ cu cu (fun x=>⟨rfl,rfl,rfl⟩) ?_
 clear hJ2
 rintro⟨k2,out1,ver2⟩ ⟨hk2,hJ2⟩
 dsimp only at hk2 hJ2 ⊢
 refine sq (ar rfl (qn (sq ?_)))
 refine AWP.cond (Ak (fun hc=>?_) (fun hc=>?_))
 rotate_left
 ·obtain rfl:=Bf hJ2 (fun hl=>by have:=Ai7 hc;omega)
  have h:=Be hO2;try dsimp only at h
  have hkl:f_.Status.length=k2:=by have:=Ai7 hc;omega
  subst hkl
  refine xt (qe (qe (bs (qn (sq (ar rfl (qn (rt ?_))))))))
  cases h;exact en Tryz.results20
 have hlt2:k2<f_.Status.length:=by have:=Ai8 hc;omega
 obtain⟨x_4,b2,hx2_,h,hJ2⟩:=Ba hJ2 hlt2
 have hx2:=A2 hx2_
 have hw2:=wk (k:=k2) (by omega)
 unfold F3 at h;try dsimp only at h
 refine sk (qn (sq (bk (sq ?_))))
 refine rg rfl fun K j=>?_
 refine Bn.of (f:=A4) (l:=f_.Status) hx2 ?_
 refine nS ?_
 refine j _ _ (qn (sq ?_))
 refine ar rfl (qn ?_)
 revert h;refine ca rfl (fun hc h=>?_) fun hc h=>?_
 ·refine rg rfl fun K j=>?_
  obtain⟨hk,h⟩:=B6 h
  (repeat refine rp ?_);try simp +decide -implicitDefEqProofs only[go_sem]
  refine j _ _ (bn (qn ?_))
  refine ar rfl (qn ?_)
  obtain rfl:=Aa h
  refine⟨(k2+1,(out1++[x_4.Run]),(ver2+1)),⟨by dsimp only;omega,Ai hJ2⟩,by dsimp only;omega,?_,?_⟩
  ·exact cuw hw2
  exact cuw hw2
 refine sk (bn (qn (ar rfl (qn ?_))))
 obtain rfl:=Aa h
 refine⟨(k2+1,out1,ver2),⟨by dsimp only;omega,Ai hJ2⟩,by dsimp only;omega,?_,?_⟩
 ·exact cuw hw2
 exact cuw hw2
theorem E1 (f_:Aj) {r:(List Int)} (h:C4 f_=some r):Ad Tryz.prog 20 [.agg (B3 f_)] (·= .sl 1 (r.map A5)):=(Qn f_ h).pure
theorem aI (f_:Aj) {r:(List Int)} (h:C4 f_=some r):Dc Tryz.prog 20 [.agg (B3 f_)] 1 (r.map A5):=by
 refine Dc.of ?_
 refine Ci.weak (R:=fun q H=>∃ v0 rest,q= .own 0 v0 0 (r.map A5).length∧H= .row v0 1 (r.map A5)::rest) (Ci.intro Tryz.func20 rfl rfl (by show _≤22;simp) ?_) (fun q H hq=>?_)
 ·unfold C4 at h
  refine nS (sq ?_)
  refine ar rfl (qn (sq ?_))
  refine ar rfl (qn (sq (sq ?_)))
  refine rg rfl fun K j=>?_
  intro hm
  refine j _ _ (qn (bk ?_))
  refine AWP.ghost 3 1 rfl (by decide) ?_
  obtain⟨o2,hJ2,hO2⟩:=Af h
  clear h
  refine AWP.Bw (ι:=Nat×((List Int))×(Nat)) (fun zz=>[(3,.own 1 zz.2.2 0 zz.2.1.length),(7,.sl 3 (f_.Status.map A4)),(8,.int .i64 ((f_.Status.length:Nat):Int)),(9,.int .i64 ((zz.1:Nat):Int))]) (fun zz=>[.gone,.row zz.2.2 1 (zz.2.1.map A5)]) (fun zz=>zz.1≤f_.Status.length∧Al F3 zz.1 ((f_.Status).drop zz.1) zz.2.1=some o2) (fun zz=>f_.Status.length - zz.1) (0,[],0) ⟨Nat.zero_le _,hJ2⟩ cu cu (fun x=>⟨rfl,rfl,rfl⟩) ?_
  clear hJ2
  rintro⟨k2,out1,ver2⟩ ⟨hk2,hJ2⟩
  dsimp only at hk2 hJ2 ⊢
  refine sq (ar rfl (qn (sq ?_)))
  refine AWP.cond (Ak (fun hc=>?_) (fun hc=>?_))
  rotate_left
  ·obtain rfl:=Bf hJ2 (fun hl=>by have:=Ai7 hc;omega)
   have h:=Be hO2;try dsimp only at h
   have hkl:f_.Status.length=k2:=by have:=Ai7 hc;omega
   subst hkl
   refine xt (qe (qe (bs (qn (sq (ar rfl (qn ?_)))))))
   refine AWP.sub (Sub.swap 1 0 rfl rfl rfl) ?_
   refine nS (rt ?_)
   obtain rfl:=Aa h
   refine nSc Tryz.results20 ?_
   refine⟨_,_,?_,rfl⟩
   (try simp +decide -implicitDefEqProofs only[go_sem,List.length_map,List.length_append,List.length_cons,List.length_nil,List.length_set,List.length_replicate]);try rfl
  have hlt2:k2<f_.Status.length:=by have:=Ai8 hc;omega
  obtain⟨x_4,b2,hx2_,h,hJ2⟩:=Ba hJ2 hlt2
  have hx2:=A2 hx2_
  have hw2:=wk (k:=k2) (by omega)
  unfold F3 at h;try dsimp only at h
  refine sk (qn (sq (bk (sq ?_))))
  refine rg rfl fun K j=>?_
  refine Bn.of (f:=A4) (l:=f_.Status) hx2 ?_
  refine nS ?_
  refine j _ _ (qn (sq ?_))
  refine ar rfl (qn ?_)
  revert h;refine ca rfl (fun hc h=>?_) fun hc h=>?_
  ·refine rg rfl fun K j=>?_
   obtain⟨hk,h⟩:=B6 h
   (repeat refine rp ?_);try simp +decide -implicitDefEqProofs only[go_sem]
   refine j _ _ (bn (qn ?_))
   refine ar rfl (qn ?_)
   obtain rfl:=Aa h
   refine⟨(k2+1,(out1++[x_4.Run]),(ver2+1)),⟨by dsimp only;omega,Ai hJ2⟩,by dsimp only;omega,?_,?_⟩
   ·exact cuw hw2
   exact cuw hw2
  refine sk (bn (qn (ar rfl (qn ?_))))
  obtain rfl:=Aa h
  refine⟨(k2+1,out1,ver2),⟨by dsimp only;omega,Ai hJ2⟩,by dsimp only;omega,?_,?_⟩
  ·exact cuw hw2
  exact cuw hw2
 obtain⟨v0,rest,rfl,rfl⟩:=hq
 refine⟨[.row v0 1 (r.map A5)],?_,?_,?_,⟨v0,rfl,rfl⟩⟩
 all_goals exact cu
def D2 (v:Int) (k0:Nat) (x_2:Int) (sv:Unit):Option (Out (Unit) (Int)):=
 (bif (decide (v=x_2))then some (Out.ret ((k0:Nat):Int))else some (Out.next ()))
def Gd (s_:List Int) (v:Int):Option (Int):=
 (Al (D2 v) 0 s_ ()).bind fun o0=>o0.on fun s0=>some (-1)
theorem Rf (s_:List Int) (v:Int) {r:Int} (h:Gd s_ v=some r):Ad Tryz.prog 121 [.sl 1 (s_.map A5),.int .i64 v] (·= .int .i64 r):=by
 refine Ad.nle (Ad.intro Tryz.func121 rfl rfl (by show _≤19;simp) ?_)
 unfold Gd at h
 refine nS (sq ?_)
 refine ar rfl (qn (sq (sq ?_)))
 refine rg rfl fun K j=>?_
 intro hm
 refine j _ _ (qn (bk ?_))
 obtain⟨o0,hJ0,hO0⟩:=Af h
 clear h
 refine AWP.Bw (ι:=Nat×(Unit)×(Unit)) (fun zz=>[(0,.sl 1 (s_.map A5)),(1,.int .i64 v),(7,.int .i64 ((s_.length:Nat):Int)),(8,.int .i64 ((zz.1:Nat):Int))]) (fun zz=>[]) (fun zz=>zz.1≤s_.length∧Al (D2 v) zz.1 ((s_).drop zz.1) zz.2.1=some o0) (fun zz=>s_.length - zz.1) (0,(),()) ⟨Nat.zero_le _,hJ0⟩ cu cu (fun x=>⟨rfl,rfl,rfl⟩) ?_
 clear hJ0
 rintro⟨k0,⟨⟩,⟨⟩⟩ ⟨hk0,hJ0⟩
 dsimp only at hk0 hJ0 ⊢
 refine sq (ar rfl (qn (sq ?_)))
 refine AWP.cond (Ak (fun hc=>?_) (fun hc=>?_))
 rotate_left
 ·obtain rfl:=Bf hJ0 (fun hl=>by have:=Ai7 hc;omega)
  have h:=Be hO0;try dsimp only at h
  have hkl:s_.length=k0:=by have:=Ai7 hc;omega
  subst hkl
  refine xt (qe (qe (bs (qn (sq (ar rfl (qn (rt ?_))))))))
  cases h;exact en Tryz.results121
 have hlt0:k0<s_.length:=by have:=Ai8 hc;omega
 obtain⟨x_2,b0,hx0_,h,hJ0⟩:=Ba hJ0 hlt0
 have hx0:=A2 hx0_
 have hw0:=wk (k:=k0) (by omega)
 unfold D2 at h;try dsimp only at h
 refine sk (qn (sq (bk (sq (ar rfl (qn (sq ?_)))))))
 refine rg rfl fun K j=>?_
 refine Bn.of (f:=A5) (l:=s_) hx0 ?_
 refine nS ?_
 refine j _ _ (qn ?_)
 revert h;refine ca rfl (fun hc h=>?_) fun hc h=>?_
 ·refine sq (ar rfl (qn (rt (br (qr (qr ?_))))))
  obtain rfl:=Aa h
  obtain rfl:=Ae hJ0
  replace h:=Am hO0
  refine br (qr ?_)
  cases h;exact en Tryz.results121
 refine sk (bn (qn (ar rfl (qn ?_))))
 obtain rfl:=Aa h
 refine⟨(k0+1,(),()),⟨by dsimp only;omega,Ai hJ0⟩,by dsimp only;omega,?_,?_⟩
 ·exact cuw hw0
 exact cuw hw0
def Br (s_:List Int) (v:Int):Option (Bool):=
 (Gd s_ v).bind fun y1=>some (decide (0≤y1))
theorem Bu (s_:List Int) (v:Int) {r:Bool} (h:Br s_ v=some r):Ad Tryz.prog 54 [.sl 1 (s_.map A5),.int .i64 v] (·= .bool r):=by
 refine Ad.nle (Ad.intro Tryz.func54 rfl rfl (by show _≤9;simp) ?_)
 unfold Br at h
 refine nS (sq ?_)
 refine ar rfl (qn (sq ?_))
 refine rg rfl fun K j=>?_
 obtain⟨y1,hy1,h⟩:=Af h
 refine An.pure Tryz.call121 (Rf s_ v hy1) rfl fun _ hr=>?_
 subst hr
 refine nS ?_
 refine j _ _ (qn (rt ?_))
 cases h;exact en Tryz.results54
def J1 (kind:Int) (target:Int) (k0:Nat) (x_2:Bk) (sv:Unit):Option (Out (Unit) (Bool)):=
 (bif (decide (x_2.Kind=kind))then (bif (decide (x_2.Target=target))then some (Out.ret (decide (0≤((k0:Nat):Int))))else some (Out.next ()))else some (Out.next ()))
def Hs (l:List Bk) (kind:Int) (target:Int):Option (Bool):=
 (Al (J1 kind target) 0 l ()).bind fun o0=>o0.on fun s0=>some false
theorem Qp (l:List Bk) (kind:Int) (target:Int) {r:Bool} (h:Hs l kind target=some r):Ad Tryz.prog 198 [.sl 4 (l.map Aq),.int .i64 kind,.int .i64 target] (·= .bool r):=by
 refine Ad.nle (Ad.intro Tryz.func198 rfl rfl (by show _≤10;simp) ?_)
 unfold Hs at h
 refine nS (sq ?_)
 refine ar rfl (qn (sq ?_))
 refine rg rfl fun K j=>?_
 refine An.inline Tryz.call259 Tryz.func259 rfl rfl (by show _≤9;simp) ?_
 refine nS (sq ?_)
 refine ar rfl (qn (sq ?_))
 refine rg rfl fun K j=>?_
 refine An.inline Tryz.call239 Tryz.func239 rfl rfl (by show _≤19;simp) ?_
 refine nS (sq ?_)
 refine ar rfl (qn (sq (sq ?_)))
 refine rg rfl fun K j=>?_
 intro hm
 refine j _ _ (qn (bk ?_));clear j K
 obtain⟨o0,hJ0,hO0⟩:=Af h
 clear h
 refine AWP.Bw (ι:=Nat×(Unit)×(Unit)) (fun zz=>[(0,.sl 4 (l.map Aq)),(1,.func 260 [.ptr 0 0,.ptr 1 0]),(7,.int .i64 ((l.length:Nat):Int)),(8,.int .i64 ((zz.1:Nat):Int))]) (fun zz=>[.box [.int .i64 kind],.box [.int .i64 target]]) (fun zz=>zz.1≤l.length∧Al (J1 kind target) zz.1 ((l).drop zz.1) zz.2.1=some o0) (fun zz=>l.length - zz.1) (0,(),()) ⟨Nat.zero_le _,hJ0⟩ cu cu (fun x=>⟨rfl,rfl,rfl⟩) ?_
 clear hJ0
 rintro⟨k0,⟨⟩,⟨⟩⟩ ⟨hk0,hJ0⟩
 dsimp only at hk0 hJ0 ⊢
 refine sq (ar rfl (qn (sq ?_)))
 refine AWP.cond (Ak (fun hc=>?_) (fun hc=>?_))
 rotate_left
 ·obtain rfl:=Bf hJ0 (fun hl=>by have:=Ai7 hc;omega)
  have h:=Be hO0;try dsimp only at h
  have hkl:l.length=k0:=by have:=Ai7 hc;omega
  subst hkl
  refine xt (qe (qe (bs (qn (sq (ar rfl (qn (rt ?_))))))))
  refine nSc Tryz.results239 ?_
  refine j _ _ (qn (rt ?_));clear j K
  refine nSc Tryz.results259 ?_
  refine j _ _ (qn (rt ?_))
  cases h;exact en Tryz.results198
 have hlt0:k0<l.length:=by have:=Ai8 hc;omega
 obtain⟨x_2,b0,hx0_,h,hJ0⟩:=Ba hJ0 hlt0
 have hx0:=A2 hx0_
 have hw0:=wk (k:=k0) (by omega)
 unfold J1 at h;try dsimp only at h
 refine sk (qn (sq (bk (sq (ar rfl (qn (sq ?_)))))))
 refine rg rfl fun K j=>?_
 refine Bn.of (f:=Aq) (l:=l) hx0 ?_
 refine nS ?_
 refine An.inline Tryz.call260 Tryz.func260 rfl rfl (by show _≤15;simp) ?_
 refine nS (sq ?_)
 refine ar rfl (qn (sq ?_))
 refine rg rfl fun K j=>?_
 revert h;refine gt (fun hc h=>?_) fun hc h=>?_
 ·refine j _ _ (qn (rt ?_));clear j K
  refine nSc Tryz.results260 ?_
  refine j _ _ (qn ?_);clear j K
  revert h;refine ca rfl (fun hc h=>?_) fun hc h=>?_
  ·refine sq (ar rfl (qn (rt (br (qr (qr ?_))))))
   obtain rfl:=Aa h
   obtain rfl:=Ae hJ0
   replace h:=Am hO0
   refine br (qr (nSc Tryz.results239 ?_))
   refine j _ _ (qn (rt ?_));clear j K
   refine nSc Tryz.results259 ?_
   refine j _ _ (qn (rt ?_))
   cases h;exact en Tryz.results198
  refine sk (bn (qn (ar rfl (qn ?_))))
  obtain rfl:=Aa h
  refine⟨(k0+1,(),()),⟨by dsimp only;omega,Ai hJ0⟩,by dsimp only;omega,?_,?_⟩
  ·exact cuw hw0
  exact cuw hw0
 refine j _ _ (qn (rt ?_));clear j K
 refine nSc Tryz.results260 ?_
 refine j _ _ (qn ?_);clear j K
 refine AWP.cond (Bi ?_)
 refine sk (bn (qn (ar rfl (qn ?_))))
 obtain rfl:=Aa h
 refine⟨(k0+1,(),()),⟨by dsimp only;omega,Ai hJ0⟩,by dsimp only;omega,?_,?_⟩
 ·exact cuw hw0
 exact cuw hw0
def P2 (m:Bb) (l:List Bk) (run:Int):Option (Bool):=
 (E4 m run).bind fun y1=>(bif y1.2 then(Hs l 1 run).bind fun y2=>(bif y2 then some true else(Hs l 3 y1.1.Zone).bind fun y3=>some y3)else some false)
theorem dC (m:Bb) (l:List Bk) (run:Int) {r:Bool} (h:P2 m l run=some r):Ad Tryz.prog 102 [.agg (Cf m),.sl 4 (l.map Aq),.int .i64 run] (·= .bool r):=by
 refine Ad.nle (Ad.intro Tryz.func102 rfl rfl (by show _≤27;simp) ?_)
 unfold P2 at h
 refine nS (sq ?_)
 refine ar rfl (qn (sq ?_))
 refine rg rfl fun K j=>?_
 obtain⟨y1,hy1,h⟩:=Af h
 refine An.pure Tryz.call53 (D9 m run hy1) rfl fun _ hr=>?_
 subst hr
 refine nS ?_
 refine j _ _ (qn (sq ?_))
 refine rg rfl fun K j=>?_
 revert h;refine gt (fun hc h=>?_) fun hc h=>?_
 ·obtain⟨y2,hy2,h⟩:=Af h
  refine An.pure Tryz.call198 (Qp l 1 run hy2) rfl fun _ hr=>?_
  subst hr
  refine nS ?_
  revert h;refine gf (fun hc h=>?_) fun hc h=>?_
  ·obtain⟨y3,hy3,h⟩:=Af h
   refine An.pure Tryz.call198 (Qp l 3 y1.1.Zone hy3) rfl fun _ hr=>?_
   subst hr
   refine nS ?_
   refine j _ _ (qn (rt ?_))
   cases h;exact en Tryz.results102
  refine j _ _ (qn (rt ?_))
  cases h;exact en Tryz.results102
 refine j _ _ (qn (rt ?_))
 cases h;exact en Tryz.results102
def Ph (run:Int) (k0:Nat) (x_2:B4) (sv:Unit):Option (Out (Unit) (Bool)):=
 (bif (decide (x_2.State=2))then (bif (decide (x_2.Run=run))then some (Out.ret (decide (0≤((k0:Nat):Int))))else some (Out.next ()))else some (Out.next ()))
def R5 (l:List B4) (run:Int):Option (Bool):=
 (Al (Ph run) 0 l ()).bind fun o0=>o0.on fun s0=>some false
theorem eU (l:List B4) (run:Int) {r:Bool} (h:R5 l run=some r):Ad Tryz.prog 103 [.sl 8 (l.map Ay),.int .i64 run] (·= .bool r):=by
 refine Ad.nle (Ad.intro Tryz.func103 rfl rfl (by show _≤8;simp) ?_)
 unfold R5 at h
 refine nS (sq ?_)
 refine ar rfl (qn (sq ?_))
 refine rg rfl fun K j=>?_
 refine An.inline Tryz.call199 Tryz.func199 rfl rfl (by show _≤9;simp) ?_
 refine nS (sq ?_)
 refine ar rfl (qn (sq ?_))
 refine rg rfl fun K j=>?_
 refine An.inline Tryz.call261 Tryz.func261 rfl rfl (by show _≤19;simp) ?_
 refine nS (sq ?_)
 refine ar rfl (qn (sq (sq ?_)))
 refine rg rfl fun K j=>?_
 intro hm
 refine j _ _ (qn (bk ?_));clear j K
 obtain⟨o0,hJ0,hO0⟩:=Af h
 clear h
 refine AWP.Bw (ι:=Nat×(Unit)×(Unit)) (fun zz=>[(0,.sl 8 (l.map Ay)),(1,.func 200 [.ptr 0 0]),(7,.int .i64 ((l.length:Nat):Int)),(8,.int .i64 ((zz.1:Nat):Int))]) (fun zz=>[.box [.int .i64 run]]) (fun zz=>zz.1≤l.length∧Al (Ph run) zz.1 ((l).drop zz.1) zz.2.1=some o0) (fun zz=>l.length - zz.1) (0,(),()) ⟨Nat.zero_le _,hJ0⟩ cu cu (fun x=>⟨rfl,rfl,rfl⟩) ?_
 clear hJ0
 rintro⟨k0,⟨⟩,⟨⟩⟩ ⟨hk0,hJ0⟩
 dsimp only at hk0 hJ0 ⊢
 refine sq (ar rfl (qn (sq ?_)))
 refine AWP.cond (Ak (fun hc=>?_) (fun hc=>?_))
 rotate_left
 ·obtain rfl:=Bf hJ0 (fun hl=>by have:=Ai7 hc;omega)
  have h:=Be hO0;try dsimp only at h
  have hkl:l.length=k0:=by have:=Ai7 hc;omega
  subst hkl
  refine xt (qe (qe (bs (qn (sq (ar rfl (qn (rt ?_))))))))
  refine nSc Tryz.results261 ?_
  refine j _ _ (qn (rt ?_));clear j K
  refine nSc Tryz.results199 ?_
  refine j _ _ (qn (rt ?_))
  cases h;exact en Tryz.results103
 have hlt0:k0<l.length:=by have:=Ai8 hc;omega
 obtain⟨x_2,b0,hx0_,h,hJ0⟩:=Ba hJ0 hlt0
 have hx0:=A2 hx0_
 have hw0:=wk (k:=k0) (by omega)
 unfold Ph at h;try dsimp only at h
 refine sk (qn (sq (bk (sq (ar rfl (qn (sq ?_)))))))
 refine rg rfl fun K j=>?_
 refine Bn.of (f:=Ay) (l:=l) hx0 ?_
 refine nS ?_
 refine An.inline Tryz.call200 Tryz.func200 rfl rfl (by show _≤13;simp) ?_
 refine nS (sq ?_)
 refine ar rfl (qn (sq ?_))
 refine rg rfl fun K j=>?_
 revert h;refine gt (fun hc h=>?_) fun hc h=>?_
 ·refine j _ _ (qn (rt ?_));clear j K
  refine nSc Tryz.results200 ?_
  refine j _ _ (qn ?_);clear j K
  revert h;refine ca rfl (fun hc h=>?_) fun hc h=>?_
  ·refine sq (ar rfl (qn (rt (br (qr (qr ?_))))))
   obtain rfl:=Aa h
   obtain rfl:=Ae hJ0
   replace h:=Am hO0
   refine br (qr (nSc Tryz.results261 ?_))
   refine j _ _ (qn (rt ?_));clear j K
   refine nSc Tryz.results199 ?_
   refine j _ _ (qn (rt ?_))
   cases h;exact en Tryz.results103
  refine sk (bn (qn (ar rfl (qn ?_))))
  obtain rfl:=Aa h
  refine⟨(k0+1,(),()),⟨by dsimp only;omega,Ai hJ0⟩,by dsimp only;omega,?_,?_⟩
  ·exact cuw hw0
  exact cuw hw0
 refine j _ _ (qn (rt ?_));clear j K
 refine nSc Tryz.results200 ?_
 refine j _ _ (qn ?_);clear j K
 refine AWP.cond (Bi ?_)
 refine sk (bn (qn (ar rfl (qn ?_))))
 obtain rfl:=Aa h
 refine⟨(k0+1,(),()),⟨by dsimp only;omega,Ai hJ0⟩,by dsimp only;omega,?_,?_⟩
 ·exact cuw hw0
 exact cuw hw0
def J7 (t:Int) (k2:Nat) (x_4:A8) (sv:(List Int)):Option (Out ((List Int)) ((List Int))):=
 (bif (decide (x_4.From≤t))then (bif (decide (t<x_4.To))then chk (sv.length+x_4.Runs.length) (some (Out.next (sv++x_4.Runs)))else some (Out.next sv))else some (Out.next sv))
def Pl (l:List A8) (t:Int):Option ((List Int)):=
 (Al (J7 t) 0 l []).bind fun o2=>o2.on fun s2=>chk s2.length (chk s2.length (some (Ch (Dd s2))))
theorem bJ (l:List A8) (t:Int) {r:(List Int)} (h:Pl l t=some r):Ad Tryz.prog 104 [.sl 4 (l.map Ao),.int .i64 t] (·= .sl 1 (r.map A5)):=by
 refine Ad.nle (Ad.zZ Tryz.func104 rfl rfl (by show _≤19;simp) ?_)
 unfold Pl at h
 refine nS ?_
 refine jR.pre ?_
 refine ar rfl (qn ?_)
 refine jR.pre ?_
 refine ar rfl (qn ?_)
 refine jR.seqq ?_
 refine pP.seq ?_
 refine rg rfl fun K j=>?_
 refine An.inline Tryz.call201 Tryz.func201 rfl rfl (by show _≤6;simp) ?_
 refine nS (sq ?_)
 refine ar rfl (qn (sq ?_))
 refine ar rfl (qn (rt ?_))
 refine nSc Tryz.results201 ?_
 refine j _ _ (qn ?_)
 refine pP.range [(4,.nils),(5,.ptr 0 0),(9,.func 262 [.ptr 1 0,.ptr 2 0])] cu cu rfl fun D A0 B0 hA0 hB0=>?_
 refine nS ?_
 refine An.inline Tryz.call262 Tryz.func262 rfl rfl (by show _≤29;simp) ?_
 refine nS (sq ?_)
 refine rg rfl fun K j=>?_
 intro hm
 refine j _ _ (qn (bk ?_))
 refine AWP.sub (Sub.z8 0 0 1 rfl rfl (by decide)) ?_
 refine nS ?_
 obtain⟨o2,hJ2,hO2⟩:=Af h
 clear h
 refine AWP.Bw (ι:=Nat×((List Int))×(Nat)) (fun zz=>[(0,.yld 3),(2,.ptr 2 0),(6,.sl 4 (l.map Ao)),(7,.int .i64 ((l.length:Nat):Int)),(8,.int .i64 ((zz.1:Nat):Int))]) (fun zz=>[.box [.own 4 zz.2.2 0 zz.2.1.length],.box [.sl 4 (l.map Ao)],.box [.int .i64 t],.lp D 19 [(4,.nils),(5,.ptr 0 0),(9,.func 262 [.ptr 1 0,.ptr 2 0])] #[10] A0 B0 .ready none,.row zz.2.2 1 (zz.2.1.map A5)]) (fun zz=>zz.1≤l.length∧Al (J7 t) zz.1 ((l).drop zz.1) zz.2.1=some o2) (fun zz=>l.length - zz.1) (0,[],0) ⟨Nat.zero_le _,hJ2⟩ cu cu (fun x=>⟨rfl,rfl,rfl⟩) ?_
 clear hJ2
 rintro⟨k2,o4_1,ver2⟩ ⟨hk2,hJ2⟩
 dsimp only at hk2 hJ2 ⊢
 refine sq (ar rfl (qn (sq ?_)))
 refine AWP.cond (Ak (fun hc=>?_) (fun hc=>?_))
 rotate_left
 ·obtain rfl:=Bf hJ2 (fun hl=>by have:=Ai7 hc;omega)
  have h:=Be hO2;try dsimp only at h
  have hkl:l.length=k2:=by have:=Ai7 hc;omega
  subst hkl
  refine xt (qe (qe (bs (nSc Tryz.results262 ?_))))
  refine qrange.all rfl ?_
  refine nS (sq ?_)
  refine rg rfl fun K j=>?_
  obtain⟨hk,h⟩:=B6 h
  refine An.Dd Tryz.call68 Tryz.sorts68 rfl (by first | rfl | exact(Cl _).symm | (simp only[List.length_append,List.length_cons,List.length_nil,List.length_set,List.length_replicate]<;>omega)) hk ?_
  refine nS ?_
  refine j _ _ (qn (sq ?_))
  refine rg rfl fun K j=>?_
  obtain⟨hk,h⟩:=B6 h
  refine An.Ch Tryz.call69 Tryz.compacts69 rfl (by first | rfl | exact(Cl _).symm | (simp only[List.length_append,List.length_cons,List.length_nil,List.length_set,List.length_replicate]<;>omega)) hk ?_
  refine nS ?_
  refine j _ _ (qn (rt ?_))
  refine qmD.mk (r:=3) rfl ?_
  cases h;exact en Tryz.results104
 have hlt2:k2<l.length:=by have:=Ai8 hc;omega
 obtain⟨x_4,b2,hx2_,h,hJ2⟩:=Ba hJ2 hlt2
 have hx2:=A2 hx2_
 have hw2:=wk (k:=k2) (by omega)
 unfold J7 at h;try dsimp only at h
 refine sk (qn (sq (bk (sq ?_))))
 refine rg rfl fun K j=>?_
 refine Bn.of (f:=Ao) (l:=l) hx2 ?_
 refine nS ?_
 refine j _ _ (qn (sq ?_))
 refine rg rfl fun K j=>?_
 revert h;refine gt (fun hc h=>?_) fun hc h=>?_
 ·revert h;refine gt (fun hc h=>?_) fun hc h=>?_
  ·refine An.yield rfl rfl rfl hA0 hB0 rfl fun md=>?_
   (try simp +decide -implicitDefEqProofs only[go_sem,lO])
   refine ar rfl ?_
   refine qyA.mk rfl ?_
   refine nS (bk ?_)
   refine rg rfl fun K j=>?_
   obtain⟨hk,h⟩:=B6 h
   (repeat refine rp ?_);try simp +decide -implicitDefEqProofs only[go_sem]
   refine j _ _ (bn ?_);clear j K
   refine qyB.next rfl ?_
   refine nS ?_
   refine j _ _ (qn ?_)
   refine AWP.cond (Bi ?_)
   refine sk (bn (qn (ar rfl (qn ?_))))
   obtain rfl:=Aa h
   refine⟨(k2+1,(o4_1++x_4.Runs),(ver2+1)),⟨by dsimp only;omega,Ai hJ2⟩,by dsimp only;omega,?_,?_⟩
   ·exact cuw hw2
   exact cuw hw2
  refine j _ _ (qn ?_)
  refine AWP.cond (Bi ?_)
  refine sk (bn (qn (ar rfl (qn ?_))))
  obtain rfl:=Aa h
  refine⟨(k2+1,o4_1,ver2),⟨by dsimp only;omega,Ai hJ2⟩,by dsimp only;omega,?_,?_⟩
  ·exact cuw hw2
  exact cuw hw2
 refine j _ _ (qn ?_)
 refine AWP.cond (Bi ?_)
 refine sk (bn (qn (ar rfl (qn ?_))))
 obtain rfl:=Aa h
 refine⟨(k2+1,o4_1,ver2),⟨by dsimp only;omega,Ai hJ2⟩,by dsimp only;omega,?_,?_⟩
 ·exact cuw hw2
 exact cuw hw2
def Ey (t5_1:Bool):Option (Bool):=
 (bif t5_1 then some true else some false)
def Ir (m:Bg):Option (Bool):=
 (bif (decide (m.State=1))then Ey (decide (m.State=1))else (bif (decide (m.State=2))then Ey (decide (m.State=2))else (bif (decide (m.State=3))then Ey (decide (m.State=3))else Ey (decide (m.State=4)))))
theorem S5 (m:Bg) {r:Bool} (h:Ir m=some r):Ad Tryz.prog 249 [.agg (Ap m)] (·= .bool r):=by
 refine Ad.nle (Ad.intro Tryz.func249 rfl rfl (by show _≤10;simp) ?_)
 unfold Ir at h
 refine nS (sq ?_)
 refine ar rfl (qn (sq (sq ?_)))
 refine ar rfl (qn (bk ?_))
 refine AWP.Lf (ι:=(Bool)×(Unit)) (fun zz=>[(5,.bool zz.1)]) (fun zz=>[]) (fun zz=>Ey zz.1=some r) (fun zz=>⟨rfl,rfl,rfl⟩) ?_ ?_
 ·refine sq (ar rfl (qn ?_))
  revert h;refine ca rfl (fun hc h=>?_) fun hc h=>?_
  ·refine sk (qn ?_)
   exact⟨((decide (m.State=1)),()),h,cu,cu⟩
  refine sq (ar rfl (qn ?_))
  revert h;refine ca rfl (fun hc h=>?_) fun hc h=>?_
  ·refine sk (qn ?_)
   exact⟨((decide (m.State=2)),()),h,cu,cu⟩
  refine sq (ar rfl (qn ?_))
  revert h;refine ca rfl (fun hc h=>?_) fun hc h=>?_
  ·refine sk (qn ?_)
   exact⟨((decide (m.State=3)),()),h,cu,cu⟩
  refine ar rfl (qn ?_)
  exact⟨((decide (m.State=4)),()),h,cu,cu⟩
 rintro⟨t5_1,⟨⟩⟩ h
 try dsimp only at h ⊢
 unfold Ey at h;try dsimp only at h
 revert h;refine ca rfl (fun hc h=>?_) fun hc h=>?_
 ·refine sq (ar rfl (qn (rt (br (qr ?_)))))
  cases h;exact en Tryz.results249
 refine sk (bn (qn (sq (ar rfl (qn (rt ?_))))))
 cases h;exact en Tryz.results249
def Mr (k2:Nat) (x_4:Bg) (sv:(List Int)):Option (Out ((List Int)) ((List Int))):=
 (Ir x_4).bind fun y5=>(bif y5 then chk (sv.length+1) (some (Out.next (sv++[x_4.Slide])))else some (Out.next sv))
def Lr (l:List Bg):Option ((List Int)):=
 (Al Mr 0 l []).bind fun o2=>o2.on fun s2=>chk s2.length (some (Dd s2))
theorem Zw (l:List Bg) {r:(List Int)} (h:Lr l=some r):Bp Tryz.prog 202 [.sl 7 (l.map Ap)] (·= .sl 1 (r.map A5)):=by
 refine Bp.nle (Bp.intro Tryz.func202 rfl rfl (by show _≤23;simp) ?_)
 unfold Lr at h
 refine nS (sq ?_)
 refine ar rfl (qn (sq ?_))
 refine ar rfl (qn (sq (sq ?_)))
 refine rg rfl fun K j=>?_
 intro hm
 refine j _ _ (qn (bk ?_))
 refine AWP.ghost 3 1 rfl (by decide) ?_
 obtain⟨o2,hJ2,hO2⟩:=Af h
 clear h
 refine AWP.Bw (ι:=Nat×((List Int))×(Nat)) (fun zz=>[(3,.own 0 zz.2.2 0 zz.2.1.length),(6,.sl 7 (l.map Ap)),(7,.int .i64 ((l.length:Nat):Int)),(8,.int .i64 ((zz.1:Nat):Int))]) (fun zz=>[.row zz.2.2 1 (zz.2.1.map A5)]) (fun zz=>zz.1≤l.length∧Al Mr zz.1 ((l).drop zz.1) zz.2.1=some o2) (fun zz=>l.length - zz.1) (0,[],0) ⟨Nat.zero_le _,hJ2⟩ cu cu (fun x=>⟨rfl,rfl,rfl⟩) ?_
 clear hJ2
 rintro⟨k2,out1,ver2⟩ ⟨hk2,hJ2⟩
 dsimp only at hk2 hJ2 ⊢
 refine sq (ar rfl (qn (sq ?_)))
 refine AWP.cond (Ak (fun hc=>?_) (fun hc=>?_))
 rotate_left
 ·obtain rfl:=Bf hJ2 (fun hl=>by have:=Ai7 hc;omega)
  have h:=Be hO2;try dsimp only at h
  have hkl:l.length=k2:=by have:=Ai7 hc;omega
  subst hkl
  refine xt (qe (qe (bs (qn (sq ?_)))))
  refine rg rfl fun K j=>?_
  obtain⟨hk,h⟩:=B6 h
  refine An.Dd Tryz.call68 Tryz.sorts68 rfl (by first | rfl | exact(Cl _).symm | (simp only[List.length_append,List.length_cons,List.length_nil,List.length_set,List.length_replicate]<;>omega)) hk ?_
  refine nS ?_
  refine j _ _ (qn (sq ?_))
  refine ar rfl (qn (rt ?_))
  cases h;exact en Tryz.results202
 have hlt2:k2<l.length:=by have:=Ai8 hc;omega
 obtain⟨x_4,b2,hx2_,h,hJ2⟩:=Ba hJ2 hlt2
 have hx2:=A2 hx2_
 have hw2:=wk (k:=k2) (by omega)
 unfold Mr at h;try dsimp only at h
 refine sk (qn (sq (bk (sq ?_))))
 refine rg rfl fun K j=>?_
 refine Bn.of (f:=Ap) (l:=l) hx2 ?_
 refine nS ?_
 refine j _ _ (qn (sq ?_))
 refine rg rfl fun K j=>?_
 obtain⟨y5,hy5,h⟩:=Af h
 refine An.pure Tryz.call249 (S5 x_4 hy5) rfl fun _ hr=>?_
 subst hr
 refine nS ?_
 refine j _ _ (qn ?_)
 revert h;refine ca rfl (fun hc h=>?_) fun hc h=>?_
 ·refine rg rfl fun K j=>?_
  obtain⟨hk,h⟩:=B6 h
  (repeat refine rp ?_);try simp +decide -implicitDefEqProofs only[go_sem]
  refine j _ _ (bn (qn ?_))
  refine ar rfl (qn ?_)
  obtain rfl:=Aa h
  refine⟨(k2+1,(out1++[x_4.Slide]),(ver2+1)),⟨by dsimp only;omega,Ai hJ2⟩,by dsimp only;omega,?_,?_⟩
  ·exact cuw hw2
  exact cuw hw2
 refine sk (bn (qn (ar rfl (qn ?_))))
 obtain rfl:=Aa h
 refine⟨(k2+1,out1,ver2),⟨by dsimp only;omega,Ai hJ2⟩,by dsimp only;omega,?_,?_⟩
 ·exact cuw hw2
 exact cuw hw2
theorem aY (l:List Bg) {r:(List Int)} (h:Lr l=some r):Ad Tryz.prog 202 [.sl 7 (l.map Ap)] (·= .sl 1 (r.map A5)):=(Zw l h).pure
def Gr (zone:Int) (y1:(List Int)) (k1:Nat) (x_3:Bd) (sv:Unit):Option (Out (Unit) (Bool)):=
 (Br y1 x_3.ID).bind fun y4=>(bif y4 then(Br x_3.Zones zone).bind fun y5=>(bif y5 then some (Out.ret (decide (0≤((k1:Nat):Int))))else some (Out.next ()))else some (Out.next ()))
def Gs (f_:Aj) (zone:Int):Option (Bool):=
 (Lr f_.Missions).bind fun y1=>(Al (Gr zone y1) 0 f_.Slides ()).bind fun o1=>o1.on fun s1=>some false
theorem Vi (f_:Aj) (zone:Int) {r:Bool} (h:Gs f_ zone=some r):Ad Tryz.prog 105 [.agg (B3 f_),.int .i64 zone] (·= .bool r):=by
 refine Ad.nle (Ad.intro Tryz.func105 rfl rfl (by show _≤13;simp) ?_)
 unfold Gs at h
 refine nS (sq ?_)
 refine ar rfl (qn (sq ?_))
 refine rg rfl fun K j=>?_
 obtain⟨y1,hy1,h⟩:=Af h
 refine An.pure Tryz.call202 (aY f_.Missions hy1) rfl fun _ hr=>?_
 subst hr
 refine nS ?_
 refine j _ _ (qn (sq ?_))
 refine rg rfl fun K j=>?_
 refine An.inline Tryz.call203 Tryz.func203 rfl rfl (by show _≤9;simp) ?_
 refine nS (sq ?_)
 refine ar rfl (qn (sq ?_))
 refine rg rfl fun K j=>?_
 refine An.inline Tryz.call245 Tryz.func245 rfl rfl (by show _≤19;simp) ?_
 refine nS (sq ?_)
 refine ar rfl (qn (sq (sq ?_)))
 refine rg rfl fun K j=>?_
 intro hm
 refine j _ _ (qn (bk ?_));clear j K
 obtain⟨o1,hJ1,hO1⟩:=Af h
 clear h
 refine AWP.Bw (ι:=Nat×(Unit)×(Unit)) (fun zz=>[(0,.sl 6 (f_.Slides.map A9)),(1,.func 204 [.ptr 2 0,.ptr 1 0]),(7,.int .i64 ((f_.Slides.length:Nat):Int)),(8,.int .i64 ((zz.1:Nat):Int))]) (fun zz=>[.box [.sl 2 (f_.Map.Nodes.map A6),.sl 8 (f_.Map.Lifts.map A7),.sl 7 (f_.Map.Runs.map Bc),.sl 1 (f_.Map.Bases.map A5),.sl 2 (f_.Lifts.map Av),.sl 4 (f_.Closures.map Aq),.sl 4 (f_.Patrol.Bt.map Au),.sl 3 (f_.Patrol.Hazards.map Az),.sl 3 (f_.Surfaces.map A3),.sl 5 (f_.Packs.map A1),.sl 6 (f_.Slides.map A9),.sl 7 (f_.Bulletin.map Aw),.sl 7 (f_.Missions.map Ap),.sl 4 (f_.Winches.map Ao),.sl 8 (f_.Groomers.map Ay),.sl 3 (f_.Status.map A4),.int .i64 f_.Depth,.int .i64 f_.Time],.box [.int .i64 zone],.box [.sl 1 (y1.map A5)]]) (fun zz=>zz.1≤f_.Slides.length∧Al (Gr zone y1) zz.1 ((f_.Slides).drop zz.1) zz.2.1=some o1) (fun zz=>f_.Slides.length - zz.1) (0,(),()) ⟨Nat.zero_le _,hJ1⟩ cu cu (fun x=>⟨rfl,rfl,rfl⟩) ?_
 clear hJ1
 rintro⟨k1,⟨⟩,⟨⟩⟩ ⟨hk1,hJ1⟩
 dsimp only at hk1 hJ1 ⊢
 refine sq (ar rfl (qn (sq ?_)))
 refine AWP.cond (Ak (fun hc=>?_) (fun hc=>?_))
 rotate_left
 ·obtain rfl:=Bf hJ1 (fun hl=>by have:=Ai7 hc;omega)
  have h:=Be hO1;try dsimp only at h
  have hkl:f_.Slides.length=k1:=by have:=Ai7 hc;omega
  subst hkl
  refine xt (qe (qe (bs (qn (sq (ar rfl (qn (rt ?_))))))))
  refine nSc Tryz.results245 ?_
  refine j _ _ (qn (rt ?_));clear j K
  refine nSc Tryz.results203 ?_
  refine j _ _ (qn (rt ?_))
  cases h;exact en Tryz.results105
 have hlt1:k1<f_.Slides.length:=by have:=Ai8 hc;omega
 obtain⟨x_3,b1,hx1_,h,hJ1⟩:=Ba hJ1 hlt1
 have hx1:=A2 hx1_
 have hw1:=wk (k:=k1) (by omega)
 unfold Gr at h;try dsimp only at h
 refine sk (qn (sq (bk (sq (ar rfl (qn (sq ?_)))))))
 refine rg rfl fun K j=>?_
 refine Bn.of (f:=A9) (l:=f_.Slides) hx1 ?_
 refine nS ?_
 refine An.inline Tryz.call204 Tryz.func204 rfl rfl (by show _≤15;simp) ?_
 refine nS (sq ?_)
 refine ar rfl (qn (sq ?_))
 refine rg rfl fun K j=>?_
 obtain⟨y4,hy4,h⟩:=Af h
 refine An.pure Tryz.call54 (Bu y1 x_3.ID hy4) rfl fun _ hr=>?_
 subst hr
 refine nS ?_
 revert h;refine gt (fun hc h=>?_) fun hc h=>?_
 ·obtain⟨y5,hy5,h⟩:=Af h
  refine An.pure Tryz.call54 (Bu x_3.Zones zone hy5) rfl fun _ hr=>?_
  subst hr
  refine nS ?_
  refine j _ _ (qn (rt ?_));clear j K
  refine nSc Tryz.results204 ?_
  refine j _ _ (qn ?_);clear j K
  revert h;refine ca rfl (fun hc h=>?_) fun hc h=>?_
  ·refine sq (ar rfl (qn (rt (br (qr (qr ?_))))))
   obtain rfl:=Aa h
   obtain rfl:=Ae hJ1
   replace h:=Am hO1
   refine br (qr (nSc Tryz.results245 ?_))
   refine j _ _ (qn (rt ?_));clear j K
   refine nSc Tryz.results203 ?_
   refine j _ _ (qn (rt ?_))
   cases h;exact en Tryz.results105
  refine sk (bn (qn (ar rfl (qn ?_))))
  obtain rfl:=Aa h
  refine⟨(k1+1,(),()),⟨by dsimp only;omega,Ai hJ1⟩,by dsimp only;omega,?_,?_⟩
  ·exact cuw hw1
  exact cuw hw1
 refine j _ _ (qn (rt ?_));clear j K
 refine nSc Tryz.results204 ?_
 refine j _ _ (qn ?_);clear j K
 refine AWP.cond (Bi ?_)
 refine sk (bn (qn (ar rfl (qn ?_))))
 obtain rfl:=Aa h
 refine⟨(k1+1,(),()),⟨by dsimp only;omega,Ai hJ1⟩,by dsimp only;omega,?_,?_⟩
 ·exact cuw hw1
 exact cuw hw1
def Mh (zone:Int) (k2:Nat) (x_4:Cd) (sv:(List Int)):Option (Out ((List Int)) ((List Int))):=
 (bif (decide (x_4.Zone=zone))then chk (sv.length+1) (some (Out.next (sv++[x_4.ID])))else some (Out.next sv))
def K9 (m:Bb) (zone:Int):Option ((List Int)):=
 (Al (Mh zone) 0 m.Runs []).bind fun o2=>o2.on fun s2=>some s2
theorem Y6 (m:Bb) (zone:Int) {r:(List Int)} (h:K9 m zone=some r):Bp Tryz.prog 95 [.agg (Cf m),.int .i64 zone] (·= .sl 1 (r.map A5)):=by
 refine Bp.nle (Bp.intro Tryz.func95 rfl rfl (by show _≤26;simp) ?_)
 unfold K9 at h
 refine nS (sq ?_)
 refine ar rfl (qn (sq ?_))
 refine ar rfl (qn (sq (sq ?_)))
 refine rg rfl fun K j=>?_
 intro hm
 refine j _ _ (qn (bk ?_))
 refine AWP.ghost 5 1 rfl (by decide) ?_
 obtain⟨o2,hJ2,hO2⟩:=Af h
 clear h
 refine AWP.Bw (ι:=Nat×((List Int))×(Nat)) (fun zz=>[(1,.int .i64 zone),(5,.own 1 zz.2.2 0 zz.2.1.length),(9,.sl 7 (m.Runs.map Bc)),(10,.int .i64 ((m.Runs.length:Nat):Int)),(11,.int .i64 ((zz.1:Nat):Int))]) (fun zz=>[.gone,.row zz.2.2 1 (zz.2.1.map A5)]) (fun zz=>zz.1≤m.Runs.length∧Al (Mh zone) zz.1 ((m.Runs).drop zz.1) zz.2.1=some o2) (fun zz=>m.Runs.length - zz.1) (0,[],0) ⟨Nat.zero_le _,hJ2⟩ cu cu (fun x=>⟨rfl,rfl,rfl⟩) ?_
 clear hJ2
 rintro⟨k2,out1,ver2⟩ ⟨hk2,hJ2⟩
 dsimp only at hk2 hJ2 ⊢
 refine sq (ar rfl (qn (sq ?_)))
 refine AWP.cond (Ak (fun hc=>?_) (fun hc=>?_))
 rotate_left
 ·obtain rfl:=Bf hJ2 (fun hl=>by have:=Ai7 hc;omega)
  have h:=Be hO2;try dsimp only at h
  have hkl:m.Runs.length=k2:=by have:=Ai7 hc;omega
  subst hkl
  refine xt (qe (qe (bs (qn (sq (ar rfl (qn (rt ?_))))))))
  cases h;exact en Tryz.results95
 have hlt2:k2<m.Runs.length:=by have:=Ai8 hc;omega
 obtain⟨x_4,b2,hx2_,h,hJ2⟩:=Ba hJ2 hlt2
 have hx2:=A2 hx2_
 have hw2:=wk (k:=k2) (by omega)
 unfold Mh at h;try dsimp only at h
 refine sk (qn (sq (bk (sq ?_))))
 refine rg rfl fun K j=>?_
 refine Bn.of (f:=Bc) (l:=m.Runs) hx2 ?_
 refine nS ?_
 refine j _ _ (qn (sq ?_))
 refine ar rfl (qn ?_)
 revert h;refine ca rfl (fun hc h=>?_) fun hc h=>?_
 ·refine rg rfl fun K j=>?_
  obtain⟨hk,h⟩:=B6 h
  (repeat refine rp ?_);try simp +decide -implicitDefEqProofs only[go_sem]
  refine j _ _ (bn (qn ?_))
  refine ar rfl (qn ?_)
  obtain rfl:=Aa h
  refine⟨(k2+1,(out1++[x_4.ID]),(ver2+1)),⟨by dsimp only;omega,Ai hJ2⟩,by dsimp only;omega,?_,?_⟩
  ·exact cuw hw2
  exact cuw hw2
 refine sk (bn (qn (ar rfl (qn ?_))))
 obtain rfl:=Aa h
 refine⟨(k2+1,out1,ver2),⟨by dsimp only;omega,Ai hJ2⟩,by dsimp only;omega,?_,?_⟩
 ·exact cuw hw2
 exact cuw hw2
theorem Z6 (m:Bb) (zone:Int) {r:(List Int)} (h:K9 m zone=some r):Ad Tryz.prog 95 [.agg (Cf m),.int .i64 zone] (·= .sl 1 (r.map A5)):=(Y6 m zone h).pure
def P7 (id_:Int) (k0:Nat) (x_2:Ck) (sv:Unit):Option (Out (Unit) (Ck×Bool)):=
 (bif (decide (x_2.ID=id_))then some (Out.ret (x_2,true))else some (Out.next ()))
def D5 (m:Bb) (id_:Int):Option (Ck×Bool):=
 (Al (P7 id_) 0 m.Nodes ()).bind fun o0=>o0.on fun s0=>some ((Ck.mk 0 0),false)
theorem Dl (m:Bb) (id_:Int) {r:Ck×Bool} (h:D5 m id_=some r):Ad Tryz.prog 96 [.agg (Cf m),.int .i64 id_] (·= .tuple [.agg (A6 r.1),.bool r.2]):=by
 refine Ad.nle (Ad.intro Tryz.func96 rfl rfl (by show _≤22;simp) ?_)
 unfold D5 at h
 refine nS (sq ?_)
 refine ar rfl (qn (sq (sq ?_)))
 refine rg rfl fun K j=>?_
 intro hm
 refine j _ _ (qn (bk ?_))
 obtain⟨o0,hJ0,hO0⟩:=Af h
 clear h
 refine AWP.Bw (ι:=Nat×(Unit)×(Unit)) (fun zz=>[(1,.int .i64 id_),(4,.ptr 1 0),(9,.sl 2 (m.Nodes.map A6)),(10,.int .i64 ((m.Nodes.length:Nat):Int)),(11,.int .i64 ((zz.1:Nat):Int))]) (fun zz=>[.gone,.box [.int .i64 0,.int .i64 0]]) (fun zz=>zz.1≤m.Nodes.length∧Al (P7 id_) zz.1 ((m.Nodes).drop zz.1) zz.2.1=some o0) (fun zz=>m.Nodes.length - zz.1) (0,(),()) ⟨Nat.zero_le _,hJ0⟩ cu cu (fun x=>⟨rfl,rfl,rfl⟩) ?_
 clear hJ0
 rintro⟨k0,⟨⟩,⟨⟩⟩ ⟨hk0,hJ0⟩
 dsimp only at hk0 hJ0 ⊢
 refine sq (ar rfl (qn (sq ?_)))
 refine AWP.cond (Ak (fun hc=>?_) (fun hc=>?_))
 rotate_left
 ·obtain rfl:=Bf hJ0 (fun hl=>by have:=Ai7 hc;omega)
  have h:=Be hO0;try dsimp only at h
  have hkl:m.Nodes.length=k0:=by have:=Ai7 hc;omega
  subst hkl
  refine xt (qe (qe (bs (qn (sq (ar rfl (qn (rt ?_))))))))
  cases h;exact en Tryz.results96
 have hlt0:k0<m.Nodes.length:=by have:=Ai8 hc;omega
 obtain⟨x_2,b0,hx0_,h,hJ0⟩:=Ba hJ0 hlt0
 have hx0:=A2 hx0_
 have hw0:=wk (k:=k0) (by omega)
 unfold P7 at h;try dsimp only at h
 refine sk (qn (sq (bk (sq ?_))))
 refine rg rfl fun K j=>?_
 refine Bn.of (f:=A6) (l:=m.Nodes) hx0 ?_
 refine nS ?_
 refine j _ _ (qn (sq ?_))
 refine ar rfl (qn ?_)
 revert h;refine ca rfl (fun hc h=>?_) fun hc h=>?_
 ·refine sq (ar rfl (qn (rt (br (qr (qr ?_))))))
  obtain rfl:=Aa h
  obtain rfl:=Ae hJ0
  replace h:=Am hO0
  refine br (qr ?_)
  cases h;exact en Tryz.results96
 refine sk (bn (qn (ar rfl (qn ?_))))
 obtain rfl:=Aa h
 refine⟨(k0+1,(),()),⟨by dsimp only;omega,Ai hJ0⟩,by dsimp only;omega,?_,?_⟩
 ·exact cuw hw0
 exact cuw hw0
def Ek (m:Bb) (k4:Nat) (x_6:Int) (sv:Int×Int×Bool):Option (Out (Int×Int×Bool) (Int×Int×Bool)):=
 (E4 m x_6).bind fun y7=>(D5 m y7.1.From).bind fun y8=>(D5 m y7.1.To).bind fun y9=>(bif (!sv.2.2)then some (Out.next ((if y9.1.Alt<y9.1.Alt then y9.1.Alt else y9.1.Alt),(if y8.1.Alt<y8.1.Alt then y8.1.Alt else y8.1.Alt),true))else some (Out.next ((if y9.1.Alt<sv.1 then y9.1.Alt else sv.1),(if sv.2.1<y8.1.Alt then y8.1.Alt else sv.2.1),sv.2.2)))
def Fo (m:Bb) (zone:Int):Option (Int×Int×Bool):=
 (K9 m zone).bind fun y1=>(Al (Ek m) 0 y1 (0,0,false)).bind fun o4=>o4.on fun s4=>some (s4.1,(s4.2.1,s4.2.2))
theorem Tu (m:Bb) (zone:Int) {r:Int×Int×Bool} (h:Fo m zone=some r):Ad Tryz.prog 44 [.agg (Cf m),.int .i64 zone] (·= .tuple [.int .i64 r.1,.int .i64 r.2.1,.bool r.2.2]):=by
 refine Ad.nle (Ad.intro Tryz.func44 rfl rfl (by show _≤61;simp) ?_)
 unfold Fo at h
 refine nS (sq ?_)
 refine ar rfl (qn (sq (sq ?_)))
 refine rg rfl fun K j=>?_
 obtain⟨y1,hy1,h⟩:=Af h
 refine An.pure Tryz.call95 (Z6 m zone hy1) rfl fun _ hr=>?_
 subst hr
 refine nS ?_
 intro hm
 refine j _ _ (qn (bk ?_))
 obtain⟨o4,hJ4,hO4⟩:=Af h
 clear h
 refine AWP.Bw (ι:=Nat×(Int×Int×Bool)×(Unit)) (fun zz=>[(2,.ptr 0 0),(4,.int .i64 zz.2.1.1),(5,.int .i64 zz.2.1.2.1),(6,.bool zz.2.1.2.2),(17,.sl 1 (y1.map A5)),(18,.int .i64 ((y1.length:Nat):Int)),(19,.int .i64 ((zz.1:Nat):Int))]) (fun zz=>[.box [.sl 2 (m.Nodes.map A6),.sl 8 (m.Lifts.map A7),.sl 7 (m.Runs.map Bc),.sl 1 (m.Bases.map A5)]]) (fun zz=>zz.1≤y1.length∧Al (Ek m) zz.1 ((y1).drop zz.1) zz.2.1=some o4) (fun zz=>y1.length - zz.1) (0,(0,0,false),()) ⟨Nat.zero_le _,hJ4⟩ cu cu (fun x=>⟨rfl,rfl,rfl⟩) ?_
 clear hJ4
 rintro⟨k4,⟨low2,high3,ok4⟩,⟨⟩⟩ ⟨hk4,hJ4⟩
 dsimp only at hk4 hJ4 ⊢
 refine sq (ar rfl (qn (sq ?_)))
 refine AWP.cond (Ak (fun hc=>?_) (fun hc=>?_))
 rotate_left
 ·obtain rfl:=Bf hJ4 (fun hl=>by have:=Ai7 hc;omega)
  have h:=Be hO4;try dsimp only at h
  have hkl:y1.length=k4:=by have:=Ai7 hc;omega
  subst hkl
  refine xt (qe (qe (bs (qn (sq (ar rfl (qn (rt ?_))))))))
  cases h;exact en Tryz.results44
 have hlt4:k4<y1.length:=by have:=Ai8 hc;omega
 obtain⟨x_6,b4,hx4_,h,hJ4⟩:=Ba hJ4 hlt4
 have hx4:=A2 hx4_
 have hw4:=wk (k:=k4) (by omega)
 unfold Ek at h;try dsimp only at h
 refine sk (qn (sq (bk (sq ?_))))
 refine rg rfl fun K j=>?_
 refine Bn.of (f:=A5) (l:=y1) hx4 ?_
 refine nS ?_
 refine j _ _ (qn (sq ?_))
 refine rg rfl fun K j=>?_
 obtain⟨y7,hy7,h⟩:=Af h
 refine An.pure Tryz.call53 (D9 m x_6 hy7) rfl fun _ hr=>?_
 subst hr
 refine nS ?_
 refine j _ _ (qn (sq ?_))
 refine rg rfl fun K j=>?_
 obtain⟨y8,hy8,h⟩:=Af h
 refine An.pure Tryz.call96 (Dl m y7.1.From hy8) rfl fun _ hr=>?_
 subst hr
 refine nS ?_
 refine j _ _ (qn (sq ?_))
 refine rg rfl fun K j=>?_
 obtain⟨y9,hy9,h⟩:=Af h
 refine An.pure Tryz.call96 (Dl m y7.1.To hy9) rfl fun _ hr=>?_
 subst hr
 refine nS ?_
 refine j _ _ (qn (sq (sq ?_)))
 refine ar rfl (qn ?_)
 revert h;refine ca rfl (fun hc h=>?_) fun hc h=>?_
 ·refine AWP.draw Tryz.mixed (by kernel_rfl) ?_;intro K j
  refine nS ?_
  refine j _ _ _ (by kernel_rfl) ?_
  refine qn (sq (ar rfl (qn ?_)))
  refine ar rfl (bn (qn ?_))
  refine ar rfl (qn ?_)
  obtain rfl:=Aa h
  refine⟨(k4+1,((if y9.1.Alt<y9.1.Alt then y9.1.Alt else y9.1.Alt),(if y8.1.Alt<y8.1.Alt then y8.1.Alt else y8.1.Alt),true),()),⟨by dsimp only;omega,Ai hJ4⟩,by dsimp only;omega,?_,?_⟩
  ·exact cuw hw4
  exact cuw hw4
 refine sk (qn (sq (ar rfl (qn ?_))))
 refine ar rfl (bn (qn ?_))
 refine ar rfl (qn ?_)
 obtain rfl:=Aa h
 refine⟨(k4+1,((if y9.1.Alt<low2 then y9.1.Alt else low2),(if high3<y8.1.Alt then y8.1.Alt else high3),ok4),()),⟨by dsimp only;omega,Ai hJ4⟩,by dsimp only;omega,?_,?_⟩
 ·exact cuw hw4
 exact cuw hw4
def Lq (span:Gy) (t:Int):Option (Bool):=
 (bif (decide (span.From≤t))then some (decide (t<span.To))else some false)
theorem S4 (span:Gy) (t:Int) {r:Bool} (h:Lq span t=some r):Ad Tryz.prog 197 [.agg (R7 span),.int .i64 t] (·= .bool r):=by
 refine Ad.nle (Ad.intro Tryz.func197 rfl rfl (by show _≤15;simp) ?_)
 unfold Lq at h
 refine nS (sq ?_)
 refine ar rfl (qn (sq ?_))
 refine rg rfl fun K j=>?_
 revert h;refine gt (fun hc h=>?_) fun hc h=>?_
 ·refine j _ _ (qn (rt ?_))
  cases h;exact en Tryz.results197
 refine j _ _ (qn (rt ?_))
 cases h;exact en Tryz.results197
def Fp (t:Int) (k1:Nat) (x_3:Bl) (sv:Int):Option (Out (Int) (Int)):=
 (Lq x_3.Span t).bind fun y4=>(bif y4 then(bif (decide (sv<x_3.Version))then some (Out.next x_3.Version)else some (Out.next sv))else some (Out.next sv))
def Hw (l:List Bl) (t:Int):Option (Int):=
 (Al (Fp t) 0 l 0).bind fun o1=>o1.on fun s1=>some s1
theorem V9 (l:List Bl) (t:Int) {r:Int} (h:Hw l t=some r):Ad Tryz.prog 195 [.sl 7 (l.map Aw),.int .i64 t] (·= .int .i64 r):=by
 refine Ad.nle (Ad.intro Tryz.func195 rfl rfl (by show _≤28;simp) ?_)
 unfold Hw at h
 refine nS (sq ?_)
 refine ar rfl (qn (sq ?_))
 refine ar rfl (qn (sq (sq ?_)))
 refine rg rfl fun K j=>?_
 intro hm
 refine j _ _ (qn (bk ?_))
 obtain⟨o1,hJ1,hO1⟩:=Af h
 clear h
 refine AWP.Bw (ι:=Nat×(Int)×(Unit)) (fun zz=>[(1,.int .i64 t),(5,.int .i64 zz.2.1),(8,.sl 7 (l.map Aw)),(9,.int .i64 ((l.length:Nat):Int)),(10,.int .i64 ((zz.1:Nat):Int))]) (fun zz=>[]) (fun zz=>zz.1≤l.length∧Al (Fp t) zz.1 ((l).drop zz.1) zz.2.1=some o1) (fun zz=>l.length - zz.1) (0,0,()) ⟨Nat.zero_le _,hJ1⟩ cu cu (fun x=>⟨rfl,rfl,rfl⟩) ?_
 clear hJ1
 rintro⟨k1,version1,⟨⟩⟩ ⟨hk1,hJ1⟩
 dsimp only at hk1 hJ1 ⊢
 refine sq (ar rfl (qn (sq ?_)))
 refine AWP.cond (Ak (fun hc=>?_) (fun hc=>?_))
 rotate_left
 ·obtain rfl:=Bf hJ1 (fun hl=>by have:=Ai7 hc;omega)
  have h:=Be hO1;try dsimp only at h
  have hkl:l.length=k1:=by have:=Ai7 hc;omega
  subst hkl
  refine xt (qe (qe (bs (qn (sq (ar rfl (qn (rt ?_))))))))
  cases h;exact en Tryz.results195
 have hlt1:k1<l.length:=by have:=Ai8 hc;omega
 obtain⟨x_3,b1,hx1_,h,hJ1⟩:=Ba hJ1 hlt1
 have hx1:=A2 hx1_
 have hw1:=wk (k:=k1) (by omega)
 unfold Fp at h;try dsimp only at h
 refine sk (qn (sq (bk (sq ?_))))
 refine rg rfl fun K j=>?_
 refine Bn.of (f:=Aw) (l:=l) hx1 ?_
 refine nS ?_
 refine j _ _ (qn (sq ?_))
 refine rg rfl fun K j=>?_
 obtain⟨y4,hy4,h⟩:=Af h
 refine An.pure Tryz.call197 (S4 x_3.Span t hy4) rfl fun _ hr=>?_
 subst hr
 refine nS ?_
 revert h;refine gt (fun hc h=>?_) fun hc h=>?_
 ·refine j _ _ (qn ?_)
  revert h;refine ca rfl (fun hc h=>?_) fun hc h=>?_
  ·refine ar rfl (bn (qn ?_))
   refine ar rfl (qn ?_)
   obtain rfl:=Aa h
   refine⟨(k1+1,x_3.Version,()),⟨by dsimp only;omega,Ai hJ1⟩,by dsimp only;omega,?_,?_⟩
   ·exact cuw hw1
   exact cuw hw1
  refine sk (bn (qn (ar rfl (qn ?_))))
  obtain rfl:=Aa h
  refine⟨(k1+1,version1,()),⟨by dsimp only;omega,Ai hJ1⟩,by dsimp only;omega,?_,?_⟩
  ·exact cuw hw1
  exact cuw hw1
 refine j _ _ (qn ?_)
 refine AWP.cond (Bi ?_)
 refine sk (bn (qn (ar rfl (qn ?_))))
 obtain rfl:=Aa h
 refine⟨(k1+1,version1,()),⟨by dsimp only;omega,Ai hJ1⟩,by dsimp only;omega,?_,?_⟩
 ·exact cuw hw1
 exact cuw hw1
def J2 (zone:Int) (low:Int) (high:Int) (t:Int) (y1:Int) (k2:Nat) (x_4:Bl) (sv:Int):Option (Out (Int) (Int)):=
 (bif (decide (x_4.Version=y1))then (Lq x_4.Span t).bind fun y5=>(bif y5 then(Br x_4.Zones zone).bind fun y6=>(bif y6 then(bif (decide (x_4.Low<high))then (bif (decide (low<x_4.High))then (bif (decide (sv<x_4.Level))then some (Out.next x_4.Level)else some (Out.next sv))else some (Out.next sv))else some (Out.next sv))else some (Out.next sv))else some (Out.next sv))else some (Out.next sv))
def Hv (l:List Bl) (zone:Int) (low:Int) (high:Int) (t:Int):Option (Int):=
 (Hw l t).bind fun y1=>(Al (J2 zone low high t y1) 0 l 0).bind fun o2=>o2.on fun s2=>some s2
theorem Yr (l:List Bl) (zone:Int) (low:Int) (high:Int) (t:Int) {r:Int} (h:Hv l zone low high t=some r):Ad Tryz.prog 45 [.sl 7 (l.map Aw),.int .i64 zone,.int .i64 low,.int .i64 high,.int .i64 t] (·= .int .i64 r):=by
 refine Ad.nle (Ad.intro Tryz.func45 rfl rfl (by show _≤55;simp) ?_)
 unfold Hv at h
 refine nS (sq ?_)
 refine ar rfl (qn (sq ?_))
 refine rg rfl fun K j=>?_
 refine An.inline Tryz.call97 Tryz.func97 rfl rfl (by show _≤10;simp) ?_
 refine nS (sq ?_)
 refine ar rfl (qn (sq ?_))
 refine rg rfl fun K j=>?_
 obtain⟨y1,hy1,h⟩:=Af h
 refine An.pure Tryz.call195 (V9 l t hy1) rfl fun _ hr=>?_
 subst hr
 refine nS ?_
 refine j _ _ (qn (sq ?_));clear j K
 refine ar rfl (qn (rt ?_))
 refine nSc Tryz.results97 ?_
 refine j _ _ (qn (sq ?_))
 refine ar rfl (qn (sq (sq ?_)))
 refine rg rfl fun K j=>?_
 intro hm
 refine j _ _ (qn (bk ?_))
 obtain⟨o2,hJ2,hO2⟩:=Af h
 clear h
 refine AWP.Bw (ι:=Nat×(Int)×(Unit)) (fun zz=>[(1,.int .i64 zone),(2,.int .i64 low),(3,.int .i64 high),(11,.func 196 [.ptr 1 0,.ptr 0 0]),(12,.int .i64 zz.2.1),(18,.sl 7 (l.map Aw)),(19,.int .i64 ((l.length:Nat):Int)),(20,.int .i64 ((zz.1:Nat):Int))]) (fun zz=>[.box [.int .i64 t],.box [.int .i64 y1]]) (fun zz=>zz.1≤l.length∧Al (J2 zone low high t y1) zz.1 ((l).drop zz.1) zz.2.1=some o2) (fun zz=>l.length - zz.1) (0,0,()) ⟨Nat.zero_le _,hJ2⟩ cu cu (fun x=>⟨rfl,rfl,rfl⟩) ?_
 clear hJ2
 rintro⟨k2,level2,⟨⟩⟩ ⟨hk2,hJ2⟩
 dsimp only at hk2 hJ2 ⊢
 refine sq (ar rfl (qn (sq ?_)))
 refine AWP.cond (Ak (fun hc=>?_) (fun hc=>?_))
 rotate_left
 ·obtain rfl:=Bf hJ2 (fun hl=>by have:=Ai7 hc;omega)
  have h:=Be hO2;try dsimp only at h
  have hkl:l.length=k2:=by have:=Ai7 hc;omega
  subst hkl
  refine xt (qe (qe (bs (qn (sq (ar rfl (qn (rt ?_))))))))
  cases h;exact en Tryz.results45
 have hlt2:k2<l.length:=by have:=Ai8 hc;omega
 obtain⟨x_4,b2,hx2_,h,hJ2⟩:=Ba hJ2 hlt2
 have hx2:=A2 hx2_
 have hw2:=wk (k:=k2) (by omega)
 unfold J2 at h;try dsimp only at h
 refine sk (qn (sq (bk (sq ?_))))
 refine rg rfl fun K j=>?_
 refine Bn.of (f:=Aw) (l:=l) hx2 ?_
 refine nS ?_
 refine j _ _ (qn (sq ?_))
 refine rg rfl fun K j=>?_
 refine An.inline Tryz.call196 Tryz.func196 rfl rfl (by show _≤15;simp) ?_
 refine nS (sq ?_)
 refine ar rfl (qn (sq ?_))
 refine rg rfl fun K j=>?_
 revert h;refine gt (fun hc h=>?_) fun hc h=>?_
 ·obtain⟨y5,hy5,h⟩:=Af h
  refine An.pure Tryz.call197 (S4 x_4.Span t hy5) rfl fun _ hr=>?_
  subst hr
  refine nS ?_
  refine j _ _ (qn (rt ?_));clear j K
  refine nSc Tryz.results196 ?_
  revert h;refine gt (fun hc h=>?_) fun hc h=>?_
  ·obtain⟨y6,hy6,h⟩:=Af h
   refine An.pure Tryz.call54 (Bu x_4.Zones zone hy6) rfl fun _ hr=>?_
   subst hr
   refine nS ?_
   revert h;refine gt (fun hc h=>?_) fun hc h=>?_
   ·revert h;refine gt (fun hc h=>?_) fun hc h=>?_
    ·revert h;refine gt (fun hc h=>?_) fun hc h=>?_
     ·refine j _ _ (qn ?_)
      revert h;refine ca rfl (fun hc h=>?_) fun hc h=>?_
      ·refine ar rfl (bn (qn ?_))
       refine ar rfl (qn ?_)
       obtain rfl:=Aa h
       refine⟨(k2+1,x_4.Level,()),⟨by dsimp only;omega,Ai hJ2⟩,by dsimp only;omega,?_,?_⟩
       ·exact cuw hw2
       exact cuw hw2
      refine sk (bn (qn (ar rfl (qn ?_))))
      obtain rfl:=Aa h
      refine⟨(k2+1,level2,()),⟨by dsimp only;omega,Ai hJ2⟩,by dsimp only;omega,?_,?_⟩
      ·exact cuw hw2
      exact cuw hw2
     refine j _ _ (qn ?_)
     refine AWP.cond (Bi ?_)
     refine sk (bn (qn (ar rfl (qn ?_))))
     obtain rfl:=Aa h
     refine⟨(k2+1,level2,()),⟨by dsimp only;omega,Ai hJ2⟩,by dsimp only;omega,?_,?_⟩
     ·exact cuw hw2
     exact cuw hw2
    refine j _ _ (qn ?_)
    refine AWP.cond (Bi ?_)
    refine sk (bn (qn (ar rfl (qn ?_))))
    obtain rfl:=Aa h
    refine⟨(k2+1,level2,()),⟨by dsimp only;omega,Ai hJ2⟩,by dsimp only;omega,?_,?_⟩
    ·exact cuw hw2
    exact cuw hw2
   refine j _ _ (qn ?_)
   refine AWP.cond (Bi ?_)
   refine sk (bn (qn (ar rfl (qn ?_))))
   obtain rfl:=Aa h
   refine⟨(k2+1,level2,()),⟨by dsimp only;omega,Ai hJ2⟩,by dsimp only;omega,?_,?_⟩
   ·exact cuw hw2
   exact cuw hw2
  refine j _ _ (qn ?_)
  refine AWP.cond (Bi ?_)
  refine sk (bn (qn (ar rfl (qn ?_))))
  obtain rfl:=Aa h
  refine⟨(k2+1,level2,()),⟨by dsimp only;omega,Ai hJ2⟩,by dsimp only;omega,?_,?_⟩
  ·exact cuw hw2
  exact cuw hw2
 refine j _ _ (qn (rt ?_));clear j K
 refine nSc Tryz.results196 ?_
 refine j _ _ (qn ?_)
 refine AWP.cond (Bi ?_)
 refine sk (bn (qn (ar rfl (qn ?_))))
 obtain rfl:=Aa h
 refine⟨(k2+1,level2,()),⟨by dsimp only;omega,Ai hJ2⟩,by dsimp only;omega,?_,?_⟩
 ·exact cuw hw2
 exact cuw hw2
def Ex (f_:Aj) (k2:Nat) (_x:Unit) (sv:(List Int)):Option (Out ((List Int)) ((List Int))):=
 (Fo f_.Map (((k2:Nat):Int)+1)).bind fun y4=>(bif y4.2.2 then(Hv f_.Bulletin (((k2:Nat):Int)+1) y4.1 y4.2.1 f_.Time).bind fun y5=>chk (sv.length+1) (some (Out.next (sv++[y5])))else chk (sv.length+1) (some (Out.next (sv++[(0:Int)]))))
def E2 (f_:Aj):Option ((List Int)):=
 yY 32 ((J5 (Ex f_) 32 []).bind fun o2=>o2.on fun s2=>some s2)
theorem Vj (f_:Aj) {r:(List Int)} (h:E2 f_=some r):Bp Tryz.prog 16 [.agg (B3 f_)] (·= .sl 1 (r.map A5)):=by
 refine Bp.nle (Bp.intro Tryz.func16 rfl rfl (by show _≤36;simp) ?_)
 unfold E2 at h
 refine nS (sq ?_)
 refine ar rfl (qn (sq ?_))
 refine rg rfl fun K j=>?_
 obtain⟨hk,hk2,h⟩:=yX h
 (repeat refine rp ?_);try simp +decide -implicitDefEqProofs only[go_sem]
 refine j _ _ (qn (sq (sq ?_)))
 refine ar rfl (qn (bk ?_))
 obtain⟨o2,hJ2,hO2⟩:=Af h
 clear h
 obtain⟨hn2,hJ2⟩:=S1 hJ2
 refine AWP.Bw (ι:=Nat×((List Int))×(Nat)) (fun zz=>[(1,.ptr 0 0),(3,.own 1 zz.2.2 0 zz.2.1.length),(4,.int .i64 (((zz.1:Nat):Int)+(1:Int)))]) (fun zz=>[.box [.sl 2 (f_.Map.Nodes.map A6),.sl 8 (f_.Map.Lifts.map A7),.sl 7 (f_.Map.Runs.map Bc),.sl 1 (f_.Map.Bases.map A5),.sl 2 (f_.Lifts.map Av),.sl 4 (f_.Closures.map Aq),.sl 4 (f_.Patrol.Bt.map Au),.sl 3 (f_.Patrol.Hazards.map Az),.sl 3 (f_.Surfaces.map A3),.sl 5 (f_.Packs.map A1),.sl 6 (f_.Slides.map A9),.sl 7 (f_.Bulletin.map Aw),.sl 7 (f_.Missions.map Ap),.sl 4 (f_.Winches.map Ao),.sl 8 (f_.Groomers.map Ay),.sl 3 (f_.Status.map A4),.int .i64 f_.Depth,.int .i64 f_.Time],.row zz.2.2 1 (zz.2.1.map A5)]) (fun zz=>zz.1≤32∧Al (Ex f_) zz.1 ((List.replicate 32 ()).drop zz.1) zz.2.1=some o2) (fun zz=>32 - zz.1) (0,[],0) ⟨Nat.zero_le _,hJ2⟩ cu cu (fun x=>⟨rfl,rfl,rfl⟩) ?_
 clear hJ2
 rintro⟨k2,out1,ver2⟩ ⟨hk2,hJ2⟩
 dsimp only at hk2 hJ2 ⊢
 refine sq (sq (ar rfl (qn ?_)))
 refine AWP.cond (Ak (fun hc=>?_) (fun hc=>?_))
 rotate_left
 ·obtain rfl:=Bf hJ2 (fun hl=>by rw[List.length_replicate]at hl;have:=Ai7 hc;omega)
  have h:=Be hO2;try dsimp only at h
  have hkl:32=k2:=by have:=Ai7 hc;omega
  subst hkl
  refine xt (qe (qe (bs (qn (sq (ar rfl (qn (rt ?_))))))))
  cases h;exact en Tryz.results16
 have hlt2:k2<32:=by have:=Ai8 hc;omega
 obtain⟨_,b2,_,h,hJ2⟩:=Ba hJ2 (by rw[List.length_replicate];exact hlt2)
 have hw2:IntKind.i64.wrap ((((k2:Nat):Int)+1)+1)=(((k2:Nat):Int)+1+1):=by rw[wrap_i64]<;>omega
 unfold Ex at h;try dsimp only at h
 refine sk (qn (sq (bk (sq (ar rfl (qn (sq (sq ?_))))))))
 refine rg rfl fun K j=>?_
 obtain⟨y4,hy4,h⟩:=Af h
 refine An.pure Tryz.call44 (Tu f_.Map (((k2:Nat):Int)+1) hy4) rfl fun _ hr=>?_
 subst hr
 refine nS ?_
 refine j _ _ (qn (sq ?_))
 refine ar rfl (qn ?_)
 revert h;refine ca rfl (fun hc h=>?_) fun hc h=>?_
 ·refine rg rfl fun K j=>?_
  obtain⟨y5,hy5,h⟩:=Af h
  refine An.pure Tryz.call45 (Yr f_.Bulletin (((k2:Nat):Int)+1) y4.1 y4.2.1 f_.Time hy5) rfl fun _ hr=>?_
  subst hr
  refine nS ?_
  refine j _ _ (qn ?_)
  refine rg rfl fun K j=>?_
  obtain⟨hk,h⟩:=B6 h
  (repeat refine rp ?_);try simp +decide -implicitDefEqProofs only[go_sem]
  refine j _ _ (bn (qn ?_))
  refine ar rfl (qn ?_)
  obtain rfl:=Aa h
  refine⟨(k2+1,(out1++[y5]),(ver2+1)),⟨by dsimp only;omega,Ai hJ2⟩,by dsimp only;omega,?_,?_⟩
  ·exact cuw hw2
  exact cuw hw2
 refine sk (qn ?_)
 refine rg rfl fun K j=>?_
 obtain⟨hk,h⟩:=B6 h
 (repeat refine rp ?_);try simp +decide -implicitDefEqProofs only[go_sem]
 refine j _ _ (bn (qn ?_))
 refine ar rfl (qn ?_)
 obtain rfl:=Aa h
 refine⟨(k2+1,(out1++[(0:Int)]),(ver2+1)),⟨by dsimp only;omega,Ai hJ2⟩,by dsimp only;omega,?_,?_⟩
 ·exact cuw hw2
 exact cuw hw2
theorem V7 (f_:Aj) {r:(List Int)} (h:E2 f_=some r):Ad Tryz.prog 16 [.agg (B3 f_)] (·= .sl 1 (r.map A5)):=(Vj f_ h).pure
def Ga (levels:List Int) (k1:Nat) (x_3:Int) (sv:Int):Option (Out (Int) (Int)):=
 (bif (decide (1≤x_3))then (bif (decide (x_3≤((levels.length:Nat):Int)))then (Dk levels (IntKind.i64.wrap (x_3 - 1))).bind fun x_4=>(bif (decide (((k1:Nat):Int)=0))then some (Out.next x_4)else (bif (decide (sv<x_4))then some (Out.next x_4)else some (Out.next sv)))else (bif (decide (((k1:Nat):Int)=0))then some (Out.next 0)else (bif (decide (sv<0))then some (Out.next 0)else some (Out.next sv))))else (bif (decide (((k1:Nat):Int)=0))then some (Out.next 0)else (bif (decide (sv<0))then some (Out.next 0)else some (Out.next sv))))
def Ms (s_:Bd) (levels:List Int):Option (Int):=
 (Al (Ga levels) 0 s_.Zones 0).bind fun o1=>o1.on fun s1=>some s1
theorem Xk (s_:Bd) (levels:List Int) {r:Int} (h:Ms s_ levels=some r):Ad Tryz.prog 263 [.agg (A9 s_),.sl 1 (levels.map A5)] (·= .int .i64 r):=by
 refine Ad.nle (Ad.intro Tryz.func263 rfl rfl (by show _≤40;simp) ?_)
 unfold Ms at h
 refine nS (sq ?_)
 refine ar rfl (qn (sq ?_))
 refine ar rfl (qn (sq (sq ?_)))
 refine rg rfl fun K j=>?_
 intro hm
 refine j _ _ (qn (bk ?_))
 obtain⟨o1,hJ1,hO1⟩:=Af h
 clear h
 refine AWP.Bw (ι:=Nat×(Int)×(Unit)) (fun zz=>[(1,.sl 1 (levels.map A5)),(5,.int .i64 zz.2.1),(10,.sl 1 (s_.Zones.map A5)),(11,.int .i64 ((s_.Zones.length:Nat):Int)),(12,.int .i64 ((zz.1:Nat):Int))]) (fun zz=>[]) (fun zz=>zz.1≤s_.Zones.length∧Al (Ga levels) zz.1 ((s_.Zones).drop zz.1) zz.2.1=some o1) (fun zz=>s_.Zones.length - zz.1) (0,0,()) ⟨Nat.zero_le _,hJ1⟩ cu cu (fun x=>⟨rfl,rfl,rfl⟩) ?_
 clear hJ1
 rintro⟨k1,greatest1,⟨⟩⟩ ⟨hk1,hJ1⟩
 dsimp only at hk1 hJ1 ⊢
 refine sq (ar rfl (qn (sq ?_)))
 refine AWP.cond (Ak (fun hc=>?_) (fun hc=>?_))
 rotate_left
 ·obtain rfl:=Bf hJ1 (fun hl=>by have:=Ai7 hc;omega)
  have h:=Be hO1;try dsimp only at h
  have hkl:s_.Zones.length=k1:=by have:=Ai7 hc;omega
  subst hkl
  refine xt (qe (qe (bs (qn (sq (ar rfl (qn (rt ?_))))))))
  cases h;exact en Tryz.results263
 have hlt1:k1<s_.Zones.length:=by have:=Ai8 hc;omega
 obtain⟨x_3,b1,hx1_,h,hJ1⟩:=Ba hJ1 hlt1
 have hx1:=A2 hx1_
 have hw1:=wk (k:=k1) (by omega)
 unfold Ga at h;try dsimp only at h
 refine sk (qn (sq (bk (sq ?_))))
 refine rg rfl fun K j=>?_
 refine Bn.of (f:=A5) (l:=s_.Zones) hx1 ?_
 refine nS ?_
 refine j _ _ (qn (sq ?_))
 refine ar rfl (qn (sq (sq ?_)))
 refine rg rfl fun K j=>?_
 revert h;refine gt (fun hc h=>?_) fun hc h=>?_
 ·intro hm
  refine j _ _ (qn ?_)
  revert h;refine ca rfl (fun hc h=>?_) fun hc h=>?_
  ·refine rg rfl fun K j=>?_
   obtain⟨x_4,hx_4,h⟩:=Af h
   refine Bn.of (f:=A5) (l:=levels) hx_4 ?_
   refine nS ?_
   refine j _ _ (qn (sq ?_))
   refine rg rfl fun K j=>?_
   revert h;refine gf (fun hc h=>?_) fun hc h=>?_
   ·refine j _ _ (qn ?_)
    revert h;refine ca rfl (fun hc h=>?_) fun hc h=>?_
    ·refine ar rfl (bn (qn ?_))
     refine ar rfl (qn ?_)
     obtain rfl:=Aa h
     refine⟨(k1+1,x_4,()),⟨by dsimp only;omega,Ai hJ1⟩,by dsimp only;omega,?_,?_⟩
     ·exact cuw hw1
     exact cuw hw1
    refine sk (bn (qn (ar rfl (qn ?_))))
    obtain rfl:=Aa h
    refine⟨(k1+1,greatest1,()),⟨by dsimp only;omega,Ai hJ1⟩,by dsimp only;omega,?_,?_⟩
    ·exact cuw hw1
    exact cuw hw1
   refine j _ _ (qn ?_)
   refine AWP.cond (Ah ?_)
   refine ar rfl (bn (qn ?_))
   refine ar rfl (qn ?_)
   obtain rfl:=Aa h
   refine⟨(k1+1,x_4,()),⟨by dsimp only;omega,Ai hJ1⟩,by dsimp only;omega,?_,?_⟩
   ·exact cuw hw1
   exact cuw hw1
  refine sk (qn (sq ?_))
  refine rg rfl fun K j=>?_
  revert h;refine gf (fun hc h=>?_) fun hc h=>?_
  ·refine j _ _ (qn ?_)
   revert h;refine ca rfl (fun hc h=>?_) fun hc h=>?_
   ·refine ar rfl (bn (qn ?_))
    refine ar rfl (qn ?_)
    obtain rfl:=Aa h
    refine⟨(k1+1,0,()),⟨by dsimp only;omega,Ai hJ1⟩,by dsimp only;omega,?_,?_⟩
    ·exact cuw hw1
    exact cuw hw1
   refine sk (bn (qn (ar rfl (qn ?_))))
   obtain rfl:=Aa h
   refine⟨(k1+1,greatest1,()),⟨by dsimp only;omega,Ai hJ1⟩,by dsimp only;omega,?_,?_⟩
   ·exact cuw hw1
   exact cuw hw1
  refine j _ _ (qn ?_)
  refine AWP.cond (Ah ?_)
  refine ar rfl (bn (qn ?_))
  refine ar rfl (qn ?_)
  obtain rfl:=Aa h
  refine⟨(k1+1,0,()),⟨by dsimp only;omega,Ai hJ1⟩,by dsimp only;omega,?_,?_⟩
  ·exact cuw hw1
  exact cuw hw1
 refine j _ _ (qn ?_)
 refine AWP.cond (Bi ?_)
 refine sk (qn (sq ?_))
 refine rg rfl fun K j=>?_
 revert h;refine gf (fun hc h=>?_) fun hc h=>?_
 ·refine j _ _ (qn ?_)
  revert h;refine ca rfl (fun hc h=>?_) fun hc h=>?_
  ·refine ar rfl (bn (qn ?_))
   refine ar rfl (qn ?_)
   obtain rfl:=Aa h
   refine⟨(k1+1,0,()),⟨by dsimp only;omega,Ai hJ1⟩,by dsimp only;omega,?_,?_⟩
   ·exact cuw hw1
   exact cuw hw1
  refine sk (bn (qn (ar rfl (qn ?_))))
  obtain rfl:=Aa h
  refine⟨(k1+1,greatest1,()),⟨by dsimp only;omega,Ai hJ1⟩,by dsimp only;omega,?_,?_⟩
  ·exact cuw hw1
  exact cuw hw1
 refine j _ _ (qn ?_)
 refine AWP.cond (Ah ?_)
 refine ar rfl (bn (qn ?_))
 refine ar rfl (qn ?_)
 obtain rfl:=Aa h
 refine⟨(k1+1,0,()),⟨by dsimp only;omega,Ai hJ1⟩,by dsimp only;omega,?_,?_⟩
 ·exact cuw hw1
 exact cuw hw1
def F9 (s_:Bd) (levels:List Int):Option (Bool):=
 (bif (decide (s_.Limit≤s_.Load))then some true else(Ms s_ levels).bind fun y1=>(bif (decide (y1=3))then some (decide ((IntKind.i64.wrap (Int.tdiv s_.Limit 2))≤s_.Load))else (bif (decide (y1=4))then some (decide ((IntKind.i64.wrap (Int.tdiv s_.Limit 4))≤s_.Load))else some (decide (4<y1)))))
theorem Us (s_:Bd) (levels:List Int) {r:Bool} (h:F9 s_ levels=some r):Ad Tryz.prog 205 [.agg (A9 s_),.sl 1 (levels.map A5)] (·= .bool r):=by
 refine Ad.nle (Ad.intro Tryz.func205 rfl rfl (by show _≤33;simp) ?_)
 unfold F9 at h
 refine nS (sq ?_)
 refine ar rfl (qn (sq (sq ?_)))
 refine ar rfl (qn ?_)
 revert h;refine ca rfl (fun hc h=>?_) fun hc h=>?_
 ·refine sq (ar rfl (qn (rt (qr ?_))))
  cases h;exact en Tryz.results205
 refine sk (qn (sq ?_))
 refine rg rfl fun K j=>?_
 obtain⟨y1,hy1,h⟩:=Af h
 refine An.pure Tryz.call263 (Xk s_ levels hy1) rfl fun _ hr=>?_
 subst hr
 refine nS ?_
 refine j _ _ (qn (sq ?_))
 refine ar rfl (qn (bk (sq ?_)))
 refine ar rfl (qn ?_)
 revert h;refine ca rfl (fun hc h=>?_) fun hc h=>?_
 ·refine sq (ar rfl (qn (rt (br ?_))))
  cases h;exact en Tryz.results205
 refine sq (ar rfl (qn ?_))
 revert h;refine ca rfl (fun hc h=>?_) fun hc h=>?_
 ·refine sq (ar rfl (qn (rt (br ?_))))
  cases h;exact en Tryz.results205
 refine sq (ar rfl (qn (rt (br ?_))))
 cases h;exact en Tryz.results205
def It (levels:List Int) (k2:Nat) (x_4:Bd) (sv:(List Int)):Option (Out ((List Int)) ((List Int))):=
 (F9 x_4 levels).bind fun y5=>(bif y5 then chk (sv.length+x_4.Zones.length) (some (Out.next (sv++x_4.Zones)))else some (Out.next sv))
def Gi (l:List Bd) (levels:List Int):Option ((List Int)):=
 (Al (It levels) 0 l []).bind fun o2=>o2.on fun s2=>chk s2.length (chk s2.length (some (Ch (Dd s2))))
theorem Wb (l:List Bd) (levels:List Int) {r:(List Int)} (h:Gi l levels=some r):Bp Tryz.prog 106 [.sl 6 (l.map A9),.sl 1 (levels.map A5)] (·= .sl 1 (r.map A5)):=by
 refine Bp.nle (Bp.intro Tryz.func106 rfl rfl (by show _≤26;simp) ?_)
 unfold Gi at h
 refine nS (sq ?_)
 refine ar rfl (qn (sq ?_))
 refine ar rfl (qn (sq (sq ?_)))
 refine rg rfl fun K j=>?_
 intro hm
 refine j _ _ (qn (bk ?_))
 refine AWP.ghost 5 1 rfl (by decide) ?_
 obtain⟨o2,hJ2,hO2⟩:=Af h
 clear h
 refine AWP.Bw (ι:=Nat×((List Int))×(Nat)) (fun zz=>[(1,.sl 1 (levels.map A5)),(5,.own 0 zz.2.2 0 zz.2.1.length),(8,.sl 6 (l.map A9)),(9,.int .i64 ((l.length:Nat):Int)),(10,.int .i64 ((zz.1:Nat):Int))]) (fun zz=>[.row zz.2.2 1 (zz.2.1.map A5)]) (fun zz=>zz.1≤l.length∧Al (It levels) zz.1 ((l).drop zz.1) zz.2.1=some o2) (fun zz=>l.length - zz.1) (0,[],0) ⟨Nat.zero_le _,hJ2⟩ cu cu (fun x=>⟨rfl,rfl,rfl⟩) ?_
 clear hJ2
 rintro⟨k2,out1,ver2⟩ ⟨hk2,hJ2⟩
 dsimp only at hk2 hJ2 ⊢
 refine sq (ar rfl (qn (sq ?_)))
 refine AWP.cond (Ak (fun hc=>?_) (fun hc=>?_))
 rotate_left
 ·obtain rfl:=Bf hJ2 (fun hl=>by have:=Ai7 hc;omega)
  have h:=Be hO2;try dsimp only at h
  have hkl:l.length=k2:=by have:=Ai7 hc;omega
  subst hkl
  refine xt (qe (qe (bs (qn (sq ?_)))))
  refine rg rfl fun K j=>?_
  obtain⟨hk,h⟩:=B6 h
  refine An.Dd Tryz.call68 Tryz.sorts68 rfl (by first | rfl | exact(Cl _).symm | (simp only[List.length_append,List.length_cons,List.length_nil,List.length_set,List.length_replicate]<;>omega)) hk ?_
  refine nS ?_
  refine j _ _ (qn (sq ?_))
  refine rg rfl fun K j=>?_
  obtain⟨hk,h⟩:=B6 h
  refine An.Ch Tryz.call69 Tryz.compacts69 rfl (by first | rfl | exact(Cl _).symm | (simp only[List.length_append,List.length_cons,List.length_nil,List.length_set,List.length_replicate]<;>omega)) hk ?_
  refine nS ?_
  refine j _ _ (qn (rt ?_))
  cases h;exact en Tryz.results106
 have hlt2:k2<l.length:=by have:=Ai8 hc;omega
 obtain⟨x_4,b2,hx2_,h,hJ2⟩:=Ba hJ2 hlt2
 have hx2:=A2 hx2_
 have hw2:=wk (k:=k2) (by omega)
 unfold It at h;try dsimp only at h
 refine sk (qn (sq (bk (sq ?_))))
 refine rg rfl fun K j=>?_
 refine Bn.of (f:=A9) (l:=l) hx2 ?_
 refine nS ?_
 refine j _ _ (qn (sq ?_))
 refine rg rfl fun K j=>?_
 obtain⟨y5,hy5,h⟩:=Af h
 refine An.pure Tryz.call205 (Us x_4 levels hy5) rfl fun _ hr=>?_
 subst hr
 refine nS ?_
 refine j _ _ (qn ?_)
 revert h;refine ca rfl (fun hc h=>?_) fun hc h=>?_
 ·refine rg rfl fun K j=>?_
  obtain⟨hk,h⟩:=B6 h
  (repeat refine rp ?_);try simp +decide -implicitDefEqProofs only[go_sem]
  refine j _ _ (bn (qn ?_))
  refine ar rfl (qn ?_)
  obtain rfl:=Aa h
  refine⟨(k2+1,(out1++x_4.Zones),(ver2+1)),⟨by dsimp only;omega,Ai hJ2⟩,by dsimp only;omega,?_,?_⟩
  ·exact cuw hw2
  exact cuw hw2
 refine sk (bn (qn (ar rfl (qn ?_))))
 obtain rfl:=Aa h
 refine⟨(k2+1,out1,ver2),⟨by dsimp only;omega,Ai hJ2⟩,by dsimp only;omega,?_,?_⟩
 ·exact cuw hw2
 exact cuw hw2
theorem Xi (l:List Bd) (levels:List Int) {r:(List Int)} (h:Gi l levels=some r):Ad Tryz.prog 106 [.sl 6 (l.map A9),.sl 1 (levels.map A5)] (·= .sl 1 (r.map A5)):=(Wb l levels h).pure
def Rv (run:Int) (k0:Nat) (x_2:Cj) (sv:Unit):Option (Out (Unit) (Int)):=
 (bif (decide (x_2.Run=run))then some (Out.ret ((k0:Nat):Int))else some (Out.next ()))
def Ku (p:Ca) (run:Int):Option (Int):=
 (Al (Rv run) 0 p.Bt ()).bind fun o0=>o0.on fun s0=>some (-1)
theorem Uk (p:Ca) (run:Int) {r:Int} (h:Ku p run=some r):Ad Tryz.prog 162 [.agg (Ip p),.int .i64 run] (·= .int .i64 r):=by
 refine Ad.nle (Ad.intro Tryz.func162 rfl rfl (by show _≤9;simp) ?_)
 unfold Ku at h
 refine nS (sq ?_)
 refine ar rfl (qn (sq ?_))
 refine rg rfl fun K j=>?_
 refine An.inline Tryz.call243 Tryz.func243 rfl rfl (by show _≤19;simp) ?_
 refine nS (sq ?_)
 refine ar rfl (qn (sq (sq ?_)))
 refine rg rfl fun K j=>?_
 intro hm
 refine j _ _ (qn (bk ?_));clear j K
 obtain⟨o0,hJ0,hO0⟩:=Af h
 clear h
 refine AWP.Bw (ι:=Nat×(Unit)×(Unit)) (fun zz=>[(0,.sl 4 (p.Bt.map Au)),(1,.func 244 [.ptr 1 0]),(7,.int .i64 ((p.Bt.length:Nat):Int)),(8,.int .i64 ((zz.1:Nat):Int))]) (fun zz=>[.box [.sl 4 (p.Bt.map Au),.sl 3 (p.Hazards.map Az)],.box [.int .i64 run]]) (fun zz=>zz.1≤p.Bt.length∧Al (Rv run) zz.1 ((p.Bt).drop zz.1) zz.2.1=some o0) (fun zz=>p.Bt.length - zz.1) (0,(),()) ⟨Nat.zero_le _,hJ0⟩ cu cu (fun x=>⟨rfl,rfl,rfl⟩) ?_
 clear hJ0
 rintro⟨k0,⟨⟩,⟨⟩⟩ ⟨hk0,hJ0⟩
 dsimp only at hk0 hJ0 ⊢
 refine sq (ar rfl (qn (sq ?_)))
 refine AWP.cond (Ak (fun hc=>?_) (fun hc=>?_))
 rotate_left
 ·obtain rfl:=Bf hJ0 (fun hl=>by have:=Ai7 hc;omega)
  have h:=Be hO0;try dsimp only at h
  have hkl:p.Bt.length=k0:=by have:=Ai7 hc;omega
  subst hkl
  refine xt (qe (qe (bs (qn (sq (ar rfl (qn (rt ?_))))))))
  refine nSc Tryz.results243 ?_
  refine j _ _ (qn (rt ?_))
  cases h;exact en Tryz.results162
 have hlt0:k0<p.Bt.length:=by have:=Ai8 hc;omega
 obtain⟨x_2,b0,hx0_,h,hJ0⟩:=Ba hJ0 hlt0
 have hx0:=A2 hx0_
 have hw0:=wk (k:=k0) (by omega)
 unfold Rv at h;try dsimp only at h
 refine sk (qn (sq (bk (sq (ar rfl (qn (sq ?_)))))))
 refine rg rfl fun K j=>?_
 refine Bn.of (f:=Au) (l:=p.Bt) hx0 ?_
 refine nS ?_
 refine An.inline Tryz.call244 Tryz.func244 rfl rfl (by show _≤8;simp) ?_
 refine nS (sq ?_)
 refine ar rfl (qn (sq ?_))
 refine ar rfl (qn (rt ?_))
 refine nSc Tryz.results244 ?_
 refine j _ _ (qn ?_);clear j K
 revert h;refine ca rfl (fun hc h=>?_) fun hc h=>?_
 ·refine sq (ar rfl (qn (rt (br (qr (qr ?_))))))
  obtain rfl:=Aa h
  obtain rfl:=Ae hJ0
  replace h:=Am hO0
  refine br (qr (nSc Tryz.results243 ?_))
  refine j _ _ (qn (rt ?_))
  cases h;exact en Tryz.results162
 refine sk (bn (qn (ar rfl (qn ?_))))
 obtain rfl:=Aa h
 refine⟨(k0+1,(),()),⟨by dsimp only;omega,Ai hJ0⟩,by dsimp only;omega,?_,?_⟩
 ·exact cuw hw0
 exact cuw hw0
def Jb (l:Bq) (t:Int) (out1:List Int) (x_4:Int) (k4:Nat) (x_6:Ft) (sv:Unit):Option (Out (Unit) (Out ((List Int)) ((List Int)))):=
 (bif (decide (x_6.Item=x_4))then (bif (decide (x_6.At≤t))then (bif (decide (t<(IntKind.i64.wrap (x_6.At+l.Every))))then ((bif (!(decide (0≤((k4:Nat):Int))))then chk (out1.length+1) (some (Out.next (out1++[x_4])))else some (Out.next out1))).bind fun q6=>some (Out.ret q6)else some (Out.next ()))else some (Out.next ()))else some (Out.next ()))
def Jc (l:Bq) (t:Int) (k2:Nat) (x_4:Int) (sv:(List Int)):Option (Out ((List Int)) ((List Int))):=
 (Al (Jb l t sv x_4) 0 l.Signs ()).bind fun o4=>o4.on fun s4=>chk (sv.length+1) (some (Out.next (sv++[x_4])))
def Ln (l:Bq) (t:Int):Option ((List Int)):=
 (Al (Jc l t) 0 l.Items []).bind fun o2=>o2.on fun s2=>some s2
theorem Zo (l:Bq) (t:Int) {r:(List Int)} (h:Ln l t=some r):Bp Tryz.prog 264 [.agg (Fm l),.int .i64 t] (·= .sl 1 (r.map A5)):=by
 refine Bp.nle (Bp.intro Tryz.func264 rfl rfl (by show _≤28;simp) ?_)
 unfold Ln at h
 refine nS (sq ?_)
 refine ar rfl (qn (sq ?_))
 refine ar rfl (qn (sq (sq ?_)))
 refine rg rfl fun K j=>?_
 intro hm
 refine j _ _ (qn (bk ?_))
 refine AWP.ghost 5 1 rfl (by decide) ?_
 obtain⟨o2,hJ2,hO2⟩:=Af h
 clear h
 refine AWP.Bw (ι:=Nat×((List Int))×(Nat)) (fun zz=>[(2,.ptr 0 0),(3,.ptr 1 0),(5,.own 2 zz.2.2 0 zz.2.1.length),(10,.sl 1 (l.Items.map A5)),(11,.int .i64 ((l.Items.length:Nat):Int)),(12,.int .i64 ((zz.1:Nat):Int))]) (fun zz=>[.box [.sl 1 (l.Items.map A5),.int .i64 l.Every,.sl 3 (l.Signs.map B9)],.box [.int .i64 t],.row zz.2.2 1 (zz.2.1.map A5)]) (fun zz=>zz.1≤l.Items.length∧Al (Jc l t) zz.1 ((l.Items).drop zz.1) zz.2.1=some o2) (fun zz=>l.Items.length - zz.1) (0,[],0) ⟨Nat.zero_le _,hJ2⟩ cu cu (fun x=>⟨rfl,rfl,rfl⟩) ?_
 clear hJ2
 rintro⟨k2,out1,ver2⟩ ⟨hk2,hJ2⟩
 dsimp only at hk2 hJ2 ⊢
 refine sq (ar rfl (qn (sq ?_)))
 refine AWP.cond (Ak (fun hc=>?_) (fun hc=>?_))
 rotate_left
 ·obtain rfl:=Bf hJ2 (fun hl=>by have:=Ai7 hc;omega)
  have h:=Be hO2;try dsimp only at h
  have hkl:l.Items.length=k2:=by have:=Ai7 hc;omega
  subst hkl
  refine xt (qe (qe (bs (qn (sq (ar rfl (qn (rt ?_))))))))
  cases h;exact en Tryz.results264
 have hlt2:k2<l.Items.length:=by have:=Ai8 hc;omega
 obtain⟨x_4,b2,hx2_,h,hJ2⟩:=Ba hJ2 hlt2
 have hx2:=A2 hx2_
 have hw2:=wk (k:=k2) (by omega)
 unfold Jc at h;try dsimp only at h
 refine sk (qn (sq (bk (sq ?_))))
 refine rg rfl fun K j=>?_
 refine Bn.of (f:=A5) (l:=l.Items) hx2 ?_
 refine nS ?_
 refine j _ _ (qn (sq ?_))
 refine ar rfl (qn (sq ?_))
 refine rg rfl fun K j=>?_
 refine An.inline Tryz.call280 Tryz.func280 rfl rfl (by show _≤9;simp) ?_
 refine nS (sq ?_)
 refine ar rfl (qn (sq ?_))
 refine rg rfl fun K j=>?_
 refine An.inline Tryz.call286 Tryz.func286 rfl rfl (by show _≤19;simp) ?_
 refine nS (sq ?_)
 refine ar rfl (qn (sq (sq ?_)))
 refine rg rfl fun K j=>?_
 intro hm
 refine j _ _ (qn (bk ?_));clear j K
 obtain⟨o4,hJ4,hO4⟩:=Af h
 clear h
 refine AWP.Bw (ι:=Nat×(Unit)×(Unit)) (fun zz=>[(0,.sl 3 (l.Signs.map B9)),(1,.func 279 [.ptr 3 0,.ptr 1 0,.ptr 0 0]),(7,.int .i64 ((l.Signs.length:Nat):Int)),(8,.int .i64 ((zz.1:Nat):Int))]) (fun zz=>[.box [.sl 1 (l.Items.map A5),.int .i64 l.Every,.sl 3 (l.Signs.map B9)],.box [.int .i64 t],.row ver2 1 (out1.map A5),.box [.int .i64 x_4]]) (fun zz=>zz.1≤l.Signs.length∧Al (Jb l t out1 x_4) zz.1 ((l.Signs).drop zz.1) zz.2.1=some o4) (fun zz=>l.Signs.length - zz.1) (0,(),()) ⟨Nat.zero_le _,hJ4⟩ cu cu (fun x=>⟨rfl,rfl,rfl⟩) ?_
 clear hJ4
 rintro⟨k4,⟨⟩,⟨⟩⟩ ⟨hk4,hJ4⟩
 dsimp only at hk4 hJ4 ⊢
 refine sq (ar rfl (qn (sq ?_)))
 refine AWP.cond (Ak (fun hc=>?_) (fun hc=>?_))
 rotate_left
 ·obtain rfl:=Bf hJ4 (fun hl=>by have:=Ai7 hc;omega)
  have h:=Be hO4;try dsimp only at h
  have hkl:l.Signs.length=k4:=by have:=Ai7 hc;omega
  subst hkl
  refine xt (qe (qe (bs (qn (sq (ar rfl (qn (rt ?_))))))))
  refine nSc Tryz.results286 ?_
  refine j _ _ (qn (rt ?_));clear j K
  refine nSc Tryz.results280 ?_
  refine j _ _ (qn ?_)
  refine AWP.cond (Ah ?_)
  refine rg rfl fun K j=>?_
  obtain⟨hk,h⟩:=B6 h
  (repeat refine rp ?_);try simp +decide -implicitDefEqProofs only[go_sem]
  refine j _ _ (bn (qn ?_))
  refine ar rfl (qn ?_)
  obtain rfl:=Aa h
  refine⟨(k2+1,(out1++[x_4]),(ver2+1)),⟨by dsimp only;omega,Ai hJ2⟩,by dsimp only;omega,?_,?_⟩
  ·exact cuw hw2
  exact cuw hw2
 have hlt4:k4<l.Signs.length:=by have:=Ai8 hc;omega
 obtain⟨x_6,b4,hx4_,h,hJ4⟩:=Ba hJ4 hlt4
 have hx4:=A2 hx4_
 have hw4:=wk (k:=k4) (by omega)
 unfold Jb at h;try dsimp only at h
 refine sk (qn (sq (bk (sq (ar rfl (qn (sq ?_)))))))
 refine rg rfl fun K j=>?_
 refine Bn.of (f:=B9) (l:=l.Signs) hx4 ?_
 refine nS ?_
 refine An.inline Tryz.call279 Tryz.func279 rfl rfl (by show _≤25;simp) ?_
 refine nS (sq ?_)
 refine ar rfl (qn (sq ?_))
 refine rg rfl fun K j=>?_
 revert h;refine gt (fun hc h=>?_) fun hc h=>?_
 ·revert h;refine gt (fun hc h=>?_) fun hc h=>?_
  ·refine j _ _ (qn (rt ?_));clear j K
   refine nSc Tryz.results279 ?_
   refine j _ _ (qn ?_);clear j K
   revert h;refine ca rfl (fun hc h=>?_) fun hc h=>?_
   ·refine sq (ar rfl (qn (rt (br (qr (qr ?_))))))
    obtain⟨q6,hq,h⟩:=Af h
    obtain rfl:=Aa h
    obtain rfl:=Ae hJ4
    replace h:=hq.trans (Am hO4)
    refine br (qr (nSc Tryz.results286 ?_))
    refine j _ _ (qn (rt ?_));clear j K
    refine nSc Tryz.results280 ?_
    refine j _ _ (qn ?_)
    revert h;refine ca rfl (fun hc h=>?_) fun hc h=>?_
    ·refine rg rfl fun K j=>?_
     obtain⟨hk,h⟩:=B6 h
     (repeat refine rp ?_);try simp +decide -implicitDefEqProofs only[go_sem]
     refine j _ _ (bn (qn ?_))
     refine ar rfl (qn ?_)
     obtain rfl:=Aa h
     refine⟨(k2+1,(out1++[x_4]),(ver2+1)),⟨by dsimp only;omega,Ai hJ2⟩,by dsimp only;omega,?_,?_⟩
     ·exact cuw hw2
     exact cuw hw2
    refine sk (bn (qn (ar rfl (qn ?_))))
    obtain rfl:=Aa h
    refine⟨(k2+1,out1,ver2),⟨by dsimp only;omega,Ai hJ2⟩,by dsimp only;omega,?_,?_⟩
    ·exact cuw hw2
    exact cuw hw2
   refine sk (bn (qn (ar rfl (qn ?_))))
   obtain rfl:=Aa h
   refine⟨(k4+1,(),()),⟨by dsimp only;omega,Ai hJ4⟩,by dsimp only;omega,?_,?_⟩
   ·exact cuw hw4
   exact cuw hw4
  refine j _ _ (qn (rt ?_));clear j K
  refine nSc Tryz.results279 ?_
  refine j _ _ (qn ?_);clear j K
  refine AWP.cond (Bi ?_)
  refine sk (bn (qn (ar rfl (qn ?_))))
  obtain rfl:=Aa h
  refine⟨(k4+1,(),()),⟨by dsimp only;omega,Ai hJ4⟩,by dsimp only;omega,?_,?_⟩
  ·exact cuw hw4
  exact cuw hw4
 refine j _ _ (qn (rt ?_));clear j K
 refine nSc Tryz.results279 ?_
 refine j _ _ (qn ?_);clear j K
 refine AWP.cond (Bi ?_)
 refine sk (bn (qn (ar rfl (qn ?_))))
 obtain rfl:=Aa h
 refine⟨(k4+1,(),()),⟨by dsimp only;omega,Ai hJ4⟩,by dsimp only;omega,?_,?_⟩
 ·exact cuw hw4
 exact cuw hw4
theorem aJ (l:Bq) (t:Int) {r:(List Int)} (h:Ln l t=some r):Ad Tryz.prog 264 [.agg (Fm l),.int .i64 t] (·= .sl 1 (r.map A5)):=(Zo l t h).pure
def Oh (l:Bq) (t:Int):Option (Bool):=
 (Ln l t).bind fun y1=>some (decide (((y1.length:Nat):Int)=0))
theorem aK (l:Bq) (t:Int) {r:Bool} (h:Oh l t=some r):Ad Tryz.prog 206 [.agg (Fm l),.int .i64 t] (·= .bool r):=by
 refine Ad.nle (Ad.intro Tryz.func206 rfl rfl (by show _≤10;simp) ?_)
 unfold Oh at h
 refine nS (sq ?_)
 refine ar rfl (qn (sq ?_))
 refine rg rfl fun K j=>?_
 obtain⟨y1,hy1,h⟩:=Af h
 refine An.pure Tryz.call264 (aJ l t hy1) rfl fun _ hr=>?_
 subst hr
 refine nS ?_
 intro hm
 refine j _ _ (qn (rt ?_))
 cases h;exact en Tryz.results206
def Mp (run:Int) (k3:Nat) (x_5:Cv) (sv:Unit):Option (Out (Unit) (Bool)):=
 (bif (decide (x_5.Run=run))then some (Out.ret (!(decide (0≤((k3:Nat):Int)))))else some (Out.next ()))
def Li (p:Ca) (run:Int) (t:Int):Option (Bool):=
 (Ku p run).bind fun y1=>(bif (decide (y1<0))then some false else(Dk p.Bt y1).bind fun x_2=>(Oh x_2.List_ t).bind fun y3=>(bif (!y3)then some false else(Al (Mp run) 0 p.Hazards ()).bind fun o3=>o3.on fun s3=>some true))
theorem aE (p:Ca) (run:Int) (t:Int) {r:Bool} (h:Li p run t=some r):Ad Tryz.prog 107 [.agg (Ip p),.int .i64 run,.int .i64 t] (·= .bool r):=by
 refine Ad.nle (Ad.intro Tryz.func107 rfl rfl (by show _≤29;simp) ?_)
 unfold Li at h
 refine nS (sq ?_)
 refine ar rfl (qn (sq ?_))
 refine rg rfl fun K j=>?_
 obtain⟨y1,hy1,h⟩:=Af h
 refine An.pure Tryz.call162 (Uk p run hy1) rfl fun _ hr=>?_
 subst hr
 refine nS ?_
 refine j _ _ (qn (sq (sq ?_)))
 refine rg rfl fun K j=>?_
 revert h;refine gf (fun hc h=>?_) fun hc h=>?_
 rotate_left
 ·refine j _ _ (qn ?_)
  refine AWP.cond (Ah ?_)
  refine sq (ar rfl (qn (rt (qr ?_))))
  cases h;exact en Tryz.results107
 obtain⟨x_2,hx_2,h⟩:=Af h
 refine Bn.of (f:=Au) (l:=p.Bt) hx_2 ?_
 refine nS ?_
 obtain⟨y3,hy3,h⟩:=Af h
 refine An.pure Tryz.call206 (aK x_2.List_ t hy3) rfl fun _ hr=>?_
 subst hr
 refine nS ?_
 refine j _ _ (qn ?_)
 revert h;refine ca rfl (fun hc h=>?_) fun hc h=>?_
 ·refine sq (ar rfl (qn (rt (qr ?_))))
  cases h;exact en Tryz.results107
 refine sk (qn (sq ?_))
 refine rg rfl fun K j=>?_
 refine An.inline Tryz.call207 Tryz.func207 rfl rfl (by show _≤9;simp) ?_
 refine nS (sq ?_)
 refine ar rfl (qn (sq ?_))
 refine rg rfl fun K j=>?_
 refine An.inline Tryz.call241 Tryz.func241 rfl rfl (by show _≤19;simp) ?_
 refine nS (sq ?_)
 refine ar rfl (qn (sq (sq ?_)))
 refine rg rfl fun K j=>?_
 intro hm
 refine j _ _ (qn (bk ?_));clear j K
 obtain⟨o3,hJ3,hO3⟩:=Af h
 clear h
 refine AWP.Bw (ι:=Nat×(Unit)×(Unit)) (fun zz=>[(0,.sl 3 (p.Hazards.map Az)),(1,.func 208 [.ptr 1 0]),(7,.int .i64 ((p.Hazards.length:Nat):Int)),(8,.int .i64 ((zz.1:Nat):Int))]) (fun zz=>[.box [.sl 4 (p.Bt.map Au),.sl 3 (p.Hazards.map Az)],.box [.int .i64 run]]) (fun zz=>zz.1≤p.Hazards.length∧Al (Mp run) zz.1 ((p.Hazards).drop zz.1) zz.2.1=some o3) (fun zz=>p.Hazards.length - zz.1) (0,(),()) ⟨Nat.zero_le _,hJ3⟩ cu cu (fun x=>⟨rfl,rfl,rfl⟩) ?_
 clear hJ3
 rintro⟨k3,⟨⟩,⟨⟩⟩ ⟨hk3,hJ3⟩
 dsimp only at hk3 hJ3 ⊢
 refine sq (ar rfl (qn (sq ?_)))
 refine AWP.cond (Ak (fun hc=>?_) (fun hc=>?_))
 rotate_left
 ·obtain rfl:=Bf hJ3 (fun hl=>by have:=Ai7 hc;omega)
  have h:=Be hO3;try dsimp only at h
  have hkl:p.Hazards.length=k3:=by have:=Ai7 hc;omega
  subst hkl
  refine xt (qe (qe (bs (qn (sq (ar rfl (qn (rt ?_))))))))
  refine nSc Tryz.results241 ?_
  refine j _ _ (qn (rt ?_));clear j K
  refine nSc Tryz.results207 ?_
  refine j _ _ (qn (rt ?_))
  cases h;exact en Tryz.results107
 have hlt3:k3<p.Hazards.length:=by have:=Ai8 hc;omega
 obtain⟨x_5,b3,hx3_,h,hJ3⟩:=Ba hJ3 hlt3
 have hx3:=A2 hx3_
 have hw3:=wk (k:=k3) (by omega)
 unfold Mp at h;try dsimp only at h
 refine sk (qn (sq (bk (sq (ar rfl (qn (sq ?_)))))))
 refine rg rfl fun K j=>?_
 refine Bn.of (f:=Az) (l:=p.Hazards) hx3 ?_
 refine nS ?_
 refine An.inline Tryz.call208 Tryz.func208 rfl rfl (by show _≤8;simp) ?_
 refine nS (sq ?_)
 refine ar rfl (qn (sq ?_))
 refine ar rfl (qn (rt ?_))
 refine nSc Tryz.results208 ?_
 refine j _ _ (qn ?_);clear j K
 revert h;refine ca rfl (fun hc h=>?_) fun hc h=>?_
 ·refine sq (ar rfl (qn (rt (br (qr (qr ?_))))))
  obtain rfl:=Aa h
  obtain rfl:=Ae hJ3
  replace h:=Am hO3
  refine br (qr (nSc Tryz.results241 ?_))
  refine j _ _ (qn (rt ?_));clear j K
  refine nSc Tryz.results207 ?_
  refine j _ _ (qn (rt ?_))
  cases h;exact en Tryz.results107
 refine sk (bn (qn (ar rfl (qn ?_))))
 obtain rfl:=Aa h
 refine⟨(k3+1,(),()),⟨by dsimp only;omega,Ai hJ3⟩,by dsimp only;omega,?_,?_⟩
 ·exact cuw hw3
 exact cuw hw3
def Ix (n_:Int) (least:Int) (most:Int):Option (Bool):=
 (bif (decide (least≤n_))then some (decide (n_≤most))else some false)
theorem Kb (n_:Int) (least:Int) (most:Int) {r:Bool} (h:Ix n_ least most=some r):Ad Tryz.prog 176 [.int .i64 n_,.int .i64 least,.int .i64 most] (·= .bool r):=by
 refine Ad.nle (Ad.intro Tryz.func176 rfl rfl (by show _≤15;simp) ?_)
 unfold Ix at h
 refine nS (sq ?_)
 refine ar rfl (qn (sq ?_))
 refine rg rfl fun K j=>?_
 revert h;refine gt (fun hc h=>?_) fun hc h=>?_
 ·refine j _ _ (qn (rt ?_))
  cases h;exact en Tryz.results176
 refine j _ _ (qn (rt ?_))
 cases h;exact en Tryz.results176
def Kc (p:Fu):Option (Bool):=
 (Ix p.Natural 0 20000).bind fun y1=>(bif y1 then(Ix p.Machine 0 20000).bind fun y2=>(bif y2 then(Ix p.Density 50 900).bind fun y3=>some y3 else some false)else some false)
theorem Qk (p:Fu) {r:Bool} (h:Kc p=some r):Ad Tryz.prog 84 [.agg (O0 p)] (·= .bool r):=by
 refine Ad.nle (Ad.intro Tryz.func84 rfl rfl (by show _≤16;simp) ?_)
 unfold Kc at h
 refine nS (sq ?_)
 refine ar rfl (qn (sq ?_))
 refine rg rfl fun K j=>?_
 obtain⟨y1,hy1,h⟩:=Af h
 refine An.pure Tryz.call176 (Kb p.Natural 0 20000 hy1) rfl fun _ hr=>?_
 subst hr
 refine nS ?_
 revert h;refine gt (fun hc h=>?_) fun hc h=>?_
 ·obtain⟨y2,hy2,h⟩:=Af h
  refine An.pure Tryz.call176 (Kb p.Machine 0 20000 hy2) rfl fun _ hr=>?_
  subst hr
  refine nS ?_
  revert h;refine gt (fun hc h=>?_) fun hc h=>?_
  ·obtain⟨y3,hy3,h⟩:=Af h
   refine An.pure Tryz.call176 (Kb p.Density 50 900 hy3) rfl fun _ hr=>?_
   subst hr
   refine nS ?_
   refine j _ _ (qn (rt ?_))
   cases h;exact en Tryz.results84
  refine j _ _ (qn (rt ?_))
  cases h;exact en Tryz.results84
 refine j _ _ (qn (rt ?_))
 cases h;exact en Tryz.results84
def Nr (p:Fu):Option (Int):=
 some (IntKind.i64.wrap (p.Natural+p.Machine))
theorem Yn (p:Fu) {r:Int} (h:Nr p=some r):Ad Tryz.prog 265 [.agg (O0 p)] (·= .int .i64 r):=by
 refine Ad.nle (Ad.intro Tryz.func265 rfl rfl (by show _≤8;simp) ?_)
 unfold Nr at h
 refine nS (sq ?_)
 refine ar rfl (qn (sq ?_))
 refine ar rfl (qn (rt ?_))
 cases h;exact en Tryz.results265
def Kd (p:Fu):Option (Int×Int):=
 (Kc p).bind fun y1=>(bif (!y1)then some (0,1)else (Nr p).bind fun y2=>nz p.Density (some ((IntKind.i64.wrap (Int.tdiv (IntKind.i64.wrap (y2*1000)) p.Density)),0)))
theorem Yo (p:Fu) {r:Int×Int} (h:Kd p=some r):Ad Tryz.prog 211 [.agg (O0 p)] (·= .tuple [.int .i64 r.1,.int .i64 r.2]):=by
 refine Ad.nle (Ad.intro Tryz.func211 rfl rfl (by show _≤13;simp) ?_)
 unfold Kd at h
 refine nS (sq ?_)
 refine ar rfl (qn (sq (sq ?_)))
 refine rg rfl fun K j=>?_
 obtain⟨y1,hy1,h⟩:=Af h
 refine An.pure Tryz.call84 (Qk p hy1) rfl fun _ hr=>?_
 subst hr
 refine nS ?_
 refine j _ _ (qn ?_)
 revert h;refine ca rfl (fun hc h=>?_) fun hc h=>?_
 ·refine sq (ar rfl (qn (rt (qr ?_))))
  cases h;exact en Tryz.results211
 refine sk (qn (sq ?_))
 refine AWP.draw Tryz.mixed (by kernel_rfl) ?_;intro K j
 refine nS ?_
 obtain⟨y2,hy2,h⟩:=Af h
 refine B7.pure Tryz.call265 (Yn p hy2) rfl ?_
 refine nS ?_
 obtain⟨hk,h⟩:=nI h
 refine⟨hk,?_⟩
 refine j _ _ _ (by kernel_rfl) ?_
 refine qn (rt ?_)
 cases h;exact en Tryz.results211
def Gq (f_:Aj) (run:Int) (k0:Nat) (x_2:C6) (sv:Unit):Option (Out (Unit) (Bool)):=
 (bif (decide (x_2.Run=run))then ((bif (decide (((k0:Nat):Int)<0))then some false else(Kd x_2.Pack).bind fun y3=>(bif (decide (y3.2=0))then some (decide (f_.Depth≤y3.1))else some false))).bind fun q3=>some (Out.ret q3)else some (Out.next ()))
def Fh (f_:Aj) (run:Int):Option (Bool):=
 (Al (Gq f_ run) 0 f_.Packs ()).bind fun o0=>o0.on fun s0=>some false
theorem Vh (f_:Aj) (run:Int) {r:Bool} (h:Fh f_ run=some r):Ad Tryz.prog 108 [.agg (B3 f_),.int .i64 run] (·= .bool r):=by
 refine Ad.nle (Ad.intro Tryz.func108 rfl rfl (by show _≤32;simp) ?_)
 unfold Fh at h
 refine nS (sq ?_)
 refine ar rfl (qn (sq ?_))
 refine rg rfl fun K j=>?_
 refine An.inline Tryz.call209 Tryz.func209 rfl rfl (by show _≤19;simp) ?_
 refine nS (sq ?_)
 refine ar rfl (qn (sq (sq ?_)))
 refine rg rfl fun K j=>?_
 intro hm
 refine j _ _ (qn (bk ?_));clear j K
 obtain⟨o0,hJ0,hO0⟩:=Af h
 clear h
 refine AWP.Bw (ι:=Nat×(Unit)×(Unit)) (fun zz=>[(0,.sl 5 (f_.Packs.map A1)),(1,.func 210 [.ptr 1 0]),(7,.int .i64 ((f_.Packs.length:Nat):Int)),(8,.int .i64 ((zz.1:Nat):Int))]) (fun zz=>[.box [.sl 2 (f_.Map.Nodes.map A6),.sl 8 (f_.Map.Lifts.map A7),.sl 7 (f_.Map.Runs.map Bc),.sl 1 (f_.Map.Bases.map A5),.sl 2 (f_.Lifts.map Av),.sl 4 (f_.Closures.map Aq),.sl 4 (f_.Patrol.Bt.map Au),.sl 3 (f_.Patrol.Hazards.map Az),.sl 3 (f_.Surfaces.map A3),.sl 5 (f_.Packs.map A1),.sl 6 (f_.Slides.map A9),.sl 7 (f_.Bulletin.map Aw),.sl 7 (f_.Missions.map Ap),.sl 4 (f_.Winches.map Ao),.sl 8 (f_.Groomers.map Ay),.sl 3 (f_.Status.map A4),.int .i64 f_.Depth,.int .i64 f_.Time],.box [.int .i64 run]]) (fun zz=>zz.1≤f_.Packs.length∧Al (Gq f_ run) zz.1 ((f_.Packs).drop zz.1) zz.2.1=some o0) (fun zz=>f_.Packs.length - zz.1) (0,(),()) ⟨Nat.zero_le _,hJ0⟩ cu cu (fun x=>⟨rfl,rfl,rfl⟩) ?_
 clear hJ0
 rintro⟨k0,⟨⟩,⟨⟩⟩ ⟨hk0,hJ0⟩
 dsimp only at hk0 hJ0 ⊢
 refine sq (ar rfl (qn (sq ?_)))
 refine AWP.cond (Ak (fun hc=>?_) (fun hc=>?_))
 rotate_left
 ·obtain rfl:=Bf hJ0 (fun hl=>by have:=Ai7 hc;omega)
  have h:=Be hO0;try dsimp only at h
  have hkl:f_.Packs.length=k0:=by have:=Ai7 hc;omega
  subst hkl
  refine xt (qe (qe (bs (qn (sq (ar rfl (qn (rt ?_))))))))
  refine nSc Tryz.results209 ?_
  refine j _ _ (qn (sq (sq ?_)))
  refine ar rfl (qn ?_)
  refine AWP.cond (Ah ?_)
  refine sq (ar rfl (qn (rt (qr ?_))))
  cases h;exact en Tryz.results108
 have hlt0:k0<f_.Packs.length:=by have:=Ai8 hc;omega
 obtain⟨x_2,b0,hx0_,h,hJ0⟩:=Ba hJ0 hlt0
 have hx0:=A2 hx0_
 have hw0:=wk (k:=k0) (by omega)
 unfold Gq at h;try dsimp only at h
 refine sk (qn (sq (bk (sq (ar rfl (qn (sq ?_)))))))
 refine rg rfl fun K j=>?_
 refine Bn.of (f:=A1) (l:=f_.Packs) hx0 ?_
 refine nS ?_
 refine An.inline Tryz.call210 Tryz.func210 rfl rfl (by show _≤8;simp) ?_
 refine nS (sq ?_)
 refine ar rfl (qn (sq ?_))
 refine ar rfl (qn (rt ?_))
 refine nSc Tryz.results210 ?_
 refine j _ _ (qn ?_);clear j K
 revert h;refine ca rfl (fun hc h=>?_) fun hc h=>?_
 ·refine sq (ar rfl (qn (rt (br (qr (qr ?_))))))
  obtain⟨q3,hq,h⟩:=Af h
  obtain rfl:=Aa h
  obtain rfl:=Ae hJ0
  replace h:=hq.trans (Am hO0)
  refine br (qr (nSc Tryz.results209 ?_))
  refine j _ _ (qn (sq (sq ?_)))
  refine ar rfl (qn ?_)
  revert h;refine ca rfl (fun hc h=>?_) fun hc h=>?_
  ·refine sq (ar rfl (qn (rt (qr ?_))))
   cases h;exact en Tryz.results108
  refine sk (qn (sq ?_))
  refine rg rfl fun K j=>?_
  refine Bn.of (f:=A1) (l:=f_.Packs) hx0 ?_
  refine nS ?_
  obtain⟨y3,hy3,h⟩:=Af h
  refine An.pure Tryz.call211 (Yo x_2.Pack hy3) rfl fun _ hr=>?_
  subst hr
  refine nS ?_
  refine j _ _ (qn (sq ?_))
  refine rg rfl fun K j=>?_
  revert h;refine gt (fun hc h=>?_) fun hc h=>?_
  ·refine j _ _ (qn (rt ?_))
   cases h;exact en Tryz.results108
  refine j _ _ (qn (rt ?_))
  cases h;exact en Tryz.results108
 refine sk (bn (qn (ar rfl (qn ?_))))
 obtain rfl:=Aa h
 refine⟨(k0+1,(),()),⟨by dsimp only;omega,Ai hJ0⟩,by dsimp only;omega,?_,?_⟩
 ·exact cuw hw0
 exact cuw hw0
def Eu (f_:Aj) (run:Int) (y1:Cd×Bool) (t24_3:Bool):Option (Int):=
 (bif t24_3 then some 15 else(E2 f_).bind fun y5=>(Gi f_.Slides y5).bind fun y6=>(Br y6 y1.1.Zone).bind fun y7=>(bif y7 then some 10 else(Li f_.Patrol run f_.Time).bind fun y8=>(bif (!y8)then some 14 else(Fh f_ run).bind fun y9=>(bif (!y9)then some 5 else some 0))))
def Cz (f_:Aj) (run:Int):Option (Int):=
 (E4 f_.Map run).bind fun y1=>(bif (!y1.2)then some 8 else(P2 f_.Map f_.Closures run).bind fun y2=>(bif y2 then some 13 else(R5 f_.Groomers run).bind fun y10=>(bif y10 then Eu f_ run y1 y10 else(Pl f_.Winches f_.Time).bind fun y11=>(Br y11 run).bind fun y12=>(bif y12 then Eu f_ run y1 y12 else(Gs f_ y1.1.Zone).bind fun y13=>Eu f_ run y1 y13))))
theorem Ju (f_:Aj) (run:Int) {r:Int} (h:Cz f_ run=some r):Ad Tryz.prog 48 [.agg (B3 f_),.int .i64 run] (·= .int .i64 r):=by
 refine Ad.nle (Ad.intro Tryz.func48 rfl rfl (by show _≤62;simp) ?_)
 unfold Cz at h
 refine nS (sq ?_)
 refine ar rfl (qn (sq ?_))
 refine rg rfl fun K j=>?_
 obtain⟨y1,hy1,h⟩:=Af h
 refine An.pure Tryz.call53 (D9 f_.Map run hy1) rfl fun _ hr=>?_
 subst hr
 refine nS ?_
 refine j _ _ (qn (sq (bk (sq ?_))))
 refine ar rfl (qn ?_)
 revert h;refine ca rfl (fun hc h=>?_) fun hc h=>?_
 ·refine sq (ar rfl (qn (rt (br (qr ?_)))))
  cases h;exact en Tryz.results48
 refine sq ?_
 refine rg rfl fun K j=>?_
 obtain⟨y2,hy2,h⟩:=Af h
 refine An.pure Tryz.call102 (dC f_.Map f_.Closures run hy2) rfl fun _ hr=>?_
 subst hr
 refine nS ?_
 refine j _ _ (qn ?_)
 revert h;refine ca rfl (fun hc h=>?_) fun hc h=>?_
 ·refine sq (ar rfl (qn (rt (br (qr ?_)))))
  cases h;exact en Tryz.results48
 refine AWP.Lf (ι:=(Bool)×(Unit)) (fun zz=>[(1,.int .i64 run),(2,.ptr 0 0),(5,.ptr 1 0),(24,.bool zz.1)]) (fun zz=>[.box [.sl 2 (f_.Map.Nodes.map A6),.sl 8 (f_.Map.Lifts.map A7),.sl 7 (f_.Map.Runs.map Bc),.sl 1 (f_.Map.Bases.map A5),.sl 2 (f_.Lifts.map Av),.sl 4 (f_.Closures.map Aq),.sl 4 (f_.Patrol.Bt.map Au),.sl 3 (f_.Patrol.Hazards.map Az),.sl 3 (f_.Surfaces.map A3),.sl 5 (f_.Packs.map A1),.sl 6 (f_.Slides.map A9),.sl 7 (f_.Bulletin.map Aw),.sl 7 (f_.Missions.map Ap),.sl 4 (f_.Winches.map Ao),.sl 8 (f_.Groomers.map Ay),.sl 3 (f_.Status.map A4),.int .i64 f_.Depth,.int .i64 f_.Time],.box [.int .i64 y1.1.ID,.int .i64 y1.1.Operator,.int .i64 y1.1.From,.int .i64 y1.1.To,.int .i64 y1.1.Grade,.int .i64 y1.1.Zone,.int .i64 y1.1.Length]]) (fun zz=>Eu f_ run y1 zz.1=some r) (fun zz=>⟨rfl,rfl,rfl⟩) ?_ ?_
 ·refine sq ?_
  refine rg rfl fun K j=>?_
  obtain⟨y10,hy10,h⟩:=Af h
  refine An.pure Tryz.call103 (eU f_.Groomers run hy10) rfl fun _ hr=>?_
  subst hr
  refine nS ?_
  refine j _ _ (qn ?_)
  revert h;refine ca rfl (fun hc h=>?_) fun hc h=>?_
  ·refine sk (qn ?_)
   exact⟨(y10,()),h,cu,cu⟩
  refine sq ?_
  refine rg rfl fun K j=>?_
  obtain⟨y11,hy11,h⟩:=Af h
  refine An.pure Tryz.call104 (bJ f_.Winches f_.Time hy11) rfl fun _ hr=>?_
  subst hr
  refine nS ?_
  obtain⟨y12,hy12,h⟩:=Af h
  refine An.pure Tryz.call54 (Bu y11 run hy12) rfl fun _ hr=>?_
  subst hr
  refine nS ?_
  refine j _ _ (qn ?_)
  revert h;refine ca rfl (fun hc h=>?_) fun hc h=>?_
  ·refine sk (qn ?_)
   exact⟨(y12,()),h,cu,cu⟩
  refine rg rfl fun K j=>?_
  obtain⟨y13,hy13,h⟩:=Af h
  refine An.pure Tryz.call105 (Vi f_ y1.1.Zone hy13) rfl fun _ hr=>?_
  subst hr
  refine nS ?_
  refine j _ _ (qn ?_)
  exact⟨(y13,()),h,cu,cu⟩
 rintro⟨t24_3,⟨⟩⟩ h
 try dsimp only at h ⊢
 unfold Eu at h;try dsimp only at h
 revert h;refine ca rfl (fun hc h=>?_) fun hc h=>?_
 ·refine sq (ar rfl (qn (rt (br (qr ?_)))))
  cases h;exact en Tryz.results48
 refine sq ?_
 refine AWP.draw Tryz.mixed (by kernel_rfl) ?_;intro K j
 refine nS ?_
 obtain⟨y5,hy5,h⟩:=Af h
 refine B7.pure Tryz.call16 (V7 f_ hy5) rfl ?_
 refine nS ?_
 obtain⟨y6,hy6,h⟩:=Af h
 refine B7.pure Tryz.call106 (Xi f_.Slides y5 hy6) rfl ?_
 refine nS ?_
 obtain⟨y7,hy7,h⟩:=Af h
 refine B7.pure Tryz.call54 (Bu y6 y1.1.Zone hy7) rfl ?_
 refine nS ?_
 refine j _ _ _ (by kernel_rfl) ?_
 refine qn ?_
 revert h;refine ca rfl (fun hc h=>?_) fun hc h=>?_
 ·refine sq (ar rfl (qn (rt (br (qr ?_)))))
  cases h;exact en Tryz.results48
 refine sq ?_
 refine rg rfl fun K j=>?_
 obtain⟨y8,hy8,h⟩:=Af h
 refine An.pure Tryz.call107 (aE f_.Patrol run f_.Time hy8) rfl fun _ hr=>?_
 subst hr
 refine nS ?_
 refine j _ _ (qn ?_)
 revert h;refine ca rfl (fun hc h=>?_) fun hc h=>?_
 ·refine sq (ar rfl (qn (rt (br (qr ?_)))))
  cases h;exact en Tryz.results48
 refine sq ?_
 refine rg rfl fun K j=>?_
 obtain⟨y9,hy9,h⟩:=Af h
 refine An.pure Tryz.call108 (Vh f_ run hy9) rfl fun _ hr=>?_
 subst hr
 refine nS ?_
 refine j _ _ (qn ?_)
 revert h;refine ca rfl (fun hc h=>?_) fun hc h=>?_
 ·refine sq (ar rfl (qn (rt (br (qr ?_)))))
  cases h;exact en Tryz.results48
 refine sk (bn (qn (sq (ar rfl (qn (rt ?_))))))
 cases h;exact en Tryz.results48
def G8 (k2:Nat) (x_4:Cr) (sv:(List Int)):Option (Out ((List Int)) ((List Int))):=
 (bif (decide (x_4.Mode=1))then chk (sv.length+1) (some (Out.next (sv++[x_4.Lift])))else some (Out.next sv))
def F1 (f_:Aj):Option ((List Int)):=
 (Al G8 0 f_.Lifts []).bind fun o2=>o2.on fun s2=>some s2
theorem Vg (f_:Aj) {r:(List Int)} (h:F1 f_=some r):Bp Tryz.prog 110 [.agg (B3 f_)] (·= .sl 1 (r.map A5)):=by
 refine Bp.nle (Bp.intro Tryz.func110 rfl rfl (by show _≤23;simp) ?_)
 unfold F1 at h
 refine nS (sq ?_)
 refine ar rfl (qn (sq ?_))
 refine ar rfl (qn (sq (sq ?_)))
 refine rg rfl fun K j=>?_
 intro hm
 refine j _ _ (qn (bk ?_))
 refine AWP.ghost 3 1 rfl (by decide) ?_
 obtain⟨o2,hJ2,hO2⟩:=Af h
 clear h
 refine AWP.Bw (ι:=Nat×((List Int))×(Nat)) (fun zz=>[(3,.own 1 zz.2.2 0 zz.2.1.length),(7,.sl 2 (f_.Lifts.map Av)),(8,.int .i64 ((f_.Lifts.length:Nat):Int)),(9,.int .i64 ((zz.1:Nat):Int))]) (fun zz=>[.gone,.row zz.2.2 1 (zz.2.1.map A5)]) (fun zz=>zz.1≤f_.Lifts.length∧Al G8 zz.1 ((f_.Lifts).drop zz.1) zz.2.1=some o2) (fun zz=>f_.Lifts.length - zz.1) (0,[],0) ⟨Nat.zero_le _,hJ2⟩ cu cu (fun x=>⟨rfl,rfl,rfl⟩) ?_
 clear hJ2
 rintro⟨k2,out1,ver2⟩ ⟨hk2,hJ2⟩
 dsimp only at hk2 hJ2 ⊢
 refine sq (ar rfl (qn (sq ?_)))
 refine AWP.cond (Ak (fun hc=>?_) (fun hc=>?_))
 rotate_left
 ·obtain rfl:=Bf hJ2 (fun hl=>by have:=Ai7 hc;omega)
  have h:=Be hO2;try dsimp only at h
  have hkl:f_.Lifts.length=k2:=by have:=Ai7 hc;omega
  subst hkl
  refine xt (qe (qe (bs (qn (sq (ar rfl (qn (rt ?_))))))))
  cases h;exact en Tryz.results110
 have hlt2:k2<f_.Lifts.length:=by have:=Ai8 hc;omega
 obtain⟨x_4,b2,hx2_,h,hJ2⟩:=Ba hJ2 hlt2
 have hx2:=A2 hx2_
 have hw2:=wk (k:=k2) (by omega)
 unfold G8 at h;try dsimp only at h
 refine sk (qn (sq (bk (sq ?_))))
 refine rg rfl fun K j=>?_
 refine Bn.of (f:=Av) (l:=f_.Lifts) hx2 ?_
 refine nS ?_
 refine j _ _ (qn (sq ?_))
 refine ar rfl (qn ?_)
 revert h;refine ca rfl (fun hc h=>?_) fun hc h=>?_
 ·refine rg rfl fun K j=>?_
  obtain⟨hk,h⟩:=B6 h
  (repeat refine rp ?_);try simp +decide -implicitDefEqProofs only[go_sem]
  refine j _ _ (bn (qn ?_))
  refine ar rfl (qn ?_)
  obtain rfl:=Aa h
  refine⟨(k2+1,(out1++[x_4.Lift]),(ver2+1)),⟨by dsimp only;omega,Ai hJ2⟩,by dsimp only;omega,?_,?_⟩
  ·exact cuw hw2
  exact cuw hw2
 refine sk (bn (qn (ar rfl (qn ?_))))
 obtain rfl:=Aa h
 refine⟨(k2+1,out1,ver2),⟨by dsimp only;omega,Ai hJ2⟩,by dsimp only;omega,?_,?_⟩
 ·exact cuw hw2
 exact cuw hw2
theorem V6 (f_:Aj) {r:(List Int)} (h:F1 f_=some r):Ad Tryz.prog 110 [.agg (B3 f_)] (·= .sl 1 (r.map A5)):=(Vg f_ h).pure
def O9 (lifts:List Int) (k2:Nat) (x_4:Cc) (sv:(List Ax)):Option (Out ((List Ax)) ((List Ax))):=
 (Br lifts x_4.ID).bind fun y5=>(bif y5 then chk (sv.length+1) (some (Out.next (sv++[(Ax.mk x_4.ID x_4.From x_4.To x_4.Length)])))else some (Out.next sv))
def Ov (m:Bb) (lifts:List Int):Option ((List Ax)):=
 (Al (O9 lifts) 0 m.Lifts []).bind fun o2=>o2.on fun s2=>some s2
theorem bM (m:Bb) (lifts:List Int) {r:(List Ax)} (h:Ov m lifts=some r):Bp Tryz.prog 267 [.agg (Cf m),.sl 1 (lifts.map A5)] (·= .sl 4 (r.map Bv)):=by
 refine Bp.nle (Bp.intro Tryz.func267 rfl rfl (by show _≤33;simp) ?_)
 unfold Ov at h
 refine nS (sq ?_)
 refine ar rfl (qn (sq ?_))
 refine ar rfl (qn (sq (sq ?_)))
 refine rg rfl fun K j=>?_
 intro hm
 refine j _ _ (qn (bk ?_))
 refine AWP.ghost 5 4 rfl (by decide) ?_
 obtain⟨o2,hJ2,hO2⟩:=Af h
 clear h
 refine AWP.Bw (ι:=Nat×((List Ax))×(Nat)) (fun zz=>[(1,.sl 1 (lifts.map A5)),(5,.own 1 zz.2.2 0 zz.2.1.length),(9,.sl 8 (m.Lifts.map A7)),(10,.int .i64 ((m.Lifts.length:Nat):Int)),(11,.int .i64 ((zz.1:Nat):Int))]) (fun zz=>[.gone,.row zz.2.2 4 (zz.2.1.map Bv)]) (fun zz=>zz.1≤m.Lifts.length∧Al (O9 lifts) zz.1 ((m.Lifts).drop zz.1) zz.2.1=some o2) (fun zz=>m.Lifts.length - zz.1) (0,[],0) ⟨Nat.zero_le _,hJ2⟩ cu cu (fun x=>⟨rfl,rfl,rfl⟩) ?_
 clear hJ2
 rintro⟨k2,out1,ver2⟩ ⟨hk2,hJ2⟩
 dsimp only at hk2 hJ2 ⊢
 refine sq (ar rfl (qn (sq ?_)))
 refine AWP.cond (Ak (fun hc=>?_) (fun hc=>?_))
 rotate_left
 ·obtain rfl:=Bf hJ2 (fun hl=>by have:=Ai7 hc;omega)
  have h:=Be hO2;try dsimp only at h
  have hkl:m.Lifts.length=k2:=by have:=Ai7 hc;omega
  subst hkl
  refine xt (qe (qe (bs (qn (sq (ar rfl (qn (rt ?_))))))))
  cases h;exact en Tryz.results267
 have hlt2:k2<m.Lifts.length:=by have:=Ai8 hc;omega
 obtain⟨x_4,b2,hx2_,h,hJ2⟩:=Ba hJ2 hlt2
 have hx2:=A2 hx2_
 have hw2:=wk (k:=k2) (by omega)
 unfold O9 at h;try dsimp only at h
 refine sk (qn (sq (bk (sq ?_))))
 refine rg rfl fun K j=>?_
 refine Bn.of (f:=A7) (l:=m.Lifts) hx2 ?_
 refine nS ?_
 refine j _ _ (qn (sq ?_))
 refine rg rfl fun K j=>?_
 obtain⟨y5,hy5,h⟩:=Af h
 refine An.pure Tryz.call54 (Bu lifts x_4.ID hy5) rfl fun _ hr=>?_
 subst hr
 refine nS ?_
 refine j _ _ (qn ?_)
 revert h;refine ca rfl (fun hc h=>?_) fun hc h=>?_
 ·refine rg rfl fun K j=>?_
  obtain⟨hk,h⟩:=B6 h
  (repeat refine rp ?_);try simp +decide -implicitDefEqProofs only[go_sem]
  refine j _ _ (bn (qn ?_))
  refine ar rfl (qn ?_)
  obtain rfl:=Aa h
  refine⟨(k2+1,(out1++[(Ax.mk x_4.ID x_4.From x_4.To x_4.Length)]),(ver2+1)),⟨by dsimp only;omega,Ai hJ2⟩,by dsimp only;omega,?_,?_⟩
  ·exact cuw hw2
  exact cuw hw2
 refine sk (bn (qn (ar rfl (qn ?_))))
 obtain rfl:=Aa h
 refine⟨(k2+1,out1,ver2),⟨by dsimp only;omega,Ai hJ2⟩,by dsimp only;omega,?_,?_⟩
 ·exact cuw hw2
 exact cuw hw2
theorem eO (m:Bb) (lifts:List Int) {r:(List Ax)} (h:Ov m lifts=some r):Ad Tryz.prog 267 [.agg (Cf m),.sl 1 (lifts.map A5)] (·= .sl 4 (r.map Bv)):=(bM m lifts h).pure
def Mi (runs:List Int) (k2:Nat) (x_4:Cd) (sv:(List Ax)):Option (Out ((List Ax)) ((List Ax))):=
 (Br runs x_4.ID).bind fun y5=>(bif y5 then chk (sv.length+1) (some (Out.next (sv++[(Ax.mk x_4.ID x_4.From x_4.To x_4.Length)])))else some (Out.next sv))
def Ig (m:Bb) (runs:List Int):Option ((List Ax)):=
 (Al (Mi runs) 0 m.Runs []).bind fun o2=>o2.on fun s2=>some s2
theorem Y8 (m:Bb) (runs:List Int) {r:(List Ax)} (h:Ig m runs=some r):Bp Tryz.prog 215 [.agg (Cf m),.sl 1 (runs.map A5)] (·= .sl 4 (r.map Bv)):=by
 refine Bp.nle (Bp.intro Tryz.func215 rfl rfl (by show _≤33;simp) ?_)
 unfold Ig at h
 refine nS (sq ?_)
 refine ar rfl (qn (sq ?_))
 refine ar rfl (qn (sq (sq ?_)))
 refine rg rfl fun K j=>?_
 intro hm
 refine j _ _ (qn (bk ?_))
 refine AWP.ghost 5 4 rfl (by decide) ?_
 obtain⟨o2,hJ2,hO2⟩:=Af h
 clear h
 refine AWP.Bw (ι:=Nat×((List Ax))×(Nat)) (fun zz=>[(1,.sl 1 (runs.map A5)),(5,.own 1 zz.2.2 0 zz.2.1.length),(9,.sl 7 (m.Runs.map Bc)),(10,.int .i64 ((m.Runs.length:Nat):Int)),(11,.int .i64 ((zz.1:Nat):Int))]) (fun zz=>[.gone,.row zz.2.2 4 (zz.2.1.map Bv)]) (fun zz=>zz.1≤m.Runs.length∧Al (Mi runs) zz.1 ((m.Runs).drop zz.1) zz.2.1=some o2) (fun zz=>m.Runs.length - zz.1) (0,[],0) ⟨Nat.zero_le _,hJ2⟩ cu cu (fun x=>⟨rfl,rfl,rfl⟩) ?_
 clear hJ2
 rintro⟨k2,out1,ver2⟩ ⟨hk2,hJ2⟩
 dsimp only at hk2 hJ2 ⊢
 refine sq (ar rfl (qn (sq ?_)))
 refine AWP.cond (Ak (fun hc=>?_) (fun hc=>?_))
 rotate_left
 ·obtain rfl:=Bf hJ2 (fun hl=>by have:=Ai7 hc;omega)
  have h:=Be hO2;try dsimp only at h
  have hkl:m.Runs.length=k2:=by have:=Ai7 hc;omega
  subst hkl
  refine xt (qe (qe (bs (qn (sq (ar rfl (qn (rt ?_))))))))
  cases h;exact en Tryz.results215
 have hlt2:k2<m.Runs.length:=by have:=Ai8 hc;omega
 obtain⟨x_4,b2,hx2_,h,hJ2⟩:=Ba hJ2 hlt2
 have hx2:=A2 hx2_
 have hw2:=wk (k:=k2) (by omega)
 unfold Mi at h;try dsimp only at h
 refine sk (qn (sq (bk (sq ?_))))
 refine rg rfl fun K j=>?_
 refine Bn.of (f:=Bc) (l:=m.Runs) hx2 ?_
 refine nS ?_
 refine j _ _ (qn (sq ?_))
 refine rg rfl fun K j=>?_
 obtain⟨y5,hy5,h⟩:=Af h
 refine An.pure Tryz.call54 (Bu runs x_4.ID hy5) rfl fun _ hr=>?_
 subst hr
 refine nS ?_
 refine j _ _ (qn ?_)
 revert h;refine ca rfl (fun hc h=>?_) fun hc h=>?_
 ·refine rg rfl fun K j=>?_
  obtain⟨hk,h⟩:=B6 h
  (repeat refine rp ?_);try simp +decide -implicitDefEqProofs only[go_sem]
  refine j _ _ (bn (qn ?_))
  refine ar rfl (qn ?_)
  obtain rfl:=Aa h
  refine⟨(k2+1,(out1++[(Ax.mk x_4.ID x_4.From x_4.To x_4.Length)]),(ver2+1)),⟨by dsimp only;omega,Ai hJ2⟩,by dsimp only;omega,?_,?_⟩
  ·exact cuw hw2
  exact cuw hw2
 refine sk (bn (qn (ar rfl (qn ?_))))
 obtain rfl:=Aa h
 refine⟨(k2+1,out1,ver2),⟨by dsimp only;omega,Ai hJ2⟩,by dsimp only;omega,?_,?_⟩
 ·exact cuw hw2
 exact cuw hw2
theorem Sp (m:Bb) (runs:List Int) {r:(List Ax)} (h:Ig m runs=some r):Ad Tryz.prog 215 [.agg (Cf m),.sl 1 (runs.map A5)] (·= .sl 4 (r.map Bv)):=(Y8 m runs h).pure
def K7 (k6:Nat) (x_8:Ax) (sv:(List Ax)):Option (Out ((List Ax)) (Out ((List Ax)) ((List Ax)))):=
 chk (sv.length+1) (some (Out.next (sv++[(Ax.mk ((sv.length:Nat):Int) x_8.From x_8.To x_8.Cost)])))
def Nn (k2:Nat) (x_4:List Ax) (sv:(List Ax)):Option (Out ((List Ax)) ((List Ax))):=
 (Al K7 0 x_4 sv).bind fun o6=>o6.on fun s6=>some (Out.next s6)
def M5 (lists:List (List Ax)):Option ((List Ax)):=
 (Al Nn 0 lists []).bind fun o2=>o2.on fun s2=>some s2
theorem Vy (lists:List (List Ax)) {r:(List Ax)} (h:M5 lists=some r):Bp Tryz.prog 214 [.sl 1 (lists.map Ke)] (·= .sl 4 (r.map Bv)):=by
 refine Bp.nle (Bp.intro Tryz.func214 rfl rfl (by show _≤30;simp) ?_)
 unfold M5 at h
 refine nS (sq ?_)
 refine ar rfl (qn (sq ?_))
 refine ar rfl (qn (sq (sq ?_)))
 refine rg rfl fun K j=>?_
 intro hm
 refine j _ _ (qn (bk ?_))
 refine AWP.ghost 3 4 rfl (by decide) ?_
 obtain⟨o2,hJ2,hO2⟩:=Af h
 clear h
 refine AWP.Bw (ι:=Nat×((List Ax))×(Nat)) (fun zz=>[(3,.own 0 zz.2.2 0 zz.2.1.length),(8,.sl 1 (lists.map Ke)),(9,.int .i64 ((lists.length:Nat):Int)),(10,.int .i64 ((zz.1:Nat):Int))]) (fun zz=>[.row zz.2.2 4 (zz.2.1.map Bv)]) (fun zz=>zz.1≤lists.length∧Al Nn zz.1 ((lists).drop zz.1) zz.2.1=some o2) (fun zz=>lists.length - zz.1) (0,[],0) ⟨Nat.zero_le _,hJ2⟩ cu cu (fun x=>⟨rfl,rfl,rfl⟩) ?_
 clear hJ2
 rintro⟨k2,out1,ver2⟩ ⟨hk2,hJ2⟩
 dsimp only at hk2 hJ2 ⊢
 refine sq (ar rfl (qn (sq ?_)))
 refine AWP.cond (Ak (fun hc=>?_) (fun hc=>?_))
 rotate_left
 ·obtain rfl:=Bf hJ2 (fun hl=>by have:=Ai7 hc;omega)
  have h:=Be hO2;try dsimp only at h
  have hkl:lists.length=k2:=by have:=Ai7 hc;omega
  subst hkl
  refine xt (qe (qe (bs (qn (sq (ar rfl (qn (rt ?_))))))))
  cases h;exact en Tryz.results214
 have hlt2:k2<lists.length:=by have:=Ai8 hc;omega
 obtain⟨x_4,b2,hx2_,h,hJ2⟩:=Ba hJ2 hlt2
 have hx2:=A2 hx2_
 have hw2:=wk (k:=k2) (by omega)
 unfold Nn at h;try dsimp only at h
 refine sk (qn (sq (bk (sq ?_))))
 refine rg rfl fun K j=>?_
 refine Bn.of (f:=Ke) (l:=lists) hx2 ?_
 refine nS ?_
 refine j _ _ (qn (sq ?_))
 refine rg rfl fun K j=>?_
 intro hm
 refine j _ _ (qn (bk ?_))
 obtain⟨o6,hJ6,hO6⟩:=Af h
 clear h
 refine AWP.Bw (ι:=Nat×((List Ax))×(Nat)) (fun zz=>[(3,.own 0 zz.2.2 0 zz.2.1.length),(8,.sl 1 (lists.map Ke)),(9,.int .i64 ((lists.length:Nat):Int)),(10,.int .i64 ((k2:Nat):Int)),(14,.sl 4 (x_4.map Bv)),(15,.int .i64 ((x_4.length:Nat):Int)),(16,.int .i64 ((zz.1:Nat):Int))]) (fun zz=>[.row zz.2.2 4 (zz.2.1.map Bv)]) (fun zz=>zz.1≤x_4.length∧Al K7 zz.1 ((x_4).drop zz.1) zz.2.1=some o6) (fun zz=>x_4.length - zz.1) (0,out1,ver2) ⟨Nat.zero_le _,hJ6⟩ cu cu (fun x=>⟨rfl,rfl,rfl⟩) ?_
 clear hJ6
 rintro⟨k6,out5,ver6⟩ ⟨hk6,hJ6⟩
 dsimp only at hk6 hJ6 ⊢
 refine sq (ar rfl (qn (sq ?_)))
 refine AWP.cond (Ak (fun hc=>?_) (fun hc=>?_))
 ·have hlt6:k6<x_4.length:=by have:=Ai8 hc;omega
  obtain⟨x_8,b6,hx6_,h,hJ6⟩:=Ba hJ6 hlt6
  have hx6:=A2 hx6_
  have hw6:=wk (k:=k6) (by omega)
  unfold K7 at h;try dsimp only at h
  refine sk (qn (sq (bk (sq ?_))))
  refine rg rfl fun K j=>?_
  refine Bn.of (f:=Bv) (l:=x_4) hx6 ?_
  refine nS ?_
  refine j _ _ (qn (sq ?_))
  refine rg rfl fun K j=>?_
  intro hm
  refine j _ _ (qn ?_)
  refine rg rfl fun K j=>?_
  obtain⟨hk,h⟩:=B6 h
  (repeat refine rp ?_);try simp +decide -implicitDefEqProofs only[go_sem]
  refine j _ _ (bn (qn ?_))
  refine ar rfl (qn ?_)
  obtain rfl:=Aa h
  refine⟨(k6+1,(out5++[(Ax.mk ((out5.length:Nat):Int) x_8.From x_8.To x_8.Cost)]),(ver6+1)),⟨by dsimp only;omega,Ai hJ6⟩,by dsimp only;omega,?_,?_⟩
  ·exact cuw hw6
  exact cuw hw6
 obtain rfl:=Bf hJ6 (fun hl=>by have:=Ai7 hc;omega)
 have h:=Be hO6;try dsimp only at h
 have hkl:x_4.length=k6:=by have:=Ai7 hc;omega
 subst hkl
 refine xt (qe (qe (bs (bn (qn (ar rfl (qn ?_)))))))
 obtain rfl:=Aa h
 refine⟨(k2+1,out5,ver6),⟨by dsimp only;omega,Ai hJ2⟩,by dsimp only;omega,?_,?_⟩
 ·exact cuw hw2
 exact cuw hw2
def B8 (s_:List Int):Option (List Int):=chk s_.length (some s_)
theorem E0 (s_:List Int) {r:List Int} (h:B8 s_=some r):Dc Tryz.prog 67 [.sl 1 (s_.map A5)] 1 (r.map A5):=by
 have hk:=(B6 h).1
 have hr:r=s_:=Aa (B6 h).2
 rw[hr];clear hr h
 refine Dc.of ?_
 refine Ci.weak (R:=fun q H=>∃ v rest,q= .own 0 v 0 (s_.map A5).length∧H= .row v 1 (s_.map A5)::rest) (Ci.intro Tryz.func67 rfl rfl (by show _≤8;simp) ?_) (fun q H hq=>?_)
 ·refine nS (sq ?_)
  refine ar rfl (qn (sq (sq ?_)))
  refine rg rfl fun K j=>?_
  intro bnil hb
  refine nS ?_
  refine j _ _ (qn ?_)
  refine AWP.cond (Ak (fun hc=>?_) (fun hc=>?_))
  ·have hx0:s_=[]:=Classical.byContradiction fun hne=>by have:=hb (by simpa using hne);simp[this]at hc
   subst hx0
   refine sq (ar rfl (qn ?_))
   refine AWP.ghost 2 1 rfl (by decide) ?_
   refine nS (rt (qr ?_))
   refine nSc Tryz.results67 ?_
   refine⟨_,_,?_,rfl⟩
   (try simp +decide -implicitDefEqProofs only[go_sem,List.length_map,List.length_append,List.length_cons,List.length_nil,List.length_set,List.length_replicate]);try rfl
  clear hc
  refine sk (qn (sq ?_))
  refine rg rfl fun K j=>?_
  (repeat refine rp ?_);try simp +decide -implicitDefEqProofs only[go_sem]
  refine j _ _ (qn (rt ?_))
  refine nSc Tryz.results67 ?_
  refine⟨_,_,?_,rfl⟩
  (try simp +decide -implicitDefEqProofs only[go_sem,List.length_map,List.length_append,List.length_cons,List.length_nil,List.length_set,List.length_replicate]);try rfl
 obtain⟨v,rest,rfl,rfl⟩:=hq
 exact⟨[.row v 1 (s_.map A5)],⟨⟨rfl,rfl,rfl⟩,by cases rest<;>trivial⟩,rfl,rfl,⟨v,rfl,rfl⟩⟩
theorem Qt (s_:List Int) {r:List Int} (h:B8 s_=some r):Bp Tryz.prog 67 [.sl 1 (s_.map A5)] (·= .sl 1 (r.map A5)):=Bp.nle (Ci.fresh (Ci.mono (E0 s_ h) fun q H=>by rintro⟨rfl,rfl⟩;simp +decide -implicitDefEqProofs only[go_sem,Dj,Ac.int.injEq,Int.natCast_zero,List.replicate_zero,List.length_take,List.length_drop,Ac.own.injEq,reduceCtorEq,Int.reduceAdd,Sh,Si,Oz,Sg,Oy,List.length_map]))
theorem Db (s_:List Int) {r:List Int} (h:B8 s_=some r):Ad Tryz.prog 67 [.sl 1 (s_.map A5)] (·= .sl 1 (r.map A5)):=(Qt s_ h).pure
def Bz (l:List Ax):List (Int×List Int):=l.foldl (fun g e=>gadd g e.From e.To) []
theorem Pz (l:List Ax):∀ n,n≤l.length→∀ p∈Bz (l.take n),1≤p.2.length∧p.2.length≤n:=by
 intro n
 induction n with
 | zero=>intro _ p hp;simp[Bz]at hp
 | succ n ih=>
  intro h
  have hx:l[n]? =some l[n]:=Ajb (by omega)
  have e:Bz (l.take (n+1))=gadd (Bz (l.take n)) l[n].From l[n].To:=by
   unfold Bz;rw[List.take_add_one,hx,List.foldl_append];rfl
  rw[e]
  exact wZ (ih (by omega)) _ _
theorem Ot {l:List Ax} {k:Nat} {e:Ax} (h:l[k]? =some e):Bz (l.take (k+1))=gadd (Bz (l.take k)) e.From e.To:=by
 unfold Bz;rw[List.take_add_one,h,List.foldl_append];rfl
def El (l:List Ax) (sv:(List (Int×Bool))×(List Int)):Option (Out ((List (Int×Bool))×(List Int)) ((List Int))):=
 (bif (decide (0<((sv.2.length:Nat):Int)))then (Dk sv.2 (IntKind.i64.wrap (((sv.2.length:Nat):Int) - 1))).bind fun x_6=>okB (decide (0≤(IntKind.i64.wrap (((sv.2.length:Nat):Int) - 1))∧(IntKind.i64.wrap (((sv.2.length:Nat):Int) - 1))≤((sv.2.length:Nat):Int))) ((bif (!(mget false sv.1 x_6))then chk ((IntKind.i64.wrap (((sv.2.length:Nat):Int) - 1)).toNat+(mget [] (Bz l) x_6).length) (some (Out.next ((mset sv.1 x_6 true),((sv.2.take (IntKind.i64.wrap (((sv.2.length:Nat):Int) - 1)).toNat)++(mget [] (Bz l) x_6)))))else some (Out.next (sv.1,(sv.2.take (IntKind.i64.wrap (((sv.2.length:Nat):Int) - 1)).toNat)))))else (okB (decide (∀ k∈mkeys sv.1, -9223372036854775808≤k∧k≤9223372036854775807)) (chk sv.1.length (some (Dd (mkeys sv.1))))).bind fun q6=>some (Out.ret q6))
def Fb (l:List Ax) (from_:List Int):Option ((List Int)):=
 chk l.length ((B8 from_).bind fun y1=>(D8 (El l) fuel ([],y1)).bind fun o4=>o4.on fun _=>none)
theorem sG (l:List Ax) (from_:List Int) {r:(List Int)} (h:Fb l from_=some r):Bp Tryz.prog 266 [.sl 4 (l.map Bv),.sl 1 (from_.map A5)] (·= .sl 1 (r.map A5)):=by
 refine Bp.nle (Bp.intro Tryz.func266 rfl rfl (by show _≤61;simp) ?_)
 unfold Fb at h
 refine nS (sq ?_)
 refine ar rfl (qn (sq ?_))
 refine ar rfl (qn (sq (sq ?_)))
 refine rg rfl fun K j=>?_
 intro hm
 refine j _ _ (qn ?_)
 obtain⟨hl,h⟩:=B6 h
 refine bk ?_
 refine AWP.nQ (ι:=Nat×List (Int×List Int)) (fun zz=>[(0,.sl 4 (l.map Bv)),(1,.sl 1 (from_.map A5)),(5,.map 0),(12,.sl 4 (l.map Bv)),(13,.int .i64 ((l.length:Nat):Int)),(14,.int .i64 ((zz.1:Nat):Int))]) (fun zz=>.mpo false (gE 1 zz.2)::gR zz.2) (fun zz=>zz.1≤l.length∧zz.2=Bz (l.take zz.1)) (fun zz=>l.length - zz.1) (0,[]) ⟨Nat.zero_le _,rfl⟩
  (by(simp (implicitDefEqProofs:=false) (decide:=true) only[go_sem,Nat.reduceAdd,Nat.reduceMul,Nat.reduceSub,Int.reduceToNat,Dj,Int.natCast_zero,List.replicate_zero,List.length_take,List.length_drop,Ac.own.injEq,reduceCtorEq,Int.reduceAdd]<;>omega)) (by exact⟨⟨rfl,rfl⟩,trivial⟩)
  (fun zz=>⟨by simp[Mg,Ac.O5,Ac.Wa,Ac.Xh,Ac.Ys],xJ zz.2 (by rw[List.length_cons,W5];omega),rfl⟩) ?_
 rintro⟨k,g⟩ ⟨hk,hg⟩
 dsimp only at hk hg ⊢
 refine sq (ar rfl (qn (sq ?_)))
 refine AWP.cond (Ak (fun hc=>?_) (fun hc=>?_))
 ·have hlt:k<l.length:=by have:=Ai8 hc;omega
  have hx0:l[k]? =some l[k]:=Ajb hlt
  have hx:=X8 hlt
  generalize l[k]=e at hx hx0
  have hw:IntKind.i64.wrap (((k:Nat):Int)+1)=(((k+1:Nat)):Int):=Q2 (by omega)
  refine sk (qn (sq (bk (sq ?_))))
  refine rg rfl fun K j=>?_
  refine Bn.of (f:=Bv) (l:=l) hx ?_
  (try simp +decide -implicitDefEqProofs only[go_sem])
  (try simp (implicitDefEqProofs:=false) (decide:=true) only[go_sem,Nat.reduceAdd,Nat.reduceMul,Nat.reduceSub,Int.reduceToNat,apN,ga0,ga1,ga2,sa0,sa1,sa2,List.drop_succ_cons,List.drop_zero,List.headD_cons])
  refine j _ _ (qn ?_)
  have hne1:((gR g).length+1+1=(gR g).length+3+1)=False:=by simp
  have hne2:((gR g).length+1+1+1=(gR g).length+3+1)=False:=by simp
  have hne3:((gR g).length+1+1=(gR g).length+1+1+1+1)=False:=by simp
  have hne4:((gR g).length+1+1+1=(gR g).length+1+1+1+1)=False:=by simp
  have hinv:=Pz l k hk
  rw[← hg]at hinv
  have hnext:=Ot hx0
  rw[← hg]at hnext
  refine AWP.draw Tryz.mixed (by kernel_rfl) ?_;intro K j
  (try simp (implicitDefEqProofs:=false) (decide:=true) only[go_sem,Nat.reduceAdd,Nat.reduceMul,Nat.reduceSub,Int.reduceToNat,apN,ga0,ga1,ga2,sa0,sa1,sa2,List.drop_succ_cons,List.drop_zero,List.headD_cons])
  refine D7.mk' (fun v hv=>?_) (fun hn=>?_)
  ·obtain⟨i,xs,hi,hv2,hget,haset,hgset⟩:=iM g 1 e.From v hv
   have hil:i<(gR g).length:=by rw[W5];exact(List.getElem?_eq_some_iff.1 hi).1
   have hrow:∀ (B:List Ar),(gR g++B)[i]? =some (.row (xs.length - 1) 1 (xs.map A5)):=fun B=>by
    rw[List.getElem?_append_left hil];unfold gR;rw[List.getElem?_map,hi];rfl
   have hset:∀ (x:Ar) (B:List Ar),(gR g++B).set i x=(gR g).set i x++B:=fun x B=>List.set_append_left _ _ hil
   have hxs:=hinv _ (Ajc hi)
   subst hv2
   clear hv
   (try simp (implicitDefEqProofs:=false) (decide:=true) only[go_sem,Nat.reduceAdd,Nat.reduceMul,Nat.reduceSub,Int.reduceToNat,apN,ga0,ga1,ga2,sa0,sa1,sa2,List.drop_succ_cons,List.drop_zero,List.headD_cons,hne1,hne2,hne3,hne4])
   (try simp only[hrow])
   (try simp (implicitDefEqProofs:=false) (decide:=true) only[go_sem,Nat.reduceAdd,Nat.reduceMul,Nat.reduceSub,Int.reduceToNat,apN,ga0,ga1,ga2,sa0,sa1,sa2,List.drop_succ_cons,List.drop_zero,List.headD_cons,hne1,hne2,hne3,hne4])
   refine⟨by simp only at hxs;omega,by simp only at hxs;omega,?_⟩
   refine j _ _ _ (X5 (fun n=>if n=0 then 0 else if n=1 then(gR g).length+1 else if n=2 then(gR g).length+1+1 else if n=3 then(gR g).length+1+1+1 else i+1) 5
    [(11,[0],true),(10,[3,4,2],true),(9,[2],true),(8,[1],false),(6,[0],false),(5,[1],false),(2,[1],false)] (by kernel_rfl) (fun a b ha hb=>?_) (by kernel_rfl)) ?_
   ·have ha':a=0∨a=1∨a=2∨a=3∨a=4:=by omega
    have hb':b=0∨b=1∨b=2∨b=3∨b=4:=by omega
    rcases ha' with rfl | rfl | rfl | rfl | rfl<;>rcases hb' with rfl | rfl | rfl | rfl | rfl<;>simp<;>omega
   clear j K
   refine bn (qn (ar rfl (qn ?_)))
   have hlx:(xs++[e.To]).length=xs.length+1:=by simp
   have hl1:xs.length - 1+1=xs.length+1 - 1:=by simp only at hxs;omega
   have e1:=haset (xs++[e.To])
   have e2:=hgset (xs++[e.To])
   rw[hlx]at e1 e2
   refine⟨(k+1,gadd g e.From e.To),⟨by dsimp only;omega,hnext.symm⟩,by dsimp only;omega,_,_,Sub.refl',?_,?_⟩
   ·(simp (implicitDefEqProofs:=false) (decide:=true) only[go_sem,Nat.reduceAdd,Nat.reduceMul,Nat.reduceSub,Int.reduceToNat,Dj,Int.natCast_zero,List.replicate_zero,List.length_take,List.length_drop,Ac.own.injEq,reduceCtorEq,Int.reduceAdd,hw]<;>omega)
   rw[hset,hl1,e1,e2]
   unfold gadd
   rw[hget]
   exact lD _ _
  (try simp (implicitDefEqProofs:=false) (decide:=true) only[go_sem,Nat.reduceAdd,Nat.reduceMul,Nat.reduceSub,Int.reduceToNat,apN,ga0,ga1,ga2,sa0,sa1,sa2,List.drop_succ_cons,List.drop_zero,List.headD_cons,hne1,hne2,hne3,hne4])
  refine j _ _ _ (X5 (fun n=>if n=0 then 0 else if n=1 then(gR g).length+1 else if n=2 then(gR g).length+1+1 else(gR g).length+1+1+1) 4
   [(11,[0],true),(10,[3,2],true),(9,[2],true),(8,[1],false),(6,[0],false),(5,[1],false),(2,[1],false)] (by kernel_rfl) (fun a b ha hb=>?_) (by kernel_rfl)) ?_
  ·have ha':a=0∨a=1∨a=2∨a=3:=by omega
   have hb':b=0∨b=1∨b=2∨b=3:=by omega
   rcases ha' with rfl | rfl | rfl | rfl<;>rcases hb' with rfl | rfl | rfl | rfl<;>simp<;>omega
  clear j K
  refine bn (qn (ar rfl (qn ?_)))
  obtain⟨hget,haset,hmset⟩:=T0 g 1 e.From hn
  have hgd:gadd g e.From e.To=g++[(e.From,[e.To])]:=by unfold gadd;rw[hget,hmset];rfl
  have hm1:(Ar.mpo false (aset (gE 1 g) e.From (Ac.own ((gR g).length+1+1+1) 0 0 1))::(gR g++[Ar.box [Ac.int IntKind.i64 e.ID,Ac.int IntKind.i64 e.From,Ac.int IntKind.i64 e.To,Ac.int IntKind.i64 e.Cost],Ar.row 0 1 [[Ac.int IntKind.i64 e.To]],Ar.row 0 1 [[Ac.int IntKind.i64 e.To]]]))[(gR g).length+1]? =some (Ar.box [Ac.int IntKind.i64 e.ID,Ac.int IntKind.i64 e.From,Ac.int IntKind.i64 e.To,Ac.int IntKind.i64 e.Cost]):=by
   rw[List.getElem?_cons_succ];exact ga0 _ _ _
  have hm3:(Ar.mpo false (aset (gE 1 g) e.From (Ac.own ((gR g).length+1+1+1) 0 0 1))::(gR g++[Ar.box [Ac.int IntKind.i64 e.ID,Ac.int IntKind.i64 e.From,Ac.int IntKind.i64 e.To,Ac.int IntKind.i64 e.Cost],Ar.row 0 1 [[Ac.int IntKind.i64 e.To]],Ar.row 0 1 [[Ac.int IntKind.i64 e.To]]]))[(gR g).length+1+1+1]? =some (Ar.row 0 1 [[Ac.int IntKind.i64 e.To]]):=by
   rw[List.getElem?_cons_succ];exact ga2 _ _ _ _ _
  refine⟨(k+1,gadd g e.From e.To),⟨by dsimp only;omega,hnext.symm⟩,by dsimp only;omega,_,_,Sub.swap ((gR g).length+1) ((gR g).length+1+1+1) hm1 hm3 rfl,?_,?_⟩
  ·(simp (implicitDefEqProofs:=false) (decide:=true) only[go_sem,Nat.reduceAdd,Nat.reduceMul,Nat.reduceSub,Int.reduceToNat,Dj,Int.natCast_zero,List.replicate_zero,List.length_take,List.length_drop,Ac.own.injEq,reduceCtorEq,Int.reduceAdd,hw]<;>omega)
  have hsw:swp ((gR g).length+1) ((gR g).length+1+1+1) ((gR g).length+1+1+1)=(gR g).length+1:=by unfold swp;rw[if_neg (by omega),if_pos rfl]
  have hre:Sf (swp ((gR g).length+1) ((gR g).length+1+1+1)) (gE 1 g)=gE 1 g:=lH g 1 fun i h1 h2=>by
   rw[← W5]at h2
   unfold swp;rw[if_neg (by omega),if_neg (by omega)]
  unfold Vz
  simp only[Ux,bQ,fP,lG,haset,fQ,hre,Sf,ren,hsw,List.set_cons_succ,sa0,sa2,rens]
  rw[hgd,q0,W5]
  have:gR (g++[(e.From,[e.To])])=gR g++[Ar.row 0 1 [[Ac.int IntKind.i64 e.To]]]:=by simp[gR,A5]
  refine⟨?_,?_⟩
  ·exact⟨rfl,rfl⟩
  rw[this]
  have:=Z8 (gR g++[Ar.row 0 1 [[Ac.int IntKind.i64 e.To]]]) [Ar.row 0 1 [[Ac.int IntKind.i64 e.To]],Ar.box [Ac.int IntKind.i64 e.ID,Ac.int IntKind.i64 e.From,Ac.int IntKind.i64 e.To,Ac.int IntKind.i64 e.Cost]] (by
   intro o ho
   rcases List.mem_append.1 ho with ho | ho
   ·exact Zq g o ho
   ·simp at ho;subst ho;simp)
  rw[apN]at this
  exact this
 have hkl:k=l.length:=by have:=Ai7 hc;omega
 subst hkl
 rw[List.take_length]at hg
 refine xt (qe (qe (bs (qn ?_))))
 refine AWP.sub (Sub.weak (fr':=[(1,.sl 1 (from_.map A5)),(5,.map 0)]) (H':=.mpo false (gE 1 g)::gR g) (lD g [] |> fun h=>by rwa [List.append_nil]at h) (by(simp (implicitDefEqProofs:=false) (decide:=true) only[go_sem,Nat.reduceAdd,Nat.reduceMul,Nat.reduceSub,Int.reduceToNat,Dj,Int.natCast_zero,List.replicate_zero,List.length_take,List.length_drop,Ac.own.injEq,reduceCtorEq,Int.reduceAdd]<;>omega)) (.inl rfl)) ?_
 refine AWP.sub (Sub.groups (fun _ _ _ _=>rfl) (by(simp (implicitDefEqProofs:=false) (decide:=true) only[go_sem,Nat.reduceAdd,Nat.reduceMul,Nat.reduceSub,Int.reduceToNat,Dj,Int.natCast_zero,List.replicate_zero,List.length_take,List.length_drop,Ac.own.injEq,reduceCtorEq,Int.reduceAdd]<;>omega)) rfl rfl g) ?_
 subst hg
 refine sq (ar rfl (qn (sq ?_)))
 refine rg rfl fun K j=>?_
 obtain⟨y1,hy1,h⟩:=Af h
 refine An.row Tryz.call67 (E0 from_ hy1) rfl 2 rfl ?_
 (try simp +decide -implicitDefEqProofs only[go_sem,List.length_map])
 refine j _ _ (qn (sq (bk ?_)))
 obtain⟨o4,hJ4,hO4⟩:=Af h
 clear h
 refine AWP.Bw (ι:=Nat×((List (Int×Bool))×(List Int))×(Nat)) (fun zz=>[(5,.map 0),(8,.map 1),(9,.own 2 zz.2.2 0 zz.2.1.2.length)]) (fun zz=>[.mp (mpE Ea (Bz l)),.mp (mpE Y2 zz.2.1.1),.row zz.2.2 1 (zz.2.1.2.map A5)]) (fun zz=>D8 (El l) zz.1 zz.2.1=some o4) (fun zz=>zz.1) (fuel,([],y1),0) hJ4 cu cu (fun x=>⟨rfl,rfl,rfl⟩) ?_
 clear hJ4
 rintro⟨n4,⟨reached2,open_3⟩,ver4⟩ hJ4
 dsimp only at hJ4 ⊢
 obtain⟨m4,b4,rfl,h,hJ4⟩:=J9 hJ4
 unfold El at h;try dsimp only at h
 refine sq (sq ?_)
 refine rg rfl fun K j=>?_
 intro hm
 refine j _ _ (qn ?_)
 revert h;refine ca rfl (fun hc h=>?_) fun hc h=>?_
 rotate_left
 ·refine xt (qe (qe ?_))
  obtain⟨q6,hq,h⟩:=Af h
  obtain rfl:=Aa h
  obtain rfl:=Ae hJ4
  replace h:=hq.trans (Am hO4)
  refine bs (qn (sq ?_))
  refine rg rfl fun K j=>?_
  refine An.Up Tryz.call282 Tryz.keys282 rfl ?_
  refine nS ?_
  obtain⟨hk0,h⟩:=Hp h
  obtain⟨hk,h⟩:=B6 h
  refine An.dR Tryz.call281 Tryz.sortedKeys281 rfl rfl hk0 hk ?_
  refine nS ?_
  refine j _ _ (qn (rt ?_))
  cases h;exact en Tryz.results266
 refine sk (qn (bk (sq ?_)))
 refine rg rfl fun K j=>?_
 intro hm
 obtain⟨x_6,hx_6,h⟩:=Af h
 refine Kw hx_6 (by first | rfl | exact(Cl _).symm | (simp only[List.length_append,List.length_cons,List.length_nil,List.length_set,List.length_replicate]<;>omega)) ?_
 refine nS ?_
 refine Df.of (f:=A5) (l:=open_3) (n:=(IntKind.i64.wrap (((open_3.length:Nat):Int) - 1))) hx_6 ?_
 refine nS ?_
 refine j _ _ (qn (sq ?_))
 refine rg rfl fun K j=>?_
 intro hm
 obtain⟨hk,h⟩:=Hp h
 (repeat(refine⟨by omega,?_⟩))
 refine j _ _ (qn ?_)
 refine AWP.sub (Sub.window 9 rfl rfl) ?_
 refine nS (sq ?_)
 refine rg rfl fun K j=>?_
 refine D7.of (f:=Y2) (m:=reached2) (d:=false) rfl ?_
 refine nS ?_
 refine j _ _ (qn ?_)
 revert h;refine ca rfl (fun hc h=>?_) fun hc h=>?_
 ·refine sq (ar rfl (qn ?_))
  refine rg rfl fun K j=>?_
  refine D7.of (f:=Ea) (m:=(Bz l)) (d:=[]) rfl ?_
  refine nS ?_
  obtain⟨hk,h⟩:=B6 h
  (repeat refine rp ?_);try simp +decide -implicitDefEqProofs only[go_sem]
  refine j _ _ (bn (qn ?_))
  obtain rfl:=Aa h
  refine⟨(m4,((mset reached2 x_6 true),((open_3.take (IntKind.i64.wrap (((open_3.length:Nat):Int) - 1)).toNat)++(mget [] (Bz l) x_6))),((ver4+1)+1)),Ai hJ4,by dsimp only;omega,?_,?_⟩
  ·exact cu
  exact cu
 refine sk (bn (qn ?_))
 obtain rfl:=Aa h
 refine⟨(m4,(reached2,(open_3.take (IntKind.i64.wrap (((open_3.length:Nat):Int) - 1)).toNat)),(ver4+1)),Ai hJ4,by dsimp only;omega,?_,?_⟩
 ·exact cu
 exact cu
theorem Qg (l:List Ax) (from_:List Int) {r:(List Int)} (h:Fb l from_=some r):Dc Tryz.prog 266 [.sl 4 (l.map Bv),.sl 1 (from_.map A5)] 1 (r.map A5):=by
 refine Dc.of ?_
 refine Ci.weak (R:=fun q H=>∃ v0 rest,q= .own 0 v0 0 (r.map A5).length∧H= .row v0 1 (r.map A5)::rest) (Ci.intro Tryz.func266 rfl rfl (by show _≤61;simp) ?_) (fun q H hq=>?_)
 ·unfold Fb at h
  refine nS (sq ?_)
  refine ar rfl (qn (sq ?_))
  refine ar rfl (qn (sq (sq ?_)))
  refine rg rfl fun K j=>?_
  intro hm
  refine j _ _ (qn ?_)
  obtain⟨hl,h⟩:=B6 h
  refine bk ?_
  refine AWP.nQ (ι:=Nat×List (Int×List Int)) (fun zz=>[(0,.sl 4 (l.map Bv)),(1,.sl 1 (from_.map A5)),(5,.map 0),(12,.sl 4 (l.map Bv)),(13,.int .i64 ((l.length:Nat):Int)),(14,.int .i64 ((zz.1:Nat):Int))]) (fun zz=>.mpo false (gE 1 zz.2)::gR zz.2) (fun zz=>zz.1≤l.length∧zz.2=Bz (l.take zz.1)) (fun zz=>l.length - zz.1) (0,[]) ⟨Nat.zero_le _,rfl⟩
   (by(simp (implicitDefEqProofs:=false) (decide:=true) only[go_sem,Nat.reduceAdd,Nat.reduceMul,Nat.reduceSub,Int.reduceToNat,Dj,Int.natCast_zero,List.replicate_zero,List.length_take,List.length_drop,Ac.own.injEq,reduceCtorEq,Int.reduceAdd]<;>omega)) (by exact⟨⟨rfl,rfl⟩,trivial⟩)
   (fun zz=>⟨by simp[Mg,Ac.O5,Ac.Wa,Ac.Xh,Ac.Ys],xJ zz.2 (by rw[List.length_cons,W5];omega),rfl⟩) ?_
  rintro⟨k,g⟩ ⟨hk,hg⟩
  dsimp only at hk hg ⊢
  refine sq (ar rfl (qn (sq ?_)))
  refine AWP.cond (Ak (fun hc=>?_) (fun hc=>?_))
  ·have hlt:k<l.length:=by have:=Ai8 hc;omega
   have hx0:l[k]? =some l[k]:=Ajb hlt
   have hx:=X8 hlt
   generalize l[k]=e at hx hx0
   have hw:IntKind.i64.wrap (((k:Nat):Int)+1)=(((k+1:Nat)):Int):=Q2 (by omega)
   refine sk (qn (sq (bk (sq ?_))))
   refine rg rfl fun K j=>?_
   refine Bn.of (f:=Bv) (l:=l) hx ?_
   (try simp +decide -implicitDefEqProofs only[go_sem])
   (try simp (implicitDefEqProofs:=false) (decide:=true) only[go_sem,Nat.reduceAdd,Nat.reduceMul,Nat.reduceSub,Int.reduceToNat,apN,ga0,ga1,ga2,sa0,sa1,sa2,List.drop_succ_cons,List.drop_zero,List.headD_cons])
   refine j _ _ (qn ?_)
   have hne1:((gR g).length+1+1=(gR g).length+3+1)=False:=by simp
   have hne2:((gR g).length+1+1+1=(gR g).length+3+1)=False:=by simp
   have hne3:((gR g).length+1+1=(gR g).length+1+1+1+1)=False:=by simp
   have hne4:((gR g).length+1+1+1=(gR g).length+1+1+1+1)=False:=by simp
   have hinv:=Pz l k hk
   rw[← hg]at hinv
   have hnext:=Ot hx0
   rw[← hg]at hnext
   refine AWP.draw Tryz.mixed (by kernel_rfl) ?_;intro K j
   (try simp (implicitDefEqProofs:=false) (decide:=true) only[go_sem,Nat.reduceAdd,Nat.reduceMul,Nat.reduceSub,Int.reduceToNat,apN,ga0,ga1,ga2,sa0,sa1,sa2,List.drop_succ_cons,List.drop_zero,List.headD_cons])
   refine D7.mk' (fun v hv=>?_) (fun hn=>?_)
   ·obtain⟨i,xs,hi,hv2,hget,haset,hgset⟩:=iM g 1 e.From v hv
    have hil:i<(gR g).length:=by rw[W5];exact(List.getElem?_eq_some_iff.1 hi).1
    have hrow:∀ (B:List Ar),(gR g++B)[i]? =some (.row (xs.length - 1) 1 (xs.map A5)):=fun B=>by
     rw[List.getElem?_append_left hil];unfold gR;rw[List.getElem?_map,hi];rfl
    have hset:∀ (x:Ar) (B:List Ar),(gR g++B).set i x=(gR g).set i x++B:=fun x B=>List.set_append_left _ _ hil
    have hxs:=hinv _ (Ajc hi)
    subst hv2
    clear hv
    (try simp (implicitDefEqProofs:=false) (decide:=true) only[go_sem,Nat.reduceAdd,Nat.reduceMul,Nat.reduceSub,Int.reduceToNat,apN,ga0,ga1,ga2,sa0,sa1,sa2,List.drop_succ_cons,List.drop_zero,List.headD_cons,hne1,hne2,hne3,hne4])
    (try simp only[hrow])
    (try simp (implicitDefEqProofs:=false) (decide:=true) only[go_sem,Nat.reduceAdd,Nat.reduceMul,Nat.reduceSub,Int.reduceToNat,apN,ga0,ga1,ga2,sa0,sa1,sa2,List.drop_succ_cons,List.drop_zero,List.headD_cons,hne1,hne2,hne3,hne4])
    refine⟨by simp only at hxs;omega,by simp only at hxs;omega,?_⟩
    refine j _ _ _ (X5 (fun n=>if n=0 then 0 else if n=1 then(gR g).length+1 else if n=2 then(gR g).length+1+1 else if n=3 then(gR g).length+1+1+1 else i+1) 5
     [(11,[0],true),(10,[3,4,2],true),(9,[2],true),(8,[1],false),(6,[0],false),(5,[1],false),(2,[1],false)] (by kernel_rfl) (fun a b ha hb=>?_) (by kernel_rfl)) ?_
    ·have ha':a=0∨a=1∨a=2∨a=3∨a=4:=by omega
     have hb':b=0∨b=1∨b=2∨b=3∨b=4:=by omega
     rcases ha' with rfl | rfl | rfl | rfl | rfl<;>rcases hb' with rfl | rfl | rfl | rfl | rfl<;>simp<;>omega
    clear j K
    refine bn (qn (ar rfl (qn ?_)))
    have hlx:(xs++[e.To]).length=xs.length+1:=by simp
    have hl1:xs.length - 1+1=xs.length+1 - 1:=by simp only at hxs;omega
    have e1:=haset (xs++[e.To])
    have e2:=hgset (xs++[e.To])
    rw[hlx]at e1 e2
    refine⟨(k+1,gadd g e.From e.To),⟨by dsimp only;omega,hnext.symm⟩,by dsimp only;omega,_,_,Sub.refl',?_,?_⟩
    ·(simp (implicitDefEqProofs:=false) (decide:=true) only[go_sem,Nat.reduceAdd,Nat.reduceMul,Nat.reduceSub,Int.reduceToNat,Dj,Int.natCast_zero,List.replicate_zero,List.length_take,List.length_drop,Ac.own.injEq,reduceCtorEq,Int.reduceAdd,hw]<;>omega)
    rw[hset,hl1,e1,e2]
    unfold gadd
    rw[hget]
    exact lD _ _
   (try simp (implicitDefEqProofs:=false) (decide:=true) only[go_sem,Nat.reduceAdd,Nat.reduceMul,Nat.reduceSub,Int.reduceToNat,apN,ga0,ga1,ga2,sa0,sa1,sa2,List.drop_succ_cons,List.drop_zero,List.headD_cons,hne1,hne2,hne3,hne4])
   refine j _ _ _ (X5 (fun n=>if n=0 then 0 else if n=1 then(gR g).length+1 else if n=2 then(gR g).length+1+1 else(gR g).length+1+1+1) 4
    [(11,[0],true),(10,[3,2],true),(9,[2],true),(8,[1],false),(6,[0],false),(5,[1],false),(2,[1],false)] (by kernel_rfl) (fun a b ha hb=>?_) (by kernel_rfl)) ?_
   ·have ha':a=0∨a=1∨a=2∨a=3:=by omega
    have hb':b=0∨b=1∨b=2∨b=3:=by omega
    rcases ha' with rfl | rfl | rfl | rfl<;>rcases hb' with rfl | rfl | rfl | rfl<;>simp<;>omega
   clear j K
   refine bn (qn (ar rfl (qn ?_)))
   obtain⟨hget,haset,hmset⟩:=T0 g 1 e.From hn
   have hgd:gadd g e.From e.To=g++[(e.From,[e.To])]:=by unfold gadd;rw[hget,hmset];rfl
   have hm1:(Ar.mpo false (aset (gE 1 g) e.From (Ac.own ((gR g).length+1+1+1) 0 0 1))::(gR g++[Ar.box [Ac.int IntKind.i64 e.ID,Ac.int IntKind.i64 e.From,Ac.int IntKind.i64 e.To,Ac.int IntKind.i64 e.Cost],Ar.row 0 1 [[Ac.int IntKind.i64 e.To]],Ar.row 0 1 [[Ac.int IntKind.i64 e.To]]]))[(gR g).length+1]? =some (Ar.box [Ac.int IntKind.i64 e.ID,Ac.int IntKind.i64 e.From,Ac.int IntKind.i64 e.To,Ac.int IntKind.i64 e.Cost]):=by
    rw[List.getElem?_cons_succ];exact ga0 _ _ _
   have hm3:(Ar.mpo false (aset (gE 1 g) e.From (Ac.own ((gR g).length+1+1+1) 0 0 1))::(gR g++[Ar.box [Ac.int IntKind.i64 e.ID,Ac.int IntKind.i64 e.From,Ac.int IntKind.i64 e.To,Ac.int IntKind.i64 e.Cost],Ar.row 0 1 [[Ac.int IntKind.i64 e.To]],Ar.row 0 1 [[Ac.int IntKind.i64 e.To]]]))[(gR g).length+1+1+1]? =some (Ar.row 0 1 [[Ac.int IntKind.i64 e.To]]):=by
    rw[List.getElem?_cons_succ];exact ga2 _ _ _ _ _
   refine⟨(k+1,gadd g e.From e.To),⟨by dsimp only;omega,hnext.symm⟩,by dsimp only;omega,_,_,Sub.swap ((gR g).length+1) ((gR g).length+1+1+1) hm1 hm3 rfl,?_,?_⟩
   ·(simp (implicitDefEqProofs:=false) (decide:=true) only[go_sem,Nat.reduceAdd,Nat.reduceMul,Nat.reduceSub,Int.reduceToNat,Dj,Int.natCast_zero,List.replicate_zero,List.length_take,List.length_drop,Ac.own.injEq,reduceCtorEq,Int.reduceAdd,hw]<;>omega)
   have hsw:swp ((gR g).length+1) ((gR g).length+1+1+1) ((gR g).length+1+1+1)=(gR g).length+1:=by unfold swp;rw[if_neg (by omega),if_pos rfl]
   have hre:Sf (swp ((gR g).length+1) ((gR g).length+1+1+1)) (gE 1 g)=gE 1 g:=lH g 1 fun i h1 h2=>by
    rw[← W5]at h2
    unfold swp;rw[if_neg (by omega),if_neg (by omega)]
   unfold Vz
   simp only[Ux,bQ,fP,lG,haset,fQ,hre,Sf,ren,hsw,List.set_cons_succ,sa0,sa2,rens]
   rw[hgd,q0,W5]
   have:gR (g++[(e.From,[e.To])])=gR g++[Ar.row 0 1 [[Ac.int IntKind.i64 e.To]]]:=by simp[gR,A5]
   refine⟨?_,?_⟩
   ·exact⟨rfl,rfl⟩
   rw[this]
   have:=Z8 (gR g++[Ar.row 0 1 [[Ac.int IntKind.i64 e.To]]]) [Ar.row 0 1 [[Ac.int IntKind.i64 e.To]],Ar.box [Ac.int IntKind.i64 e.ID,Ac.int IntKind.i64 e.From,Ac.int IntKind.i64 e.To,Ac.int IntKind.i64 e.Cost]] (by
    intro o ho
    rcases List.mem_append.1 ho with ho | ho
    ·exact Zq g o ho
    ·simp at ho;subst ho;simp)
   rw[apN]at this
   exact this
  have hkl:k=l.length:=by have:=Ai7 hc;omega
  subst hkl
  rw[List.take_length]at hg
  refine xt (qe (qe (bs (qn ?_))))
  refine AWP.sub (Sub.weak (fr':=[(1,.sl 1 (from_.map A5)),(5,.map 0)]) (H':=.mpo false (gE 1 g)::gR g) (lD g [] |> fun h=>by rwa [List.append_nil]at h) (by(simp (implicitDefEqProofs:=false) (decide:=true) only[go_sem,Nat.reduceAdd,Nat.reduceMul,Nat.reduceSub,Int.reduceToNat,Dj,Int.natCast_zero,List.replicate_zero,List.length_take,List.length_drop,Ac.own.injEq,reduceCtorEq,Int.reduceAdd]<;>omega)) (.inl rfl)) ?_
  refine AWP.sub (Sub.groups (fun _ _ _ _=>rfl) (by(simp (implicitDefEqProofs:=false) (decide:=true) only[go_sem,Nat.reduceAdd,Nat.reduceMul,Nat.reduceSub,Int.reduceToNat,Dj,Int.natCast_zero,List.replicate_zero,List.length_take,List.length_drop,Ac.own.injEq,reduceCtorEq,Int.reduceAdd]<;>omega)) rfl rfl g) ?_
  subst hg
  refine sq (ar rfl (qn (sq ?_)))
  refine rg rfl fun K j=>?_
  obtain⟨y1,hy1,h⟩:=Af h
  refine An.row Tryz.call67 (E0 from_ hy1) rfl 2 rfl ?_
  (try simp +decide -implicitDefEqProofs only[go_sem,List.length_map])
  refine j _ _ (qn (sq (bk ?_)))
  obtain⟨o4,hJ4,hO4⟩:=Af h
  clear h
  refine AWP.Bw (ι:=Nat×((List (Int×Bool))×(List Int))×(Nat)) (fun zz=>[(5,.map 0),(8,.map 1),(9,.own 2 zz.2.2 0 zz.2.1.2.length)]) (fun zz=>[.mp (mpE Ea (Bz l)),.mp (mpE Y2 zz.2.1.1),.row zz.2.2 1 (zz.2.1.2.map A5)]) (fun zz=>D8 (El l) zz.1 zz.2.1=some o4) (fun zz=>zz.1) (fuel,([],y1),0) hJ4 cu cu (fun x=>⟨rfl,rfl,rfl⟩) ?_
  clear hJ4
  rintro⟨n4,⟨reached2,open_3⟩,ver4⟩ hJ4
  dsimp only at hJ4 ⊢
  obtain⟨m4,b4,rfl,h,hJ4⟩:=J9 hJ4
  unfold El at h;try dsimp only at h
  refine sq (sq ?_)
  refine rg rfl fun K j=>?_
  intro hm
  refine j _ _ (qn ?_)
  revert h;refine ca rfl (fun hc h=>?_) fun hc h=>?_
  rotate_left
  ·refine xt (qe (qe ?_))
   obtain⟨q6,hq,h⟩:=Af h
   obtain rfl:=Aa h
   obtain rfl:=Ae hJ4
   replace h:=hq.trans (Am hO4)
   refine bs (qn (sq ?_))
   refine rg rfl fun K j=>?_
   refine An.Up Tryz.call282 Tryz.keys282 rfl ?_
   refine nS ?_
   obtain⟨hk0,h⟩:=Hp h
   obtain⟨hk,h⟩:=B6 h
   refine An.dR Tryz.call281 Tryz.sortedKeys281 rfl rfl hk0 hk ?_
   refine nS ?_
   refine j _ _ (qn ?_)
   refine AWP.sub (Sub.swap 4 0 rfl rfl rfl) ?_
   refine nS (rt ?_)
   obtain rfl:=Aa h
   refine nSc Tryz.results266 ?_
   refine⟨_,_,?_,rfl⟩
   (try simp +decide -implicitDefEqProofs only[go_sem,List.length_map,List.length_append,List.length_cons,List.length_nil,List.length_set,List.length_replicate]);try rfl
  refine sk (qn (bk (sq ?_)))
  refine rg rfl fun K j=>?_
  intro hm
  obtain⟨x_6,hx_6,h⟩:=Af h
  refine Kw hx_6 (by first | rfl | exact(Cl _).symm | (simp only[List.length_append,List.length_cons,List.length_nil,List.length_set,List.length_replicate]<;>omega)) ?_
  refine nS ?_
  refine Df.of (f:=A5) (l:=open_3) (n:=(IntKind.i64.wrap (((open_3.length:Nat):Int) - 1))) hx_6 ?_
  refine nS ?_
  refine j _ _ (qn (sq ?_))
  refine rg rfl fun K j=>?_
  intro hm
  obtain⟨hk,h⟩:=Hp h
  (repeat(refine⟨by omega,?_⟩))
  refine j _ _ (qn ?_)
  refine AWP.sub (Sub.window 9 rfl rfl) ?_
  refine nS (sq ?_)
  refine rg rfl fun K j=>?_
  refine D7.of (f:=Y2) (m:=reached2) (d:=false) rfl ?_
  refine nS ?_
  refine j _ _ (qn ?_)
  revert h;refine ca rfl (fun hc h=>?_) fun hc h=>?_
  ·refine sq (ar rfl (qn ?_))
   refine rg rfl fun K j=>?_
   refine D7.of (f:=Ea) (m:=(Bz l)) (d:=[]) rfl ?_
   refine nS ?_
   obtain⟨hk,h⟩:=B6 h
   (repeat refine rp ?_);try simp +decide -implicitDefEqProofs only[go_sem]
   refine j _ _ (bn (qn ?_))
   obtain rfl:=Aa h
   refine⟨(m4,((mset reached2 x_6 true),((open_3.take (IntKind.i64.wrap (((open_3.length:Nat):Int) - 1)).toNat)++(mget [] (Bz l) x_6))),((ver4+1)+1)),Ai hJ4,by dsimp only;omega,?_,?_⟩
   ·exact cu
   exact cu
  refine sk (bn (qn ?_))
  obtain rfl:=Aa h
  refine⟨(m4,(reached2,(open_3.take (IntKind.i64.wrap (((open_3.length:Nat):Int) - 1)).toNat)),(ver4+1)),Ai hJ4,by dsimp only;omega,?_,?_⟩
  ·exact cu
  exact cu
 obtain⟨v0,rest,rfl,rfl⟩:=hq
 refine⟨[.row v0 1 (r.map A5)],?_,?_,?_,⟨v0,rfl,rfl⟩⟩
 all_goals exact cu
def He (m:Bb) (lifts:List Int) (runs:List Int):Option ((List Int)):=
 (Ov m lifts).bind fun y1=>(Ig m runs).bind fun y2=>(M5 [y1,y2]).bind fun y3=>(Fb y3 m.Bases).bind fun y4=>some y4
theorem Wf (m:Bb) (lifts:List Int) (runs:List Int) {r:(List Int)} (h:He m lifts runs=some r):Bp Tryz.prog 212 [.agg (Cf m),.sl 1 (lifts.map A5),.sl 1 (runs.map A5)] (·= .sl 1 (r.map A5)):=by
 refine Bp.nle (Bp.intro Tryz.func212 rfl rfl (by show _≤18;simp) ?_)
 unfold He at h
 refine nS (sq ?_)
 refine ar rfl (qn (sq ?_))
 refine AWP.draw Tryz.mixed (by kernel_rfl) ?_;intro K j
 refine nS ?_
 obtain⟨y1,hy1,h⟩:=Af h
 refine B7.pure Tryz.call267 (eO m lifts hy1) rfl ?_
 refine nS ?_
 obtain⟨y2,hy2,h⟩:=Af h
 refine B7.pure Tryz.call215 (Sp m runs hy2) rfl ?_
 refine nS ?_
 obtain⟨y3,hy3,h⟩:=Af h
 refine B7.Z9 Tryz.call214 (Vy [y1,y2] hy3) (by simp +decide -implicitDefEqProofs only[go_sem]) ?_
 refine nS ?_
 obtain⟨y4,hy4,h⟩:=Af h
 refine B7.row Tryz.call266 (Qg y3 m.Bases hy4) rfl ?_
 (try simp +decide -implicitDefEqProofs only[go_sem,List.length_map])
 refine j _ _ _ (by kernel_rfl) ?_
 refine qn (rt ?_)
 cases h;exact en Tryz.results212
theorem Yl (m:Bb) (lifts:List Int) (runs:List Int) {r:(List Int)} (h:He m lifts runs=some r):Ad Tryz.prog 212 [.agg (Cf m),.sl 1 (lifts.map A5),.sl 1 (runs.map A5)] (·= .sl 1 (r.map A5)):=(Wf m lifts runs h).pure
def Rc (m:Bb) (lifts:List Int) (runs:List Int) (run:Int):Option (Bool):=
 (E4 m run).bind fun y1=>(bif y1.2 then(He m lifts runs).bind fun y2=>(Br y2 y1.1.From).bind fun y3=>some y3 else some false)
theorem eN (m:Bb) (lifts:List Int) (runs:List Int) (run:Int) {r:Bool} (h:Rc m lifts runs run=some r):Ad Tryz.prog 109 [.agg (Cf m),.sl 1 (lifts.map A5),.sl 1 (runs.map A5),.int .i64 run] (·= .bool r):=by
 refine Ad.nle (Ad.intro Tryz.func109 rfl rfl (by show _≤27;simp) ?_)
 unfold Rc at h
 refine nS (sq ?_)
 refine ar rfl (qn (sq ?_))
 refine rg rfl fun K j=>?_
 obtain⟨y1,hy1,h⟩:=Af h
 refine An.pure Tryz.call53 (D9 m run hy1) rfl fun _ hr=>?_
 subst hr
 refine nS ?_
 refine j _ _ (qn (sq ?_))
 refine AWP.draw Tryz.mixed (by kernel_rfl) ?_;intro K j
 refine nS ?_
 revert h;refine gt (fun hc h=>?_) fun hc h=>?_
 ·obtain⟨y2,hy2,h⟩:=Af h
  refine B7.pure Tryz.call212 (Yl m lifts runs hy2) rfl ?_
  refine nS ?_
  obtain⟨y3,hy3,h⟩:=Af h
  refine B7.pure Tryz.call54 (Bu y2 y1.1.From hy3) rfl ?_
  refine nS ?_
  refine j _ _ _ (by kernel_rfl) ?_
  refine qn (rt ?_)
  cases h;exact en Tryz.results109
 refine j _ _ _ (by kernel_rfl) ?_
 refine qn (rt ?_)
 cases h;exact en Tryz.results109
def Ez (s_:List Ax):Option (List Ax):=chk s_.length (some s_)
theorem Fv (s_:List Ax) {r:List Ax} (h:Ez s_=some r):Dc Tryz.prog 268 [.sl 4 (s_.map Bv)] 4 (r.map Bv):=by
 have hk:=(B6 h).1
 have hr:r=s_:=Aa (B6 h).2
 rw[hr];clear hr h
 refine Dc.of ?_
 refine Ci.weak (R:=fun q H=>∃ v rest,q= .own 0 v 0 (s_.map Bv).length∧H= .row v 4 (s_.map Bv)::rest) (Ci.intro Tryz.func268 rfl rfl (by show _≤8;simp) ?_) (fun q H hq=>?_)
 ·refine nS (sq ?_)
  refine ar rfl (qn (sq (sq ?_)))
  refine rg rfl fun K j=>?_
  intro bnil hb
  refine nS ?_
  refine j _ _ (qn ?_)
  refine AWP.cond (Ak (fun hc=>?_) (fun hc=>?_))
  ·have hx0:s_=[]:=Classical.byContradiction fun hne=>by have:=hb (by simpa using hne);simp[this]at hc
   subst hx0
   refine sq (ar rfl (qn ?_))
   refine AWP.ghost 2 4 rfl (by decide) ?_
   refine nS (rt (qr ?_))
   refine nSc Tryz.results268 ?_
   refine⟨_,_,?_,rfl⟩
   (try simp +decide -implicitDefEqProofs only[go_sem,List.length_map,List.length_append,List.length_cons,List.length_nil,List.length_set,List.length_replicate]);try rfl
  clear hc
  refine sk (qn (sq ?_))
  refine rg rfl fun K j=>?_
  (repeat refine rp ?_);try simp +decide -implicitDefEqProofs only[go_sem]
  refine j _ _ (qn (rt ?_))
  refine nSc Tryz.results268 ?_
  refine⟨_,_,?_,rfl⟩
  (try simp +decide -implicitDefEqProofs only[go_sem,List.length_map,List.length_append,List.length_cons,List.length_nil,List.length_set,List.length_replicate]);try rfl
 obtain⟨v,rest,rfl,rfl⟩:=hq
 exact⟨[.row v 4 (s_.map Bv)],⟨⟨rfl,rfl,rfl⟩,by cases rest<;>trivial⟩,rfl,rfl,⟨v,rfl,rfl⟩⟩
def G2 (k3:Nat) (x_5:Ax) (sv:(List Ax)):Option (Out ((List Ax)) ((List Int))):=
 (Dk sv ((k3:Nat):Int)).bind fun x_6=>some (Out.next ((sv.set k3 (Ax.mk x_6.ID x_5.To x_6.To x_6.Cost)).set k3 (Ax.mk x_6.ID x_5.To x_5.From x_6.Cost)))
def M3 (l:List Ax) (to_:List Int):Option ((List Int)):=
 (Ez l).bind fun y1=>(Al G2 0 l y1).bind fun o3=>o3.on fun s3=>(Fb s3 to_).bind fun y9=>some y9
theorem uI (l:List Ax) (to_:List Int) {r:(List Int)} (h:M3 l to_=some r):Bp Tryz.prog 213 [.sl 4 (l.map Bv),.sl 1 (to_.map A5)] (·= .sl 1 (r.map A5)):=by
 refine Bp.nle (Bp.intro Tryz.func213 rfl rfl (by show _≤33;simp) ?_)
 unfold M3 at h
 refine nS (sq ?_)
 refine ar rfl (qn (sq ?_))
 refine rg rfl fun K j=>?_
 obtain⟨y1,hy1,h⟩:=Af h
 refine An.row Tryz.call268 (Fv l hy1) rfl 0 rfl ?_
 (try simp +decide -implicitDefEqProofs only[go_sem,List.length_map])
 refine j _ _ (qn (sq (sq ?_)))
 refine rg rfl fun K j=>?_
 intro hm
 refine j _ _ (qn (bk ?_))
 obtain⟨o3,hJ3,hO3⟩:=Af h
 clear h
 refine AWP.Bw (ι:=Nat×((List Ax))×(Nat)) (fun zz=>[(1,.sl 1 (to_.map A5)),(5,.own 0 zz.2.2 0 zz.2.1.length),(10,.sl 4 (l.map Bv)),(11,.int .i64 ((l.length:Nat):Int)),(12,.int .i64 ((zz.1:Nat):Int))]) (fun zz=>[.row zz.2.2 4 (zz.2.1.map Bv)]) (fun zz=>zz.1≤l.length∧Al G2 zz.1 ((l).drop zz.1) zz.2.1=some o3) (fun zz=>l.length - zz.1) (0,y1,0) ⟨Nat.zero_le _,hJ3⟩ cu cu (fun x=>⟨rfl,rfl,rfl⟩) ?_
 clear hJ3
 rintro⟨k3,turned2,ver3⟩ ⟨hk3,hJ3⟩
 dsimp only at hk3 hJ3 ⊢
 refine sq (ar rfl (qn (sq ?_)))
 refine AWP.cond (Ak (fun hc=>?_) (fun hc=>?_))
 rotate_left
 ·obtain rfl:=Bf hJ3 (fun hl=>by have:=Ai7 hc;omega)
  have h:=Be hO3;try dsimp only at h
  have hkl:l.length=k3:=by have:=Ai7 hc;omega
  subst hkl
  refine xt (qe (qe (bs (qn (sq ?_)))))
  refine rg rfl fun K j=>?_
  obtain⟨y9,hy9,h⟩:=Af h
  refine An.vU Tryz.call266 (Qg turned2 to_ hy9) (by simp +decide -implicitDefEqProofs only[go_sem]) (by simp +decide -implicitDefEqProofs only[go_sem]) 1 rfl ?_
  (try simp +decide -implicitDefEqProofs only[go_sem,List.length_map])
  refine j _ _ (qn (rt ?_))
  cases h;exact en Tryz.results213
 have hlt3:k3<l.length:=by have:=Ai8 hc;omega
 obtain⟨x_5,b3,hx3_,h,hJ3⟩:=Ba hJ3 hlt3
 have hx3:=A2 hx3_
 have hw3:=wk (k:=k3) (by omega)
 unfold G2 at h;try dsimp only at h
 refine sk (qn (sq (bk (sq ?_))))
 refine rg rfl fun K j=>?_
 refine Bn.of (f:=Bv) (l:=l) hx3 ?_
 refine nS ?_
 refine j _ _ (qn ?_)
 refine AWP.draw Tryz.mixed (by kernel_rfl) ?_;intro K j
 refine nS ?_
 obtain⟨x_6,hx_6,h⟩:=Af h
 refine Kw hx_6 (by first | rfl | exact(Cl _).symm | (simp only[List.length_append,List.length_cons,List.length_nil,List.length_set,List.length_replicate]<;>omega)) ?_
 refine nS ?_
 refine Df.ofNat (f:=Bv) (l:=turned2) (n:=k3) hx_6 ?_
 have hs7:=R4 (y:=(Ax.mk x_6.ID x_5.To x_6.To x_6.Cost)) hx_6
 refine nS ?_
 refine Kw hs7 (by first | rfl | exact(Cl _).symm | (simp only[List.length_append,List.length_cons,List.length_nil,List.length_set,List.length_replicate]<;>omega)) ?_
 refine nS ?_
 refine Df.ofNat (f:=Bv) (l:=(turned2.set k3 (Ax.mk x_6.ID x_5.To x_6.To x_6.Cost))) (n:=k3) hs7 ?_
 have hs8:=R4 (y:=(Ax.mk x_6.ID x_5.To x_5.From x_6.Cost)) hs7
 refine nS ?_
 refine j _ _ _ (by kernel_rfl) ?_
 refine bn (qn (ar rfl (qn ?_)))
 obtain rfl:=Aa h
 refine⟨(k3+1,((turned2.set k3 (Ax.mk x_6.ID x_5.To x_6.To x_6.Cost)).set k3 (Ax.mk x_6.ID x_5.To x_5.From x_6.Cost)),ver3),⟨by dsimp only;omega,Ai hJ3⟩,by dsimp only;omega,?_,?_⟩
 ·exact cuw hw3
 exact cuw hw3
theorem gY (l:List Ax) (to_:List Int) {r:(List Int)} (h:M3 l to_=some r):Dc Tryz.prog 213 [.sl 4 (l.map Bv),.sl 1 (to_.map A5)] 1 (r.map A5):=by
 refine Dc.of ?_
 refine Ci.weak (R:=fun q H=>∃ v0 rest,q= .own 0 v0 0 (r.map A5).length∧H= .row v0 1 (r.map A5)::rest) (Ci.intro Tryz.func213 rfl rfl (by show _≤33;simp) ?_) (fun q H hq=>?_)
 ·unfold M3 at h
  refine nS (sq ?_)
  refine ar rfl (qn (sq ?_))
  refine rg rfl fun K j=>?_
  obtain⟨y1,hy1,h⟩:=Af h
  refine An.row Tryz.call268 (Fv l hy1) rfl 0 rfl ?_
  (try simp +decide -implicitDefEqProofs only[go_sem,List.length_map])
  refine j _ _ (qn (sq (sq ?_)))
  refine rg rfl fun K j=>?_
  intro hm
  refine j _ _ (qn (bk ?_))
  obtain⟨o3,hJ3,hO3⟩:=Af h
  clear h
  refine AWP.Bw (ι:=Nat×((List Ax))×(Nat)) (fun zz=>[(1,.sl 1 (to_.map A5)),(5,.own 0 zz.2.2 0 zz.2.1.length),(10,.sl 4 (l.map Bv)),(11,.int .i64 ((l.length:Nat):Int)),(12,.int .i64 ((zz.1:Nat):Int))]) (fun zz=>[.row zz.2.2 4 (zz.2.1.map Bv)]) (fun zz=>zz.1≤l.length∧Al G2 zz.1 ((l).drop zz.1) zz.2.1=some o3) (fun zz=>l.length - zz.1) (0,y1,0) ⟨Nat.zero_le _,hJ3⟩ cu cu (fun x=>⟨rfl,rfl,rfl⟩) ?_
  clear hJ3
  rintro⟨k3,turned2,ver3⟩ ⟨hk3,hJ3⟩
  dsimp only at hk3 hJ3 ⊢
  refine sq (ar rfl (qn (sq ?_)))
  refine AWP.cond (Ak (fun hc=>?_) (fun hc=>?_))
  ·have hlt3:k3<l.length:=by have:=Ai8 hc;omega
   obtain⟨x_5,b3,hx3_,h,hJ3⟩:=Ba hJ3 hlt3
   have hx3:=A2 hx3_
   have hw3:=wk (k:=k3) (by omega)
   unfold G2 at h;try dsimp only at h
   refine sk (qn (sq (bk (sq ?_))))
   refine rg rfl fun K j=>?_
   refine Bn.of (f:=Bv) (l:=l) hx3 ?_
   refine nS ?_
   refine j _ _ (qn ?_)
   refine AWP.draw Tryz.mixed (by kernel_rfl) ?_;intro K j
   refine nS ?_
   obtain⟨x_6,hx_6,h⟩:=Af h
   refine Kw hx_6 (by first | rfl | exact(Cl _).symm | (simp only[List.length_append,List.length_cons,List.length_nil,List.length_set,List.length_replicate]<;>omega)) ?_
   refine nS ?_
   refine Df.ofNat (f:=Bv) (l:=turned2) (n:=k3) hx_6 ?_
   have hs7:=R4 (y:=(Ax.mk x_6.ID x_5.To x_6.To x_6.Cost)) hx_6
   refine nS ?_
   refine Kw hs7 (by first | rfl | exact(Cl _).symm | (simp only[List.length_append,List.length_cons,List.length_nil,List.length_set,List.length_replicate]<;>omega)) ?_
   refine nS ?_
   refine Df.ofNat (f:=Bv) (l:=(turned2.set k3 (Ax.mk x_6.ID x_5.To x_6.To x_6.Cost))) (n:=k3) hs7 ?_
   have hs8:=R4 (y:=(Ax.mk x_6.ID x_5.To x_5.From x_6.Cost)) hs7
   refine nS ?_
   refine j _ _ _ (by kernel_rfl) ?_
   refine bn (qn (ar rfl (qn ?_)))
   obtain rfl:=Aa h
   refine⟨(k3+1,((turned2.set k3 (Ax.mk x_6.ID x_5.To x_6.To x_6.Cost)).set k3 (Ax.mk x_6.ID x_5.To x_5.From x_6.Cost)),ver3),⟨by dsimp only;omega,Ai hJ3⟩,by dsimp only;omega,?_,?_⟩
   ·exact cuw hw3
   exact cuw hw3
  obtain rfl:=Bf hJ3 (fun hl=>by have:=Ai7 hc;omega)
  have h:=Be hO3;try dsimp only at h
  have hkl:l.length=k3:=by have:=Ai7 hc;omega
  subst hkl
  refine xt (qe (qe (bs (qn (sq ?_)))))
  refine rg rfl fun K j=>?_
  obtain⟨y9,hy9,h⟩:=Af h
  refine An.vU Tryz.call266 (Qg turned2 to_ hy9) (by simp +decide -implicitDefEqProofs only[go_sem]) (by simp +decide -implicitDefEqProofs only[go_sem]) 1 rfl ?_
  (try simp +decide -implicitDefEqProofs only[go_sem,List.length_map])
  refine j _ _ (qn ?_)
  refine AWP.sub (Sub.swap 1 0 rfl rfl rfl) ?_
  refine nS (rt ?_)
  obtain rfl:=Aa h
  refine nSc Tryz.results213 ?_
  refine⟨_,_,?_,rfl⟩
  (try simp +decide -implicitDefEqProofs only[go_sem,List.length_map,List.length_append,List.length_cons,List.length_nil,List.length_set,List.length_replicate]);try rfl
 obtain⟨v0,rest,rfl,rfl⟩:=hq
 refine⟨[.row v0 1 (r.map A5)],?_,?_,?_,⟨v0,rfl,rfl⟩⟩
 all_goals exact cu
def Q4 (m:Bb) (runs:List Int):Option ((List Int)):=
 (Ig m runs).bind fun y1=>(M5 [y1]).bind fun y2=>(M3 y2 m.Bases).bind fun y3=>some y3
theorem eM (m:Bb) (runs:List Int) {r:(List Int)} (h:Q4 m runs=some r):Bp Tryz.prog 111 [.agg (Cf m),.sl 1 (runs.map A5)] (·= .sl 1 (r.map A5)):=by
 refine Bp.nle (Bp.intro Tryz.func111 rfl rfl (by show _≤13;simp) ?_)
 unfold Q4 at h
 refine nS (sq ?_)
 refine ar rfl (qn (sq ?_))
 refine AWP.draw Tryz.mixed (by kernel_rfl) ?_;intro K j
 refine nS ?_
 obtain⟨y1,hy1,h⟩:=Af h
 refine B7.pure Tryz.call215 (Sp m runs hy1) rfl ?_
 refine nS ?_
 obtain⟨y2,hy2,h⟩:=Af h
 refine B7.Z9 Tryz.call214 (Vy [y1] hy2) (by simp +decide -implicitDefEqProofs only[go_sem]) ?_
 refine nS ?_
 obtain⟨y3,hy3,h⟩:=Af h
 refine B7.row Tryz.call213 (gY y2 m.Bases hy3) rfl ?_
 (try simp +decide -implicitDefEqProofs only[go_sem,List.length_map])
 refine j _ _ _ (by kernel_rfl) ?_
 refine qn (rt ?_)
 cases h;exact en Tryz.results111
theorem fJ (m:Bb) (runs:List Int) {r:(List Int)} (h:Q4 m runs=some r):Ad Tryz.prog 111 [.agg (Cf m),.sl 1 (runs.map A5)] (·= .sl 1 (r.map A5)):=(eM m runs h).pure
def Ed (f_:Aj) (open_:List Int) (run:Int):Option (Bool):=
 (E4 f_.Map run).bind fun y1=>(F1 f_).bind fun y2=>(Rc f_.Map y2 open_ run).bind fun y3=>(bif y3 then(Q4 f_.Map open_).bind fun y4=>(Br y4 y1.1.To).bind fun y5=>some y5 else some false)
theorem Gf (f_:Aj) (open_:List Int) (run:Int) {r:Bool} (h:Ed f_ open_ run=some r):Ad Tryz.prog 49 [.agg (B3 f_),.sl 1 (open_.map A5),.int .i64 run] (·= .bool r):=by
 refine Ad.nle (Ad.intro Tryz.func49 rfl rfl (by show _≤32;simp) ?_)
 unfold Ed at h
 refine nS (sq ?_)
 refine ar rfl (qn (sq ?_))
 refine rg rfl fun K j=>?_
 obtain⟨y1,hy1,h⟩:=Af h
 refine An.pure Tryz.call53 (D9 f_.Map run hy1) rfl fun _ hr=>?_
 subst hr
 refine nS ?_
 refine j _ _ (qn (sq ?_))
 refine AWP.draw Tryz.mixed (by kernel_rfl) ?_;intro K j
 refine nS ?_
 obtain⟨y2,hy2,h⟩:=Af h
 refine B7.pure Tryz.call110 (V6 f_ hy2) rfl ?_
 refine nS ?_
 obtain⟨y3,hy3,h⟩:=Af h
 refine B7.pure Tryz.call109 (eN f_.Map y2 open_ run hy3) rfl ?_
 refine nS ?_
 revert h;refine gt (fun hc h=>?_) fun hc h=>?_
 ·obtain⟨y4,hy4,h⟩:=Af h
  refine B7.pure Tryz.call111 (fJ f_.Map open_ hy4) rfl ?_
  refine nS ?_
  obtain⟨y5,hy5,h⟩:=Af h
  refine B7.pure Tryz.call54 (Bu y4 y1.1.To hy5) rfl ?_
  refine nS ?_
  refine j _ _ _ (by kernel_rfl) ?_
  refine qn (rt ?_)
  cases h;exact en Tryz.results49
 refine j _ _ _ (by kernel_rfl) ?_
 refine qn (rt ?_)
 cases h;exact en Tryz.results49
def Cw (f_:Aj) (open_:List Int) (run:Int):Option (Int):=
 (Cz f_ run).bind fun y1=>(bif (decide (y1≠0))then some y1 else(Ed f_ open_ run).bind fun y2=>(bif (!y2)then some 16 else some 0))
theorem C0 (f_:Aj) (open_:List Int) (run:Int) {r:Int} (h:Cw f_ open_ run=some r):Ad Tryz.prog 18 [.agg (B3 f_),.sl 1 (open_.map A5),.int .i64 run] (·= .int .i64 r):=by
 refine Ad.nle (Ad.intro Tryz.func18 rfl rfl (by show _≤19;simp) ?_)
 unfold Cw at h
 refine nS (sq ?_)
 refine ar rfl (qn (sq (sq ?_)))
 refine rg rfl fun K j=>?_
 obtain⟨y1,hy1,h⟩:=Af h
 refine An.pure Tryz.call48 (Ju f_ run hy1) rfl fun _ hr=>?_
 subst hr
 refine nS ?_
 refine j _ _ (qn (sq ?_))
 refine ar rfl (qn ?_)
 revert h;refine ca rfl (fun hc h=>?_) fun hc h=>?_
 ·refine sq (ar rfl (qn (rt (qr ?_))))
  cases h;exact en Tryz.results18
 refine sk (qn (sq (sq ?_)))
 refine rg rfl fun K j=>?_
 obtain⟨y2,hy2,h⟩:=Af h
 refine An.pure Tryz.call49 (Gf f_ open_ run hy2) rfl fun _ hr=>?_
 subst hr
 refine nS ?_
 refine j _ _ (qn ?_)
 revert h;refine ca rfl (fun hc h=>?_) fun hc h=>?_
 ·refine sq (ar rfl (qn (rt (qr ?_))))
  cases h;exact en Tryz.results18
 refine sk (qn (sq (ar rfl (qn (rt ?_)))))
 cases h;exact en Tryz.results18
def Jy (f_:Aj) (run:Int) (y2:(List Int)):Option (Aj×Int):=
 chk (y2.length+1) ((Cw f_ (y2++[run]) run).bind fun y7=>(bif (decide (y7≠0))then some ((Aj.mk (Bb.mk [] [] [] []) [] [] (Ca.mk [] []) [] [] [] [] [] [] [] [] 0 0),y7)else none))
def Oc (f_:Aj) (run:Int) (y2:(List Int)) (k3:Nat) (x_5:Bj) (sv:Unit):Option (Out (Unit) (Aj×Int)):=
 (bif (decide (x_5.Run=run))then ((bif (decide (((k3:Nat):Int)<0))then (bif (decide (64≤((f_.Status.length:Nat):Int)))then some ((Aj.mk (Bb.mk [] [] [] []) [] [] (Ca.mk [] []) [] [] [] [] [] [] [] [] 0 0),9)else Jy f_ run y2)else Jy f_ run y2)).bind fun q7=>some (Out.ret q7)else some (Out.next ()))
def F8 (f_:Aj) (run:Int):Option (Aj×Int):=
 (E4 f_.Map run).bind fun y1=>(bif (!y1.2)then some ((Aj.mk (Bb.mk [] [] [] []) [] [] (Ca.mk [] []) [] [] [] [] [] [] [] [] 0 0),8)else (C4 f_).bind fun y2=>(Br y2 run).bind fun y3=>(bif y3 then some ((Aj.mk (Bb.mk [] [] [] []) [] [] (Ca.mk [] []) [] [] [] [] [] [] [] [] 0 0),7)else (Al (Oc f_ run y2) 0 f_.Status ()).bind fun o3=>o3.on fun s3=>(bif (decide (64≤((f_.Status.length:Nat):Int)))then some ((Aj.mk (Bb.mk [] [] [] []) [] [] (Ca.mk [] []) [] [] [] [] [] [] [] [] 0 0),9)else chk (y2.length+1) ((Cw f_ (y2++[run]) run).bind fun y9=>(bif (decide (y9≠0))then some ((Aj.mk (Bb.mk [] [] [] []) [] [] (Ca.mk [] []) [] [] [] [] [] [] [] [] 0 0),y9)else none)))))
theorem Lw (f_:Aj) (run:Int) {r:Aj×Int} (h:F8 f_ run=some r):Ad Tryz.prog 24 [.agg (B3 f_),.int .i64 run] (·= .tuple [.agg (B3 r.1),.int .i64 r.2]):=by
 refine Ad.nle (Ad.intro Tryz.func24 rfl rfl (by show _≤93;simp) ?_)
 unfold F8 at h
 refine nS (sq ?_)
 refine ar rfl (qn (sq (sq ?_)))
 refine rg rfl fun K j=>?_
 obtain⟨y1,hy1,h⟩:=Af h
 refine An.pure Tryz.call53 (D9 f_.Map run hy1) rfl fun _ hr=>?_
 subst hr
 refine nS ?_
 refine j _ _ (qn (sq ?_))
 refine ar rfl (qn ?_)
 revert h;refine ca rfl (fun hc h=>?_) fun hc h=>?_
 ·refine sq (ar rfl (qn (rt (qr ?_))))
  cases h;exact en Tryz.results24
 refine sk (qn (sq ?_))
 refine rg rfl fun K j=>?_
 obtain⟨y2,hy2,h⟩:=Af h
 refine An.row Tryz.call20 (aI f_ hy2) rfl 4 rfl ?_
 (try simp +decide -implicitDefEqProofs only[go_sem,List.length_map])
 refine j _ _ (qn (sq (sq ?_)))
 refine rg rfl fun K j=>?_
 obtain⟨y3,hy3,h⟩:=Af h
 refine An.snap Tryz.call54 (Bu y2 run hy3) (by simp +decide -implicitDefEqProofs only[go_sem]) (by rintro _ rfl;rfl) fun _ hr=>?_
 subst hr
 refine nS ?_
 refine j _ _ (qn ?_)
 revert h;refine ca rfl (fun hc h=>?_) fun hc h=>?_
 ·refine sq (ar rfl (qn (rt (qr ?_))))
  cases h;exact en Tryz.results24
 refine sk (qn (sq ?_))
 refine rg rfl fun K j=>?_
 refine An.inline Tryz.call55 Tryz.func55 rfl rfl (by show _≤19;simp) ?_
 refine nS (sq ?_)
 refine ar rfl (qn (sq (sq ?_)))
 refine rg rfl fun K j=>?_
 intro hm
 refine j _ _ (qn (bk ?_));clear j K
 obtain⟨o3,hJ3,hO3⟩:=Af h
 clear h
 refine AWP.Bw (ι:=Nat×(Unit)×(Unit)) (fun zz=>[(0,.sl 3 (f_.Status.map A4)),(1,.func 56 [.ptr 1 0]),(7,.int .i64 ((f_.Status.length:Nat):Int)),(8,.int .i64 ((zz.1:Nat):Int))]) (fun zz=>[.box [.sl 2 (f_.Map.Nodes.map A6),.sl 8 (f_.Map.Lifts.map A7),.sl 7 (f_.Map.Runs.map Bc),.sl 1 (f_.Map.Bases.map A5),.sl 2 (f_.Lifts.map Av),.sl 4 (f_.Closures.map Aq),.sl 4 (f_.Patrol.Bt.map Au),.sl 3 (f_.Patrol.Hazards.map Az),.sl 3 (f_.Surfaces.map A3),.sl 5 (f_.Packs.map A1),.sl 6 (f_.Slides.map A9),.sl 7 (f_.Bulletin.map Aw),.sl 7 (f_.Missions.map Ap),.sl 4 (f_.Winches.map Ao),.sl 8 (f_.Groomers.map Ay),.sl 3 (f_.Status.map A4),.int .i64 f_.Depth,.int .i64 f_.Time],.box [.int .i64 run],.box [.nils,.nils,.nils,.nils,.nils,.nils,.nils,.nils,.nils,.nils,.nils,.nils,.nils,.nils,.nils,.nils,.int .i64 0,.int .i64 0],.box [.int .i64 y1.1.ID,.int .i64 y1.1.Operator,.int .i64 y1.1.From,.int .i64 y1.1.To,.int .i64 y1.1.Grade,.int .i64 y1.1.Zone,.int .i64 y1.1.Length],.row 0 1 (y2.map A5)]) (fun zz=>zz.1≤f_.Status.length∧Al (Oc f_ run y2) zz.1 ((f_.Status).drop zz.1) zz.2.1=some o3) (fun zz=>f_.Status.length - zz.1) (0,(),()) ⟨Nat.zero_le _,hJ3⟩ cu cu (fun x=>⟨rfl,rfl,rfl⟩) ?_
 clear hJ3
 rintro⟨k3,⟨⟩,⟨⟩⟩ ⟨hk3,hJ3⟩
 dsimp only at hk3 hJ3 ⊢
 refine sq (ar rfl (qn (sq ?_)))
 refine AWP.cond (Ak (fun hc=>?_) (fun hc=>?_))
 rotate_left
 ·obtain rfl:=Bf hJ3 (fun hl=>by have:=Ai7 hc;omega)
  have h:=Be hO3;try dsimp only at h
  have hkl:f_.Status.length=k3:=by have:=Ai7 hc;omega
  subst hkl
  refine xt (qe (qe (bs (qn (sq (ar rfl (qn (rt ?_))))))))
  refine nSc Tryz.results55 ?_
  refine j _ _ (qn (sq (sq ?_)))
  refine rg rfl fun K j=>?_
  intro hm
  refine j _ _ (qn ?_)
  revert h;refine ca rfl (fun hc h=>?_) fun hc h=>?_
  ·refine sq (ar rfl (qn (rt (qr ?_))))
   cases h;exact en Tryz.results24
  refine sk (qn (sq (sq ?_)))
  refine AWP.draw Tryz.mixed (by kernel_rfl) ?_;intro K j
  refine nS ?_
  obtain⟨hk,h⟩:=B6 h
  (repeat refine rp ?_);try simp +decide -implicitDefEqProofs only[go_sem]
  obtain⟨y9,hy9,h⟩:=Af h
  refine B7.snap Tryz.call18 (C0 f_ (y2++[run]) run hy9) (by simp +decide -implicitDefEqProofs only[go_sem]) rfl ?_
  refine nS ?_
  refine j _ _ _ (by kernel_rfl) ?_
  refine qn (sq (ar rfl (qn ?_)))
  revert h;refine ca rfl (fun hc h=>?_) fun hc h=>?_
  ·refine sq (ar rfl (qn (rt (qr ?_))))
   cases h;exact en Tryz.results24
  refine sk (qn (sq ?_))
  refine rg rfl fun K j=>?_
  cases h
 have hlt3:k3<f_.Status.length:=by have:=Ai8 hc;omega
 obtain⟨x_5,b3,hx3_,h,hJ3⟩:=Ba hJ3 hlt3
 have hx3:=A2 hx3_
 have hw3:=wk (k:=k3) (by omega)
 unfold Oc at h;try dsimp only at h
 refine sk (qn (sq (bk (sq (ar rfl (qn (sq ?_)))))))
 refine rg rfl fun K j=>?_
 refine Bn.of (f:=A4) (l:=f_.Status) hx3 ?_
 refine nS ?_
 refine An.inline Tryz.call56 Tryz.func56 rfl rfl (by show _≤8;simp) ?_
 refine nS (sq ?_)
 refine ar rfl (qn (sq ?_))
 refine ar rfl (qn (rt ?_))
 refine nSc Tryz.results56 ?_
 refine j _ _ (qn ?_);clear j K
 revert h;refine ca rfl (fun hc h=>?_) fun hc h=>?_
 ·refine sq (ar rfl (qn (rt (br (qr (qr ?_))))))
  obtain⟨q7,hq,h⟩:=Af h
  obtain rfl:=Aa h
  obtain rfl:=Ae hJ3
  replace h:=hq.trans (Am hO3)
  refine br (qr (nSc Tryz.results55 ?_))
  refine j _ _ (qn ?_)
  refine AWP.Lf (ι:=(Unit)×(Unit)) (fun zz=>[(2,.ptr 0 0),(3,.ptr 1 0),(4,.ptr 2 0),(8,.own 4 0 0 y2.length),(9,.int .i64 ((k3:Nat):Int))]) (fun zz=>[.box [.sl 2 (f_.Map.Nodes.map A6),.sl 8 (f_.Map.Lifts.map A7),.sl 7 (f_.Map.Runs.map Bc),.sl 1 (f_.Map.Bases.map A5),.sl 2 (f_.Lifts.map Av),.sl 4 (f_.Closures.map Aq),.sl 4 (f_.Patrol.Bt.map Au),.sl 3 (f_.Patrol.Hazards.map Az),.sl 3 (f_.Surfaces.map A3),.sl 5 (f_.Packs.map A1),.sl 6 (f_.Slides.map A9),.sl 7 (f_.Bulletin.map Aw),.sl 7 (f_.Missions.map Ap),.sl 4 (f_.Winches.map Ao),.sl 8 (f_.Groomers.map Ay),.sl 3 (f_.Status.map A4),.int .i64 f_.Depth,.int .i64 f_.Time],.box [.int .i64 run],.box [.nils,.nils,.nils,.nils,.nils,.nils,.nils,.nils,.nils,.nils,.nils,.nils,.nils,.nils,.nils,.nils,.int .i64 0,.int .i64 0],.gone,.row 0 1 (y2.map A5)]) (fun zz=>Jy f_ run y2=some r) (fun zz=>⟨rfl,rfl,rfl⟩) ?_ ?_
  ·refine sq ?_
   refine rg rfl fun K j=>?_
   revert h;refine gt (fun hc h=>?_) fun hc h=>?_
   ·intro hm
    refine j _ _ (qn ?_)
    revert h;refine ca rfl (fun hc h=>?_) fun hc h=>?_
    ·refine sq (ar rfl (qn (rt (qr ?_))))
     cases h;exact en Tryz.results24
    refine sk (qn ?_)
    exact⟨((),()),h,cu,cu⟩
   refine j _ _ (qn ?_)
   refine AWP.cond (Bi ?_)
   refine sk (qn ?_)
   exact⟨((),()),h,cu,cu⟩
  rintro⟨⟨⟩,⟨⟩⟩ h
  try dsimp only at h ⊢
  unfold Jy at h;try dsimp only at h
  refine sq (sq ?_)
  refine AWP.draw Tryz.mixed (by kernel_rfl) ?_;intro K j
  refine nS ?_
  obtain⟨hk,h⟩:=B6 h
  (repeat refine rp ?_);try simp +decide -implicitDefEqProofs only[go_sem]
  obtain⟨y7,hy7,h⟩:=Af h
  refine B7.snap Tryz.call18 (C0 f_ (y2++[run]) run hy7) (by simp +decide -implicitDefEqProofs only[go_sem]) rfl ?_
  refine nS ?_
  refine j _ _ _ (by kernel_rfl) ?_
  refine qn (sq (ar rfl (qn ?_)))
  revert h;refine ca rfl (fun hc h=>?_) fun hc h=>?_
  ·refine sq (ar rfl (qn (rt (qr ?_))))
   cases h;exact en Tryz.results24
  refine sk (qn (sq ?_))
  refine rg rfl fun K j=>?_
  cases h
 refine sk (bn (qn (ar rfl (qn ?_))))
 obtain rfl:=Aa h
 refine⟨(k3+1,(),()),⟨by dsimp only;omega,Ai hJ3⟩,by dsimp only;omega,?_,?_⟩
 ·exact cuw hw3
 exact cuw hw3
def Cs (n_:Int) (least:Int) (most:Int):Option (Bool):=
 (bif (decide (least≤n_))then some (decide (n_≤most))else some false)
theorem Cb (n_:Int) (least:Int) (most:Int) {r:Bool} (h:Cs n_ least most=some r):Ad Tryz.prog 238 [.int .i64 n_,.int .i64 least,.int .i64 most] (·= .bool r):=by
 refine Ad.nle (Ad.intro Tryz.func238 rfl rfl (by show _≤15;simp) ?_)
 unfold Cs at h
 refine nS (sq ?_)
 refine ar rfl (qn (sq ?_))
 refine rg rfl fun K j=>?_
 revert h;refine gt (fun hc h=>?_) fun hc h=>?_
 ·refine j _ _ (qn (rt ?_))
  cases h;exact en Tryz.results238
 refine j _ _ (qn (rt ?_))
 cases h;exact en Tryz.results238
def Jn (m:Bb) (k0:Nat) (x_2:Ck) (sv:Unit):Option (Out (Unit) (Int)):=
 (Cs x_2.ID 1 9999).bind fun y3=>(bif (!y3)then some (Out.ret 2)else (Cs x_2.Alt 0 5000).bind fun y4=>(bif (!y4)then some (Out.ret 2)else (bif (decide (0<((k0:Nat):Int)))then (Dk m.Nodes (IntKind.i64.wrap (((k0:Nat):Int) - 1))).bind fun x_5=>(bif (decide (x_2.ID≤x_5.ID))then some (Out.ret 7)else some (Out.next ()))else some (Out.next ()))))
def Mu (m:Bb):Option (Int):=
 (Al (Jn m) 0 m.Nodes ()).bind fun o0=>o0.on fun s0=>some 0
theorem T9 (m:Bb) {r:Int} (h:Mu m=some r):Ad Tryz.prog 153 [.agg (Cf m)] (·= .int .i64 r):=by
 refine Ad.nle (Ad.intro Tryz.func153 rfl rfl (by show _≤38;simp) ?_)
 unfold Mu at h
 refine nS (sq ?_)
 refine ar rfl (qn (sq (sq ?_)))
 refine rg rfl fun K j=>?_
 intro hm
 refine j _ _ (qn (bk ?_))
 obtain⟨o0,hJ0,hO0⟩:=Af h
 clear h
 refine AWP.Bw (ι:=Nat×(Unit)×(Unit)) (fun zz=>[(1,.ptr 0 0),(6,.sl 2 (m.Nodes.map A6)),(7,.int .i64 ((m.Nodes.length:Nat):Int)),(8,.int .i64 ((zz.1:Nat):Int))]) (fun zz=>[.box [.sl 2 (m.Nodes.map A6),.sl 8 (m.Lifts.map A7),.sl 7 (m.Runs.map Bc),.sl 1 (m.Bases.map A5)]]) (fun zz=>zz.1≤m.Nodes.length∧Al (Jn m) zz.1 ((m.Nodes).drop zz.1) zz.2.1=some o0) (fun zz=>m.Nodes.length - zz.1) (0,(),()) ⟨Nat.zero_le _,hJ0⟩ cu cu (fun x=>⟨rfl,rfl,rfl⟩) ?_
 clear hJ0
 rintro⟨k0,⟨⟩,⟨⟩⟩ ⟨hk0,hJ0⟩
 dsimp only at hk0 hJ0 ⊢
 refine sq (ar rfl (qn (sq ?_)))
 refine AWP.cond (Ak (fun hc=>?_) (fun hc=>?_))
 rotate_left
 ·obtain rfl:=Bf hJ0 (fun hl=>by have:=Ai7 hc;omega)
  have h:=Be hO0;try dsimp only at h
  have hkl:m.Nodes.length=k0:=by have:=Ai7 hc;omega
  subst hkl
  refine xt (qe (qe (bs (qn (sq (ar rfl (qn (rt ?_))))))))
  cases h;exact en Tryz.results153
 have hlt0:k0<m.Nodes.length:=by have:=Ai8 hc;omega
 obtain⟨x_2,b0,hx0_,h,hJ0⟩:=Ba hJ0 hlt0
 have hx0:=A2 hx0_
 have hw0:=wk (k:=k0) (by omega)
 unfold Jn at h;try dsimp only at h
 refine sk (qn (sq (bk (sq ?_))))
 refine rg rfl fun K j=>?_
 refine Bn.of (f:=A6) (l:=m.Nodes) hx0 ?_
 refine nS ?_
 refine j _ _ (qn (sq (sq ?_)))
 refine rg rfl fun K j=>?_
 obtain⟨y3,hy3,h⟩:=Af h
 refine An.pure Tryz.call238 (Cb x_2.ID 1 9999 hy3) rfl fun _ hr=>?_
 subst hr
 refine nS ?_
 revert h;refine gf (fun hc h=>?_) fun hc h=>?_
 rotate_left
 ·refine j _ _ (qn ?_)
  refine AWP.cond (Ah ?_)
  refine sq (ar rfl (qn (rt (qr (br (qr (qr ?_)))))))
  obtain rfl:=Aa h
  obtain rfl:=Ae hJ0
  replace h:=Am hO0
  refine br (qr ?_)
  cases h;exact en Tryz.results153
 obtain⟨y4,hy4,h⟩:=Af h
 refine An.pure Tryz.call238 (Cb x_2.Alt 0 5000 hy4) rfl fun _ hr=>?_
 subst hr
 refine nS ?_
 refine j _ _ (qn ?_)
 revert h;refine ca rfl (fun hc h=>?_) fun hc h=>?_
 ·refine sq (ar rfl (qn (rt (qr (br (qr (qr ?_)))))))
  obtain rfl:=Aa h
  obtain rfl:=Ae hJ0
  replace h:=Am hO0
  refine br (qr ?_)
  cases h;exact en Tryz.results153
 refine sk (qn (sq ?_))
 refine AWP.draw Tryz.mixed (by kernel_rfl) ?_;intro K j
 refine nS ?_
 revert h;refine gt (fun hc h=>?_) fun hc h=>?_
 ·obtain⟨x_5,hx_5,h⟩:=Af h
  refine Bn.of (f:=A6) (l:=m.Nodes) hx_5 ?_
  refine nS ?_
  refine j _ _ _ (by kernel_rfl) ?_
  refine qn ?_
  revert h;refine ca rfl (fun hc h=>?_) fun hc h=>?_
  ·refine sq (ar rfl (qn (rt (br (qr (qr ?_))))))
   obtain rfl:=Aa h
   obtain rfl:=Ae hJ0
   replace h:=Am hO0
   refine br (qr ?_)
   cases h;exact en Tryz.results153
  refine sk (bn (qn (ar rfl (qn ?_))))
  obtain rfl:=Aa h
  refine⟨(k0+1,(),()),⟨by dsimp only;omega,Ai hJ0⟩,by dsimp only;omega,?_,?_⟩
  ·exact cuw hw0
  exact cuw hw0
 refine j _ _ _ (by kernel_rfl) ?_
 refine qn ?_
 refine AWP.cond (Bi ?_)
 refine sk (bn (qn (ar rfl (qn ?_))))
 obtain rfl:=Aa h
 refine⟨(k0+1,(),()),⟨by dsimp only;omega,Ai hJ0⟩,by dsimp only;omega,?_,?_⟩
 ·exact cuw hw0
 exact cuw hw0
def Gc (m:Bb) (x_2:Cc):Option (Out (Unit) (Int)):=
 (D5 m x_2.From).bind fun y10=>(D5 m x_2.To).bind fun y11=>(bif (!y10.2)then some (Out.ret 8)else (bif (!y11.2)then some (Out.ret 8)else (bif (decide (y11.1.Alt≤y10.1.Alt))then some (Out.ret 11)else nz x_2.Spacing ((bif (decide ((Int.tmod (IntKind.i64.wrap (2*x_2.Length)) x_2.Spacing)≠0))then some (Out.ret 1)else nz x_2.Spacing ((Cs (IntKind.i64.wrap (Int.tdiv (IntKind.i64.wrap (2*x_2.Length)) x_2.Spacing)) 1 200).bind fun y12=>(bif (!y12)then some (Out.ret 1)else some (Out.next ()))))))))
def Jo (m:Bb) (k0:Nat) (x_2:Cc) (sv:Unit):Option (Out (Unit) (Int)):=
 (Cs x_2.ID 1 9999).bind fun y3=>(bif (!y3)then some (Out.ret 2)else (Cs x_2.Operator 1 8).bind fun y4=>(bif (!y4)then some (Out.ret 2)else (Cs x_2.Length 10 6000).bind fun y5=>(bif (!y5)then some (Out.ret 2)else (Cs x_2.Speed 500 12000).bind fun y6=>(bif (!y6)then some (Out.ret 2)else (Cs x_2.Seats 1 16).bind fun y7=>(bif (!y7)then some (Out.ret 2)else (Cs x_2.Spacing 5 1000).bind fun y8=>(bif (!y8)then some (Out.ret 2)else (bif (decide (0<((k0:Nat):Int)))then (Dk m.Lifts (IntKind.i64.wrap (((k0:Nat):Int) - 1))).bind fun x_13=>(bif (decide (x_2.ID≤x_13.ID))then some (Out.ret 7)else Gc m x_2)else Gc m x_2)))))))
def Mv (m:Bb):Option (Int):=
 (Al (Jo m) 0 m.Lifts ()).bind fun o0=>o0.on fun s0=>some 0
theorem Ua (m:Bb) {r:Int} (h:Mv m=some r):Ad Tryz.prog 154 [.agg (Cf m)] (·= .int .i64 r):=by
 refine Ad.nle (Ad.intro Tryz.func154 rfl rfl (by show _≤108;simp) ?_)
 unfold Mv at h
 refine nS (sq ?_)
 refine ar rfl (qn (sq (sq ?_)))
 refine rg rfl fun K j=>?_
 intro hm
 refine j _ _ (qn (bk ?_))
 obtain⟨o0,hJ0,hO0⟩:=Af h
 clear h
 refine AWP.Bw (ι:=Nat×(Unit)×(Unit)) (fun zz=>[(1,.ptr 0 0),(10,.sl 8 (m.Lifts.map A7)),(11,.int .i64 ((m.Lifts.length:Nat):Int)),(12,.int .i64 ((zz.1:Nat):Int))]) (fun zz=>[.box [.sl 2 (m.Nodes.map A6),.sl 8 (m.Lifts.map A7),.sl 7 (m.Runs.map Bc),.sl 1 (m.Bases.map A5)]]) (fun zz=>zz.1≤m.Lifts.length∧Al (Jo m) zz.1 ((m.Lifts).drop zz.1) zz.2.1=some o0) (fun zz=>m.Lifts.length - zz.1) (0,(),()) ⟨Nat.zero_le _,hJ0⟩ cu cu (fun x=>⟨rfl,rfl,rfl⟩) ?_
 clear hJ0
 rintro⟨k0,⟨⟩,⟨⟩⟩ ⟨hk0,hJ0⟩
 dsimp only at hk0 hJ0 ⊢
 refine sq (ar rfl (qn (sq ?_)))
 refine AWP.cond (Ak (fun hc=>?_) (fun hc=>?_))
 rotate_left
 ·obtain rfl:=Bf hJ0 (fun hl=>by have:=Ai7 hc;omega)
  have h:=Be hO0;try dsimp only at h
  have hkl:m.Lifts.length=k0:=by have:=Ai7 hc;omega
  subst hkl
  refine xt (qe (qe (bs (qn (sq (ar rfl (qn (rt ?_))))))))
  cases h;exact en Tryz.results154
 have hlt0:k0<m.Lifts.length:=by have:=Ai8 hc;omega
 obtain⟨x_2,b0,hx0_,h,hJ0⟩:=Ba hJ0 hlt0
 have hx0:=A2 hx0_
 have hw0:=wk (k:=k0) (by omega)
 unfold Jo at h;try dsimp only at h
 refine sk (qn (sq (bk (sq ?_))))
 refine rg rfl fun K j=>?_
 refine Bn.of (f:=A7) (l:=m.Lifts) hx0 ?_
 refine nS ?_
 refine j _ _ (qn (sq (sq ?_)))
 refine rg rfl fun K j=>?_
 obtain⟨y3,hy3,h⟩:=Af h
 refine An.pure Tryz.call238 (Cb x_2.ID 1 9999 hy3) rfl fun _ hr=>?_
 subst hr
 refine nS ?_
 revert h;refine gf (fun hc h=>?_) fun hc h=>?_
 rotate_left
 ·refine j _ _ (qn ?_)
  refine AWP.cond (Ah ?_)
  refine sq (ar rfl (qn (rt (qr (br (qr (qr ?_)))))))
  obtain rfl:=Aa h
  obtain rfl:=Ae hJ0
  replace h:=Am hO0
  refine br (qr ?_)
  cases h;exact en Tryz.results154
 obtain⟨y4,hy4,h⟩:=Af h
 refine An.pure Tryz.call238 (Cb x_2.Operator 1 8 hy4) rfl fun _ hr=>?_
 subst hr
 refine nS ?_
 revert h;refine gf (fun hc h=>?_) fun hc h=>?_
 rotate_left
 ·refine j _ _ (qn ?_)
  refine AWP.cond (Ah ?_)
  refine sq (ar rfl (qn (rt (qr (br (qr (qr ?_)))))))
  obtain rfl:=Aa h
  obtain rfl:=Ae hJ0
  replace h:=Am hO0
  refine br (qr ?_)
  cases h;exact en Tryz.results154
 obtain⟨y5,hy5,h⟩:=Af h
 refine An.pure Tryz.call238 (Cb x_2.Length 10 6000 hy5) rfl fun _ hr=>?_
 subst hr
 refine nS ?_
 revert h;refine gf (fun hc h=>?_) fun hc h=>?_
 rotate_left
 ·refine j _ _ (qn ?_)
  refine AWP.cond (Ah ?_)
  refine sq (ar rfl (qn (rt (qr (br (qr (qr ?_)))))))
  obtain rfl:=Aa h
  obtain rfl:=Ae hJ0
  replace h:=Am hO0
  refine br (qr ?_)
  cases h;exact en Tryz.results154
 obtain⟨y6,hy6,h⟩:=Af h
 refine An.pure Tryz.call238 (Cb x_2.Speed 500 12000 hy6) rfl fun _ hr=>?_
 subst hr
 refine nS ?_
 revert h;refine gf (fun hc h=>?_) fun hc h=>?_
 rotate_left
 ·refine j _ _ (qn ?_)
  refine AWP.cond (Ah ?_)
  refine sq (ar rfl (qn (rt (qr (br (qr (qr ?_)))))))
  obtain rfl:=Aa h
  obtain rfl:=Ae hJ0
  replace h:=Am hO0
  refine br (qr ?_)
  cases h;exact en Tryz.results154
 obtain⟨y7,hy7,h⟩:=Af h
 refine An.pure Tryz.call238 (Cb x_2.Seats 1 16 hy7) rfl fun _ hr=>?_
 subst hr
 refine nS ?_
 revert h;refine gf (fun hc h=>?_) fun hc h=>?_
 rotate_left
 ·refine j _ _ (qn ?_)
  refine AWP.cond (Ah ?_)
  refine sq (ar rfl (qn (rt (qr (br (qr (qr ?_)))))))
  obtain rfl:=Aa h
  obtain rfl:=Ae hJ0
  replace h:=Am hO0
  refine br (qr ?_)
  cases h;exact en Tryz.results154
 obtain⟨y8,hy8,h⟩:=Af h
 refine An.pure Tryz.call238 (Cb x_2.Spacing 5 1000 hy8) rfl fun _ hr=>?_
 subst hr
 refine nS ?_
 refine j _ _ (qn ?_)
 revert h;refine ca rfl (fun hc h=>?_) fun hc h=>?_
 ·refine sq (ar rfl (qn (rt (qr (br (qr (qr ?_)))))))
  obtain rfl:=Aa h
  obtain rfl:=Ae hJ0
  replace h:=Am hO0
  refine br (qr ?_)
  cases h;exact en Tryz.results154
 refine sk (qn ?_)
 refine AWP.Lf (ι:=(Unit)×(Unit)) (fun zz=>[(1,.ptr 0 0),(4,.ptr 1 0),(10,.sl 8 (m.Lifts.map A7)),(11,.int .i64 ((m.Lifts.length:Nat):Int)),(12,.int .i64 ((k0:Nat):Int))]) (fun zz=>[.box [.sl 2 (m.Nodes.map A6),.sl 8 (m.Lifts.map A7),.sl 7 (m.Runs.map Bc),.sl 1 (m.Bases.map A5)],.box [.int .i64 x_2.ID,.int .i64 x_2.Operator,.int .i64 x_2.From,.int .i64 x_2.To,.int .i64 x_2.Length,.int .i64 x_2.Speed,.int .i64 x_2.Seats,.int .i64 x_2.Spacing]]) (fun zz=>Gc m x_2=some b0) (fun zz=>⟨rfl,rfl,rfl⟩) ?_ ?_
 ·refine sq ?_
  refine AWP.draw Tryz.mixed (by kernel_rfl) ?_;intro K j
  refine nS ?_
  revert h;refine gt (fun hc h=>?_) fun hc h=>?_
  ·obtain⟨x_13,hx_13,h⟩:=Af h
   refine Bn.of (f:=A7) (l:=m.Lifts) hx_13 ?_
   refine nS ?_
   refine j _ _ _ (by kernel_rfl) ?_
   refine qn ?_
   revert h;refine ca rfl (fun hc h=>?_) fun hc h=>?_
   ·refine sq (ar rfl (qn (rt (qr (br (qr (qr ?_)))))))
    obtain rfl:=Aa h
    obtain rfl:=Ae hJ0
    replace h:=Am hO0
    refine br (qr ?_)
    cases h;exact en Tryz.results154
   refine sk (qn ?_)
   exact⟨((),()),h,cu,cu⟩
  refine j _ _ _ (by kernel_rfl) ?_
  refine qn ?_
  refine AWP.cond (Bi ?_)
  refine sk (qn ?_)
  exact⟨((),()),h,cu,cu⟩
 rintro⟨⟨⟩,⟨⟩⟩ h
 try dsimp only at h ⊢
 unfold Gc at h;try dsimp only at h
 refine sq ?_
 refine rg rfl fun K j=>?_
 obtain⟨y10,hy10,h⟩:=Af h
 refine An.pure Tryz.call96 (Dl m x_2.From hy10) rfl fun _ hr=>?_
 subst hr
 refine nS ?_
 refine j _ _ (qn (sq ?_))
 refine rg rfl fun K j=>?_
 obtain⟨y11,hy11,h⟩:=Af h
 refine An.pure Tryz.call96 (Dl m x_2.To hy11) rfl fun _ hr=>?_
 subst hr
 refine nS ?_
 refine j _ _ (qn (sq (sq ?_)))
 refine rg rfl fun K j=>?_
 revert h;refine gf (fun hc h=>?_) fun hc h=>?_
 rotate_left
 ·refine j _ _ (qn ?_)
  refine AWP.cond (Ah ?_)
  refine sq (ar rfl (qn (rt (qr (br (qr (qr ?_)))))))
  obtain rfl:=Aa h
  obtain rfl:=Ae hJ0
  replace h:=Am hO0
  refine br (qr ?_)
  cases h;exact en Tryz.results154
 refine j _ _ (qn ?_)
 revert h;refine ca rfl (fun hc h=>?_) fun hc h=>?_
 ·refine sq (ar rfl (qn (rt (qr (br (qr (qr ?_)))))))
  obtain rfl:=Aa h
  obtain rfl:=Ae hJ0
  replace h:=Am hO0
  refine br (qr ?_)
  cases h;exact en Tryz.results154
 refine sk (qn (sq (sq (ar rfl (qn ?_)))))
 revert h;refine ca rfl (fun hc h=>?_) fun hc h=>?_
 ·refine sq (ar rfl (qn (rt (qr (br (qr (qr ?_)))))))
  obtain rfl:=Aa h
  obtain rfl:=Ae hJ0
  replace h:=Am hO0
  refine br (qr ?_)
  cases h;exact en Tryz.results154
 refine sk (qn (sq ?_))
 refine rg rfl fun K j=>?_
 obtain⟨hk,h⟩:=nI h
 refine⟨hk,?_⟩
 revert h;refine gf (fun hc h=>?_) fun hc h=>?_
 ·obtain⟨hk,h⟩:=nI h
  refine⟨hk,?_⟩
  obtain⟨y12,hy12,h⟩:=Af h
  refine An.pure Tryz.call238 (Cb (IntKind.i64.wrap (Int.tdiv (IntKind.i64.wrap (2*x_2.Length)) x_2.Spacing)) 1 200 hy12) rfl fun _ hr=>?_
  subst hr
  refine nS ?_
  refine j _ _ (qn ?_)
  revert h;refine ca rfl (fun hc h=>?_) fun hc h=>?_
  ·refine sq (ar rfl (qn (rt (br (qr (qr ?_))))))
   obtain rfl:=Aa h
   obtain rfl:=Ae hJ0
   replace h:=Am hO0
   refine br (qr ?_)
   cases h;exact en Tryz.results154
  refine sk (bn (qn (ar rfl (qn ?_))))
  obtain rfl:=Aa h
  refine⟨(k0+1,(),()),⟨by dsimp only;omega,Ai hJ0⟩,by dsimp only;omega,?_,?_⟩
  ·exact cuw hw0
  exact cuw hw0
 refine j _ _ (qn ?_)
 refine AWP.cond (Ah ?_)
 refine sq (ar rfl (qn (rt (br (qr (qr ?_))))))
 obtain rfl:=Aa h
 obtain rfl:=Ae hJ0
 replace h:=Am hO0
 refine br (qr ?_)
 cases h;exact en Tryz.results154
def Ka (m:Bb) (k0:Nat) (x_2:Cd) (sv:Unit):Option (Out (Unit) (Int)):=
 (Cs x_2.ID 1 9999).bind fun y3=>(bif (!y3)then some (Out.ret 2)else (Cs x_2.Operator 1 8).bind fun y4=>(bif (!y4)then some (Out.ret 2)else (Cs x_2.Grade 1 4).bind fun y5=>(bif (!y5)then some (Out.ret 2)else (Cs x_2.Zone 1 32).bind fun y6=>(bif (!y6)then some (Out.ret 2)else (Cs x_2.Length 10 20000).bind fun y7=>(bif (!y7)then some (Out.ret 2)else (bif (decide (0<((k0:Nat):Int)))then (Dk m.Runs (IntKind.i64.wrap (((k0:Nat):Int) - 1))).bind fun x_8=>(bif (decide (x_2.ID≤x_8.ID))then some (Out.ret 7)else (D5 m x_2.From).bind fun y9=>(D5 m x_2.To).bind fun y10=>(bif (!y9.2)then some (Out.ret 8)else (bif (!y10.2)then some (Out.ret 8)else (bif (decide (y9.1.Alt≤y10.1.Alt))then some (Out.ret 11)else some (Out.next ())))))else (D5 m x_2.From).bind fun y11=>(D5 m x_2.To).bind fun y12=>(bif (!y11.2)then some (Out.ret 8)else (bif (!y12.2)then some (Out.ret 8)else (bif (decide (y11.1.Alt≤y12.1.Alt))then some (Out.ret 11)else some (Out.next ()))))))))))
def No (m:Bb):Option (Int):=
 (Al (Ka m) 0 m.Runs ()).bind fun o0=>o0.on fun s0=>some 0
theorem Uu (m:Bb) {r:Int} (h:No m=some r):Ad Tryz.prog 155 [.agg (Cf m)] (·= .int .i64 r):=by
 refine Ad.nle (Ad.intro Tryz.func155 rfl rfl (by show _≤85;simp) ?_)
 unfold No at h
 refine nS (sq ?_)
 refine ar rfl (qn (sq (sq ?_)))
 refine rg rfl fun K j=>?_
 intro hm
 refine j _ _ (qn (bk ?_))
 obtain⟨o0,hJ0,hO0⟩:=Af h
 clear h
 refine AWP.Bw (ι:=Nat×(Unit)×(Unit)) (fun zz=>[(1,.ptr 0 0),(10,.sl 7 (m.Runs.map Bc)),(11,.int .i64 ((m.Runs.length:Nat):Int)),(12,.int .i64 ((zz.1:Nat):Int))]) (fun zz=>[.box [.sl 2 (m.Nodes.map A6),.sl 8 (m.Lifts.map A7),.sl 7 (m.Runs.map Bc),.sl 1 (m.Bases.map A5)]]) (fun zz=>zz.1≤m.Runs.length∧Al (Ka m) zz.1 ((m.Runs).drop zz.1) zz.2.1=some o0) (fun zz=>m.Runs.length - zz.1) (0,(),()) ⟨Nat.zero_le _,hJ0⟩ cu cu (fun x=>⟨rfl,rfl,rfl⟩) ?_
 clear hJ0
 rintro⟨k0,⟨⟩,⟨⟩⟩ ⟨hk0,hJ0⟩
 dsimp only at hk0 hJ0 ⊢
 refine sq (ar rfl (qn (sq ?_)))
 refine AWP.cond (Ak (fun hc=>?_) (fun hc=>?_))
 rotate_left
 ·obtain rfl:=Bf hJ0 (fun hl=>by have:=Ai7 hc;omega)
  have h:=Be hO0;try dsimp only at h
  have hkl:m.Runs.length=k0:=by have:=Ai7 hc;omega
  subst hkl
  refine xt (qe (qe (bs (qn (sq (ar rfl (qn (rt ?_))))))))
  cases h;exact en Tryz.results155
 have hlt0:k0<m.Runs.length:=by have:=Ai8 hc;omega
 obtain⟨x_2,b0,hx0_,h,hJ0⟩:=Ba hJ0 hlt0
 have hx0:=A2 hx0_
 have hw0:=wk (k:=k0) (by omega)
 unfold Ka at h;try dsimp only at h
 refine sk (qn (sq (bk (sq ?_))))
 refine rg rfl fun K j=>?_
 refine Bn.of (f:=Bc) (l:=m.Runs) hx0 ?_
 refine nS ?_
 refine j _ _ (qn (sq (sq ?_)))
 refine rg rfl fun K j=>?_
 obtain⟨y3,hy3,h⟩:=Af h
 refine An.pure Tryz.call238 (Cb x_2.ID 1 9999 hy3) rfl fun _ hr=>?_
 subst hr
 refine nS ?_
 revert h;refine gf (fun hc h=>?_) fun hc h=>?_
 rotate_left
 ·refine j _ _ (qn ?_)
  refine AWP.cond (Ah ?_)
  refine sq (ar rfl (qn (rt (qr (br (qr (qr ?_)))))))
  obtain rfl:=Aa h
  obtain rfl:=Ae hJ0
  replace h:=Am hO0
  refine br (qr ?_)
  cases h;exact en Tryz.results155
 obtain⟨y4,hy4,h⟩:=Af h
 refine An.pure Tryz.call238 (Cb x_2.Operator 1 8 hy4) rfl fun _ hr=>?_
 subst hr
 refine nS ?_
 revert h;refine gf (fun hc h=>?_) fun hc h=>?_
 rotate_left
 ·refine j _ _ (qn ?_)
  refine AWP.cond (Ah ?_)
  refine sq (ar rfl (qn (rt (qr (br (qr (qr ?_)))))))
  obtain rfl:=Aa h
  obtain rfl:=Ae hJ0
  replace h:=Am hO0
  refine br (qr ?_)
  cases h;exact en Tryz.results155
 obtain⟨y5,hy5,h⟩:=Af h
 refine An.pure Tryz.call238 (Cb x_2.Grade 1 4 hy5) rfl fun _ hr=>?_
 subst hr
 refine nS ?_
 revert h;refine gf (fun hc h=>?_) fun hc h=>?_
 rotate_left
 ·refine j _ _ (qn ?_)
  refine AWP.cond (Ah ?_)
  refine sq (ar rfl (qn (rt (qr (br (qr (qr ?_)))))))
  obtain rfl:=Aa h
  obtain rfl:=Ae hJ0
  replace h:=Am hO0
  refine br (qr ?_)
  cases h;exact en Tryz.results155
 obtain⟨y6,hy6,h⟩:=Af h
 refine An.pure Tryz.call238 (Cb x_2.Zone 1 32 hy6) rfl fun _ hr=>?_
 subst hr
 refine nS ?_
 revert h;refine gf (fun hc h=>?_) fun hc h=>?_
 rotate_left
 ·refine j _ _ (qn ?_)
  refine AWP.cond (Ah ?_)
  refine sq (ar rfl (qn (rt (qr (br (qr (qr ?_)))))))
  obtain rfl:=Aa h
  obtain rfl:=Ae hJ0
  replace h:=Am hO0
  refine br (qr ?_)
  cases h;exact en Tryz.results155
 obtain⟨y7,hy7,h⟩:=Af h
 refine An.pure Tryz.call238 (Cb x_2.Length 10 20000 hy7) rfl fun _ hr=>?_
 subst hr
 refine nS ?_
 refine j _ _ (qn ?_)
 revert h;refine ca rfl (fun hc h=>?_) fun hc h=>?_
 ·refine sq (ar rfl (qn (rt (qr (br (qr (qr ?_)))))))
  obtain rfl:=Aa h
  obtain rfl:=Ae hJ0
  replace h:=Am hO0
  refine br (qr ?_)
  cases h;exact en Tryz.results155
 refine sk (qn (sq (sq ?_)))
 refine AWP.draw Tryz.mixed (by kernel_rfl) ?_;intro K j
 refine nS ?_
 revert h;refine gt (fun hc h=>?_) fun hc h=>?_
 ·obtain⟨x_8,hx_8,h⟩:=Af h
  refine Bn.of (f:=Bc) (l:=m.Runs) hx_8 ?_
  refine nS ?_
  refine j _ _ _ (by kernel_rfl) ?_
  refine qn ?_
  revert h;refine ca rfl (fun hc h=>?_) fun hc h=>?_
  ·refine sq (ar rfl (qn (rt (qr (br (qr (qr ?_)))))))
   obtain rfl:=Aa h
   obtain rfl:=Ae hJ0
   replace h:=Am hO0
   refine br (qr ?_)
   cases h;exact en Tryz.results155
  refine sk (qn (sq ?_))
  refine rg rfl fun K j=>?_
  obtain⟨y9,hy9,h⟩:=Af h
  refine An.pure Tryz.call96 (Dl m x_2.From hy9) rfl fun _ hr=>?_
  subst hr
  refine nS ?_
  refine j _ _ (qn (sq ?_))
  refine rg rfl fun K j=>?_
  obtain⟨y10,hy10,h⟩:=Af h
  refine An.pure Tryz.call96 (Dl m x_2.To hy10) rfl fun _ hr=>?_
  subst hr
  refine nS ?_
  refine j _ _ (qn (sq (sq ?_)))
  refine rg rfl fun K j=>?_
  revert h;refine gf (fun hc h=>?_) fun hc h=>?_
  ·refine j _ _ (qn ?_)
   revert h;refine ca rfl (fun hc h=>?_) fun hc h=>?_
   ·refine sq (ar rfl (qn (rt (qr (br (qr (qr ?_)))))))
    obtain rfl:=Aa h
    obtain rfl:=Ae hJ0
    replace h:=Am hO0
    refine br (qr ?_)
    cases h;exact en Tryz.results155
   refine sk (qn (sq (ar rfl (qn ?_))))
   revert h;refine ca rfl (fun hc h=>?_) fun hc h=>?_
   ·refine sq (ar rfl (qn (rt (br (qr (qr ?_))))))
    obtain rfl:=Aa h
    obtain rfl:=Ae hJ0
    replace h:=Am hO0
    refine br (qr ?_)
    cases h;exact en Tryz.results155
   refine sk (bn (qn (ar rfl (qn ?_))))
   obtain rfl:=Aa h
   refine⟨(k0+1,(),()),⟨by dsimp only;omega,Ai hJ0⟩,by dsimp only;omega,?_,?_⟩
   ·exact cuw hw0
   exact cuw hw0
  refine j _ _ (qn ?_)
  refine AWP.cond (Ah ?_)
  refine sq (ar rfl (qn (rt (qr (br (qr (qr ?_)))))))
  obtain rfl:=Aa h
  obtain rfl:=Ae hJ0
  replace h:=Am hO0
  refine br (qr ?_)
  cases h;exact en Tryz.results155
 refine j _ _ _ (by kernel_rfl) ?_
 refine qn ?_
 refine AWP.cond (Bi ?_)
 refine sk (qn (sq ?_))
 refine rg rfl fun K j=>?_
 obtain⟨y11,hy11,h⟩:=Af h
 refine An.pure Tryz.call96 (Dl m x_2.From hy11) rfl fun _ hr=>?_
 subst hr
 refine nS ?_
 refine j _ _ (qn (sq ?_))
 refine rg rfl fun K j=>?_
 obtain⟨y12,hy12,h⟩:=Af h
 refine An.pure Tryz.call96 (Dl m x_2.To hy12) rfl fun _ hr=>?_
 subst hr
 refine nS ?_
 refine j _ _ (qn (sq (sq ?_)))
 refine rg rfl fun K j=>?_
 revert h;refine gf (fun hc h=>?_) fun hc h=>?_
 ·refine j _ _ (qn ?_)
  revert h;refine ca rfl (fun hc h=>?_) fun hc h=>?_
  ·refine sq (ar rfl (qn (rt (qr (br (qr (qr ?_)))))))
   obtain rfl:=Aa h
   obtain rfl:=Ae hJ0
   replace h:=Am hO0
   refine br (qr ?_)
   cases h;exact en Tryz.results155
  refine sk (qn (sq (ar rfl (qn ?_))))
  revert h;refine ca rfl (fun hc h=>?_) fun hc h=>?_
  ·refine sq (ar rfl (qn (rt (br (qr (qr ?_))))))
   obtain rfl:=Aa h
   obtain rfl:=Ae hJ0
   replace h:=Am hO0
   refine br (qr ?_)
   cases h;exact en Tryz.results155
  refine sk (bn (qn (ar rfl (qn ?_))))
  obtain rfl:=Aa h
  refine⟨(k0+1,(),()),⟨by dsimp only;omega,Ai hJ0⟩,by dsimp only;omega,?_,?_⟩
  ·exact cuw hw0
  exact cuw hw0
 refine j _ _ (qn ?_)
 refine AWP.cond (Ah ?_)
 refine sq (ar rfl (qn (rt (qr (br (qr (qr ?_)))))))
 obtain rfl:=Aa h
 obtain rfl:=Ae hJ0
 replace h:=Am hO0
 refine br (qr ?_)
 cases h;exact en Tryz.results155
def Jr (m:Bb) (k1:Nat) (x_3:Int) (sv:Unit):Option (Out (Unit) (Int)):=
 (bif (decide (0<((k1:Nat):Int)))then (Dk m.Bases (IntKind.i64.wrap (((k1:Nat):Int) - 1))).bind fun x_4=>(bif (decide (x_3≤x_4))then some (Out.ret 7)else some (Out.next ()))else some (Out.next ()))
def Jp (m:Bb):Option (Int):=
 (Al (Jr m) 0 m.Bases ()).bind fun o1=>o1.on fun s1=>some 0
def Jq (m:Bb) (k4:Nat) (x_6:Int) (sv:Unit):Option (Out (Unit) (Int)):=
 (D5 m x_6).bind fun y7=>(bif (!y7.2)then some (Out.ret 8)else some (Out.next ()))
def Mw (m:Bb):Option (Int):=
 (bif (decide (((m.Bases.length:Nat):Int)=0))then some 8 else(Al (Jq m) 0 m.Bases ()).bind fun o4=>o4.on fun s4=>Jp m)
theorem Ub (m:Bb) {r:Int} (h:Mw m=some r):Ad Tryz.prog 156 [.agg (Cf m)] (·= .int .i64 r):=by
 refine Ad.nle (Ad.intro Tryz.func156 rfl rfl (by show _≤50;simp) ?_)
 unfold Mw at h
 refine nS (sq ?_)
 refine ar rfl (qn (sq (sq ?_)))
 refine rg rfl fun K j=>?_
 intro hm
 refine j _ _ (qn ?_)
 revert h;refine ca rfl (fun hc h=>?_) fun hc h=>?_
 ·refine sq (ar rfl (qn (rt (qr ?_))))
  cases h;exact en Tryz.results156
 refine sk (qn ?_)
 refine AWP.Lf (ι:=(Unit)×(Unit)) (fun zz=>[(1,.ptr 0 0)]) (fun zz=>[.box [.sl 2 (m.Nodes.map A6),.sl 8 (m.Lifts.map A7),.sl 7 (m.Runs.map Bc),.sl 1 (m.Bases.map A5)]]) (fun zz=>Jp m=some r) (fun zz=>⟨rfl,rfl,rfl⟩) ?_ ?_
 ·refine sq ?_
  refine rg rfl fun K j=>?_
  intro hm
  refine j _ _ (qn (bk ?_))
  obtain⟨o4,hJ4,hO4⟩:=Af h
  clear h
  refine AWP.Bw (ι:=Nat×(Unit)×(Unit)) (fun zz=>[(1,.ptr 0 0),(14,.sl 1 (m.Bases.map A5)),(15,.int .i64 ((m.Bases.length:Nat):Int)),(16,.int .i64 ((zz.1:Nat):Int))]) (fun zz=>[.box [.sl 2 (m.Nodes.map A6),.sl 8 (m.Lifts.map A7),.sl 7 (m.Runs.map Bc),.sl 1 (m.Bases.map A5)]]) (fun zz=>zz.1≤m.Bases.length∧Al (Jq m) zz.1 ((m.Bases).drop zz.1) zz.2.1=some o4) (fun zz=>m.Bases.length - zz.1) (0,(),()) ⟨Nat.zero_le _,hJ4⟩ cu cu (fun x=>⟨rfl,rfl,rfl⟩) ?_
  clear hJ4
  rintro⟨k4,⟨⟩,⟨⟩⟩ ⟨hk4,hJ4⟩
  dsimp only at hk4 hJ4 ⊢
  refine sq (ar rfl (qn (sq ?_)))
  refine AWP.cond (Ak (fun hc=>?_) (fun hc=>?_))
  rotate_left
  ·obtain rfl:=Bf hJ4 (fun hl=>by have:=Ai7 hc;omega)
   have h:=Be hO4;try dsimp only at h
   have hkl:m.Bases.length=k4:=by have:=Ai7 hc;omega
   subst hkl
   refine xt (qe (qe (bs (qn ?_))))
   exact⟨((),()),h,cu,cu⟩
  have hlt4:k4<m.Bases.length:=by have:=Ai8 hc;omega
  obtain⟨x_6,b4,hx4_,h,hJ4⟩:=Ba hJ4 hlt4
  have hx4:=A2 hx4_
  have hw4:=wk (k:=k4) (by omega)
  unfold Jq at h;try dsimp only at h
  refine sk (qn (sq (bk (sq ?_))))
  refine rg rfl fun K j=>?_
  refine Bn.of (f:=A5) (l:=m.Bases) hx4 ?_
  refine nS ?_
  refine j _ _ (qn (sq ?_))
  refine rg rfl fun K j=>?_
  obtain⟨y7,hy7,h⟩:=Af h
  refine An.pure Tryz.call96 (Dl m x_6 hy7) rfl fun _ hr=>?_
  subst hr
  refine nS ?_
  refine j _ _ (qn (sq ?_))
  refine ar rfl (qn ?_)
  revert h;refine ca rfl (fun hc h=>?_) fun hc h=>?_
  ·refine sq (ar rfl (qn (rt (br (qr (qr ?_))))))
   obtain rfl:=Aa h
   obtain rfl:=Ae hJ4
   replace h:=Am hO4
   refine br (qr ?_)
   cases h;exact en Tryz.results156
  refine sk (bn (qn (ar rfl (qn ?_))))
  obtain rfl:=Aa h
  refine⟨(k4+1,(),()),⟨by dsimp only;omega,Ai hJ4⟩,by dsimp only;omega,?_,?_⟩
  ·exact cuw hw4
  exact cuw hw4
 rintro⟨⟨⟩,⟨⟩⟩ h
 try dsimp only at h ⊢
 unfold Jp at h;try dsimp only at h
 refine sq (sq ?_)
 refine rg rfl fun K j=>?_
 intro hm
 refine j _ _ (qn (bk ?_))
 obtain⟨o1,hJ1,hO1⟩:=Af h
 clear h
 refine AWP.Bw (ι:=Nat×(Unit)×(Unit)) (fun zz=>[(1,.ptr 0 0),(30,.sl 1 (m.Bases.map A5)),(31,.int .i64 ((m.Bases.length:Nat):Int)),(32,.int .i64 ((zz.1:Nat):Int))]) (fun zz=>[.box [.sl 2 (m.Nodes.map A6),.sl 8 (m.Lifts.map A7),.sl 7 (m.Runs.map Bc),.sl 1 (m.Bases.map A5)]]) (fun zz=>zz.1≤m.Bases.length∧Al (Jr m) zz.1 ((m.Bases).drop zz.1) zz.2.1=some o1) (fun zz=>m.Bases.length - zz.1) (0,(),()) ⟨Nat.zero_le _,hJ1⟩ cu cu (fun x=>⟨rfl,rfl,rfl⟩) ?_
 clear hJ1
 rintro⟨k1,⟨⟩,⟨⟩⟩ ⟨hk1,hJ1⟩
 dsimp only at hk1 hJ1 ⊢
 refine sq (ar rfl (qn (sq ?_)))
 refine AWP.cond (Ak (fun hc=>?_) (fun hc=>?_))
 rotate_left
 ·obtain rfl:=Bf hJ1 (fun hl=>by have:=Ai7 hc;omega)
  have h:=Be hO1;try dsimp only at h
  have hkl:m.Bases.length=k1:=by have:=Ai7 hc;omega
  subst hkl
  refine xt (qe (qe (bs (qn (sq (ar rfl (qn (rt ?_))))))))
  cases h;exact en Tryz.results156
 have hlt1:k1<m.Bases.length:=by have:=Ai8 hc;omega
 obtain⟨x_3,b1,hx1_,h,hJ1⟩:=Ba hJ1 hlt1
 have hx1:=A2 hx1_
 have hw1:=wk (k:=k1) (by omega)
 unfold Jr at h;try dsimp only at h
 refine sk (qn (sq (bk (sq ?_))))
 refine rg rfl fun K j=>?_
 refine Bn.of (f:=A5) (l:=m.Bases) hx1 ?_
 refine nS ?_
 refine j _ _ (qn (sq ?_))
 refine rg rfl fun K j=>?_
 revert h;refine gt (fun hc h=>?_) fun hc h=>?_
 ·obtain⟨x_4,hx_4,h⟩:=Af h
  refine Bn.of (f:=A5) (l:=m.Bases) hx_4 ?_
  refine nS ?_
  refine j _ _ (qn ?_)
  revert h;refine ca rfl (fun hc h=>?_) fun hc h=>?_
  ·refine sq (ar rfl (qn (rt (br (qr (qr ?_))))))
   obtain rfl:=Aa h
   obtain rfl:=Ae hJ1
   replace h:=Am hO1
   refine br (qr ?_)
   cases h;exact en Tryz.results156
  refine sk (bn (qn (ar rfl (qn ?_))))
  obtain rfl:=Aa h
  refine⟨(k1+1,(),()),⟨by dsimp only;omega,Ai hJ1⟩,by dsimp only;omega,?_,?_⟩
  ·exact cuw hw1
  exact cuw hw1
 refine j _ _ (qn ?_)
 refine AWP.cond (Bi ?_)
 refine sk (bn (qn (ar rfl (qn ?_))))
 obtain rfl:=Aa h
 refine⟨(k1+1,(),()),⟨by dsimp only;omega,Ai hJ1⟩,by dsimp only;omega,?_,?_⟩
 ·exact cuw hw1
 exact cuw hw1
def Lz (m:Bb):Option (Int):=
 (bif (decide (64<((m.Nodes.length:Nat):Int)))then some 4 else(bif (decide (32<((m.Lifts.length:Nat):Int)))then some 4 else(bif (decide (64<((m.Runs.length:Nat):Int)))then some 4 else(bif (decide (64<((m.Bases.length:Nat):Int)))then some 4 else(Mu m).bind fun y1=>(bif (decide (y1≠0))then some y1 else(Mv m).bind fun y2=>(bif (decide (y2≠0))then some y2 else(No m).bind fun y3=>(bif (decide (y3≠0))then some y3 else(Mw m).bind fun y4=>some y4)))))))
theorem Y7 (m:Bb) {r:Int} (h:Lz m=some r):Ad Tryz.prog 74 [.agg (Cf m)] (·= .int .i64 r):=by
 refine Ad.nle (Ad.intro Tryz.func74 rfl rfl (by show _≤45;simp) ?_)
 unfold Lz at h
 refine nS (sq ?_)
 refine ar rfl (qn (sq (sq ?_)))
 refine rg rfl fun K j=>?_
 intro hm
 revert h;refine gf (fun hc h=>?_) fun hc h=>?_
 rotate_left
 ·refine j _ _ (qn ?_)
  refine AWP.cond (Ah ?_)
  refine sq (ar rfl (qn (rt (qr ?_))))
  cases h;exact en Tryz.results74
 intro hm
 revert h;refine gf (fun hc h=>?_) fun hc h=>?_
 rotate_left
 ·refine j _ _ (qn ?_)
  refine AWP.cond (Ah ?_)
  refine sq (ar rfl (qn (rt (qr ?_))))
  cases h;exact en Tryz.results74
 intro hm
 revert h;refine gf (fun hc h=>?_) fun hc h=>?_
 rotate_left
 ·refine j _ _ (qn ?_)
  refine AWP.cond (Ah ?_)
  refine sq (ar rfl (qn (rt (qr ?_))))
  cases h;exact en Tryz.results74
 intro hm
 refine j _ _ (qn ?_)
 revert h;refine ca rfl (fun hc h=>?_) fun hc h=>?_
 ·refine sq (ar rfl (qn (rt (qr ?_))))
  cases h;exact en Tryz.results74
 refine sk (qn (sq (sq ?_)))
 refine rg rfl fun K j=>?_
 obtain⟨y1,hy1,h⟩:=Af h
 refine An.pure Tryz.call153 (T9 m hy1) rfl fun _ hr=>?_
 subst hr
 refine nS ?_
 refine j _ _ (qn (sq ?_))
 refine ar rfl (qn ?_)
 revert h;refine ca rfl (fun hc h=>?_) fun hc h=>?_
 ·refine sq (ar rfl (qn (rt (qr ?_))))
  cases h;exact en Tryz.results74
 refine sk (qn (sq (sq ?_)))
 refine rg rfl fun K j=>?_
 obtain⟨y2,hy2,h⟩:=Af h
 refine An.pure Tryz.call154 (Ua m hy2) rfl fun _ hr=>?_
 subst hr
 refine nS ?_
 refine j _ _ (qn (sq ?_))
 refine ar rfl (qn ?_)
 revert h;refine ca rfl (fun hc h=>?_) fun hc h=>?_
 ·refine sq (ar rfl (qn (rt (qr ?_))))
  cases h;exact en Tryz.results74
 refine sk (qn (sq (sq ?_)))
 refine rg rfl fun K j=>?_
 obtain⟨y3,hy3,h⟩:=Af h
 refine An.pure Tryz.call155 (Uu m hy3) rfl fun _ hr=>?_
 subst hr
 refine nS ?_
 refine j _ _ (qn (sq ?_))
 refine ar rfl (qn ?_)
 revert h;refine ca rfl (fun hc h=>?_) fun hc h=>?_
 ·refine sq (ar rfl (qn (rt (qr ?_))))
  cases h;exact en Tryz.results74
 refine sk (qn (sq ?_))
 refine rg rfl fun K j=>?_
 obtain⟨y4,hy4,h⟩:=Af h
 refine An.pure Tryz.call156 (Ub m hy4) rfl fun _ hr=>?_
 subst hr
 refine nS ?_
 refine j _ _ (qn (rt ?_))
 cases h;exact en Tryz.results74
def Mq (c:Bk):Option (Bool):=
 (bif (decide (1≤c.Kind))then (bif (decide (c.Kind≤3))then (bif (decide (1≤c.Target))then (bif (decide (c.Target≤9999))then (bif (decide (1≤c.By))then (bif (decide (c.By≤6))then (bif (decide (0≤c.Since))then some (decide (c.Since≤20000000))else some false)else some false)else some false)else some false)else some false)else some false)else some false)
theorem Xg (c:Bk) {r:Bool} (h:Mq c=some r):Ad Tryz.prog 157 [.agg (Aq c)] (·= .bool r):=by
 refine Ad.nle (Ad.intro Tryz.func157 rfl rfl (by show _≤41;simp) ?_)
 unfold Mq at h
 refine nS (sq ?_)
 refine ar rfl (qn (sq ?_))
 refine rg rfl fun K j=>?_
 revert h;refine gt (fun hc h=>?_) fun hc h=>?_
 rotate_left
 ·refine j _ _ (qn (rt ?_))
  cases h;exact en Tryz.results157
 revert h;refine gt (fun hc h=>?_) fun hc h=>?_
 rotate_left
 ·refine j _ _ (qn (rt ?_))
  cases h;exact en Tryz.results157
 revert h;refine gt (fun hc h=>?_) fun hc h=>?_
 ·revert h;refine gt (fun hc h=>?_) fun hc h=>?_
  ·revert h;refine gt (fun hc h=>?_) fun hc h=>?_
   ·revert h;refine gt (fun hc h=>?_) fun hc h=>?_
    ·revert h;refine gt (fun hc h=>?_) fun hc h=>?_
     ·refine j _ _ (qn (rt ?_))
      cases h;exact en Tryz.results157
     refine j _ _ (qn (rt ?_))
     cases h;exact en Tryz.results157
    refine j _ _ (qn (rt ?_))
    cases h;exact en Tryz.results157
   refine j _ _ (qn (rt ?_))
   cases h;exact en Tryz.results157
  refine j _ _ (qn (rt ?_))
  cases h;exact en Tryz.results157
 refine j _ _ (qn (rt ?_))
 cases h;exact en Tryz.results157
def Jm (c:Bk):Option (M4):=
 some (M4.mk c.Kind c.Target c.By)
theorem R9 (c:Bk) {r:M4} (h:Jm c=some r):Ad Tryz.prog 159 [.agg (Aq c)] (·= .agg (Tx r)):=by
 refine Ad.nle (Ad.intro Tryz.func159 rfl rfl (by show _≤10;simp) ?_)
 unfold Jm at h
 refine nS (sq ?_)
 refine ar rfl (qn (sq ?_))
 refine ar rfl (qn (rt ?_))
 cases h;exact en Tryz.results159
def Jf (k_:M4) (k0:Nat) (x_2:Bk) (sv:Unit):Option (Out (Unit) (Int)):=
 (Jm x_2).bind fun y3=>(bif ((decide (y3.kind=k_.kind))&&((decide (y3.target=k_.target))&&(decide (y3.by_=k_.by_))))then some (Out.ret ((k0:Nat):Int))else some (Out.next ()))
def Oi (l:List Bk) (k_:M4):Option (Int):=
 (Al (Jf k_) 0 l ()).bind fun o0=>o0.on fun s0=>some (-1)
theorem aW (l:List Bk) (k_:M4) {r:Int} (h:Oi l k_=some r):Ad Tryz.prog 158 [.sl 4 (l.map Aq),.agg (Tx k_)] (·= .int .i64 r):=by
 refine Ad.nle (Ad.intro Tryz.func158 rfl rfl (by show _≤8;simp) ?_)
 unfold Oi at h
 refine nS (sq ?_)
 refine ar rfl (qn (sq ?_))
 refine rg rfl fun K j=>?_
 refine An.inline Tryz.call239 Tryz.func239 rfl rfl (by show _≤19;simp) ?_
 refine nS (sq ?_)
 refine ar rfl (qn (sq (sq ?_)))
 refine rg rfl fun K j=>?_
 intro hm
 refine j _ _ (qn (bk ?_));clear j K
 obtain⟨o0,hJ0,hO0⟩:=Af h
 clear h
 refine AWP.Bw (ι:=Nat×(Unit)×(Unit)) (fun zz=>[(0,.sl 4 (l.map Aq)),(1,.func 240 [.ptr 0 0]),(7,.int .i64 ((l.length:Nat):Int)),(8,.int .i64 ((zz.1:Nat):Int))]) (fun zz=>[.box [.int .i64 k_.kind,.int .i64 k_.target,.int .i64 k_.by_]]) (fun zz=>zz.1≤l.length∧Al (Jf k_) zz.1 ((l).drop zz.1) zz.2.1=some o0) (fun zz=>l.length - zz.1) (0,(),()) ⟨Nat.zero_le _,hJ0⟩ cu cu (fun x=>⟨rfl,rfl,rfl⟩) ?_
 clear hJ0
 rintro⟨k0,⟨⟩,⟨⟩⟩ ⟨hk0,hJ0⟩
 dsimp only at hk0 hJ0 ⊢
 refine sq (ar rfl (qn (sq ?_)))
 refine AWP.cond (Ak (fun hc=>?_) (fun hc=>?_))
 rotate_left
 ·obtain rfl:=Bf hJ0 (fun hl=>by have:=Ai7 hc;omega)
  have h:=Be hO0;try dsimp only at h
  have hkl:l.length=k0:=by have:=Ai7 hc;omega
  subst hkl
  refine xt (qe (qe (bs (qn (sq (ar rfl (qn (rt ?_))))))))
  refine nSc Tryz.results239 ?_
  refine j _ _ (qn (rt ?_))
  cases h;exact en Tryz.results158
 have hlt0:k0<l.length:=by have:=Ai8 hc;omega
 obtain⟨x_2,b0,hx0_,h,hJ0⟩:=Ba hJ0 hlt0
 have hx0:=A2 hx0_
 have hw0:=wk (k:=k0) (by omega)
 unfold Jf at h;try dsimp only at h
 refine sk (qn (sq (bk (sq (ar rfl (qn (sq ?_)))))))
 refine rg rfl fun K j=>?_
 refine Bn.of (f:=Aq) (l:=l) hx0 ?_
 refine nS ?_
 refine An.inline Tryz.call240 Tryz.func240 rfl rfl (by show _≤8;simp) ?_
 refine nS (sq ?_)
 refine ar rfl (qn (sq ?_))
 refine AWP.draw Tryz.mixed (by kernel_rfl) ?_;intro K j
 refine nS ?_
 obtain⟨y3,hy3,h⟩:=Af h
 refine B7.pure Tryz.call159 (R9 x_2 hy3) rfl ?_
 refine nS ?_
 refine j _ _ _ (by kernel_rfl) ?_;clear j K
 refine qn (rt (nSc Tryz.results240 ?_))
 refine j _ _ (qn ?_);clear j K
 revert h;refine ca rfl (fun hc h=>?_) fun hc h=>?_
 ·refine sq (ar rfl (qn (rt (br (qr (qr ?_))))))
  obtain rfl:=Aa h
  obtain rfl:=Ae hJ0
  replace h:=Am hO0
  refine br (qr (nSc Tryz.results239 ?_))
  refine j _ _ (qn (rt ?_))
  cases h;exact en Tryz.results158
 refine sk (bn (qn (ar rfl (qn ?_))))
 obtain rfl:=Aa h
 refine⟨(k0+1,(),()),⟨by dsimp only;omega,Ai hJ0⟩,by dsimp only;omega,?_,?_⟩
 ·exact cuw hw0
 exact cuw hw0
def Lp (l:List Bk) (k0:Nat) (x_2:Bk) (sv:Unit):Option (Out (Unit) (Int)):=
 (Mq x_2).bind fun y3=>(bif (!y3)then some (Out.ret 2)else okB (decide (0≤((k0:Nat):Int)∧((k0:Nat):Int)≤((l.length:Nat):Int))) ((Jm x_2).bind fun y4=>(Oi (l.take k0) y4).bind fun y5=>(bif (decide (0≤y5))then some (Out.ret 7)else some (Out.next ()))))
def Me (l:List Bk):Option (Int):=
 (bif (decide (200<((l.length:Nat):Int)))then some 4 else(Al (Lp l) 0 l ()).bind fun o0=>o0.on fun s0=>some 0)
theorem Zu (l:List Bk) {r:Int} (h:Me l=some r):Ad Tryz.prog 75 [.sl 4 (l.map Aq)] (·= .int .i64 r):=by
 refine Ad.nle (Ad.intro Tryz.func75 rfl rfl (by show _≤26;simp) ?_)
 unfold Me at h
 refine nS (sq ?_)
 refine ar rfl (qn (sq (sq ?_)))
 refine rg rfl fun K j=>?_
 intro hm
 refine j _ _ (qn ?_)
 revert h;refine ca rfl (fun hc h=>?_) fun hc h=>?_
 ·refine sq (ar rfl (qn (rt (qr ?_))))
  cases h;exact en Tryz.results75
 refine sk (qn (sq (sq ?_)))
 refine rg rfl fun K j=>?_
 intro hm
 refine j _ _ (qn (bk ?_))
 obtain⟨o0,hJ0,hO0⟩:=Af h
 clear h
 refine AWP.Bw (ι:=Nat×(Unit)×(Unit)) (fun zz=>[(0,.sl 4 (l.map Aq)),(8,.sl 4 (l.map Aq)),(9,.int .i64 ((l.length:Nat):Int)),(10,.int .i64 ((zz.1:Nat):Int))]) (fun zz=>[]) (fun zz=>zz.1≤l.length∧Al (Lp l) zz.1 ((l).drop zz.1) zz.2.1=some o0) (fun zz=>l.length - zz.1) (0,(),()) ⟨Nat.zero_le _,hJ0⟩ cu cu (fun x=>⟨rfl,rfl,rfl⟩) ?_
 clear hJ0
 rintro⟨k0,⟨⟩,⟨⟩⟩ ⟨hk0,hJ0⟩
 dsimp only at hk0 hJ0 ⊢
 refine sq (ar rfl (qn (sq ?_)))
 refine AWP.cond (Ak (fun hc=>?_) (fun hc=>?_))
 rotate_left
 ·obtain rfl:=Bf hJ0 (fun hl=>by have:=Ai7 hc;omega)
  have h:=Be hO0;try dsimp only at h
  have hkl:l.length=k0:=by have:=Ai7 hc;omega
  subst hkl
  refine xt (qe (qe (bs (qn (sq (ar rfl (qn (rt ?_))))))))
  cases h;exact en Tryz.results75
 have hlt0:k0<l.length:=by have:=Ai8 hc;omega
 obtain⟨x_2,b0,hx0_,h,hJ0⟩:=Ba hJ0 hlt0
 have hx0:=A2 hx0_
 have hw0:=wk (k:=k0) (by omega)
 unfold Lp at h;try dsimp only at h
 refine sk (qn (sq (bk (sq ?_))))
 refine rg rfl fun K j=>?_
 refine Bn.of (f:=Aq) (l:=l) hx0 ?_
 refine nS ?_
 refine j _ _ (qn (sq (sq ?_)))
 refine rg rfl fun K j=>?_
 obtain⟨y3,hy3,h⟩:=Af h
 refine An.pure Tryz.call157 (Xg x_2 hy3) rfl fun _ hr=>?_
 subst hr
 refine nS ?_
 refine j _ _ (qn ?_)
 revert h;refine ca rfl (fun hc h=>?_) fun hc h=>?_
 ·refine sq (ar rfl (qn (rt (qr (br (qr (qr ?_)))))))
  obtain rfl:=Aa h
  obtain rfl:=Ae hJ0
  replace h:=Am hO0
  refine br (qr ?_)
  cases h;exact en Tryz.results75
 refine sk (qn (sq ?_))
 refine AWP.draw Tryz.mixed (by kernel_rfl) ?_;intro K j
 refine nS ?_
 obtain⟨hk,h⟩:=Hp h
 intro hm
 (repeat(refine⟨by omega,?_⟩))
 obtain⟨y4,hy4,h⟩:=Af h
 refine B7.pure Tryz.call159 (R9 x_2 hy4) rfl ?_
 refine nS ?_
 obtain⟨y5,hy5,h⟩:=Af h
 refine B7.pure Tryz.call158 (aW (l.take k0) y4 hy5) rfl ?_
 refine nS ?_
 refine j _ _ _ (by kernel_rfl) ?_
 refine qn ?_
 revert h;refine ca rfl (fun hc h=>?_) fun hc h=>?_
 ·refine sq (ar rfl (qn (rt (br (qr (qr ?_))))))
  obtain rfl:=Aa h
  obtain rfl:=Ae hJ0
  replace h:=Am hO0
  refine br (qr ?_)
  cases h;exact en Tryz.results75
 refine sk (bn (qn (ar rfl (qn ?_))))
 obtain rfl:=Aa h
 refine⟨(k0+1,(),()),⟨by dsimp only;omega,Ai hJ0⟩,by dsimp only;omega,?_,?_⟩
 ·exact cuw hw0
 exact cuw hw0
def Lm (l:Bq) (k1:Nat) (x_3:Ft) (sv:Unit):Option (Out (Unit) (Int)):=
 (Br l.Items x_3.Item).bind fun y4=>(bif (!y4)then some (Out.ret 8)else (bif (decide (x_3.By<1))then some (Out.ret 17)else (bif (decide (9999<x_3.By))then some (Out.ret 17)else (bif (decide (x_3.At<0))then some (Out.ret 2)else (bif (decide (20000000<x_3.At))then some (Out.ret 2)else (bif (decide (0<((k1:Nat):Int)))then (Dk l.Signs (IntKind.i64.wrap (((k1:Nat):Int) - 1))).bind fun x_5=>(bif (decide (x_3.At<x_5.At))then some (Out.ret 11)else some (Out.next ()))else some (Out.next ())))))))
def Lk (l:Bq):Option (Int):=
 (Al (Lm l) 0 l.Signs ()).bind fun o1=>o1.on fun s1=>some 0
def Ll (l:Bq) (k5:Nat) (x_7:Int) (sv:Unit):Option (Out (Unit) (Int)):=
 (bif (decide (x_7<1))then some (Out.ret 2)else (bif (decide (9999<x_7))then some (Out.ret 2)else okB (decide (0≤((k5:Nat):Int)∧((k5:Nat):Int)≤((l.Items.length:Nat):Int))) ((Br (l.Items.take k5) x_7).bind fun y8=>(bif y8 then some (Out.ret 7)else some (Out.next ())))))
def Jl (l:Bq):Option (Int):=
 (bif (decide (64<((l.Items.length:Nat):Int)))then some 4 else(bif (decide (200<((l.Signs.length:Nat):Int)))then some 4 else(bif (decide (l.Every<1))then some 2 else(bif (decide (604800<l.Every))then some 2 else(Al (Ll l) 0 l.Items ()).bind fun o5=>o5.on fun s5=>Lk l))))
theorem R2 (l:Bq) {r:Int} (h:Jl l=some r):Ad Tryz.prog 160 [.agg (Fm l)] (·= .int .i64 r):=by
 refine Ad.nle (Ad.intro Tryz.func160 rfl rfl (by show _≤91;simp) ?_)
 unfold Jl at h
 refine nS (sq ?_)
 refine ar rfl (qn (sq (sq ?_)))
 refine rg rfl fun K j=>?_
 intro hm
 revert h;refine gf (fun hc h=>?_) fun hc h=>?_
 rotate_left
 ·refine j _ _ (qn ?_)
  refine AWP.cond (Ah ?_)
  refine sq (ar rfl (qn (rt (qr ?_))))
  cases h;exact en Tryz.results160
 intro hm
 refine j _ _ (qn ?_)
 revert h;refine ca rfl (fun hc h=>?_) fun hc h=>?_
 ·refine sq (ar rfl (qn (rt (qr ?_))))
  cases h;exact en Tryz.results160
 refine sk (qn (sq (sq ?_)))
 refine rg rfl fun K j=>?_
 revert h;refine gf (fun hc h=>?_) fun hc h=>?_
 rotate_left
 ·refine j _ _ (qn ?_)
  refine AWP.cond (Ah ?_)
  refine sq (ar rfl (qn (rt (qr ?_))))
  cases h;exact en Tryz.results160
 refine j _ _ (qn ?_)
 revert h;refine ca rfl (fun hc h=>?_) fun hc h=>?_
 ·refine sq (ar rfl (qn (rt (qr ?_))))
  cases h;exact en Tryz.results160
 refine sk (qn ?_)
 refine AWP.Lf (ι:=(Unit)×(Unit)) (fun zz=>[(1,.ptr 0 0)]) (fun zz=>[.box [.sl 1 (l.Items.map A5),.int .i64 l.Every,.sl 3 (l.Signs.map B9)]]) (fun zz=>Lk l=some r) (fun zz=>⟨rfl,rfl,rfl⟩) ?_ ?_
 ·refine sq ?_
  refine rg rfl fun K j=>?_
  intro hm
  refine j _ _ (qn (bk ?_))
  obtain⟨o5,hJ5,hO5⟩:=Af h
  clear h
  refine AWP.Bw (ι:=Nat×(Unit)×(Unit)) (fun zz=>[(1,.ptr 0 0),(26,.sl 1 (l.Items.map A5)),(27,.int .i64 ((l.Items.length:Nat):Int)),(28,.int .i64 ((zz.1:Nat):Int))]) (fun zz=>[.box [.sl 1 (l.Items.map A5),.int .i64 l.Every,.sl 3 (l.Signs.map B9)]]) (fun zz=>zz.1≤l.Items.length∧Al (Ll l) zz.1 ((l.Items).drop zz.1) zz.2.1=some o5) (fun zz=>l.Items.length - zz.1) (0,(),()) ⟨Nat.zero_le _,hJ5⟩ cu cu (fun x=>⟨rfl,rfl,rfl⟩) ?_
  clear hJ5
  rintro⟨k5,⟨⟩,⟨⟩⟩ ⟨hk5,hJ5⟩
  dsimp only at hk5 hJ5 ⊢
  refine sq (ar rfl (qn (sq ?_)))
  refine AWP.cond (Ak (fun hc=>?_) (fun hc=>?_))
  rotate_left
  ·obtain rfl:=Bf hJ5 (fun hl=>by have:=Ai7 hc;omega)
   have h:=Be hO5;try dsimp only at h
   have hkl:l.Items.length=k5:=by have:=Ai7 hc;omega
   subst hkl
   refine xt (qe (qe (bs (qn ?_))))
   exact⟨((),()),h,cu,cu⟩
  have hlt5:k5<l.Items.length:=by have:=Ai8 hc;omega
  obtain⟨x_7,b5,hx5_,h,hJ5⟩:=Ba hJ5 hlt5
  have hx5:=A2 hx5_
  have hw5:=wk (k:=k5) (by omega)
  unfold Ll at h;try dsimp only at h
  refine sk (qn (sq (bk (sq ?_))))
  refine rg rfl fun K j=>?_
  refine Bn.of (f:=A5) (l:=l.Items) hx5 ?_
  refine nS ?_
  refine j _ _ (qn (sq (sq ?_)))
  refine rg rfl fun K j=>?_
  revert h;refine gf (fun hc h=>?_) fun hc h=>?_
  rotate_left
  ·refine j _ _ (qn ?_)
   refine AWP.cond (Ah ?_)
   refine sq (ar rfl (qn (rt (qr (br (qr (qr ?_)))))))
   obtain rfl:=Aa h
   obtain rfl:=Ae hJ5
   replace h:=Am hO5
   refine br (qr ?_)
   cases h;exact en Tryz.results160
  refine j _ _ (qn ?_)
  revert h;refine ca rfl (fun hc h=>?_) fun hc h=>?_
  ·refine sq (ar rfl (qn (rt (qr (br (qr (qr ?_)))))))
   obtain rfl:=Aa h
   obtain rfl:=Ae hJ5
   replace h:=Am hO5
   refine br (qr ?_)
   cases h;exact en Tryz.results160
  refine sk (qn (sq ?_))
  refine rg rfl fun K j=>?_
  obtain⟨hk,h⟩:=Hp h
  intro hm
  (repeat(refine⟨by omega,?_⟩))
  obtain⟨y8,hy8,h⟩:=Af h
  refine An.pure Tryz.call54 (Bu (l.Items.take k5) x_7 hy8) rfl fun _ hr=>?_
  subst hr
  refine nS ?_
  refine j _ _ (qn ?_)
  revert h;refine ca rfl (fun hc h=>?_) fun hc h=>?_
  ·refine sq (ar rfl (qn (rt (br (qr (qr ?_))))))
   obtain rfl:=Aa h
   obtain rfl:=Ae hJ5
   replace h:=Am hO5
   refine br (qr ?_)
   cases h;exact en Tryz.results160
  refine sk (bn (qn (ar rfl (qn ?_))))
  obtain rfl:=Aa h
  refine⟨(k5+1,(),()),⟨by dsimp only;omega,Ai hJ5⟩,by dsimp only;omega,?_,?_⟩
  ·exact cuw hw5
  exact cuw hw5
 rintro⟨⟨⟩,⟨⟩⟩ h
 try dsimp only at h ⊢
 unfold Lk at h;try dsimp only at h
 refine sq (sq ?_)
 refine rg rfl fun K j=>?_
 intro hm
 refine j _ _ (qn (bk ?_))
 obtain⟨o1,hJ1,hO1⟩:=Af h
 clear h
 refine AWP.Bw (ι:=Nat×(Unit)×(Unit)) (fun zz=>[(1,.ptr 0 0),(47,.sl 3 (l.Signs.map B9)),(48,.int .i64 ((l.Signs.length:Nat):Int)),(49,.int .i64 ((zz.1:Nat):Int))]) (fun zz=>[.box [.sl 1 (l.Items.map A5),.int .i64 l.Every,.sl 3 (l.Signs.map B9)]]) (fun zz=>zz.1≤l.Signs.length∧Al (Lm l) zz.1 ((l.Signs).drop zz.1) zz.2.1=some o1) (fun zz=>l.Signs.length - zz.1) (0,(),()) ⟨Nat.zero_le _,hJ1⟩ cu cu (fun x=>⟨rfl,rfl,rfl⟩) ?_
 clear hJ1
 rintro⟨k1,⟨⟩,⟨⟩⟩ ⟨hk1,hJ1⟩
 dsimp only at hk1 hJ1 ⊢
 refine sq (ar rfl (qn (sq ?_)))
 refine AWP.cond (Ak (fun hc=>?_) (fun hc=>?_))
 rotate_left
 ·obtain rfl:=Bf hJ1 (fun hl=>by have:=Ai7 hc;omega)
  have h:=Be hO1;try dsimp only at h
  have hkl:l.Signs.length=k1:=by have:=Ai7 hc;omega
  subst hkl
  refine xt (qe (qe (bs (qn (sq (ar rfl (qn (rt ?_))))))))
  cases h;exact en Tryz.results160
 have hlt1:k1<l.Signs.length:=by have:=Ai8 hc;omega
 obtain⟨x_3,b1,hx1_,h,hJ1⟩:=Ba hJ1 hlt1
 have hx1:=A2 hx1_
 have hw1:=wk (k:=k1) (by omega)
 unfold Lm at h;try dsimp only at h
 refine sk (qn (sq (bk (sq ?_))))
 refine rg rfl fun K j=>?_
 refine Bn.of (f:=B9) (l:=l.Signs) hx1 ?_
 refine nS ?_
 refine j _ _ (qn (sq (sq ?_)))
 refine rg rfl fun K j=>?_
 obtain⟨y4,hy4,h⟩:=Af h
 refine An.pure Tryz.call54 (Bu l.Items x_3.Item hy4) rfl fun _ hr=>?_
 subst hr
 refine nS ?_
 refine j _ _ (qn ?_)
 revert h;refine ca rfl (fun hc h=>?_) fun hc h=>?_
 ·refine sq (ar rfl (qn (rt (qr (br (qr (qr ?_)))))))
  obtain rfl:=Aa h
  obtain rfl:=Ae hJ1
  replace h:=Am hO1
  refine br (qr ?_)
  cases h;exact en Tryz.results160
 refine sk (qn (sq (sq ?_)))
 refine rg rfl fun K j=>?_
 revert h;refine gf (fun hc h=>?_) fun hc h=>?_
 rotate_left
 ·refine j _ _ (qn ?_)
  refine AWP.cond (Ah ?_)
  refine sq (ar rfl (qn (rt (qr (br (qr (qr ?_)))))))
  obtain rfl:=Aa h
  obtain rfl:=Ae hJ1
  replace h:=Am hO1
  refine br (qr ?_)
  cases h;exact en Tryz.results160
 refine j _ _ (qn ?_)
 revert h;refine ca rfl (fun hc h=>?_) fun hc h=>?_
 ·refine sq (ar rfl (qn (rt (qr (br (qr (qr ?_)))))))
  obtain rfl:=Aa h
  obtain rfl:=Ae hJ1
  replace h:=Am hO1
  refine br (qr ?_)
  cases h;exact en Tryz.results160
 refine sk (qn (sq (sq ?_)))
 refine rg rfl fun K j=>?_
 revert h;refine gf (fun hc h=>?_) fun hc h=>?_
 rotate_left
 ·refine j _ _ (qn ?_)
  refine AWP.cond (Ah ?_)
  refine sq (ar rfl (qn (rt (qr (br (qr (qr ?_)))))))
  obtain rfl:=Aa h
  obtain rfl:=Ae hJ1
  replace h:=Am hO1
  refine br (qr ?_)
  cases h;exact en Tryz.results160
 refine j _ _ (qn ?_)
 revert h;refine ca rfl (fun hc h=>?_) fun hc h=>?_
 ·refine sq (ar rfl (qn (rt (qr (br (qr (qr ?_)))))))
  obtain rfl:=Aa h
  obtain rfl:=Ae hJ1
  replace h:=Am hO1
  refine br (qr ?_)
  cases h;exact en Tryz.results160
 refine sk (qn (sq ?_))
 refine AWP.draw Tryz.mixed (by kernel_rfl) ?_;intro K j
 refine nS ?_
 revert h;refine gt (fun hc h=>?_) fun hc h=>?_
 ·obtain⟨x_5,hx_5,h⟩:=Af h
  refine Bn.of (f:=B9) (l:=l.Signs) hx_5 ?_
  refine nS ?_
  refine j _ _ _ (by kernel_rfl) ?_
  refine qn ?_
  revert h;refine ca rfl (fun hc h=>?_) fun hc h=>?_
  ·refine sq (ar rfl (qn (rt (br (qr (qr ?_))))))
   obtain rfl:=Aa h
   obtain rfl:=Ae hJ1
   replace h:=Am hO1
   refine br (qr ?_)
   cases h;exact en Tryz.results160
  refine sk (bn (qn (ar rfl (qn ?_))))
  obtain rfl:=Aa h
  refine⟨(k1+1,(),()),⟨by dsimp only;omega,Ai hJ1⟩,by dsimp only;omega,?_,?_⟩
  ·exact cuw hw1
  exact cuw hw1
 refine j _ _ _ (by kernel_rfl) ?_
 refine qn ?_
 refine AWP.cond (Bi ?_)
 refine sk (bn (qn (ar rfl (qn ?_))))
 obtain rfl:=Aa h
 refine⟨(k1+1,(),()),⟨by dsimp only;omega,Ai hJ1⟩,by dsimp only;omega,?_,?_⟩
 ·exact cuw hw1
 exact cuw hw1
def Fz (id_:Int) (k0:Nat) (x_2:Cv) (sv:Unit):Option (Out (Unit) (Int)):=
 (bif (decide (x_2.ID=id_))then some (Out.ret ((k0:Nat):Int))else some (Out.next ()))
def Mb (l:List Cv) (id_:Int):Option (Int):=
 (Al (Fz id_) 0 l ()).bind fun o0=>o0.on fun s0=>some (-1)
theorem Zg (l:List Cv) (id_:Int) {r:Int} (h:Mb l id_=some r):Ad Tryz.prog 161 [.sl 3 (l.map Az),.int .i64 id_] (·= .int .i64 r):=by
 refine Ad.nle (Ad.intro Tryz.func161 rfl rfl (by show _≤8;simp) ?_)
 unfold Mb at h
 refine nS (sq ?_)
 refine ar rfl (qn (sq ?_))
 refine rg rfl fun K j=>?_
 refine An.inline Tryz.call241 Tryz.func241 rfl rfl (by show _≤19;simp) ?_
 refine nS (sq ?_)
 refine ar rfl (qn (sq (sq ?_)))
 refine rg rfl fun K j=>?_
 intro hm
 refine j _ _ (qn (bk ?_));clear j K
 obtain⟨o0,hJ0,hO0⟩:=Af h
 clear h
 refine AWP.Bw (ι:=Nat×(Unit)×(Unit)) (fun zz=>[(0,.sl 3 (l.map Az)),(1,.func 242 [.ptr 0 0]),(7,.int .i64 ((l.length:Nat):Int)),(8,.int .i64 ((zz.1:Nat):Int))]) (fun zz=>[.box [.int .i64 id_]]) (fun zz=>zz.1≤l.length∧Al (Fz id_) zz.1 ((l).drop zz.1) zz.2.1=some o0) (fun zz=>l.length - zz.1) (0,(),()) ⟨Nat.zero_le _,hJ0⟩ cu cu (fun x=>⟨rfl,rfl,rfl⟩) ?_
 clear hJ0
 rintro⟨k0,⟨⟩,⟨⟩⟩ ⟨hk0,hJ0⟩
 dsimp only at hk0 hJ0 ⊢
 refine sq (ar rfl (qn (sq ?_)))
 refine AWP.cond (Ak (fun hc=>?_) (fun hc=>?_))
 rotate_left
 ·obtain rfl:=Bf hJ0 (fun hl=>by have:=Ai7 hc;omega)
  have h:=Be hO0;try dsimp only at h
  have hkl:l.length=k0:=by have:=Ai7 hc;omega
  subst hkl
  refine xt (qe (qe (bs (qn (sq (ar rfl (qn (rt ?_))))))))
  refine nSc Tryz.results241 ?_
  refine j _ _ (qn (rt ?_))
  cases h;exact en Tryz.results161
 have hlt0:k0<l.length:=by have:=Ai8 hc;omega
 obtain⟨x_2,b0,hx0_,h,hJ0⟩:=Ba hJ0 hlt0
 have hx0:=A2 hx0_
 have hw0:=wk (k:=k0) (by omega)
 unfold Fz at h;try dsimp only at h
 refine sk (qn (sq (bk (sq (ar rfl (qn (sq ?_)))))))
 refine rg rfl fun K j=>?_
 refine Bn.of (f:=Az) (l:=l) hx0 ?_
 refine nS ?_
 refine An.inline Tryz.call242 Tryz.func242 rfl rfl (by show _≤8;simp) ?_
 refine nS (sq ?_)
 refine ar rfl (qn (sq ?_))
 refine ar rfl (qn (rt ?_))
 refine nSc Tryz.results242 ?_
 refine j _ _ (qn ?_);clear j K
 revert h;refine ca rfl (fun hc h=>?_) fun hc h=>?_
 ·refine sq (ar rfl (qn (rt (br (qr (qr ?_))))))
  obtain rfl:=Aa h
  obtain rfl:=Ae hJ0
  replace h:=Am hO0
  refine br (qr (nSc Tryz.results241 ?_))
  refine j _ _ (qn (rt ?_))
  cases h;exact en Tryz.results161
 refine sk (bn (qn (ar rfl (qn ?_))))
 obtain rfl:=Aa h
 refine⟨(k0+1,(),()),⟨by dsimp only;omega,Ai hJ0⟩,by dsimp only;omega,?_,?_⟩
 ·exact cuw hw0
 exact cuw hw0
def Mo (p:Ca) (k1:Nat) (x_3:Cv) (sv:Unit):Option (Out (Unit) (Int)):=
 (bif (decide (x_3.ID<1))then some (Out.ret 2)else (bif (decide (9999<x_3.ID))then some (Out.ret 2)else (bif (decide (x_3.At<0))then some (Out.ret 2)else (bif (decide (20000000<x_3.At))then some (Out.ret 2)else okB (decide (0≤((k1:Nat):Int)∧((k1:Nat):Int)≤((p.Hazards.length:Nat):Int))) ((Mb (p.Hazards.take k1) x_3.ID).bind fun y4=>(bif (decide (0≤y4))then some (Out.ret 7)else (Ku p x_3.Run).bind fun y5=>(bif (decide (y5<0))then some (Out.ret 8)else some (Out.next ()))))))))
def Mm (p:Ca):Option (Int):=
 (Al (Mo p) 0 p.Hazards ()).bind fun o1=>o1.on fun s1=>some 0
def Mn (p:Ca) (k5:Nat) (x_7:Cj) (sv:Unit):Option (Out (Unit) (Int)):=
 (bif (decide (x_7.Run<1))then some (Out.ret 2)else (bif (decide (9999<x_7.Run))then some (Out.ret 2)else (bif (decide (0<((k5:Nat):Int)))then (Dk p.Bt (IntKind.i64.wrap (((k5:Nat):Int) - 1))).bind fun x_8=>(bif (decide (x_7.Run≤x_8.Run))then some (Out.ret 11)else (Jl x_7.List_).bind fun y9=>(bif (decide (y9≠0))then some (Out.ret y9)else some (Out.next ())))else (Jl x_7.List_).bind fun y10=>(bif (decide (y10≠0))then some (Out.ret y10)else some (Out.next ())))))
def N6 (p:Ca):Option (Int):=
 (bif (decide (64<((p.Bt.length:Nat):Int)))then some 4 else(bif (decide (200<((p.Hazards.length:Nat):Int)))then some 4 else(Al (Mn p) 0 p.Bt ()).bind fun o5=>o5.on fun s5=>Mm p))
theorem aD (p:Ca) {r:Int} (h:N6 p=some r):Ad Tryz.prog 76 [.agg (Ip p)] (·= .int .i64 r):=by
 refine Ad.nle (Ad.intro Tryz.func76 rfl rfl (by show _≤95;simp) ?_)
 unfold N6 at h
 refine nS (sq ?_)
 refine ar rfl (qn (sq (sq ?_)))
 refine rg rfl fun K j=>?_
 intro hm
 revert h;refine gf (fun hc h=>?_) fun hc h=>?_
 rotate_left
 ·refine j _ _ (qn ?_)
  refine AWP.cond (Ah ?_)
  refine sq (ar rfl (qn (rt (qr ?_))))
  cases h;exact en Tryz.results76
 intro hm
 refine j _ _ (qn ?_)
 revert h;refine ca rfl (fun hc h=>?_) fun hc h=>?_
 ·refine sq (ar rfl (qn (rt (qr ?_))))
  cases h;exact en Tryz.results76
 refine sk (qn ?_)
 refine AWP.Lf (ι:=(Unit)×(Unit)) (fun zz=>[(1,.ptr 0 0)]) (fun zz=>[.box [.sl 4 (p.Bt.map Au),.sl 3 (p.Hazards.map Az)]]) (fun zz=>Mm p=some r) (fun zz=>⟨rfl,rfl,rfl⟩) ?_ ?_
 ·refine sq ?_
  refine rg rfl fun K j=>?_
  intro hm
  refine j _ _ (qn (bk ?_))
  obtain⟨o5,hJ5,hO5⟩:=Af h
  clear h
  refine AWP.Bw (ι:=Nat×(Unit)×(Unit)) (fun zz=>[(1,.ptr 0 0),(19,.sl 4 (p.Bt.map Au)),(20,.int .i64 ((p.Bt.length:Nat):Int)),(21,.int .i64 ((zz.1:Nat):Int))]) (fun zz=>[.box [.sl 4 (p.Bt.map Au),.sl 3 (p.Hazards.map Az)]]) (fun zz=>zz.1≤p.Bt.length∧Al (Mn p) zz.1 ((p.Bt).drop zz.1) zz.2.1=some o5) (fun zz=>p.Bt.length - zz.1) (0,(),()) ⟨Nat.zero_le _,hJ5⟩ cu cu (fun x=>⟨rfl,rfl,rfl⟩) ?_
  clear hJ5
  rintro⟨k5,⟨⟩,⟨⟩⟩ ⟨hk5,hJ5⟩
  dsimp only at hk5 hJ5 ⊢
  refine sq (ar rfl (qn (sq ?_)))
  refine AWP.cond (Ak (fun hc=>?_) (fun hc=>?_))
  rotate_left
  ·obtain rfl:=Bf hJ5 (fun hl=>by have:=Ai7 hc;omega)
   have h:=Be hO5;try dsimp only at h
   have hkl:p.Bt.length=k5:=by have:=Ai7 hc;omega
   subst hkl
   refine xt (qe (qe (bs (qn ?_))))
   exact⟨((),()),h,cu,cu⟩
  have hlt5:k5<p.Bt.length:=by have:=Ai8 hc;omega
  obtain⟨x_7,b5,hx5_,h,hJ5⟩:=Ba hJ5 hlt5
  have hx5:=A2 hx5_
  have hw5:=wk (k:=k5) (by omega)
  unfold Mn at h;try dsimp only at h
  refine sk (qn (sq (bk (sq ?_))))
  refine rg rfl fun K j=>?_
  refine Bn.of (f:=Au) (l:=p.Bt) hx5 ?_
  refine nS ?_
  refine j _ _ (qn (sq (sq ?_)))
  refine rg rfl fun K j=>?_
  revert h;refine gf (fun hc h=>?_) fun hc h=>?_
  rotate_left
  ·refine j _ _ (qn ?_)
   refine AWP.cond (Ah ?_)
   refine sq (ar rfl (qn (rt (qr (br (qr (qr ?_)))))))
   obtain rfl:=Aa h
   obtain rfl:=Ae hJ5
   replace h:=Am hO5
   refine br (qr ?_)
   cases h;exact en Tryz.results76
  refine j _ _ (qn ?_)
  revert h;refine ca rfl (fun hc h=>?_) fun hc h=>?_
  ·refine sq (ar rfl (qn (rt (qr (br (qr (qr ?_)))))))
   obtain rfl:=Aa h
   obtain rfl:=Ae hJ5
   replace h:=Am hO5
   refine br (qr ?_)
   cases h;exact en Tryz.results76
  refine sk (qn (sq (sq ?_)))
  refine AWP.draw Tryz.mixed (by kernel_rfl) ?_;intro K j
  refine nS ?_
  revert h;refine gt (fun hc h=>?_) fun hc h=>?_
  ·obtain⟨x_8,hx_8,h⟩:=Af h
   refine Bn.of (f:=Au) (l:=p.Bt) hx_8 ?_
   refine nS ?_
   refine j _ _ _ (by kernel_rfl) ?_
   refine qn ?_
   revert h;refine ca rfl (fun hc h=>?_) fun hc h=>?_
   ·refine sq (ar rfl (qn (rt (qr (br (qr (qr ?_)))))))
    obtain rfl:=Aa h
    obtain rfl:=Ae hJ5
    replace h:=Am hO5
    refine br (qr ?_)
    cases h;exact en Tryz.results76
   refine sk (qn (sq ?_))
   refine rg rfl fun K j=>?_
   obtain⟨y9,hy9,h⟩:=Af h
   refine An.pure Tryz.call160 (R2 x_7.List_ hy9) rfl fun _ hr=>?_
   subst hr
   refine nS ?_
   refine j _ _ (qn (sq ?_))
   refine ar rfl (qn ?_)
   revert h;refine ca rfl (fun hc h=>?_) fun hc h=>?_
   ·refine sq (ar rfl (qn (rt (br (qr (qr ?_))))))
    obtain rfl:=Aa h
    obtain rfl:=Ae hJ5
    replace h:=Am hO5
    refine br (qr ?_)
    cases h;exact en Tryz.results76
   refine sk (bn (qn (ar rfl (qn ?_))))
   obtain rfl:=Aa h
   refine⟨(k5+1,(),()),⟨by dsimp only;omega,Ai hJ5⟩,by dsimp only;omega,?_,?_⟩
   ·exact cuw hw5
   exact cuw hw5
  refine j _ _ _ (by kernel_rfl) ?_
  refine qn ?_
  refine AWP.cond (Bi ?_)
  refine sk (qn (sq ?_))
  refine rg rfl fun K j=>?_
  obtain⟨y10,hy10,h⟩:=Af h
  refine An.pure Tryz.call160 (R2 x_7.List_ hy10) rfl fun _ hr=>?_
  subst hr
  refine nS ?_
  refine j _ _ (qn (sq ?_))
  refine ar rfl (qn ?_)
  revert h;refine ca rfl (fun hc h=>?_) fun hc h=>?_
  ·refine sq (ar rfl (qn (rt (br (qr (qr ?_))))))
   obtain rfl:=Aa h
   obtain rfl:=Ae hJ5
   replace h:=Am hO5
   refine br (qr ?_)
   cases h;exact en Tryz.results76
  refine sk (bn (qn (ar rfl (qn ?_))))
  obtain rfl:=Aa h
  refine⟨(k5+1,(),()),⟨by dsimp only;omega,Ai hJ5⟩,by dsimp only;omega,?_,?_⟩
  ·exact cuw hw5
  exact cuw hw5
 rintro⟨⟨⟩,⟨⟩⟩ h
 try dsimp only at h ⊢
 unfold Mm at h;try dsimp only at h
 refine sq (sq ?_)
 refine rg rfl fun K j=>?_
 intro hm
 refine j _ _ (qn (bk ?_))
 obtain⟨o1,hJ1,hO1⟩:=Af h
 clear h
 refine AWP.Bw (ι:=Nat×(Unit)×(Unit)) (fun zz=>[(1,.ptr 0 0),(56,.sl 3 (p.Hazards.map Az)),(57,.int .i64 ((p.Hazards.length:Nat):Int)),(58,.int .i64 ((zz.1:Nat):Int))]) (fun zz=>[.box [.sl 4 (p.Bt.map Au),.sl 3 (p.Hazards.map Az)]]) (fun zz=>zz.1≤p.Hazards.length∧Al (Mo p) zz.1 ((p.Hazards).drop zz.1) zz.2.1=some o1) (fun zz=>p.Hazards.length - zz.1) (0,(),()) ⟨Nat.zero_le _,hJ1⟩ cu cu (fun x=>⟨rfl,rfl,rfl⟩) ?_
 clear hJ1
 rintro⟨k1,⟨⟩,⟨⟩⟩ ⟨hk1,hJ1⟩
 dsimp only at hk1 hJ1 ⊢
 refine sq (ar rfl (qn (sq ?_)))
 refine AWP.cond (Ak (fun hc=>?_) (fun hc=>?_))
 rotate_left
 ·obtain rfl:=Bf hJ1 (fun hl=>by have:=Ai7 hc;omega)
  have h:=Be hO1;try dsimp only at h
  have hkl:p.Hazards.length=k1:=by have:=Ai7 hc;omega
  subst hkl
  refine xt (qe (qe (bs (qn (sq (ar rfl (qn (rt ?_))))))))
  cases h;exact en Tryz.results76
 have hlt1:k1<p.Hazards.length:=by have:=Ai8 hc;omega
 obtain⟨x_3,b1,hx1_,h,hJ1⟩:=Ba hJ1 hlt1
 have hx1:=A2 hx1_
 have hw1:=wk (k:=k1) (by omega)
 unfold Mo at h;try dsimp only at h
 refine sk (qn (sq (bk (sq ?_))))
 refine rg rfl fun K j=>?_
 refine Bn.of (f:=Az) (l:=p.Hazards) hx1 ?_
 refine nS ?_
 refine j _ _ (qn (sq (sq ?_)))
 refine rg rfl fun K j=>?_
 revert h;refine gf (fun hc h=>?_) fun hc h=>?_
 rotate_left
 ·refine j _ _ (qn ?_)
  refine AWP.cond (Ah ?_)
  refine sq (ar rfl (qn (rt (qr (br (qr (qr ?_)))))))
  obtain rfl:=Aa h
  obtain rfl:=Ae hJ1
  replace h:=Am hO1
  refine br (qr ?_)
  cases h;exact en Tryz.results76
 revert h;refine gf (fun hc h=>?_) fun hc h=>?_
 rotate_left
 ·refine j _ _ (qn ?_)
  refine AWP.cond (Ah ?_)
  refine sq (ar rfl (qn (rt (qr (br (qr (qr ?_)))))))
  obtain rfl:=Aa h
  obtain rfl:=Ae hJ1
  replace h:=Am hO1
  refine br (qr ?_)
  cases h;exact en Tryz.results76
 revert h;refine gf (fun hc h=>?_) fun hc h=>?_
 rotate_left
 ·refine j _ _ (qn ?_)
  refine AWP.cond (Ah ?_)
  refine sq (ar rfl (qn (rt (qr (br (qr (qr ?_)))))))
  obtain rfl:=Aa h
  obtain rfl:=Ae hJ1
  replace h:=Am hO1
  refine br (qr ?_)
  cases h;exact en Tryz.results76
 refine j _ _ (qn ?_)
 revert h;refine ca rfl (fun hc h=>?_) fun hc h=>?_
 ·refine sq (ar rfl (qn (rt (qr (br (qr (qr ?_)))))))
  obtain rfl:=Aa h
  obtain rfl:=Ae hJ1
  replace h:=Am hO1
  refine br (qr ?_)
  cases h;exact en Tryz.results76
 refine sk (qn (sq (sq ?_)))
 refine AWP.draw Tryz.mixed (by kernel_rfl) ?_;intro K j
 refine nS ?_
 obtain⟨hk,h⟩:=Hp h
 intro hm
 (repeat(refine⟨by omega,?_⟩))
 obtain⟨y4,hy4,h⟩:=Af h
 refine B7.pure Tryz.call161 (Zg (p.Hazards.take k1) x_3.ID hy4) rfl ?_
 refine nS ?_
 refine j _ _ _ (by kernel_rfl) ?_
 refine qn ?_
 revert h;refine ca rfl (fun hc h=>?_) fun hc h=>?_
 ·refine sq (ar rfl (qn (rt (qr (br (qr (qr ?_)))))))
  obtain rfl:=Aa h
  obtain rfl:=Ae hJ1
  replace h:=Am hO1
  refine br (qr ?_)
  cases h;exact en Tryz.results76
 refine sk (qn (sq ?_))
 refine rg rfl fun K j=>?_
 obtain⟨y5,hy5,h⟩:=Af h
 refine An.pure Tryz.call162 (Uk p x_3.Run hy5) rfl fun _ hr=>?_
 subst hr
 refine nS ?_
 refine j _ _ (qn ?_)
 revert h;refine ca rfl (fun hc h=>?_) fun hc h=>?_
 ·refine sq (ar rfl (qn (rt (br (qr (qr ?_))))))
  obtain rfl:=Aa h
  obtain rfl:=Ae hJ1
  replace h:=Am hO1
  refine br (qr ?_)
  cases h;exact en Tryz.results76
 refine sk (bn (qn (ar rfl (qn ?_))))
 obtain rfl:=Aa h
 refine⟨(k1+1,(),()),⟨by dsimp only;omega,Ai hJ1⟩,by dsimp only;omega,?_,?_⟩
 ·exact cuw hw1
 exact cuw hw1
def La (l:List Cy) (k0:Nat) (x_2:Cy) (sv:Unit):Option (Out (Unit) (Int)):=
 (bif (decide (x_2.Run<1))then some (Out.ret 2)else (bif (decide (9999<x_2.Run))then some (Out.ret 2)else (bif (decide (x_2.Groomed<(-1)))then some (Out.ret 2)else (bif (decide (20000000<x_2.Groomed))then some (Out.ret 2)else (bif (decide (x_2.Traffic<0))then some (Out.ret 2)else (bif (decide (1000000<x_2.Traffic))then some (Out.ret 2)else (bif (decide (0<((k0:Nat):Int)))then (Dk l (IntKind.i64.wrap (((k0:Nat):Int) - 1))).bind fun x_3=>(bif (decide (x_2.Run≤x_3.Run))then some (Out.ret 11)else some (Out.next ()))else some (Out.next ()))))))))
def L0 (l:List Cy):Option (Int):=
 (bif (decide (64<((l.length:Nat):Int)))then some 4 else(Al (La l) 0 l ()).bind fun o0=>o0.on fun s0=>some 0)
theorem Y9 (l:List Cy) {r:Int} (h:L0 l=some r):Ad Tryz.prog 77 [.sl 3 (l.map A3)] (·= .int .i64 r):=by
 refine Ad.nle (Ad.intro Tryz.func77 rfl rfl (by show _≤57;simp) ?_)
 unfold L0 at h
 refine nS (sq ?_)
 refine ar rfl (qn (sq (sq ?_)))
 refine rg rfl fun K j=>?_
 intro hm
 refine j _ _ (qn ?_)
 revert h;refine ca rfl (fun hc h=>?_) fun hc h=>?_
 ·refine sq (ar rfl (qn (rt (qr ?_))))
  cases h;exact en Tryz.results77
 refine sk (qn (sq (sq ?_)))
 refine rg rfl fun K j=>?_
 intro hm
 refine j _ _ (qn (bk ?_))
 obtain⟨o0,hJ0,hO0⟩:=Af h
 clear h
 refine AWP.Bw (ι:=Nat×(Unit)×(Unit)) (fun zz=>[(0,.sl 3 (l.map A3)),(8,.sl 3 (l.map A3)),(9,.int .i64 ((l.length:Nat):Int)),(10,.int .i64 ((zz.1:Nat):Int))]) (fun zz=>[]) (fun zz=>zz.1≤l.length∧Al (La l) zz.1 ((l).drop zz.1) zz.2.1=some o0) (fun zz=>l.length - zz.1) (0,(),()) ⟨Nat.zero_le _,hJ0⟩ cu cu (fun x=>⟨rfl,rfl,rfl⟩) ?_
 clear hJ0
 rintro⟨k0,⟨⟩,⟨⟩⟩ ⟨hk0,hJ0⟩
 dsimp only at hk0 hJ0 ⊢
 refine sq (ar rfl (qn (sq ?_)))
 refine AWP.cond (Ak (fun hc=>?_) (fun hc=>?_))
 rotate_left
 ·obtain rfl:=Bf hJ0 (fun hl=>by have:=Ai7 hc;omega)
  have h:=Be hO0;try dsimp only at h
  have hkl:l.length=k0:=by have:=Ai7 hc;omega
  subst hkl
  refine xt (qe (qe (bs (qn (sq (ar rfl (qn (rt ?_))))))))
  cases h;exact en Tryz.results77
 have hlt0:k0<l.length:=by have:=Ai8 hc;omega
 obtain⟨x_2,b0,hx0_,h,hJ0⟩:=Ba hJ0 hlt0
 have hx0:=A2 hx0_
 have hw0:=wk (k:=k0) (by omega)
 unfold La at h;try dsimp only at h
 refine sk (qn (sq (bk (sq ?_))))
 refine rg rfl fun K j=>?_
 refine Bn.of (f:=A3) (l:=l) hx0 ?_
 refine nS ?_
 refine j _ _ (qn (sq (sq ?_)))
 refine rg rfl fun K j=>?_
 revert h;refine gf (fun hc h=>?_) fun hc h=>?_
 rotate_left
 ·refine j _ _ (qn ?_)
  refine AWP.cond (Ah ?_)
  refine sq (ar rfl (qn (rt (qr (br (qr (qr ?_)))))))
  obtain rfl:=Aa h
  obtain rfl:=Ae hJ0
  replace h:=Am hO0
  refine br (qr ?_)
  cases h;exact en Tryz.results77
 revert h;refine gf (fun hc h=>?_) fun hc h=>?_
 rotate_left
 ·refine j _ _ (qn ?_)
  refine AWP.cond (Ah ?_)
  refine sq (ar rfl (qn (rt (qr (br (qr (qr ?_)))))))
  obtain rfl:=Aa h
  obtain rfl:=Ae hJ0
  replace h:=Am hO0
  refine br (qr ?_)
  cases h;exact en Tryz.results77
 revert h;refine gf (fun hc h=>?_) fun hc h=>?_
 rotate_left
 ·refine j _ _ (qn ?_)
  refine AWP.cond (Ah ?_)
  refine sq (ar rfl (qn (rt (qr (br (qr (qr ?_)))))))
  obtain rfl:=Aa h
  obtain rfl:=Ae hJ0
  replace h:=Am hO0
  refine br (qr ?_)
  cases h;exact en Tryz.results77
 revert h;refine gf (fun hc h=>?_) fun hc h=>?_
 rotate_left
 ·refine j _ _ (qn ?_)
  refine AWP.cond (Ah ?_)
  refine sq (ar rfl (qn (rt (qr (br (qr (qr ?_)))))))
  obtain rfl:=Aa h
  obtain rfl:=Ae hJ0
  replace h:=Am hO0
  refine br (qr ?_)
  cases h;exact en Tryz.results77
 revert h;refine gf (fun hc h=>?_) fun hc h=>?_
 rotate_left
 ·refine j _ _ (qn ?_)
  refine AWP.cond (Ah ?_)
  refine sq (ar rfl (qn (rt (qr (br (qr (qr ?_)))))))
  obtain rfl:=Aa h
  obtain rfl:=Ae hJ0
  replace h:=Am hO0
  refine br (qr ?_)
  cases h;exact en Tryz.results77
 refine j _ _ (qn ?_)
 revert h;refine ca rfl (fun hc h=>?_) fun hc h=>?_
 ·refine sq (ar rfl (qn (rt (qr (br (qr (qr ?_)))))))
  obtain rfl:=Aa h
  obtain rfl:=Ae hJ0
  replace h:=Am hO0
  refine br (qr ?_)
  cases h;exact en Tryz.results77
 refine sk (qn (sq ?_))
 refine AWP.draw Tryz.mixed (by kernel_rfl) ?_;intro K j
 refine nS ?_
 revert h;refine gt (fun hc h=>?_) fun hc h=>?_
 ·obtain⟨x_3,hx_3,h⟩:=Af h
  refine Bn.of (f:=A3) (l:=l) hx_3 ?_
  refine nS ?_
  refine j _ _ _ (by kernel_rfl) ?_
  refine qn ?_
  revert h;refine ca rfl (fun hc h=>?_) fun hc h=>?_
  ·refine sq (ar rfl (qn (rt (br (qr (qr ?_))))))
   obtain rfl:=Aa h
   obtain rfl:=Ae hJ0
   replace h:=Am hO0
   refine br (qr ?_)
   cases h;exact en Tryz.results77
  refine sk (bn (qn (ar rfl (qn ?_))))
  obtain rfl:=Aa h
  refine⟨(k0+1,(),()),⟨by dsimp only;omega,Ai hJ0⟩,by dsimp only;omega,?_,?_⟩
  ·exact cuw hw0
  exact cuw hw0
 refine j _ _ _ (by kernel_rfl) ?_
 refine qn ?_
 refine AWP.cond (Bi ?_)
 refine sk (bn (qn (ar rfl (qn ?_))))
 obtain rfl:=Aa h
 refine⟨(k0+1,(),()),⟨by dsimp only;omega,Ai hJ0⟩,by dsimp only;omega,?_,?_⟩
 ·exact cuw hw0
 exact cuw hw0
def Gu (s_:Bd):Option (Bool):=
 (bif (decide (1≤s_.ID))then (bif (decide (s_.ID≤9999))then (bif (decide (4≤s_.Limit))then (bif (decide (s_.Limit≤100000))then (bif (decide (0≤s_.Load))then (bif (decide (s_.Load≤100000))then (bif (decide ((-1)≤s_.Controlled))then some (decide (s_.Controlled≤20000000))else some false)else some false)else some false)else some false)else some false)else some false)else some false)
theorem Vn (s_:Bd) {r:Bool} (h:Gu s_=some r):Ad Tryz.prog 163 [.agg (A9 s_)] (·= .bool r):=by
 refine Ad.nle (Ad.intro Tryz.func163 rfl rfl (by show _≤41;simp) ?_)
 unfold Gu at h
 refine nS (sq ?_)
 refine ar rfl (qn (sq ?_))
 refine rg rfl fun K j=>?_
 revert h;refine gt (fun hc h=>?_) fun hc h=>?_
 rotate_left
 ·refine j _ _ (qn (rt ?_))
  cases h;exact en Tryz.results163
 revert h;refine gt (fun hc h=>?_) fun hc h=>?_
 rotate_left
 ·refine j _ _ (qn (rt ?_))
  cases h;exact en Tryz.results163
 revert h;refine gt (fun hc h=>?_) fun hc h=>?_
 ·revert h;refine gt (fun hc h=>?_) fun hc h=>?_
  ·revert h;refine gt (fun hc h=>?_) fun hc h=>?_
   ·revert h;refine gt (fun hc h=>?_) fun hc h=>?_
    ·revert h;refine gt (fun hc h=>?_) fun hc h=>?_
     ·refine j _ _ (qn (rt ?_))
      cases h;exact en Tryz.results163
     refine j _ _ (qn (rt ?_))
     cases h;exact en Tryz.results163
    refine j _ _ (qn (rt ?_))
    cases h;exact en Tryz.results163
   refine j _ _ (qn (rt ?_))
   cases h;exact en Tryz.results163
  refine j _ _ (qn (rt ?_))
  cases h;exact en Tryz.results163
 refine j _ _ (qn (rt ?_))
 cases h;exact en Tryz.results163
def Gv (id_:Int) (k0:Nat) (x_2:Bd) (sv:Unit):Option (Out (Unit) (Int)):=
 (bif (decide (x_2.ID=id_))then some (Out.ret ((k0:Nat):Int))else some (Out.next ()))
def Hy (l:List Bd) (id_:Int):Option (Int):=
 (Al (Gv id_) 0 l ()).bind fun o0=>o0.on fun s0=>some (-1)
theorem Yt (l:List Bd) (id_:Int) {r:Int} (h:Hy l id_=some r):Ad Tryz.prog 164 [.sl 6 (l.map A9),.int .i64 id_] (·= .int .i64 r):=by
 refine Ad.nle (Ad.intro Tryz.func164 rfl rfl (by show _≤8;simp) ?_)
 unfold Hy at h
 refine nS (sq ?_)
 refine ar rfl (qn (sq ?_))
 refine rg rfl fun K j=>?_
 refine An.inline Tryz.call245 Tryz.func245 rfl rfl (by show _≤19;simp) ?_
 refine nS (sq ?_)
 refine ar rfl (qn (sq (sq ?_)))
 refine rg rfl fun K j=>?_
 intro hm
 refine j _ _ (qn (bk ?_));clear j K
 obtain⟨o0,hJ0,hO0⟩:=Af h
 clear h
 refine AWP.Bw (ι:=Nat×(Unit)×(Unit)) (fun zz=>[(0,.sl 6 (l.map A9)),(1,.func 246 [.ptr 0 0]),(7,.int .i64 ((l.length:Nat):Int)),(8,.int .i64 ((zz.1:Nat):Int))]) (fun zz=>[.box [.int .i64 id_]]) (fun zz=>zz.1≤l.length∧Al (Gv id_) zz.1 ((l).drop zz.1) zz.2.1=some o0) (fun zz=>l.length - zz.1) (0,(),()) ⟨Nat.zero_le _,hJ0⟩ cu cu (fun x=>⟨rfl,rfl,rfl⟩) ?_
 clear hJ0
 rintro⟨k0,⟨⟩,⟨⟩⟩ ⟨hk0,hJ0⟩
 dsimp only at hk0 hJ0 ⊢
 refine sq (ar rfl (qn (sq ?_)))
 refine AWP.cond (Ak (fun hc=>?_) (fun hc=>?_))
 rotate_left
 ·obtain rfl:=Bf hJ0 (fun hl=>by have:=Ai7 hc;omega)
  have h:=Be hO0;try dsimp only at h
  have hkl:l.length=k0:=by have:=Ai7 hc;omega
  subst hkl
  refine xt (qe (qe (bs (qn (sq (ar rfl (qn (rt ?_))))))))
  refine nSc Tryz.results245 ?_
  refine j _ _ (qn (rt ?_))
  cases h;exact en Tryz.results164
 have hlt0:k0<l.length:=by have:=Ai8 hc;omega
 obtain⟨x_2,b0,hx0_,h,hJ0⟩:=Ba hJ0 hlt0
 have hx0:=A2 hx0_
 have hw0:=wk (k:=k0) (by omega)
 unfold Gv at h;try dsimp only at h
 refine sk (qn (sq (bk (sq (ar rfl (qn (sq ?_)))))))
 refine rg rfl fun K j=>?_
 refine Bn.of (f:=A9) (l:=l) hx0 ?_
 refine nS ?_
 refine An.inline Tryz.call246 Tryz.func246 rfl rfl (by show _≤8;simp) ?_
 refine nS (sq ?_)
 refine ar rfl (qn (sq ?_))
 refine ar rfl (qn (rt ?_))
 refine nSc Tryz.results246 ?_
 refine j _ _ (qn ?_);clear j K
 revert h;refine ca rfl (fun hc h=>?_) fun hc h=>?_
 ·refine sq (ar rfl (qn (rt (br (qr (qr ?_))))))
  obtain rfl:=Aa h
  obtain rfl:=Ae hJ0
  replace h:=Am hO0
  refine br (qr (nSc Tryz.results245 ?_))
  refine j _ _ (qn (rt ?_))
  cases h;exact en Tryz.results164
 refine sk (bn (qn (ar rfl (qn ?_))))
 obtain rfl:=Aa h
 refine⟨(k0+1,(),()),⟨by dsimp only;omega,Ai hJ0⟩,by dsimp only;omega,?_,?_⟩
 ·exact cuw hw0
 exact cuw hw0
def Ee (l:List Int) (most:Int) (k0:Nat) (x_2:Int) (sv:Unit):Option (Out (Unit) (Bool)):=
 (bif (decide (x_2<1))then some (Out.ret false)else (bif (decide (most<x_2))then some (Out.ret false)else (bif (decide (0<((k0:Nat):Int)))then (Dk l (IntKind.i64.wrap (((k0:Nat):Int) - 1))).bind fun x_3=>(bif (decide (x_2≤x_3))then some (Out.ret false)else some (Out.next ()))else some (Out.next ()))))
def Ef (l:List Int) (most:Int):Option (Bool):=
 (Al (Ee l most) 0 l ()).bind fun o0=>o0.on fun s0=>some true
theorem Ls (l:List Int) (most:Int) {r:Bool} (h:Ef l most=some r):Ad Tryz.prog 165 [.sl 1 (l.map A5),.int .i64 most] (·= .bool r):=by
 refine Ad.nle (Ad.intro Tryz.func165 rfl rfl (by show _≤35;simp) ?_)
 unfold Ef at h
 refine nS (sq ?_)
 refine ar rfl (qn (sq (sq ?_)))
 refine rg rfl fun K j=>?_
 intro hm
 refine j _ _ (qn (bk ?_))
 obtain⟨o0,hJ0,hO0⟩:=Af h
 clear h
 refine AWP.Bw (ι:=Nat×(Unit)×(Unit)) (fun zz=>[(0,.sl 1 (l.map A5)),(1,.int .i64 most),(7,.sl 1 (l.map A5)),(8,.int .i64 ((l.length:Nat):Int)),(9,.int .i64 ((zz.1:Nat):Int))]) (fun zz=>[]) (fun zz=>zz.1≤l.length∧Al (Ee l most) zz.1 ((l).drop zz.1) zz.2.1=some o0) (fun zz=>l.length - zz.1) (0,(),()) ⟨Nat.zero_le _,hJ0⟩ cu cu (fun x=>⟨rfl,rfl,rfl⟩) ?_
 clear hJ0
 rintro⟨k0,⟨⟩,⟨⟩⟩ ⟨hk0,hJ0⟩
 dsimp only at hk0 hJ0 ⊢
 refine sq (ar rfl (qn (sq ?_)))
 refine AWP.cond (Ak (fun hc=>?_) (fun hc=>?_))
 rotate_left
 ·obtain rfl:=Bf hJ0 (fun hl=>by have:=Ai7 hc;omega)
  have h:=Be hO0;try dsimp only at h
  have hkl:l.length=k0:=by have:=Ai7 hc;omega
  subst hkl
  refine xt (qe (qe (bs (qn (sq (ar rfl (qn (rt ?_))))))))
  cases h;exact en Tryz.results165
 have hlt0:k0<l.length:=by have:=Ai8 hc;omega
 obtain⟨x_2,b0,hx0_,h,hJ0⟩:=Ba hJ0 hlt0
 have hx0:=A2 hx0_
 have hw0:=wk (k:=k0) (by omega)
 unfold Ee at h;try dsimp only at h
 refine sk (qn (sq (bk (sq ?_))))
 refine rg rfl fun K j=>?_
 refine Bn.of (f:=A5) (l:=l) hx0 ?_
 refine nS ?_
 refine j _ _ (qn (sq ?_))
 refine rg rfl fun K j=>?_
 revert h;refine gf (fun hc h=>?_) fun hc h=>?_
 rotate_left
 ·refine j _ _ (qn ?_)
  refine AWP.cond (Ah ?_)
  refine sq (ar rfl (qn (rt (br (qr (qr ?_))))))
  obtain rfl:=Aa h
  obtain rfl:=Ae hJ0
  replace h:=Am hO0
  refine br (qr ?_)
  cases h;exact en Tryz.results165
 revert h;refine gf (fun hc h=>?_) fun hc h=>?_
 rotate_left
 ·refine j _ _ (qn ?_)
  refine AWP.cond (Ah ?_)
  refine sq (ar rfl (qn (rt (br (qr (qr ?_))))))
  obtain rfl:=Aa h
  obtain rfl:=Ae hJ0
  replace h:=Am hO0
  refine br (qr ?_)
  cases h;exact en Tryz.results165
 revert h;refine gt (fun hc h=>?_) fun hc h=>?_
 ·obtain⟨x_3,hx_3,h⟩:=Af h
  refine Bn.of (f:=A5) (l:=l) hx_3 ?_
  refine nS ?_
  refine j _ _ (qn ?_)
  revert h;refine ca rfl (fun hc h=>?_) fun hc h=>?_
  ·refine sq (ar rfl (qn (rt (br (qr (qr ?_))))))
   obtain rfl:=Aa h
   obtain rfl:=Ae hJ0
   replace h:=Am hO0
   refine br (qr ?_)
   cases h;exact en Tryz.results165
  refine sk (bn (qn (ar rfl (qn ?_))))
  obtain rfl:=Aa h
  refine⟨(k0+1,(),()),⟨by dsimp only;omega,Ai hJ0⟩,by dsimp only;omega,?_,?_⟩
  ·exact cuw hw0
  exact cuw hw0
 refine j _ _ (qn ?_)
 refine AWP.cond (Bi ?_)
 refine sk (bn (qn (ar rfl (qn ?_))))
 obtain rfl:=Aa h
 refine⟨(k0+1,(),()),⟨by dsimp only;omega,Ai hJ0⟩,by dsimp only;omega,?_,?_⟩
 ·exact cuw hw0
 exact cuw hw0
def E3 (l:List Bd) (k0:Nat) (x_2:Bd) (sv:Unit):Option (Out (Unit) (Int)):=
 (Gu x_2).bind fun y3=>(bif (!y3)then some (Out.ret 2)else okB (decide (0≤((k0:Nat):Int)∧((k0:Nat):Int)≤((l.length:Nat):Int))) ((Hy (l.take k0) x_2.ID).bind fun y4=>(bif (decide (0≤y4))then some (Out.ret 7)else (bif (decide (((x_2.Zones.length:Nat):Int)=0))then some (Out.ret 1)else (Ef x_2.Zones 32).bind fun y5=>(bif (!y5)then some (Out.ret 1)else (Ef x_2.Lifts 9999).bind fun y6=>(bif (!y6)then some (Out.ret 1)else some (Out.next ())))))))
def Jg (l:List Bd):Option (Int):=
 (bif (decide (32<((l.length:Nat):Int)))then some 4 else(Al (E3 l) 0 l ()).bind fun o0=>o0.on fun s0=>some 0)
theorem Xj (l:List Bd) {r:Int} (h:Jg l=some r):Ad Tryz.prog 78 [.sl 6 (l.map A9)] (·= .int .i64 r):=by
 refine Ad.nle (Ad.intro Tryz.func78 rfl rfl (by show _≤42;simp) ?_)
 unfold Jg at h
 refine nS (sq ?_)
 refine ar rfl (qn (sq (sq ?_)))
 refine rg rfl fun K j=>?_
 intro hm
 refine j _ _ (qn ?_)
 revert h;refine ca rfl (fun hc h=>?_) fun hc h=>?_
 ·refine sq (ar rfl (qn (rt (qr ?_))))
  cases h;exact en Tryz.results78
 refine sk (qn (sq (sq ?_)))
 refine rg rfl fun K j=>?_
 intro hm
 refine j _ _ (qn (bk ?_))
 obtain⟨o0,hJ0,hO0⟩:=Af h
 clear h
 refine AWP.Bw (ι:=Nat×(Unit)×(Unit)) (fun zz=>[(0,.sl 6 (l.map A9)),(8,.sl 6 (l.map A9)),(9,.int .i64 ((l.length:Nat):Int)),(10,.int .i64 ((zz.1:Nat):Int))]) (fun zz=>[]) (fun zz=>zz.1≤l.length∧Al (E3 l) zz.1 ((l).drop zz.1) zz.2.1=some o0) (fun zz=>l.length - zz.1) (0,(),()) ⟨Nat.zero_le _,hJ0⟩ cu cu (fun x=>⟨rfl,rfl,rfl⟩) ?_
 clear hJ0
 rintro⟨k0,⟨⟩,⟨⟩⟩ ⟨hk0,hJ0⟩
 dsimp only at hk0 hJ0 ⊢
 refine sq (ar rfl (qn (sq ?_)))
 refine AWP.cond (Ak (fun hc=>?_) (fun hc=>?_))
 rotate_left
 ·obtain rfl:=Bf hJ0 (fun hl=>by have:=Ai7 hc;omega)
  have h:=Be hO0;try dsimp only at h
  have hkl:l.length=k0:=by have:=Ai7 hc;omega
  subst hkl
  refine xt (qe (qe (bs (qn (sq (ar rfl (qn (rt ?_))))))))
  cases h;exact en Tryz.results78
 have hlt0:k0<l.length:=by have:=Ai8 hc;omega
 obtain⟨x_2,b0,hx0_,h,hJ0⟩:=Ba hJ0 hlt0
 have hx0:=A2 hx0_
 have hw0:=wk (k:=k0) (by omega)
 unfold E3 at h;try dsimp only at h
 refine sk (qn (sq (bk (sq ?_))))
 refine rg rfl fun K j=>?_
 refine Bn.of (f:=A9) (l:=l) hx0 ?_
 refine nS ?_
 refine j _ _ (qn (sq (sq ?_)))
 refine rg rfl fun K j=>?_
 obtain⟨y3,hy3,h⟩:=Af h
 refine An.pure Tryz.call163 (Vn x_2 hy3) rfl fun _ hr=>?_
 subst hr
 refine nS ?_
 refine j _ _ (qn ?_)
 revert h;refine ca rfl (fun hc h=>?_) fun hc h=>?_
 ·refine sq (ar rfl (qn (rt (qr (br (qr (qr ?_)))))))
  obtain rfl:=Aa h
  obtain rfl:=Ae hJ0
  replace h:=Am hO0
  refine br (qr ?_)
  cases h;exact en Tryz.results78
 refine sk (qn (sq (sq ?_)))
 refine AWP.draw Tryz.mixed (by kernel_rfl) ?_;intro K j
 refine nS ?_
 obtain⟨hk,h⟩:=Hp h
 intro hm
 (repeat(refine⟨by omega,?_⟩))
 obtain⟨y4,hy4,h⟩:=Af h
 refine B7.pure Tryz.call164 (Yt (l.take k0) x_2.ID hy4) rfl ?_
 refine nS ?_
 refine j _ _ _ (by kernel_rfl) ?_
 refine qn ?_
 revert h;refine ca rfl (fun hc h=>?_) fun hc h=>?_
 ·refine sq (ar rfl (qn (rt (qr (br (qr (qr ?_)))))))
  obtain rfl:=Aa h
  obtain rfl:=Ae hJ0
  replace h:=Am hO0
  refine br (qr ?_)
  cases h;exact en Tryz.results78
 refine sk (qn (sq ?_))
 refine rg rfl fun K j=>?_
 intro hm
 revert h;refine gf (fun hc h=>?_) fun hc h=>?_
 rotate_left
 ·refine j _ _ (qn ?_)
  refine AWP.cond (Ah ?_)
  refine sq (ar rfl (qn (rt (br (qr (qr ?_))))))
  obtain rfl:=Aa h
  obtain rfl:=Ae hJ0
  replace h:=Am hO0
  refine br (qr ?_)
  cases h;exact en Tryz.results78
 obtain⟨y5,hy5,h⟩:=Af h
 refine An.pure Tryz.call165 (Ls x_2.Zones 32 hy5) rfl fun _ hr=>?_
 subst hr
 refine nS ?_
 revert h;refine gf (fun hc h=>?_) fun hc h=>?_
 ·obtain⟨y6,hy6,h⟩:=Af h
  refine An.pure Tryz.call165 (Ls x_2.Lifts 9999 hy6) rfl fun _ hr=>?_
  subst hr
  refine nS ?_
  refine j _ _ (qn ?_)
  revert h;refine ca rfl (fun hc h=>?_) fun hc h=>?_
  ·refine sq (ar rfl (qn (rt (br (qr (qr ?_))))))
   obtain rfl:=Aa h
   obtain rfl:=Ae hJ0
   replace h:=Am hO0
   refine br (qr ?_)
   cases h;exact en Tryz.results78
  refine sk (bn (qn (ar rfl (qn ?_))))
  obtain rfl:=Aa h
  refine⟨(k0+1,(),()),⟨by dsimp only;omega,Ai hJ0⟩,by dsimp only;omega,?_,?_⟩
  ·exact cuw hw0
  exact cuw hw0
 refine j _ _ (qn ?_)
 refine AWP.cond (Ah ?_)
 refine sq (ar rfl (qn (rt (br (qr (qr ?_))))))
 obtain rfl:=Aa h
 obtain rfl:=Ae hJ0
 replace h:=Am hO0
 refine br (qr ?_)
 cases h;exact en Tryz.results78
def Ht (b:Bl):Option (Bool):=
 (bif (decide (b.Version<1))then some false else(bif (decide (1000000<b.Version))then some false else(bif (decide (b.Span.From<0))then some false else(bif (decide (b.Span.To≤b.Span.From))then some false else(bif (decide (20000000<b.Span.To))then some false else(bif (decide (b.Low<0))then some false else(bif (decide (b.High≤b.Low))then some false else(bif (decide (6000<b.High))then some false else(bif (decide (1≤b.Level))then some (decide (b.Level≤5))else some false)))))))))
theorem V8 (b:Bl) {r:Bool} (h:Ht b=some r):Ad Tryz.prog 166 [.agg (Aw b)] (·= .bool r):=by
 refine Ad.nle (Ad.intro Tryz.func166 rfl rfl (by show _≤53;simp) ?_)
 unfold Ht at h
 refine nS (sq ?_)
 refine ar rfl (qn (sq (sq ?_)))
 refine rg rfl fun K j=>?_
 revert h;refine gf (fun hc h=>?_) fun hc h=>?_
 rotate_left
 ·refine j _ _ (qn ?_)
  refine AWP.cond (Ah ?_)
  refine sq (ar rfl (qn (rt (qr ?_))))
  cases h;exact en Tryz.results166
 refine j _ _ (qn ?_)
 revert h;refine ca rfl (fun hc h=>?_) fun hc h=>?_
 ·refine sq (ar rfl (qn (rt (qr ?_))))
  cases h;exact en Tryz.results166
 refine sk (qn (sq (sq ?_)))
 refine rg rfl fun K j=>?_
 revert h;refine gf (fun hc h=>?_) fun hc h=>?_
 rotate_left
 ·refine j _ _ (qn ?_)
  refine AWP.cond (Ah ?_)
  refine sq (ar rfl (qn (rt (qr ?_))))
  cases h;exact en Tryz.results166
 revert h;refine gf (fun hc h=>?_) fun hc h=>?_
 rotate_left
 ·refine j _ _ (qn ?_)
  refine AWP.cond (Ah ?_)
  refine sq (ar rfl (qn (rt (qr ?_))))
  cases h;exact en Tryz.results166
 refine j _ _ (qn ?_)
 revert h;refine ca rfl (fun hc h=>?_) fun hc h=>?_
 ·refine sq (ar rfl (qn (rt (qr ?_))))
  cases h;exact en Tryz.results166
 refine sk (qn (sq (sq ?_)))
 refine rg rfl fun K j=>?_
 revert h;refine gf (fun hc h=>?_) fun hc h=>?_
 ·revert h;refine gf (fun hc h=>?_) fun hc h=>?_
  ·refine j _ _ (qn ?_)
   revert h;refine ca rfl (fun hc h=>?_) fun hc h=>?_
   ·refine sq (ar rfl (qn (rt (qr ?_))))
    cases h;exact en Tryz.results166
   refine sk (qn (sq ?_))
   refine rg rfl fun K j=>?_
   revert h;refine gt (fun hc h=>?_) fun hc h=>?_
   ·refine j _ _ (qn (rt ?_))
    cases h;exact en Tryz.results166
   refine j _ _ (qn (rt ?_))
   cases h;exact en Tryz.results166
  refine j _ _ (qn ?_)
  refine AWP.cond (Ah ?_)
  refine sq (ar rfl (qn (rt (qr ?_))))
  cases h;exact en Tryz.results166
 refine j _ _ (qn ?_)
 refine AWP.cond (Ah ?_)
 refine sq (ar rfl (qn (rt (qr ?_))))
 cases h;exact en Tryz.results166
def Iq (zones:List Int) (k0:Nat) (x_2:Int) (sv:Unit):Option (Out (Unit) (Bool)):=
 (bif (decide (x_2<1))then some (Out.ret false)else (bif (decide (32<x_2))then some (Out.ret false)else (bif (decide (0<((k0:Nat):Int)))then (Dk zones (IntKind.i64.wrap (((k0:Nat):Int) - 1))).bind fun x_3=>(bif (decide (x_2≤x_3))then some (Out.ret false)else some (Out.next ()))else some (Out.next ()))))
def Lx (zones:List Int):Option (Bool):=
 (Al (Iq zones) 0 zones ()).bind fun o0=>o0.on fun s0=>some (decide (0<((zones.length:Nat):Int)))
theorem Ty (zones:List Int) {r:Bool} (h:Lx zones=some r):Ad Tryz.prog 167 [.sl 1 (zones.map A5)] (·= .bool r):=by
 refine Ad.nle (Ad.intro Tryz.func167 rfl rfl (by show _≤35;simp) ?_)
 unfold Lx at h
 refine nS (sq ?_)
 refine ar rfl (qn (sq (sq ?_)))
 refine rg rfl fun K j=>?_
 intro hm
 refine j _ _ (qn (bk ?_))
 obtain⟨o0,hJ0,hO0⟩:=Af h
 clear h
 refine AWP.Bw (ι:=Nat×(Unit)×(Unit)) (fun zz=>[(0,.sl 1 (zones.map A5)),(5,.sl 1 (zones.map A5)),(6,.int .i64 ((zones.length:Nat):Int)),(7,.int .i64 ((zz.1:Nat):Int))]) (fun zz=>[]) (fun zz=>zz.1≤zones.length∧Al (Iq zones) zz.1 ((zones).drop zz.1) zz.2.1=some o0) (fun zz=>zones.length - zz.1) (0,(),()) ⟨Nat.zero_le _,hJ0⟩ cu cu (fun x=>⟨rfl,rfl,rfl⟩) ?_
 clear hJ0
 rintro⟨k0,⟨⟩,⟨⟩⟩ ⟨hk0,hJ0⟩
 dsimp only at hk0 hJ0 ⊢
 refine sq (ar rfl (qn (sq ?_)))
 refine AWP.cond (Ak (fun hc=>?_) (fun hc=>?_))
 rotate_left
 ·obtain rfl:=Bf hJ0 (fun hl=>by have:=Ai7 hc;omega)
  have h:=Be hO0;try dsimp only at h
  have hkl:zones.length=k0:=by have:=Ai7 hc;omega
  subst hkl
  refine xt (qe (qe (bs (qn (sq ?_)))))
  refine rg rfl fun K j=>?_
  intro hm
  refine j _ _ (qn (rt ?_))
  cases h;exact en Tryz.results167
 have hlt0:k0<zones.length:=by have:=Ai8 hc;omega
 obtain⟨x_2,b0,hx0_,h,hJ0⟩:=Ba hJ0 hlt0
 have hx0:=A2 hx0_
 have hw0:=wk (k:=k0) (by omega)
 unfold Iq at h;try dsimp only at h
 refine sk (qn (sq (bk (sq ?_))))
 refine rg rfl fun K j=>?_
 refine Bn.of (f:=A5) (l:=zones) hx0 ?_
 refine nS ?_
 refine j _ _ (qn (sq ?_))
 refine rg rfl fun K j=>?_
 revert h;refine gf (fun hc h=>?_) fun hc h=>?_
 rotate_left
 ·refine j _ _ (qn ?_)
  refine AWP.cond (Ah ?_)
  refine sq (ar rfl (qn (rt (br (qr (qr ?_))))))
  obtain rfl:=Aa h
  obtain rfl:=Ae hJ0
  replace h:=Am hO0
  refine br (qr ?_)
  cases h;exact en Tryz.results167
 revert h;refine gf (fun hc h=>?_) fun hc h=>?_
 rotate_left
 ·refine j _ _ (qn ?_)
  refine AWP.cond (Ah ?_)
  refine sq (ar rfl (qn (rt (br (qr (qr ?_))))))
  obtain rfl:=Aa h
  obtain rfl:=Ae hJ0
  replace h:=Am hO0
  refine br (qr ?_)
  cases h;exact en Tryz.results167
 revert h;refine gt (fun hc h=>?_) fun hc h=>?_
 ·obtain⟨x_3,hx_3,h⟩:=Af h
  refine Bn.of (f:=A5) (l:=zones) hx_3 ?_
  refine nS ?_
  refine j _ _ (qn ?_)
  revert h;refine ca rfl (fun hc h=>?_) fun hc h=>?_
  ·refine sq (ar rfl (qn (rt (br (qr (qr ?_))))))
   obtain rfl:=Aa h
   obtain rfl:=Ae hJ0
   replace h:=Am hO0
   refine br (qr ?_)
   cases h;exact en Tryz.results167
  refine sk (bn (qn (ar rfl (qn ?_))))
  obtain rfl:=Aa h
  refine⟨(k0+1,(),()),⟨by dsimp only;omega,Ai hJ0⟩,by dsimp only;omega,?_,?_⟩
  ·exact cuw hw0
  exact cuw hw0
 refine j _ _ (qn ?_)
 refine AWP.cond (Bi ?_)
 refine sk (bn (qn (ar rfl (qn ?_))))
 obtain rfl:=Aa h
 refine⟨(k0+1,(),()),⟨by dsimp only;omega,Ai hJ0⟩,by dsimp only;omega,?_,?_⟩
 ·exact cuw hw0
 exact cuw hw0
def Em (l:List Bl) (k0:Nat) (x_2:Bl) (sv:Unit):Option (Out (Unit) (Int)):=
 (Ht x_2).bind fun y3=>(bif (!y3)then some (Out.ret 2)else (Lx x_2.Zones).bind fun y4=>(bif (!y4)then some (Out.ret 1)else (bif (decide (0<((k0:Nat):Int)))then (Dk l (IntKind.i64.wrap (((k0:Nat):Int) - 1))).bind fun x_5=>(bif (decide (x_2.Version<x_5.Version))then some (Out.ret 11)else some (Out.next ()))else some (Out.next ()))))
def Hu (l:List Bl):Option (Int):=
 (bif (decide (64<((l.length:Nat):Int)))then some 4 else(Al (Em l) 0 l ()).bind fun o0=>o0.on fun s0=>some 0)
theorem Yq (l:List Bl) {r:Int} (h:Hu l=some r):Ad Tryz.prog 79 [.sl 7 (l.map Aw)] (·= .int .i64 r):=by
 refine Ad.nle (Ad.intro Tryz.func79 rfl rfl (by show _≤36;simp) ?_)
 unfold Hu at h
 refine nS (sq ?_)
 refine ar rfl (qn (sq (sq ?_)))
 refine rg rfl fun K j=>?_
 intro hm
 refine j _ _ (qn ?_)
 revert h;refine ca rfl (fun hc h=>?_) fun hc h=>?_
 ·refine sq (ar rfl (qn (rt (qr ?_))))
  cases h;exact en Tryz.results79
 refine sk (qn (sq (sq ?_)))
 refine rg rfl fun K j=>?_
 intro hm
 refine j _ _ (qn (bk ?_))
 obtain⟨o0,hJ0,hO0⟩:=Af h
 clear h
 refine AWP.Bw (ι:=Nat×(Unit)×(Unit)) (fun zz=>[(0,.sl 7 (l.map Aw)),(8,.sl 7 (l.map Aw)),(9,.int .i64 ((l.length:Nat):Int)),(10,.int .i64 ((zz.1:Nat):Int))]) (fun zz=>[]) (fun zz=>zz.1≤l.length∧Al (Em l) zz.1 ((l).drop zz.1) zz.2.1=some o0) (fun zz=>l.length - zz.1) (0,(),()) ⟨Nat.zero_le _,hJ0⟩ cu cu (fun x=>⟨rfl,rfl,rfl⟩) ?_
 clear hJ0
 rintro⟨k0,⟨⟩,⟨⟩⟩ ⟨hk0,hJ0⟩
 dsimp only at hk0 hJ0 ⊢
 refine sq (ar rfl (qn (sq ?_)))
 refine AWP.cond (Ak (fun hc=>?_) (fun hc=>?_))
 rotate_left
 ·obtain rfl:=Bf hJ0 (fun hl=>by have:=Ai7 hc;omega)
  have h:=Be hO0;try dsimp only at h
  have hkl:l.length=k0:=by have:=Ai7 hc;omega
  subst hkl
  refine xt (qe (qe (bs (qn (sq (ar rfl (qn (rt ?_))))))))
  cases h;exact en Tryz.results79
 have hlt0:k0<l.length:=by have:=Ai8 hc;omega
 obtain⟨x_2,b0,hx0_,h,hJ0⟩:=Ba hJ0 hlt0
 have hx0:=A2 hx0_
 have hw0:=wk (k:=k0) (by omega)
 unfold Em at h;try dsimp only at h
 refine sk (qn (sq (bk (sq ?_))))
 refine rg rfl fun K j=>?_
 refine Bn.of (f:=Aw) (l:=l) hx0 ?_
 refine nS ?_
 refine j _ _ (qn (sq (sq ?_)))
 refine rg rfl fun K j=>?_
 obtain⟨y3,hy3,h⟩:=Af h
 refine An.pure Tryz.call166 (V8 x_2 hy3) rfl fun _ hr=>?_
 subst hr
 refine nS ?_
 refine j _ _ (qn ?_)
 revert h;refine ca rfl (fun hc h=>?_) fun hc h=>?_
 ·refine sq (ar rfl (qn (rt (qr (br (qr (qr ?_)))))))
  obtain rfl:=Aa h
  obtain rfl:=Ae hJ0
  replace h:=Am hO0
  refine br (qr ?_)
  cases h;exact en Tryz.results79
 refine sk (qn (sq (sq ?_)))
 refine rg rfl fun K j=>?_
 obtain⟨y4,hy4,h⟩:=Af h
 refine An.pure Tryz.call167 (Ty x_2.Zones hy4) rfl fun _ hr=>?_
 subst hr
 refine nS ?_
 refine j _ _ (qn ?_)
 revert h;refine ca rfl (fun hc h=>?_) fun hc h=>?_
 ·refine sq (ar rfl (qn (rt (qr (br (qr (qr ?_)))))))
  obtain rfl:=Aa h
  obtain rfl:=Ae hJ0
  replace h:=Am hO0
  refine br (qr ?_)
  cases h;exact en Tryz.results79
 refine sk (qn (sq ?_))
 refine AWP.draw Tryz.mixed (by kernel_rfl) ?_;intro K j
 refine nS ?_
 revert h;refine gt (fun hc h=>?_) fun hc h=>?_
 ·obtain⟨x_5,hx_5,h⟩:=Af h
  refine Bn.of (f:=Aw) (l:=l) hx_5 ?_
  refine nS ?_
  refine j _ _ _ (by kernel_rfl) ?_
  refine qn ?_
  revert h;refine ca rfl (fun hc h=>?_) fun hc h=>?_
  ·refine sq (ar rfl (qn (rt (br (qr (qr ?_))))))
   obtain rfl:=Aa h
   obtain rfl:=Ae hJ0
   replace h:=Am hO0
   refine br (qr ?_)
   cases h;exact en Tryz.results79
  refine sk (bn (qn (ar rfl (qn ?_))))
  obtain rfl:=Aa h
  refine⟨(k0+1,(),()),⟨by dsimp only;omega,Ai hJ0⟩,by dsimp only;omega,?_,?_⟩
  ·exact cuw hw0
  exact cuw hw0
 refine j _ _ _ (by kernel_rfl) ?_
 refine qn ?_
 refine AWP.cond (Bi ?_)
 refine sk (bn (qn (ar rfl (qn ?_))))
 obtain rfl:=Aa h
 refine⟨(k0+1,(),()),⟨by dsimp only;omega,Ai hJ0⟩,by dsimp only;omega,?_,?_⟩
 ·exact cuw hw0
 exact cuw hw0
def Mf (m:Bg):Option (Bool):=
 (bif (decide (m.ID<1))then some false else(bif (decide (9999<m.ID))then some false else(bif (decide (m.Slide<1))then some false else(bif (decide (9999<m.Slide))then some false else(bif (decide (m.By<1))then some false else(bif (decide (9999<m.By))then some false else(bif (decide (m.State<0))then some false else(bif (decide (6<m.State))then some false else(bif (decide (m.Since<0))then some false else(bif (decide (20000000<m.Since))then some false else(bif (decide (0≤m.Window.From))then (bif (decide (m.Window.From<m.Window.To))then some (decide (m.Window.To≤20000000))else some false)else some false)))))))))))
theorem Zv (m:Bg) {r:Bool} (h:Mf m=some r):Ad Tryz.prog 168 [.agg (Ap m)] (·= .bool r):=by
 refine Ad.nle (Ad.intro Tryz.func168 rfl rfl (by show _≤68;simp) ?_)
 unfold Mf at h
 refine nS (sq ?_)
 refine ar rfl (qn (sq (sq ?_)))
 refine rg rfl fun K j=>?_
 revert h;refine gf (fun hc h=>?_) fun hc h=>?_
 rotate_left
 ·refine j _ _ (qn ?_)
  refine AWP.cond (Ah ?_)
  refine sq (ar rfl (qn (rt (qr ?_))))
  cases h;exact en Tryz.results168
 revert h;refine gf (fun hc h=>?_) fun hc h=>?_
 rotate_left
 ·refine j _ _ (qn ?_)
  refine AWP.cond (Ah ?_)
  refine sq (ar rfl (qn (rt (qr ?_))))
  cases h;exact en Tryz.results168
 revert h;refine gf (fun hc h=>?_) fun hc h=>?_
 rotate_left
 ·refine j _ _ (qn ?_)
  refine AWP.cond (Ah ?_)
  refine sq (ar rfl (qn (rt (qr ?_))))
  cases h;exact en Tryz.results168
 revert h;refine gf (fun hc h=>?_) fun hc h=>?_
 rotate_left
 ·refine j _ _ (qn ?_)
  refine AWP.cond (Ah ?_)
  refine sq (ar rfl (qn (rt (qr ?_))))
  cases h;exact en Tryz.results168
 revert h;refine gf (fun hc h=>?_) fun hc h=>?_
 rotate_left
 ·refine j _ _ (qn ?_)
  refine AWP.cond (Ah ?_)
  refine sq (ar rfl (qn (rt (qr ?_))))
  cases h;exact en Tryz.results168
 refine j _ _ (qn ?_)
 revert h;refine ca rfl (fun hc h=>?_) fun hc h=>?_
 ·refine sq (ar rfl (qn (rt (qr ?_))))
  cases h;exact en Tryz.results168
 refine sk (qn (sq (sq ?_)))
 refine rg rfl fun K j=>?_
 revert h;refine gf (fun hc h=>?_) fun hc h=>?_
 rotate_left
 ·refine j _ _ (qn ?_)
  refine AWP.cond (Ah ?_)
  refine sq (ar rfl (qn (rt (qr ?_))))
  cases h;exact en Tryz.results168
 revert h;refine gf (fun hc h=>?_) fun hc h=>?_
 rotate_left
 ·refine j _ _ (qn ?_)
  refine AWP.cond (Ah ?_)
  refine sq (ar rfl (qn (rt (qr ?_))))
  cases h;exact en Tryz.results168
 revert h;refine gf (fun hc h=>?_) fun hc h=>?_
 ·refine j _ _ (qn ?_)
  revert h;refine ca rfl (fun hc h=>?_) fun hc h=>?_
  ·refine sq (ar rfl (qn (rt (qr ?_))))
   cases h;exact en Tryz.results168
  refine sk (qn (sq ?_))
  refine rg rfl fun K j=>?_
  revert h;refine gt (fun hc h=>?_) fun hc h=>?_
  ·revert h;refine gt (fun hc h=>?_) fun hc h=>?_
   ·refine j _ _ (qn (rt ?_))
    cases h;exact en Tryz.results168
   refine j _ _ (qn (rt ?_))
   cases h;exact en Tryz.results168
  refine j _ _ (qn (rt ?_))
  cases h;exact en Tryz.results168
 refine j _ _ (qn ?_)
 refine AWP.cond (Ah ?_)
 refine sq (ar rfl (qn (rt (qr ?_))))
 cases h;exact en Tryz.results168
def Tz (id_:Int) (k0:Nat) (x_2:Bg) (sv:Unit):Option (Out (Unit) (Int)):=
 (bif (decide (x_2.ID=id_))then some (Out.ret ((k0:Nat):Int))else some (Out.next ()))
def Vm (l:List Bg) (id_:Int):Option (Int):=
 (Al (Tz id_) 0 l ()).bind fun o0=>o0.on fun s0=>some (-1)
theorem eX (l:List Bg) (id_:Int) {r:Int} (h:Vm l id_=some r):Ad Tryz.prog 169 [.sl 7 (l.map Ap),.int .i64 id_] (·= .int .i64 r):=by
 refine Ad.nle (Ad.intro Tryz.func169 rfl rfl (by show _≤8;simp) ?_)
 unfold Vm at h
 refine nS (sq ?_)
 refine ar rfl (qn (sq ?_))
 refine rg rfl fun K j=>?_
 refine An.inline Tryz.call247 Tryz.func247 rfl rfl (by show _≤19;simp) ?_
 refine nS (sq ?_)
 refine ar rfl (qn (sq (sq ?_)))
 refine rg rfl fun K j=>?_
 intro hm
 refine j _ _ (qn (bk ?_));clear j K
 obtain⟨o0,hJ0,hO0⟩:=Af h
 clear h
 refine AWP.Bw (ι:=Nat×(Unit)×(Unit)) (fun zz=>[(0,.sl 7 (l.map Ap)),(1,.func 248 [.ptr 0 0]),(7,.int .i64 ((l.length:Nat):Int)),(8,.int .i64 ((zz.1:Nat):Int))]) (fun zz=>[.box [.int .i64 id_]]) (fun zz=>zz.1≤l.length∧Al (Tz id_) zz.1 ((l).drop zz.1) zz.2.1=some o0) (fun zz=>l.length - zz.1) (0,(),()) ⟨Nat.zero_le _,hJ0⟩ cu cu (fun x=>⟨rfl,rfl,rfl⟩) ?_
 clear hJ0
 rintro⟨k0,⟨⟩,⟨⟩⟩ ⟨hk0,hJ0⟩
 dsimp only at hk0 hJ0 ⊢
 refine sq (ar rfl (qn (sq ?_)))
 refine AWP.cond (Ak (fun hc=>?_) (fun hc=>?_))
 rotate_left
 ·obtain rfl:=Bf hJ0 (fun hl=>by have:=Ai7 hc;omega)
  have h:=Be hO0;try dsimp only at h
  have hkl:l.length=k0:=by have:=Ai7 hc;omega
  subst hkl
  refine xt (qe (qe (bs (qn (sq (ar rfl (qn (rt ?_))))))))
  refine nSc Tryz.results247 ?_
  refine j _ _ (qn (rt ?_))
  cases h;exact en Tryz.results169
 have hlt0:k0<l.length:=by have:=Ai8 hc;omega
 obtain⟨x_2,b0,hx0_,h,hJ0⟩:=Ba hJ0 hlt0
 have hx0:=A2 hx0_
 have hw0:=wk (k:=k0) (by omega)
 unfold Tz at h;try dsimp only at h
 refine sk (qn (sq (bk (sq (ar rfl (qn (sq ?_)))))))
 refine rg rfl fun K j=>?_
 refine Bn.of (f:=Ap) (l:=l) hx0 ?_
 refine nS ?_
 refine An.inline Tryz.call248 Tryz.func248 rfl rfl (by show _≤8;simp) ?_
 refine nS (sq ?_)
 refine ar rfl (qn (sq ?_))
 refine ar rfl (qn (rt ?_))
 refine nSc Tryz.results248 ?_
 refine j _ _ (qn ?_);clear j K
 revert h;refine ca rfl (fun hc h=>?_) fun hc h=>?_
 ·refine sq (ar rfl (qn (rt (br (qr (qr ?_))))))
  obtain rfl:=Aa h
  obtain rfl:=Ae hJ0
  replace h:=Am hO0
  refine br (qr (nSc Tryz.results247 ?_))
  refine j _ _ (qn (rt ?_))
  cases h;exact en Tryz.results169
 refine sk (bn (qn (ar rfl (qn ?_))))
 obtain rfl:=Aa h
 refine⟨(k0+1,(),()),⟨by dsimp only;omega,Ai hJ0⟩,by dsimp only;omega,?_,?_⟩
 ·exact cuw hw0
 exact cuw hw0
def O4 (m:Bg):Option (Bool):=
 (bif (decide (m.State=0))then some true else(Ir m).bind fun y1=>some y1)
theorem V5 (m:Bg) {r:Bool} (h:O4 m=some r):Ad Tryz.prog 170 [.agg (Ap m)] (·= .bool r):=by
 refine Ad.nle (Ad.intro Tryz.func170 rfl rfl (by show _≤10;simp) ?_)
 unfold O4 at h
 refine nS (sq ?_)
 refine ar rfl (qn (sq ?_))
 refine rg rfl fun K j=>?_
 revert h;refine gf (fun hc h=>?_) fun hc h=>?_
 ·obtain⟨y1,hy1,h⟩:=Af h
  refine An.pure Tryz.call249 (S5 m hy1) rfl fun _ hr=>?_
  subst hr
  refine nS ?_
  refine j _ _ (qn (rt ?_))
  cases h;exact en Tryz.results170
 refine j _ _ (qn (rt ?_))
 cases h;exact en Tryz.results170
def Hx (l:List Bg) (k0:Nat) (x_2:Bg) (k4:Nat) (_x:Unit) (sv:Unit):Option (Out (Unit) (Out (Unit) (Int))):=
 (Dk (l.take k0) ((k4:Nat):Int)).bind fun x_6=>(O4 x_2).bind fun y7=>(bif y7 then(O4 x_6).bind fun y8=>(bif y8 then(bif (decide (x_6.Slide=x_2.Slide))then some (Out.ret (Out.ret 15))else some (Out.next ()))else some (Out.next ()))else some (Out.next ()))
def Oj (l:List Bg) (k0:Nat) (x_2:Bg) (sv:Unit):Option (Out (Unit) (Int)):=
 (Mf x_2).bind fun y3=>(bif (!y3)then some (Out.ret 2)else okB (decide (0≤((k0:Nat):Int)∧((k0:Nat):Int)≤((l.length:Nat):Int))) ((Vm (l.take k0) x_2.ID).bind fun y4=>(bif (decide (0≤y4))then some (Out.ret 7)else okB (decide (0≤((k0:Nat):Int)∧((k0:Nat):Int)≤((l.length:Nat):Int))) ((J5 (Hx l k0 x_2) k0 ()).bind fun o4=>o4.on fun s4=>some (Out.next ())))))
def P3 (l:List Bg):Option (Int):=
 (bif (decide (64<((l.length:Nat):Int)))then some 4 else(Al (Oj l) 0 l ()).bind fun o0=>o0.on fun s0=>some 0)
theorem dE (l:List Bg) {r:Int} (h:P3 l=some r):Ad Tryz.prog 80 [.sl 7 (l.map Ap)] (·= .int .i64 r):=by
 refine Ad.nle (Ad.intro Tryz.func80 rfl rfl (by show _≤50;simp) ?_)
 unfold P3 at h
 refine nS (sq ?_)
 refine ar rfl (qn (sq (sq ?_)))
 refine rg rfl fun K j=>?_
 intro hm
 refine j _ _ (qn ?_)
 revert h;refine ca rfl (fun hc h=>?_) fun hc h=>?_
 ·refine sq (ar rfl (qn (rt (qr ?_))))
  cases h;exact en Tryz.results80
 refine sk (qn (sq (sq ?_)))
 refine rg rfl fun K j=>?_
 intro hm
 refine j _ _ (qn (bk ?_))
 obtain⟨o0,hJ0,hO0⟩:=Af h
 clear h
 refine AWP.Bw (ι:=Nat×(Unit)×(Unit)) (fun zz=>[(0,.sl 7 (l.map Ap)),(10,.sl 7 (l.map Ap)),(11,.int .i64 ((l.length:Nat):Int)),(12,.int .i64 ((zz.1:Nat):Int))]) (fun zz=>[]) (fun zz=>zz.1≤l.length∧Al (Oj l) zz.1 ((l).drop zz.1) zz.2.1=some o0) (fun zz=>l.length - zz.1) (0,(),()) ⟨Nat.zero_le _,hJ0⟩ cu cu (fun x=>⟨rfl,rfl,rfl⟩) ?_
 clear hJ0
 rintro⟨k0,⟨⟩,⟨⟩⟩ ⟨hk0,hJ0⟩
 dsimp only at hk0 hJ0 ⊢
 refine sq (ar rfl (qn (sq ?_)))
 refine AWP.cond (Ak (fun hc=>?_) (fun hc=>?_))
 rotate_left
 ·obtain rfl:=Bf hJ0 (fun hl=>by have:=Ai7 hc;omega)
  have h:=Be hO0;try dsimp only at h
  have hkl:l.length=k0:=by have:=Ai7 hc;omega
  subst hkl
  refine xt (qe (qe (bs (qn (sq (ar rfl (qn (rt ?_))))))))
  cases h;exact en Tryz.results80
 have hlt0:k0<l.length:=by have:=Ai8 hc;omega
 obtain⟨x_2,b0,hx0_,h,hJ0⟩:=Ba hJ0 hlt0
 have hx0:=A2 hx0_
 have hw0:=wk (k:=k0) (by omega)
 unfold Oj at h;try dsimp only at h
 refine sk (qn (sq (bk (sq ?_))))
 refine rg rfl fun K j=>?_
 refine Bn.of (f:=Ap) (l:=l) hx0 ?_
 refine nS ?_
 refine j _ _ (qn (sq (sq ?_)))
 refine rg rfl fun K j=>?_
 obtain⟨y3,hy3,h⟩:=Af h
 refine An.pure Tryz.call168 (Zv x_2 hy3) rfl fun _ hr=>?_
 subst hr
 refine nS ?_
 refine j _ _ (qn ?_)
 revert h;refine ca rfl (fun hc h=>?_) fun hc h=>?_
 ·refine sq (ar rfl (qn (rt (qr (br (qr (qr ?_)))))))
  obtain rfl:=Aa h
  obtain rfl:=Ae hJ0
  replace h:=Am hO0
  refine br (qr ?_)
  cases h;exact en Tryz.results80
 refine sk (qn (sq (sq ?_)))
 refine AWP.draw Tryz.mixed (by kernel_rfl) ?_;intro K j
 refine nS ?_
 obtain⟨hk,h⟩:=Hp h
 intro hm
 (repeat(refine⟨by omega,?_⟩))
 obtain⟨y4,hy4,h⟩:=Af h
 refine B7.pure Tryz.call169 (eX (l.take k0) x_2.ID hy4) rfl ?_
 refine nS ?_
 refine j _ _ _ (by kernel_rfl) ?_
 refine qn ?_
 revert h;refine ca rfl (fun hc h=>?_) fun hc h=>?_
 ·refine sq (ar rfl (qn (rt (qr (br (qr (qr ?_)))))))
  obtain rfl:=Aa h
  obtain rfl:=Ae hJ0
  replace h:=Am hO0
  refine br (qr ?_)
  cases h;exact en Tryz.results80
 refine sk (qn (sq ?_))
 refine rg rfl fun K j=>?_
 obtain⟨hk,h⟩:=Hp h
 intro hm
 (repeat(refine⟨by omega,?_⟩))
 intro hm
 refine j _ _ (qn (bk ?_))
 obtain⟨o4,hJ4,hO4⟩:=Af h
 clear h
 obtain⟨hn4,hJ4⟩:=S1 hJ4
 refine AWP.Bw (ι:=Nat×(Unit)×(Unit)) (fun zz=>[(0,.sl 7 (l.map Ap)),(4,.ptr 0 0),(10,.sl 7 (l.map Ap)),(11,.int .i64 ((l.length:Nat):Int)),(12,.int .i64 ((k0:Nat):Int)),(29,.sl 7 ((l.take k0).map Ap)),(30,.int .i64 ((k0:Nat):Int)),(31,.int .i64 ((zz.1:Nat):Int))]) (fun zz=>[.box [.int .i64 x_2.ID,.int .i64 x_2.Slide,.int .i64 x_2.By,.int .i64 x_2.State,.int .i64 x_2.Since,.int .i64 x_2.Window.From,.int .i64 x_2.Window.To]]) (fun zz=>zz.1≤k0∧Al (Hx l k0 x_2) zz.1 ((List.replicate k0 ()).drop zz.1) zz.2.1=some o4) (fun zz=>k0 - zz.1) (0,(),()) ⟨Nat.zero_le _,hJ4⟩ cu cu (fun x=>⟨rfl,rfl,rfl⟩) ?_
 clear hJ4
 rintro⟨k4,⟨⟩,⟨⟩⟩ ⟨hk4,hJ4⟩
 dsimp only at hk4 hJ4 ⊢
 refine sq (ar rfl (qn (sq ?_)))
 refine AWP.cond (Ak (fun hc=>?_) (fun hc=>?_))
 rotate_left
 ·obtain rfl:=Bf hJ4 (fun hl=>by rw[List.length_replicate]at hl;have:=Ai7 hc;omega)
  have h:=Be hO4;try dsimp only at h
  have hkl:k0=k4:=by have:=Ai7 hc;omega
  subst hkl
  refine xt (qe (qe (bs (bn (qn (ar rfl (qn ?_)))))))
  obtain rfl:=Aa h
  refine⟨(k0+1,(),()),⟨by dsimp only;omega,Ai hJ0⟩,by dsimp only;omega,?_,?_⟩
  ·exact cuw hw0
  exact cuw hw0
 have hlt4:k4<k0:=by have:=Ai8 hc;omega
 obtain⟨_,b4,_,h,hJ4⟩:=Ba hJ4 (by rw[List.length_replicate];exact hlt4)
 have hw4:=wk (k:=k4) (by omega)
 unfold Hx at h;try dsimp only at h
 refine sk (qn (sq (bk (sq ?_))))
 refine rg rfl fun K j=>?_
 obtain⟨x_6,hx_6,h⟩:=Af h
 refine Bn.of (f:=Ap) (l:=(l.take k0)) hx_6 ?_
 refine nS ?_
 refine j _ _ (qn (sq ?_))
 refine rg rfl fun K j=>?_
 obtain⟨y7,hy7,h⟩:=Af h
 refine An.pure Tryz.call170 (V5 x_2 hy7) rfl fun _ hr=>?_
 subst hr
 refine nS ?_
 revert h;refine gt (fun hc h=>?_) fun hc h=>?_
 ·obtain⟨y8,hy8,h⟩:=Af h
  refine An.pure Tryz.call170 (V5 x_6 hy8) rfl fun _ hr=>?_
  subst hr
  refine nS ?_
  revert h;refine gt (fun hc h=>?_) fun hc h=>?_
  ·refine j _ _ (qn ?_)
   revert h;refine ca rfl (fun hc h=>?_) fun hc h=>?_
   ·refine sq (ar rfl (qn (rt (br (qr (qr ?_))))))
    obtain rfl:=Aa h
    obtain rfl:=Ae hJ4
    replace h:=Am hO4
    refine br (br (qr (qr ?_)))
    obtain rfl:=Aa h
    obtain rfl:=Ae hJ0
    replace h:=Am hO0
    refine br (qr ?_)
    cases h;exact en Tryz.results80
   refine sk (bn (qn (ar rfl (qn ?_))))
   obtain rfl:=Aa h
   refine⟨(k4+1,(),()),⟨by dsimp only;omega,Ai hJ4⟩,by dsimp only;omega,?_,?_⟩
   ·exact cuw hw4
   exact cuw hw4
  refine j _ _ (qn ?_)
  refine AWP.cond (Bi ?_)
  refine sk (bn (qn (ar rfl (qn ?_))))
  obtain rfl:=Aa h
  refine⟨(k4+1,(),()),⟨by dsimp only;omega,Ai hJ4⟩,by dsimp only;omega,?_,?_⟩
  ·exact cuw hw4
  exact cuw hw4
 refine j _ _ (qn ?_)
 refine AWP.cond (Bi ?_)
 refine sk (bn (qn (ar rfl (qn ?_))))
 obtain rfl:=Aa h
 refine⟨(k4+1,(),()),⟨by dsimp only;omega,Ai hJ4⟩,by dsimp only;omega,?_,?_⟩
 ·exact cuw hw4
 exact cuw hw4
def P6 (l:List Int) (k0:Nat) (x_2:Int) (sv:Unit):Option (Out (Unit) (Bool)):=
 (bif (decide (x_2<1))then some (Out.ret false)else (bif (decide (9999<x_2))then some (Out.ret false)else (bif (decide (0<((k0:Nat):Int)))then (Dk l (IntKind.i64.wrap (((k0:Nat):Int) - 1))).bind fun x_3=>(bif (decide (x_2≤x_3))then some (Out.ret false)else some (Out.next ()))else some (Out.next ()))))
def Qq (l:List Int):Option (Bool):=
 (Al (P6 l) 0 l ()).bind fun o0=>o0.on fun s0=>some (decide (0<((l.length:Nat):Int)))
theorem Z4 (l:List Int) {r:Bool} (h:Qq l=some r):Ad Tryz.prog 171 [.sl 1 (l.map A5)] (·= .bool r):=by
 refine Ad.nle (Ad.intro Tryz.func171 rfl rfl (by show _≤35;simp) ?_)
 unfold Qq at h
 refine nS (sq ?_)
 refine ar rfl (qn (sq (sq ?_)))
 refine rg rfl fun K j=>?_
 intro hm
 refine j _ _ (qn (bk ?_))
 obtain⟨o0,hJ0,hO0⟩:=Af h
 clear h
 refine AWP.Bw (ι:=Nat×(Unit)×(Unit)) (fun zz=>[(0,.sl 1 (l.map A5)),(5,.sl 1 (l.map A5)),(6,.int .i64 ((l.length:Nat):Int)),(7,.int .i64 ((zz.1:Nat):Int))]) (fun zz=>[]) (fun zz=>zz.1≤l.length∧Al (P6 l) zz.1 ((l).drop zz.1) zz.2.1=some o0) (fun zz=>l.length - zz.1) (0,(),()) ⟨Nat.zero_le _,hJ0⟩ cu cu (fun x=>⟨rfl,rfl,rfl⟩) ?_
 clear hJ0
 rintro⟨k0,⟨⟩,⟨⟩⟩ ⟨hk0,hJ0⟩
 dsimp only at hk0 hJ0 ⊢
 refine sq (ar rfl (qn (sq ?_)))
 refine AWP.cond (Ak (fun hc=>?_) (fun hc=>?_))
 rotate_left
 ·obtain rfl:=Bf hJ0 (fun hl=>by have:=Ai7 hc;omega)
  have h:=Be hO0;try dsimp only at h
  have hkl:l.length=k0:=by have:=Ai7 hc;omega
  subst hkl
  refine xt (qe (qe (bs (qn (sq ?_)))))
  refine rg rfl fun K j=>?_
  intro hm
  refine j _ _ (qn (rt ?_))
  cases h;exact en Tryz.results171
 have hlt0:k0<l.length:=by have:=Ai8 hc;omega
 obtain⟨x_2,b0,hx0_,h,hJ0⟩:=Ba hJ0 hlt0
 have hx0:=A2 hx0_
 have hw0:=wk (k:=k0) (by omega)
 unfold P6 at h;try dsimp only at h
 refine sk (qn (sq (bk (sq ?_))))
 refine rg rfl fun K j=>?_
 refine Bn.of (f:=A5) (l:=l) hx0 ?_
 refine nS ?_
 refine j _ _ (qn (sq ?_))
 refine rg rfl fun K j=>?_
 revert h;refine gf (fun hc h=>?_) fun hc h=>?_
 rotate_left
 ·refine j _ _ (qn ?_)
  refine AWP.cond (Ah ?_)
  refine sq (ar rfl (qn (rt (br (qr (qr ?_))))))
  obtain rfl:=Aa h
  obtain rfl:=Ae hJ0
  replace h:=Am hO0
  refine br (qr ?_)
  cases h;exact en Tryz.results171
 revert h;refine gf (fun hc h=>?_) fun hc h=>?_
 rotate_left
 ·refine j _ _ (qn ?_)
  refine AWP.cond (Ah ?_)
  refine sq (ar rfl (qn (rt (br (qr (qr ?_))))))
  obtain rfl:=Aa h
  obtain rfl:=Ae hJ0
  replace h:=Am hO0
  refine br (qr ?_)
  cases h;exact en Tryz.results171
 revert h;refine gt (fun hc h=>?_) fun hc h=>?_
 ·obtain⟨x_3,hx_3,h⟩:=Af h
  refine Bn.of (f:=A5) (l:=l) hx_3 ?_
  refine nS ?_
  refine j _ _ (qn ?_)
  revert h;refine ca rfl (fun hc h=>?_) fun hc h=>?_
  ·refine sq (ar rfl (qn (rt (br (qr (qr ?_))))))
   obtain rfl:=Aa h
   obtain rfl:=Ae hJ0
   replace h:=Am hO0
   refine br (qr ?_)
   cases h;exact en Tryz.results171
  refine sk (bn (qn (ar rfl (qn ?_))))
  obtain rfl:=Aa h
  refine⟨(k0+1,(),()),⟨by dsimp only;omega,Ai hJ0⟩,by dsimp only;omega,?_,?_⟩
  ·exact cuw hw0
  exact cuw hw0
 refine j _ _ (qn ?_)
 refine AWP.cond (Bi ?_)
 refine sk (bn (qn (ar rfl (qn ?_))))
 obtain rfl:=Aa h
 refine⟨(k0+1,(),()),⟨by dsimp only;omega,Ai hJ0⟩,by dsimp only;omega,?_,?_⟩
 ·exact cuw hw0
 exact cuw hw0
def cmp_isNaN_int (x_:Int):Option (Bool):=
 some false
theorem R8 (x_:Int) {r:Bool} (h:cmp_isNaN_int x_=some r):Ad Tryz.prog 277 [.int .i64 x_] (·= .bool r):=by
 refine Ad.nle (Ad.intro Tryz.func277 rfl rfl (by show _≤6;simp) ?_)
 unfold cmp_isNaN_int at h
 refine nS (sq ?_)
 refine ar rfl (qn (sq ?_))
 refine ar rfl (qn (rt ?_))
 cases h;exact en Tryz.results277
def cmp_Less_int (x_:Int) (y:Int):Option (Bool):=
 (cmp_isNaN_int x_).bind fun y1=>(bif y1 then(cmp_isNaN_int y).bind fun y2=>(bif (!y2)then some true else some (decide (x_<y)))else some (decide (x_<y)))
theorem aV (x_:Int) (y:Int) {r:Bool} (h:cmp_Less_int x_ y=some r):Ad Tryz.prog 232 [.int .i64 x_,.int .i64 y] (·= .bool r):=by
 refine Ad.nle (Ad.intro Tryz.func232 rfl rfl (by show _≤17;simp) ?_)
 unfold cmp_Less_int at h
 refine nS (sq ?_)
 refine ar rfl (qn (sq ?_))
 refine rg rfl fun K j=>?_
 obtain⟨y1,hy1,h⟩:=Af h
 refine An.pure Tryz.call277 (R8 x_ hy1) rfl fun _ hr=>?_
 subst hr
 refine nS ?_
 revert h;refine gt (fun hc h=>?_) fun hc h=>?_
 ·obtain⟨y2,hy2,h⟩:=Af h
  refine An.pure Tryz.call277 (R8 y hy2) rfl fun _ hr=>?_
  subst hr
  refine nS ?_
  revert h;refine gf (fun hc h=>?_) fun hc h=>?_
  ·refine j _ _ (qn (rt ?_))
   cases h;exact en Tryz.results232
  refine j _ _ (qn (rt ?_))
  cases h;exact en Tryz.results232
 refine j _ _ (qn (rt ?_))
 cases h;exact en Tryz.results232
def Lb (x_:Int):Option (Bool):=
 some false
theorem On (x_:Int) {r:Bool} (h:Lb x_=some r):Ad Tryz.prog 285 [.int .i64 x_] (·= .bool r):=by
 refine Ad.nle (Ad.intro Tryz.func285 rfl rfl (by show _≤6;simp) ?_)
 unfold Lb at h
 refine nS (sq ?_)
 refine ar rfl (qn (sq ?_))
 refine ar rfl (qn (rt ?_))
 cases h;exact en Tryz.results285
def Da (x_:List Int) (target:Int) (sv:Int×Int):Option (Out (Int×Int) (Int×Bool)):=
 (bif (decide (sv.1<sv.2))then (Dk x_ (IntKind.i64.wrap (bN (IntKind.u64.wrap (IntKind.i64.wrap (sv.1+sv.2))) 1))).bind fun x_4=>(cmp_Less_int x_4 target).bind fun y5=>(bif y5 then some (Out.next ((IntKind.i64.wrap ((IntKind.i64.wrap (bN (IntKind.u64.wrap (IntKind.i64.wrap (sv.1+sv.2))) 1))+1)),sv.2))else some (Out.next (sv.1,(IntKind.i64.wrap (bN (IntKind.u64.wrap (IntKind.i64.wrap (sv.1+sv.2))) 1)))))else ((bif (decide (sv.1<((x_.length:Nat):Int)))then (Dk x_ sv.1).bind fun x_6=>(bif (decide (x_6=target))then some (sv.1,true)else (Lb x_6).bind fun y7=>(bif y7 then(Lb target).bind fun y8=>some (sv.1,y8)else some (sv.1,false)))else some (sv.1,false))).bind fun q8=>some (Out.ret q8))
def Di (x_:List Int) (target:Int):Option (Int×Bool):=
 (D8 (Da x_ target) fuel (0,((x_.length:Nat):Int))).bind fun o2=>o2.on fun _=>none
theorem Nl (x_:List Int) (target:Int) {r:Int×Bool} (h:Di x_ target=some r):Ad Tryz.prog 278 [.sl 1 (x_.map A5),.int .i64 target] (·= .tuple [.int .i64 r.1,.bool r.2]):=by
 refine Ad.nle (Ad.intro Tryz.func278 rfl rfl (by show _≤54;simp) ?_)
 unfold Di at h
 refine nS (sq ?_)
 refine ar rfl (qn (sq ?_))
 refine rg rfl fun K j=>?_
 intro hm
 refine j _ _ (qn (sq ?_))
 refine ar rfl (qn (sq (bk ?_)))
 obtain⟨o2,hJ2,hO2⟩:=Af h
 clear h
 refine AWP.Bw (ι:=Nat×(Int×Int)×(Unit)) (fun zz=>[(0,.sl 1 (x_.map A5)),(1,.int .i64 target),(6,.int .i64 ((x_.length:Nat):Int)),(7,.int .i64 zz.2.1.1),(8,.int .i64 zz.2.1.2)]) (fun zz=>[]) (fun zz=>D8 (Da x_ target) zz.1 zz.2.1=some o2) (fun zz=>zz.1) (fuel,(0,((x_.length:Nat):Int)),()) hJ2 cu cu (fun x=>⟨rfl,rfl,rfl⟩) ?_
 clear hJ2
 rintro⟨n2,⟨i1,j2⟩,⟨⟩⟩ hJ2
 dsimp only at hJ2 ⊢
 obtain⟨m2,b2,rfl,h,hJ2⟩:=J9 hJ2
 unfold Da at h;try dsimp only at h
 refine sq (sq (ar rfl (qn ?_)))
 revert h;refine ca rfl (fun hc h=>?_) fun hc h=>?_
 ·refine sk (qn (bk (sq (ar rfl (qn (sq ?_))))))
  refine rg rfl fun K j=>?_
  obtain⟨x_4,hx_4,h⟩:=Af h
  refine Bn.of (f:=A5) (l:=x_) hx_4 ?_
  refine nS ?_
  obtain⟨y5,hy5,h⟩:=Af h
  refine An.pure Tryz.call232 (aV x_4 target hy5) rfl fun _ hr=>?_
  subst hr
  refine nS ?_
  refine j _ _ (qn ?_)
  revert h;refine ca rfl (fun hc h=>?_) fun hc h=>?_
  ·refine ar rfl (bn (qn ?_))
   obtain rfl:=Aa h
   refine⟨(m2,((IntKind.i64.wrap ((IntKind.i64.wrap (bN (IntKind.u64.wrap (IntKind.i64.wrap (i1+j2))) 1))+1)),j2),()),Ai hJ2,by dsimp only;omega,?_,?_⟩
   ·exact cu
   exact cu
  refine ar rfl (bn (qn ?_))
  obtain rfl:=Aa h
  refine⟨(m2,(i1,(IntKind.i64.wrap (bN (IntKind.u64.wrap (IntKind.i64.wrap (i1+j2))) 1))),()),Ai hJ2,by dsimp only;omega,?_,?_⟩
  ·exact cu
  exact cu
 refine xt (qe (qe ?_))
 obtain⟨q8,hq,h⟩:=Af h
 obtain rfl:=Aa h
 obtain rfl:=Ae hJ2
 replace h:=hq.trans (Am hO2)
 refine bs (qn (sq ?_))
 refine rg rfl fun K j=>?_
 revert h;refine gt (fun hc h=>?_) fun hc h=>?_
 rotate_left
 ·refine j _ _ (qn (rt ?_))
  cases h;exact en Tryz.results278
 obtain⟨x_6,hx_6,h⟩:=Af h
 refine Bn.of (f:=A5) (l:=x_) hx_6 ?_
 refine nS ?_
 revert h;refine gf (fun hc h=>?_) fun hc h=>?_
 ·refine Bn.of (f:=A5) (l:=x_) hx_6 ?_
  refine nS ?_
  obtain⟨y7,hy7,h⟩:=Af h
  refine An.pure Tryz.call285 (On x_6 hy7) rfl fun _ hr=>?_
  subst hr
  refine nS ?_
  revert h;refine gt (fun hc h=>?_) fun hc h=>?_
  ·obtain⟨y8,hy8,h⟩:=Af h
   refine An.pure Tryz.call285 (On target hy8) rfl fun _ hr=>?_
   subst hr
   refine nS ?_
   refine j _ _ (qn (rt ?_))
   cases h;exact en Tryz.results278
  refine j _ _ (qn (rt ?_))
  cases h;exact en Tryz.results278
 refine j _ _ (qn (rt ?_))
 cases h;exact en Tryz.results278
def Nm (w:A8) (run:Int):Option (Bool):=
 (Di w.Runs run).bind fun y1=>some y1.2
theorem Z3 (w:A8) (run:Int) {r:Bool} (h:Nm w run=some r):Ad Tryz.prog 253 [.agg (Ao w),.int .i64 run] (·= .bool r):=by
 refine Ad.nle (Ad.intro Tryz.func253 rfl rfl (by show _≤15;simp) ?_)
 unfold Nm at h
 refine nS (sq ?_)
 refine ar rfl (qn (sq ?_))
 refine rg rfl fun K j=>?_
 obtain⟨y1,hy1,h⟩:=Af h
 refine An.pure Tryz.call278 (Nl w.Runs run hy1) rfl fun _ hr=>?_
 subst hr
 refine nS ?_
 refine j _ _ (qn (sq ?_))
 refine ar rfl (qn (rt ?_))
 cases h;exact en Tryz.results253
def Gj (w:A8) (k0:Nat) (x_2:Int) (sv:Unit):Option (Out (Unit) (Bool)):=
 (Nm w x_2).bind fun y3=>(bif y3 then some (Out.ret (decide (0≤((k0:Nat):Int))))else some (Out.next ()))
def J6 (v:A8) (w:A8):Option (Bool):=
 (bif (decide (w.To≤v.From))then some false else(bif (decide (v.To≤w.From))then some false else(bif (decide (v.Groomer=w.Groomer))then some true else(Al (Gj w) 0 v.Runs ()).bind fun o0=>o0.on fun s0=>some false)))
theorem Yk (v:A8) (w:A8) {r:Bool} (h:J6 v w=some r):Ad Tryz.prog 174 [.agg (Ao v),.agg (Ao w)] (·= .bool r):=by
 refine Ad.nle (Ad.intro Tryz.func174 rfl rfl (by show _≤28;simp) ?_)
 unfold J6 at h
 refine nS (sq ?_)
 refine ar rfl (qn (sq (sq ?_)))
 refine rg rfl fun K j=>?_
 revert h;refine gf (fun hc h=>?_) fun hc h=>?_
 rotate_left
 ·refine j _ _ (qn ?_)
  refine AWP.cond (Ah ?_)
  refine sq (ar rfl (qn (rt (qr ?_))))
  cases h;exact en Tryz.results174
 refine j _ _ (qn ?_)
 revert h;refine ca rfl (fun hc h=>?_) fun hc h=>?_
 ·refine sq (ar rfl (qn (rt (qr ?_))))
  cases h;exact en Tryz.results174
 refine sk (qn (sq ?_))
 refine rg rfl fun K j=>?_
 revert h;refine gf (fun hc h=>?_) fun hc h=>?_
 rotate_left
 ·refine j _ _ (qn (rt ?_))
  cases h;exact en Tryz.results174
 refine An.inline Tryz.call251 Tryz.func251 rfl rfl (by show _≤9;simp) ?_
 refine nS (sq ?_)
 refine ar rfl (qn (sq ?_))
 refine rg rfl fun K j=>?_
 refine An.inline Tryz.call150 Tryz.func150 rfl rfl (by show _≤19;simp) ?_
 refine nS (sq ?_)
 refine ar rfl (qn (sq (sq ?_)))
 refine rg rfl fun K j=>?_
 intro hm
 refine j _ _ (qn (bk ?_));clear j K
 obtain⟨o0,hJ0,hO0⟩:=Af h
 clear h
 refine AWP.Bw (ι:=Nat×(Unit)×(Unit)) (fun zz=>[(0,.sl 1 (v.Runs.map A5)),(1,.func 252 [.ptr 1 0]),(7,.int .i64 ((v.Runs.length:Nat):Int)),(8,.int .i64 ((zz.1:Nat):Int))]) (fun zz=>[.box [.int .i64 v.Groomer,.int .i64 v.From,.int .i64 v.To,.sl 1 (v.Runs.map A5)],.box [.int .i64 w.Groomer,.int .i64 w.From,.int .i64 w.To,.sl 1 (w.Runs.map A5)]]) (fun zz=>zz.1≤v.Runs.length∧Al (Gj w) zz.1 ((v.Runs).drop zz.1) zz.2.1=some o0) (fun zz=>v.Runs.length - zz.1) (0,(),()) ⟨Nat.zero_le _,hJ0⟩ cu cu (fun x=>⟨rfl,rfl,rfl⟩) ?_
 clear hJ0
 rintro⟨k0,⟨⟩,⟨⟩⟩ ⟨hk0,hJ0⟩
 dsimp only at hk0 hJ0 ⊢
 refine sq (ar rfl (qn (sq ?_)))
 refine AWP.cond (Ak (fun hc=>?_) (fun hc=>?_))
 rotate_left
 ·obtain rfl:=Bf hJ0 (fun hl=>by have:=Ai7 hc;omega)
  have h:=Be hO0;try dsimp only at h
  have hkl:v.Runs.length=k0:=by have:=Ai7 hc;omega
  subst hkl
  refine xt (qe (qe (bs (qn (sq (ar rfl (qn (rt ?_))))))))
  refine nSc Tryz.results150 ?_
  refine j _ _ (qn (rt ?_));clear j K
  refine nSc Tryz.results251 ?_
  refine j _ _ (qn (rt ?_))
  cases h;exact en Tryz.results174
 have hlt0:k0<v.Runs.length:=by have:=Ai8 hc;omega
 obtain⟨x_2,b0,hx0_,h,hJ0⟩:=Ba hJ0 hlt0
 have hx0:=A2 hx0_
 have hw0:=wk (k:=k0) (by omega)
 unfold Gj at h;try dsimp only at h
 refine sk (qn (sq (bk (sq (ar rfl (qn (sq ?_)))))))
 refine rg rfl fun K j=>?_
 refine Bn.of (f:=A5) (l:=v.Runs) hx0 ?_
 refine nS ?_
 refine An.inline Tryz.call252 Tryz.func252 rfl rfl (by show _≤7;simp) ?_
 refine nS (sq ?_)
 refine ar rfl (qn (sq ?_))
 refine rg rfl fun K j=>?_
 obtain⟨y3,hy3,h⟩:=Af h
 refine An.pure Tryz.call253 (Z3 w x_2 hy3) rfl fun _ hr=>?_
 subst hr
 refine nS ?_
 refine j _ _ (qn (rt ?_));clear j K
 refine nSc Tryz.results252 ?_
 refine j _ _ (qn ?_);clear j K
 revert h;refine ca rfl (fun hc h=>?_) fun hc h=>?_
 ·refine sq (ar rfl (qn (rt (br (qr (qr ?_))))))
  obtain rfl:=Aa h
  obtain rfl:=Ae hJ0
  replace h:=Am hO0
  refine br (qr (nSc Tryz.results150 ?_))
  refine j _ _ (qn (rt ?_));clear j K
  refine nSc Tryz.results251 ?_
  refine j _ _ (qn (rt ?_))
  cases h;exact en Tryz.results174
 refine sk (bn (qn (ar rfl (qn ?_))))
 obtain rfl:=Aa h
 refine⟨(k0+1,(),()),⟨by dsimp only;omega,Ai hJ0⟩,by dsimp only;omega,?_,?_⟩
 ·exact cuw hw0
 exact cuw hw0
def J8 (l:List A8) (k0:Nat) (x_2:A8) (k3:Nat) (_x:Unit) (sv:Unit):Option (Out (Unit) (Out (Unit) (Int))):=
 (Dk (l.take k0) ((k3:Nat):Int)).bind fun x_5=>(J6 x_5 x_2).bind fun y6=>(bif y6 then((bif (decide (0≤((k3:Nat):Int)))then some (Out.ret 15)else some (Out.next ()))).bind fun q6=>some (Out.ret q6)else some (Out.next ()))
def Hd (l:List A8) (k0:Nat) (x_2:A8) (sv:Unit):Option (Out (Unit) (Int)):=
 (bif (decide (x_2.Groomer<1))then some (Out.ret 2)else (bif (decide (9999<x_2.Groomer))then some (Out.ret 2)else (bif (decide (x_2.From<0))then some (Out.ret 2)else (bif (decide (x_2.To≤x_2.From))then some (Out.ret 2)else (bif (decide (20000000<x_2.To))then some (Out.ret 2)else (Qq x_2.Runs).bind fun y3=>(bif (!y3)then some (Out.ret 1)else okB (decide (0≤((k0:Nat):Int)∧((k0:Nat):Int)≤((l.length:Nat):Int))) ((J5 (J8 l k0 x_2) k0 ()).bind fun o3=>o3.on fun s3=>some (Out.next ()))))))))
def Pm (l:List A8):Option (Int):=
 (bif (decide (16<((l.length:Nat):Int)))then some 4 else(Al (Hd l) 0 l ()).bind fun o0=>o0.on fun s0=>some 0)
theorem bK (l:List A8) {r:Int} (h:Pm l=some r):Ad Tryz.prog 81 [.sl 4 (l.map Ao)] (·= .int .i64 r):=by
 refine Ad.nle (Ad.intro Tryz.func81 rfl rfl (by show _≤50;simp) ?_)
 unfold Pm at h
 refine nS (sq ?_)
 refine ar rfl (qn (sq (sq ?_)))
 refine rg rfl fun K j=>?_
 intro hm
 refine j _ _ (qn ?_)
 revert h;refine ca rfl (fun hc h=>?_) fun hc h=>?_
 ·refine sq (ar rfl (qn (rt (qr ?_))))
  cases h;exact en Tryz.results81
 refine sk (qn (sq (sq ?_)))
 refine rg rfl fun K j=>?_
 intro hm
 refine j _ _ (qn (bk ?_))
 obtain⟨o0,hJ0,hO0⟩:=Af h
 clear h
 refine AWP.Bw (ι:=Nat×(Unit)×(Unit)) (fun zz=>[(0,.sl 4 (l.map Ao)),(8,.sl 4 (l.map Ao)),(9,.int .i64 ((l.length:Nat):Int)),(10,.int .i64 ((zz.1:Nat):Int))]) (fun zz=>[]) (fun zz=>zz.1≤l.length∧Al (Hd l) zz.1 ((l).drop zz.1) zz.2.1=some o0) (fun zz=>l.length - zz.1) (0,(),()) ⟨Nat.zero_le _,hJ0⟩ cu cu (fun x=>⟨rfl,rfl,rfl⟩) ?_
 clear hJ0
 rintro⟨k0,⟨⟩,⟨⟩⟩ ⟨hk0,hJ0⟩
 dsimp only at hk0 hJ0 ⊢
 refine sq (ar rfl (qn (sq ?_)))
 refine AWP.cond (Ak (fun hc=>?_) (fun hc=>?_))
 rotate_left
 ·obtain rfl:=Bf hJ0 (fun hl=>by have:=Ai7 hc;omega)
  have h:=Be hO0;try dsimp only at h
  have hkl:l.length=k0:=by have:=Ai7 hc;omega
  subst hkl
  refine xt (qe (qe (bs (qn (sq (ar rfl (qn (rt ?_))))))))
  cases h;exact en Tryz.results81
 have hlt0:k0<l.length:=by have:=Ai8 hc;omega
 obtain⟨x_2,b0,hx0_,h,hJ0⟩:=Ba hJ0 hlt0
 have hx0:=A2 hx0_
 have hw0:=wk (k:=k0) (by omega)
 unfold Hd at h;try dsimp only at h
 refine sk (qn (sq (bk (sq ?_))))
 refine rg rfl fun K j=>?_
 refine Bn.of (f:=Ao) (l:=l) hx0 ?_
 refine nS ?_
 refine j _ _ (qn (sq (sq ?_)))
 refine rg rfl fun K j=>?_
 revert h;refine gf (fun hc h=>?_) fun hc h=>?_
 rotate_left
 ·refine j _ _ (qn ?_)
  refine AWP.cond (Ah ?_)
  refine sq (ar rfl (qn (rt (qr (br (qr (qr ?_)))))))
  obtain rfl:=Aa h
  obtain rfl:=Ae hJ0
  replace h:=Am hO0
  refine br (qr ?_)
  cases h;exact en Tryz.results81
 revert h;refine gf (fun hc h=>?_) fun hc h=>?_
 rotate_left
 ·refine j _ _ (qn ?_)
  refine AWP.cond (Ah ?_)
  refine sq (ar rfl (qn (rt (qr (br (qr (qr ?_)))))))
  obtain rfl:=Aa h
  obtain rfl:=Ae hJ0
  replace h:=Am hO0
  refine br (qr ?_)
  cases h;exact en Tryz.results81
 revert h;refine gf (fun hc h=>?_) fun hc h=>?_
 rotate_left
 ·refine j _ _ (qn ?_)
  refine AWP.cond (Ah ?_)
  refine sq (ar rfl (qn (rt (qr (br (qr (qr ?_)))))))
  obtain rfl:=Aa h
  obtain rfl:=Ae hJ0
  replace h:=Am hO0
  refine br (qr ?_)
  cases h;exact en Tryz.results81
 revert h;refine gf (fun hc h=>?_) fun hc h=>?_
 rotate_left
 ·refine j _ _ (qn ?_)
  refine AWP.cond (Ah ?_)
  refine sq (ar rfl (qn (rt (qr (br (qr (qr ?_)))))))
  obtain rfl:=Aa h
  obtain rfl:=Ae hJ0
  replace h:=Am hO0
  refine br (qr ?_)
  cases h;exact en Tryz.results81
 refine j _ _ (qn ?_)
 revert h;refine ca rfl (fun hc h=>?_) fun hc h=>?_
 ·refine sq (ar rfl (qn (rt (qr (br (qr (qr ?_)))))))
  obtain rfl:=Aa h
  obtain rfl:=Ae hJ0
  replace h:=Am hO0
  refine br (qr ?_)
  cases h;exact en Tryz.results81
 refine sk (qn (sq (sq ?_)))
 refine rg rfl fun K j=>?_
 obtain⟨y3,hy3,h⟩:=Af h
 refine An.pure Tryz.call171 (Z4 x_2.Runs hy3) rfl fun _ hr=>?_
 subst hr
 refine nS ?_
 refine j _ _ (qn ?_)
 revert h;refine ca rfl (fun hc h=>?_) fun hc h=>?_
 ·refine sq (ar rfl (qn (rt (qr (br (qr (qr ?_)))))))
  obtain rfl:=Aa h
  obtain rfl:=Ae hJ0
  replace h:=Am hO0
  refine br (qr ?_)
  cases h;exact en Tryz.results81
 refine sk (qn (sq ?_))
 refine rg rfl fun K j=>?_
 obtain⟨hk,h⟩:=Hp h
 intro hm
 (repeat(refine⟨by omega,?_⟩))
 refine An.inline Tryz.call172 Tryz.func172 rfl rfl (by show _≤9;simp) ?_
 refine nS (sq ?_)
 refine ar rfl (qn (sq ?_))
 refine rg rfl fun K j=>?_
 refine An.inline Tryz.call250 Tryz.func250 rfl rfl (by show _≤19;simp) ?_
 refine nS (sq ?_)
 refine ar rfl (qn (sq (sq ?_)))
 refine rg rfl fun K j=>?_
 intro hm
 refine j _ _ (qn (bk ?_));clear j K
 obtain⟨o3,hJ3,hO3⟩:=Af h
 clear h
 obtain⟨hn3,hJ3⟩:=S1 hJ3
 refine AWP.Bw (ι:=Nat×(Unit)×(Unit)) (fun zz=>[(0,.sl 4 ((l.take k0).map Ao)),(1,.func 173 [.ptr 0 0]),(7,.int .i64 ((k0:Nat):Int)),(8,.int .i64 ((zz.1:Nat):Int))]) (fun zz=>[.box [.int .i64 x_2.Groomer,.int .i64 x_2.From,.int .i64 x_2.To,.sl 1 (x_2.Runs.map A5)]]) (fun zz=>zz.1≤k0∧Al (J8 l k0 x_2) zz.1 ((List.replicate k0 ()).drop zz.1) zz.2.1=some o3) (fun zz=>k0 - zz.1) (0,(),()) ⟨Nat.zero_le _,hJ3⟩ cu cu (fun x=>⟨rfl,rfl,rfl⟩) ?_
 clear hJ3
 rintro⟨k3,⟨⟩,⟨⟩⟩ ⟨hk3,hJ3⟩
 dsimp only at hk3 hJ3 ⊢
 refine sq (ar rfl (qn (sq ?_)))
 refine AWP.cond (Ak (fun hc=>?_) (fun hc=>?_))
 rotate_left
 ·obtain rfl:=Bf hJ3 (fun hl=>by rw[List.length_replicate]at hl;have:=Ai7 hc;omega)
  have h:=Be hO3;try dsimp only at h
  have hkl:k0=k3:=by have:=Ai7 hc;omega
  subst hkl
  refine xt (qe (qe (bs (qn (sq (ar rfl (qn (rt ?_))))))))
  refine nSc Tryz.results250 ?_
  refine j _ _ (qn (rt ?_));clear j K
  refine nSc Tryz.results172 ?_
  refine j _ _ (qn ?_)
  refine AWP.cond (Bi ?_)
  refine sk (bn (qn (ar rfl (qn ?_))))
  obtain rfl:=Aa h
  refine⟨(k0+1,(),()),⟨by dsimp only;omega,Ai hJ0⟩,by dsimp only;omega,?_,?_⟩
  ·exact cuw hw0
  exact cuw hw0
 have hlt3:k3<k0:=by have:=Ai8 hc;omega
 obtain⟨_,b3,_,h,hJ3⟩:=Ba hJ3 (by rw[List.length_replicate];exact hlt3)
 have hw3:=wk (k:=k3) (by omega)
 unfold J8 at h;try dsimp only at h
 refine sk (qn (sq (bk (sq (ar rfl (qn (sq ?_)))))))
 refine rg rfl fun K j=>?_
 obtain⟨x_5,hx_5,h⟩:=Af h
 refine Bn.of (f:=Ao) (l:=(l.take k0)) hx_5 ?_
 refine nS ?_
 refine An.inline Tryz.call173 Tryz.func173 rfl rfl (by show _≤7;simp) ?_
 refine nS (sq ?_)
 refine ar rfl (qn (sq ?_))
 refine rg rfl fun K j=>?_
 obtain⟨y6,hy6,h⟩:=Af h
 refine An.pure Tryz.call174 (Yk x_5 x_2 hy6) rfl fun _ hr=>?_
 subst hr
 refine nS ?_
 refine j _ _ (qn (rt ?_));clear j K
 refine nSc Tryz.results173 ?_
 refine j _ _ (qn ?_);clear j K
 revert h;refine ca rfl (fun hc h=>?_) fun hc h=>?_
 ·refine sq (ar rfl (qn (rt (br (qr (qr ?_))))))
  obtain⟨q6,hq,h⟩:=Af h
  obtain rfl:=Aa h
  obtain rfl:=Ae hJ3
  replace h:=hq.trans (Am hO3)
  refine br (qr (nSc Tryz.results250 ?_))
  refine j _ _ (qn (rt ?_));clear j K
  refine nSc Tryz.results172 ?_
  refine j _ _ (qn ?_)
  revert h;refine ca rfl (fun hc h=>?_) fun hc h=>?_
  ·refine sq (ar rfl (qn (rt (br (qr (qr ?_))))))
   obtain rfl:=Aa h
   obtain rfl:=Ae hJ0
   replace h:=Am hO0
   refine br (qr ?_)
   cases h;exact en Tryz.results81
  refine sk (bn (qn (ar rfl (qn ?_))))
  obtain rfl:=Aa h
  refine⟨(k0+1,(),()),⟨by dsimp only;omega,Ai hJ0⟩,by dsimp only;omega,?_,?_⟩
  ·exact cuw hw0
  exact cuw hw0
 refine sk (bn (qn (ar rfl (qn ?_))))
 obtain rfl:=Aa h
 refine⟨(k3+1,(),()),⟨by dsimp only;omega,Ai hJ3⟩,by dsimp only;omega,?_,?_⟩
 ·exact cuw hw3
 exact cuw hw3
def Jd (g_:B4):Option (Bool):=
 (bif (decide (g_.ID<1))then some false else(bif (decide (9999<g_.ID))then some false else(bif (decide (g_.Node<1))then some false else(bif (decide (9999<g_.Node))then some false else(bif (decide (g_.Fuel<0))then some false else(bif (decide (1000000<g_.Fuel))then some false else(bif (decide (g_.State<0))then some false else(bif (decide (2<g_.State))then some false else(bif (decide (g_.Until<0))then some false else(bif (decide (20000000<g_.Until))then some false else(bif (decide (0≤g_.To))then (bif (decide (g_.To≤9999))then (bif (decide (0≤g_.Run))then some (decide (g_.Run≤9999))else some false)else some false)else some false)))))))))))
theorem W4 (g_:B4) {r:Bool} (h:Jd g_=some r):Ad Tryz.prog 175 [.agg (Ay g_)] (·= .bool r):=by
 refine Ad.nle (Ad.intro Tryz.func175 rfl rfl (by show _≤67;simp) ?_)
 unfold Jd at h
 refine nS (sq ?_)
 refine ar rfl (qn (sq (sq ?_)))
 refine rg rfl fun K j=>?_
 revert h;refine gf (fun hc h=>?_) fun hc h=>?_
 rotate_left
 ·refine j _ _ (qn ?_)
  refine AWP.cond (Ah ?_)
  refine sq (ar rfl (qn (rt (qr ?_))))
  cases h;exact en Tryz.results175
 revert h;refine gf (fun hc h=>?_) fun hc h=>?_
 rotate_left
 ·refine j _ _ (qn ?_)
  refine AWP.cond (Ah ?_)
  refine sq (ar rfl (qn (rt (qr ?_))))
  cases h;exact en Tryz.results175
 revert h;refine gf (fun hc h=>?_) fun hc h=>?_
 rotate_left
 ·refine j _ _ (qn ?_)
  refine AWP.cond (Ah ?_)
  refine sq (ar rfl (qn (rt (qr ?_))))
  cases h;exact en Tryz.results175
 revert h;refine gf (fun hc h=>?_) fun hc h=>?_
 rotate_left
 ·refine j _ _ (qn ?_)
  refine AWP.cond (Ah ?_)
  refine sq (ar rfl (qn (rt (qr ?_))))
  cases h;exact en Tryz.results175
 revert h;refine gf (fun hc h=>?_) fun hc h=>?_
 rotate_left
 ·refine j _ _ (qn ?_)
  refine AWP.cond (Ah ?_)
  refine sq (ar rfl (qn (rt (qr ?_))))
  cases h;exact en Tryz.results175
 refine j _ _ (qn ?_)
 revert h;refine ca rfl (fun hc h=>?_) fun hc h=>?_
 ·refine sq (ar rfl (qn (rt (qr ?_))))
  cases h;exact en Tryz.results175
 refine sk (qn (sq (sq ?_)))
 refine rg rfl fun K j=>?_
 revert h;refine gf (fun hc h=>?_) fun hc h=>?_
 rotate_left
 ·refine j _ _ (qn ?_)
  refine AWP.cond (Ah ?_)
  refine sq (ar rfl (qn (rt (qr ?_))))
  cases h;exact en Tryz.results175
 revert h;refine gf (fun hc h=>?_) fun hc h=>?_
 rotate_left
 ·refine j _ _ (qn ?_)
  refine AWP.cond (Ah ?_)
  refine sq (ar rfl (qn (rt (qr ?_))))
  cases h;exact en Tryz.results175
 revert h;refine gf (fun hc h=>?_) fun hc h=>?_
 ·refine j _ _ (qn ?_)
  revert h;refine ca rfl (fun hc h=>?_) fun hc h=>?_
  ·refine sq (ar rfl (qn (rt (qr ?_))))
   cases h;exact en Tryz.results175
  refine sk (qn (sq ?_))
  refine rg rfl fun K j=>?_
  revert h;refine gt (fun hc h=>?_) fun hc h=>?_
  ·revert h;refine gt (fun hc h=>?_) fun hc h=>?_
   ·revert h;refine gt (fun hc h=>?_) fun hc h=>?_
    ·refine j _ _ (qn (rt ?_))
     cases h;exact en Tryz.results175
    refine j _ _ (qn (rt ?_))
    cases h;exact en Tryz.results175
   refine j _ _ (qn (rt ?_))
   cases h;exact en Tryz.results175
  refine j _ _ (qn (rt ?_))
  cases h;exact en Tryz.results175
 refine j _ _ (qn ?_)
 refine AWP.cond (Ah ?_)
 refine sq (ar rfl (qn (rt (qr ?_))))
 cases h;exact en Tryz.results175
end
end Go.Proofs.YtjopghiagoidgaaGreat
