/- Our own texts: a layer of abstract values over the model, the walks of the functions, the plain laws; joined and shortened by a small program of our own (wip/dce2.py, wip/pack.py). -/
import Derived.Test.YtjopghiagoidgaaGreatA2
import Derived.Calls
import Derived.Tactics2
import Derived.Below
import Derived.Deep.LoopGhost
import Derived.KernelRfl
import Derived.Laws.Shifts
import Derived.Laws.CopyRow
import Derived.Laws.AppendOwn
import Derived.Laws.MakeOwn
import Derived.Laws.StructEq
import Derived.Maps.RangeRun
import Derived.Lib.SliceRun
import Derived.TacticsIn
import Derived.OrdersIn
import Derived.Sort.LoopGhostIn
import Derived.RangeFuncRecord
import Derived.Orders
import Derived.ProofKit
import Derived.OpenShut
import Derived.ShutString
import Derived.ChangeOld
import Derived.Carry
import Derived.WideShapes
import Derived.ChangeArms
import Derived.ChangeShapes
import Derived.Handed
import Derived.JoinedOf
import Derived.Sort.Grow
import Derived.Lib.SlicesCompact
import Derived.Lib.SlKeysI
import Derived.Maps.Own
import Derived.WideKeyRuns
import Derived.Test.YtjopghiagoidgaaGreatChecked
import Derived.Test.YtjopghiagoidgaaGreatProg
import Derived.Shelf.SortM.Plain
import Derived.Shelf.SortM.SortNone
import Derived.Shelf.SlIterI.Nil
import Derived.Shelf.Slices.CompactI
namespace Go.Proofs.YtjopghiagoidgaaGreat
open Go Go.Ab
attribute [local irreducible] AWP An B7 Ad Go.Ab.Sub alist dlist Bn De D1 Gy
set_option maxRecDepth 100000
set_option maxHeartbeats 4000000
set_option linter.unusedSimpArgs false
set_option linter.unusedVariables false
noncomputable section
def Ti:Option (Aj):=
 some (Aj.mk (Bb.mk [(Ck.mk 1 1000),(Ck.mk 2 2000),(Ck.mk 3 1500)] [(Cc.mk 1 1 1 2 1000 5000 4 50)] [(Ce.mk 1 1 2 3 2 1 800),(Ce.mk 2 1 3 1 2 1 800)] [(1:Int)]) [(Cr.mk 1 1)] [] (Ca.mk [(Cj.mk 1 (Br.mk [] 60 [])),(Cj.mk 2 (Br.mk [] 60 []))] []) [] [(C5.mk 1 100 (Fm.mk 0 450 450)),(C5.mk 2 100 (Fm.mk 0 450 450))] [] [] [] [] [] [] 300 0)
theorem Zh {r:Aj} (h:Ti=some r):Ad Tryz.prog 36 [] (·= .agg (B3 r)):=by
 refine Ad.nle (Ad.intro Tryz.func36 rfl rfl (by show _≤28;simp) ?_)
 unfold Ti at h
 refine nS (sq ?_)
 refine ar rfl (qn (sq ?_))
 refine ar rfl (qn (sq ?_))
 refine ar rfl (qn ?_)
 refine AWP.sub (Sub.denil 7 ([(Cj.mk (1:Int) (Br.mk [] (60:Int) [])),(Cj.mk (2:Int) (Br.mk [] (60:Int) []))].map Av) rfl (by simp +decide -implicitDefEqProofs only[go_sem,Dg,Ac.int.injEq,Int.natCast_zero,List.replicate_zero,List.length_take,List.length_drop,Ac.own.injEq,reduceCtorEq,Int.reduceAdd,Ru,Rv,Om,Rt,Ol,vU,Ol,Om])) ?_
 refine nS (rt ?_)
 cases h;exact en Tryz.results36
def Rb (id_:Int) (k0:Nat) (x_2:Ce) (sv:Unit):Option (Out (Unit) (Ce×Bool)):=
 (bif (decide (x_2.ID=id_))then some (Out.ret (x_2,true))else some (Out.next ()))
def E0 (m:Bb) (id_:Int):Option (Ce×Bool):=
 (Am (Rb id_) 0 m.Runs ()).bind fun o0=>o0.on fun s0=>some ((Ce.mk 0 0 0 0 0 0 0),false)
theorem D3 (m:Bb) (id_:Int) {r:Ce×Bool} (h:E0 m id_=some r):Ad Tryz.prog 53 [.agg (Cd m),.int .i64 id_] (·= .tuple [.agg (Bc r.1),.bool r.2]):=by
 refine Ad.nle (Ad.intro Tryz.func53 rfl rfl (by show _≤22;simp) ?_)
 unfold E0 at h
 refine nS (sq ?_)
 refine ar rfl (qn (sq (sq ?_)))
 refine rg rfl fun K j=>?_
 intro hm
 refine j _ _ (qn (bk ?_))
 obtain⟨o0,hJ0,hO0⟩:=Af h
 clear h
 refine AWP.Bw (ι:=Nat×(Unit)×(Unit)) (fun zz=>[(1,.int .i64 id_),(4,.ptr 1 0),(9,.sl 7 (m.Runs.map Bc)),(10,.int .i64 ((m.Runs.length:Nat):Int)),(11,.int .i64 ((zz.1:Nat):Int))]) (fun zz=>[.gone,.box [.int .i64 0,.int .i64 0,.int .i64 0,.int .i64 0,.int .i64 0,.int .i64 0,.int .i64 0]]) (fun zz=>zz.1≤m.Runs.length∧Am (Rb id_) zz.1 ((m.Runs).drop zz.1) zz.2.1=some o0) (fun zz=>m.Runs.length - zz.1) (0,(),()) ⟨Nat.zero_le _,hJ0⟩ cu cu (fun x=>⟨rfl,rfl,rfl⟩) ?_
 clear hJ0
 rintro⟨k0,⟨⟩,⟨⟩⟩ ⟨hk0,hJ0⟩
 dsimp only at hk0 hJ0 ⊢
 refine sq (ar rfl (qn (sq ?_)))
 refine AWP.cond (Ak (fun hc=>?_) (fun hc=>?_))
 rotate_left
 ·obtain rfl:=Bf hJ0 (fun hl=>by have:=Aiz hc;omega)
  have h:=Be hO0;try dsimp only at h
  have hkl:m.Runs.length=k0:=by have:=Aiz hc;omega
  subst hkl
  refine xt (qe (qe (bs (qn (sq (ar rfl (qn (rt ?_))))))))
  cases h;exact en Tryz.results53
 have hlt0:k0<m.Runs.length:=by have:=Ai0 hc;omega
 obtain⟨x_2,b0,hx0_,h,hJ0⟩:=A9 hJ0 hlt0
 have hx0:=Ay hx0_
 have hw0:=wk (k:=k0) (by omega)
 unfold Rb at h;try dsimp only at h
 refine sk (qn (sq (bk (sq ?_))))
 refine rg rfl fun K j=>?_
 refine Bn.of (f:=Bc) (l:=m.Runs) hx0 ?_
 refine nS ?_
 refine j _ _ (qn (sq ?_))
 refine ar rfl (qn ?_)
 revert h;refine ca rfl (fun hc h=>?_) fun hc h=>?_
 ·refine sq (ar rfl (qn (rt (br (qr (qr ?_))))))
  obtain rfl:=Aa h
  obtain rfl:=Ae hJ0
  replace h:=Al hO0
  refine br (qr ?_)
  cases h;exact en Tryz.results53
 refine sk (bn (qn (ar rfl (qn ?_))))
 obtain rfl:=Aa h
 refine⟨(k0+1,(),()),⟨by dsimp only;omega,Ai hJ0⟩,by dsimp only;omega,?_,?_⟩
 ·exact cuw hw0
 exact cuw hw0
def Fw (k2:Nat) (x_4:Bi) (sv:(List Int)):Option (Out ((List Int)) ((List Int))):=
 (bif x_4.Open then chk (sv.length+1) (some (Out.next (sv++[x_4.Run])))else some (Out.next sv))
def Cw (f_:Aj):Option ((List Int)):=
 (Am Fw 0 f_.Status []).bind fun o2=>o2.on fun s2=>some s2
theorem Qn (f_:Aj) {r:(List Int)} (h:Cw f_=some r):Bo Tryz.prog 20 [.agg (B3 f_)] (·= .sl 1 (r.map A2)):=by
 refine Bo.nle (Bo.intro Tryz.func20 rfl rfl (by show _≤22;simp) ?_)
 unfold Cw at h
 refine nS (sq ?_)
 refine ar rfl (qn (sq ?_))
 refine ar rfl (qn (sq (sq ?_)))
 refine rg rfl fun K j=>?_
 intro hm
 refine j _ _ (qn (bk ?_))
 refine AWP.ghost 3 1 rfl (by decide) ?_
 obtain⟨o2,hJ2,hO2⟩:=Af h
 clear h
 refine AWP.Bw (ι:=Nat×((List Int))×(Nat)) (fun zz=>[(3,.own 1 zz.2.2 0 zz.2.1.length),(7,.sl 3 (f_.Status.map A5)),(8,.int .i64 ((f_.Status.length:Nat):Int)),(9,.int .i64 ((zz.1:Nat):Int))]) (fun zz=>[.gone,.row zz.2.2 1 (zz.2.1.map A2)]) (fun zz=>zz.1≤f_.Status.length∧Am Fw zz.1 ((f_.Status).drop zz.1) zz.2.1=some o2) (fun zz=>f_.Status.length - zz.1) (0,[],0) ⟨Nat.zero_le _,hJ2⟩ cu cu (fun x=>⟨rfl,rfl,rfl⟩) ?_
 clear hJ2
 rintro⟨k2,out1,ver2⟩ ⟨hk2,hJ2⟩
 dsimp only at hk2 hJ2 ⊢
 refine sq (ar rfl (qn (sq ?_)))
 refine AWP.cond (Ak (fun hc=>?_) (fun hc=>?_))
 rotate_left
 ·obtain rfl:=Bf hJ2 (fun hl=>by have:=Aiz hc;omega)
  have h:=Be hO2;try dsimp only at h
  have hkl:f_.Status.length=k2:=by have:=Aiz hc;omega
  subst hkl
  refine xt (qe (qe (bs (qn (sq (ar rfl (qn (rt ?_))))))))
  cases h;exact en Tryz.results20
 have hlt2:k2<f_.Status.length:=by have:=Ai0 hc;omega
 obtain⟨x_4,b2,hx2_,h,hJ2⟩:=A9 hJ2 hlt2
 have hx2:=Ay hx2_
 have hw2:=wk (k:=k2) (by omega)
 unfold Fw at h;try dsimp only at h
 refine sk (qn (sq (bk (sq ?_))))
 refine rg rfl fun K j=>?_
 refine Bn.of (f:=A5) (l:=f_.Status) hx2 ?_
 refine nS ?_
 refine j _ _ (qn (sq ?_))
 refine ar rfl (qn ?_)
 revert h;refine ca rfl (fun hc h=>?_) fun hc h=>?_
 ·refine rg rfl fun K j=>?_
  obtain⟨hk,h⟩:=B4 h
  (repeat refine rp ?_);try simp +decide -implicitDefEqProofs only[go_sem]
  refine j _ _ (bn (qn ?_))
  refine ar rfl (qn ?_)
  obtain rfl:=Aa h
  refine⟨(k2+1,(out1++[x_4.Run]),(ver2+1)),⟨by dsimp only;omega,Ai hJ2⟩,by dsimp only;omega,?_,?_⟩
  ·exact cuw hw2
  exact cuw hw2
 refine sk (bn (qn (ar rfl (qn ?_))))
 obtain rfl:=Aa h
 refine⟨(k2+1,out1,ver2),⟨by dsimp only;omega,Ai hJ2⟩,by dsimp only;omega,?_,?_⟩
 ·exact cuw hw2
 exact cuw hw2
theorem D2 (f_:Aj) {r:(List Int)} (h:Cw f_=some r):Ad Tryz.prog 20 [.agg (B3 f_)] (·= .sl 1 (r.map A2)):=(Qn f_ h).pure
theorem aB (f_:Aj) {r:(List Int)} (h:Cw f_=some r):Db Tryz.prog 20 [.agg (B3 f_)] 1 (r.map A2):=by
 refine Db.of ?_
 refine Ch.weak (R:=fun q H=>∃ v0 rest,q= .own 0 v0 0 (r.map A2).length∧H= .row v0 1 (r.map A2)::rest) (Ch.intro Tryz.func20 rfl rfl (by show _≤22;simp) ?_) (fun q H hq=>?_)
 ·unfold Cw at h
  refine nS (sq ?_)
  refine ar rfl (qn (sq ?_))
  refine ar rfl (qn (sq (sq ?_)))
  refine rg rfl fun K j=>?_
  intro hm
  refine j _ _ (qn (bk ?_))
  refine AWP.ghost 3 1 rfl (by decide) ?_
  obtain⟨o2,hJ2,hO2⟩:=Af h
  clear h
  refine AWP.Bw (ι:=Nat×((List Int))×(Nat)) (fun zz=>[(3,.own 1 zz.2.2 0 zz.2.1.length),(7,.sl 3 (f_.Status.map A5)),(8,.int .i64 ((f_.Status.length:Nat):Int)),(9,.int .i64 ((zz.1:Nat):Int))]) (fun zz=>[.gone,.row zz.2.2 1 (zz.2.1.map A2)]) (fun zz=>zz.1≤f_.Status.length∧Am Fw zz.1 ((f_.Status).drop zz.1) zz.2.1=some o2) (fun zz=>f_.Status.length - zz.1) (0,[],0) ⟨Nat.zero_le _,hJ2⟩ cu cu (fun x=>⟨rfl,rfl,rfl⟩) ?_
  clear hJ2
  rintro⟨k2,out1,ver2⟩ ⟨hk2,hJ2⟩
  dsimp only at hk2 hJ2 ⊢
  refine sq (ar rfl (qn (sq ?_)))
  refine AWP.cond (Ak (fun hc=>?_) (fun hc=>?_))
  rotate_left
  ·obtain rfl:=Bf hJ2 (fun hl=>by have:=Aiz hc;omega)
   have h:=Be hO2;try dsimp only at h
   have hkl:f_.Status.length=k2:=by have:=Aiz hc;omega
   subst hkl
   refine xt (qe (qe (bs (qn (sq (ar rfl (qn ?_)))))))
   refine AWP.sub (Sub.swap 1 0 rfl rfl rfl) ?_
   refine nS (rt ?_)
   obtain rfl:=Aa h
   refine nSc Tryz.results20 ?_
   refine⟨_,_,?_,rfl⟩
   (try simp +decide -implicitDefEqProofs only[go_sem,List.length_map,List.length_append,List.length_cons,List.length_nil,List.length_set,List.length_replicate]);try rfl
  have hlt2:k2<f_.Status.length:=by have:=Ai0 hc;omega
  obtain⟨x_4,b2,hx2_,h,hJ2⟩:=A9 hJ2 hlt2
  have hx2:=Ay hx2_
  have hw2:=wk (k:=k2) (by omega)
  unfold Fw at h;try dsimp only at h
  refine sk (qn (sq (bk (sq ?_))))
  refine rg rfl fun K j=>?_
  refine Bn.of (f:=A5) (l:=f_.Status) hx2 ?_
  refine nS ?_
  refine j _ _ (qn (sq ?_))
  refine ar rfl (qn ?_)
  revert h;refine ca rfl (fun hc h=>?_) fun hc h=>?_
  ·refine rg rfl fun K j=>?_
   obtain⟨hk,h⟩:=B4 h
   (repeat refine rp ?_);try simp +decide -implicitDefEqProofs only[go_sem]
   refine j _ _ (bn (qn ?_))
   refine ar rfl (qn ?_)
   obtain rfl:=Aa h
   refine⟨(k2+1,(out1++[x_4.Run]),(ver2+1)),⟨by dsimp only;omega,Ai hJ2⟩,by dsimp only;omega,?_,?_⟩
   ·exact cuw hw2
   exact cuw hw2
  refine sk (bn (qn (ar rfl (qn ?_))))
  obtain rfl:=Aa h
  refine⟨(k2+1,out1,ver2),⟨by dsimp only;omega,Ai hJ2⟩,by dsimp only;omega,?_,?_⟩
  ·exact cuw hw2
  exact cuw hw2
 obtain⟨v0,rest,rfl,rfl⟩:=hq
 refine⟨[.row v0 1 (r.map A2)],?_,?_,?_,⟨v0,rfl,rfl⟩⟩
 all_goals exact cu
def Du (v:Int) (k0:Nat) (x_2:Int) (sv:Unit):Option (Out (Unit) (Int)):=
 (bif (decide (v=x_2))then some (Out.ret ((k0:Nat):Int))else some (Out.next ()))
def F8 (s_:List Int) (v:Int):Option (Int):=
 (Am (Du v) 0 s_ ()).bind fun o0=>o0.on fun s0=>some (-1)
theorem Rc (s_:List Int) (v:Int) {r:Int} (h:F8 s_ v=some r):Ad Tryz.prog 121 [.sl 1 (s_.map A2),.int .i64 v] (·= .int .i64 r):=by
 refine Ad.nle (Ad.intro Tryz.func121 rfl rfl (by show _≤19;simp) ?_)
 unfold F8 at h
 refine nS (sq ?_)
 refine ar rfl (qn (sq (sq ?_)))
 refine rg rfl fun K j=>?_
 intro hm
 refine j _ _ (qn (bk ?_))
 obtain⟨o0,hJ0,hO0⟩:=Af h
 clear h
 refine AWP.Bw (ι:=Nat×(Unit)×(Unit)) (fun zz=>[(0,.sl 1 (s_.map A2)),(1,.int .i64 v),(7,.int .i64 ((s_.length:Nat):Int)),(8,.int .i64 ((zz.1:Nat):Int))]) (fun zz=>[]) (fun zz=>zz.1≤s_.length∧Am (Du v) zz.1 ((s_).drop zz.1) zz.2.1=some o0) (fun zz=>s_.length - zz.1) (0,(),()) ⟨Nat.zero_le _,hJ0⟩ cu cu (fun x=>⟨rfl,rfl,rfl⟩) ?_
 clear hJ0
 rintro⟨k0,⟨⟩,⟨⟩⟩ ⟨hk0,hJ0⟩
 dsimp only at hk0 hJ0 ⊢
 refine sq (ar rfl (qn (sq ?_)))
 refine AWP.cond (Ak (fun hc=>?_) (fun hc=>?_))
 rotate_left
 ·obtain rfl:=Bf hJ0 (fun hl=>by have:=Aiz hc;omega)
  have h:=Be hO0;try dsimp only at h
  have hkl:s_.length=k0:=by have:=Aiz hc;omega
  subst hkl
  refine xt (qe (qe (bs (qn (sq (ar rfl (qn (rt ?_))))))))
  cases h;exact en Tryz.results121
 have hlt0:k0<s_.length:=by have:=Ai0 hc;omega
 obtain⟨x_2,b0,hx0_,h,hJ0⟩:=A9 hJ0 hlt0
 have hx0:=Ay hx0_
 have hw0:=wk (k:=k0) (by omega)
 unfold Du at h;try dsimp only at h
 refine sk (qn (sq (bk (sq (ar rfl (qn (sq ?_)))))))
 refine rg rfl fun K j=>?_
 refine Bn.of (f:=A2) (l:=s_) hx0 ?_
 refine nS ?_
 refine j _ _ (qn ?_)
 revert h;refine ca rfl (fun hc h=>?_) fun hc h=>?_
 ·refine sq (ar rfl (qn (rt (br (qr (qr ?_))))))
  obtain rfl:=Aa h
  obtain rfl:=Ae hJ0
  replace h:=Al hO0
  refine br (qr ?_)
  cases h;exact en Tryz.results121
 refine sk (bn (qn (ar rfl (qn ?_))))
 obtain rfl:=Aa h
 refine⟨(k0+1,(),()),⟨by dsimp only;omega,Ai hJ0⟩,by dsimp only;omega,?_,?_⟩
 ·exact cuw hw0
 exact cuw hw0
def Bs (s_:List Int) (v:Int):Option (Bool):=
 (F8 s_ v).bind fun y1=>some (decide (0≤y1))
theorem Bv (s_:List Int) (v:Int) {r:Bool} (h:Bs s_ v=some r):Ad Tryz.prog 54 [.sl 1 (s_.map A2),.int .i64 v] (·= .bool r):=by
 refine Ad.nle (Ad.intro Tryz.func54 rfl rfl (by show _≤9;simp) ?_)
 unfold Bs at h
 refine nS (sq ?_)
 refine ar rfl (qn (sq ?_))
 refine rg rfl fun K j=>?_
 obtain⟨y1,hy1,h⟩:=Af h
 refine An.pure Tryz.call121 (Rc s_ v hy1) rfl fun _ hr=>?_
 subst hr
 refine nS ?_
 refine j _ _ (qn (rt ?_))
 cases h;exact en Tryz.results54
def Jv (kind:Int) (target:Int) (k0:Nat) (x_2:Bl) (sv:Unit):Option (Out (Unit) (Bool)):=
 (bif (decide (x_2.Kind=kind))then (bif (decide (x_2.Target=target))then some (Out.ret (decide (0≤((k0:Nat):Int))))else some (Out.next ()))else some (Out.next ()))
def Hm (l:List Bl) (kind:Int) (target:Int):Option (Bool):=
 (Am (Jv kind target) 0 l ()).bind fun o0=>o0.on fun s0=>some false
theorem Qo (l:List Bl) (kind:Int) (target:Int) {r:Bool} (h:Hm l kind target=some r):Ad Tryz.prog 198 [.sl 4 (l.map Au),.int .i64 kind,.int .i64 target] (·= .bool r):=by
 refine Ad.nle (Ad.intro Tryz.func198 rfl rfl (by show _≤10;simp) ?_)
 unfold Hm at h
 refine nS (sq ?_)
 refine ar rfl (qn (sq ?_))
 refine rg rfl fun K j=>?_
 refine An.inline Tryz.call259 Tryz.func259 rfl rfl (by show _≤9;simp) ?_
 refine nS (sq ?_)
 refine ar rfl (qn (sq ?_))
 refine rg rfl fun K j=>?_
 refine An.inline Tryz.call239 Tryz.func239 rfl rfl (by show _≤19;simp) ?_
 refine nS (sq ?_)
 refine ar rfl (qn (sq (sq ?_)))
 refine rg rfl fun K j=>?_
 intro hm
 refine j _ _ (qn (bk ?_));clear j K
 obtain⟨o0,hJ0,hO0⟩:=Af h
 clear h
 refine AWP.Bw (ι:=Nat×(Unit)×(Unit)) (fun zz=>[(0,.sl 4 (l.map Au)),(1,.func 260 [.ptr 0 0,.ptr 1 0]),(7,.int .i64 ((l.length:Nat):Int)),(8,.int .i64 ((zz.1:Nat):Int))]) (fun zz=>[.box [.int .i64 kind],.box [.int .i64 target]]) (fun zz=>zz.1≤l.length∧Am (Jv kind target) zz.1 ((l).drop zz.1) zz.2.1=some o0) (fun zz=>l.length - zz.1) (0,(),()) ⟨Nat.zero_le _,hJ0⟩ cu cu (fun x=>⟨rfl,rfl,rfl⟩) ?_
 clear hJ0
 rintro⟨k0,⟨⟩,⟨⟩⟩ ⟨hk0,hJ0⟩
 dsimp only at hk0 hJ0 ⊢
 refine sq (ar rfl (qn (sq ?_)))
 refine AWP.cond (Ak (fun hc=>?_) (fun hc=>?_))
 rotate_left
 ·obtain rfl:=Bf hJ0 (fun hl=>by have:=Aiz hc;omega)
  have h:=Be hO0;try dsimp only at h
  have hkl:l.length=k0:=by have:=Aiz hc;omega
  subst hkl
  refine xt (qe (qe (bs (qn (sq (ar rfl (qn (rt ?_))))))))
  refine nSc Tryz.results239 ?_
  refine j _ _ (qn (rt ?_));clear j K
  refine nSc Tryz.results259 ?_
  refine j _ _ (qn (rt ?_))
  cases h;exact en Tryz.results198
 have hlt0:k0<l.length:=by have:=Ai0 hc;omega
 obtain⟨x_2,b0,hx0_,h,hJ0⟩:=A9 hJ0 hlt0
 have hx0:=Ay hx0_
 have hw0:=wk (k:=k0) (by omega)
 unfold Jv at h;try dsimp only at h
 refine sk (qn (sq (bk (sq (ar rfl (qn (sq ?_)))))))
 refine rg rfl fun K j=>?_
 refine Bn.of (f:=Au) (l:=l) hx0 ?_
 refine nS ?_
 refine An.inline Tryz.call260 Tryz.func260 rfl rfl (by show _≤15;simp) ?_
 refine nS (sq ?_)
 refine ar rfl (qn (sq ?_))
 refine rg rfl fun K j=>?_
 revert h;refine gt (fun hc h=>?_) fun hc h=>?_
 ·refine j _ _ (qn (rt ?_));clear j K
  refine nSc Tryz.results260 ?_
  refine j _ _ (qn ?_);clear j K
  revert h;refine ca rfl (fun hc h=>?_) fun hc h=>?_
  ·refine sq (ar rfl (qn (rt (br (qr (qr ?_))))))
   obtain rfl:=Aa h
   obtain rfl:=Ae hJ0
   replace h:=Al hO0
   refine br (qr (nSc Tryz.results239 ?_))
   refine j _ _ (qn (rt ?_));clear j K
   refine nSc Tryz.results259 ?_
   refine j _ _ (qn (rt ?_))
   cases h;exact en Tryz.results198
  refine sk (bn (qn (ar rfl (qn ?_))))
  obtain rfl:=Aa h
  refine⟨(k0+1,(),()),⟨by dsimp only;omega,Ai hJ0⟩,by dsimp only;omega,?_,?_⟩
  ·exact cuw hw0
  exact cuw hw0
 refine j _ _ (qn (rt ?_));clear j K
 refine nSc Tryz.results260 ?_
 refine j _ _ (qn ?_);clear j K
 refine AWP.cond (Bk ?_)
 refine sk (bn (qn (ar rfl (qn ?_))))
 obtain rfl:=Aa h
 refine⟨(k0+1,(),()),⟨by dsimp only;omega,Ai hJ0⟩,by dsimp only;omega,?_,?_⟩
 ·exact cuw hw0
 exact cuw hw0
def P3 (m:Bb) (l:List Bl) (run:Int):Option (Bool):=
 (E0 m run).bind fun y1=>(bif y1.2 then(Hm l 1 run).bind fun y2=>(bif y2 then some true else(Hm l 3 y1.1.Zone).bind fun y3=>some y3)else some false)
theorem c7 (m:Bb) (l:List Bl) (run:Int) {r:Bool} (h:P3 m l run=some r):Ad Tryz.prog 102 [.agg (Cd m),.sl 4 (l.map Au),.int .i64 run] (·= .bool r):=by
 refine Ad.nle (Ad.intro Tryz.func102 rfl rfl (by show _≤27;simp) ?_)
 unfold P3 at h
 refine nS (sq ?_)
 refine ar rfl (qn (sq ?_))
 refine rg rfl fun K j=>?_
 obtain⟨y1,hy1,h⟩:=Af h
 refine An.pure Tryz.call53 (D3 m run hy1) rfl fun _ hr=>?_
 subst hr
 refine nS ?_
 refine j _ _ (qn (sq ?_))
 refine rg rfl fun K j=>?_
 revert h;refine gt (fun hc h=>?_) fun hc h=>?_
 ·obtain⟨y2,hy2,h⟩:=Af h
  refine An.pure Tryz.call198 (Qo l 1 run hy2) rfl fun _ hr=>?_
  subst hr
  refine nS ?_
  revert h;refine gf (fun hc h=>?_) fun hc h=>?_
  ·obtain⟨y3,hy3,h⟩:=Af h
   refine An.pure Tryz.call198 (Qo l 3 y1.1.Zone hy3) rfl fun _ hr=>?_
   subst hr
   refine nS ?_
   refine j _ _ (qn (rt ?_))
   cases h;exact en Tryz.results102
  refine j _ _ (qn (rt ?_))
  cases h;exact en Tryz.results102
 refine j _ _ (qn (rt ?_))
 cases h;exact en Tryz.results102
def Pj (run:Int) (k0:Nat) (x_2:B5) (sv:Unit):Option (Out (Unit) (Bool)):=
 (bif (decide (x_2.State=2))then (bif (decide (x_2.Run=run))then some (Out.ret (decide (0≤((k0:Nat):Int))))else some (Out.next ()))else some (Out.next ()))
def R1 (l:List B5) (run:Int):Option (Bool):=
 (Am (Pj run) 0 l ()).bind fun o0=>o0.on fun s0=>some false
theorem eT (l:List B5) (run:Int) {r:Bool} (h:R1 l run=some r):Ad Tryz.prog 103 [.sl 8 (l.map A1),.int .i64 run] (·= .bool r):=by
 refine Ad.nle (Ad.intro Tryz.func103 rfl rfl (by show _≤8;simp) ?_)
 unfold R1 at h
 refine nS (sq ?_)
 refine ar rfl (qn (sq ?_))
 refine rg rfl fun K j=>?_
 refine An.inline Tryz.call199 Tryz.func199 rfl rfl (by show _≤9;simp) ?_
 refine nS (sq ?_)
 refine ar rfl (qn (sq ?_))
 refine rg rfl fun K j=>?_
 refine An.inline Tryz.call261 Tryz.func261 rfl rfl (by show _≤19;simp) ?_
 refine nS (sq ?_)
 refine ar rfl (qn (sq (sq ?_)))
 refine rg rfl fun K j=>?_
 intro hm
 refine j _ _ (qn (bk ?_));clear j K
 obtain⟨o0,hJ0,hO0⟩:=Af h
 clear h
 refine AWP.Bw (ι:=Nat×(Unit)×(Unit)) (fun zz=>[(0,.sl 8 (l.map A1)),(1,.func 200 [.ptr 0 0]),(7,.int .i64 ((l.length:Nat):Int)),(8,.int .i64 ((zz.1:Nat):Int))]) (fun zz=>[.box [.int .i64 run]]) (fun zz=>zz.1≤l.length∧Am (Pj run) zz.1 ((l).drop zz.1) zz.2.1=some o0) (fun zz=>l.length - zz.1) (0,(),()) ⟨Nat.zero_le _,hJ0⟩ cu cu (fun x=>⟨rfl,rfl,rfl⟩) ?_
 clear hJ0
 rintro⟨k0,⟨⟩,⟨⟩⟩ ⟨hk0,hJ0⟩
 dsimp only at hk0 hJ0 ⊢
 refine sq (ar rfl (qn (sq ?_)))
 refine AWP.cond (Ak (fun hc=>?_) (fun hc=>?_))
 rotate_left
 ·obtain rfl:=Bf hJ0 (fun hl=>by have:=Aiz hc;omega)
  have h:=Be hO0;try dsimp only at h
  have hkl:l.length=k0:=by have:=Aiz hc;omega
  subst hkl
  refine xt (qe (qe (bs (qn (sq (ar rfl (qn (rt ?_))))))))
  refine nSc Tryz.results261 ?_
  refine j _ _ (qn (rt ?_));clear j K
  refine nSc Tryz.results199 ?_
  refine j _ _ (qn (rt ?_))
  cases h;exact en Tryz.results103
 have hlt0:k0<l.length:=by have:=Ai0 hc;omega
 obtain⟨x_2,b0,hx0_,h,hJ0⟩:=A9 hJ0 hlt0
 have hx0:=Ay hx0_
 have hw0:=wk (k:=k0) (by omega)
 unfold Pj at h;try dsimp only at h
 refine sk (qn (sq (bk (sq (ar rfl (qn (sq ?_)))))))
 refine rg rfl fun K j=>?_
 refine Bn.of (f:=A1) (l:=l) hx0 ?_
 refine nS ?_
 refine An.inline Tryz.call200 Tryz.func200 rfl rfl (by show _≤13;simp) ?_
 refine nS (sq ?_)
 refine ar rfl (qn (sq ?_))
 refine rg rfl fun K j=>?_
 revert h;refine gt (fun hc h=>?_) fun hc h=>?_
 ·refine j _ _ (qn (rt ?_));clear j K
  refine nSc Tryz.results200 ?_
  refine j _ _ (qn ?_);clear j K
  revert h;refine ca rfl (fun hc h=>?_) fun hc h=>?_
  ·refine sq (ar rfl (qn (rt (br (qr (qr ?_))))))
   obtain rfl:=Aa h
   obtain rfl:=Ae hJ0
   replace h:=Al hO0
   refine br (qr (nSc Tryz.results261 ?_))
   refine j _ _ (qn (rt ?_));clear j K
   refine nSc Tryz.results199 ?_
   refine j _ _ (qn (rt ?_))
   cases h;exact en Tryz.results103
  refine sk (bn (qn (ar rfl (qn ?_))))
  obtain rfl:=Aa h
  refine⟨(k0+1,(),()),⟨by dsimp only;omega,Ai hJ0⟩,by dsimp only;omega,?_,?_⟩
  ·exact cuw hw0
  exact cuw hw0
 refine j _ _ (qn (rt ?_));clear j K
 refine nSc Tryz.results200 ?_
 refine j _ _ (qn ?_);clear j K
 refine AWP.cond (Bk ?_)
 refine sk (bn (qn (ar rfl (qn ?_))))
 obtain rfl:=Aa h
 refine⟨(k0+1,(),()),⟨by dsimp only;omega,Ai hJ0⟩,by dsimp only;omega,?_,?_⟩
 ·exact cuw hw0
 exact cuw hw0
def J2 (t:Int) (k2:Nat) (x_4:A8) (sv:(List Int)):Option (Out ((List Int)) ((List Int))):=
 (bif (decide (x_4.From≤t))then (bif (decide (t<x_4.To))then chk (sv.length+x_4.Runs.length) (some (Out.next (sv++x_4.Runs)))else some (Out.next sv))else some (Out.next sv))
def Pm (l:List A8) (t:Int):Option ((List Int)):=
 (Am (J2 t) 0 l []).bind fun o2=>o2.on fun s2=>chk s2.length (chk s2.length (some (Cg (Dc s2))))
theorem bC (l:List A8) (t:Int) {r:(List Int)} (h:Pm l t=some r):Ad Tryz.prog 104 [.sl 4 (l.map Ao),.int .i64 t] (·= .sl 1 (r.map A2)):=by
 refine Ad.nle (Ad.zR Tryz.func104 rfl rfl (by show _≤19;simp) ?_)
 unfold Pm at h
 refine nS ?_
 refine jL.pre ?_
 refine ar rfl (qn ?_)
 refine jL.pre ?_
 refine ar rfl (qn ?_)
 refine jL.seqq ?_
 refine pF.seq ?_
 refine rg rfl fun K j=>?_
 refine An.inline Tryz.call201 Tryz.func201 rfl rfl (by show _≤6;simp) ?_
 refine nS (sq ?_)
 refine ar rfl (qn (sq ?_))
 refine ar rfl (qn (rt ?_))
 refine nSc Tryz.results201 ?_
 refine j _ _ (qn ?_)
 refine pF.range [(4,.nils),(5,.ptr 0 0),(9,.func 262 [.ptr 1 0,.ptr 2 0])] cu cu rfl fun D A0 B0 hA0 hB0=>?_
 refine nS ?_
 refine An.inline Tryz.call262 Tryz.func262 rfl rfl (by show _≤29;simp) ?_
 refine nS (sq ?_)
 refine rg rfl fun K j=>?_
 intro hm
 refine j _ _ (qn (bk ?_))
 refine AWP.sub (Sub.zU 0 0 1 rfl rfl (by decide)) ?_
 refine nS ?_
 obtain⟨o2,hJ2,hO2⟩:=Af h
 clear h
 refine AWP.Bw (ι:=Nat×((List Int))×(Nat)) (fun zz=>[(0,.yld 3),(2,.ptr 2 0),(6,.sl 4 (l.map Ao)),(7,.int .i64 ((l.length:Nat):Int)),(8,.int .i64 ((zz.1:Nat):Int))]) (fun zz=>[.box [.own 4 zz.2.2 0 zz.2.1.length],.box [.sl 4 (l.map Ao)],.box [.int .i64 t],.lp D 19 [(4,.nils),(5,.ptr 0 0),(9,.func 262 [.ptr 1 0,.ptr 2 0])] #[10] A0 B0 .ready none,.row zz.2.2 1 (zz.2.1.map A2)]) (fun zz=>zz.1≤l.length∧Am (J2 t) zz.1 ((l).drop zz.1) zz.2.1=some o2) (fun zz=>l.length - zz.1) (0,[],0) ⟨Nat.zero_le _,hJ2⟩ cu cu (fun x=>⟨rfl,rfl,rfl⟩) ?_
 clear hJ2
 rintro⟨k2,o4_1,ver2⟩ ⟨hk2,hJ2⟩
 dsimp only at hk2 hJ2 ⊢
 refine sq (ar rfl (qn (sq ?_)))
 refine AWP.cond (Ak (fun hc=>?_) (fun hc=>?_))
 rotate_left
 ·obtain rfl:=Bf hJ2 (fun hl=>by have:=Aiz hc;omega)
  have h:=Be hO2;try dsimp only at h
  have hkl:l.length=k2:=by have:=Aiz hc;omega
  subst hkl
  refine xt (qe (qe (bs (nSc Tryz.results262 ?_))))
  refine qrange.all rfl ?_
  refine nS (sq ?_)
  refine rg rfl fun K j=>?_
  obtain⟨hk,h⟩:=B4 h
  refine An.Dc Tryz.call68 Tryz.sorts68 rfl (by first | rfl | exact(Cl _).symm | (simp only[List.length_append,List.length_cons,List.length_nil,List.length_set,List.length_replicate]<;>omega)) hk ?_
  refine nS ?_
  refine j _ _ (qn (sq ?_))
  refine rg rfl fun K j=>?_
  obtain⟨hk,h⟩:=B4 h
  refine An.Cg Tryz.call69 Tryz.compacts69 rfl (by first | rfl | exact(Cl _).symm | (simp only[List.length_append,List.length_cons,List.length_nil,List.length_set,List.length_replicate]<;>omega)) hk ?_
  refine nS ?_
  refine j _ _ (qn (rt ?_))
  refine qmD.mk (r:=3) rfl ?_
  cases h;exact en Tryz.results104
 have hlt2:k2<l.length:=by have:=Ai0 hc;omega
 obtain⟨x_4,b2,hx2_,h,hJ2⟩:=A9 hJ2 hlt2
 have hx2:=Ay hx2_
 have hw2:=wk (k:=k2) (by omega)
 unfold J2 at h;try dsimp only at h
 refine sk (qn (sq (bk (sq ?_))))
 refine rg rfl fun K j=>?_
 refine Bn.of (f:=Ao) (l:=l) hx2 ?_
 refine nS ?_
 refine j _ _ (qn (sq ?_))
 refine rg rfl fun K j=>?_
 revert h;refine gt (fun hc h=>?_) fun hc h=>?_
 ·revert h;refine gt (fun hc h=>?_) fun hc h=>?_
  ·refine An.yield rfl rfl rfl hA0 hB0 rfl fun md=>?_
   (try simp +decide -implicitDefEqProofs only[go_sem,lH])
   refine ar rfl ?_
   refine qyA.mk rfl ?_
   refine nS (bk ?_)
   refine rg rfl fun K j=>?_
   obtain⟨hk,h⟩:=B4 h
   (repeat refine rp ?_);try simp +decide -implicitDefEqProofs only[go_sem]
   refine j _ _ (bn ?_);clear j K
   refine qyB.next rfl ?_
   refine nS ?_
   refine j _ _ (qn ?_)
   refine AWP.cond (Bk ?_)
   refine sk (bn (qn (ar rfl (qn ?_))))
   obtain rfl:=Aa h
   refine⟨(k2+1,(o4_1++x_4.Runs),(ver2+1)),⟨by dsimp only;omega,Ai hJ2⟩,by dsimp only;omega,?_,?_⟩
   ·exact cuw hw2
   exact cuw hw2
  refine j _ _ (qn ?_)
  refine AWP.cond (Bk ?_)
  refine sk (bn (qn (ar rfl (qn ?_))))
  obtain rfl:=Aa h
  refine⟨(k2+1,o4_1,ver2),⟨by dsimp only;omega,Ai hJ2⟩,by dsimp only;omega,?_,?_⟩
  ·exact cuw hw2
  exact cuw hw2
 refine j _ _ (qn ?_)
 refine AWP.cond (Bk ?_)
 refine sk (bn (qn (ar rfl (qn ?_))))
 obtain rfl:=Aa h
 refine⟨(k2+1,o4_1,ver2),⟨by dsimp only;omega,Ai hJ2⟩,by dsimp only;omega,?_,?_⟩
 ·exact cuw hw2
 exact cuw hw2
def Eu (t5_1:Bool):Option (Bool):=
 (bif t5_1 then some true else some false)
def Il (m:Bh):Option (Bool):=
 (bif (decide (m.State=1))then Eu (decide (m.State=1))else (bif (decide (m.State=2))then Eu (decide (m.State=2))else (bif (decide (m.State=3))then Eu (decide (m.State=3))else Eu (decide (m.State=4)))))
theorem S0 (m:Bh) {r:Bool} (h:Il m=some r):Ad Tryz.prog 249 [.agg (Ap m)] (·= .bool r):=by
 refine Ad.nle (Ad.intro Tryz.func249 rfl rfl (by show _≤10;simp) ?_)
 unfold Il at h
 refine nS (sq ?_)
 refine ar rfl (qn (sq (sq ?_)))
 refine ar rfl (qn (bk ?_))
 refine AWP.Le (ι:=(Bool)×(Unit)) (fun zz=>[(5,.bool zz.1)]) (fun zz=>[]) (fun zz=>Eu zz.1=some r) (fun zz=>⟨rfl,rfl,rfl⟩) ?_ ?_
 ·refine sq (ar rfl (qn ?_))
  revert h;refine ca rfl (fun hc h=>?_) fun hc h=>?_
  ·refine sk (qn ?_)
   exact⟨((decide (m.State=1)),()),h,cu,cu⟩
  refine sq (ar rfl (qn ?_))
  revert h;refine ca rfl (fun hc h=>?_) fun hc h=>?_
  ·refine sk (qn ?_)
   exact⟨((decide (m.State=2)),()),h,cu,cu⟩
  refine sq (ar rfl (qn ?_))
  revert h;refine ca rfl (fun hc h=>?_) fun hc h=>?_
  ·refine sk (qn ?_)
   exact⟨((decide (m.State=3)),()),h,cu,cu⟩
  refine ar rfl (qn ?_)
  exact⟨((decide (m.State=4)),()),h,cu,cu⟩
 rintro⟨t5_1,⟨⟩⟩ h
 try dsimp only at h ⊢
 unfold Eu at h;try dsimp only at h
 revert h;refine ca rfl (fun hc h=>?_) fun hc h=>?_
 ·refine sq (ar rfl (qn (rt (br (qr ?_)))))
  cases h;exact en Tryz.results249
 refine sk (bn (qn (sq (ar rfl (qn (rt ?_))))))
 cases h;exact en Tryz.results249
def Ms (k2:Nat) (x_4:Bh) (sv:(List Int)):Option (Out ((List Int)) ((List Int))):=
 (Il x_4).bind fun y5=>(bif y5 then chk (sv.length+1) (some (Out.next (sv++[x_4.Slide])))else some (Out.next sv))
def Lr (l:List Bh):Option ((List Int)):=
 (Am Ms 0 l []).bind fun o2=>o2.on fun s2=>chk s2.length (some (Dc s2))
theorem Zq (l:List Bh) {r:(List Int)} (h:Lr l=some r):Bo Tryz.prog 202 [.sl 7 (l.map Ap)] (·= .sl 1 (r.map A2)):=by
 refine Bo.nle (Bo.intro Tryz.func202 rfl rfl (by show _≤23;simp) ?_)
 unfold Lr at h
 refine nS (sq ?_)
 refine ar rfl (qn (sq ?_))
 refine ar rfl (qn (sq (sq ?_)))
 refine rg rfl fun K j=>?_
 intro hm
 refine j _ _ (qn (bk ?_))
 refine AWP.ghost 3 1 rfl (by decide) ?_
 obtain⟨o2,hJ2,hO2⟩:=Af h
 clear h
 refine AWP.Bw (ι:=Nat×((List Int))×(Nat)) (fun zz=>[(3,.own 0 zz.2.2 0 zz.2.1.length),(6,.sl 7 (l.map Ap)),(7,.int .i64 ((l.length:Nat):Int)),(8,.int .i64 ((zz.1:Nat):Int))]) (fun zz=>[.row zz.2.2 1 (zz.2.1.map A2)]) (fun zz=>zz.1≤l.length∧Am Ms zz.1 ((l).drop zz.1) zz.2.1=some o2) (fun zz=>l.length - zz.1) (0,[],0) ⟨Nat.zero_le _,hJ2⟩ cu cu (fun x=>⟨rfl,rfl,rfl⟩) ?_
 clear hJ2
 rintro⟨k2,out1,ver2⟩ ⟨hk2,hJ2⟩
 dsimp only at hk2 hJ2 ⊢
 refine sq (ar rfl (qn (sq ?_)))
 refine AWP.cond (Ak (fun hc=>?_) (fun hc=>?_))
 rotate_left
 ·obtain rfl:=Bf hJ2 (fun hl=>by have:=Aiz hc;omega)
  have h:=Be hO2;try dsimp only at h
  have hkl:l.length=k2:=by have:=Aiz hc;omega
  subst hkl
  refine xt (qe (qe (bs (qn (sq ?_)))))
  refine rg rfl fun K j=>?_
  obtain⟨hk,h⟩:=B4 h
  refine An.Dc Tryz.call68 Tryz.sorts68 rfl (by first | rfl | exact(Cl _).symm | (simp only[List.length_append,List.length_cons,List.length_nil,List.length_set,List.length_replicate]<;>omega)) hk ?_
  refine nS ?_
  refine j _ _ (qn (sq ?_))
  refine ar rfl (qn (rt ?_))
  cases h;exact en Tryz.results202
 have hlt2:k2<l.length:=by have:=Ai0 hc;omega
 obtain⟨x_4,b2,hx2_,h,hJ2⟩:=A9 hJ2 hlt2
 have hx2:=Ay hx2_
 have hw2:=wk (k:=k2) (by omega)
 unfold Ms at h;try dsimp only at h
 refine sk (qn (sq (bk (sq ?_))))
 refine rg rfl fun K j=>?_
 refine Bn.of (f:=Ap) (l:=l) hx2 ?_
 refine nS ?_
 refine j _ _ (qn (sq ?_))
 refine rg rfl fun K j=>?_
 obtain⟨y5,hy5,h⟩:=Af h
 refine An.pure Tryz.call249 (S0 x_4 hy5) rfl fun _ hr=>?_
 subst hr
 refine nS ?_
 refine j _ _ (qn ?_)
 revert h;refine ca rfl (fun hc h=>?_) fun hc h=>?_
 ·refine rg rfl fun K j=>?_
  obtain⟨hk,h⟩:=B4 h
  (repeat refine rp ?_);try simp +decide -implicitDefEqProofs only[go_sem]
  refine j _ _ (bn (qn ?_))
  refine ar rfl (qn ?_)
  obtain rfl:=Aa h
  refine⟨(k2+1,(out1++[x_4.Slide]),(ver2+1)),⟨by dsimp only;omega,Ai hJ2⟩,by dsimp only;omega,?_,?_⟩
  ·exact cuw hw2
  exact cuw hw2
 refine sk (bn (qn (ar rfl (qn ?_))))
 obtain rfl:=Aa h
 refine⟨(k2+1,out1,ver2),⟨by dsimp only;omega,Ai hJ2⟩,by dsimp only;omega,?_,?_⟩
 ·exact cuw hw2
 exact cuw hw2
theorem aR (l:List Bh) {r:(List Int)} (h:Lr l=some r):Ad Tryz.prog 202 [.sl 7 (l.map Ap)] (·= .sl 1 (r.map A2)):=(Zq l h).pure
def Gl (zone:Int) (y1:(List Int)) (k1:Nat) (x_3:Bd) (sv:Unit):Option (Out (Unit) (Bool)):=
 (Bs y1 x_3.ID).bind fun y4=>(bif y4 then(Bs x_3.Zones zone).bind fun y5=>(bif y5 then some (Out.ret (decide (0≤((k1:Nat):Int))))else some (Out.next ()))else some (Out.next ()))
def Gm (f_:Aj) (zone:Int):Option (Bool):=
 (Lr f_.Missions).bind fun y1=>(Am (Gl zone y1) 0 f_.Slides ()).bind fun o1=>o1.on fun s1=>some false
theorem Vd (f_:Aj) (zone:Int) {r:Bool} (h:Gm f_ zone=some r):Ad Tryz.prog 105 [.agg (B3 f_),.int .i64 zone] (·= .bool r):=by
 refine Ad.nle (Ad.intro Tryz.func105 rfl rfl (by show _≤13;simp) ?_)
 unfold Gm at h
 refine nS (sq ?_)
 refine ar rfl (qn (sq ?_))
 refine rg rfl fun K j=>?_
 obtain⟨y1,hy1,h⟩:=Af h
 refine An.pure Tryz.call202 (aR f_.Missions hy1) rfl fun _ hr=>?_
 subst hr
 refine nS ?_
 refine j _ _ (qn (sq ?_))
 refine rg rfl fun K j=>?_
 refine An.inline Tryz.call203 Tryz.func203 rfl rfl (by show _≤9;simp) ?_
 refine nS (sq ?_)
 refine ar rfl (qn (sq ?_))
 refine rg rfl fun K j=>?_
 refine An.inline Tryz.call245 Tryz.func245 rfl rfl (by show _≤19;simp) ?_
 refine nS (sq ?_)
 refine ar rfl (qn (sq (sq ?_)))
 refine rg rfl fun K j=>?_
 intro hm
 refine j _ _ (qn (bk ?_));clear j K
 obtain⟨o1,hJ1,hO1⟩:=Af h
 clear h
 refine AWP.Bw (ι:=Nat×(Unit)×(Unit)) (fun zz=>[(0,.sl 6 (f_.Slides.map Ba)),(1,.func 204 [.ptr 2 0,.ptr 1 0]),(7,.int .i64 ((f_.Slides.length:Nat):Int)),(8,.int .i64 ((zz.1:Nat):Int))]) (fun zz=>[.box [.sl 2 (f_.Map.Nodes.map A6),.sl 8 (f_.Map.Lifts.map A7),.sl 7 (f_.Map.Runs.map Bc),.sl 1 (f_.Map.Bases.map A2),.sl 2 (f_.Lifts.map Aw),.sl 4 (f_.Closures.map Au),.sl 4 (f_.Patrol.Bu.map Av),.sl 3 (f_.Patrol.Hazards.map Az),.sl 3 (f_.Surfaces.map A4),.sl 5 (f_.Packs.map A3),.sl 6 (f_.Slides.map Ba),.sl 7 (f_.Bulletin.map Ax),.sl 7 (f_.Missions.map Ap),.sl 4 (f_.Winches.map Ao),.sl 8 (f_.Groomers.map A1),.sl 3 (f_.Status.map A5),.int .i64 f_.Depth,.int .i64 f_.Time],.box [.int .i64 zone],.box [.sl 1 (y1.map A2)]]) (fun zz=>zz.1≤f_.Slides.length∧Am (Gl zone y1) zz.1 ((f_.Slides).drop zz.1) zz.2.1=some o1) (fun zz=>f_.Slides.length - zz.1) (0,(),()) ⟨Nat.zero_le _,hJ1⟩ cu cu (fun x=>⟨rfl,rfl,rfl⟩) ?_
 clear hJ1
 rintro⟨k1,⟨⟩,⟨⟩⟩ ⟨hk1,hJ1⟩
 dsimp only at hk1 hJ1 ⊢
 refine sq (ar rfl (qn (sq ?_)))
 refine AWP.cond (Ak (fun hc=>?_) (fun hc=>?_))
 rotate_left
 ·obtain rfl:=Bf hJ1 (fun hl=>by have:=Aiz hc;omega)
  have h:=Be hO1;try dsimp only at h
  have hkl:f_.Slides.length=k1:=by have:=Aiz hc;omega
  subst hkl
  refine xt (qe (qe (bs (qn (sq (ar rfl (qn (rt ?_))))))))
  refine nSc Tryz.results245 ?_
  refine j _ _ (qn (rt ?_));clear j K
  refine nSc Tryz.results203 ?_
  refine j _ _ (qn (rt ?_))
  cases h;exact en Tryz.results105
 have hlt1:k1<f_.Slides.length:=by have:=Ai0 hc;omega
 obtain⟨x_3,b1,hx1_,h,hJ1⟩:=A9 hJ1 hlt1
 have hx1:=Ay hx1_
 have hw1:=wk (k:=k1) (by omega)
 unfold Gl at h;try dsimp only at h
 refine sk (qn (sq (bk (sq (ar rfl (qn (sq ?_)))))))
 refine rg rfl fun K j=>?_
 refine Bn.of (f:=Ba) (l:=f_.Slides) hx1 ?_
 refine nS ?_
 refine An.inline Tryz.call204 Tryz.func204 rfl rfl (by show _≤15;simp) ?_
 refine nS (sq ?_)
 refine ar rfl (qn (sq ?_))
 refine rg rfl fun K j=>?_
 obtain⟨y4,hy4,h⟩:=Af h
 refine An.pure Tryz.call54 (Bv y1 x_3.ID hy4) rfl fun _ hr=>?_
 subst hr
 refine nS ?_
 revert h;refine gt (fun hc h=>?_) fun hc h=>?_
 ·obtain⟨y5,hy5,h⟩:=Af h
  refine An.pure Tryz.call54 (Bv x_3.Zones zone hy5) rfl fun _ hr=>?_
  subst hr
  refine nS ?_
  refine j _ _ (qn (rt ?_));clear j K
  refine nSc Tryz.results204 ?_
  refine j _ _ (qn ?_);clear j K
  revert h;refine ca rfl (fun hc h=>?_) fun hc h=>?_
  ·refine sq (ar rfl (qn (rt (br (qr (qr ?_))))))
   obtain rfl:=Aa h
   obtain rfl:=Ae hJ1
   replace h:=Al hO1
   refine br (qr (nSc Tryz.results245 ?_))
   refine j _ _ (qn (rt ?_));clear j K
   refine nSc Tryz.results203 ?_
   refine j _ _ (qn (rt ?_))
   cases h;exact en Tryz.results105
  refine sk (bn (qn (ar rfl (qn ?_))))
  obtain rfl:=Aa h
  refine⟨(k1+1,(),()),⟨by dsimp only;omega,Ai hJ1⟩,by dsimp only;omega,?_,?_⟩
  ·exact cuw hw1
  exact cuw hw1
 refine j _ _ (qn (rt ?_));clear j K
 refine nSc Tryz.results204 ?_
 refine j _ _ (qn ?_);clear j K
 refine AWP.cond (Bk ?_)
 refine sk (bn (qn (ar rfl (qn ?_))))
 obtain rfl:=Aa h
 refine⟨(k1+1,(),()),⟨by dsimp only;omega,Ai hJ1⟩,by dsimp only;omega,?_,?_⟩
 ·exact cuw hw1
 exact cuw hw1
def Mi (zone:Int) (k2:Nat) (x_4:Ce) (sv:(List Int)):Option (Out ((List Int)) ((List Int))):=
 (bif (decide (x_4.Zone=zone))then chk (sv.length+1) (some (Out.next (sv++[x_4.ID])))else some (Out.next sv))
def K8 (m:Bb) (zone:Int):Option ((List Int)):=
 (Am (Mi zone) 0 m.Runs []).bind fun o2=>o2.on fun s2=>some s2
theorem Y2 (m:Bb) (zone:Int) {r:(List Int)} (h:K8 m zone=some r):Bo Tryz.prog 95 [.agg (Cd m),.int .i64 zone] (·= .sl 1 (r.map A2)):=by
 refine Bo.nle (Bo.intro Tryz.func95 rfl rfl (by show _≤26;simp) ?_)
 unfold K8 at h
 refine nS (sq ?_)
 refine ar rfl (qn (sq ?_))
 refine ar rfl (qn (sq (sq ?_)))
 refine rg rfl fun K j=>?_
 intro hm
 refine j _ _ (qn (bk ?_))
 refine AWP.ghost 5 1 rfl (by decide) ?_
 obtain⟨o2,hJ2,hO2⟩:=Af h
 clear h
 refine AWP.Bw (ι:=Nat×((List Int))×(Nat)) (fun zz=>[(1,.int .i64 zone),(5,.own 1 zz.2.2 0 zz.2.1.length),(9,.sl 7 (m.Runs.map Bc)),(10,.int .i64 ((m.Runs.length:Nat):Int)),(11,.int .i64 ((zz.1:Nat):Int))]) (fun zz=>[.gone,.row zz.2.2 1 (zz.2.1.map A2)]) (fun zz=>zz.1≤m.Runs.length∧Am (Mi zone) zz.1 ((m.Runs).drop zz.1) zz.2.1=some o2) (fun zz=>m.Runs.length - zz.1) (0,[],0) ⟨Nat.zero_le _,hJ2⟩ cu cu (fun x=>⟨rfl,rfl,rfl⟩) ?_
 clear hJ2
 rintro⟨k2,out1,ver2⟩ ⟨hk2,hJ2⟩
 dsimp only at hk2 hJ2 ⊢
 refine sq (ar rfl (qn (sq ?_)))
 refine AWP.cond (Ak (fun hc=>?_) (fun hc=>?_))
 rotate_left
 ·obtain rfl:=Bf hJ2 (fun hl=>by have:=Aiz hc;omega)
  have h:=Be hO2;try dsimp only at h
  have hkl:m.Runs.length=k2:=by have:=Aiz hc;omega
  subst hkl
  refine xt (qe (qe (bs (qn (sq (ar rfl (qn (rt ?_))))))))
  cases h;exact en Tryz.results95
 have hlt2:k2<m.Runs.length:=by have:=Ai0 hc;omega
 obtain⟨x_4,b2,hx2_,h,hJ2⟩:=A9 hJ2 hlt2
 have hx2:=Ay hx2_
 have hw2:=wk (k:=k2) (by omega)
 unfold Mi at h;try dsimp only at h
 refine sk (qn (sq (bk (sq ?_))))
 refine rg rfl fun K j=>?_
 refine Bn.of (f:=Bc) (l:=m.Runs) hx2 ?_
 refine nS ?_
 refine j _ _ (qn (sq ?_))
 refine ar rfl (qn ?_)
 revert h;refine ca rfl (fun hc h=>?_) fun hc h=>?_
 ·refine rg rfl fun K j=>?_
  obtain⟨hk,h⟩:=B4 h
  (repeat refine rp ?_);try simp +decide -implicitDefEqProofs only[go_sem]
  refine j _ _ (bn (qn ?_))
  refine ar rfl (qn ?_)
  obtain rfl:=Aa h
  refine⟨(k2+1,(out1++[x_4.ID]),(ver2+1)),⟨by dsimp only;omega,Ai hJ2⟩,by dsimp only;omega,?_,?_⟩
  ·exact cuw hw2
  exact cuw hw2
 refine sk (bn (qn (ar rfl (qn ?_))))
 obtain rfl:=Aa h
 refine⟨(k2+1,out1,ver2),⟨by dsimp only;omega,Ai hJ2⟩,by dsimp only;omega,?_,?_⟩
 ·exact cuw hw2
 exact cuw hw2
theorem Z0 (m:Bb) (zone:Int) {r:(List Int)} (h:K8 m zone=some r):Ad Tryz.prog 95 [.agg (Cd m),.int .i64 zone] (·= .sl 1 (r.map A2)):=(Y2 m zone h).pure
def P8 (id_:Int) (k0:Nat) (x_2:Ck) (sv:Unit):Option (Out (Unit) (Ck×Bool)):=
 (bif (decide (x_2.ID=id_))then some (Out.ret (x_2,true))else some (Out.next ()))
def Dx (m:Bb) (id_:Int):Option (Ck×Bool):=
 (Am (P8 id_) 0 m.Nodes ()).bind fun o0=>o0.on fun s0=>some ((Ck.mk 0 0),false)
theorem Dl (m:Bb) (id_:Int) {r:Ck×Bool} (h:Dx m id_=some r):Ad Tryz.prog 96 [.agg (Cd m),.int .i64 id_] (·= .tuple [.agg (A6 r.1),.bool r.2]):=by
 refine Ad.nle (Ad.intro Tryz.func96 rfl rfl (by show _≤22;simp) ?_)
 unfold Dx at h
 refine nS (sq ?_)
 refine ar rfl (qn (sq (sq ?_)))
 refine rg rfl fun K j=>?_
 intro hm
 refine j _ _ (qn (bk ?_))
 obtain⟨o0,hJ0,hO0⟩:=Af h
 clear h
 refine AWP.Bw (ι:=Nat×(Unit)×(Unit)) (fun zz=>[(1,.int .i64 id_),(4,.ptr 1 0),(9,.sl 2 (m.Nodes.map A6)),(10,.int .i64 ((m.Nodes.length:Nat):Int)),(11,.int .i64 ((zz.1:Nat):Int))]) (fun zz=>[.gone,.box [.int .i64 0,.int .i64 0]]) (fun zz=>zz.1≤m.Nodes.length∧Am (P8 id_) zz.1 ((m.Nodes).drop zz.1) zz.2.1=some o0) (fun zz=>m.Nodes.length - zz.1) (0,(),()) ⟨Nat.zero_le _,hJ0⟩ cu cu (fun x=>⟨rfl,rfl,rfl⟩) ?_
 clear hJ0
 rintro⟨k0,⟨⟩,⟨⟩⟩ ⟨hk0,hJ0⟩
 dsimp only at hk0 hJ0 ⊢
 refine sq (ar rfl (qn (sq ?_)))
 refine AWP.cond (Ak (fun hc=>?_) (fun hc=>?_))
 rotate_left
 ·obtain rfl:=Bf hJ0 (fun hl=>by have:=Aiz hc;omega)
  have h:=Be hO0;try dsimp only at h
  have hkl:m.Nodes.length=k0:=by have:=Aiz hc;omega
  subst hkl
  refine xt (qe (qe (bs (qn (sq (ar rfl (qn (rt ?_))))))))
  cases h;exact en Tryz.results96
 have hlt0:k0<m.Nodes.length:=by have:=Ai0 hc;omega
 obtain⟨x_2,b0,hx0_,h,hJ0⟩:=A9 hJ0 hlt0
 have hx0:=Ay hx0_
 have hw0:=wk (k:=k0) (by omega)
 unfold P8 at h;try dsimp only at h
 refine sk (qn (sq (bk (sq ?_))))
 refine rg rfl fun K j=>?_
 refine Bn.of (f:=A6) (l:=m.Nodes) hx0 ?_
 refine nS ?_
 refine j _ _ (qn (sq ?_))
 refine ar rfl (qn ?_)
 revert h;refine ca rfl (fun hc h=>?_) fun hc h=>?_
 ·refine sq (ar rfl (qn (rt (br (qr (qr ?_))))))
  obtain rfl:=Aa h
  obtain rfl:=Ae hJ0
  replace h:=Al hO0
  refine br (qr ?_)
  cases h;exact en Tryz.results96
 refine sk (bn (qn (ar rfl (qn ?_))))
 obtain rfl:=Aa h
 refine⟨(k0+1,(),()),⟨by dsimp only;omega,Ai hJ0⟩,by dsimp only;omega,?_,?_⟩
 ·exact cuw hw0
 exact cuw hw0
def Eg (m:Bb) (k4:Nat) (x_6:Int) (sv:Int×Int×Bool):Option (Out (Int×Int×Bool) (Int×Int×Bool)):=
 (E0 m x_6).bind fun y7=>(Dx m y7.1.From).bind fun y8=>(Dx m y7.1.To).bind fun y9=>(bif (!sv.2.2)then some (Out.next ((if y9.1.Alt<y9.1.Alt then y9.1.Alt else y9.1.Alt),(if y8.1.Alt<y8.1.Alt then y8.1.Alt else y8.1.Alt),true))else some (Out.next ((if y9.1.Alt<sv.1 then y9.1.Alt else sv.1),(if sv.2.1<y8.1.Alt then y8.1.Alt else sv.2.1),sv.2.2)))
def Fh (m:Bb) (zone:Int):Option (Int×Int×Bool):=
 (K8 m zone).bind fun y1=>(Am (Eg m) 0 y1 (0,0,false)).bind fun o4=>o4.on fun s4=>some (s4.1,(s4.2.1,s4.2.2))
theorem Tq (m:Bb) (zone:Int) {r:Int×Int×Bool} (h:Fh m zone=some r):Ad Tryz.prog 44 [.agg (Cd m),.int .i64 zone] (·= .tuple [.int .i64 r.1,.int .i64 r.2.1,.bool r.2.2]):=by
 refine Ad.nle (Ad.intro Tryz.func44 rfl rfl (by show _≤61;simp) ?_)
 unfold Fh at h
 refine nS (sq ?_)
 refine ar rfl (qn (sq (sq ?_)))
 refine rg rfl fun K j=>?_
 obtain⟨y1,hy1,h⟩:=Af h
 refine An.pure Tryz.call95 (Z0 m zone hy1) rfl fun _ hr=>?_
 subst hr
 refine nS ?_
 intro hm
 refine j _ _ (qn (bk ?_))
 obtain⟨o4,hJ4,hO4⟩:=Af h
 clear h
 refine AWP.Bw (ι:=Nat×(Int×Int×Bool)×(Unit)) (fun zz=>[(2,.ptr 0 0),(4,.int .i64 zz.2.1.1),(5,.int .i64 zz.2.1.2.1),(6,.bool zz.2.1.2.2),(17,.sl 1 (y1.map A2)),(18,.int .i64 ((y1.length:Nat):Int)),(19,.int .i64 ((zz.1:Nat):Int))]) (fun zz=>[.box [.sl 2 (m.Nodes.map A6),.sl 8 (m.Lifts.map A7),.sl 7 (m.Runs.map Bc),.sl 1 (m.Bases.map A2)]]) (fun zz=>zz.1≤y1.length∧Am (Eg m) zz.1 ((y1).drop zz.1) zz.2.1=some o4) (fun zz=>y1.length - zz.1) (0,(0,0,false),()) ⟨Nat.zero_le _,hJ4⟩ cu cu (fun x=>⟨rfl,rfl,rfl⟩) ?_
 clear hJ4
 rintro⟨k4,⟨low2,high3,ok4⟩,⟨⟩⟩ ⟨hk4,hJ4⟩
 dsimp only at hk4 hJ4 ⊢
 refine sq (ar rfl (qn (sq ?_)))
 refine AWP.cond (Ak (fun hc=>?_) (fun hc=>?_))
 rotate_left
 ·obtain rfl:=Bf hJ4 (fun hl=>by have:=Aiz hc;omega)
  have h:=Be hO4;try dsimp only at h
  have hkl:y1.length=k4:=by have:=Aiz hc;omega
  subst hkl
  refine xt (qe (qe (bs (qn (sq (ar rfl (qn (rt ?_))))))))
  cases h;exact en Tryz.results44
 have hlt4:k4<y1.length:=by have:=Ai0 hc;omega
 obtain⟨x_6,b4,hx4_,h,hJ4⟩:=A9 hJ4 hlt4
 have hx4:=Ay hx4_
 have hw4:=wk (k:=k4) (by omega)
 unfold Eg at h;try dsimp only at h
 refine sk (qn (sq (bk (sq ?_))))
 refine rg rfl fun K j=>?_
 refine Bn.of (f:=A2) (l:=y1) hx4 ?_
 refine nS ?_
 refine j _ _ (qn (sq ?_))
 refine rg rfl fun K j=>?_
 obtain⟨y7,hy7,h⟩:=Af h
 refine An.pure Tryz.call53 (D3 m x_6 hy7) rfl fun _ hr=>?_
 subst hr
 refine nS ?_
 refine j _ _ (qn (sq ?_))
 refine rg rfl fun K j=>?_
 obtain⟨y8,hy8,h⟩:=Af h
 refine An.pure Tryz.call96 (Dl m y7.1.From hy8) rfl fun _ hr=>?_
 subst hr
 refine nS ?_
 refine j _ _ (qn (sq ?_))
 refine rg rfl fun K j=>?_
 obtain⟨y9,hy9,h⟩:=Af h
 refine An.pure Tryz.call96 (Dl m y7.1.To hy9) rfl fun _ hr=>?_
 subst hr
 refine nS ?_
 refine j _ _ (qn (sq (sq ?_)))
 refine ar rfl (qn ?_)
 revert h;refine ca rfl (fun hc h=>?_) fun hc h=>?_
 ·refine AWP.draw Tryz.mixed (by kernel_rfl) ?_;intro K j
  refine nS ?_
  refine j _ _ _ (by kernel_rfl) ?_
  refine qn (sq (ar rfl (qn ?_)))
  refine ar rfl (bn (qn ?_))
  refine ar rfl (qn ?_)
  obtain rfl:=Aa h
  refine⟨(k4+1,((if y9.1.Alt<y9.1.Alt then y9.1.Alt else y9.1.Alt),(if y8.1.Alt<y8.1.Alt then y8.1.Alt else y8.1.Alt),true),()),⟨by dsimp only;omega,Ai hJ4⟩,by dsimp only;omega,?_,?_⟩
  ·exact cuw hw4
  exact cuw hw4
 refine sk (qn (sq (ar rfl (qn ?_))))
 refine ar rfl (bn (qn ?_))
 refine ar rfl (qn ?_)
 obtain rfl:=Aa h
 refine⟨(k4+1,((if y9.1.Alt<low2 then y9.1.Alt else low2),(if high3<y8.1.Alt then y8.1.Alt else high3),ok4),()),⟨by dsimp only;omega,Ai hJ4⟩,by dsimp only;omega,?_,?_⟩
 ·exact cuw hw4
 exact cuw hw4
def Lq (span:Gs) (t:Int):Option (Bool):=
 (bif (decide (span.From≤t))then some (decide (t<span.To))else some false)
theorem Sz (span:Gs) (t:Int) {r:Bool} (h:Lq span t=some r):Ad Tryz.prog 197 [.agg (R4 span),.int .i64 t] (·= .bool r):=by
 refine Ad.nle (Ad.intro Tryz.func197 rfl rfl (by show _≤15;simp) ?_)
 unfold Lq at h
 refine nS (sq ?_)
 refine ar rfl (qn (sq ?_))
 refine rg rfl fun K j=>?_
 revert h;refine gt (fun hc h=>?_) fun hc h=>?_
 ·refine j _ _ (qn (rt ?_))
  cases h;exact en Tryz.results197
 refine j _ _ (qn (rt ?_))
 cases h;exact en Tryz.results197
def Fi (t:Int) (k1:Nat) (x_3:Bp) (sv:Int):Option (Out (Int) (Int)):=
 (Lq x_3.Span t).bind fun y4=>(bif y4 then(bif (decide (sv<x_3.Version))then some (Out.next x_3.Version)else some (Out.next sv))else some (Out.next sv))
def Hq (l:List Bp) (t:Int):Option (Int):=
 (Am (Fi t) 0 l 0).bind fun o1=>o1.on fun s1=>some s1
theorem V3 (l:List Bp) (t:Int) {r:Int} (h:Hq l t=some r):Ad Tryz.prog 195 [.sl 7 (l.map Ax),.int .i64 t] (·= .int .i64 r):=by
 refine Ad.nle (Ad.intro Tryz.func195 rfl rfl (by show _≤28;simp) ?_)
 unfold Hq at h
 refine nS (sq ?_)
 refine ar rfl (qn (sq ?_))
 refine ar rfl (qn (sq (sq ?_)))
 refine rg rfl fun K j=>?_
 intro hm
 refine j _ _ (qn (bk ?_))
 obtain⟨o1,hJ1,hO1⟩:=Af h
 clear h
 refine AWP.Bw (ι:=Nat×(Int)×(Unit)) (fun zz=>[(1,.int .i64 t),(5,.int .i64 zz.2.1),(8,.sl 7 (l.map Ax)),(9,.int .i64 ((l.length:Nat):Int)),(10,.int .i64 ((zz.1:Nat):Int))]) (fun zz=>[]) (fun zz=>zz.1≤l.length∧Am (Fi t) zz.1 ((l).drop zz.1) zz.2.1=some o1) (fun zz=>l.length - zz.1) (0,0,()) ⟨Nat.zero_le _,hJ1⟩ cu cu (fun x=>⟨rfl,rfl,rfl⟩) ?_
 clear hJ1
 rintro⟨k1,version1,⟨⟩⟩ ⟨hk1,hJ1⟩
 dsimp only at hk1 hJ1 ⊢
 refine sq (ar rfl (qn (sq ?_)))
 refine AWP.cond (Ak (fun hc=>?_) (fun hc=>?_))
 rotate_left
 ·obtain rfl:=Bf hJ1 (fun hl=>by have:=Aiz hc;omega)
  have h:=Be hO1;try dsimp only at h
  have hkl:l.length=k1:=by have:=Aiz hc;omega
  subst hkl
  refine xt (qe (qe (bs (qn (sq (ar rfl (qn (rt ?_))))))))
  cases h;exact en Tryz.results195
 have hlt1:k1<l.length:=by have:=Ai0 hc;omega
 obtain⟨x_3,b1,hx1_,h,hJ1⟩:=A9 hJ1 hlt1
 have hx1:=Ay hx1_
 have hw1:=wk (k:=k1) (by omega)
 unfold Fi at h;try dsimp only at h
 refine sk (qn (sq (bk (sq ?_))))
 refine rg rfl fun K j=>?_
 refine Bn.of (f:=Ax) (l:=l) hx1 ?_
 refine nS ?_
 refine j _ _ (qn (sq ?_))
 refine rg rfl fun K j=>?_
 obtain⟨y4,hy4,h⟩:=Af h
 refine An.pure Tryz.call197 (Sz x_3.Span t hy4) rfl fun _ hr=>?_
 subst hr
 refine nS ?_
 revert h;refine gt (fun hc h=>?_) fun hc h=>?_
 ·refine j _ _ (qn ?_)
  revert h;refine ca rfl (fun hc h=>?_) fun hc h=>?_
  ·refine ar rfl (bn (qn ?_))
   refine ar rfl (qn ?_)
   obtain rfl:=Aa h
   refine⟨(k1+1,x_3.Version,()),⟨by dsimp only;omega,Ai hJ1⟩,by dsimp only;omega,?_,?_⟩
   ·exact cuw hw1
   exact cuw hw1
  refine sk (bn (qn (ar rfl (qn ?_))))
  obtain rfl:=Aa h
  refine⟨(k1+1,version1,()),⟨by dsimp only;omega,Ai hJ1⟩,by dsimp only;omega,?_,?_⟩
  ·exact cuw hw1
  exact cuw hw1
 refine j _ _ (qn ?_)
 refine AWP.cond (Bk ?_)
 refine sk (bn (qn (ar rfl (qn ?_))))
 obtain rfl:=Aa h
 refine⟨(k1+1,version1,()),⟨by dsimp only;omega,Ai hJ1⟩,by dsimp only;omega,?_,?_⟩
 ·exact cuw hw1
 exact cuw hw1
def Jw (zone:Int) (low:Int) (high:Int) (t:Int) (y1:Int) (k2:Nat) (x_4:Bp) (sv:Int):Option (Out (Int) (Int)):=
 (bif (decide (x_4.Version=y1))then (Lq x_4.Span t).bind fun y5=>(bif y5 then(Bs x_4.Zones zone).bind fun y6=>(bif y6 then(bif (decide (x_4.Low<high))then (bif (decide (low<x_4.High))then (bif (decide (sv<x_4.Level))then some (Out.next x_4.Level)else some (Out.next sv))else some (Out.next sv))else some (Out.next sv))else some (Out.next sv))else some (Out.next sv))else some (Out.next sv))
def Hp (l:List Bp) (zone:Int) (low:Int) (high:Int) (t:Int):Option (Int):=
 (Hq l t).bind fun y1=>(Am (Jw zone low high t y1) 0 l 0).bind fun o2=>o2.on fun s2=>some s2
theorem Yn (l:List Bp) (zone:Int) (low:Int) (high:Int) (t:Int) {r:Int} (h:Hp l zone low high t=some r):Ad Tryz.prog 45 [.sl 7 (l.map Ax),.int .i64 zone,.int .i64 low,.int .i64 high,.int .i64 t] (·= .int .i64 r):=by
 refine Ad.nle (Ad.intro Tryz.func45 rfl rfl (by show _≤55;simp) ?_)
 unfold Hp at h
 refine nS (sq ?_)
 refine ar rfl (qn (sq ?_))
 refine rg rfl fun K j=>?_
 refine An.inline Tryz.call97 Tryz.func97 rfl rfl (by show _≤10;simp) ?_
 refine nS (sq ?_)
 refine ar rfl (qn (sq ?_))
 refine rg rfl fun K j=>?_
 obtain⟨y1,hy1,h⟩:=Af h
 refine An.pure Tryz.call195 (V3 l t hy1) rfl fun _ hr=>?_
 subst hr
 refine nS ?_
 refine j _ _ (qn (sq ?_));clear j K
 refine ar rfl (qn (rt ?_))
 refine nSc Tryz.results97 ?_
 refine j _ _ (qn (sq ?_))
 refine ar rfl (qn (sq (sq ?_)))
 refine rg rfl fun K j=>?_
 intro hm
 refine j _ _ (qn (bk ?_))
 obtain⟨o2,hJ2,hO2⟩:=Af h
 clear h
 refine AWP.Bw (ι:=Nat×(Int)×(Unit)) (fun zz=>[(1,.int .i64 zone),(2,.int .i64 low),(3,.int .i64 high),(11,.func 196 [.ptr 1 0,.ptr 0 0]),(12,.int .i64 zz.2.1),(18,.sl 7 (l.map Ax)),(19,.int .i64 ((l.length:Nat):Int)),(20,.int .i64 ((zz.1:Nat):Int))]) (fun zz=>[.box [.int .i64 t],.box [.int .i64 y1]]) (fun zz=>zz.1≤l.length∧Am (Jw zone low high t y1) zz.1 ((l).drop zz.1) zz.2.1=some o2) (fun zz=>l.length - zz.1) (0,0,()) ⟨Nat.zero_le _,hJ2⟩ cu cu (fun x=>⟨rfl,rfl,rfl⟩) ?_
 clear hJ2
 rintro⟨k2,level2,⟨⟩⟩ ⟨hk2,hJ2⟩
 dsimp only at hk2 hJ2 ⊢
 refine sq (ar rfl (qn (sq ?_)))
 refine AWP.cond (Ak (fun hc=>?_) (fun hc=>?_))
 rotate_left
 ·obtain rfl:=Bf hJ2 (fun hl=>by have:=Aiz hc;omega)
  have h:=Be hO2;try dsimp only at h
  have hkl:l.length=k2:=by have:=Aiz hc;omega
  subst hkl
  refine xt (qe (qe (bs (qn (sq (ar rfl (qn (rt ?_))))))))
  cases h;exact en Tryz.results45
 have hlt2:k2<l.length:=by have:=Ai0 hc;omega
 obtain⟨x_4,b2,hx2_,h,hJ2⟩:=A9 hJ2 hlt2
 have hx2:=Ay hx2_
 have hw2:=wk (k:=k2) (by omega)
 unfold Jw at h;try dsimp only at h
 refine sk (qn (sq (bk (sq ?_))))
 refine rg rfl fun K j=>?_
 refine Bn.of (f:=Ax) (l:=l) hx2 ?_
 refine nS ?_
 refine j _ _ (qn (sq ?_))
 refine rg rfl fun K j=>?_
 refine An.inline Tryz.call196 Tryz.func196 rfl rfl (by show _≤15;simp) ?_
 refine nS (sq ?_)
 refine ar rfl (qn (sq ?_))
 refine rg rfl fun K j=>?_
 revert h;refine gt (fun hc h=>?_) fun hc h=>?_
 ·obtain⟨y5,hy5,h⟩:=Af h
  refine An.pure Tryz.call197 (Sz x_4.Span t hy5) rfl fun _ hr=>?_
  subst hr
  refine nS ?_
  refine j _ _ (qn (rt ?_));clear j K
  refine nSc Tryz.results196 ?_
  revert h;refine gt (fun hc h=>?_) fun hc h=>?_
  ·obtain⟨y6,hy6,h⟩:=Af h
   refine An.pure Tryz.call54 (Bv x_4.Zones zone hy6) rfl fun _ hr=>?_
   subst hr
   refine nS ?_
   revert h;refine gt (fun hc h=>?_) fun hc h=>?_
   ·revert h;refine gt (fun hc h=>?_) fun hc h=>?_
    ·revert h;refine gt (fun hc h=>?_) fun hc h=>?_
     ·refine j _ _ (qn ?_)
      revert h;refine ca rfl (fun hc h=>?_) fun hc h=>?_
      ·refine ar rfl (bn (qn ?_))
       refine ar rfl (qn ?_)
       obtain rfl:=Aa h
       refine⟨(k2+1,x_4.Level,()),⟨by dsimp only;omega,Ai hJ2⟩,by dsimp only;omega,?_,?_⟩
       ·exact cuw hw2
       exact cuw hw2
      refine sk (bn (qn (ar rfl (qn ?_))))
      obtain rfl:=Aa h
      refine⟨(k2+1,level2,()),⟨by dsimp only;omega,Ai hJ2⟩,by dsimp only;omega,?_,?_⟩
      ·exact cuw hw2
      exact cuw hw2
     refine j _ _ (qn ?_)
     refine AWP.cond (Bk ?_)
     refine sk (bn (qn (ar rfl (qn ?_))))
     obtain rfl:=Aa h
     refine⟨(k2+1,level2,()),⟨by dsimp only;omega,Ai hJ2⟩,by dsimp only;omega,?_,?_⟩
     ·exact cuw hw2
     exact cuw hw2
    refine j _ _ (qn ?_)
    refine AWP.cond (Bk ?_)
    refine sk (bn (qn (ar rfl (qn ?_))))
    obtain rfl:=Aa h
    refine⟨(k2+1,level2,()),⟨by dsimp only;omega,Ai hJ2⟩,by dsimp only;omega,?_,?_⟩
    ·exact cuw hw2
    exact cuw hw2
   refine j _ _ (qn ?_)
   refine AWP.cond (Bk ?_)
   refine sk (bn (qn (ar rfl (qn ?_))))
   obtain rfl:=Aa h
   refine⟨(k2+1,level2,()),⟨by dsimp only;omega,Ai hJ2⟩,by dsimp only;omega,?_,?_⟩
   ·exact cuw hw2
   exact cuw hw2
  refine j _ _ (qn ?_)
  refine AWP.cond (Bk ?_)
  refine sk (bn (qn (ar rfl (qn ?_))))
  obtain rfl:=Aa h
  refine⟨(k2+1,level2,()),⟨by dsimp only;omega,Ai hJ2⟩,by dsimp only;omega,?_,?_⟩
  ·exact cuw hw2
  exact cuw hw2
 refine j _ _ (qn (rt ?_));clear j K
 refine nSc Tryz.results196 ?_
 refine j _ _ (qn ?_)
 refine AWP.cond (Bk ?_)
 refine sk (bn (qn (ar rfl (qn ?_))))
 obtain rfl:=Aa h
 refine⟨(k2+1,level2,()),⟨by dsimp only;omega,Ai hJ2⟩,by dsimp only;omega,?_,?_⟩
 ·exact cuw hw2
 exact cuw hw2
def Et (f_:Aj) (k2:Nat) (_x:Unit) (sv:(List Int)):Option (Out ((List Int)) ((List Int))):=
 (Fh f_.Map (((k2:Nat):Int)+1)).bind fun y4=>(bif y4.2.2 then(Hp f_.Bulletin (((k2:Nat):Int)+1) y4.1 y4.2.1 f_.Time).bind fun y5=>chk (sv.length+1) (some (Out.next (sv++[y5])))else chk (sv.length+1) (some (Out.next (sv++[(0:Int)]))))
def Ey (f_:Aj):Option ((List Int)):=
 yM 32 ((J0 (Et f_) 32 []).bind fun o2=>o2.on fun s2=>some s2)
theorem Ve (f_:Aj) {r:(List Int)} (h:Ey f_=some r):Bo Tryz.prog 16 [.agg (B3 f_)] (·= .sl 1 (r.map A2)):=by
 refine Bo.nle (Bo.intro Tryz.func16 rfl rfl (by show _≤36;simp) ?_)
 unfold Ey at h
 refine nS (sq ?_)
 refine ar rfl (qn (sq ?_))
 refine rg rfl fun K j=>?_
 obtain⟨hk,hk2,h⟩:=yL h
 (repeat refine rp ?_);try simp +decide -implicitDefEqProofs only[go_sem]
 refine j _ _ (qn (sq (sq ?_)))
 refine ar rfl (qn (bk ?_))
 obtain⟨o2,hJ2,hO2⟩:=Af h
 clear h
 obtain⟨hn2,hJ2⟩:=Sw hJ2
 refine AWP.Bw (ι:=Nat×((List Int))×(Nat)) (fun zz=>[(1,.ptr 0 0),(3,.own 1 zz.2.2 0 zz.2.1.length),(4,.int .i64 (((zz.1:Nat):Int)+(1:Int)))]) (fun zz=>[.box [.sl 2 (f_.Map.Nodes.map A6),.sl 8 (f_.Map.Lifts.map A7),.sl 7 (f_.Map.Runs.map Bc),.sl 1 (f_.Map.Bases.map A2),.sl 2 (f_.Lifts.map Aw),.sl 4 (f_.Closures.map Au),.sl 4 (f_.Patrol.Bu.map Av),.sl 3 (f_.Patrol.Hazards.map Az),.sl 3 (f_.Surfaces.map A4),.sl 5 (f_.Packs.map A3),.sl 6 (f_.Slides.map Ba),.sl 7 (f_.Bulletin.map Ax),.sl 7 (f_.Missions.map Ap),.sl 4 (f_.Winches.map Ao),.sl 8 (f_.Groomers.map A1),.sl 3 (f_.Status.map A5),.int .i64 f_.Depth,.int .i64 f_.Time],.row zz.2.2 1 (zz.2.1.map A2)]) (fun zz=>zz.1≤32∧Am (Et f_) zz.1 ((List.replicate 32 ()).drop zz.1) zz.2.1=some o2) (fun zz=>32 - zz.1) (0,[],0) ⟨Nat.zero_le _,hJ2⟩ cu cu (fun x=>⟨rfl,rfl,rfl⟩) ?_
 clear hJ2
 rintro⟨k2,out1,ver2⟩ ⟨hk2,hJ2⟩
 dsimp only at hk2 hJ2 ⊢
 refine sq (sq (ar rfl (qn ?_)))
 refine AWP.cond (Ak (fun hc=>?_) (fun hc=>?_))
 rotate_left
 ·obtain rfl:=Bf hJ2 (fun hl=>by rw[List.length_replicate]at hl;have:=Aiz hc;omega)
  have h:=Be hO2;try dsimp only at h
  have hkl:32=k2:=by have:=Aiz hc;omega
  subst hkl
  refine xt (qe (qe (bs (qn (sq (ar rfl (qn (rt ?_))))))))
  cases h;exact en Tryz.results16
 have hlt2:k2<32:=by have:=Ai0 hc;omega
 obtain⟨_,b2,_,h,hJ2⟩:=A9 hJ2 (by rw[List.length_replicate];exact hlt2)
 have hw2:IntKind.i64.wrap ((((k2:Nat):Int)+1)+1)=(((k2:Nat):Int)+1+1):=by rw[wrap_i64]<;>omega
 unfold Et at h;try dsimp only at h
 refine sk (qn (sq (bk (sq (ar rfl (qn (sq (sq ?_))))))))
 refine rg rfl fun K j=>?_
 obtain⟨y4,hy4,h⟩:=Af h
 refine An.pure Tryz.call44 (Tq f_.Map (((k2:Nat):Int)+1) hy4) rfl fun _ hr=>?_
 subst hr
 refine nS ?_
 refine j _ _ (qn (sq ?_))
 refine ar rfl (qn ?_)
 revert h;refine ca rfl (fun hc h=>?_) fun hc h=>?_
 ·refine rg rfl fun K j=>?_
  obtain⟨y5,hy5,h⟩:=Af h
  refine An.pure Tryz.call45 (Yn f_.Bulletin (((k2:Nat):Int)+1) y4.1 y4.2.1 f_.Time hy5) rfl fun _ hr=>?_
  subst hr
  refine nS ?_
  refine j _ _ (qn ?_)
  refine rg rfl fun K j=>?_
  obtain⟨hk,h⟩:=B4 h
  (repeat refine rp ?_);try simp +decide -implicitDefEqProofs only[go_sem]
  refine j _ _ (bn (qn ?_))
  refine ar rfl (qn ?_)
  obtain rfl:=Aa h
  refine⟨(k2+1,(out1++[y5]),(ver2+1)),⟨by dsimp only;omega,Ai hJ2⟩,by dsimp only;omega,?_,?_⟩
  ·exact cuw hw2
  exact cuw hw2
 refine sk (qn ?_)
 refine rg rfl fun K j=>?_
 obtain⟨hk,h⟩:=B4 h
 (repeat refine rp ?_);try simp +decide -implicitDefEqProofs only[go_sem]
 refine j _ _ (bn (qn ?_))
 refine ar rfl (qn ?_)
 obtain rfl:=Aa h
 refine⟨(k2+1,(out1++[(0:Int)]),(ver2+1)),⟨by dsimp only;omega,Ai hJ2⟩,by dsimp only;omega,?_,?_⟩
 ·exact cuw hw2
 exact cuw hw2
theorem V1 (f_:Aj) {r:(List Int)} (h:Ey f_=some r):Ad Tryz.prog 16 [.agg (B3 f_)] (·= .sl 1 (r.map A2)):=(Ve f_ h).pure
def F5 (levels:List Int) (k1:Nat) (x_3:Int) (sv:Int):Option (Out (Int) (Int)):=
 (bif (decide (1≤x_3))then (bif (decide (x_3≤((levels.length:Nat):Int)))then (Dk levels (IntKind.i64.wrap (x_3 - 1))).bind fun x_4=>(bif (decide (((k1:Nat):Int)=0))then some (Out.next x_4)else (bif (decide (sv<x_4))then some (Out.next x_4)else some (Out.next sv)))else (bif (decide (((k1:Nat):Int)=0))then some (Out.next 0)else (bif (decide (sv<0))then some (Out.next 0)else some (Out.next sv))))else (bif (decide (((k1:Nat):Int)=0))then some (Out.next 0)else (bif (decide (sv<0))then some (Out.next 0)else some (Out.next sv))))
def Mt (s_:Bd) (levels:List Int):Option (Int):=
 (Am (F5 levels) 0 s_.Zones 0).bind fun o1=>o1.on fun s1=>some s1
theorem Xg (s_:Bd) (levels:List Int) {r:Int} (h:Mt s_ levels=some r):Ad Tryz.prog 263 [.agg (Ba s_),.sl 1 (levels.map A2)] (·= .int .i64 r):=by
 refine Ad.nle (Ad.intro Tryz.func263 rfl rfl (by show _≤40;simp) ?_)
 unfold Mt at h
 refine nS (sq ?_)
 refine ar rfl (qn (sq ?_))
 refine ar rfl (qn (sq (sq ?_)))
 refine rg rfl fun K j=>?_
 intro hm
 refine j _ _ (qn (bk ?_))
 obtain⟨o1,hJ1,hO1⟩:=Af h
 clear h
 refine AWP.Bw (ι:=Nat×(Int)×(Unit)) (fun zz=>[(1,.sl 1 (levels.map A2)),(5,.int .i64 zz.2.1),(10,.sl 1 (s_.Zones.map A2)),(11,.int .i64 ((s_.Zones.length:Nat):Int)),(12,.int .i64 ((zz.1:Nat):Int))]) (fun zz=>[]) (fun zz=>zz.1≤s_.Zones.length∧Am (F5 levels) zz.1 ((s_.Zones).drop zz.1) zz.2.1=some o1) (fun zz=>s_.Zones.length - zz.1) (0,0,()) ⟨Nat.zero_le _,hJ1⟩ cu cu (fun x=>⟨rfl,rfl,rfl⟩) ?_
 clear hJ1
 rintro⟨k1,greatest1,⟨⟩⟩ ⟨hk1,hJ1⟩
 dsimp only at hk1 hJ1 ⊢
 refine sq (ar rfl (qn (sq ?_)))
 refine AWP.cond (Ak (fun hc=>?_) (fun hc=>?_))
 rotate_left
 ·obtain rfl:=Bf hJ1 (fun hl=>by have:=Aiz hc;omega)
  have h:=Be hO1;try dsimp only at h
  have hkl:s_.Zones.length=k1:=by have:=Aiz hc;omega
  subst hkl
  refine xt (qe (qe (bs (qn (sq (ar rfl (qn (rt ?_))))))))
  cases h;exact en Tryz.results263
 have hlt1:k1<s_.Zones.length:=by have:=Ai0 hc;omega
 obtain⟨x_3,b1,hx1_,h,hJ1⟩:=A9 hJ1 hlt1
 have hx1:=Ay hx1_
 have hw1:=wk (k:=k1) (by omega)
 unfold F5 at h;try dsimp only at h
 refine sk (qn (sq (bk (sq ?_))))
 refine rg rfl fun K j=>?_
 refine Bn.of (f:=A2) (l:=s_.Zones) hx1 ?_
 refine nS ?_
 refine j _ _ (qn (sq ?_))
 refine ar rfl (qn (sq (sq ?_)))
 refine rg rfl fun K j=>?_
 revert h;refine gt (fun hc h=>?_) fun hc h=>?_
 ·intro hm
  refine j _ _ (qn ?_)
  revert h;refine ca rfl (fun hc h=>?_) fun hc h=>?_
  ·refine rg rfl fun K j=>?_
   obtain⟨x_4,hx_4,h⟩:=Af h
   refine Bn.of (f:=A2) (l:=levels) hx_4 ?_
   refine nS ?_
   refine j _ _ (qn (sq ?_))
   refine rg rfl fun K j=>?_
   revert h;refine gf (fun hc h=>?_) fun hc h=>?_
   ·refine j _ _ (qn ?_)
    revert h;refine ca rfl (fun hc h=>?_) fun hc h=>?_
    ·refine ar rfl (bn (qn ?_))
     refine ar rfl (qn ?_)
     obtain rfl:=Aa h
     refine⟨(k1+1,x_4,()),⟨by dsimp only;omega,Ai hJ1⟩,by dsimp only;omega,?_,?_⟩
     ·exact cuw hw1
     exact cuw hw1
    refine sk (bn (qn (ar rfl (qn ?_))))
    obtain rfl:=Aa h
    refine⟨(k1+1,greatest1,()),⟨by dsimp only;omega,Ai hJ1⟩,by dsimp only;omega,?_,?_⟩
    ·exact cuw hw1
    exact cuw hw1
   refine j _ _ (qn ?_)
   refine AWP.cond (Ah ?_)
   refine ar rfl (bn (qn ?_))
   refine ar rfl (qn ?_)
   obtain rfl:=Aa h
   refine⟨(k1+1,x_4,()),⟨by dsimp only;omega,Ai hJ1⟩,by dsimp only;omega,?_,?_⟩
   ·exact cuw hw1
   exact cuw hw1
  refine sk (qn (sq ?_))
  refine rg rfl fun K j=>?_
  revert h;refine gf (fun hc h=>?_) fun hc h=>?_
  ·refine j _ _ (qn ?_)
   revert h;refine ca rfl (fun hc h=>?_) fun hc h=>?_
   ·refine ar rfl (bn (qn ?_))
    refine ar rfl (qn ?_)
    obtain rfl:=Aa h
    refine⟨(k1+1,0,()),⟨by dsimp only;omega,Ai hJ1⟩,by dsimp only;omega,?_,?_⟩
    ·exact cuw hw1
    exact cuw hw1
   refine sk (bn (qn (ar rfl (qn ?_))))
   obtain rfl:=Aa h
   refine⟨(k1+1,greatest1,()),⟨by dsimp only;omega,Ai hJ1⟩,by dsimp only;omega,?_,?_⟩
   ·exact cuw hw1
   exact cuw hw1
  refine j _ _ (qn ?_)
  refine AWP.cond (Ah ?_)
  refine ar rfl (bn (qn ?_))
  refine ar rfl (qn ?_)
  obtain rfl:=Aa h
  refine⟨(k1+1,0,()),⟨by dsimp only;omega,Ai hJ1⟩,by dsimp only;omega,?_,?_⟩
  ·exact cuw hw1
  exact cuw hw1
 refine j _ _ (qn ?_)
 refine AWP.cond (Bk ?_)
 refine sk (qn (sq ?_))
 refine rg rfl fun K j=>?_
 revert h;refine gf (fun hc h=>?_) fun hc h=>?_
 ·refine j _ _ (qn ?_)
  revert h;refine ca rfl (fun hc h=>?_) fun hc h=>?_
  ·refine ar rfl (bn (qn ?_))
   refine ar rfl (qn ?_)
   obtain rfl:=Aa h
   refine⟨(k1+1,0,()),⟨by dsimp only;omega,Ai hJ1⟩,by dsimp only;omega,?_,?_⟩
   ·exact cuw hw1
   exact cuw hw1
  refine sk (bn (qn (ar rfl (qn ?_))))
  obtain rfl:=Aa h
  refine⟨(k1+1,greatest1,()),⟨by dsimp only;omega,Ai hJ1⟩,by dsimp only;omega,?_,?_⟩
  ·exact cuw hw1
  exact cuw hw1
 refine j _ _ (qn ?_)
 refine AWP.cond (Ah ?_)
 refine ar rfl (bn (qn ?_))
 refine ar rfl (qn ?_)
 obtain rfl:=Aa h
 refine⟨(k1+1,0,()),⟨by dsimp only;omega,Ai hJ1⟩,by dsimp only;omega,?_,?_⟩
 ·exact cuw hw1
 exact cuw hw1
def F4 (s_:Bd) (levels:List Int):Option (Bool):=
 (bif (decide (s_.Limit≤s_.Load))then some true else(Mt s_ levels).bind fun y1=>(bif (decide (y1=3))then some (decide ((IntKind.i64.wrap (Int.tdiv s_.Limit 2))≤s_.Load))else (bif (decide (y1=4))then some (decide ((IntKind.i64.wrap (Int.tdiv s_.Limit 4))≤s_.Load))else some (decide (4<y1)))))
theorem Uo (s_:Bd) (levels:List Int) {r:Bool} (h:F4 s_ levels=some r):Ad Tryz.prog 205 [.agg (Ba s_),.sl 1 (levels.map A2)] (·= .bool r):=by
 refine Ad.nle (Ad.intro Tryz.func205 rfl rfl (by show _≤33;simp) ?_)
 unfold F4 at h
 refine nS (sq ?_)
 refine ar rfl (qn (sq (sq ?_)))
 refine ar rfl (qn ?_)
 revert h;refine ca rfl (fun hc h=>?_) fun hc h=>?_
 ·refine sq (ar rfl (qn (rt (qr ?_))))
  cases h;exact en Tryz.results205
 refine sk (qn (sq ?_))
 refine rg rfl fun K j=>?_
 obtain⟨y1,hy1,h⟩:=Af h
 refine An.pure Tryz.call263 (Xg s_ levels hy1) rfl fun _ hr=>?_
 subst hr
 refine nS ?_
 refine j _ _ (qn (sq ?_))
 refine ar rfl (qn (bk (sq ?_)))
 refine ar rfl (qn ?_)
 revert h;refine ca rfl (fun hc h=>?_) fun hc h=>?_
 ·refine sq (ar rfl (qn (rt (br ?_))))
  cases h;exact en Tryz.results205
 refine sq (ar rfl (qn ?_))
 revert h;refine ca rfl (fun hc h=>?_) fun hc h=>?_
 ·refine sq (ar rfl (qn (rt (br ?_))))
  cases h;exact en Tryz.results205
 refine sq (ar rfl (qn (rt (br ?_))))
 cases h;exact en Tryz.results205
def Im (levels:List Int) (k2:Nat) (x_4:Bd) (sv:(List Int)):Option (Out ((List Int)) ((List Int))):=
 (F4 x_4 levels).bind fun y5=>(bif y5 then chk (sv.length+x_4.Zones.length) (some (Out.next (sv++x_4.Zones)))else some (Out.next sv))
def Gd (l:List Bd) (levels:List Int):Option ((List Int)):=
 (Am (Im levels) 0 l []).bind fun o2=>o2.on fun s2=>chk s2.length (chk s2.length (some (Cg (Dc s2))))
theorem V5 (l:List Bd) (levels:List Int) {r:(List Int)} (h:Gd l levels=some r):Bo Tryz.prog 106 [.sl 6 (l.map Ba),.sl 1 (levels.map A2)] (·= .sl 1 (r.map A2)):=by
 refine Bo.nle (Bo.intro Tryz.func106 rfl rfl (by show _≤26;simp) ?_)
 unfold Gd at h
 refine nS (sq ?_)
 refine ar rfl (qn (sq ?_))
 refine ar rfl (qn (sq (sq ?_)))
 refine rg rfl fun K j=>?_
 intro hm
 refine j _ _ (qn (bk ?_))
 refine AWP.ghost 5 1 rfl (by decide) ?_
 obtain⟨o2,hJ2,hO2⟩:=Af h
 clear h
 refine AWP.Bw (ι:=Nat×((List Int))×(Nat)) (fun zz=>[(1,.sl 1 (levels.map A2)),(5,.own 0 zz.2.2 0 zz.2.1.length),(8,.sl 6 (l.map Ba)),(9,.int .i64 ((l.length:Nat):Int)),(10,.int .i64 ((zz.1:Nat):Int))]) (fun zz=>[.row zz.2.2 1 (zz.2.1.map A2)]) (fun zz=>zz.1≤l.length∧Am (Im levels) zz.1 ((l).drop zz.1) zz.2.1=some o2) (fun zz=>l.length - zz.1) (0,[],0) ⟨Nat.zero_le _,hJ2⟩ cu cu (fun x=>⟨rfl,rfl,rfl⟩) ?_
 clear hJ2
 rintro⟨k2,out1,ver2⟩ ⟨hk2,hJ2⟩
 dsimp only at hk2 hJ2 ⊢
 refine sq (ar rfl (qn (sq ?_)))
 refine AWP.cond (Ak (fun hc=>?_) (fun hc=>?_))
 rotate_left
 ·obtain rfl:=Bf hJ2 (fun hl=>by have:=Aiz hc;omega)
  have h:=Be hO2;try dsimp only at h
  have hkl:l.length=k2:=by have:=Aiz hc;omega
  subst hkl
  refine xt (qe (qe (bs (qn (sq ?_)))))
  refine rg rfl fun K j=>?_
  obtain⟨hk,h⟩:=B4 h
  refine An.Dc Tryz.call68 Tryz.sorts68 rfl (by first | rfl | exact(Cl _).symm | (simp only[List.length_append,List.length_cons,List.length_nil,List.length_set,List.length_replicate]<;>omega)) hk ?_
  refine nS ?_
  refine j _ _ (qn (sq ?_))
  refine rg rfl fun K j=>?_
  obtain⟨hk,h⟩:=B4 h
  refine An.Cg Tryz.call69 Tryz.compacts69 rfl (by first | rfl | exact(Cl _).symm | (simp only[List.length_append,List.length_cons,List.length_nil,List.length_set,List.length_replicate]<;>omega)) hk ?_
  refine nS ?_
  refine j _ _ (qn (rt ?_))
  cases h;exact en Tryz.results106
 have hlt2:k2<l.length:=by have:=Ai0 hc;omega
 obtain⟨x_4,b2,hx2_,h,hJ2⟩:=A9 hJ2 hlt2
 have hx2:=Ay hx2_
 have hw2:=wk (k:=k2) (by omega)
 unfold Im at h;try dsimp only at h
 refine sk (qn (sq (bk (sq ?_))))
 refine rg rfl fun K j=>?_
 refine Bn.of (f:=Ba) (l:=l) hx2 ?_
 refine nS ?_
 refine j _ _ (qn (sq ?_))
 refine rg rfl fun K j=>?_
 obtain⟨y5,hy5,h⟩:=Af h
 refine An.pure Tryz.call205 (Uo x_4 levels hy5) rfl fun _ hr=>?_
 subst hr
 refine nS ?_
 refine j _ _ (qn ?_)
 revert h;refine ca rfl (fun hc h=>?_) fun hc h=>?_
 ·refine rg rfl fun K j=>?_
  obtain⟨hk,h⟩:=B4 h
  (repeat refine rp ?_);try simp +decide -implicitDefEqProofs only[go_sem]
  refine j _ _ (bn (qn ?_))
  refine ar rfl (qn ?_)
  obtain rfl:=Aa h
  refine⟨(k2+1,(out1++x_4.Zones),(ver2+1)),⟨by dsimp only;omega,Ai hJ2⟩,by dsimp only;omega,?_,?_⟩
  ·exact cuw hw2
  exact cuw hw2
 refine sk (bn (qn (ar rfl (qn ?_))))
 obtain rfl:=Aa h
 refine⟨(k2+1,out1,ver2),⟨by dsimp only;omega,Ai hJ2⟩,by dsimp only;omega,?_,?_⟩
 ·exact cuw hw2
 exact cuw hw2
theorem Xe (l:List Bd) (levels:List Int) {r:(List Int)} (h:Gd l levels=some r):Ad Tryz.prog 106 [.sl 6 (l.map Ba),.sl 1 (levels.map A2)] (·= .sl 1 (r.map A2)):=(V5 l levels h).pure
def Rq (run:Int) (k0:Nat) (x_2:Cj) (sv:Unit):Option (Out (Unit) (Int)):=
 (bif (decide (x_2.Run=run))then some (Out.ret ((k0:Nat):Int))else some (Out.next ()))
def Ku (p:Ca) (run:Int):Option (Int):=
 (Am (Rq run) 0 p.Bu ()).bind fun o0=>o0.on fun s0=>some (-1)
theorem Uf (p:Ca) (run:Int) {r:Int} (h:Ku p run=some r):Ad Tryz.prog 162 [.agg (Ij p),.int .i64 run] (·= .int .i64 r):=by
 refine Ad.nle (Ad.intro Tryz.func162 rfl rfl (by show _≤9;simp) ?_)
 unfold Ku at h
 refine nS (sq ?_)
 refine ar rfl (qn (sq ?_))
 refine rg rfl fun K j=>?_
 refine An.inline Tryz.call243 Tryz.func243 rfl rfl (by show _≤19;simp) ?_
 refine nS (sq ?_)
 refine ar rfl (qn (sq (sq ?_)))
 refine rg rfl fun K j=>?_
 intro hm
 refine j _ _ (qn (bk ?_));clear j K
 obtain⟨o0,hJ0,hO0⟩:=Af h
 clear h
 refine AWP.Bw (ι:=Nat×(Unit)×(Unit)) (fun zz=>[(0,.sl 4 (p.Bu.map Av)),(1,.func 244 [.ptr 1 0]),(7,.int .i64 ((p.Bu.length:Nat):Int)),(8,.int .i64 ((zz.1:Nat):Int))]) (fun zz=>[.box [.sl 4 (p.Bu.map Av),.sl 3 (p.Hazards.map Az)],.box [.int .i64 run]]) (fun zz=>zz.1≤p.Bu.length∧Am (Rq run) zz.1 ((p.Bu).drop zz.1) zz.2.1=some o0) (fun zz=>p.Bu.length - zz.1) (0,(),()) ⟨Nat.zero_le _,hJ0⟩ cu cu (fun x=>⟨rfl,rfl,rfl⟩) ?_
 clear hJ0
 rintro⟨k0,⟨⟩,⟨⟩⟩ ⟨hk0,hJ0⟩
 dsimp only at hk0 hJ0 ⊢
 refine sq (ar rfl (qn (sq ?_)))
 refine AWP.cond (Ak (fun hc=>?_) (fun hc=>?_))
 rotate_left
 ·obtain rfl:=Bf hJ0 (fun hl=>by have:=Aiz hc;omega)
  have h:=Be hO0;try dsimp only at h
  have hkl:p.Bu.length=k0:=by have:=Aiz hc;omega
  subst hkl
  refine xt (qe (qe (bs (qn (sq (ar rfl (qn (rt ?_))))))))
  refine nSc Tryz.results243 ?_
  refine j _ _ (qn (rt ?_))
  cases h;exact en Tryz.results162
 have hlt0:k0<p.Bu.length:=by have:=Ai0 hc;omega
 obtain⟨x_2,b0,hx0_,h,hJ0⟩:=A9 hJ0 hlt0
 have hx0:=Ay hx0_
 have hw0:=wk (k:=k0) (by omega)
 unfold Rq at h;try dsimp only at h
 refine sk (qn (sq (bk (sq (ar rfl (qn (sq ?_)))))))
 refine rg rfl fun K j=>?_
 refine Bn.of (f:=Av) (l:=p.Bu) hx0 ?_
 refine nS ?_
 refine An.inline Tryz.call244 Tryz.func244 rfl rfl (by show _≤8;simp) ?_
 refine nS (sq ?_)
 refine ar rfl (qn (sq ?_))
 refine ar rfl (qn (rt ?_))
 refine nSc Tryz.results244 ?_
 refine j _ _ (qn ?_);clear j K
 revert h;refine ca rfl (fun hc h=>?_) fun hc h=>?_
 ·refine sq (ar rfl (qn (rt (br (qr (qr ?_))))))
  obtain rfl:=Aa h
  obtain rfl:=Ae hJ0
  replace h:=Al hO0
  refine br (qr (nSc Tryz.results243 ?_))
  refine j _ _ (qn (rt ?_))
  cases h;exact en Tryz.results162
 refine sk (bn (qn (ar rfl (qn ?_))))
 obtain rfl:=Aa h
 refine⟨(k0+1,(),()),⟨by dsimp only;omega,Ai hJ0⟩,by dsimp only;omega,?_,?_⟩
 ·exact cuw hw0
 exact cuw hw0
def I4 (l:Br) (t:Int) (out1:List Int) (x_4:Int) (k4:Nat) (x_6:Fl) (sv:Unit):Option (Out (Unit) (Out ((List Int)) ((List Int)))):=
 (bif (decide (x_6.Item=x_4))then (bif (decide (x_6.At≤t))then (bif (decide (t<(IntKind.i64.wrap (x_6.At+l.Every))))then ((bif (!(decide (0≤((k4:Nat):Int))))then chk (out1.length+1) (some (Out.next (out1++[x_4])))else some (Out.next out1))).bind fun q6=>some (Out.ret q6)else some (Out.next ()))else some (Out.next ()))else some (Out.next ()))
def I5 (l:Br) (t:Int) (k2:Nat) (x_4:Int) (sv:(List Int)):Option (Out ((List Int)) ((List Int))):=
 (Am (I4 l t sv x_4) 0 l.Signs ()).bind fun o4=>o4.on fun s4=>chk (sv.length+1) (some (Out.next (sv++[x_4])))
def Ln (l:Br) (t:Int):Option ((List Int)):=
 (Am (I5 l t) 0 l.Items []).bind fun o2=>o2.on fun s2=>some s2
theorem Zi (l:Br) (t:Int) {r:(List Int)} (h:Ln l t=some r):Bo Tryz.prog 264 [.agg (Fg l),.int .i64 t] (·= .sl 1 (r.map A2)):=by
 refine Bo.nle (Bo.intro Tryz.func264 rfl rfl (by show _≤28;simp) ?_)
 unfold Ln at h
 refine nS (sq ?_)
 refine ar rfl (qn (sq ?_))
 refine ar rfl (qn (sq (sq ?_)))
 refine rg rfl fun K j=>?_
 intro hm
 refine j _ _ (qn (bk ?_))
 refine AWP.ghost 5 1 rfl (by decide) ?_
 obtain⟨o2,hJ2,hO2⟩:=Af h
 clear h
 refine AWP.Bw (ι:=Nat×((List Int))×(Nat)) (fun zz=>[(2,.ptr 0 0),(3,.ptr 1 0),(5,.own 2 zz.2.2 0 zz.2.1.length),(10,.sl 1 (l.Items.map A2)),(11,.int .i64 ((l.Items.length:Nat):Int)),(12,.int .i64 ((zz.1:Nat):Int))]) (fun zz=>[.box [.sl 1 (l.Items.map A2),.int .i64 l.Every,.sl 3 (l.Signs.map B9)],.box [.int .i64 t],.row zz.2.2 1 (zz.2.1.map A2)]) (fun zz=>zz.1≤l.Items.length∧Am (I5 l t) zz.1 ((l.Items).drop zz.1) zz.2.1=some o2) (fun zz=>l.Items.length - zz.1) (0,[],0) ⟨Nat.zero_le _,hJ2⟩ cu cu (fun x=>⟨rfl,rfl,rfl⟩) ?_
 clear hJ2
 rintro⟨k2,out1,ver2⟩ ⟨hk2,hJ2⟩
 dsimp only at hk2 hJ2 ⊢
 refine sq (ar rfl (qn (sq ?_)))
 refine AWP.cond (Ak (fun hc=>?_) (fun hc=>?_))
 rotate_left
 ·obtain rfl:=Bf hJ2 (fun hl=>by have:=Aiz hc;omega)
  have h:=Be hO2;try dsimp only at h
  have hkl:l.Items.length=k2:=by have:=Aiz hc;omega
  subst hkl
  refine xt (qe (qe (bs (qn (sq (ar rfl (qn (rt ?_))))))))
  cases h;exact en Tryz.results264
 have hlt2:k2<l.Items.length:=by have:=Ai0 hc;omega
 obtain⟨x_4,b2,hx2_,h,hJ2⟩:=A9 hJ2 hlt2
 have hx2:=Ay hx2_
 have hw2:=wk (k:=k2) (by omega)
 unfold I5 at h;try dsimp only at h
 refine sk (qn (sq (bk (sq ?_))))
 refine rg rfl fun K j=>?_
 refine Bn.of (f:=A2) (l:=l.Items) hx2 ?_
 refine nS ?_
 refine j _ _ (qn (sq ?_))
 refine ar rfl (qn (sq ?_))
 refine rg rfl fun K j=>?_
 refine An.inline Tryz.call280 Tryz.func280 rfl rfl (by show _≤9;simp) ?_
 refine nS (sq ?_)
 refine ar rfl (qn (sq ?_))
 refine rg rfl fun K j=>?_
 refine An.inline Tryz.call286 Tryz.func286 rfl rfl (by show _≤19;simp) ?_
 refine nS (sq ?_)
 refine ar rfl (qn (sq (sq ?_)))
 refine rg rfl fun K j=>?_
 intro hm
 refine j _ _ (qn (bk ?_));clear j K
 obtain⟨o4,hJ4,hO4⟩:=Af h
 clear h
 refine AWP.Bw (ι:=Nat×(Unit)×(Unit)) (fun zz=>[(0,.sl 3 (l.Signs.map B9)),(1,.func 279 [.ptr 3 0,.ptr 1 0,.ptr 0 0]),(7,.int .i64 ((l.Signs.length:Nat):Int)),(8,.int .i64 ((zz.1:Nat):Int))]) (fun zz=>[.box [.sl 1 (l.Items.map A2),.int .i64 l.Every,.sl 3 (l.Signs.map B9)],.box [.int .i64 t],.row ver2 1 (out1.map A2),.box [.int .i64 x_4]]) (fun zz=>zz.1≤l.Signs.length∧Am (I4 l t out1 x_4) zz.1 ((l.Signs).drop zz.1) zz.2.1=some o4) (fun zz=>l.Signs.length - zz.1) (0,(),()) ⟨Nat.zero_le _,hJ4⟩ cu cu (fun x=>⟨rfl,rfl,rfl⟩) ?_
 clear hJ4
 rintro⟨k4,⟨⟩,⟨⟩⟩ ⟨hk4,hJ4⟩
 dsimp only at hk4 hJ4 ⊢
 refine sq (ar rfl (qn (sq ?_)))
 refine AWP.cond (Ak (fun hc=>?_) (fun hc=>?_))
 rotate_left
 ·obtain rfl:=Bf hJ4 (fun hl=>by have:=Aiz hc;omega)
  have h:=Be hO4;try dsimp only at h
  have hkl:l.Signs.length=k4:=by have:=Aiz hc;omega
  subst hkl
  refine xt (qe (qe (bs (qn (sq (ar rfl (qn (rt ?_))))))))
  refine nSc Tryz.results286 ?_
  refine j _ _ (qn (rt ?_));clear j K
  refine nSc Tryz.results280 ?_
  refine j _ _ (qn ?_)
  refine AWP.cond (Ah ?_)
  refine rg rfl fun K j=>?_
  obtain⟨hk,h⟩:=B4 h
  (repeat refine rp ?_);try simp +decide -implicitDefEqProofs only[go_sem]
  refine j _ _ (bn (qn ?_))
  refine ar rfl (qn ?_)
  obtain rfl:=Aa h
  refine⟨(k2+1,(out1++[x_4]),(ver2+1)),⟨by dsimp only;omega,Ai hJ2⟩,by dsimp only;omega,?_,?_⟩
  ·exact cuw hw2
  exact cuw hw2
 have hlt4:k4<l.Signs.length:=by have:=Ai0 hc;omega
 obtain⟨x_6,b4,hx4_,h,hJ4⟩:=A9 hJ4 hlt4
 have hx4:=Ay hx4_
 have hw4:=wk (k:=k4) (by omega)
 unfold I4 at h;try dsimp only at h
 refine sk (qn (sq (bk (sq (ar rfl (qn (sq ?_)))))))
 refine rg rfl fun K j=>?_
 refine Bn.of (f:=B9) (l:=l.Signs) hx4 ?_
 refine nS ?_
 refine An.inline Tryz.call279 Tryz.func279 rfl rfl (by show _≤25;simp) ?_
 refine nS (sq ?_)
 refine ar rfl (qn (sq ?_))
 refine rg rfl fun K j=>?_
 revert h;refine gt (fun hc h=>?_) fun hc h=>?_
 ·revert h;refine gt (fun hc h=>?_) fun hc h=>?_
  ·refine j _ _ (qn (rt ?_));clear j K
   refine nSc Tryz.results279 ?_
   refine j _ _ (qn ?_);clear j K
   revert h;refine ca rfl (fun hc h=>?_) fun hc h=>?_
   ·refine sq (ar rfl (qn (rt (br (qr (qr ?_))))))
    obtain⟨q6,hq,h⟩:=Af h
    obtain rfl:=Aa h
    obtain rfl:=Ae hJ4
    replace h:=hq.trans (Al hO4)
    refine br (qr (nSc Tryz.results286 ?_))
    refine j _ _ (qn (rt ?_));clear j K
    refine nSc Tryz.results280 ?_
    refine j _ _ (qn ?_)
    revert h;refine ca rfl (fun hc h=>?_) fun hc h=>?_
    ·refine rg rfl fun K j=>?_
     obtain⟨hk,h⟩:=B4 h
     (repeat refine rp ?_);try simp +decide -implicitDefEqProofs only[go_sem]
     refine j _ _ (bn (qn ?_))
     refine ar rfl (qn ?_)
     obtain rfl:=Aa h
     refine⟨(k2+1,(out1++[x_4]),(ver2+1)),⟨by dsimp only;omega,Ai hJ2⟩,by dsimp only;omega,?_,?_⟩
     ·exact cuw hw2
     exact cuw hw2
    refine sk (bn (qn (ar rfl (qn ?_))))
    obtain rfl:=Aa h
    refine⟨(k2+1,out1,ver2),⟨by dsimp only;omega,Ai hJ2⟩,by dsimp only;omega,?_,?_⟩
    ·exact cuw hw2
    exact cuw hw2
   refine sk (bn (qn (ar rfl (qn ?_))))
   obtain rfl:=Aa h
   refine⟨(k4+1,(),()),⟨by dsimp only;omega,Ai hJ4⟩,by dsimp only;omega,?_,?_⟩
   ·exact cuw hw4
   exact cuw hw4
  refine j _ _ (qn (rt ?_));clear j K
  refine nSc Tryz.results279 ?_
  refine j _ _ (qn ?_);clear j K
  refine AWP.cond (Bk ?_)
  refine sk (bn (qn (ar rfl (qn ?_))))
  obtain rfl:=Aa h
  refine⟨(k4+1,(),()),⟨by dsimp only;omega,Ai hJ4⟩,by dsimp only;omega,?_,?_⟩
  ·exact cuw hw4
  exact cuw hw4
 refine j _ _ (qn (rt ?_));clear j K
 refine nSc Tryz.results279 ?_
 refine j _ _ (qn ?_);clear j K
 refine AWP.cond (Bk ?_)
 refine sk (bn (qn (ar rfl (qn ?_))))
 obtain rfl:=Aa h
 refine⟨(k4+1,(),()),⟨by dsimp only;omega,Ai hJ4⟩,by dsimp only;omega,?_,?_⟩
 ·exact cuw hw4
 exact cuw hw4
theorem aC (l:Br) (t:Int) {r:(List Int)} (h:Ln l t=some r):Ad Tryz.prog 264 [.agg (Fg l),.int .i64 t] (·= .sl 1 (r.map A2)):=(Zi l t h).pure
def Og (l:Br) (t:Int):Option (Bool):=
 (Ln l t).bind fun y1=>some (decide (((y1.length:Nat):Int)=0))
theorem aD (l:Br) (t:Int) {r:Bool} (h:Og l t=some r):Ad Tryz.prog 206 [.agg (Fg l),.int .i64 t] (·= .bool r):=by
 refine Ad.nle (Ad.intro Tryz.func206 rfl rfl (by show _≤10;simp) ?_)
 unfold Og at h
 refine nS (sq ?_)
 refine ar rfl (qn (sq ?_))
 refine rg rfl fun K j=>?_
 obtain⟨y1,hy1,h⟩:=Af h
 refine An.pure Tryz.call264 (aC l t hy1) rfl fun _ hr=>?_
 subst hr
 refine nS ?_
 intro hm
 refine j _ _ (qn (rt ?_))
 cases h;exact en Tryz.results206
def Mq (run:Int) (k3:Nat) (x_5:Cv) (sv:Unit):Option (Out (Unit) (Bool)):=
 (bif (decide (x_5.Run=run))then some (Out.ret (!(decide (0≤((k3:Nat):Int)))))else some (Out.next ()))
def Li (p:Ca) (run:Int) (t:Int):Option (Bool):=
 (Ku p run).bind fun y1=>(bif (decide (y1<0))then some false else(Dk p.Bu y1).bind fun x_2=>(Og x_2.List_ t).bind fun y3=>(bif (!y3)then some false else(Am (Mq run) 0 p.Hazards ()).bind fun o3=>o3.on fun s3=>some true))
theorem Z8 (p:Ca) (run:Int) (t:Int) {r:Bool} (h:Li p run t=some r):Ad Tryz.prog 107 [.agg (Ij p),.int .i64 run,.int .i64 t] (·= .bool r):=by
 refine Ad.nle (Ad.intro Tryz.func107 rfl rfl (by show _≤29;simp) ?_)
 unfold Li at h
 refine nS (sq ?_)
 refine ar rfl (qn (sq ?_))
 refine rg rfl fun K j=>?_
 obtain⟨y1,hy1,h⟩:=Af h
 refine An.pure Tryz.call162 (Uf p run hy1) rfl fun _ hr=>?_
 subst hr
 refine nS ?_
 refine j _ _ (qn (sq (sq ?_)))
 refine rg rfl fun K j=>?_
 revert h;refine gf (fun hc h=>?_) fun hc h=>?_
 rotate_left
 ·refine j _ _ (qn ?_)
  refine AWP.cond (Ah ?_)
  refine sq (ar rfl (qn (rt (qr ?_))))
  cases h;exact en Tryz.results107
 obtain⟨x_2,hx_2,h⟩:=Af h
 refine Bn.of (f:=Av) (l:=p.Bu) hx_2 ?_
 refine nS ?_
 obtain⟨y3,hy3,h⟩:=Af h
 refine An.pure Tryz.call206 (aD x_2.List_ t hy3) rfl fun _ hr=>?_
 subst hr
 refine nS ?_
 refine j _ _ (qn ?_)
 revert h;refine ca rfl (fun hc h=>?_) fun hc h=>?_
 ·refine sq (ar rfl (qn (rt (qr ?_))))
  cases h;exact en Tryz.results107
 refine sk (qn (sq ?_))
 refine rg rfl fun K j=>?_
 refine An.inline Tryz.call207 Tryz.func207 rfl rfl (by show _≤9;simp) ?_
 refine nS (sq ?_)
 refine ar rfl (qn (sq ?_))
 refine rg rfl fun K j=>?_
 refine An.inline Tryz.call241 Tryz.func241 rfl rfl (by show _≤19;simp) ?_
 refine nS (sq ?_)
 refine ar rfl (qn (sq (sq ?_)))
 refine rg rfl fun K j=>?_
 intro hm
 refine j _ _ (qn (bk ?_));clear j K
 obtain⟨o3,hJ3,hO3⟩:=Af h
 clear h
 refine AWP.Bw (ι:=Nat×(Unit)×(Unit)) (fun zz=>[(0,.sl 3 (p.Hazards.map Az)),(1,.func 208 [.ptr 1 0]),(7,.int .i64 ((p.Hazards.length:Nat):Int)),(8,.int .i64 ((zz.1:Nat):Int))]) (fun zz=>[.box [.sl 4 (p.Bu.map Av),.sl 3 (p.Hazards.map Az)],.box [.int .i64 run]]) (fun zz=>zz.1≤p.Hazards.length∧Am (Mq run) zz.1 ((p.Hazards).drop zz.1) zz.2.1=some o3) (fun zz=>p.Hazards.length - zz.1) (0,(),()) ⟨Nat.zero_le _,hJ3⟩ cu cu (fun x=>⟨rfl,rfl,rfl⟩) ?_
 clear hJ3
 rintro⟨k3,⟨⟩,⟨⟩⟩ ⟨hk3,hJ3⟩
 dsimp only at hk3 hJ3 ⊢
 refine sq (ar rfl (qn (sq ?_)))
 refine AWP.cond (Ak (fun hc=>?_) (fun hc=>?_))
 rotate_left
 ·obtain rfl:=Bf hJ3 (fun hl=>by have:=Aiz hc;omega)
  have h:=Be hO3;try dsimp only at h
  have hkl:p.Hazards.length=k3:=by have:=Aiz hc;omega
  subst hkl
  refine xt (qe (qe (bs (qn (sq (ar rfl (qn (rt ?_))))))))
  refine nSc Tryz.results241 ?_
  refine j _ _ (qn (rt ?_));clear j K
  refine nSc Tryz.results207 ?_
  refine j _ _ (qn (rt ?_))
  cases h;exact en Tryz.results107
 have hlt3:k3<p.Hazards.length:=by have:=Ai0 hc;omega
 obtain⟨x_5,b3,hx3_,h,hJ3⟩:=A9 hJ3 hlt3
 have hx3:=Ay hx3_
 have hw3:=wk (k:=k3) (by omega)
 unfold Mq at h;try dsimp only at h
 refine sk (qn (sq (bk (sq (ar rfl (qn (sq ?_)))))))
 refine rg rfl fun K j=>?_
 refine Bn.of (f:=Az) (l:=p.Hazards) hx3 ?_
 refine nS ?_
 refine An.inline Tryz.call208 Tryz.func208 rfl rfl (by show _≤8;simp) ?_
 refine nS (sq ?_)
 refine ar rfl (qn (sq ?_))
 refine ar rfl (qn (rt ?_))
 refine nSc Tryz.results208 ?_
 refine j _ _ (qn ?_);clear j K
 revert h;refine ca rfl (fun hc h=>?_) fun hc h=>?_
 ·refine sq (ar rfl (qn (rt (br (qr (qr ?_))))))
  obtain rfl:=Aa h
  obtain rfl:=Ae hJ3
  replace h:=Al hO3
  refine br (qr (nSc Tryz.results241 ?_))
  refine j _ _ (qn (rt ?_));clear j K
  refine nSc Tryz.results207 ?_
  refine j _ _ (qn (rt ?_))
  cases h;exact en Tryz.results107
 refine sk (bn (qn (ar rfl (qn ?_))))
 obtain rfl:=Aa h
 refine⟨(k3+1,(),()),⟨by dsimp only;omega,Ai hJ3⟩,by dsimp only;omega,?_,?_⟩
 ·exact cuw hw3
 exact cuw hw3
def Ir (n_:Int) (least:Int) (most:Int):Option (Bool):=
 (bif (decide (least≤n_))then some (decide (n_≤most))else some false)
theorem J6 (n_:Int) (least:Int) (most:Int) {r:Bool} (h:Ir n_ least most=some r):Ad Tryz.prog 176 [.int .i64 n_,.int .i64 least,.int .i64 most] (·= .bool r):=by
 refine Ad.nle (Ad.intro Tryz.func176 rfl rfl (by show _≤15;simp) ?_)
 unfold Ir at h
 refine nS (sq ?_)
 refine ar rfl (qn (sq ?_))
 refine rg rfl fun K j=>?_
 revert h;refine gt (fun hc h=>?_) fun hc h=>?_
 ·refine j _ _ (qn (rt ?_))
  cases h;exact en Tryz.results176
 refine j _ _ (qn (rt ?_))
 cases h;exact en Tryz.results176
def J7 (p:Fm):Option (Bool):=
 (Ir p.Natural 0 20000).bind fun y1=>(bif y1 then(Ir p.Machine 0 20000).bind fun y2=>(bif y2 then(Ir p.Density 50 900).bind fun y3=>some y3 else some false)else some false)
theorem Qk (p:Fm) {r:Bool} (h:J7 p=some r):Ad Tryz.prog 84 [.agg (O1 p)] (·= .bool r):=by
 refine Ad.nle (Ad.intro Tryz.func84 rfl rfl (by show _≤16;simp) ?_)
 unfold J7 at h
 refine nS (sq ?_)
 refine ar rfl (qn (sq ?_))
 refine rg rfl fun K j=>?_
 obtain⟨y1,hy1,h⟩:=Af h
 refine An.pure Tryz.call176 (J6 p.Natural 0 20000 hy1) rfl fun _ hr=>?_
 subst hr
 refine nS ?_
 revert h;refine gt (fun hc h=>?_) fun hc h=>?_
 ·obtain⟨y2,hy2,h⟩:=Af h
  refine An.pure Tryz.call176 (J6 p.Machine 0 20000 hy2) rfl fun _ hr=>?_
  subst hr
  refine nS ?_
  revert h;refine gt (fun hc h=>?_) fun hc h=>?_
  ·obtain⟨y3,hy3,h⟩:=Af h
   refine An.pure Tryz.call176 (J6 p.Density 50 900 hy3) rfl fun _ hr=>?_
   subst hr
   refine nS ?_
   refine j _ _ (qn (rt ?_))
   cases h;exact en Tryz.results84
  refine j _ _ (qn (rt ?_))
  cases h;exact en Tryz.results84
 refine j _ _ (qn (rt ?_))
 cases h;exact en Tryz.results84
def Ns (p:Fm):Option (Int):=
 some (IntKind.i64.wrap (p.Natural+p.Machine))
theorem Yi (p:Fm) {r:Int} (h:Ns p=some r):Ad Tryz.prog 265 [.agg (O1 p)] (·= .int .i64 r):=by
 refine Ad.nle (Ad.intro Tryz.func265 rfl rfl (by show _≤8;simp) ?_)
 unfold Ns at h
 refine nS (sq ?_)
 refine ar rfl (qn (sq ?_))
 refine ar rfl (qn (rt ?_))
 cases h;exact en Tryz.results265
def J8 (p:Fm):Option (Int×Int):=
 (J7 p).bind fun y1=>(bif (!y1)then some (0,1)else (Ns p).bind fun y2=>nz p.Density (some ((IntKind.i64.wrap (Int.tdiv (IntKind.i64.wrap (y2*1000)) p.Density)),0)))
theorem Yj (p:Fm) {r:Int×Int} (h:J8 p=some r):Ad Tryz.prog 211 [.agg (O1 p)] (·= .tuple [.int .i64 r.1,.int .i64 r.2]):=by
 refine Ad.nle (Ad.intro Tryz.func211 rfl rfl (by show _≤13;simp) ?_)
 unfold J8 at h
 refine nS (sq ?_)
 refine ar rfl (qn (sq (sq ?_)))
 refine rg rfl fun K j=>?_
 obtain⟨y1,hy1,h⟩:=Af h
 refine An.pure Tryz.call84 (Qk p hy1) rfl fun _ hr=>?_
 subst hr
 refine nS ?_
 refine j _ _ (qn ?_)
 revert h;refine ca rfl (fun hc h=>?_) fun hc h=>?_
 ·refine sq (ar rfl (qn (rt (qr ?_))))
  cases h;exact en Tryz.results211
 refine sk (qn (sq ?_))
 refine AWP.draw Tryz.mixed (by kernel_rfl) ?_;intro K j
 refine nS ?_
 obtain⟨y2,hy2,h⟩:=Af h
 refine B7.pure Tryz.call265 (Yi p hy2) rfl ?_
 refine nS ?_
 obtain⟨hk,h⟩:=nA h
 refine⟨hk,?_⟩
 refine j _ _ _ (by kernel_rfl) ?_
 refine qn (rt ?_)
 cases h;exact en Tryz.results211
def Gk (f_:Aj) (run:Int) (k0:Nat) (x_2:C5) (sv:Unit):Option (Out (Unit) (Bool)):=
 (bif (decide (x_2.Run=run))then ((bif (decide (((k0:Nat):Int)<0))then some false else(J8 x_2.Pack).bind fun y3=>(bif (decide (y3.2=0))then some (decide (f_.Depth≤y3.1))else some false))).bind fun q3=>some (Out.ret q3)else some (Out.next ()))
def Fa (f_:Aj) (run:Int):Option (Bool):=
 (Am (Gk f_ run) 0 f_.Packs ()).bind fun o0=>o0.on fun s0=>some false
theorem Vc (f_:Aj) (run:Int) {r:Bool} (h:Fa f_ run=some r):Ad Tryz.prog 108 [.agg (B3 f_),.int .i64 run] (·= .bool r):=by
 refine Ad.nle (Ad.intro Tryz.func108 rfl rfl (by show _≤32;simp) ?_)
 unfold Fa at h
 refine nS (sq ?_)
 refine ar rfl (qn (sq ?_))
 refine rg rfl fun K j=>?_
 refine An.inline Tryz.call209 Tryz.func209 rfl rfl (by show _≤19;simp) ?_
 refine nS (sq ?_)
 refine ar rfl (qn (sq (sq ?_)))
 refine rg rfl fun K j=>?_
 intro hm
 refine j _ _ (qn (bk ?_));clear j K
 obtain⟨o0,hJ0,hO0⟩:=Af h
 clear h
 refine AWP.Bw (ι:=Nat×(Unit)×(Unit)) (fun zz=>[(0,.sl 5 (f_.Packs.map A3)),(1,.func 210 [.ptr 1 0]),(7,.int .i64 ((f_.Packs.length:Nat):Int)),(8,.int .i64 ((zz.1:Nat):Int))]) (fun zz=>[.box [.sl 2 (f_.Map.Nodes.map A6),.sl 8 (f_.Map.Lifts.map A7),.sl 7 (f_.Map.Runs.map Bc),.sl 1 (f_.Map.Bases.map A2),.sl 2 (f_.Lifts.map Aw),.sl 4 (f_.Closures.map Au),.sl 4 (f_.Patrol.Bu.map Av),.sl 3 (f_.Patrol.Hazards.map Az),.sl 3 (f_.Surfaces.map A4),.sl 5 (f_.Packs.map A3),.sl 6 (f_.Slides.map Ba),.sl 7 (f_.Bulletin.map Ax),.sl 7 (f_.Missions.map Ap),.sl 4 (f_.Winches.map Ao),.sl 8 (f_.Groomers.map A1),.sl 3 (f_.Status.map A5),.int .i64 f_.Depth,.int .i64 f_.Time],.box [.int .i64 run]]) (fun zz=>zz.1≤f_.Packs.length∧Am (Gk f_ run) zz.1 ((f_.Packs).drop zz.1) zz.2.1=some o0) (fun zz=>f_.Packs.length - zz.1) (0,(),()) ⟨Nat.zero_le _,hJ0⟩ cu cu (fun x=>⟨rfl,rfl,rfl⟩) ?_
 clear hJ0
 rintro⟨k0,⟨⟩,⟨⟩⟩ ⟨hk0,hJ0⟩
 dsimp only at hk0 hJ0 ⊢
 refine sq (ar rfl (qn (sq ?_)))
 refine AWP.cond (Ak (fun hc=>?_) (fun hc=>?_))
 rotate_left
 ·obtain rfl:=Bf hJ0 (fun hl=>by have:=Aiz hc;omega)
  have h:=Be hO0;try dsimp only at h
  have hkl:f_.Packs.length=k0:=by have:=Aiz hc;omega
  subst hkl
  refine xt (qe (qe (bs (qn (sq (ar rfl (qn (rt ?_))))))))
  refine nSc Tryz.results209 ?_
  refine j _ _ (qn (sq (sq ?_)))
  refine ar rfl (qn ?_)
  refine AWP.cond (Ah ?_)
  refine sq (ar rfl (qn (rt (qr ?_))))
  cases h;exact en Tryz.results108
 have hlt0:k0<f_.Packs.length:=by have:=Ai0 hc;omega
 obtain⟨x_2,b0,hx0_,h,hJ0⟩:=A9 hJ0 hlt0
 have hx0:=Ay hx0_
 have hw0:=wk (k:=k0) (by omega)
 unfold Gk at h;try dsimp only at h
 refine sk (qn (sq (bk (sq (ar rfl (qn (sq ?_)))))))
 refine rg rfl fun K j=>?_
 refine Bn.of (f:=A3) (l:=f_.Packs) hx0 ?_
 refine nS ?_
 refine An.inline Tryz.call210 Tryz.func210 rfl rfl (by show _≤8;simp) ?_
 refine nS (sq ?_)
 refine ar rfl (qn (sq ?_))
 refine ar rfl (qn (rt ?_))
 refine nSc Tryz.results210 ?_
 refine j _ _ (qn ?_);clear j K
 revert h;refine ca rfl (fun hc h=>?_) fun hc h=>?_
 ·refine sq (ar rfl (qn (rt (br (qr (qr ?_))))))
  obtain⟨q3,hq,h⟩:=Af h
  obtain rfl:=Aa h
  obtain rfl:=Ae hJ0
  replace h:=hq.trans (Al hO0)
  refine br (qr (nSc Tryz.results209 ?_))
  refine j _ _ (qn (sq (sq ?_)))
  refine ar rfl (qn ?_)
  revert h;refine ca rfl (fun hc h=>?_) fun hc h=>?_
  ·refine sq (ar rfl (qn (rt (qr ?_))))
   cases h;exact en Tryz.results108
  refine sk (qn (sq ?_))
  refine rg rfl fun K j=>?_
  refine Bn.of (f:=A3) (l:=f_.Packs) hx0 ?_
  refine nS ?_
  obtain⟨y3,hy3,h⟩:=Af h
  refine An.pure Tryz.call211 (Yj x_2.Pack hy3) rfl fun _ hr=>?_
  subst hr
  refine nS ?_
  refine j _ _ (qn (sq ?_))
  refine rg rfl fun K j=>?_
  revert h;refine gt (fun hc h=>?_) fun hc h=>?_
  ·refine j _ _ (qn (rt ?_))
   cases h;exact en Tryz.results108
  refine j _ _ (qn (rt ?_))
  cases h;exact en Tryz.results108
 refine sk (bn (qn (ar rfl (qn ?_))))
 obtain rfl:=Aa h
 refine⟨(k0+1,(),()),⟨by dsimp only;omega,Ai hJ0⟩,by dsimp only;omega,?_,?_⟩
 ·exact cuw hw0
 exact cuw hw0
def Ep (f_:Aj) (run:Int) (y1:Ce×Bool) (t24_3:Bool):Option (Int):=
 (bif t24_3 then some 15 else(Ey f_).bind fun y5=>(Gd f_.Slides y5).bind fun y6=>(Bs y6 y1.1.Zone).bind fun y7=>(bif y7 then some 10 else(Li f_.Patrol run f_.Time).bind fun y8=>(bif (!y8)then some 14 else(Fa f_ run).bind fun y9=>(bif (!y9)then some 5 else some 0))))
def Cz (f_:Aj) (run:Int):Option (Int):=
 (E0 f_.Map run).bind fun y1=>(bif (!y1.2)then some 8 else(P3 f_.Map f_.Closures run).bind fun y2=>(bif y2 then some 13 else(R1 f_.Groomers run).bind fun y10=>(bif y10 then Ep f_ run y1 y10 else(Pm f_.Winches f_.Time).bind fun y11=>(Bs y11 run).bind fun y12=>(bif y12 then Ep f_ run y1 y12 else(Gm f_ y1.1.Zone).bind fun y13=>Ep f_ run y1 y13))))
theorem Jn (f_:Aj) (run:Int) {r:Int} (h:Cz f_ run=some r):Ad Tryz.prog 48 [.agg (B3 f_),.int .i64 run] (·= .int .i64 r):=by
 refine Ad.nle (Ad.intro Tryz.func48 rfl rfl (by show _≤62;simp) ?_)
 unfold Cz at h
 refine nS (sq ?_)
 refine ar rfl (qn (sq ?_))
 refine rg rfl fun K j=>?_
 obtain⟨y1,hy1,h⟩:=Af h
 refine An.pure Tryz.call53 (D3 f_.Map run hy1) rfl fun _ hr=>?_
 subst hr
 refine nS ?_
 refine j _ _ (qn (sq (bk (sq ?_))))
 refine ar rfl (qn ?_)
 revert h;refine ca rfl (fun hc h=>?_) fun hc h=>?_
 ·refine sq (ar rfl (qn (rt (br (qr ?_)))))
  cases h;exact en Tryz.results48
 refine sq ?_
 refine rg rfl fun K j=>?_
 obtain⟨y2,hy2,h⟩:=Af h
 refine An.pure Tryz.call102 (c7 f_.Map f_.Closures run hy2) rfl fun _ hr=>?_
 subst hr
 refine nS ?_
 refine j _ _ (qn ?_)
 revert h;refine ca rfl (fun hc h=>?_) fun hc h=>?_
 ·refine sq (ar rfl (qn (rt (br (qr ?_)))))
  cases h;exact en Tryz.results48
 refine AWP.Le (ι:=(Bool)×(Unit)) (fun zz=>[(1,.int .i64 run),(2,.ptr 0 0),(5,.ptr 1 0),(24,.bool zz.1)]) (fun zz=>[.box [.sl 2 (f_.Map.Nodes.map A6),.sl 8 (f_.Map.Lifts.map A7),.sl 7 (f_.Map.Runs.map Bc),.sl 1 (f_.Map.Bases.map A2),.sl 2 (f_.Lifts.map Aw),.sl 4 (f_.Closures.map Au),.sl 4 (f_.Patrol.Bu.map Av),.sl 3 (f_.Patrol.Hazards.map Az),.sl 3 (f_.Surfaces.map A4),.sl 5 (f_.Packs.map A3),.sl 6 (f_.Slides.map Ba),.sl 7 (f_.Bulletin.map Ax),.sl 7 (f_.Missions.map Ap),.sl 4 (f_.Winches.map Ao),.sl 8 (f_.Groomers.map A1),.sl 3 (f_.Status.map A5),.int .i64 f_.Depth,.int .i64 f_.Time],.box [.int .i64 y1.1.ID,.int .i64 y1.1.Operator,.int .i64 y1.1.From,.int .i64 y1.1.To,.int .i64 y1.1.Grade,.int .i64 y1.1.Zone,.int .i64 y1.1.Length]]) (fun zz=>Ep f_ run y1 zz.1=some r) (fun zz=>⟨rfl,rfl,rfl⟩) ?_ ?_
 ·refine sq ?_
  refine rg rfl fun K j=>?_
  obtain⟨y10,hy10,h⟩:=Af h
  refine An.pure Tryz.call103 (eT f_.Groomers run hy10) rfl fun _ hr=>?_
  subst hr
  refine nS ?_
  refine j _ _ (qn ?_)
  revert h;refine ca rfl (fun hc h=>?_) fun hc h=>?_
  ·refine sk (qn ?_)
   exact⟨(y10,()),h,cu,cu⟩
  refine sq ?_
  refine rg rfl fun K j=>?_
  obtain⟨y11,hy11,h⟩:=Af h
  refine An.pure Tryz.call104 (bC f_.Winches f_.Time hy11) rfl fun _ hr=>?_
  subst hr
  refine nS ?_
  obtain⟨y12,hy12,h⟩:=Af h
  refine An.pure Tryz.call54 (Bv y11 run hy12) rfl fun _ hr=>?_
  subst hr
  refine nS ?_
  refine j _ _ (qn ?_)
  revert h;refine ca rfl (fun hc h=>?_) fun hc h=>?_
  ·refine sk (qn ?_)
   exact⟨(y12,()),h,cu,cu⟩
  refine rg rfl fun K j=>?_
  obtain⟨y13,hy13,h⟩:=Af h
  refine An.pure Tryz.call105 (Vd f_ y1.1.Zone hy13) rfl fun _ hr=>?_
  subst hr
  refine nS ?_
  refine j _ _ (qn ?_)
  exact⟨(y13,()),h,cu,cu⟩
 rintro⟨t24_3,⟨⟩⟩ h
 try dsimp only at h ⊢
 unfold Ep at h;try dsimp only at h
 revert h;refine ca rfl (fun hc h=>?_) fun hc h=>?_
 ·refine sq (ar rfl (qn (rt (br (qr ?_)))))
  cases h;exact en Tryz.results48
 refine sq ?_
 refine AWP.draw Tryz.mixed (by kernel_rfl) ?_;intro K j
 refine nS ?_
 obtain⟨y5,hy5,h⟩:=Af h
 refine B7.pure Tryz.call16 (V1 f_ hy5) rfl ?_
 refine nS ?_
 obtain⟨y6,hy6,h⟩:=Af h
 refine B7.pure Tryz.call106 (Xe f_.Slides y5 hy6) rfl ?_
 refine nS ?_
 obtain⟨y7,hy7,h⟩:=Af h
 refine B7.pure Tryz.call54 (Bv y6 y1.1.Zone hy7) rfl ?_
 refine nS ?_
 refine j _ _ _ (by kernel_rfl) ?_
 refine qn ?_
 revert h;refine ca rfl (fun hc h=>?_) fun hc h=>?_
 ·refine sq (ar rfl (qn (rt (br (qr ?_)))))
  cases h;exact en Tryz.results48
 refine sq ?_
 refine rg rfl fun K j=>?_
 obtain⟨y8,hy8,h⟩:=Af h
 refine An.pure Tryz.call107 (Z8 f_.Patrol run f_.Time hy8) rfl fun _ hr=>?_
 subst hr
 refine nS ?_
 refine j _ _ (qn ?_)
 revert h;refine ca rfl (fun hc h=>?_) fun hc h=>?_
 ·refine sq (ar rfl (qn (rt (br (qr ?_)))))
  cases h;exact en Tryz.results48
 refine sq ?_
 refine rg rfl fun K j=>?_
 obtain⟨y9,hy9,h⟩:=Af h
 refine An.pure Tryz.call108 (Vc f_ run hy9) rfl fun _ hr=>?_
 subst hr
 refine nS ?_
 refine j _ _ (qn ?_)
 revert h;refine ca rfl (fun hc h=>?_) fun hc h=>?_
 ·refine sq (ar rfl (qn (rt (br (qr ?_)))))
  cases h;exact en Tryz.results48
 refine sk (bn (qn (sq (ar rfl (qn (rt ?_))))))
 cases h;exact en Tryz.results48
def G2 (k2:Nat) (x_4:Cr) (sv:(List Int)):Option (Out ((List Int)) ((List Int))):=
 (bif (decide (x_4.Mode=1))then chk (sv.length+1) (some (Out.next (sv++[x_4.Lift])))else some (Out.next sv))
def Fv (f_:Aj):Option ((List Int)):=
 (Am G2 0 f_.Lifts []).bind fun o2=>o2.on fun s2=>some s2
theorem Vb (f_:Aj) {r:(List Int)} (h:Fv f_=some r):Bo Tryz.prog 110 [.agg (B3 f_)] (·= .sl 1 (r.map A2)):=by
 refine Bo.nle (Bo.intro Tryz.func110 rfl rfl (by show _≤23;simp) ?_)
 unfold Fv at h
 refine nS (sq ?_)
 refine ar rfl (qn (sq ?_))
 refine ar rfl (qn (sq (sq ?_)))
 refine rg rfl fun K j=>?_
 intro hm
 refine j _ _ (qn (bk ?_))
 refine AWP.ghost 3 1 rfl (by decide) ?_
 obtain⟨o2,hJ2,hO2⟩:=Af h
 clear h
 refine AWP.Bw (ι:=Nat×((List Int))×(Nat)) (fun zz=>[(3,.own 1 zz.2.2 0 zz.2.1.length),(7,.sl 2 (f_.Lifts.map Aw)),(8,.int .i64 ((f_.Lifts.length:Nat):Int)),(9,.int .i64 ((zz.1:Nat):Int))]) (fun zz=>[.gone,.row zz.2.2 1 (zz.2.1.map A2)]) (fun zz=>zz.1≤f_.Lifts.length∧Am G2 zz.1 ((f_.Lifts).drop zz.1) zz.2.1=some o2) (fun zz=>f_.Lifts.length - zz.1) (0,[],0) ⟨Nat.zero_le _,hJ2⟩ cu cu (fun x=>⟨rfl,rfl,rfl⟩) ?_
 clear hJ2
 rintro⟨k2,out1,ver2⟩ ⟨hk2,hJ2⟩
 dsimp only at hk2 hJ2 ⊢
 refine sq (ar rfl (qn (sq ?_)))
 refine AWP.cond (Ak (fun hc=>?_) (fun hc=>?_))
 rotate_left
 ·obtain rfl:=Bf hJ2 (fun hl=>by have:=Aiz hc;omega)
  have h:=Be hO2;try dsimp only at h
  have hkl:f_.Lifts.length=k2:=by have:=Aiz hc;omega
  subst hkl
  refine xt (qe (qe (bs (qn (sq (ar rfl (qn (rt ?_))))))))
  cases h;exact en Tryz.results110
 have hlt2:k2<f_.Lifts.length:=by have:=Ai0 hc;omega
 obtain⟨x_4,b2,hx2_,h,hJ2⟩:=A9 hJ2 hlt2
 have hx2:=Ay hx2_
 have hw2:=wk (k:=k2) (by omega)
 unfold G2 at h;try dsimp only at h
 refine sk (qn (sq (bk (sq ?_))))
 refine rg rfl fun K j=>?_
 refine Bn.of (f:=Aw) (l:=f_.Lifts) hx2 ?_
 refine nS ?_
 refine j _ _ (qn (sq ?_))
 refine ar rfl (qn ?_)
 revert h;refine ca rfl (fun hc h=>?_) fun hc h=>?_
 ·refine rg rfl fun K j=>?_
  obtain⟨hk,h⟩:=B4 h
  (repeat refine rp ?_);try simp +decide -implicitDefEqProofs only[go_sem]
  refine j _ _ (bn (qn ?_))
  refine ar rfl (qn ?_)
  obtain rfl:=Aa h
  refine⟨(k2+1,(out1++[x_4.Lift]),(ver2+1)),⟨by dsimp only;omega,Ai hJ2⟩,by dsimp only;omega,?_,?_⟩
  ·exact cuw hw2
  exact cuw hw2
 refine sk (bn (qn (ar rfl (qn ?_))))
 obtain rfl:=Aa h
 refine⟨(k2+1,out1,ver2),⟨by dsimp only;omega,Ai hJ2⟩,by dsimp only;omega,?_,?_⟩
 ·exact cuw hw2
 exact cuw hw2
theorem V0 (f_:Aj) {r:(List Int)} (h:Fv f_=some r):Ad Tryz.prog 110 [.agg (B3 f_)] (·= .sl 1 (r.map A2)):=(Vb f_ h).pure
def Pc (lifts:List Int) (k2:Nat) (x_4:Cc) (sv:(List Aq)):Option (Out ((List Aq)) ((List Aq))):=
 (Bs lifts x_4.ID).bind fun y5=>(bif y5 then chk (sv.length+1) (some (Out.next (sv++[(Aq.mk x_4.ID x_4.From x_4.To x_4.Length)])))else some (Out.next sv))
def Ou (m:Bb) (lifts:List Int):Option ((List Aq)):=
 (Am (Pc lifts) 0 m.Lifts []).bind fun o2=>o2.on fun s2=>some s2
theorem bF (m:Bb) (lifts:List Int) {r:(List Aq)} (h:Ou m lifts=some r):Bo Tryz.prog 267 [.agg (Cd m),.sl 1 (lifts.map A2)] (·= .sl 4 (r.map Bg)):=by
 refine Bo.nle (Bo.intro Tryz.func267 rfl rfl (by show _≤33;simp) ?_)
 unfold Ou at h
 refine nS (sq ?_)
 refine ar rfl (qn (sq ?_))
 refine ar rfl (qn (sq (sq ?_)))
 refine rg rfl fun K j=>?_
 intro hm
 refine j _ _ (qn (bk ?_))
 refine AWP.ghost 5 4 rfl (by decide) ?_
 obtain⟨o2,hJ2,hO2⟩:=Af h
 clear h
 refine AWP.Bw (ι:=Nat×((List Aq))×(Nat)) (fun zz=>[(1,.sl 1 (lifts.map A2)),(5,.own 1 zz.2.2 0 zz.2.1.length),(9,.sl 8 (m.Lifts.map A7)),(10,.int .i64 ((m.Lifts.length:Nat):Int)),(11,.int .i64 ((zz.1:Nat):Int))]) (fun zz=>[.gone,.row zz.2.2 4 (zz.2.1.map Bg)]) (fun zz=>zz.1≤m.Lifts.length∧Am (Pc lifts) zz.1 ((m.Lifts).drop zz.1) zz.2.1=some o2) (fun zz=>m.Lifts.length - zz.1) (0,[],0) ⟨Nat.zero_le _,hJ2⟩ cu cu (fun x=>⟨rfl,rfl,rfl⟩) ?_
 clear hJ2
 rintro⟨k2,out1,ver2⟩ ⟨hk2,hJ2⟩
 dsimp only at hk2 hJ2 ⊢
 refine sq (ar rfl (qn (sq ?_)))
 refine AWP.cond (Ak (fun hc=>?_) (fun hc=>?_))
 rotate_left
 ·obtain rfl:=Bf hJ2 (fun hl=>by have:=Aiz hc;omega)
  have h:=Be hO2;try dsimp only at h
  have hkl:m.Lifts.length=k2:=by have:=Aiz hc;omega
  subst hkl
  refine xt (qe (qe (bs (qn (sq (ar rfl (qn (rt ?_))))))))
  cases h;exact en Tryz.results267
 have hlt2:k2<m.Lifts.length:=by have:=Ai0 hc;omega
 obtain⟨x_4,b2,hx2_,h,hJ2⟩:=A9 hJ2 hlt2
 have hx2:=Ay hx2_
 have hw2:=wk (k:=k2) (by omega)
 unfold Pc at h;try dsimp only at h
 refine sk (qn (sq (bk (sq ?_))))
 refine rg rfl fun K j=>?_
 refine Bn.of (f:=A7) (l:=m.Lifts) hx2 ?_
 refine nS ?_
 refine j _ _ (qn (sq ?_))
 refine rg rfl fun K j=>?_
 obtain⟨y5,hy5,h⟩:=Af h
 refine An.pure Tryz.call54 (Bv lifts x_4.ID hy5) rfl fun _ hr=>?_
 subst hr
 refine nS ?_
 refine j _ _ (qn ?_)
 revert h;refine ca rfl (fun hc h=>?_) fun hc h=>?_
 ·refine rg rfl fun K j=>?_
  obtain⟨hk,h⟩:=B4 h
  (repeat refine rp ?_);try simp +decide -implicitDefEqProofs only[go_sem]
  refine j _ _ (bn (qn ?_))
  refine ar rfl (qn ?_)
  obtain rfl:=Aa h
  refine⟨(k2+1,(out1++[(Aq.mk x_4.ID x_4.From x_4.To x_4.Length)]),(ver2+1)),⟨by dsimp only;omega,Ai hJ2⟩,by dsimp only;omega,?_,?_⟩
  ·exact cuw hw2
  exact cuw hw2
 refine sk (bn (qn (ar rfl (qn ?_))))
 obtain rfl:=Aa h
 refine⟨(k2+1,out1,ver2),⟨by dsimp only;omega,Ai hJ2⟩,by dsimp only;omega,?_,?_⟩
 ·exact cuw hw2
 exact cuw hw2
theorem eJ (m:Bb) (lifts:List Int) {r:(List Aq)} (h:Ou m lifts=some r):Ad Tryz.prog 267 [.agg (Cd m),.sl 1 (lifts.map A2)] (·= .sl 4 (r.map Bg)):=(bF m lifts h).pure
def Mj (runs:List Int) (k2:Nat) (x_4:Ce) (sv:(List Aq)):Option (Out ((List Aq)) ((List Aq))):=
 (Bs runs x_4.ID).bind fun y5=>(bif y5 then chk (sv.length+1) (some (Out.next (sv++[(Aq.mk x_4.ID x_4.From x_4.To x_4.Length)])))else some (Out.next sv))
def H9 (m:Bb) (runs:List Int):Option ((List Aq)):=
 (Am (Mj runs) 0 m.Runs []).bind fun o2=>o2.on fun s2=>some s2
theorem Y4 (m:Bb) (runs:List Int) {r:(List Aq)} (h:H9 m runs=some r):Bo Tryz.prog 215 [.agg (Cd m),.sl 1 (runs.map A2)] (·= .sl 4 (r.map Bg)):=by
 refine Bo.nle (Bo.intro Tryz.func215 rfl rfl (by show _≤33;simp) ?_)
 unfold H9 at h
 refine nS (sq ?_)
 refine ar rfl (qn (sq ?_))
 refine ar rfl (qn (sq (sq ?_)))
 refine rg rfl fun K j=>?_
 intro hm
 refine j _ _ (qn (bk ?_))
 refine AWP.ghost 5 4 rfl (by decide) ?_
 obtain⟨o2,hJ2,hO2⟩:=Af h
 clear h
 refine AWP.Bw (ι:=Nat×((List Aq))×(Nat)) (fun zz=>[(1,.sl 1 (runs.map A2)),(5,.own 1 zz.2.2 0 zz.2.1.length),(9,.sl 7 (m.Runs.map Bc)),(10,.int .i64 ((m.Runs.length:Nat):Int)),(11,.int .i64 ((zz.1:Nat):Int))]) (fun zz=>[.gone,.row zz.2.2 4 (zz.2.1.map Bg)]) (fun zz=>zz.1≤m.Runs.length∧Am (Mj runs) zz.1 ((m.Runs).drop zz.1) zz.2.1=some o2) (fun zz=>m.Runs.length - zz.1) (0,[],0) ⟨Nat.zero_le _,hJ2⟩ cu cu (fun x=>⟨rfl,rfl,rfl⟩) ?_
 clear hJ2
 rintro⟨k2,out1,ver2⟩ ⟨hk2,hJ2⟩
 dsimp only at hk2 hJ2 ⊢
 refine sq (ar rfl (qn (sq ?_)))
 refine AWP.cond (Ak (fun hc=>?_) (fun hc=>?_))
 rotate_left
 ·obtain rfl:=Bf hJ2 (fun hl=>by have:=Aiz hc;omega)
  have h:=Be hO2;try dsimp only at h
  have hkl:m.Runs.length=k2:=by have:=Aiz hc;omega
  subst hkl
  refine xt (qe (qe (bs (qn (sq (ar rfl (qn (rt ?_))))))))
  cases h;exact en Tryz.results215
 have hlt2:k2<m.Runs.length:=by have:=Ai0 hc;omega
 obtain⟨x_4,b2,hx2_,h,hJ2⟩:=A9 hJ2 hlt2
 have hx2:=Ay hx2_
 have hw2:=wk (k:=k2) (by omega)
 unfold Mj at h;try dsimp only at h
 refine sk (qn (sq (bk (sq ?_))))
 refine rg rfl fun K j=>?_
 refine Bn.of (f:=Bc) (l:=m.Runs) hx2 ?_
 refine nS ?_
 refine j _ _ (qn (sq ?_))
 refine rg rfl fun K j=>?_
 obtain⟨y5,hy5,h⟩:=Af h
 refine An.pure Tryz.call54 (Bv runs x_4.ID hy5) rfl fun _ hr=>?_
 subst hr
 refine nS ?_
 refine j _ _ (qn ?_)
 revert h;refine ca rfl (fun hc h=>?_) fun hc h=>?_
 ·refine rg rfl fun K j=>?_
  obtain⟨hk,h⟩:=B4 h
  (repeat refine rp ?_);try simp +decide -implicitDefEqProofs only[go_sem]
  refine j _ _ (bn (qn ?_))
  refine ar rfl (qn ?_)
  obtain rfl:=Aa h
  refine⟨(k2+1,(out1++[(Aq.mk x_4.ID x_4.From x_4.To x_4.Length)]),(ver2+1)),⟨by dsimp only;omega,Ai hJ2⟩,by dsimp only;omega,?_,?_⟩
  ·exact cuw hw2
  exact cuw hw2
 refine sk (bn (qn (ar rfl (qn ?_))))
 obtain rfl:=Aa h
 refine⟨(k2+1,out1,ver2),⟨by dsimp only;omega,Ai hJ2⟩,by dsimp only;omega,?_,?_⟩
 ·exact cuw hw2
 exact cuw hw2
theorem Sj (m:Bb) (runs:List Int) {r:(List Aq)} (h:H9 m runs=some r):Ad Tryz.prog 215 [.agg (Cd m),.sl 1 (runs.map A2)] (·= .sl 4 (r.map Bg)):=(Y4 m runs h).pure
def K6 (k6:Nat) (x_8:Aq) (sv:(List Aq)):Option (Out ((List Aq)) (Out ((List Aq)) ((List Aq)))):=
 chk (sv.length+1) (some (Out.next (sv++[(Aq.mk ((sv.length:Nat):Int) x_8.From x_8.To x_8.Cost)])))
def No (k2:Nat) (x_4:List Aq) (sv:(List Aq)):Option (Out ((List Aq)) ((List Aq))):=
 (Am K6 0 x_4 sv).bind fun o6=>o6.on fun s6=>some (Out.next s6)
def M6 (lists:List (List Aq)):Option ((List Aq)):=
 (Am No 0 lists []).bind fun o2=>o2.on fun s2=>some s2
theorem Vt (lists:List (List Aq)) {r:(List Aq)} (h:M6 lists=some r):Bo Tryz.prog 214 [.sl 1 (lists.map J9)] (·= .sl 4 (r.map Bg)):=by
 refine Bo.nle (Bo.intro Tryz.func214 rfl rfl (by show _≤30;simp) ?_)
 unfold M6 at h
 refine nS (sq ?_)
 refine ar rfl (qn (sq ?_))
 refine ar rfl (qn (sq (sq ?_)))
 refine rg rfl fun K j=>?_
 intro hm
 refine j _ _ (qn (bk ?_))
 refine AWP.ghost 3 4 rfl (by decide) ?_
 obtain⟨o2,hJ2,hO2⟩:=Af h
 clear h
 refine AWP.Bw (ι:=Nat×((List Aq))×(Nat)) (fun zz=>[(3,.own 0 zz.2.2 0 zz.2.1.length),(8,.sl 1 (lists.map J9)),(9,.int .i64 ((lists.length:Nat):Int)),(10,.int .i64 ((zz.1:Nat):Int))]) (fun zz=>[.row zz.2.2 4 (zz.2.1.map Bg)]) (fun zz=>zz.1≤lists.length∧Am No zz.1 ((lists).drop zz.1) zz.2.1=some o2) (fun zz=>lists.length - zz.1) (0,[],0) ⟨Nat.zero_le _,hJ2⟩ cu cu (fun x=>⟨rfl,rfl,rfl⟩) ?_
 clear hJ2
 rintro⟨k2,out1,ver2⟩ ⟨hk2,hJ2⟩
 dsimp only at hk2 hJ2 ⊢
 refine sq (ar rfl (qn (sq ?_)))
 refine AWP.cond (Ak (fun hc=>?_) (fun hc=>?_))
 rotate_left
 ·obtain rfl:=Bf hJ2 (fun hl=>by have:=Aiz hc;omega)
  have h:=Be hO2;try dsimp only at h
  have hkl:lists.length=k2:=by have:=Aiz hc;omega
  subst hkl
  refine xt (qe (qe (bs (qn (sq (ar rfl (qn (rt ?_))))))))
  cases h;exact en Tryz.results214
 have hlt2:k2<lists.length:=by have:=Ai0 hc;omega
 obtain⟨x_4,b2,hx2_,h,hJ2⟩:=A9 hJ2 hlt2
 have hx2:=Ay hx2_
 have hw2:=wk (k:=k2) (by omega)
 unfold No at h;try dsimp only at h
 refine sk (qn (sq (bk (sq ?_))))
 refine rg rfl fun K j=>?_
 refine Bn.of (f:=J9) (l:=lists) hx2 ?_
 refine nS ?_
 refine j _ _ (qn (sq ?_))
 refine rg rfl fun K j=>?_
 intro hm
 refine j _ _ (qn (bk ?_))
 obtain⟨o6,hJ6,hO6⟩:=Af h
 clear h
 refine AWP.Bw (ι:=Nat×((List Aq))×(Nat)) (fun zz=>[(3,.own 0 zz.2.2 0 zz.2.1.length),(8,.sl 1 (lists.map J9)),(9,.int .i64 ((lists.length:Nat):Int)),(10,.int .i64 ((k2:Nat):Int)),(14,.sl 4 (x_4.map Bg)),(15,.int .i64 ((x_4.length:Nat):Int)),(16,.int .i64 ((zz.1:Nat):Int))]) (fun zz=>[.row zz.2.2 4 (zz.2.1.map Bg)]) (fun zz=>zz.1≤x_4.length∧Am K6 zz.1 ((x_4).drop zz.1) zz.2.1=some o6) (fun zz=>x_4.length - zz.1) (0,out1,ver2) ⟨Nat.zero_le _,hJ6⟩ cu cu (fun x=>⟨rfl,rfl,rfl⟩) ?_
 clear hJ6
 rintro⟨k6,out5,ver6⟩ ⟨hk6,hJ6⟩
 dsimp only at hk6 hJ6 ⊢
 refine sq (ar rfl (qn (sq ?_)))
 refine AWP.cond (Ak (fun hc=>?_) (fun hc=>?_))
 ·have hlt6:k6<x_4.length:=by have:=Ai0 hc;omega
  obtain⟨x_8,b6,hx6_,h,hJ6⟩:=A9 hJ6 hlt6
  have hx6:=Ay hx6_
  have hw6:=wk (k:=k6) (by omega)
  unfold K6 at h;try dsimp only at h
  refine sk (qn (sq (bk (sq ?_))))
  refine rg rfl fun K j=>?_
  refine Bn.of (f:=Bg) (l:=x_4) hx6 ?_
  refine nS ?_
  refine j _ _ (qn (sq ?_))
  refine rg rfl fun K j=>?_
  intro hm
  refine j _ _ (qn ?_)
  refine rg rfl fun K j=>?_
  obtain⟨hk,h⟩:=B4 h
  (repeat refine rp ?_);try simp +decide -implicitDefEqProofs only[go_sem]
  refine j _ _ (bn (qn ?_))
  refine ar rfl (qn ?_)
  obtain rfl:=Aa h
  refine⟨(k6+1,(out5++[(Aq.mk ((out5.length:Nat):Int) x_8.From x_8.To x_8.Cost)]),(ver6+1)),⟨by dsimp only;omega,Ai hJ6⟩,by dsimp only;omega,?_,?_⟩
  ·exact cuw hw6
  exact cuw hw6
 obtain rfl:=Bf hJ6 (fun hl=>by have:=Aiz hc;omega)
 have h:=Be hO6;try dsimp only at h
 have hkl:x_4.length=k6:=by have:=Aiz hc;omega
 subst hkl
 refine xt (qe (qe (bs (bn (qn (ar rfl (qn ?_)))))))
 obtain rfl:=Aa h
 refine⟨(k2+1,out5,ver6),⟨by dsimp only;omega,Ai hJ2⟩,by dsimp only;omega,?_,?_⟩
 ·exact cuw hw2
 exact cuw hw2
def B8 (s_:List Int):Option (List Int):=chk s_.length (some s_)
theorem Ew (s_:List Int) {r:List Int} (h:B8 s_=some r):Db Tryz.prog 67 [.sl 1 (s_.map A2)] 1 (r.map A2):=by
 have hk:=(B4 h).1
 have hr:r=s_:=Aa (B4 h).2
 rw[hr];clear hr h
 refine Db.of ?_
 refine Ch.weak (R:=fun q H=>∃ v rest,q= .own 0 v 0 (s_.map A2).length∧H= .row v 1 (s_.map A2)::rest) (Ch.intro Tryz.func67 rfl rfl (by show _≤8;simp) ?_) (fun q H hq=>?_)
 ·refine nS (sq ?_)
  refine ar rfl (qn (sq (sq ?_)))
  refine rg rfl fun K j=>?_
  intro bnil hb
  refine nS ?_
  refine j _ _ (qn ?_)
  refine AWP.cond (Ak (fun hc=>?_) (fun hc=>?_))
  ·have hx0:s_=[]:=Classical.byContradiction fun hne=>by have:=hb (by simpa using hne);simp[this]at hc
   subst hx0
   refine sq (ar rfl (qn ?_))
   refine AWP.ghost 2 1 rfl (by decide) ?_
   refine nS (rt (qr ?_))
   refine nSc Tryz.results67 ?_
   refine⟨_,_,?_,rfl⟩
   (try simp +decide -implicitDefEqProofs only[go_sem,List.length_map,List.length_append,List.length_cons,List.length_nil,List.length_set,List.length_replicate]);try rfl
  clear hc
  refine sk (qn (sq ?_))
  refine rg rfl fun K j=>?_
  (repeat refine rp ?_);try simp +decide -implicitDefEqProofs only[go_sem]
  refine j _ _ (qn (rt ?_))
  refine nSc Tryz.results67 ?_
  refine⟨_,_,?_,rfl⟩
  (try simp +decide -implicitDefEqProofs only[go_sem,List.length_map,List.length_append,List.length_cons,List.length_nil,List.length_set,List.length_replicate]);try rfl
 obtain⟨v,rest,rfl,rfl⟩:=hq
 exact⟨[.row v 1 (s_.map A2)],⟨⟨rfl,rfl,rfl⟩,by cases rest<;>trivial⟩,rfl,rfl,⟨v,rfl,rfl⟩⟩
theorem Qs (s_:List Int) {r:List Int} (h:B8 s_=some r):Bo Tryz.prog 67 [.sl 1 (s_.map A2)] (·= .sl 1 (r.map A2)):=Bo.nle (Ch.fresh (Ch.mono (Ew s_ h) fun q H=>by rintro⟨rfl,rfl⟩;simp +decide -implicitDefEqProofs only[go_sem,Dg,Ac.int.injEq,Int.natCast_zero,List.replicate_zero,List.length_take,List.length_drop,Ac.own.injEq,reduceCtorEq,Int.reduceAdd,Ru,Rv,Om,Rt,Ol,List.length_map]))
theorem Da (s_:List Int) {r:List Int} (h:B8 s_=some r):Ad Tryz.prog 67 [.sl 1 (s_.map A2)] (·= .sl 1 (r.map A2)):=(Qs s_ h).pure
def Bz (l:List Aq):List (Int×List Int):=l.foldl (fun g e=>gadd g e.From e.To) []
theorem P1 (l:List Aq):∀ n,n≤l.length→∀ p∈Bz (l.take n),1≤p.2.length∧p.2.length≤n:=by
 intro n
 induction n with
 | zero=>intro _ p hp;simp[Bz]at hp
 | succ n ih=>
  intro h
  have hx:l[n]? =some l[n]:=Ai3 (by omega)
  have e:Bz (l.take (n+1))=gadd (Bz (l.take n)) l[n].From l[n].To:=by
   unfold Bz;rw[List.take_add_one,hx,List.foldl_append];rfl
  rw[e]
  exact wO (ih (by omega)) _ _
theorem Oq {l:List Aq} {k:Nat} {e:Aq} (h:l[k]? =some e):Bz (l.take (k+1))=gadd (Bz (l.take k)) e.From e.To:=by
 unfold Bz;rw[List.take_add_one,h,List.foldl_append];rfl
def Eh (l:List Aq) (sv:(List (Int×Bool))×(List Int)):Option (Out ((List (Int×Bool))×(List Int)) ((List Int))):=
 (bif (decide (0<((sv.2.length:Nat):Int)))then (Dk sv.2 (IntKind.i64.wrap (((sv.2.length:Nat):Int) - 1))).bind fun x_6=>okB (decide (0≤(IntKind.i64.wrap (((sv.2.length:Nat):Int) - 1))∧(IntKind.i64.wrap (((sv.2.length:Nat):Int) - 1))≤((sv.2.length:Nat):Int))) ((bif (!(mget false sv.1 x_6))then chk ((IntKind.i64.wrap (((sv.2.length:Nat):Int) - 1)).toNat+(mget [] (Bz l) x_6).length) (some (Out.next ((mset sv.1 x_6 true),((sv.2.take (IntKind.i64.wrap (((sv.2.length:Nat):Int) - 1)).toNat)++(mget [] (Bz l) x_6)))))else some (Out.next (sv.1,(sv.2.take (IntKind.i64.wrap (((sv.2.length:Nat):Int) - 1)).toNat)))))else (okB (decide (∀ k∈mkeys sv.1, -9223372036854775808≤k∧k≤9223372036854775807)) (chk sv.1.length (some (Dc (mkeys sv.1))))).bind fun q6=>some (Out.ret q6))
def E7 (l:List Aq) (from_:List Int):Option ((List Int)):=
 chk l.length ((B8 from_).bind fun y1=>(Ea (Eh l) fuel ([],y1)).bind fun o4=>o4.on fun _=>none)
theorem r5 (l:List Aq) (from_:List Int) {r:(List Int)} (h:E7 l from_=some r):Bo Tryz.prog 266 [.sl 4 (l.map Bg),.sl 1 (from_.map A2)] (·= .sl 1 (r.map A2)):=by
 refine Bo.nle (Bo.intro Tryz.func266 rfl rfl (by show _≤61;simp) ?_)
 unfold E7 at h
 refine nS (sq ?_)
 refine ar rfl (qn (sq ?_))
 refine ar rfl (qn (sq (sq ?_)))
 refine rg rfl fun K j=>?_
 intro hm
 refine j _ _ (qn ?_)
 obtain⟨hl,h⟩:=B4 h
 refine bk ?_
 refine AWP.nI (ι:=Nat×List (Int×List Int)) (fun zz=>[(0,.sl 4 (l.map Bg)),(1,.sl 1 (from_.map A2)),(5,.map 0),(12,.sl 4 (l.map Bg)),(13,.int .i64 ((l.length:Nat):Int)),(14,.int .i64 ((zz.1:Nat):Int))]) (fun zz=>.mpo false (gE 1 zz.2)::gR zz.2) (fun zz=>zz.1≤l.length∧zz.2=Bz (l.take zz.1)) (fun zz=>l.length - zz.1) (0,[]) ⟨Nat.zero_le _,rfl⟩
  (by(simp (implicitDefEqProofs:=false) (decide:=true) only[go_sem,Nat.reduceAdd,Nat.reduceMul,Nat.reduceSub,Int.reduceToNat,Dg,Int.natCast_zero,List.replicate_zero,List.length_take,List.length_drop,Ac.own.injEq,reduceCtorEq,Int.reduceAdd]<;>omega)) (by exact⟨⟨rfl,rfl⟩,trivial⟩)
  (fun zz=>⟨by simp[Mh,Ac.O6,Ac.V4,Ac.Xd,Ac.Yo],w8 zz.2 (by rw[List.length_cons,Wz];omega),rfl⟩) ?_
 rintro⟨k,g⟩ ⟨hk,hg⟩
 dsimp only at hk hg ⊢
 refine sq (ar rfl (qn (sq ?_)))
 refine AWP.cond (Ak (fun hc=>?_) (fun hc=>?_))
 ·have hlt:k<l.length:=by have:=Ai0 hc;omega
  have hx0:l[k]? =some l[k]:=Ai3 hlt
  have hx:=X3 hlt
  generalize l[k]=e at hx hx0
  have hw:IntKind.i64.wrap (((k:Nat):Int)+1)=(((k+1:Nat)):Int):=Q1 (by omega)
  refine sk (qn (sq (bk (sq ?_))))
  refine rg rfl fun K j=>?_
  refine Bn.of (f:=Bg) (l:=l) hx ?_
  (try simp +decide -implicitDefEqProofs only[go_sem])
  (try simp (implicitDefEqProofs:=false) (decide:=true) only[go_sem,Nat.reduceAdd,Nat.reduceMul,Nat.reduceSub,Int.reduceToNat,apN,ga0,ga1,ga2,sa0,sa1,sa2,List.drop_succ_cons,List.drop_zero,List.headD_cons])
  refine j _ _ (qn ?_)
  have hne1:((gR g).length+1+1=(gR g).length+3+1)=False:=by simp
  have hne2:((gR g).length+1+1+1=(gR g).length+3+1)=False:=by simp
  have hne3:((gR g).length+1+1=(gR g).length+1+1+1+1)=False:=by simp
  have hne4:((gR g).length+1+1+1=(gR g).length+1+1+1+1)=False:=by simp
  have hinv:=P1 l k hk
  rw[← hg]at hinv
  have hnext:=Oq hx0
  rw[← hg]at hnext
  refine AWP.draw Tryz.mixed (by kernel_rfl) ?_;intro K j
  (try simp (implicitDefEqProofs:=false) (decide:=true) only[go_sem,Nat.reduceAdd,Nat.reduceMul,Nat.reduceSub,Int.reduceToNat,apN,ga0,ga1,ga2,sa0,sa1,sa2,List.drop_succ_cons,List.drop_zero,List.headD_cons])
  refine D1.mk' (fun v hv=>?_) (fun hn=>?_)
  ·obtain⟨i,xs,hi,hv2,hget,haset,hgset⟩:=iH g 1 e.From v hv
   have hil:i<(gR g).length:=by rw[Wz];exact(List.getElem?_eq_some_iff.1 hi).1
   have hrow:∀ (B:List Ar),(gR g++B)[i]? =some (.row (xs.length - 1) 1 (xs.map A2)):=fun B=>by
    rw[List.getElem?_append_left hil];unfold gR;rw[List.getElem?_map,hi];rfl
   have hset:∀ (x:Ar) (B:List Ar),(gR g++B).set i x=(gR g).set i x++B:=fun x B=>List.set_append_left _ _ hil
   have hxs:=hinv _ (Ai4 hi)
   subst hv2
   clear hv
   (try simp (implicitDefEqProofs:=false) (decide:=true) only[go_sem,Nat.reduceAdd,Nat.reduceMul,Nat.reduceSub,Int.reduceToNat,apN,ga0,ga1,ga2,sa0,sa1,sa2,List.drop_succ_cons,List.drop_zero,List.headD_cons,hne1,hne2,hne3,hne4])
   (try simp only[hrow])
   (try simp (implicitDefEqProofs:=false) (decide:=true) only[go_sem,Nat.reduceAdd,Nat.reduceMul,Nat.reduceSub,Int.reduceToNat,apN,ga0,ga1,ga2,sa0,sa1,sa2,List.drop_succ_cons,List.drop_zero,List.headD_cons,hne1,hne2,hne3,hne4])
   refine⟨by simp only at hxs;omega,by simp only at hxs;omega,?_⟩
   refine j _ _ _ (X0 (fun n=>if n=0 then 0 else if n=1 then(gR g).length+1 else if n=2 then(gR g).length+1+1 else if n=3 then(gR g).length+1+1+1 else i+1) 5
    [(11,[0],true),(10,[3,4,2],true),(9,[2],true),(8,[1],false),(6,[0],false),(5,[1],false),(2,[1],false)] (by kernel_rfl) (fun a b ha hb=>?_) (by kernel_rfl)) ?_
   ·have ha':a=0∨a=1∨a=2∨a=3∨a=4:=by omega
    have hb':b=0∨b=1∨b=2∨b=3∨b=4:=by omega
    rcases ha' with rfl | rfl | rfl | rfl | rfl<;>rcases hb' with rfl | rfl | rfl | rfl | rfl<;>simp<;>omega
   clear j K
   refine bn (qn (ar rfl (qn ?_)))
   have hlx:(xs++[e.To]).length=xs.length+1:=by simp
   have hl1:xs.length - 1+1=xs.length+1 - 1:=by simp only at hxs;omega
   have e1:=haset (xs++[e.To])
   have e2:=hgset (xs++[e.To])
   rw[hlx]at e1 e2
   refine⟨(k+1,gadd g e.From e.To),⟨by dsimp only;omega,hnext.symm⟩,by dsimp only;omega,_,_,Sub.refl',?_,?_⟩
   ·(simp (implicitDefEqProofs:=false) (decide:=true) only[go_sem,Nat.reduceAdd,Nat.reduceMul,Nat.reduceSub,Int.reduceToNat,Dg,Int.natCast_zero,List.replicate_zero,List.length_take,List.length_drop,Ac.own.injEq,reduceCtorEq,Int.reduceAdd,hw]<;>omega)
   rw[hset,hl1,e1,e2]
   unfold gadd
   rw[hget]
   exact kX _ _
  (try simp (implicitDefEqProofs:=false) (decide:=true) only[go_sem,Nat.reduceAdd,Nat.reduceMul,Nat.reduceSub,Int.reduceToNat,apN,ga0,ga1,ga2,sa0,sa1,sa2,List.drop_succ_cons,List.drop_zero,List.headD_cons,hne1,hne2,hne3,hne4])
  refine j _ _ _ (X0 (fun n=>if n=0 then 0 else if n=1 then(gR g).length+1 else if n=2 then(gR g).length+1+1 else(gR g).length+1+1+1) 4
   [(11,[0],true),(10,[3,2],true),(9,[2],true),(8,[1],false),(6,[0],false),(5,[1],false),(2,[1],false)] (by kernel_rfl) (fun a b ha hb=>?_) (by kernel_rfl)) ?_
  ·have ha':a=0∨a=1∨a=2∨a=3:=by omega
   have hb':b=0∨b=1∨b=2∨b=3:=by omega
   rcases ha' with rfl | rfl | rfl | rfl<;>rcases hb' with rfl | rfl | rfl | rfl<;>simp<;>omega
  clear j K
  refine bn (qn (ar rfl (qn ?_)))
  obtain⟨hget,haset,hmset⟩:=Tw g 1 e.From hn
  have hgd:gadd g e.From e.To=g++[(e.From,[e.To])]:=by unfold gadd;rw[hget,hmset];rfl
  have hm1:(Ar.mpo false (aset (gE 1 g) e.From (Ac.own ((gR g).length+1+1+1) 0 0 1))::(gR g++[Ar.box [Ac.int IntKind.i64 e.ID,Ac.int IntKind.i64 e.From,Ac.int IntKind.i64 e.To,Ac.int IntKind.i64 e.Cost],Ar.row 0 1 [[Ac.int IntKind.i64 e.To]],Ar.row 0 1 [[Ac.int IntKind.i64 e.To]]]))[(gR g).length+1]? =some (Ar.box [Ac.int IntKind.i64 e.ID,Ac.int IntKind.i64 e.From,Ac.int IntKind.i64 e.To,Ac.int IntKind.i64 e.Cost]):=by
   rw[List.getElem?_cons_succ];exact ga0 _ _ _
  have hm3:(Ar.mpo false (aset (gE 1 g) e.From (Ac.own ((gR g).length+1+1+1) 0 0 1))::(gR g++[Ar.box [Ac.int IntKind.i64 e.ID,Ac.int IntKind.i64 e.From,Ac.int IntKind.i64 e.To,Ac.int IntKind.i64 e.Cost],Ar.row 0 1 [[Ac.int IntKind.i64 e.To]],Ar.row 0 1 [[Ac.int IntKind.i64 e.To]]]))[(gR g).length+1+1+1]? =some (Ar.row 0 1 [[Ac.int IntKind.i64 e.To]]):=by
   rw[List.getElem?_cons_succ];exact ga2 _ _ _ _ _
  refine⟨(k+1,gadd g e.From e.To),⟨by dsimp only;omega,hnext.symm⟩,by dsimp only;omega,_,_,Sub.swap ((gR g).length+1) ((gR g).length+1+1+1) hm1 hm3 rfl,?_,?_⟩
  ·(simp (implicitDefEqProofs:=false) (decide:=true) only[go_sem,Nat.reduceAdd,Nat.reduceMul,Nat.reduceSub,Int.reduceToNat,Dg,Int.natCast_zero,List.replicate_zero,List.length_take,List.length_drop,Ac.own.injEq,reduceCtorEq,Int.reduceAdd,hw]<;>omega)
  have hsw:swp ((gR g).length+1) ((gR g).length+1+1+1) ((gR g).length+1+1+1)=(gR g).length+1:=by unfold swp;rw[if_neg (by omega),if_pos rfl]
  have hre:Sd (swp ((gR g).length+1) ((gR g).length+1+1+1)) (gE 1 g)=gE 1 g:=lB g 1 fun i h1 h2=>by
   rw[← Wz]at h2
   unfold swp;rw[if_neg (by omega),if_neg (by omega)]
  unfold Vu
  simp only[Uu,bI,fR,lA,haset,fS,hre,Sd,ren,hsw,List.set_cons_succ,sa0,sa2,rens]
  rw[hgd,qO,Wz]
  have:gR (g++[(e.From,[e.To])])=gR g++[Ar.row 0 1 [[Ac.int IntKind.i64 e.To]]]:=by simp[gR,A2]
  refine⟨?_,?_⟩
  ·exact⟨rfl,rfl⟩
  rw[this]
  have:=Z2 (gR g++[Ar.row 0 1 [[Ac.int IntKind.i64 e.To]]]) [Ar.row 0 1 [[Ac.int IntKind.i64 e.To]],Ar.box [Ac.int IntKind.i64 e.ID,Ac.int IntKind.i64 e.From,Ac.int IntKind.i64 e.To,Ac.int IntKind.i64 e.Cost]] (by
   intro o ho
   rcases List.mem_append.1 ho with ho | ho
   ·exact Zk g o ho
   ·simp at ho;subst ho;simp)
  rw[apN]at this
  exact this
 have hkl:k=l.length:=by have:=Aiz hc;omega
 subst hkl
 rw[List.take_length]at hg
 refine xt (qe (qe (bs (qn ?_))))
 refine AWP.sub (Sub.weak (fr':=[(1,.sl 1 (from_.map A2)),(5,.map 0)]) (H':=.mpo false (gE 1 g)::gR g) (kX g [] |> fun h=>by rwa [List.append_nil]at h) (by(simp (implicitDefEqProofs:=false) (decide:=true) only[go_sem,Nat.reduceAdd,Nat.reduceMul,Nat.reduceSub,Int.reduceToNat,Dg,Int.natCast_zero,List.replicate_zero,List.length_take,List.length_drop,Ac.own.injEq,reduceCtorEq,Int.reduceAdd]<;>omega)) (.inl rfl)) ?_
 refine AWP.sub (Sub.groups (fun _ _ _ _=>rfl) (by(simp (implicitDefEqProofs:=false) (decide:=true) only[go_sem,Nat.reduceAdd,Nat.reduceMul,Nat.reduceSub,Int.reduceToNat,Dg,Int.natCast_zero,List.replicate_zero,List.length_take,List.length_drop,Ac.own.injEq,reduceCtorEq,Int.reduceAdd]<;>omega)) rfl rfl g) ?_
 subst hg
 refine sq (ar rfl (qn (sq ?_)))
 refine rg rfl fun K j=>?_
 obtain⟨y1,hy1,h⟩:=Af h
 refine An.row Tryz.call67 (Ew from_ hy1) rfl 2 rfl ?_
 (try simp +decide -implicitDefEqProofs only[go_sem,List.length_map])
 refine j _ _ (qn (sq (bk ?_)))
 obtain⟨o4,hJ4,hO4⟩:=Af h
 clear h
 refine AWP.Bw (ι:=Nat×((List (Int×Bool))×(List Int))×(Nat)) (fun zz=>[(5,.map 0),(8,.map 1),(9,.own 2 zz.2.2 0 zz.2.1.2.length)]) (fun zz=>[.mp (mpE D4 (Bz l)),.mp (mpE Yy zz.2.1.1),.row zz.2.2 1 (zz.2.1.2.map A2)]) (fun zz=>Ea (Eh l) zz.1 zz.2.1=some o4) (fun zz=>zz.1) (fuel,([],y1),0) hJ4 cu cu (fun x=>⟨rfl,rfl,rfl⟩) ?_
 clear hJ4
 rintro⟨n4,⟨reached2,open_3⟩,ver4⟩ hJ4
 dsimp only at hJ4 ⊢
 obtain⟨m4,b4,rfl,h,hJ4⟩:=J4 hJ4
 unfold Eh at h;try dsimp only at h
 refine sq (sq ?_)
 refine rg rfl fun K j=>?_
 intro hm
 refine j _ _ (qn ?_)
 revert h;refine ca rfl (fun hc h=>?_) fun hc h=>?_
 rotate_left
 ·refine xt (qe (qe ?_))
  obtain⟨q6,hq,h⟩:=Af h
  obtain rfl:=Aa h
  obtain rfl:=Ae hJ4
  replace h:=hq.trans (Al hO4)
  refine bs (qn (sq ?_))
  refine rg rfl fun K j=>?_
  refine An.Uk Tryz.call282 Tryz.keys282 rfl ?_
  refine nS ?_
  obtain⟨hk0,h⟩:=Jm h
  obtain⟨hk,h⟩:=B4 h
  refine An.dM Tryz.call281 Tryz.sortedKeys281 rfl rfl hk0 hk ?_
  refine nS ?_
  refine j _ _ (qn (rt ?_))
  cases h;exact en Tryz.results266
 refine sk (qn (bk (sq ?_)))
 refine rg rfl fun K j=>?_
 intro hm
 obtain⟨x_6,hx_6,h⟩:=Af h
 refine Kw hx_6 (by first | rfl | exact(Cl _).symm | (simp only[List.length_append,List.length_cons,List.length_nil,List.length_set,List.length_replicate]<;>omega)) ?_
 refine nS ?_
 refine De.of (f:=A2) (l:=open_3) (n:=(IntKind.i64.wrap (((open_3.length:Nat):Int) - 1))) hx_6 ?_
 refine nS ?_
 refine j _ _ (qn (sq ?_))
 refine rg rfl fun K j=>?_
 intro hm
 obtain⟨hk,h⟩:=Jm h
 (repeat(refine⟨by omega,?_⟩))
 refine j _ _ (qn ?_)
 refine AWP.sub (Sub.window 9 rfl rfl) ?_
 refine nS (sq ?_)
 refine rg rfl fun K j=>?_
 refine D1.of (f:=Yy) (m:=reached2) (d:=false) rfl ?_
 refine nS ?_
 refine j _ _ (qn ?_)
 revert h;refine ca rfl (fun hc h=>?_) fun hc h=>?_
 ·refine sq (ar rfl (qn ?_))
  refine rg rfl fun K j=>?_
  refine D1.of (f:=D4) (m:=(Bz l)) (d:=[]) rfl ?_
  refine nS ?_
  obtain⟨hk,h⟩:=B4 h
  (repeat refine rp ?_);try simp +decide -implicitDefEqProofs only[go_sem]
  refine j _ _ (bn (qn ?_))
  obtain rfl:=Aa h
  refine⟨(m4,((mset reached2 x_6 true),((open_3.take (IntKind.i64.wrap (((open_3.length:Nat):Int) - 1)).toNat)++(mget [] (Bz l) x_6))),((ver4+1)+1)),Ai hJ4,by dsimp only;omega,?_,?_⟩
  ·exact cu
  exact cu
 refine sk (bn (qn ?_))
 obtain rfl:=Aa h
 refine⟨(m4,(reached2,(open_3.take (IntKind.i64.wrap (((open_3.length:Nat):Int) - 1)).toNat)),(ver4+1)),Ai hJ4,by dsimp only;omega,?_,?_⟩
 ·exact cu
 exact cu
theorem Qg (l:List Aq) (from_:List Int) {r:(List Int)} (h:E7 l from_=some r):Db Tryz.prog 266 [.sl 4 (l.map Bg),.sl 1 (from_.map A2)] 1 (r.map A2):=by
 refine Db.of ?_
 refine Ch.weak (R:=fun q H=>∃ v0 rest,q= .own 0 v0 0 (r.map A2).length∧H= .row v0 1 (r.map A2)::rest) (Ch.intro Tryz.func266 rfl rfl (by show _≤61;simp) ?_) (fun q H hq=>?_)
 ·unfold E7 at h
  refine nS (sq ?_)
  refine ar rfl (qn (sq ?_))
  refine ar rfl (qn (sq (sq ?_)))
  refine rg rfl fun K j=>?_
  intro hm
  refine j _ _ (qn ?_)
  obtain⟨hl,h⟩:=B4 h
  refine bk ?_
  refine AWP.nI (ι:=Nat×List (Int×List Int)) (fun zz=>[(0,.sl 4 (l.map Bg)),(1,.sl 1 (from_.map A2)),(5,.map 0),(12,.sl 4 (l.map Bg)),(13,.int .i64 ((l.length:Nat):Int)),(14,.int .i64 ((zz.1:Nat):Int))]) (fun zz=>.mpo false (gE 1 zz.2)::gR zz.2) (fun zz=>zz.1≤l.length∧zz.2=Bz (l.take zz.1)) (fun zz=>l.length - zz.1) (0,[]) ⟨Nat.zero_le _,rfl⟩
   (by(simp (implicitDefEqProofs:=false) (decide:=true) only[go_sem,Nat.reduceAdd,Nat.reduceMul,Nat.reduceSub,Int.reduceToNat,Dg,Int.natCast_zero,List.replicate_zero,List.length_take,List.length_drop,Ac.own.injEq,reduceCtorEq,Int.reduceAdd]<;>omega)) (by exact⟨⟨rfl,rfl⟩,trivial⟩)
   (fun zz=>⟨by simp[Mh,Ac.O6,Ac.V4,Ac.Xd,Ac.Yo],w8 zz.2 (by rw[List.length_cons,Wz];omega),rfl⟩) ?_
  rintro⟨k,g⟩ ⟨hk,hg⟩
  dsimp only at hk hg ⊢
  refine sq (ar rfl (qn (sq ?_)))
  refine AWP.cond (Ak (fun hc=>?_) (fun hc=>?_))
  ·have hlt:k<l.length:=by have:=Ai0 hc;omega
   have hx0:l[k]? =some l[k]:=Ai3 hlt
   have hx:=X3 hlt
   generalize l[k]=e at hx hx0
   have hw:IntKind.i64.wrap (((k:Nat):Int)+1)=(((k+1:Nat)):Int):=Q1 (by omega)
   refine sk (qn (sq (bk (sq ?_))))
   refine rg rfl fun K j=>?_
   refine Bn.of (f:=Bg) (l:=l) hx ?_
   (try simp +decide -implicitDefEqProofs only[go_sem])
   (try simp (implicitDefEqProofs:=false) (decide:=true) only[go_sem,Nat.reduceAdd,Nat.reduceMul,Nat.reduceSub,Int.reduceToNat,apN,ga0,ga1,ga2,sa0,sa1,sa2,List.drop_succ_cons,List.drop_zero,List.headD_cons])
   refine j _ _ (qn ?_)
   have hne1:((gR g).length+1+1=(gR g).length+3+1)=False:=by simp
   have hne2:((gR g).length+1+1+1=(gR g).length+3+1)=False:=by simp
   have hne3:((gR g).length+1+1=(gR g).length+1+1+1+1)=False:=by simp
   have hne4:((gR g).length+1+1+1=(gR g).length+1+1+1+1)=False:=by simp
   have hinv:=P1 l k hk
   rw[← hg]at hinv
   have hnext:=Oq hx0
   rw[← hg]at hnext
   refine AWP.draw Tryz.mixed (by kernel_rfl) ?_;intro K j
   (try simp (implicitDefEqProofs:=false) (decide:=true) only[go_sem,Nat.reduceAdd,Nat.reduceMul,Nat.reduceSub,Int.reduceToNat,apN,ga0,ga1,ga2,sa0,sa1,sa2,List.drop_succ_cons,List.drop_zero,List.headD_cons])
   refine D1.mk' (fun v hv=>?_) (fun hn=>?_)
   ·obtain⟨i,xs,hi,hv2,hget,haset,hgset⟩:=iH g 1 e.From v hv
    have hil:i<(gR g).length:=by rw[Wz];exact(List.getElem?_eq_some_iff.1 hi).1
    have hrow:∀ (B:List Ar),(gR g++B)[i]? =some (.row (xs.length - 1) 1 (xs.map A2)):=fun B=>by
     rw[List.getElem?_append_left hil];unfold gR;rw[List.getElem?_map,hi];rfl
    have hset:∀ (x:Ar) (B:List Ar),(gR g++B).set i x=(gR g).set i x++B:=fun x B=>List.set_append_left _ _ hil
    have hxs:=hinv _ (Ai4 hi)
    subst hv2
    clear hv
    (try simp (implicitDefEqProofs:=false) (decide:=true) only[go_sem,Nat.reduceAdd,Nat.reduceMul,Nat.reduceSub,Int.reduceToNat,apN,ga0,ga1,ga2,sa0,sa1,sa2,List.drop_succ_cons,List.drop_zero,List.headD_cons,hne1,hne2,hne3,hne4])
    (try simp only[hrow])
    (try simp (implicitDefEqProofs:=false) (decide:=true) only[go_sem,Nat.reduceAdd,Nat.reduceMul,Nat.reduceSub,Int.reduceToNat,apN,ga0,ga1,ga2,sa0,sa1,sa2,List.drop_succ_cons,List.drop_zero,List.headD_cons,hne1,hne2,hne3,hne4])
    refine⟨by simp only at hxs;omega,by simp only at hxs;omega,?_⟩
    refine j _ _ _ (X0 (fun n=>if n=0 then 0 else if n=1 then(gR g).length+1 else if n=2 then(gR g).length+1+1 else if n=3 then(gR g).length+1+1+1 else i+1) 5
     [(11,[0],true),(10,[3,4,2],true),(9,[2],true),(8,[1],false),(6,[0],false),(5,[1],false),(2,[1],false)] (by kernel_rfl) (fun a b ha hb=>?_) (by kernel_rfl)) ?_
    ·have ha':a=0∨a=1∨a=2∨a=3∨a=4:=by omega
     have hb':b=0∨b=1∨b=2∨b=3∨b=4:=by omega
     rcases ha' with rfl | rfl | rfl | rfl | rfl<;>rcases hb' with rfl | rfl | rfl | rfl | rfl<;>simp<;>omega
    clear j K
    refine bn (qn (ar rfl (qn ?_)))
    have hlx:(xs++[e.To]).length=xs.length+1:=by simp
    have hl1:xs.length - 1+1=xs.length+1 - 1:=by simp only at hxs;omega
    have e1:=haset (xs++[e.To])
    have e2:=hgset (xs++[e.To])
    rw[hlx]at e1 e2
    refine⟨(k+1,gadd g e.From e.To),⟨by dsimp only;omega,hnext.symm⟩,by dsimp only;omega,_,_,Sub.refl',?_,?_⟩
    ·(simp (implicitDefEqProofs:=false) (decide:=true) only[go_sem,Nat.reduceAdd,Nat.reduceMul,Nat.reduceSub,Int.reduceToNat,Dg,Int.natCast_zero,List.replicate_zero,List.length_take,List.length_drop,Ac.own.injEq,reduceCtorEq,Int.reduceAdd,hw]<;>omega)
    rw[hset,hl1,e1,e2]
    unfold gadd
    rw[hget]
    exact kX _ _
   (try simp (implicitDefEqProofs:=false) (decide:=true) only[go_sem,Nat.reduceAdd,Nat.reduceMul,Nat.reduceSub,Int.reduceToNat,apN,ga0,ga1,ga2,sa0,sa1,sa2,List.drop_succ_cons,List.drop_zero,List.headD_cons,hne1,hne2,hne3,hne4])
   refine j _ _ _ (X0 (fun n=>if n=0 then 0 else if n=1 then(gR g).length+1 else if n=2 then(gR g).length+1+1 else(gR g).length+1+1+1) 4
    [(11,[0],true),(10,[3,2],true),(9,[2],true),(8,[1],false),(6,[0],false),(5,[1],false),(2,[1],false)] (by kernel_rfl) (fun a b ha hb=>?_) (by kernel_rfl)) ?_
   ·have ha':a=0∨a=1∨a=2∨a=3:=by omega
    have hb':b=0∨b=1∨b=2∨b=3:=by omega
    rcases ha' with rfl | rfl | rfl | rfl<;>rcases hb' with rfl | rfl | rfl | rfl<;>simp<;>omega
   clear j K
   refine bn (qn (ar rfl (qn ?_)))
   obtain⟨hget,haset,hmset⟩:=Tw g 1 e.From hn
   have hgd:gadd g e.From e.To=g++[(e.From,[e.To])]:=by unfold gadd;rw[hget,hmset];rfl
   have hm1:(Ar.mpo false (aset (gE 1 g) e.From (Ac.own ((gR g).length+1+1+1) 0 0 1))::(gR g++[Ar.box [Ac.int IntKind.i64 e.ID,Ac.int IntKind.i64 e.From,Ac.int IntKind.i64 e.To,Ac.int IntKind.i64 e.Cost],Ar.row 0 1 [[Ac.int IntKind.i64 e.To]],Ar.row 0 1 [[Ac.int IntKind.i64 e.To]]]))[(gR g).length+1]? =some (Ar.box [Ac.int IntKind.i64 e.ID,Ac.int IntKind.i64 e.From,Ac.int IntKind.i64 e.To,Ac.int IntKind.i64 e.Cost]):=by
    rw[List.getElem?_cons_succ];exact ga0 _ _ _
   have hm3:(Ar.mpo false (aset (gE 1 g) e.From (Ac.own ((gR g).length+1+1+1) 0 0 1))::(gR g++[Ar.box [Ac.int IntKind.i64 e.ID,Ac.int IntKind.i64 e.From,Ac.int IntKind.i64 e.To,Ac.int IntKind.i64 e.Cost],Ar.row 0 1 [[Ac.int IntKind.i64 e.To]],Ar.row 0 1 [[Ac.int IntKind.i64 e.To]]]))[(gR g).length+1+1+1]? =some (Ar.row 0 1 [[Ac.int IntKind.i64 e.To]]):=by
    rw[List.getElem?_cons_succ];exact ga2 _ _ _ _ _
   refine⟨(k+1,gadd g e.From e.To),⟨by dsimp only;omega,hnext.symm⟩,by dsimp only;omega,_,_,Sub.swap ((gR g).length+1) ((gR g).length+1+1+1) hm1 hm3 rfl,?_,?_⟩
   ·(simp (implicitDefEqProofs:=false) (decide:=true) only[go_sem,Nat.reduceAdd,Nat.reduceMul,Nat.reduceSub,Int.reduceToNat,Dg,Int.natCast_zero,List.replicate_zero,List.length_take,List.length_drop,Ac.own.injEq,reduceCtorEq,Int.reduceAdd,hw]<;>omega)
   have hsw:swp ((gR g).length+1) ((gR g).length+1+1+1) ((gR g).length+1+1+1)=(gR g).length+1:=by unfold swp;rw[if_neg (by omega),if_pos rfl]
   have hre:Sd (swp ((gR g).length+1) ((gR g).length+1+1+1)) (gE 1 g)=gE 1 g:=lB g 1 fun i h1 h2=>by
    rw[← Wz]at h2
    unfold swp;rw[if_neg (by omega),if_neg (by omega)]
   unfold Vu
   simp only[Uu,bI,fR,lA,haset,fS,hre,Sd,ren,hsw,List.set_cons_succ,sa0,sa2,rens]
   rw[hgd,qO,Wz]
   have:gR (g++[(e.From,[e.To])])=gR g++[Ar.row 0 1 [[Ac.int IntKind.i64 e.To]]]:=by simp[gR,A2]
   refine⟨?_,?_⟩
   ·exact⟨rfl,rfl⟩
   rw[this]
   have:=Z2 (gR g++[Ar.row 0 1 [[Ac.int IntKind.i64 e.To]]]) [Ar.row 0 1 [[Ac.int IntKind.i64 e.To]],Ar.box [Ac.int IntKind.i64 e.ID,Ac.int IntKind.i64 e.From,Ac.int IntKind.i64 e.To,Ac.int IntKind.i64 e.Cost]] (by
    intro o ho
    rcases List.mem_append.1 ho with ho | ho
    ·exact Zk g o ho
    ·simp at ho;subst ho;simp)
   rw[apN]at this
   exact this
  have hkl:k=l.length:=by have:=Aiz hc;omega
  subst hkl
  rw[List.take_length]at hg
  refine xt (qe (qe (bs (qn ?_))))
  refine AWP.sub (Sub.weak (fr':=[(1,.sl 1 (from_.map A2)),(5,.map 0)]) (H':=.mpo false (gE 1 g)::gR g) (kX g [] |> fun h=>by rwa [List.append_nil]at h) (by(simp (implicitDefEqProofs:=false) (decide:=true) only[go_sem,Nat.reduceAdd,Nat.reduceMul,Nat.reduceSub,Int.reduceToNat,Dg,Int.natCast_zero,List.replicate_zero,List.length_take,List.length_drop,Ac.own.injEq,reduceCtorEq,Int.reduceAdd]<;>omega)) (.inl rfl)) ?_
  refine AWP.sub (Sub.groups (fun _ _ _ _=>rfl) (by(simp (implicitDefEqProofs:=false) (decide:=true) only[go_sem,Nat.reduceAdd,Nat.reduceMul,Nat.reduceSub,Int.reduceToNat,Dg,Int.natCast_zero,List.replicate_zero,List.length_take,List.length_drop,Ac.own.injEq,reduceCtorEq,Int.reduceAdd]<;>omega)) rfl rfl g) ?_
  subst hg
  refine sq (ar rfl (qn (sq ?_)))
  refine rg rfl fun K j=>?_
  obtain⟨y1,hy1,h⟩:=Af h
  refine An.row Tryz.call67 (Ew from_ hy1) rfl 2 rfl ?_
  (try simp +decide -implicitDefEqProofs only[go_sem,List.length_map])
  refine j _ _ (qn (sq (bk ?_)))
  obtain⟨o4,hJ4,hO4⟩:=Af h
  clear h
  refine AWP.Bw (ι:=Nat×((List (Int×Bool))×(List Int))×(Nat)) (fun zz=>[(5,.map 0),(8,.map 1),(9,.own 2 zz.2.2 0 zz.2.1.2.length)]) (fun zz=>[.mp (mpE D4 (Bz l)),.mp (mpE Yy zz.2.1.1),.row zz.2.2 1 (zz.2.1.2.map A2)]) (fun zz=>Ea (Eh l) zz.1 zz.2.1=some o4) (fun zz=>zz.1) (fuel,([],y1),0) hJ4 cu cu (fun x=>⟨rfl,rfl,rfl⟩) ?_
  clear hJ4
  rintro⟨n4,⟨reached2,open_3⟩,ver4⟩ hJ4
  dsimp only at hJ4 ⊢
  obtain⟨m4,b4,rfl,h,hJ4⟩:=J4 hJ4
  unfold Eh at h;try dsimp only at h
  refine sq (sq ?_)
  refine rg rfl fun K j=>?_
  intro hm
  refine j _ _ (qn ?_)
  revert h;refine ca rfl (fun hc h=>?_) fun hc h=>?_
  rotate_left
  ·refine xt (qe (qe ?_))
   obtain⟨q6,hq,h⟩:=Af h
   obtain rfl:=Aa h
   obtain rfl:=Ae hJ4
   replace h:=hq.trans (Al hO4)
   refine bs (qn (sq ?_))
   refine rg rfl fun K j=>?_
   refine An.Uk Tryz.call282 Tryz.keys282 rfl ?_
   refine nS ?_
   obtain⟨hk0,h⟩:=Jm h
   obtain⟨hk,h⟩:=B4 h
   refine An.dM Tryz.call281 Tryz.sortedKeys281 rfl rfl hk0 hk ?_
   refine nS ?_
   refine j _ _ (qn ?_)
   refine AWP.sub (Sub.swap 4 0 rfl rfl rfl) ?_
   refine nS (rt ?_)
   obtain rfl:=Aa h
   refine nSc Tryz.results266 ?_
   refine⟨_,_,?_,rfl⟩
   (try simp +decide -implicitDefEqProofs only[go_sem,List.length_map,List.length_append,List.length_cons,List.length_nil,List.length_set,List.length_replicate]);try rfl
  refine sk (qn (bk (sq ?_)))
  refine rg rfl fun K j=>?_
  intro hm
  obtain⟨x_6,hx_6,h⟩:=Af h
  refine Kw hx_6 (by first | rfl | exact(Cl _).symm | (simp only[List.length_append,List.length_cons,List.length_nil,List.length_set,List.length_replicate]<;>omega)) ?_
  refine nS ?_
  refine De.of (f:=A2) (l:=open_3) (n:=(IntKind.i64.wrap (((open_3.length:Nat):Int) - 1))) hx_6 ?_
  refine nS ?_
  refine j _ _ (qn (sq ?_))
  refine rg rfl fun K j=>?_
  intro hm
  obtain⟨hk,h⟩:=Jm h
  (repeat(refine⟨by omega,?_⟩))
  refine j _ _ (qn ?_)
  refine AWP.sub (Sub.window 9 rfl rfl) ?_
  refine nS (sq ?_)
  refine rg rfl fun K j=>?_
  refine D1.of (f:=Yy) (m:=reached2) (d:=false) rfl ?_
  refine nS ?_
  refine j _ _ (qn ?_)
  revert h;refine ca rfl (fun hc h=>?_) fun hc h=>?_
  ·refine sq (ar rfl (qn ?_))
   refine rg rfl fun K j=>?_
   refine D1.of (f:=D4) (m:=(Bz l)) (d:=[]) rfl ?_
   refine nS ?_
   obtain⟨hk,h⟩:=B4 h
   (repeat refine rp ?_);try simp +decide -implicitDefEqProofs only[go_sem]
   refine j _ _ (bn (qn ?_))
   obtain rfl:=Aa h
   refine⟨(m4,((mset reached2 x_6 true),((open_3.take (IntKind.i64.wrap (((open_3.length:Nat):Int) - 1)).toNat)++(mget [] (Bz l) x_6))),((ver4+1)+1)),Ai hJ4,by dsimp only;omega,?_,?_⟩
   ·exact cu
   exact cu
  refine sk (bn (qn ?_))
  obtain rfl:=Aa h
  refine⟨(m4,(reached2,(open_3.take (IntKind.i64.wrap (((open_3.length:Nat):Int) - 1)).toNat)),(ver4+1)),Ai hJ4,by dsimp only;omega,?_,?_⟩
  ·exact cu
  exact cu
 obtain⟨v0,rest,rfl,rfl⟩:=hq
 refine⟨[.row v0 1 (r.map A2)],?_,?_,?_,⟨v0,rfl,rfl⟩⟩
 all_goals exact cu
def G8 (m:Bb) (lifts:List Int) (runs:List Int):Option ((List Int)):=
 (Ou m lifts).bind fun y1=>(H9 m runs).bind fun y2=>(M6 [y1,y2]).bind fun y3=>(E7 y3 m.Bases).bind fun y4=>some y4
theorem V9 (m:Bb) (lifts:List Int) (runs:List Int) {r:(List Int)} (h:G8 m lifts runs=some r):Bo Tryz.prog 212 [.agg (Cd m),.sl 1 (lifts.map A2),.sl 1 (runs.map A2)] (·= .sl 1 (r.map A2)):=by
 refine Bo.nle (Bo.intro Tryz.func212 rfl rfl (by show _≤18;simp) ?_)
 unfold G8 at h
 refine nS (sq ?_)
 refine ar rfl (qn (sq ?_))
 refine AWP.draw Tryz.mixed (by kernel_rfl) ?_;intro K j
 refine nS ?_
 obtain⟨y1,hy1,h⟩:=Af h
 refine B7.pure Tryz.call267 (eJ m lifts hy1) rfl ?_
 refine nS ?_
 obtain⟨y2,hy2,h⟩:=Af h
 refine B7.pure Tryz.call215 (Sj m runs hy2) rfl ?_
 refine nS ?_
 obtain⟨y3,hy3,h⟩:=Af h
 refine B7.jQ Tryz.call214 (Vt [y1,y2] hy3) (by simp +decide -implicitDefEqProofs only[go_sem]) ?_
 refine nS ?_
 obtain⟨y4,hy4,h⟩:=Af h
 refine B7.row Tryz.call266 (Qg y3 m.Bases hy4) rfl ?_
 (try simp +decide -implicitDefEqProofs only[go_sem,List.length_map])
 refine j _ _ _ (by kernel_rfl) ?_
 refine qn (rt ?_)
 cases h;exact en Tryz.results212
theorem Yg (m:Bb) (lifts:List Int) (runs:List Int) {r:(List Int)} (h:G8 m lifts runs=some r):Ad Tryz.prog 212 [.agg (Cd m),.sl 1 (lifts.map A2),.sl 1 (runs.map A2)] (·= .sl 1 (r.map A2)):=(V9 m lifts runs h).pure
def Ra (m:Bb) (lifts:List Int) (runs:List Int) (run:Int):Option (Bool):=
 (E0 m run).bind fun y1=>(bif y1.2 then(G8 m lifts runs).bind fun y2=>(Bs y2 y1.1.From).bind fun y3=>some y3 else some false)
theorem eI (m:Bb) (lifts:List Int) (runs:List Int) (run:Int) {r:Bool} (h:Ra m lifts runs run=some r):Ad Tryz.prog 109 [.agg (Cd m),.sl 1 (lifts.map A2),.sl 1 (runs.map A2),.int .i64 run] (·= .bool r):=by
 refine Ad.nle (Ad.intro Tryz.func109 rfl rfl (by show _≤27;simp) ?_)
 unfold Ra at h
 refine nS (sq ?_)
 refine ar rfl (qn (sq ?_))
 refine rg rfl fun K j=>?_
 obtain⟨y1,hy1,h⟩:=Af h
 refine An.pure Tryz.call53 (D3 m run hy1) rfl fun _ hr=>?_
 subst hr
 refine nS ?_
 refine j _ _ (qn (sq ?_))
 refine AWP.draw Tryz.mixed (by kernel_rfl) ?_;intro K j
 refine nS ?_
 revert h;refine gt (fun hc h=>?_) fun hc h=>?_
 ·obtain⟨y2,hy2,h⟩:=Af h
  refine B7.pure Tryz.call212 (Yg m lifts runs hy2) rfl ?_
  refine nS ?_
  obtain⟨y3,hy3,h⟩:=Af h
  refine B7.pure Tryz.call54 (Bv y2 y1.1.From hy3) rfl ?_
  refine nS ?_
  refine j _ _ _ (by kernel_rfl) ?_
  refine qn (rt ?_)
  cases h;exact en Tryz.results109
 refine j _ _ _ (by kernel_rfl) ?_
 refine qn (rt ?_)
 cases h;exact en Tryz.results109
def Ev (s_:List Aq):Option (List Aq):=chk s_.length (some s_)
theorem Fo (s_:List Aq) {r:List Aq} (h:Ev s_=some r):Db Tryz.prog 268 [.sl 4 (s_.map Bg)] 4 (r.map Bg):=by
 have hk:=(B4 h).1
 have hr:r=s_:=Aa (B4 h).2
 rw[hr];clear hr h
 refine Db.of ?_
 refine Ch.weak (R:=fun q H=>∃ v rest,q= .own 0 v 0 (s_.map Bg).length∧H= .row v 4 (s_.map Bg)::rest) (Ch.intro Tryz.func268 rfl rfl (by show _≤8;simp) ?_) (fun q H hq=>?_)
 ·refine nS (sq ?_)
  refine ar rfl (qn (sq (sq ?_)))
  refine rg rfl fun K j=>?_
  intro bnil hb
  refine nS ?_
  refine j _ _ (qn ?_)
  refine AWP.cond (Ak (fun hc=>?_) (fun hc=>?_))
  ·have hx0:s_=[]:=Classical.byContradiction fun hne=>by have:=hb (by simpa using hne);simp[this]at hc
   subst hx0
   refine sq (ar rfl (qn ?_))
   refine AWP.ghost 2 4 rfl (by decide) ?_
   refine nS (rt (qr ?_))
   refine nSc Tryz.results268 ?_
   refine⟨_,_,?_,rfl⟩
   (try simp +decide -implicitDefEqProofs only[go_sem,List.length_map,List.length_append,List.length_cons,List.length_nil,List.length_set,List.length_replicate]);try rfl
  clear hc
  refine sk (qn (sq ?_))
  refine rg rfl fun K j=>?_
  (repeat refine rp ?_);try simp +decide -implicitDefEqProofs only[go_sem]
  refine j _ _ (qn (rt ?_))
  refine nSc Tryz.results268 ?_
  refine⟨_,_,?_,rfl⟩
  (try simp +decide -implicitDefEqProofs only[go_sem,List.length_map,List.length_append,List.length_cons,List.length_nil,List.length_set,List.length_replicate]);try rfl
 obtain⟨v,rest,rfl,rfl⟩:=hq
 exact⟨[.row v 4 (s_.map Bg)],⟨⟨rfl,rfl,rfl⟩,by cases rest<;>trivial⟩,rfl,rfl,⟨v,rfl,rfl⟩⟩
def Gv (k3:Nat) (x_5:Aq) (sv:(List Aq)):Option (Out ((List Aq)) ((List Int))):=
 (Dk sv ((k3:Nat):Int)).bind fun x_6=>some (Out.next ((sv.set k3 (Aq.mk x_6.ID x_5.To x_6.To x_6.Cost)).set k3 (Aq.mk x_6.ID x_5.To x_5.From x_6.Cost)))
def M3 (l:List Aq) (to_:List Int):Option ((List Int)):=
 (Ev l).bind fun y1=>(Am Gv 0 l y1).bind fun o3=>o3.on fun s3=>(E7 s3 to_).bind fun y9=>some y9
theorem tX (l:List Aq) (to_:List Int) {r:(List Int)} (h:M3 l to_=some r):Bo Tryz.prog 213 [.sl 4 (l.map Bg),.sl 1 (to_.map A2)] (·= .sl 1 (r.map A2)):=by
 refine Bo.nle (Bo.intro Tryz.func213 rfl rfl (by show _≤33;simp) ?_)
 unfold M3 at h
 refine nS (sq ?_)
 refine ar rfl (qn (sq ?_))
 refine rg rfl fun K j=>?_
 obtain⟨y1,hy1,h⟩:=Af h
 refine An.row Tryz.call268 (Fo l hy1) rfl 0 rfl ?_
 (try simp +decide -implicitDefEqProofs only[go_sem,List.length_map])
 refine j _ _ (qn (sq (sq ?_)))
 refine rg rfl fun K j=>?_
 intro hm
 refine j _ _ (qn (bk ?_))
 obtain⟨o3,hJ3,hO3⟩:=Af h
 clear h
 refine AWP.Bw (ι:=Nat×((List Aq))×(Nat)) (fun zz=>[(1,.sl 1 (to_.map A2)),(5,.own 0 zz.2.2 0 zz.2.1.length),(10,.sl 4 (l.map Bg)),(11,.int .i64 ((l.length:Nat):Int)),(12,.int .i64 ((zz.1:Nat):Int))]) (fun zz=>[.row zz.2.2 4 (zz.2.1.map Bg)]) (fun zz=>zz.1≤l.length∧Am Gv zz.1 ((l).drop zz.1) zz.2.1=some o3) (fun zz=>l.length - zz.1) (0,y1,0) ⟨Nat.zero_le _,hJ3⟩ cu cu (fun x=>⟨rfl,rfl,rfl⟩) ?_
 clear hJ3
 rintro⟨k3,turned2,ver3⟩ ⟨hk3,hJ3⟩
 dsimp only at hk3 hJ3 ⊢
 refine sq (ar rfl (qn (sq ?_)))
 refine AWP.cond (Ak (fun hc=>?_) (fun hc=>?_))
 rotate_left
 ·obtain rfl:=Bf hJ3 (fun hl=>by have:=Aiz hc;omega)
  have h:=Be hO3;try dsimp only at h
  have hkl:l.length=k3:=by have:=Aiz hc;omega
  subst hkl
  refine xt (qe (qe (bs (qn (sq ?_)))))
  refine rg rfl fun K j=>?_
  obtain⟨y9,hy9,h⟩:=Af h
  refine An.vH Tryz.call266 (Qg turned2 to_ hy9) (by simp +decide -implicitDefEqProofs only[go_sem]) (by simp +decide -implicitDefEqProofs only[go_sem]) 1 rfl ?_
  (try simp +decide -implicitDefEqProofs only[go_sem,List.length_map])
  refine j _ _ (qn (rt ?_))
  cases h;exact en Tryz.results213
 have hlt3:k3<l.length:=by have:=Ai0 hc;omega
 obtain⟨x_5,b3,hx3_,h,hJ3⟩:=A9 hJ3 hlt3
 have hx3:=Ay hx3_
 have hw3:=wk (k:=k3) (by omega)
 unfold Gv at h;try dsimp only at h
 refine sk (qn (sq (bk (sq ?_))))
 refine rg rfl fun K j=>?_
 refine Bn.of (f:=Bg) (l:=l) hx3 ?_
 refine nS ?_
 refine j _ _ (qn ?_)
 refine AWP.draw Tryz.mixed (by kernel_rfl) ?_;intro K j
 refine nS ?_
 obtain⟨x_6,hx_6,h⟩:=Af h
 refine Kw hx_6 (by first | rfl | exact(Cl _).symm | (simp only[List.length_append,List.length_cons,List.length_nil,List.length_set,List.length_replicate]<;>omega)) ?_
 refine nS ?_
 refine De.ofNat (f:=Bg) (l:=turned2) (n:=k3) hx_6 ?_
 have hs7:=Rz (y:=(Aq.mk x_6.ID x_5.To x_6.To x_6.Cost)) hx_6
 refine nS ?_
 refine Kw hs7 (by first | rfl | exact(Cl _).symm | (simp only[List.length_append,List.length_cons,List.length_nil,List.length_set,List.length_replicate]<;>omega)) ?_
 refine nS ?_
 refine De.ofNat (f:=Bg) (l:=(turned2.set k3 (Aq.mk x_6.ID x_5.To x_6.To x_6.Cost))) (n:=k3) hs7 ?_
 have hs8:=Rz (y:=(Aq.mk x_6.ID x_5.To x_5.From x_6.Cost)) hs7
 refine nS ?_
 refine j _ _ _ (by kernel_rfl) ?_
 refine bn (qn (ar rfl (qn ?_)))
 obtain rfl:=Aa h
 refine⟨(k3+1,((turned2.set k3 (Aq.mk x_6.ID x_5.To x_6.To x_6.Cost)).set k3 (Aq.mk x_6.ID x_5.To x_5.From x_6.Cost)),ver3),⟨by dsimp only;omega,Ai hJ3⟩,by dsimp only;omega,?_,?_⟩
 ·exact cuw hw3
 exact cuw hw3
theorem gU (l:List Aq) (to_:List Int) {r:(List Int)} (h:M3 l to_=some r):Db Tryz.prog 213 [.sl 4 (l.map Bg),.sl 1 (to_.map A2)] 1 (r.map A2):=by
 refine Db.of ?_
 refine Ch.weak (R:=fun q H=>∃ v0 rest,q= .own 0 v0 0 (r.map A2).length∧H= .row v0 1 (r.map A2)::rest) (Ch.intro Tryz.func213 rfl rfl (by show _≤33;simp) ?_) (fun q H hq=>?_)
 ·unfold M3 at h
  refine nS (sq ?_)
  refine ar rfl (qn (sq ?_))
  refine rg rfl fun K j=>?_
  obtain⟨y1,hy1,h⟩:=Af h
  refine An.row Tryz.call268 (Fo l hy1) rfl 0 rfl ?_
  (try simp +decide -implicitDefEqProofs only[go_sem,List.length_map])
  refine j _ _ (qn (sq (sq ?_)))
  refine rg rfl fun K j=>?_
  intro hm
  refine j _ _ (qn (bk ?_))
  obtain⟨o3,hJ3,hO3⟩:=Af h
  clear h
  refine AWP.Bw (ι:=Nat×((List Aq))×(Nat)) (fun zz=>[(1,.sl 1 (to_.map A2)),(5,.own 0 zz.2.2 0 zz.2.1.length),(10,.sl 4 (l.map Bg)),(11,.int .i64 ((l.length:Nat):Int)),(12,.int .i64 ((zz.1:Nat):Int))]) (fun zz=>[.row zz.2.2 4 (zz.2.1.map Bg)]) (fun zz=>zz.1≤l.length∧Am Gv zz.1 ((l).drop zz.1) zz.2.1=some o3) (fun zz=>l.length - zz.1) (0,y1,0) ⟨Nat.zero_le _,hJ3⟩ cu cu (fun x=>⟨rfl,rfl,rfl⟩) ?_
  clear hJ3
  rintro⟨k3,turned2,ver3⟩ ⟨hk3,hJ3⟩
  dsimp only at hk3 hJ3 ⊢
  refine sq (ar rfl (qn (sq ?_)))
  refine AWP.cond (Ak (fun hc=>?_) (fun hc=>?_))
  ·have hlt3:k3<l.length:=by have:=Ai0 hc;omega
   obtain⟨x_5,b3,hx3_,h,hJ3⟩:=A9 hJ3 hlt3
   have hx3:=Ay hx3_
   have hw3:=wk (k:=k3) (by omega)
   unfold Gv at h;try dsimp only at h
   refine sk (qn (sq (bk (sq ?_))))
   refine rg rfl fun K j=>?_
   refine Bn.of (f:=Bg) (l:=l) hx3 ?_
   refine nS ?_
   refine j _ _ (qn ?_)
   refine AWP.draw Tryz.mixed (by kernel_rfl) ?_;intro K j
   refine nS ?_
   obtain⟨x_6,hx_6,h⟩:=Af h
   refine Kw hx_6 (by first | rfl | exact(Cl _).symm | (simp only[List.length_append,List.length_cons,List.length_nil,List.length_set,List.length_replicate]<;>omega)) ?_
   refine nS ?_
   refine De.ofNat (f:=Bg) (l:=turned2) (n:=k3) hx_6 ?_
   have hs7:=Rz (y:=(Aq.mk x_6.ID x_5.To x_6.To x_6.Cost)) hx_6
   refine nS ?_
   refine Kw hs7 (by first | rfl | exact(Cl _).symm | (simp only[List.length_append,List.length_cons,List.length_nil,List.length_set,List.length_replicate]<;>omega)) ?_
   refine nS ?_
   refine De.ofNat (f:=Bg) (l:=(turned2.set k3 (Aq.mk x_6.ID x_5.To x_6.To x_6.Cost))) (n:=k3) hs7 ?_
   have hs8:=Rz (y:=(Aq.mk x_6.ID x_5.To x_5.From x_6.Cost)) hs7
   refine nS ?_
   refine j _ _ _ (by kernel_rfl) ?_
   refine bn (qn (ar rfl (qn ?_)))
   obtain rfl:=Aa h
   refine⟨(k3+1,((turned2.set k3 (Aq.mk x_6.ID x_5.To x_6.To x_6.Cost)).set k3 (Aq.mk x_6.ID x_5.To x_5.From x_6.Cost)),ver3),⟨by dsimp only;omega,Ai hJ3⟩,by dsimp only;omega,?_,?_⟩
   ·exact cuw hw3
   exact cuw hw3
  obtain rfl:=Bf hJ3 (fun hl=>by have:=Aiz hc;omega)
  have h:=Be hO3;try dsimp only at h
  have hkl:l.length=k3:=by have:=Aiz hc;omega
  subst hkl
  refine xt (qe (qe (bs (qn (sq ?_)))))
  refine rg rfl fun K j=>?_
  obtain⟨y9,hy9,h⟩:=Af h
  refine An.vH Tryz.call266 (Qg turned2 to_ hy9) (by simp +decide -implicitDefEqProofs only[go_sem]) (by simp +decide -implicitDefEqProofs only[go_sem]) 1 rfl ?_
  (try simp +decide -implicitDefEqProofs only[go_sem,List.length_map])
  refine j _ _ (qn ?_)
  refine AWP.sub (Sub.swap 1 0 rfl rfl rfl) ?_
  refine nS (rt ?_)
  obtain rfl:=Aa h
  refine nSc Tryz.results213 ?_
  refine⟨_,_,?_,rfl⟩
  (try simp +decide -implicitDefEqProofs only[go_sem,List.length_map,List.length_append,List.length_cons,List.length_nil,List.length_set,List.length_replicate]);try rfl
 obtain⟨v0,rest,rfl,rfl⟩:=hq
 refine⟨[.row v0 1 (r.map A2)],?_,?_,?_,⟨v0,rfl,rfl⟩⟩
 all_goals exact cu
def Q3 (m:Bb) (runs:List Int):Option ((List Int)):=
 (H9 m runs).bind fun y1=>(M6 [y1]).bind fun y2=>(M3 y2 m.Bases).bind fun y3=>some y3
theorem eH (m:Bb) (runs:List Int) {r:(List Int)} (h:Q3 m runs=some r):Bo Tryz.prog 111 [.agg (Cd m),.sl 1 (runs.map A2)] (·= .sl 1 (r.map A2)):=by
 refine Bo.nle (Bo.intro Tryz.func111 rfl rfl (by show _≤13;simp) ?_)
 unfold Q3 at h
 refine nS (sq ?_)
 refine ar rfl (qn (sq ?_))
 refine AWP.draw Tryz.mixed (by kernel_rfl) ?_;intro K j
 refine nS ?_
 obtain⟨y1,hy1,h⟩:=Af h
 refine B7.pure Tryz.call215 (Sj m runs hy1) rfl ?_
 refine nS ?_
 obtain⟨y2,hy2,h⟩:=Af h
 refine B7.jQ Tryz.call214 (Vt [y1] hy2) (by simp +decide -implicitDefEqProofs only[go_sem]) ?_
 refine nS ?_
 obtain⟨y3,hy3,h⟩:=Af h
 refine B7.row Tryz.call213 (gU y2 m.Bases hy3) rfl ?_
 (try simp +decide -implicitDefEqProofs only[go_sem,List.length_map])
 refine j _ _ _ (by kernel_rfl) ?_
 refine qn (rt ?_)
 cases h;exact en Tryz.results111
theorem fI (m:Bb) (runs:List Int) {r:(List Int)} (h:Q3 m runs=some r):Ad Tryz.prog 111 [.agg (Cd m),.sl 1 (runs.map A2)] (·= .sl 1 (r.map A2)):=(eH m runs h).pure
def D7 (f_:Aj) (open_:List Int) (run:Int):Option (Bool):=
 (E0 f_.Map run).bind fun y1=>(Fv f_).bind fun y2=>(Ra f_.Map y2 open_ run).bind fun y3=>(bif y3 then(Q3 f_.Map open_).bind fun y4=>(Bs y4 y1.1.To).bind fun y5=>some y5 else some false)
theorem Ga (f_:Aj) (open_:List Int) (run:Int) {r:Bool} (h:D7 f_ open_ run=some r):Ad Tryz.prog 49 [.agg (B3 f_),.sl 1 (open_.map A2),.int .i64 run] (·= .bool r):=by
 refine Ad.nle (Ad.intro Tryz.func49 rfl rfl (by show _≤32;simp) ?_)
 unfold D7 at h
 refine nS (sq ?_)
 refine ar rfl (qn (sq ?_))
 refine rg rfl fun K j=>?_
 obtain⟨y1,hy1,h⟩:=Af h
 refine An.pure Tryz.call53 (D3 f_.Map run hy1) rfl fun _ hr=>?_
 subst hr
 refine nS ?_
 refine j _ _ (qn (sq ?_))
 refine AWP.draw Tryz.mixed (by kernel_rfl) ?_;intro K j
 refine nS ?_
 obtain⟨y2,hy2,h⟩:=Af h
 refine B7.pure Tryz.call110 (V0 f_ hy2) rfl ?_
 refine nS ?_
 obtain⟨y3,hy3,h⟩:=Af h
 refine B7.pure Tryz.call109 (eI f_.Map y2 open_ run hy3) rfl ?_
 refine nS ?_
 revert h;refine gt (fun hc h=>?_) fun hc h=>?_
 ·obtain⟨y4,hy4,h⟩:=Af h
  refine B7.pure Tryz.call111 (fI f_.Map open_ hy4) rfl ?_
  refine nS ?_
  obtain⟨y5,hy5,h⟩:=Af h
  refine B7.pure Tryz.call54 (Bv y4 y1.1.To hy5) rfl ?_
  refine nS ?_
  refine j _ _ _ (by kernel_rfl) ?_
  refine qn (rt ?_)
  cases h;exact en Tryz.results49
 refine j _ _ _ (by kernel_rfl) ?_
 refine qn (rt ?_)
 cases h;exact en Tryz.results49
def C0 (f_:Aj) (open_:List Int) (run:Int):Option (Int):=
 (Cz f_ run).bind fun y1=>(bif (decide (y1≠0))then some y1 else(D7 f_ open_ run).bind fun y2=>(bif (!y2)then some 16 else some 0))
theorem Dh (f_:Aj) (open_:List Int) (run:Int) {r:Int} (h:C0 f_ open_ run=some r):Ad Tryz.prog 18 [.agg (B3 f_),.sl 1 (open_.map A2),.int .i64 run] (·= .int .i64 r):=by
 refine Ad.nle (Ad.intro Tryz.func18 rfl rfl (by show _≤19;simp) ?_)
 unfold C0 at h
 refine nS (sq ?_)
 refine ar rfl (qn (sq (sq ?_)))
 refine rg rfl fun K j=>?_
 obtain⟨y1,hy1,h⟩:=Af h
 refine An.pure Tryz.call48 (Jn f_ run hy1) rfl fun _ hr=>?_
 subst hr
 refine nS ?_
 refine j _ _ (qn (sq ?_))
 refine ar rfl (qn ?_)
 revert h;refine ca rfl (fun hc h=>?_) fun hc h=>?_
 ·refine sq (ar rfl (qn (rt (qr ?_))))
  cases h;exact en Tryz.results18
 refine sk (qn (sq (sq ?_)))
 refine rg rfl fun K j=>?_
 obtain⟨y2,hy2,h⟩:=Af h
 refine An.pure Tryz.call49 (Ga f_ open_ run hy2) rfl fun _ hr=>?_
 subst hr
 refine nS ?_
 refine j _ _ (qn ?_)
 revert h;refine ca rfl (fun hc h=>?_) fun hc h=>?_
 ·refine sq (ar rfl (qn (rt (qr ?_))))
  cases h;exact en Tryz.results18
 refine sk (qn (sq (ar rfl (qn (rt ?_)))))
 cases h;exact en Tryz.results18
def Js (f_:Aj) (run:Int) (y2:(List Int)):Option (Aj×Int):=
 chk (y2.length+1) ((C0 f_ (y2++[run]) run).bind fun y7=>(bif (decide (y7≠0))then some ((Aj.mk (Bb.mk [] [] [] []) [] [] (Ca.mk [] []) [] [] [] [] [] [] [] [] 0 0),y7)else none))
def Ob (f_:Aj) (run:Int) (y2:(List Int)) (k3:Nat) (x_5:Bi) (sv:Unit):Option (Out (Unit) (Aj×Int)):=
 (bif (decide (x_5.Run=run))then ((bif (decide (((k3:Nat):Int)<0))then (bif (decide (64≤((f_.Status.length:Nat):Int)))then some ((Aj.mk (Bb.mk [] [] [] []) [] [] (Ca.mk [] []) [] [] [] [] [] [] [] [] 0 0),9)else Js f_ run y2)else Js f_ run y2)).bind fun q7=>some (Out.ret q7)else some (Out.next ()))
def F3 (f_:Aj) (run:Int):Option (Aj×Int):=
 (E0 f_.Map run).bind fun y1=>(bif (!y1.2)then some ((Aj.mk (Bb.mk [] [] [] []) [] [] (Ca.mk [] []) [] [] [] [] [] [] [] [] 0 0),8)else (Cw f_).bind fun y2=>(Bs y2 run).bind fun y3=>(bif y3 then some ((Aj.mk (Bb.mk [] [] [] []) [] [] (Ca.mk [] []) [] [] [] [] [] [] [] [] 0 0),7)else (Am (Ob f_ run y2) 0 f_.Status ()).bind fun o3=>o3.on fun s3=>(bif (decide (64≤((f_.Status.length:Nat):Int)))then some ((Aj.mk (Bb.mk [] [] [] []) [] [] (Ca.mk [] []) [] [] [] [] [] [] [] [] 0 0),9)else chk (y2.length+1) ((C0 f_ (y2++[run]) run).bind fun y9=>(bif (decide (y9≠0))then some ((Aj.mk (Bb.mk [] [] [] []) [] [] (Ca.mk [] []) [] [] [] [] [] [] [] [] 0 0),y9)else none)))))
theorem Lw (f_:Aj) (run:Int) {r:Aj×Int} (h:F3 f_ run=some r):Ad Tryz.prog 24 [.agg (B3 f_),.int .i64 run] (·= .tuple [.agg (B3 r.1),.int .i64 r.2]):=by
 refine Ad.nle (Ad.intro Tryz.func24 rfl rfl (by show _≤93;simp) ?_)
 unfold F3 at h
 refine nS (sq ?_)
 refine ar rfl (qn (sq (sq ?_)))
 refine rg rfl fun K j=>?_
 obtain⟨y1,hy1,h⟩:=Af h
 refine An.pure Tryz.call53 (D3 f_.Map run hy1) rfl fun _ hr=>?_
 subst hr
 refine nS ?_
 refine j _ _ (qn (sq ?_))
 refine ar rfl (qn ?_)
 revert h;refine ca rfl (fun hc h=>?_) fun hc h=>?_
 ·refine sq (ar rfl (qn (rt (qr ?_))))
  cases h;exact en Tryz.results24
 refine sk (qn (sq ?_))
 refine rg rfl fun K j=>?_
 obtain⟨y2,hy2,h⟩:=Af h
 refine An.row Tryz.call20 (aB f_ hy2) rfl 4 rfl ?_
 (try simp +decide -implicitDefEqProofs only[go_sem,List.length_map])
 refine j _ _ (qn (sq (sq ?_)))
 refine rg rfl fun K j=>?_
 obtain⟨y3,hy3,h⟩:=Af h
 refine An.snap Tryz.call54 (Bv y2 run hy3) (by simp +decide -implicitDefEqProofs only[go_sem]) (by rintro _ rfl;rfl) fun _ hr=>?_
 subst hr
 refine nS ?_
 refine j _ _ (qn ?_)
 revert h;refine ca rfl (fun hc h=>?_) fun hc h=>?_
 ·refine sq (ar rfl (qn (rt (qr ?_))))
  cases h;exact en Tryz.results24
 refine sk (qn (sq ?_))
 refine rg rfl fun K j=>?_
 refine An.inline Tryz.call55 Tryz.func55 rfl rfl (by show _≤19;simp) ?_
 refine nS (sq ?_)
 refine ar rfl (qn (sq (sq ?_)))
 refine rg rfl fun K j=>?_
 intro hm
 refine j _ _ (qn (bk ?_));clear j K
 obtain⟨o3,hJ3,hO3⟩:=Af h
 clear h
 refine AWP.Bw (ι:=Nat×(Unit)×(Unit)) (fun zz=>[(0,.sl 3 (f_.Status.map A5)),(1,.func 56 [.ptr 1 0]),(7,.int .i64 ((f_.Status.length:Nat):Int)),(8,.int .i64 ((zz.1:Nat):Int))]) (fun zz=>[.box [.sl 2 (f_.Map.Nodes.map A6),.sl 8 (f_.Map.Lifts.map A7),.sl 7 (f_.Map.Runs.map Bc),.sl 1 (f_.Map.Bases.map A2),.sl 2 (f_.Lifts.map Aw),.sl 4 (f_.Closures.map Au),.sl 4 (f_.Patrol.Bu.map Av),.sl 3 (f_.Patrol.Hazards.map Az),.sl 3 (f_.Surfaces.map A4),.sl 5 (f_.Packs.map A3),.sl 6 (f_.Slides.map Ba),.sl 7 (f_.Bulletin.map Ax),.sl 7 (f_.Missions.map Ap),.sl 4 (f_.Winches.map Ao),.sl 8 (f_.Groomers.map A1),.sl 3 (f_.Status.map A5),.int .i64 f_.Depth,.int .i64 f_.Time],.box [.int .i64 run],.box [.nils,.nils,.nils,.nils,.nils,.nils,.nils,.nils,.nils,.nils,.nils,.nils,.nils,.nils,.nils,.nils,.int .i64 0,.int .i64 0],.box [.int .i64 y1.1.ID,.int .i64 y1.1.Operator,.int .i64 y1.1.From,.int .i64 y1.1.To,.int .i64 y1.1.Grade,.int .i64 y1.1.Zone,.int .i64 y1.1.Length],.row 0 1 (y2.map A2)]) (fun zz=>zz.1≤f_.Status.length∧Am (Ob f_ run y2) zz.1 ((f_.Status).drop zz.1) zz.2.1=some o3) (fun zz=>f_.Status.length - zz.1) (0,(),()) ⟨Nat.zero_le _,hJ3⟩ cu cu (fun x=>⟨rfl,rfl,rfl⟩) ?_
 clear hJ3
 rintro⟨k3,⟨⟩,⟨⟩⟩ ⟨hk3,hJ3⟩
 dsimp only at hk3 hJ3 ⊢
 refine sq (ar rfl (qn (sq ?_)))
 refine AWP.cond (Ak (fun hc=>?_) (fun hc=>?_))
 rotate_left
 ·obtain rfl:=Bf hJ3 (fun hl=>by have:=Aiz hc;omega)
  have h:=Be hO3;try dsimp only at h
  have hkl:f_.Status.length=k3:=by have:=Aiz hc;omega
  subst hkl
  refine xt (qe (qe (bs (qn (sq (ar rfl (qn (rt ?_))))))))
  refine nSc Tryz.results55 ?_
  refine j _ _ (qn (sq (sq ?_)))
  refine rg rfl fun K j=>?_
  intro hm
  refine j _ _ (qn ?_)
  revert h;refine ca rfl (fun hc h=>?_) fun hc h=>?_
  ·refine sq (ar rfl (qn (rt (qr ?_))))
   cases h;exact en Tryz.results24
  refine sk (qn (sq (sq ?_)))
  refine AWP.draw Tryz.mixed (by kernel_rfl) ?_;intro K j
  refine nS ?_
  obtain⟨hk,h⟩:=B4 h
  (repeat refine rp ?_);try simp +decide -implicitDefEqProofs only[go_sem]
  obtain⟨y9,hy9,h⟩:=Af h
  refine B7.snap Tryz.call18 (Dh f_ (y2++[run]) run hy9) (by simp +decide -implicitDefEqProofs only[go_sem]) rfl ?_
  refine nS ?_
  refine j _ _ _ (by kernel_rfl) ?_
  refine qn (sq (ar rfl (qn ?_)))
  revert h;refine ca rfl (fun hc h=>?_) fun hc h=>?_
  ·refine sq (ar rfl (qn (rt (qr ?_))))
   cases h;exact en Tryz.results24
  refine sk (qn (sq ?_))
  refine rg rfl fun K j=>?_
  cases h
 have hlt3:k3<f_.Status.length:=by have:=Ai0 hc;omega
 obtain⟨x_5,b3,hx3_,h,hJ3⟩:=A9 hJ3 hlt3
 have hx3:=Ay hx3_
 have hw3:=wk (k:=k3) (by omega)
 unfold Ob at h;try dsimp only at h
 refine sk (qn (sq (bk (sq (ar rfl (qn (sq ?_)))))))
 refine rg rfl fun K j=>?_
 refine Bn.of (f:=A5) (l:=f_.Status) hx3 ?_
 refine nS ?_
 refine An.inline Tryz.call56 Tryz.func56 rfl rfl (by show _≤8;simp) ?_
 refine nS (sq ?_)
 refine ar rfl (qn (sq ?_))
 refine ar rfl (qn (rt ?_))
 refine nSc Tryz.results56 ?_
 refine j _ _ (qn ?_);clear j K
 revert h;refine ca rfl (fun hc h=>?_) fun hc h=>?_
 ·refine sq (ar rfl (qn (rt (br (qr (qr ?_))))))
  obtain⟨q7,hq,h⟩:=Af h
  obtain rfl:=Aa h
  obtain rfl:=Ae hJ3
  replace h:=hq.trans (Al hO3)
  refine br (qr (nSc Tryz.results55 ?_))
  refine j _ _ (qn ?_)
  refine AWP.Le (ι:=(Unit)×(Unit)) (fun zz=>[(2,.ptr 0 0),(3,.ptr 1 0),(4,.ptr 2 0),(8,.own 4 0 0 y2.length),(9,.int .i64 ((k3:Nat):Int))]) (fun zz=>[.box [.sl 2 (f_.Map.Nodes.map A6),.sl 8 (f_.Map.Lifts.map A7),.sl 7 (f_.Map.Runs.map Bc),.sl 1 (f_.Map.Bases.map A2),.sl 2 (f_.Lifts.map Aw),.sl 4 (f_.Closures.map Au),.sl 4 (f_.Patrol.Bu.map Av),.sl 3 (f_.Patrol.Hazards.map Az),.sl 3 (f_.Surfaces.map A4),.sl 5 (f_.Packs.map A3),.sl 6 (f_.Slides.map Ba),.sl 7 (f_.Bulletin.map Ax),.sl 7 (f_.Missions.map Ap),.sl 4 (f_.Winches.map Ao),.sl 8 (f_.Groomers.map A1),.sl 3 (f_.Status.map A5),.int .i64 f_.Depth,.int .i64 f_.Time],.box [.int .i64 run],.box [.nils,.nils,.nils,.nils,.nils,.nils,.nils,.nils,.nils,.nils,.nils,.nils,.nils,.nils,.nils,.nils,.int .i64 0,.int .i64 0],.gone,.row 0 1 (y2.map A2)]) (fun zz=>Js f_ run y2=some r) (fun zz=>⟨rfl,rfl,rfl⟩) ?_ ?_
  ·refine sq ?_
   refine rg rfl fun K j=>?_
   revert h;refine gt (fun hc h=>?_) fun hc h=>?_
   ·intro hm
    refine j _ _ (qn ?_)
    revert h;refine ca rfl (fun hc h=>?_) fun hc h=>?_
    ·refine sq (ar rfl (qn (rt (qr ?_))))
     cases h;exact en Tryz.results24
    refine sk (qn ?_)
    exact⟨((),()),h,cu,cu⟩
   refine j _ _ (qn ?_)
   refine AWP.cond (Bk ?_)
   refine sk (qn ?_)
   exact⟨((),()),h,cu,cu⟩
  rintro⟨⟨⟩,⟨⟩⟩ h
  try dsimp only at h ⊢
  unfold Js at h;try dsimp only at h
  refine sq (sq ?_)
  refine AWP.draw Tryz.mixed (by kernel_rfl) ?_;intro K j
  refine nS ?_
  obtain⟨hk,h⟩:=B4 h
  (repeat refine rp ?_);try simp +decide -implicitDefEqProofs only[go_sem]
  obtain⟨y7,hy7,h⟩:=Af h
  refine B7.snap Tryz.call18 (Dh f_ (y2++[run]) run hy7) (by simp +decide -implicitDefEqProofs only[go_sem]) rfl ?_
  refine nS ?_
  refine j _ _ _ (by kernel_rfl) ?_
  refine qn (sq (ar rfl (qn ?_)))
  revert h;refine ca rfl (fun hc h=>?_) fun hc h=>?_
  ·refine sq (ar rfl (qn (rt (qr ?_))))
   cases h;exact en Tryz.results24
  refine sk (qn (sq ?_))
  refine rg rfl fun K j=>?_
  cases h
 refine sk (bn (qn (ar rfl (qn ?_))))
 obtain rfl:=Aa h
 refine⟨(k3+1,(),()),⟨by dsimp only;omega,Ai hJ3⟩,by dsimp only;omega,?_,?_⟩
 ·exact cuw hw3
 exact cuw hw3
def Cs (n_:Int) (least:Int) (most:Int):Option (Bool):=
 (bif (decide (least≤n_))then some (decide (n_≤most))else some false)
theorem Cb (n_:Int) (least:Int) (most:Int) {r:Bool} (h:Cs n_ least most=some r):Ad Tryz.prog 238 [.int .i64 n_,.int .i64 least,.int .i64 most] (·= .bool r):=by
 refine Ad.nle (Ad.intro Tryz.func238 rfl rfl (by show _≤15;simp) ?_)
 unfold Cs at h
 refine nS (sq ?_)
 refine ar rfl (qn (sq ?_))
 refine rg rfl fun K j=>?_
 revert h;refine gt (fun hc h=>?_) fun hc h=>?_
 ·refine j _ _ (qn (rt ?_))
  cases h;exact en Tryz.results238
 refine j _ _ (qn (rt ?_))
 cases h;exact en Tryz.results238
def Jg (m:Bb) (k0:Nat) (x_2:Ck) (sv:Unit):Option (Out (Unit) (Int)):=
 (Cs x_2.ID 1 9999).bind fun y3=>(bif (!y3)then some (Out.ret 2)else (Cs x_2.Alt 0 5000).bind fun y4=>(bif (!y4)then some (Out.ret 2)else (bif (decide (0<((k0:Nat):Int)))then (Dk m.Nodes (IntKind.i64.wrap (((k0:Nat):Int) - 1))).bind fun x_5=>(bif (decide (x_2.ID≤x_5.ID))then some (Out.ret 7)else some (Out.next ()))else some (Out.next ()))))
def Mv (m:Bb):Option (Int):=
 (Am (Jg m) 0 m.Nodes ()).bind fun o0=>o0.on fun s0=>some 0
theorem T5 (m:Bb) {r:Int} (h:Mv m=some r):Ad Tryz.prog 153 [.agg (Cd m)] (·= .int .i64 r):=by
 refine Ad.nle (Ad.intro Tryz.func153 rfl rfl (by show _≤38;simp) ?_)
 unfold Mv at h
 refine nS (sq ?_)
 refine ar rfl (qn (sq (sq ?_)))
 refine rg rfl fun K j=>?_
 intro hm
 refine j _ _ (qn (bk ?_))
 obtain⟨o0,hJ0,hO0⟩:=Af h
 clear h
 refine AWP.Bw (ι:=Nat×(Unit)×(Unit)) (fun zz=>[(1,.ptr 0 0),(6,.sl 2 (m.Nodes.map A6)),(7,.int .i64 ((m.Nodes.length:Nat):Int)),(8,.int .i64 ((zz.1:Nat):Int))]) (fun zz=>[.box [.sl 2 (m.Nodes.map A6),.sl 8 (m.Lifts.map A7),.sl 7 (m.Runs.map Bc),.sl 1 (m.Bases.map A2)]]) (fun zz=>zz.1≤m.Nodes.length∧Am (Jg m) zz.1 ((m.Nodes).drop zz.1) zz.2.1=some o0) (fun zz=>m.Nodes.length - zz.1) (0,(),()) ⟨Nat.zero_le _,hJ0⟩ cu cu (fun x=>⟨rfl,rfl,rfl⟩) ?_
 clear hJ0
 rintro⟨k0,⟨⟩,⟨⟩⟩ ⟨hk0,hJ0⟩
 dsimp only at hk0 hJ0 ⊢
 refine sq (ar rfl (qn (sq ?_)))
 refine AWP.cond (Ak (fun hc=>?_) (fun hc=>?_))
 rotate_left
 ·obtain rfl:=Bf hJ0 (fun hl=>by have:=Aiz hc;omega)
  have h:=Be hO0;try dsimp only at h
  have hkl:m.Nodes.length=k0:=by have:=Aiz hc;omega
  subst hkl
  refine xt (qe (qe (bs (qn (sq (ar rfl (qn (rt ?_))))))))
  cases h;exact en Tryz.results153
 have hlt0:k0<m.Nodes.length:=by have:=Ai0 hc;omega
 obtain⟨x_2,b0,hx0_,h,hJ0⟩:=A9 hJ0 hlt0
 have hx0:=Ay hx0_
 have hw0:=wk (k:=k0) (by omega)
 unfold Jg at h;try dsimp only at h
 refine sk (qn (sq (bk (sq ?_))))
 refine rg rfl fun K j=>?_
 refine Bn.of (f:=A6) (l:=m.Nodes) hx0 ?_
 refine nS ?_
 refine j _ _ (qn (sq (sq ?_)))
 refine rg rfl fun K j=>?_
 obtain⟨y3,hy3,h⟩:=Af h
 refine An.pure Tryz.call238 (Cb x_2.ID 1 9999 hy3) rfl fun _ hr=>?_
 subst hr
 refine nS ?_
 revert h;refine gf (fun hc h=>?_) fun hc h=>?_
 rotate_left
 ·refine j _ _ (qn ?_)
  refine AWP.cond (Ah ?_)
  refine sq (ar rfl (qn (rt (qr (br (qr (qr ?_)))))))
  obtain rfl:=Aa h
  obtain rfl:=Ae hJ0
  replace h:=Al hO0
  refine br (qr ?_)
  cases h;exact en Tryz.results153
 obtain⟨y4,hy4,h⟩:=Af h
 refine An.pure Tryz.call238 (Cb x_2.Alt 0 5000 hy4) rfl fun _ hr=>?_
 subst hr
 refine nS ?_
 refine j _ _ (qn ?_)
 revert h;refine ca rfl (fun hc h=>?_) fun hc h=>?_
 ·refine sq (ar rfl (qn (rt (qr (br (qr (qr ?_)))))))
  obtain rfl:=Aa h
  obtain rfl:=Ae hJ0
  replace h:=Al hO0
  refine br (qr ?_)
  cases h;exact en Tryz.results153
 refine sk (qn (sq ?_))
 refine AWP.draw Tryz.mixed (by kernel_rfl) ?_;intro K j
 refine nS ?_
 revert h;refine gt (fun hc h=>?_) fun hc h=>?_
 ·obtain⟨x_5,hx_5,h⟩:=Af h
  refine Bn.of (f:=A6) (l:=m.Nodes) hx_5 ?_
  refine nS ?_
  refine j _ _ _ (by kernel_rfl) ?_
  refine qn ?_
  revert h;refine ca rfl (fun hc h=>?_) fun hc h=>?_
  ·refine sq (ar rfl (qn (rt (br (qr (qr ?_))))))
   obtain rfl:=Aa h
   obtain rfl:=Ae hJ0
   replace h:=Al hO0
   refine br (qr ?_)
   cases h;exact en Tryz.results153
  refine sk (bn (qn (ar rfl (qn ?_))))
  obtain rfl:=Aa h
  refine⟨(k0+1,(),()),⟨by dsimp only;omega,Ai hJ0⟩,by dsimp only;omega,?_,?_⟩
  ·exact cuw hw0
  exact cuw hw0
 refine j _ _ _ (by kernel_rfl) ?_
 refine qn ?_
 refine AWP.cond (Bk ?_)
 refine sk (bn (qn (ar rfl (qn ?_))))
 obtain rfl:=Aa h
 refine⟨(k0+1,(),()),⟨by dsimp only;omega,Ai hJ0⟩,by dsimp only;omega,?_,?_⟩
 ·exact cuw hw0
 exact cuw hw0
def F7 (m:Bb) (x_2:Cc):Option (Out (Unit) (Int)):=
 (Dx m x_2.From).bind fun y10=>(Dx m x_2.To).bind fun y11=>(bif (!y10.2)then some (Out.ret 8)else (bif (!y11.2)then some (Out.ret 8)else (bif (decide (y11.1.Alt≤y10.1.Alt))then some (Out.ret 11)else nz x_2.Spacing ((bif (decide ((Int.tmod (IntKind.i64.wrap (2*x_2.Length)) x_2.Spacing)≠0))then some (Out.ret 1)else nz x_2.Spacing ((Cs (IntKind.i64.wrap (Int.tdiv (IntKind.i64.wrap (2*x_2.Length)) x_2.Spacing)) 1 200).bind fun y12=>(bif (!y12)then some (Out.ret 1)else some (Out.next ()))))))))
def Jh (m:Bb) (k0:Nat) (x_2:Cc) (sv:Unit):Option (Out (Unit) (Int)):=
 (Cs x_2.ID 1 9999).bind fun y3=>(bif (!y3)then some (Out.ret 2)else (Cs x_2.Operator 1 8).bind fun y4=>(bif (!y4)then some (Out.ret 2)else (Cs x_2.Length 10 6000).bind fun y5=>(bif (!y5)then some (Out.ret 2)else (Cs x_2.Speed 500 12000).bind fun y6=>(bif (!y6)then some (Out.ret 2)else (Cs x_2.Seats 1 16).bind fun y7=>(bif (!y7)then some (Out.ret 2)else (Cs x_2.Spacing 5 1000).bind fun y8=>(bif (!y8)then some (Out.ret 2)else (bif (decide (0<((k0:Nat):Int)))then (Dk m.Lifts (IntKind.i64.wrap (((k0:Nat):Int) - 1))).bind fun x_13=>(bif (decide (x_2.ID≤x_13.ID))then some (Out.ret 7)else F7 m x_2)else F7 m x_2)))))))
def Mw (m:Bb):Option (Int):=
 (Am (Jh m) 0 m.Lifts ()).bind fun o0=>o0.on fun s0=>some 0
theorem T6 (m:Bb) {r:Int} (h:Mw m=some r):Ad Tryz.prog 154 [.agg (Cd m)] (·= .int .i64 r):=by
 refine Ad.nle (Ad.intro Tryz.func154 rfl rfl (by show _≤108;simp) ?_)
 unfold Mw at h
 refine nS (sq ?_)
 refine ar rfl (qn (sq (sq ?_)))
 refine rg rfl fun K j=>?_
 intro hm
 refine j _ _ (qn (bk ?_))
 obtain⟨o0,hJ0,hO0⟩:=Af h
 clear h
 refine AWP.Bw (ι:=Nat×(Unit)×(Unit)) (fun zz=>[(1,.ptr 0 0),(10,.sl 8 (m.Lifts.map A7)),(11,.int .i64 ((m.Lifts.length:Nat):Int)),(12,.int .i64 ((zz.1:Nat):Int))]) (fun zz=>[.box [.sl 2 (m.Nodes.map A6),.sl 8 (m.Lifts.map A7),.sl 7 (m.Runs.map Bc),.sl 1 (m.Bases.map A2)]]) (fun zz=>zz.1≤m.Lifts.length∧Am (Jh m) zz.1 ((m.Lifts).drop zz.1) zz.2.1=some o0) (fun zz=>m.Lifts.length - zz.1) (0,(),()) ⟨Nat.zero_le _,hJ0⟩ cu cu (fun x=>⟨rfl,rfl,rfl⟩) ?_
 clear hJ0
 rintro⟨k0,⟨⟩,⟨⟩⟩ ⟨hk0,hJ0⟩
 dsimp only at hk0 hJ0 ⊢
 refine sq (ar rfl (qn (sq ?_)))
 refine AWP.cond (Ak (fun hc=>?_) (fun hc=>?_))
 rotate_left
 ·obtain rfl:=Bf hJ0 (fun hl=>by have:=Aiz hc;omega)
  have h:=Be hO0;try dsimp only at h
  have hkl:m.Lifts.length=k0:=by have:=Aiz hc;omega
  subst hkl
  refine xt (qe (qe (bs (qn (sq (ar rfl (qn (rt ?_))))))))
  cases h;exact en Tryz.results154
 have hlt0:k0<m.Lifts.length:=by have:=Ai0 hc;omega
 obtain⟨x_2,b0,hx0_,h,hJ0⟩:=A9 hJ0 hlt0
 have hx0:=Ay hx0_
 have hw0:=wk (k:=k0) (by omega)
 unfold Jh at h;try dsimp only at h
 refine sk (qn (sq (bk (sq ?_))))
 refine rg rfl fun K j=>?_
 refine Bn.of (f:=A7) (l:=m.Lifts) hx0 ?_
 refine nS ?_
 refine j _ _ (qn (sq (sq ?_)))
 refine rg rfl fun K j=>?_
 obtain⟨y3,hy3,h⟩:=Af h
 refine An.pure Tryz.call238 (Cb x_2.ID 1 9999 hy3) rfl fun _ hr=>?_
 subst hr
 refine nS ?_
 revert h;refine gf (fun hc h=>?_) fun hc h=>?_
 rotate_left
 ·refine j _ _ (qn ?_)
  refine AWP.cond (Ah ?_)
  refine sq (ar rfl (qn (rt (qr (br (qr (qr ?_)))))))
  obtain rfl:=Aa h
  obtain rfl:=Ae hJ0
  replace h:=Al hO0
  refine br (qr ?_)
  cases h;exact en Tryz.results154
 obtain⟨y4,hy4,h⟩:=Af h
 refine An.pure Tryz.call238 (Cb x_2.Operator 1 8 hy4) rfl fun _ hr=>?_
 subst hr
 refine nS ?_
 revert h;refine gf (fun hc h=>?_) fun hc h=>?_
 rotate_left
 ·refine j _ _ (qn ?_)
  refine AWP.cond (Ah ?_)
  refine sq (ar rfl (qn (rt (qr (br (qr (qr ?_)))))))
  obtain rfl:=Aa h
  obtain rfl:=Ae hJ0
  replace h:=Al hO0
  refine br (qr ?_)
  cases h;exact en Tryz.results154
 obtain⟨y5,hy5,h⟩:=Af h
 refine An.pure Tryz.call238 (Cb x_2.Length 10 6000 hy5) rfl fun _ hr=>?_
 subst hr
 refine nS ?_
 revert h;refine gf (fun hc h=>?_) fun hc h=>?_
 rotate_left
 ·refine j _ _ (qn ?_)
  refine AWP.cond (Ah ?_)
  refine sq (ar rfl (qn (rt (qr (br (qr (qr ?_)))))))
  obtain rfl:=Aa h
  obtain rfl:=Ae hJ0
  replace h:=Al hO0
  refine br (qr ?_)
  cases h;exact en Tryz.results154
 obtain⟨y6,hy6,h⟩:=Af h
 refine An.pure Tryz.call238 (Cb x_2.Speed 500 12000 hy6) rfl fun _ hr=>?_
 subst hr
 refine nS ?_
 revert h;refine gf (fun hc h=>?_) fun hc h=>?_
 rotate_left
 ·refine j _ _ (qn ?_)
  refine AWP.cond (Ah ?_)
  refine sq (ar rfl (qn (rt (qr (br (qr (qr ?_)))))))
  obtain rfl:=Aa h
  obtain rfl:=Ae hJ0
  replace h:=Al hO0
  refine br (qr ?_)
  cases h;exact en Tryz.results154
 obtain⟨y7,hy7,h⟩:=Af h
 refine An.pure Tryz.call238 (Cb x_2.Seats 1 16 hy7) rfl fun _ hr=>?_
 subst hr
 refine nS ?_
 revert h;refine gf (fun hc h=>?_) fun hc h=>?_
 rotate_left
 ·refine j _ _ (qn ?_)
  refine AWP.cond (Ah ?_)
  refine sq (ar rfl (qn (rt (qr (br (qr (qr ?_)))))))
  obtain rfl:=Aa h
  obtain rfl:=Ae hJ0
  replace h:=Al hO0
  refine br (qr ?_)
  cases h;exact en Tryz.results154
 obtain⟨y8,hy8,h⟩:=Af h
 refine An.pure Tryz.call238 (Cb x_2.Spacing 5 1000 hy8) rfl fun _ hr=>?_
 subst hr
 refine nS ?_
 refine j _ _ (qn ?_)
 revert h;refine ca rfl (fun hc h=>?_) fun hc h=>?_
 ·refine sq (ar rfl (qn (rt (qr (br (qr (qr ?_)))))))
  obtain rfl:=Aa h
  obtain rfl:=Ae hJ0
  replace h:=Al hO0
  refine br (qr ?_)
  cases h;exact en Tryz.results154
 refine sk (qn ?_)
 refine AWP.Le (ι:=(Unit)×(Unit)) (fun zz=>[(1,.ptr 0 0),(4,.ptr 1 0),(10,.sl 8 (m.Lifts.map A7)),(11,.int .i64 ((m.Lifts.length:Nat):Int)),(12,.int .i64 ((k0:Nat):Int))]) (fun zz=>[.box [.sl 2 (m.Nodes.map A6),.sl 8 (m.Lifts.map A7),.sl 7 (m.Runs.map Bc),.sl 1 (m.Bases.map A2)],.box [.int .i64 x_2.ID,.int .i64 x_2.Operator,.int .i64 x_2.From,.int .i64 x_2.To,.int .i64 x_2.Length,.int .i64 x_2.Speed,.int .i64 x_2.Seats,.int .i64 x_2.Spacing]]) (fun zz=>F7 m x_2=some b0) (fun zz=>⟨rfl,rfl,rfl⟩) ?_ ?_
 ·refine sq ?_
  refine AWP.draw Tryz.mixed (by kernel_rfl) ?_;intro K j
  refine nS ?_
  revert h;refine gt (fun hc h=>?_) fun hc h=>?_
  ·obtain⟨x_13,hx_13,h⟩:=Af h
   refine Bn.of (f:=A7) (l:=m.Lifts) hx_13 ?_
   refine nS ?_
   refine j _ _ _ (by kernel_rfl) ?_
   refine qn ?_
   revert h;refine ca rfl (fun hc h=>?_) fun hc h=>?_
   ·refine sq (ar rfl (qn (rt (qr (br (qr (qr ?_)))))))
    obtain rfl:=Aa h
    obtain rfl:=Ae hJ0
    replace h:=Al hO0
    refine br (qr ?_)
    cases h;exact en Tryz.results154
   refine sk (qn ?_)
   exact⟨((),()),h,cu,cu⟩
  refine j _ _ _ (by kernel_rfl) ?_
  refine qn ?_
  refine AWP.cond (Bk ?_)
  refine sk (qn ?_)
  exact⟨((),()),h,cu,cu⟩
 rintro⟨⟨⟩,⟨⟩⟩ h
 try dsimp only at h ⊢
 unfold F7 at h;try dsimp only at h
 refine sq ?_
 refine rg rfl fun K j=>?_
 obtain⟨y10,hy10,h⟩:=Af h
 refine An.pure Tryz.call96 (Dl m x_2.From hy10) rfl fun _ hr=>?_
 subst hr
 refine nS ?_
 refine j _ _ (qn (sq ?_))
 refine rg rfl fun K j=>?_
 obtain⟨y11,hy11,h⟩:=Af h
 refine An.pure Tryz.call96 (Dl m x_2.To hy11) rfl fun _ hr=>?_
 subst hr
 refine nS ?_
 refine j _ _ (qn (sq (sq ?_)))
 refine rg rfl fun K j=>?_
 revert h;refine gf (fun hc h=>?_) fun hc h=>?_
 rotate_left
 ·refine j _ _ (qn ?_)
  refine AWP.cond (Ah ?_)
  refine sq (ar rfl (qn (rt (qr (br (qr (qr ?_)))))))
  obtain rfl:=Aa h
  obtain rfl:=Ae hJ0
  replace h:=Al hO0
  refine br (qr ?_)
  cases h;exact en Tryz.results154
 refine j _ _ (qn ?_)
 revert h;refine ca rfl (fun hc h=>?_) fun hc h=>?_
 ·refine sq (ar rfl (qn (rt (qr (br (qr (qr ?_)))))))
  obtain rfl:=Aa h
  obtain rfl:=Ae hJ0
  replace h:=Al hO0
  refine br (qr ?_)
  cases h;exact en Tryz.results154
 refine sk (qn (sq (sq (ar rfl (qn ?_)))))
 revert h;refine ca rfl (fun hc h=>?_) fun hc h=>?_
 ·refine sq (ar rfl (qn (rt (qr (br (qr (qr ?_)))))))
  obtain rfl:=Aa h
  obtain rfl:=Ae hJ0
  replace h:=Al hO0
  refine br (qr ?_)
  cases h;exact en Tryz.results154
 refine sk (qn (sq ?_))
 refine rg rfl fun K j=>?_
 obtain⟨hk,h⟩:=nA h
 refine⟨hk,?_⟩
 revert h;refine gf (fun hc h=>?_) fun hc h=>?_
 ·obtain⟨hk,h⟩:=nA h
  refine⟨hk,?_⟩
  obtain⟨y12,hy12,h⟩:=Af h
  refine An.pure Tryz.call238 (Cb (IntKind.i64.wrap (Int.tdiv (IntKind.i64.wrap (2*x_2.Length)) x_2.Spacing)) 1 200 hy12) rfl fun _ hr=>?_
  subst hr
  refine nS ?_
  refine j _ _ (qn ?_)
  revert h;refine ca rfl (fun hc h=>?_) fun hc h=>?_
  ·refine sq (ar rfl (qn (rt (br (qr (qr ?_))))))
   obtain rfl:=Aa h
   obtain rfl:=Ae hJ0
   replace h:=Al hO0
   refine br (qr ?_)
   cases h;exact en Tryz.results154
  refine sk (bn (qn (ar rfl (qn ?_))))
  obtain rfl:=Aa h
  refine⟨(k0+1,(),()),⟨by dsimp only;omega,Ai hJ0⟩,by dsimp only;omega,?_,?_⟩
  ·exact cuw hw0
  exact cuw hw0
 refine j _ _ (qn ?_)
 refine AWP.cond (Ah ?_)
 refine sq (ar rfl (qn (rt (br (qr (qr ?_))))))
 obtain rfl:=Aa h
 obtain rfl:=Ae hJ0
 replace h:=Al hO0
 refine br (qr ?_)
 cases h;exact en Tryz.results154
def J5 (m:Bb) (k0:Nat) (x_2:Ce) (sv:Unit):Option (Out (Unit) (Int)):=
 (Cs x_2.ID 1 9999).bind fun y3=>(bif (!y3)then some (Out.ret 2)else (Cs x_2.Operator 1 8).bind fun y4=>(bif (!y4)then some (Out.ret 2)else (Cs x_2.Grade 1 4).bind fun y5=>(bif (!y5)then some (Out.ret 2)else (Cs x_2.Zone 1 32).bind fun y6=>(bif (!y6)then some (Out.ret 2)else (Cs x_2.Length 10 20000).bind fun y7=>(bif (!y7)then some (Out.ret 2)else (bif (decide (0<((k0:Nat):Int)))then (Dk m.Runs (IntKind.i64.wrap (((k0:Nat):Int) - 1))).bind fun x_8=>(bif (decide (x_2.ID≤x_8.ID))then some (Out.ret 7)else (Dx m x_2.From).bind fun y9=>(Dx m x_2.To).bind fun y10=>(bif (!y9.2)then some (Out.ret 8)else (bif (!y10.2)then some (Out.ret 8)else (bif (decide (y9.1.Alt≤y10.1.Alt))then some (Out.ret 11)else some (Out.next ())))))else (Dx m x_2.From).bind fun y11=>(Dx m x_2.To).bind fun y12=>(bif (!y11.2)then some (Out.ret 8)else (bif (!y12.2)then some (Out.ret 8)else (bif (decide (y11.1.Alt≤y12.1.Alt))then some (Out.ret 11)else some (Out.next ()))))))))))
def Np (m:Bb):Option (Int):=
 (Am (J5 m) 0 m.Runs ()).bind fun o0=>o0.on fun s0=>some 0
theorem Ur (m:Bb) {r:Int} (h:Np m=some r):Ad Tryz.prog 155 [.agg (Cd m)] (·= .int .i64 r):=by
 refine Ad.nle (Ad.intro Tryz.func155 rfl rfl (by show _≤85;simp) ?_)
 unfold Np at h
 refine nS (sq ?_)
 refine ar rfl (qn (sq (sq ?_)))
 refine rg rfl fun K j=>?_
 intro hm
 refine j _ _ (qn (bk ?_))
 obtain⟨o0,hJ0,hO0⟩:=Af h
 clear h
 refine AWP.Bw (ι:=Nat×(Unit)×(Unit)) (fun zz=>[(1,.ptr 0 0),(10,.sl 7 (m.Runs.map Bc)),(11,.int .i64 ((m.Runs.length:Nat):Int)),(12,.int .i64 ((zz.1:Nat):Int))]) (fun zz=>[.box [.sl 2 (m.Nodes.map A6),.sl 8 (m.Lifts.map A7),.sl 7 (m.Runs.map Bc),.sl 1 (m.Bases.map A2)]]) (fun zz=>zz.1≤m.Runs.length∧Am (J5 m) zz.1 ((m.Runs).drop zz.1) zz.2.1=some o0) (fun zz=>m.Runs.length - zz.1) (0,(),()) ⟨Nat.zero_le _,hJ0⟩ cu cu (fun x=>⟨rfl,rfl,rfl⟩) ?_
 clear hJ0
 rintro⟨k0,⟨⟩,⟨⟩⟩ ⟨hk0,hJ0⟩
 dsimp only at hk0 hJ0 ⊢
 refine sq (ar rfl (qn (sq ?_)))
 refine AWP.cond (Ak (fun hc=>?_) (fun hc=>?_))
 rotate_left
 ·obtain rfl:=Bf hJ0 (fun hl=>by have:=Aiz hc;omega)
  have h:=Be hO0;try dsimp only at h
  have hkl:m.Runs.length=k0:=by have:=Aiz hc;omega
  subst hkl
  refine xt (qe (qe (bs (qn (sq (ar rfl (qn (rt ?_))))))))
  cases h;exact en Tryz.results155
 have hlt0:k0<m.Runs.length:=by have:=Ai0 hc;omega
 obtain⟨x_2,b0,hx0_,h,hJ0⟩:=A9 hJ0 hlt0
 have hx0:=Ay hx0_
 have hw0:=wk (k:=k0) (by omega)
 unfold J5 at h;try dsimp only at h
 refine sk (qn (sq (bk (sq ?_))))
 refine rg rfl fun K j=>?_
 refine Bn.of (f:=Bc) (l:=m.Runs) hx0 ?_
 refine nS ?_
 refine j _ _ (qn (sq (sq ?_)))
 refine rg rfl fun K j=>?_
 obtain⟨y3,hy3,h⟩:=Af h
 refine An.pure Tryz.call238 (Cb x_2.ID 1 9999 hy3) rfl fun _ hr=>?_
 subst hr
 refine nS ?_
 revert h;refine gf (fun hc h=>?_) fun hc h=>?_
 rotate_left
 ·refine j _ _ (qn ?_)
  refine AWP.cond (Ah ?_)
  refine sq (ar rfl (qn (rt (qr (br (qr (qr ?_)))))))
  obtain rfl:=Aa h
  obtain rfl:=Ae hJ0
  replace h:=Al hO0
  refine br (qr ?_)
  cases h;exact en Tryz.results155
 obtain⟨y4,hy4,h⟩:=Af h
 refine An.pure Tryz.call238 (Cb x_2.Operator 1 8 hy4) rfl fun _ hr=>?_
 subst hr
 refine nS ?_
 revert h;refine gf (fun hc h=>?_) fun hc h=>?_
 rotate_left
 ·refine j _ _ (qn ?_)
  refine AWP.cond (Ah ?_)
  refine sq (ar rfl (qn (rt (qr (br (qr (qr ?_)))))))
  obtain rfl:=Aa h
  obtain rfl:=Ae hJ0
  replace h:=Al hO0
  refine br (qr ?_)
  cases h;exact en Tryz.results155
 obtain⟨y5,hy5,h⟩:=Af h
 refine An.pure Tryz.call238 (Cb x_2.Grade 1 4 hy5) rfl fun _ hr=>?_
 subst hr
 refine nS ?_
 revert h;refine gf (fun hc h=>?_) fun hc h=>?_
 rotate_left
 ·refine j _ _ (qn ?_)
  refine AWP.cond (Ah ?_)
  refine sq (ar rfl (qn (rt (qr (br (qr (qr ?_)))))))
  obtain rfl:=Aa h
  obtain rfl:=Ae hJ0
  replace h:=Al hO0
  refine br (qr ?_)
  cases h;exact en Tryz.results155
 obtain⟨y6,hy6,h⟩:=Af h
 refine An.pure Tryz.call238 (Cb x_2.Zone 1 32 hy6) rfl fun _ hr=>?_
 subst hr
 refine nS ?_
 revert h;refine gf (fun hc h=>?_) fun hc h=>?_
 rotate_left
 ·refine j _ _ (qn ?_)
  refine AWP.cond (Ah ?_)
  refine sq (ar rfl (qn (rt (qr (br (qr (qr ?_)))))))
  obtain rfl:=Aa h
  obtain rfl:=Ae hJ0
  replace h:=Al hO0
  refine br (qr ?_)
  cases h;exact en Tryz.results155
 obtain⟨y7,hy7,h⟩:=Af h
 refine An.pure Tryz.call238 (Cb x_2.Length 10 20000 hy7) rfl fun _ hr=>?_
 subst hr
 refine nS ?_
 refine j _ _ (qn ?_)
 revert h;refine ca rfl (fun hc h=>?_) fun hc h=>?_
 ·refine sq (ar rfl (qn (rt (qr (br (qr (qr ?_)))))))
  obtain rfl:=Aa h
  obtain rfl:=Ae hJ0
  replace h:=Al hO0
  refine br (qr ?_)
  cases h;exact en Tryz.results155
 refine sk (qn (sq (sq ?_)))
 refine AWP.draw Tryz.mixed (by kernel_rfl) ?_;intro K j
 refine nS ?_
 revert h;refine gt (fun hc h=>?_) fun hc h=>?_
 ·obtain⟨x_8,hx_8,h⟩:=Af h
  refine Bn.of (f:=Bc) (l:=m.Runs) hx_8 ?_
  refine nS ?_
  refine j _ _ _ (by kernel_rfl) ?_
  refine qn ?_
  revert h;refine ca rfl (fun hc h=>?_) fun hc h=>?_
  ·refine sq (ar rfl (qn (rt (qr (br (qr (qr ?_)))))))
   obtain rfl:=Aa h
   obtain rfl:=Ae hJ0
   replace h:=Al hO0
   refine br (qr ?_)
   cases h;exact en Tryz.results155
  refine sk (qn (sq ?_))
  refine rg rfl fun K j=>?_
  obtain⟨y9,hy9,h⟩:=Af h
  refine An.pure Tryz.call96 (Dl m x_2.From hy9) rfl fun _ hr=>?_
  subst hr
  refine nS ?_
  refine j _ _ (qn (sq ?_))
  refine rg rfl fun K j=>?_
  obtain⟨y10,hy10,h⟩:=Af h
  refine An.pure Tryz.call96 (Dl m x_2.To hy10) rfl fun _ hr=>?_
  subst hr
  refine nS ?_
  refine j _ _ (qn (sq (sq ?_)))
  refine rg rfl fun K j=>?_
  revert h;refine gf (fun hc h=>?_) fun hc h=>?_
  ·refine j _ _ (qn ?_)
   revert h;refine ca rfl (fun hc h=>?_) fun hc h=>?_
   ·refine sq (ar rfl (qn (rt (qr (br (qr (qr ?_)))))))
    obtain rfl:=Aa h
    obtain rfl:=Ae hJ0
    replace h:=Al hO0
    refine br (qr ?_)
    cases h;exact en Tryz.results155
   refine sk (qn (sq (ar rfl (qn ?_))))
   revert h;refine ca rfl (fun hc h=>?_) fun hc h=>?_
   ·refine sq (ar rfl (qn (rt (br (qr (qr ?_))))))
    obtain rfl:=Aa h
    obtain rfl:=Ae hJ0
    replace h:=Al hO0
    refine br (qr ?_)
    cases h;exact en Tryz.results155
   refine sk (bn (qn (ar rfl (qn ?_))))
   obtain rfl:=Aa h
   refine⟨(k0+1,(),()),⟨by dsimp only;omega,Ai hJ0⟩,by dsimp only;omega,?_,?_⟩
   ·exact cuw hw0
   exact cuw hw0
  refine j _ _ (qn ?_)
  refine AWP.cond (Ah ?_)
  refine sq (ar rfl (qn (rt (qr (br (qr (qr ?_)))))))
  obtain rfl:=Aa h
  obtain rfl:=Ae hJ0
  replace h:=Al hO0
  refine br (qr ?_)
  cases h;exact en Tryz.results155
 refine j _ _ _ (by kernel_rfl) ?_
 refine qn ?_
 refine AWP.cond (Bk ?_)
 refine sk (qn (sq ?_))
 refine rg rfl fun K j=>?_
 obtain⟨y11,hy11,h⟩:=Af h
 refine An.pure Tryz.call96 (Dl m x_2.From hy11) rfl fun _ hr=>?_
 subst hr
 refine nS ?_
 refine j _ _ (qn (sq ?_))
 refine rg rfl fun K j=>?_
 obtain⟨y12,hy12,h⟩:=Af h
 refine An.pure Tryz.call96 (Dl m x_2.To hy12) rfl fun _ hr=>?_
 subst hr
 refine nS ?_
 refine j _ _ (qn (sq (sq ?_)))
 refine rg rfl fun K j=>?_
 revert h;refine gf (fun hc h=>?_) fun hc h=>?_
 ·refine j _ _ (qn ?_)
  revert h;refine ca rfl (fun hc h=>?_) fun hc h=>?_
  ·refine sq (ar rfl (qn (rt (qr (br (qr (qr ?_)))))))
   obtain rfl:=Aa h
   obtain rfl:=Ae hJ0
   replace h:=Al hO0
   refine br (qr ?_)
   cases h;exact en Tryz.results155
  refine sk (qn (sq (ar rfl (qn ?_))))
  revert h;refine ca rfl (fun hc h=>?_) fun hc h=>?_
  ·refine sq (ar rfl (qn (rt (br (qr (qr ?_))))))
   obtain rfl:=Aa h
   obtain rfl:=Ae hJ0
   replace h:=Al hO0
   refine br (qr ?_)
   cases h;exact en Tryz.results155
  refine sk (bn (qn (ar rfl (qn ?_))))
  obtain rfl:=Aa h
  refine⟨(k0+1,(),()),⟨by dsimp only;omega,Ai hJ0⟩,by dsimp only;omega,?_,?_⟩
  ·exact cuw hw0
  exact cuw hw0
 refine j _ _ (qn ?_)
 refine AWP.cond (Ah ?_)
 refine sq (ar rfl (qn (rt (qr (br (qr (qr ?_)))))))
 obtain rfl:=Aa h
 obtain rfl:=Ae hJ0
 replace h:=Al hO0
 refine br (qr ?_)
 cases h;exact en Tryz.results155
def Jk (m:Bb) (k1:Nat) (x_3:Int) (sv:Unit):Option (Out (Unit) (Int)):=
 (bif (decide (0<((k1:Nat):Int)))then (Dk m.Bases (IntKind.i64.wrap (((k1:Nat):Int) - 1))).bind fun x_4=>(bif (decide (x_3≤x_4))then some (Out.ret 7)else some (Out.next ()))else some (Out.next ()))
def Ji (m:Bb):Option (Int):=
 (Am (Jk m) 0 m.Bases ()).bind fun o1=>o1.on fun s1=>some 0
def Jj (m:Bb) (k4:Nat) (x_6:Int) (sv:Unit):Option (Out (Unit) (Int)):=
 (Dx m x_6).bind fun y7=>(bif (!y7.2)then some (Out.ret 8)else some (Out.next ()))
def Mx (m:Bb):Option (Int):=
 (bif (decide (((m.Bases.length:Nat):Int)=0))then some 8 else(Am (Jj m) 0 m.Bases ()).bind fun o4=>o4.on fun s4=>Ji m)
theorem T7 (m:Bb) {r:Int} (h:Mx m=some r):Ad Tryz.prog 156 [.agg (Cd m)] (·= .int .i64 r):=by
 refine Ad.nle (Ad.intro Tryz.func156 rfl rfl (by show _≤50;simp) ?_)
 unfold Mx at h
 refine nS (sq ?_)
 refine ar rfl (qn (sq (sq ?_)))
 refine rg rfl fun K j=>?_
 intro hm
 refine j _ _ (qn ?_)
 revert h;refine ca rfl (fun hc h=>?_) fun hc h=>?_
 ·refine sq (ar rfl (qn (rt (qr ?_))))
  cases h;exact en Tryz.results156
 refine sk (qn ?_)
 refine AWP.Le (ι:=(Unit)×(Unit)) (fun zz=>[(1,.ptr 0 0)]) (fun zz=>[.box [.sl 2 (m.Nodes.map A6),.sl 8 (m.Lifts.map A7),.sl 7 (m.Runs.map Bc),.sl 1 (m.Bases.map A2)]]) (fun zz=>Ji m=some r) (fun zz=>⟨rfl,rfl,rfl⟩) ?_ ?_
 ·refine sq ?_
  refine rg rfl fun K j=>?_
  intro hm
  refine j _ _ (qn (bk ?_))
  obtain⟨o4,hJ4,hO4⟩:=Af h
  clear h
  refine AWP.Bw (ι:=Nat×(Unit)×(Unit)) (fun zz=>[(1,.ptr 0 0),(14,.sl 1 (m.Bases.map A2)),(15,.int .i64 ((m.Bases.length:Nat):Int)),(16,.int .i64 ((zz.1:Nat):Int))]) (fun zz=>[.box [.sl 2 (m.Nodes.map A6),.sl 8 (m.Lifts.map A7),.sl 7 (m.Runs.map Bc),.sl 1 (m.Bases.map A2)]]) (fun zz=>zz.1≤m.Bases.length∧Am (Jj m) zz.1 ((m.Bases).drop zz.1) zz.2.1=some o4) (fun zz=>m.Bases.length - zz.1) (0,(),()) ⟨Nat.zero_le _,hJ4⟩ cu cu (fun x=>⟨rfl,rfl,rfl⟩) ?_
  clear hJ4
  rintro⟨k4,⟨⟩,⟨⟩⟩ ⟨hk4,hJ4⟩
  dsimp only at hk4 hJ4 ⊢
  refine sq (ar rfl (qn (sq ?_)))
  refine AWP.cond (Ak (fun hc=>?_) (fun hc=>?_))
  rotate_left
  ·obtain rfl:=Bf hJ4 (fun hl=>by have:=Aiz hc;omega)
   have h:=Be hO4;try dsimp only at h
   have hkl:m.Bases.length=k4:=by have:=Aiz hc;omega
   subst hkl
   refine xt (qe (qe (bs (qn ?_))))
   exact⟨((),()),h,cu,cu⟩
  have hlt4:k4<m.Bases.length:=by have:=Ai0 hc;omega
  obtain⟨x_6,b4,hx4_,h,hJ4⟩:=A9 hJ4 hlt4
  have hx4:=Ay hx4_
  have hw4:=wk (k:=k4) (by omega)
  unfold Jj at h;try dsimp only at h
  refine sk (qn (sq (bk (sq ?_))))
  refine rg rfl fun K j=>?_
  refine Bn.of (f:=A2) (l:=m.Bases) hx4 ?_
  refine nS ?_
  refine j _ _ (qn (sq ?_))
  refine rg rfl fun K j=>?_
  obtain⟨y7,hy7,h⟩:=Af h
  refine An.pure Tryz.call96 (Dl m x_6 hy7) rfl fun _ hr=>?_
  subst hr
  refine nS ?_
  refine j _ _ (qn (sq ?_))
  refine ar rfl (qn ?_)
  revert h;refine ca rfl (fun hc h=>?_) fun hc h=>?_
  ·refine sq (ar rfl (qn (rt (br (qr (qr ?_))))))
   obtain rfl:=Aa h
   obtain rfl:=Ae hJ4
   replace h:=Al hO4
   refine br (qr ?_)
   cases h;exact en Tryz.results156
  refine sk (bn (qn (ar rfl (qn ?_))))
  obtain rfl:=Aa h
  refine⟨(k4+1,(),()),⟨by dsimp only;omega,Ai hJ4⟩,by dsimp only;omega,?_,?_⟩
  ·exact cuw hw4
  exact cuw hw4
 rintro⟨⟨⟩,⟨⟩⟩ h
 try dsimp only at h ⊢
 unfold Ji at h;try dsimp only at h
 refine sq (sq ?_)
 refine rg rfl fun K j=>?_
 intro hm
 refine j _ _ (qn (bk ?_))
 obtain⟨o1,hJ1,hO1⟩:=Af h
 clear h
 refine AWP.Bw (ι:=Nat×(Unit)×(Unit)) (fun zz=>[(1,.ptr 0 0),(30,.sl 1 (m.Bases.map A2)),(31,.int .i64 ((m.Bases.length:Nat):Int)),(32,.int .i64 ((zz.1:Nat):Int))]) (fun zz=>[.box [.sl 2 (m.Nodes.map A6),.sl 8 (m.Lifts.map A7),.sl 7 (m.Runs.map Bc),.sl 1 (m.Bases.map A2)]]) (fun zz=>zz.1≤m.Bases.length∧Am (Jk m) zz.1 ((m.Bases).drop zz.1) zz.2.1=some o1) (fun zz=>m.Bases.length - zz.1) (0,(),()) ⟨Nat.zero_le _,hJ1⟩ cu cu (fun x=>⟨rfl,rfl,rfl⟩) ?_
 clear hJ1
 rintro⟨k1,⟨⟩,⟨⟩⟩ ⟨hk1,hJ1⟩
 dsimp only at hk1 hJ1 ⊢
 refine sq (ar rfl (qn (sq ?_)))
 refine AWP.cond (Ak (fun hc=>?_) (fun hc=>?_))
 rotate_left
 ·obtain rfl:=Bf hJ1 (fun hl=>by have:=Aiz hc;omega)
  have h:=Be hO1;try dsimp only at h
  have hkl:m.Bases.length=k1:=by have:=Aiz hc;omega
  subst hkl
  refine xt (qe (qe (bs (qn (sq (ar rfl (qn (rt ?_))))))))
  cases h;exact en Tryz.results156
 have hlt1:k1<m.Bases.length:=by have:=Ai0 hc;omega
 obtain⟨x_3,b1,hx1_,h,hJ1⟩:=A9 hJ1 hlt1
 have hx1:=Ay hx1_
 have hw1:=wk (k:=k1) (by omega)
 unfold Jk at h;try dsimp only at h
 refine sk (qn (sq (bk (sq ?_))))
 refine rg rfl fun K j=>?_
 refine Bn.of (f:=A2) (l:=m.Bases) hx1 ?_
 refine nS ?_
 refine j _ _ (qn (sq ?_))
 refine rg rfl fun K j=>?_
 revert h;refine gt (fun hc h=>?_) fun hc h=>?_
 ·obtain⟨x_4,hx_4,h⟩:=Af h
  refine Bn.of (f:=A2) (l:=m.Bases) hx_4 ?_
  refine nS ?_
  refine j _ _ (qn ?_)
  revert h;refine ca rfl (fun hc h=>?_) fun hc h=>?_
  ·refine sq (ar rfl (qn (rt (br (qr (qr ?_))))))
   obtain rfl:=Aa h
   obtain rfl:=Ae hJ1
   replace h:=Al hO1
   refine br (qr ?_)
   cases h;exact en Tryz.results156
  refine sk (bn (qn (ar rfl (qn ?_))))
  obtain rfl:=Aa h
  refine⟨(k1+1,(),()),⟨by dsimp only;omega,Ai hJ1⟩,by dsimp only;omega,?_,?_⟩
  ·exact cuw hw1
  exact cuw hw1
 refine j _ _ (qn ?_)
 refine AWP.cond (Bk ?_)
 refine sk (bn (qn (ar rfl (qn ?_))))
 obtain rfl:=Aa h
 refine⟨(k1+1,(),()),⟨by dsimp only;omega,Ai hJ1⟩,by dsimp only;omega,?_,?_⟩
 ·exact cuw hw1
 exact cuw hw1
def Lz (m:Bb):Option (Int):=
 (bif (decide (64<((m.Nodes.length:Nat):Int)))then some 4 else(bif (decide (32<((m.Lifts.length:Nat):Int)))then some 4 else(bif (decide (64<((m.Runs.length:Nat):Int)))then some 4 else(bif (decide (64<((m.Bases.length:Nat):Int)))then some 4 else(Mv m).bind fun y1=>(bif (decide (y1≠0))then some y1 else(Mw m).bind fun y2=>(bif (decide (y2≠0))then some y2 else(Np m).bind fun y3=>(bif (decide (y3≠0))then some y3 else(Mx m).bind fun y4=>some y4)))))))
theorem Y3 (m:Bb) {r:Int} (h:Lz m=some r):Ad Tryz.prog 74 [.agg (Cd m)] (·= .int .i64 r):=by
 refine Ad.nle (Ad.intro Tryz.func74 rfl rfl (by show _≤45;simp) ?_)
 unfold Lz at h
 refine nS (sq ?_)
 refine ar rfl (qn (sq (sq ?_)))
 refine rg rfl fun K j=>?_
 intro hm
 revert h;refine gf (fun hc h=>?_) fun hc h=>?_
 rotate_left
 ·refine j _ _ (qn ?_)
  refine AWP.cond (Ah ?_)
  refine sq (ar rfl (qn (rt (qr ?_))))
  cases h;exact en Tryz.results74
 intro hm
 revert h;refine gf (fun hc h=>?_) fun hc h=>?_
 rotate_left
 ·refine j _ _ (qn ?_)
  refine AWP.cond (Ah ?_)
  refine sq (ar rfl (qn (rt (qr ?_))))
  cases h;exact en Tryz.results74
 intro hm
 revert h;refine gf (fun hc h=>?_) fun hc h=>?_
 rotate_left
 ·refine j _ _ (qn ?_)
  refine AWP.cond (Ah ?_)
  refine sq (ar rfl (qn (rt (qr ?_))))
  cases h;exact en Tryz.results74
 intro hm
 refine j _ _ (qn ?_)
 revert h;refine ca rfl (fun hc h=>?_) fun hc h=>?_
 ·refine sq (ar rfl (qn (rt (qr ?_))))
  cases h;exact en Tryz.results74
 refine sk (qn (sq (sq ?_)))
 refine rg rfl fun K j=>?_
 obtain⟨y1,hy1,h⟩:=Af h
 refine An.pure Tryz.call153 (T5 m hy1) rfl fun _ hr=>?_
 subst hr
 refine nS ?_
 refine j _ _ (qn (sq ?_))
 refine ar rfl (qn ?_)
 revert h;refine ca rfl (fun hc h=>?_) fun hc h=>?_
 ·refine sq (ar rfl (qn (rt (qr ?_))))
  cases h;exact en Tryz.results74
 refine sk (qn (sq (sq ?_)))
 refine rg rfl fun K j=>?_
 obtain⟨y2,hy2,h⟩:=Af h
 refine An.pure Tryz.call154 (T6 m hy2) rfl fun _ hr=>?_
 subst hr
 refine nS ?_
 refine j _ _ (qn (sq ?_))
 refine ar rfl (qn ?_)
 revert h;refine ca rfl (fun hc h=>?_) fun hc h=>?_
 ·refine sq (ar rfl (qn (rt (qr ?_))))
  cases h;exact en Tryz.results74
 refine sk (qn (sq (sq ?_)))
 refine rg rfl fun K j=>?_
 obtain⟨y3,hy3,h⟩:=Af h
 refine An.pure Tryz.call155 (Ur m hy3) rfl fun _ hr=>?_
 subst hr
 refine nS ?_
 refine j _ _ (qn (sq ?_))
 refine ar rfl (qn ?_)
 revert h;refine ca rfl (fun hc h=>?_) fun hc h=>?_
 ·refine sq (ar rfl (qn (rt (qr ?_))))
  cases h;exact en Tryz.results74
 refine sk (qn (sq ?_))
 refine rg rfl fun K j=>?_
 obtain⟨y4,hy4,h⟩:=Af h
 refine An.pure Tryz.call156 (T7 m hy4) rfl fun _ hr=>?_
 subst hr
 refine nS ?_
 refine j _ _ (qn (rt ?_))
 cases h;exact en Tryz.results74
def Mr (c:Bl):Option (Bool):=
 (bif (decide (1≤c.Kind))then (bif (decide (c.Kind≤3))then (bif (decide (1≤c.Target))then (bif (decide (c.Target≤9999))then (bif (decide (1≤c.By))then (bif (decide (c.By≤6))then (bif (decide (0≤c.Since))then some (decide (c.Since≤20000000))else some false)else some false)else some false)else some false)else some false)else some false)else some false)
theorem Xc (c:Bl) {r:Bool} (h:Mr c=some r):Ad Tryz.prog 157 [.agg (Au c)] (·= .bool r):=by
 refine Ad.nle (Ad.intro Tryz.func157 rfl rfl (by show _≤41;simp) ?_)
 unfold Mr at h
 refine nS (sq ?_)
 refine ar rfl (qn (sq ?_))
 refine rg rfl fun K j=>?_
 revert h;refine gt (fun hc h=>?_) fun hc h=>?_
 rotate_left
 ·refine j _ _ (qn (rt ?_))
  cases h;exact en Tryz.results157
 revert h;refine gt (fun hc h=>?_) fun hc h=>?_
 rotate_left
 ·refine j _ _ (qn (rt ?_))
  cases h;exact en Tryz.results157
 revert h;refine gt (fun hc h=>?_) fun hc h=>?_
 ·revert h;refine gt (fun hc h=>?_) fun hc h=>?_
  ·revert h;refine gt (fun hc h=>?_) fun hc h=>?_
   ·revert h;refine gt (fun hc h=>?_) fun hc h=>?_
    ·revert h;refine gt (fun hc h=>?_) fun hc h=>?_
     ·refine j _ _ (qn (rt ?_))
      cases h;exact en Tryz.results157
     refine j _ _ (qn (rt ?_))
     cases h;exact en Tryz.results157
    refine j _ _ (qn (rt ?_))
    cases h;exact en Tryz.results157
   refine j _ _ (qn (rt ?_))
   cases h;exact en Tryz.results157
  refine j _ _ (qn (rt ?_))
  cases h;exact en Tryz.results157
 refine j _ _ (qn (rt ?_))
 cases h;exact en Tryz.results157
def Jf (c:Bl):Option (M5):=
 some (M5.mk c.Kind c.Target c.By)
theorem R7 (c:Bl) {r:M5} (h:Jf c=some r):Ad Tryz.prog 159 [.agg (Au c)] (·= .agg (Tt r)):=by
 refine Ad.nle (Ad.intro Tryz.func159 rfl rfl (by show _≤10;simp) ?_)
 unfold Jf at h
 refine nS (sq ?_)
 refine ar rfl (qn (sq ?_))
 refine ar rfl (qn (rt ?_))
 cases h;exact en Tryz.results159
def I8 (k_:M5) (k0:Nat) (x_2:Bl) (sv:Unit):Option (Out (Unit) (Int)):=
 (Jf x_2).bind fun y3=>(bif ((decide (y3.kind=k_.kind))&&((decide (y3.target=k_.target))&&(decide (y3.by_=k_.by_))))then some (Out.ret ((k0:Nat):Int))else some (Out.next ()))
def Oh (l:List Bl) (k_:M5):Option (Int):=
 (Am (I8 k_) 0 l ()).bind fun o0=>o0.on fun s0=>some (-1)
theorem aP (l:List Bl) (k_:M5) {r:Int} (h:Oh l k_=some r):Ad Tryz.prog 158 [.sl 4 (l.map Au),.agg (Tt k_)] (·= .int .i64 r):=by
 refine Ad.nle (Ad.intro Tryz.func158 rfl rfl (by show _≤8;simp) ?_)
 unfold Oh at h
 refine nS (sq ?_)
 refine ar rfl (qn (sq ?_))
 refine rg rfl fun K j=>?_
 refine An.inline Tryz.call239 Tryz.func239 rfl rfl (by show _≤19;simp) ?_
 refine nS (sq ?_)
 refine ar rfl (qn (sq (sq ?_)))
 refine rg rfl fun K j=>?_
 intro hm
 refine j _ _ (qn (bk ?_));clear j K
 obtain⟨o0,hJ0,hO0⟩:=Af h
 clear h
 refine AWP.Bw (ι:=Nat×(Unit)×(Unit)) (fun zz=>[(0,.sl 4 (l.map Au)),(1,.func 240 [.ptr 0 0]),(7,.int .i64 ((l.length:Nat):Int)),(8,.int .i64 ((zz.1:Nat):Int))]) (fun zz=>[.box [.int .i64 k_.kind,.int .i64 k_.target,.int .i64 k_.by_]]) (fun zz=>zz.1≤l.length∧Am (I8 k_) zz.1 ((l).drop zz.1) zz.2.1=some o0) (fun zz=>l.length - zz.1) (0,(),()) ⟨Nat.zero_le _,hJ0⟩ cu cu (fun x=>⟨rfl,rfl,rfl⟩) ?_
 clear hJ0
 rintro⟨k0,⟨⟩,⟨⟩⟩ ⟨hk0,hJ0⟩
 dsimp only at hk0 hJ0 ⊢
 refine sq (ar rfl (qn (sq ?_)))
 refine AWP.cond (Ak (fun hc=>?_) (fun hc=>?_))
 rotate_left
 ·obtain rfl:=Bf hJ0 (fun hl=>by have:=Aiz hc;omega)
  have h:=Be hO0;try dsimp only at h
  have hkl:l.length=k0:=by have:=Aiz hc;omega
  subst hkl
  refine xt (qe (qe (bs (qn (sq (ar rfl (qn (rt ?_))))))))
  refine nSc Tryz.results239 ?_
  refine j _ _ (qn (rt ?_))
  cases h;exact en Tryz.results158
 have hlt0:k0<l.length:=by have:=Ai0 hc;omega
 obtain⟨x_2,b0,hx0_,h,hJ0⟩:=A9 hJ0 hlt0
 have hx0:=Ay hx0_
 have hw0:=wk (k:=k0) (by omega)
 unfold I8 at h;try dsimp only at h
 refine sk (qn (sq (bk (sq (ar rfl (qn (sq ?_)))))))
 refine rg rfl fun K j=>?_
 refine Bn.of (f:=Au) (l:=l) hx0 ?_
 refine nS ?_
 refine An.inline Tryz.call240 Tryz.func240 rfl rfl (by show _≤8;simp) ?_
 refine nS (sq ?_)
 refine ar rfl (qn (sq ?_))
 refine AWP.draw Tryz.mixed (by kernel_rfl) ?_;intro K j
 refine nS ?_
 obtain⟨y3,hy3,h⟩:=Af h
 refine B7.pure Tryz.call159 (R7 x_2 hy3) rfl ?_
 refine nS ?_
 refine j _ _ _ (by kernel_rfl) ?_;clear j K
 refine qn (rt (nSc Tryz.results240 ?_))
 refine j _ _ (qn ?_);clear j K
 revert h;refine ca rfl (fun hc h=>?_) fun hc h=>?_
 ·refine sq (ar rfl (qn (rt (br (qr (qr ?_))))))
  obtain rfl:=Aa h
  obtain rfl:=Ae hJ0
  replace h:=Al hO0
  refine br (qr (nSc Tryz.results239 ?_))
  refine j _ _ (qn (rt ?_))
  cases h;exact en Tryz.results158
 refine sk (bn (qn (ar rfl (qn ?_))))
 obtain rfl:=Aa h
 refine⟨(k0+1,(),()),⟨by dsimp only;omega,Ai hJ0⟩,by dsimp only;omega,?_,?_⟩
 ·exact cuw hw0
 exact cuw hw0
def Lp (l:List Bl) (k0:Nat) (x_2:Bl) (sv:Unit):Option (Out (Unit) (Int)):=
 (Mr x_2).bind fun y3=>(bif (!y3)then some (Out.ret 2)else okB (decide (0≤((k0:Nat):Int)∧((k0:Nat):Int)≤((l.length:Nat):Int))) ((Jf x_2).bind fun y4=>(Oh (l.take k0) y4).bind fun y5=>(bif (decide (0≤y5))then some (Out.ret 7)else some (Out.next ()))))
def Mf (l:List Bl):Option (Int):=
 (bif (decide (200<((l.length:Nat):Int)))then some 4 else(Am (Lp l) 0 l ()).bind fun o0=>o0.on fun s0=>some 0)
theorem Zo (l:List Bl) {r:Int} (h:Mf l=some r):Ad Tryz.prog 75 [.sl 4 (l.map Au)] (·= .int .i64 r):=by
 refine Ad.nle (Ad.intro Tryz.func75 rfl rfl (by show _≤26;simp) ?_)
 unfold Mf at h
 refine nS (sq ?_)
 refine ar rfl (qn (sq (sq ?_)))
 refine rg rfl fun K j=>?_
 intro hm
 refine j _ _ (qn ?_)
 revert h;refine ca rfl (fun hc h=>?_) fun hc h=>?_
 ·refine sq (ar rfl (qn (rt (qr ?_))))
  cases h;exact en Tryz.results75
 refine sk (qn (sq (sq ?_)))
 refine rg rfl fun K j=>?_
 intro hm
 refine j _ _ (qn (bk ?_))
 obtain⟨o0,hJ0,hO0⟩:=Af h
 clear h
 refine AWP.Bw (ι:=Nat×(Unit)×(Unit)) (fun zz=>[(0,.sl 4 (l.map Au)),(8,.sl 4 (l.map Au)),(9,.int .i64 ((l.length:Nat):Int)),(10,.int .i64 ((zz.1:Nat):Int))]) (fun zz=>[]) (fun zz=>zz.1≤l.length∧Am (Lp l) zz.1 ((l).drop zz.1) zz.2.1=some o0) (fun zz=>l.length - zz.1) (0,(),()) ⟨Nat.zero_le _,hJ0⟩ cu cu (fun x=>⟨rfl,rfl,rfl⟩) ?_
 clear hJ0
 rintro⟨k0,⟨⟩,⟨⟩⟩ ⟨hk0,hJ0⟩
 dsimp only at hk0 hJ0 ⊢
 refine sq (ar rfl (qn (sq ?_)))
 refine AWP.cond (Ak (fun hc=>?_) (fun hc=>?_))
 rotate_left
 ·obtain rfl:=Bf hJ0 (fun hl=>by have:=Aiz hc;omega)
  have h:=Be hO0;try dsimp only at h
  have hkl:l.length=k0:=by have:=Aiz hc;omega
  subst hkl
  refine xt (qe (qe (bs (qn (sq (ar rfl (qn (rt ?_))))))))
  cases h;exact en Tryz.results75
 have hlt0:k0<l.length:=by have:=Ai0 hc;omega
 obtain⟨x_2,b0,hx0_,h,hJ0⟩:=A9 hJ0 hlt0
 have hx0:=Ay hx0_
 have hw0:=wk (k:=k0) (by omega)
 unfold Lp at h;try dsimp only at h
 refine sk (qn (sq (bk (sq ?_))))
 refine rg rfl fun K j=>?_
 refine Bn.of (f:=Au) (l:=l) hx0 ?_
 refine nS ?_
 refine j _ _ (qn (sq (sq ?_)))
 refine rg rfl fun K j=>?_
 obtain⟨y3,hy3,h⟩:=Af h
 refine An.pure Tryz.call157 (Xc x_2 hy3) rfl fun _ hr=>?_
 subst hr
 refine nS ?_
 refine j _ _ (qn ?_)
 revert h;refine ca rfl (fun hc h=>?_) fun hc h=>?_
 ·refine sq (ar rfl (qn (rt (qr (br (qr (qr ?_)))))))
  obtain rfl:=Aa h
  obtain rfl:=Ae hJ0
  replace h:=Al hO0
  refine br (qr ?_)
  cases h;exact en Tryz.results75
 refine sk (qn (sq ?_))
 refine AWP.draw Tryz.mixed (by kernel_rfl) ?_;intro K j
 refine nS ?_
 obtain⟨hk,h⟩:=Jm h
 intro hm
 (repeat(refine⟨by omega,?_⟩))
 obtain⟨y4,hy4,h⟩:=Af h
 refine B7.pure Tryz.call159 (R7 x_2 hy4) rfl ?_
 refine nS ?_
 obtain⟨y5,hy5,h⟩:=Af h
 refine B7.pure Tryz.call158 (aP (l.take k0) y4 hy5) rfl ?_
 refine nS ?_
 refine j _ _ _ (by kernel_rfl) ?_
 refine qn ?_
 revert h;refine ca rfl (fun hc h=>?_) fun hc h=>?_
 ·refine sq (ar rfl (qn (rt (br (qr (qr ?_))))))
  obtain rfl:=Aa h
  obtain rfl:=Ae hJ0
  replace h:=Al hO0
  refine br (qr ?_)
  cases h;exact en Tryz.results75
 refine sk (bn (qn (ar rfl (qn ?_))))
 obtain rfl:=Aa h
 refine⟨(k0+1,(),()),⟨by dsimp only;omega,Ai hJ0⟩,by dsimp only;omega,?_,?_⟩
 ·exact cuw hw0
 exact cuw hw0
def Lm (l:Br) (k1:Nat) (x_3:Fl) (sv:Unit):Option (Out (Unit) (Int)):=
 (Bs l.Items x_3.Item).bind fun y4=>(bif (!y4)then some (Out.ret 8)else (bif (decide (x_3.By<1))then some (Out.ret 17)else (bif (decide (9999<x_3.By))then some (Out.ret 17)else (bif (decide (x_3.At<0))then some (Out.ret 2)else (bif (decide (20000000<x_3.At))then some (Out.ret 2)else (bif (decide (0<((k1:Nat):Int)))then (Dk l.Signs (IntKind.i64.wrap (((k1:Nat):Int) - 1))).bind fun x_5=>(bif (decide (x_3.At<x_5.At))then some (Out.ret 11)else some (Out.next ()))else some (Out.next ())))))))
def Lk (l:Br):Option (Int):=
 (Am (Lm l) 0 l.Signs ()).bind fun o1=>o1.on fun s1=>some 0
def Ll (l:Br) (k5:Nat) (x_7:Int) (sv:Unit):Option (Out (Unit) (Int)):=
 (bif (decide (x_7<1))then some (Out.ret 2)else (bif (decide (9999<x_7))then some (Out.ret 2)else okB (decide (0≤((k5:Nat):Int)∧((k5:Nat):Int)≤((l.Items.length:Nat):Int))) ((Bs (l.Items.take k5) x_7).bind fun y8=>(bif y8 then some (Out.ret 7)else some (Out.next ())))))
def Je (l:Br):Option (Int):=
 (bif (decide (64<((l.Items.length:Nat):Int)))then some 4 else(bif (decide (200<((l.Signs.length:Nat):Int)))then some 4 else(bif (decide (l.Every<1))then some 2 else(bif (decide (604800<l.Every))then some 2 else(Am (Ll l) 0 l.Items ()).bind fun o5=>o5.on fun s5=>Lk l))))
theorem Ry (l:Br) {r:Int} (h:Je l=some r):Ad Tryz.prog 160 [.agg (Fg l)] (·= .int .i64 r):=by
 refine Ad.nle (Ad.intro Tryz.func160 rfl rfl (by show _≤91;simp) ?_)
 unfold Je at h
 refine nS (sq ?_)
 refine ar rfl (qn (sq (sq ?_)))
 refine rg rfl fun K j=>?_
 intro hm
 revert h;refine gf (fun hc h=>?_) fun hc h=>?_
 rotate_left
 ·refine j _ _ (qn ?_)
  refine AWP.cond (Ah ?_)
  refine sq (ar rfl (qn (rt (qr ?_))))
  cases h;exact en Tryz.results160
 intro hm
 refine j _ _ (qn ?_)
 revert h;refine ca rfl (fun hc h=>?_) fun hc h=>?_
 ·refine sq (ar rfl (qn (rt (qr ?_))))
  cases h;exact en Tryz.results160
 refine sk (qn (sq (sq ?_)))
 refine rg rfl fun K j=>?_
 revert h;refine gf (fun hc h=>?_) fun hc h=>?_
 rotate_left
 ·refine j _ _ (qn ?_)
  refine AWP.cond (Ah ?_)
  refine sq (ar rfl (qn (rt (qr ?_))))
  cases h;exact en Tryz.results160
 refine j _ _ (qn ?_)
 revert h;refine ca rfl (fun hc h=>?_) fun hc h=>?_
 ·refine sq (ar rfl (qn (rt (qr ?_))))
  cases h;exact en Tryz.results160
 refine sk (qn ?_)
 refine AWP.Le (ι:=(Unit)×(Unit)) (fun zz=>[(1,.ptr 0 0)]) (fun zz=>[.box [.sl 1 (l.Items.map A2),.int .i64 l.Every,.sl 3 (l.Signs.map B9)]]) (fun zz=>Lk l=some r) (fun zz=>⟨rfl,rfl,rfl⟩) ?_ ?_
 ·refine sq ?_
  refine rg rfl fun K j=>?_
  intro hm
  refine j _ _ (qn (bk ?_))
  obtain⟨o5,hJ5,hO5⟩:=Af h
  clear h
  refine AWP.Bw (ι:=Nat×(Unit)×(Unit)) (fun zz=>[(1,.ptr 0 0),(26,.sl 1 (l.Items.map A2)),(27,.int .i64 ((l.Items.length:Nat):Int)),(28,.int .i64 ((zz.1:Nat):Int))]) (fun zz=>[.box [.sl 1 (l.Items.map A2),.int .i64 l.Every,.sl 3 (l.Signs.map B9)]]) (fun zz=>zz.1≤l.Items.length∧Am (Ll l) zz.1 ((l.Items).drop zz.1) zz.2.1=some o5) (fun zz=>l.Items.length - zz.1) (0,(),()) ⟨Nat.zero_le _,hJ5⟩ cu cu (fun x=>⟨rfl,rfl,rfl⟩) ?_
  clear hJ5
  rintro⟨k5,⟨⟩,⟨⟩⟩ ⟨hk5,hJ5⟩
  dsimp only at hk5 hJ5 ⊢
  refine sq (ar rfl (qn (sq ?_)))
  refine AWP.cond (Ak (fun hc=>?_) (fun hc=>?_))
  rotate_left
  ·obtain rfl:=Bf hJ5 (fun hl=>by have:=Aiz hc;omega)
   have h:=Be hO5;try dsimp only at h
   have hkl:l.Items.length=k5:=by have:=Aiz hc;omega
   subst hkl
   refine xt (qe (qe (bs (qn ?_))))
   exact⟨((),()),h,cu,cu⟩
  have hlt5:k5<l.Items.length:=by have:=Ai0 hc;omega
  obtain⟨x_7,b5,hx5_,h,hJ5⟩:=A9 hJ5 hlt5
  have hx5:=Ay hx5_
  have hw5:=wk (k:=k5) (by omega)
  unfold Ll at h;try dsimp only at h
  refine sk (qn (sq (bk (sq ?_))))
  refine rg rfl fun K j=>?_
  refine Bn.of (f:=A2) (l:=l.Items) hx5 ?_
  refine nS ?_
  refine j _ _ (qn (sq (sq ?_)))
  refine rg rfl fun K j=>?_
  revert h;refine gf (fun hc h=>?_) fun hc h=>?_
  rotate_left
  ·refine j _ _ (qn ?_)
   refine AWP.cond (Ah ?_)
   refine sq (ar rfl (qn (rt (qr (br (qr (qr ?_)))))))
   obtain rfl:=Aa h
   obtain rfl:=Ae hJ5
   replace h:=Al hO5
   refine br (qr ?_)
   cases h;exact en Tryz.results160
  refine j _ _ (qn ?_)
  revert h;refine ca rfl (fun hc h=>?_) fun hc h=>?_
  ·refine sq (ar rfl (qn (rt (qr (br (qr (qr ?_)))))))
   obtain rfl:=Aa h
   obtain rfl:=Ae hJ5
   replace h:=Al hO5
   refine br (qr ?_)
   cases h;exact en Tryz.results160
  refine sk (qn (sq ?_))
  refine rg rfl fun K j=>?_
  obtain⟨hk,h⟩:=Jm h
  intro hm
  (repeat(refine⟨by omega,?_⟩))
  obtain⟨y8,hy8,h⟩:=Af h
  refine An.pure Tryz.call54 (Bv (l.Items.take k5) x_7 hy8) rfl fun _ hr=>?_
  subst hr
  refine nS ?_
  refine j _ _ (qn ?_)
  revert h;refine ca rfl (fun hc h=>?_) fun hc h=>?_
  ·refine sq (ar rfl (qn (rt (br (qr (qr ?_))))))
   obtain rfl:=Aa h
   obtain rfl:=Ae hJ5
   replace h:=Al hO5
   refine br (qr ?_)
   cases h;exact en Tryz.results160
  refine sk (bn (qn (ar rfl (qn ?_))))
  obtain rfl:=Aa h
  refine⟨(k5+1,(),()),⟨by dsimp only;omega,Ai hJ5⟩,by dsimp only;omega,?_,?_⟩
  ·exact cuw hw5
  exact cuw hw5
 rintro⟨⟨⟩,⟨⟩⟩ h
 try dsimp only at h ⊢
 unfold Lk at h;try dsimp only at h
 refine sq (sq ?_)
 refine rg rfl fun K j=>?_
 intro hm
 refine j _ _ (qn (bk ?_))
 obtain⟨o1,hJ1,hO1⟩:=Af h
 clear h
 refine AWP.Bw (ι:=Nat×(Unit)×(Unit)) (fun zz=>[(1,.ptr 0 0),(47,.sl 3 (l.Signs.map B9)),(48,.int .i64 ((l.Signs.length:Nat):Int)),(49,.int .i64 ((zz.1:Nat):Int))]) (fun zz=>[.box [.sl 1 (l.Items.map A2),.int .i64 l.Every,.sl 3 (l.Signs.map B9)]]) (fun zz=>zz.1≤l.Signs.length∧Am (Lm l) zz.1 ((l.Signs).drop zz.1) zz.2.1=some o1) (fun zz=>l.Signs.length - zz.1) (0,(),()) ⟨Nat.zero_le _,hJ1⟩ cu cu (fun x=>⟨rfl,rfl,rfl⟩) ?_
 clear hJ1
 rintro⟨k1,⟨⟩,⟨⟩⟩ ⟨hk1,hJ1⟩
 dsimp only at hk1 hJ1 ⊢
 refine sq (ar rfl (qn (sq ?_)))
 refine AWP.cond (Ak (fun hc=>?_) (fun hc=>?_))
 rotate_left
 ·obtain rfl:=Bf hJ1 (fun hl=>by have:=Aiz hc;omega)
  have h:=Be hO1;try dsimp only at h
  have hkl:l.Signs.length=k1:=by have:=Aiz hc;omega
  subst hkl
  refine xt (qe (qe (bs (qn (sq (ar rfl (qn (rt ?_))))))))
  cases h;exact en Tryz.results160
 have hlt1:k1<l.Signs.length:=by have:=Ai0 hc;omega
 obtain⟨x_3,b1,hx1_,h,hJ1⟩:=A9 hJ1 hlt1
 have hx1:=Ay hx1_
 have hw1:=wk (k:=k1) (by omega)
 unfold Lm at h;try dsimp only at h
 refine sk (qn (sq (bk (sq ?_))))
 refine rg rfl fun K j=>?_
 refine Bn.of (f:=B9) (l:=l.Signs) hx1 ?_
 refine nS ?_
 refine j _ _ (qn (sq (sq ?_)))
 refine rg rfl fun K j=>?_
 obtain⟨y4,hy4,h⟩:=Af h
 refine An.pure Tryz.call54 (Bv l.Items x_3.Item hy4) rfl fun _ hr=>?_
 subst hr
 refine nS ?_
 refine j _ _ (qn ?_)
 revert h;refine ca rfl (fun hc h=>?_) fun hc h=>?_
 ·refine sq (ar rfl (qn (rt (qr (br (qr (qr ?_)))))))
  obtain rfl:=Aa h
  obtain rfl:=Ae hJ1
  replace h:=Al hO1
  refine br (qr ?_)
  cases h;exact en Tryz.results160
 refine sk (qn (sq (sq ?_)))
 refine rg rfl fun K j=>?_
 revert h;refine gf (fun hc h=>?_) fun hc h=>?_
 rotate_left
 ·refine j _ _ (qn ?_)
  refine AWP.cond (Ah ?_)
  refine sq (ar rfl (qn (rt (qr (br (qr (qr ?_)))))))
  obtain rfl:=Aa h
  obtain rfl:=Ae hJ1
  replace h:=Al hO1
  refine br (qr ?_)
  cases h;exact en Tryz.results160
 refine j _ _ (qn ?_)
 revert h;refine ca rfl (fun hc h=>?_) fun hc h=>?_
 ·refine sq (ar rfl (qn (rt (qr (br (qr (qr ?_)))))))
  obtain rfl:=Aa h
  obtain rfl:=Ae hJ1
  replace h:=Al hO1
  refine br (qr ?_)
  cases h;exact en Tryz.results160
 refine sk (qn (sq (sq ?_)))
 refine rg rfl fun K j=>?_
 revert h;refine gf (fun hc h=>?_) fun hc h=>?_
 rotate_left
 ·refine j _ _ (qn ?_)
  refine AWP.cond (Ah ?_)
  refine sq (ar rfl (qn (rt (qr (br (qr (qr ?_)))))))
  obtain rfl:=Aa h
  obtain rfl:=Ae hJ1
  replace h:=Al hO1
  refine br (qr ?_)
  cases h;exact en Tryz.results160
 refine j _ _ (qn ?_)
 revert h;refine ca rfl (fun hc h=>?_) fun hc h=>?_
 ·refine sq (ar rfl (qn (rt (qr (br (qr (qr ?_)))))))
  obtain rfl:=Aa h
  obtain rfl:=Ae hJ1
  replace h:=Al hO1
  refine br (qr ?_)
  cases h;exact en Tryz.results160
 refine sk (qn (sq ?_))
 refine AWP.draw Tryz.mixed (by kernel_rfl) ?_;intro K j
 refine nS ?_
 revert h;refine gt (fun hc h=>?_) fun hc h=>?_
 ·obtain⟨x_5,hx_5,h⟩:=Af h
  refine Bn.of (f:=B9) (l:=l.Signs) hx_5 ?_
  refine nS ?_
  refine j _ _ _ (by kernel_rfl) ?_
  refine qn ?_
  revert h;refine ca rfl (fun hc h=>?_) fun hc h=>?_
  ·refine sq (ar rfl (qn (rt (br (qr (qr ?_))))))
   obtain rfl:=Aa h
   obtain rfl:=Ae hJ1
   replace h:=Al hO1
   refine br (qr ?_)
   cases h;exact en Tryz.results160
  refine sk (bn (qn (ar rfl (qn ?_))))
  obtain rfl:=Aa h
  refine⟨(k1+1,(),()),⟨by dsimp only;omega,Ai hJ1⟩,by dsimp only;omega,?_,?_⟩
  ·exact cuw hw1
  exact cuw hw1
 refine j _ _ _ (by kernel_rfl) ?_
 refine qn ?_
 refine AWP.cond (Bk ?_)
 refine sk (bn (qn (ar rfl (qn ?_))))
 obtain rfl:=Aa h
 refine⟨(k1+1,(),()),⟨by dsimp only;omega,Ai hJ1⟩,by dsimp only;omega,?_,?_⟩
 ·exact cuw hw1
 exact cuw hw1
def Fu (id_:Int) (k0:Nat) (x_2:Cv) (sv:Unit):Option (Out (Unit) (Int)):=
 (bif (decide (x_2.ID=id_))then some (Out.ret ((k0:Nat):Int))else some (Out.next ()))
def Mc (l:List Cv) (id_:Int):Option (Int):=
 (Am (Fu id_) 0 l ()).bind fun o0=>o0.on fun s0=>some (-1)
theorem Zc (l:List Cv) (id_:Int) {r:Int} (h:Mc l id_=some r):Ad Tryz.prog 161 [.sl 3 (l.map Az),.int .i64 id_] (·= .int .i64 r):=by
 refine Ad.nle (Ad.intro Tryz.func161 rfl rfl (by show _≤8;simp) ?_)
 unfold Mc at h
 refine nS (sq ?_)
 refine ar rfl (qn (sq ?_))
 refine rg rfl fun K j=>?_
 refine An.inline Tryz.call241 Tryz.func241 rfl rfl (by show _≤19;simp) ?_
 refine nS (sq ?_)
 refine ar rfl (qn (sq (sq ?_)))
 refine rg rfl fun K j=>?_
 intro hm
 refine j _ _ (qn (bk ?_));clear j K
 obtain⟨o0,hJ0,hO0⟩:=Af h
 clear h
 refine AWP.Bw (ι:=Nat×(Unit)×(Unit)) (fun zz=>[(0,.sl 3 (l.map Az)),(1,.func 242 [.ptr 0 0]),(7,.int .i64 ((l.length:Nat):Int)),(8,.int .i64 ((zz.1:Nat):Int))]) (fun zz=>[.box [.int .i64 id_]]) (fun zz=>zz.1≤l.length∧Am (Fu id_) zz.1 ((l).drop zz.1) zz.2.1=some o0) (fun zz=>l.length - zz.1) (0,(),()) ⟨Nat.zero_le _,hJ0⟩ cu cu (fun x=>⟨rfl,rfl,rfl⟩) ?_
 clear hJ0
 rintro⟨k0,⟨⟩,⟨⟩⟩ ⟨hk0,hJ0⟩
 dsimp only at hk0 hJ0 ⊢
 refine sq (ar rfl (qn (sq ?_)))
 refine AWP.cond (Ak (fun hc=>?_) (fun hc=>?_))
 rotate_left
 ·obtain rfl:=Bf hJ0 (fun hl=>by have:=Aiz hc;omega)
  have h:=Be hO0;try dsimp only at h
  have hkl:l.length=k0:=by have:=Aiz hc;omega
  subst hkl
  refine xt (qe (qe (bs (qn (sq (ar rfl (qn (rt ?_))))))))
  refine nSc Tryz.results241 ?_
  refine j _ _ (qn (rt ?_))
  cases h;exact en Tryz.results161
 have hlt0:k0<l.length:=by have:=Ai0 hc;omega
 obtain⟨x_2,b0,hx0_,h,hJ0⟩:=A9 hJ0 hlt0
 have hx0:=Ay hx0_
 have hw0:=wk (k:=k0) (by omega)
 unfold Fu at h;try dsimp only at h
 refine sk (qn (sq (bk (sq (ar rfl (qn (sq ?_)))))))
 refine rg rfl fun K j=>?_
 refine Bn.of (f:=Az) (l:=l) hx0 ?_
 refine nS ?_
 refine An.inline Tryz.call242 Tryz.func242 rfl rfl (by show _≤8;simp) ?_
 refine nS (sq ?_)
 refine ar rfl (qn (sq ?_))
 refine ar rfl (qn (rt ?_))
 refine nSc Tryz.results242 ?_
 refine j _ _ (qn ?_);clear j K
 revert h;refine ca rfl (fun hc h=>?_) fun hc h=>?_
 ·refine sq (ar rfl (qn (rt (br (qr (qr ?_))))))
  obtain rfl:=Aa h
  obtain rfl:=Ae hJ0
  replace h:=Al hO0
  refine br (qr (nSc Tryz.results241 ?_))
  refine j _ _ (qn (rt ?_))
  cases h;exact en Tryz.results161
 refine sk (bn (qn (ar rfl (qn ?_))))
 obtain rfl:=Aa h
 refine⟨(k0+1,(),()),⟨by dsimp only;omega,Ai hJ0⟩,by dsimp only;omega,?_,?_⟩
 ·exact cuw hw0
 exact cuw hw0
def Mp (p:Ca) (k1:Nat) (x_3:Cv) (sv:Unit):Option (Out (Unit) (Int)):=
 (bif (decide (x_3.ID<1))then some (Out.ret 2)else (bif (decide (9999<x_3.ID))then some (Out.ret 2)else (bif (decide (x_3.At<0))then some (Out.ret 2)else (bif (decide (20000000<x_3.At))then some (Out.ret 2)else okB (decide (0≤((k1:Nat):Int)∧((k1:Nat):Int)≤((p.Hazards.length:Nat):Int))) ((Mc (p.Hazards.take k1) x_3.ID).bind fun y4=>(bif (decide (0≤y4))then some (Out.ret 7)else (Ku p x_3.Run).bind fun y5=>(bif (decide (y5<0))then some (Out.ret 8)else some (Out.next ()))))))))
def Mn (p:Ca):Option (Int):=
 (Am (Mp p) 0 p.Hazards ()).bind fun o1=>o1.on fun s1=>some 0
def Mo (p:Ca) (k5:Nat) (x_7:Cj) (sv:Unit):Option (Out (Unit) (Int)):=
 (bif (decide (x_7.Run<1))then some (Out.ret 2)else (bif (decide (9999<x_7.Run))then some (Out.ret 2)else (bif (decide (0<((k5:Nat):Int)))then (Dk p.Bu (IntKind.i64.wrap (((k5:Nat):Int) - 1))).bind fun x_8=>(bif (decide (x_7.Run≤x_8.Run))then some (Out.ret 11)else (Je x_7.List_).bind fun y9=>(bif (decide (y9≠0))then some (Out.ret y9)else some (Out.next ())))else (Je x_7.List_).bind fun y10=>(bif (decide (y10≠0))then some (Out.ret y10)else some (Out.next ())))))
def N7 (p:Ca):Option (Int):=
 (bif (decide (64<((p.Bu.length:Nat):Int)))then some 4 else(bif (decide (200<((p.Hazards.length:Nat):Int)))then some 4 else(Am (Mo p) 0 p.Bu ()).bind fun o5=>o5.on fun s5=>Mn p))
theorem Z7 (p:Ca) {r:Int} (h:N7 p=some r):Ad Tryz.prog 76 [.agg (Ij p)] (·= .int .i64 r):=by
 refine Ad.nle (Ad.intro Tryz.func76 rfl rfl (by show _≤95;simp) ?_)
 unfold N7 at h
 refine nS (sq ?_)
 refine ar rfl (qn (sq (sq ?_)))
 refine rg rfl fun K j=>?_
 intro hm
 revert h;refine gf (fun hc h=>?_) fun hc h=>?_
 rotate_left
 ·refine j _ _ (qn ?_)
  refine AWP.cond (Ah ?_)
  refine sq (ar rfl (qn (rt (qr ?_))))
  cases h;exact en Tryz.results76
 intro hm
 refine j _ _ (qn ?_)
 revert h;refine ca rfl (fun hc h=>?_) fun hc h=>?_
 ·refine sq (ar rfl (qn (rt (qr ?_))))
  cases h;exact en Tryz.results76
 refine sk (qn ?_)
 refine AWP.Le (ι:=(Unit)×(Unit)) (fun zz=>[(1,.ptr 0 0)]) (fun zz=>[.box [.sl 4 (p.Bu.map Av),.sl 3 (p.Hazards.map Az)]]) (fun zz=>Mn p=some r) (fun zz=>⟨rfl,rfl,rfl⟩) ?_ ?_
 ·refine sq ?_
  refine rg rfl fun K j=>?_
  intro hm
  refine j _ _ (qn (bk ?_))
  obtain⟨o5,hJ5,hO5⟩:=Af h
  clear h
  refine AWP.Bw (ι:=Nat×(Unit)×(Unit)) (fun zz=>[(1,.ptr 0 0),(19,.sl 4 (p.Bu.map Av)),(20,.int .i64 ((p.Bu.length:Nat):Int)),(21,.int .i64 ((zz.1:Nat):Int))]) (fun zz=>[.box [.sl 4 (p.Bu.map Av),.sl 3 (p.Hazards.map Az)]]) (fun zz=>zz.1≤p.Bu.length∧Am (Mo p) zz.1 ((p.Bu).drop zz.1) zz.2.1=some o5) (fun zz=>p.Bu.length - zz.1) (0,(),()) ⟨Nat.zero_le _,hJ5⟩ cu cu (fun x=>⟨rfl,rfl,rfl⟩) ?_
  clear hJ5
  rintro⟨k5,⟨⟩,⟨⟩⟩ ⟨hk5,hJ5⟩
  dsimp only at hk5 hJ5 ⊢
  refine sq (ar rfl (qn (sq ?_)))
  refine AWP.cond (Ak (fun hc=>?_) (fun hc=>?_))
  rotate_left
  ·obtain rfl:=Bf hJ5 (fun hl=>by have:=Aiz hc;omega)
   have h:=Be hO5;try dsimp only at h
   have hkl:p.Bu.length=k5:=by have:=Aiz hc;omega
   subst hkl
   refine xt (qe (qe (bs (qn ?_))))
   exact⟨((),()),h,cu,cu⟩
  have hlt5:k5<p.Bu.length:=by have:=Ai0 hc;omega
  obtain⟨x_7,b5,hx5_,h,hJ5⟩:=A9 hJ5 hlt5
  have hx5:=Ay hx5_
  have hw5:=wk (k:=k5) (by omega)
  unfold Mo at h;try dsimp only at h
  refine sk (qn (sq (bk (sq ?_))))
  refine rg rfl fun K j=>?_
  refine Bn.of (f:=Av) (l:=p.Bu) hx5 ?_
  refine nS ?_
  refine j _ _ (qn (sq (sq ?_)))
  refine rg rfl fun K j=>?_
  revert h;refine gf (fun hc h=>?_) fun hc h=>?_
  rotate_left
  ·refine j _ _ (qn ?_)
   refine AWP.cond (Ah ?_)
   refine sq (ar rfl (qn (rt (qr (br (qr (qr ?_)))))))
   obtain rfl:=Aa h
   obtain rfl:=Ae hJ5
   replace h:=Al hO5
   refine br (qr ?_)
   cases h;exact en Tryz.results76
  refine j _ _ (qn ?_)
  revert h;refine ca rfl (fun hc h=>?_) fun hc h=>?_
  ·refine sq (ar rfl (qn (rt (qr (br (qr (qr ?_)))))))
   obtain rfl:=Aa h
   obtain rfl:=Ae hJ5
   replace h:=Al hO5
   refine br (qr ?_)
   cases h;exact en Tryz.results76
  refine sk (qn (sq (sq ?_)))
  refine AWP.draw Tryz.mixed (by kernel_rfl) ?_;intro K j
  refine nS ?_
  revert h;refine gt (fun hc h=>?_) fun hc h=>?_
  ·obtain⟨x_8,hx_8,h⟩:=Af h
   refine Bn.of (f:=Av) (l:=p.Bu) hx_8 ?_
   refine nS ?_
   refine j _ _ _ (by kernel_rfl) ?_
   refine qn ?_
   revert h;refine ca rfl (fun hc h=>?_) fun hc h=>?_
   ·refine sq (ar rfl (qn (rt (qr (br (qr (qr ?_)))))))
    obtain rfl:=Aa h
    obtain rfl:=Ae hJ5
    replace h:=Al hO5
    refine br (qr ?_)
    cases h;exact en Tryz.results76
   refine sk (qn (sq ?_))
   refine rg rfl fun K j=>?_
   obtain⟨y9,hy9,h⟩:=Af h
   refine An.pure Tryz.call160 (Ry x_7.List_ hy9) rfl fun _ hr=>?_
   subst hr
   refine nS ?_
   refine j _ _ (qn (sq ?_))
   refine ar rfl (qn ?_)
   revert h;refine ca rfl (fun hc h=>?_) fun hc h=>?_
   ·refine sq (ar rfl (qn (rt (br (qr (qr ?_))))))
    obtain rfl:=Aa h
    obtain rfl:=Ae hJ5
    replace h:=Al hO5
    refine br (qr ?_)
    cases h;exact en Tryz.results76
   refine sk (bn (qn (ar rfl (qn ?_))))
   obtain rfl:=Aa h
   refine⟨(k5+1,(),()),⟨by dsimp only;omega,Ai hJ5⟩,by dsimp only;omega,?_,?_⟩
   ·exact cuw hw5
   exact cuw hw5
  refine j _ _ _ (by kernel_rfl) ?_
  refine qn ?_
  refine AWP.cond (Bk ?_)
  refine sk (qn (sq ?_))
  refine rg rfl fun K j=>?_
  obtain⟨y10,hy10,h⟩:=Af h
  refine An.pure Tryz.call160 (Ry x_7.List_ hy10) rfl fun _ hr=>?_
  subst hr
  refine nS ?_
  refine j _ _ (qn (sq ?_))
  refine ar rfl (qn ?_)
  revert h;refine ca rfl (fun hc h=>?_) fun hc h=>?_
  ·refine sq (ar rfl (qn (rt (br (qr (qr ?_))))))
   obtain rfl:=Aa h
   obtain rfl:=Ae hJ5
   replace h:=Al hO5
   refine br (qr ?_)
   cases h;exact en Tryz.results76
  refine sk (bn (qn (ar rfl (qn ?_))))
  obtain rfl:=Aa h
  refine⟨(k5+1,(),()),⟨by dsimp only;omega,Ai hJ5⟩,by dsimp only;omega,?_,?_⟩
  ·exact cuw hw5
  exact cuw hw5
 rintro⟨⟨⟩,⟨⟩⟩ h
 try dsimp only at h ⊢
 unfold Mn at h;try dsimp only at h
 refine sq (sq ?_)
 refine rg rfl fun K j=>?_
 intro hm
 refine j _ _ (qn (bk ?_))
 obtain⟨o1,hJ1,hO1⟩:=Af h
 clear h
 refine AWP.Bw (ι:=Nat×(Unit)×(Unit)) (fun zz=>[(1,.ptr 0 0),(56,.sl 3 (p.Hazards.map Az)),(57,.int .i64 ((p.Hazards.length:Nat):Int)),(58,.int .i64 ((zz.1:Nat):Int))]) (fun zz=>[.box [.sl 4 (p.Bu.map Av),.sl 3 (p.Hazards.map Az)]]) (fun zz=>zz.1≤p.Hazards.length∧Am (Mp p) zz.1 ((p.Hazards).drop zz.1) zz.2.1=some o1) (fun zz=>p.Hazards.length - zz.1) (0,(),()) ⟨Nat.zero_le _,hJ1⟩ cu cu (fun x=>⟨rfl,rfl,rfl⟩) ?_
 clear hJ1
 rintro⟨k1,⟨⟩,⟨⟩⟩ ⟨hk1,hJ1⟩
 dsimp only at hk1 hJ1 ⊢
 refine sq (ar rfl (qn (sq ?_)))
 refine AWP.cond (Ak (fun hc=>?_) (fun hc=>?_))
 rotate_left
 ·obtain rfl:=Bf hJ1 (fun hl=>by have:=Aiz hc;omega)
  have h:=Be hO1;try dsimp only at h
  have hkl:p.Hazards.length=k1:=by have:=Aiz hc;omega
  subst hkl
  refine xt (qe (qe (bs (qn (sq (ar rfl (qn (rt ?_))))))))
  cases h;exact en Tryz.results76
 have hlt1:k1<p.Hazards.length:=by have:=Ai0 hc;omega
 obtain⟨x_3,b1,hx1_,h,hJ1⟩:=A9 hJ1 hlt1
 have hx1:=Ay hx1_
 have hw1:=wk (k:=k1) (by omega)
 unfold Mp at h;try dsimp only at h
 refine sk (qn (sq (bk (sq ?_))))
 refine rg rfl fun K j=>?_
 refine Bn.of (f:=Az) (l:=p.Hazards) hx1 ?_
 refine nS ?_
 refine j _ _ (qn (sq (sq ?_)))
 refine rg rfl fun K j=>?_
 revert h;refine gf (fun hc h=>?_) fun hc h=>?_
 rotate_left
 ·refine j _ _ (qn ?_)
  refine AWP.cond (Ah ?_)
  refine sq (ar rfl (qn (rt (qr (br (qr (qr ?_)))))))
  obtain rfl:=Aa h
  obtain rfl:=Ae hJ1
  replace h:=Al hO1
  refine br (qr ?_)
  cases h;exact en Tryz.results76
 revert h;refine gf (fun hc h=>?_) fun hc h=>?_
 rotate_left
 ·refine j _ _ (qn ?_)
  refine AWP.cond (Ah ?_)
  refine sq (ar rfl (qn (rt (qr (br (qr (qr ?_)))))))
  obtain rfl:=Aa h
  obtain rfl:=Ae hJ1
  replace h:=Al hO1
  refine br (qr ?_)
  cases h;exact en Tryz.results76
 revert h;refine gf (fun hc h=>?_) fun hc h=>?_
 rotate_left
 ·refine j _ _ (qn ?_)
  refine AWP.cond (Ah ?_)
  refine sq (ar rfl (qn (rt (qr (br (qr (qr ?_)))))))
  obtain rfl:=Aa h
  obtain rfl:=Ae hJ1
  replace h:=Al hO1
  refine br (qr ?_)
  cases h;exact en Tryz.results76
 refine j _ _ (qn ?_)
 revert h;refine ca rfl (fun hc h=>?_) fun hc h=>?_
 ·refine sq (ar rfl (qn (rt (qr (br (qr (qr ?_)))))))
  obtain rfl:=Aa h
  obtain rfl:=Ae hJ1
  replace h:=Al hO1
  refine br (qr ?_)
  cases h;exact en Tryz.results76
 refine sk (qn (sq (sq ?_)))
 refine AWP.draw Tryz.mixed (by kernel_rfl) ?_;intro K j
 refine nS ?_
 obtain⟨hk,h⟩:=Jm h
 intro hm
 (repeat(refine⟨by omega,?_⟩))
 obtain⟨y4,hy4,h⟩:=Af h
 refine B7.pure Tryz.call161 (Zc (p.Hazards.take k1) x_3.ID hy4) rfl ?_
 refine nS ?_
 refine j _ _ _ (by kernel_rfl) ?_
 refine qn ?_
 revert h;refine ca rfl (fun hc h=>?_) fun hc h=>?_
 ·refine sq (ar rfl (qn (rt (qr (br (qr (qr ?_)))))))
  obtain rfl:=Aa h
  obtain rfl:=Ae hJ1
  replace h:=Al hO1
  refine br (qr ?_)
  cases h;exact en Tryz.results76
 refine sk (qn (sq ?_))
 refine rg rfl fun K j=>?_
 obtain⟨y5,hy5,h⟩:=Af h
 refine An.pure Tryz.call162 (Uf p x_3.Run hy5) rfl fun _ hr=>?_
 subst hr
 refine nS ?_
 refine j _ _ (qn ?_)
 revert h;refine ca rfl (fun hc h=>?_) fun hc h=>?_
 ·refine sq (ar rfl (qn (rt (br (qr (qr ?_))))))
  obtain rfl:=Aa h
  obtain rfl:=Ae hJ1
  replace h:=Al hO1
  refine br (qr ?_)
  cases h;exact en Tryz.results76
 refine sk (bn (qn (ar rfl (qn ?_))))
 obtain rfl:=Aa h
 refine⟨(k1+1,(),()),⟨by dsimp only;omega,Ai hJ1⟩,by dsimp only;omega,?_,?_⟩
 ·exact cuw hw1
 exact cuw hw1
def K9 (l:List Cy) (k0:Nat) (x_2:Cy) (sv:Unit):Option (Out (Unit) (Int)):=
 (bif (decide (x_2.Run<1))then some (Out.ret 2)else (bif (decide (9999<x_2.Run))then some (Out.ret 2)else (bif (decide (x_2.Groomed<(-1)))then some (Out.ret 2)else (bif (decide (20000000<x_2.Groomed))then some (Out.ret 2)else (bif (decide (x_2.Traffic<0))then some (Out.ret 2)else (bif (decide (1000000<x_2.Traffic))then some (Out.ret 2)else (bif (decide (0<((k0:Nat):Int)))then (Dk l (IntKind.i64.wrap (((k0:Nat):Int) - 1))).bind fun x_3=>(bif (decide (x_2.Run≤x_3.Run))then some (Out.ret 11)else some (Out.next ()))else some (Out.next ()))))))))
def L0 (l:List Cy):Option (Int):=
 (bif (decide (64<((l.length:Nat):Int)))then some 4 else(Am (K9 l) 0 l ()).bind fun o0=>o0.on fun s0=>some 0)
theorem Y5 (l:List Cy) {r:Int} (h:L0 l=some r):Ad Tryz.prog 77 [.sl 3 (l.map A4)] (·= .int .i64 r):=by
 refine Ad.nle (Ad.intro Tryz.func77 rfl rfl (by show _≤57;simp) ?_)
 unfold L0 at h
 refine nS (sq ?_)
 refine ar rfl (qn (sq (sq ?_)))
 refine rg rfl fun K j=>?_
 intro hm
 refine j _ _ (qn ?_)
 revert h;refine ca rfl (fun hc h=>?_) fun hc h=>?_
 ·refine sq (ar rfl (qn (rt (qr ?_))))
  cases h;exact en Tryz.results77
 refine sk (qn (sq (sq ?_)))
 refine rg rfl fun K j=>?_
 intro hm
 refine j _ _ (qn (bk ?_))
 obtain⟨o0,hJ0,hO0⟩:=Af h
 clear h
 refine AWP.Bw (ι:=Nat×(Unit)×(Unit)) (fun zz=>[(0,.sl 3 (l.map A4)),(8,.sl 3 (l.map A4)),(9,.int .i64 ((l.length:Nat):Int)),(10,.int .i64 ((zz.1:Nat):Int))]) (fun zz=>[]) (fun zz=>zz.1≤l.length∧Am (K9 l) zz.1 ((l).drop zz.1) zz.2.1=some o0) (fun zz=>l.length - zz.1) (0,(),()) ⟨Nat.zero_le _,hJ0⟩ cu cu (fun x=>⟨rfl,rfl,rfl⟩) ?_
 clear hJ0
 rintro⟨k0,⟨⟩,⟨⟩⟩ ⟨hk0,hJ0⟩
 dsimp only at hk0 hJ0 ⊢
 refine sq (ar rfl (qn (sq ?_)))
 refine AWP.cond (Ak (fun hc=>?_) (fun hc=>?_))
 rotate_left
 ·obtain rfl:=Bf hJ0 (fun hl=>by have:=Aiz hc;omega)
  have h:=Be hO0;try dsimp only at h
  have hkl:l.length=k0:=by have:=Aiz hc;omega
  subst hkl
  refine xt (qe (qe (bs (qn (sq (ar rfl (qn (rt ?_))))))))
  cases h;exact en Tryz.results77
 have hlt0:k0<l.length:=by have:=Ai0 hc;omega
 obtain⟨x_2,b0,hx0_,h,hJ0⟩:=A9 hJ0 hlt0
 have hx0:=Ay hx0_
 have hw0:=wk (k:=k0) (by omega)
 unfold K9 at h;try dsimp only at h
 refine sk (qn (sq (bk (sq ?_))))
 refine rg rfl fun K j=>?_
 refine Bn.of (f:=A4) (l:=l) hx0 ?_
 refine nS ?_
 refine j _ _ (qn (sq (sq ?_)))
 refine rg rfl fun K j=>?_
 revert h;refine gf (fun hc h=>?_) fun hc h=>?_
 rotate_left
 ·refine j _ _ (qn ?_)
  refine AWP.cond (Ah ?_)
  refine sq (ar rfl (qn (rt (qr (br (qr (qr ?_)))))))
  obtain rfl:=Aa h
  obtain rfl:=Ae hJ0
  replace h:=Al hO0
  refine br (qr ?_)
  cases h;exact en Tryz.results77
 revert h;refine gf (fun hc h=>?_) fun hc h=>?_
 rotate_left
 ·refine j _ _ (qn ?_)
  refine AWP.cond (Ah ?_)
  refine sq (ar rfl (qn (rt (qr (br (qr (qr ?_)))))))
  obtain rfl:=Aa h
  obtain rfl:=Ae hJ0
  replace h:=Al hO0
  refine br (qr ?_)
  cases h;exact en Tryz.results77
 revert h;refine gf (fun hc h=>?_) fun hc h=>?_
 rotate_left
 ·refine j _ _ (qn ?_)
  refine AWP.cond (Ah ?_)
  refine sq (ar rfl (qn (rt (qr (br (qr (qr ?_)))))))
  obtain rfl:=Aa h
  obtain rfl:=Ae hJ0
  replace h:=Al hO0
  refine br (qr ?_)
  cases h;exact en Tryz.results77
 revert h;refine gf (fun hc h=>?_) fun hc h=>?_
 rotate_left
 ·refine j _ _ (qn ?_)
  refine AWP.cond (Ah ?_)
  refine sq (ar rfl (qn (rt (qr (br (qr (qr ?_)))))))
  obtain rfl:=Aa h
  obtain rfl:=Ae hJ0
  replace h:=Al hO0
  refine br (qr ?_)
  cases h;exact en Tryz.results77
 revert h;refine gf (fun hc h=>?_) fun hc h=>?_
 rotate_left
 ·refine j _ _ (qn ?_)
  refine AWP.cond (Ah ?_)
  refine sq (ar rfl (qn (rt (qr (br (qr (qr ?_)))))))
  obtain rfl:=Aa h
  obtain rfl:=Ae hJ0
  replace h:=Al hO0
  refine br (qr ?_)
  cases h;exact en Tryz.results77
 refine j _ _ (qn ?_)
 revert h;refine ca rfl (fun hc h=>?_) fun hc h=>?_
 ·refine sq (ar rfl (qn (rt (qr (br (qr (qr ?_)))))))
  obtain rfl:=Aa h
  obtain rfl:=Ae hJ0
  replace h:=Al hO0
  refine br (qr ?_)
  cases h;exact en Tryz.results77
 refine sk (qn (sq ?_))
 refine AWP.draw Tryz.mixed (by kernel_rfl) ?_;intro K j
 refine nS ?_
 revert h;refine gt (fun hc h=>?_) fun hc h=>?_
 ·obtain⟨x_3,hx_3,h⟩:=Af h
  refine Bn.of (f:=A4) (l:=l) hx_3 ?_
  refine nS ?_
  refine j _ _ _ (by kernel_rfl) ?_
  refine qn ?_
  revert h;refine ca rfl (fun hc h=>?_) fun hc h=>?_
  ·refine sq (ar rfl (qn (rt (br (qr (qr ?_))))))
   obtain rfl:=Aa h
   obtain rfl:=Ae hJ0
   replace h:=Al hO0
   refine br (qr ?_)
   cases h;exact en Tryz.results77
  refine sk (bn (qn (ar rfl (qn ?_))))
  obtain rfl:=Aa h
  refine⟨(k0+1,(),()),⟨by dsimp only;omega,Ai hJ0⟩,by dsimp only;omega,?_,?_⟩
  ·exact cuw hw0
  exact cuw hw0
 refine j _ _ _ (by kernel_rfl) ?_
 refine qn ?_
 refine AWP.cond (Bk ?_)
 refine sk (bn (qn (ar rfl (qn ?_))))
 obtain rfl:=Aa h
 refine⟨(k0+1,(),()),⟨by dsimp only;omega,Ai hJ0⟩,by dsimp only;omega,?_,?_⟩
 ·exact cuw hw0
 exact cuw hw0
def Gn (s_:Bd):Option (Bool):=
 (bif (decide (1≤s_.ID))then (bif (decide (s_.ID≤9999))then (bif (decide (4≤s_.Limit))then (bif (decide (s_.Limit≤100000))then (bif (decide (0≤s_.Load))then (bif (decide (s_.Load≤100000))then (bif (decide ((-1)≤s_.Controlled))then some (decide (s_.Controlled≤20000000))else some false)else some false)else some false)else some false)else some false)else some false)else some false)
theorem Vi (s_:Bd) {r:Bool} (h:Gn s_=some r):Ad Tryz.prog 163 [.agg (Ba s_)] (·= .bool r):=by
 refine Ad.nle (Ad.intro Tryz.func163 rfl rfl (by show _≤41;simp) ?_)
 unfold Gn at h
 refine nS (sq ?_)
 refine ar rfl (qn (sq ?_))
 refine rg rfl fun K j=>?_
 revert h;refine gt (fun hc h=>?_) fun hc h=>?_
 rotate_left
 ·refine j _ _ (qn (rt ?_))
  cases h;exact en Tryz.results163
 revert h;refine gt (fun hc h=>?_) fun hc h=>?_
 rotate_left
 ·refine j _ _ (qn (rt ?_))
  cases h;exact en Tryz.results163
 revert h;refine gt (fun hc h=>?_) fun hc h=>?_
 ·revert h;refine gt (fun hc h=>?_) fun hc h=>?_
  ·revert h;refine gt (fun hc h=>?_) fun hc h=>?_
   ·revert h;refine gt (fun hc h=>?_) fun hc h=>?_
    ·revert h;refine gt (fun hc h=>?_) fun hc h=>?_
     ·refine j _ _ (qn (rt ?_))
      cases h;exact en Tryz.results163
     refine j _ _ (qn (rt ?_))
     cases h;exact en Tryz.results163
    refine j _ _ (qn (rt ?_))
    cases h;exact en Tryz.results163
   refine j _ _ (qn (rt ?_))
   cases h;exact en Tryz.results163
  refine j _ _ (qn (rt ?_))
  cases h;exact en Tryz.results163
 refine j _ _ (qn (rt ?_))
 cases h;exact en Tryz.results163
def Gp (id_:Int) (k0:Nat) (x_2:Bd) (sv:Unit):Option (Out (Unit) (Int)):=
 (bif (decide (x_2.ID=id_))then some (Out.ret ((k0:Nat):Int))else some (Out.next ()))
def Hs (l:List Bd) (id_:Int):Option (Int):=
 (Am (Gp id_) 0 l ()).bind fun o0=>o0.on fun s0=>some (-1)
theorem Yp (l:List Bd) (id_:Int) {r:Int} (h:Hs l id_=some r):Ad Tryz.prog 164 [.sl 6 (l.map Ba),.int .i64 id_] (·= .int .i64 r):=by
 refine Ad.nle (Ad.intro Tryz.func164 rfl rfl (by show _≤8;simp) ?_)
 unfold Hs at h
 refine nS (sq ?_)
 refine ar rfl (qn (sq ?_))
 refine rg rfl fun K j=>?_
 refine An.inline Tryz.call245 Tryz.func245 rfl rfl (by show _≤19;simp) ?_
 refine nS (sq ?_)
 refine ar rfl (qn (sq (sq ?_)))
 refine rg rfl fun K j=>?_
 intro hm
 refine j _ _ (qn (bk ?_));clear j K
 obtain⟨o0,hJ0,hO0⟩:=Af h
 clear h
 refine AWP.Bw (ι:=Nat×(Unit)×(Unit)) (fun zz=>[(0,.sl 6 (l.map Ba)),(1,.func 246 [.ptr 0 0]),(7,.int .i64 ((l.length:Nat):Int)),(8,.int .i64 ((zz.1:Nat):Int))]) (fun zz=>[.box [.int .i64 id_]]) (fun zz=>zz.1≤l.length∧Am (Gp id_) zz.1 ((l).drop zz.1) zz.2.1=some o0) (fun zz=>l.length - zz.1) (0,(),()) ⟨Nat.zero_le _,hJ0⟩ cu cu (fun x=>⟨rfl,rfl,rfl⟩) ?_
 clear hJ0
 rintro⟨k0,⟨⟩,⟨⟩⟩ ⟨hk0,hJ0⟩
 dsimp only at hk0 hJ0 ⊢
 refine sq (ar rfl (qn (sq ?_)))
 refine AWP.cond (Ak (fun hc=>?_) (fun hc=>?_))
 rotate_left
 ·obtain rfl:=Bf hJ0 (fun hl=>by have:=Aiz hc;omega)
  have h:=Be hO0;try dsimp only at h
  have hkl:l.length=k0:=by have:=Aiz hc;omega
  subst hkl
  refine xt (qe (qe (bs (qn (sq (ar rfl (qn (rt ?_))))))))
  refine nSc Tryz.results245 ?_
  refine j _ _ (qn (rt ?_))
  cases h;exact en Tryz.results164
 have hlt0:k0<l.length:=by have:=Ai0 hc;omega
 obtain⟨x_2,b0,hx0_,h,hJ0⟩:=A9 hJ0 hlt0
 have hx0:=Ay hx0_
 have hw0:=wk (k:=k0) (by omega)
 unfold Gp at h;try dsimp only at h
 refine sk (qn (sq (bk (sq (ar rfl (qn (sq ?_)))))))
 refine rg rfl fun K j=>?_
 refine Bn.of (f:=Ba) (l:=l) hx0 ?_
 refine nS ?_
 refine An.inline Tryz.call246 Tryz.func246 rfl rfl (by show _≤8;simp) ?_
 refine nS (sq ?_)
 refine ar rfl (qn (sq ?_))
 refine ar rfl (qn (rt ?_))
 refine nSc Tryz.results246 ?_
 refine j _ _ (qn ?_);clear j K
 revert h;refine ca rfl (fun hc h=>?_) fun hc h=>?_
 ·refine sq (ar rfl (qn (rt (br (qr (qr ?_))))))
  obtain rfl:=Aa h
  obtain rfl:=Ae hJ0
  replace h:=Al hO0
  refine br (qr (nSc Tryz.results245 ?_))
  refine j _ _ (qn (rt ?_))
  cases h;exact en Tryz.results164
 refine sk (bn (qn (ar rfl (qn ?_))))
 obtain rfl:=Aa h
 refine⟨(k0+1,(),()),⟨by dsimp only;omega,Ai hJ0⟩,by dsimp only;omega,?_,?_⟩
 ·exact cuw hw0
 exact cuw hw0
def D8 (l:List Int) (most:Int) (k0:Nat) (x_2:Int) (sv:Unit):Option (Out (Unit) (Bool)):=
 (bif (decide (x_2<1))then some (Out.ret false)else (bif (decide (most<x_2))then some (Out.ret false)else (bif (decide (0<((k0:Nat):Int)))then (Dk l (IntKind.i64.wrap (((k0:Nat):Int) - 1))).bind fun x_3=>(bif (decide (x_2≤x_3))then some (Out.ret false)else some (Out.next ()))else some (Out.next ()))))
def D9 (l:List Int) (most:Int):Option (Bool):=
 (Am (D8 l most) 0 l ()).bind fun o0=>o0.on fun s0=>some true
theorem Ls (l:List Int) (most:Int) {r:Bool} (h:D9 l most=some r):Ad Tryz.prog 165 [.sl 1 (l.map A2),.int .i64 most] (·= .bool r):=by
 refine Ad.nle (Ad.intro Tryz.func165 rfl rfl (by show _≤35;simp) ?_)
 unfold D9 at h
 refine nS (sq ?_)
 refine ar rfl (qn (sq (sq ?_)))
 refine rg rfl fun K j=>?_
 intro hm
 refine j _ _ (qn (bk ?_))
 obtain⟨o0,hJ0,hO0⟩:=Af h
 clear h
 refine AWP.Bw (ι:=Nat×(Unit)×(Unit)) (fun zz=>[(0,.sl 1 (l.map A2)),(1,.int .i64 most),(7,.sl 1 (l.map A2)),(8,.int .i64 ((l.length:Nat):Int)),(9,.int .i64 ((zz.1:Nat):Int))]) (fun zz=>[]) (fun zz=>zz.1≤l.length∧Am (D8 l most) zz.1 ((l).drop zz.1) zz.2.1=some o0) (fun zz=>l.length - zz.1) (0,(),()) ⟨Nat.zero_le _,hJ0⟩ cu cu (fun x=>⟨rfl,rfl,rfl⟩) ?_
 clear hJ0
 rintro⟨k0,⟨⟩,⟨⟩⟩ ⟨hk0,hJ0⟩
 dsimp only at hk0 hJ0 ⊢
 refine sq (ar rfl (qn (sq ?_)))
 refine AWP.cond (Ak (fun hc=>?_) (fun hc=>?_))
 rotate_left
 ·obtain rfl:=Bf hJ0 (fun hl=>by have:=Aiz hc;omega)
  have h:=Be hO0;try dsimp only at h
  have hkl:l.length=k0:=by have:=Aiz hc;omega
  subst hkl
  refine xt (qe (qe (bs (qn (sq (ar rfl (qn (rt ?_))))))))
  cases h;exact en Tryz.results165
 have hlt0:k0<l.length:=by have:=Ai0 hc;omega
 obtain⟨x_2,b0,hx0_,h,hJ0⟩:=A9 hJ0 hlt0
 have hx0:=Ay hx0_
 have hw0:=wk (k:=k0) (by omega)
 unfold D8 at h;try dsimp only at h
 refine sk (qn (sq (bk (sq ?_))))
 refine rg rfl fun K j=>?_
 refine Bn.of (f:=A2) (l:=l) hx0 ?_
 refine nS ?_
 refine j _ _ (qn (sq ?_))
 refine rg rfl fun K j=>?_
 revert h;refine gf (fun hc h=>?_) fun hc h=>?_
 rotate_left
 ·refine j _ _ (qn ?_)
  refine AWP.cond (Ah ?_)
  refine sq (ar rfl (qn (rt (br (qr (qr ?_))))))
  obtain rfl:=Aa h
  obtain rfl:=Ae hJ0
  replace h:=Al hO0
  refine br (qr ?_)
  cases h;exact en Tryz.results165
 revert h;refine gf (fun hc h=>?_) fun hc h=>?_
 rotate_left
 ·refine j _ _ (qn ?_)
  refine AWP.cond (Ah ?_)
  refine sq (ar rfl (qn (rt (br (qr (qr ?_))))))
  obtain rfl:=Aa h
  obtain rfl:=Ae hJ0
  replace h:=Al hO0
  refine br (qr ?_)
  cases h;exact en Tryz.results165
 revert h;refine gt (fun hc h=>?_) fun hc h=>?_
 ·obtain⟨x_3,hx_3,h⟩:=Af h
  refine Bn.of (f:=A2) (l:=l) hx_3 ?_
  refine nS ?_
  refine j _ _ (qn ?_)
  revert h;refine ca rfl (fun hc h=>?_) fun hc h=>?_
  ·refine sq (ar rfl (qn (rt (br (qr (qr ?_))))))
   obtain rfl:=Aa h
   obtain rfl:=Ae hJ0
   replace h:=Al hO0
   refine br (qr ?_)
   cases h;exact en Tryz.results165
  refine sk (bn (qn (ar rfl (qn ?_))))
  obtain rfl:=Aa h
  refine⟨(k0+1,(),()),⟨by dsimp only;omega,Ai hJ0⟩,by dsimp only;omega,?_,?_⟩
  ·exact cuw hw0
  exact cuw hw0
 refine j _ _ (qn ?_)
 refine AWP.cond (Bk ?_)
 refine sk (bn (qn (ar rfl (qn ?_))))
 obtain rfl:=Aa h
 refine⟨(k0+1,(),()),⟨by dsimp only;omega,Ai hJ0⟩,by dsimp only;omega,?_,?_⟩
 ·exact cuw hw0
 exact cuw hw0
def Ez (l:List Bd) (k0:Nat) (x_2:Bd) (sv:Unit):Option (Out (Unit) (Int)):=
 (Gn x_2).bind fun y3=>(bif (!y3)then some (Out.ret 2)else okB (decide (0≤((k0:Nat):Int)∧((k0:Nat):Int)≤((l.length:Nat):Int))) ((Hs (l.take k0) x_2.ID).bind fun y4=>(bif (decide (0≤y4))then some (Out.ret 7)else (bif (decide (((x_2.Zones.length:Nat):Int)=0))then some (Out.ret 1)else (D9 x_2.Zones 32).bind fun y5=>(bif (!y5)then some (Out.ret 1)else (D9 x_2.Lifts 9999).bind fun y6=>(bif (!y6)then some (Out.ret 1)else some (Out.next ())))))))
def I9 (l:List Bd):Option (Int):=
 (bif (decide (32<((l.length:Nat):Int)))then some 4 else(Am (Ez l) 0 l ()).bind fun o0=>o0.on fun s0=>some 0)
theorem Xf (l:List Bd) {r:Int} (h:I9 l=some r):Ad Tryz.prog 78 [.sl 6 (l.map Ba)] (·= .int .i64 r):=by
 refine Ad.nle (Ad.intro Tryz.func78 rfl rfl (by show _≤42;simp) ?_)
 unfold I9 at h
 refine nS (sq ?_)
 refine ar rfl (qn (sq (sq ?_)))
 refine rg rfl fun K j=>?_
 intro hm
 refine j _ _ (qn ?_)
 revert h;refine ca rfl (fun hc h=>?_) fun hc h=>?_
 ·refine sq (ar rfl (qn (rt (qr ?_))))
  cases h;exact en Tryz.results78
 refine sk (qn (sq (sq ?_)))
 refine rg rfl fun K j=>?_
 intro hm
 refine j _ _ (qn (bk ?_))
 obtain⟨o0,hJ0,hO0⟩:=Af h
 clear h
 refine AWP.Bw (ι:=Nat×(Unit)×(Unit)) (fun zz=>[(0,.sl 6 (l.map Ba)),(8,.sl 6 (l.map Ba)),(9,.int .i64 ((l.length:Nat):Int)),(10,.int .i64 ((zz.1:Nat):Int))]) (fun zz=>[]) (fun zz=>zz.1≤l.length∧Am (Ez l) zz.1 ((l).drop zz.1) zz.2.1=some o0) (fun zz=>l.length - zz.1) (0,(),()) ⟨Nat.zero_le _,hJ0⟩ cu cu (fun x=>⟨rfl,rfl,rfl⟩) ?_
 clear hJ0
 rintro⟨k0,⟨⟩,⟨⟩⟩ ⟨hk0,hJ0⟩
 dsimp only at hk0 hJ0 ⊢
 refine sq (ar rfl (qn (sq ?_)))
 refine AWP.cond (Ak (fun hc=>?_) (fun hc=>?_))
 rotate_left
 ·obtain rfl:=Bf hJ0 (fun hl=>by have:=Aiz hc;omega)
  have h:=Be hO0;try dsimp only at h
  have hkl:l.length=k0:=by have:=Aiz hc;omega
  subst hkl
  refine xt (qe (qe (bs (qn (sq (ar rfl (qn (rt ?_))))))))
  cases h;exact en Tryz.results78
 have hlt0:k0<l.length:=by have:=Ai0 hc;omega
 obtain⟨x_2,b0,hx0_,h,hJ0⟩:=A9 hJ0 hlt0
 have hx0:=Ay hx0_
 have hw0:=wk (k:=k0) (by omega)
 unfold Ez at h;try dsimp only at h
 refine sk (qn (sq (bk (sq ?_))))
 refine rg rfl fun K j=>?_
 refine Bn.of (f:=Ba) (l:=l) hx0 ?_
 refine nS ?_
 refine j _ _ (qn (sq (sq ?_)))
 refine rg rfl fun K j=>?_
 obtain⟨y3,hy3,h⟩:=Af h
 refine An.pure Tryz.call163 (Vi x_2 hy3) rfl fun _ hr=>?_
 subst hr
 refine nS ?_
 refine j _ _ (qn ?_)
 revert h;refine ca rfl (fun hc h=>?_) fun hc h=>?_
 ·refine sq (ar rfl (qn (rt (qr (br (qr (qr ?_)))))))
  obtain rfl:=Aa h
  obtain rfl:=Ae hJ0
  replace h:=Al hO0
  refine br (qr ?_)
  cases h;exact en Tryz.results78
 refine sk (qn (sq (sq ?_)))
 refine AWP.draw Tryz.mixed (by kernel_rfl) ?_;intro K j
 refine nS ?_
 obtain⟨hk,h⟩:=Jm h
 intro hm
 (repeat(refine⟨by omega,?_⟩))
 obtain⟨y4,hy4,h⟩:=Af h
 refine B7.pure Tryz.call164 (Yp (l.take k0) x_2.ID hy4) rfl ?_
 refine nS ?_
 refine j _ _ _ (by kernel_rfl) ?_
 refine qn ?_
 revert h;refine ca rfl (fun hc h=>?_) fun hc h=>?_
 ·refine sq (ar rfl (qn (rt (qr (br (qr (qr ?_)))))))
  obtain rfl:=Aa h
  obtain rfl:=Ae hJ0
  replace h:=Al hO0
  refine br (qr ?_)
  cases h;exact en Tryz.results78
 refine sk (qn (sq ?_))
 refine rg rfl fun K j=>?_
 intro hm
 revert h;refine gf (fun hc h=>?_) fun hc h=>?_
 rotate_left
 ·refine j _ _ (qn ?_)
  refine AWP.cond (Ah ?_)
  refine sq (ar rfl (qn (rt (br (qr (qr ?_))))))
  obtain rfl:=Aa h
  obtain rfl:=Ae hJ0
  replace h:=Al hO0
  refine br (qr ?_)
  cases h;exact en Tryz.results78
 obtain⟨y5,hy5,h⟩:=Af h
 refine An.pure Tryz.call165 (Ls x_2.Zones 32 hy5) rfl fun _ hr=>?_
 subst hr
 refine nS ?_
 revert h;refine gf (fun hc h=>?_) fun hc h=>?_
 ·obtain⟨y6,hy6,h⟩:=Af h
  refine An.pure Tryz.call165 (Ls x_2.Lifts 9999 hy6) rfl fun _ hr=>?_
  subst hr
  refine nS ?_
  refine j _ _ (qn ?_)
  revert h;refine ca rfl (fun hc h=>?_) fun hc h=>?_
  ·refine sq (ar rfl (qn (rt (br (qr (qr ?_))))))
   obtain rfl:=Aa h
   obtain rfl:=Ae hJ0
   replace h:=Al hO0
   refine br (qr ?_)
   cases h;exact en Tryz.results78
  refine sk (bn (qn (ar rfl (qn ?_))))
  obtain rfl:=Aa h
  refine⟨(k0+1,(),()),⟨by dsimp only;omega,Ai hJ0⟩,by dsimp only;omega,?_,?_⟩
  ·exact cuw hw0
  exact cuw hw0
 refine j _ _ (qn ?_)
 refine AWP.cond (Ah ?_)
 refine sq (ar rfl (qn (rt (br (qr (qr ?_))))))
 obtain rfl:=Aa h
 obtain rfl:=Ae hJ0
 replace h:=Al hO0
 refine br (qr ?_)
 cases h;exact en Tryz.results78
def Hn (b:Bp):Option (Bool):=
 (bif (decide (b.Version<1))then some false else(bif (decide (1000000<b.Version))then some false else(bif (decide (b.Span.From<0))then some false else(bif (decide (b.Span.To≤b.Span.From))then some false else(bif (decide (20000000<b.Span.To))then some false else(bif (decide (b.Low<0))then some false else(bif (decide (b.High≤b.Low))then some false else(bif (decide (6000<b.High))then some false else(bif (decide (1≤b.Level))then some (decide (b.Level≤5))else some false)))))))))
theorem V2 (b:Bp) {r:Bool} (h:Hn b=some r):Ad Tryz.prog 166 [.agg (Ax b)] (·= .bool r):=by
 refine Ad.nle (Ad.intro Tryz.func166 rfl rfl (by show _≤53;simp) ?_)
 unfold Hn at h
 refine nS (sq ?_)
 refine ar rfl (qn (sq (sq ?_)))
 refine rg rfl fun K j=>?_
 revert h;refine gf (fun hc h=>?_) fun hc h=>?_
 rotate_left
 ·refine j _ _ (qn ?_)
  refine AWP.cond (Ah ?_)
  refine sq (ar rfl (qn (rt (qr ?_))))
  cases h;exact en Tryz.results166
 refine j _ _ (qn ?_)
 revert h;refine ca rfl (fun hc h=>?_) fun hc h=>?_
 ·refine sq (ar rfl (qn (rt (qr ?_))))
  cases h;exact en Tryz.results166
 refine sk (qn (sq (sq ?_)))
 refine rg rfl fun K j=>?_
 revert h;refine gf (fun hc h=>?_) fun hc h=>?_
 rotate_left
 ·refine j _ _ (qn ?_)
  refine AWP.cond (Ah ?_)
  refine sq (ar rfl (qn (rt (qr ?_))))
  cases h;exact en Tryz.results166
 revert h;refine gf (fun hc h=>?_) fun hc h=>?_
 rotate_left
 ·refine j _ _ (qn ?_)
  refine AWP.cond (Ah ?_)
  refine sq (ar rfl (qn (rt (qr ?_))))
  cases h;exact en Tryz.results166
 refine j _ _ (qn ?_)
 revert h;refine ca rfl (fun hc h=>?_) fun hc h=>?_
 ·refine sq (ar rfl (qn (rt (qr ?_))))
  cases h;exact en Tryz.results166
 refine sk (qn (sq (sq ?_)))
 refine rg rfl fun K j=>?_
 revert h;refine gf (fun hc h=>?_) fun hc h=>?_
 ·revert h;refine gf (fun hc h=>?_) fun hc h=>?_
  ·refine j _ _ (qn ?_)
   revert h;refine ca rfl (fun hc h=>?_) fun hc h=>?_
   ·refine sq (ar rfl (qn (rt (qr ?_))))
    cases h;exact en Tryz.results166
   refine sk (qn (sq ?_))
   refine rg rfl fun K j=>?_
   revert h;refine gt (fun hc h=>?_) fun hc h=>?_
   ·refine j _ _ (qn (rt ?_))
    cases h;exact en Tryz.results166
   refine j _ _ (qn (rt ?_))
   cases h;exact en Tryz.results166
  refine j _ _ (qn ?_)
  refine AWP.cond (Ah ?_)
  refine sq (ar rfl (qn (rt (qr ?_))))
  cases h;exact en Tryz.results166
 refine j _ _ (qn ?_)
 refine AWP.cond (Ah ?_)
 refine sq (ar rfl (qn (rt (qr ?_))))
 cases h;exact en Tryz.results166
def Ik (zones:List Int) (k0:Nat) (x_2:Int) (sv:Unit):Option (Out (Unit) (Bool)):=
 (bif (decide (x_2<1))then some (Out.ret false)else (bif (decide (32<x_2))then some (Out.ret false)else (bif (decide (0<((k0:Nat):Int)))then (Dk zones (IntKind.i64.wrap (((k0:Nat):Int) - 1))).bind fun x_3=>(bif (decide (x_2≤x_3))then some (Out.ret false)else some (Out.next ()))else some (Out.next ()))))
def Lx (zones:List Int):Option (Bool):=
 (Am (Ik zones) 0 zones ()).bind fun o0=>o0.on fun s0=>some (decide (0<((zones.length:Nat):Int)))
theorem Tu (zones:List Int) {r:Bool} (h:Lx zones=some r):Ad Tryz.prog 167 [.sl 1 (zones.map A2)] (·= .bool r):=by
 refine Ad.nle (Ad.intro Tryz.func167 rfl rfl (by show _≤35;simp) ?_)
 unfold Lx at h
 refine nS (sq ?_)
 refine ar rfl (qn (sq (sq ?_)))
 refine rg rfl fun K j=>?_
 intro hm
 refine j _ _ (qn (bk ?_))
 obtain⟨o0,hJ0,hO0⟩:=Af h
 clear h
 refine AWP.Bw (ι:=Nat×(Unit)×(Unit)) (fun zz=>[(0,.sl 1 (zones.map A2)),(5,.sl 1 (zones.map A2)),(6,.int .i64 ((zones.length:Nat):Int)),(7,.int .i64 ((zz.1:Nat):Int))]) (fun zz=>[]) (fun zz=>zz.1≤zones.length∧Am (Ik zones) zz.1 ((zones).drop zz.1) zz.2.1=some o0) (fun zz=>zones.length - zz.1) (0,(),()) ⟨Nat.zero_le _,hJ0⟩ cu cu (fun x=>⟨rfl,rfl,rfl⟩) ?_
 clear hJ0
 rintro⟨k0,⟨⟩,⟨⟩⟩ ⟨hk0,hJ0⟩
 dsimp only at hk0 hJ0 ⊢
 refine sq (ar rfl (qn (sq ?_)))
 refine AWP.cond (Ak (fun hc=>?_) (fun hc=>?_))
 rotate_left
 ·obtain rfl:=Bf hJ0 (fun hl=>by have:=Aiz hc;omega)
  have h:=Be hO0;try dsimp only at h
  have hkl:zones.length=k0:=by have:=Aiz hc;omega
  subst hkl
  refine xt (qe (qe (bs (qn (sq ?_)))))
  refine rg rfl fun K j=>?_
  intro hm
  refine j _ _ (qn (rt ?_))
  cases h;exact en Tryz.results167
 have hlt0:k0<zones.length:=by have:=Ai0 hc;omega
 obtain⟨x_2,b0,hx0_,h,hJ0⟩:=A9 hJ0 hlt0
 have hx0:=Ay hx0_
 have hw0:=wk (k:=k0) (by omega)
 unfold Ik at h;try dsimp only at h
 refine sk (qn (sq (bk (sq ?_))))
 refine rg rfl fun K j=>?_
 refine Bn.of (f:=A2) (l:=zones) hx0 ?_
 refine nS ?_
 refine j _ _ (qn (sq ?_))
 refine rg rfl fun K j=>?_
 revert h;refine gf (fun hc h=>?_) fun hc h=>?_
 rotate_left
 ·refine j _ _ (qn ?_)
  refine AWP.cond (Ah ?_)
  refine sq (ar rfl (qn (rt (br (qr (qr ?_))))))
  obtain rfl:=Aa h
  obtain rfl:=Ae hJ0
  replace h:=Al hO0
  refine br (qr ?_)
  cases h;exact en Tryz.results167
 revert h;refine gf (fun hc h=>?_) fun hc h=>?_
 rotate_left
 ·refine j _ _ (qn ?_)
  refine AWP.cond (Ah ?_)
  refine sq (ar rfl (qn (rt (br (qr (qr ?_))))))
  obtain rfl:=Aa h
  obtain rfl:=Ae hJ0
  replace h:=Al hO0
  refine br (qr ?_)
  cases h;exact en Tryz.results167
 revert h;refine gt (fun hc h=>?_) fun hc h=>?_
 ·obtain⟨x_3,hx_3,h⟩:=Af h
  refine Bn.of (f:=A2) (l:=zones) hx_3 ?_
  refine nS ?_
  refine j _ _ (qn ?_)
  revert h;refine ca rfl (fun hc h=>?_) fun hc h=>?_
  ·refine sq (ar rfl (qn (rt (br (qr (qr ?_))))))
   obtain rfl:=Aa h
   obtain rfl:=Ae hJ0
   replace h:=Al hO0
   refine br (qr ?_)
   cases h;exact en Tryz.results167
  refine sk (bn (qn (ar rfl (qn ?_))))
  obtain rfl:=Aa h
  refine⟨(k0+1,(),()),⟨by dsimp only;omega,Ai hJ0⟩,by dsimp only;omega,?_,?_⟩
  ·exact cuw hw0
  exact cuw hw0
 refine j _ _ (qn ?_)
 refine AWP.cond (Bk ?_)
 refine sk (bn (qn (ar rfl (qn ?_))))
 obtain rfl:=Aa h
 refine⟨(k0+1,(),()),⟨by dsimp only;omega,Ai hJ0⟩,by dsimp only;omega,?_,?_⟩
 ·exact cuw hw0
 exact cuw hw0
def Ei (l:List Bp) (k0:Nat) (x_2:Bp) (sv:Unit):Option (Out (Unit) (Int)):=
 (Hn x_2).bind fun y3=>(bif (!y3)then some (Out.ret 2)else (Lx x_2.Zones).bind fun y4=>(bif (!y4)then some (Out.ret 1)else (bif (decide (0<((k0:Nat):Int)))then (Dk l (IntKind.i64.wrap (((k0:Nat):Int) - 1))).bind fun x_5=>(bif (decide (x_2.Version<x_5.Version))then some (Out.ret 11)else some (Out.next ()))else some (Out.next ()))))
def Ho (l:List Bp):Option (Int):=
 (bif (decide (64<((l.length:Nat):Int)))then some 4 else(Am (Ei l) 0 l ()).bind fun o0=>o0.on fun s0=>some 0)
theorem Ym (l:List Bp) {r:Int} (h:Ho l=some r):Ad Tryz.prog 79 [.sl 7 (l.map Ax)] (·= .int .i64 r):=by
 refine Ad.nle (Ad.intro Tryz.func79 rfl rfl (by show _≤36;simp) ?_)
 unfold Ho at h
 refine nS (sq ?_)
 refine ar rfl (qn (sq (sq ?_)))
 refine rg rfl fun K j=>?_
 intro hm
 refine j _ _ (qn ?_)
 revert h;refine ca rfl (fun hc h=>?_) fun hc h=>?_
 ·refine sq (ar rfl (qn (rt (qr ?_))))
  cases h;exact en Tryz.results79
 refine sk (qn (sq (sq ?_)))
 refine rg rfl fun K j=>?_
 intro hm
 refine j _ _ (qn (bk ?_))
 obtain⟨o0,hJ0,hO0⟩:=Af h
 clear h
 refine AWP.Bw (ι:=Nat×(Unit)×(Unit)) (fun zz=>[(0,.sl 7 (l.map Ax)),(8,.sl 7 (l.map Ax)),(9,.int .i64 ((l.length:Nat):Int)),(10,.int .i64 ((zz.1:Nat):Int))]) (fun zz=>[]) (fun zz=>zz.1≤l.length∧Am (Ei l) zz.1 ((l).drop zz.1) zz.2.1=some o0) (fun zz=>l.length - zz.1) (0,(),()) ⟨Nat.zero_le _,hJ0⟩ cu cu (fun x=>⟨rfl,rfl,rfl⟩) ?_
 clear hJ0
 rintro⟨k0,⟨⟩,⟨⟩⟩ ⟨hk0,hJ0⟩
 dsimp only at hk0 hJ0 ⊢
 refine sq (ar rfl (qn (sq ?_)))
 refine AWP.cond (Ak (fun hc=>?_) (fun hc=>?_))
 rotate_left
 ·obtain rfl:=Bf hJ0 (fun hl=>by have:=Aiz hc;omega)
  have h:=Be hO0;try dsimp only at h
  have hkl:l.length=k0:=by have:=Aiz hc;omega
  subst hkl
  refine xt (qe (qe (bs (qn (sq (ar rfl (qn (rt ?_))))))))
  cases h;exact en Tryz.results79
 have hlt0:k0<l.length:=by have:=Ai0 hc;omega
 obtain⟨x_2,b0,hx0_,h,hJ0⟩:=A9 hJ0 hlt0
 have hx0:=Ay hx0_
 have hw0:=wk (k:=k0) (by omega)
 unfold Ei at h;try dsimp only at h
 refine sk (qn (sq (bk (sq ?_))))
 refine rg rfl fun K j=>?_
 refine Bn.of (f:=Ax) (l:=l) hx0 ?_
 refine nS ?_
 refine j _ _ (qn (sq (sq ?_)))
 refine rg rfl fun K j=>?_
 obtain⟨y3,hy3,h⟩:=Af h
 refine An.pure Tryz.call166 (V2 x_2 hy3) rfl fun _ hr=>?_
 subst hr
 refine nS ?_
 refine j _ _ (qn ?_)
 revert h;refine ca rfl (fun hc h=>?_) fun hc h=>?_
 ·refine sq (ar rfl (qn (rt (qr (br (qr (qr ?_)))))))
  obtain rfl:=Aa h
  obtain rfl:=Ae hJ0
  replace h:=Al hO0
  refine br (qr ?_)
  cases h;exact en Tryz.results79
 refine sk (qn (sq (sq ?_)))
 refine rg rfl fun K j=>?_
 obtain⟨y4,hy4,h⟩:=Af h
 refine An.pure Tryz.call167 (Tu x_2.Zones hy4) rfl fun _ hr=>?_
 subst hr
 refine nS ?_
 refine j _ _ (qn ?_)
 revert h;refine ca rfl (fun hc h=>?_) fun hc h=>?_
 ·refine sq (ar rfl (qn (rt (qr (br (qr (qr ?_)))))))
  obtain rfl:=Aa h
  obtain rfl:=Ae hJ0
  replace h:=Al hO0
  refine br (qr ?_)
  cases h;exact en Tryz.results79
 refine sk (qn (sq ?_))
 refine AWP.draw Tryz.mixed (by kernel_rfl) ?_;intro K j
 refine nS ?_
 revert h;refine gt (fun hc h=>?_) fun hc h=>?_
 ·obtain⟨x_5,hx_5,h⟩:=Af h
  refine Bn.of (f:=Ax) (l:=l) hx_5 ?_
  refine nS ?_
  refine j _ _ _ (by kernel_rfl) ?_
  refine qn ?_
  revert h;refine ca rfl (fun hc h=>?_) fun hc h=>?_
  ·refine sq (ar rfl (qn (rt (br (qr (qr ?_))))))
   obtain rfl:=Aa h
   obtain rfl:=Ae hJ0
   replace h:=Al hO0
   refine br (qr ?_)
   cases h;exact en Tryz.results79
  refine sk (bn (qn (ar rfl (qn ?_))))
  obtain rfl:=Aa h
  refine⟨(k0+1,(),()),⟨by dsimp only;omega,Ai hJ0⟩,by dsimp only;omega,?_,?_⟩
  ·exact cuw hw0
  exact cuw hw0
 refine j _ _ _ (by kernel_rfl) ?_
 refine qn ?_
 refine AWP.cond (Bk ?_)
 refine sk (bn (qn (ar rfl (qn ?_))))
 obtain rfl:=Aa h
 refine⟨(k0+1,(),()),⟨by dsimp only;omega,Ai hJ0⟩,by dsimp only;omega,?_,?_⟩
 ·exact cuw hw0
 exact cuw hw0
def Mg (m:Bh):Option (Bool):=
 (bif (decide (m.ID<1))then some false else(bif (decide (9999<m.ID))then some false else(bif (decide (m.Slide<1))then some false else(bif (decide (9999<m.Slide))then some false else(bif (decide (m.By<1))then some false else(bif (decide (9999<m.By))then some false else(bif (decide (m.State<0))then some false else(bif (decide (6<m.State))then some false else(bif (decide (m.Since<0))then some false else(bif (decide (20000000<m.Since))then some false else(bif (decide (0≤m.Window.From))then (bif (decide (m.Window.From<m.Window.To))then some (decide (m.Window.To≤20000000))else some false)else some false)))))))))))
theorem Zp (m:Bh) {r:Bool} (h:Mg m=some r):Ad Tryz.prog 168 [.agg (Ap m)] (·= .bool r):=by
 refine Ad.nle (Ad.intro Tryz.func168 rfl rfl (by show _≤68;simp) ?_)
 unfold Mg at h
 refine nS (sq ?_)
 refine ar rfl (qn (sq (sq ?_)))
 refine rg rfl fun K j=>?_
 revert h;refine gf (fun hc h=>?_) fun hc h=>?_
 rotate_left
 ·refine j _ _ (qn ?_)
  refine AWP.cond (Ah ?_)
  refine sq (ar rfl (qn (rt (qr ?_))))
  cases h;exact en Tryz.results168
 revert h;refine gf (fun hc h=>?_) fun hc h=>?_
 rotate_left
 ·refine j _ _ (qn ?_)
  refine AWP.cond (Ah ?_)
  refine sq (ar rfl (qn (rt (qr ?_))))
  cases h;exact en Tryz.results168
 revert h;refine gf (fun hc h=>?_) fun hc h=>?_
 rotate_left
 ·refine j _ _ (qn ?_)
  refine AWP.cond (Ah ?_)
  refine sq (ar rfl (qn (rt (qr ?_))))
  cases h;exact en Tryz.results168
 revert h;refine gf (fun hc h=>?_) fun hc h=>?_
 rotate_left
 ·refine j _ _ (qn ?_)
  refine AWP.cond (Ah ?_)
  refine sq (ar rfl (qn (rt (qr ?_))))
  cases h;exact en Tryz.results168
 revert h;refine gf (fun hc h=>?_) fun hc h=>?_
 rotate_left
 ·refine j _ _ (qn ?_)
  refine AWP.cond (Ah ?_)
  refine sq (ar rfl (qn (rt (qr ?_))))
  cases h;exact en Tryz.results168
 refine j _ _ (qn ?_)
 revert h;refine ca rfl (fun hc h=>?_) fun hc h=>?_
 ·refine sq (ar rfl (qn (rt (qr ?_))))
  cases h;exact en Tryz.results168
 refine sk (qn (sq (sq ?_)))
 refine rg rfl fun K j=>?_
 revert h;refine gf (fun hc h=>?_) fun hc h=>?_
 rotate_left
 ·refine j _ _ (qn ?_)
  refine AWP.cond (Ah ?_)
  refine sq (ar rfl (qn (rt (qr ?_))))
  cases h;exact en Tryz.results168
 revert h;refine gf (fun hc h=>?_) fun hc h=>?_
 rotate_left
 ·refine j _ _ (qn ?_)
  refine AWP.cond (Ah ?_)
  refine sq (ar rfl (qn (rt (qr ?_))))
  cases h;exact en Tryz.results168
 revert h;refine gf (fun hc h=>?_) fun hc h=>?_
 ·refine j _ _ (qn ?_)
  revert h;refine ca rfl (fun hc h=>?_) fun hc h=>?_
  ·refine sq (ar rfl (qn (rt (qr ?_))))
   cases h;exact en Tryz.results168
  refine sk (qn (sq ?_))
  refine rg rfl fun K j=>?_
  revert h;refine gt (fun hc h=>?_) fun hc h=>?_
  ·revert h;refine gt (fun hc h=>?_) fun hc h=>?_
   ·refine j _ _ (qn (rt ?_))
    cases h;exact en Tryz.results168
   refine j _ _ (qn (rt ?_))
   cases h;exact en Tryz.results168
  refine j _ _ (qn (rt ?_))
  cases h;exact en Tryz.results168
 refine j _ _ (qn ?_)
 refine AWP.cond (Ah ?_)
 refine sq (ar rfl (qn (rt (qr ?_))))
 cases h;exact en Tryz.results168
def Tv (id_:Int) (k0:Nat) (x_2:Bh) (sv:Unit):Option (Out (Unit) (Int)):=
 (bif (decide (x_2.ID=id_))then some (Out.ret ((k0:Nat):Int))else some (Out.next ()))
def Vh (l:List Bh) (id_:Int):Option (Int):=
 (Am (Tv id_) 0 l ()).bind fun o0=>o0.on fun s0=>some (-1)
theorem eW (l:List Bh) (id_:Int) {r:Int} (h:Vh l id_=some r):Ad Tryz.prog 169 [.sl 7 (l.map Ap),.int .i64 id_] (·= .int .i64 r):=by
 refine Ad.nle (Ad.intro Tryz.func169 rfl rfl (by show _≤8;simp) ?_)
 unfold Vh at h
 refine nS (sq ?_)
 refine ar rfl (qn (sq ?_))
 refine rg rfl fun K j=>?_
 refine An.inline Tryz.call247 Tryz.func247 rfl rfl (by show _≤19;simp) ?_
 refine nS (sq ?_)
 refine ar rfl (qn (sq (sq ?_)))
 refine rg rfl fun K j=>?_
 intro hm
 refine j _ _ (qn (bk ?_));clear j K
 obtain⟨o0,hJ0,hO0⟩:=Af h
 clear h
 refine AWP.Bw (ι:=Nat×(Unit)×(Unit)) (fun zz=>[(0,.sl 7 (l.map Ap)),(1,.func 248 [.ptr 0 0]),(7,.int .i64 ((l.length:Nat):Int)),(8,.int .i64 ((zz.1:Nat):Int))]) (fun zz=>[.box [.int .i64 id_]]) (fun zz=>zz.1≤l.length∧Am (Tv id_) zz.1 ((l).drop zz.1) zz.2.1=some o0) (fun zz=>l.length - zz.1) (0,(),()) ⟨Nat.zero_le _,hJ0⟩ cu cu (fun x=>⟨rfl,rfl,rfl⟩) ?_
 clear hJ0
 rintro⟨k0,⟨⟩,⟨⟩⟩ ⟨hk0,hJ0⟩
 dsimp only at hk0 hJ0 ⊢
 refine sq (ar rfl (qn (sq ?_)))
 refine AWP.cond (Ak (fun hc=>?_) (fun hc=>?_))
 rotate_left
 ·obtain rfl:=Bf hJ0 (fun hl=>by have:=Aiz hc;omega)
  have h:=Be hO0;try dsimp only at h
  have hkl:l.length=k0:=by have:=Aiz hc;omega
  subst hkl
  refine xt (qe (qe (bs (qn (sq (ar rfl (qn (rt ?_))))))))
  refine nSc Tryz.results247 ?_
  refine j _ _ (qn (rt ?_))
  cases h;exact en Tryz.results169
 have hlt0:k0<l.length:=by have:=Ai0 hc;omega
 obtain⟨x_2,b0,hx0_,h,hJ0⟩:=A9 hJ0 hlt0
 have hx0:=Ay hx0_
 have hw0:=wk (k:=k0) (by omega)
 unfold Tv at h;try dsimp only at h
 refine sk (qn (sq (bk (sq (ar rfl (qn (sq ?_)))))))
 refine rg rfl fun K j=>?_
 refine Bn.of (f:=Ap) (l:=l) hx0 ?_
 refine nS ?_
 refine An.inline Tryz.call248 Tryz.func248 rfl rfl (by show _≤8;simp) ?_
 refine nS (sq ?_)
 refine ar rfl (qn (sq ?_))
 refine ar rfl (qn (rt ?_))
 refine nSc Tryz.results248 ?_
 refine j _ _ (qn ?_);clear j K
 revert h;refine ca rfl (fun hc h=>?_) fun hc h=>?_
 ·refine sq (ar rfl (qn (rt (br (qr (qr ?_))))))
  obtain rfl:=Aa h
  obtain rfl:=Ae hJ0
  replace h:=Al hO0
  refine br (qr (nSc Tryz.results247 ?_))
  refine j _ _ (qn (rt ?_))
  cases h;exact en Tryz.results169
 refine sk (bn (qn (ar rfl (qn ?_))))
 obtain rfl:=Aa h
 refine⟨(k0+1,(),()),⟨by dsimp only;omega,Ai hJ0⟩,by dsimp only;omega,?_,?_⟩
 ·exact cuw hw0
 exact cuw hw0
def O5 (m:Bh):Option (Bool):=
 (bif (decide (m.State=0))then some true else(Il m).bind fun y1=>some y1)
theorem Vz (m:Bh) {r:Bool} (h:O5 m=some r):Ad Tryz.prog 170 [.agg (Ap m)] (·= .bool r):=by
 refine Ad.nle (Ad.intro Tryz.func170 rfl rfl (by show _≤10;simp) ?_)
 unfold O5 at h
 refine nS (sq ?_)
 refine ar rfl (qn (sq ?_))
 refine rg rfl fun K j=>?_
 revert h;refine gf (fun hc h=>?_) fun hc h=>?_
 ·obtain⟨y1,hy1,h⟩:=Af h
  refine An.pure Tryz.call249 (S0 m hy1) rfl fun _ hr=>?_
  subst hr
  refine nS ?_
  refine j _ _ (qn (rt ?_))
  cases h;exact en Tryz.results170
 refine j _ _ (qn (rt ?_))
 cases h;exact en Tryz.results170
def Hr (l:List Bh) (k0:Nat) (x_2:Bh) (k4:Nat) (_x:Unit) (sv:Unit):Option (Out (Unit) (Out (Unit) (Int))):=
 (Dk (l.take k0) ((k4:Nat):Int)).bind fun x_6=>(O5 x_2).bind fun y7=>(bif y7 then(O5 x_6).bind fun y8=>(bif y8 then(bif (decide (x_6.Slide=x_2.Slide))then some (Out.ret (Out.ret 15))else some (Out.next ()))else some (Out.next ()))else some (Out.next ()))
def Oi (l:List Bh) (k0:Nat) (x_2:Bh) (sv:Unit):Option (Out (Unit) (Int)):=
 (Mg x_2).bind fun y3=>(bif (!y3)then some (Out.ret 2)else okB (decide (0≤((k0:Nat):Int)∧((k0:Nat):Int)≤((l.length:Nat):Int))) ((Vh (l.take k0) x_2.ID).bind fun y4=>(bif (decide (0≤y4))then some (Out.ret 7)else okB (decide (0≤((k0:Nat):Int)∧((k0:Nat):Int)≤((l.length:Nat):Int))) ((J0 (Hr l k0 x_2) k0 ()).bind fun o4=>o4.on fun s4=>some (Out.next ())))))
def P4 (l:List Bh):Option (Int):=
 (bif (decide (64<((l.length:Nat):Int)))then some 4 else(Am (Oi l) 0 l ()).bind fun o0=>o0.on fun s0=>some 0)
theorem c9 (l:List Bh) {r:Int} (h:P4 l=some r):Ad Tryz.prog 80 [.sl 7 (l.map Ap)] (·= .int .i64 r):=by
 refine Ad.nle (Ad.intro Tryz.func80 rfl rfl (by show _≤50;simp) ?_)
 unfold P4 at h
 refine nS (sq ?_)
 refine ar rfl (qn (sq (sq ?_)))
 refine rg rfl fun K j=>?_
 intro hm
 refine j _ _ (qn ?_)
 revert h;refine ca rfl (fun hc h=>?_) fun hc h=>?_
 ·refine sq (ar rfl (qn (rt (qr ?_))))
  cases h;exact en Tryz.results80
 refine sk (qn (sq (sq ?_)))
 refine rg rfl fun K j=>?_
 intro hm
 refine j _ _ (qn (bk ?_))
 obtain⟨o0,hJ0,hO0⟩:=Af h
 clear h
 refine AWP.Bw (ι:=Nat×(Unit)×(Unit)) (fun zz=>[(0,.sl 7 (l.map Ap)),(10,.sl 7 (l.map Ap)),(11,.int .i64 ((l.length:Nat):Int)),(12,.int .i64 ((zz.1:Nat):Int))]) (fun zz=>[]) (fun zz=>zz.1≤l.length∧Am (Oi l) zz.1 ((l).drop zz.1) zz.2.1=some o0) (fun zz=>l.length - zz.1) (0,(),()) ⟨Nat.zero_le _,hJ0⟩ cu cu (fun x=>⟨rfl,rfl,rfl⟩) ?_
 clear hJ0
 rintro⟨k0,⟨⟩,⟨⟩⟩ ⟨hk0,hJ0⟩
 dsimp only at hk0 hJ0 ⊢
 refine sq (ar rfl (qn (sq ?_)))
 refine AWP.cond (Ak (fun hc=>?_) (fun hc=>?_))
 rotate_left
 ·obtain rfl:=Bf hJ0 (fun hl=>by have:=Aiz hc;omega)
  have h:=Be hO0;try dsimp only at h
  have hkl:l.length=k0:=by have:=Aiz hc;omega
  subst hkl
  refine xt (qe (qe (bs (qn (sq (ar rfl (qn (rt ?_))))))))
  cases h;exact en Tryz.results80
 have hlt0:k0<l.length:=by have:=Ai0 hc;omega
 obtain⟨x_2,b0,hx0_,h,hJ0⟩:=A9 hJ0 hlt0
 have hx0:=Ay hx0_
 have hw0:=wk (k:=k0) (by omega)
 unfold Oi at h;try dsimp only at h
 refine sk (qn (sq (bk (sq ?_))))
 refine rg rfl fun K j=>?_
 refine Bn.of (f:=Ap) (l:=l) hx0 ?_
 refine nS ?_
 refine j _ _ (qn (sq (sq ?_)))
 refine rg rfl fun K j=>?_
 obtain⟨y3,hy3,h⟩:=Af h
 refine An.pure Tryz.call168 (Zp x_2 hy3) rfl fun _ hr=>?_
 subst hr
 refine nS ?_
 refine j _ _ (qn ?_)
 revert h;refine ca rfl (fun hc h=>?_) fun hc h=>?_
 ·refine sq (ar rfl (qn (rt (qr (br (qr (qr ?_)))))))
  obtain rfl:=Aa h
  obtain rfl:=Ae hJ0
  replace h:=Al hO0
  refine br (qr ?_)
  cases h;exact en Tryz.results80
 refine sk (qn (sq (sq ?_)))
 refine AWP.draw Tryz.mixed (by kernel_rfl) ?_;intro K j
 refine nS ?_
 obtain⟨hk,h⟩:=Jm h
 intro hm
 (repeat(refine⟨by omega,?_⟩))
 obtain⟨y4,hy4,h⟩:=Af h
 refine B7.pure Tryz.call169 (eW (l.take k0) x_2.ID hy4) rfl ?_
 refine nS ?_
 refine j _ _ _ (by kernel_rfl) ?_
 refine qn ?_
 revert h;refine ca rfl (fun hc h=>?_) fun hc h=>?_
 ·refine sq (ar rfl (qn (rt (qr (br (qr (qr ?_)))))))
  obtain rfl:=Aa h
  obtain rfl:=Ae hJ0
  replace h:=Al hO0
  refine br (qr ?_)
  cases h;exact en Tryz.results80
 refine sk (qn (sq ?_))
 refine rg rfl fun K j=>?_
 obtain⟨hk,h⟩:=Jm h
 intro hm
 (repeat(refine⟨by omega,?_⟩))
 intro hm
 refine j _ _ (qn (bk ?_))
 obtain⟨o4,hJ4,hO4⟩:=Af h
 clear h
 obtain⟨hn4,hJ4⟩:=Sw hJ4
 refine AWP.Bw (ι:=Nat×(Unit)×(Unit)) (fun zz=>[(0,.sl 7 (l.map Ap)),(4,.ptr 0 0),(10,.sl 7 (l.map Ap)),(11,.int .i64 ((l.length:Nat):Int)),(12,.int .i64 ((k0:Nat):Int)),(29,.sl 7 ((l.take k0).map Ap)),(30,.int .i64 ((k0:Nat):Int)),(31,.int .i64 ((zz.1:Nat):Int))]) (fun zz=>[.box [.int .i64 x_2.ID,.int .i64 x_2.Slide,.int .i64 x_2.By,.int .i64 x_2.State,.int .i64 x_2.Since,.int .i64 x_2.Window.From,.int .i64 x_2.Window.To]]) (fun zz=>zz.1≤k0∧Am (Hr l k0 x_2) zz.1 ((List.replicate k0 ()).drop zz.1) zz.2.1=some o4) (fun zz=>k0 - zz.1) (0,(),()) ⟨Nat.zero_le _,hJ4⟩ cu cu (fun x=>⟨rfl,rfl,rfl⟩) ?_
 clear hJ4
 rintro⟨k4,⟨⟩,⟨⟩⟩ ⟨hk4,hJ4⟩
 dsimp only at hk4 hJ4 ⊢
 refine sq (ar rfl (qn (sq ?_)))
 refine AWP.cond (Ak (fun hc=>?_) (fun hc=>?_))
 rotate_left
 ·obtain rfl:=Bf hJ4 (fun hl=>by rw[List.length_replicate]at hl;have:=Aiz hc;omega)
  have h:=Be hO4;try dsimp only at h
  have hkl:k0=k4:=by have:=Aiz hc;omega
  subst hkl
  refine xt (qe (qe (bs (bn (qn (ar rfl (qn ?_)))))))
  obtain rfl:=Aa h
  refine⟨(k0+1,(),()),⟨by dsimp only;omega,Ai hJ0⟩,by dsimp only;omega,?_,?_⟩
  ·exact cuw hw0
  exact cuw hw0
 have hlt4:k4<k0:=by have:=Ai0 hc;omega
 obtain⟨_,b4,_,h,hJ4⟩:=A9 hJ4 (by rw[List.length_replicate];exact hlt4)
 have hw4:=wk (k:=k4) (by omega)
 unfold Hr at h;try dsimp only at h
 refine sk (qn (sq (bk (sq ?_))))
 refine rg rfl fun K j=>?_
 obtain⟨x_6,hx_6,h⟩:=Af h
 refine Bn.of (f:=Ap) (l:=(l.take k0)) hx_6 ?_
 refine nS ?_
 refine j _ _ (qn (sq ?_))
 refine rg rfl fun K j=>?_
 obtain⟨y7,hy7,h⟩:=Af h
 refine An.pure Tryz.call170 (Vz x_2 hy7) rfl fun _ hr=>?_
 subst hr
 refine nS ?_
 revert h;refine gt (fun hc h=>?_) fun hc h=>?_
 ·obtain⟨y8,hy8,h⟩:=Af h
  refine An.pure Tryz.call170 (Vz x_6 hy8) rfl fun _ hr=>?_
  subst hr
  refine nS ?_
  revert h;refine gt (fun hc h=>?_) fun hc h=>?_
  ·refine j _ _ (qn ?_)
   revert h;refine ca rfl (fun hc h=>?_) fun hc h=>?_
   ·refine sq (ar rfl (qn (rt (br (qr (qr ?_))))))
    obtain rfl:=Aa h
    obtain rfl:=Ae hJ4
    replace h:=Al hO4
    refine br (br (qr (qr ?_)))
    obtain rfl:=Aa h
    obtain rfl:=Ae hJ0
    replace h:=Al hO0
    refine br (qr ?_)
    cases h;exact en Tryz.results80
   refine sk (bn (qn (ar rfl (qn ?_))))
   obtain rfl:=Aa h
   refine⟨(k4+1,(),()),⟨by dsimp only;omega,Ai hJ4⟩,by dsimp only;omega,?_,?_⟩
   ·exact cuw hw4
   exact cuw hw4
  refine j _ _ (qn ?_)
  refine AWP.cond (Bk ?_)
  refine sk (bn (qn (ar rfl (qn ?_))))
  obtain rfl:=Aa h
  refine⟨(k4+1,(),()),⟨by dsimp only;omega,Ai hJ4⟩,by dsimp only;omega,?_,?_⟩
  ·exact cuw hw4
  exact cuw hw4
 refine j _ _ (qn ?_)
 refine AWP.cond (Bk ?_)
 refine sk (bn (qn (ar rfl (qn ?_))))
 obtain rfl:=Aa h
 refine⟨(k4+1,(),()),⟨by dsimp only;omega,Ai hJ4⟩,by dsimp only;omega,?_,?_⟩
 ·exact cuw hw4
 exact cuw hw4
def P7 (l:List Int) (k0:Nat) (x_2:Int) (sv:Unit):Option (Out (Unit) (Bool)):=
 (bif (decide (x_2<1))then some (Out.ret false)else (bif (decide (9999<x_2))then some (Out.ret false)else (bif (decide (0<((k0:Nat):Int)))then (Dk l (IntKind.i64.wrap (((k0:Nat):Int) - 1))).bind fun x_3=>(bif (decide (x_2≤x_3))then some (Out.ret false)else some (Out.next ()))else some (Out.next ()))))
def Qp (l:List Int):Option (Bool):=
 (Am (P7 l) 0 l ()).bind fun o0=>o0.on fun s0=>some (decide (0<((l.length:Nat):Int)))
theorem Zy (l:List Int) {r:Bool} (h:Qp l=some r):Ad Tryz.prog 171 [.sl 1 (l.map A2)] (·= .bool r):=by
 refine Ad.nle (Ad.intro Tryz.func171 rfl rfl (by show _≤35;simp) ?_)
 unfold Qp at h
 refine nS (sq ?_)
 refine ar rfl (qn (sq (sq ?_)))
 refine rg rfl fun K j=>?_
 intro hm
 refine j _ _ (qn (bk ?_))
 obtain⟨o0,hJ0,hO0⟩:=Af h
 clear h
 refine AWP.Bw (ι:=Nat×(Unit)×(Unit)) (fun zz=>[(0,.sl 1 (l.map A2)),(5,.sl 1 (l.map A2)),(6,.int .i64 ((l.length:Nat):Int)),(7,.int .i64 ((zz.1:Nat):Int))]) (fun zz=>[]) (fun zz=>zz.1≤l.length∧Am (P7 l) zz.1 ((l).drop zz.1) zz.2.1=some o0) (fun zz=>l.length - zz.1) (0,(),()) ⟨Nat.zero_le _,hJ0⟩ cu cu (fun x=>⟨rfl,rfl,rfl⟩) ?_
 clear hJ0
 rintro⟨k0,⟨⟩,⟨⟩⟩ ⟨hk0,hJ0⟩
 dsimp only at hk0 hJ0 ⊢
 refine sq (ar rfl (qn (sq ?_)))
 refine AWP.cond (Ak (fun hc=>?_) (fun hc=>?_))
 rotate_left
 ·obtain rfl:=Bf hJ0 (fun hl=>by have:=Aiz hc;omega)
  have h:=Be hO0;try dsimp only at h
  have hkl:l.length=k0:=by have:=Aiz hc;omega
  subst hkl
  refine xt (qe (qe (bs (qn (sq ?_)))))
  refine rg rfl fun K j=>?_
  intro hm
  refine j _ _ (qn (rt ?_))
  cases h;exact en Tryz.results171
 have hlt0:k0<l.length:=by have:=Ai0 hc;omega
 obtain⟨x_2,b0,hx0_,h,hJ0⟩:=A9 hJ0 hlt0
 have hx0:=Ay hx0_
 have hw0:=wk (k:=k0) (by omega)
 unfold P7 at h;try dsimp only at h
 refine sk (qn (sq (bk (sq ?_))))
 refine rg rfl fun K j=>?_
 refine Bn.of (f:=A2) (l:=l) hx0 ?_
 refine nS ?_
 refine j _ _ (qn (sq ?_))
 refine rg rfl fun K j=>?_
 revert h;refine gf (fun hc h=>?_) fun hc h=>?_
 rotate_left
 ·refine j _ _ (qn ?_)
  refine AWP.cond (Ah ?_)
  refine sq (ar rfl (qn (rt (br (qr (qr ?_))))))
  obtain rfl:=Aa h
  obtain rfl:=Ae hJ0
  replace h:=Al hO0
  refine br (qr ?_)
  cases h;exact en Tryz.results171
 revert h;refine gf (fun hc h=>?_) fun hc h=>?_
 rotate_left
 ·refine j _ _ (qn ?_)
  refine AWP.cond (Ah ?_)
  refine sq (ar rfl (qn (rt (br (qr (qr ?_))))))
  obtain rfl:=Aa h
  obtain rfl:=Ae hJ0
  replace h:=Al hO0
  refine br (qr ?_)
  cases h;exact en Tryz.results171
 revert h;refine gt (fun hc h=>?_) fun hc h=>?_
 ·obtain⟨x_3,hx_3,h⟩:=Af h
  refine Bn.of (f:=A2) (l:=l) hx_3 ?_
  refine nS ?_
  refine j _ _ (qn ?_)
  revert h;refine ca rfl (fun hc h=>?_) fun hc h=>?_
  ·refine sq (ar rfl (qn (rt (br (qr (qr ?_))))))
   obtain rfl:=Aa h
   obtain rfl:=Ae hJ0
   replace h:=Al hO0
   refine br (qr ?_)
   cases h;exact en Tryz.results171
  refine sk (bn (qn (ar rfl (qn ?_))))
  obtain rfl:=Aa h
  refine⟨(k0+1,(),()),⟨by dsimp only;omega,Ai hJ0⟩,by dsimp only;omega,?_,?_⟩
  ·exact cuw hw0
  exact cuw hw0
 refine j _ _ (qn ?_)
 refine AWP.cond (Bk ?_)
 refine sk (bn (qn (ar rfl (qn ?_))))
 obtain rfl:=Aa h
 refine⟨(k0+1,(),()),⟨by dsimp only;omega,Ai hJ0⟩,by dsimp only;omega,?_,?_⟩
 ·exact cuw hw0
 exact cuw hw0
def cmp_isNaN_int (x_:Int):Option (Bool):=
 some false
theorem R6 (x_:Int) {r:Bool} (h:cmp_isNaN_int x_=some r):Ad Tryz.prog 277 [.int .i64 x_] (·= .bool r):=by
 refine Ad.nle (Ad.intro Tryz.func277 rfl rfl (by show _≤6;simp) ?_)
 unfold cmp_isNaN_int at h
 refine nS (sq ?_)
 refine ar rfl (qn (sq ?_))
 refine ar rfl (qn (rt ?_))
 cases h;exact en Tryz.results277
def cmp_Less_int (x_:Int) (y:Int):Option (Bool):=
 (cmp_isNaN_int x_).bind fun y1=>(bif y1 then(cmp_isNaN_int y).bind fun y2=>(bif (!y2)then some true else some (decide (x_<y)))else some (decide (x_<y)))
theorem aO (x_:Int) (y:Int) {r:Bool} (h:cmp_Less_int x_ y=some r):Ad Tryz.prog 232 [.int .i64 x_,.int .i64 y] (·= .bool r):=by
 refine Ad.nle (Ad.intro Tryz.func232 rfl rfl (by show _≤17;simp) ?_)
 unfold cmp_Less_int at h
 refine nS (sq ?_)
 refine ar rfl (qn (sq ?_))
 refine rg rfl fun K j=>?_
 obtain⟨y1,hy1,h⟩:=Af h
 refine An.pure Tryz.call277 (R6 x_ hy1) rfl fun _ hr=>?_
 subst hr
 refine nS ?_
 revert h;refine gt (fun hc h=>?_) fun hc h=>?_
 ·obtain⟨y2,hy2,h⟩:=Af h
  refine An.pure Tryz.call277 (R6 y hy2) rfl fun _ hr=>?_
  subst hr
  refine nS ?_
  revert h;refine gf (fun hc h=>?_) fun hc h=>?_
  ·refine j _ _ (qn (rt ?_))
   cases h;exact en Tryz.results232
  refine j _ _ (qn (rt ?_))
  cases h;exact en Tryz.results232
 refine j _ _ (qn (rt ?_))
 cases h;exact en Tryz.results232
def La (x_:Int):Option (Bool):=
 some false
theorem Oo (x_:Int) {r:Bool} (h:La x_=some r):Ad Tryz.prog 285 [.int .i64 x_] (·= .bool r):=by
 refine Ad.nle (Ad.intro Tryz.func285 rfl rfl (by show _≤6;simp) ?_)
 unfold La at h
 refine nS (sq ?_)
 refine ar rfl (qn (sq ?_))
 refine ar rfl (qn (rt ?_))
 cases h;exact en Tryz.results285
def C9 (x_:List Int) (target:Int) (sv:Int×Int):Option (Out (Int×Int) (Int×Bool)):=
 (bif (decide (sv.1<sv.2))then (Dk x_ (IntKind.i64.wrap (fN (IntKind.u64.wrap (IntKind.i64.wrap (sv.1+sv.2))) 1))).bind fun x_4=>(cmp_Less_int x_4 target).bind fun y5=>(bif y5 then some (Out.next ((IntKind.i64.wrap ((IntKind.i64.wrap (fN (IntKind.u64.wrap (IntKind.i64.wrap (sv.1+sv.2))) 1))+1)),sv.2))else some (Out.next (sv.1,(IntKind.i64.wrap (fN (IntKind.u64.wrap (IntKind.i64.wrap (sv.1+sv.2))) 1)))))else ((bif (decide (sv.1<((x_.length:Nat):Int)))then (Dk x_ sv.1).bind fun x_6=>(bif (decide (x_6=target))then some (sv.1,true)else (La x_6).bind fun y7=>(bif y7 then(La target).bind fun y8=>some (sv.1,y8)else some (sv.1,false)))else some (sv.1,false))).bind fun q8=>some (Out.ret q8))
def Dj (x_:List Int) (target:Int):Option (Int×Bool):=
 (Ea (C9 x_ target) fuel (0,((x_.length:Nat):Int))).bind fun o2=>o2.on fun _=>none
theorem Nm (x_:List Int) (target:Int) {r:Int×Bool} (h:Dj x_ target=some r):Ad Tryz.prog 278 [.sl 1 (x_.map A2),.int .i64 target] (·= .tuple [.int .i64 r.1,.bool r.2]):=by
 refine Ad.nle (Ad.intro Tryz.func278 rfl rfl (by show _≤54;simp) ?_)
 unfold Dj at h
 refine nS (sq ?_)
 refine ar rfl (qn (sq ?_))
 refine rg rfl fun K j=>?_
 intro hm
 refine j _ _ (qn (sq ?_))
 refine ar rfl (qn (sq (bk ?_)))
 obtain⟨o2,hJ2,hO2⟩:=Af h
 clear h
 refine AWP.Bw (ι:=Nat×(Int×Int)×(Unit)) (fun zz=>[(0,.sl 1 (x_.map A2)),(1,.int .i64 target),(6,.int .i64 ((x_.length:Nat):Int)),(7,.int .i64 zz.2.1.1),(8,.int .i64 zz.2.1.2)]) (fun zz=>[]) (fun zz=>Ea (C9 x_ target) zz.1 zz.2.1=some o2) (fun zz=>zz.1) (fuel,(0,((x_.length:Nat):Int)),()) hJ2 cu cu (fun x=>⟨rfl,rfl,rfl⟩) ?_
 clear hJ2
 rintro⟨n2,⟨i1,j2⟩,⟨⟩⟩ hJ2
 dsimp only at hJ2 ⊢
 obtain⟨m2,b2,rfl,h,hJ2⟩:=J4 hJ2
 unfold C9 at h;try dsimp only at h
 refine sq (sq (ar rfl (qn ?_)))
 revert h;refine ca rfl (fun hc h=>?_) fun hc h=>?_
 ·refine sk (qn (bk (sq (ar rfl (qn (sq ?_))))))
  refine rg rfl fun K j=>?_
  obtain⟨x_4,hx_4,h⟩:=Af h
  refine Bn.of (f:=A2) (l:=x_) hx_4 ?_
  refine nS ?_
  obtain⟨y5,hy5,h⟩:=Af h
  refine An.pure Tryz.call232 (aO x_4 target hy5) rfl fun _ hr=>?_
  subst hr
  refine nS ?_
  refine j _ _ (qn ?_)
  revert h;refine ca rfl (fun hc h=>?_) fun hc h=>?_
  ·refine ar rfl (bn (qn ?_))
   obtain rfl:=Aa h
   refine⟨(m2,((IntKind.i64.wrap ((IntKind.i64.wrap (fN (IntKind.u64.wrap (IntKind.i64.wrap (i1+j2))) 1))+1)),j2),()),Ai hJ2,by dsimp only;omega,?_,?_⟩
   ·exact cu
   exact cu
  refine ar rfl (bn (qn ?_))
  obtain rfl:=Aa h
  refine⟨(m2,(i1,(IntKind.i64.wrap (fN (IntKind.u64.wrap (IntKind.i64.wrap (i1+j2))) 1))),()),Ai hJ2,by dsimp only;omega,?_,?_⟩
  ·exact cu
  exact cu
 refine xt (qe (qe ?_))
 obtain⟨q8,hq,h⟩:=Af h
 obtain rfl:=Aa h
 obtain rfl:=Ae hJ2
 replace h:=hq.trans (Al hO2)
 refine bs (qn (sq ?_))
 refine rg rfl fun K j=>?_
 revert h;refine gt (fun hc h=>?_) fun hc h=>?_
 rotate_left
 ·refine j _ _ (qn (rt ?_))
  cases h;exact en Tryz.results278
 obtain⟨x_6,hx_6,h⟩:=Af h
 refine Bn.of (f:=A2) (l:=x_) hx_6 ?_
 refine nS ?_
 revert h;refine gf (fun hc h=>?_) fun hc h=>?_
 ·refine Bn.of (f:=A2) (l:=x_) hx_6 ?_
  refine nS ?_
  obtain⟨y7,hy7,h⟩:=Af h
  refine An.pure Tryz.call285 (Oo x_6 hy7) rfl fun _ hr=>?_
  subst hr
  refine nS ?_
  revert h;refine gt (fun hc h=>?_) fun hc h=>?_
  ·obtain⟨y8,hy8,h⟩:=Af h
   refine An.pure Tryz.call285 (Oo target hy8) rfl fun _ hr=>?_
   subst hr
   refine nS ?_
   refine j _ _ (qn (rt ?_))
   cases h;exact en Tryz.results278
  refine j _ _ (qn (rt ?_))
  cases h;exact en Tryz.results278
 refine j _ _ (qn (rt ?_))
 cases h;exact en Tryz.results278
def Nn (w:A8) (run:Int):Option (Bool):=
 (Dj w.Runs run).bind fun y1=>some y1.2
theorem Zx (w:A8) (run:Int) {r:Bool} (h:Nn w run=some r):Ad Tryz.prog 253 [.agg (Ao w),.int .i64 run] (·= .bool r):=by
 refine Ad.nle (Ad.intro Tryz.func253 rfl rfl (by show _≤15;simp) ?_)
 unfold Nn at h
 refine nS (sq ?_)
 refine ar rfl (qn (sq ?_))
 refine rg rfl fun K j=>?_
 obtain⟨y1,hy1,h⟩:=Af h
 refine An.pure Tryz.call278 (Nm w.Runs run hy1) rfl fun _ hr=>?_
 subst hr
 refine nS ?_
 refine j _ _ (qn (sq ?_))
 refine ar rfl (qn (rt ?_))
 cases h;exact en Tryz.results253
def Ge (w:A8) (k0:Nat) (x_2:Int) (sv:Unit):Option (Out (Unit) (Bool)):=
 (Nn w x_2).bind fun y3=>(bif y3 then some (Out.ret (decide (0≤((k0:Nat):Int))))else some (Out.next ()))
def J1 (v:A8) (w:A8):Option (Bool):=
 (bif (decide (w.To≤v.From))then some false else(bif (decide (v.To≤w.From))then some false else(bif (decide (v.Groomer=w.Groomer))then some true else(Am (Ge w) 0 v.Runs ()).bind fun o0=>o0.on fun s0=>some false)))
theorem Yf (v:A8) (w:A8) {r:Bool} (h:J1 v w=some r):Ad Tryz.prog 174 [.agg (Ao v),.agg (Ao w)] (·= .bool r):=by
 refine Ad.nle (Ad.intro Tryz.func174 rfl rfl (by show _≤28;simp) ?_)
 unfold J1 at h
 refine nS (sq ?_)
 refine ar rfl (qn (sq (sq ?_)))
 refine rg rfl fun K j=>?_
 revert h;refine gf (fun hc h=>?_) fun hc h=>?_
 rotate_left
 ·refine j _ _ (qn ?_)
  refine AWP.cond (Ah ?_)
  refine sq (ar rfl (qn (rt (qr ?_))))
  cases h;exact en Tryz.results174
 refine j _ _ (qn ?_)
 revert h;refine ca rfl (fun hc h=>?_) fun hc h=>?_
 ·refine sq (ar rfl (qn (rt (qr ?_))))
  cases h;exact en Tryz.results174
 refine sk (qn (sq ?_))
 refine rg rfl fun K j=>?_
 revert h;refine gf (fun hc h=>?_) fun hc h=>?_
 rotate_left
 ·refine j _ _ (qn (rt ?_))
  cases h;exact en Tryz.results174
 refine An.inline Tryz.call251 Tryz.func251 rfl rfl (by show _≤9;simp) ?_
 refine nS (sq ?_)
 refine ar rfl (qn (sq ?_))
 refine rg rfl fun K j=>?_
 refine An.inline Tryz.call150 Tryz.func150 rfl rfl (by show _≤19;simp) ?_
 refine nS (sq ?_)
 refine ar rfl (qn (sq (sq ?_)))
 refine rg rfl fun K j=>?_
 intro hm
 refine j _ _ (qn (bk ?_));clear j K
 obtain⟨o0,hJ0,hO0⟩:=Af h
 clear h
 refine AWP.Bw (ι:=Nat×(Unit)×(Unit)) (fun zz=>[(0,.sl 1 (v.Runs.map A2)),(1,.func 252 [.ptr 1 0]),(7,.int .i64 ((v.Runs.length:Nat):Int)),(8,.int .i64 ((zz.1:Nat):Int))]) (fun zz=>[.box [.int .i64 v.Groomer,.int .i64 v.From,.int .i64 v.To,.sl 1 (v.Runs.map A2)],.box [.int .i64 w.Groomer,.int .i64 w.From,.int .i64 w.To,.sl 1 (w.Runs.map A2)]]) (fun zz=>zz.1≤v.Runs.length∧Am (Ge w) zz.1 ((v.Runs).drop zz.1) zz.2.1=some o0) (fun zz=>v.Runs.length - zz.1) (0,(),()) ⟨Nat.zero_le _,hJ0⟩ cu cu (fun x=>⟨rfl,rfl,rfl⟩) ?_
 clear hJ0
 rintro⟨k0,⟨⟩,⟨⟩⟩ ⟨hk0,hJ0⟩
 dsimp only at hk0 hJ0 ⊢
 refine sq (ar rfl (qn (sq ?_)))
 refine AWP.cond (Ak (fun hc=>?_) (fun hc=>?_))
 rotate_left
 ·obtain rfl:=Bf hJ0 (fun hl=>by have:=Aiz hc;omega)
  have h:=Be hO0;try dsimp only at h
  have hkl:v.Runs.length=k0:=by have:=Aiz hc;omega
  subst hkl
  refine xt (qe (qe (bs (qn (sq (ar rfl (qn (rt ?_))))))))
  refine nSc Tryz.results150 ?_
  refine j _ _ (qn (rt ?_));clear j K
  refine nSc Tryz.results251 ?_
  refine j _ _ (qn (rt ?_))
  cases h;exact en Tryz.results174
 have hlt0:k0<v.Runs.length:=by have:=Ai0 hc;omega
 obtain⟨x_2,b0,hx0_,h,hJ0⟩:=A9 hJ0 hlt0
 have hx0:=Ay hx0_
 have hw0:=wk (k:=k0) (by omega)
 unfold Ge at h;try dsimp only at h
 refine sk (qn (sq (bk (sq (ar rfl (qn (sq ?_)))))))
 refine rg rfl fun K j=>?_
 refine Bn.of (f:=A2) (l:=v.Runs) hx0 ?_
 refine nS ?_
 refine An.inline Tryz.call252 Tryz.func252 rfl rfl (by show _≤7;simp) ?_
 refine nS (sq ?_)
 refine ar rfl (qn (sq ?_))
 refine rg rfl fun K j=>?_
 obtain⟨y3,hy3,h⟩:=Af h
 refine An.pure Tryz.call253 (Zx w x_2 hy3) rfl fun _ hr=>?_
 subst hr
 refine nS ?_
 refine j _ _ (qn (rt ?_));clear j K
 refine nSc Tryz.results252 ?_
 refine j _ _ (qn ?_);clear j K
 revert h;refine ca rfl (fun hc h=>?_) fun hc h=>?_
 ·refine sq (ar rfl (qn (rt (br (qr (qr ?_))))))
  obtain rfl:=Aa h
  obtain rfl:=Ae hJ0
  replace h:=Al hO0
  refine br (qr (nSc Tryz.results150 ?_))
  refine j _ _ (qn (rt ?_));clear j K
  refine nSc Tryz.results251 ?_
  refine j _ _ (qn (rt ?_))
  cases h;exact en Tryz.results174
 refine sk (bn (qn (ar rfl (qn ?_))))
 obtain rfl:=Aa h
 refine⟨(k0+1,(),()),⟨by dsimp only;omega,Ai hJ0⟩,by dsimp only;omega,?_,?_⟩
 ·exact cuw hw0
 exact cuw hw0
def J3 (l:List A8) (k0:Nat) (x_2:A8) (k3:Nat) (_x:Unit) (sv:Unit):Option (Out (Unit) (Out (Unit) (Int))):=
 (Dk (l.take k0) ((k3:Nat):Int)).bind fun x_5=>(J1 x_5 x_2).bind fun y6=>(bif y6 then((bif (decide (0≤((k3:Nat):Int)))then some (Out.ret 15)else some (Out.next ()))).bind fun q6=>some (Out.ret q6)else some (Out.next ()))
def G7 (l:List A8) (k0:Nat) (x_2:A8) (sv:Unit):Option (Out (Unit) (Int)):=
 (bif (decide (x_2.Groomer<1))then some (Out.ret 2)else (bif (decide (9999<x_2.Groomer))then some (Out.ret 2)else (bif (decide (x_2.From<0))then some (Out.ret 2)else (bif (decide (x_2.To≤x_2.From))then some (Out.ret 2)else (bif (decide (20000000<x_2.To))then some (Out.ret 2)else (Qp x_2.Runs).bind fun y3=>(bif (!y3)then some (Out.ret 1)else okB (decide (0≤((k0:Nat):Int)∧((k0:Nat):Int)≤((l.length:Nat):Int))) ((J0 (J3 l k0 x_2) k0 ()).bind fun o3=>o3.on fun s3=>some (Out.next ()))))))))
def Pn (l:List A8):Option (Int):=
 (bif (decide (16<((l.length:Nat):Int)))then some 4 else(Am (G7 l) 0 l ()).bind fun o0=>o0.on fun s0=>some 0)
theorem bD (l:List A8) {r:Int} (h:Pn l=some r):Ad Tryz.prog 81 [.sl 4 (l.map Ao)] (·= .int .i64 r):=by
 refine Ad.nle (Ad.intro Tryz.func81 rfl rfl (by show _≤50;simp) ?_)
 unfold Pn at h
 refine nS (sq ?_)
 refine ar rfl (qn (sq (sq ?_)))
 refine rg rfl fun K j=>?_
 intro hm
 refine j _ _ (qn ?_)
 revert h;refine ca rfl (fun hc h=>?_) fun hc h=>?_
 ·refine sq (ar rfl (qn (rt (qr ?_))))
  cases h;exact en Tryz.results81
 refine sk (qn (sq (sq ?_)))
 refine rg rfl fun K j=>?_
 intro hm
 refine j _ _ (qn (bk ?_))
 obtain⟨o0,hJ0,hO0⟩:=Af h
 clear h
 refine AWP.Bw (ι:=Nat×(Unit)×(Unit)) (fun zz=>[(0,.sl 4 (l.map Ao)),(8,.sl 4 (l.map Ao)),(9,.int .i64 ((l.length:Nat):Int)),(10,.int .i64 ((zz.1:Nat):Int))]) (fun zz=>[]) (fun zz=>zz.1≤l.length∧Am (G7 l) zz.1 ((l).drop zz.1) zz.2.1=some o0) (fun zz=>l.length - zz.1) (0,(),()) ⟨Nat.zero_le _,hJ0⟩ cu cu (fun x=>⟨rfl,rfl,rfl⟩) ?_
 clear hJ0
 rintro⟨k0,⟨⟩,⟨⟩⟩ ⟨hk0,hJ0⟩
 dsimp only at hk0 hJ0 ⊢
 refine sq (ar rfl (qn (sq ?_)))
 refine AWP.cond (Ak (fun hc=>?_) (fun hc=>?_))
 rotate_left
 ·obtain rfl:=Bf hJ0 (fun hl=>by have:=Aiz hc;omega)
  have h:=Be hO0;try dsimp only at h
  have hkl:l.length=k0:=by have:=Aiz hc;omega
  subst hkl
  refine xt (qe (qe (bs (qn (sq (ar rfl (qn (rt ?_))))))))
  cases h;exact en Tryz.results81
 have hlt0:k0<l.length:=by have:=Ai0 hc;omega
 obtain⟨x_2,b0,hx0_,h,hJ0⟩:=A9 hJ0 hlt0
 have hx0:=Ay hx0_
 have hw0:=wk (k:=k0) (by omega)
 unfold G7 at h;try dsimp only at h
 refine sk (qn (sq (bk (sq ?_))))
 refine rg rfl fun K j=>?_
 refine Bn.of (f:=Ao) (l:=l) hx0 ?_
 refine nS ?_
 refine j _ _ (qn (sq (sq ?_)))
 refine rg rfl fun K j=>?_
 revert h;refine gf (fun hc h=>?_) fun hc h=>?_
 rotate_left
 ·refine j _ _ (qn ?_)
  refine AWP.cond (Ah ?_)
  refine sq (ar rfl (qn (rt (qr (br (qr (qr ?_)))))))
  obtain rfl:=Aa h
  obtain rfl:=Ae hJ0
  replace h:=Al hO0
  refine br (qr ?_)
  cases h;exact en Tryz.results81
 revert h;refine gf (fun hc h=>?_) fun hc h=>?_
 rotate_left
 ·refine j _ _ (qn ?_)
  refine AWP.cond (Ah ?_)
  refine sq (ar rfl (qn (rt (qr (br (qr (qr ?_)))))))
  obtain rfl:=Aa h
  obtain rfl:=Ae hJ0
  replace h:=Al hO0
  refine br (qr ?_)
  cases h;exact en Tryz.results81
 revert h;refine gf (fun hc h=>?_) fun hc h=>?_
 rotate_left
 ·refine j _ _ (qn ?_)
  refine AWP.cond (Ah ?_)
  refine sq (ar rfl (qn (rt (qr (br (qr (qr ?_)))))))
  obtain rfl:=Aa h
  obtain rfl:=Ae hJ0
  replace h:=Al hO0
  refine br (qr ?_)
  cases h;exact en Tryz.results81
 revert h;refine gf (fun hc h=>?_) fun hc h=>?_
 rotate_left
 ·refine j _ _ (qn ?_)
  refine AWP.cond (Ah ?_)
  refine sq (ar rfl (qn (rt (qr (br (qr (qr ?_)))))))
  obtain rfl:=Aa h
  obtain rfl:=Ae hJ0
  replace h:=Al hO0
  refine br (qr ?_)
  cases h;exact en Tryz.results81
 refine j _ _ (qn ?_)
 revert h;refine ca rfl (fun hc h=>?_) fun hc h=>?_
 ·refine sq (ar rfl (qn (rt (qr (br (qr (qr ?_)))))))
  obtain rfl:=Aa h
  obtain rfl:=Ae hJ0
  replace h:=Al hO0
  refine br (qr ?_)
  cases h;exact en Tryz.results81
 refine sk (qn (sq (sq ?_)))
 refine rg rfl fun K j=>?_
 obtain⟨y3,hy3,h⟩:=Af h
 refine An.pure Tryz.call171 (Zy x_2.Runs hy3) rfl fun _ hr=>?_
 subst hr
 refine nS ?_
 refine j _ _ (qn ?_)
 revert h;refine ca rfl (fun hc h=>?_) fun hc h=>?_
 ·refine sq (ar rfl (qn (rt (qr (br (qr (qr ?_)))))))
  obtain rfl:=Aa h
  obtain rfl:=Ae hJ0
  replace h:=Al hO0
  refine br (qr ?_)
  cases h;exact en Tryz.results81
 refine sk (qn (sq ?_))
 refine rg rfl fun K j=>?_
 obtain⟨hk,h⟩:=Jm h
 intro hm
 (repeat(refine⟨by omega,?_⟩))
 refine An.inline Tryz.call172 Tryz.func172 rfl rfl (by show _≤9;simp) ?_
 refine nS (sq ?_)
 refine ar rfl (qn (sq ?_))
 refine rg rfl fun K j=>?_
 refine An.inline Tryz.call250 Tryz.func250 rfl rfl (by show _≤19;simp) ?_
 refine nS (sq ?_)
 refine ar rfl (qn (sq (sq ?_)))
 refine rg rfl fun K j=>?_
 intro hm
 refine j _ _ (qn (bk ?_));clear j K
 obtain⟨o3,hJ3,hO3⟩:=Af h
 clear h
 obtain⟨hn3,hJ3⟩:=Sw hJ3
 refine AWP.Bw (ι:=Nat×(Unit)×(Unit)) (fun zz=>[(0,.sl 4 ((l.take k0).map Ao)),(1,.func 173 [.ptr 0 0]),(7,.int .i64 ((k0:Nat):Int)),(8,.int .i64 ((zz.1:Nat):Int))]) (fun zz=>[.box [.int .i64 x_2.Groomer,.int .i64 x_2.From,.int .i64 x_2.To,.sl 1 (x_2.Runs.map A2)]]) (fun zz=>zz.1≤k0∧Am (J3 l k0 x_2) zz.1 ((List.replicate k0 ()).drop zz.1) zz.2.1=some o3) (fun zz=>k0 - zz.1) (0,(),()) ⟨Nat.zero_le _,hJ3⟩ cu cu (fun x=>⟨rfl,rfl,rfl⟩) ?_
 clear hJ3
 rintro⟨k3,⟨⟩,⟨⟩⟩ ⟨hk3,hJ3⟩
 dsimp only at hk3 hJ3 ⊢
 refine sq (ar rfl (qn (sq ?_)))
 refine AWP.cond (Ak (fun hc=>?_) (fun hc=>?_))
 rotate_left
 ·obtain rfl:=Bf hJ3 (fun hl=>by rw[List.length_replicate]at hl;have:=Aiz hc;omega)
  have h:=Be hO3;try dsimp only at h
  have hkl:k0=k3:=by have:=Aiz hc;omega
  subst hkl
  refine xt (qe (qe (bs (qn (sq (ar rfl (qn (rt ?_))))))))
  refine nSc Tryz.results250 ?_
  refine j _ _ (qn (rt ?_));clear j K
  refine nSc Tryz.results172 ?_
  refine j _ _ (qn ?_)
  refine AWP.cond (Bk ?_)
  refine sk (bn (qn (ar rfl (qn ?_))))
  obtain rfl:=Aa h
  refine⟨(k0+1,(),()),⟨by dsimp only;omega,Ai hJ0⟩,by dsimp only;omega,?_,?_⟩
  ·exact cuw hw0
  exact cuw hw0
 have hlt3:k3<k0:=by have:=Ai0 hc;omega
 obtain⟨_,b3,_,h,hJ3⟩:=A9 hJ3 (by rw[List.length_replicate];exact hlt3)
 have hw3:=wk (k:=k3) (by omega)
 unfold J3 at h;try dsimp only at h
 refine sk (qn (sq (bk (sq (ar rfl (qn (sq ?_)))))))
 refine rg rfl fun K j=>?_
 obtain⟨x_5,hx_5,h⟩:=Af h
 refine Bn.of (f:=Ao) (l:=(l.take k0)) hx_5 ?_
 refine nS ?_
 refine An.inline Tryz.call173 Tryz.func173 rfl rfl (by show _≤7;simp) ?_
 refine nS (sq ?_)
 refine ar rfl (qn (sq ?_))
 refine rg rfl fun K j=>?_
 obtain⟨y6,hy6,h⟩:=Af h
 refine An.pure Tryz.call174 (Yf x_5 x_2 hy6) rfl fun _ hr=>?_
 subst hr
 refine nS ?_
 refine j _ _ (qn (rt ?_));clear j K
 refine nSc Tryz.results173 ?_
 refine j _ _ (qn ?_);clear j K
 revert h;refine ca rfl (fun hc h=>?_) fun hc h=>?_
 ·refine sq (ar rfl (qn (rt (br (qr (qr ?_))))))
  obtain⟨q6,hq,h⟩:=Af h
  obtain rfl:=Aa h
  obtain rfl:=Ae hJ3
  replace h:=hq.trans (Al hO3)
  refine br (qr (nSc Tryz.results250 ?_))
  refine j _ _ (qn (rt ?_));clear j K
  refine nSc Tryz.results172 ?_
  refine j _ _ (qn ?_)
  revert h;refine ca rfl (fun hc h=>?_) fun hc h=>?_
  ·refine sq (ar rfl (qn (rt (br (qr (qr ?_))))))
   obtain rfl:=Aa h
   obtain rfl:=Ae hJ0
   replace h:=Al hO0
   refine br (qr ?_)
   cases h;exact en Tryz.results81
  refine sk (bn (qn (ar rfl (qn ?_))))
  obtain rfl:=Aa h
  refine⟨(k0+1,(),()),⟨by dsimp only;omega,Ai hJ0⟩,by dsimp only;omega,?_,?_⟩
  ·exact cuw hw0
  exact cuw hw0
 refine sk (bn (qn (ar rfl (qn ?_))))
 obtain rfl:=Aa h
 refine⟨(k3+1,(),()),⟨by dsimp only;omega,Ai hJ3⟩,by dsimp only;omega,?_,?_⟩
 ·exact cuw hw3
 exact cuw hw3
def I6 (g_:B5):Option (Bool):=
 (bif (decide (g_.ID<1))then some false else(bif (decide (9999<g_.ID))then some false else(bif (decide (g_.Node<1))then some false else(bif (decide (9999<g_.Node))then some false else(bif (decide (g_.Fuel<0))then some false else(bif (decide (1000000<g_.Fuel))then some false else(bif (decide (g_.State<0))then some false else(bif (decide (2<g_.State))then some false else(bif (decide (g_.Until<0))then some false else(bif (decide (20000000<g_.Until))then some false else(bif (decide (0≤g_.To))then (bif (decide (g_.To≤9999))then (bif (decide (0≤g_.Run))then some (decide (g_.Run≤9999))else some false)else some false)else some false)))))))))))
theorem Wy (g_:B5) {r:Bool} (h:I6 g_=some r):Ad Tryz.prog 175 [.agg (A1 g_)] (·= .bool r):=by
 refine Ad.nle (Ad.intro Tryz.func175 rfl rfl (by show _≤67;simp) ?_)
 unfold I6 at h
 refine nS (sq ?_)
 refine ar rfl (qn (sq (sq ?_)))
 refine rg rfl fun K j=>?_
 revert h;refine gf (fun hc h=>?_) fun hc h=>?_
 rotate_left
 ·refine j _ _ (qn ?_)
  refine AWP.cond (Ah ?_)
  refine sq (ar rfl (qn (rt (qr ?_))))
  cases h;exact en Tryz.results175
 revert h;refine gf (fun hc h=>?_) fun hc h=>?_
 rotate_left
 ·refine j _ _ (qn ?_)
  refine AWP.cond (Ah ?_)
  refine sq (ar rfl (qn (rt (qr ?_))))
  cases h;exact en Tryz.results175
 revert h;refine gf (fun hc h=>?_) fun hc h=>?_
 rotate_left
 ·refine j _ _ (qn ?_)
  refine AWP.cond (Ah ?_)
  refine sq (ar rfl (qn (rt (qr ?_))))
  cases h;exact en Tryz.results175
 revert h;refine gf (fun hc h=>?_) fun hc h=>?_
 rotate_left
 ·refine j _ _ (qn ?_)
  refine AWP.cond (Ah ?_)
  refine sq (ar rfl (qn (rt (qr ?_))))
  cases h;exact en Tryz.results175
 revert h;refine gf (fun hc h=>?_) fun hc h=>?_
 rotate_left
 ·refine j _ _ (qn ?_)
  refine AWP.cond (Ah ?_)
  refine sq (ar rfl (qn (rt (qr ?_))))
  cases h;exact en Tryz.results175
 refine j _ _ (qn ?_)
 revert h;refine ca rfl (fun hc h=>?_) fun hc h=>?_
 ·refine sq (ar rfl (qn (rt (qr ?_))))
  cases h;exact en Tryz.results175
 refine sk (qn (sq (sq ?_)))
 refine rg rfl fun K j=>?_
 revert h;refine gf (fun hc h=>?_) fun hc h=>?_
 rotate_left
 ·refine j _ _ (qn ?_)
  refine AWP.cond (Ah ?_)
  refine sq (ar rfl (qn (rt (qr ?_))))
  cases h;exact en Tryz.results175
 revert h;refine gf (fun hc h=>?_) fun hc h=>?_
 rotate_left
 ·refine j _ _ (qn ?_)
  refine AWP.cond (Ah ?_)
  refine sq (ar rfl (qn (rt (qr ?_))))
  cases h;exact en Tryz.results175
 revert h;refine gf (fun hc h=>?_) fun hc h=>?_
 ·refine j _ _ (qn ?_)
  revert h;refine ca rfl (fun hc h=>?_) fun hc h=>?_
  ·refine sq (ar rfl (qn (rt (qr ?_))))
   cases h;exact en Tryz.results175
  refine sk (qn (sq ?_))
  refine rg rfl fun K j=>?_
  revert h;refine gt (fun hc h=>?_) fun hc h=>?_
  ·revert h;refine gt (fun hc h=>?_) fun hc h=>?_
   ·revert h;refine gt (fun hc h=>?_) fun hc h=>?_
    ·refine j _ _ (qn (rt ?_))
     cases h;exact en Tryz.results175
    refine j _ _ (qn (rt ?_))
    cases h;exact en Tryz.results175
   refine j _ _ (qn (rt ?_))
   cases h;exact en Tryz.results175
  refine j _ _ (qn (rt ?_))
  cases h;exact en Tryz.results175
 refine j _ _ (qn ?_)
 refine AWP.cond (Ah ?_)
 refine sq (ar rfl (qn (rt (qr ?_))))
 cases h;exact en Tryz.results175
end
end Go.Proofs.YtjopghiagoidgaaGreat
