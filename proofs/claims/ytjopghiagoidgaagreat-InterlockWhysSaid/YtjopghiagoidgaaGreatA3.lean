/- Our own texts: a layer of abstract values over the model, the walks of the functions, the plain laws; joined and shortened by a small program of our own (wip/dce2.py, wip/pack.py). -/
import Derived.Test.YtjopghiagoidgaaGreatA2
import Derived.Calls
import Derived.Tactics2
import Derived.Below
import Derived.Deep.LoopGhost
import Derived.KernelRfl
import Derived.Laws.Shifts
import Derived.Laws.CopyRow
import Derived.Laws.AppendOwn
import Derived.Laws.MakeOwn
import Derived.Laws.StructEq
import Derived.Maps.RangeRun
import Derived.Lib.SliceRun
import Derived.TacticsIn
import Derived.OrdersIn
import Derived.Sort.LoopGhostIn
import Derived.RangeFuncRecord
import Derived.Orders
import Derived.ProofKit
import Derived.OpenShut
import Derived.ShutString
import Derived.ChangeOld
import Derived.Carry
import Derived.WideShapes
import Derived.ChangeArms
import Derived.ChangeShapes
import Derived.Handed
import Derived.JoinedOf
import Derived.Sort.Grow
import Derived.Lib.SlicesCompact
import Derived.Lib.SlKeysI
import Derived.Maps.Own
import Derived.WideKeyRuns
import Derived.Test.YtjopghiagoidgaaGreatChecked
import Derived.Test.YtjopghiagoidgaaGreatProg
import Derived.Shelf.SortM.Plain
import Derived.Shelf.SortM.SortNone
import Derived.Shelf.SlIterI.Nil
import Derived.Shelf.Slices.CompactI
namespace Go.Proofs.YtjopghiagoidgaaGreat
open Go Go.Ab
attribute [local irreducible] AWP Al Bz Ad Go.Ab.Sub alist dlist Bk Cy D2 G4
set_option maxRecDepth 100000
set_option maxHeartbeats 4000000
set_option linter.unusedSimpArgs false
set_option linter.unusedVariables false
noncomputable section
def T4:Option (Ak):=
 some (Ak.mk (Bd.mk [(Cl.mk 1 1000),(Cl.mk 2 2000),(Cl.mk 3 1500)] [(Ce.mk 1 1 1 2 1000 5000 4 50)] [(Cf.mk 1 1 2 3 2 1 800),(Cf.mk 2 1 3 1 2 1 800)] [(1:Int)]) [(Cr.mk 1 1)] [] (Cb.mk [(Ck.mk 1 (Bq.mk [] 60 [])),(Ck.mk 2 (Bq.mk [] 60 []))] []) [] [(C5.mk 1 100 (Fe.mk 0 450 450)),(C5.mk 2 100 (Fe.mk 0 450 450))] [] [] [] [] [] [] 300 0)
theorem Z1 {r:Ak} (h:T4=some r):Ad Tryz.prog 36 [] (·= .agg (Bv r)):=by
 refine Ad.nle (Ad.intro Tryz.func36 rfl rfl (by show _≤28;simp) ?_)
 unfold T4 at h
 refine nS (sq ?_)
 refine ar rfl (qn (sq ?_))
 refine ar rfl (qn (sq ?_))
 refine ar rfl (qn ?_)
 refine AWP.sub (Sub.denil 7 ([(Ck.mk (1:Int) (Bq.mk [] (60:Int) [])),(Ck.mk (2:Int) (Bq.mk [] (60:Int) []))].map Ax) rfl (by simp +decide -implicitDefEqProofs only[go_sem,Dr,Ac.int.injEq,Int.natCast_zero,List.replicate_zero,List.length_take,List.length_drop,Ac.own.injEq,reduceCtorEq,Int.reduceAdd,Vo,Vp,Rr,Wh,Rq,wW,Rq,Rr])) ?_
 refine nS (rt ?_)
 cases h;exact en Tryz.results36
def Sa (id_:Int) (k0:Nat) (x_2:Cf) (sv:Unit):Option (Out (Unit) (Cf×Bool)):=
 (bif (decide (x_2.ID=id_))then some (Out.ret (x_2,true))else some (Out.next ()))
def Ex (m:Bd) (id_:Int):Option (Cf×Bool):=
 (Am (Sa id_) 0 m.Runs ()).bind fun o0=>o0.on fun s0=>some ((Cf.mk 0 0 0 0 0 0 0),false)
theorem D3 (m:Bd) (id_:Int) {r:Cf×Bool} (h:Ex m id_=some r):Ad Tryz.prog 53 [.agg (Ca m),.int .i64 id_] (·= .tuple [.agg (Be r.1),.bool r.2]):=by
 refine Ad.nle (Ad.intro Tryz.func53 rfl rfl (by show _≤22;simp) ?_)
 unfold Ex at h
 refine nS (sq ?_)
 refine ar rfl (qn (sq (sq ?_)))
 refine rg rfl fun K j=>?_
 intro hm
 refine j _ _ (qn (bk ?_))
 obtain⟨o0,hJ0,hO0⟩:=Ah h
 clear h
 refine AWP.Br (ι:=Nat×(Unit)×(Unit)) (fun zz=>[(1,.int .i64 id_),(4,.ptr 1 0),(9,.sl 7 (m.Runs.map Be)),(10,.int .i64 ((m.Runs.length:Nat):Int)),(11,.int .i64 ((zz.1:Nat):Int))]) (fun zz=>[.gone,.box [.int .i64 0,.int .i64 0,.int .i64 0,.int .i64 0,.int .i64 0,.int .i64 0,.int .i64 0]]) (fun zz=>zz.1≤m.Runs.length∧Am (Sa id_) zz.1 ((m.Runs).drop zz.1) zz.2.1=some o0) (fun zz=>m.Runs.length - zz.1) (0,(),()) ⟨Nat.zero_le _,hJ0⟩ cu cu (fun x=>⟨rfl,rfl,rfl⟩) ?_
 clear hJ0
 rintro⟨k0,⟨⟩,⟨⟩⟩ ⟨hk0,hJ0⟩
 dsimp only at hk0 hJ0 ⊢
 refine sq (ar rfl (qn (sq ?_)))
 refine AWP.cond (Aj (fun hc=>?_) (fun hc=>?_))
 rotate_left
 ·obtain rfl:=Bc hJ0 (fun hl=>by have:=Ajo hc;omega)
  have h:=Bb hO0;try dsimp only at h
  have hkl:m.Runs.length=k0:=by have:=Ajo hc;omega
  subst hkl
  refine xt (qe (qe (bs (qn (sq (ar rfl (qn (rt ?_))))))))
  cases h;exact en Tryz.results53
 have hlt0:k0<m.Runs.length:=by have:=Ajp hc;omega
 obtain⟨x_2,b0,hx0_,h,hJ0⟩:=A1 hJ0 hlt0
 have hx0:=Ay hx0_
 have hw0:=wk (k:=k0) (by omega)
 unfold Sa at h;try dsimp only at h
 refine sk (qn (sq (bk (sq ?_))))
 refine rg rfl fun K j=>?_
 refine Bk.of (f:=Be) (l:=m.Runs) hx0 ?_
 refine nS ?_
 refine j _ _ (qn (sq ?_))
 refine ar rfl (qn ?_)
 revert h;refine ca rfl (fun hc h=>?_) fun hc h=>?_
 ·refine sq (ar rfl (qn (rt (br (qr (qr ?_))))))
  obtain rfl:=Aa h
  obtain rfl:=Af hJ0
  replace h:=An hO0
  refine br (qr ?_)
  cases h;exact en Tryz.results53
 refine sk (bn (qn (ar rfl (qn ?_))))
 obtain rfl:=Aa h
 refine⟨(k0+1,(),()),⟨by dsimp only;omega,Ae hJ0⟩,by dsimp only;omega,?_,?_⟩
 ·exact cuw hw0
 exact cuw hw0
def Fv (k2:Nat) (x_4:Bo) (sv:(List Int)):Option (Out ((List Int)) ((List Int))):=
 (bif x_4.Open then chk (sv.length+1) (some (Out.next (sv++[x_4.Run])))else some (Out.next sv))
def Dk (f_:Ak):Option ((List Int)):=
 (Am Fv 0 f_.Status []).bind fun o2=>o2.on fun s2=>some s2
theorem Rj (f_:Ak) {r:(List Int)} (h:Dk f_=some r):Bh Tryz.prog 20 [.agg (Bv f_)] (·= .sl 1 (r.map Aw)):=by
 refine Bh.nle (Bh.intro Tryz.func20 rfl rfl (by show _≤22;simp) ?_)
 unfold Dk at h
 refine nS (sq ?_)
 refine ar rfl (qn (sq ?_))
 refine ar rfl (qn (sq (sq ?_)))
 refine rg rfl fun K j=>?_
 intro hm
 refine j _ _ (qn (bk ?_))
 refine AWP.ghost 3 1 rfl (by decide) ?_
 obtain⟨o2,hJ2,hO2⟩:=Ah h
 clear h
 refine AWP.Br (ι:=Nat×((List Int))×(Nat)) (fun zz=>[(3,.own 1 zz.2.2 0 zz.2.1.length),(7,.sl 3 (f_.Status.map A6)),(8,.int .i64 ((f_.Status.length:Nat):Int)),(9,.int .i64 ((zz.1:Nat):Int))]) (fun zz=>[.gone,.row zz.2.2 1 (zz.2.1.map Aw)]) (fun zz=>zz.1≤f_.Status.length∧Am Fv zz.1 ((f_.Status).drop zz.1) zz.2.1=some o2) (fun zz=>f_.Status.length - zz.1) (0,[],0) ⟨Nat.zero_le _,hJ2⟩ cu cu (fun x=>⟨rfl,rfl,rfl⟩) ?_
 clear hJ2
 rintro⟨k2,out1,ver2⟩ ⟨hk2,hJ2⟩
 dsimp only at hk2 hJ2 ⊢
 refine sq (ar rfl (qn (sq ?_)))
 refine AWP.cond (Aj (fun hc=>?_) (fun hc=>?_))
 rotate_left
 ·obtain rfl:=Bc hJ2 (fun hl=>by have:=Ajo hc;omega)
  have h:=Bb hO2;try dsimp only at h
  have hkl:f_.Status.length=k2:=by have:=Ajo hc;omega
  subst hkl
  refine xt (qe (qe (bs (qn (sq (ar rfl (qn (rt ?_))))))))
  cases h;exact en Tryz.results20
 have hlt2:k2<f_.Status.length:=by have:=Ajp hc;omega
 obtain⟨x_4,b2,hx2_,h,hJ2⟩:=A1 hJ2 hlt2
 have hx2:=Ay hx2_
 have hw2:=wk (k:=k2) (by omega)
 unfold Fv at h;try dsimp only at h
 refine sk (qn (sq (bk (sq ?_))))
 refine rg rfl fun K j=>?_
 refine Bk.of (f:=A6) (l:=f_.Status) hx2 ?_
 refine nS ?_
 refine j _ _ (qn (sq ?_))
 refine ar rfl (qn ?_)
 revert h;refine ca rfl (fun hc h=>?_) fun hc h=>?_
 ·refine rg rfl fun K j=>?_
  obtain⟨hk,h⟩:=B1 h
  (repeat refine rp ?_);try simp +decide -implicitDefEqProofs only[go_sem]
  refine j _ _ (bn (qn ?_))
  refine ar rfl (qn ?_)
  obtain rfl:=Aa h
  refine⟨(k2+1,(out1++[x_4.Run]),(ver2+1)),⟨by dsimp only;omega,Ae hJ2⟩,by dsimp only;omega,?_,?_⟩
  ·exact cuw hw2
  exact cuw hw2
 refine sk (bn (qn (ar rfl (qn ?_))))
 obtain rfl:=Aa h
 refine⟨(k2+1,out1,ver2),⟨by dsimp only;omega,Ae hJ2⟩,by dsimp only;omega,?_,?_⟩
 ·exact cuw hw2
 exact cuw hw2
theorem Iv (f_:Ak) {r:(List Int)} (h:Dk f_=some r):Ad Tryz.prog 20 [.agg (Bv f_)] (·= .sl 1 (r.map Aw)):=(Rj f_ h).pure
theorem bB (f_:Ak) {r:(List Int)} (h:Dk f_=some r):Db Tryz.prog 20 [.agg (Bv f_)] 1 (r.map Aw):=by
 refine Db.of ?_
 refine Ci.weak (R:=fun q H=>∃ v0 rest,q= .own 0 v0 0 (r.map Aw).length∧H= .row v0 1 (r.map Aw)::rest) (Ci.intro Tryz.func20 rfl rfl (by show _≤22;simp) ?_) (fun q H hq=>?_)
 ·unfold Dk at h
  refine nS (sq ?_)
  refine ar rfl (qn (sq ?_))
  refine ar rfl (qn (sq (sq ?_)))
  refine rg rfl fun K j=>?_
  intro hm
  refine j _ _ (qn (bk ?_))
  refine AWP.ghost 3 1 rfl (by decide) ?_
  obtain⟨o2,hJ2,hO2⟩:=Ah h
  clear h
  refine AWP.Br (ι:=Nat×((List Int))×(Nat)) (fun zz=>[(3,.own 1 zz.2.2 0 zz.2.1.length),(7,.sl 3 (f_.Status.map A6)),(8,.int .i64 ((f_.Status.length:Nat):Int)),(9,.int .i64 ((zz.1:Nat):Int))]) (fun zz=>[.gone,.row zz.2.2 1 (zz.2.1.map Aw)]) (fun zz=>zz.1≤f_.Status.length∧Am Fv zz.1 ((f_.Status).drop zz.1) zz.2.1=some o2) (fun zz=>f_.Status.length - zz.1) (0,[],0) ⟨Nat.zero_le _,hJ2⟩ cu cu (fun x=>⟨rfl,rfl,rfl⟩) ?_
  clear hJ2
  rintro⟨k2,out1,ver2⟩ ⟨hk2,hJ2⟩
  dsimp only at hk2 hJ2 ⊢
  refine sq (ar rfl (qn (sq ?_)))
  refine AWP.cond (Aj (fun hc=>?_) (fun hc=>?_))
  rotate_left
  ·obtain rfl:=Bc hJ2 (fun hl=>by have:=Ajo hc;omega)
   have h:=Bb hO2;try dsimp only at h
   have hkl:f_.Status.length=k2:=by have:=Ajo hc;omega
   subst hkl
   refine xt (qe (qe (bs (qn (sq (ar rfl (qn ?_)))))))
   refine AWP.sub (Sub.swap 1 0 rfl rfl rfl) ?_
   refine nS (rt ?_)
   obtain rfl:=Aa h
   refine nSc Tryz.results20 ?_
   refine⟨_,_,?_,rfl⟩
   (try simp +decide -implicitDefEqProofs only[go_sem,List.length_map,List.length_append,List.length_cons,List.length_nil,List.length_set,List.length_replicate]);try rfl
  have hlt2:k2<f_.Status.length:=by have:=Ajp hc;omega
  obtain⟨x_4,b2,hx2_,h,hJ2⟩:=A1 hJ2 hlt2
  have hx2:=Ay hx2_
  have hw2:=wk (k:=k2) (by omega)
  unfold Fv at h;try dsimp only at h
  refine sk (qn (sq (bk (sq ?_))))
  refine rg rfl fun K j=>?_
  refine Bk.of (f:=A6) (l:=f_.Status) hx2 ?_
  refine nS ?_
  refine j _ _ (qn (sq ?_))
  refine ar rfl (qn ?_)
  revert h;refine ca rfl (fun hc h=>?_) fun hc h=>?_
  ·refine rg rfl fun K j=>?_
   obtain⟨hk,h⟩:=B1 h
   (repeat refine rp ?_);try simp +decide -implicitDefEqProofs only[go_sem]
   refine j _ _ (bn (qn ?_))
   refine ar rfl (qn ?_)
   obtain rfl:=Aa h
   refine⟨(k2+1,(out1++[x_4.Run]),(ver2+1)),⟨by dsimp only;omega,Ae hJ2⟩,by dsimp only;omega,?_,?_⟩
   ·exact cuw hw2
   exact cuw hw2
  refine sk (bn (qn (ar rfl (qn ?_))))
  obtain rfl:=Aa h
  refine⟨(k2+1,out1,ver2),⟨by dsimp only;omega,Ae hJ2⟩,by dsimp only;omega,?_,?_⟩
  ·exact cuw hw2
  exact cuw hw2
 obtain⟨v0,rest,rfl,rfl⟩:=hq
 refine⟨[.row v0 1 (r.map Aw)],?_,?_,?_,⟨v0,rfl,rfl⟩⟩
 all_goals exact cu
def Dw (v:Int) (k0:Nat) (x_2:Int) (sv:Unit):Option (Out (Unit) (Int)):=
 (bif (decide (v=x_2))then some (Out.ret ((k0:Nat):Int))else some (Out.next ()))
def F9 (s_:List Int) (v:Int):Option (Int):=
 (Am (Dw v) 0 s_ ()).bind fun o0=>o0.on fun s0=>some (-1)
theorem Sb (s_:List Int) (v:Int) {r:Int} (h:F9 s_ v=some r):Ad Tryz.prog 121 [.sl 1 (s_.map Aw),.int .i64 v] (·= .int .i64 r):=by
 refine Ad.nle (Ad.intro Tryz.func121 rfl rfl (by show _≤19;simp) ?_)
 unfold F9 at h
 refine nS (sq ?_)
 refine ar rfl (qn (sq (sq ?_)))
 refine rg rfl fun K j=>?_
 intro hm
 refine j _ _ (qn (bk ?_))
 obtain⟨o0,hJ0,hO0⟩:=Ah h
 clear h
 refine AWP.Br (ι:=Nat×(Unit)×(Unit)) (fun zz=>[(0,.sl 1 (s_.map Aw)),(1,.int .i64 v),(7,.int .i64 ((s_.length:Nat):Int)),(8,.int .i64 ((zz.1:Nat):Int))]) (fun zz=>[]) (fun zz=>zz.1≤s_.length∧Am (Dw v) zz.1 ((s_).drop zz.1) zz.2.1=some o0) (fun zz=>s_.length - zz.1) (0,(),()) ⟨Nat.zero_le _,hJ0⟩ cu cu (fun x=>⟨rfl,rfl,rfl⟩) ?_
 clear hJ0
 rintro⟨k0,⟨⟩,⟨⟩⟩ ⟨hk0,hJ0⟩
 dsimp only at hk0 hJ0 ⊢
 refine sq (ar rfl (qn (sq ?_)))
 refine AWP.cond (Aj (fun hc=>?_) (fun hc=>?_))
 rotate_left
 ·obtain rfl:=Bc hJ0 (fun hl=>by have:=Ajo hc;omega)
  have h:=Bb hO0;try dsimp only at h
  have hkl:s_.length=k0:=by have:=Ajo hc;omega
  subst hkl
  refine xt (qe (qe (bs (qn (sq (ar rfl (qn (rt ?_))))))))
  cases h;exact en Tryz.results121
 have hlt0:k0<s_.length:=by have:=Ajp hc;omega
 obtain⟨x_2,b0,hx0_,h,hJ0⟩:=A1 hJ0 hlt0
 have hx0:=Ay hx0_
 have hw0:=wk (k:=k0) (by omega)
 unfold Dw at h;try dsimp only at h
 refine sk (qn (sq (bk (sq (ar rfl (qn (sq ?_)))))))
 refine rg rfl fun K j=>?_
 refine Bk.of (f:=Aw) (l:=s_) hx0 ?_
 refine nS ?_
 refine j _ _ (qn ?_)
 revert h;refine ca rfl (fun hc h=>?_) fun hc h=>?_
 ·refine sq (ar rfl (qn (rt (br (qr (qr ?_))))))
  obtain rfl:=Aa h
  obtain rfl:=Af hJ0
  replace h:=An hO0
  refine br (qr ?_)
  cases h;exact en Tryz.results121
 refine sk (bn (qn (ar rfl (qn ?_))))
 obtain rfl:=Aa h
 refine⟨(k0+1,(),()),⟨by dsimp only;omega,Ae hJ0⟩,by dsimp only;omega,?_,?_⟩
 ·exact cuw hw0
 exact cuw hw0
def Bt (s_:List Int) (v:Int):Option (Bool):=
 (F9 s_ v).bind fun y1=>some (decide (0≤y1))
theorem Bx (s_:List Int) (v:Int) {r:Bool} (h:Bt s_ v=some r):Ad Tryz.prog 54 [.sl 1 (s_.map Aw),.int .i64 v] (·= .bool r):=by
 refine Ad.nle (Ad.intro Tryz.func54 rfl rfl (by show _≤9;simp) ?_)
 unfold Bt at h
 refine nS (sq ?_)
 refine ar rfl (qn (sq ?_))
 refine rg rfl fun K j=>?_
 obtain⟨y1,hy1,h⟩:=Ah h
 refine Al.pure Tryz.call121 (Sb s_ v hy1) rfl fun _ hr=>?_
 subst hr
 refine nS ?_
 refine j _ _ (qn (rt ?_))
 cases h;exact en Tryz.results54
def J7 (kind:Int) (target:Int) (k0:Nat) (x_2:Bn) (sv:Unit):Option (Out (Unit) (Bool)):=
 (bif (decide (x_2.Kind=kind))then (bif (decide (x_2.Target=target))then some (Out.ret (decide (0≤((k0:Nat):Int))))else some (Out.next ()))else some (Out.next ()))
def Hw (l:List Bn) (kind:Int) (target:Int):Option (Bool):=
 (Am (J7 kind target) 0 l ()).bind fun o0=>o0.on fun s0=>some false
theorem Rk (l:List Bn) (kind:Int) (target:Int) {r:Bool} (h:Hw l kind target=some r):Ad Tryz.prog 198 [.sl 4 (l.map Aq),.int .i64 kind,.int .i64 target] (·= .bool r):=by
 refine Ad.nle (Ad.intro Tryz.func198 rfl rfl (by show _≤10;simp) ?_)
 unfold Hw at h
 refine nS (sq ?_)
 refine ar rfl (qn (sq ?_))
 refine rg rfl fun K j=>?_
 refine Al.inline Tryz.call259 Tryz.func259 rfl rfl (by show _≤9;simp) ?_
 refine nS (sq ?_)
 refine ar rfl (qn (sq ?_))
 refine rg rfl fun K j=>?_
 refine Al.inline Tryz.call239 Tryz.func239 rfl rfl (by show _≤19;simp) ?_
 refine nS (sq ?_)
 refine ar rfl (qn (sq (sq ?_)))
 refine rg rfl fun K j=>?_
 intro hm
 refine j _ _ (qn (bk ?_));clear j K
 obtain⟨o0,hJ0,hO0⟩:=Ah h
 clear h
 refine AWP.Br (ι:=Nat×(Unit)×(Unit)) (fun zz=>[(0,.sl 4 (l.map Aq)),(1,.func 260 [.ptr 0 0,.ptr 1 0]),(7,.int .i64 ((l.length:Nat):Int)),(8,.int .i64 ((zz.1:Nat):Int))]) (fun zz=>[.box [.int .i64 kind],.box [.int .i64 target]]) (fun zz=>zz.1≤l.length∧Am (J7 kind target) zz.1 ((l).drop zz.1) zz.2.1=some o0) (fun zz=>l.length - zz.1) (0,(),()) ⟨Nat.zero_le _,hJ0⟩ cu cu (fun x=>⟨rfl,rfl,rfl⟩) ?_
 clear hJ0
 rintro⟨k0,⟨⟩,⟨⟩⟩ ⟨hk0,hJ0⟩
 dsimp only at hk0 hJ0 ⊢
 refine sq (ar rfl (qn (sq ?_)))
 refine AWP.cond (Aj (fun hc=>?_) (fun hc=>?_))
 rotate_left
 ·obtain rfl:=Bc hJ0 (fun hl=>by have:=Ajo hc;omega)
  have h:=Bb hO0;try dsimp only at h
  have hkl:l.length=k0:=by have:=Ajo hc;omega
  subst hkl
  refine xt (qe (qe (bs (qn (sq (ar rfl (qn (rt ?_))))))))
  refine nSc Tryz.results239 ?_
  refine j _ _ (qn (rt ?_));clear j K
  refine nSc Tryz.results259 ?_
  refine j _ _ (qn (rt ?_))
  cases h;exact en Tryz.results198
 have hlt0:k0<l.length:=by have:=Ajp hc;omega
 obtain⟨x_2,b0,hx0_,h,hJ0⟩:=A1 hJ0 hlt0
 have hx0:=Ay hx0_
 have hw0:=wk (k:=k0) (by omega)
 unfold J7 at h;try dsimp only at h
 refine sk (qn (sq (bk (sq (ar rfl (qn (sq ?_)))))))
 refine rg rfl fun K j=>?_
 refine Bk.of (f:=Aq) (l:=l) hx0 ?_
 refine nS ?_
 refine Al.inline Tryz.call260 Tryz.func260 rfl rfl (by show _≤15;simp) ?_
 refine nS (sq ?_)
 refine ar rfl (qn (sq ?_))
 refine rg rfl fun K j=>?_
 revert h;refine gt (fun hc h=>?_) fun hc h=>?_
 ·refine j _ _ (qn (rt ?_));clear j K
  refine nSc Tryz.results260 ?_
  refine j _ _ (qn ?_);clear j K
  revert h;refine ca rfl (fun hc h=>?_) fun hc h=>?_
  ·refine sq (ar rfl (qn (rt (br (qr (qr ?_))))))
   obtain rfl:=Aa h
   obtain rfl:=Af hJ0
   replace h:=An hO0
   refine br (qr (nSc Tryz.results239 ?_))
   refine j _ _ (qn (rt ?_));clear j K
   refine nSc Tryz.results259 ?_
   refine j _ _ (qn (rt ?_))
   cases h;exact en Tryz.results198
  refine sk (bn (qn (ar rfl (qn ?_))))
  obtain rfl:=Aa h
  refine⟨(k0+1,(),()),⟨by dsimp only;omega,Ae hJ0⟩,by dsimp only;omega,?_,?_⟩
  ·exact cuw hw0
  exact cuw hw0
 refine j _ _ (qn (rt ?_));clear j K
 refine nSc Tryz.results260 ?_
 refine j _ _ (qn ?_);clear j K
 refine AWP.cond (Bg ?_)
 refine sk (bn (qn (ar rfl (qn ?_))))
 obtain rfl:=Aa h
 refine⟨(k0+1,(),()),⟨by dsimp only;omega,Ae hJ0⟩,by dsimp only;omega,?_,?_⟩
 ·exact cuw hw0
 exact cuw hw0
def Q1 (m:Bd) (l:List Bn) (run:Int):Option (Bool):=
 (Ex m run).bind fun y1=>(bif y1.2 then(Hw l 1 run).bind fun y2=>(bif y2 then some true else(Hw l 3 y1.1.Zone).bind fun y3=>some y3)else some false)
theorem eB (m:Bd) (l:List Bn) (run:Int) {r:Bool} (h:Q1 m l run=some r):Ad Tryz.prog 102 [.agg (Ca m),.sl 4 (l.map Aq),.int .i64 run] (·= .bool r):=by
 refine Ad.nle (Ad.intro Tryz.func102 rfl rfl (by show _≤27;simp) ?_)
 unfold Q1 at h
 refine nS (sq ?_)
 refine ar rfl (qn (sq ?_))
 refine rg rfl fun K j=>?_
 obtain⟨y1,hy1,h⟩:=Ah h
 refine Al.pure Tryz.call53 (D3 m run hy1) rfl fun _ hr=>?_
 subst hr
 refine nS ?_
 refine j _ _ (qn (sq ?_))
 refine rg rfl fun K j=>?_
 revert h;refine gt (fun hc h=>?_) fun hc h=>?_
 ·obtain⟨y2,hy2,h⟩:=Ah h
  refine Al.pure Tryz.call198 (Rk l 1 run hy2) rfl fun _ hr=>?_
  subst hr
  refine nS ?_
  revert h;refine gf (fun hc h=>?_) fun hc h=>?_
  ·obtain⟨y3,hy3,h⟩:=Ah h
   refine Al.pure Tryz.call198 (Rk l 3 y1.1.Zone hy3) rfl fun _ hr=>?_
   subst hr
   refine nS ?_
   refine j _ _ (qn (rt ?_))
   cases h;exact en Tryz.results102
  refine j _ _ (qn (rt ?_))
  cases h;exact en Tryz.results102
 refine j _ _ (qn (rt ?_))
 cases h;exact en Tryz.results102
def Qf (run:Int) (k0:Nat) (x_2:B6) (sv:Unit):Option (Out (Unit) (Bool)):=
 (bif (decide (x_2.State=2))then (bif (decide (x_2.Run=run))then some (Out.ret (decide (0≤((k0:Nat):Int))))else some (Out.next ()))else some (Out.next ()))
def Sn (l:List B6) (run:Int):Option (Bool):=
 (Am (Qf run) 0 l ()).bind fun o0=>o0.on fun s0=>some false
theorem fZ (l:List B6) (run:Int) {r:Bool} (h:Sn l run=some r):Ad Tryz.prog 103 [.sl 8 (l.map A2),.int .i64 run] (·= .bool r):=by
 refine Ad.nle (Ad.intro Tryz.func103 rfl rfl (by show _≤8;simp) ?_)
 unfold Sn at h
 refine nS (sq ?_)
 refine ar rfl (qn (sq ?_))
 refine rg rfl fun K j=>?_
 refine Al.inline Tryz.call199 Tryz.func199 rfl rfl (by show _≤9;simp) ?_
 refine nS (sq ?_)
 refine ar rfl (qn (sq ?_))
 refine rg rfl fun K j=>?_
 refine Al.inline Tryz.call261 Tryz.func261 rfl rfl (by show _≤19;simp) ?_
 refine nS (sq ?_)
 refine ar rfl (qn (sq (sq ?_)))
 refine rg rfl fun K j=>?_
 intro hm
 refine j _ _ (qn (bk ?_));clear j K
 obtain⟨o0,hJ0,hO0⟩:=Ah h
 clear h
 refine AWP.Br (ι:=Nat×(Unit)×(Unit)) (fun zz=>[(0,.sl 8 (l.map A2)),(1,.func 200 [.ptr 0 0]),(7,.int .i64 ((l.length:Nat):Int)),(8,.int .i64 ((zz.1:Nat):Int))]) (fun zz=>[.box [.int .i64 run]]) (fun zz=>zz.1≤l.length∧Am (Qf run) zz.1 ((l).drop zz.1) zz.2.1=some o0) (fun zz=>l.length - zz.1) (0,(),()) ⟨Nat.zero_le _,hJ0⟩ cu cu (fun x=>⟨rfl,rfl,rfl⟩) ?_
 clear hJ0
 rintro⟨k0,⟨⟩,⟨⟩⟩ ⟨hk0,hJ0⟩
 dsimp only at hk0 hJ0 ⊢
 refine sq (ar rfl (qn (sq ?_)))
 refine AWP.cond (Aj (fun hc=>?_) (fun hc=>?_))
 rotate_left
 ·obtain rfl:=Bc hJ0 (fun hl=>by have:=Ajo hc;omega)
  have h:=Bb hO0;try dsimp only at h
  have hkl:l.length=k0:=by have:=Ajo hc;omega
  subst hkl
  refine xt (qe (qe (bs (qn (sq (ar rfl (qn (rt ?_))))))))
  refine nSc Tryz.results261 ?_
  refine j _ _ (qn (rt ?_));clear j K
  refine nSc Tryz.results199 ?_
  refine j _ _ (qn (rt ?_))
  cases h;exact en Tryz.results103
 have hlt0:k0<l.length:=by have:=Ajp hc;omega
 obtain⟨x_2,b0,hx0_,h,hJ0⟩:=A1 hJ0 hlt0
 have hx0:=Ay hx0_
 have hw0:=wk (k:=k0) (by omega)
 unfold Qf at h;try dsimp only at h
 refine sk (qn (sq (bk (sq (ar rfl (qn (sq ?_)))))))
 refine rg rfl fun K j=>?_
 refine Bk.of (f:=A2) (l:=l) hx0 ?_
 refine nS ?_
 refine Al.inline Tryz.call200 Tryz.func200 rfl rfl (by show _≤13;simp) ?_
 refine nS (sq ?_)
 refine ar rfl (qn (sq ?_))
 refine rg rfl fun K j=>?_
 revert h;refine gt (fun hc h=>?_) fun hc h=>?_
 ·refine j _ _ (qn (rt ?_));clear j K
  refine nSc Tryz.results200 ?_
  refine j _ _ (qn ?_);clear j K
  revert h;refine ca rfl (fun hc h=>?_) fun hc h=>?_
  ·refine sq (ar rfl (qn (rt (br (qr (qr ?_))))))
   obtain rfl:=Aa h
   obtain rfl:=Af hJ0
   replace h:=An hO0
   refine br (qr (nSc Tryz.results261 ?_))
   refine j _ _ (qn (rt ?_));clear j K
   refine nSc Tryz.results199 ?_
   refine j _ _ (qn (rt ?_))
   cases h;exact en Tryz.results103
  refine sk (bn (qn (ar rfl (qn ?_))))
  obtain rfl:=Aa h
  refine⟨(k0+1,(),()),⟨by dsimp only;omega,Ae hJ0⟩,by dsimp only;omega,?_,?_⟩
  ·exact cuw hw0
  exact cuw hw0
 refine j _ _ (qn (rt ?_));clear j K
 refine nSc Tryz.results200 ?_
 refine j _ _ (qn ?_);clear j K
 refine AWP.cond (Bg ?_)
 refine sk (bn (qn (ar rfl (qn ?_))))
 obtain rfl:=Aa h
 refine⟨(k0+1,(),()),⟨by dsimp only;omega,Ae hJ0⟩,by dsimp only;omega,?_,?_⟩
 ·exact cuw hw0
 exact cuw hw0
def Ke (t:Int) (k2:Nat) (x_4:A8) (sv:(List Int)):Option (Out ((List Int)) ((List Int))):=
 (bif (decide (x_4.From≤t))then (bif (decide (t<x_4.To))then chk (sv.length+x_4.Runs.length) (some (Out.next (sv++x_4.Runs)))else some (Out.next sv))else some (Out.next sv))
def Qi (l:List A8) (t:Int):Option ((List Int)):=
 (Am (Ke t) 0 l []).bind fun o2=>o2.on fun s2=>chk s2.length (chk s2.length (some (Ch (Dc s2))))
theorem cC (l:List A8) (t:Int) {r:(List Int)} (h:Qi l t=some r):Ad Tryz.prog 104 [.sl 4 (l.map Ap),.int .i64 t] (·= .sl 1 (r.map Aw)):=by
 refine Ad.nle (Ad.Aam Tryz.func104 rfl rfl (by show _≤19;simp) ?_)
 unfold Qi at h
 refine nS ?_
 refine kE.pre ?_
 refine ar rfl (qn ?_)
 refine kE.pre ?_
 refine ar rfl (qn ?_)
 refine kE.seqq ?_
 refine qI.seq ?_
 refine rg rfl fun K j=>?_
 refine Al.inline Tryz.call201 Tryz.func201 rfl rfl (by show _≤6;simp) ?_
 refine nS (sq ?_)
 refine ar rfl (qn (sq ?_))
 refine ar rfl (qn (rt ?_))
 refine nSc Tryz.results201 ?_
 refine j _ _ (qn ?_)
 refine qI.range [(4,.nils),(5,.ptr 0 0),(9,.func 262 [.ptr 1 0,.ptr 2 0])] cu cu rfl fun D A0 B0 hA0 hB0=>?_
 refine nS ?_
 refine Al.inline Tryz.call262 Tryz.func262 rfl rfl (by show _≤29;simp) ?_
 refine nS (sq ?_)
 refine rg rfl fun K j=>?_
 intro hm
 refine j _ _ (qn (bk ?_))
 refine AWP.sub (Sub.Aaq 0 0 1 rfl rfl (by decide)) ?_
 refine nS ?_
 obtain⟨o2,hJ2,hO2⟩:=Ah h
 clear h
 refine AWP.Br (ι:=Nat×((List Int))×(Nat)) (fun zz=>[(0,.yld 3),(2,.ptr 2 0),(6,.sl 4 (l.map Ap)),(7,.int .i64 ((l.length:Nat):Int)),(8,.int .i64 ((zz.1:Nat):Int))]) (fun zz=>[.box [.own 4 zz.2.2 0 zz.2.1.length],.box [.sl 4 (l.map Ap)],.box [.int .i64 t],.lp D 19 [(4,.nils),(5,.ptr 0 0),(9,.func 262 [.ptr 1 0,.ptr 2 0])] #[10] A0 B0 .ready none,.row zz.2.2 1 (zz.2.1.map Aw)]) (fun zz=>zz.1≤l.length∧Am (Ke t) zz.1 ((l).drop zz.1) zz.2.1=some o2) (fun zz=>l.length - zz.1) (0,[],0) ⟨Nat.zero_le _,hJ2⟩ cu cu (fun x=>⟨rfl,rfl,rfl⟩) ?_
 clear hJ2
 rintro⟨k2,o4_1,ver2⟩ ⟨hk2,hJ2⟩
 dsimp only at hk2 hJ2 ⊢
 refine sq (ar rfl (qn (sq ?_)))
 refine AWP.cond (Aj (fun hc=>?_) (fun hc=>?_))
 rotate_left
 ·obtain rfl:=Bc hJ2 (fun hl=>by have:=Ajo hc;omega)
  have h:=Bb hO2;try dsimp only at h
  have hkl:l.length=k2:=by have:=Ajo hc;omega
  subst hkl
  refine xt (qe (qe (bs (nSc Tryz.results262 ?_))))
  refine qrange.all rfl ?_
  refine nS (sq ?_)
  refine rg rfl fun K j=>?_
  obtain⟨hk,h⟩:=B1 h
  refine Al.Dc Tryz.call68 Tryz.sorts68 rfl (by first | rfl | exact(Cd _).symm | (simp only[List.length_append,List.length_cons,List.length_nil,List.length_set,List.length_replicate]<;>omega)) hk ?_
  refine nS ?_
  refine j _ _ (qn (sq ?_))
  refine rg rfl fun K j=>?_
  obtain⟨hk,h⟩:=B1 h
  refine Al.Ch Tryz.call69 Tryz.compacts69 rfl (by first | rfl | exact(Cd _).symm | (simp only[List.length_append,List.length_cons,List.length_nil,List.length_set,List.length_replicate]<;>omega)) hk ?_
  refine nS ?_
  refine j _ _ (qn (rt ?_))
  refine qmD.mk (r:=3) rfl ?_
  cases h;exact en Tryz.results104
 have hlt2:k2<l.length:=by have:=Ajp hc;omega
 obtain⟨x_4,b2,hx2_,h,hJ2⟩:=A1 hJ2 hlt2
 have hx2:=Ay hx2_
 have hw2:=wk (k:=k2) (by omega)
 unfold Ke at h;try dsimp only at h
 refine sk (qn (sq (bk (sq ?_))))
 refine rg rfl fun K j=>?_
 refine Bk.of (f:=Ap) (l:=l) hx2 ?_
 refine nS ?_
 refine j _ _ (qn (sq ?_))
 refine rg rfl fun K j=>?_
 revert h;refine gt (fun hc h=>?_) fun hc h=>?_
 ·revert h;refine gt (fun hc h=>?_) fun hc h=>?_
  ·refine Al.yield rfl rfl rfl hA0 hB0 rfl fun md=>?_
   (try simp +decide -implicitDefEqProofs only[go_sem,mD])
   refine ar rfl ?_
   refine qyA.mk rfl ?_
   refine nS (bk ?_)
   refine rg rfl fun K j=>?_
   obtain⟨hk,h⟩:=B1 h
   (repeat refine rp ?_);try simp +decide -implicitDefEqProofs only[go_sem]
   refine j _ _ (bn ?_);clear j K
   refine qyB.next rfl ?_
   refine nS ?_
   refine j _ _ (qn ?_)
   refine AWP.cond (Bg ?_)
   refine sk (bn (qn (ar rfl (qn ?_))))
   obtain rfl:=Aa h
   refine⟨(k2+1,(o4_1++x_4.Runs),(ver2+1)),⟨by dsimp only;omega,Ae hJ2⟩,by dsimp only;omega,?_,?_⟩
   ·exact cuw hw2
   exact cuw hw2
  refine j _ _ (qn ?_)
  refine AWP.cond (Bg ?_)
  refine sk (bn (qn (ar rfl (qn ?_))))
  obtain rfl:=Aa h
  refine⟨(k2+1,o4_1,ver2),⟨by dsimp only;omega,Ae hJ2⟩,by dsimp only;omega,?_,?_⟩
  ·exact cuw hw2
  exact cuw hw2
 refine j _ _ (qn ?_)
 refine AWP.cond (Bg ?_)
 refine sk (bn (qn (ar rfl (qn ?_))))
 obtain rfl:=Aa h
 refine⟨(k2+1,o4_1,ver2),⟨by dsimp only;omega,Ae hJ2⟩,by dsimp only;omega,?_,?_⟩
 ·exact cuw hw2
 exact cuw hw2
def Et (t5_1:Bool):Option (Bool):=
 (bif t5_1 then some true else some false)
def Ix (m:Bi):Option (Bool):=
 (bif (decide (m.State=1))then Et (decide (m.State=1))else (bif (decide (m.State=2))then Et (decide (m.State=2))else (bif (decide (m.State=3))then Et (decide (m.State=3))else Et (decide (m.State=4)))))
theorem Tm (m:Bi) {r:Bool} (h:Ix m=some r):Ad Tryz.prog 249 [.agg (Ao m)] (·= .bool r):=by
 refine Ad.nle (Ad.intro Tryz.func249 rfl rfl (by show _≤10;simp) ?_)
 unfold Ix at h
 refine nS (sq ?_)
 refine ar rfl (qn (sq (sq ?_)))
 refine ar rfl (qn (bk ?_))
 refine AWP.It (ι:=(Bool)×(Unit)) (fun zz=>[(5,.bool zz.1)]) (fun zz=>[]) (fun zz=>Et zz.1=some r) (fun zz=>⟨rfl,rfl,rfl⟩) ?_ ?_
 ·refine sq (ar rfl (qn ?_))
  revert h;refine ca rfl (fun hc h=>?_) fun hc h=>?_
  ·refine sk (qn ?_)
   exact⟨((decide (m.State=1)),()),h,cu,cu⟩
  refine sq (ar rfl (qn ?_))
  revert h;refine ca rfl (fun hc h=>?_) fun hc h=>?_
  ·refine sk (qn ?_)
   exact⟨((decide (m.State=2)),()),h,cu,cu⟩
  refine sq (ar rfl (qn ?_))
  revert h;refine ca rfl (fun hc h=>?_) fun hc h=>?_
  ·refine sk (qn ?_)
   exact⟨((decide (m.State=3)),()),h,cu,cu⟩
  refine ar rfl (qn ?_)
  exact⟨((decide (m.State=4)),()),h,cu,cu⟩
 rintro⟨t5_1,⟨⟩⟩ h
 try dsimp only at h ⊢
 unfold Et at h;try dsimp only at h
 revert h;refine ca rfl (fun hc h=>?_) fun hc h=>?_
 ·refine sq (ar rfl (qn (rt (br (qr ?_)))))
  cases h;exact en Tryz.results249
 refine sk (bn (qn (sq (ar rfl (qn (rt ?_))))))
 cases h;exact en Tryz.results249
def Nd (k2:Nat) (x_4:Bi) (sv:(List Int)):Option (Out ((List Int)) ((List Int))):=
 (Ix x_4).bind fun y5=>(bif y5 then chk (sv.length+1) (some (Out.next (sv++[x_4.Slide])))else some (Out.next sv))
def Mc (l:List Bi):Option ((List Int)):=
 (Am Nd 0 l []).bind fun o2=>o2.on fun s2=>chk s2.length (some (Dc s2))
theorem aA (l:List Bi) {r:(List Int)} (h:Mc l=some r):Bh Tryz.prog 202 [.sl 7 (l.map Ao)] (·= .sl 1 (r.map Aw)):=by
 refine Bh.nle (Bh.intro Tryz.func202 rfl rfl (by show _≤23;simp) ?_)
 unfold Mc at h
 refine nS (sq ?_)
 refine ar rfl (qn (sq ?_))
 refine ar rfl (qn (sq (sq ?_)))
 refine rg rfl fun K j=>?_
 intro hm
 refine j _ _ (qn (bk ?_))
 refine AWP.ghost 3 1 rfl (by decide) ?_
 obtain⟨o2,hJ2,hO2⟩:=Ah h
 clear h
 refine AWP.Br (ι:=Nat×((List Int))×(Nat)) (fun zz=>[(3,.own 0 zz.2.2 0 zz.2.1.length),(6,.sl 7 (l.map Ao)),(7,.int .i64 ((l.length:Nat):Int)),(8,.int .i64 ((zz.1:Nat):Int))]) (fun zz=>[.row zz.2.2 1 (zz.2.1.map Aw)]) (fun zz=>zz.1≤l.length∧Am Nd zz.1 ((l).drop zz.1) zz.2.1=some o2) (fun zz=>l.length - zz.1) (0,[],0) ⟨Nat.zero_le _,hJ2⟩ cu cu (fun x=>⟨rfl,rfl,rfl⟩) ?_
 clear hJ2
 rintro⟨k2,out1,ver2⟩ ⟨hk2,hJ2⟩
 dsimp only at hk2 hJ2 ⊢
 refine sq (ar rfl (qn (sq ?_)))
 refine AWP.cond (Aj (fun hc=>?_) (fun hc=>?_))
 rotate_left
 ·obtain rfl:=Bc hJ2 (fun hl=>by have:=Ajo hc;omega)
  have h:=Bb hO2;try dsimp only at h
  have hkl:l.length=k2:=by have:=Ajo hc;omega
  subst hkl
  refine xt (qe (qe (bs (qn (sq ?_)))))
  refine rg rfl fun K j=>?_
  obtain⟨hk,h⟩:=B1 h
  refine Al.Dc Tryz.call68 Tryz.sorts68 rfl (by first | rfl | exact(Cd _).symm | (simp only[List.length_append,List.length_cons,List.length_nil,List.length_set,List.length_replicate]<;>omega)) hk ?_
  refine nS ?_
  refine j _ _ (qn (sq ?_))
  refine ar rfl (qn (rt ?_))
  cases h;exact en Tryz.results202
 have hlt2:k2<l.length:=by have:=Ajp hc;omega
 obtain⟨x_4,b2,hx2_,h,hJ2⟩:=A1 hJ2 hlt2
 have hx2:=Ay hx2_
 have hw2:=wk (k:=k2) (by omega)
 unfold Nd at h;try dsimp only at h
 refine sk (qn (sq (bk (sq ?_))))
 refine rg rfl fun K j=>?_
 refine Bk.of (f:=Ao) (l:=l) hx2 ?_
 refine nS ?_
 refine j _ _ (qn (sq ?_))
 refine rg rfl fun K j=>?_
 obtain⟨y5,hy5,h⟩:=Ah h
 refine Al.pure Tryz.call249 (Tm x_4 hy5) rfl fun _ hr=>?_
 subst hr
 refine nS ?_
 refine j _ _ (qn ?_)
 revert h;refine ca rfl (fun hc h=>?_) fun hc h=>?_
 ·refine rg rfl fun K j=>?_
  obtain⟨hk,h⟩:=B1 h
  (repeat refine rp ?_);try simp +decide -implicitDefEqProofs only[go_sem]
  refine j _ _ (bn (qn ?_))
  refine ar rfl (qn ?_)
  obtain rfl:=Aa h
  refine⟨(k2+1,(out1++[x_4.Slide]),(ver2+1)),⟨by dsimp only;omega,Ae hJ2⟩,by dsimp only;omega,?_,?_⟩
  ·exact cuw hw2
  exact cuw hw2
 refine sk (bn (qn (ar rfl (qn ?_))))
 obtain rfl:=Aa h
 refine⟨(k2+1,out1,ver2),⟨by dsimp only;omega,Ae hJ2⟩,by dsimp only;omega,?_,?_⟩
 ·exact cuw hw2
 exact cuw hw2
theorem bR (l:List Bi) {r:(List Int)} (h:Mc l=some r):Ad Tryz.prog 202 [.sl 7 (l.map Ao)] (·= .sl 1 (r.map Aw)):=(aA l h).pure
def Gq (zone:Int) (y1:(List Int)) (k1:Nat) (x_3:Bf) (sv:Unit):Option (Out (Unit) (Bool)):=
 (Bt y1 x_3.ID).bind fun y4=>(bif y4 then(Bt x_3.Zones zone).bind fun y5=>(bif y5 then some (Out.ret (decide (0≤((k1:Nat):Int))))else some (Out.next ()))else some (Out.next ()))
def Gr (f_:Ak) (zone:Int):Option (Bool):=
 (Mc f_.Missions).bind fun y1=>(Am (Gq zone y1) 0 f_.Slides ()).bind fun o1=>o1.on fun s1=>some false
theorem Vv (f_:Ak) (zone:Int) {r:Bool} (h:Gr f_ zone=some r):Ad Tryz.prog 105 [.agg (Bv f_),.int .i64 zone] (·= .bool r):=by
 refine Ad.nle (Ad.intro Tryz.func105 rfl rfl (by show _≤13;simp) ?_)
 unfold Gr at h
 refine nS (sq ?_)
 refine ar rfl (qn (sq ?_))
 refine rg rfl fun K j=>?_
 obtain⟨y1,hy1,h⟩:=Ah h
 refine Al.pure Tryz.call202 (bR f_.Missions hy1) rfl fun _ hr=>?_
 subst hr
 refine nS ?_
 refine j _ _ (qn (sq ?_))
 refine rg rfl fun K j=>?_
 refine Al.inline Tryz.call203 Tryz.func203 rfl rfl (by show _≤9;simp) ?_
 refine nS (sq ?_)
 refine ar rfl (qn (sq ?_))
 refine rg rfl fun K j=>?_
 refine Al.inline Tryz.call245 Tryz.func245 rfl rfl (by show _≤19;simp) ?_
 refine nS (sq ?_)
 refine ar rfl (qn (sq (sq ?_)))
 refine rg rfl fun K j=>?_
 intro hm
 refine j _ _ (qn (bk ?_));clear j K
 obtain⟨o1,hJ1,hO1⟩:=Ah h
 clear h
 refine AWP.Br (ι:=Nat×(Unit)×(Unit)) (fun zz=>[(0,.sl 6 (f_.Slides.map A5)),(1,.func 204 [.ptr 2 0,.ptr 1 0]),(7,.int .i64 ((f_.Slides.length:Nat):Int)),(8,.int .i64 ((zz.1:Nat):Int))]) (fun zz=>[.box [.sl 2 (f_.Map.Nodes.map A9),.sl 8 (f_.Map.Lifts.map A7),.sl 7 (f_.Map.Runs.map Be),.sl 1 (f_.Map.Bases.map Aw),.sl 2 (f_.Lifts.map Az),.sl 4 (f_.Closures.map Aq),.sl 4 (f_.Patrol.Bw.map Ax),.sl 3 (f_.Patrol.Hazards.map A3),.sl 3 (f_.Surfaces.map Ba),.sl 5 (f_.Packs.map A4),.sl 6 (f_.Slides.map A5),.sl 7 (f_.Bulletin.map Au),.sl 7 (f_.Missions.map Ao),.sl 4 (f_.Winches.map Ap),.sl 8 (f_.Groomers.map A2),.sl 3 (f_.Status.map A6),.int .i64 f_.Depth,.int .i64 f_.Time],.box [.int .i64 zone],.box [.sl 1 (y1.map Aw)]]) (fun zz=>zz.1≤f_.Slides.length∧Am (Gq zone y1) zz.1 ((f_.Slides).drop zz.1) zz.2.1=some o1) (fun zz=>f_.Slides.length - zz.1) (0,(),()) ⟨Nat.zero_le _,hJ1⟩ cu cu (fun x=>⟨rfl,rfl,rfl⟩) ?_
 clear hJ1
 rintro⟨k1,⟨⟩,⟨⟩⟩ ⟨hk1,hJ1⟩
 dsimp only at hk1 hJ1 ⊢
 refine sq (ar rfl (qn (sq ?_)))
 refine AWP.cond (Aj (fun hc=>?_) (fun hc=>?_))
 rotate_left
 ·obtain rfl:=Bc hJ1 (fun hl=>by have:=Ajo hc;omega)
  have h:=Bb hO1;try dsimp only at h
  have hkl:f_.Slides.length=k1:=by have:=Ajo hc;omega
  subst hkl
  refine xt (qe (qe (bs (qn (sq (ar rfl (qn (rt ?_))))))))
  refine nSc Tryz.results245 ?_
  refine j _ _ (qn (rt ?_));clear j K
  refine nSc Tryz.results203 ?_
  refine j _ _ (qn (rt ?_))
  cases h;exact en Tryz.results105
 have hlt1:k1<f_.Slides.length:=by have:=Ajp hc;omega
 obtain⟨x_3,b1,hx1_,h,hJ1⟩:=A1 hJ1 hlt1
 have hx1:=Ay hx1_
 have hw1:=wk (k:=k1) (by omega)
 unfold Gq at h;try dsimp only at h
 refine sk (qn (sq (bk (sq (ar rfl (qn (sq ?_)))))))
 refine rg rfl fun K j=>?_
 refine Bk.of (f:=A5) (l:=f_.Slides) hx1 ?_
 refine nS ?_
 refine Al.inline Tryz.call204 Tryz.func204 rfl rfl (by show _≤15;simp) ?_
 refine nS (sq ?_)
 refine ar rfl (qn (sq ?_))
 refine rg rfl fun K j=>?_
 obtain⟨y4,hy4,h⟩:=Ah h
 refine Al.pure Tryz.call54 (Bx y1 x_3.ID hy4) rfl fun _ hr=>?_
 subst hr
 refine nS ?_
 revert h;refine gt (fun hc h=>?_) fun hc h=>?_
 ·obtain⟨y5,hy5,h⟩:=Ah h
  refine Al.pure Tryz.call54 (Bx x_3.Zones zone hy5) rfl fun _ hr=>?_
  subst hr
  refine nS ?_
  refine j _ _ (qn (rt ?_));clear j K
  refine nSc Tryz.results204 ?_
  refine j _ _ (qn ?_);clear j K
  revert h;refine ca rfl (fun hc h=>?_) fun hc h=>?_
  ·refine sq (ar rfl (qn (rt (br (qr (qr ?_))))))
   obtain rfl:=Aa h
   obtain rfl:=Af hJ1
   replace h:=An hO1
   refine br (qr (nSc Tryz.results245 ?_))
   refine j _ _ (qn (rt ?_));clear j K
   refine nSc Tryz.results203 ?_
   refine j _ _ (qn (rt ?_))
   cases h;exact en Tryz.results105
  refine sk (bn (qn (ar rfl (qn ?_))))
  obtain rfl:=Aa h
  refine⟨(k1+1,(),()),⟨by dsimp only;omega,Ae hJ1⟩,by dsimp only;omega,?_,?_⟩
  ·exact cuw hw1
  exact cuw hw1
 refine j _ _ (qn (rt ?_));clear j K
 refine nSc Tryz.results204 ?_
 refine j _ _ (qn ?_);clear j K
 refine AWP.cond (Bg ?_)
 refine sk (bn (qn (ar rfl (qn ?_))))
 obtain rfl:=Aa h
 refine⟨(k1+1,(),()),⟨by dsimp only;omega,Ae hJ1⟩,by dsimp only;omega,?_,?_⟩
 ·exact cuw hw1
 exact cuw hw1
def M3 (zone:Int) (k2:Nat) (x_4:Cf) (sv:(List Int)):Option (Out ((List Int)) ((List Int))):=
 (bif (decide (x_4.Zone=zone))then chk (sv.length+1) (some (Out.next (sv++[x_4.ID])))else some (Out.next sv))
def Lp (m:Bd) (zone:Int):Option ((List Int)):=
 (Am (M3 zone) 0 m.Runs []).bind fun o2=>o2.on fun s2=>some s2
theorem Zi (m:Bd) (zone:Int) {r:(List Int)} (h:Lp m zone=some r):Bh Tryz.prog 95 [.agg (Ca m),.int .i64 zone] (·= .sl 1 (r.map Aw)):=by
 refine Bh.nle (Bh.intro Tryz.func95 rfl rfl (by show _≤26;simp) ?_)
 unfold Lp at h
 refine nS (sq ?_)
 refine ar rfl (qn (sq ?_))
 refine ar rfl (qn (sq (sq ?_)))
 refine rg rfl fun K j=>?_
 intro hm
 refine j _ _ (qn (bk ?_))
 refine AWP.ghost 5 1 rfl (by decide) ?_
 obtain⟨o2,hJ2,hO2⟩:=Ah h
 clear h
 refine AWP.Br (ι:=Nat×((List Int))×(Nat)) (fun zz=>[(1,.int .i64 zone),(5,.own 1 zz.2.2 0 zz.2.1.length),(9,.sl 7 (m.Runs.map Be)),(10,.int .i64 ((m.Runs.length:Nat):Int)),(11,.int .i64 ((zz.1:Nat):Int))]) (fun zz=>[.gone,.row zz.2.2 1 (zz.2.1.map Aw)]) (fun zz=>zz.1≤m.Runs.length∧Am (M3 zone) zz.1 ((m.Runs).drop zz.1) zz.2.1=some o2) (fun zz=>m.Runs.length - zz.1) (0,[],0) ⟨Nat.zero_le _,hJ2⟩ cu cu (fun x=>⟨rfl,rfl,rfl⟩) ?_
 clear hJ2
 rintro⟨k2,out1,ver2⟩ ⟨hk2,hJ2⟩
 dsimp only at hk2 hJ2 ⊢
 refine sq (ar rfl (qn (sq ?_)))
 refine AWP.cond (Aj (fun hc=>?_) (fun hc=>?_))
 rotate_left
 ·obtain rfl:=Bc hJ2 (fun hl=>by have:=Ajo hc;omega)
  have h:=Bb hO2;try dsimp only at h
  have hkl:m.Runs.length=k2:=by have:=Ajo hc;omega
  subst hkl
  refine xt (qe (qe (bs (qn (sq (ar rfl (qn (rt ?_))))))))
  cases h;exact en Tryz.results95
 have hlt2:k2<m.Runs.length:=by have:=Ajp hc;omega
 obtain⟨x_4,b2,hx2_,h,hJ2⟩:=A1 hJ2 hlt2
 have hx2:=Ay hx2_
 have hw2:=wk (k:=k2) (by omega)
 unfold M3 at h;try dsimp only at h
 refine sk (qn (sq (bk (sq ?_))))
 refine rg rfl fun K j=>?_
 refine Bk.of (f:=Be) (l:=m.Runs) hx2 ?_
 refine nS ?_
 refine j _ _ (qn (sq ?_))
 refine ar rfl (qn ?_)
 revert h;refine ca rfl (fun hc h=>?_) fun hc h=>?_
 ·refine rg rfl fun K j=>?_
  obtain⟨hk,h⟩:=B1 h
  (repeat refine rp ?_);try simp +decide -implicitDefEqProofs only[go_sem]
  refine j _ _ (bn (qn ?_))
  refine ar rfl (qn ?_)
  obtain rfl:=Aa h
  refine⟨(k2+1,(out1++[x_4.ID]),(ver2+1)),⟨by dsimp only;omega,Ae hJ2⟩,by dsimp only;omega,?_,?_⟩
  ·exact cuw hw2
  exact cuw hw2
 refine sk (bn (qn (ar rfl (qn ?_))))
 obtain rfl:=Aa h
 refine⟨(k2+1,out1,ver2),⟨by dsimp only;omega,Ae hJ2⟩,by dsimp only;omega,?_,?_⟩
 ·exact cuw hw2
 exact cuw hw2
theorem aK (m:Bd) (zone:Int) {r:(List Int)} (h:Lp m zone=some r):Ad Tryz.prog 95 [.agg (Ca m),.int .i64 zone] (·= .sl 1 (r.map Aw)):=(Zi m zone h).pure
def Q6 (id_:Int) (k0:Nat) (x_2:Cl) (sv:Unit):Option (Out (Unit) (Cl×Bool)):=
 (bif (decide (x_2.ID=id_))then some (Out.ret (x_2,true))else some (Out.next ()))
def Dz (m:Bd) (id_:Int):Option (Cl×Bool):=
 (Am (Q6 id_) 0 m.Nodes ()).bind fun o0=>o0.on fun s0=>some ((Cl.mk 0 0),false)
theorem Dm (m:Bd) (id_:Int) {r:Cl×Bool} (h:Dz m id_=some r):Ad Tryz.prog 96 [.agg (Ca m),.int .i64 id_] (·= .tuple [.agg (A9 r.1),.bool r.2]):=by
 refine Ad.nle (Ad.intro Tryz.func96 rfl rfl (by show _≤22;simp) ?_)
 unfold Dz at h
 refine nS (sq ?_)
 refine ar rfl (qn (sq (sq ?_)))
 refine rg rfl fun K j=>?_
 intro hm
 refine j _ _ (qn (bk ?_))
 obtain⟨o0,hJ0,hO0⟩:=Ah h
 clear h
 refine AWP.Br (ι:=Nat×(Unit)×(Unit)) (fun zz=>[(1,.int .i64 id_),(4,.ptr 1 0),(9,.sl 2 (m.Nodes.map A9)),(10,.int .i64 ((m.Nodes.length:Nat):Int)),(11,.int .i64 ((zz.1:Nat):Int))]) (fun zz=>[.gone,.box [.int .i64 0,.int .i64 0]]) (fun zz=>zz.1≤m.Nodes.length∧Am (Q6 id_) zz.1 ((m.Nodes).drop zz.1) zz.2.1=some o0) (fun zz=>m.Nodes.length - zz.1) (0,(),()) ⟨Nat.zero_le _,hJ0⟩ cu cu (fun x=>⟨rfl,rfl,rfl⟩) ?_
 clear hJ0
 rintro⟨k0,⟨⟩,⟨⟩⟩ ⟨hk0,hJ0⟩
 dsimp only at hk0 hJ0 ⊢
 refine sq (ar rfl (qn (sq ?_)))
 refine AWP.cond (Aj (fun hc=>?_) (fun hc=>?_))
 rotate_left
 ·obtain rfl:=Bc hJ0 (fun hl=>by have:=Ajo hc;omega)
  have h:=Bb hO0;try dsimp only at h
  have hkl:m.Nodes.length=k0:=by have:=Ajo hc;omega
  subst hkl
  refine xt (qe (qe (bs (qn (sq (ar rfl (qn (rt ?_))))))))
  cases h;exact en Tryz.results96
 have hlt0:k0<m.Nodes.length:=by have:=Ajp hc;omega
 obtain⟨x_2,b0,hx0_,h,hJ0⟩:=A1 hJ0 hlt0
 have hx0:=Ay hx0_
 have hw0:=wk (k:=k0) (by omega)
 unfold Q6 at h;try dsimp only at h
 refine sk (qn (sq (bk (sq ?_))))
 refine rg rfl fun K j=>?_
 refine Bk.of (f:=A9) (l:=m.Nodes) hx0 ?_
 refine nS ?_
 refine j _ _ (qn (sq ?_))
 refine ar rfl (qn ?_)
 revert h;refine ca rfl (fun hc h=>?_) fun hc h=>?_
 ·refine sq (ar rfl (qn (rt (br (qr (qr ?_))))))
  obtain rfl:=Aa h
  obtain rfl:=Af hJ0
  replace h:=An hO0
  refine br (qr ?_)
  cases h;exact en Tryz.results96
 refine sk (bn (qn (ar rfl (qn ?_))))
 obtain rfl:=Aa h
 refine⟨(k0+1,(),()),⟨by dsimp only;omega,Ae hJ0⟩,by dsimp only;omega,?_,?_⟩
 ·exact cuw hw0
 exact cuw hw0
def Ef (m:Bd) (k4:Nat) (x_6:Int) (sv:Int×Int×Bool):Option (Out (Int×Int×Bool) (Int×Int×Bool)):=
 (Ex m x_6).bind fun y7=>(Dz m y7.1.From).bind fun y8=>(Dz m y7.1.To).bind fun y9=>(bif (!sv.2.2)then some (Out.next ((if y9.1.Alt<y9.1.Alt then y9.1.Alt else y9.1.Alt),(if y8.1.Alt<y8.1.Alt then y8.1.Alt else y8.1.Alt),true))else some (Out.next ((if y9.1.Alt<sv.1 then y9.1.Alt else sv.1),(if sv.2.1<y8.1.Alt then y8.1.Alt else sv.2.1),sv.2.2)))
def Fg (m:Bd) (zone:Int):Option (Int×Int×Bool):=
 (Lp m zone).bind fun y1=>(Am (Ef m) 0 y1 (0,0,false)).bind fun o4=>o4.on fun s4=>some (s4.1,(s4.2.1,s4.2.2))
theorem Ub (m:Bd) (zone:Int) {r:Int×Int×Bool} (h:Fg m zone=some r):Ad Tryz.prog 44 [.agg (Ca m),.int .i64 zone] (·= .tuple [.int .i64 r.1,.int .i64 r.2.1,.bool r.2.2]):=by
 refine Ad.nle (Ad.intro Tryz.func44 rfl rfl (by show _≤61;simp) ?_)
 unfold Fg at h
 refine nS (sq ?_)
 refine ar rfl (qn (sq (sq ?_)))
 refine rg rfl fun K j=>?_
 obtain⟨y1,hy1,h⟩:=Ah h
 refine Al.pure Tryz.call95 (aK m zone hy1) rfl fun _ hr=>?_
 subst hr
 refine nS ?_
 intro hm
 refine j _ _ (qn (bk ?_))
 obtain⟨o4,hJ4,hO4⟩:=Ah h
 clear h
 refine AWP.Br (ι:=Nat×(Int×Int×Bool)×(Unit)) (fun zz=>[(2,.ptr 0 0),(4,.int .i64 zz.2.1.1),(5,.int .i64 zz.2.1.2.1),(6,.bool zz.2.1.2.2),(17,.sl 1 (y1.map Aw)),(18,.int .i64 ((y1.length:Nat):Int)),(19,.int .i64 ((zz.1:Nat):Int))]) (fun zz=>[.box [.sl 2 (m.Nodes.map A9),.sl 8 (m.Lifts.map A7),.sl 7 (m.Runs.map Be),.sl 1 (m.Bases.map Aw)]]) (fun zz=>zz.1≤y1.length∧Am (Ef m) zz.1 ((y1).drop zz.1) zz.2.1=some o4) (fun zz=>y1.length - zz.1) (0,(0,0,false),()) ⟨Nat.zero_le _,hJ4⟩ cu cu (fun x=>⟨rfl,rfl,rfl⟩) ?_
 clear hJ4
 rintro⟨k4,⟨low2,high3,ok4⟩,⟨⟩⟩ ⟨hk4,hJ4⟩
 dsimp only at hk4 hJ4 ⊢
 refine sq (ar rfl (qn (sq ?_)))
 refine AWP.cond (Aj (fun hc=>?_) (fun hc=>?_))
 rotate_left
 ·obtain rfl:=Bc hJ4 (fun hl=>by have:=Ajo hc;omega)
  have h:=Bb hO4;try dsimp only at h
  have hkl:y1.length=k4:=by have:=Ajo hc;omega
  subst hkl
  refine xt (qe (qe (bs (qn (sq (ar rfl (qn (rt ?_))))))))
  cases h;exact en Tryz.results44
 have hlt4:k4<y1.length:=by have:=Ajp hc;omega
 obtain⟨x_6,b4,hx4_,h,hJ4⟩:=A1 hJ4 hlt4
 have hx4:=Ay hx4_
 have hw4:=wk (k:=k4) (by omega)
 unfold Ef at h;try dsimp only at h
 refine sk (qn (sq (bk (sq ?_))))
 refine rg rfl fun K j=>?_
 refine Bk.of (f:=Aw) (l:=y1) hx4 ?_
 refine nS ?_
 refine j _ _ (qn (sq ?_))
 refine rg rfl fun K j=>?_
 obtain⟨y7,hy7,h⟩:=Ah h
 refine Al.pure Tryz.call53 (D3 m x_6 hy7) rfl fun _ hr=>?_
 subst hr
 refine nS ?_
 refine j _ _ (qn (sq ?_))
 refine rg rfl fun K j=>?_
 obtain⟨y8,hy8,h⟩:=Ah h
 refine Al.pure Tryz.call96 (Dm m y7.1.From hy8) rfl fun _ hr=>?_
 subst hr
 refine nS ?_
 refine j _ _ (qn (sq ?_))
 refine rg rfl fun K j=>?_
 obtain⟨y9,hy9,h⟩:=Ah h
 refine Al.pure Tryz.call96 (Dm m y7.1.To hy9) rfl fun _ hr=>?_
 subst hr
 refine nS ?_
 refine j _ _ (qn (sq (sq ?_)))
 refine ar rfl (qn ?_)
 revert h;refine ca rfl (fun hc h=>?_) fun hc h=>?_
 ·refine AWP.draw Tryz.mixed (by kernel_rfl) ?_;intro K j
  refine nS ?_
  refine j _ _ _ (by kernel_rfl) ?_
  refine qn (sq (ar rfl (qn ?_)))
  refine ar rfl (bn (qn ?_))
  refine ar rfl (qn ?_)
  obtain rfl:=Aa h
  refine⟨(k4+1,((if y9.1.Alt<y9.1.Alt then y9.1.Alt else y9.1.Alt),(if y8.1.Alt<y8.1.Alt then y8.1.Alt else y8.1.Alt),true),()),⟨by dsimp only;omega,Ae hJ4⟩,by dsimp only;omega,?_,?_⟩
  ·exact cuw hw4
  exact cuw hw4
 refine sk (qn (sq (ar rfl (qn ?_))))
 refine ar rfl (bn (qn ?_))
 refine ar rfl (qn ?_)
 obtain rfl:=Aa h
 refine⟨(k4+1,((if y9.1.Alt<low2 then y9.1.Alt else low2),(if high3<y8.1.Alt then y8.1.Alt else high3),ok4),()),⟨by dsimp only;omega,Ae hJ4⟩,by dsimp only;omega,?_,?_⟩
 ·exact cuw hw4
 exact cuw hw4
def Mb (span:Gx) (t:Int):Option (Bool):=
 (bif (decide (span.From≤t))then some (decide (t<span.To))else some false)
theorem Tl (span:Gx) (t:Int) {r:Bool} (h:Mb span t=some r):Ad Tryz.prog 197 [.agg (Sq span),.int .i64 t] (·= .bool r):=by
 refine Ad.nle (Ad.intro Tryz.func197 rfl rfl (by show _≤15;simp) ?_)
 unfold Mb at h
 refine nS (sq ?_)
 refine ar rfl (qn (sq ?_))
 refine rg rfl fun K j=>?_
 revert h;refine gt (fun hc h=>?_) fun hc h=>?_
 ·refine j _ _ (qn (rt ?_))
  cases h;exact en Tryz.results197
 refine j _ _ (qn (rt ?_))
 cases h;exact en Tryz.results197
def Fh (t:Int) (k1:Nat) (x_3:Bp) (sv:Int):Option (Out (Int) (Int)):=
 (Mb x_3.Span t).bind fun y4=>(bif y4 then(bif (decide (sv<x_3.Version))then some (Out.next x_3.Version)else some (Out.next sv))else some (Out.next sv))
def H0 (l:List Bp) (t:Int):Option (Int):=
 (Am (Fh t) 0 l 0).bind fun o1=>o1.on fun s1=>some s1
theorem Wl (l:List Bp) (t:Int) {r:Int} (h:H0 l t=some r):Ad Tryz.prog 195 [.sl 7 (l.map Au),.int .i64 t] (·= .int .i64 r):=by
 refine Ad.nle (Ad.intro Tryz.func195 rfl rfl (by show _≤28;simp) ?_)
 unfold H0 at h
 refine nS (sq ?_)
 refine ar rfl (qn (sq ?_))
 refine ar rfl (qn (sq (sq ?_)))
 refine rg rfl fun K j=>?_
 intro hm
 refine j _ _ (qn (bk ?_))
 obtain⟨o1,hJ1,hO1⟩:=Ah h
 clear h
 refine AWP.Br (ι:=Nat×(Int)×(Unit)) (fun zz=>[(1,.int .i64 t),(5,.int .i64 zz.2.1),(8,.sl 7 (l.map Au)),(9,.int .i64 ((l.length:Nat):Int)),(10,.int .i64 ((zz.1:Nat):Int))]) (fun zz=>[]) (fun zz=>zz.1≤l.length∧Am (Fh t) zz.1 ((l).drop zz.1) zz.2.1=some o1) (fun zz=>l.length - zz.1) (0,0,()) ⟨Nat.zero_le _,hJ1⟩ cu cu (fun x=>⟨rfl,rfl,rfl⟩) ?_
 clear hJ1
 rintro⟨k1,version1,⟨⟩⟩ ⟨hk1,hJ1⟩
 dsimp only at hk1 hJ1 ⊢
 refine sq (ar rfl (qn (sq ?_)))
 refine AWP.cond (Aj (fun hc=>?_) (fun hc=>?_))
 rotate_left
 ·obtain rfl:=Bc hJ1 (fun hl=>by have:=Ajo hc;omega)
  have h:=Bb hO1;try dsimp only at h
  have hkl:l.length=k1:=by have:=Ajo hc;omega
  subst hkl
  refine xt (qe (qe (bs (qn (sq (ar rfl (qn (rt ?_))))))))
  cases h;exact en Tryz.results195
 have hlt1:k1<l.length:=by have:=Ajp hc;omega
 obtain⟨x_3,b1,hx1_,h,hJ1⟩:=A1 hJ1 hlt1
 have hx1:=Ay hx1_
 have hw1:=wk (k:=k1) (by omega)
 unfold Fh at h;try dsimp only at h
 refine sk (qn (sq (bk (sq ?_))))
 refine rg rfl fun K j=>?_
 refine Bk.of (f:=Au) (l:=l) hx1 ?_
 refine nS ?_
 refine j _ _ (qn (sq ?_))
 refine rg rfl fun K j=>?_
 obtain⟨y4,hy4,h⟩:=Ah h
 refine Al.pure Tryz.call197 (Tl x_3.Span t hy4) rfl fun _ hr=>?_
 subst hr
 refine nS ?_
 revert h;refine gt (fun hc h=>?_) fun hc h=>?_
 ·refine j _ _ (qn ?_)
  revert h;refine ca rfl (fun hc h=>?_) fun hc h=>?_
  ·refine ar rfl (bn (qn ?_))
   refine ar rfl (qn ?_)
   obtain rfl:=Aa h
   refine⟨(k1+1,x_3.Version,()),⟨by dsimp only;omega,Ae hJ1⟩,by dsimp only;omega,?_,?_⟩
   ·exact cuw hw1
   exact cuw hw1
  refine sk (bn (qn (ar rfl (qn ?_))))
  obtain rfl:=Aa h
  refine⟨(k1+1,version1,()),⟨by dsimp only;omega,Ae hJ1⟩,by dsimp only;omega,?_,?_⟩
  ·exact cuw hw1
  exact cuw hw1
 refine j _ _ (qn ?_)
 refine AWP.cond (Bg ?_)
 refine sk (bn (qn (ar rfl (qn ?_))))
 obtain rfl:=Aa h
 refine⟨(k1+1,version1,()),⟨by dsimp only;omega,Ae hJ1⟩,by dsimp only;omega,?_,?_⟩
 ·exact cuw hw1
 exact cuw hw1
def J8 (zone:Int) (low:Int) (high:Int) (t:Int) (y1:Int) (k2:Nat) (x_4:Bp) (sv:Int):Option (Out (Int) (Int)):=
 (bif (decide (x_4.Version=y1))then (Mb x_4.Span t).bind fun y5=>(bif y5 then(Bt x_4.Zones zone).bind fun y6=>(bif y6 then(bif (decide (x_4.Low<high))then (bif (decide (low<x_4.High))then (bif (decide (sv<x_4.Level))then some (Out.next x_4.Level)else some (Out.next sv))else some (Out.next sv))else some (Out.next sv))else some (Out.next sv))else some (Out.next sv))else some (Out.next sv))
def Hz (l:List Bp) (zone:Int) (low:Int) (high:Int) (t:Int):Option (Int):=
 (H0 l t).bind fun y1=>(Am (J8 zone low high t y1) 0 l 0).bind fun o2=>o2.on fun s2=>some s2
theorem Y4 (l:List Bp) (zone:Int) (low:Int) (high:Int) (t:Int) {r:Int} (h:Hz l zone low high t=some r):Ad Tryz.prog 45 [.sl 7 (l.map Au),.int .i64 zone,.int .i64 low,.int .i64 high,.int .i64 t] (·= .int .i64 r):=by
 refine Ad.nle (Ad.intro Tryz.func45 rfl rfl (by show _≤55;simp) ?_)
 unfold Hz at h
 refine nS (sq ?_)
 refine ar rfl (qn (sq ?_))
 refine rg rfl fun K j=>?_
 refine Al.inline Tryz.call97 Tryz.func97 rfl rfl (by show _≤10;simp) ?_
 refine nS (sq ?_)
 refine ar rfl (qn (sq ?_))
 refine rg rfl fun K j=>?_
 obtain⟨y1,hy1,h⟩:=Ah h
 refine Al.pure Tryz.call195 (Wl l t hy1) rfl fun _ hr=>?_
 subst hr
 refine nS ?_
 refine j _ _ (qn (sq ?_));clear j K
 refine ar rfl (qn (rt ?_))
 refine nSc Tryz.results97 ?_
 refine j _ _ (qn (sq ?_))
 refine ar rfl (qn (sq (sq ?_)))
 refine rg rfl fun K j=>?_
 intro hm
 refine j _ _ (qn (bk ?_))
 obtain⟨o2,hJ2,hO2⟩:=Ah h
 clear h
 refine AWP.Br (ι:=Nat×(Int)×(Unit)) (fun zz=>[(1,.int .i64 zone),(2,.int .i64 low),(3,.int .i64 high),(11,.func 196 [.ptr 1 0,.ptr 0 0]),(12,.int .i64 zz.2.1),(18,.sl 7 (l.map Au)),(19,.int .i64 ((l.length:Nat):Int)),(20,.int .i64 ((zz.1:Nat):Int))]) (fun zz=>[.box [.int .i64 t],.box [.int .i64 y1]]) (fun zz=>zz.1≤l.length∧Am (J8 zone low high t y1) zz.1 ((l).drop zz.1) zz.2.1=some o2) (fun zz=>l.length - zz.1) (0,0,()) ⟨Nat.zero_le _,hJ2⟩ cu cu (fun x=>⟨rfl,rfl,rfl⟩) ?_
 clear hJ2
 rintro⟨k2,level2,⟨⟩⟩ ⟨hk2,hJ2⟩
 dsimp only at hk2 hJ2 ⊢
 refine sq (ar rfl (qn (sq ?_)))
 refine AWP.cond (Aj (fun hc=>?_) (fun hc=>?_))
 rotate_left
 ·obtain rfl:=Bc hJ2 (fun hl=>by have:=Ajo hc;omega)
  have h:=Bb hO2;try dsimp only at h
  have hkl:l.length=k2:=by have:=Ajo hc;omega
  subst hkl
  refine xt (qe (qe (bs (qn (sq (ar rfl (qn (rt ?_))))))))
  cases h;exact en Tryz.results45
 have hlt2:k2<l.length:=by have:=Ajp hc;omega
 obtain⟨x_4,b2,hx2_,h,hJ2⟩:=A1 hJ2 hlt2
 have hx2:=Ay hx2_
 have hw2:=wk (k:=k2) (by omega)
 unfold J8 at h;try dsimp only at h
 refine sk (qn (sq (bk (sq ?_))))
 refine rg rfl fun K j=>?_
 refine Bk.of (f:=Au) (l:=l) hx2 ?_
 refine nS ?_
 refine j _ _ (qn (sq ?_))
 refine rg rfl fun K j=>?_
 refine Al.inline Tryz.call196 Tryz.func196 rfl rfl (by show _≤15;simp) ?_
 refine nS (sq ?_)
 refine ar rfl (qn (sq ?_))
 refine rg rfl fun K j=>?_
 revert h;refine gt (fun hc h=>?_) fun hc h=>?_
 ·obtain⟨y5,hy5,h⟩:=Ah h
  refine Al.pure Tryz.call197 (Tl x_4.Span t hy5) rfl fun _ hr=>?_
  subst hr
  refine nS ?_
  refine j _ _ (qn (rt ?_));clear j K
  refine nSc Tryz.results196 ?_
  revert h;refine gt (fun hc h=>?_) fun hc h=>?_
  ·obtain⟨y6,hy6,h⟩:=Ah h
   refine Al.pure Tryz.call54 (Bx x_4.Zones zone hy6) rfl fun _ hr=>?_
   subst hr
   refine nS ?_
   revert h;refine gt (fun hc h=>?_) fun hc h=>?_
   ·revert h;refine gt (fun hc h=>?_) fun hc h=>?_
    ·revert h;refine gt (fun hc h=>?_) fun hc h=>?_
     ·refine j _ _ (qn ?_)
      revert h;refine ca rfl (fun hc h=>?_) fun hc h=>?_
      ·refine ar rfl (bn (qn ?_))
       refine ar rfl (qn ?_)
       obtain rfl:=Aa h
       refine⟨(k2+1,x_4.Level,()),⟨by dsimp only;omega,Ae hJ2⟩,by dsimp only;omega,?_,?_⟩
       ·exact cuw hw2
       exact cuw hw2
      refine sk (bn (qn (ar rfl (qn ?_))))
      obtain rfl:=Aa h
      refine⟨(k2+1,level2,()),⟨by dsimp only;omega,Ae hJ2⟩,by dsimp only;omega,?_,?_⟩
      ·exact cuw hw2
      exact cuw hw2
     refine j _ _ (qn ?_)
     refine AWP.cond (Bg ?_)
     refine sk (bn (qn (ar rfl (qn ?_))))
     obtain rfl:=Aa h
     refine⟨(k2+1,level2,()),⟨by dsimp only;omega,Ae hJ2⟩,by dsimp only;omega,?_,?_⟩
     ·exact cuw hw2
     exact cuw hw2
    refine j _ _ (qn ?_)
    refine AWP.cond (Bg ?_)
    refine sk (bn (qn (ar rfl (qn ?_))))
    obtain rfl:=Aa h
    refine⟨(k2+1,level2,()),⟨by dsimp only;omega,Ae hJ2⟩,by dsimp only;omega,?_,?_⟩
    ·exact cuw hw2
    exact cuw hw2
   refine j _ _ (qn ?_)
   refine AWP.cond (Bg ?_)
   refine sk (bn (qn (ar rfl (qn ?_))))
   obtain rfl:=Aa h
   refine⟨(k2+1,level2,()),⟨by dsimp only;omega,Ae hJ2⟩,by dsimp only;omega,?_,?_⟩
   ·exact cuw hw2
   exact cuw hw2
  refine j _ _ (qn ?_)
  refine AWP.cond (Bg ?_)
  refine sk (bn (qn (ar rfl (qn ?_))))
  obtain rfl:=Aa h
  refine⟨(k2+1,level2,()),⟨by dsimp only;omega,Ae hJ2⟩,by dsimp only;omega,?_,?_⟩
  ·exact cuw hw2
  exact cuw hw2
 refine j _ _ (qn (rt ?_));clear j K
 refine nSc Tryz.results196 ?_
 refine j _ _ (qn ?_)
 refine AWP.cond (Bg ?_)
 refine sk (bn (qn (ar rfl (qn ?_))))
 obtain rfl:=Aa h
 refine⟨(k2+1,level2,()),⟨by dsimp only;omega,Ae hJ2⟩,by dsimp only;omega,?_,?_⟩
 ·exact cuw hw2
 exact cuw hw2
def Er (f_:Ak) (k2:Nat) (_x:Unit) (sv:(List Int)):Option (Out ((List Int)) ((List Int))):=
 (Fg f_.Map (((k2:Nat):Int)+1)).bind fun y4=>(bif y4.2.2 then(Hz f_.Bulletin (((k2:Nat):Int)+1) y4.1 y4.2.1 f_.Time).bind fun y5=>chk (sv.length+1) (some (Out.next (sv++[y5])))else chk (sv.length+1) (some (Out.next (sv++[(0:Int)]))))
def D8 (f_:Ak):Option ((List Int)):=
 zL 32 ((Kc (Er f_) 32 []).bind fun o2=>o2.on fun s2=>some s2)
theorem Vw (f_:Ak) {r:(List Int)} (h:D8 f_=some r):Bh Tryz.prog 16 [.agg (Bv f_)] (·= .sl 1 (r.map Aw)):=by
 refine Bh.nle (Bh.intro Tryz.func16 rfl rfl (by show _≤36;simp) ?_)
 unfold D8 at h
 refine nS (sq ?_)
 refine ar rfl (qn (sq ?_))
 refine rg rfl fun K j=>?_
 obtain⟨hk,hk2,h⟩:=zK h
 (repeat refine rp ?_);try simp +decide -implicitDefEqProofs only[go_sem]
 refine j _ _ (qn (sq (sq ?_)))
 refine ar rfl (qn (bk ?_))
 obtain⟨o2,hJ2,hO2⟩:=Ah h
 clear h
 obtain⟨hn2,hJ2⟩:=Pe hJ2
 refine AWP.Br (ι:=Nat×((List Int))×(Nat)) (fun zz=>[(1,.ptr 0 0),(3,.own 1 zz.2.2 0 zz.2.1.length),(4,.int .i64 (((zz.1:Nat):Int)+(1:Int)))]) (fun zz=>[.box [.sl 2 (f_.Map.Nodes.map A9),.sl 8 (f_.Map.Lifts.map A7),.sl 7 (f_.Map.Runs.map Be),.sl 1 (f_.Map.Bases.map Aw),.sl 2 (f_.Lifts.map Az),.sl 4 (f_.Closures.map Aq),.sl 4 (f_.Patrol.Bw.map Ax),.sl 3 (f_.Patrol.Hazards.map A3),.sl 3 (f_.Surfaces.map Ba),.sl 5 (f_.Packs.map A4),.sl 6 (f_.Slides.map A5),.sl 7 (f_.Bulletin.map Au),.sl 7 (f_.Missions.map Ao),.sl 4 (f_.Winches.map Ap),.sl 8 (f_.Groomers.map A2),.sl 3 (f_.Status.map A6),.int .i64 f_.Depth,.int .i64 f_.Time],.row zz.2.2 1 (zz.2.1.map Aw)]) (fun zz=>zz.1≤32∧Am (Er f_) zz.1 ((List.replicate 32 ()).drop zz.1) zz.2.1=some o2) (fun zz=>32 - zz.1) (0,[],0) ⟨Nat.zero_le _,hJ2⟩ cu cu (fun x=>⟨rfl,rfl,rfl⟩) ?_
 clear hJ2
 rintro⟨k2,out1,ver2⟩ ⟨hk2,hJ2⟩
 dsimp only at hk2 hJ2 ⊢
 refine sq (sq (ar rfl (qn ?_)))
 refine AWP.cond (Aj (fun hc=>?_) (fun hc=>?_))
 rotate_left
 ·obtain rfl:=Bc hJ2 (fun hl=>by rw[List.length_replicate]at hl;have:=Ajo hc;omega)
  have h:=Bb hO2;try dsimp only at h
  have hkl:32=k2:=by have:=Ajo hc;omega
  subst hkl
  refine xt (qe (qe (bs (qn (sq (ar rfl (qn (rt ?_))))))))
  cases h;exact en Tryz.results16
 have hlt2:k2<32:=by have:=Ajp hc;omega
 obtain⟨_,b2,_,h,hJ2⟩:=A1 hJ2 (by rw[List.length_replicate];exact hlt2)
 have hw2:IntKind.i64.wrap ((((k2:Nat):Int)+1)+1)=(((k2:Nat):Int)+1+1):=by rw[wrap_i64]<;>omega
 unfold Er at h;try dsimp only at h
 refine sk (qn (sq (bk (sq (ar rfl (qn (sq (sq ?_))))))))
 refine rg rfl fun K j=>?_
 obtain⟨y4,hy4,h⟩:=Ah h
 refine Al.pure Tryz.call44 (Ub f_.Map (((k2:Nat):Int)+1) hy4) rfl fun _ hr=>?_
 subst hr
 refine nS ?_
 refine j _ _ (qn (sq ?_))
 refine ar rfl (qn ?_)
 revert h;refine ca rfl (fun hc h=>?_) fun hc h=>?_
 ·refine rg rfl fun K j=>?_
  obtain⟨y5,hy5,h⟩:=Ah h
  refine Al.pure Tryz.call45 (Y4 f_.Bulletin (((k2:Nat):Int)+1) y4.1 y4.2.1 f_.Time hy5) rfl fun _ hr=>?_
  subst hr
  refine nS ?_
  refine j _ _ (qn ?_)
  refine rg rfl fun K j=>?_
  obtain⟨hk,h⟩:=B1 h
  (repeat refine rp ?_);try simp +decide -implicitDefEqProofs only[go_sem]
  refine j _ _ (bn (qn ?_))
  refine ar rfl (qn ?_)
  obtain rfl:=Aa h
  refine⟨(k2+1,(out1++[y5]),(ver2+1)),⟨by dsimp only;omega,Ae hJ2⟩,by dsimp only;omega,?_,?_⟩
  ·exact cuw hw2
  exact cuw hw2
 refine sk (qn ?_)
 refine rg rfl fun K j=>?_
 obtain⟨hk,h⟩:=B1 h
 (repeat refine rp ?_);try simp +decide -implicitDefEqProofs only[go_sem]
 refine j _ _ (bn (qn ?_))
 refine ar rfl (qn ?_)
 obtain rfl:=Aa h
 refine⟨(k2+1,(out1++[(0:Int)]),(ver2+1)),⟨by dsimp only;omega,Ae hJ2⟩,by dsimp only;omega,?_,?_⟩
 ·exact cuw hw2
 exact cuw hw2
theorem Pm (f_:Ak) {r:(List Int)} (h:D8 f_=some r):Ad Tryz.prog 16 [.agg (Bv f_)] (·= .sl 1 (r.map Aw)):=(Vw f_ h).pure
def F6 (levels:List Int) (k1:Nat) (x_3:Int) (sv:Int):Option (Out (Int) (Int)):=
 (bif (decide (1≤x_3))then (bif (decide (x_3≤((levels.length:Nat):Int)))then (Dl levels (IntKind.i64.wrap (x_3 - 1))).bind fun x_4=>(bif (decide (((k1:Nat):Int)=0))then some (Out.next x_4)else (bif (decide (sv<x_4))then some (Out.next x_4)else some (Out.next sv)))else (bif (decide (((k1:Nat):Int)=0))then some (Out.next 0)else (bif (decide (sv<0))then some (Out.next 0)else some (Out.next sv))))else (bif (decide (((k1:Nat):Int)=0))then some (Out.next 0)else (bif (decide (sv<0))then some (Out.next 0)else some (Out.next sv))))
def Nf (s_:Bf) (levels:List Int):Option (Int):=
 (Am (F6 levels) 0 s_.Zones 0).bind fun o1=>o1.on fun s1=>some s1
theorem Xv (s_:Bf) (levels:List Int) {r:Int} (h:Nf s_ levels=some r):Ad Tryz.prog 263 [.agg (A5 s_),.sl 1 (levels.map Aw)] (·= .int .i64 r):=by
 refine Ad.nle (Ad.intro Tryz.func263 rfl rfl (by show _≤40;simp) ?_)
 unfold Nf at h
 refine nS (sq ?_)
 refine ar rfl (qn (sq ?_))
 refine ar rfl (qn (sq (sq ?_)))
 refine rg rfl fun K j=>?_
 intro hm
 refine j _ _ (qn (bk ?_))
 obtain⟨o1,hJ1,hO1⟩:=Ah h
 clear h
 refine AWP.Br (ι:=Nat×(Int)×(Unit)) (fun zz=>[(1,.sl 1 (levels.map Aw)),(5,.int .i64 zz.2.1),(10,.sl 1 (s_.Zones.map Aw)),(11,.int .i64 ((s_.Zones.length:Nat):Int)),(12,.int .i64 ((zz.1:Nat):Int))]) (fun zz=>[]) (fun zz=>zz.1≤s_.Zones.length∧Am (F6 levels) zz.1 ((s_.Zones).drop zz.1) zz.2.1=some o1) (fun zz=>s_.Zones.length - zz.1) (0,0,()) ⟨Nat.zero_le _,hJ1⟩ cu cu (fun x=>⟨rfl,rfl,rfl⟩) ?_
 clear hJ1
 rintro⟨k1,greatest1,⟨⟩⟩ ⟨hk1,hJ1⟩
 dsimp only at hk1 hJ1 ⊢
 refine sq (ar rfl (qn (sq ?_)))
 refine AWP.cond (Aj (fun hc=>?_) (fun hc=>?_))
 rotate_left
 ·obtain rfl:=Bc hJ1 (fun hl=>by have:=Ajo hc;omega)
  have h:=Bb hO1;try dsimp only at h
  have hkl:s_.Zones.length=k1:=by have:=Ajo hc;omega
  subst hkl
  refine xt (qe (qe (bs (qn (sq (ar rfl (qn (rt ?_))))))))
  cases h;exact en Tryz.results263
 have hlt1:k1<s_.Zones.length:=by have:=Ajp hc;omega
 obtain⟨x_3,b1,hx1_,h,hJ1⟩:=A1 hJ1 hlt1
 have hx1:=Ay hx1_
 have hw1:=wk (k:=k1) (by omega)
 unfold F6 at h;try dsimp only at h
 refine sk (qn (sq (bk (sq ?_))))
 refine rg rfl fun K j=>?_
 refine Bk.of (f:=Aw) (l:=s_.Zones) hx1 ?_
 refine nS ?_
 refine j _ _ (qn (sq ?_))
 refine ar rfl (qn (sq (sq ?_)))
 refine rg rfl fun K j=>?_
 revert h;refine gt (fun hc h=>?_) fun hc h=>?_
 ·intro hm
  refine j _ _ (qn ?_)
  revert h;refine ca rfl (fun hc h=>?_) fun hc h=>?_
  ·refine rg rfl fun K j=>?_
   obtain⟨x_4,hx_4,h⟩:=Ah h
   refine Bk.of (f:=Aw) (l:=levels) hx_4 ?_
   refine nS ?_
   refine j _ _ (qn (sq ?_))
   refine rg rfl fun K j=>?_
   revert h;refine gf (fun hc h=>?_) fun hc h=>?_
   ·refine j _ _ (qn ?_)
    revert h;refine ca rfl (fun hc h=>?_) fun hc h=>?_
    ·refine ar rfl (bn (qn ?_))
     refine ar rfl (qn ?_)
     obtain rfl:=Aa h
     refine⟨(k1+1,x_4,()),⟨by dsimp only;omega,Ae hJ1⟩,by dsimp only;omega,?_,?_⟩
     ·exact cuw hw1
     exact cuw hw1
    refine sk (bn (qn (ar rfl (qn ?_))))
    obtain rfl:=Aa h
    refine⟨(k1+1,greatest1,()),⟨by dsimp only;omega,Ae hJ1⟩,by dsimp only;omega,?_,?_⟩
    ·exact cuw hw1
    exact cuw hw1
   refine j _ _ (qn ?_)
   refine AWP.cond (Ai ?_)
   refine ar rfl (bn (qn ?_))
   refine ar rfl (qn ?_)
   obtain rfl:=Aa h
   refine⟨(k1+1,x_4,()),⟨by dsimp only;omega,Ae hJ1⟩,by dsimp only;omega,?_,?_⟩
   ·exact cuw hw1
   exact cuw hw1
  refine sk (qn (sq ?_))
  refine rg rfl fun K j=>?_
  revert h;refine gf (fun hc h=>?_) fun hc h=>?_
  ·refine j _ _ (qn ?_)
   revert h;refine ca rfl (fun hc h=>?_) fun hc h=>?_
   ·refine ar rfl (bn (qn ?_))
    refine ar rfl (qn ?_)
    obtain rfl:=Aa h
    refine⟨(k1+1,0,()),⟨by dsimp only;omega,Ae hJ1⟩,by dsimp only;omega,?_,?_⟩
    ·exact cuw hw1
    exact cuw hw1
   refine sk (bn (qn (ar rfl (qn ?_))))
   obtain rfl:=Aa h
   refine⟨(k1+1,greatest1,()),⟨by dsimp only;omega,Ae hJ1⟩,by dsimp only;omega,?_,?_⟩
   ·exact cuw hw1
   exact cuw hw1
  refine j _ _ (qn ?_)
  refine AWP.cond (Ai ?_)
  refine ar rfl (bn (qn ?_))
  refine ar rfl (qn ?_)
  obtain rfl:=Aa h
  refine⟨(k1+1,0,()),⟨by dsimp only;omega,Ae hJ1⟩,by dsimp only;omega,?_,?_⟩
  ·exact cuw hw1
  exact cuw hw1
 refine j _ _ (qn ?_)
 refine AWP.cond (Bg ?_)
 refine sk (qn (sq ?_))
 refine rg rfl fun K j=>?_
 revert h;refine gf (fun hc h=>?_) fun hc h=>?_
 ·refine j _ _ (qn ?_)
  revert h;refine ca rfl (fun hc h=>?_) fun hc h=>?_
  ·refine ar rfl (bn (qn ?_))
   refine ar rfl (qn ?_)
   obtain rfl:=Aa h
   refine⟨(k1+1,0,()),⟨by dsimp only;omega,Ae hJ1⟩,by dsimp only;omega,?_,?_⟩
   ·exact cuw hw1
   exact cuw hw1
  refine sk (bn (qn (ar rfl (qn ?_))))
  obtain rfl:=Aa h
  refine⟨(k1+1,greatest1,()),⟨by dsimp only;omega,Ae hJ1⟩,by dsimp only;omega,?_,?_⟩
  ·exact cuw hw1
  exact cuw hw1
 refine j _ _ (qn ?_)
 refine AWP.cond (Ai ?_)
 refine ar rfl (bn (qn ?_))
 refine ar rfl (qn ?_)
 obtain rfl:=Aa h
 refine⟨(k1+1,0,()),⟨by dsimp only;omega,Ae hJ1⟩,by dsimp only;omega,?_,?_⟩
 ·exact cuw hw1
 exact cuw hw1
def F5 (s_:Bf) (levels:List Int):Option (Bool):=
 (bif (decide (s_.Limit≤s_.Load))then some true else(Nf s_ levels).bind fun y1=>(bif (decide (y1=3))then some (decide ((IntKind.i64.wrap (Int.tdiv s_.Limit 2))≤s_.Load))else (bif (decide (y1=4))then some (decide ((IntKind.i64.wrap (Int.tdiv s_.Limit 4))≤s_.Load))else some (decide (4<y1)))))
theorem U7 (s_:Bf) (levels:List Int) {r:Bool} (h:F5 s_ levels=some r):Ad Tryz.prog 205 [.agg (A5 s_),.sl 1 (levels.map Aw)] (·= .bool r):=by
 refine Ad.nle (Ad.intro Tryz.func205 rfl rfl (by show _≤33;simp) ?_)
 unfold F5 at h
 refine nS (sq ?_)
 refine ar rfl (qn (sq (sq ?_)))
 refine ar rfl (qn ?_)
 revert h;refine ca rfl (fun hc h=>?_) fun hc h=>?_
 ·refine sq (ar rfl (qn (rt (qr ?_))))
  cases h;exact en Tryz.results205
 refine sk (qn (sq ?_))
 refine rg rfl fun K j=>?_
 obtain⟨y1,hy1,h⟩:=Ah h
 refine Al.pure Tryz.call263 (Xv s_ levels hy1) rfl fun _ hr=>?_
 subst hr
 refine nS ?_
 refine j _ _ (qn (sq ?_))
 refine ar rfl (qn (bk (sq ?_)))
 refine ar rfl (qn ?_)
 revert h;refine ca rfl (fun hc h=>?_) fun hc h=>?_
 ·refine sq (ar rfl (qn (rt (br ?_))))
  cases h;exact en Tryz.results205
 refine sq (ar rfl (qn ?_))
 revert h;refine ca rfl (fun hc h=>?_) fun hc h=>?_
 ·refine sq (ar rfl (qn (rt (br ?_))))
  cases h;exact en Tryz.results205
 refine sq (ar rfl (qn (rt (br ?_))))
 cases h;exact en Tryz.results205
def Iy (levels:List Int) (k2:Nat) (x_4:Bf) (sv:(List Int)):Option (Out ((List Int)) ((List Int))):=
 (F5 x_4 levels).bind fun y5=>(bif y5 then chk (sv.length+x_4.Zones.length) (some (Out.next (sv++x_4.Zones)))else some (Out.next sv))
def Gf (l:List Bf) (levels:List Int):Option ((List Int)):=
 (Am (Iy levels) 0 l []).bind fun o2=>o2.on fun s2=>chk s2.length (chk s2.length (some (Ch (Dc s2))))
theorem Wn (l:List Bf) (levels:List Int) {r:(List Int)} (h:Gf l levels=some r):Bh Tryz.prog 106 [.sl 6 (l.map A5),.sl 1 (levels.map Aw)] (·= .sl 1 (r.map Aw)):=by
 refine Bh.nle (Bh.intro Tryz.func106 rfl rfl (by show _≤26;simp) ?_)
 unfold Gf at h
 refine nS (sq ?_)
 refine ar rfl (qn (sq ?_))
 refine ar rfl (qn (sq (sq ?_)))
 refine rg rfl fun K j=>?_
 intro hm
 refine j _ _ (qn (bk ?_))
 refine AWP.ghost 5 1 rfl (by decide) ?_
 obtain⟨o2,hJ2,hO2⟩:=Ah h
 clear h
 refine AWP.Br (ι:=Nat×((List Int))×(Nat)) (fun zz=>[(1,.sl 1 (levels.map Aw)),(5,.own 0 zz.2.2 0 zz.2.1.length),(8,.sl 6 (l.map A5)),(9,.int .i64 ((l.length:Nat):Int)),(10,.int .i64 ((zz.1:Nat):Int))]) (fun zz=>[.row zz.2.2 1 (zz.2.1.map Aw)]) (fun zz=>zz.1≤l.length∧Am (Iy levels) zz.1 ((l).drop zz.1) zz.2.1=some o2) (fun zz=>l.length - zz.1) (0,[],0) ⟨Nat.zero_le _,hJ2⟩ cu cu (fun x=>⟨rfl,rfl,rfl⟩) ?_
 clear hJ2
 rintro⟨k2,out1,ver2⟩ ⟨hk2,hJ2⟩
 dsimp only at hk2 hJ2 ⊢
 refine sq (ar rfl (qn (sq ?_)))
 refine AWP.cond (Aj (fun hc=>?_) (fun hc=>?_))
 rotate_left
 ·obtain rfl:=Bc hJ2 (fun hl=>by have:=Ajo hc;omega)
  have h:=Bb hO2;try dsimp only at h
  have hkl:l.length=k2:=by have:=Ajo hc;omega
  subst hkl
  refine xt (qe (qe (bs (qn (sq ?_)))))
  refine rg rfl fun K j=>?_
  obtain⟨hk,h⟩:=B1 h
  refine Al.Dc Tryz.call68 Tryz.sorts68 rfl (by first | rfl | exact(Cd _).symm | (simp only[List.length_append,List.length_cons,List.length_nil,List.length_set,List.length_replicate]<;>omega)) hk ?_
  refine nS ?_
  refine j _ _ (qn (sq ?_))
  refine rg rfl fun K j=>?_
  obtain⟨hk,h⟩:=B1 h
  refine Al.Ch Tryz.call69 Tryz.compacts69 rfl (by first | rfl | exact(Cd _).symm | (simp only[List.length_append,List.length_cons,List.length_nil,List.length_set,List.length_replicate]<;>omega)) hk ?_
  refine nS ?_
  refine j _ _ (qn (rt ?_))
  cases h;exact en Tryz.results106
 have hlt2:k2<l.length:=by have:=Ajp hc;omega
 obtain⟨x_4,b2,hx2_,h,hJ2⟩:=A1 hJ2 hlt2
 have hx2:=Ay hx2_
 have hw2:=wk (k:=k2) (by omega)
 unfold Iy at h;try dsimp only at h
 refine sk (qn (sq (bk (sq ?_))))
 refine rg rfl fun K j=>?_
 refine Bk.of (f:=A5) (l:=l) hx2 ?_
 refine nS ?_
 refine j _ _ (qn (sq ?_))
 refine rg rfl fun K j=>?_
 obtain⟨y5,hy5,h⟩:=Ah h
 refine Al.pure Tryz.call205 (U7 x_4 levels hy5) rfl fun _ hr=>?_
 subst hr
 refine nS ?_
 refine j _ _ (qn ?_)
 revert h;refine ca rfl (fun hc h=>?_) fun hc h=>?_
 ·refine rg rfl fun K j=>?_
  obtain⟨hk,h⟩:=B1 h
  (repeat refine rp ?_);try simp +decide -implicitDefEqProofs only[go_sem]
  refine j _ _ (bn (qn ?_))
  refine ar rfl (qn ?_)
  obtain rfl:=Aa h
  refine⟨(k2+1,(out1++x_4.Zones),(ver2+1)),⟨by dsimp only;omega,Ae hJ2⟩,by dsimp only;omega,?_,?_⟩
  ·exact cuw hw2
  exact cuw hw2
 refine sk (bn (qn (ar rfl (qn ?_))))
 obtain rfl:=Aa h
 refine⟨(k2+1,out1,ver2),⟨by dsimp only;omega,Ae hJ2⟩,by dsimp only;omega,?_,?_⟩
 ·exact cuw hw2
 exact cuw hw2
theorem Xt (l:List Bf) (levels:List Int) {r:(List Int)} (h:Gf l levels=some r):Ad Tryz.prog 106 [.sl 6 (l.map A5),.sl 1 (levels.map Aw)] (·= .sl 1 (r.map Aw)):=(Wn l levels h).pure
def Si (run:Int) (k0:Nat) (x_2:Ck) (sv:Unit):Option (Out (Unit) (Int)):=
 (bif (decide (x_2.Run=run))then some (Out.ret ((k0:Nat):Int))else some (Out.next ()))
def Le (p:Cb) (run:Int):Option (Int):=
 (Am (Si run) 0 p.Bw ()).bind fun o0=>o0.on fun s0=>some (-1)
theorem U2 (p:Cb) (run:Int) {r:Int} (h:Le p run=some r):Ad Tryz.prog 162 [.agg (Gs p),.int .i64 run] (·= .int .i64 r):=by
 refine Ad.nle (Ad.intro Tryz.func162 rfl rfl (by show _≤9;simp) ?_)
 unfold Le at h
 refine nS (sq ?_)
 refine ar rfl (qn (sq ?_))
 refine rg rfl fun K j=>?_
 refine Al.inline Tryz.call243 Tryz.func243 rfl rfl (by show _≤19;simp) ?_
 refine nS (sq ?_)
 refine ar rfl (qn (sq (sq ?_)))
 refine rg rfl fun K j=>?_
 intro hm
 refine j _ _ (qn (bk ?_));clear j K
 obtain⟨o0,hJ0,hO0⟩:=Ah h
 clear h
 refine AWP.Br (ι:=Nat×(Unit)×(Unit)) (fun zz=>[(0,.sl 4 (p.Bw.map Ax)),(1,.func 244 [.ptr 1 0]),(7,.int .i64 ((p.Bw.length:Nat):Int)),(8,.int .i64 ((zz.1:Nat):Int))]) (fun zz=>[.box [.sl 4 (p.Bw.map Ax),.sl 3 (p.Hazards.map A3)],.box [.int .i64 run]]) (fun zz=>zz.1≤p.Bw.length∧Am (Si run) zz.1 ((p.Bw).drop zz.1) zz.2.1=some o0) (fun zz=>p.Bw.length - zz.1) (0,(),()) ⟨Nat.zero_le _,hJ0⟩ cu cu (fun x=>⟨rfl,rfl,rfl⟩) ?_
 clear hJ0
 rintro⟨k0,⟨⟩,⟨⟩⟩ ⟨hk0,hJ0⟩
 dsimp only at hk0 hJ0 ⊢
 refine sq (ar rfl (qn (sq ?_)))
 refine AWP.cond (Aj (fun hc=>?_) (fun hc=>?_))
 rotate_left
 ·obtain rfl:=Bc hJ0 (fun hl=>by have:=Ajo hc;omega)
  have h:=Bb hO0;try dsimp only at h
  have hkl:p.Bw.length=k0:=by have:=Ajo hc;omega
  subst hkl
  refine xt (qe (qe (bs (qn (sq (ar rfl (qn (rt ?_))))))))
  refine nSc Tryz.results243 ?_
  refine j _ _ (qn (rt ?_))
  cases h;exact en Tryz.results162
 have hlt0:k0<p.Bw.length:=by have:=Ajp hc;omega
 obtain⟨x_2,b0,hx0_,h,hJ0⟩:=A1 hJ0 hlt0
 have hx0:=Ay hx0_
 have hw0:=wk (k:=k0) (by omega)
 unfold Si at h;try dsimp only at h
 refine sk (qn (sq (bk (sq (ar rfl (qn (sq ?_)))))))
 refine rg rfl fun K j=>?_
 refine Bk.of (f:=Ax) (l:=p.Bw) hx0 ?_
 refine nS ?_
 refine Al.inline Tryz.call244 Tryz.func244 rfl rfl (by show _≤8;simp) ?_
 refine nS (sq ?_)
 refine ar rfl (qn (sq ?_))
 refine ar rfl (qn (rt ?_))
 refine nSc Tryz.results244 ?_
 refine j _ _ (qn ?_);clear j K
 revert h;refine ca rfl (fun hc h=>?_) fun hc h=>?_
 ·refine sq (ar rfl (qn (rt (br (qr (qr ?_))))))
  obtain rfl:=Aa h
  obtain rfl:=Af hJ0
  replace h:=An hO0
  refine br (qr (nSc Tryz.results243 ?_))
  refine j _ _ (qn (rt ?_))
  cases h;exact en Tryz.results162
 refine sk (bn (qn (ar rfl (qn ?_))))
 obtain rfl:=Aa h
 refine⟨(k0+1,(),()),⟨by dsimp only;omega,Ae hJ0⟩,by dsimp only;omega,?_,?_⟩
 ·exact cuw hw0
 exact cuw hw0
def Jh (l:Bq) (t:Int) (out1:List Int) (x_4:Int) (k4:Nat) (x_6:Fk) (sv:Unit):Option (Out (Unit) (Out ((List Int)) ((List Int)))):=
 (bif (decide (x_6.Item=x_4))then (bif (decide (x_6.At≤t))then (bif (decide (t<(IntKind.i64.wrap (x_6.At+l.Every))))then ((bif (!(decide (0≤((k4:Nat):Int))))then chk (out1.length+1) (some (Out.next (out1++[x_4])))else some (Out.next out1))).bind fun q6=>some (Out.ret q6)else some (Out.next ()))else some (Out.next ()))else some (Out.next ()))
def Ji (l:Bq) (t:Int) (k2:Nat) (x_4:Int) (sv:(List Int)):Option (Out ((List Int)) ((List Int))):=
 (Am (Jh l t sv x_4) 0 l.Signs ()).bind fun o4=>o4.on fun s4=>chk (sv.length+1) (some (Out.next (sv++[x_4])))
def L8 (l:Bq) (t:Int):Option ((List Int)):=
 (Am (Ji l t) 0 l.Items []).bind fun o2=>o2.on fun s2=>some s2
theorem Z2 (l:Bq) (t:Int) {r:(List Int)} (h:L8 l t=some r):Bh Tryz.prog 264 [.agg (Dj l),.int .i64 t] (·= .sl 1 (r.map Aw)):=by
 refine Bh.nle (Bh.intro Tryz.func264 rfl rfl (by show _≤28;simp) ?_)
 unfold L8 at h
 refine nS (sq ?_)
 refine ar rfl (qn (sq ?_))
 refine ar rfl (qn (sq (sq ?_)))
 refine rg rfl fun K j=>?_
 intro hm
 refine j _ _ (qn (bk ?_))
 refine AWP.ghost 5 1 rfl (by decide) ?_
 obtain⟨o2,hJ2,hO2⟩:=Ah h
 clear h
 refine AWP.Br (ι:=Nat×((List Int))×(Nat)) (fun zz=>[(2,.ptr 0 0),(3,.ptr 1 0),(5,.own 2 zz.2.2 0 zz.2.1.length),(10,.sl 1 (l.Items.map Aw)),(11,.int .i64 ((l.Items.length:Nat):Int)),(12,.int .i64 ((zz.1:Nat):Int))]) (fun zz=>[.box [.sl 1 (l.Items.map Aw),.int .i64 l.Every,.sl 3 (l.Signs.map B8)],.box [.int .i64 t],.row zz.2.2 1 (zz.2.1.map Aw)]) (fun zz=>zz.1≤l.Items.length∧Am (Ji l t) zz.1 ((l.Items).drop zz.1) zz.2.1=some o2) (fun zz=>l.Items.length - zz.1) (0,[],0) ⟨Nat.zero_le _,hJ2⟩ cu cu (fun x=>⟨rfl,rfl,rfl⟩) ?_
 clear hJ2
 rintro⟨k2,out1,ver2⟩ ⟨hk2,hJ2⟩
 dsimp only at hk2 hJ2 ⊢
 refine sq (ar rfl (qn (sq ?_)))
 refine AWP.cond (Aj (fun hc=>?_) (fun hc=>?_))
 rotate_left
 ·obtain rfl:=Bc hJ2 (fun hl=>by have:=Ajo hc;omega)
  have h:=Bb hO2;try dsimp only at h
  have hkl:l.Items.length=k2:=by have:=Ajo hc;omega
  subst hkl
  refine xt (qe (qe (bs (qn (sq (ar rfl (qn (rt ?_))))))))
  cases h;exact en Tryz.results264
 have hlt2:k2<l.Items.length:=by have:=Ajp hc;omega
 obtain⟨x_4,b2,hx2_,h,hJ2⟩:=A1 hJ2 hlt2
 have hx2:=Ay hx2_
 have hw2:=wk (k:=k2) (by omega)
 unfold Ji at h;try dsimp only at h
 refine sk (qn (sq (bk (sq ?_))))
 refine rg rfl fun K j=>?_
 refine Bk.of (f:=Aw) (l:=l.Items) hx2 ?_
 refine nS ?_
 refine j _ _ (qn (sq ?_))
 refine ar rfl (qn (sq ?_))
 refine rg rfl fun K j=>?_
 refine Al.inline Tryz.call280 Tryz.func280 rfl rfl (by show _≤9;simp) ?_
 refine nS (sq ?_)
 refine ar rfl (qn (sq ?_))
 refine rg rfl fun K j=>?_
 refine Al.inline Tryz.call286 Tryz.func286 rfl rfl (by show _≤19;simp) ?_
 refine nS (sq ?_)
 refine ar rfl (qn (sq (sq ?_)))
 refine rg rfl fun K j=>?_
 intro hm
 refine j _ _ (qn (bk ?_));clear j K
 obtain⟨o4,hJ4,hO4⟩:=Ah h
 clear h
 refine AWP.Br (ι:=Nat×(Unit)×(Unit)) (fun zz=>[(0,.sl 3 (l.Signs.map B8)),(1,.func 279 [.ptr 3 0,.ptr 1 0,.ptr 0 0]),(7,.int .i64 ((l.Signs.length:Nat):Int)),(8,.int .i64 ((zz.1:Nat):Int))]) (fun zz=>[.box [.sl 1 (l.Items.map Aw),.int .i64 l.Every,.sl 3 (l.Signs.map B8)],.box [.int .i64 t],.row ver2 1 (out1.map Aw),.box [.int .i64 x_4]]) (fun zz=>zz.1≤l.Signs.length∧Am (Jh l t out1 x_4) zz.1 ((l.Signs).drop zz.1) zz.2.1=some o4) (fun zz=>l.Signs.length - zz.1) (0,(),()) ⟨Nat.zero_le _,hJ4⟩ cu cu (fun x=>⟨rfl,rfl,rfl⟩) ?_
 clear hJ4
 rintro⟨k4,⟨⟩,⟨⟩⟩ ⟨hk4,hJ4⟩
 dsimp only at hk4 hJ4 ⊢
 refine sq (ar rfl (qn (sq ?_)))
 refine AWP.cond (Aj (fun hc=>?_) (fun hc=>?_))
 rotate_left
 ·obtain rfl:=Bc hJ4 (fun hl=>by have:=Ajo hc;omega)
  have h:=Bb hO4;try dsimp only at h
  have hkl:l.Signs.length=k4:=by have:=Ajo hc;omega
  subst hkl
  refine xt (qe (qe (bs (qn (sq (ar rfl (qn (rt ?_))))))))
  refine nSc Tryz.results286 ?_
  refine j _ _ (qn (rt ?_));clear j K
  refine nSc Tryz.results280 ?_
  refine j _ _ (qn ?_)
  refine AWP.cond (Ai ?_)
  refine rg rfl fun K j=>?_
  obtain⟨hk,h⟩:=B1 h
  (repeat refine rp ?_);try simp +decide -implicitDefEqProofs only[go_sem]
  refine j _ _ (bn (qn ?_))
  refine ar rfl (qn ?_)
  obtain rfl:=Aa h
  refine⟨(k2+1,(out1++[x_4]),(ver2+1)),⟨by dsimp only;omega,Ae hJ2⟩,by dsimp only;omega,?_,?_⟩
  ·exact cuw hw2
  exact cuw hw2
 have hlt4:k4<l.Signs.length:=by have:=Ajp hc;omega
 obtain⟨x_6,b4,hx4_,h,hJ4⟩:=A1 hJ4 hlt4
 have hx4:=Ay hx4_
 have hw4:=wk (k:=k4) (by omega)
 unfold Jh at h;try dsimp only at h
 refine sk (qn (sq (bk (sq (ar rfl (qn (sq ?_)))))))
 refine rg rfl fun K j=>?_
 refine Bk.of (f:=B8) (l:=l.Signs) hx4 ?_
 refine nS ?_
 refine Al.inline Tryz.call279 Tryz.func279 rfl rfl (by show _≤25;simp) ?_
 refine nS (sq ?_)
 refine ar rfl (qn (sq ?_))
 refine rg rfl fun K j=>?_
 revert h;refine gt (fun hc h=>?_) fun hc h=>?_
 ·revert h;refine gt (fun hc h=>?_) fun hc h=>?_
  ·refine j _ _ (qn (rt ?_));clear j K
   refine nSc Tryz.results279 ?_
   refine j _ _ (qn ?_);clear j K
   revert h;refine ca rfl (fun hc h=>?_) fun hc h=>?_
   ·refine sq (ar rfl (qn (rt (br (qr (qr ?_))))))
    obtain⟨q6,hq,h⟩:=Ah h
    obtain rfl:=Aa h
    obtain rfl:=Af hJ4
    replace h:=hq.trans (An hO4)
    refine br (qr (nSc Tryz.results286 ?_))
    refine j _ _ (qn (rt ?_));clear j K
    refine nSc Tryz.results280 ?_
    refine j _ _ (qn ?_)
    revert h;refine ca rfl (fun hc h=>?_) fun hc h=>?_
    ·refine rg rfl fun K j=>?_
     obtain⟨hk,h⟩:=B1 h
     (repeat refine rp ?_);try simp +decide -implicitDefEqProofs only[go_sem]
     refine j _ _ (bn (qn ?_))
     refine ar rfl (qn ?_)
     obtain rfl:=Aa h
     refine⟨(k2+1,(out1++[x_4]),(ver2+1)),⟨by dsimp only;omega,Ae hJ2⟩,by dsimp only;omega,?_,?_⟩
     ·exact cuw hw2
     exact cuw hw2
    refine sk (bn (qn (ar rfl (qn ?_))))
    obtain rfl:=Aa h
    refine⟨(k2+1,out1,ver2),⟨by dsimp only;omega,Ae hJ2⟩,by dsimp only;omega,?_,?_⟩
    ·exact cuw hw2
    exact cuw hw2
   refine sk (bn (qn (ar rfl (qn ?_))))
   obtain rfl:=Aa h
   refine⟨(k4+1,(),()),⟨by dsimp only;omega,Ae hJ4⟩,by dsimp only;omega,?_,?_⟩
   ·exact cuw hw4
   exact cuw hw4
  refine j _ _ (qn (rt ?_));clear j K
  refine nSc Tryz.results279 ?_
  refine j _ _ (qn ?_);clear j K
  refine AWP.cond (Bg ?_)
  refine sk (bn (qn (ar rfl (qn ?_))))
  obtain rfl:=Aa h
  refine⟨(k4+1,(),()),⟨by dsimp only;omega,Ae hJ4⟩,by dsimp only;omega,?_,?_⟩
  ·exact cuw hw4
  exact cuw hw4
 refine j _ _ (qn (rt ?_));clear j K
 refine nSc Tryz.results279 ?_
 refine j _ _ (qn ?_);clear j K
 refine AWP.cond (Bg ?_)
 refine sk (bn (qn (ar rfl (qn ?_))))
 obtain rfl:=Aa h
 refine⟨(k4+1,(),()),⟨by dsimp only;omega,Ae hJ4⟩,by dsimp only;omega,?_,?_⟩
 ·exact cuw hw4
 exact cuw hw4
theorem bC (l:Bq) (t:Int) {r:(List Int)} (h:L8 l t=some r):Ad Tryz.prog 264 [.agg (Dj l),.int .i64 t] (·= .sl 1 (r.map Aw)):=(Z2 l t h).pure
def Pc (l:Bq) (t:Int):Option (Bool):=
 (L8 l t).bind fun y1=>some (decide (((y1.length:Nat):Int)=0))
theorem bD (l:Bq) (t:Int) {r:Bool} (h:Pc l t=some r):Ad Tryz.prog 206 [.agg (Dj l),.int .i64 t] (·= .bool r):=by
 refine Ad.nle (Ad.intro Tryz.func206 rfl rfl (by show _≤10;simp) ?_)
 unfold Pc at h
 refine nS (sq ?_)
 refine ar rfl (qn (sq ?_))
 refine rg rfl fun K j=>?_
 obtain⟨y1,hy1,h⟩:=Ah h
 refine Al.pure Tryz.call264 (bC l t hy1) rfl fun _ hr=>?_
 subst hr
 refine nS ?_
 intro hm
 refine j _ _ (qn (rt ?_))
 cases h;exact en Tryz.results206
def Nb (run:Int) (k3:Nat) (x_5:Cv) (sv:Unit):Option (Out (Unit) (Bool)):=
 (bif (decide (x_5.Run=run))then some (Out.ret (!(decide (0≤((k3:Nat):Int)))))else some (Out.next ()))
def L3 (p:Cb) (run:Int) (t:Int):Option (Bool):=
 (Le p run).bind fun y1=>(bif (decide (y1<0))then some false else(Dl p.Bw y1).bind fun x_2=>(Pc x_2.List_ t).bind fun y3=>(bif (!y3)then some false else(Am (Nb run) 0 p.Hazards ()).bind fun o3=>o3.on fun s3=>some true))
theorem aW (p:Cb) (run:Int) (t:Int) {r:Bool} (h:L3 p run t=some r):Ad Tryz.prog 107 [.agg (Gs p),.int .i64 run,.int .i64 t] (·= .bool r):=by
 refine Ad.nle (Ad.intro Tryz.func107 rfl rfl (by show _≤29;simp) ?_)
 unfold L3 at h
 refine nS (sq ?_)
 refine ar rfl (qn (sq ?_))
 refine rg rfl fun K j=>?_
 obtain⟨y1,hy1,h⟩:=Ah h
 refine Al.pure Tryz.call162 (U2 p run hy1) rfl fun _ hr=>?_
 subst hr
 refine nS ?_
 refine j _ _ (qn (sq (sq ?_)))
 refine rg rfl fun K j=>?_
 revert h;refine gf (fun hc h=>?_) fun hc h=>?_
 rotate_left
 ·refine j _ _ (qn ?_)
  refine AWP.cond (Ai ?_)
  refine sq (ar rfl (qn (rt (qr ?_))))
  cases h;exact en Tryz.results107
 obtain⟨x_2,hx_2,h⟩:=Ah h
 refine Bk.of (f:=Ax) (l:=p.Bw) hx_2 ?_
 refine nS ?_
 obtain⟨y3,hy3,h⟩:=Ah h
 refine Al.pure Tryz.call206 (bD x_2.List_ t hy3) rfl fun _ hr=>?_
 subst hr
 refine nS ?_
 refine j _ _ (qn ?_)
 revert h;refine ca rfl (fun hc h=>?_) fun hc h=>?_
 ·refine sq (ar rfl (qn (rt (qr ?_))))
  cases h;exact en Tryz.results107
 refine sk (qn (sq ?_))
 refine rg rfl fun K j=>?_
 refine Al.inline Tryz.call207 Tryz.func207 rfl rfl (by show _≤9;simp) ?_
 refine nS (sq ?_)
 refine ar rfl (qn (sq ?_))
 refine rg rfl fun K j=>?_
 refine Al.inline Tryz.call241 Tryz.func241 rfl rfl (by show _≤19;simp) ?_
 refine nS (sq ?_)
 refine ar rfl (qn (sq (sq ?_)))
 refine rg rfl fun K j=>?_
 intro hm
 refine j _ _ (qn (bk ?_));clear j K
 obtain⟨o3,hJ3,hO3⟩:=Ah h
 clear h
 refine AWP.Br (ι:=Nat×(Unit)×(Unit)) (fun zz=>[(0,.sl 3 (p.Hazards.map A3)),(1,.func 208 [.ptr 1 0]),(7,.int .i64 ((p.Hazards.length:Nat):Int)),(8,.int .i64 ((zz.1:Nat):Int))]) (fun zz=>[.box [.sl 4 (p.Bw.map Ax),.sl 3 (p.Hazards.map A3)],.box [.int .i64 run]]) (fun zz=>zz.1≤p.Hazards.length∧Am (Nb run) zz.1 ((p.Hazards).drop zz.1) zz.2.1=some o3) (fun zz=>p.Hazards.length - zz.1) (0,(),()) ⟨Nat.zero_le _,hJ3⟩ cu cu (fun x=>⟨rfl,rfl,rfl⟩) ?_
 clear hJ3
 rintro⟨k3,⟨⟩,⟨⟩⟩ ⟨hk3,hJ3⟩
 dsimp only at hk3 hJ3 ⊢
 refine sq (ar rfl (qn (sq ?_)))
 refine AWP.cond (Aj (fun hc=>?_) (fun hc=>?_))
 rotate_left
 ·obtain rfl:=Bc hJ3 (fun hl=>by have:=Ajo hc;omega)
  have h:=Bb hO3;try dsimp only at h
  have hkl:p.Hazards.length=k3:=by have:=Ajo hc;omega
  subst hkl
  refine xt (qe (qe (bs (qn (sq (ar rfl (qn (rt ?_))))))))
  refine nSc Tryz.results241 ?_
  refine j _ _ (qn (rt ?_));clear j K
  refine nSc Tryz.results207 ?_
  refine j _ _ (qn (rt ?_))
  cases h;exact en Tryz.results107
 have hlt3:k3<p.Hazards.length:=by have:=Ajp hc;omega
 obtain⟨x_5,b3,hx3_,h,hJ3⟩:=A1 hJ3 hlt3
 have hx3:=Ay hx3_
 have hw3:=wk (k:=k3) (by omega)
 unfold Nb at h;try dsimp only at h
 refine sk (qn (sq (bk (sq (ar rfl (qn (sq ?_)))))))
 refine rg rfl fun K j=>?_
 refine Bk.of (f:=A3) (l:=p.Hazards) hx3 ?_
 refine nS ?_
 refine Al.inline Tryz.call208 Tryz.func208 rfl rfl (by show _≤8;simp) ?_
 refine nS (sq ?_)
 refine ar rfl (qn (sq ?_))
 refine ar rfl (qn (rt ?_))
 refine nSc Tryz.results208 ?_
 refine j _ _ (qn ?_);clear j K
 revert h;refine ca rfl (fun hc h=>?_) fun hc h=>?_
 ·refine sq (ar rfl (qn (rt (br (qr (qr ?_))))))
  obtain rfl:=Aa h
  obtain rfl:=Af hJ3
  replace h:=An hO3
  refine br (qr (nSc Tryz.results241 ?_))
  refine j _ _ (qn (rt ?_));clear j K
  refine nSc Tryz.results207 ?_
  refine j _ _ (qn (rt ?_))
  cases h;exact en Tryz.results107
 refine sk (bn (qn (ar rfl (qn ?_))))
 obtain rfl:=Aa h
 refine⟨(k3+1,(),()),⟨by dsimp only;omega,Ae hJ3⟩,by dsimp only;omega,?_,?_⟩
 ·exact cuw hw3
 exact cuw hw3
def I6 (n_:Int) (least:Int) (most:Int):Option (Bool):=
 (bif (decide (least≤n_))then some (decide (n_≤most))else some false)
theorem Kh (n_:Int) (least:Int) (most:Int) {r:Bool} (h:I6 n_ least most=some r):Ad Tryz.prog 176 [.int .i64 n_,.int .i64 least,.int .i64 most] (·= .bool r):=by
 refine Ad.nle (Ad.intro Tryz.func176 rfl rfl (by show _≤15;simp) ?_)
 unfold I6 at h
 refine nS (sq ?_)
 refine ar rfl (qn (sq ?_))
 refine rg rfl fun K j=>?_
 revert h;refine gt (fun hc h=>?_) fun hc h=>?_
 ·refine j _ _ (qn (rt ?_))
  cases h;exact en Tryz.results176
 refine j _ _ (qn (rt ?_))
 cases h;exact en Tryz.results176
def Ki (p:Fe):Option (Bool):=
 (I6 p.Natural 0 20000).bind fun y1=>(bif y1 then(I6 p.Machine 0 20000).bind fun y2=>(bif y2 then(I6 p.Density 50 900).bind fun y3=>some y3 else some false)else some false)
theorem Rg (p:Fe) {r:Bool} (h:Ki p=some r):Ad Tryz.prog 84 [.agg (Np p)] (·= .bool r):=by
 refine Ad.nle (Ad.intro Tryz.func84 rfl rfl (by show _≤16;simp) ?_)
 unfold Ki at h
 refine nS (sq ?_)
 refine ar rfl (qn (sq ?_))
 refine rg rfl fun K j=>?_
 obtain⟨y1,hy1,h⟩:=Ah h
 refine Al.pure Tryz.call176 (Kh p.Natural 0 20000 hy1) rfl fun _ hr=>?_
 subst hr
 refine nS ?_
 revert h;refine gt (fun hc h=>?_) fun hc h=>?_
 ·obtain⟨y2,hy2,h⟩:=Ah h
  refine Al.pure Tryz.call176 (Kh p.Machine 0 20000 hy2) rfl fun _ hr=>?_
  subst hr
  refine nS ?_
  revert h;refine gt (fun hc h=>?_) fun hc h=>?_
  ·obtain⟨y3,hy3,h⟩:=Ah h
   refine Al.pure Tryz.call176 (Kh p.Density 50 900 hy3) rfl fun _ hr=>?_
   subst hr
   refine nS ?_
   refine j _ _ (qn (rt ?_))
   cases h;exact en Tryz.results84
  refine j _ _ (qn (rt ?_))
  cases h;exact en Tryz.results84
 refine j _ _ (qn (rt ?_))
 cases h;exact en Tryz.results84
def Og (p:Fe):Option (Int):=
 some (IntKind.i64.wrap (p.Natural+p.Machine))
theorem Yy (p:Fe) {r:Int} (h:Og p=some r):Ad Tryz.prog 265 [.agg (Np p)] (·= .int .i64 r):=by
 refine Ad.nle (Ad.intro Tryz.func265 rfl rfl (by show _≤8;simp) ?_)
 unfold Og at h
 refine nS (sq ?_)
 refine ar rfl (qn (sq ?_))
 refine ar rfl (qn (rt ?_))
 cases h;exact en Tryz.results265
def Kj (p:Fe):Option (Int×Int):=
 (Ki p).bind fun y1=>(bif (!y1)then some (0,1)else (Og p).bind fun y2=>nz p.Density (some ((IntKind.i64.wrap (Int.tdiv (IntKind.i64.wrap (y2*1000)) p.Density)),0)))
theorem Yz (p:Fe) {r:Int×Int} (h:Kj p=some r):Ad Tryz.prog 211 [.agg (Np p)] (·= .tuple [.int .i64 r.1,.int .i64 r.2]):=by
 refine Ad.nle (Ad.intro Tryz.func211 rfl rfl (by show _≤13;simp) ?_)
 unfold Kj at h
 refine nS (sq ?_)
 refine ar rfl (qn (sq (sq ?_)))
 refine rg rfl fun K j=>?_
 obtain⟨y1,hy1,h⟩:=Ah h
 refine Al.pure Tryz.call84 (Rg p hy1) rfl fun _ hr=>?_
 subst hr
 refine nS ?_
 refine j _ _ (qn ?_)
 revert h;refine ca rfl (fun hc h=>?_) fun hc h=>?_
 ·refine sq (ar rfl (qn (rt (qr ?_))))
  cases h;exact en Tryz.results211
 refine sk (qn (sq ?_))
 refine AWP.draw Tryz.mixed (by kernel_rfl) ?_;intro K j
 refine nS ?_
 obtain⟨y2,hy2,h⟩:=Ah h
 refine Bz.pure Tryz.call265 (Yy p hy2) rfl ?_
 refine nS ?_
 obtain⟨hk,h⟩:=kS h
 refine⟨hk,?_⟩
 refine j _ _ _ (by kernel_rfl) ?_
 refine qn (rt ?_)
 cases h;exact en Tryz.results211
def Gp (f_:Ak) (run:Int) (k0:Nat) (x_2:C5) (sv:Unit):Option (Out (Unit) (Bool)):=
 (bif (decide (x_2.Run=run))then ((bif (decide (((k0:Nat):Int)<0))then some false else(Kj x_2.Pack).bind fun y3=>(bif (decide (y3.2=0))then some (decide (f_.Depth≤y3.1))else some false))).bind fun q3=>some (Out.ret q3)else some (Out.next ()))
def E8 (f_:Ak) (run:Int):Option (Bool):=
 (Am (Gp f_ run) 0 f_.Packs ()).bind fun o0=>o0.on fun s0=>some false
theorem Vu (f_:Ak) (run:Int) {r:Bool} (h:E8 f_ run=some r):Ad Tryz.prog 108 [.agg (Bv f_),.int .i64 run] (·= .bool r):=by
 refine Ad.nle (Ad.intro Tryz.func108 rfl rfl (by show _≤32;simp) ?_)
 unfold E8 at h
 refine nS (sq ?_)
 refine ar rfl (qn (sq ?_))
 refine rg rfl fun K j=>?_
 refine Al.inline Tryz.call209 Tryz.func209 rfl rfl (by show _≤19;simp) ?_
 refine nS (sq ?_)
 refine ar rfl (qn (sq (sq ?_)))
 refine rg rfl fun K j=>?_
 intro hm
 refine j _ _ (qn (bk ?_));clear j K
 obtain⟨o0,hJ0,hO0⟩:=Ah h
 clear h
 refine AWP.Br (ι:=Nat×(Unit)×(Unit)) (fun zz=>[(0,.sl 5 (f_.Packs.map A4)),(1,.func 210 [.ptr 1 0]),(7,.int .i64 ((f_.Packs.length:Nat):Int)),(8,.int .i64 ((zz.1:Nat):Int))]) (fun zz=>[.box [.sl 2 (f_.Map.Nodes.map A9),.sl 8 (f_.Map.Lifts.map A7),.sl 7 (f_.Map.Runs.map Be),.sl 1 (f_.Map.Bases.map Aw),.sl 2 (f_.Lifts.map Az),.sl 4 (f_.Closures.map Aq),.sl 4 (f_.Patrol.Bw.map Ax),.sl 3 (f_.Patrol.Hazards.map A3),.sl 3 (f_.Surfaces.map Ba),.sl 5 (f_.Packs.map A4),.sl 6 (f_.Slides.map A5),.sl 7 (f_.Bulletin.map Au),.sl 7 (f_.Missions.map Ao),.sl 4 (f_.Winches.map Ap),.sl 8 (f_.Groomers.map A2),.sl 3 (f_.Status.map A6),.int .i64 f_.Depth,.int .i64 f_.Time],.box [.int .i64 run]]) (fun zz=>zz.1≤f_.Packs.length∧Am (Gp f_ run) zz.1 ((f_.Packs).drop zz.1) zz.2.1=some o0) (fun zz=>f_.Packs.length - zz.1) (0,(),()) ⟨Nat.zero_le _,hJ0⟩ cu cu (fun x=>⟨rfl,rfl,rfl⟩) ?_
 clear hJ0
 rintro⟨k0,⟨⟩,⟨⟩⟩ ⟨hk0,hJ0⟩
 dsimp only at hk0 hJ0 ⊢
 refine sq (ar rfl (qn (sq ?_)))
 refine AWP.cond (Aj (fun hc=>?_) (fun hc=>?_))
 rotate_left
 ·obtain rfl:=Bc hJ0 (fun hl=>by have:=Ajo hc;omega)
  have h:=Bb hO0;try dsimp only at h
  have hkl:f_.Packs.length=k0:=by have:=Ajo hc;omega
  subst hkl
  refine xt (qe (qe (bs (qn (sq (ar rfl (qn (rt ?_))))))))
  refine nSc Tryz.results209 ?_
  refine j _ _ (qn (sq (sq ?_)))
  refine ar rfl (qn ?_)
  refine AWP.cond (Ai ?_)
  refine sq (ar rfl (qn (rt (qr ?_))))
  cases h;exact en Tryz.results108
 have hlt0:k0<f_.Packs.length:=by have:=Ajp hc;omega
 obtain⟨x_2,b0,hx0_,h,hJ0⟩:=A1 hJ0 hlt0
 have hx0:=Ay hx0_
 have hw0:=wk (k:=k0) (by omega)
 unfold Gp at h;try dsimp only at h
 refine sk (qn (sq (bk (sq (ar rfl (qn (sq ?_)))))))
 refine rg rfl fun K j=>?_
 refine Bk.of (f:=A4) (l:=f_.Packs) hx0 ?_
 refine nS ?_
 refine Al.inline Tryz.call210 Tryz.func210 rfl rfl (by show _≤8;simp) ?_
 refine nS (sq ?_)
 refine ar rfl (qn (sq ?_))
 refine ar rfl (qn (rt ?_))
 refine nSc Tryz.results210 ?_
 refine j _ _ (qn ?_);clear j K
 revert h;refine ca rfl (fun hc h=>?_) fun hc h=>?_
 ·refine sq (ar rfl (qn (rt (br (qr (qr ?_))))))
  obtain⟨q3,hq,h⟩:=Ah h
  obtain rfl:=Aa h
  obtain rfl:=Af hJ0
  replace h:=hq.trans (An hO0)
  refine br (qr (nSc Tryz.results209 ?_))
  refine j _ _ (qn (sq (sq ?_)))
  refine ar rfl (qn ?_)
  revert h;refine ca rfl (fun hc h=>?_) fun hc h=>?_
  ·refine sq (ar rfl (qn (rt (qr ?_))))
   cases h;exact en Tryz.results108
  refine sk (qn (sq ?_))
  refine rg rfl fun K j=>?_
  refine Bk.of (f:=A4) (l:=f_.Packs) hx0 ?_
  refine nS ?_
  obtain⟨y3,hy3,h⟩:=Ah h
  refine Al.pure Tryz.call211 (Yz x_2.Pack hy3) rfl fun _ hr=>?_
  subst hr
  refine nS ?_
  refine j _ _ (qn (sq ?_))
  refine rg rfl fun K j=>?_
  revert h;refine gt (fun hc h=>?_) fun hc h=>?_
  ·refine j _ _ (qn (rt ?_))
   cases h;exact en Tryz.results108
  refine j _ _ (qn (rt ?_))
  cases h;exact en Tryz.results108
 refine sk (bn (qn (ar rfl (qn ?_))))
 obtain rfl:=Aa h
 refine⟨(k0+1,(),()),⟨by dsimp only;omega,Ae hJ0⟩,by dsimp only;omega,?_,?_⟩
 ·exact cuw hw0
 exact cuw hw0
def Eo (f_:Ak) (run:Int) (y1:Cf×Bool) (t24_3:Bool):Option (Int):=
 (bif t24_3 then some 15 else(D8 f_).bind fun y5=>(Gf f_.Slides y5).bind fun y6=>(Bt y6 y1.1.Zone).bind fun y7=>(bif y7 then some 10 else(L3 f_.Patrol run f_.Time).bind fun y8=>(bif (!y8)then some 14 else(E8 f_ run).bind fun y9=>(bif (!y9)then some 5 else some 0))))
def Cz (f_:Ak) (run:Int):Option (Int):=
 (Ex f_.Map run).bind fun y1=>(bif (!y1.2)then some 8 else(Q1 f_.Map f_.Closures run).bind fun y2=>(bif y2 then some 13 else(Sn f_.Groomers run).bind fun y10=>(bif y10 then Eo f_ run y1 y10 else(Qi f_.Winches f_.Time).bind fun y11=>(Bt y11 run).bind fun y12=>(bif y12 then Eo f_ run y1 y12 else(Gr f_ y1.1.Zone).bind fun y13=>Eo f_ run y1 y13))))
theorem J0 (f_:Ak) (run:Int) {r:Int} (h:Cz f_ run=some r):Ad Tryz.prog 48 [.agg (Bv f_),.int .i64 run] (·= .int .i64 r):=by
 refine Ad.nle (Ad.intro Tryz.func48 rfl rfl (by show _≤62;simp) ?_)
 unfold Cz at h
 refine nS (sq ?_)
 refine ar rfl (qn (sq ?_))
 refine rg rfl fun K j=>?_
 obtain⟨y1,hy1,h⟩:=Ah h
 refine Al.pure Tryz.call53 (D3 f_.Map run hy1) rfl fun _ hr=>?_
 subst hr
 refine nS ?_
 refine j _ _ (qn (sq (bk (sq ?_))))
 refine ar rfl (qn ?_)
 revert h;refine ca rfl (fun hc h=>?_) fun hc h=>?_
 ·refine sq (ar rfl (qn (rt (br (qr ?_)))))
  cases h;exact en Tryz.results48
 refine sq ?_
 refine rg rfl fun K j=>?_
 obtain⟨y2,hy2,h⟩:=Ah h
 refine Al.pure Tryz.call102 (eB f_.Map f_.Closures run hy2) rfl fun _ hr=>?_
 subst hr
 refine nS ?_
 refine j _ _ (qn ?_)
 revert h;refine ca rfl (fun hc h=>?_) fun hc h=>?_
 ·refine sq (ar rfl (qn (rt (br (qr ?_)))))
  cases h;exact en Tryz.results48
 refine AWP.It (ι:=(Bool)×(Unit)) (fun zz=>[(1,.int .i64 run),(2,.ptr 0 0),(5,.ptr 1 0),(24,.bool zz.1)]) (fun zz=>[.box [.sl 2 (f_.Map.Nodes.map A9),.sl 8 (f_.Map.Lifts.map A7),.sl 7 (f_.Map.Runs.map Be),.sl 1 (f_.Map.Bases.map Aw),.sl 2 (f_.Lifts.map Az),.sl 4 (f_.Closures.map Aq),.sl 4 (f_.Patrol.Bw.map Ax),.sl 3 (f_.Patrol.Hazards.map A3),.sl 3 (f_.Surfaces.map Ba),.sl 5 (f_.Packs.map A4),.sl 6 (f_.Slides.map A5),.sl 7 (f_.Bulletin.map Au),.sl 7 (f_.Missions.map Ao),.sl 4 (f_.Winches.map Ap),.sl 8 (f_.Groomers.map A2),.sl 3 (f_.Status.map A6),.int .i64 f_.Depth,.int .i64 f_.Time],.box [.int .i64 y1.1.ID,.int .i64 y1.1.Operator,.int .i64 y1.1.From,.int .i64 y1.1.To,.int .i64 y1.1.Grade,.int .i64 y1.1.Zone,.int .i64 y1.1.Length]]) (fun zz=>Eo f_ run y1 zz.1=some r) (fun zz=>⟨rfl,rfl,rfl⟩) ?_ ?_
 ·refine sq ?_
  refine rg rfl fun K j=>?_
  obtain⟨y10,hy10,h⟩:=Ah h
  refine Al.pure Tryz.call103 (fZ f_.Groomers run hy10) rfl fun _ hr=>?_
  subst hr
  refine nS ?_
  refine j _ _ (qn ?_)
  revert h;refine ca rfl (fun hc h=>?_) fun hc h=>?_
  ·refine sk (qn ?_)
   exact⟨(y10,()),h,cu,cu⟩
  refine sq ?_
  refine rg rfl fun K j=>?_
  obtain⟨y11,hy11,h⟩:=Ah h
  refine Al.pure Tryz.call104 (cC f_.Winches f_.Time hy11) rfl fun _ hr=>?_
  subst hr
  refine nS ?_
  obtain⟨y12,hy12,h⟩:=Ah h
  refine Al.pure Tryz.call54 (Bx y11 run hy12) rfl fun _ hr=>?_
  subst hr
  refine nS ?_
  refine j _ _ (qn ?_)
  revert h;refine ca rfl (fun hc h=>?_) fun hc h=>?_
  ·refine sk (qn ?_)
   exact⟨(y12,()),h,cu,cu⟩
  refine rg rfl fun K j=>?_
  obtain⟨y13,hy13,h⟩:=Ah h
  refine Al.pure Tryz.call105 (Vv f_ y1.1.Zone hy13) rfl fun _ hr=>?_
  subst hr
  refine nS ?_
  refine j _ _ (qn ?_)
  exact⟨(y13,()),h,cu,cu⟩
 rintro⟨t24_3,⟨⟩⟩ h
 try dsimp only at h ⊢
 unfold Eo at h;try dsimp only at h
 revert h;refine ca rfl (fun hc h=>?_) fun hc h=>?_
 ·refine sq (ar rfl (qn (rt (br (qr ?_)))))
  cases h;exact en Tryz.results48
 refine sq ?_
 refine AWP.draw Tryz.mixed (by kernel_rfl) ?_;intro K j
 refine nS ?_
 obtain⟨y5,hy5,h⟩:=Ah h
 refine Bz.pure Tryz.call16 (Pm f_ hy5) rfl ?_
 refine nS ?_
 obtain⟨y6,hy6,h⟩:=Ah h
 refine Bz.pure Tryz.call106 (Xt f_.Slides y5 hy6) rfl ?_
 refine nS ?_
 obtain⟨y7,hy7,h⟩:=Ah h
 refine Bz.pure Tryz.call54 (Bx y6 y1.1.Zone hy7) rfl ?_
 refine nS ?_
 refine j _ _ _ (by kernel_rfl) ?_
 refine qn ?_
 revert h;refine ca rfl (fun hc h=>?_) fun hc h=>?_
 ·refine sq (ar rfl (qn (rt (br (qr ?_)))))
  cases h;exact en Tryz.results48
 refine sq ?_
 refine rg rfl fun K j=>?_
 obtain⟨y8,hy8,h⟩:=Ah h
 refine Al.pure Tryz.call107 (aW f_.Patrol run f_.Time hy8) rfl fun _ hr=>?_
 subst hr
 refine nS ?_
 refine j _ _ (qn ?_)
 revert h;refine ca rfl (fun hc h=>?_) fun hc h=>?_
 ·refine sq (ar rfl (qn (rt (br (qr ?_)))))
  cases h;exact en Tryz.results48
 refine sq ?_
 refine rg rfl fun K j=>?_
 obtain⟨y9,hy9,h⟩:=Ah h
 refine Al.pure Tryz.call108 (Vu f_ run hy9) rfl fun _ hr=>?_
 subst hr
 refine nS ?_
 refine j _ _ (qn ?_)
 revert h;refine ca rfl (fun hc h=>?_) fun hc h=>?_
 ·refine sq (ar rfl (qn (rt (br (qr ?_)))))
  cases h;exact en Tryz.results48
 refine sk (bn (qn (sq (ar rfl (qn (rt ?_))))))
 cases h;exact en Tryz.results48
def G8 (k2:Nat) (x_4:Cr) (sv:(List Int)):Option (Out ((List Int)) ((List Int))):=
 (bif (decide (x_4.Mode=1))then chk (sv.length+1) (some (Out.next (sv++[x_4.Lift])))else some (Out.next sv))
def Fu (f_:Ak):Option ((List Int)):=
 (Am G8 0 f_.Lifts []).bind fun o2=>o2.on fun s2=>some s2
theorem Vt (f_:Ak) {r:(List Int)} (h:Fu f_=some r):Bh Tryz.prog 110 [.agg (Bv f_)] (·= .sl 1 (r.map Aw)):=by
 refine Bh.nle (Bh.intro Tryz.func110 rfl rfl (by show _≤23;simp) ?_)
 unfold Fu at h
 refine nS (sq ?_)
 refine ar rfl (qn (sq ?_))
 refine ar rfl (qn (sq (sq ?_)))
 refine rg rfl fun K j=>?_
 intro hm
 refine j _ _ (qn (bk ?_))
 refine AWP.ghost 3 1 rfl (by decide) ?_
 obtain⟨o2,hJ2,hO2⟩:=Ah h
 clear h
 refine AWP.Br (ι:=Nat×((List Int))×(Nat)) (fun zz=>[(3,.own 1 zz.2.2 0 zz.2.1.length),(7,.sl 2 (f_.Lifts.map Az)),(8,.int .i64 ((f_.Lifts.length:Nat):Int)),(9,.int .i64 ((zz.1:Nat):Int))]) (fun zz=>[.gone,.row zz.2.2 1 (zz.2.1.map Aw)]) (fun zz=>zz.1≤f_.Lifts.length∧Am G8 zz.1 ((f_.Lifts).drop zz.1) zz.2.1=some o2) (fun zz=>f_.Lifts.length - zz.1) (0,[],0) ⟨Nat.zero_le _,hJ2⟩ cu cu (fun x=>⟨rfl,rfl,rfl⟩) ?_
 clear hJ2
 rintro⟨k2,out1,ver2⟩ ⟨hk2,hJ2⟩
 dsimp only at hk2 hJ2 ⊢
 refine sq (ar rfl (qn (sq ?_)))
 refine AWP.cond (Aj (fun hc=>?_) (fun hc=>?_))
 rotate_left
 ·obtain rfl:=Bc hJ2 (fun hl=>by have:=Ajo hc;omega)
  have h:=Bb hO2;try dsimp only at h
  have hkl:f_.Lifts.length=k2:=by have:=Ajo hc;omega
  subst hkl
  refine xt (qe (qe (bs (qn (sq (ar rfl (qn (rt ?_))))))))
  cases h;exact en Tryz.results110
 have hlt2:k2<f_.Lifts.length:=by have:=Ajp hc;omega
 obtain⟨x_4,b2,hx2_,h,hJ2⟩:=A1 hJ2 hlt2
 have hx2:=Ay hx2_
 have hw2:=wk (k:=k2) (by omega)
 unfold G8 at h;try dsimp only at h
 refine sk (qn (sq (bk (sq ?_))))
 refine rg rfl fun K j=>?_
 refine Bk.of (f:=Az) (l:=f_.Lifts) hx2 ?_
 refine nS ?_
 refine j _ _ (qn (sq ?_))
 refine ar rfl (qn ?_)
 revert h;refine ca rfl (fun hc h=>?_) fun hc h=>?_
 ·refine rg rfl fun K j=>?_
  obtain⟨hk,h⟩:=B1 h
  (repeat refine rp ?_);try simp +decide -implicitDefEqProofs only[go_sem]
  refine j _ _ (bn (qn ?_))
  refine ar rfl (qn ?_)
  obtain rfl:=Aa h
  refine⟨(k2+1,(out1++[x_4.Lift]),(ver2+1)),⟨by dsimp only;omega,Ae hJ2⟩,by dsimp only;omega,?_,?_⟩
  ·exact cuw hw2
  exact cuw hw2
 refine sk (bn (qn (ar rfl (qn ?_))))
 obtain rfl:=Aa h
 refine⟨(k2+1,out1,ver2),⟨by dsimp only;omega,Ae hJ2⟩,by dsimp only;omega,?_,?_⟩
 ·exact cuw hw2
 exact cuw hw2
theorem Wi (f_:Ak) {r:(List Int)} (h:Fu f_=some r):Ad Tryz.prog 110 [.agg (Bv f_)] (·= .sl 1 (r.map Aw)):=(Vt f_ h).pure
def P8 (lifts:List Int) (k2:Nat) (x_4:Ce) (sv:(List Ar)):Option (Out ((List Ar)) ((List Ar))):=
 (Bt lifts x_4.ID).bind fun y5=>(bif y5 then chk (sv.length+1) (some (Out.next (sv++[(Ar.mk x_4.ID x_4.From x_4.To x_4.Length)])))else some (Out.next sv))
def Pp (m:Bd) (lifts:List Int):Option ((List Ar)):=
 (Am (P8 lifts) 0 m.Lifts []).bind fun o2=>o2.on fun s2=>some s2
theorem cF (m:Bd) (lifts:List Int) {r:(List Ar)} (h:Pp m lifts=some r):Bh Tryz.prog 267 [.agg (Ca m),.sl 1 (lifts.map Aw)] (·= .sl 4 (r.map Bj)):=by
 refine Bh.nle (Bh.intro Tryz.func267 rfl rfl (by show _≤33;simp) ?_)
 unfold Pp at h
 refine nS (sq ?_)
 refine ar rfl (qn (sq ?_))
 refine ar rfl (qn (sq (sq ?_)))
 refine rg rfl fun K j=>?_
 intro hm
 refine j _ _ (qn (bk ?_))
 refine AWP.ghost 5 4 rfl (by decide) ?_
 obtain⟨o2,hJ2,hO2⟩:=Ah h
 clear h
 refine AWP.Br (ι:=Nat×((List Ar))×(Nat)) (fun zz=>[(1,.sl 1 (lifts.map Aw)),(5,.own 1 zz.2.2 0 zz.2.1.length),(9,.sl 8 (m.Lifts.map A7)),(10,.int .i64 ((m.Lifts.length:Nat):Int)),(11,.int .i64 ((zz.1:Nat):Int))]) (fun zz=>[.gone,.row zz.2.2 4 (zz.2.1.map Bj)]) (fun zz=>zz.1≤m.Lifts.length∧Am (P8 lifts) zz.1 ((m.Lifts).drop zz.1) zz.2.1=some o2) (fun zz=>m.Lifts.length - zz.1) (0,[],0) ⟨Nat.zero_le _,hJ2⟩ cu cu (fun x=>⟨rfl,rfl,rfl⟩) ?_
 clear hJ2
 rintro⟨k2,out1,ver2⟩ ⟨hk2,hJ2⟩
 dsimp only at hk2 hJ2 ⊢
 refine sq (ar rfl (qn (sq ?_)))
 refine AWP.cond (Aj (fun hc=>?_) (fun hc=>?_))
 rotate_left
 ·obtain rfl:=Bc hJ2 (fun hl=>by have:=Ajo hc;omega)
  have h:=Bb hO2;try dsimp only at h
  have hkl:m.Lifts.length=k2:=by have:=Ajo hc;omega
  subst hkl
  refine xt (qe (qe (bs (qn (sq (ar rfl (qn (rt ?_))))))))
  cases h;exact en Tryz.results267
 have hlt2:k2<m.Lifts.length:=by have:=Ajp hc;omega
 obtain⟨x_4,b2,hx2_,h,hJ2⟩:=A1 hJ2 hlt2
 have hx2:=Ay hx2_
 have hw2:=wk (k:=k2) (by omega)
 unfold P8 at h;try dsimp only at h
 refine sk (qn (sq (bk (sq ?_))))
 refine rg rfl fun K j=>?_
 refine Bk.of (f:=A7) (l:=m.Lifts) hx2 ?_
 refine nS ?_
 refine j _ _ (qn (sq ?_))
 refine rg rfl fun K j=>?_
 obtain⟨y5,hy5,h⟩:=Ah h
 refine Al.pure Tryz.call54 (Bx lifts x_4.ID hy5) rfl fun _ hr=>?_
 subst hr
 refine nS ?_
 refine j _ _ (qn ?_)
 revert h;refine ca rfl (fun hc h=>?_) fun hc h=>?_
 ·refine rg rfl fun K j=>?_
  obtain⟨hk,h⟩:=B1 h
  (repeat refine rp ?_);try simp +decide -implicitDefEqProofs only[go_sem]
  refine j _ _ (bn (qn ?_))
  refine ar rfl (qn ?_)
  obtain rfl:=Aa h
  refine⟨(k2+1,(out1++[(Ar.mk x_4.ID x_4.From x_4.To x_4.Length)]),(ver2+1)),⟨by dsimp only;omega,Ae hJ2⟩,by dsimp only;omega,?_,?_⟩
  ·exact cuw hw2
  exact cuw hw2
 refine sk (bn (qn (ar rfl (qn ?_))))
 obtain rfl:=Aa h
 refine⟨(k2+1,out1,ver2),⟨by dsimp only;omega,Ae hJ2⟩,by dsimp only;omega,?_,?_⟩
 ·exact cuw hw2
 exact cuw hw2
theorem fL (m:Bd) (lifts:List Int) {r:(List Ar)} (h:Pp m lifts=some r):Ad Tryz.prog 267 [.agg (Ca m),.sl 1 (lifts.map Aw)] (·= .sl 4 (r.map Bj)):=(cF m lifts h).pure
def M4 (runs:List Int) (k2:Nat) (x_4:Cf) (sv:(List Ar)):Option (Out ((List Ar)) ((List Ar))):=
 (Bt runs x_4.ID).bind fun y5=>(bif y5 then chk (sv.length+1) (some (Out.next (sv++[(Ar.mk x_4.ID x_4.From x_4.To x_4.Length)])))else some (Out.next sv))
def Il (m:Bd) (runs:List Int):Option ((List Ar)):=
 (Am (M4 runs) 0 m.Runs []).bind fun o2=>o2.on fun s2=>some s2
theorem Zk (m:Bd) (runs:List Int) {r:(List Ar)} (h:Il m runs=some r):Bh Tryz.prog 215 [.agg (Ca m),.sl 1 (runs.map Aw)] (·= .sl 4 (r.map Bj)):=by
 refine Bh.nle (Bh.intro Tryz.func215 rfl rfl (by show _≤33;simp) ?_)
 unfold Il at h
 refine nS (sq ?_)
 refine ar rfl (qn (sq ?_))
 refine ar rfl (qn (sq (sq ?_)))
 refine rg rfl fun K j=>?_
 intro hm
 refine j _ _ (qn (bk ?_))
 refine AWP.ghost 5 4 rfl (by decide) ?_
 obtain⟨o2,hJ2,hO2⟩:=Ah h
 clear h
 refine AWP.Br (ι:=Nat×((List Ar))×(Nat)) (fun zz=>[(1,.sl 1 (runs.map Aw)),(5,.own 1 zz.2.2 0 zz.2.1.length),(9,.sl 7 (m.Runs.map Be)),(10,.int .i64 ((m.Runs.length:Nat):Int)),(11,.int .i64 ((zz.1:Nat):Int))]) (fun zz=>[.gone,.row zz.2.2 4 (zz.2.1.map Bj)]) (fun zz=>zz.1≤m.Runs.length∧Am (M4 runs) zz.1 ((m.Runs).drop zz.1) zz.2.1=some o2) (fun zz=>m.Runs.length - zz.1) (0,[],0) ⟨Nat.zero_le _,hJ2⟩ cu cu (fun x=>⟨rfl,rfl,rfl⟩) ?_
 clear hJ2
 rintro⟨k2,out1,ver2⟩ ⟨hk2,hJ2⟩
 dsimp only at hk2 hJ2 ⊢
 refine sq (ar rfl (qn (sq ?_)))
 refine AWP.cond (Aj (fun hc=>?_) (fun hc=>?_))
 rotate_left
 ·obtain rfl:=Bc hJ2 (fun hl=>by have:=Ajo hc;omega)
  have h:=Bb hO2;try dsimp only at h
  have hkl:m.Runs.length=k2:=by have:=Ajo hc;omega
  subst hkl
  refine xt (qe (qe (bs (qn (sq (ar rfl (qn (rt ?_))))))))
  cases h;exact en Tryz.results215
 have hlt2:k2<m.Runs.length:=by have:=Ajp hc;omega
 obtain⟨x_4,b2,hx2_,h,hJ2⟩:=A1 hJ2 hlt2
 have hx2:=Ay hx2_
 have hw2:=wk (k:=k2) (by omega)
 unfold M4 at h;try dsimp only at h
 refine sk (qn (sq (bk (sq ?_))))
 refine rg rfl fun K j=>?_
 refine Bk.of (f:=Be) (l:=m.Runs) hx2 ?_
 refine nS ?_
 refine j _ _ (qn (sq ?_))
 refine rg rfl fun K j=>?_
 obtain⟨y5,hy5,h⟩:=Ah h
 refine Al.pure Tryz.call54 (Bx runs x_4.ID hy5) rfl fun _ hr=>?_
 subst hr
 refine nS ?_
 refine j _ _ (qn ?_)
 revert h;refine ca rfl (fun hc h=>?_) fun hc h=>?_
 ·refine rg rfl fun K j=>?_
  obtain⟨hk,h⟩:=B1 h
  (repeat refine rp ?_);try simp +decide -implicitDefEqProofs only[go_sem]
  refine j _ _ (bn (qn ?_))
  refine ar rfl (qn ?_)
  obtain rfl:=Aa h
  refine⟨(k2+1,(out1++[(Ar.mk x_4.ID x_4.From x_4.To x_4.Length)]),(ver2+1)),⟨by dsimp only;omega,Ae hJ2⟩,by dsimp only;omega,?_,?_⟩
  ·exact cuw hw2
  exact cuw hw2
 refine sk (bn (qn (ar rfl (qn ?_))))
 obtain rfl:=Aa h
 refine⟨(k2+1,out1,ver2),⟨by dsimp only;omega,Ae hJ2⟩,by dsimp only;omega,?_,?_⟩
 ·exact cuw hw2
 exact cuw hw2
theorem S5 (m:Bd) (runs:List Int) {r:(List Ar)} (h:Il m runs=some r):Ad Tryz.prog 215 [.agg (Ca m),.sl 1 (runs.map Aw)] (·= .sl 4 (r.map Bj)):=(Zk m runs h).pure
def Ln (k6:Nat) (x_8:Ar) (sv:(List Ar)):Option (Out ((List Ar)) (Out ((List Ar)) ((List Ar)))):=
 chk (sv.length+1) (some (Out.next (sv++[(Ar.mk ((sv.length:Nat):Int) x_8.From x_8.To x_8.Cost)])))
def Ob (k2:Nat) (x_4:List Ar) (sv:(List Ar)):Option (Out ((List Ar)) ((List Ar))):=
 (Am Ln 0 x_4 sv).bind fun o6=>o6.on fun s6=>some (Out.next s6)
def Nr (lists:List (List Ar)):Option ((List Ar)):=
 (Am Ob 0 lists []).bind fun o2=>o2.on fun s2=>some s2
theorem Wb (lists:List (List Ar)) {r:(List Ar)} (h:Nr lists=some r):Bh Tryz.prog 214 [.sl 1 (lists.map Kk)] (·= .sl 4 (r.map Bj)):=by
 refine Bh.nle (Bh.intro Tryz.func214 rfl rfl (by show _≤30;simp) ?_)
 unfold Nr at h
 refine nS (sq ?_)
 refine ar rfl (qn (sq ?_))
 refine ar rfl (qn (sq (sq ?_)))
 refine rg rfl fun K j=>?_
 intro hm
 refine j _ _ (qn (bk ?_))
 refine AWP.ghost 3 4 rfl (by decide) ?_
 obtain⟨o2,hJ2,hO2⟩:=Ah h
 clear h
 refine AWP.Br (ι:=Nat×((List Ar))×(Nat)) (fun zz=>[(3,.own 0 zz.2.2 0 zz.2.1.length),(8,.sl 1 (lists.map Kk)),(9,.int .i64 ((lists.length:Nat):Int)),(10,.int .i64 ((zz.1:Nat):Int))]) (fun zz=>[.row zz.2.2 4 (zz.2.1.map Bj)]) (fun zz=>zz.1≤lists.length∧Am Ob zz.1 ((lists).drop zz.1) zz.2.1=some o2) (fun zz=>lists.length - zz.1) (0,[],0) ⟨Nat.zero_le _,hJ2⟩ cu cu (fun x=>⟨rfl,rfl,rfl⟩) ?_
 clear hJ2
 rintro⟨k2,out1,ver2⟩ ⟨hk2,hJ2⟩
 dsimp only at hk2 hJ2 ⊢
 refine sq (ar rfl (qn (sq ?_)))
 refine AWP.cond (Aj (fun hc=>?_) (fun hc=>?_))
 rotate_left
 ·obtain rfl:=Bc hJ2 (fun hl=>by have:=Ajo hc;omega)
  have h:=Bb hO2;try dsimp only at h
  have hkl:lists.length=k2:=by have:=Ajo hc;omega
  subst hkl
  refine xt (qe (qe (bs (qn (sq (ar rfl (qn (rt ?_))))))))
  cases h;exact en Tryz.results214
 have hlt2:k2<lists.length:=by have:=Ajp hc;omega
 obtain⟨x_4,b2,hx2_,h,hJ2⟩:=A1 hJ2 hlt2
 have hx2:=Ay hx2_
 have hw2:=wk (k:=k2) (by omega)
 unfold Ob at h;try dsimp only at h
 refine sk (qn (sq (bk (sq ?_))))
 refine rg rfl fun K j=>?_
 refine Bk.of (f:=Kk) (l:=lists) hx2 ?_
 refine nS ?_
 refine j _ _ (qn (sq ?_))
 refine rg rfl fun K j=>?_
 intro hm
 refine j _ _ (qn (bk ?_))
 obtain⟨o6,hJ6,hO6⟩:=Ah h
 clear h
 refine AWP.Br (ι:=Nat×((List Ar))×(Nat)) (fun zz=>[(3,.own 0 zz.2.2 0 zz.2.1.length),(8,.sl 1 (lists.map Kk)),(9,.int .i64 ((lists.length:Nat):Int)),(10,.int .i64 ((k2:Nat):Int)),(14,.sl 4 (x_4.map Bj)),(15,.int .i64 ((x_4.length:Nat):Int)),(16,.int .i64 ((zz.1:Nat):Int))]) (fun zz=>[.row zz.2.2 4 (zz.2.1.map Bj)]) (fun zz=>zz.1≤x_4.length∧Am Ln zz.1 ((x_4).drop zz.1) zz.2.1=some o6) (fun zz=>x_4.length - zz.1) (0,out1,ver2) ⟨Nat.zero_le _,hJ6⟩ cu cu (fun x=>⟨rfl,rfl,rfl⟩) ?_
 clear hJ6
 rintro⟨k6,out5,ver6⟩ ⟨hk6,hJ6⟩
 dsimp only at hk6 hJ6 ⊢
 refine sq (ar rfl (qn (sq ?_)))
 refine AWP.cond (Aj (fun hc=>?_) (fun hc=>?_))
 ·have hlt6:k6<x_4.length:=by have:=Ajp hc;omega
  obtain⟨x_8,b6,hx6_,h,hJ6⟩:=A1 hJ6 hlt6
  have hx6:=Ay hx6_
  have hw6:=wk (k:=k6) (by omega)
  unfold Ln at h;try dsimp only at h
  refine sk (qn (sq (bk (sq ?_))))
  refine rg rfl fun K j=>?_
  refine Bk.of (f:=Bj) (l:=x_4) hx6 ?_
  refine nS ?_
  refine j _ _ (qn (sq ?_))
  refine rg rfl fun K j=>?_
  intro hm
  refine j _ _ (qn ?_)
  refine rg rfl fun K j=>?_
  obtain⟨hk,h⟩:=B1 h
  (repeat refine rp ?_);try simp +decide -implicitDefEqProofs only[go_sem]
  refine j _ _ (bn (qn ?_))
  refine ar rfl (qn ?_)
  obtain rfl:=Aa h
  refine⟨(k6+1,(out5++[(Ar.mk ((out5.length:Nat):Int) x_8.From x_8.To x_8.Cost)]),(ver6+1)),⟨by dsimp only;omega,Ae hJ6⟩,by dsimp only;omega,?_,?_⟩
  ·exact cuw hw6
  exact cuw hw6
 obtain rfl:=Bc hJ6 (fun hl=>by have:=Ajo hc;omega)
 have h:=Bb hO6;try dsimp only at h
 have hkl:x_4.length=k6:=by have:=Ajo hc;omega
 subst hkl
 refine xt (qe (qe (bs (bn (qn (ar rfl (qn ?_)))))))
 obtain rfl:=Aa h
 refine⟨(k2+1,out5,ver6),⟨by dsimp only;omega,Ae hJ2⟩,by dsimp only;omega,?_,?_⟩
 ·exact cuw hw2
 exact cuw hw2
def B9 (s_:List Int):Option (List Int):=chk s_.length (some s_)
theorem Ev (s_:List Int) {r:List Int} (h:B9 s_=some r):Db Tryz.prog 67 [.sl 1 (s_.map Aw)] 1 (r.map Aw):=by
 have hk:=(B1 h).1
 have hr:r=s_:=Aa (B1 h).2
 rw[hr];clear hr h
 refine Db.of ?_
 refine Ci.weak (R:=fun q H=>∃ v rest,q= .own 0 v 0 (s_.map Aw).length∧H= .row v 1 (s_.map Aw)::rest) (Ci.intro Tryz.func67 rfl rfl (by show _≤8;simp) ?_) (fun q H hq=>?_)
 ·refine nS (sq ?_)
  refine ar rfl (qn (sq (sq ?_)))
  refine rg rfl fun K j=>?_
  intro bnil hb
  refine nS ?_
  refine j _ _ (qn ?_)
  refine AWP.cond (Aj (fun hc=>?_) (fun hc=>?_))
  ·have hx0:s_=[]:=Classical.byContradiction fun hne=>by have:=hb (by simpa using hne);simp[this]at hc
   subst hx0
   refine sq (ar rfl (qn ?_))
   refine AWP.ghost 2 1 rfl (by decide) ?_
   refine nS (rt (qr ?_))
   refine nSc Tryz.results67 ?_
   refine⟨_,_,?_,rfl⟩
   (try simp +decide -implicitDefEqProofs only[go_sem,List.length_map,List.length_append,List.length_cons,List.length_nil,List.length_set,List.length_replicate]);try rfl
  clear hc
  refine sk (qn (sq ?_))
  refine rg rfl fun K j=>?_
  (repeat refine rp ?_);try simp +decide -implicitDefEqProofs only[go_sem]
  refine j _ _ (qn (rt ?_))
  refine nSc Tryz.results67 ?_
  refine⟨_,_,?_,rfl⟩
  (try simp +decide -implicitDefEqProofs only[go_sem,List.length_map,List.length_append,List.length_cons,List.length_nil,List.length_set,List.length_replicate]);try rfl
 obtain⟨v,rest,rfl,rfl⟩:=hq
 exact⟨[.row v 1 (s_.map Aw)],⟨⟨rfl,rfl,rfl⟩,by cases rest<;>trivial⟩,rfl,rfl,⟨v,rfl,rfl⟩⟩
theorem Ro (s_:List Int) {r:List Int} (h:B9 s_=some r):Bh Tryz.prog 67 [.sl 1 (s_.map Aw)] (·= .sl 1 (r.map Aw)):=Bh.nle (Ci.fresh (Ci.mono (Ev s_ h) fun q H=>by rintro⟨rfl,rfl⟩;simp +decide -implicitDefEqProofs only[go_sem,Dr,Ac.int.injEq,Int.natCast_zero,List.replicate_zero,List.length_take,List.length_drop,Ac.own.injEq,reduceCtorEq,Int.reduceAdd,Vo,Vp,Rr,Wh,Rq,List.length_map]))
theorem Da (s_:List Int) {r:List Int} (h:B9 s_=some r):Ad Tryz.prog 67 [.sl 1 (s_.map Aw)] (·= .sl 1 (r.map Aw)):=(Ro s_ h).pure
def B4 (l:List Ar):List (Int×List Int):=l.foldl (fun g e=>gadd g e.From e.To) []
theorem Qz (l:List Ar):∀ n,n≤l.length→∀ p∈B4 (l.take n),1≤p.2.length∧p.2.length≤n:=by
 intro n
 induction n with
 | zero=>intro _ p hp;simp[B4]at hp
 | succ n ih=>
  intro h
  have hx:l[n]? =some l[n]:=Ajs (by omega)
  have e:B4 (l.take (n+1))=gadd (B4 (l.take n)) l[n].From l[n].To:=by
   unfold B4;rw[List.take_add_one,hx,List.foldl_append];rfl
  rw[e]
  exact xI (ih (by omega)) _ _
theorem Pn {l:List Ar} {k:Nat} {e:Ar} (h:l[k]? =some e):B4 (l.take (k+1))=gadd (B4 (l.take k)) e.From e.To:=by
 unfold B4;rw[List.take_add_one,h,List.foldl_append];rfl
def Eg (l:List Ar) (sv:(List (Int×Bool))×(List Int)):Option (Out ((List (Int×Bool))×(List Int)) ((List Int))):=
 (bif (decide (0<((sv.2.length:Nat):Int)))then (Dl sv.2 (IntKind.i64.wrap (((sv.2.length:Nat):Int) - 1))).bind fun x_6=>okB (decide (0≤(IntKind.i64.wrap (((sv.2.length:Nat):Int) - 1))∧(IntKind.i64.wrap (((sv.2.length:Nat):Int) - 1))≤((sv.2.length:Nat):Int))) ((bif (!(mget false sv.1 x_6))then chk ((IntKind.i64.wrap (((sv.2.length:Nat):Int) - 1)).toNat+(mget [] (B4 l) x_6).length) (some (Out.next ((mset sv.1 x_6 true),((sv.2.take (IntKind.i64.wrap (((sv.2.length:Nat):Int) - 1)).toNat)++(mget [] (B4 l) x_6)))))else some (Out.next (sv.1,(sv.2.take (IntKind.i64.wrap (((sv.2.length:Nat):Int) - 1)).toNat)))))else (okB (decide (∀ k∈mkeys sv.1, -9223372036854775808≤k∧k≤9223372036854775807)) (chk sv.1.length (some (Dc (mkeys sv.1))))).bind fun q6=>some (Out.ret q6))
def E6 (l:List Ar) (from_:List Int):Option ((List Int)):=
 chk l.length ((B9 from_).bind fun y1=>(Dt (Eg l) fuel ([],y1)).bind fun o4=>o4.on fun _=>none)
theorem tD (l:List Ar) (from_:List Int) {r:(List Int)} (h:E6 l from_=some r):Bh Tryz.prog 266 [.sl 4 (l.map Bj),.sl 1 (from_.map Aw)] (·= .sl 1 (r.map Aw)):=by
 refine Bh.nle (Bh.intro Tryz.func266 rfl rfl (by show _≤61;simp) ?_)
 unfold E6 at h
 refine nS (sq ?_)
 refine ar rfl (qn (sq ?_))
 refine ar rfl (qn (sq (sq ?_)))
 refine rg rfl fun K j=>?_
 intro hm
 refine j _ _ (qn ?_)
 obtain⟨hl,h⟩:=B1 h
 refine bk ?_
 refine AWP.oK (ι:=Nat×List (Int×List Int)) (fun zz=>[(0,.sl 4 (l.map Bj)),(1,.sl 1 (from_.map Aw)),(5,.map 0),(12,.sl 4 (l.map Bj)),(13,.int .i64 ((l.length:Nat):Int)),(14,.int .i64 ((zz.1:Nat):Int))]) (fun zz=>.mpo false (gE 1 zz.2)::gR zz.2) (fun zz=>zz.1≤l.length∧zz.2=B4 (l.take zz.1)) (fun zz=>l.length - zz.1) (0,[]) ⟨Nat.zero_le _,rfl⟩
  (by(simp (implicitDefEqProofs:=false) (decide:=true) only[go_sem,Nat.reduceAdd,Nat.reduceMul,Nat.reduceSub,Int.reduceToNat,Dr,Int.natCast_zero,List.replicate_zero,List.length_take,List.length_drop,Ac.own.injEq,reduceCtorEq,Int.reduceAdd]<;>omega)) (by exact⟨⟨rfl,rfl⟩,trivial⟩)
  (fun zz=>⟨by simp[M1,Ac.P4,Ac.Wm,Ac.Xs,Ac.Y5],xZ zz.2 (by rw[List.length_cons,Xg];omega),rfl⟩) ?_
 rintro⟨k,g⟩ ⟨hk,hg⟩
 dsimp only at hk hg ⊢
 refine sq (ar rfl (qn (sq ?_)))
 refine AWP.cond (Aj (fun hc=>?_) (fun hc=>?_))
 ·have hlt:k<l.length:=by have:=Ajp hc;omega
  have hx0:l[k]? =some l[k]:=Ajs hlt
  have hx:=Yi hlt
  generalize l[k]=e at hx hx0
  have hw:IntKind.i64.wrap (((k:Nat):Int)+1)=(((k+1:Nat)):Int):=Ry (by omega)
  refine sk (qn (sq (bk (sq ?_))))
  refine rg rfl fun K j=>?_
  refine Bk.of (f:=Bj) (l:=l) hx ?_
  (try simp +decide -implicitDefEqProofs only[go_sem])
  (try simp (implicitDefEqProofs:=false) (decide:=true) only[go_sem,Nat.reduceAdd,Nat.reduceMul,Nat.reduceSub,Int.reduceToNat,apN,ga0,ga1,ga2,sa0,sa1,sa2,List.drop_succ_cons,List.drop_zero,List.headD_cons])
  refine j _ _ (qn ?_)
  have hne1:((gR g).length+1+1=(gR g).length+3+1)=False:=by simp
  have hne2:((gR g).length+1+1+1=(gR g).length+3+1)=False:=by simp
  have hne3:((gR g).length+1+1=(gR g).length+1+1+1+1)=False:=by simp
  have hne4:((gR g).length+1+1+1=(gR g).length+1+1+1+1)=False:=by simp
  have hinv:=Qz l k hk
  rw[← hg]at hinv
  have hnext:=Pn hx0
  rw[← hg]at hnext
  refine AWP.draw Tryz.mixed (by kernel_rfl) ?_;intro K j
  (try simp (implicitDefEqProofs:=false) (decide:=true) only[go_sem,Nat.reduceAdd,Nat.reduceMul,Nat.reduceSub,Int.reduceToNat,apN,ga0,ga1,ga2,sa0,sa1,sa2,List.drop_succ_cons,List.drop_zero,List.headD_cons])
  refine D2.mk' (fun v hv=>?_) (fun hn=>?_)
  ·obtain⟨i,xs,hi,hv2,hget,haset,hgset⟩:=jJ g 1 e.From v hv
   have hil:i<(gR g).length:=by rw[Xg];exact(List.getElem?_eq_some_iff.1 hi).1
   have hrow:∀ (B:List Av),(gR g++B)[i]? =some (.row (xs.length - 1) 1 (xs.map Aw)):=fun B=>by
    rw[List.getElem?_append_left hil];unfold gR;rw[List.getElem?_map,hi];rfl
   have hset:∀ (x:Av) (B:List Av),(gR g++B).set i x=(gR g).set i x++B:=fun x B=>List.set_append_left _ _ hil
   have hxs:=hinv _ (Ajt hi)
   subst hv2
   clear hv
   (try simp (implicitDefEqProofs:=false) (decide:=true) only[go_sem,Nat.reduceAdd,Nat.reduceMul,Nat.reduceSub,Int.reduceToNat,apN,ga0,ga1,ga2,sa0,sa1,sa2,List.drop_succ_cons,List.drop_zero,List.headD_cons,hne1,hne2,hne3,hne4])
   (try simp only[hrow])
   (try simp (implicitDefEqProofs:=false) (decide:=true) only[go_sem,Nat.reduceAdd,Nat.reduceMul,Nat.reduceSub,Int.reduceToNat,apN,ga0,ga1,ga2,sa0,sa1,sa2,List.drop_succ_cons,List.drop_zero,List.headD_cons,hne1,hne2,hne3,hne4])
   refine⟨by simp only at hxs;omega,by simp only at hxs;omega,?_⟩
   refine j _ _ _ (Yf (fun n=>if n=0 then 0 else if n=1 then(gR g).length+1 else if n=2 then(gR g).length+1+1 else if n=3 then(gR g).length+1+1+1 else i+1) 5
    [(11,[0],true),(10,[3,4,2],true),(9,[2],true),(8,[1],false),(6,[0],false),(5,[1],false),(2,[1],false)] (by kernel_rfl) (fun a b ha hb=>?_) (by kernel_rfl)) ?_
   ·have ha':a=0∨a=1∨a=2∨a=3∨a=4:=by omega
    have hb':b=0∨b=1∨b=2∨b=3∨b=4:=by omega
    rcases ha' with rfl | rfl | rfl | rfl | rfl<;>rcases hb' with rfl | rfl | rfl | rfl | rfl<;>simp<;>omega
   clear j K
   refine bn (qn (ar rfl (qn ?_)))
   have hlx:(xs++[e.To]).length=xs.length+1:=by simp
   have hl1:xs.length - 1+1=xs.length+1 - 1:=by simp only at hxs;omega
   have e1:=haset (xs++[e.To])
   have e2:=hgset (xs++[e.To])
   rw[hlx]at e1 e2
   refine⟨(k+1,gadd g e.From e.To),⟨by dsimp only;omega,hnext.symm⟩,by dsimp only;omega,_,_,Sub.refl',?_,?_⟩
   ·(simp (implicitDefEqProofs:=false) (decide:=true) only[go_sem,Nat.reduceAdd,Nat.reduceMul,Nat.reduceSub,Int.reduceToNat,Dr,Int.natCast_zero,List.replicate_zero,List.length_take,List.length_drop,Ac.own.injEq,reduceCtorEq,Int.reduceAdd,hw]<;>omega)
   rw[hset,hl1,e1,e2]
   unfold gadd
   rw[hget]
   exact lZ _ _
  (try simp (implicitDefEqProofs:=false) (decide:=true) only[go_sem,Nat.reduceAdd,Nat.reduceMul,Nat.reduceSub,Int.reduceToNat,apN,ga0,ga1,ga2,sa0,sa1,sa2,List.drop_succ_cons,List.drop_zero,List.headD_cons,hne1,hne2,hne3,hne4])
  refine j _ _ _ (Yf (fun n=>if n=0 then 0 else if n=1 then(gR g).length+1 else if n=2 then(gR g).length+1+1 else(gR g).length+1+1+1) 4
   [(11,[0],true),(10,[3,2],true),(9,[2],true),(8,[1],false),(6,[0],false),(5,[1],false),(2,[1],false)] (by kernel_rfl) (fun a b ha hb=>?_) (by kernel_rfl)) ?_
  ·have ha':a=0∨a=1∨a=2∨a=3:=by omega
   have hb':b=0∨b=1∨b=2∨b=3:=by omega
   rcases ha' with rfl | rfl | rfl | rfl<;>rcases hb' with rfl | rfl | rfl | rfl<;>simp<;>omega
  clear j K
  refine bn (qn (ar rfl (qn ?_)))
  obtain⟨hget,haset,hmset⟩:=Uh g 1 e.From hn
  have hgd:gadd g e.From e.To=g++[(e.From,[e.To])]:=by unfold gadd;rw[hget,hmset];rfl
  have hm1:(Av.mpo false (aset (gE 1 g) e.From (Ac.own ((gR g).length+1+1+1) 0 0 1))::(gR g++[Av.box [Ac.int IntKind.i64 e.ID,Ac.int IntKind.i64 e.From,Ac.int IntKind.i64 e.To,Ac.int IntKind.i64 e.Cost],Av.row 0 1 [[Ac.int IntKind.i64 e.To]],Av.row 0 1 [[Ac.int IntKind.i64 e.To]]]))[(gR g).length+1]? =some (Av.box [Ac.int IntKind.i64 e.ID,Ac.int IntKind.i64 e.From,Ac.int IntKind.i64 e.To,Ac.int IntKind.i64 e.Cost]):=by
   rw[List.getElem?_cons_succ];exact ga0 _ _ _
  have hm3:(Av.mpo false (aset (gE 1 g) e.From (Ac.own ((gR g).length+1+1+1) 0 0 1))::(gR g++[Av.box [Ac.int IntKind.i64 e.ID,Ac.int IntKind.i64 e.From,Ac.int IntKind.i64 e.To,Ac.int IntKind.i64 e.Cost],Av.row 0 1 [[Ac.int IntKind.i64 e.To]],Av.row 0 1 [[Ac.int IntKind.i64 e.To]]]))[(gR g).length+1+1+1]? =some (Av.row 0 1 [[Ac.int IntKind.i64 e.To]]):=by
   rw[List.getElem?_cons_succ];exact ga2 _ _ _ _ _
  refine⟨(k+1,gadd g e.From e.To),⟨by dsimp only;omega,hnext.symm⟩,by dsimp only;omega,_,_,Sub.swap ((gR g).length+1) ((gR g).length+1+1+1) hm1 hm3 rfl,?_,?_⟩
  ·(simp (implicitDefEqProofs:=false) (decide:=true) only[go_sem,Nat.reduceAdd,Nat.reduceMul,Nat.reduceSub,Int.reduceToNat,Dr,Int.natCast_zero,List.replicate_zero,List.length_take,List.length_drop,Ac.own.injEq,reduceCtorEq,Int.reduceAdd,hw]<;>omega)
  have hsw:swp ((gR g).length+1) ((gR g).length+1+1+1) ((gR g).length+1+1+1)=(gR g).length+1:=by unfold swp;rw[if_neg (by omega),if_pos rfl]
  have hre:Sz (swp ((gR g).length+1) ((gR g).length+1+1+1)) (gE 1 g)=gE 1 g:=l8 g 1 fun i h1 h2=>by
   rw[← Xg]at h2
   unfold swp;rw[if_neg (by omega),if_neg (by omega)]
  unfold Wc
  simp only[Vc,cI,gW,l7,haset,gX,hre,Sz,ren,hsw,List.set_cons_succ,sa0,sa2,rens]
  rw[hgd,rR,Xg]
  have:gR (g++[(e.From,[e.To])])=gR g++[Av.row 0 1 [[Ac.int IntKind.i64 e.To]]]:=by simp[gR,Aw]
  refine⟨?_,?_⟩
  ·exact⟨rfl,rfl⟩
  rw[this]
  have:=aM (gR g++[Av.row 0 1 [[Ac.int IntKind.i64 e.To]]]) [Av.row 0 1 [[Ac.int IntKind.i64 e.To]],Av.box [Ac.int IntKind.i64 e.ID,Ac.int IntKind.i64 e.From,Ac.int IntKind.i64 e.To,Ac.int IntKind.i64 e.Cost]] (by
   intro o ho
   rcases List.mem_append.1 ho with ho | ho
   ·exact Z4 g o ho
   ·simp at ho;subst ho;simp)
  rw[apN]at this
  exact this
 have hkl:k=l.length:=by have:=Ajo hc;omega
 subst hkl
 rw[List.take_length]at hg
 refine xt (qe (qe (bs (qn ?_))))
 refine AWP.sub (Sub.weak (fr':=[(1,.sl 1 (from_.map Aw)),(5,.map 0)]) (H':=.mpo false (gE 1 g)::gR g) (lZ g [] |> fun h=>by rwa [List.append_nil]at h) (by(simp (implicitDefEqProofs:=false) (decide:=true) only[go_sem,Nat.reduceAdd,Nat.reduceMul,Nat.reduceSub,Int.reduceToNat,Dr,Int.natCast_zero,List.replicate_zero,List.length_take,List.length_drop,Ac.own.injEq,reduceCtorEq,Int.reduceAdd]<;>omega)) (.inl rfl)) ?_
 refine AWP.sub (Sub.groups (fun _ _ _ _=>rfl) (by(simp (implicitDefEqProofs:=false) (decide:=true) only[go_sem,Nat.reduceAdd,Nat.reduceMul,Nat.reduceSub,Int.reduceToNat,Dr,Int.natCast_zero,List.replicate_zero,List.length_take,List.length_drop,Ac.own.injEq,reduceCtorEq,Int.reduceAdd]<;>omega)) rfl rfl g) ?_
 subst hg
 refine sq (ar rfl (qn (sq ?_)))
 refine rg rfl fun K j=>?_
 obtain⟨y1,hy1,h⟩:=Ah h
 refine Al.row Tryz.call67 (Ev from_ hy1) rfl 2 rfl ?_
 (try simp +decide -implicitDefEqProofs only[go_sem,List.length_map])
 refine j _ _ (qn (sq (bk ?_)))
 obtain⟨o4,hJ4,hO4⟩:=Ah h
 clear h
 refine AWP.Br (ι:=Nat×((List (Int×Bool))×(List Int))×(Nat)) (fun zz=>[(5,.map 0),(8,.map 1),(9,.own 2 zz.2.2 0 zz.2.1.2.length)]) (fun zz=>[.mp (mpE D4 (B4 l)),.mp (mpE Ze zz.2.1.1),.row zz.2.2 1 (zz.2.1.2.map Aw)]) (fun zz=>Dt (Eg l) zz.1 zz.2.1=some o4) (fun zz=>zz.1) (fuel,([],y1),0) hJ4 cu cu (fun x=>⟨rfl,rfl,rfl⟩) ?_
 clear hJ4
 rintro⟨n4,⟨reached2,open_3⟩,ver4⟩ hJ4
 dsimp only at hJ4 ⊢
 obtain⟨m4,b4,rfl,h,hJ4⟩:=Fx hJ4
 unfold Eg at h;try dsimp only at h
 refine sq (sq ?_)
 refine rg rfl fun K j=>?_
 intro hm
 refine j _ _ (qn ?_)
 revert h;refine ca rfl (fun hc h=>?_) fun hc h=>?_
 rotate_left
 ·refine xt (qe (qe ?_))
  obtain⟨q6,hq,h⟩:=Ah h
  obtain rfl:=Aa h
  obtain rfl:=Af hJ4
  replace h:=hq.trans (An hO4)
  refine bs (qn (sq ?_))
  refine rg rfl fun K j=>?_
  refine Al.U4 Tryz.call282 Tryz.keys282 rfl ?_
  refine nS ?_
  obtain⟨hk0,h⟩:=Jz h
  obtain⟨hk,h⟩:=B1 h
  refine Al.eQ Tryz.call281 Tryz.sortedKeys281 rfl rfl hk0 hk ?_
  refine nS ?_
  refine j _ _ (qn (rt ?_))
  cases h;exact en Tryz.results266
 refine sk (qn (bk (sq ?_)))
 refine rg rfl fun K j=>?_
 intro hm
 obtain⟨x_6,hx_6,h⟩:=Ah h
 refine F3 hx_6 (by first | rfl | exact(Cd _).symm | (simp only[List.length_append,List.length_cons,List.length_nil,List.length_set,List.length_replicate]<;>omega)) ?_
 refine nS ?_
 refine Cy.of (f:=Aw) (l:=open_3) (n:=(IntKind.i64.wrap (((open_3.length:Nat):Int) - 1))) hx_6 ?_
 refine nS ?_
 refine j _ _ (qn (sq ?_))
 refine rg rfl fun K j=>?_
 intro hm
 obtain⟨hk,h⟩:=Jz h
 (repeat(refine⟨by omega,?_⟩))
 refine j _ _ (qn ?_)
 refine AWP.sub (Sub.window 9 rfl rfl) ?_
 refine nS (sq ?_)
 refine rg rfl fun K j=>?_
 refine D2.of (f:=Ze) (m:=reached2) (d:=false) rfl ?_
 refine nS ?_
 refine j _ _ (qn ?_)
 revert h;refine ca rfl (fun hc h=>?_) fun hc h=>?_
 ·refine sq (ar rfl (qn ?_))
  refine rg rfl fun K j=>?_
  refine D2.of (f:=D4) (m:=(B4 l)) (d:=[]) rfl ?_
  refine nS ?_
  obtain⟨hk,h⟩:=B1 h
  (repeat refine rp ?_);try simp +decide -implicitDefEqProofs only[go_sem]
  refine j _ _ (bn (qn ?_))
  obtain rfl:=Aa h
  refine⟨(m4,((mset reached2 x_6 true),((open_3.take (IntKind.i64.wrap (((open_3.length:Nat):Int) - 1)).toNat)++(mget [] (B4 l) x_6))),((ver4+1)+1)),Ae hJ4,by dsimp only;omega,?_,?_⟩
  ·exact cu
  exact cu
 refine sk (bn (qn ?_))
 obtain rfl:=Aa h
 refine⟨(m4,(reached2,(open_3.take (IntKind.i64.wrap (((open_3.length:Nat):Int) - 1)).toNat)),(ver4+1)),Ae hJ4,by dsimp only;omega,?_,?_⟩
 ·exact cu
 exact cu
theorem Rb (l:List Ar) (from_:List Int) {r:(List Int)} (h:E6 l from_=some r):Db Tryz.prog 266 [.sl 4 (l.map Bj),.sl 1 (from_.map Aw)] 1 (r.map Aw):=by
 refine Db.of ?_
 refine Ci.weak (R:=fun q H=>∃ v0 rest,q= .own 0 v0 0 (r.map Aw).length∧H= .row v0 1 (r.map Aw)::rest) (Ci.intro Tryz.func266 rfl rfl (by show _≤61;simp) ?_) (fun q H hq=>?_)
 ·unfold E6 at h
  refine nS (sq ?_)
  refine ar rfl (qn (sq ?_))
  refine ar rfl (qn (sq (sq ?_)))
  refine rg rfl fun K j=>?_
  intro hm
  refine j _ _ (qn ?_)
  obtain⟨hl,h⟩:=B1 h
  refine bk ?_
  refine AWP.oK (ι:=Nat×List (Int×List Int)) (fun zz=>[(0,.sl 4 (l.map Bj)),(1,.sl 1 (from_.map Aw)),(5,.map 0),(12,.sl 4 (l.map Bj)),(13,.int .i64 ((l.length:Nat):Int)),(14,.int .i64 ((zz.1:Nat):Int))]) (fun zz=>.mpo false (gE 1 zz.2)::gR zz.2) (fun zz=>zz.1≤l.length∧zz.2=B4 (l.take zz.1)) (fun zz=>l.length - zz.1) (0,[]) ⟨Nat.zero_le _,rfl⟩
   (by(simp (implicitDefEqProofs:=false) (decide:=true) only[go_sem,Nat.reduceAdd,Nat.reduceMul,Nat.reduceSub,Int.reduceToNat,Dr,Int.natCast_zero,List.replicate_zero,List.length_take,List.length_drop,Ac.own.injEq,reduceCtorEq,Int.reduceAdd]<;>omega)) (by exact⟨⟨rfl,rfl⟩,trivial⟩)
   (fun zz=>⟨by simp[M1,Ac.P4,Ac.Wm,Ac.Xs,Ac.Y5],xZ zz.2 (by rw[List.length_cons,Xg];omega),rfl⟩) ?_
  rintro⟨k,g⟩ ⟨hk,hg⟩
  dsimp only at hk hg ⊢
  refine sq (ar rfl (qn (sq ?_)))
  refine AWP.cond (Aj (fun hc=>?_) (fun hc=>?_))
  ·have hlt:k<l.length:=by have:=Ajp hc;omega
   have hx0:l[k]? =some l[k]:=Ajs hlt
   have hx:=Yi hlt
   generalize l[k]=e at hx hx0
   have hw:IntKind.i64.wrap (((k:Nat):Int)+1)=(((k+1:Nat)):Int):=Ry (by omega)
   refine sk (qn (sq (bk (sq ?_))))
   refine rg rfl fun K j=>?_
   refine Bk.of (f:=Bj) (l:=l) hx ?_
   (try simp +decide -implicitDefEqProofs only[go_sem])
   (try simp (implicitDefEqProofs:=false) (decide:=true) only[go_sem,Nat.reduceAdd,Nat.reduceMul,Nat.reduceSub,Int.reduceToNat,apN,ga0,ga1,ga2,sa0,sa1,sa2,List.drop_succ_cons,List.drop_zero,List.headD_cons])
   refine j _ _ (qn ?_)
   have hne1:((gR g).length+1+1=(gR g).length+3+1)=False:=by simp
   have hne2:((gR g).length+1+1+1=(gR g).length+3+1)=False:=by simp
   have hne3:((gR g).length+1+1=(gR g).length+1+1+1+1)=False:=by simp
   have hne4:((gR g).length+1+1+1=(gR g).length+1+1+1+1)=False:=by simp
   have hinv:=Qz l k hk
   rw[← hg]at hinv
   have hnext:=Pn hx0
   rw[← hg]at hnext
   refine AWP.draw Tryz.mixed (by kernel_rfl) ?_;intro K j
   (try simp (implicitDefEqProofs:=false) (decide:=true) only[go_sem,Nat.reduceAdd,Nat.reduceMul,Nat.reduceSub,Int.reduceToNat,apN,ga0,ga1,ga2,sa0,sa1,sa2,List.drop_succ_cons,List.drop_zero,List.headD_cons])
   refine D2.mk' (fun v hv=>?_) (fun hn=>?_)
   ·obtain⟨i,xs,hi,hv2,hget,haset,hgset⟩:=jJ g 1 e.From v hv
    have hil:i<(gR g).length:=by rw[Xg];exact(List.getElem?_eq_some_iff.1 hi).1
    have hrow:∀ (B:List Av),(gR g++B)[i]? =some (.row (xs.length - 1) 1 (xs.map Aw)):=fun B=>by
     rw[List.getElem?_append_left hil];unfold gR;rw[List.getElem?_map,hi];rfl
    have hset:∀ (x:Av) (B:List Av),(gR g++B).set i x=(gR g).set i x++B:=fun x B=>List.set_append_left _ _ hil
    have hxs:=hinv _ (Ajt hi)
    subst hv2
    clear hv
    (try simp (implicitDefEqProofs:=false) (decide:=true) only[go_sem,Nat.reduceAdd,Nat.reduceMul,Nat.reduceSub,Int.reduceToNat,apN,ga0,ga1,ga2,sa0,sa1,sa2,List.drop_succ_cons,List.drop_zero,List.headD_cons,hne1,hne2,hne3,hne4])
    (try simp only[hrow])
    (try simp (implicitDefEqProofs:=false) (decide:=true) only[go_sem,Nat.reduceAdd,Nat.reduceMul,Nat.reduceSub,Int.reduceToNat,apN,ga0,ga1,ga2,sa0,sa1,sa2,List.drop_succ_cons,List.drop_zero,List.headD_cons,hne1,hne2,hne3,hne4])
    refine⟨by simp only at hxs;omega,by simp only at hxs;omega,?_⟩
    refine j _ _ _ (Yf (fun n=>if n=0 then 0 else if n=1 then(gR g).length+1 else if n=2 then(gR g).length+1+1 else if n=3 then(gR g).length+1+1+1 else i+1) 5
     [(11,[0],true),(10,[3,4,2],true),(9,[2],true),(8,[1],false),(6,[0],false),(5,[1],false),(2,[1],false)] (by kernel_rfl) (fun a b ha hb=>?_) (by kernel_rfl)) ?_
    ·have ha':a=0∨a=1∨a=2∨a=3∨a=4:=by omega
     have hb':b=0∨b=1∨b=2∨b=3∨b=4:=by omega
     rcases ha' with rfl | rfl | rfl | rfl | rfl<;>rcases hb' with rfl | rfl | rfl | rfl | rfl<;>simp<;>omega
    clear j K
    refine bn (qn (ar rfl (qn ?_)))
    have hlx:(xs++[e.To]).length=xs.length+1:=by simp
    have hl1:xs.length - 1+1=xs.length+1 - 1:=by simp only at hxs;omega
    have e1:=haset (xs++[e.To])
    have e2:=hgset (xs++[e.To])
    rw[hlx]at e1 e2
    refine⟨(k+1,gadd g e.From e.To),⟨by dsimp only;omega,hnext.symm⟩,by dsimp only;omega,_,_,Sub.refl',?_,?_⟩
    ·(simp (implicitDefEqProofs:=false) (decide:=true) only[go_sem,Nat.reduceAdd,Nat.reduceMul,Nat.reduceSub,Int.reduceToNat,Dr,Int.natCast_zero,List.replicate_zero,List.length_take,List.length_drop,Ac.own.injEq,reduceCtorEq,Int.reduceAdd,hw]<;>omega)
    rw[hset,hl1,e1,e2]
    unfold gadd
    rw[hget]
    exact lZ _ _
   (try simp (implicitDefEqProofs:=false) (decide:=true) only[go_sem,Nat.reduceAdd,Nat.reduceMul,Nat.reduceSub,Int.reduceToNat,apN,ga0,ga1,ga2,sa0,sa1,sa2,List.drop_succ_cons,List.drop_zero,List.headD_cons,hne1,hne2,hne3,hne4])
   refine j _ _ _ (Yf (fun n=>if n=0 then 0 else if n=1 then(gR g).length+1 else if n=2 then(gR g).length+1+1 else(gR g).length+1+1+1) 4
    [(11,[0],true),(10,[3,2],true),(9,[2],true),(8,[1],false),(6,[0],false),(5,[1],false),(2,[1],false)] (by kernel_rfl) (fun a b ha hb=>?_) (by kernel_rfl)) ?_
   ·have ha':a=0∨a=1∨a=2∨a=3:=by omega
    have hb':b=0∨b=1∨b=2∨b=3:=by omega
    rcases ha' with rfl | rfl | rfl | rfl<;>rcases hb' with rfl | rfl | rfl | rfl<;>simp<;>omega
   clear j K
   refine bn (qn (ar rfl (qn ?_)))
   obtain⟨hget,haset,hmset⟩:=Uh g 1 e.From hn
   have hgd:gadd g e.From e.To=g++[(e.From,[e.To])]:=by unfold gadd;rw[hget,hmset];rfl
   have hm1:(Av.mpo false (aset (gE 1 g) e.From (Ac.own ((gR g).length+1+1+1) 0 0 1))::(gR g++[Av.box [Ac.int IntKind.i64 e.ID,Ac.int IntKind.i64 e.From,Ac.int IntKind.i64 e.To,Ac.int IntKind.i64 e.Cost],Av.row 0 1 [[Ac.int IntKind.i64 e.To]],Av.row 0 1 [[Ac.int IntKind.i64 e.To]]]))[(gR g).length+1]? =some (Av.box [Ac.int IntKind.i64 e.ID,Ac.int IntKind.i64 e.From,Ac.int IntKind.i64 e.To,Ac.int IntKind.i64 e.Cost]):=by
    rw[List.getElem?_cons_succ];exact ga0 _ _ _
   have hm3:(Av.mpo false (aset (gE 1 g) e.From (Ac.own ((gR g).length+1+1+1) 0 0 1))::(gR g++[Av.box [Ac.int IntKind.i64 e.ID,Ac.int IntKind.i64 e.From,Ac.int IntKind.i64 e.To,Ac.int IntKind.i64 e.Cost],Av.row 0 1 [[Ac.int IntKind.i64 e.To]],Av.row 0 1 [[Ac.int IntKind.i64 e.To]]]))[(gR g).length+1+1+1]? =some (Av.row 0 1 [[Ac.int IntKind.i64 e.To]]):=by
    rw[List.getElem?_cons_succ];exact ga2 _ _ _ _ _
   refine⟨(k+1,gadd g e.From e.To),⟨by dsimp only;omega,hnext.symm⟩,by dsimp only;omega,_,_,Sub.swap ((gR g).length+1) ((gR g).length+1+1+1) hm1 hm3 rfl,?_,?_⟩
   ·(simp (implicitDefEqProofs:=false) (decide:=true) only[go_sem,Nat.reduceAdd,Nat.reduceMul,Nat.reduceSub,Int.reduceToNat,Dr,Int.natCast_zero,List.replicate_zero,List.length_take,List.length_drop,Ac.own.injEq,reduceCtorEq,Int.reduceAdd,hw]<;>omega)
   have hsw:swp ((gR g).length+1) ((gR g).length+1+1+1) ((gR g).length+1+1+1)=(gR g).length+1:=by unfold swp;rw[if_neg (by omega),if_pos rfl]
   have hre:Sz (swp ((gR g).length+1) ((gR g).length+1+1+1)) (gE 1 g)=gE 1 g:=l8 g 1 fun i h1 h2=>by
    rw[← Xg]at h2
    unfold swp;rw[if_neg (by omega),if_neg (by omega)]
   unfold Wc
   simp only[Vc,cI,gW,l7,haset,gX,hre,Sz,ren,hsw,List.set_cons_succ,sa0,sa2,rens]
   rw[hgd,rR,Xg]
   have:gR (g++[(e.From,[e.To])])=gR g++[Av.row 0 1 [[Ac.int IntKind.i64 e.To]]]:=by simp[gR,Aw]
   refine⟨?_,?_⟩
   ·exact⟨rfl,rfl⟩
   rw[this]
   have:=aM (gR g++[Av.row 0 1 [[Ac.int IntKind.i64 e.To]]]) [Av.row 0 1 [[Ac.int IntKind.i64 e.To]],Av.box [Ac.int IntKind.i64 e.ID,Ac.int IntKind.i64 e.From,Ac.int IntKind.i64 e.To,Ac.int IntKind.i64 e.Cost]] (by
    intro o ho
    rcases List.mem_append.1 ho with ho | ho
    ·exact Z4 g o ho
    ·simp at ho;subst ho;simp)
   rw[apN]at this
   exact this
  have hkl:k=l.length:=by have:=Ajo hc;omega
  subst hkl
  rw[List.take_length]at hg
  refine xt (qe (qe (bs (qn ?_))))
  refine AWP.sub (Sub.weak (fr':=[(1,.sl 1 (from_.map Aw)),(5,.map 0)]) (H':=.mpo false (gE 1 g)::gR g) (lZ g [] |> fun h=>by rwa [List.append_nil]at h) (by(simp (implicitDefEqProofs:=false) (decide:=true) only[go_sem,Nat.reduceAdd,Nat.reduceMul,Nat.reduceSub,Int.reduceToNat,Dr,Int.natCast_zero,List.replicate_zero,List.length_take,List.length_drop,Ac.own.injEq,reduceCtorEq,Int.reduceAdd]<;>omega)) (.inl rfl)) ?_
  refine AWP.sub (Sub.groups (fun _ _ _ _=>rfl) (by(simp (implicitDefEqProofs:=false) (decide:=true) only[go_sem,Nat.reduceAdd,Nat.reduceMul,Nat.reduceSub,Int.reduceToNat,Dr,Int.natCast_zero,List.replicate_zero,List.length_take,List.length_drop,Ac.own.injEq,reduceCtorEq,Int.reduceAdd]<;>omega)) rfl rfl g) ?_
  subst hg
  refine sq (ar rfl (qn (sq ?_)))
  refine rg rfl fun K j=>?_
  obtain⟨y1,hy1,h⟩:=Ah h
  refine Al.row Tryz.call67 (Ev from_ hy1) rfl 2 rfl ?_
  (try simp +decide -implicitDefEqProofs only[go_sem,List.length_map])
  refine j _ _ (qn (sq (bk ?_)))
  obtain⟨o4,hJ4,hO4⟩:=Ah h
  clear h
  refine AWP.Br (ι:=Nat×((List (Int×Bool))×(List Int))×(Nat)) (fun zz=>[(5,.map 0),(8,.map 1),(9,.own 2 zz.2.2 0 zz.2.1.2.length)]) (fun zz=>[.mp (mpE D4 (B4 l)),.mp (mpE Ze zz.2.1.1),.row zz.2.2 1 (zz.2.1.2.map Aw)]) (fun zz=>Dt (Eg l) zz.1 zz.2.1=some o4) (fun zz=>zz.1) (fuel,([],y1),0) hJ4 cu cu (fun x=>⟨rfl,rfl,rfl⟩) ?_
  clear hJ4
  rintro⟨n4,⟨reached2,open_3⟩,ver4⟩ hJ4
  dsimp only at hJ4 ⊢
  obtain⟨m4,b4,rfl,h,hJ4⟩:=Fx hJ4
  unfold Eg at h;try dsimp only at h
  refine sq (sq ?_)
  refine rg rfl fun K j=>?_
  intro hm
  refine j _ _ (qn ?_)
  revert h;refine ca rfl (fun hc h=>?_) fun hc h=>?_
  rotate_left
  ·refine xt (qe (qe ?_))
   obtain⟨q6,hq,h⟩:=Ah h
   obtain rfl:=Aa h
   obtain rfl:=Af hJ4
   replace h:=hq.trans (An hO4)
   refine bs (qn (sq ?_))
   refine rg rfl fun K j=>?_
   refine Al.U4 Tryz.call282 Tryz.keys282 rfl ?_
   refine nS ?_
   obtain⟨hk0,h⟩:=Jz h
   obtain⟨hk,h⟩:=B1 h
   refine Al.eQ Tryz.call281 Tryz.sortedKeys281 rfl rfl hk0 hk ?_
   refine nS ?_
   refine j _ _ (qn ?_)
   refine AWP.sub (Sub.swap 4 0 rfl rfl rfl) ?_
   refine nS (rt ?_)
   obtain rfl:=Aa h
   refine nSc Tryz.results266 ?_
   refine⟨_,_,?_,rfl⟩
   (try simp +decide -implicitDefEqProofs only[go_sem,List.length_map,List.length_append,List.length_cons,List.length_nil,List.length_set,List.length_replicate]);try rfl
  refine sk (qn (bk (sq ?_)))
  refine rg rfl fun K j=>?_
  intro hm
  obtain⟨x_6,hx_6,h⟩:=Ah h
  refine F3 hx_6 (by first | rfl | exact(Cd _).symm | (simp only[List.length_append,List.length_cons,List.length_nil,List.length_set,List.length_replicate]<;>omega)) ?_
  refine nS ?_
  refine Cy.of (f:=Aw) (l:=open_3) (n:=(IntKind.i64.wrap (((open_3.length:Nat):Int) - 1))) hx_6 ?_
  refine nS ?_
  refine j _ _ (qn (sq ?_))
  refine rg rfl fun K j=>?_
  intro hm
  obtain⟨hk,h⟩:=Jz h
  (repeat(refine⟨by omega,?_⟩))
  refine j _ _ (qn ?_)
  refine AWP.sub (Sub.window 9 rfl rfl) ?_
  refine nS (sq ?_)
  refine rg rfl fun K j=>?_
  refine D2.of (f:=Ze) (m:=reached2) (d:=false) rfl ?_
  refine nS ?_
  refine j _ _ (qn ?_)
  revert h;refine ca rfl (fun hc h=>?_) fun hc h=>?_
  ·refine sq (ar rfl (qn ?_))
   refine rg rfl fun K j=>?_
   refine D2.of (f:=D4) (m:=(B4 l)) (d:=[]) rfl ?_
   refine nS ?_
   obtain⟨hk,h⟩:=B1 h
   (repeat refine rp ?_);try simp +decide -implicitDefEqProofs only[go_sem]
   refine j _ _ (bn (qn ?_))
   obtain rfl:=Aa h
   refine⟨(m4,((mset reached2 x_6 true),((open_3.take (IntKind.i64.wrap (((open_3.length:Nat):Int) - 1)).toNat)++(mget [] (B4 l) x_6))),((ver4+1)+1)),Ae hJ4,by dsimp only;omega,?_,?_⟩
   ·exact cu
   exact cu
  refine sk (bn (qn ?_))
  obtain rfl:=Aa h
  refine⟨(m4,(reached2,(open_3.take (IntKind.i64.wrap (((open_3.length:Nat):Int) - 1)).toNat)),(ver4+1)),Ae hJ4,by dsimp only;omega,?_,?_⟩
  ·exact cu
  exact cu
 obtain⟨v0,rest,rfl,rfl⟩:=hq
 refine⟨[.row v0 1 (r.map Aw)],?_,?_,?_,⟨v0,rfl,rfl⟩⟩
 all_goals exact cu
def He (m:Bd) (lifts:List Int) (runs:List Int):Option ((List Int)):=
 (Pp m lifts).bind fun y1=>(Il m runs).bind fun y2=>(Nr [y1,y2]).bind fun y3=>(E6 y3 m.Bases).bind fun y4=>some y4
theorem Wr (m:Bd) (lifts:List Int) (runs:List Int) {r:(List Int)} (h:He m lifts runs=some r):Bh Tryz.prog 212 [.agg (Ca m),.sl 1 (lifts.map Aw),.sl 1 (runs.map Aw)] (·= .sl 1 (r.map Aw)):=by
 refine Bh.nle (Bh.intro Tryz.func212 rfl rfl (by show _≤18;simp) ?_)
 unfold He at h
 refine nS (sq ?_)
 refine ar rfl (qn (sq ?_))
 refine AWP.draw Tryz.mixed (by kernel_rfl) ?_;intro K j
 refine nS ?_
 obtain⟨y1,hy1,h⟩:=Ah h
 refine Bz.pure Tryz.call267 (fL m lifts hy1) rfl ?_
 refine nS ?_
 obtain⟨y2,hy2,h⟩:=Ah h
 refine Bz.pure Tryz.call215 (S5 m runs hy2) rfl ?_
 refine nS ?_
 obtain⟨y3,hy3,h⟩:=Ah h
 refine Bz.kI Tryz.call214 (Wb [y1,y2] hy3) (by simp +decide -implicitDefEqProofs only[go_sem]) ?_
 refine nS ?_
 obtain⟨y4,hy4,h⟩:=Ah h
 refine Bz.row Tryz.call266 (Rb y3 m.Bases hy4) rfl ?_
 (try simp +decide -implicitDefEqProofs only[go_sem,List.length_map])
 refine j _ _ _ (by kernel_rfl) ?_
 refine qn (rt ?_)
 cases h;exact en Tryz.results212
theorem Yw (m:Bd) (lifts:List Int) (runs:List Int) {r:(List Int)} (h:He m lifts runs=some r):Ad Tryz.prog 212 [.agg (Ca m),.sl 1 (lifts.map Aw),.sl 1 (runs.map Aw)] (·= .sl 1 (r.map Aw)):=(Wr m lifts runs h).pure
def R9 (m:Bd) (lifts:List Int) (runs:List Int) (run:Int):Option (Bool):=
 (Ex m run).bind fun y1=>(bif y1.2 then(He m lifts runs).bind fun y2=>(Bt y2 y1.1.From).bind fun y3=>some y3 else some false)
theorem fK (m:Bd) (lifts:List Int) (runs:List Int) (run:Int) {r:Bool} (h:R9 m lifts runs run=some r):Ad Tryz.prog 109 [.agg (Ca m),.sl 1 (lifts.map Aw),.sl 1 (runs.map Aw),.int .i64 run] (·= .bool r):=by
 refine Ad.nle (Ad.intro Tryz.func109 rfl rfl (by show _≤27;simp) ?_)
 unfold R9 at h
 refine nS (sq ?_)
 refine ar rfl (qn (sq ?_))
 refine rg rfl fun K j=>?_
 obtain⟨y1,hy1,h⟩:=Ah h
 refine Al.pure Tryz.call53 (D3 m run hy1) rfl fun _ hr=>?_
 subst hr
 refine nS ?_
 refine j _ _ (qn (sq ?_))
 refine AWP.draw Tryz.mixed (by kernel_rfl) ?_;intro K j
 refine nS ?_
 revert h;refine gt (fun hc h=>?_) fun hc h=>?_
 ·obtain⟨y2,hy2,h⟩:=Ah h
  refine Bz.pure Tryz.call212 (Yw m lifts runs hy2) rfl ?_
  refine nS ?_
  obtain⟨y3,hy3,h⟩:=Ah h
  refine Bz.pure Tryz.call54 (Bx y2 y1.1.From hy3) rfl ?_
  refine nS ?_
  refine j _ _ _ (by kernel_rfl) ?_
  refine qn (rt ?_)
  cases h;exact en Tryz.results109
 refine j _ _ _ (by kernel_rfl) ?_
 refine qn (rt ?_)
 cases h;exact en Tryz.results109
def Eu (s_:List Ar):Option (List Ar):=chk s_.length (some s_)
theorem Fl (s_:List Ar) {r:List Ar} (h:Eu s_=some r):Db Tryz.prog 268 [.sl 4 (s_.map Bj)] 4 (r.map Bj):=by
 have hk:=(B1 h).1
 have hr:r=s_:=Aa (B1 h).2
 rw[hr];clear hr h
 refine Db.of ?_
 refine Ci.weak (R:=fun q H=>∃ v rest,q= .own 0 v 0 (s_.map Bj).length∧H= .row v 4 (s_.map Bj)::rest) (Ci.intro Tryz.func268 rfl rfl (by show _≤8;simp) ?_) (fun q H hq=>?_)
 ·refine nS (sq ?_)
  refine ar rfl (qn (sq (sq ?_)))
  refine rg rfl fun K j=>?_
  intro bnil hb
  refine nS ?_
  refine j _ _ (qn ?_)
  refine AWP.cond (Aj (fun hc=>?_) (fun hc=>?_))
  ·have hx0:s_=[]:=Classical.byContradiction fun hne=>by have:=hb (by simpa using hne);simp[this]at hc
   subst hx0
   refine sq (ar rfl (qn ?_))
   refine AWP.ghost 2 4 rfl (by decide) ?_
   refine nS (rt (qr ?_))
   refine nSc Tryz.results268 ?_
   refine⟨_,_,?_,rfl⟩
   (try simp +decide -implicitDefEqProofs only[go_sem,List.length_map,List.length_append,List.length_cons,List.length_nil,List.length_set,List.length_replicate]);try rfl
  clear hc
  refine sk (qn (sq ?_))
  refine rg rfl fun K j=>?_
  (repeat refine rp ?_);try simp +decide -implicitDefEqProofs only[go_sem]
  refine j _ _ (qn (rt ?_))
  refine nSc Tryz.results268 ?_
  refine⟨_,_,?_,rfl⟩
  (try simp +decide -implicitDefEqProofs only[go_sem,List.length_map,List.length_append,List.length_cons,List.length_nil,List.length_set,List.length_replicate]);try rfl
 obtain⟨v,rest,rfl,rfl⟩:=hq
 exact⟨[.row v 4 (s_.map Bj)],⟨⟨rfl,rfl,rfl⟩,by cases rest<;>trivial⟩,rfl,rfl,⟨v,rfl,rfl⟩⟩
def G1 (k3:Nat) (x_5:Ar) (sv:(List Ar)):Option (Out ((List Ar)) ((List Int))):=
 (Dl sv ((k3:Nat):Int)).bind fun x_6=>some (Out.next ((sv.set k3 (Ar.mk x_6.ID x_5.To x_6.To x_6.Cost)).set k3 (Ar.mk x_6.ID x_5.To x_5.From x_6.Cost)))
def No (l:List Ar) (to_:List Int):Option ((List Int)):=
 (Eu l).bind fun y1=>(Am G1 0 l y1).bind fun o3=>o3.on fun s3=>(E6 s3 to_).bind fun y9=>some y9
theorem u3 (l:List Ar) (to_:List Int) {r:(List Int)} (h:No l to_=some r):Bh Tryz.prog 213 [.sl 4 (l.map Bj),.sl 1 (to_.map Aw)] (·= .sl 1 (r.map Aw)):=by
 refine Bh.nle (Bh.intro Tryz.func213 rfl rfl (by show _≤33;simp) ?_)
 unfold No at h
 refine nS (sq ?_)
 refine ar rfl (qn (sq ?_))
 refine rg rfl fun K j=>?_
 obtain⟨y1,hy1,h⟩:=Ah h
 refine Al.row Tryz.call268 (Fl l hy1) rfl 0 rfl ?_
 (try simp +decide -implicitDefEqProofs only[go_sem,List.length_map])
 refine j _ _ (qn (sq (sq ?_)))
 refine rg rfl fun K j=>?_
 intro hm
 refine j _ _ (qn (bk ?_))
 obtain⟨o3,hJ3,hO3⟩:=Ah h
 clear h
 refine AWP.Br (ι:=Nat×((List Ar))×(Nat)) (fun zz=>[(1,.sl 1 (to_.map Aw)),(5,.own 0 zz.2.2 0 zz.2.1.length),(10,.sl 4 (l.map Bj)),(11,.int .i64 ((l.length:Nat):Int)),(12,.int .i64 ((zz.1:Nat):Int))]) (fun zz=>[.row zz.2.2 4 (zz.2.1.map Bj)]) (fun zz=>zz.1≤l.length∧Am G1 zz.1 ((l).drop zz.1) zz.2.1=some o3) (fun zz=>l.length - zz.1) (0,y1,0) ⟨Nat.zero_le _,hJ3⟩ cu cu (fun x=>⟨rfl,rfl,rfl⟩) ?_
 clear hJ3
 rintro⟨k3,turned2,ver3⟩ ⟨hk3,hJ3⟩
 dsimp only at hk3 hJ3 ⊢
 refine sq (ar rfl (qn (sq ?_)))
 refine AWP.cond (Aj (fun hc=>?_) (fun hc=>?_))
 rotate_left
 ·obtain rfl:=Bc hJ3 (fun hl=>by have:=Ajo hc;omega)
  have h:=Bb hO3;try dsimp only at h
  have hkl:l.length=k3:=by have:=Ajo hc;omega
  subst hkl
  refine xt (qe (qe (bs (qn (sq ?_)))))
  refine rg rfl fun K j=>?_
  obtain⟨y9,hy9,h⟩:=Ah h
  refine Al.wK Tryz.call266 (Rb turned2 to_ hy9) (by simp +decide -implicitDefEqProofs only[go_sem]) (by simp +decide -implicitDefEqProofs only[go_sem]) 1 rfl ?_
  (try simp +decide -implicitDefEqProofs only[go_sem,List.length_map])
  refine j _ _ (qn (rt ?_))
  cases h;exact en Tryz.results213
 have hlt3:k3<l.length:=by have:=Ajp hc;omega
 obtain⟨x_5,b3,hx3_,h,hJ3⟩:=A1 hJ3 hlt3
 have hx3:=Ay hx3_
 have hw3:=wk (k:=k3) (by omega)
 unfold G1 at h;try dsimp only at h
 refine sk (qn (sq (bk (sq ?_))))
 refine rg rfl fun K j=>?_
 refine Bk.of (f:=Bj) (l:=l) hx3 ?_
 refine nS ?_
 refine j _ _ (qn ?_)
 refine AWP.draw Tryz.mixed (by kernel_rfl) ?_;intro K j
 refine nS ?_
 obtain⟨x_6,hx_6,h⟩:=Ah h
 refine F3 hx_6 (by first | rfl | exact(Cd _).symm | (simp only[List.length_append,List.length_cons,List.length_nil,List.length_set,List.length_replicate]<;>omega)) ?_
 refine nS ?_
 refine Cy.ofNat (f:=Bj) (l:=turned2) (n:=k3) hx_6 ?_
 have hs7:=Pd (y:=(Ar.mk x_6.ID x_5.To x_6.To x_6.Cost)) hx_6
 refine nS ?_
 refine F3 hs7 (by first | rfl | exact(Cd _).symm | (simp only[List.length_append,List.length_cons,List.length_nil,List.length_set,List.length_replicate]<;>omega)) ?_
 refine nS ?_
 refine Cy.ofNat (f:=Bj) (l:=(turned2.set k3 (Ar.mk x_6.ID x_5.To x_6.To x_6.Cost))) (n:=k3) hs7 ?_
 have hs8:=Pd (y:=(Ar.mk x_6.ID x_5.To x_5.From x_6.Cost)) hs7
 refine nS ?_
 refine j _ _ _ (by kernel_rfl) ?_
 refine bn (qn (ar rfl (qn ?_)))
 obtain rfl:=Aa h
 refine⟨(k3+1,((turned2.set k3 (Ar.mk x_6.ID x_5.To x_6.To x_6.Cost)).set k3 (Ar.mk x_6.ID x_5.To x_5.From x_6.Cost)),ver3),⟨by dsimp only;omega,Ae hJ3⟩,by dsimp only;omega,?_,?_⟩
 ·exact cuw hw3
 exact cuw hw3
theorem iS (l:List Ar) (to_:List Int) {r:(List Int)} (h:No l to_=some r):Db Tryz.prog 213 [.sl 4 (l.map Bj),.sl 1 (to_.map Aw)] 1 (r.map Aw):=by
 refine Db.of ?_
 refine Ci.weak (R:=fun q H=>∃ v0 rest,q= .own 0 v0 0 (r.map Aw).length∧H= .row v0 1 (r.map Aw)::rest) (Ci.intro Tryz.func213 rfl rfl (by show _≤33;simp) ?_) (fun q H hq=>?_)
 ·unfold No at h
  refine nS (sq ?_)
  refine ar rfl (qn (sq ?_))
  refine rg rfl fun K j=>?_
  obtain⟨y1,hy1,h⟩:=Ah h
  refine Al.row Tryz.call268 (Fl l hy1) rfl 0 rfl ?_
  (try simp +decide -implicitDefEqProofs only[go_sem,List.length_map])
  refine j _ _ (qn (sq (sq ?_)))
  refine rg rfl fun K j=>?_
  intro hm
  refine j _ _ (qn (bk ?_))
  obtain⟨o3,hJ3,hO3⟩:=Ah h
  clear h
  refine AWP.Br (ι:=Nat×((List Ar))×(Nat)) (fun zz=>[(1,.sl 1 (to_.map Aw)),(5,.own 0 zz.2.2 0 zz.2.1.length),(10,.sl 4 (l.map Bj)),(11,.int .i64 ((l.length:Nat):Int)),(12,.int .i64 ((zz.1:Nat):Int))]) (fun zz=>[.row zz.2.2 4 (zz.2.1.map Bj)]) (fun zz=>zz.1≤l.length∧Am G1 zz.1 ((l).drop zz.1) zz.2.1=some o3) (fun zz=>l.length - zz.1) (0,y1,0) ⟨Nat.zero_le _,hJ3⟩ cu cu (fun x=>⟨rfl,rfl,rfl⟩) ?_
  clear hJ3
  rintro⟨k3,turned2,ver3⟩ ⟨hk3,hJ3⟩
  dsimp only at hk3 hJ3 ⊢
  refine sq (ar rfl (qn (sq ?_)))
  refine AWP.cond (Aj (fun hc=>?_) (fun hc=>?_))
  ·have hlt3:k3<l.length:=by have:=Ajp hc;omega
   obtain⟨x_5,b3,hx3_,h,hJ3⟩:=A1 hJ3 hlt3
   have hx3:=Ay hx3_
   have hw3:=wk (k:=k3) (by omega)
   unfold G1 at h;try dsimp only at h
   refine sk (qn (sq (bk (sq ?_))))
   refine rg rfl fun K j=>?_
   refine Bk.of (f:=Bj) (l:=l) hx3 ?_
   refine nS ?_
   refine j _ _ (qn ?_)
   refine AWP.draw Tryz.mixed (by kernel_rfl) ?_;intro K j
   refine nS ?_
   obtain⟨x_6,hx_6,h⟩:=Ah h
   refine F3 hx_6 (by first | rfl | exact(Cd _).symm | (simp only[List.length_append,List.length_cons,List.length_nil,List.length_set,List.length_replicate]<;>omega)) ?_
   refine nS ?_
   refine Cy.ofNat (f:=Bj) (l:=turned2) (n:=k3) hx_6 ?_
   have hs7:=Pd (y:=(Ar.mk x_6.ID x_5.To x_6.To x_6.Cost)) hx_6
   refine nS ?_
   refine F3 hs7 (by first | rfl | exact(Cd _).symm | (simp only[List.length_append,List.length_cons,List.length_nil,List.length_set,List.length_replicate]<;>omega)) ?_
   refine nS ?_
   refine Cy.ofNat (f:=Bj) (l:=(turned2.set k3 (Ar.mk x_6.ID x_5.To x_6.To x_6.Cost))) (n:=k3) hs7 ?_
   have hs8:=Pd (y:=(Ar.mk x_6.ID x_5.To x_5.From x_6.Cost)) hs7
   refine nS ?_
   refine j _ _ _ (by kernel_rfl) ?_
   refine bn (qn (ar rfl (qn ?_)))
   obtain rfl:=Aa h
   refine⟨(k3+1,((turned2.set k3 (Ar.mk x_6.ID x_5.To x_6.To x_6.Cost)).set k3 (Ar.mk x_6.ID x_5.To x_5.From x_6.Cost)),ver3),⟨by dsimp only;omega,Ae hJ3⟩,by dsimp only;omega,?_,?_⟩
   ·exact cuw hw3
   exact cuw hw3
  obtain rfl:=Bc hJ3 (fun hl=>by have:=Ajo hc;omega)
  have h:=Bb hO3;try dsimp only at h
  have hkl:l.length=k3:=by have:=Ajo hc;omega
  subst hkl
  refine xt (qe (qe (bs (qn (sq ?_)))))
  refine rg rfl fun K j=>?_
  obtain⟨y9,hy9,h⟩:=Ah h
  refine Al.wK Tryz.call266 (Rb turned2 to_ hy9) (by simp +decide -implicitDefEqProofs only[go_sem]) (by simp +decide -implicitDefEqProofs only[go_sem]) 1 rfl ?_
  (try simp +decide -implicitDefEqProofs only[go_sem,List.length_map])
  refine j _ _ (qn ?_)
  refine AWP.sub (Sub.swap 1 0 rfl rfl rfl) ?_
  refine nS (rt ?_)
  obtain rfl:=Aa h
  refine nSc Tryz.results213 ?_
  refine⟨_,_,?_,rfl⟩
  (try simp +decide -implicitDefEqProofs only[go_sem,List.length_map,List.length_append,List.length_cons,List.length_nil,List.length_set,List.length_replicate]);try rfl
 obtain⟨v0,rest,rfl,rfl⟩:=hq
 refine⟨[.row v0 1 (r.map Aw)],?_,?_,?_,⟨v0,rfl,rfl⟩⟩
 all_goals exact cu
def R1 (m:Bd) (runs:List Int):Option ((List Int)):=
 (Il m runs).bind fun y1=>(Nr [y1]).bind fun y2=>(No y2 m.Bases).bind fun y3=>some y3
theorem fJ (m:Bd) (runs:List Int) {r:(List Int)} (h:R1 m runs=some r):Bh Tryz.prog 111 [.agg (Ca m),.sl 1 (runs.map Aw)] (·= .sl 1 (r.map Aw)):=by
 refine Bh.nle (Bh.intro Tryz.func111 rfl rfl (by show _≤13;simp) ?_)
 unfold R1 at h
 refine nS (sq ?_)
 refine ar rfl (qn (sq ?_))
 refine AWP.draw Tryz.mixed (by kernel_rfl) ?_;intro K j
 refine nS ?_
 obtain⟨y1,hy1,h⟩:=Ah h
 refine Bz.pure Tryz.call215 (S5 m runs hy1) rfl ?_
 refine nS ?_
 obtain⟨y2,hy2,h⟩:=Ah h
 refine Bz.kI Tryz.call214 (Wb [y1] hy2) (by simp +decide -implicitDefEqProofs only[go_sem]) ?_
 refine nS ?_
 obtain⟨y3,hy3,h⟩:=Ah h
 refine Bz.row Tryz.call213 (iS y2 m.Bases hy3) rfl ?_
 (try simp +decide -implicitDefEqProofs only[go_sem,List.length_map])
 refine j _ _ _ (by kernel_rfl) ?_
 refine qn (rt ?_)
 cases h;exact en Tryz.results111
theorem gO (m:Bd) (runs:List Int) {r:(List Int)} (h:R1 m runs=some r):Ad Tryz.prog 111 [.agg (Ca m),.sl 1 (runs.map Aw)] (·= .sl 1 (r.map Aw)):=(fJ m runs h).pure
def D7 (f_:Ak) (open_:List Int) (run:Int):Option (Bool):=
 (Ex f_.Map run).bind fun y1=>(Fu f_).bind fun y2=>(R9 f_.Map y2 open_ run).bind fun y3=>(bif y3 then(R1 f_.Map open_).bind fun y4=>(Bt y4 y1.1.To).bind fun y5=>some y5 else some false)
theorem Gb (f_:Ak) (open_:List Int) (run:Int) {r:Bool} (h:D7 f_ open_ run=some r):Ad Tryz.prog 49 [.agg (Bv f_),.sl 1 (open_.map Aw),.int .i64 run] (·= .bool r):=by
 refine Ad.nle (Ad.intro Tryz.func49 rfl rfl (by show _≤32;simp) ?_)
 unfold D7 at h
 refine nS (sq ?_)
 refine ar rfl (qn (sq ?_))
 refine rg rfl fun K j=>?_
 obtain⟨y1,hy1,h⟩:=Ah h
 refine Al.pure Tryz.call53 (D3 f_.Map run hy1) rfl fun _ hr=>?_
 subst hr
 refine nS ?_
 refine j _ _ (qn (sq ?_))
 refine AWP.draw Tryz.mixed (by kernel_rfl) ?_;intro K j
 refine nS ?_
 obtain⟨y2,hy2,h⟩:=Ah h
 refine Bz.pure Tryz.call110 (Wi f_ hy2) rfl ?_
 refine nS ?_
 obtain⟨y3,hy3,h⟩:=Ah h
 refine Bz.pure Tryz.call109 (fK f_.Map y2 open_ run hy3) rfl ?_
 refine nS ?_
 revert h;refine gt (fun hc h=>?_) fun hc h=>?_
 ·obtain⟨y4,hy4,h⟩:=Ah h
  refine Bz.pure Tryz.call111 (gO f_.Map open_ hy4) rfl ?_
  refine nS ?_
  obtain⟨y5,hy5,h⟩:=Ah h
  refine Bz.pure Tryz.call54 (Bx y4 y1.1.To hy5) rfl ?_
  refine nS ?_
  refine j _ _ _ (by kernel_rfl) ?_
  refine qn (rt ?_)
  cases h;exact en Tryz.results49
 refine j _ _ _ (by kernel_rfl) ?_
 refine qn (rt ?_)
 cases h;exact en Tryz.results49
def C0 (f_:Ak) (open_:List Int) (run:Int):Option (Int):=
 (Cz f_ run).bind fun y1=>(bif (decide (y1≠0))then some y1 else(D7 f_ open_ run).bind fun y2=>(bif (!y2)then some 16 else some 0))
theorem Dg (f_:Ak) (open_:List Int) (run:Int) {r:Int} (h:C0 f_ open_ run=some r):Ad Tryz.prog 18 [.agg (Bv f_),.sl 1 (open_.map Aw),.int .i64 run] (·= .int .i64 r):=by
 refine Ad.nle (Ad.intro Tryz.func18 rfl rfl (by show _≤19;simp) ?_)
 unfold C0 at h
 refine nS (sq ?_)
 refine ar rfl (qn (sq (sq ?_)))
 refine rg rfl fun K j=>?_
 obtain⟨y1,hy1,h⟩:=Ah h
 refine Al.pure Tryz.call48 (J0 f_ run hy1) rfl fun _ hr=>?_
 subst hr
 refine nS ?_
 refine j _ _ (qn (sq ?_))
 refine ar rfl (qn ?_)
 revert h;refine ca rfl (fun hc h=>?_) fun hc h=>?_
 ·refine sq (ar rfl (qn (rt (qr ?_))))
  cases h;exact en Tryz.results18
 refine sk (qn (sq (sq ?_)))
 refine rg rfl fun K j=>?_
 obtain⟨y2,hy2,h⟩:=Ah h
 refine Al.pure Tryz.call49 (Gb f_ open_ run hy2) rfl fun _ hr=>?_
 subst hr
 refine nS ?_
 refine j _ _ (qn ?_)
 revert h;refine ca rfl (fun hc h=>?_) fun hc h=>?_
 ·refine sq (ar rfl (qn (rt (qr ?_))))
  cases h;exact en Tryz.results18
 refine sk (qn (sq (ar rfl (qn (rt ?_)))))
 cases h;exact en Tryz.results18
def J4 (f_:Ak) (run:Int) (y2:(List Int)):Option (Ak×Int):=
 chk (y2.length+1) ((C0 f_ (y2++[run]) run).bind fun y7=>(bif (decide (y7≠0))then some ((Ak.mk (Bd.mk [] [] [] []) [] [] (Cb.mk [] []) [] [] [] [] [] [] [] [] 0 0),y7)else none))
def O6 (f_:Ak) (run:Int) (y2:(List Int)) (k3:Nat) (x_5:Bo) (sv:Unit):Option (Out (Unit) (Ak×Int)):=
 (bif (decide (x_5.Run=run))then ((bif (decide (((k3:Nat):Int)<0))then (bif (decide (64≤((f_.Status.length:Nat):Int)))then some ((Ak.mk (Bd.mk [] [] [] []) [] [] (Cb.mk [] []) [] [] [] [] [] [] [] [] 0 0),9)else J4 f_ run y2)else J4 f_ run y2)).bind fun q7=>some (Out.ret q7)else some (Out.next ()))
def Ht (f_:Ak) (run:Int):Option (Ak×Int):=
 (Ex f_.Map run).bind fun y1=>(bif (!y1.2)then some ((Ak.mk (Bd.mk [] [] [] []) [] [] (Cb.mk [] []) [] [] [] [] [] [] [] [] 0 0),8)else (Dk f_).bind fun y2=>(Bt y2 run).bind fun y3=>(bif y3 then some ((Ak.mk (Bd.mk [] [] [] []) [] [] (Cb.mk [] []) [] [] [] [] [] [] [] [] 0 0),7)else (Am (O6 f_ run y2) 0 f_.Status ()).bind fun o3=>o3.on fun s3=>(bif (decide (64≤((f_.Status.length:Nat):Int)))then some ((Ak.mk (Bd.mk [] [] [] []) [] [] (Cb.mk [] []) [] [] [] [] [] [] [] [] 0 0),9)else chk (y2.length+1) ((C0 f_ (y2++[run]) run).bind fun y9=>(bif (decide (y9≠0))then some ((Ak.mk (Bd.mk [] [] [] []) [] [] (Cb.mk [] []) [] [] [] [] [] [] [] [] 0 0),y9)else none)))))
theorem Ri (f_:Ak) (run:Int) {r:Ak×Int} (h:Ht f_ run=some r):Ad Tryz.prog 24 [.agg (Bv f_),.int .i64 run] (·= .tuple [.agg (Bv r.1),.int .i64 r.2]):=by
 refine Ad.nle (Ad.intro Tryz.func24 rfl rfl (by show _≤93;simp) ?_)
 unfold Ht at h
 refine nS (sq ?_)
 refine ar rfl (qn (sq (sq ?_)))
 refine rg rfl fun K j=>?_
 obtain⟨y1,hy1,h⟩:=Ah h
 refine Al.pure Tryz.call53 (D3 f_.Map run hy1) rfl fun _ hr=>?_
 subst hr
 refine nS ?_
 refine j _ _ (qn (sq ?_))
 refine ar rfl (qn ?_)
 revert h;refine ca rfl (fun hc h=>?_) fun hc h=>?_
 ·refine sq (ar rfl (qn (rt (qr ?_))))
  cases h;exact en Tryz.results24
 refine sk (qn (sq ?_))
 refine rg rfl fun K j=>?_
 obtain⟨y2,hy2,h⟩:=Ah h
 refine Al.row Tryz.call20 (bB f_ hy2) rfl 4 rfl ?_
 (try simp +decide -implicitDefEqProofs only[go_sem,List.length_map])
 refine j _ _ (qn (sq (sq ?_)))
 refine rg rfl fun K j=>?_
 obtain⟨y3,hy3,h⟩:=Ah h
 refine Al.snap Tryz.call54 (Bx y2 run hy3) (by simp +decide -implicitDefEqProofs only[go_sem]) (by rintro _ rfl;rfl) fun _ hr=>?_
 subst hr
 refine nS ?_
 refine j _ _ (qn ?_)
 revert h;refine ca rfl (fun hc h=>?_) fun hc h=>?_
 ·refine sq (ar rfl (qn (rt (qr ?_))))
  cases h;exact en Tryz.results24
 refine sk (qn (sq ?_))
 refine rg rfl fun K j=>?_
 refine Al.inline Tryz.call55 Tryz.func55 rfl rfl (by show _≤19;simp) ?_
 refine nS (sq ?_)
 refine ar rfl (qn (sq (sq ?_)))
 refine rg rfl fun K j=>?_
 intro hm
 refine j _ _ (qn (bk ?_));clear j K
 obtain⟨o3,hJ3,hO3⟩:=Ah h
 clear h
 refine AWP.Br (ι:=Nat×(Unit)×(Unit)) (fun zz=>[(0,.sl 3 (f_.Status.map A6)),(1,.func 56 [.ptr 1 0]),(7,.int .i64 ((f_.Status.length:Nat):Int)),(8,.int .i64 ((zz.1:Nat):Int))]) (fun zz=>[.box [.sl 2 (f_.Map.Nodes.map A9),.sl 8 (f_.Map.Lifts.map A7),.sl 7 (f_.Map.Runs.map Be),.sl 1 (f_.Map.Bases.map Aw),.sl 2 (f_.Lifts.map Az),.sl 4 (f_.Closures.map Aq),.sl 4 (f_.Patrol.Bw.map Ax),.sl 3 (f_.Patrol.Hazards.map A3),.sl 3 (f_.Surfaces.map Ba),.sl 5 (f_.Packs.map A4),.sl 6 (f_.Slides.map A5),.sl 7 (f_.Bulletin.map Au),.sl 7 (f_.Missions.map Ao),.sl 4 (f_.Winches.map Ap),.sl 8 (f_.Groomers.map A2),.sl 3 (f_.Status.map A6),.int .i64 f_.Depth,.int .i64 f_.Time],.box [.int .i64 run],.box [.nils,.nils,.nils,.nils,.nils,.nils,.nils,.nils,.nils,.nils,.nils,.nils,.nils,.nils,.nils,.nils,.int .i64 0,.int .i64 0],.box [.int .i64 y1.1.ID,.int .i64 y1.1.Operator,.int .i64 y1.1.From,.int .i64 y1.1.To,.int .i64 y1.1.Grade,.int .i64 y1.1.Zone,.int .i64 y1.1.Length],.row 0 1 (y2.map Aw)]) (fun zz=>zz.1≤f_.Status.length∧Am (O6 f_ run y2) zz.1 ((f_.Status).drop zz.1) zz.2.1=some o3) (fun zz=>f_.Status.length - zz.1) (0,(),()) ⟨Nat.zero_le _,hJ3⟩ cu cu (fun x=>⟨rfl,rfl,rfl⟩) ?_
 clear hJ3
 rintro⟨k3,⟨⟩,⟨⟩⟩ ⟨hk3,hJ3⟩
 dsimp only at hk3 hJ3 ⊢
 refine sq (ar rfl (qn (sq ?_)))
 refine AWP.cond (Aj (fun hc=>?_) (fun hc=>?_))
 rotate_left
 ·obtain rfl:=Bc hJ3 (fun hl=>by have:=Ajo hc;omega)
  have h:=Bb hO3;try dsimp only at h
  have hkl:f_.Status.length=k3:=by have:=Ajo hc;omega
  subst hkl
  refine xt (qe (qe (bs (qn (sq (ar rfl (qn (rt ?_))))))))
  refine nSc Tryz.results55 ?_
  refine j _ _ (qn (sq (sq ?_)))
  refine rg rfl fun K j=>?_
  intro hm
  refine j _ _ (qn ?_)
  revert h;refine ca rfl (fun hc h=>?_) fun hc h=>?_
  ·refine sq (ar rfl (qn (rt (qr ?_))))
   cases h;exact en Tryz.results24
  refine sk (qn (sq (sq ?_)))
  refine AWP.draw Tryz.mixed (by kernel_rfl) ?_;intro K j
  refine nS ?_
  obtain⟨hk,h⟩:=B1 h
  (repeat refine rp ?_);try simp +decide -implicitDefEqProofs only[go_sem]
  obtain⟨y9,hy9,h⟩:=Ah h
  refine Bz.snap Tryz.call18 (Dg f_ (y2++[run]) run hy9) (by simp +decide -implicitDefEqProofs only[go_sem]) rfl ?_
  refine nS ?_
  refine j _ _ _ (by kernel_rfl) ?_
  refine qn (sq (ar rfl (qn ?_)))
  revert h;refine ca rfl (fun hc h=>?_) fun hc h=>?_
  ·refine sq (ar rfl (qn (rt (qr ?_))))
   cases h;exact en Tryz.results24
  refine sk (qn (sq ?_))
  refine rg rfl fun K j=>?_
  cases h
 have hlt3:k3<f_.Status.length:=by have:=Ajp hc;omega
 obtain⟨x_5,b3,hx3_,h,hJ3⟩:=A1 hJ3 hlt3
 have hx3:=Ay hx3_
 have hw3:=wk (k:=k3) (by omega)
 unfold O6 at h;try dsimp only at h
 refine sk (qn (sq (bk (sq (ar rfl (qn (sq ?_)))))))
 refine rg rfl fun K j=>?_
 refine Bk.of (f:=A6) (l:=f_.Status) hx3 ?_
 refine nS ?_
 refine Al.inline Tryz.call56 Tryz.func56 rfl rfl (by show _≤8;simp) ?_
 refine nS (sq ?_)
 refine ar rfl (qn (sq ?_))
 refine ar rfl (qn (rt ?_))
 refine nSc Tryz.results56 ?_
 refine j _ _ (qn ?_);clear j K
 revert h;refine ca rfl (fun hc h=>?_) fun hc h=>?_
 ·refine sq (ar rfl (qn (rt (br (qr (qr ?_))))))
  obtain⟨q7,hq,h⟩:=Ah h
  obtain rfl:=Aa h
  obtain rfl:=Af hJ3
  replace h:=hq.trans (An hO3)
  refine br (qr (nSc Tryz.results55 ?_))
  refine j _ _ (qn ?_)
  refine AWP.It (ι:=(Unit)×(Unit)) (fun zz=>[(2,.ptr 0 0),(3,.ptr 1 0),(4,.ptr 2 0),(8,.own 4 0 0 y2.length),(9,.int .i64 ((k3:Nat):Int))]) (fun zz=>[.box [.sl 2 (f_.Map.Nodes.map A9),.sl 8 (f_.Map.Lifts.map A7),.sl 7 (f_.Map.Runs.map Be),.sl 1 (f_.Map.Bases.map Aw),.sl 2 (f_.Lifts.map Az),.sl 4 (f_.Closures.map Aq),.sl 4 (f_.Patrol.Bw.map Ax),.sl 3 (f_.Patrol.Hazards.map A3),.sl 3 (f_.Surfaces.map Ba),.sl 5 (f_.Packs.map A4),.sl 6 (f_.Slides.map A5),.sl 7 (f_.Bulletin.map Au),.sl 7 (f_.Missions.map Ao),.sl 4 (f_.Winches.map Ap),.sl 8 (f_.Groomers.map A2),.sl 3 (f_.Status.map A6),.int .i64 f_.Depth,.int .i64 f_.Time],.box [.int .i64 run],.box [.nils,.nils,.nils,.nils,.nils,.nils,.nils,.nils,.nils,.nils,.nils,.nils,.nils,.nils,.nils,.nils,.int .i64 0,.int .i64 0],.gone,.row 0 1 (y2.map Aw)]) (fun zz=>J4 f_ run y2=some r) (fun zz=>⟨rfl,rfl,rfl⟩) ?_ ?_
  ·refine sq ?_
   refine rg rfl fun K j=>?_
   revert h;refine gt (fun hc h=>?_) fun hc h=>?_
   ·intro hm
    refine j _ _ (qn ?_)
    revert h;refine ca rfl (fun hc h=>?_) fun hc h=>?_
    ·refine sq (ar rfl (qn (rt (qr ?_))))
     cases h;exact en Tryz.results24
    refine sk (qn ?_)
    exact⟨((),()),h,cu,cu⟩
   refine j _ _ (qn ?_)
   refine AWP.cond (Bg ?_)
   refine sk (qn ?_)
   exact⟨((),()),h,cu,cu⟩
  rintro⟨⟨⟩,⟨⟩⟩ h
  try dsimp only at h ⊢
  unfold J4 at h;try dsimp only at h
  refine sq (sq ?_)
  refine AWP.draw Tryz.mixed (by kernel_rfl) ?_;intro K j
  refine nS ?_
  obtain⟨hk,h⟩:=B1 h
  (repeat refine rp ?_);try simp +decide -implicitDefEqProofs only[go_sem]
  obtain⟨y7,hy7,h⟩:=Ah h
  refine Bz.snap Tryz.call18 (Dg f_ (y2++[run]) run hy7) (by simp +decide -implicitDefEqProofs only[go_sem]) rfl ?_
  refine nS ?_
  refine j _ _ _ (by kernel_rfl) ?_
  refine qn (sq (ar rfl (qn ?_)))
  revert h;refine ca rfl (fun hc h=>?_) fun hc h=>?_
  ·refine sq (ar rfl (qn (rt (qr ?_))))
   cases h;exact en Tryz.results24
  refine sk (qn (sq ?_))
  refine rg rfl fun K j=>?_
  cases h
 refine sk (bn (qn (ar rfl (qn ?_))))
 obtain rfl:=Aa h
 refine⟨(k3+1,(),()),⟨by dsimp only;omega,Ae hJ3⟩,by dsimp only;omega,?_,?_⟩
 ·exact cuw hw3
 exact cuw hw3
def Cs (n_:Int) (least:Int) (most:Int):Option (Bool):=
 (bif (decide (least≤n_))then some (decide (n_≤most))else some false)
theorem Cc (n_:Int) (least:Int) (most:Int) {r:Bool} (h:Cs n_ least most=some r):Ad Tryz.prog 238 [.int .i64 n_,.int .i64 least,.int .i64 most] (·= .bool r):=by
 refine Ad.nle (Ad.intro Tryz.func238 rfl rfl (by show _≤15;simp) ?_)
 unfold Cs at h
 refine nS (sq ?_)
 refine ar rfl (qn (sq ?_))
 refine rg rfl fun K j=>?_
 revert h;refine gt (fun hc h=>?_) fun hc h=>?_
 ·refine j _ _ (qn (rt ?_))
  cases h;exact en Tryz.results238
 refine j _ _ (qn (rt ?_))
 cases h;exact en Tryz.results238
def Jt (m:Bd) (k0:Nat) (x_2:Cl) (sv:Unit):Option (Out (Unit) (Int)):=
 (Cs x_2.ID 1 9999).bind fun y3=>(bif (!y3)then some (Out.ret 2)else (Cs x_2.Alt 0 5000).bind fun y4=>(bif (!y4)then some (Out.ret 2)else (bif (decide (0<((k0:Nat):Int)))then (Dl m.Nodes (IntKind.i64.wrap (((k0:Nat):Int) - 1))).bind fun x_5=>(bif (decide (x_2.ID≤x_5.ID))then some (Out.ret 7)else some (Out.next ()))else some (Out.next ()))))
def Nh (m:Bd):Option (Int):=
 (Am (Jt m) 0 m.Nodes ()).bind fun o0=>o0.on fun s0=>some 0
theorem Up (m:Bd) {r:Int} (h:Nh m=some r):Ad Tryz.prog 153 [.agg (Ca m)] (·= .int .i64 r):=by
 refine Ad.nle (Ad.intro Tryz.func153 rfl rfl (by show _≤38;simp) ?_)
 unfold Nh at h
 refine nS (sq ?_)
 refine ar rfl (qn (sq (sq ?_)))
 refine rg rfl fun K j=>?_
 intro hm
 refine j _ _ (qn (bk ?_))
 obtain⟨o0,hJ0,hO0⟩:=Ah h
 clear h
 refine AWP.Br (ι:=Nat×(Unit)×(Unit)) (fun zz=>[(1,.ptr 0 0),(6,.sl 2 (m.Nodes.map A9)),(7,.int .i64 ((m.Nodes.length:Nat):Int)),(8,.int .i64 ((zz.1:Nat):Int))]) (fun zz=>[.box [.sl 2 (m.Nodes.map A9),.sl 8 (m.Lifts.map A7),.sl 7 (m.Runs.map Be),.sl 1 (m.Bases.map Aw)]]) (fun zz=>zz.1≤m.Nodes.length∧Am (Jt m) zz.1 ((m.Nodes).drop zz.1) zz.2.1=some o0) (fun zz=>m.Nodes.length - zz.1) (0,(),()) ⟨Nat.zero_le _,hJ0⟩ cu cu (fun x=>⟨rfl,rfl,rfl⟩) ?_
 clear hJ0
 rintro⟨k0,⟨⟩,⟨⟩⟩ ⟨hk0,hJ0⟩
 dsimp only at hk0 hJ0 ⊢
 refine sq (ar rfl (qn (sq ?_)))
 refine AWP.cond (Aj (fun hc=>?_) (fun hc=>?_))
 rotate_left
 ·obtain rfl:=Bc hJ0 (fun hl=>by have:=Ajo hc;omega)
  have h:=Bb hO0;try dsimp only at h
  have hkl:m.Nodes.length=k0:=by have:=Ajo hc;omega
  subst hkl
  refine xt (qe (qe (bs (qn (sq (ar rfl (qn (rt ?_))))))))
  cases h;exact en Tryz.results153
 have hlt0:k0<m.Nodes.length:=by have:=Ajp hc;omega
 obtain⟨x_2,b0,hx0_,h,hJ0⟩:=A1 hJ0 hlt0
 have hx0:=Ay hx0_
 have hw0:=wk (k:=k0) (by omega)
 unfold Jt at h;try dsimp only at h
 refine sk (qn (sq (bk (sq ?_))))
 refine rg rfl fun K j=>?_
 refine Bk.of (f:=A9) (l:=m.Nodes) hx0 ?_
 refine nS ?_
 refine j _ _ (qn (sq (sq ?_)))
 refine rg rfl fun K j=>?_
 obtain⟨y3,hy3,h⟩:=Ah h
 refine Al.pure Tryz.call238 (Cc x_2.ID 1 9999 hy3) rfl fun _ hr=>?_
 subst hr
 refine nS ?_
 revert h;refine gf (fun hc h=>?_) fun hc h=>?_
 rotate_left
 ·refine j _ _ (qn ?_)
  refine AWP.cond (Ai ?_)
  refine sq (ar rfl (qn (rt (qr (br (qr (qr ?_)))))))
  obtain rfl:=Aa h
  obtain rfl:=Af hJ0
  replace h:=An hO0
  refine br (qr ?_)
  cases h;exact en Tryz.results153
 obtain⟨y4,hy4,h⟩:=Ah h
 refine Al.pure Tryz.call238 (Cc x_2.Alt 0 5000 hy4) rfl fun _ hr=>?_
 subst hr
 refine nS ?_
 refine j _ _ (qn ?_)
 revert h;refine ca rfl (fun hc h=>?_) fun hc h=>?_
 ·refine sq (ar rfl (qn (rt (qr (br (qr (qr ?_)))))))
  obtain rfl:=Aa h
  obtain rfl:=Af hJ0
  replace h:=An hO0
  refine br (qr ?_)
  cases h;exact en Tryz.results153
 refine sk (qn (sq ?_))
 refine AWP.draw Tryz.mixed (by kernel_rfl) ?_;intro K j
 refine nS ?_
 revert h;refine gt (fun hc h=>?_) fun hc h=>?_
 ·obtain⟨x_5,hx_5,h⟩:=Ah h
  refine Bk.of (f:=A9) (l:=m.Nodes) hx_5 ?_
  refine nS ?_
  refine j _ _ _ (by kernel_rfl) ?_
  refine qn ?_
  revert h;refine ca rfl (fun hc h=>?_) fun hc h=>?_
  ·refine sq (ar rfl (qn (rt (br (qr (qr ?_))))))
   obtain rfl:=Aa h
   obtain rfl:=Af hJ0
   replace h:=An hO0
   refine br (qr ?_)
   cases h;exact en Tryz.results153
  refine sk (bn (qn (ar rfl (qn ?_))))
  obtain rfl:=Aa h
  refine⟨(k0+1,(),()),⟨by dsimp only;omega,Ae hJ0⟩,by dsimp only;omega,?_,?_⟩
  ·exact cuw hw0
  exact cuw hw0
 refine j _ _ _ (by kernel_rfl) ?_
 refine qn ?_
 refine AWP.cond (Bg ?_)
 refine sk (bn (qn (ar rfl (qn ?_))))
 obtain rfl:=Aa h
 refine⟨(k0+1,(),()),⟨by dsimp only;omega,Ae hJ0⟩,by dsimp only;omega,?_,?_⟩
 ·exact cuw hw0
 exact cuw hw0
def F8 (m:Bd) (x_2:Ce):Option (Out (Unit) (Int)):=
 (Dz m x_2.From).bind fun y10=>(Dz m x_2.To).bind fun y11=>(bif (!y10.2)then some (Out.ret 8)else (bif (!y11.2)then some (Out.ret 8)else (bif (decide (y11.1.Alt≤y10.1.Alt))then some (Out.ret 11)else nz x_2.Spacing ((bif (decide ((Int.tmod (IntKind.i64.wrap (2*x_2.Length)) x_2.Spacing)≠0))then some (Out.ret 1)else nz x_2.Spacing ((Cs (IntKind.i64.wrap (Int.tdiv (IntKind.i64.wrap (2*x_2.Length)) x_2.Spacing)) 1 200).bind fun y12=>(bif (!y12)then some (Out.ret 1)else some (Out.next ()))))))))
def Ju (m:Bd) (k0:Nat) (x_2:Ce) (sv:Unit):Option (Out (Unit) (Int)):=
 (Cs x_2.ID 1 9999).bind fun y3=>(bif (!y3)then some (Out.ret 2)else (Cs x_2.Operator 1 8).bind fun y4=>(bif (!y4)then some (Out.ret 2)else (Cs x_2.Length 10 6000).bind fun y5=>(bif (!y5)then some (Out.ret 2)else (Cs x_2.Speed 500 12000).bind fun y6=>(bif (!y6)then some (Out.ret 2)else (Cs x_2.Seats 1 16).bind fun y7=>(bif (!y7)then some (Out.ret 2)else (Cs x_2.Spacing 5 1000).bind fun y8=>(bif (!y8)then some (Out.ret 2)else (bif (decide (0<((k0:Nat):Int)))then (Dl m.Lifts (IntKind.i64.wrap (((k0:Nat):Int) - 1))).bind fun x_13=>(bif (decide (x_2.ID≤x_13.ID))then some (Out.ret 7)else F8 m x_2)else F8 m x_2)))))))
def Ni (m:Bd):Option (Int):=
 (Am (Ju m) 0 m.Lifts ()).bind fun o0=>o0.on fun s0=>some 0
theorem Uq (m:Bd) {r:Int} (h:Ni m=some r):Ad Tryz.prog 154 [.agg (Ca m)] (·= .int .i64 r):=by
 refine Ad.nle (Ad.intro Tryz.func154 rfl rfl (by show _≤108;simp) ?_)
 unfold Ni at h
 refine nS (sq ?_)
 refine ar rfl (qn (sq (sq ?_)))
 refine rg rfl fun K j=>?_
 intro hm
 refine j _ _ (qn (bk ?_))
 obtain⟨o0,hJ0,hO0⟩:=Ah h
 clear h
 refine AWP.Br (ι:=Nat×(Unit)×(Unit)) (fun zz=>[(1,.ptr 0 0),(10,.sl 8 (m.Lifts.map A7)),(11,.int .i64 ((m.Lifts.length:Nat):Int)),(12,.int .i64 ((zz.1:Nat):Int))]) (fun zz=>[.box [.sl 2 (m.Nodes.map A9),.sl 8 (m.Lifts.map A7),.sl 7 (m.Runs.map Be),.sl 1 (m.Bases.map Aw)]]) (fun zz=>zz.1≤m.Lifts.length∧Am (Ju m) zz.1 ((m.Lifts).drop zz.1) zz.2.1=some o0) (fun zz=>m.Lifts.length - zz.1) (0,(),()) ⟨Nat.zero_le _,hJ0⟩ cu cu (fun x=>⟨rfl,rfl,rfl⟩) ?_
 clear hJ0
 rintro⟨k0,⟨⟩,⟨⟩⟩ ⟨hk0,hJ0⟩
 dsimp only at hk0 hJ0 ⊢
 refine sq (ar rfl (qn (sq ?_)))
 refine AWP.cond (Aj (fun hc=>?_) (fun hc=>?_))
 rotate_left
 ·obtain rfl:=Bc hJ0 (fun hl=>by have:=Ajo hc;omega)
  have h:=Bb hO0;try dsimp only at h
  have hkl:m.Lifts.length=k0:=by have:=Ajo hc;omega
  subst hkl
  refine xt (qe (qe (bs (qn (sq (ar rfl (qn (rt ?_))))))))
  cases h;exact en Tryz.results154
 have hlt0:k0<m.Lifts.length:=by have:=Ajp hc;omega
 obtain⟨x_2,b0,hx0_,h,hJ0⟩:=A1 hJ0 hlt0
 have hx0:=Ay hx0_
 have hw0:=wk (k:=k0) (by omega)
 unfold Ju at h;try dsimp only at h
 refine sk (qn (sq (bk (sq ?_))))
 refine rg rfl fun K j=>?_
 refine Bk.of (f:=A7) (l:=m.Lifts) hx0 ?_
 refine nS ?_
 refine j _ _ (qn (sq (sq ?_)))
 refine rg rfl fun K j=>?_
 obtain⟨y3,hy3,h⟩:=Ah h
 refine Al.pure Tryz.call238 (Cc x_2.ID 1 9999 hy3) rfl fun _ hr=>?_
 subst hr
 refine nS ?_
 revert h;refine gf (fun hc h=>?_) fun hc h=>?_
 rotate_left
 ·refine j _ _ (qn ?_)
  refine AWP.cond (Ai ?_)
  refine sq (ar rfl (qn (rt (qr (br (qr (qr ?_)))))))
  obtain rfl:=Aa h
  obtain rfl:=Af hJ0
  replace h:=An hO0
  refine br (qr ?_)
  cases h;exact en Tryz.results154
 obtain⟨y4,hy4,h⟩:=Ah h
 refine Al.pure Tryz.call238 (Cc x_2.Operator 1 8 hy4) rfl fun _ hr=>?_
 subst hr
 refine nS ?_
 revert h;refine gf (fun hc h=>?_) fun hc h=>?_
 rotate_left
 ·refine j _ _ (qn ?_)
  refine AWP.cond (Ai ?_)
  refine sq (ar rfl (qn (rt (qr (br (qr (qr ?_)))))))
  obtain rfl:=Aa h
  obtain rfl:=Af hJ0
  replace h:=An hO0
  refine br (qr ?_)
  cases h;exact en Tryz.results154
 obtain⟨y5,hy5,h⟩:=Ah h
 refine Al.pure Tryz.call238 (Cc x_2.Length 10 6000 hy5) rfl fun _ hr=>?_
 subst hr
 refine nS ?_
 revert h;refine gf (fun hc h=>?_) fun hc h=>?_
 rotate_left
 ·refine j _ _ (qn ?_)
  refine AWP.cond (Ai ?_)
  refine sq (ar rfl (qn (rt (qr (br (qr (qr ?_)))))))
  obtain rfl:=Aa h
  obtain rfl:=Af hJ0
  replace h:=An hO0
  refine br (qr ?_)
  cases h;exact en Tryz.results154
 obtain⟨y6,hy6,h⟩:=Ah h
 refine Al.pure Tryz.call238 (Cc x_2.Speed 500 12000 hy6) rfl fun _ hr=>?_
 subst hr
 refine nS ?_
 revert h;refine gf (fun hc h=>?_) fun hc h=>?_
 rotate_left
 ·refine j _ _ (qn ?_)
  refine AWP.cond (Ai ?_)
  refine sq (ar rfl (qn (rt (qr (br (qr (qr ?_)))))))
  obtain rfl:=Aa h
  obtain rfl:=Af hJ0
  replace h:=An hO0
  refine br (qr ?_)
  cases h;exact en Tryz.results154
 obtain⟨y7,hy7,h⟩:=Ah h
 refine Al.pure Tryz.call238 (Cc x_2.Seats 1 16 hy7) rfl fun _ hr=>?_
 subst hr
 refine nS ?_
 revert h;refine gf (fun hc h=>?_) fun hc h=>?_
 rotate_left
 ·refine j _ _ (qn ?_)
  refine AWP.cond (Ai ?_)
  refine sq (ar rfl (qn (rt (qr (br (qr (qr ?_)))))))
  obtain rfl:=Aa h
  obtain rfl:=Af hJ0
  replace h:=An hO0
  refine br (qr ?_)
  cases h;exact en Tryz.results154
 obtain⟨y8,hy8,h⟩:=Ah h
 refine Al.pure Tryz.call238 (Cc x_2.Spacing 5 1000 hy8) rfl fun _ hr=>?_
 subst hr
 refine nS ?_
 refine j _ _ (qn ?_)
 revert h;refine ca rfl (fun hc h=>?_) fun hc h=>?_
 ·refine sq (ar rfl (qn (rt (qr (br (qr (qr ?_)))))))
  obtain rfl:=Aa h
  obtain rfl:=Af hJ0
  replace h:=An hO0
  refine br (qr ?_)
  cases h;exact en Tryz.results154
 refine sk (qn ?_)
 refine AWP.It (ι:=(Unit)×(Unit)) (fun zz=>[(1,.ptr 0 0),(4,.ptr 1 0),(10,.sl 8 (m.Lifts.map A7)),(11,.int .i64 ((m.Lifts.length:Nat):Int)),(12,.int .i64 ((k0:Nat):Int))]) (fun zz=>[.box [.sl 2 (m.Nodes.map A9),.sl 8 (m.Lifts.map A7),.sl 7 (m.Runs.map Be),.sl 1 (m.Bases.map Aw)],.box [.int .i64 x_2.ID,.int .i64 x_2.Operator,.int .i64 x_2.From,.int .i64 x_2.To,.int .i64 x_2.Length,.int .i64 x_2.Speed,.int .i64 x_2.Seats,.int .i64 x_2.Spacing]]) (fun zz=>F8 m x_2=some b0) (fun zz=>⟨rfl,rfl,rfl⟩) ?_ ?_
 ·refine sq ?_
  refine AWP.draw Tryz.mixed (by kernel_rfl) ?_;intro K j
  refine nS ?_
  revert h;refine gt (fun hc h=>?_) fun hc h=>?_
  ·obtain⟨x_13,hx_13,h⟩:=Ah h
   refine Bk.of (f:=A7) (l:=m.Lifts) hx_13 ?_
   refine nS ?_
   refine j _ _ _ (by kernel_rfl) ?_
   refine qn ?_
   revert h;refine ca rfl (fun hc h=>?_) fun hc h=>?_
   ·refine sq (ar rfl (qn (rt (qr (br (qr (qr ?_)))))))
    obtain rfl:=Aa h
    obtain rfl:=Af hJ0
    replace h:=An hO0
    refine br (qr ?_)
    cases h;exact en Tryz.results154
   refine sk (qn ?_)
   exact⟨((),()),h,cu,cu⟩
  refine j _ _ _ (by kernel_rfl) ?_
  refine qn ?_
  refine AWP.cond (Bg ?_)
  refine sk (qn ?_)
  exact⟨((),()),h,cu,cu⟩
 rintro⟨⟨⟩,⟨⟩⟩ h
 try dsimp only at h ⊢
 unfold F8 at h;try dsimp only at h
 refine sq ?_
 refine rg rfl fun K j=>?_
 obtain⟨y10,hy10,h⟩:=Ah h
 refine Al.pure Tryz.call96 (Dm m x_2.From hy10) rfl fun _ hr=>?_
 subst hr
 refine nS ?_
 refine j _ _ (qn (sq ?_))
 refine rg rfl fun K j=>?_
 obtain⟨y11,hy11,h⟩:=Ah h
 refine Al.pure Tryz.call96 (Dm m x_2.To hy11) rfl fun _ hr=>?_
 subst hr
 refine nS ?_
 refine j _ _ (qn (sq (sq ?_)))
 refine rg rfl fun K j=>?_
 revert h;refine gf (fun hc h=>?_) fun hc h=>?_
 rotate_left
 ·refine j _ _ (qn ?_)
  refine AWP.cond (Ai ?_)
  refine sq (ar rfl (qn (rt (qr (br (qr (qr ?_)))))))
  obtain rfl:=Aa h
  obtain rfl:=Af hJ0
  replace h:=An hO0
  refine br (qr ?_)
  cases h;exact en Tryz.results154
 refine j _ _ (qn ?_)
 revert h;refine ca rfl (fun hc h=>?_) fun hc h=>?_
 ·refine sq (ar rfl (qn (rt (qr (br (qr (qr ?_)))))))
  obtain rfl:=Aa h
  obtain rfl:=Af hJ0
  replace h:=An hO0
  refine br (qr ?_)
  cases h;exact en Tryz.results154
 refine sk (qn (sq (sq (ar rfl (qn ?_)))))
 revert h;refine ca rfl (fun hc h=>?_) fun hc h=>?_
 ·refine sq (ar rfl (qn (rt (qr (br (qr (qr ?_)))))))
  obtain rfl:=Aa h
  obtain rfl:=Af hJ0
  replace h:=An hO0
  refine br (qr ?_)
  cases h;exact en Tryz.results154
 refine sk (qn (sq ?_))
 refine rg rfl fun K j=>?_
 obtain⟨hk,h⟩:=kS h
 refine⟨hk,?_⟩
 revert h;refine gf (fun hc h=>?_) fun hc h=>?_
 ·obtain⟨hk,h⟩:=kS h
  refine⟨hk,?_⟩
  obtain⟨y12,hy12,h⟩:=Ah h
  refine Al.pure Tryz.call238 (Cc (IntKind.i64.wrap (Int.tdiv (IntKind.i64.wrap (2*x_2.Length)) x_2.Spacing)) 1 200 hy12) rfl fun _ hr=>?_
  subst hr
  refine nS ?_
  refine j _ _ (qn ?_)
  revert h;refine ca rfl (fun hc h=>?_) fun hc h=>?_
  ·refine sq (ar rfl (qn (rt (br (qr (qr ?_))))))
   obtain rfl:=Aa h
   obtain rfl:=Af hJ0
   replace h:=An hO0
   refine br (qr ?_)
   cases h;exact en Tryz.results154
  refine sk (bn (qn (ar rfl (qn ?_))))
  obtain rfl:=Aa h
  refine⟨(k0+1,(),()),⟨by dsimp only;omega,Ae hJ0⟩,by dsimp only;omega,?_,?_⟩
  ·exact cuw hw0
  exact cuw hw0
 refine j _ _ (qn ?_)
 refine AWP.cond (Ai ?_)
 refine sq (ar rfl (qn (rt (br (qr (qr ?_))))))
 obtain rfl:=Aa h
 obtain rfl:=Af hJ0
 replace h:=An hO0
 refine br (qr ?_)
 cases h;exact en Tryz.results154
def Kg (m:Bd) (k0:Nat) (x_2:Cf) (sv:Unit):Option (Out (Unit) (Int)):=
 (Cs x_2.ID 1 9999).bind fun y3=>(bif (!y3)then some (Out.ret 2)else (Cs x_2.Operator 1 8).bind fun y4=>(bif (!y4)then some (Out.ret 2)else (Cs x_2.Grade 1 4).bind fun y5=>(bif (!y5)then some (Out.ret 2)else (Cs x_2.Zone 1 32).bind fun y6=>(bif (!y6)then some (Out.ret 2)else (Cs x_2.Length 10 20000).bind fun y7=>(bif (!y7)then some (Out.ret 2)else (bif (decide (0<((k0:Nat):Int)))then (Dl m.Runs (IntKind.i64.wrap (((k0:Nat):Int) - 1))).bind fun x_8=>(bif (decide (x_2.ID≤x_8.ID))then some (Out.ret 7)else (Dz m x_2.From).bind fun y9=>(Dz m x_2.To).bind fun y10=>(bif (!y9.2)then some (Out.ret 8)else (bif (!y10.2)then some (Out.ret 8)else (bif (decide (y9.1.Alt≤y10.1.Alt))then some (Out.ret 11)else some (Out.next ())))))else (Dz m x_2.From).bind fun y11=>(Dz m x_2.To).bind fun y12=>(bif (!y11.2)then some (Out.ret 8)else (bif (!y12.2)then some (Out.ret 8)else (bif (decide (y11.1.Alt≤y12.1.Alt))then some (Out.ret 11)else some (Out.next ()))))))))))
def Oc (m:Bd):Option (Int):=
 (Am (Kg m) 0 m.Runs ()).bind fun o0=>o0.on fun s0=>some 0
theorem U9 (m:Bd) {r:Int} (h:Oc m=some r):Ad Tryz.prog 155 [.agg (Ca m)] (·= .int .i64 r):=by
 refine Ad.nle (Ad.intro Tryz.func155 rfl rfl (by show _≤85;simp) ?_)
 unfold Oc at h
 refine nS (sq ?_)
 refine ar rfl (qn (sq (sq ?_)))
 refine rg rfl fun K j=>?_
 intro hm
 refine j _ _ (qn (bk ?_))
 obtain⟨o0,hJ0,hO0⟩:=Ah h
 clear h
 refine AWP.Br (ι:=Nat×(Unit)×(Unit)) (fun zz=>[(1,.ptr 0 0),(10,.sl 7 (m.Runs.map Be)),(11,.int .i64 ((m.Runs.length:Nat):Int)),(12,.int .i64 ((zz.1:Nat):Int))]) (fun zz=>[.box [.sl 2 (m.Nodes.map A9),.sl 8 (m.Lifts.map A7),.sl 7 (m.Runs.map Be),.sl 1 (m.Bases.map Aw)]]) (fun zz=>zz.1≤m.Runs.length∧Am (Kg m) zz.1 ((m.Runs).drop zz.1) zz.2.1=some o0) (fun zz=>m.Runs.length - zz.1) (0,(),()) ⟨Nat.zero_le _,hJ0⟩ cu cu (fun x=>⟨rfl,rfl,rfl⟩) ?_
 clear hJ0
 rintro⟨k0,⟨⟩,⟨⟩⟩ ⟨hk0,hJ0⟩
 dsimp only at hk0 hJ0 ⊢
 refine sq (ar rfl (qn (sq ?_)))
 refine AWP.cond (Aj (fun hc=>?_) (fun hc=>?_))
 rotate_left
 ·obtain rfl:=Bc hJ0 (fun hl=>by have:=Ajo hc;omega)
  have h:=Bb hO0;try dsimp only at h
  have hkl:m.Runs.length=k0:=by have:=Ajo hc;omega
  subst hkl
  refine xt (qe (qe (bs (qn (sq (ar rfl (qn (rt ?_))))))))
  cases h;exact en Tryz.results155
 have hlt0:k0<m.Runs.length:=by have:=Ajp hc;omega
 obtain⟨x_2,b0,hx0_,h,hJ0⟩:=A1 hJ0 hlt0
 have hx0:=Ay hx0_
 have hw0:=wk (k:=k0) (by omega)
 unfold Kg at h;try dsimp only at h
 refine sk (qn (sq (bk (sq ?_))))
 refine rg rfl fun K j=>?_
 refine Bk.of (f:=Be) (l:=m.Runs) hx0 ?_
 refine nS ?_
 refine j _ _ (qn (sq (sq ?_)))
 refine rg rfl fun K j=>?_
 obtain⟨y3,hy3,h⟩:=Ah h
 refine Al.pure Tryz.call238 (Cc x_2.ID 1 9999 hy3) rfl fun _ hr=>?_
 subst hr
 refine nS ?_
 revert h;refine gf (fun hc h=>?_) fun hc h=>?_
 rotate_left
 ·refine j _ _ (qn ?_)
  refine AWP.cond (Ai ?_)
  refine sq (ar rfl (qn (rt (qr (br (qr (qr ?_)))))))
  obtain rfl:=Aa h
  obtain rfl:=Af hJ0
  replace h:=An hO0
  refine br (qr ?_)
  cases h;exact en Tryz.results155
 obtain⟨y4,hy4,h⟩:=Ah h
 refine Al.pure Tryz.call238 (Cc x_2.Operator 1 8 hy4) rfl fun _ hr=>?_
 subst hr
 refine nS ?_
 revert h;refine gf (fun hc h=>?_) fun hc h=>?_
 rotate_left
 ·refine j _ _ (qn ?_)
  refine AWP.cond (Ai ?_)
  refine sq (ar rfl (qn (rt (qr (br (qr (qr ?_)))))))
  obtain rfl:=Aa h
  obtain rfl:=Af hJ0
  replace h:=An hO0
  refine br (qr ?_)
  cases h;exact en Tryz.results155
 obtain⟨y5,hy5,h⟩:=Ah h
 refine Al.pure Tryz.call238 (Cc x_2.Grade 1 4 hy5) rfl fun _ hr=>?_
 subst hr
 refine nS ?_
 revert h;refine gf (fun hc h=>?_) fun hc h=>?_
 rotate_left
 ·refine j _ _ (qn ?_)
  refine AWP.cond (Ai ?_)
  refine sq (ar rfl (qn (rt (qr (br (qr (qr ?_)))))))
  obtain rfl:=Aa h
  obtain rfl:=Af hJ0
  replace h:=An hO0
  refine br (qr ?_)
  cases h;exact en Tryz.results155
 obtain⟨y6,hy6,h⟩:=Ah h
 refine Al.pure Tryz.call238 (Cc x_2.Zone 1 32 hy6) rfl fun _ hr=>?_
 subst hr
 refine nS ?_
 revert h;refine gf (fun hc h=>?_) fun hc h=>?_
 rotate_left
 ·refine j _ _ (qn ?_)
  refine AWP.cond (Ai ?_)
  refine sq (ar rfl (qn (rt (qr (br (qr (qr ?_)))))))
  obtain rfl:=Aa h
  obtain rfl:=Af hJ0
  replace h:=An hO0
  refine br (qr ?_)
  cases h;exact en Tryz.results155
 obtain⟨y7,hy7,h⟩:=Ah h
 refine Al.pure Tryz.call238 (Cc x_2.Length 10 20000 hy7) rfl fun _ hr=>?_
 subst hr
 refine nS ?_
 refine j _ _ (qn ?_)
 revert h;refine ca rfl (fun hc h=>?_) fun hc h=>?_
 ·refine sq (ar rfl (qn (rt (qr (br (qr (qr ?_)))))))
  obtain rfl:=Aa h
  obtain rfl:=Af hJ0
  replace h:=An hO0
  refine br (qr ?_)
  cases h;exact en Tryz.results155
 refine sk (qn (sq (sq ?_)))
 refine AWP.draw Tryz.mixed (by kernel_rfl) ?_;intro K j
 refine nS ?_
 revert h;refine gt (fun hc h=>?_) fun hc h=>?_
 ·obtain⟨x_8,hx_8,h⟩:=Ah h
  refine Bk.of (f:=Be) (l:=m.Runs) hx_8 ?_
  refine nS ?_
  refine j _ _ _ (by kernel_rfl) ?_
  refine qn ?_
  revert h;refine ca rfl (fun hc h=>?_) fun hc h=>?_
  ·refine sq (ar rfl (qn (rt (qr (br (qr (qr ?_)))))))
   obtain rfl:=Aa h
   obtain rfl:=Af hJ0
   replace h:=An hO0
   refine br (qr ?_)
   cases h;exact en Tryz.results155
  refine sk (qn (sq ?_))
  refine rg rfl fun K j=>?_
  obtain⟨y9,hy9,h⟩:=Ah h
  refine Al.pure Tryz.call96 (Dm m x_2.From hy9) rfl fun _ hr=>?_
  subst hr
  refine nS ?_
  refine j _ _ (qn (sq ?_))
  refine rg rfl fun K j=>?_
  obtain⟨y10,hy10,h⟩:=Ah h
  refine Al.pure Tryz.call96 (Dm m x_2.To hy10) rfl fun _ hr=>?_
  subst hr
  refine nS ?_
  refine j _ _ (qn (sq (sq ?_)))
  refine rg rfl fun K j=>?_
  revert h;refine gf (fun hc h=>?_) fun hc h=>?_
  ·refine j _ _ (qn ?_)
   revert h;refine ca rfl (fun hc h=>?_) fun hc h=>?_
   ·refine sq (ar rfl (qn (rt (qr (br (qr (qr ?_)))))))
    obtain rfl:=Aa h
    obtain rfl:=Af hJ0
    replace h:=An hO0
    refine br (qr ?_)
    cases h;exact en Tryz.results155
   refine sk (qn (sq (ar rfl (qn ?_))))
   revert h;refine ca rfl (fun hc h=>?_) fun hc h=>?_
   ·refine sq (ar rfl (qn (rt (br (qr (qr ?_))))))
    obtain rfl:=Aa h
    obtain rfl:=Af hJ0
    replace h:=An hO0
    refine br (qr ?_)
    cases h;exact en Tryz.results155
   refine sk (bn (qn (ar rfl (qn ?_))))
   obtain rfl:=Aa h
   refine⟨(k0+1,(),()),⟨by dsimp only;omega,Ae hJ0⟩,by dsimp only;omega,?_,?_⟩
   ·exact cuw hw0
   exact cuw hw0
  refine j _ _ (qn ?_)
  refine AWP.cond (Ai ?_)
  refine sq (ar rfl (qn (rt (qr (br (qr (qr ?_)))))))
  obtain rfl:=Aa h
  obtain rfl:=Af hJ0
  replace h:=An hO0
  refine br (qr ?_)
  cases h;exact en Tryz.results155
 refine j _ _ _ (by kernel_rfl) ?_
 refine qn ?_
 refine AWP.cond (Bg ?_)
 refine sk (qn (sq ?_))
 refine rg rfl fun K j=>?_
 obtain⟨y11,hy11,h⟩:=Ah h
 refine Al.pure Tryz.call96 (Dm m x_2.From hy11) rfl fun _ hr=>?_
 subst hr
 refine nS ?_
 refine j _ _ (qn (sq ?_))
 refine rg rfl fun K j=>?_
 obtain⟨y12,hy12,h⟩:=Ah h
 refine Al.pure Tryz.call96 (Dm m x_2.To hy12) rfl fun _ hr=>?_
 subst hr
 refine nS ?_
 refine j _ _ (qn (sq (sq ?_)))
 refine rg rfl fun K j=>?_
 revert h;refine gf (fun hc h=>?_) fun hc h=>?_
 ·refine j _ _ (qn ?_)
  revert h;refine ca rfl (fun hc h=>?_) fun hc h=>?_
  ·refine sq (ar rfl (qn (rt (qr (br (qr (qr ?_)))))))
   obtain rfl:=Aa h
   obtain rfl:=Af hJ0
   replace h:=An hO0
   refine br (qr ?_)
   cases h;exact en Tryz.results155
  refine sk (qn (sq (ar rfl (qn ?_))))
  revert h;refine ca rfl (fun hc h=>?_) fun hc h=>?_
  ·refine sq (ar rfl (qn (rt (br (qr (qr ?_))))))
   obtain rfl:=Aa h
   obtain rfl:=Af hJ0
   replace h:=An hO0
   refine br (qr ?_)
   cases h;exact en Tryz.results155
  refine sk (bn (qn (ar rfl (qn ?_))))
  obtain rfl:=Aa h
  refine⟨(k0+1,(),()),⟨by dsimp only;omega,Ae hJ0⟩,by dsimp only;omega,?_,?_⟩
  ·exact cuw hw0
  exact cuw hw0
 refine j _ _ (qn ?_)
 refine AWP.cond (Ai ?_)
 refine sq (ar rfl (qn (rt (qr (br (qr (qr ?_)))))))
 obtain rfl:=Aa h
 obtain rfl:=Af hJ0
 replace h:=An hO0
 refine br (qr ?_)
 cases h;exact en Tryz.results155
def Jx (m:Bd) (k1:Nat) (x_3:Int) (sv:Unit):Option (Out (Unit) (Int)):=
 (bif (decide (0<((k1:Nat):Int)))then (Dl m.Bases (IntKind.i64.wrap (((k1:Nat):Int) - 1))).bind fun x_4=>(bif (decide (x_3≤x_4))then some (Out.ret 7)else some (Out.next ()))else some (Out.next ()))
def Jv (m:Bd):Option (Int):=
 (Am (Jx m) 0 m.Bases ()).bind fun o1=>o1.on fun s1=>some 0
def Jw (m:Bd) (k4:Nat) (x_6:Int) (sv:Unit):Option (Out (Unit) (Int)):=
 (Dz m x_6).bind fun y7=>(bif (!y7.2)then some (Out.ret 8)else some (Out.next ()))
def Nj (m:Bd):Option (Int):=
 (bif (decide (((m.Bases.length:Nat):Int)=0))then some 8 else(Am (Jw m) 0 m.Bases ()).bind fun o4=>o4.on fun s4=>Jv m)
theorem Ur (m:Bd) {r:Int} (h:Nj m=some r):Ad Tryz.prog 156 [.agg (Ca m)] (·= .int .i64 r):=by
 refine Ad.nle (Ad.intro Tryz.func156 rfl rfl (by show _≤50;simp) ?_)
 unfold Nj at h
 refine nS (sq ?_)
 refine ar rfl (qn (sq (sq ?_)))
 refine rg rfl fun K j=>?_
 intro hm
 refine j _ _ (qn ?_)
 revert h;refine ca rfl (fun hc h=>?_) fun hc h=>?_
 ·refine sq (ar rfl (qn (rt (qr ?_))))
  cases h;exact en Tryz.results156
 refine sk (qn ?_)
 refine AWP.It (ι:=(Unit)×(Unit)) (fun zz=>[(1,.ptr 0 0)]) (fun zz=>[.box [.sl 2 (m.Nodes.map A9),.sl 8 (m.Lifts.map A7),.sl 7 (m.Runs.map Be),.sl 1 (m.Bases.map Aw)]]) (fun zz=>Jv m=some r) (fun zz=>⟨rfl,rfl,rfl⟩) ?_ ?_
 ·refine sq ?_
  refine rg rfl fun K j=>?_
  intro hm
  refine j _ _ (qn (bk ?_))
  obtain⟨o4,hJ4,hO4⟩:=Ah h
  clear h
  refine AWP.Br (ι:=Nat×(Unit)×(Unit)) (fun zz=>[(1,.ptr 0 0),(14,.sl 1 (m.Bases.map Aw)),(15,.int .i64 ((m.Bases.length:Nat):Int)),(16,.int .i64 ((zz.1:Nat):Int))]) (fun zz=>[.box [.sl 2 (m.Nodes.map A9),.sl 8 (m.Lifts.map A7),.sl 7 (m.Runs.map Be),.sl 1 (m.Bases.map Aw)]]) (fun zz=>zz.1≤m.Bases.length∧Am (Jw m) zz.1 ((m.Bases).drop zz.1) zz.2.1=some o4) (fun zz=>m.Bases.length - zz.1) (0,(),()) ⟨Nat.zero_le _,hJ4⟩ cu cu (fun x=>⟨rfl,rfl,rfl⟩) ?_
  clear hJ4
  rintro⟨k4,⟨⟩,⟨⟩⟩ ⟨hk4,hJ4⟩
  dsimp only at hk4 hJ4 ⊢
  refine sq (ar rfl (qn (sq ?_)))
  refine AWP.cond (Aj (fun hc=>?_) (fun hc=>?_))
  rotate_left
  ·obtain rfl:=Bc hJ4 (fun hl=>by have:=Ajo hc;omega)
   have h:=Bb hO4;try dsimp only at h
   have hkl:m.Bases.length=k4:=by have:=Ajo hc;omega
   subst hkl
   refine xt (qe (qe (bs (qn ?_))))
   exact⟨((),()),h,cu,cu⟩
  have hlt4:k4<m.Bases.length:=by have:=Ajp hc;omega
  obtain⟨x_6,b4,hx4_,h,hJ4⟩:=A1 hJ4 hlt4
  have hx4:=Ay hx4_
  have hw4:=wk (k:=k4) (by omega)
  unfold Jw at h;try dsimp only at h
  refine sk (qn (sq (bk (sq ?_))))
  refine rg rfl fun K j=>?_
  refine Bk.of (f:=Aw) (l:=m.Bases) hx4 ?_
  refine nS ?_
  refine j _ _ (qn (sq ?_))
  refine rg rfl fun K j=>?_
  obtain⟨y7,hy7,h⟩:=Ah h
  refine Al.pure Tryz.call96 (Dm m x_6 hy7) rfl fun _ hr=>?_
  subst hr
  refine nS ?_
  refine j _ _ (qn (sq ?_))
  refine ar rfl (qn ?_)
  revert h;refine ca rfl (fun hc h=>?_) fun hc h=>?_
  ·refine sq (ar rfl (qn (rt (br (qr (qr ?_))))))
   obtain rfl:=Aa h
   obtain rfl:=Af hJ4
   replace h:=An hO4
   refine br (qr ?_)
   cases h;exact en Tryz.results156
  refine sk (bn (qn (ar rfl (qn ?_))))
  obtain rfl:=Aa h
  refine⟨(k4+1,(),()),⟨by dsimp only;omega,Ae hJ4⟩,by dsimp only;omega,?_,?_⟩
  ·exact cuw hw4
  exact cuw hw4
 rintro⟨⟨⟩,⟨⟩⟩ h
 try dsimp only at h ⊢
 unfold Jv at h;try dsimp only at h
 refine sq (sq ?_)
 refine rg rfl fun K j=>?_
 intro hm
 refine j _ _ (qn (bk ?_))
 obtain⟨o1,hJ1,hO1⟩:=Ah h
 clear h
 refine AWP.Br (ι:=Nat×(Unit)×(Unit)) (fun zz=>[(1,.ptr 0 0),(30,.sl 1 (m.Bases.map Aw)),(31,.int .i64 ((m.Bases.length:Nat):Int)),(32,.int .i64 ((zz.1:Nat):Int))]) (fun zz=>[.box [.sl 2 (m.Nodes.map A9),.sl 8 (m.Lifts.map A7),.sl 7 (m.Runs.map Be),.sl 1 (m.Bases.map Aw)]]) (fun zz=>zz.1≤m.Bases.length∧Am (Jx m) zz.1 ((m.Bases).drop zz.1) zz.2.1=some o1) (fun zz=>m.Bases.length - zz.1) (0,(),()) ⟨Nat.zero_le _,hJ1⟩ cu cu (fun x=>⟨rfl,rfl,rfl⟩) ?_
 clear hJ1
 rintro⟨k1,⟨⟩,⟨⟩⟩ ⟨hk1,hJ1⟩
 dsimp only at hk1 hJ1 ⊢
 refine sq (ar rfl (qn (sq ?_)))
 refine AWP.cond (Aj (fun hc=>?_) (fun hc=>?_))
 rotate_left
 ·obtain rfl:=Bc hJ1 (fun hl=>by have:=Ajo hc;omega)
  have h:=Bb hO1;try dsimp only at h
  have hkl:m.Bases.length=k1:=by have:=Ajo hc;omega
  subst hkl
  refine xt (qe (qe (bs (qn (sq (ar rfl (qn (rt ?_))))))))
  cases h;exact en Tryz.results156
 have hlt1:k1<m.Bases.length:=by have:=Ajp hc;omega
 obtain⟨x_3,b1,hx1_,h,hJ1⟩:=A1 hJ1 hlt1
 have hx1:=Ay hx1_
 have hw1:=wk (k:=k1) (by omega)
 unfold Jx at h;try dsimp only at h
 refine sk (qn (sq (bk (sq ?_))))
 refine rg rfl fun K j=>?_
 refine Bk.of (f:=Aw) (l:=m.Bases) hx1 ?_
 refine nS ?_
 refine j _ _ (qn (sq ?_))
 refine rg rfl fun K j=>?_
 revert h;refine gt (fun hc h=>?_) fun hc h=>?_
 ·obtain⟨x_4,hx_4,h⟩:=Ah h
  refine Bk.of (f:=Aw) (l:=m.Bases) hx_4 ?_
  refine nS ?_
  refine j _ _ (qn ?_)
  revert h;refine ca rfl (fun hc h=>?_) fun hc h=>?_
  ·refine sq (ar rfl (qn (rt (br (qr (qr ?_))))))
   obtain rfl:=Aa h
   obtain rfl:=Af hJ1
   replace h:=An hO1
   refine br (qr ?_)
   cases h;exact en Tryz.results156
  refine sk (bn (qn (ar rfl (qn ?_))))
  obtain rfl:=Aa h
  refine⟨(k1+1,(),()),⟨by dsimp only;omega,Ae hJ1⟩,by dsimp only;omega,?_,?_⟩
  ·exact cuw hw1
  exact cuw hw1
 refine j _ _ (qn ?_)
 refine AWP.cond (Bg ?_)
 refine sk (bn (qn (ar rfl (qn ?_))))
 obtain rfl:=Aa h
 refine⟨(k1+1,(),()),⟨by dsimp only;omega,Ae hJ1⟩,by dsimp only;omega,?_,?_⟩
 ·exact cuw hw1
 exact cuw hw1
def Mk (m:Bd):Option (Int):=
 (bif (decide (64<((m.Nodes.length:Nat):Int)))then some 4 else(bif (decide (32<((m.Lifts.length:Nat):Int)))then some 4 else(bif (decide (64<((m.Runs.length:Nat):Int)))then some 4 else(bif (decide (64<((m.Bases.length:Nat):Int)))then some 4 else(Nh m).bind fun y1=>(bif (decide (y1≠0))then some y1 else(Ni m).bind fun y2=>(bif (decide (y2≠0))then some y2 else(Oc m).bind fun y3=>(bif (decide (y3≠0))then some y3 else(Nj m).bind fun y4=>some y4)))))))
theorem Zj (m:Bd) {r:Int} (h:Mk m=some r):Ad Tryz.prog 74 [.agg (Ca m)] (·= .int .i64 r):=by
 refine Ad.nle (Ad.intro Tryz.func74 rfl rfl (by show _≤45;simp) ?_)
 unfold Mk at h
 refine nS (sq ?_)
 refine ar rfl (qn (sq (sq ?_)))
 refine rg rfl fun K j=>?_
 intro hm
 revert h;refine gf (fun hc h=>?_) fun hc h=>?_
 rotate_left
 ·refine j _ _ (qn ?_)
  refine AWP.cond (Ai ?_)
  refine sq (ar rfl (qn (rt (qr ?_))))
  cases h;exact en Tryz.results74
 intro hm
 revert h;refine gf (fun hc h=>?_) fun hc h=>?_
 rotate_left
 ·refine j _ _ (qn ?_)
  refine AWP.cond (Ai ?_)
  refine sq (ar rfl (qn (rt (qr ?_))))
  cases h;exact en Tryz.results74
 intro hm
 revert h;refine gf (fun hc h=>?_) fun hc h=>?_
 rotate_left
 ·refine j _ _ (qn ?_)
  refine AWP.cond (Ai ?_)
  refine sq (ar rfl (qn (rt (qr ?_))))
  cases h;exact en Tryz.results74
 intro hm
 refine j _ _ (qn ?_)
 revert h;refine ca rfl (fun hc h=>?_) fun hc h=>?_
 ·refine sq (ar rfl (qn (rt (qr ?_))))
  cases h;exact en Tryz.results74
 refine sk (qn (sq (sq ?_)))
 refine rg rfl fun K j=>?_
 obtain⟨y1,hy1,h⟩:=Ah h
 refine Al.pure Tryz.call153 (Up m hy1) rfl fun _ hr=>?_
 subst hr
 refine nS ?_
 refine j _ _ (qn (sq ?_))
 refine ar rfl (qn ?_)
 revert h;refine ca rfl (fun hc h=>?_) fun hc h=>?_
 ·refine sq (ar rfl (qn (rt (qr ?_))))
  cases h;exact en Tryz.results74
 refine sk (qn (sq (sq ?_)))
 refine rg rfl fun K j=>?_
 obtain⟨y2,hy2,h⟩:=Ah h
 refine Al.pure Tryz.call154 (Uq m hy2) rfl fun _ hr=>?_
 subst hr
 refine nS ?_
 refine j _ _ (qn (sq ?_))
 refine ar rfl (qn ?_)
 revert h;refine ca rfl (fun hc h=>?_) fun hc h=>?_
 ·refine sq (ar rfl (qn (rt (qr ?_))))
  cases h;exact en Tryz.results74
 refine sk (qn (sq (sq ?_)))
 refine rg rfl fun K j=>?_
 obtain⟨y3,hy3,h⟩:=Ah h
 refine Al.pure Tryz.call155 (U9 m hy3) rfl fun _ hr=>?_
 subst hr
 refine nS ?_
 refine j _ _ (qn (sq ?_))
 refine ar rfl (qn ?_)
 revert h;refine ca rfl (fun hc h=>?_) fun hc h=>?_
 ·refine sq (ar rfl (qn (rt (qr ?_))))
  cases h;exact en Tryz.results74
 refine sk (qn (sq ?_))
 refine rg rfl fun K j=>?_
 obtain⟨y4,hy4,h⟩:=Ah h
 refine Al.pure Tryz.call156 (Ur m hy4) rfl fun _ hr=>?_
 subst hr
 refine nS ?_
 refine j _ _ (qn (rt ?_))
 cases h;exact en Tryz.results74
def Nc (c:Bn):Option (Bool):=
 (bif (decide (1≤c.Kind))then (bif (decide (c.Kind≤3))then (bif (decide (1≤c.Target))then (bif (decide (c.Target≤9999))then (bif (decide (1≤c.By))then (bif (decide (c.By≤6))then (bif (decide (0≤c.Since))then some (decide (c.Since≤20000000))else some false)else some false)else some false)else some false)else some false)else some false)else some false)
theorem Xr (c:Bn) {r:Bool} (h:Nc c=some r):Ad Tryz.prog 157 [.agg (Aq c)] (·= .bool r):=by
 refine Ad.nle (Ad.intro Tryz.func157 rfl rfl (by show _≤41;simp) ?_)
 unfold Nc at h
 refine nS (sq ?_)
 refine ar rfl (qn (sq ?_))
 refine rg rfl fun K j=>?_
 revert h;refine gt (fun hc h=>?_) fun hc h=>?_
 rotate_left
 ·refine j _ _ (qn (rt ?_))
  cases h;exact en Tryz.results157
 revert h;refine gt (fun hc h=>?_) fun hc h=>?_
 rotate_left
 ·refine j _ _ (qn (rt ?_))
  cases h;exact en Tryz.results157
 revert h;refine gt (fun hc h=>?_) fun hc h=>?_
 ·revert h;refine gt (fun hc h=>?_) fun hc h=>?_
  ·revert h;refine gt (fun hc h=>?_) fun hc h=>?_
   ·revert h;refine gt (fun hc h=>?_) fun hc h=>?_
    ·revert h;refine gt (fun hc h=>?_) fun hc h=>?_
     ·refine j _ _ (qn (rt ?_))
      cases h;exact en Tryz.results157
     refine j _ _ (qn (rt ?_))
     cases h;exact en Tryz.results157
    refine j _ _ (qn (rt ?_))
    cases h;exact en Tryz.results157
   refine j _ _ (qn (rt ?_))
   cases h;exact en Tryz.results157
  refine j _ _ (qn (rt ?_))
  cases h;exact en Tryz.results157
 refine j _ _ (qn (rt ?_))
 cases h;exact en Tryz.results157
def Js (c:Bn):Option (Nq):=
 some (Nq.mk c.Kind c.Target c.By)
theorem St (c:Bn) {r:Nq} (h:Js c=some r):Ad Tryz.prog 159 [.agg (Aq c)] (·= .agg (Ue r)):=by
 refine Ad.nle (Ad.intro Tryz.func159 rfl rfl (by show _≤10;simp) ?_)
 unfold Js at h
 refine nS (sq ?_)
 refine ar rfl (qn (sq ?_))
 refine ar rfl (qn (rt ?_))
 cases h;exact en Tryz.results159
def Jl (k_:Nq) (k0:Nat) (x_2:Bn) (sv:Unit):Option (Out (Unit) (Int)):=
 (Js x_2).bind fun y3=>(bif ((decide (y3.kind=k_.kind))&&((decide (y3.target=k_.target))&&(decide (y3.by_=k_.by_))))then some (Out.ret ((k0:Nat):Int))else some (Out.next ()))
def Pf (l:List Bn) (k_:Nq):Option (Int):=
 (Am (Jl k_) 0 l ()).bind fun o0=>o0.on fun s0=>some (-1)
theorem bP (l:List Bn) (k_:Nq) {r:Int} (h:Pf l k_=some r):Ad Tryz.prog 158 [.sl 4 (l.map Aq),.agg (Ue k_)] (·= .int .i64 r):=by
 refine Ad.nle (Ad.intro Tryz.func158 rfl rfl (by show _≤8;simp) ?_)
 unfold Pf at h
 refine nS (sq ?_)
 refine ar rfl (qn (sq ?_))
 refine rg rfl fun K j=>?_
 refine Al.inline Tryz.call239 Tryz.func239 rfl rfl (by show _≤19;simp) ?_
 refine nS (sq ?_)
 refine ar rfl (qn (sq (sq ?_)))
 refine rg rfl fun K j=>?_
 intro hm
 refine j _ _ (qn (bk ?_));clear j K
 obtain⟨o0,hJ0,hO0⟩:=Ah h
 clear h
 refine AWP.Br (ι:=Nat×(Unit)×(Unit)) (fun zz=>[(0,.sl 4 (l.map Aq)),(1,.func 240 [.ptr 0 0]),(7,.int .i64 ((l.length:Nat):Int)),(8,.int .i64 ((zz.1:Nat):Int))]) (fun zz=>[.box [.int .i64 k_.kind,.int .i64 k_.target,.int .i64 k_.by_]]) (fun zz=>zz.1≤l.length∧Am (Jl k_) zz.1 ((l).drop zz.1) zz.2.1=some o0) (fun zz=>l.length - zz.1) (0,(),()) ⟨Nat.zero_le _,hJ0⟩ cu cu (fun x=>⟨rfl,rfl,rfl⟩) ?_
 clear hJ0
 rintro⟨k0,⟨⟩,⟨⟩⟩ ⟨hk0,hJ0⟩
 dsimp only at hk0 hJ0 ⊢
 refine sq (ar rfl (qn (sq ?_)))
 refine AWP.cond (Aj (fun hc=>?_) (fun hc=>?_))
 rotate_left
 ·obtain rfl:=Bc hJ0 (fun hl=>by have:=Ajo hc;omega)
  have h:=Bb hO0;try dsimp only at h
  have hkl:l.length=k0:=by have:=Ajo hc;omega
  subst hkl
  refine xt (qe (qe (bs (qn (sq (ar rfl (qn (rt ?_))))))))
  refine nSc Tryz.results239 ?_
  refine j _ _ (qn (rt ?_))
  cases h;exact en Tryz.results158
 have hlt0:k0<l.length:=by have:=Ajp hc;omega
 obtain⟨x_2,b0,hx0_,h,hJ0⟩:=A1 hJ0 hlt0
 have hx0:=Ay hx0_
 have hw0:=wk (k:=k0) (by omega)
 unfold Jl at h;try dsimp only at h
 refine sk (qn (sq (bk (sq (ar rfl (qn (sq ?_)))))))
 refine rg rfl fun K j=>?_
 refine Bk.of (f:=Aq) (l:=l) hx0 ?_
 refine nS ?_
 refine Al.inline Tryz.call240 Tryz.func240 rfl rfl (by show _≤8;simp) ?_
 refine nS (sq ?_)
 refine ar rfl (qn (sq ?_))
 refine AWP.draw Tryz.mixed (by kernel_rfl) ?_;intro K j
 refine nS ?_
 obtain⟨y3,hy3,h⟩:=Ah h
 refine Bz.pure Tryz.call159 (St x_2 hy3) rfl ?_
 refine nS ?_
 refine j _ _ _ (by kernel_rfl) ?_;clear j K
 refine qn (rt (nSc Tryz.results240 ?_))
 refine j _ _ (qn ?_);clear j K
 revert h;refine ca rfl (fun hc h=>?_) fun hc h=>?_
 ·refine sq (ar rfl (qn (rt (br (qr (qr ?_))))))
  obtain rfl:=Aa h
  obtain rfl:=Af hJ0
  replace h:=An hO0
  refine br (qr (nSc Tryz.results239 ?_))
  refine j _ _ (qn (rt ?_))
  cases h;exact en Tryz.results158
 refine sk (bn (qn (ar rfl (qn ?_))))
 obtain rfl:=Aa h
 refine⟨(k0+1,(),()),⟨by dsimp only;omega,Ae hJ0⟩,by dsimp only;omega,?_,?_⟩
 ·exact cuw hw0
 exact cuw hw0
def Ma (l:List Bn) (k0:Nat) (x_2:Bn) (sv:Unit):Option (Out (Unit) (Int)):=
 (Nc x_2).bind fun y3=>(bif (!y3)then some (Out.ret 2)else okB (decide (0≤((k0:Nat):Int)∧((k0:Nat):Int)≤((l.length:Nat):Int))) ((Js x_2).bind fun y4=>(Pf (l.take k0) y4).bind fun y5=>(bif (decide (0≤y5))then some (Out.ret 7)else some (Out.next ()))))
def Mz (l:List Bn):Option (Int):=
 (bif (decide (200<((l.length:Nat):Int)))then some 4 else(Am (Ma l) 0 l ()).bind fun o0=>o0.on fun s0=>some 0)
theorem Z8 (l:List Bn) {r:Int} (h:Mz l=some r):Ad Tryz.prog 75 [.sl 4 (l.map Aq)] (·= .int .i64 r):=by
 refine Ad.nle (Ad.intro Tryz.func75 rfl rfl (by show _≤26;simp) ?_)
 unfold Mz at h
 refine nS (sq ?_)
 refine ar rfl (qn (sq (sq ?_)))
 refine rg rfl fun K j=>?_
 intro hm
 refine j _ _ (qn ?_)
 revert h;refine ca rfl (fun hc h=>?_) fun hc h=>?_
 ·refine sq (ar rfl (qn (rt (qr ?_))))
  cases h;exact en Tryz.results75
 refine sk (qn (sq (sq ?_)))
 refine rg rfl fun K j=>?_
 intro hm
 refine j _ _ (qn (bk ?_))
 obtain⟨o0,hJ0,hO0⟩:=Ah h
 clear h
 refine AWP.Br (ι:=Nat×(Unit)×(Unit)) (fun zz=>[(0,.sl 4 (l.map Aq)),(8,.sl 4 (l.map Aq)),(9,.int .i64 ((l.length:Nat):Int)),(10,.int .i64 ((zz.1:Nat):Int))]) (fun zz=>[]) (fun zz=>zz.1≤l.length∧Am (Ma l) zz.1 ((l).drop zz.1) zz.2.1=some o0) (fun zz=>l.length - zz.1) (0,(),()) ⟨Nat.zero_le _,hJ0⟩ cu cu (fun x=>⟨rfl,rfl,rfl⟩) ?_
 clear hJ0
 rintro⟨k0,⟨⟩,⟨⟩⟩ ⟨hk0,hJ0⟩
 dsimp only at hk0 hJ0 ⊢
 refine sq (ar rfl (qn (sq ?_)))
 refine AWP.cond (Aj (fun hc=>?_) (fun hc=>?_))
 rotate_left
 ·obtain rfl:=Bc hJ0 (fun hl=>by have:=Ajo hc;omega)
  have h:=Bb hO0;try dsimp only at h
  have hkl:l.length=k0:=by have:=Ajo hc;omega
  subst hkl
  refine xt (qe (qe (bs (qn (sq (ar rfl (qn (rt ?_))))))))
  cases h;exact en Tryz.results75
 have hlt0:k0<l.length:=by have:=Ajp hc;omega
 obtain⟨x_2,b0,hx0_,h,hJ0⟩:=A1 hJ0 hlt0
 have hx0:=Ay hx0_
 have hw0:=wk (k:=k0) (by omega)
 unfold Ma at h;try dsimp only at h
 refine sk (qn (sq (bk (sq ?_))))
 refine rg rfl fun K j=>?_
 refine Bk.of (f:=Aq) (l:=l) hx0 ?_
 refine nS ?_
 refine j _ _ (qn (sq (sq ?_)))
 refine rg rfl fun K j=>?_
 obtain⟨y3,hy3,h⟩:=Ah h
 refine Al.pure Tryz.call157 (Xr x_2 hy3) rfl fun _ hr=>?_
 subst hr
 refine nS ?_
 refine j _ _ (qn ?_)
 revert h;refine ca rfl (fun hc h=>?_) fun hc h=>?_
 ·refine sq (ar rfl (qn (rt (qr (br (qr (qr ?_)))))))
  obtain rfl:=Aa h
  obtain rfl:=Af hJ0
  replace h:=An hO0
  refine br (qr ?_)
  cases h;exact en Tryz.results75
 refine sk (qn (sq ?_))
 refine AWP.draw Tryz.mixed (by kernel_rfl) ?_;intro K j
 refine nS ?_
 obtain⟨hk,h⟩:=Jz h
 intro hm
 (repeat(refine⟨by omega,?_⟩))
 obtain⟨y4,hy4,h⟩:=Ah h
 refine Bz.pure Tryz.call159 (St x_2 hy4) rfl ?_
 refine nS ?_
 obtain⟨y5,hy5,h⟩:=Ah h
 refine Bz.pure Tryz.call158 (bP (l.take k0) y4 hy5) rfl ?_
 refine nS ?_
 refine j _ _ _ (by kernel_rfl) ?_
 refine qn ?_
 revert h;refine ca rfl (fun hc h=>?_) fun hc h=>?_
 ·refine sq (ar rfl (qn (rt (br (qr (qr ?_))))))
  obtain rfl:=Aa h
  obtain rfl:=Af hJ0
  replace h:=An hO0
  refine br (qr ?_)
  cases h;exact en Tryz.results75
 refine sk (bn (qn (ar rfl (qn ?_))))
 obtain rfl:=Aa h
 refine⟨(k0+1,(),()),⟨by dsimp only;omega,Ae hJ0⟩,by dsimp only;omega,?_,?_⟩
 ·exact cuw hw0
 exact cuw hw0
def L7 (l:Bq) (k1:Nat) (x_3:Fk) (sv:Unit):Option (Out (Unit) (Int)):=
 (Bt l.Items x_3.Item).bind fun y4=>(bif (!y4)then some (Out.ret 8)else (bif (decide (x_3.By<1))then some (Out.ret 17)else (bif (decide (9999<x_3.By))then some (Out.ret 17)else (bif (decide (x_3.At<0))then some (Out.ret 2)else (bif (decide (20000000<x_3.At))then some (Out.ret 2)else (bif (decide (0<((k1:Nat):Int)))then (Dl l.Signs (IntKind.i64.wrap (((k1:Nat):Int) - 1))).bind fun x_5=>(bif (decide (x_3.At<x_5.At))then some (Out.ret 11)else some (Out.next ()))else some (Out.next ())))))))
def L5 (l:Bq):Option (Int):=
 (Am (L7 l) 0 l.Signs ()).bind fun o1=>o1.on fun s1=>some 0
def L6 (l:Bq) (k5:Nat) (x_7:Int) (sv:Unit):Option (Out (Unit) (Int)):=
 (bif (decide (x_7<1))then some (Out.ret 2)else (bif (decide (9999<x_7))then some (Out.ret 2)else okB (decide (0≤((k5:Nat):Int)∧((k5:Nat):Int)≤((l.Items.length:Nat):Int))) ((Bt (l.Items.take k5) x_7).bind fun y8=>(bif y8 then some (Out.ret 7)else some (Out.next ())))))
def Jr (l:Bq):Option (Int):=
 (bif (decide (64<((l.Items.length:Nat):Int)))then some 4 else(bif (decide (200<((l.Signs.length:Nat):Int)))then some 4 else(bif (decide (l.Every<1))then some 2 else(bif (decide (604800<l.Every))then some 2 else(Am (L6 l) 0 l.Items ()).bind fun o5=>o5.on fun s5=>L5 l))))
theorem Sm (l:Bq) {r:Int} (h:Jr l=some r):Ad Tryz.prog 160 [.agg (Dj l)] (·= .int .i64 r):=by
 refine Ad.nle (Ad.intro Tryz.func160 rfl rfl (by show _≤91;simp) ?_)
 unfold Jr at h
 refine nS (sq ?_)
 refine ar rfl (qn (sq (sq ?_)))
 refine rg rfl fun K j=>?_
 intro hm
 revert h;refine gf (fun hc h=>?_) fun hc h=>?_
 rotate_left
 ·refine j _ _ (qn ?_)
  refine AWP.cond (Ai ?_)
  refine sq (ar rfl (qn (rt (qr ?_))))
  cases h;exact en Tryz.results160
 intro hm
 refine j _ _ (qn ?_)
 revert h;refine ca rfl (fun hc h=>?_) fun hc h=>?_
 ·refine sq (ar rfl (qn (rt (qr ?_))))
  cases h;exact en Tryz.results160
 refine sk (qn (sq (sq ?_)))
 refine rg rfl fun K j=>?_
 revert h;refine gf (fun hc h=>?_) fun hc h=>?_
 rotate_left
 ·refine j _ _ (qn ?_)
  refine AWP.cond (Ai ?_)
  refine sq (ar rfl (qn (rt (qr ?_))))
  cases h;exact en Tryz.results160
 refine j _ _ (qn ?_)
 revert h;refine ca rfl (fun hc h=>?_) fun hc h=>?_
 ·refine sq (ar rfl (qn (rt (qr ?_))))
  cases h;exact en Tryz.results160
 refine sk (qn ?_)
 refine AWP.It (ι:=(Unit)×(Unit)) (fun zz=>[(1,.ptr 0 0)]) (fun zz=>[.box [.sl 1 (l.Items.map Aw),.int .i64 l.Every,.sl 3 (l.Signs.map B8)]]) (fun zz=>L5 l=some r) (fun zz=>⟨rfl,rfl,rfl⟩) ?_ ?_
 ·refine sq ?_
  refine rg rfl fun K j=>?_
  intro hm
  refine j _ _ (qn (bk ?_))
  obtain⟨o5,hJ5,hO5⟩:=Ah h
  clear h
  refine AWP.Br (ι:=Nat×(Unit)×(Unit)) (fun zz=>[(1,.ptr 0 0),(26,.sl 1 (l.Items.map Aw)),(27,.int .i64 ((l.Items.length:Nat):Int)),(28,.int .i64 ((zz.1:Nat):Int))]) (fun zz=>[.box [.sl 1 (l.Items.map Aw),.int .i64 l.Every,.sl 3 (l.Signs.map B8)]]) (fun zz=>zz.1≤l.Items.length∧Am (L6 l) zz.1 ((l.Items).drop zz.1) zz.2.1=some o5) (fun zz=>l.Items.length - zz.1) (0,(),()) ⟨Nat.zero_le _,hJ5⟩ cu cu (fun x=>⟨rfl,rfl,rfl⟩) ?_
  clear hJ5
  rintro⟨k5,⟨⟩,⟨⟩⟩ ⟨hk5,hJ5⟩
  dsimp only at hk5 hJ5 ⊢
  refine sq (ar rfl (qn (sq ?_)))
  refine AWP.cond (Aj (fun hc=>?_) (fun hc=>?_))
  rotate_left
  ·obtain rfl:=Bc hJ5 (fun hl=>by have:=Ajo hc;omega)
   have h:=Bb hO5;try dsimp only at h
   have hkl:l.Items.length=k5:=by have:=Ajo hc;omega
   subst hkl
   refine xt (qe (qe (bs (qn ?_))))
   exact⟨((),()),h,cu,cu⟩
  have hlt5:k5<l.Items.length:=by have:=Ajp hc;omega
  obtain⟨x_7,b5,hx5_,h,hJ5⟩:=A1 hJ5 hlt5
  have hx5:=Ay hx5_
  have hw5:=wk (k:=k5) (by omega)
  unfold L6 at h;try dsimp only at h
  refine sk (qn (sq (bk (sq ?_))))
  refine rg rfl fun K j=>?_
  refine Bk.of (f:=Aw) (l:=l.Items) hx5 ?_
  refine nS ?_
  refine j _ _ (qn (sq (sq ?_)))
  refine rg rfl fun K j=>?_
  revert h;refine gf (fun hc h=>?_) fun hc h=>?_
  rotate_left
  ·refine j _ _ (qn ?_)
   refine AWP.cond (Ai ?_)
   refine sq (ar rfl (qn (rt (qr (br (qr (qr ?_)))))))
   obtain rfl:=Aa h
   obtain rfl:=Af hJ5
   replace h:=An hO5
   refine br (qr ?_)
   cases h;exact en Tryz.results160
  refine j _ _ (qn ?_)
  revert h;refine ca rfl (fun hc h=>?_) fun hc h=>?_
  ·refine sq (ar rfl (qn (rt (qr (br (qr (qr ?_)))))))
   obtain rfl:=Aa h
   obtain rfl:=Af hJ5
   replace h:=An hO5
   refine br (qr ?_)
   cases h;exact en Tryz.results160
  refine sk (qn (sq ?_))
  refine rg rfl fun K j=>?_
  obtain⟨hk,h⟩:=Jz h
  intro hm
  (repeat(refine⟨by omega,?_⟩))
  obtain⟨y8,hy8,h⟩:=Ah h
  refine Al.pure Tryz.call54 (Bx (l.Items.take k5) x_7 hy8) rfl fun _ hr=>?_
  subst hr
  refine nS ?_
  refine j _ _ (qn ?_)
  revert h;refine ca rfl (fun hc h=>?_) fun hc h=>?_
  ·refine sq (ar rfl (qn (rt (br (qr (qr ?_))))))
   obtain rfl:=Aa h
   obtain rfl:=Af hJ5
   replace h:=An hO5
   refine br (qr ?_)
   cases h;exact en Tryz.results160
  refine sk (bn (qn (ar rfl (qn ?_))))
  obtain rfl:=Aa h
  refine⟨(k5+1,(),()),⟨by dsimp only;omega,Ae hJ5⟩,by dsimp only;omega,?_,?_⟩
  ·exact cuw hw5
  exact cuw hw5
 rintro⟨⟨⟩,⟨⟩⟩ h
 try dsimp only at h ⊢
 unfold L5 at h;try dsimp only at h
 refine sq (sq ?_)
 refine rg rfl fun K j=>?_
 intro hm
 refine j _ _ (qn (bk ?_))
 obtain⟨o1,hJ1,hO1⟩:=Ah h
 clear h
 refine AWP.Br (ι:=Nat×(Unit)×(Unit)) (fun zz=>[(1,.ptr 0 0),(47,.sl 3 (l.Signs.map B8)),(48,.int .i64 ((l.Signs.length:Nat):Int)),(49,.int .i64 ((zz.1:Nat):Int))]) (fun zz=>[.box [.sl 1 (l.Items.map Aw),.int .i64 l.Every,.sl 3 (l.Signs.map B8)]]) (fun zz=>zz.1≤l.Signs.length∧Am (L7 l) zz.1 ((l.Signs).drop zz.1) zz.2.1=some o1) (fun zz=>l.Signs.length - zz.1) (0,(),()) ⟨Nat.zero_le _,hJ1⟩ cu cu (fun x=>⟨rfl,rfl,rfl⟩) ?_
 clear hJ1
 rintro⟨k1,⟨⟩,⟨⟩⟩ ⟨hk1,hJ1⟩
 dsimp only at hk1 hJ1 ⊢
 refine sq (ar rfl (qn (sq ?_)))
 refine AWP.cond (Aj (fun hc=>?_) (fun hc=>?_))
 rotate_left
 ·obtain rfl:=Bc hJ1 (fun hl=>by have:=Ajo hc;omega)
  have h:=Bb hO1;try dsimp only at h
  have hkl:l.Signs.length=k1:=by have:=Ajo hc;omega
  subst hkl
  refine xt (qe (qe (bs (qn (sq (ar rfl (qn (rt ?_))))))))
  cases h;exact en Tryz.results160
 have hlt1:k1<l.Signs.length:=by have:=Ajp hc;omega
 obtain⟨x_3,b1,hx1_,h,hJ1⟩:=A1 hJ1 hlt1
 have hx1:=Ay hx1_
 have hw1:=wk (k:=k1) (by omega)
 unfold L7 at h;try dsimp only at h
 refine sk (qn (sq (bk (sq ?_))))
 refine rg rfl fun K j=>?_
 refine Bk.of (f:=B8) (l:=l.Signs) hx1 ?_
 refine nS ?_
 refine j _ _ (qn (sq (sq ?_)))
 refine rg rfl fun K j=>?_
 obtain⟨y4,hy4,h⟩:=Ah h
 refine Al.pure Tryz.call54 (Bx l.Items x_3.Item hy4) rfl fun _ hr=>?_
 subst hr
 refine nS ?_
 refine j _ _ (qn ?_)
 revert h;refine ca rfl (fun hc h=>?_) fun hc h=>?_
 ·refine sq (ar rfl (qn (rt (qr (br (qr (qr ?_)))))))
  obtain rfl:=Aa h
  obtain rfl:=Af hJ1
  replace h:=An hO1
  refine br (qr ?_)
  cases h;exact en Tryz.results160
 refine sk (qn (sq (sq ?_)))
 refine rg rfl fun K j=>?_
 revert h;refine gf (fun hc h=>?_) fun hc h=>?_
 rotate_left
 ·refine j _ _ (qn ?_)
  refine AWP.cond (Ai ?_)
  refine sq (ar rfl (qn (rt (qr (br (qr (qr ?_)))))))
  obtain rfl:=Aa h
  obtain rfl:=Af hJ1
  replace h:=An hO1
  refine br (qr ?_)
  cases h;exact en Tryz.results160
 refine j _ _ (qn ?_)
 revert h;refine ca rfl (fun hc h=>?_) fun hc h=>?_
 ·refine sq (ar rfl (qn (rt (qr (br (qr (qr ?_)))))))
  obtain rfl:=Aa h
  obtain rfl:=Af hJ1
  replace h:=An hO1
  refine br (qr ?_)
  cases h;exact en Tryz.results160
 refine sk (qn (sq (sq ?_)))
 refine rg rfl fun K j=>?_
 revert h;refine gf (fun hc h=>?_) fun hc h=>?_
 rotate_left
 ·refine j _ _ (qn ?_)
  refine AWP.cond (Ai ?_)
  refine sq (ar rfl (qn (rt (qr (br (qr (qr ?_)))))))
  obtain rfl:=Aa h
  obtain rfl:=Af hJ1
  replace h:=An hO1
  refine br (qr ?_)
  cases h;exact en Tryz.results160
 refine j _ _ (qn ?_)
 revert h;refine ca rfl (fun hc h=>?_) fun hc h=>?_
 ·refine sq (ar rfl (qn (rt (qr (br (qr (qr ?_)))))))
  obtain rfl:=Aa h
  obtain rfl:=Af hJ1
  replace h:=An hO1
  refine br (qr ?_)
  cases h;exact en Tryz.results160
 refine sk (qn (sq ?_))
 refine AWP.draw Tryz.mixed (by kernel_rfl) ?_;intro K j
 refine nS ?_
 revert h;refine gt (fun hc h=>?_) fun hc h=>?_
 ·obtain⟨x_5,hx_5,h⟩:=Ah h
  refine Bk.of (f:=B8) (l:=l.Signs) hx_5 ?_
  refine nS ?_
  refine j _ _ _ (by kernel_rfl) ?_
  refine qn ?_
  revert h;refine ca rfl (fun hc h=>?_) fun hc h=>?_
  ·refine sq (ar rfl (qn (rt (br (qr (qr ?_))))))
   obtain rfl:=Aa h
   obtain rfl:=Af hJ1
   replace h:=An hO1
   refine br (qr ?_)
   cases h;exact en Tryz.results160
  refine sk (bn (qn (ar rfl (qn ?_))))
  obtain rfl:=Aa h
  refine⟨(k1+1,(),()),⟨by dsimp only;omega,Ae hJ1⟩,by dsimp only;omega,?_,?_⟩
  ·exact cuw hw1
  exact cuw hw1
 refine j _ _ _ (by kernel_rfl) ?_
 refine qn ?_
 refine AWP.cond (Bg ?_)
 refine sk (bn (qn (ar rfl (qn ?_))))
 obtain rfl:=Aa h
 refine⟨(k1+1,(),()),⟨by dsimp only;omega,Ae hJ1⟩,by dsimp only;omega,?_,?_⟩
 ·exact cuw hw1
 exact cuw hw1
def Ft (id_:Int) (k0:Nat) (x_2:Cv) (sv:Unit):Option (Out (Unit) (Int)):=
 (bif (decide (x_2.ID=id_))then some (Out.ret ((k0:Nat):Int))else some (Out.next ()))
def Mw (l:List Cv) (id_:Int):Option (Int):=
 (Am (Ft id_) 0 l ()).bind fun o0=>o0.on fun s0=>some (-1)
theorem Zw (l:List Cv) (id_:Int) {r:Int} (h:Mw l id_=some r):Ad Tryz.prog 161 [.sl 3 (l.map A3),.int .i64 id_] (·= .int .i64 r):=by
 refine Ad.nle (Ad.intro Tryz.func161 rfl rfl (by show _≤8;simp) ?_)
 unfold Mw at h
 refine nS (sq ?_)
 refine ar rfl (qn (sq ?_))
 refine rg rfl fun K j=>?_
 refine Al.inline Tryz.call241 Tryz.func241 rfl rfl (by show _≤19;simp) ?_
 refine nS (sq ?_)
 refine ar rfl (qn (sq (sq ?_)))
 refine rg rfl fun K j=>?_
 intro hm
 refine j _ _ (qn (bk ?_));clear j K
 obtain⟨o0,hJ0,hO0⟩:=Ah h
 clear h
 refine AWP.Br (ι:=Nat×(Unit)×(Unit)) (fun zz=>[(0,.sl 3 (l.map A3)),(1,.func 242 [.ptr 0 0]),(7,.int .i64 ((l.length:Nat):Int)),(8,.int .i64 ((zz.1:Nat):Int))]) (fun zz=>[.box [.int .i64 id_]]) (fun zz=>zz.1≤l.length∧Am (Ft id_) zz.1 ((l).drop zz.1) zz.2.1=some o0) (fun zz=>l.length - zz.1) (0,(),()) ⟨Nat.zero_le _,hJ0⟩ cu cu (fun x=>⟨rfl,rfl,rfl⟩) ?_
 clear hJ0
 rintro⟨k0,⟨⟩,⟨⟩⟩ ⟨hk0,hJ0⟩
 dsimp only at hk0 hJ0 ⊢
 refine sq (ar rfl (qn (sq ?_)))
 refine AWP.cond (Aj (fun hc=>?_) (fun hc=>?_))
 rotate_left
 ·obtain rfl:=Bc hJ0 (fun hl=>by have:=Ajo hc;omega)
  have h:=Bb hO0;try dsimp only at h
  have hkl:l.length=k0:=by have:=Ajo hc;omega
  subst hkl
  refine xt (qe (qe (bs (qn (sq (ar rfl (qn (rt ?_))))))))
  refine nSc Tryz.results241 ?_
  refine j _ _ (qn (rt ?_))
  cases h;exact en Tryz.results161
 have hlt0:k0<l.length:=by have:=Ajp hc;omega
 obtain⟨x_2,b0,hx0_,h,hJ0⟩:=A1 hJ0 hlt0
 have hx0:=Ay hx0_
 have hw0:=wk (k:=k0) (by omega)
 unfold Ft at h;try dsimp only at h
 refine sk (qn (sq (bk (sq (ar rfl (qn (sq ?_)))))))
 refine rg rfl fun K j=>?_
 refine Bk.of (f:=A3) (l:=l) hx0 ?_
 refine nS ?_
 refine Al.inline Tryz.call242 Tryz.func242 rfl rfl (by show _≤8;simp) ?_
 refine nS (sq ?_)
 refine ar rfl (qn (sq ?_))
 refine ar rfl (qn (rt ?_))
 refine nSc Tryz.results242 ?_
 refine j _ _ (qn ?_);clear j K
 revert h;refine ca rfl (fun hc h=>?_) fun hc h=>?_
 ·refine sq (ar rfl (qn (rt (br (qr (qr ?_))))))
  obtain rfl:=Aa h
  obtain rfl:=Af hJ0
  replace h:=An hO0
  refine br (qr (nSc Tryz.results241 ?_))
  refine j _ _ (qn (rt ?_))
  cases h;exact en Tryz.results161
 refine sk (bn (qn (ar rfl (qn ?_))))
 obtain rfl:=Aa h
 refine⟨(k0+1,(),()),⟨by dsimp only;omega,Ae hJ0⟩,by dsimp only;omega,?_,?_⟩
 ·exact cuw hw0
 exact cuw hw0
def Na (p:Cb) (k1:Nat) (x_3:Cv) (sv:Unit):Option (Out (Unit) (Int)):=
 (bif (decide (x_3.ID<1))then some (Out.ret 2)else (bif (decide (9999<x_3.ID))then some (Out.ret 2)else (bif (decide (x_3.At<0))then some (Out.ret 2)else (bif (decide (20000000<x_3.At))then some (Out.ret 2)else okB (decide (0≤((k1:Nat):Int)∧((k1:Nat):Int)≤((p.Hazards.length:Nat):Int))) ((Mw (p.Hazards.take k1) x_3.ID).bind fun y4=>(bif (decide (0≤y4))then some (Out.ret 7)else (Le p x_3.Run).bind fun y5=>(bif (decide (y5<0))then some (Out.ret 8)else some (Out.next ()))))))))
def M8 (p:Cb):Option (Int):=
 (Am (Na p) 0 p.Hazards ()).bind fun o1=>o1.on fun s1=>some 0
def M9 (p:Cb) (k5:Nat) (x_7:Ck) (sv:Unit):Option (Out (Unit) (Int)):=
 (bif (decide (x_7.Run<1))then some (Out.ret 2)else (bif (decide (9999<x_7.Run))then some (Out.ret 2)else (bif (decide (0<((k5:Nat):Int)))then (Dl p.Bw (IntKind.i64.wrap (((k5:Nat):Int) - 1))).bind fun x_8=>(bif (decide (x_7.Run≤x_8.Run))then some (Out.ret 11)else (Jr x_7.List_).bind fun y9=>(bif (decide (y9≠0))then some (Out.ret y9)else some (Out.next ())))else (Jr x_7.List_).bind fun y10=>(bif (decide (y10≠0))then some (Out.ret y10)else some (Out.next ())))))
def O2 (p:Cb):Option (Int):=
 (bif (decide (64<((p.Bw.length:Nat):Int)))then some 4 else(bif (decide (200<((p.Hazards.length:Nat):Int)))then some 4 else(Am (M9 p) 0 p.Bw ()).bind fun o5=>o5.on fun s5=>M8 p))
theorem aV (p:Cb) {r:Int} (h:O2 p=some r):Ad Tryz.prog 76 [.agg (Gs p)] (·= .int .i64 r):=by
 refine Ad.nle (Ad.intro Tryz.func76 rfl rfl (by show _≤95;simp) ?_)
 unfold O2 at h
 refine nS (sq ?_)
 refine ar rfl (qn (sq (sq ?_)))
 refine rg rfl fun K j=>?_
 intro hm
 revert h;refine gf (fun hc h=>?_) fun hc h=>?_
 rotate_left
 ·refine j _ _ (qn ?_)
  refine AWP.cond (Ai ?_)
  refine sq (ar rfl (qn (rt (qr ?_))))
  cases h;exact en Tryz.results76
 intro hm
 refine j _ _ (qn ?_)
 revert h;refine ca rfl (fun hc h=>?_) fun hc h=>?_
 ·refine sq (ar rfl (qn (rt (qr ?_))))
  cases h;exact en Tryz.results76
 refine sk (qn ?_)
 refine AWP.It (ι:=(Unit)×(Unit)) (fun zz=>[(1,.ptr 0 0)]) (fun zz=>[.box [.sl 4 (p.Bw.map Ax),.sl 3 (p.Hazards.map A3)]]) (fun zz=>M8 p=some r) (fun zz=>⟨rfl,rfl,rfl⟩) ?_ ?_
 ·refine sq ?_
  refine rg rfl fun K j=>?_
  intro hm
  refine j _ _ (qn (bk ?_))
  obtain⟨o5,hJ5,hO5⟩:=Ah h
  clear h
  refine AWP.Br (ι:=Nat×(Unit)×(Unit)) (fun zz=>[(1,.ptr 0 0),(19,.sl 4 (p.Bw.map Ax)),(20,.int .i64 ((p.Bw.length:Nat):Int)),(21,.int .i64 ((zz.1:Nat):Int))]) (fun zz=>[.box [.sl 4 (p.Bw.map Ax),.sl 3 (p.Hazards.map A3)]]) (fun zz=>zz.1≤p.Bw.length∧Am (M9 p) zz.1 ((p.Bw).drop zz.1) zz.2.1=some o5) (fun zz=>p.Bw.length - zz.1) (0,(),()) ⟨Nat.zero_le _,hJ5⟩ cu cu (fun x=>⟨rfl,rfl,rfl⟩) ?_
  clear hJ5
  rintro⟨k5,⟨⟩,⟨⟩⟩ ⟨hk5,hJ5⟩
  dsimp only at hk5 hJ5 ⊢
  refine sq (ar rfl (qn (sq ?_)))
  refine AWP.cond (Aj (fun hc=>?_) (fun hc=>?_))
  rotate_left
  ·obtain rfl:=Bc hJ5 (fun hl=>by have:=Ajo hc;omega)
   have h:=Bb hO5;try dsimp only at h
   have hkl:p.Bw.length=k5:=by have:=Ajo hc;omega
   subst hkl
   refine xt (qe (qe (bs (qn ?_))))
   exact⟨((),()),h,cu,cu⟩
  have hlt5:k5<p.Bw.length:=by have:=Ajp hc;omega
  obtain⟨x_7,b5,hx5_,h,hJ5⟩:=A1 hJ5 hlt5
  have hx5:=Ay hx5_
  have hw5:=wk (k:=k5) (by omega)
  unfold M9 at h;try dsimp only at h
  refine sk (qn (sq (bk (sq ?_))))
  refine rg rfl fun K j=>?_
  refine Bk.of (f:=Ax) (l:=p.Bw) hx5 ?_
  refine nS ?_
  refine j _ _ (qn (sq (sq ?_)))
  refine rg rfl fun K j=>?_
  revert h;refine gf (fun hc h=>?_) fun hc h=>?_
  rotate_left
  ·refine j _ _ (qn ?_)
   refine AWP.cond (Ai ?_)
   refine sq (ar rfl (qn (rt (qr (br (qr (qr ?_)))))))
   obtain rfl:=Aa h
   obtain rfl:=Af hJ5
   replace h:=An hO5
   refine br (qr ?_)
   cases h;exact en Tryz.results76
  refine j _ _ (qn ?_)
  revert h;refine ca rfl (fun hc h=>?_) fun hc h=>?_
  ·refine sq (ar rfl (qn (rt (qr (br (qr (qr ?_)))))))
   obtain rfl:=Aa h
   obtain rfl:=Af hJ5
   replace h:=An hO5
   refine br (qr ?_)
   cases h;exact en Tryz.results76
  refine sk (qn (sq (sq ?_)))
  refine AWP.draw Tryz.mixed (by kernel_rfl) ?_;intro K j
  refine nS ?_
  revert h;refine gt (fun hc h=>?_) fun hc h=>?_
  ·obtain⟨x_8,hx_8,h⟩:=Ah h
   refine Bk.of (f:=Ax) (l:=p.Bw) hx_8 ?_
   refine nS ?_
   refine j _ _ _ (by kernel_rfl) ?_
   refine qn ?_
   revert h;refine ca rfl (fun hc h=>?_) fun hc h=>?_
   ·refine sq (ar rfl (qn (rt (qr (br (qr (qr ?_)))))))
    obtain rfl:=Aa h
    obtain rfl:=Af hJ5
    replace h:=An hO5
    refine br (qr ?_)
    cases h;exact en Tryz.results76
   refine sk (qn (sq ?_))
   refine rg rfl fun K j=>?_
   obtain⟨y9,hy9,h⟩:=Ah h
   refine Al.pure Tryz.call160 (Sm x_7.List_ hy9) rfl fun _ hr=>?_
   subst hr
   refine nS ?_
   refine j _ _ (qn (sq ?_))
   refine ar rfl (qn ?_)
   revert h;refine ca rfl (fun hc h=>?_) fun hc h=>?_
   ·refine sq (ar rfl (qn (rt (br (qr (qr ?_))))))
    obtain rfl:=Aa h
    obtain rfl:=Af hJ5
    replace h:=An hO5
    refine br (qr ?_)
    cases h;exact en Tryz.results76
   refine sk (bn (qn (ar rfl (qn ?_))))
   obtain rfl:=Aa h
   refine⟨(k5+1,(),()),⟨by dsimp only;omega,Ae hJ5⟩,by dsimp only;omega,?_,?_⟩
   ·exact cuw hw5
   exact cuw hw5
  refine j _ _ _ (by kernel_rfl) ?_
  refine qn ?_
  refine AWP.cond (Bg ?_)
  refine sk (qn (sq ?_))
  refine rg rfl fun K j=>?_
  obtain⟨y10,hy10,h⟩:=Ah h
  refine Al.pure Tryz.call160 (Sm x_7.List_ hy10) rfl fun _ hr=>?_
  subst hr
  refine nS ?_
  refine j _ _ (qn (sq ?_))
  refine ar rfl (qn ?_)
  revert h;refine ca rfl (fun hc h=>?_) fun hc h=>?_
  ·refine sq (ar rfl (qn (rt (br (qr (qr ?_))))))
   obtain rfl:=Aa h
   obtain rfl:=Af hJ5
   replace h:=An hO5
   refine br (qr ?_)
   cases h;exact en Tryz.results76
  refine sk (bn (qn (ar rfl (qn ?_))))
  obtain rfl:=Aa h
  refine⟨(k5+1,(),()),⟨by dsimp only;omega,Ae hJ5⟩,by dsimp only;omega,?_,?_⟩
  ·exact cuw hw5
  exact cuw hw5
 rintro⟨⟨⟩,⟨⟩⟩ h
 try dsimp only at h ⊢
 unfold M8 at h;try dsimp only at h
 refine sq (sq ?_)
 refine rg rfl fun K j=>?_
 intro hm
 refine j _ _ (qn (bk ?_))
 obtain⟨o1,hJ1,hO1⟩:=Ah h
 clear h
 refine AWP.Br (ι:=Nat×(Unit)×(Unit)) (fun zz=>[(1,.ptr 0 0),(56,.sl 3 (p.Hazards.map A3)),(57,.int .i64 ((p.Hazards.length:Nat):Int)),(58,.int .i64 ((zz.1:Nat):Int))]) (fun zz=>[.box [.sl 4 (p.Bw.map Ax),.sl 3 (p.Hazards.map A3)]]) (fun zz=>zz.1≤p.Hazards.length∧Am (Na p) zz.1 ((p.Hazards).drop zz.1) zz.2.1=some o1) (fun zz=>p.Hazards.length - zz.1) (0,(),()) ⟨Nat.zero_le _,hJ1⟩ cu cu (fun x=>⟨rfl,rfl,rfl⟩) ?_
 clear hJ1
 rintro⟨k1,⟨⟩,⟨⟩⟩ ⟨hk1,hJ1⟩
 dsimp only at hk1 hJ1 ⊢
 refine sq (ar rfl (qn (sq ?_)))
 refine AWP.cond (Aj (fun hc=>?_) (fun hc=>?_))
 rotate_left
 ·obtain rfl:=Bc hJ1 (fun hl=>by have:=Ajo hc;omega)
  have h:=Bb hO1;try dsimp only at h
  have hkl:p.Hazards.length=k1:=by have:=Ajo hc;omega
  subst hkl
  refine xt (qe (qe (bs (qn (sq (ar rfl (qn (rt ?_))))))))
  cases h;exact en Tryz.results76
 have hlt1:k1<p.Hazards.length:=by have:=Ajp hc;omega
 obtain⟨x_3,b1,hx1_,h,hJ1⟩:=A1 hJ1 hlt1
 have hx1:=Ay hx1_
 have hw1:=wk (k:=k1) (by omega)
 unfold Na at h;try dsimp only at h
 refine sk (qn (sq (bk (sq ?_))))
 refine rg rfl fun K j=>?_
 refine Bk.of (f:=A3) (l:=p.Hazards) hx1 ?_
 refine nS ?_
 refine j _ _ (qn (sq (sq ?_)))
 refine rg rfl fun K j=>?_
 revert h;refine gf (fun hc h=>?_) fun hc h=>?_
 rotate_left
 ·refine j _ _ (qn ?_)
  refine AWP.cond (Ai ?_)
  refine sq (ar rfl (qn (rt (qr (br (qr (qr ?_)))))))
  obtain rfl:=Aa h
  obtain rfl:=Af hJ1
  replace h:=An hO1
  refine br (qr ?_)
  cases h;exact en Tryz.results76
 revert h;refine gf (fun hc h=>?_) fun hc h=>?_
 rotate_left
 ·refine j _ _ (qn ?_)
  refine AWP.cond (Ai ?_)
  refine sq (ar rfl (qn (rt (qr (br (qr (qr ?_)))))))
  obtain rfl:=Aa h
  obtain rfl:=Af hJ1
  replace h:=An hO1
  refine br (qr ?_)
  cases h;exact en Tryz.results76
 revert h;refine gf (fun hc h=>?_) fun hc h=>?_
 rotate_left
 ·refine j _ _ (qn ?_)
  refine AWP.cond (Ai ?_)
  refine sq (ar rfl (qn (rt (qr (br (qr (qr ?_)))))))
  obtain rfl:=Aa h
  obtain rfl:=Af hJ1
  replace h:=An hO1
  refine br (qr ?_)
  cases h;exact en Tryz.results76
 refine j _ _ (qn ?_)
 revert h;refine ca rfl (fun hc h=>?_) fun hc h=>?_
 ·refine sq (ar rfl (qn (rt (qr (br (qr (qr ?_)))))))
  obtain rfl:=Aa h
  obtain rfl:=Af hJ1
  replace h:=An hO1
  refine br (qr ?_)
  cases h;exact en Tryz.results76
 refine sk (qn (sq (sq ?_)))
 refine AWP.draw Tryz.mixed (by kernel_rfl) ?_;intro K j
 refine nS ?_
 obtain⟨hk,h⟩:=Jz h
 intro hm
 (repeat(refine⟨by omega,?_⟩))
 obtain⟨y4,hy4,h⟩:=Ah h
 refine Bz.pure Tryz.call161 (Zw (p.Hazards.take k1) x_3.ID hy4) rfl ?_
 refine nS ?_
 refine j _ _ _ (by kernel_rfl) ?_
 refine qn ?_
 revert h;refine ca rfl (fun hc h=>?_) fun hc h=>?_
 ·refine sq (ar rfl (qn (rt (qr (br (qr (qr ?_)))))))
  obtain rfl:=Aa h
  obtain rfl:=Af hJ1
  replace h:=An hO1
  refine br (qr ?_)
  cases h;exact en Tryz.results76
 refine sk (qn (sq ?_))
 refine rg rfl fun K j=>?_
 obtain⟨y5,hy5,h⟩:=Ah h
 refine Al.pure Tryz.call162 (U2 p x_3.Run hy5) rfl fun _ hr=>?_
 subst hr
 refine nS ?_
 refine j _ _ (qn ?_)
 revert h;refine ca rfl (fun hc h=>?_) fun hc h=>?_
 ·refine sq (ar rfl (qn (rt (br (qr (qr ?_))))))
  obtain rfl:=Aa h
  obtain rfl:=Af hJ1
  replace h:=An hO1
  refine br (qr ?_)
  cases h;exact en Tryz.results76
 refine sk (bn (qn (ar rfl (qn ?_))))
 obtain rfl:=Aa h
 refine⟨(k1+1,(),()),⟨by dsimp only;omega,Ae hJ1⟩,by dsimp only;omega,?_,?_⟩
 ·exact cuw hw1
 exact cuw hw1
def Lq (l:List Cx) (k0:Nat) (x_2:Cx) (sv:Unit):Option (Out (Unit) (Int)):=
 (bif (decide (x_2.Run<1))then some (Out.ret 2)else (bif (decide (9999<x_2.Run))then some (Out.ret 2)else (bif (decide (x_2.Groomed<(-1)))then some (Out.ret 2)else (bif (decide (20000000<x_2.Groomed))then some (Out.ret 2)else (bif (decide (x_2.Traffic<0))then some (Out.ret 2)else (bif (decide (1000000<x_2.Traffic))then some (Out.ret 2)else (bif (decide (0<((k0:Nat):Int)))then (Dl l (IntKind.i64.wrap (((k0:Nat):Int) - 1))).bind fun x_3=>(bif (decide (x_2.Run≤x_3.Run))then some (Out.ret 11)else some (Out.next ()))else some (Out.next ()))))))))
def Ml (l:List Cx):Option (Int):=
 (bif (decide (64<((l.length:Nat):Int)))then some 4 else(Am (Lq l) 0 l ()).bind fun o0=>o0.on fun s0=>some 0)
theorem Zl (l:List Cx) {r:Int} (h:Ml l=some r):Ad Tryz.prog 77 [.sl 3 (l.map Ba)] (·= .int .i64 r):=by
 refine Ad.nle (Ad.intro Tryz.func77 rfl rfl (by show _≤57;simp) ?_)
 unfold Ml at h
 refine nS (sq ?_)
 refine ar rfl (qn (sq (sq ?_)))
 refine rg rfl fun K j=>?_
 intro hm
 refine j _ _ (qn ?_)
 revert h;refine ca rfl (fun hc h=>?_) fun hc h=>?_
 ·refine sq (ar rfl (qn (rt (qr ?_))))
  cases h;exact en Tryz.results77
 refine sk (qn (sq (sq ?_)))
 refine rg rfl fun K j=>?_
 intro hm
 refine j _ _ (qn (bk ?_))
 obtain⟨o0,hJ0,hO0⟩:=Ah h
 clear h
 refine AWP.Br (ι:=Nat×(Unit)×(Unit)) (fun zz=>[(0,.sl 3 (l.map Ba)),(8,.sl 3 (l.map Ba)),(9,.int .i64 ((l.length:Nat):Int)),(10,.int .i64 ((zz.1:Nat):Int))]) (fun zz=>[]) (fun zz=>zz.1≤l.length∧Am (Lq l) zz.1 ((l).drop zz.1) zz.2.1=some o0) (fun zz=>l.length - zz.1) (0,(),()) ⟨Nat.zero_le _,hJ0⟩ cu cu (fun x=>⟨rfl,rfl,rfl⟩) ?_
 clear hJ0
 rintro⟨k0,⟨⟩,⟨⟩⟩ ⟨hk0,hJ0⟩
 dsimp only at hk0 hJ0 ⊢
 refine sq (ar rfl (qn (sq ?_)))
 refine AWP.cond (Aj (fun hc=>?_) (fun hc=>?_))
 rotate_left
 ·obtain rfl:=Bc hJ0 (fun hl=>by have:=Ajo hc;omega)
  have h:=Bb hO0;try dsimp only at h
  have hkl:l.length=k0:=by have:=Ajo hc;omega
  subst hkl
  refine xt (qe (qe (bs (qn (sq (ar rfl (qn (rt ?_))))))))
  cases h;exact en Tryz.results77
 have hlt0:k0<l.length:=by have:=Ajp hc;omega
 obtain⟨x_2,b0,hx0_,h,hJ0⟩:=A1 hJ0 hlt0
 have hx0:=Ay hx0_
 have hw0:=wk (k:=k0) (by omega)
 unfold Lq at h;try dsimp only at h
 refine sk (qn (sq (bk (sq ?_))))
 refine rg rfl fun K j=>?_
 refine Bk.of (f:=Ba) (l:=l) hx0 ?_
 refine nS ?_
 refine j _ _ (qn (sq (sq ?_)))
 refine rg rfl fun K j=>?_
 revert h;refine gf (fun hc h=>?_) fun hc h=>?_
 rotate_left
 ·refine j _ _ (qn ?_)
  refine AWP.cond (Ai ?_)
  refine sq (ar rfl (qn (rt (qr (br (qr (qr ?_)))))))
  obtain rfl:=Aa h
  obtain rfl:=Af hJ0
  replace h:=An hO0
  refine br (qr ?_)
  cases h;exact en Tryz.results77
 revert h;refine gf (fun hc h=>?_) fun hc h=>?_
 rotate_left
 ·refine j _ _ (qn ?_)
  refine AWP.cond (Ai ?_)
  refine sq (ar rfl (qn (rt (qr (br (qr (qr ?_)))))))
  obtain rfl:=Aa h
  obtain rfl:=Af hJ0
  replace h:=An hO0
  refine br (qr ?_)
  cases h;exact en Tryz.results77
 revert h;refine gf (fun hc h=>?_) fun hc h=>?_
 rotate_left
 ·refine j _ _ (qn ?_)
  refine AWP.cond (Ai ?_)
  refine sq (ar rfl (qn (rt (qr (br (qr (qr ?_)))))))
  obtain rfl:=Aa h
  obtain rfl:=Af hJ0
  replace h:=An hO0
  refine br (qr ?_)
  cases h;exact en Tryz.results77
 revert h;refine gf (fun hc h=>?_) fun hc h=>?_
 rotate_left
 ·refine j _ _ (qn ?_)
  refine AWP.cond (Ai ?_)
  refine sq (ar rfl (qn (rt (qr (br (qr (qr ?_)))))))
  obtain rfl:=Aa h
  obtain rfl:=Af hJ0
  replace h:=An hO0
  refine br (qr ?_)
  cases h;exact en Tryz.results77
 revert h;refine gf (fun hc h=>?_) fun hc h=>?_
 rotate_left
 ·refine j _ _ (qn ?_)
  refine AWP.cond (Ai ?_)
  refine sq (ar rfl (qn (rt (qr (br (qr (qr ?_)))))))
  obtain rfl:=Aa h
  obtain rfl:=Af hJ0
  replace h:=An hO0
  refine br (qr ?_)
  cases h;exact en Tryz.results77
 refine j _ _ (qn ?_)
 revert h;refine ca rfl (fun hc h=>?_) fun hc h=>?_
 ·refine sq (ar rfl (qn (rt (qr (br (qr (qr ?_)))))))
  obtain rfl:=Aa h
  obtain rfl:=Af hJ0
  replace h:=An hO0
  refine br (qr ?_)
  cases h;exact en Tryz.results77
 refine sk (qn (sq ?_))
 refine AWP.draw Tryz.mixed (by kernel_rfl) ?_;intro K j
 refine nS ?_
 revert h;refine gt (fun hc h=>?_) fun hc h=>?_
 ·obtain⟨x_3,hx_3,h⟩:=Ah h
  refine Bk.of (f:=Ba) (l:=l) hx_3 ?_
  refine nS ?_
  refine j _ _ _ (by kernel_rfl) ?_
  refine qn ?_
  revert h;refine ca rfl (fun hc h=>?_) fun hc h=>?_
  ·refine sq (ar rfl (qn (rt (br (qr (qr ?_))))))
   obtain rfl:=Aa h
   obtain rfl:=Af hJ0
   replace h:=An hO0
   refine br (qr ?_)
   cases h;exact en Tryz.results77
  refine sk (bn (qn (ar rfl (qn ?_))))
  obtain rfl:=Aa h
  refine⟨(k0+1,(),()),⟨by dsimp only;omega,Ae hJ0⟩,by dsimp only;omega,?_,?_⟩
  ·exact cuw hw0
  exact cuw hw0
 refine j _ _ _ (by kernel_rfl) ?_
 refine qn ?_
 refine AWP.cond (Bg ?_)
 refine sk (bn (qn (ar rfl (qn ?_))))
 obtain rfl:=Aa h
 refine⟨(k0+1,(),()),⟨by dsimp only;omega,Ae hJ0⟩,by dsimp only;omega,?_,?_⟩
 ·exact cuw hw0
 exact cuw hw0
def Gt (s_:Bf):Option (Bool):=
 (bif (decide (1≤s_.ID))then (bif (decide (s_.ID≤9999))then (bif (decide (4≤s_.Limit))then (bif (decide (s_.Limit≤100000))then (bif (decide (0≤s_.Load))then (bif (decide (s_.Load≤100000))then (bif (decide ((-1)≤s_.Controlled))then some (decide (s_.Controlled≤20000000))else some false)else some false)else some false)else some false)else some false)else some false)else some false)
theorem V0 (s_:Bf) {r:Bool} (h:Gt s_=some r):Ad Tryz.prog 163 [.agg (A5 s_)] (·= .bool r):=by
 refine Ad.nle (Ad.intro Tryz.func163 rfl rfl (by show _≤41;simp) ?_)
 unfold Gt at h
 refine nS (sq ?_)
 refine ar rfl (qn (sq ?_))
 refine rg rfl fun K j=>?_
 revert h;refine gt (fun hc h=>?_) fun hc h=>?_
 rotate_left
 ·refine j _ _ (qn (rt ?_))
  cases h;exact en Tryz.results163
 revert h;refine gt (fun hc h=>?_) fun hc h=>?_
 rotate_left
 ·refine j _ _ (qn (rt ?_))
  cases h;exact en Tryz.results163
 revert h;refine gt (fun hc h=>?_) fun hc h=>?_
 ·revert h;refine gt (fun hc h=>?_) fun hc h=>?_
  ·revert h;refine gt (fun hc h=>?_) fun hc h=>?_
   ·revert h;refine gt (fun hc h=>?_) fun hc h=>?_
    ·revert h;refine gt (fun hc h=>?_) fun hc h=>?_
     ·refine j _ _ (qn (rt ?_))
      cases h;exact en Tryz.results163
     refine j _ _ (qn (rt ?_))
     cases h;exact en Tryz.results163
    refine j _ _ (qn (rt ?_))
    cases h;exact en Tryz.results163
   refine j _ _ (qn (rt ?_))
   cases h;exact en Tryz.results163
  refine j _ _ (qn (rt ?_))
  cases h;exact en Tryz.results163
 refine j _ _ (qn (rt ?_))
 cases h;exact en Tryz.results163
def Gu (id_:Int) (k0:Nat) (x_2:Bf) (sv:Unit):Option (Out (Unit) (Int)):=
 (bif (decide (x_2.ID=id_))then some (Out.ret ((k0:Nat):Int))else some (Out.next ()))
def H4 (l:List Bf) (id_:Int):Option (Int):=
 (Am (Gu id_) 0 l ()).bind fun o0=>o0.on fun s0=>some (-1)
theorem Y6 (l:List Bf) (id_:Int) {r:Int} (h:H4 l id_=some r):Ad Tryz.prog 164 [.sl 6 (l.map A5),.int .i64 id_] (·= .int .i64 r):=by
 refine Ad.nle (Ad.intro Tryz.func164 rfl rfl (by show _≤8;simp) ?_)
 unfold H4 at h
 refine nS (sq ?_)
 refine ar rfl (qn (sq ?_))
 refine rg rfl fun K j=>?_
 refine Al.inline Tryz.call245 Tryz.func245 rfl rfl (by show _≤19;simp) ?_
 refine nS (sq ?_)
 refine ar rfl (qn (sq (sq ?_)))
 refine rg rfl fun K j=>?_
 intro hm
 refine j _ _ (qn (bk ?_));clear j K
 obtain⟨o0,hJ0,hO0⟩:=Ah h
 clear h
 refine AWP.Br (ι:=Nat×(Unit)×(Unit)) (fun zz=>[(0,.sl 6 (l.map A5)),(1,.func 246 [.ptr 0 0]),(7,.int .i64 ((l.length:Nat):Int)),(8,.int .i64 ((zz.1:Nat):Int))]) (fun zz=>[.box [.int .i64 id_]]) (fun zz=>zz.1≤l.length∧Am (Gu id_) zz.1 ((l).drop zz.1) zz.2.1=some o0) (fun zz=>l.length - zz.1) (0,(),()) ⟨Nat.zero_le _,hJ0⟩ cu cu (fun x=>⟨rfl,rfl,rfl⟩) ?_
 clear hJ0
 rintro⟨k0,⟨⟩,⟨⟩⟩ ⟨hk0,hJ0⟩
 dsimp only at hk0 hJ0 ⊢
 refine sq (ar rfl (qn (sq ?_)))
 refine AWP.cond (Aj (fun hc=>?_) (fun hc=>?_))
 rotate_left
 ·obtain rfl:=Bc hJ0 (fun hl=>by have:=Ajo hc;omega)
  have h:=Bb hO0;try dsimp only at h
  have hkl:l.length=k0:=by have:=Ajo hc;omega
  subst hkl
  refine xt (qe (qe (bs (qn (sq (ar rfl (qn (rt ?_))))))))
  refine nSc Tryz.results245 ?_
  refine j _ _ (qn (rt ?_))
  cases h;exact en Tryz.results164
 have hlt0:k0<l.length:=by have:=Ajp hc;omega
 obtain⟨x_2,b0,hx0_,h,hJ0⟩:=A1 hJ0 hlt0
 have hx0:=Ay hx0_
 have hw0:=wk (k:=k0) (by omega)
 unfold Gu at h;try dsimp only at h
 refine sk (qn (sq (bk (sq (ar rfl (qn (sq ?_)))))))
 refine rg rfl fun K j=>?_
 refine Bk.of (f:=A5) (l:=l) hx0 ?_
 refine nS ?_
 refine Al.inline Tryz.call246 Tryz.func246 rfl rfl (by show _≤8;simp) ?_
 refine nS (sq ?_)
 refine ar rfl (qn (sq ?_))
 refine ar rfl (qn (rt ?_))
 refine nSc Tryz.results246 ?_
 refine j _ _ (qn ?_);clear j K
 revert h;refine ca rfl (fun hc h=>?_) fun hc h=>?_
 ·refine sq (ar rfl (qn (rt (br (qr (qr ?_))))))
  obtain rfl:=Aa h
  obtain rfl:=Af hJ0
  replace h:=An hO0
  refine br (qr (nSc Tryz.results245 ?_))
  refine j _ _ (qn (rt ?_))
  cases h;exact en Tryz.results164
 refine sk (bn (qn (ar rfl (qn ?_))))
 obtain rfl:=Aa h
 refine⟨(k0+1,(),()),⟨by dsimp only;omega,Ae hJ0⟩,by dsimp only;omega,?_,?_⟩
 ·exact cuw hw0
 exact cuw hw0
def D9 (l:List Int) (most:Int) (k0:Nat) (x_2:Int) (sv:Unit):Option (Out (Unit) (Bool)):=
 (bif (decide (x_2<1))then some (Out.ret false)else (bif (decide (most<x_2))then some (Out.ret false)else (bif (decide (0<((k0:Nat):Int)))then (Dl l (IntKind.i64.wrap (((k0:Nat):Int) - 1))).bind fun x_3=>(bif (decide (x_2≤x_3))then some (Out.ret false)else some (Out.next ()))else some (Out.next ()))))
def Ea (l:List Int) (most:Int):Option (Bool):=
 (Am (D9 l most) 0 l ()).bind fun o0=>o0.on fun s0=>some true
theorem Md (l:List Int) (most:Int) {r:Bool} (h:Ea l most=some r):Ad Tryz.prog 165 [.sl 1 (l.map Aw),.int .i64 most] (·= .bool r):=by
 refine Ad.nle (Ad.intro Tryz.func165 rfl rfl (by show _≤35;simp) ?_)
 unfold Ea at h
 refine nS (sq ?_)
 refine ar rfl (qn (sq (sq ?_)))
 refine rg rfl fun K j=>?_
 intro hm
 refine j _ _ (qn (bk ?_))
 obtain⟨o0,hJ0,hO0⟩:=Ah h
 clear h
 refine AWP.Br (ι:=Nat×(Unit)×(Unit)) (fun zz=>[(0,.sl 1 (l.map Aw)),(1,.int .i64 most),(7,.sl 1 (l.map Aw)),(8,.int .i64 ((l.length:Nat):Int)),(9,.int .i64 ((zz.1:Nat):Int))]) (fun zz=>[]) (fun zz=>zz.1≤l.length∧Am (D9 l most) zz.1 ((l).drop zz.1) zz.2.1=some o0) (fun zz=>l.length - zz.1) (0,(),()) ⟨Nat.zero_le _,hJ0⟩ cu cu (fun x=>⟨rfl,rfl,rfl⟩) ?_
 clear hJ0
 rintro⟨k0,⟨⟩,⟨⟩⟩ ⟨hk0,hJ0⟩
 dsimp only at hk0 hJ0 ⊢
 refine sq (ar rfl (qn (sq ?_)))
 refine AWP.cond (Aj (fun hc=>?_) (fun hc=>?_))
 rotate_left
 ·obtain rfl:=Bc hJ0 (fun hl=>by have:=Ajo hc;omega)
  have h:=Bb hO0;try dsimp only at h
  have hkl:l.length=k0:=by have:=Ajo hc;omega
  subst hkl
  refine xt (qe (qe (bs (qn (sq (ar rfl (qn (rt ?_))))))))
  cases h;exact en Tryz.results165
 have hlt0:k0<l.length:=by have:=Ajp hc;omega
 obtain⟨x_2,b0,hx0_,h,hJ0⟩:=A1 hJ0 hlt0
 have hx0:=Ay hx0_
 have hw0:=wk (k:=k0) (by omega)
 unfold D9 at h;try dsimp only at h
 refine sk (qn (sq (bk (sq ?_))))
 refine rg rfl fun K j=>?_
 refine Bk.of (f:=Aw) (l:=l) hx0 ?_
 refine nS ?_
 refine j _ _ (qn (sq ?_))
 refine rg rfl fun K j=>?_
 revert h;refine gf (fun hc h=>?_) fun hc h=>?_
 rotate_left
 ·refine j _ _ (qn ?_)
  refine AWP.cond (Ai ?_)
  refine sq (ar rfl (qn (rt (br (qr (qr ?_))))))
  obtain rfl:=Aa h
  obtain rfl:=Af hJ0
  replace h:=An hO0
  refine br (qr ?_)
  cases h;exact en Tryz.results165
 revert h;refine gf (fun hc h=>?_) fun hc h=>?_
 rotate_left
 ·refine j _ _ (qn ?_)
  refine AWP.cond (Ai ?_)
  refine sq (ar rfl (qn (rt (br (qr (qr ?_))))))
  obtain rfl:=Aa h
  obtain rfl:=Af hJ0
  replace h:=An hO0
  refine br (qr ?_)
  cases h;exact en Tryz.results165
 revert h;refine gt (fun hc h=>?_) fun hc h=>?_
 ·obtain⟨x_3,hx_3,h⟩:=Ah h
  refine Bk.of (f:=Aw) (l:=l) hx_3 ?_
  refine nS ?_
  refine j _ _ (qn ?_)
  revert h;refine ca rfl (fun hc h=>?_) fun hc h=>?_
  ·refine sq (ar rfl (qn (rt (br (qr (qr ?_))))))
   obtain rfl:=Aa h
   obtain rfl:=Af hJ0
   replace h:=An hO0
   refine br (qr ?_)
   cases h;exact en Tryz.results165
  refine sk (bn (qn (ar rfl (qn ?_))))
  obtain rfl:=Aa h
  refine⟨(k0+1,(),()),⟨by dsimp only;omega,Ae hJ0⟩,by dsimp only;omega,?_,?_⟩
  ·exact cuw hw0
  exact cuw hw0
 refine j _ _ (qn ?_)
 refine AWP.cond (Bg ?_)
 refine sk (bn (qn (ar rfl (qn ?_))))
 obtain rfl:=Aa h
 refine⟨(k0+1,(),()),⟨by dsimp only;omega,Ae hJ0⟩,by dsimp only;omega,?_,?_⟩
 ·exact cuw hw0
 exact cuw hw0
def Ew (l:List Bf) (k0:Nat) (x_2:Bf) (sv:Unit):Option (Out (Unit) (Int)):=
 (Gt x_2).bind fun y3=>(bif (!y3)then some (Out.ret 2)else okB (decide (0≤((k0:Nat):Int)∧((k0:Nat):Int)≤((l.length:Nat):Int))) ((H4 (l.take k0) x_2.ID).bind fun y4=>(bif (decide (0≤y4))then some (Out.ret 7)else (bif (decide (((x_2.Zones.length:Nat):Int)=0))then some (Out.ret 1)else (Ea x_2.Zones 32).bind fun y5=>(bif (!y5)then some (Out.ret 1)else (Ea x_2.Lifts 9999).bind fun y6=>(bif (!y6)then some (Out.ret 1)else some (Out.next ())))))))
def Jm (l:List Bf):Option (Int):=
 (bif (decide (32<((l.length:Nat):Int)))then some 4 else(Am (Ew l) 0 l ()).bind fun o0=>o0.on fun s0=>some 0)
theorem Xu (l:List Bf) {r:Int} (h:Jm l=some r):Ad Tryz.prog 78 [.sl 6 (l.map A5)] (·= .int .i64 r):=by
 refine Ad.nle (Ad.intro Tryz.func78 rfl rfl (by show _≤42;simp) ?_)
 unfold Jm at h
 refine nS (sq ?_)
 refine ar rfl (qn (sq (sq ?_)))
 refine rg rfl fun K j=>?_
 intro hm
 refine j _ _ (qn ?_)
 revert h;refine ca rfl (fun hc h=>?_) fun hc h=>?_
 ·refine sq (ar rfl (qn (rt (qr ?_))))
  cases h;exact en Tryz.results78
 refine sk (qn (sq (sq ?_)))
 refine rg rfl fun K j=>?_
 intro hm
 refine j _ _ (qn (bk ?_))
 obtain⟨o0,hJ0,hO0⟩:=Ah h
 clear h
 refine AWP.Br (ι:=Nat×(Unit)×(Unit)) (fun zz=>[(0,.sl 6 (l.map A5)),(8,.sl 6 (l.map A5)),(9,.int .i64 ((l.length:Nat):Int)),(10,.int .i64 ((zz.1:Nat):Int))]) (fun zz=>[]) (fun zz=>zz.1≤l.length∧Am (Ew l) zz.1 ((l).drop zz.1) zz.2.1=some o0) (fun zz=>l.length - zz.1) (0,(),()) ⟨Nat.zero_le _,hJ0⟩ cu cu (fun x=>⟨rfl,rfl,rfl⟩) ?_
 clear hJ0
 rintro⟨k0,⟨⟩,⟨⟩⟩ ⟨hk0,hJ0⟩
 dsimp only at hk0 hJ0 ⊢
 refine sq (ar rfl (qn (sq ?_)))
 refine AWP.cond (Aj (fun hc=>?_) (fun hc=>?_))
 rotate_left
 ·obtain rfl:=Bc hJ0 (fun hl=>by have:=Ajo hc;omega)
  have h:=Bb hO0;try dsimp only at h
  have hkl:l.length=k0:=by have:=Ajo hc;omega
  subst hkl
  refine xt (qe (qe (bs (qn (sq (ar rfl (qn (rt ?_))))))))
  cases h;exact en Tryz.results78
 have hlt0:k0<l.length:=by have:=Ajp hc;omega
 obtain⟨x_2,b0,hx0_,h,hJ0⟩:=A1 hJ0 hlt0
 have hx0:=Ay hx0_
 have hw0:=wk (k:=k0) (by omega)
 unfold Ew at h;try dsimp only at h
 refine sk (qn (sq (bk (sq ?_))))
 refine rg rfl fun K j=>?_
 refine Bk.of (f:=A5) (l:=l) hx0 ?_
 refine nS ?_
 refine j _ _ (qn (sq (sq ?_)))
 refine rg rfl fun K j=>?_
 obtain⟨y3,hy3,h⟩:=Ah h
 refine Al.pure Tryz.call163 (V0 x_2 hy3) rfl fun _ hr=>?_
 subst hr
 refine nS ?_
 refine j _ _ (qn ?_)
 revert h;refine ca rfl (fun hc h=>?_) fun hc h=>?_
 ·refine sq (ar rfl (qn (rt (qr (br (qr (qr ?_)))))))
  obtain rfl:=Aa h
  obtain rfl:=Af hJ0
  replace h:=An hO0
  refine br (qr ?_)
  cases h;exact en Tryz.results78
 refine sk (qn (sq (sq ?_)))
 refine AWP.draw Tryz.mixed (by kernel_rfl) ?_;intro K j
 refine nS ?_
 obtain⟨hk,h⟩:=Jz h
 intro hm
 (repeat(refine⟨by omega,?_⟩))
 obtain⟨y4,hy4,h⟩:=Ah h
 refine Bz.pure Tryz.call164 (Y6 (l.take k0) x_2.ID hy4) rfl ?_
 refine nS ?_
 refine j _ _ _ (by kernel_rfl) ?_
 refine qn ?_
 revert h;refine ca rfl (fun hc h=>?_) fun hc h=>?_
 ·refine sq (ar rfl (qn (rt (qr (br (qr (qr ?_)))))))
  obtain rfl:=Aa h
  obtain rfl:=Af hJ0
  replace h:=An hO0
  refine br (qr ?_)
  cases h;exact en Tryz.results78
 refine sk (qn (sq ?_))
 refine rg rfl fun K j=>?_
 intro hm
 revert h;refine gf (fun hc h=>?_) fun hc h=>?_
 rotate_left
 ·refine j _ _ (qn ?_)
  refine AWP.cond (Ai ?_)
  refine sq (ar rfl (qn (rt (br (qr (qr ?_))))))
  obtain rfl:=Aa h
  obtain rfl:=Af hJ0
  replace h:=An hO0
  refine br (qr ?_)
  cases h;exact en Tryz.results78
 obtain⟨y5,hy5,h⟩:=Ah h
 refine Al.pure Tryz.call165 (Md x_2.Zones 32 hy5) rfl fun _ hr=>?_
 subst hr
 refine nS ?_
 revert h;refine gf (fun hc h=>?_) fun hc h=>?_
 ·obtain⟨y6,hy6,h⟩:=Ah h
  refine Al.pure Tryz.call165 (Md x_2.Lifts 9999 hy6) rfl fun _ hr=>?_
  subst hr
  refine nS ?_
  refine j _ _ (qn ?_)
  revert h;refine ca rfl (fun hc h=>?_) fun hc h=>?_
  ·refine sq (ar rfl (qn (rt (br (qr (qr ?_))))))
   obtain rfl:=Aa h
   obtain rfl:=Af hJ0
   replace h:=An hO0
   refine br (qr ?_)
   cases h;exact en Tryz.results78
  refine sk (bn (qn (ar rfl (qn ?_))))
  obtain rfl:=Aa h
  refine⟨(k0+1,(),()),⟨by dsimp only;omega,Ae hJ0⟩,by dsimp only;omega,?_,?_⟩
  ·exact cuw hw0
  exact cuw hw0
 refine j _ _ (qn ?_)
 refine AWP.cond (Ai ?_)
 refine sq (ar rfl (qn (rt (br (qr (qr ?_))))))
 obtain rfl:=Aa h
 obtain rfl:=Af hJ0
 replace h:=An hO0
 refine br (qr ?_)
 cases h;exact en Tryz.results78
def Hx (b:Bp):Option (Bool):=
 (bif (decide (b.Version<1))then some false else(bif (decide (1000000<b.Version))then some false else(bif (decide (b.Span.From<0))then some false else(bif (decide (b.Span.To≤b.Span.From))then some false else(bif (decide (20000000<b.Span.To))then some false else(bif (decide (b.Low<0))then some false else(bif (decide (b.High≤b.Low))then some false else(bif (decide (6000<b.High))then some false else(bif (decide (1≤b.Level))then some (decide (b.Level≤5))else some false)))))))))
theorem Wk (b:Bp) {r:Bool} (h:Hx b=some r):Ad Tryz.prog 166 [.agg (Au b)] (·= .bool r):=by
 refine Ad.nle (Ad.intro Tryz.func166 rfl rfl (by show _≤53;simp) ?_)
 unfold Hx at h
 refine nS (sq ?_)
 refine ar rfl (qn (sq (sq ?_)))
 refine rg rfl fun K j=>?_
 revert h;refine gf (fun hc h=>?_) fun hc h=>?_
 rotate_left
 ·refine j _ _ (qn ?_)
  refine AWP.cond (Ai ?_)
  refine sq (ar rfl (qn (rt (qr ?_))))
  cases h;exact en Tryz.results166
 refine j _ _ (qn ?_)
 revert h;refine ca rfl (fun hc h=>?_) fun hc h=>?_
 ·refine sq (ar rfl (qn (rt (qr ?_))))
  cases h;exact en Tryz.results166
 refine sk (qn (sq (sq ?_)))
 refine rg rfl fun K j=>?_
 revert h;refine gf (fun hc h=>?_) fun hc h=>?_
 rotate_left
 ·refine j _ _ (qn ?_)
  refine AWP.cond (Ai ?_)
  refine sq (ar rfl (qn (rt (qr ?_))))
  cases h;exact en Tryz.results166
 revert h;refine gf (fun hc h=>?_) fun hc h=>?_
 rotate_left
 ·refine j _ _ (qn ?_)
  refine AWP.cond (Ai ?_)
  refine sq (ar rfl (qn (rt (qr ?_))))
  cases h;exact en Tryz.results166
 refine j _ _ (qn ?_)
 revert h;refine ca rfl (fun hc h=>?_) fun hc h=>?_
 ·refine sq (ar rfl (qn (rt (qr ?_))))
  cases h;exact en Tryz.results166
 refine sk (qn (sq (sq ?_)))
 refine rg rfl fun K j=>?_
 revert h;refine gf (fun hc h=>?_) fun hc h=>?_
 ·revert h;refine gf (fun hc h=>?_) fun hc h=>?_
  ·refine j _ _ (qn ?_)
   revert h;refine ca rfl (fun hc h=>?_) fun hc h=>?_
   ·refine sq (ar rfl (qn (rt (qr ?_))))
    cases h;exact en Tryz.results166
   refine sk (qn (sq ?_))
   refine rg rfl fun K j=>?_
   revert h;refine gt (fun hc h=>?_) fun hc h=>?_
   ·refine j _ _ (qn (rt ?_))
    cases h;exact en Tryz.results166
   refine j _ _ (qn (rt ?_))
   cases h;exact en Tryz.results166
  refine j _ _ (qn ?_)
  refine AWP.cond (Ai ?_)
  refine sq (ar rfl (qn (rt (qr ?_))))
  cases h;exact en Tryz.results166
 refine j _ _ (qn ?_)
 refine AWP.cond (Ai ?_)
 refine sq (ar rfl (qn (rt (qr ?_))))
 cases h;exact en Tryz.results166
def Iw (zones:List Int) (k0:Nat) (x_2:Int) (sv:Unit):Option (Out (Unit) (Bool)):=
 (bif (decide (x_2<1))then some (Out.ret false)else (bif (decide (32<x_2))then some (Out.ret false)else (bif (decide (0<((k0:Nat):Int)))then (Dl zones (IntKind.i64.wrap (((k0:Nat):Int) - 1))).bind fun x_3=>(bif (decide (x_2≤x_3))then some (Out.ret false)else some (Out.next ()))else some (Out.next ()))))
def Mi (zones:List Int):Option (Bool):=
 (Am (Iw zones) 0 zones ()).bind fun o0=>o0.on fun s0=>some (decide (0<((zones.length:Nat):Int)))
theorem Uf (zones:List Int) {r:Bool} (h:Mi zones=some r):Ad Tryz.prog 167 [.sl 1 (zones.map Aw)] (·= .bool r):=by
 refine Ad.nle (Ad.intro Tryz.func167 rfl rfl (by show _≤35;simp) ?_)
 unfold Mi at h
 refine nS (sq ?_)
 refine ar rfl (qn (sq (sq ?_)))
 refine rg rfl fun K j=>?_
 intro hm
 refine j _ _ (qn (bk ?_))
 obtain⟨o0,hJ0,hO0⟩:=Ah h
 clear h
 refine AWP.Br (ι:=Nat×(Unit)×(Unit)) (fun zz=>[(0,.sl 1 (zones.map Aw)),(5,.sl 1 (zones.map Aw)),(6,.int .i64 ((zones.length:Nat):Int)),(7,.int .i64 ((zz.1:Nat):Int))]) (fun zz=>[]) (fun zz=>zz.1≤zones.length∧Am (Iw zones) zz.1 ((zones).drop zz.1) zz.2.1=some o0) (fun zz=>zones.length - zz.1) (0,(),()) ⟨Nat.zero_le _,hJ0⟩ cu cu (fun x=>⟨rfl,rfl,rfl⟩) ?_
 clear hJ0
 rintro⟨k0,⟨⟩,⟨⟩⟩ ⟨hk0,hJ0⟩
 dsimp only at hk0 hJ0 ⊢
 refine sq (ar rfl (qn (sq ?_)))
 refine AWP.cond (Aj (fun hc=>?_) (fun hc=>?_))
 rotate_left
 ·obtain rfl:=Bc hJ0 (fun hl=>by have:=Ajo hc;omega)
  have h:=Bb hO0;try dsimp only at h
  have hkl:zones.length=k0:=by have:=Ajo hc;omega
  subst hkl
  refine xt (qe (qe (bs (qn (sq ?_)))))
  refine rg rfl fun K j=>?_
  intro hm
  refine j _ _ (qn (rt ?_))
  cases h;exact en Tryz.results167
 have hlt0:k0<zones.length:=by have:=Ajp hc;omega
 obtain⟨x_2,b0,hx0_,h,hJ0⟩:=A1 hJ0 hlt0
 have hx0:=Ay hx0_
 have hw0:=wk (k:=k0) (by omega)
 unfold Iw at h;try dsimp only at h
 refine sk (qn (sq (bk (sq ?_))))
 refine rg rfl fun K j=>?_
 refine Bk.of (f:=Aw) (l:=zones) hx0 ?_
 refine nS ?_
 refine j _ _ (qn (sq ?_))
 refine rg rfl fun K j=>?_
 revert h;refine gf (fun hc h=>?_) fun hc h=>?_
 rotate_left
 ·refine j _ _ (qn ?_)
  refine AWP.cond (Ai ?_)
  refine sq (ar rfl (qn (rt (br (qr (qr ?_))))))
  obtain rfl:=Aa h
  obtain rfl:=Af hJ0
  replace h:=An hO0
  refine br (qr ?_)
  cases h;exact en Tryz.results167
 revert h;refine gf (fun hc h=>?_) fun hc h=>?_
 rotate_left
 ·refine j _ _ (qn ?_)
  refine AWP.cond (Ai ?_)
  refine sq (ar rfl (qn (rt (br (qr (qr ?_))))))
  obtain rfl:=Aa h
  obtain rfl:=Af hJ0
  replace h:=An hO0
  refine br (qr ?_)
  cases h;exact en Tryz.results167
 revert h;refine gt (fun hc h=>?_) fun hc h=>?_
 ·obtain⟨x_3,hx_3,h⟩:=Ah h
  refine Bk.of (f:=Aw) (l:=zones) hx_3 ?_
  refine nS ?_
  refine j _ _ (qn ?_)
  revert h;refine ca rfl (fun hc h=>?_) fun hc h=>?_
  ·refine sq (ar rfl (qn (rt (br (qr (qr ?_))))))
   obtain rfl:=Aa h
   obtain rfl:=Af hJ0
   replace h:=An hO0
   refine br (qr ?_)
   cases h;exact en Tryz.results167
  refine sk (bn (qn (ar rfl (qn ?_))))
  obtain rfl:=Aa h
  refine⟨(k0+1,(),()),⟨by dsimp only;omega,Ae hJ0⟩,by dsimp only;omega,?_,?_⟩
  ·exact cuw hw0
  exact cuw hw0
 refine j _ _ (qn ?_)
 refine AWP.cond (Bg ?_)
 refine sk (bn (qn (ar rfl (qn ?_))))
 obtain rfl:=Aa h
 refine⟨(k0+1,(),()),⟨by dsimp only;omega,Ae hJ0⟩,by dsimp only;omega,?_,?_⟩
 ·exact cuw hw0
 exact cuw hw0
def Eh (l:List Bp) (k0:Nat) (x_2:Bp) (sv:Unit):Option (Out (Unit) (Int)):=
 (Hx x_2).bind fun y3=>(bif (!y3)then some (Out.ret 2)else (Mi x_2.Zones).bind fun y4=>(bif (!y4)then some (Out.ret 1)else (bif (decide (0<((k0:Nat):Int)))then (Dl l (IntKind.i64.wrap (((k0:Nat):Int) - 1))).bind fun x_5=>(bif (decide (x_2.Version<x_5.Version))then some (Out.ret 11)else some (Out.next ()))else some (Out.next ()))))
def Hy (l:List Bp):Option (Int):=
 (bif (decide (64<((l.length:Nat):Int)))then some 4 else(Am (Eh l) 0 l ()).bind fun o0=>o0.on fun s0=>some 0)
theorem Y3 (l:List Bp) {r:Int} (h:Hy l=some r):Ad Tryz.prog 79 [.sl 7 (l.map Au)] (·= .int .i64 r):=by
 refine Ad.nle (Ad.intro Tryz.func79 rfl rfl (by show _≤36;simp) ?_)
 unfold Hy at h
 refine nS (sq ?_)
 refine ar rfl (qn (sq (sq ?_)))
 refine rg rfl fun K j=>?_
 intro hm
 refine j _ _ (qn ?_)
 revert h;refine ca rfl (fun hc h=>?_) fun hc h=>?_
 ·refine sq (ar rfl (qn (rt (qr ?_))))
  cases h;exact en Tryz.results79
 refine sk (qn (sq (sq ?_)))
 refine rg rfl fun K j=>?_
 intro hm
 refine j _ _ (qn (bk ?_))
 obtain⟨o0,hJ0,hO0⟩:=Ah h
 clear h
 refine AWP.Br (ι:=Nat×(Unit)×(Unit)) (fun zz=>[(0,.sl 7 (l.map Au)),(8,.sl 7 (l.map Au)),(9,.int .i64 ((l.length:Nat):Int)),(10,.int .i64 ((zz.1:Nat):Int))]) (fun zz=>[]) (fun zz=>zz.1≤l.length∧Am (Eh l) zz.1 ((l).drop zz.1) zz.2.1=some o0) (fun zz=>l.length - zz.1) (0,(),()) ⟨Nat.zero_le _,hJ0⟩ cu cu (fun x=>⟨rfl,rfl,rfl⟩) ?_
 clear hJ0
 rintro⟨k0,⟨⟩,⟨⟩⟩ ⟨hk0,hJ0⟩
 dsimp only at hk0 hJ0 ⊢
 refine sq (ar rfl (qn (sq ?_)))
 refine AWP.cond (Aj (fun hc=>?_) (fun hc=>?_))
 rotate_left
 ·obtain rfl:=Bc hJ0 (fun hl=>by have:=Ajo hc;omega)
  have h:=Bb hO0;try dsimp only at h
  have hkl:l.length=k0:=by have:=Ajo hc;omega
  subst hkl
  refine xt (qe (qe (bs (qn (sq (ar rfl (qn (rt ?_))))))))
  cases h;exact en Tryz.results79
 have hlt0:k0<l.length:=by have:=Ajp hc;omega
 obtain⟨x_2,b0,hx0_,h,hJ0⟩:=A1 hJ0 hlt0
 have hx0:=Ay hx0_
 have hw0:=wk (k:=k0) (by omega)
 unfold Eh at h;try dsimp only at h
 refine sk (qn (sq (bk (sq ?_))))
 refine rg rfl fun K j=>?_
 refine Bk.of (f:=Au) (l:=l) hx0 ?_
 refine nS ?_
 refine j _ _ (qn (sq (sq ?_)))
 refine rg rfl fun K j=>?_
 obtain⟨y3,hy3,h⟩:=Ah h
 refine Al.pure Tryz.call166 (Wk x_2 hy3) rfl fun _ hr=>?_
 subst hr
 refine nS ?_
 refine j _ _ (qn ?_)
 revert h;refine ca rfl (fun hc h=>?_) fun hc h=>?_
 ·refine sq (ar rfl (qn (rt (qr (br (qr (qr ?_)))))))
  obtain rfl:=Aa h
  obtain rfl:=Af hJ0
  replace h:=An hO0
  refine br (qr ?_)
  cases h;exact en Tryz.results79
 refine sk (qn (sq (sq ?_)))
 refine rg rfl fun K j=>?_
 obtain⟨y4,hy4,h⟩:=Ah h
 refine Al.pure Tryz.call167 (Uf x_2.Zones hy4) rfl fun _ hr=>?_
 subst hr
 refine nS ?_
 refine j _ _ (qn ?_)
 revert h;refine ca rfl (fun hc h=>?_) fun hc h=>?_
 ·refine sq (ar rfl (qn (rt (qr (br (qr (qr ?_)))))))
  obtain rfl:=Aa h
  obtain rfl:=Af hJ0
  replace h:=An hO0
  refine br (qr ?_)
  cases h;exact en Tryz.results79
 refine sk (qn (sq ?_))
 refine AWP.draw Tryz.mixed (by kernel_rfl) ?_;intro K j
 refine nS ?_
 revert h;refine gt (fun hc h=>?_) fun hc h=>?_
 ·obtain⟨x_5,hx_5,h⟩:=Ah h
  refine Bk.of (f:=Au) (l:=l) hx_5 ?_
  refine nS ?_
  refine j _ _ _ (by kernel_rfl) ?_
  refine qn ?_
  revert h;refine ca rfl (fun hc h=>?_) fun hc h=>?_
  ·refine sq (ar rfl (qn (rt (br (qr (qr ?_))))))
   obtain rfl:=Aa h
   obtain rfl:=Af hJ0
   replace h:=An hO0
   refine br (qr ?_)
   cases h;exact en Tryz.results79
  refine sk (bn (qn (ar rfl (qn ?_))))
  obtain rfl:=Aa h
  refine⟨(k0+1,(),()),⟨by dsimp only;omega,Ae hJ0⟩,by dsimp only;omega,?_,?_⟩
  ·exact cuw hw0
  exact cuw hw0
 refine j _ _ _ (by kernel_rfl) ?_
 refine qn ?_
 refine AWP.cond (Bg ?_)
 refine sk (bn (qn (ar rfl (qn ?_))))
 obtain rfl:=Aa h
 refine⟨(k0+1,(),()),⟨by dsimp only;omega,Ae hJ0⟩,by dsimp only;omega,?_,?_⟩
 ·exact cuw hw0
 exact cuw hw0
def M0 (m:Bi):Option (Bool):=
 (bif (decide (m.ID<1))then some false else(bif (decide (9999<m.ID))then some false else(bif (decide (m.Slide<1))then some false else(bif (decide (9999<m.Slide))then some false else(bif (decide (m.By<1))then some false else(bif (decide (9999<m.By))then some false else(bif (decide (m.State<0))then some false else(bif (decide (6<m.State))then some false else(bif (decide (m.Since<0))then some false else(bif (decide (20000000<m.Since))then some false else(bif (decide (0≤m.Window.From))then (bif (decide (m.Window.From<m.Window.To))then some (decide (m.Window.To≤20000000))else some false)else some false)))))))))))
theorem Z9 (m:Bi) {r:Bool} (h:M0 m=some r):Ad Tryz.prog 168 [.agg (Ao m)] (·= .bool r):=by
 refine Ad.nle (Ad.intro Tryz.func168 rfl rfl (by show _≤68;simp) ?_)
 unfold M0 at h
 refine nS (sq ?_)
 refine ar rfl (qn (sq (sq ?_)))
 refine rg rfl fun K j=>?_
 revert h;refine gf (fun hc h=>?_) fun hc h=>?_
 rotate_left
 ·refine j _ _ (qn ?_)
  refine AWP.cond (Ai ?_)
  refine sq (ar rfl (qn (rt (qr ?_))))
  cases h;exact en Tryz.results168
 revert h;refine gf (fun hc h=>?_) fun hc h=>?_
 rotate_left
 ·refine j _ _ (qn ?_)
  refine AWP.cond (Ai ?_)
  refine sq (ar rfl (qn (rt (qr ?_))))
  cases h;exact en Tryz.results168
 revert h;refine gf (fun hc h=>?_) fun hc h=>?_
 rotate_left
 ·refine j _ _ (qn ?_)
  refine AWP.cond (Ai ?_)
  refine sq (ar rfl (qn (rt (qr ?_))))
  cases h;exact en Tryz.results168
 revert h;refine gf (fun hc h=>?_) fun hc h=>?_
 rotate_left
 ·refine j _ _ (qn ?_)
  refine AWP.cond (Ai ?_)
  refine sq (ar rfl (qn (rt (qr ?_))))
  cases h;exact en Tryz.results168
 revert h;refine gf (fun hc h=>?_) fun hc h=>?_
 rotate_left
 ·refine j _ _ (qn ?_)
  refine AWP.cond (Ai ?_)
  refine sq (ar rfl (qn (rt (qr ?_))))
  cases h;exact en Tryz.results168
 refine j _ _ (qn ?_)
 revert h;refine ca rfl (fun hc h=>?_) fun hc h=>?_
 ·refine sq (ar rfl (qn (rt (qr ?_))))
  cases h;exact en Tryz.results168
 refine sk (qn (sq (sq ?_)))
 refine rg rfl fun K j=>?_
 revert h;refine gf (fun hc h=>?_) fun hc h=>?_
 rotate_left
 ·refine j _ _ (qn ?_)
  refine AWP.cond (Ai ?_)
  refine sq (ar rfl (qn (rt (qr ?_))))
  cases h;exact en Tryz.results168
 revert h;refine gf (fun hc h=>?_) fun hc h=>?_
 rotate_left
 ·refine j _ _ (qn ?_)
  refine AWP.cond (Ai ?_)
  refine sq (ar rfl (qn (rt (qr ?_))))
  cases h;exact en Tryz.results168
 revert h;refine gf (fun hc h=>?_) fun hc h=>?_
 ·refine j _ _ (qn ?_)
  revert h;refine ca rfl (fun hc h=>?_) fun hc h=>?_
  ·refine sq (ar rfl (qn (rt (qr ?_))))
   cases h;exact en Tryz.results168
  refine sk (qn (sq ?_))
  refine rg rfl fun K j=>?_
  revert h;refine gt (fun hc h=>?_) fun hc h=>?_
  ·revert h;refine gt (fun hc h=>?_) fun hc h=>?_
   ·refine j _ _ (qn (rt ?_))
    cases h;exact en Tryz.results168
   refine j _ _ (qn (rt ?_))
   cases h;exact en Tryz.results168
  refine j _ _ (qn (rt ?_))
  cases h;exact en Tryz.results168
 refine j _ _ (qn ?_)
 refine AWP.cond (Ai ?_)
 refine sq (ar rfl (qn (rt (qr ?_))))
 cases h;exact en Tryz.results168
def Ug (id_:Int) (k0:Nat) (x_2:Bi) (sv:Unit):Option (Out (Unit) (Int)):=
 (bif (decide (x_2.ID=id_))then some (Out.ret ((k0:Nat):Int))else some (Out.next ()))
def Vz (l:List Bi) (id_:Int):Option (Int):=
 (Am (Ug id_) 0 l ()).bind fun o0=>o0.on fun s0=>some (-1)
theorem gC (l:List Bi) (id_:Int) {r:Int} (h:Vz l id_=some r):Ad Tryz.prog 169 [.sl 7 (l.map Ao),.int .i64 id_] (·= .int .i64 r):=by
 refine Ad.nle (Ad.intro Tryz.func169 rfl rfl (by show _≤8;simp) ?_)
 unfold Vz at h
 refine nS (sq ?_)
 refine ar rfl (qn (sq ?_))
 refine rg rfl fun K j=>?_
 refine Al.inline Tryz.call247 Tryz.func247 rfl rfl (by show _≤19;simp) ?_
 refine nS (sq ?_)
 refine ar rfl (qn (sq (sq ?_)))
 refine rg rfl fun K j=>?_
 intro hm
 refine j _ _ (qn (bk ?_));clear j K
 obtain⟨o0,hJ0,hO0⟩:=Ah h
 clear h
 refine AWP.Br (ι:=Nat×(Unit)×(Unit)) (fun zz=>[(0,.sl 7 (l.map Ao)),(1,.func 248 [.ptr 0 0]),(7,.int .i64 ((l.length:Nat):Int)),(8,.int .i64 ((zz.1:Nat):Int))]) (fun zz=>[.box [.int .i64 id_]]) (fun zz=>zz.1≤l.length∧Am (Ug id_) zz.1 ((l).drop zz.1) zz.2.1=some o0) (fun zz=>l.length - zz.1) (0,(),()) ⟨Nat.zero_le _,hJ0⟩ cu cu (fun x=>⟨rfl,rfl,rfl⟩) ?_
 clear hJ0
 rintro⟨k0,⟨⟩,⟨⟩⟩ ⟨hk0,hJ0⟩
 dsimp only at hk0 hJ0 ⊢
 refine sq (ar rfl (qn (sq ?_)))
 refine AWP.cond (Aj (fun hc=>?_) (fun hc=>?_))
 rotate_left
 ·obtain rfl:=Bc hJ0 (fun hl=>by have:=Ajo hc;omega)
  have h:=Bb hO0;try dsimp only at h
  have hkl:l.length=k0:=by have:=Ajo hc;omega
  subst hkl
  refine xt (qe (qe (bs (qn (sq (ar rfl (qn (rt ?_))))))))
  refine nSc Tryz.results247 ?_
  refine j _ _ (qn (rt ?_))
  cases h;exact en Tryz.results169
 have hlt0:k0<l.length:=by have:=Ajp hc;omega
 obtain⟨x_2,b0,hx0_,h,hJ0⟩:=A1 hJ0 hlt0
 have hx0:=Ay hx0_
 have hw0:=wk (k:=k0) (by omega)
 unfold Ug at h;try dsimp only at h
 refine sk (qn (sq (bk (sq (ar rfl (qn (sq ?_)))))))
 refine rg rfl fun K j=>?_
 refine Bk.of (f:=Ao) (l:=l) hx0 ?_
 refine nS ?_
 refine Al.inline Tryz.call248 Tryz.func248 rfl rfl (by show _≤8;simp) ?_
 refine nS (sq ?_)
 refine ar rfl (qn (sq ?_))
 refine ar rfl (qn (rt ?_))
 refine nSc Tryz.results248 ?_
 refine j _ _ (qn ?_);clear j K
 revert h;refine ca rfl (fun hc h=>?_) fun hc h=>?_
 ·refine sq (ar rfl (qn (rt (br (qr (qr ?_))))))
  obtain rfl:=Aa h
  obtain rfl:=Af hJ0
  replace h:=An hO0
  refine br (qr (nSc Tryz.results247 ?_))
  refine j _ _ (qn (rt ?_))
  cases h;exact en Tryz.results169
 refine sk (bn (qn (ar rfl (qn ?_))))
 obtain rfl:=Aa h
 refine⟨(k0+1,(),()),⟨by dsimp only;omega,Ae hJ0⟩,by dsimp only;omega,?_,?_⟩
 ·exact cuw hw0
 exact cuw hw0
def P3 (m:Bi):Option (Bool):=
 (bif (decide (m.State=0))then some true else(Ix m).bind fun y1=>some y1)
theorem Wg (m:Bi) {r:Bool} (h:P3 m=some r):Ad Tryz.prog 170 [.agg (Ao m)] (·= .bool r):=by
 refine Ad.nle (Ad.intro Tryz.func170 rfl rfl (by show _≤10;simp) ?_)
 unfold P3 at h
 refine nS (sq ?_)
 refine ar rfl (qn (sq ?_))
 refine rg rfl fun K j=>?_
 revert h;refine gf (fun hc h=>?_) fun hc h=>?_
 ·obtain⟨y1,hy1,h⟩:=Ah h
  refine Al.pure Tryz.call249 (Tm m hy1) rfl fun _ hr=>?_
  subst hr
  refine nS ?_
  refine j _ _ (qn (rt ?_))
  cases h;exact en Tryz.results170
 refine j _ _ (qn (rt ?_))
 cases h;exact en Tryz.results170
def H3 (l:List Bi) (k0:Nat) (x_2:Bi) (k4:Nat) (_x:Unit) (sv:Unit):Option (Out (Unit) (Out (Unit) (Int))):=
 (Dl (l.take k0) ((k4:Nat):Int)).bind fun x_6=>(P3 x_2).bind fun y7=>(bif y7 then(P3 x_6).bind fun y8=>(bif y8 then(bif (decide (x_6.Slide=x_2.Slide))then some (Out.ret (Out.ret 15))else some (Out.next ()))else some (Out.next ()))else some (Out.next ()))
def Pg (l:List Bi) (k0:Nat) (x_2:Bi) (sv:Unit):Option (Out (Unit) (Int)):=
 (M0 x_2).bind fun y3=>(bif (!y3)then some (Out.ret 2)else okB (decide (0≤((k0:Nat):Int)∧((k0:Nat):Int)≤((l.length:Nat):Int))) ((Vz (l.take k0) x_2.ID).bind fun y4=>(bif (decide (0≤y4))then some (Out.ret 7)else okB (decide (0≤((k0:Nat):Int)∧((k0:Nat):Int)≤((l.length:Nat):Int))) ((Kc (H3 l k0 x_2) k0 ()).bind fun o4=>o4.on fun s4=>some (Out.next ())))))
def Q2 (l:List Bi):Option (Int):=
 (bif (decide (64<((l.length:Nat):Int)))then some 4 else(Am (Pg l) 0 l ()).bind fun o0=>o0.on fun s0=>some 0)
theorem eD (l:List Bi) {r:Int} (h:Q2 l=some r):Ad Tryz.prog 80 [.sl 7 (l.map Ao)] (·= .int .i64 r):=by
 refine Ad.nle (Ad.intro Tryz.func80 rfl rfl (by show _≤50;simp) ?_)
 unfold Q2 at h
 refine nS (sq ?_)
 refine ar rfl (qn (sq (sq ?_)))
 refine rg rfl fun K j=>?_
 intro hm
 refine j _ _ (qn ?_)
 revert h;refine ca rfl (fun hc h=>?_) fun hc h=>?_
 ·refine sq (ar rfl (qn (rt (qr ?_))))
  cases h;exact en Tryz.results80
 refine sk (qn (sq (sq ?_)))
 refine rg rfl fun K j=>?_
 intro hm
 refine j _ _ (qn (bk ?_))
 obtain⟨o0,hJ0,hO0⟩:=Ah h
 clear h
 refine AWP.Br (ι:=Nat×(Unit)×(Unit)) (fun zz=>[(0,.sl 7 (l.map Ao)),(10,.sl 7 (l.map Ao)),(11,.int .i64 ((l.length:Nat):Int)),(12,.int .i64 ((zz.1:Nat):Int))]) (fun zz=>[]) (fun zz=>zz.1≤l.length∧Am (Pg l) zz.1 ((l).drop zz.1) zz.2.1=some o0) (fun zz=>l.length - zz.1) (0,(),()) ⟨Nat.zero_le _,hJ0⟩ cu cu (fun x=>⟨rfl,rfl,rfl⟩) ?_
 clear hJ0
 rintro⟨k0,⟨⟩,⟨⟩⟩ ⟨hk0,hJ0⟩
 dsimp only at hk0 hJ0 ⊢
 refine sq (ar rfl (qn (sq ?_)))
 refine AWP.cond (Aj (fun hc=>?_) (fun hc=>?_))
 rotate_left
 ·obtain rfl:=Bc hJ0 (fun hl=>by have:=Ajo hc;omega)
  have h:=Bb hO0;try dsimp only at h
  have hkl:l.length=k0:=by have:=Ajo hc;omega
  subst hkl
  refine xt (qe (qe (bs (qn (sq (ar rfl (qn (rt ?_))))))))
  cases h;exact en Tryz.results80
 have hlt0:k0<l.length:=by have:=Ajp hc;omega
 obtain⟨x_2,b0,hx0_,h,hJ0⟩:=A1 hJ0 hlt0
 have hx0:=Ay hx0_
 have hw0:=wk (k:=k0) (by omega)
 unfold Pg at h;try dsimp only at h
 refine sk (qn (sq (bk (sq ?_))))
 refine rg rfl fun K j=>?_
 refine Bk.of (f:=Ao) (l:=l) hx0 ?_
 refine nS ?_
 refine j _ _ (qn (sq (sq ?_)))
 refine rg rfl fun K j=>?_
 obtain⟨y3,hy3,h⟩:=Ah h
 refine Al.pure Tryz.call168 (Z9 x_2 hy3) rfl fun _ hr=>?_
 subst hr
 refine nS ?_
 refine j _ _ (qn ?_)
 revert h;refine ca rfl (fun hc h=>?_) fun hc h=>?_
 ·refine sq (ar rfl (qn (rt (qr (br (qr (qr ?_)))))))
  obtain rfl:=Aa h
  obtain rfl:=Af hJ0
  replace h:=An hO0
  refine br (qr ?_)
  cases h;exact en Tryz.results80
 refine sk (qn (sq (sq ?_)))
 refine AWP.draw Tryz.mixed (by kernel_rfl) ?_;intro K j
 refine nS ?_
 obtain⟨hk,h⟩:=Jz h
 intro hm
 (repeat(refine⟨by omega,?_⟩))
 obtain⟨y4,hy4,h⟩:=Ah h
 refine Bz.pure Tryz.call169 (gC (l.take k0) x_2.ID hy4) rfl ?_
 refine nS ?_
 refine j _ _ _ (by kernel_rfl) ?_
 refine qn ?_
 revert h;refine ca rfl (fun hc h=>?_) fun hc h=>?_
 ·refine sq (ar rfl (qn (rt (qr (br (qr (qr ?_)))))))
  obtain rfl:=Aa h
  obtain rfl:=Af hJ0
  replace h:=An hO0
  refine br (qr ?_)
  cases h;exact en Tryz.results80
 refine sk (qn (sq ?_))
 refine rg rfl fun K j=>?_
 obtain⟨hk,h⟩:=Jz h
 intro hm
 (repeat(refine⟨by omega,?_⟩))
 intro hm
 refine j _ _ (qn (bk ?_))
 obtain⟨o4,hJ4,hO4⟩:=Ah h
 clear h
 obtain⟨hn4,hJ4⟩:=Pe hJ4
 refine AWP.Br (ι:=Nat×(Unit)×(Unit)) (fun zz=>[(0,.sl 7 (l.map Ao)),(4,.ptr 0 0),(10,.sl 7 (l.map Ao)),(11,.int .i64 ((l.length:Nat):Int)),(12,.int .i64 ((k0:Nat):Int)),(29,.sl 7 ((l.take k0).map Ao)),(30,.int .i64 ((k0:Nat):Int)),(31,.int .i64 ((zz.1:Nat):Int))]) (fun zz=>[.box [.int .i64 x_2.ID,.int .i64 x_2.Slide,.int .i64 x_2.By,.int .i64 x_2.State,.int .i64 x_2.Since,.int .i64 x_2.Window.From,.int .i64 x_2.Window.To]]) (fun zz=>zz.1≤k0∧Am (H3 l k0 x_2) zz.1 ((List.replicate k0 ()).drop zz.1) zz.2.1=some o4) (fun zz=>k0 - zz.1) (0,(),()) ⟨Nat.zero_le _,hJ4⟩ cu cu (fun x=>⟨rfl,rfl,rfl⟩) ?_
 clear hJ4
 rintro⟨k4,⟨⟩,⟨⟩⟩ ⟨hk4,hJ4⟩
 dsimp only at hk4 hJ4 ⊢
 refine sq (ar rfl (qn (sq ?_)))
 refine AWP.cond (Aj (fun hc=>?_) (fun hc=>?_))
 rotate_left
 ·obtain rfl:=Bc hJ4 (fun hl=>by rw[List.length_replicate]at hl;have:=Ajo hc;omega)
  have h:=Bb hO4;try dsimp only at h
  have hkl:k0=k4:=by have:=Ajo hc;omega
  subst hkl
  refine xt (qe (qe (bs (bn (qn (ar rfl (qn ?_)))))))
  obtain rfl:=Aa h
  refine⟨(k0+1,(),()),⟨by dsimp only;omega,Ae hJ0⟩,by dsimp only;omega,?_,?_⟩
  ·exact cuw hw0
  exact cuw hw0
 have hlt4:k4<k0:=by have:=Ajp hc;omega
 obtain⟨_,b4,_,h,hJ4⟩:=A1 hJ4 (by rw[List.length_replicate];exact hlt4)
 have hw4:=wk (k:=k4) (by omega)
 unfold H3 at h;try dsimp only at h
 refine sk (qn (sq (bk (sq ?_))))
 refine rg rfl fun K j=>?_
 obtain⟨x_6,hx_6,h⟩:=Ah h
 refine Bk.of (f:=Ao) (l:=(l.take k0)) hx_6 ?_
 refine nS ?_
 refine j _ _ (qn (sq ?_))
 refine rg rfl fun K j=>?_
 obtain⟨y7,hy7,h⟩:=Ah h
 refine Al.pure Tryz.call170 (Wg x_2 hy7) rfl fun _ hr=>?_
 subst hr
 refine nS ?_
 revert h;refine gt (fun hc h=>?_) fun hc h=>?_
 ·obtain⟨y8,hy8,h⟩:=Ah h
  refine Al.pure Tryz.call170 (Wg x_6 hy8) rfl fun _ hr=>?_
  subst hr
  refine nS ?_
  revert h;refine gt (fun hc h=>?_) fun hc h=>?_
  ·refine j _ _ (qn ?_)
   revert h;refine ca rfl (fun hc h=>?_) fun hc h=>?_
   ·refine sq (ar rfl (qn (rt (br (qr (qr ?_))))))
    obtain rfl:=Aa h
    obtain rfl:=Af hJ4
    replace h:=An hO4
    refine br (br (qr (qr ?_)))
    obtain rfl:=Aa h
    obtain rfl:=Af hJ0
    replace h:=An hO0
    refine br (qr ?_)
    cases h;exact en Tryz.results80
   refine sk (bn (qn (ar rfl (qn ?_))))
   obtain rfl:=Aa h
   refine⟨(k4+1,(),()),⟨by dsimp only;omega,Ae hJ4⟩,by dsimp only;omega,?_,?_⟩
   ·exact cuw hw4
   exact cuw hw4
  refine j _ _ (qn ?_)
  refine AWP.cond (Bg ?_)
  refine sk (bn (qn (ar rfl (qn ?_))))
  obtain rfl:=Aa h
  refine⟨(k4+1,(),()),⟨by dsimp only;omega,Ae hJ4⟩,by dsimp only;omega,?_,?_⟩
  ·exact cuw hw4
  exact cuw hw4
 refine j _ _ (qn ?_)
 refine AWP.cond (Bg ?_)
 refine sk (bn (qn (ar rfl (qn ?_))))
 obtain rfl:=Aa h
 refine⟨(k4+1,(),()),⟨by dsimp only;omega,Ae hJ4⟩,by dsimp only;omega,?_,?_⟩
 ·exact cuw hw4
 exact cuw hw4
def Q5 (l:List Int) (k0:Nat) (x_2:Int) (sv:Unit):Option (Out (Unit) (Bool)):=
 (bif (decide (x_2<1))then some (Out.ret false)else (bif (decide (9999<x_2))then some (Out.ret false)else (bif (decide (0<((k0:Nat):Int)))then (Dl l (IntKind.i64.wrap (((k0:Nat):Int) - 1))).bind fun x_3=>(bif (decide (x_2≤x_3))then some (Out.ret false)else some (Out.next ()))else some (Out.next ()))))
def Rl (l:List Int):Option (Bool):=
 (Am (Q5 l) 0 l ()).bind fun o0=>o0.on fun s0=>some (decide (0<((l.length:Nat):Int)))
theorem aI (l:List Int) {r:Bool} (h:Rl l=some r):Ad Tryz.prog 171 [.sl 1 (l.map Aw)] (·= .bool r):=by
 refine Ad.nle (Ad.intro Tryz.func171 rfl rfl (by show _≤35;simp) ?_)
 unfold Rl at h
 refine nS (sq ?_)
 refine ar rfl (qn (sq (sq ?_)))
 refine rg rfl fun K j=>?_
 intro hm
 refine j _ _ (qn (bk ?_))
 obtain⟨o0,hJ0,hO0⟩:=Ah h
 clear h
 refine AWP.Br (ι:=Nat×(Unit)×(Unit)) (fun zz=>[(0,.sl 1 (l.map Aw)),(5,.sl 1 (l.map Aw)),(6,.int .i64 ((l.length:Nat):Int)),(7,.int .i64 ((zz.1:Nat):Int))]) (fun zz=>[]) (fun zz=>zz.1≤l.length∧Am (Q5 l) zz.1 ((l).drop zz.1) zz.2.1=some o0) (fun zz=>l.length - zz.1) (0,(),()) ⟨Nat.zero_le _,hJ0⟩ cu cu (fun x=>⟨rfl,rfl,rfl⟩) ?_
 clear hJ0
 rintro⟨k0,⟨⟩,⟨⟩⟩ ⟨hk0,hJ0⟩
 dsimp only at hk0 hJ0 ⊢
 refine sq (ar rfl (qn (sq ?_)))
 refine AWP.cond (Aj (fun hc=>?_) (fun hc=>?_))
 rotate_left
 ·obtain rfl:=Bc hJ0 (fun hl=>by have:=Ajo hc;omega)
  have h:=Bb hO0;try dsimp only at h
  have hkl:l.length=k0:=by have:=Ajo hc;omega
  subst hkl
  refine xt (qe (qe (bs (qn (sq ?_)))))
  refine rg rfl fun K j=>?_
  intro hm
  refine j _ _ (qn (rt ?_))
  cases h;exact en Tryz.results171
 have hlt0:k0<l.length:=by have:=Ajp hc;omega
 obtain⟨x_2,b0,hx0_,h,hJ0⟩:=A1 hJ0 hlt0
 have hx0:=Ay hx0_
 have hw0:=wk (k:=k0) (by omega)
 unfold Q5 at h;try dsimp only at h
 refine sk (qn (sq (bk (sq ?_))))
 refine rg rfl fun K j=>?_
 refine Bk.of (f:=Aw) (l:=l) hx0 ?_
 refine nS ?_
 refine j _ _ (qn (sq ?_))
 refine rg rfl fun K j=>?_
 revert h;refine gf (fun hc h=>?_) fun hc h=>?_
 rotate_left
 ·refine j _ _ (qn ?_)
  refine AWP.cond (Ai ?_)
  refine sq (ar rfl (qn (rt (br (qr (qr ?_))))))
  obtain rfl:=Aa h
  obtain rfl:=Af hJ0
  replace h:=An hO0
  refine br (qr ?_)
  cases h;exact en Tryz.results171
 revert h;refine gf (fun hc h=>?_) fun hc h=>?_
 rotate_left
 ·refine j _ _ (qn ?_)
  refine AWP.cond (Ai ?_)
  refine sq (ar rfl (qn (rt (br (qr (qr ?_))))))
  obtain rfl:=Aa h
  obtain rfl:=Af hJ0
  replace h:=An hO0
  refine br (qr ?_)
  cases h;exact en Tryz.results171
 revert h;refine gt (fun hc h=>?_) fun hc h=>?_
 ·obtain⟨x_3,hx_3,h⟩:=Ah h
  refine Bk.of (f:=Aw) (l:=l) hx_3 ?_
  refine nS ?_
  refine j _ _ (qn ?_)
  revert h;refine ca rfl (fun hc h=>?_) fun hc h=>?_
  ·refine sq (ar rfl (qn (rt (br (qr (qr ?_))))))
   obtain rfl:=Aa h
   obtain rfl:=Af hJ0
   replace h:=An hO0
   refine br (qr ?_)
   cases h;exact en Tryz.results171
  refine sk (bn (qn (ar rfl (qn ?_))))
  obtain rfl:=Aa h
  refine⟨(k0+1,(),()),⟨by dsimp only;omega,Ae hJ0⟩,by dsimp only;omega,?_,?_⟩
  ·exact cuw hw0
  exact cuw hw0
 refine j _ _ (qn ?_)
 refine AWP.cond (Bg ?_)
 refine sk (bn (qn (ar rfl (qn ?_))))
 obtain rfl:=Aa h
 refine⟨(k0+1,(),()),⟨by dsimp only;omega,Ae hJ0⟩,by dsimp only;omega,?_,?_⟩
 ·exact cuw hw0
 exact cuw hw0
def cmp_isNaN_int (x_:Int):Option (Bool):=
 some false
theorem Ss (x_:Int) {r:Bool} (h:cmp_isNaN_int x_=some r):Ad Tryz.prog 277 [.int .i64 x_] (·= .bool r):=by
 refine Ad.nle (Ad.intro Tryz.func277 rfl rfl (by show _≤6;simp) ?_)
 unfold cmp_isNaN_int at h
 refine nS (sq ?_)
 refine ar rfl (qn (sq ?_))
 refine ar rfl (qn (rt ?_))
 cases h;exact en Tryz.results277
def cmp_Less_int (x_:Int) (y:Int):Option (Bool):=
 (cmp_isNaN_int x_).bind fun y1=>(bif y1 then(cmp_isNaN_int y).bind fun y2=>(bif (!y2)then some true else some (decide (x_<y)))else some (decide (x_<y)))
theorem bO (x_:Int) (y:Int) {r:Bool} (h:cmp_Less_int x_ y=some r):Ad Tryz.prog 232 [.int .i64 x_,.int .i64 y] (·= .bool r):=by
 refine Ad.nle (Ad.intro Tryz.func232 rfl rfl (by show _≤17;simp) ?_)
 unfold cmp_Less_int at h
 refine nS (sq ?_)
 refine ar rfl (qn (sq ?_))
 refine rg rfl fun K j=>?_
 obtain⟨y1,hy1,h⟩:=Ah h
 refine Al.pure Tryz.call277 (Ss x_ hy1) rfl fun _ hr=>?_
 subst hr
 refine nS ?_
 revert h;refine gt (fun hc h=>?_) fun hc h=>?_
 ·obtain⟨y2,hy2,h⟩:=Ah h
  refine Al.pure Tryz.call277 (Ss y hy2) rfl fun _ hr=>?_
  subst hr
  refine nS ?_
  revert h;refine gf (fun hc h=>?_) fun hc h=>?_
  ·refine j _ _ (qn (rt ?_))
   cases h;exact en Tryz.results232
  refine j _ _ (qn (rt ?_))
  cases h;exact en Tryz.results232
 refine j _ _ (qn (rt ?_))
 cases h;exact en Tryz.results232
def Lr (x_:Int):Option (Bool):=
 some false
theorem Pk (x_:Int) {r:Bool} (h:Lr x_=some r):Ad Tryz.prog 285 [.int .i64 x_] (·= .bool r):=by
 refine Ad.nle (Ad.intro Tryz.func285 rfl rfl (by show _≤6;simp) ?_)
 unfold Lr at h
 refine nS (sq ?_)
 refine ar rfl (qn (sq ?_))
 refine ar rfl (qn (rt ?_))
 cases h;exact en Tryz.results285
def C9 (x_:List Int) (target:Int) (sv:Int×Int):Option (Out (Int×Int) (Int×Bool)):=
 (bif (decide (sv.1<sv.2))then (Dl x_ (IntKind.i64.wrap (gU (IntKind.u64.wrap (IntKind.i64.wrap (sv.1+sv.2))) 1))).bind fun x_4=>(cmp_Less_int x_4 target).bind fun y5=>(bif y5 then some (Out.next ((IntKind.i64.wrap ((IntKind.i64.wrap (gU (IntKind.u64.wrap (IntKind.i64.wrap (sv.1+sv.2))) 1))+1)),sv.2))else some (Out.next (sv.1,(IntKind.i64.wrap (gU (IntKind.u64.wrap (IntKind.i64.wrap (sv.1+sv.2))) 1)))))else ((bif (decide (sv.1<((x_.length:Nat):Int)))then (Dl x_ sv.1).bind fun x_6=>(bif (decide (x_6=target))then some (sv.1,true)else (Lr x_6).bind fun y7=>(bif y7 then(Lr target).bind fun y8=>some (sv.1,y8)else some (sv.1,false)))else some (sv.1,false))).bind fun q8=>some (Out.ret q8))
def Di (x_:List Int) (target:Int):Option (Int×Bool):=
 (Dt (C9 x_ target) fuel (0,((x_.length:Nat):Int))).bind fun o2=>o2.on fun _=>none
theorem N9 (x_:List Int) (target:Int) {r:Int×Bool} (h:Di x_ target=some r):Ad Tryz.prog 278 [.sl 1 (x_.map Aw),.int .i64 target] (·= .tuple [.int .i64 r.1,.bool r.2]):=by
 refine Ad.nle (Ad.intro Tryz.func278 rfl rfl (by show _≤54;simp) ?_)
 unfold Di at h
 refine nS (sq ?_)
 refine ar rfl (qn (sq ?_))
 refine rg rfl fun K j=>?_
 intro hm
 refine j _ _ (qn (sq ?_))
 refine ar rfl (qn (sq (bk ?_)))
 obtain⟨o2,hJ2,hO2⟩:=Ah h
 clear h
 refine AWP.Br (ι:=Nat×(Int×Int)×(Unit)) (fun zz=>[(0,.sl 1 (x_.map Aw)),(1,.int .i64 target),(6,.int .i64 ((x_.length:Nat):Int)),(7,.int .i64 zz.2.1.1),(8,.int .i64 zz.2.1.2)]) (fun zz=>[]) (fun zz=>Dt (C9 x_ target) zz.1 zz.2.1=some o2) (fun zz=>zz.1) (fuel,(0,((x_.length:Nat):Int)),()) hJ2 cu cu (fun x=>⟨rfl,rfl,rfl⟩) ?_
 clear hJ2
 rintro⟨n2,⟨i1,j2⟩,⟨⟩⟩ hJ2
 dsimp only at hJ2 ⊢
 obtain⟨m2,b2,rfl,h,hJ2⟩:=Fx hJ2
 unfold C9 at h;try dsimp only at h
 refine sq (sq (ar rfl (qn ?_)))
 revert h;refine ca rfl (fun hc h=>?_) fun hc h=>?_
 ·refine sk (qn (bk (sq (ar rfl (qn (sq ?_))))))
  refine rg rfl fun K j=>?_
  obtain⟨x_4,hx_4,h⟩:=Ah h
  refine Bk.of (f:=Aw) (l:=x_) hx_4 ?_
  refine nS ?_
  obtain⟨y5,hy5,h⟩:=Ah h
  refine Al.pure Tryz.call232 (bO x_4 target hy5) rfl fun _ hr=>?_
  subst hr
  refine nS ?_
  refine j _ _ (qn ?_)
  revert h;refine ca rfl (fun hc h=>?_) fun hc h=>?_
  ·refine ar rfl (bn (qn ?_))
   obtain rfl:=Aa h
   refine⟨(m2,((IntKind.i64.wrap ((IntKind.i64.wrap (gU (IntKind.u64.wrap (IntKind.i64.wrap (i1+j2))) 1))+1)),j2),()),Ae hJ2,by dsimp only;omega,?_,?_⟩
   ·exact cu
   exact cu
  refine ar rfl (bn (qn ?_))
  obtain rfl:=Aa h
  refine⟨(m2,(i1,(IntKind.i64.wrap (gU (IntKind.u64.wrap (IntKind.i64.wrap (i1+j2))) 1))),()),Ae hJ2,by dsimp only;omega,?_,?_⟩
  ·exact cu
  exact cu
 refine xt (qe (qe ?_))
 obtain⟨q8,hq,h⟩:=Ah h
 obtain rfl:=Aa h
 obtain rfl:=Af hJ2
 replace h:=hq.trans (An hO2)
 refine bs (qn (sq ?_))
 refine rg rfl fun K j=>?_
 revert h;refine gt (fun hc h=>?_) fun hc h=>?_
 rotate_left
 ·refine j _ _ (qn (rt ?_))
  cases h;exact en Tryz.results278
 obtain⟨x_6,hx_6,h⟩:=Ah h
 refine Bk.of (f:=Aw) (l:=x_) hx_6 ?_
 refine nS ?_
 revert h;refine gf (fun hc h=>?_) fun hc h=>?_
 ·refine Bk.of (f:=Aw) (l:=x_) hx_6 ?_
  refine nS ?_
  obtain⟨y7,hy7,h⟩:=Ah h
  refine Al.pure Tryz.call285 (Pk x_6 hy7) rfl fun _ hr=>?_
  subst hr
  refine nS ?_
  revert h;refine gt (fun hc h=>?_) fun hc h=>?_
  ·obtain⟨y8,hy8,h⟩:=Ah h
   refine Al.pure Tryz.call285 (Pk target hy8) rfl fun _ hr=>?_
   subst hr
   refine nS ?_
   refine j _ _ (qn (rt ?_))
   cases h;exact en Tryz.results278
  refine j _ _ (qn (rt ?_))
  cases h;exact en Tryz.results278
 refine j _ _ (qn (rt ?_))
 cases h;exact en Tryz.results278
def Oa (w:A8) (run:Int):Option (Bool):=
 (Di w.Runs run).bind fun y1=>some y1.2
theorem aH (w:A8) (run:Int) {r:Bool} (h:Oa w run=some r):Ad Tryz.prog 253 [.agg (Ap w),.int .i64 run] (·= .bool r):=by
 refine Ad.nle (Ad.intro Tryz.func253 rfl rfl (by show _≤15;simp) ?_)
 unfold Oa at h
 refine nS (sq ?_)
 refine ar rfl (qn (sq ?_))
 refine rg rfl fun K j=>?_
 obtain⟨y1,hy1,h⟩:=Ah h
 refine Al.pure Tryz.call278 (N9 w.Runs run hy1) rfl fun _ hr=>?_
 subst hr
 refine nS ?_
 refine j _ _ (qn (sq ?_))
 refine ar rfl (qn (rt ?_))
 cases h;exact en Tryz.results253
def Gg (w:A8) (k0:Nat) (x_2:Int) (sv:Unit):Option (Out (Unit) (Bool)):=
 (Oa w x_2).bind fun y3=>(bif y3 then some (Out.ret (decide (0≤((k0:Nat):Int))))else some (Out.next ()))
def Kd (v:A8) (w:A8):Option (Bool):=
 (bif (decide (w.To≤v.From))then some false else(bif (decide (v.To≤w.From))then some false else(bif (decide (v.Groomer=w.Groomer))then some true else(Am (Gg w) 0 v.Runs ()).bind fun o0=>o0.on fun s0=>some false)))
theorem Yv (v:A8) (w:A8) {r:Bool} (h:Kd v w=some r):Ad Tryz.prog 174 [.agg (Ap v),.agg (Ap w)] (·= .bool r):=by
 refine Ad.nle (Ad.intro Tryz.func174 rfl rfl (by show _≤28;simp) ?_)
 unfold Kd at h
 refine nS (sq ?_)
 refine ar rfl (qn (sq (sq ?_)))
 refine rg rfl fun K j=>?_
 revert h;refine gf (fun hc h=>?_) fun hc h=>?_
 rotate_left
 ·refine j _ _ (qn ?_)
  refine AWP.cond (Ai ?_)
  refine sq (ar rfl (qn (rt (qr ?_))))
  cases h;exact en Tryz.results174
 refine j _ _ (qn ?_)
 revert h;refine ca rfl (fun hc h=>?_) fun hc h=>?_
 ·refine sq (ar rfl (qn (rt (qr ?_))))
  cases h;exact en Tryz.results174
 refine sk (qn (sq ?_))
 refine rg rfl fun K j=>?_
 revert h;refine gf (fun hc h=>?_) fun hc h=>?_
 rotate_left
 ·refine j _ _ (qn (rt ?_))
  cases h;exact en Tryz.results174
 refine Al.inline Tryz.call251 Tryz.func251 rfl rfl (by show _≤9;simp) ?_
 refine nS (sq ?_)
 refine ar rfl (qn (sq ?_))
 refine rg rfl fun K j=>?_
 refine Al.inline Tryz.call150 Tryz.func150 rfl rfl (by show _≤19;simp) ?_
 refine nS (sq ?_)
 refine ar rfl (qn (sq (sq ?_)))
 refine rg rfl fun K j=>?_
 intro hm
 refine j _ _ (qn (bk ?_));clear j K
 obtain⟨o0,hJ0,hO0⟩:=Ah h
 clear h
 refine AWP.Br (ι:=Nat×(Unit)×(Unit)) (fun zz=>[(0,.sl 1 (v.Runs.map Aw)),(1,.func 252 [.ptr 1 0]),(7,.int .i64 ((v.Runs.length:Nat):Int)),(8,.int .i64 ((zz.1:Nat):Int))]) (fun zz=>[.box [.int .i64 v.Groomer,.int .i64 v.From,.int .i64 v.To,.sl 1 (v.Runs.map Aw)],.box [.int .i64 w.Groomer,.int .i64 w.From,.int .i64 w.To,.sl 1 (w.Runs.map Aw)]]) (fun zz=>zz.1≤v.Runs.length∧Am (Gg w) zz.1 ((v.Runs).drop zz.1) zz.2.1=some o0) (fun zz=>v.Runs.length - zz.1) (0,(),()) ⟨Nat.zero_le _,hJ0⟩ cu cu (fun x=>⟨rfl,rfl,rfl⟩) ?_
 clear hJ0
 rintro⟨k0,⟨⟩,⟨⟩⟩ ⟨hk0,hJ0⟩
 dsimp only at hk0 hJ0 ⊢
 refine sq (ar rfl (qn (sq ?_)))
 refine AWP.cond (Aj (fun hc=>?_) (fun hc=>?_))
 rotate_left
 ·obtain rfl:=Bc hJ0 (fun hl=>by have:=Ajo hc;omega)
  have h:=Bb hO0;try dsimp only at h
  have hkl:v.Runs.length=k0:=by have:=Ajo hc;omega
  subst hkl
  refine xt (qe (qe (bs (qn (sq (ar rfl (qn (rt ?_))))))))
  refine nSc Tryz.results150 ?_
  refine j _ _ (qn (rt ?_));clear j K
  refine nSc Tryz.results251 ?_
  refine j _ _ (qn (rt ?_))
  cases h;exact en Tryz.results174
 have hlt0:k0<v.Runs.length:=by have:=Ajp hc;omega
 obtain⟨x_2,b0,hx0_,h,hJ0⟩:=A1 hJ0 hlt0
 have hx0:=Ay hx0_
 have hw0:=wk (k:=k0) (by omega)
 unfold Gg at h;try dsimp only at h
 refine sk (qn (sq (bk (sq (ar rfl (qn (sq ?_)))))))
 refine rg rfl fun K j=>?_
 refine Bk.of (f:=Aw) (l:=v.Runs) hx0 ?_
 refine nS ?_
 refine Al.inline Tryz.call252 Tryz.func252 rfl rfl (by show _≤7;simp) ?_
 refine nS (sq ?_)
 refine ar rfl (qn (sq ?_))
 refine rg rfl fun K j=>?_
 obtain⟨y3,hy3,h⟩:=Ah h
 refine Al.pure Tryz.call253 (aH w x_2 hy3) rfl fun _ hr=>?_
 subst hr
 refine nS ?_
 refine j _ _ (qn (rt ?_));clear j K
 refine nSc Tryz.results252 ?_
 refine j _ _ (qn ?_);clear j K
 revert h;refine ca rfl (fun hc h=>?_) fun hc h=>?_
 ·refine sq (ar rfl (qn (rt (br (qr (qr ?_))))))
  obtain rfl:=Aa h
  obtain rfl:=Af hJ0
  replace h:=An hO0
  refine br (qr (nSc Tryz.results150 ?_))
  refine j _ _ (qn (rt ?_));clear j K
  refine nSc Tryz.results251 ?_
  refine j _ _ (qn (rt ?_))
  cases h;exact en Tryz.results174
 refine sk (bn (qn (ar rfl (qn ?_))))
 obtain rfl:=Aa h
 refine⟨(k0+1,(),()),⟨by dsimp only;omega,Ae hJ0⟩,by dsimp only;omega,?_,?_⟩
 ·exact cuw hw0
 exact cuw hw0
def Kf (l:List A8) (k0:Nat) (x_2:A8) (k3:Nat) (_x:Unit) (sv:Unit):Option (Out (Unit) (Out (Unit) (Int))):=
 (Dl (l.take k0) ((k3:Nat):Int)).bind fun x_5=>(Kd x_5 x_2).bind fun y6=>(bif y6 then((bif (decide (0≤((k3:Nat):Int)))then some (Out.ret 15)else some (Out.next ()))).bind fun q6=>some (Out.ret q6)else some (Out.next ()))
def Hd (l:List A8) (k0:Nat) (x_2:A8) (sv:Unit):Option (Out (Unit) (Int)):=
 (bif (decide (x_2.Groomer<1))then some (Out.ret 2)else (bif (decide (9999<x_2.Groomer))then some (Out.ret 2)else (bif (decide (x_2.From<0))then some (Out.ret 2)else (bif (decide (x_2.To≤x_2.From))then some (Out.ret 2)else (bif (decide (20000000<x_2.To))then some (Out.ret 2)else (Rl x_2.Runs).bind fun y3=>(bif (!y3)then some (Out.ret 1)else okB (decide (0≤((k0:Nat):Int)∧((k0:Nat):Int)≤((l.length:Nat):Int))) ((Kc (Kf l k0 x_2) k0 ()).bind fun o3=>o3.on fun s3=>some (Out.next ()))))))))
def Qj (l:List A8):Option (Int):=
 (bif (decide (16<((l.length:Nat):Int)))then some 4 else(Am (Hd l) 0 l ()).bind fun o0=>o0.on fun s0=>some 0)
theorem cD (l:List A8) {r:Int} (h:Qj l=some r):Ad Tryz.prog 81 [.sl 4 (l.map Ap)] (·= .int .i64 r):=by
 refine Ad.nle (Ad.intro Tryz.func81 rfl rfl (by show _≤50;simp) ?_)
 unfold Qj at h
 refine nS (sq ?_)
 refine ar rfl (qn (sq (sq ?_)))
 refine rg rfl fun K j=>?_
 intro hm
 refine j _ _ (qn ?_)
 revert h;refine ca rfl (fun hc h=>?_) fun hc h=>?_
 ·refine sq (ar rfl (qn (rt (qr ?_))))
  cases h;exact en Tryz.results81
 refine sk (qn (sq (sq ?_)))
 refine rg rfl fun K j=>?_
 intro hm
 refine j _ _ (qn (bk ?_))
 obtain⟨o0,hJ0,hO0⟩:=Ah h
 clear h
 refine AWP.Br (ι:=Nat×(Unit)×(Unit)) (fun zz=>[(0,.sl 4 (l.map Ap)),(8,.sl 4 (l.map Ap)),(9,.int .i64 ((l.length:Nat):Int)),(10,.int .i64 ((zz.1:Nat):Int))]) (fun zz=>[]) (fun zz=>zz.1≤l.length∧Am (Hd l) zz.1 ((l).drop zz.1) zz.2.1=some o0) (fun zz=>l.length - zz.1) (0,(),()) ⟨Nat.zero_le _,hJ0⟩ cu cu (fun x=>⟨rfl,rfl,rfl⟩) ?_
 clear hJ0
 rintro⟨k0,⟨⟩,⟨⟩⟩ ⟨hk0,hJ0⟩
 dsimp only at hk0 hJ0 ⊢
 refine sq (ar rfl (qn (sq ?_)))
 refine AWP.cond (Aj (fun hc=>?_) (fun hc=>?_))
 rotate_left
 ·obtain rfl:=Bc hJ0 (fun hl=>by have:=Ajo hc;omega)
  have h:=Bb hO0;try dsimp only at h
  have hkl:l.length=k0:=by have:=Ajo hc;omega
  subst hkl
  refine xt (qe (qe (bs (qn (sq (ar rfl (qn (rt ?_))))))))
  cases h;exact en Tryz.results81
 have hlt0:k0<l.length:=by have:=Ajp hc;omega
 obtain⟨x_2,b0,hx0_,h,hJ0⟩:=A1 hJ0 hlt0
 have hx0:=Ay hx0_
 have hw0:=wk (k:=k0) (by omega)
 unfold Hd at h;try dsimp only at h
 refine sk (qn (sq (bk (sq ?_))))
 refine rg rfl fun K j=>?_
 refine Bk.of (f:=Ap) (l:=l) hx0 ?_
 refine nS ?_
 refine j _ _ (qn (sq (sq ?_)))
 refine rg rfl fun K j=>?_
 revert h;refine gf (fun hc h=>?_) fun hc h=>?_
 rotate_left
 ·refine j _ _ (qn ?_)
  refine AWP.cond (Ai ?_)
  refine sq (ar rfl (qn (rt (qr (br (qr (qr ?_)))))))
  obtain rfl:=Aa h
  obtain rfl:=Af hJ0
  replace h:=An hO0
  refine br (qr ?_)
  cases h;exact en Tryz.results81
 revert h;refine gf (fun hc h=>?_) fun hc h=>?_
 rotate_left
 ·refine j _ _ (qn ?_)
  refine AWP.cond (Ai ?_)
  refine sq (ar rfl (qn (rt (qr (br (qr (qr ?_)))))))
  obtain rfl:=Aa h
  obtain rfl:=Af hJ0
  replace h:=An hO0
  refine br (qr ?_)
  cases h;exact en Tryz.results81
 revert h;refine gf (fun hc h=>?_) fun hc h=>?_
 rotate_left
 ·refine j _ _ (qn ?_)
  refine AWP.cond (Ai ?_)
  refine sq (ar rfl (qn (rt (qr (br (qr (qr ?_)))))))
  obtain rfl:=Aa h
  obtain rfl:=Af hJ0
  replace h:=An hO0
  refine br (qr ?_)
  cases h;exact en Tryz.results81
 revert h;refine gf (fun hc h=>?_) fun hc h=>?_
 rotate_left
 ·refine j _ _ (qn ?_)
  refine AWP.cond (Ai ?_)
  refine sq (ar rfl (qn (rt (qr (br (qr (qr ?_)))))))
  obtain rfl:=Aa h
  obtain rfl:=Af hJ0
  replace h:=An hO0
  refine br (qr ?_)
  cases h;exact en Tryz.results81
 refine j _ _ (qn ?_)
 revert h;refine ca rfl (fun hc h=>?_) fun hc h=>?_
 ·refine sq (ar rfl (qn (rt (qr (br (qr (qr ?_)))))))
  obtain rfl:=Aa h
  obtain rfl:=Af hJ0
  replace h:=An hO0
  refine br (qr ?_)
  cases h;exact en Tryz.results81
 refine sk (qn (sq (sq ?_)))
 refine rg rfl fun K j=>?_
 obtain⟨y3,hy3,h⟩:=Ah h
 refine Al.pure Tryz.call171 (aI x_2.Runs hy3) rfl fun _ hr=>?_
 subst hr
 refine nS ?_
 refine j _ _ (qn ?_)
 revert h;refine ca rfl (fun hc h=>?_) fun hc h=>?_
 ·refine sq (ar rfl (qn (rt (qr (br (qr (qr ?_)))))))
  obtain rfl:=Aa h
  obtain rfl:=Af hJ0
  replace h:=An hO0
  refine br (qr ?_)
  cases h;exact en Tryz.results81
 refine sk (qn (sq ?_))
 refine rg rfl fun K j=>?_
 obtain⟨hk,h⟩:=Jz h
 intro hm
 (repeat(refine⟨by omega,?_⟩))
 refine Al.inline Tryz.call172 Tryz.func172 rfl rfl (by show _≤9;simp) ?_
 refine nS (sq ?_)
 refine ar rfl (qn (sq ?_))
 refine rg rfl fun K j=>?_
 refine Al.inline Tryz.call250 Tryz.func250 rfl rfl (by show _≤19;simp) ?_
 refine nS (sq ?_)
 refine ar rfl (qn (sq (sq ?_)))
 refine rg rfl fun K j=>?_
 intro hm
 refine j _ _ (qn (bk ?_));clear j K
 obtain⟨o3,hJ3,hO3⟩:=Ah h
 clear h
 obtain⟨hn3,hJ3⟩:=Pe hJ3
 refine AWP.Br (ι:=Nat×(Unit)×(Unit)) (fun zz=>[(0,.sl 4 ((l.take k0).map Ap)),(1,.func 173 [.ptr 0 0]),(7,.int .i64 ((k0:Nat):Int)),(8,.int .i64 ((zz.1:Nat):Int))]) (fun zz=>[.box [.int .i64 x_2.Groomer,.int .i64 x_2.From,.int .i64 x_2.To,.sl 1 (x_2.Runs.map Aw)]]) (fun zz=>zz.1≤k0∧Am (Kf l k0 x_2) zz.1 ((List.replicate k0 ()).drop zz.1) zz.2.1=some o3) (fun zz=>k0 - zz.1) (0,(),()) ⟨Nat.zero_le _,hJ3⟩ cu cu (fun x=>⟨rfl,rfl,rfl⟩) ?_
 clear hJ3
 rintro⟨k3,⟨⟩,⟨⟩⟩ ⟨hk3,hJ3⟩
 dsimp only at hk3 hJ3 ⊢
 refine sq (ar rfl (qn (sq ?_)))
 refine AWP.cond (Aj (fun hc=>?_) (fun hc=>?_))
 rotate_left
 ·obtain rfl:=Bc hJ3 (fun hl=>by rw[List.length_replicate]at hl;have:=Ajo hc;omega)
  have h:=Bb hO3;try dsimp only at h
  have hkl:k0=k3:=by have:=Ajo hc;omega
  subst hkl
  refine xt (qe (qe (bs (qn (sq (ar rfl (qn (rt ?_))))))))
  refine nSc Tryz.results250 ?_
  refine j _ _ (qn (rt ?_));clear j K
  refine nSc Tryz.results172 ?_
  refine j _ _ (qn ?_)
  refine AWP.cond (Bg ?_)
  refine sk (bn (qn (ar rfl (qn ?_))))
  obtain rfl:=Aa h
  refine⟨(k0+1,(),()),⟨by dsimp only;omega,Ae hJ0⟩,by dsimp only;omega,?_,?_⟩
  ·exact cuw hw0
  exact cuw hw0
 have hlt3:k3<k0:=by have:=Ajp hc;omega
 obtain⟨_,b3,_,h,hJ3⟩:=A1 hJ3 (by rw[List.length_replicate];exact hlt3)
 have hw3:=wk (k:=k3) (by omega)
 unfold Kf at h;try dsimp only at h
 refine sk (qn (sq (bk (sq (ar rfl (qn (sq ?_)))))))
 refine rg rfl fun K j=>?_
 obtain⟨x_5,hx_5,h⟩:=Ah h
 refine Bk.of (f:=Ap) (l:=(l.take k0)) hx_5 ?_
 refine nS ?_
 refine Al.inline Tryz.call173 Tryz.func173 rfl rfl (by show _≤7;simp) ?_
 refine nS (sq ?_)
 refine ar rfl (qn (sq ?_))
 refine rg rfl fun K j=>?_
 obtain⟨y6,hy6,h⟩:=Ah h
 refine Al.pure Tryz.call174 (Yv x_5 x_2 hy6) rfl fun _ hr=>?_
 subst hr
 refine nS ?_
 refine j _ _ (qn (rt ?_));clear j K
 refine nSc Tryz.results173 ?_
 refine j _ _ (qn ?_);clear j K
 revert h;refine ca rfl (fun hc h=>?_) fun hc h=>?_
 ·refine sq (ar rfl (qn (rt (br (qr (qr ?_))))))
  obtain⟨q6,hq,h⟩:=Ah h
  obtain rfl:=Aa h
  obtain rfl:=Af hJ3
  replace h:=hq.trans (An hO3)
  refine br (qr (nSc Tryz.results250 ?_))
  refine j _ _ (qn (rt ?_));clear j K
  refine nSc Tryz.results172 ?_
  refine j _ _ (qn ?_)
  revert h;refine ca rfl (fun hc h=>?_) fun hc h=>?_
  ·refine sq (ar rfl (qn (rt (br (qr (qr ?_))))))
   obtain rfl:=Aa h
   obtain rfl:=Af hJ0
   replace h:=An hO0
   refine br (qr ?_)
   cases h;exact en Tryz.results81
  refine sk (bn (qn (ar rfl (qn ?_))))
  obtain rfl:=Aa h
  refine⟨(k0+1,(),()),⟨by dsimp only;omega,Ae hJ0⟩,by dsimp only;omega,?_,?_⟩
  ·exact cuw hw0
  exact cuw hw0
 refine sk (bn (qn (ar rfl (qn ?_))))
 obtain rfl:=Aa h
 refine⟨(k3+1,(),()),⟨by dsimp only;omega,Ae hJ3⟩,by dsimp only;omega,?_,?_⟩
 ·exact cuw hw3
 exact cuw hw3
def Jj (g_:B6):Option (Bool):=
 (bif (decide (g_.ID<1))then some false else(bif (decide (9999<g_.ID))then some false else(bif (decide (g_.Node<1))then some false else(bif (decide (9999<g_.Node))then some false else(bif (decide (g_.Fuel<0))then some false else(bif (decide (1000000<g_.Fuel))then some false else(bif (decide (g_.State<0))then some false else(bif (decide (2<g_.State))then some false else(bif (decide (g_.Until<0))then some false else(bif (decide (20000000<g_.Until))then some false else(bif (decide (0≤g_.To))then (bif (decide (g_.To≤9999))then (bif (decide (0≤g_.Run))then some (decide (g_.Run≤9999))else some false)else some false)else some false)))))))))))
theorem Xf (g_:B6) {r:Bool} (h:Jj g_=some r):Ad Tryz.prog 175 [.agg (A2 g_)] (·= .bool r):=by
 refine Ad.nle (Ad.intro Tryz.func175 rfl rfl (by show _≤67;simp) ?_)
 unfold Jj at h
 refine nS (sq ?_)
 refine ar rfl (qn (sq (sq ?_)))
 refine rg rfl fun K j=>?_
 revert h;refine gf (fun hc h=>?_) fun hc h=>?_
 rotate_left
 ·refine j _ _ (qn ?_)
  refine AWP.cond (Ai ?_)
  refine sq (ar rfl (qn (rt (qr ?_))))
  cases h;exact en Tryz.results175
 revert h;refine gf (fun hc h=>?_) fun hc h=>?_
 rotate_left
 ·refine j _ _ (qn ?_)
  refine AWP.cond (Ai ?_)
  refine sq (ar rfl (qn (rt (qr ?_))))
  cases h;exact en Tryz.results175
 revert h;refine gf (fun hc h=>?_) fun hc h=>?_
 rotate_left
 ·refine j _ _ (qn ?_)
  refine AWP.cond (Ai ?_)
  refine sq (ar rfl (qn (rt (qr ?_))))
  cases h;exact en Tryz.results175
 revert h;refine gf (fun hc h=>?_) fun hc h=>?_
 rotate_left
 ·refine j _ _ (qn ?_)
  refine AWP.cond (Ai ?_)
  refine sq (ar rfl (qn (rt (qr ?_))))
  cases h;exact en Tryz.results175
 revert h;refine gf (fun hc h=>?_) fun hc h=>?_
 rotate_left
 ·refine j _ _ (qn ?_)
  refine AWP.cond (Ai ?_)
  refine sq (ar rfl (qn (rt (qr ?_))))
  cases h;exact en Tryz.results175
 refine j _ _ (qn ?_)
 revert h;refine ca rfl (fun hc h=>?_) fun hc h=>?_
 ·refine sq (ar rfl (qn (rt (qr ?_))))
  cases h;exact en Tryz.results175
 refine sk (qn (sq (sq ?_)))
 refine rg rfl fun K j=>?_
 revert h;refine gf (fun hc h=>?_) fun hc h=>?_
 rotate_left
 ·refine j _ _ (qn ?_)
  refine AWP.cond (Ai ?_)
  refine sq (ar rfl (qn (rt (qr ?_))))
  cases h;exact en Tryz.results175
 revert h;refine gf (fun hc h=>?_) fun hc h=>?_
 rotate_left
 ·refine j _ _ (qn ?_)
  refine AWP.cond (Ai ?_)
  refine sq (ar rfl (qn (rt (qr ?_))))
  cases h;exact en Tryz.results175
 revert h;refine gf (fun hc h=>?_) fun hc h=>?_
 ·refine j _ _ (qn ?_)
  revert h;refine ca rfl (fun hc h=>?_) fun hc h=>?_
  ·refine sq (ar rfl (qn (rt (qr ?_))))
   cases h;exact en Tryz.results175
  refine sk (qn (sq ?_))
  refine rg rfl fun K j=>?_
  revert h;refine gt (fun hc h=>?_) fun hc h=>?_
  ·revert h;refine gt (fun hc h=>?_) fun hc h=>?_
   ·revert h;refine gt (fun hc h=>?_) fun hc h=>?_
    ·refine j _ _ (qn (rt ?_))
     cases h;exact en Tryz.results175
    refine j _ _ (qn (rt ?_))
    cases h;exact en Tryz.results175
   refine j _ _ (qn (rt ?_))
   cases h;exact en Tryz.results175
  refine j _ _ (qn (rt ?_))
  cases h;exact en Tryz.results175
 refine j _ _ (qn ?_)
 refine AWP.cond (Ai ?_)
 refine sq (ar rfl (qn (rt (qr ?_))))
 cases h;exact en Tryz.results175
end
end Go.Proofs.YtjopghiagoidgaaGreat
