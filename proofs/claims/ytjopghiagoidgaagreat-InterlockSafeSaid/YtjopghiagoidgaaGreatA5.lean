/- Our own texts: a layer of abstract values over the model, the walks of the functions, the plain laws; joined and shortened by a small program of our own (wip/dce2.py, wip/pack.py). -/
import Derived.Test.YtjopghiagoidgaaGreatA4
import Derived.Calls
import Derived.Tactics2
import Derived.Below
import Derived.Deep.LoopGhost
import Derived.KernelRfl
import Derived.Laws.Shifts
import Derived.Laws.CopyRow
import Derived.Laws.AppendOwn
import Derived.Laws.MakeOwn
import Derived.Laws.StructEq
import Derived.Maps.RangeRun
import Derived.Lib.SliceRun
import Derived.TacticsIn
import Derived.OrdersIn
import Derived.Sort.LoopGhostIn
import Derived.RangeFuncRecord
import Derived.Orders
import Derived.ProofKit
import Derived.OpenShut
import Derived.ShutString
import Derived.ChangeOld
import Derived.Carry
import Derived.WideShapes
import Derived.ChangeArms
import Derived.ChangeShapes
import Derived.Handed
import Derived.JoinedOf
import Derived.Sort.Grow
import Derived.Lib.SlicesCompact
import Derived.Lib.SlKeysI
import Derived.Maps.Own
import Derived.WideKeyRuns
import Derived.Laws.IdiomCopy
import Derived.Lib.Overlaps
import Derived.Test.YtjopghiagoidgaaGreatChecked
import Derived.Shelf.RegionOpenPlain
import Derived.WalkKit
import Derived.Lib.Walk
import Derived.Lib.JoinLaws
import Derived.Lib.AppendZeros
import Derived.Lib.AppendZerosOnto
import Derived.Laws.NewBlocks
import Derived.Laws.Externs
import Derived.Test.YtjopghiagoidgaaGreatProg
import Derived.Shelf.SortM.Plain
import Derived.Shelf.SortM.SortNone
import Derived.Shelf.SlIterI.Nil
import Derived.Shelf.Slices.CompactI
namespace Go.Proofs.YtjopghiagoidgaaGreat
open Go Go.Ab
attribute [local irreducible] AWP Al Cf Ad Go.Ab.Sub alist dlist Bo Dm Ex Hn
set_option maxRecDepth 100000
set_option maxHeartbeats 4000000
set_option linter.unusedSimpArgs false
set_option linter.unusedVariables false
noncomputable section
def Gd (l:List Be) (ab:Be) (k2:Nat) (_x:Unit) (sv:Unit):Option (Out (Unit) (Out (Unit) (Int))):=
 (Dv l ((k2:Nat):Int)).bind fun au=>(bif (decide (au.ID=ab.ID))then some (Out.ret (Out.ret 7))else some (Out.next ()))
def H7 (l:List Be) (k0:Nat) (ab:Be) (sv:Unit):Option (Out (Unit) (Int)):=
 (bif (decide (ab.ID<1))then some (Out.ret 2)else (bif (decide (9999<ab.ID))then some (Out.ret 2)else (bif (decide (ab.Limit<4))then some (Out.ret 2)else (bif (decide (100000<ab.Limit))then some (Out.ret 2)else (bif (decide (ab.Load<0))then some (Out.ret 2)else (bif (decide (100000<ab.Load))then some (Out.ret 2)else (bif (decide (ab.Controlled<(-1)))then some (Out.ret 2)else (bif (decide (20000000<ab.Controlled))then some (Out.ret 2)else (Ki (Gd l ab) k0 ()).bind fun o2=>o2.on fun s2=>(bif (decide (((ab.Zones.length:Nat):Int)=0))then some (Out.ret 1)else (Oc ab.Zones 32).bind fun y5=>(bif (!y5)then some (Out.ret 1)else (Oc ab.Lifts 9999).bind fun y6=>(bif (!y6)then some (Out.ret 1)else some (Out.next ()))))))))))))
def No (l:List Be):Option (Int):=
 (bif (decide (32<((l.length:Nat):Int)))then some 4 else(An (H7 l) 0 l ()).bind fun o0=>o0.on fun s0=>some 0)
theorem cE (l:List Be) {r:Int} (h:No l=some r):Ad Tryz.prog 89 [.sl 6 (l.map A3)] (·= .int .i64 r):=by
 refine Ad.nle (Ad.intro Tryz.func89 rfl rfl (by show _≤86;simp) ?_)
 unfold No at h
 refine nS (sq ?_)
 refine ar rfl (qn (sq (sq ?_)))
 refine rg rfl fun K j=>?_
 intro hm
 refine j _ _ (qn ?_)
 revert h;refine ca rfl (fun hc h=>?_) fun hc h=>?_
 ·refine sq (ar rfl (qn (rt (qr ?_))))
  cases h;exact en Tryz.results89
 refine sk (qn (sq (sq (ar rfl (qn (bk ?_))))))
 obtain⟨o0,aa,ae⟩:=Ah h
 clear h
 refine AWP.Bw (ι:=Nat×(Unit)×(Unit)) (fun zz=>[(0,.sl 6 (l.map A3)),(3,.int .i64 ((zz.1:Nat):Int))]) (fun zz=>[]) (fun zz=>zz.1≤l.length∧An (H7 l) zz.1 ((l).drop zz.1) zz.2.1=some o0) (fun zz=>l.length - zz.1) (0,(),()) ⟨Nat.zero_le _,aa⟩ cu cu (fun x=>⟨rfl,rfl,rfl⟩) ?_
 clear aa
 rintro⟨k0,⟨⟩,⟨⟩⟩ ⟨bg,aa⟩
 dsimp only at bg aa ⊢
 refine sq (sq (rg rfl fun K j=>?_))
 intro hm
 refine j _ _ (qn ?_)
 refine AWP.cond (Am (fun hc=>?_) (fun hc=>?_))
 rotate_left
 ·obtain rfl:=Bg aa (fun hl=>by have:=Ako hc;omega)
  have h:=Bf ae;try dsimp only at h
  have ag:l.length=k0:=by have:=Ako hc;omega
  subst ag
  refine xt (qe (qe (bs (qn (sq (ar rfl (qn (rt ?_))))))))
  cases h;exact en Tryz.results89
 have ah:k0<l.length:=by have:=Akp hc;omega
 obtain⟨ab,b0,aj,h,aa⟩:=Bc aa ah
 have aw:=A9 aj
 have ak:=wk (k:=k0) (by omega)
 unfold H7 at h;try dsimp only at h
 refine sk (qn (sq (bk (sq (rg rfl fun K j=>?_)))))
 refine Bo.of (f:=A3) (l:=l) aw ?_
 refine nS ?_
 refine j _ _ (qn (sq (sq ?_)))
 refine rg rfl fun K j=>?_
 revert h;refine gf (fun hc h=>?_) fun hc h=>?_
 rotate_left
 ·refine j _ _ (qn ?_)
  refine AWP.cond (Ai ?_)
  refine sq (ar rfl (qn (rt (qr (br (qr (qr ?_)))))))
  obtain rfl:=Aa h
  obtain rfl:=Ae aa
  replace h:=Ao ae
  refine br (qr ?_)
  cases h;exact en Tryz.results89
 revert h;refine gf (fun hc h=>?_) fun hc h=>?_
 rotate_left
 ·refine j _ _ (qn ?_)
  refine AWP.cond (Ai ?_)
  refine sq (ar rfl (qn (rt (qr (br (qr (qr ?_)))))))
  obtain rfl:=Aa h
  obtain rfl:=Ae aa
  replace h:=Ao ae
  refine br (qr ?_)
  cases h;exact en Tryz.results89
 revert h;refine gf (fun hc h=>?_) fun hc h=>?_
 rotate_left
 ·refine j _ _ (qn ?_)
  refine AWP.cond (Ai ?_)
  refine sq (ar rfl (qn (rt (qr (br (qr (qr ?_)))))))
  obtain rfl:=Aa h
  obtain rfl:=Ae aa
  replace h:=Ao ae
  refine br (qr ?_)
  cases h;exact en Tryz.results89
 revert h;refine gf (fun hc h=>?_) fun hc h=>?_
 rotate_left
 ·refine j _ _ (qn ?_)
  refine AWP.cond (Ai ?_)
  refine sq (ar rfl (qn (rt (qr (br (qr (qr ?_)))))))
  obtain rfl:=Aa h
  obtain rfl:=Ae aa
  replace h:=Ao ae
  refine br (qr ?_)
  cases h;exact en Tryz.results89
 revert h;refine gf (fun hc h=>?_) fun hc h=>?_
 rotate_left
 ·refine j _ _ (qn ?_)
  refine AWP.cond (Ai ?_)
  refine sq (ar rfl (qn (rt (qr (br (qr (qr ?_)))))))
  obtain rfl:=Aa h
  obtain rfl:=Ae aa
  replace h:=Ao ae
  refine br (qr ?_)
  cases h;exact en Tryz.results89
 revert h;refine gf (fun hc h=>?_) fun hc h=>?_
 rotate_left
 ·refine j _ _ (qn ?_)
  refine AWP.cond (Ai ?_)
  refine sq (ar rfl (qn (rt (qr (br (qr (qr ?_)))))))
  obtain rfl:=Aa h
  obtain rfl:=Ae aa
  replace h:=Ao ae
  refine br (qr ?_)
  cases h;exact en Tryz.results89
 revert h;refine gf (fun hc h=>?_) fun hc h=>?_
 rotate_left
 ·refine j _ _ (qn ?_)
  refine AWP.cond (Ai ?_)
  refine sq (ar rfl (qn (rt (qr (br (qr (qr ?_)))))))
  obtain rfl:=Aa h
  obtain rfl:=Ae aa
  replace h:=Ao ae
  refine br (qr ?_)
  cases h;exact en Tryz.results89
 refine j _ _ (qn ?_)
 revert h;refine ca rfl (fun hc h=>?_) fun hc h=>?_
 ·refine sq (ar rfl (qn (rt (qr (br (qr (qr ?_)))))))
  obtain rfl:=Aa h
  obtain rfl:=Ae aa
  replace h:=Ao ae
  refine br (qr ?_)
  cases h;exact en Tryz.results89
 refine sk (qn (sq (sq (ar rfl (qn (bk ?_))))))
 obtain⟨o2,ao,ek⟩:=Ah h
 clear h
 obtain⟨hn2,ao⟩:=S3 ao
 refine AWP.Bw (ι:=Nat×(Unit)×(Unit)) (fun zz=>[(0,.sl 6 (l.map A3)),(3,.int .i64 ((k0:Nat):Int)),(4,.ptr 0 0),(5,.int .i64 ((zz.1:Nat):Int))]) (fun zz=>[.box [.int .i64 ab.ID,.sl 1 (ab.Zones.map Bb),.sl 1 (ab.Lifts.map Bb),.int .i64 ab.Limit,.int .i64 ab.Load,.int .i64 ab.Controlled]]) (fun zz=>zz.1≤k0∧An (Gd l ab) zz.1 ((List.replicate k0 ()).drop zz.1) zz.2.1=some o2) (fun zz=>k0 - zz.1) (0,(),()) ⟨Nat.zero_le _,ao⟩ cu cu (fun x=>⟨rfl,rfl,rfl⟩) ?_
 clear ao
 rintro⟨k2,⟨⟩,⟨⟩⟩ ⟨dp,ao⟩
 dsimp only at dp ao ⊢
 refine sq (sq (ar rfl (qn ?_)))
 refine AWP.cond (Am (fun hc=>?_) (fun hc=>?_))
 ·have ck:k2<k0:=by have:=Akp hc;omega
  obtain⟨_,b2,_,h,ao⟩:=Bc ao (by rw[Akx];exact ck)
  have bq:=wk (k:=k2) (by omega)
  unfold Gd at h;try dsimp only at h
  refine sk (qn (sq (bk (sq ?_))))
  refine AWP.draw Tryz.mixed (by kernel_rfl) ?_;intro K j
  refine nS ?_
  obtain⟨au,gp,h⟩:=Ah h
  refine Bo.of (f:=A3) (l:=l) gp ?_
  refine nS ?_
  refine j _ _ _ (by kernel_rfl) ?_
  refine qn ?_
  revert h;refine ca rfl (fun hc h=>?_) fun hc h=>?_
  ·refine sq (ar rfl (qn (rt (br (qr (qr ?_))))))
   obtain rfl:=Aa h
   obtain rfl:=Ae ao
   replace h:=Ao ek
   refine br (qr (br (qr (qr ?_))))
   obtain rfl:=Aa h
   obtain rfl:=Ae aa
   replace h:=Ao ae
   refine br (qr ?_)
   cases h;exact en Tryz.results89
  refine sk (bn (qn (ar rfl (qn ?_))))
  obtain rfl:=Aa h
  refine⟨(k2+1,(),()),⟨by dsimp only;omega,Aj ao⟩,by dsimp only;omega,?_,?_⟩
  ·exact cuw bq
  exact cuw bq
 obtain rfl:=Bg ao (fun hl=>by rw[Akx]at hl;have:=Ako hc;omega)
 have h:=Bf ek;try dsimp only at h
 have ag:k0=k2:=by have:=Ako hc;omega
 subst ag
 refine xt (qe (qe (bs (qn (sq (rg rfl fun K j=>?_))))))
 intro hm
 revert h;refine gf (fun hc h=>?_) fun hc h=>?_
 rotate_left
 ·refine j _ _ (qn ?_)
  refine AWP.cond (Ai ?_)
  refine sq (ar rfl (qn (rt (br (qr (qr ?_))))))
  obtain rfl:=Aa h
  obtain rfl:=Ae aa
  replace h:=Ao ae
  refine br (qr ?_)
  cases h;exact en Tryz.results89
 obtain⟨y5,db,h⟩:=Ah h
 refine Al.pure Tryz.call185 (Sx ab.Zones 32 db) rfl fun _ hr=>?_
 subst hr
 refine nS ?_
 revert h;refine gf (fun hc h=>?_) fun hc h=>?_
 ·obtain⟨y6,ey,h⟩:=Ah h
  refine Al.pure Tryz.call185 (Sx ab.Lifts 9999 ey) rfl fun _ hr=>?_
  subst hr
  refine nS ?_
  refine j _ _ (qn ?_)
  revert h;refine ca rfl (fun hc h=>?_) fun hc h=>?_
  ·refine sq (ar rfl (qn (rt (br (qr (qr ?_))))))
   obtain rfl:=Aa h
   obtain rfl:=Ae aa
   replace h:=Ao ae
   refine br (qr ?_)
   cases h;exact en Tryz.results89
  refine sk (bn (qn (ar rfl (qn ?_))))
  obtain rfl:=Aa h
  refine⟨(k0+1,(),()),⟨by dsimp only;omega,Aj aa⟩,by dsimp only;omega,?_,?_⟩
  ·exact cuw ak
  exact cuw ak
 refine j _ _ (qn ?_)
 refine AWP.cond (Ai ?_)
 refine sq (ar rfl (qn (rt (br (qr (qr ?_))))))
 obtain rfl:=Aa h
 obtain rfl:=Ae aa
 replace h:=Ao ae
 refine br (qr ?_)
 cases h;exact en Tryz.results89
def H8 (l:List Int) (k0:Nat) (ab:Int) (sv:Unit):Option (Out (Unit) (Bool)):=
 (bif (decide (ab<1))then some (Out.ret false)else (bif (decide (32<ab))then some (Out.ret false)else (bif (decide (0<((k0:Nat):Int)))then (Dv l (IntKind.i64.wrap (((k0:Nat):Int) - 1))).bind fun bb=>(bif (decide (ab≤bb))then some (Out.ret false)else some (Out.next ()))else some (Out.next ()))))
def K0 (l:List Int):Option (Bool):=
 (An (H8 l) 0 l ()).bind fun o0=>o0.on fun s0=>some (decide (0<((l.length:Nat):Int)))
theorem cF (l:List Int) {r:Bool} (h:K0 l=some r):Ad Tryz.prog 186 [.sl 1 (l.map Bb)] (·= .bool r):=by
 refine Ad.nle (Ad.intro Tryz.func186 rfl rfl (by show _≤41;simp) ?_)
 unfold K0 at h
 refine nS (sq ?_)
 refine ar rfl (qn (sq (sq ?_)))
 refine ar rfl (qn (bk ?_))
 obtain⟨o0,aa,ae⟩:=Ah h
 clear h
 refine AWP.Bw (ι:=Nat×(Unit)×(Unit)) (fun zz=>[(0,.sl 1 (l.map Bb)),(3,.int .i64 ((zz.1:Nat):Int))]) (fun zz=>[]) (fun zz=>zz.1≤l.length∧An (H8 l) zz.1 ((l).drop zz.1) zz.2.1=some o0) (fun zz=>l.length - zz.1) (0,(),()) ⟨Nat.zero_le _,aa⟩ cu cu (fun x=>⟨rfl,rfl,rfl⟩) ?_
 clear aa
 rintro⟨k0,⟨⟩,⟨⟩⟩ ⟨bg,aa⟩
 dsimp only at bg aa ⊢
 refine sq (sq (rg rfl fun K j=>?_))
 intro hm
 refine j _ _ (qn ?_)
 refine AWP.cond (Am (fun hc=>?_) (fun hc=>?_))
 rotate_left
 ·obtain rfl:=Bg aa (fun hl=>by have:=Ako hc;omega)
  have h:=Bf ae;try dsimp only at h
  have ag:l.length=k0:=by have:=Ako hc;omega
  subst ag
  refine xt (qe (qe (bs (qn (sq (rg rfl fun K j=>?_))))))
  intro hm
  refine j _ _ (qn (rt ?_))
  cases h;exact en Tryz.results186
 have ah:k0<l.length:=by have:=Akp hc;omega
 obtain⟨ab,b0,aj,h,aa⟩:=Bc aa ah
 have aw:=A9 aj
 have ak:=wk (k:=k0) (by omega)
 unfold H8 at h;try dsimp only at h
 refine sk (qn (sq (bk (sq ?_))))
 refine AWP.draw Tryz.mixed (by kernel_rfl) ?_;intro K j
 refine nS ?_
 refine Bo.of (f:=Bb) (l:=l) aw ?_
 refine nS ?_
 revert h;refine gf (fun hc h=>?_) fun hc h=>?_
 rotate_left
 ·refine j _ _ _ (by kernel_rfl) ?_
  refine qn ?_
  refine AWP.cond (Ai ?_)
  refine sq (ar rfl (qn (rt (br (qr (qr ?_))))))
  obtain rfl:=Aa h
  obtain rfl:=Ae aa
  replace h:=Ao ae
  refine br (qr ?_)
  cases h;exact en Tryz.results186
 refine Bo.of (f:=Bb) (l:=l) aw ?_
 refine nS ?_
 revert h;refine gf (fun hc h=>?_) fun hc h=>?_
 rotate_left
 ·refine j _ _ _ (by kernel_rfl) ?_
  refine qn ?_
  refine AWP.cond (Ai ?_)
  refine sq (ar rfl (qn (rt (br (qr (qr ?_))))))
  obtain rfl:=Aa h
  obtain rfl:=Ae aa
  replace h:=Ao ae
  refine br (qr ?_)
  cases h;exact en Tryz.results186
 revert h;refine gt (fun hc h=>?_) fun hc h=>?_
 ·refine Bo.of (f:=Bb) (l:=l) aw ?_
  refine nS ?_
  obtain⟨bb,du,h⟩:=Ah h
  refine Bo.of (f:=Bb) (l:=l) du ?_
  refine nS ?_
  refine j _ _ _ (by kernel_rfl) ?_
  refine qn ?_
  revert h;refine ca rfl (fun hc h=>?_) fun hc h=>?_
  ·refine sq (ar rfl (qn (rt (br (qr (qr ?_))))))
   obtain rfl:=Aa h
   obtain rfl:=Ae aa
   replace h:=Ao ae
   refine br (qr ?_)
   cases h;exact en Tryz.results186
  refine sk (bn (qn (ar rfl (qn ?_))))
  obtain rfl:=Aa h
  refine⟨(k0+1,(),()),⟨by dsimp only;omega,Aj aa⟩,by dsimp only;omega,?_,?_⟩
  ·exact cuw ak
  exact cuw ak
 refine j _ _ _ (by kernel_rfl) ?_
 refine qn ?_
 refine AWP.cond (Bj ?_)
 refine sk (bn (qn (ar rfl (qn ?_))))
 obtain rfl:=Aa h
 refine⟨(k0+1,(),()),⟨by dsimp only;omega,Aj aa⟩,by dsimp only;omega,?_,?_⟩
 ·exact cuw ak
 exact cuw ak
def Fe (l:List Bi) (k0:Nat) (ab:Bi) (sv:Unit):Option (Out (Unit) (Int)):=
 (bif (decide (ab.Version<1))then some (Out.ret 2)else (bif (decide (1000000<ab.Version))then some (Out.ret 2)else (bif (decide (ab.Span.From<0))then some (Out.ret 2)else (bif (decide (ab.Span.To≤ab.Span.From))then some (Out.ret 2)else (bif (decide (20000000<ab.Span.To))then some (Out.ret 2)else (bif (decide (ab.Low<0))then some (Out.ret 2)else (bif (decide (ab.High≤ab.Low))then some (Out.ret 2)else (bif (decide (6000<ab.High))then some (Out.ret 2)else (bif (decide (ab.Level<1))then some (Out.ret 2)else (bif (decide (5<ab.Level))then some (Out.ret 2)else (K0 ab.Zones).bind fun y3=>(bif (!y3)then some (Out.ret 1)else (bif (decide (0<((k0:Nat):Int)))then (Dv l (IntKind.i64.wrap (((k0:Nat):Int) - 1))).bind fun au=>(bif (decide (ab.Version<au.Version))then some (Out.ret 11)else some (Out.next ()))else some (Out.next ())))))))))))))
def Iz (l:List Bi):Option (Int):=
 (bif (decide (64<((l.length:Nat):Int)))then some 4 else(An (Fe l) 0 l ()).bind fun o0=>o0.on fun s0=>some 0)
theorem cG (l:List Bi) {r:Int} (h:Iz l=some r):Ad Tryz.prog 90 [.sl 7 (l.map Ar)] (·= .int .i64 r):=by
 refine Ad.nle (Ad.intro Tryz.func90 rfl rfl (by show _≤91;simp) ?_)
 unfold Iz at h
 refine nS (sq ?_)
 refine ar rfl (qn (sq (sq ?_)))
 refine rg rfl fun K j=>?_
 intro hm
 refine j _ _ (qn ?_)
 revert h;refine ca rfl (fun hc h=>?_) fun hc h=>?_
 ·refine sq (ar rfl (qn (rt (qr ?_))))
  cases h;exact en Tryz.results90
 refine sk (qn (sq (sq (ar rfl (qn (bk ?_))))))
 obtain⟨o0,aa,ae⟩:=Ah h
 clear h
 refine AWP.Bw (ι:=Nat×(Unit)×(Unit)) (fun zz=>[(0,.sl 7 (l.map Ar)),(3,.int .i64 ((zz.1:Nat):Int))]) (fun zz=>[]) (fun zz=>zz.1≤l.length∧An (Fe l) zz.1 ((l).drop zz.1) zz.2.1=some o0) (fun zz=>l.length - zz.1) (0,(),()) ⟨Nat.zero_le _,aa⟩ cu cu (fun x=>⟨rfl,rfl,rfl⟩) ?_
 clear aa
 rintro⟨k0,⟨⟩,⟨⟩⟩ ⟨bg,aa⟩
 dsimp only at bg aa ⊢
 refine sq (sq (rg rfl fun K j=>?_))
 intro hm
 refine j _ _ (qn ?_)
 refine AWP.cond (Am (fun hc=>?_) (fun hc=>?_))
 rotate_left
 ·obtain rfl:=Bg aa (fun hl=>by have:=Ako hc;omega)
  have h:=Bf ae;try dsimp only at h
  have ag:l.length=k0:=by have:=Ako hc;omega
  subst ag
  refine xt (qe (qe (bs (qn (sq (ar rfl (qn (rt ?_))))))))
  cases h;exact en Tryz.results90
 have ah:k0<l.length:=by have:=Akp hc;omega
 obtain⟨ab,b0,aj,h,aa⟩:=Bc aa ah
 have aw:=A9 aj
 have ak:=wk (k:=k0) (by omega)
 unfold Fe at h;try dsimp only at h
 refine sk (qn (sq (bk (sq (rg rfl fun K j=>?_)))))
 refine Bo.of (f:=Ar) (l:=l) aw ?_
 refine nS ?_
 refine j _ _ (qn (sq (sq ?_)))
 refine rg rfl fun K j=>?_
 revert h;refine gf (fun hc h=>?_) fun hc h=>?_
 rotate_left
 ·refine j _ _ (qn ?_)
  refine AWP.cond (Ai ?_)
  refine sq (ar rfl (qn (rt (qr (br (qr (qr ?_)))))))
  obtain rfl:=Aa h
  obtain rfl:=Ae aa
  replace h:=Ao ae
  refine br (qr ?_)
  cases h;exact en Tryz.results90
 revert h;refine gf (fun hc h=>?_) fun hc h=>?_
 rotate_left
 ·refine j _ _ (qn ?_)
  refine AWP.cond (Ai ?_)
  refine sq (ar rfl (qn (rt (qr (br (qr (qr ?_)))))))
  obtain rfl:=Aa h
  obtain rfl:=Ae aa
  replace h:=Ao ae
  refine br (qr ?_)
  cases h;exact en Tryz.results90
 revert h;refine gf (fun hc h=>?_) fun hc h=>?_
 rotate_left
 ·refine j _ _ (qn ?_)
  refine AWP.cond (Ai ?_)
  refine sq (ar rfl (qn (rt (qr (br (qr (qr ?_)))))))
  obtain rfl:=Aa h
  obtain rfl:=Ae aa
  replace h:=Ao ae
  refine br (qr ?_)
  cases h;exact en Tryz.results90
 revert h;refine gf (fun hc h=>?_) fun hc h=>?_
 rotate_left
 ·refine j _ _ (qn ?_)
  refine AWP.cond (Ai ?_)
  refine sq (ar rfl (qn (rt (qr (br (qr (qr ?_)))))))
  obtain rfl:=Aa h
  obtain rfl:=Ae aa
  replace h:=Ao ae
  refine br (qr ?_)
  cases h;exact en Tryz.results90
 revert h;refine gf (fun hc h=>?_) fun hc h=>?_
 rotate_left
 ·refine j _ _ (qn ?_)
  refine AWP.cond (Ai ?_)
  refine sq (ar rfl (qn (rt (qr (br (qr (qr ?_)))))))
  obtain rfl:=Aa h
  obtain rfl:=Ae aa
  replace h:=Ao ae
  refine br (qr ?_)
  cases h;exact en Tryz.results90
 revert h;refine gf (fun hc h=>?_) fun hc h=>?_
 rotate_left
 ·refine j _ _ (qn ?_)
  refine AWP.cond (Ai ?_)
  refine sq (ar rfl (qn (rt (qr (br (qr (qr ?_)))))))
  obtain rfl:=Aa h
  obtain rfl:=Ae aa
  replace h:=Ao ae
  refine br (qr ?_)
  cases h;exact en Tryz.results90
 revert h;refine gf (fun hc h=>?_) fun hc h=>?_
 rotate_left
 ·refine j _ _ (qn ?_)
  refine AWP.cond (Ai ?_)
  refine sq (ar rfl (qn (rt (qr (br (qr (qr ?_)))))))
  obtain rfl:=Aa h
  obtain rfl:=Ae aa
  replace h:=Ao ae
  refine br (qr ?_)
  cases h;exact en Tryz.results90
 revert h;refine gf (fun hc h=>?_) fun hc h=>?_
 rotate_left
 ·refine j _ _ (qn ?_)
  refine AWP.cond (Ai ?_)
  refine sq (ar rfl (qn (rt (qr (br (qr (qr ?_)))))))
  obtain rfl:=Aa h
  obtain rfl:=Ae aa
  replace h:=Ao ae
  refine br (qr ?_)
  cases h;exact en Tryz.results90
 revert h;refine gf (fun hc h=>?_) fun hc h=>?_
 rotate_left
 ·refine j _ _ (qn ?_)
  refine AWP.cond (Ai ?_)
  refine sq (ar rfl (qn (rt (qr (br (qr (qr ?_)))))))
  obtain rfl:=Aa h
  obtain rfl:=Ae aa
  replace h:=Ao ae
  refine br (qr ?_)
  cases h;exact en Tryz.results90
 refine j _ _ (qn ?_)
 revert h;refine ca rfl (fun hc h=>?_) fun hc h=>?_
 ·refine sq (ar rfl (qn (rt (qr (br (qr (qr ?_)))))))
  obtain rfl:=Aa h
  obtain rfl:=Ae aa
  replace h:=Ao ae
  refine br (qr ?_)
  cases h;exact en Tryz.results90
 refine sk (qn (sq (sq (rg rfl fun K j=>?_))))
 obtain⟨y3,bx,h⟩:=Ah h
 refine Al.pure Tryz.call186 (cF ab.Zones bx) rfl fun _ hr=>?_
 subst hr
 refine nS ?_
 refine j _ _ (qn ?_)
 revert h;refine ca rfl (fun hc h=>?_) fun hc h=>?_
 ·refine sq (ar rfl (qn (rt (qr (br (qr (qr ?_)))))))
  obtain rfl:=Aa h
  obtain rfl:=Ae aa
  replace h:=Ao ae
  refine br (qr ?_)
  cases h;exact en Tryz.results90
 refine sk (qn (sq ?_))
 refine AWP.draw Tryz.mixed (by kernel_rfl) ?_;intro K j
 refine nS ?_
 revert h;refine gt (fun hc h=>?_) fun hc h=>?_
 ·obtain⟨au,gp,h⟩:=Ah h
  refine Bo.of (f:=Ar) (l:=l) gp ?_
  refine nS ?_
  refine j _ _ _ (by kernel_rfl) ?_
  refine qn ?_
  revert h;refine ca rfl (fun hc h=>?_) fun hc h=>?_
  ·refine sq (ar rfl (qn (rt (br (qr (qr ?_))))))
   obtain rfl:=Aa h
   obtain rfl:=Ae aa
   replace h:=Ao ae
   refine br (qr ?_)
   cases h;exact en Tryz.results90
  refine sk (bn (qn (ar rfl (qn ?_))))
  obtain rfl:=Aa h
  refine⟨(k0+1,(),()),⟨by dsimp only;omega,Aj aa⟩,by dsimp only;omega,?_,?_⟩
  ·exact cuw ak
  exact cuw ak
 refine j _ _ _ (by kernel_rfl) ?_
 refine qn ?_
 refine AWP.cond (Bj ?_)
 refine sk (bn (qn (ar rfl (qn ?_))))
 obtain rfl:=Aa h
 refine⟨(k0+1,(),()),⟨by dsimp only;omega,Aj aa⟩,by dsimp only;omega,?_,?_⟩
 ·exact cuw ak
 exact cuw ak
def Mm (n_:Int) (lo:Int) (hi:Int):Option (Bool):=
 (bif (decide (lo≤n_))then some (decide (n_≤hi))else some false)
theorem Jx (n_:Int) (lo:Int) (hi:Int) {r:Bool} (h:Mm n_ lo hi=some r):Ad Tryz.prog 187 [.int .i64 n_,.int .i64 lo,.int .i64 hi] (·= .bool r):=by
 refine Ad.nle (Ad.intro Tryz.func187 rfl rfl (by show _≤15;simp) ?_)
 unfold Mm at h
 refine nS (sq ?_)
 refine ar rfl (qn (sq ?_))
 refine rg rfl fun K j=>?_
 revert h;refine gt (fun hc h=>?_) fun hc h=>?_
 ·refine j _ _ (qn (rt ?_))
  cases h;exact en Tryz.results187
 refine j _ _ (qn (rt ?_))
 cases h;exact en Tryz.results187
def Ob (id_:Int) (k0:Nat) (ab:Bh) (sv:Unit):Option (Out (Unit) (Int)):=
 (bif (decide (ab.ID=id_))then some (Out.ret ((k0:Nat):Int))else some (Out.next ()))
def Nn (l:List Bh) (id_:Int):Option (Int):=
 (An (Ob id_) 0 l ()).bind fun o0=>o0.on fun s0=>some (-1)
theorem cC (l:List Bh) (id_:Int) {r:Int} (h:Nn l id_=some r):Ad Tryz.prog 188 [.sl 7 (l.map Ap),.int .i64 id_] (·= .int .i64 r):=by
 refine Ad.nle (Ad.intro Tryz.func188 rfl rfl (by show _≤20;simp) ?_)
 unfold Nn at h
 refine nS (sq ?_)
 refine ar rfl (qn (sq (sq ?_)))
 refine ar rfl (qn (bk ?_))
 obtain⟨o0,aa,ae⟩:=Ah h
 clear h
 refine AWP.Bw (ι:=Nat×(Unit)×(Unit)) (fun zz=>[(0,.sl 7 (l.map Ap)),(1,.int .i64 id_),(5,.int .i64 ((zz.1:Nat):Int))]) (fun zz=>[]) (fun zz=>zz.1≤l.length∧An (Ob id_) zz.1 ((l).drop zz.1) zz.2.1=some o0) (fun zz=>l.length - zz.1) (0,(),()) ⟨Nat.zero_le _,aa⟩ cu cu (fun x=>⟨rfl,rfl,rfl⟩) ?_
 clear aa
 rintro⟨k0,⟨⟩,⟨⟩⟩ ⟨bg,aa⟩
 dsimp only at bg aa ⊢
 refine sq (sq (rg rfl fun K j=>?_))
 intro hm
 refine j _ _ (qn ?_)
 refine AWP.cond (Am (fun hc=>?_) (fun hc=>?_))
 rotate_left
 ·obtain rfl:=Bg aa (fun hl=>by have:=Ako hc;omega)
  have h:=Bf ae;try dsimp only at h
  have ag:l.length=k0:=by have:=Ako hc;omega
  subst ag
  refine xt (qe (qe (bs (qn (sq (ar rfl (qn (rt ?_))))))))
  cases h;exact en Tryz.results188
 have ah:k0<l.length:=by have:=Akp hc;omega
 obtain⟨ab,b0,aj,h,aa⟩:=Bc aa ah
 have aw:=A9 aj
 have ak:=wk (k:=k0) (by omega)
 unfold Ob at h;try dsimp only at h
 refine sk (qn (sq (bk (sq (rg rfl fun K j=>?_)))))
 refine Bo.of (f:=Ap) (l:=l) aw ?_
 refine nS ?_
 refine j _ _ (qn ?_)
 revert h;refine ca rfl (fun hc h=>?_) fun hc h=>?_
 ·refine sq (ar rfl (qn (rt (br (qr (qr ?_))))))
  obtain rfl:=Aa h
  obtain rfl:=Ae aa
  replace h:=Ao ae
  refine br (qr ?_)
  cases h;exact en Tryz.results188
 refine sk (bn (qn (ar rfl (qn ?_))))
 obtain rfl:=Aa h
 refine⟨(k0+1,(),()),⟨by dsimp only;omega,Aj aa⟩,by dsimp only;omega,?_,?_⟩
 ·exact cuw ak
 exact cuw ak
def Nf (m:Bh):Option (Bool):=
 (Mm m.State 0 4).bind fun y1=>some y1
theorem V0 (m:Bh) {r:Bool} (h:Nf m=some r):Ad Tryz.prog 189 [.agg (Ap m)] (·= .bool r):=by
 refine Ad.nle (Ad.intro Tryz.func189 rfl rfl (by show _≤6;simp) ?_)
 unfold Nf at h
 refine nS (sq ?_)
 refine ar rfl (qn (sq ?_))
 refine rg rfl fun K j=>?_
 obtain⟨y1,bp,h⟩:=Ah h
 refine Al.pure Tryz.call187 (Jx m.State 0 4 bp) rfl fun _ hr=>?_
 subst hr
 refine nS ?_
 refine j _ _ (qn (rt ?_))
 cases h;exact en Tryz.results189
def Oa (slide:Int) (k0:Nat) (ab:Bh) (sv:Unit):Option (Out (Unit) (Bool)):=
 (Nf ab).bind fun y3=>(bif y3 then(bif (decide (ab.Slide=slide))then some (Out.ret true)else some (Out.next ()))else some (Out.next ()))
def Py (l:List Bh) (slide:Int):Option (Bool):=
 (An (Oa slide) 0 l ()).bind fun o0=>o0.on fun s0=>some false
theorem cB (l:List Bh) (slide:Int) {r:Bool} (h:Py l slide=some r):Ad Tryz.prog 190 [.sl 7 (l.map Ap),.int .i64 slide] (·= .bool r):=by
 refine Ad.nle (Ad.intro Tryz.func190 rfl rfl (by show _≤26;simp) ?_)
 unfold Py at h
 refine nS (sq ?_)
 refine ar rfl (qn (sq (sq ?_)))
 refine ar rfl (qn (bk ?_))
 obtain⟨o0,aa,ae⟩:=Ah h
 clear h
 refine AWP.Bw (ι:=Nat×(Unit)×(Unit)) (fun zz=>[(0,.sl 7 (l.map Ap)),(1,.int .i64 slide),(5,.int .i64 ((zz.1:Nat):Int))]) (fun zz=>[]) (fun zz=>zz.1≤l.length∧An (Oa slide) zz.1 ((l).drop zz.1) zz.2.1=some o0) (fun zz=>l.length - zz.1) (0,(),()) ⟨Nat.zero_le _,aa⟩ cu cu (fun x=>⟨rfl,rfl,rfl⟩) ?_
 clear aa
 rintro⟨k0,⟨⟩,⟨⟩⟩ ⟨bg,aa⟩
 dsimp only at bg aa ⊢
 refine sq (sq (rg rfl fun K j=>?_))
 intro hm
 refine j _ _ (qn ?_)
 refine AWP.cond (Am (fun hc=>?_) (fun hc=>?_))
 rotate_left
 ·obtain rfl:=Bg aa (fun hl=>by have:=Ako hc;omega)
  have h:=Bf ae;try dsimp only at h
  have ag:l.length=k0:=by have:=Ako hc;omega
  subst ag
  refine xt (qe (qe (bs (qn (sq (ar rfl (qn (rt ?_))))))))
  cases h;exact en Tryz.results190
 have ah:k0<l.length:=by have:=Akp hc;omega
 obtain⟨ab,b0,aj,h,aa⟩:=Bc aa ah
 have aw:=A9 aj
 have ak:=wk (k:=k0) (by omega)
 unfold Oa at h;try dsimp only at h
 refine sk (qn (sq (bk (sq (rg rfl fun K j=>?_)))))
 refine Bo.of (f:=Ap) (l:=l) aw ?_
 refine nS ?_
 obtain⟨y3,bx,h⟩:=Ah h
 refine Al.pure Tryz.call189 (V0 ab bx) rfl fun _ hr=>?_
 subst hr
 refine nS ?_
 revert h;refine gt (fun hc h=>?_) fun hc h=>?_
 ·refine Bo.of (f:=Ap) (l:=l) aw ?_
  refine nS ?_
  refine j _ _ (qn ?_)
  revert h;refine ca rfl (fun hc h=>?_) fun hc h=>?_
  ·refine sq (ar rfl (qn (rt (br (qr (qr ?_))))))
   obtain rfl:=Aa h
   obtain rfl:=Ae aa
   replace h:=Ao ae
   refine br (qr ?_)
   cases h;exact en Tryz.results190
  refine sk (bn (qn (ar rfl (qn ?_))))
  obtain rfl:=Aa h
  refine⟨(k0+1,(),()),⟨by dsimp only;omega,Aj aa⟩,by dsimp only;omega,?_,?_⟩
  ·exact cuw ak
  exact cuw ak
 refine j _ _ (qn ?_)
 refine AWP.cond (Bj ?_)
 refine sk (bn (qn (ar rfl (qn ?_))))
 obtain rfl:=Aa h
 refine⟨(k0+1,(),()),⟨by dsimp only;omega,Aj aa⟩,by dsimp only;omega,?_,?_⟩
 ·exact cuw ak
 exact cuw ak
def H5 (l:List Bh) (k0:Nat) (ab:Bh) (sv:Unit):Option (Out (Unit) (Int)):=
 (Mm ab.ID 1 9999).bind fun y3=>(bif (!y3)then some (Out.ret 2)else (Mm ab.Slide 1 9999).bind fun y4=>(bif (!y4)then some (Out.ret 2)else (Mm ab.By 1 9999).bind fun y5=>(bif (!y5)then some (Out.ret 2)else (Mm ab.State 0 6).bind fun y6=>(bif (!y6)then some (Out.ret 2)else (Mm ab.Since 0 20000000).bind fun y7=>(bif (!y7)then some (Out.ret 2)else (bif (decide (ab.Window.From<0))then some (Out.ret 2)else (bif (decide (ab.Window.To≤ab.Window.From))then some (Out.ret 2)else (bif (decide (20000000<ab.Window.To))then some (Out.ret 2)else okB (decide (0≤((k0:Nat):Int)∧((k0:Nat):Int)≤((l.length:Nat):Int))) ((Nn (l.take k0) ab.ID).bind fun y8=>(bif (decide (0≤y8))then some (Out.ret 7)else (Nf ab).bind fun y9=>(bif y9 then okB (decide (0≤((k0:Nat):Int)∧((k0:Nat):Int)≤((l.length:Nat):Int))) ((Py (l.take k0) ab.Slide).bind fun cf=>(bif cf then some (Out.ret 15)else some (Out.next ())))else some (Out.next ()))))))))))))
def Iy (l:List Bh):Option (Int):=
 (bif (decide (64<((l.length:Nat):Int)))then some 4 else(An (H5 l) 0 l ()).bind fun o0=>o0.on fun s0=>some 0)
theorem cD (l:List Bh) {r:Int} (h:Iy l=some r):Ad Tryz.prog 91 [.sl 7 (l.map Ap)] (·= .int .i64 r):=by
 refine Ad.nle (Ad.intro Tryz.func91 rfl rfl (by show _≤86;simp) ?_)
 unfold Iy at h
 refine nS (sq ?_)
 refine ar rfl (qn (sq (sq ?_)))
 refine rg rfl fun K j=>?_
 intro hm
 refine j _ _ (qn ?_)
 revert h;refine ca rfl (fun hc h=>?_) fun hc h=>?_
 ·refine sq (ar rfl (qn (rt (qr ?_))))
  cases h;exact en Tryz.results91
 refine sk (qn (sq (sq (ar rfl (qn (bk ?_))))))
 obtain⟨o0,aa,ae⟩:=Ah h
 clear h
 refine AWP.Bw (ι:=Nat×(Unit)×(Unit)) (fun zz=>[(0,.sl 7 (l.map Ap)),(3,.int .i64 ((zz.1:Nat):Int))]) (fun zz=>[]) (fun zz=>zz.1≤l.length∧An (H5 l) zz.1 ((l).drop zz.1) zz.2.1=some o0) (fun zz=>l.length - zz.1) (0,(),()) ⟨Nat.zero_le _,aa⟩ cu cu (fun x=>⟨rfl,rfl,rfl⟩) ?_
 clear aa
 rintro⟨k0,⟨⟩,⟨⟩⟩ ⟨bg,aa⟩
 dsimp only at bg aa ⊢
 refine sq (sq (rg rfl fun K j=>?_))
 intro hm
 refine j _ _ (qn ?_)
 refine AWP.cond (Am (fun hc=>?_) (fun hc=>?_))
 rotate_left
 ·obtain rfl:=Bg aa (fun hl=>by have:=Ako hc;omega)
  have h:=Bf ae;try dsimp only at h
  have ag:l.length=k0:=by have:=Ako hc;omega
  subst ag
  refine xt (qe (qe (bs (qn (sq (ar rfl (qn (rt ?_))))))))
  cases h;exact en Tryz.results91
 have ah:k0<l.length:=by have:=Akp hc;omega
 obtain⟨ab,b0,aj,h,aa⟩:=Bc aa ah
 have aw:=A9 aj
 have ak:=wk (k:=k0) (by omega)
 unfold H5 at h;try dsimp only at h
 refine sk (qn (sq (bk (sq (rg rfl fun K j=>?_)))))
 refine Bo.of (f:=Ap) (l:=l) aw ?_
 refine nS ?_
 refine j _ _ (qn (sq ?_))
 refine ar rfl (qn (bk (sq ?_)))
 refine rg rfl fun K j=>?_
 obtain⟨y3,bx,h⟩:=Ah h
 refine Al.pure Tryz.call187 (Jx ab.ID 1 9999 bx) rfl fun _ hr=>?_
 subst hr
 refine nS ?_
 revert h;refine gf (fun hc h=>?_) fun hc h=>?_
 rotate_left
 ·refine j _ _ (qn ?_)
  refine AWP.cond (Ai ?_)
  refine sq (ar rfl (qn (rt (br (br (qr (qr ?_)))))))
  obtain rfl:=Aa h
  obtain rfl:=Ae aa
  replace h:=Ao ae
  refine br (qr ?_)
  cases h;exact en Tryz.results91
 obtain⟨y4,cn,h⟩:=Ah h
 refine Al.pure Tryz.call187 (Jx ab.Slide 1 9999 cn) rfl fun _ hr=>?_
 subst hr
 refine nS ?_
 revert h;refine gf (fun hc h=>?_) fun hc h=>?_
 rotate_left
 ·refine j _ _ (qn ?_)
  refine AWP.cond (Ai ?_)
  refine sq (ar rfl (qn (rt (br (br (qr (qr ?_)))))))
  obtain rfl:=Aa h
  obtain rfl:=Ae aa
  replace h:=Ao ae
  refine br (qr ?_)
  cases h;exact en Tryz.results91
 obtain⟨y5,db,h⟩:=Ah h
 refine Al.pure Tryz.call187 (Jx ab.By 1 9999 db) rfl fun _ hr=>?_
 subst hr
 refine nS ?_
 revert h;refine gf (fun hc h=>?_) fun hc h=>?_
 rotate_left
 ·refine j _ _ (qn ?_)
  refine AWP.cond (Ai ?_)
  refine sq (ar rfl (qn (rt (br (br (qr (qr ?_)))))))
  obtain rfl:=Aa h
  obtain rfl:=Ae aa
  replace h:=Ao ae
  refine br (qr ?_)
  cases h;exact en Tryz.results91
 obtain⟨y6,ey,h⟩:=Ah h
 refine Al.pure Tryz.call187 (Jx ab.State 0 6 ey) rfl fun _ hr=>?_
 subst hr
 refine nS ?_
 revert h;refine gf (fun hc h=>?_) fun hc h=>?_
 rotate_left
 ·refine j _ _ (qn ?_)
  refine AWP.cond (Ai ?_)
  refine sq (ar rfl (qn (rt (br (br (qr (qr ?_)))))))
  obtain rfl:=Aa h
  obtain rfl:=Ae aa
  replace h:=Ao ae
  refine br (qr ?_)
  cases h;exact en Tryz.results91
 obtain⟨y7,eo,h⟩:=Ah h
 refine Al.pure Tryz.call187 (Jx ab.Since 0 20000000 eo) rfl fun _ hr=>?_
 subst hr
 refine nS ?_
 revert h;refine gf (fun hc h=>?_) fun hc h=>?_
 rotate_left
 ·refine j _ _ (qn ?_)
  refine AWP.cond (Ai ?_)
  refine sq (ar rfl (qn (rt (br (br (qr (qr ?_)))))))
  obtain rfl:=Aa h
  obtain rfl:=Ae aa
  replace h:=Ao ae
  refine br (qr ?_)
  cases h;exact en Tryz.results91
 revert h;refine gf (fun hc h=>?_) fun hc h=>?_
 rotate_left
 ·refine j _ _ (qn ?_)
  refine AWP.cond (Ai ?_)
  refine sq (ar rfl (qn (rt (br (br (qr (qr ?_)))))))
  obtain rfl:=Aa h
  obtain rfl:=Ae aa
  replace h:=Ao ae
  refine br (qr ?_)
  cases h;exact en Tryz.results91
 revert h;refine gf (fun hc h=>?_) fun hc h=>?_
 rotate_left
 ·refine j _ _ (qn ?_)
  refine AWP.cond (Ai ?_)
  refine sq (ar rfl (qn (rt (br (br (qr (qr ?_)))))))
  obtain rfl:=Aa h
  obtain rfl:=Ae aa
  replace h:=Ao ae
  refine br (qr ?_)
  cases h;exact en Tryz.results91
 refine j _ _ (qn ?_)
 revert h;refine ca rfl (fun hc h=>?_) fun hc h=>?_
 ·refine sq (ar rfl (qn (rt (br (br (qr (qr ?_)))))))
  obtain rfl:=Aa h
  obtain rfl:=Ae aa
  replace h:=Ao ae
  refine br (qr ?_)
  cases h;exact en Tryz.results91
 refine sq ?_
 refine AWP.draw Tryz.mixed (by kernel_rfl) ?_;intro K j
 refine nS ?_
 obtain⟨hk,h⟩:=Fz h
 intro hm
 (repeat(refine⟨by omega,?_⟩))
 obtain⟨y8,fp,h⟩:=Ah h
 refine Cf.pure Tryz.call188 (cC (l.take k0) ab.ID fp) rfl ?_
 refine nS ?_
 refine j _ _ _ (by kernel_rfl) ?_
 refine qn ?_
 revert h;refine ca rfl (fun hc h=>?_) fun hc h=>?_
 ·refine sq (ar rfl (qn (rt (br (br (qr (qr ?_)))))))
  obtain rfl:=Aa h
  obtain rfl:=Ae aa
  replace h:=Ao ae
  refine br (qr ?_)
  cases h;exact en Tryz.results91
 refine sq ?_
 refine AWP.draw Tryz.mixed (by kernel_rfl) ?_;intro K j
 refine nS ?_
 obtain⟨y9,ic,h⟩:=Ah h
 refine Cf.pure Tryz.call189 (V0 ab ic) rfl ?_
 refine nS ?_
 revert h;refine gt (fun hc h=>?_) fun hc h=>?_
 ·obtain⟨hk,h⟩:=Fz h
  intro hm
  (repeat(refine⟨by omega,?_⟩))
  obtain⟨cf,dt,h⟩:=Ah h
  refine Cf.pure Tryz.call190 (cB (l.take k0) ab.Slide dt) rfl ?_
  refine nS ?_
  refine j _ _ _ (by kernel_rfl) ?_
  refine qn ?_
  revert h;refine ca rfl (fun hc h=>?_) fun hc h=>?_
  ·refine sq (ar rfl (qn (rt (br (br (qr (qr ?_)))))))
   obtain rfl:=Aa h
   obtain rfl:=Ae aa
   replace h:=Ao ae
   refine br (qr ?_)
   cases h;exact en Tryz.results91
  refine sk (bn (bn (qn (ar rfl (qn ?_)))))
  obtain rfl:=Aa h
  refine⟨(k0+1,(),()),⟨by dsimp only;omega,Aj aa⟩,by dsimp only;omega,?_,?_⟩
  ·exact cuw ak
  exact cuw ak
 refine j _ _ _ (by kernel_rfl) ?_
 refine qn ?_
 refine AWP.cond (Bj ?_)
 refine sk (bn (bn (qn (ar rfl (qn ?_)))))
 obtain rfl:=Aa h
 refine⟨(k0+1,(),()),⟨by dsimp only;omega,Aj aa⟩,by dsimp only;omega,?_,?_⟩
 ·exact cuw ak
 exact cuw ak
def Mo (l:List Int) (k0:Nat) (ab:Int) (sv:Unit):Option (Out (Unit) (Bool)):=
 (bif (decide (ab<1))then some (Out.ret false)else (bif (decide (9999<ab))then some (Out.ret false)else (bif (decide (0<((k0:Nat):Int)))then (Dv l (IntKind.i64.wrap (((k0:Nat):Int) - 1))).bind fun bb=>(bif (decide (ab≤bb))then some (Out.ret false)else some (Out.next ()))else some (Out.next ()))))
def O8 (l:List Int):Option (Bool):=
 (An (Mo l) 0 l ()).bind fun o0=>o0.on fun s0=>some (decide (0<((l.length:Nat):Int)))
theorem eZ (l:List Int) {r:Bool} (h:O8 l=some r):Ad Tryz.prog 191 [.sl 1 (l.map Bb)] (·= .bool r):=by
 refine Ad.nle (Ad.intro Tryz.func191 rfl rfl (by show _≤41;simp) ?_)
 unfold O8 at h
 refine nS (sq ?_)
 refine ar rfl (qn (sq (sq ?_)))
 refine ar rfl (qn (bk ?_))
 obtain⟨o0,aa,ae⟩:=Ah h
 clear h
 refine AWP.Bw (ι:=Nat×(Unit)×(Unit)) (fun zz=>[(0,.sl 1 (l.map Bb)),(3,.int .i64 ((zz.1:Nat):Int))]) (fun zz=>[]) (fun zz=>zz.1≤l.length∧An (Mo l) zz.1 ((l).drop zz.1) zz.2.1=some o0) (fun zz=>l.length - zz.1) (0,(),()) ⟨Nat.zero_le _,aa⟩ cu cu (fun x=>⟨rfl,rfl,rfl⟩) ?_
 clear aa
 rintro⟨k0,⟨⟩,⟨⟩⟩ ⟨bg,aa⟩
 dsimp only at bg aa ⊢
 refine sq (sq (rg rfl fun K j=>?_))
 intro hm
 refine j _ _ (qn ?_)
 refine AWP.cond (Am (fun hc=>?_) (fun hc=>?_))
 rotate_left
 ·obtain rfl:=Bg aa (fun hl=>by have:=Ako hc;omega)
  have h:=Bf ae;try dsimp only at h
  have ag:l.length=k0:=by have:=Ako hc;omega
  subst ag
  refine xt (qe (qe (bs (qn (sq (rg rfl fun K j=>?_))))))
  intro hm
  refine j _ _ (qn (rt ?_))
  cases h;exact en Tryz.results191
 have ah:k0<l.length:=by have:=Akp hc;omega
 obtain⟨ab,b0,aj,h,aa⟩:=Bc aa ah
 have aw:=A9 aj
 have ak:=wk (k:=k0) (by omega)
 unfold Mo at h;try dsimp only at h
 refine sk (qn (sq (bk (sq ?_))))
 refine AWP.draw Tryz.mixed (by kernel_rfl) ?_;intro K j
 refine nS ?_
 refine Bo.of (f:=Bb) (l:=l) aw ?_
 refine nS ?_
 revert h;refine gf (fun hc h=>?_) fun hc h=>?_
 rotate_left
 ·refine j _ _ _ (by kernel_rfl) ?_
  refine qn ?_
  refine AWP.cond (Ai ?_)
  refine sq (ar rfl (qn (rt (br (qr (qr ?_))))))
  obtain rfl:=Aa h
  obtain rfl:=Ae aa
  replace h:=Ao ae
  refine br (qr ?_)
  cases h;exact en Tryz.results191
 refine Bo.of (f:=Bb) (l:=l) aw ?_
 refine nS ?_
 revert h;refine gf (fun hc h=>?_) fun hc h=>?_
 rotate_left
 ·refine j _ _ _ (by kernel_rfl) ?_
  refine qn ?_
  refine AWP.cond (Ai ?_)
  refine sq (ar rfl (qn (rt (br (qr (qr ?_))))))
  obtain rfl:=Aa h
  obtain rfl:=Ae aa
  replace h:=Ao ae
  refine br (qr ?_)
  cases h;exact en Tryz.results191
 revert h;refine gt (fun hc h=>?_) fun hc h=>?_
 ·refine Bo.of (f:=Bb) (l:=l) aw ?_
  refine nS ?_
  obtain⟨bb,du,h⟩:=Ah h
  refine Bo.of (f:=Bb) (l:=l) du ?_
  refine nS ?_
  refine j _ _ _ (by kernel_rfl) ?_
  refine qn ?_
  revert h;refine ca rfl (fun hc h=>?_) fun hc h=>?_
  ·refine sq (ar rfl (qn (rt (br (qr (qr ?_))))))
   obtain rfl:=Aa h
   obtain rfl:=Ae aa
   replace h:=Ao ae
   refine br (qr ?_)
   cases h;exact en Tryz.results191
  refine sk (bn (qn (ar rfl (qn ?_))))
  obtain rfl:=Aa h
  refine⟨(k0+1,(),()),⟨by dsimp only;omega,Aj aa⟩,by dsimp only;omega,?_,?_⟩
  ·exact cuw ak
  exact cuw ak
 refine j _ _ _ (by kernel_rfl) ?_
 refine qn ?_
 refine AWP.cond (Bj ?_)
 refine sk (bn (qn (ar rfl (qn ?_))))
 obtain rfl:=Aa h
 refine⟨(k0+1,(),()),⟨by dsimp only;omega,Aj aa⟩,by dsimp only;omega,?_,?_⟩
 ·exact cuw ak
 exact cuw ak
def Uz (n_:Int) (k0:Nat) (ab:Int) (sv:Unit):Option (Out (Unit) (Bool)):=
 (bif (decide (ab=n_))then some (Out.ret true)else some (Out.next ()))
def Rf (l:List Int) (n_:Int):Option (Bool):=
 (An (Uz n_) 0 l ()).bind fun o0=>o0.on fun s0=>some false
theorem gF (l:List Int) (n_:Int) {r:Bool} (h:Rf l n_=some r):Ad Tryz.prog 217 [.sl 1 (l.map Bb),.int .i64 n_] (·= .bool r):=by
 refine Ad.nle (Ad.intro Tryz.func217 rfl rfl (by show _≤18;simp) ?_)
 unfold Rf at h
 refine nS (sq ?_)
 refine ar rfl (qn (sq (sq ?_)))
 refine ar rfl (qn (bk ?_))
 obtain⟨o0,aa,ae⟩:=Ah h
 clear h
 refine AWP.Bw (ι:=Nat×(Unit)×(Unit)) (fun zz=>[(0,.sl 1 (l.map Bb)),(1,.int .i64 n_),(5,.int .i64 ((zz.1:Nat):Int))]) (fun zz=>[]) (fun zz=>zz.1≤l.length∧An (Uz n_) zz.1 ((l).drop zz.1) zz.2.1=some o0) (fun zz=>l.length - zz.1) (0,(),()) ⟨Nat.zero_le _,aa⟩ cu cu (fun x=>⟨rfl,rfl,rfl⟩) ?_
 clear aa
 rintro⟨k0,⟨⟩,⟨⟩⟩ ⟨bg,aa⟩
 dsimp only at bg aa ⊢
 refine sq (sq (rg rfl fun K j=>?_))
 intro hm
 refine j _ _ (qn ?_)
 refine AWP.cond (Am (fun hc=>?_) (fun hc=>?_))
 rotate_left
 ·obtain rfl:=Bg aa (fun hl=>by have:=Ako hc;omega)
  have h:=Bf ae;try dsimp only at h
  have ag:l.length=k0:=by have:=Ako hc;omega
  subst ag
  refine xt (qe (qe (bs (qn (sq (ar rfl (qn (rt ?_))))))))
  cases h;exact en Tryz.results217
 have ah:k0<l.length:=by have:=Akp hc;omega
 obtain⟨ab,b0,aj,h,aa⟩:=Bc aa ah
 have aw:=A9 aj
 have ak:=wk (k:=k0) (by omega)
 unfold Uz at h;try dsimp only at h
 refine sk (qn (sq (bk (sq (rg rfl fun K j=>?_)))))
 refine Bo.of (f:=Bb) (l:=l) aw ?_
 refine nS ?_
 refine j _ _ (qn ?_)
 revert h;refine ca rfl (fun hc h=>?_) fun hc h=>?_
 ·refine sq (ar rfl (qn (rt (br (qr (qr ?_))))))
  obtain rfl:=Aa h
  obtain rfl:=Ae aa
  replace h:=Ao ae
  refine br (qr ?_)
  cases h;exact en Tryz.results217
 refine sk (bn (qn (ar rfl (qn ?_))))
 obtain rfl:=Aa h
 refine⟨(k0+1,(),()),⟨by dsimp only;omega,Aj aa⟩,by dsimp only;omega,?_,?_⟩
 ·exact cuw ak
 exact cuw ak
def K3 (b:A8) (k0:Nat) (ab:Int) (sv:Unit):Option (Out (Unit) (Bool)):=
 (Rf b.Runs ab).bind fun y3=>(bif y3 then some (Out.ret true)else some (Out.next ()))
def P0 (a:A8) (b:A8):Option (Bool):=
 (bif (decide (b.To≤a.From))then some false else(bif (decide (a.To≤b.From))then some false else(An (K3 b) 0 a.Runs ()).bind fun o0=>o0.on fun s0=>some (decide (a.Groomer=b.Groomer))))
theorem cI (a:A8) (b:A8) {r:Bool} (h:P0 a b=some r):Ad Tryz.prog 192 [.agg (Ak a),.agg (Ak b)] (·= .bool r):=by
 refine Ad.nle (Ad.intro Tryz.func192 rfl rfl (by show _≤38;simp) ?_)
 unfold P0 at h
 refine nS (sq ?_)
 refine ar rfl (qn (sq (sq ?_)))
 refine rg rfl fun K j=>?_
 revert h;refine gf (fun hc h=>?_) fun hc h=>?_
 rotate_left
 ·refine j _ _ (qn ?_)
  refine AWP.cond (Ai ?_)
  refine sq (ar rfl (qn (rt (qr ?_))))
  cases h;exact en Tryz.results192
 refine j _ _ (qn ?_)
 revert h;refine ca rfl (fun hc h=>?_) fun hc h=>?_
 ·refine sq (ar rfl (qn (rt (qr ?_))))
  cases h;exact en Tryz.results192
 refine sk (qn (sq (sq (ar rfl (qn (bk ?_))))))
 obtain⟨o0,aa,ae⟩:=Ah h
 clear h
 refine AWP.Bw (ι:=Nat×(Unit)×(Unit)) (fun zz=>[(2,.ptr 0 0),(3,.ptr 1 0),(5,.int .i64 ((zz.1:Nat):Int))]) (fun zz=>[.box [.int .i64 a.Groomer,.int .i64 a.From,.int .i64 a.To,.sl 1 (a.Runs.map Bb)],.box [.int .i64 b.Groomer,.int .i64 b.From,.int .i64 b.To,.sl 1 (b.Runs.map Bb)]]) (fun zz=>zz.1≤a.Runs.length∧An (K3 b) zz.1 ((a.Runs).drop zz.1) zz.2.1=some o0) (fun zz=>a.Runs.length - zz.1) (0,(),()) ⟨Nat.zero_le _,aa⟩ cu cu (fun x=>⟨rfl,rfl,rfl⟩) ?_
 clear aa
 rintro⟨k0,⟨⟩,⟨⟩⟩ ⟨bg,aa⟩
 dsimp only at bg aa ⊢
 refine sq (sq (rg rfl fun K j=>?_))
 intro hm
 refine j _ _ (qn ?_)
 refine AWP.cond (Am (fun hc=>?_) (fun hc=>?_))
 rotate_left
 ·obtain rfl:=Bg aa (fun hl=>by have:=Ako hc;omega)
  have h:=Bf ae;try dsimp only at h
  have ag:a.Runs.length=k0:=by have:=Ako hc;omega
  subst ag
  refine xt (qe (qe (bs (qn (sq (ar rfl (qn (rt ?_))))))))
  cases h;exact en Tryz.results192
 have ah:k0<a.Runs.length:=by have:=Akp hc;omega
 obtain⟨ab,b0,aj,h,aa⟩:=Bc aa ah
 have aw:=A9 aj
 have ak:=wk (k:=k0) (by omega)
 unfold K3 at h;try dsimp only at h
 refine sk (qn (sq (bk (sq ?_))))
 refine AWP.draw Tryz.mixed (by kernel_rfl) ?_;intro K j
 refine nS ?_
 refine Bo.of (f:=Bb) (l:=a.Runs) aw ?_
 refine nS ?_
 obtain⟨y3,bx,h⟩:=Ah h
 refine Cf.pure Tryz.call217 (gF b.Runs ab bx) rfl ?_
 refine nS ?_
 refine j _ _ _ (by kernel_rfl) ?_
 refine qn ?_
 revert h;refine ca rfl (fun hc h=>?_) fun hc h=>?_
 ·refine sq (ar rfl (qn (rt (br (qr (qr ?_))))))
  obtain rfl:=Aa h
  obtain rfl:=Ae aa
  replace h:=Ao ae
  refine br (qr ?_)
  cases h;exact en Tryz.results192
 refine sk (bn (qn (ar rfl (qn ?_))))
 obtain rfl:=Aa h
 refine⟨(k0+1,(),()),⟨by dsimp only;omega,Aj aa⟩,by dsimp only;omega,?_,?_⟩
 ·exact cuw ak
 exact cuw ak
def Er (l:List A8) (ab:A8) (k3:Nat) (_x:Unit) (sv:Unit):Option (Out (Unit) (Out (Unit) (Int))):=
 (Dv l ((k3:Nat):Int)).bind fun ch=>(P0 ch ab).bind fun y6=>(bif y6 then some (Out.ret (Out.ret 15))else some (Out.next ()))
def Ff (l:List A8) (k0:Nat) (ab:A8) (sv:Unit):Option (Out (Unit) (Int)):=
 (bif (decide (ab.Groomer<1))then some (Out.ret 2)else (bif (decide (9999<ab.Groomer))then some (Out.ret 2)else (bif (decide (ab.From<0))then some (Out.ret 2)else (bif (decide (ab.To≤ab.From))then some (Out.ret 2)else (bif (decide (20000000<ab.To))then some (Out.ret 2)else (O8 ab.Runs).bind fun y3=>(bif (!y3)then some (Out.ret 1)else (Ki (Er l ab) k0 ()).bind fun o3=>o3.on fun s3=>some (Out.next ())))))))
def Np (l:List A8):Option (Int):=
 (bif (decide (16<((l.length:Nat):Int)))then some 4 else(An (Ff l) 0 l ()).bind fun o0=>o0.on fun s0=>some 0)
theorem cJ (l:List A8) {r:Int} (h:Np l=some r):Ad Tryz.prog 92 [.sl 4 (l.map Ak)] (·= .int .i64 r):=by
 refine Ad.nle (Ad.intro Tryz.func92 rfl rfl (by show _≤59;simp) ?_)
 unfold Np at h
 refine nS (sq ?_)
 refine ar rfl (qn (sq (sq ?_)))
 refine rg rfl fun K j=>?_
 intro hm
 refine j _ _ (qn ?_)
 revert h;refine ca rfl (fun hc h=>?_) fun hc h=>?_
 ·refine sq (ar rfl (qn (rt (qr ?_))))
  cases h;exact en Tryz.results92
 refine sk (qn (sq (sq (ar rfl (qn (bk ?_))))))
 obtain⟨o0,aa,ae⟩:=Ah h
 clear h
 refine AWP.Bw (ι:=Nat×(Unit)×(Unit)) (fun zz=>[(0,.sl 4 (l.map Ak)),(3,.int .i64 ((zz.1:Nat):Int))]) (fun zz=>[]) (fun zz=>zz.1≤l.length∧An (Ff l) zz.1 ((l).drop zz.1) zz.2.1=some o0) (fun zz=>l.length - zz.1) (0,(),()) ⟨Nat.zero_le _,aa⟩ cu cu (fun x=>⟨rfl,rfl,rfl⟩) ?_
 clear aa
 rintro⟨k0,⟨⟩,⟨⟩⟩ ⟨bg,aa⟩
 dsimp only at bg aa ⊢
 refine sq (sq (rg rfl fun K j=>?_))
 intro hm
 refine j _ _ (qn ?_)
 refine AWP.cond (Am (fun hc=>?_) (fun hc=>?_))
 rotate_left
 ·obtain rfl:=Bg aa (fun hl=>by have:=Ako hc;omega)
  have h:=Bf ae;try dsimp only at h
  have ag:l.length=k0:=by have:=Ako hc;omega
  subst ag
  refine xt (qe (qe (bs (qn (sq (ar rfl (qn (rt ?_))))))))
  cases h;exact en Tryz.results92
 have ah:k0<l.length:=by have:=Akp hc;omega
 obtain⟨ab,b0,aj,h,aa⟩:=Bc aa ah
 have aw:=A9 aj
 have ak:=wk (k:=k0) (by omega)
 unfold Ff at h;try dsimp only at h
 refine sk (qn (sq (bk (sq (rg rfl fun K j=>?_)))))
 refine Bo.of (f:=Ak) (l:=l) aw ?_
 refine nS ?_
 refine j _ _ (qn (sq (sq ?_)))
 refine rg rfl fun K j=>?_
 revert h;refine gf (fun hc h=>?_) fun hc h=>?_
 rotate_left
 ·refine j _ _ (qn ?_)
  refine AWP.cond (Ai ?_)
  refine sq (ar rfl (qn (rt (qr (br (qr (qr ?_)))))))
  obtain rfl:=Aa h
  obtain rfl:=Ae aa
  replace h:=Ao ae
  refine br (qr ?_)
  cases h;exact en Tryz.results92
 revert h;refine gf (fun hc h=>?_) fun hc h=>?_
 rotate_left
 ·refine j _ _ (qn ?_)
  refine AWP.cond (Ai ?_)
  refine sq (ar rfl (qn (rt (qr (br (qr (qr ?_)))))))
  obtain rfl:=Aa h
  obtain rfl:=Ae aa
  replace h:=Ao ae
  refine br (qr ?_)
  cases h;exact en Tryz.results92
 revert h;refine gf (fun hc h=>?_) fun hc h=>?_
 rotate_left
 ·refine j _ _ (qn ?_)
  refine AWP.cond (Ai ?_)
  refine sq (ar rfl (qn (rt (qr (br (qr (qr ?_)))))))
  obtain rfl:=Aa h
  obtain rfl:=Ae aa
  replace h:=Ao ae
  refine br (qr ?_)
  cases h;exact en Tryz.results92
 revert h;refine gf (fun hc h=>?_) fun hc h=>?_
 rotate_left
 ·refine j _ _ (qn ?_)
  refine AWP.cond (Ai ?_)
  refine sq (ar rfl (qn (rt (qr (br (qr (qr ?_)))))))
  obtain rfl:=Aa h
  obtain rfl:=Ae aa
  replace h:=Ao ae
  refine br (qr ?_)
  cases h;exact en Tryz.results92
 refine j _ _ (qn ?_)
 revert h;refine ca rfl (fun hc h=>?_) fun hc h=>?_
 ·refine sq (ar rfl (qn (rt (qr (br (qr (qr ?_)))))))
  obtain rfl:=Aa h
  obtain rfl:=Ae aa
  replace h:=Ao ae
  refine br (qr ?_)
  cases h;exact en Tryz.results92
 refine sk (qn (sq (sq (rg rfl fun K j=>?_))))
 obtain⟨y3,bx,h⟩:=Ah h
 refine Al.pure Tryz.call191 (eZ ab.Runs bx) rfl fun _ hr=>?_
 subst hr
 refine nS ?_
 refine j _ _ (qn ?_)
 revert h;refine ca rfl (fun hc h=>?_) fun hc h=>?_
 ·refine sq (ar rfl (qn (rt (qr (br (qr (qr ?_)))))))
  obtain rfl:=Aa h
  obtain rfl:=Ae aa
  replace h:=Ao ae
  refine br (qr ?_)
  cases h;exact en Tryz.results92
 refine sk (qn (sq (ar rfl (qn (bk ?_)))))
 obtain⟨o3,bw,gw⟩:=Ah h
 clear h
 obtain⟨hn3,bw⟩:=S3 bw
 refine AWP.Bw (ι:=Nat×(Unit)×(Unit)) (fun zz=>[(0,.sl 4 (l.map Ak)),(3,.int .i64 ((k0:Nat):Int)),(4,.ptr 0 0),(5,.int .i64 ((zz.1:Nat):Int))]) (fun zz=>[.box [.int .i64 ab.Groomer,.int .i64 ab.From,.int .i64 ab.To,.sl 1 (ab.Runs.map Bb)]]) (fun zz=>zz.1≤k0∧An (Er l ab) zz.1 ((List.replicate k0 ()).drop zz.1) zz.2.1=some o3) (fun zz=>k0 - zz.1) (0,(),()) ⟨Nat.zero_le _,bw⟩ cu cu (fun x=>⟨rfl,rfl,rfl⟩) ?_
 clear bw
 rintro⟨k3,⟨⟩,⟨⟩⟩ ⟨nw,bw⟩
 dsimp only at nw bw ⊢
 refine sq (sq (ar rfl (qn ?_)))
 refine AWP.cond (Am (fun hc=>?_) (fun hc=>?_))
 rotate_left
 ·obtain rfl:=Bg bw (fun hl=>by rw[Akx]at hl;have:=Ako hc;omega)
  have h:=Bf gw;try dsimp only at h
  have ag:k0=k3:=by have:=Ako hc;omega
  subst ag
  refine xt (qe (qe (bs (bn (qn (ar rfl (qn ?_)))))))
  obtain rfl:=Aa h
  refine⟨(k0+1,(),()),⟨by dsimp only;omega,Aj aa⟩,by dsimp only;omega,?_,?_⟩
  ·exact cuw ak
  exact cuw ak
 have fe:k3<k0:=by have:=Akp hc;omega
 obtain⟨_,b3,_,h,bw⟩:=Bc bw (by rw[Akx];exact fe)
 have iz:=wk (k:=k3) (by omega)
 unfold Er at h;try dsimp only at h
 refine sk (qn (sq (bk (sq ?_))))
 refine AWP.draw Tryz.mixed (by kernel_rfl) ?_;intro K j
 refine nS ?_
 obtain⟨ch,gn,h⟩:=Ah h
 refine Bo.of (f:=Ak) (l:=l) gn ?_
 refine nS ?_
 obtain⟨y6,ey,h⟩:=Ah h
 refine Cf.pure Tryz.call192 (cI ch ab ey) rfl ?_
 refine nS ?_
 refine j _ _ _ (by kernel_rfl) ?_
 refine qn ?_
 revert h;refine ca rfl (fun hc h=>?_) fun hc h=>?_
 ·refine sq (ar rfl (qn (rt (br (qr (qr ?_))))))
  obtain rfl:=Aa h
  obtain rfl:=Ae bw
  replace h:=Ao gw
  refine br (br (qr (qr ?_)))
  obtain rfl:=Aa h
  obtain rfl:=Ae aa
  replace h:=Ao ae
  refine br (qr ?_)
  cases h;exact en Tryz.results92
 refine sk (bn (qn (ar rfl (qn ?_))))
 obtain rfl:=Aa h
 refine⟨(k3+1,(),()),⟨by dsimp only;omega,Aj bw⟩,by dsimp only;omega,?_,?_⟩
 ·exact cuw iz
 exact cuw iz
def K5 (n_:Int) (lo:Int) (hi:Int):Option (Bool):=
 (bif (decide (lo≤n_))then some (decide (n_≤hi))else some false)
theorem Hf (n_:Int) (lo:Int) (hi:Int) {r:Bool} (h:K5 n_ lo hi=some r):Ad Tryz.prog 193 [.int .i64 n_,.int .i64 lo,.int .i64 hi] (·= .bool r):=by
 refine Ad.nle (Ad.intro Tryz.func193 rfl rfl (by show _≤15;simp) ?_)
 unfold K5 at h
 refine nS (sq ?_)
 refine ar rfl (qn (sq ?_))
 refine rg rfl fun K j=>?_
 revert h;refine gt (fun hc h=>?_) fun hc h=>?_
 ·refine j _ _ (qn (rt ?_))
  cases h;exact en Tryz.results193
 refine j _ _ (qn (rt ?_))
 cases h;exact en Tryz.results193
def K4 (id_:Int) (k0:Nat) (ab:Cb) (sv:Unit):Option (Out (Unit) (Int)):=
 (bif (decide (ab.ID=id_))then some (Out.ret ((k0:Nat):Int))else some (Out.next ()))
def P1 (l:List Cb) (id_:Int):Option (Int):=
 (An (K4 id_) 0 l ()).bind fun o0=>o0.on fun s0=>some (-1)
theorem cK (l:List Cb) (id_:Int) {r:Int} (h:P1 l id_=some r):Ad Tryz.prog 194 [.sl 8 (l.map Ax),.int .i64 id_] (·= .int .i64 r):=by
 refine Ad.nle (Ad.intro Tryz.func194 rfl rfl (by show _≤20;simp) ?_)
 unfold P1 at h
 refine nS (sq ?_)
 refine ar rfl (qn (sq (sq ?_)))
 refine ar rfl (qn (bk ?_))
 obtain⟨o0,aa,ae⟩:=Ah h
 clear h
 refine AWP.Bw (ι:=Nat×(Unit)×(Unit)) (fun zz=>[(0,.sl 8 (l.map Ax)),(1,.int .i64 id_),(5,.int .i64 ((zz.1:Nat):Int))]) (fun zz=>[]) (fun zz=>zz.1≤l.length∧An (K4 id_) zz.1 ((l).drop zz.1) zz.2.1=some o0) (fun zz=>l.length - zz.1) (0,(),()) ⟨Nat.zero_le _,aa⟩ cu cu (fun x=>⟨rfl,rfl,rfl⟩) ?_
 clear aa
 rintro⟨k0,⟨⟩,⟨⟩⟩ ⟨bg,aa⟩
 dsimp only at bg aa ⊢
 refine sq (sq (rg rfl fun K j=>?_))
 intro hm
 refine j _ _ (qn ?_)
 refine AWP.cond (Am (fun hc=>?_) (fun hc=>?_))
 rotate_left
 ·obtain rfl:=Bg aa (fun hl=>by have:=Ako hc;omega)
  have h:=Bf ae;try dsimp only at h
  have ag:l.length=k0:=by have:=Ako hc;omega
  subst ag
  refine xt (qe (qe (bs (qn (sq (ar rfl (qn (rt ?_))))))))
  cases h;exact en Tryz.results194
 have ah:k0<l.length:=by have:=Akp hc;omega
 obtain⟨ab,b0,aj,h,aa⟩:=Bc aa ah
 have aw:=A9 aj
 have ak:=wk (k:=k0) (by omega)
 unfold K4 at h;try dsimp only at h
 refine sk (qn (sq (bk (sq (rg rfl fun K j=>?_)))))
 refine Bo.of (f:=Ax) (l:=l) aw ?_
 refine nS ?_
 refine j _ _ (qn ?_)
 revert h;refine ca rfl (fun hc h=>?_) fun hc h=>?_
 ·refine sq (ar rfl (qn (rt (br (qr (qr ?_))))))
  obtain rfl:=Aa h
  obtain rfl:=Ae aa
  replace h:=Ao ae
  refine br (qr ?_)
  cases h;exact en Tryz.results194
 refine sk (bn (qn (ar rfl (qn ?_))))
 obtain rfl:=Aa h
 refine⟨(k0+1,(),()),⟨by dsimp only;omega,Aj aa⟩,by dsimp only;omega,?_,?_⟩
 ·exact cuw ak
 exact cuw ak
def K6 (l:List Cb) (k0:Nat) (ab:Cb) (sv:Unit):Option (Out (Unit) (Int)):=
 (K5 ab.ID 1 9999).bind fun y3=>(bif (!y3)then some (Out.ret 2)else (K5 ab.Node 1 9999).bind fun y4=>(bif (!y4)then some (Out.ret 2)else (K5 ab.Fuel 0 1000000).bind fun y5=>(bif (!y5)then some (Out.ret 2)else (K5 ab.State 0 2).bind fun y6=>(bif (!y6)then some (Out.ret 2)else (K5 ab.Until 0 20000000).bind fun y7=>(bif (!y7)then some (Out.ret 2)else (K5 ab.To 0 9999).bind fun y8=>(bif (!y8)then some (Out.ret 2)else (K5 ab.Run 0 9999).bind fun y9=>(bif (!y9)then some (Out.ret 2)else okB (decide (0≤((k0:Nat):Int)∧((k0:Nat):Int)≤((l.length:Nat):Int))) ((P1 (l.take k0) ab.ID).bind fun cf=>(bif (decide (0≤cf))then some (Out.ret 7)else (bif ((decide (ab.To≠0)) !=(decide (ab.State=1)))then some (Out.ret 10)else (bif ((decide (ab.Run≠0)) !=(decide (ab.State=2)))then some (Out.ret 10)else some (Out.next ()))))))))))))
def Nq (l:List Cb):Option (Int):=
 (bif (decide (16<((l.length:Nat):Int)))then some 4 else(An (K6 l) 0 l ()).bind fun o0=>o0.on fun s0=>some 0)
theorem cL (l:List Cb) {r:Int} (h:Nq l=some r):Ad Tryz.prog 93 [.sl 8 (l.map Ax)] (·= .int .i64 r):=by
 refine Ad.nle (Ad.intro Tryz.func93 rfl rfl (by show _≤81;simp) ?_)
 unfold Nq at h
 refine nS (sq ?_)
 refine ar rfl (qn (sq (sq ?_)))
 refine rg rfl fun K j=>?_
 intro hm
 refine j _ _ (qn ?_)
 revert h;refine ca rfl (fun hc h=>?_) fun hc h=>?_
 ·refine sq (ar rfl (qn (rt (qr ?_))))
  cases h;exact en Tryz.results93
 refine sk (qn (sq (sq (ar rfl (qn (bk ?_))))))
 obtain⟨o0,aa,ae⟩:=Ah h
 clear h
 refine AWP.Bw (ι:=Nat×(Unit)×(Unit)) (fun zz=>[(0,.sl 8 (l.map Ax)),(3,.int .i64 ((zz.1:Nat):Int))]) (fun zz=>[]) (fun zz=>zz.1≤l.length∧An (K6 l) zz.1 ((l).drop zz.1) zz.2.1=some o0) (fun zz=>l.length - zz.1) (0,(),()) ⟨Nat.zero_le _,aa⟩ cu cu (fun x=>⟨rfl,rfl,rfl⟩) ?_
 clear aa
 rintro⟨k0,⟨⟩,⟨⟩⟩ ⟨bg,aa⟩
 dsimp only at bg aa ⊢
 refine sq (sq (rg rfl fun K j=>?_))
 intro hm
 refine j _ _ (qn ?_)
 refine AWP.cond (Am (fun hc=>?_) (fun hc=>?_))
 rotate_left
 ·obtain rfl:=Bg aa (fun hl=>by have:=Ako hc;omega)
  have h:=Bf ae;try dsimp only at h
  have ag:l.length=k0:=by have:=Ako hc;omega
  subst ag
  refine xt (qe (qe (bs (qn (sq (ar rfl (qn (rt ?_))))))))
  cases h;exact en Tryz.results93
 have ah:k0<l.length:=by have:=Akp hc;omega
 obtain⟨ab,b0,aj,h,aa⟩:=Bc aa ah
 have aw:=A9 aj
 have ak:=wk (k:=k0) (by omega)
 unfold K6 at h;try dsimp only at h
 refine sk (qn (sq (bk (sq (rg rfl fun K j=>?_)))))
 refine Bo.of (f:=Ax) (l:=l) aw ?_
 refine nS ?_
 refine j _ _ (qn (sq (sq ?_)))
 refine rg rfl fun K j=>?_
 obtain⟨y3,bx,h⟩:=Ah h
 refine Al.pure Tryz.call193 (Hf ab.ID 1 9999 bx) rfl fun _ hr=>?_
 subst hr
 refine nS ?_
 revert h;refine gf (fun hc h=>?_) fun hc h=>?_
 rotate_left
 ·refine j _ _ (qn ?_)
  refine AWP.cond (Ai ?_)
  refine sq (ar rfl (qn (rt (qr (br (qr (qr ?_)))))))
  obtain rfl:=Aa h
  obtain rfl:=Ae aa
  replace h:=Ao ae
  refine br (qr ?_)
  cases h;exact en Tryz.results93
 obtain⟨y4,cn,h⟩:=Ah h
 refine Al.pure Tryz.call193 (Hf ab.Node 1 9999 cn) rfl fun _ hr=>?_
 subst hr
 refine nS ?_
 revert h;refine gf (fun hc h=>?_) fun hc h=>?_
 rotate_left
 ·refine j _ _ (qn ?_)
  refine AWP.cond (Ai ?_)
  refine sq (ar rfl (qn (rt (qr (br (qr (qr ?_)))))))
  obtain rfl:=Aa h
  obtain rfl:=Ae aa
  replace h:=Ao ae
  refine br (qr ?_)
  cases h;exact en Tryz.results93
 obtain⟨y5,db,h⟩:=Ah h
 refine Al.pure Tryz.call193 (Hf ab.Fuel 0 1000000 db) rfl fun _ hr=>?_
 subst hr
 refine nS ?_
 revert h;refine gf (fun hc h=>?_) fun hc h=>?_
 rotate_left
 ·refine j _ _ (qn ?_)
  refine AWP.cond (Ai ?_)
  refine sq (ar rfl (qn (rt (qr (br (qr (qr ?_)))))))
  obtain rfl:=Aa h
  obtain rfl:=Ae aa
  replace h:=Ao ae
  refine br (qr ?_)
  cases h;exact en Tryz.results93
 obtain⟨y6,ey,h⟩:=Ah h
 refine Al.pure Tryz.call193 (Hf ab.State 0 2 ey) rfl fun _ hr=>?_
 subst hr
 refine nS ?_
 revert h;refine gf (fun hc h=>?_) fun hc h=>?_
 rotate_left
 ·refine j _ _ (qn ?_)
  refine AWP.cond (Ai ?_)
  refine sq (ar rfl (qn (rt (qr (br (qr (qr ?_)))))))
  obtain rfl:=Aa h
  obtain rfl:=Ae aa
  replace h:=Ao ae
  refine br (qr ?_)
  cases h;exact en Tryz.results93
 obtain⟨y7,eo,h⟩:=Ah h
 refine Al.pure Tryz.call193 (Hf ab.Until 0 20000000 eo) rfl fun _ hr=>?_
 subst hr
 refine nS ?_
 revert h;refine gf (fun hc h=>?_) fun hc h=>?_
 rotate_left
 ·refine j _ _ (qn ?_)
  refine AWP.cond (Ai ?_)
  refine sq (ar rfl (qn (rt (qr (br (qr (qr ?_)))))))
  obtain rfl:=Aa h
  obtain rfl:=Ae aa
  replace h:=Ao ae
  refine br (qr ?_)
  cases h;exact en Tryz.results93
 obtain⟨y8,fp,h⟩:=Ah h
 refine Al.pure Tryz.call193 (Hf ab.To 0 9999 fp) rfl fun _ hr=>?_
 subst hr
 refine nS ?_
 revert h;refine gf (fun hc h=>?_) fun hc h=>?_
 rotate_left
 ·refine j _ _ (qn ?_)
  refine AWP.cond (Ai ?_)
  refine sq (ar rfl (qn (rt (qr (br (qr (qr ?_)))))))
  obtain rfl:=Aa h
  obtain rfl:=Ae aa
  replace h:=Ao ae
  refine br (qr ?_)
  cases h;exact en Tryz.results93
 obtain⟨y9,ic,h⟩:=Ah h
 refine Al.pure Tryz.call193 (Hf ab.Run 0 9999 ic) rfl fun _ hr=>?_
 subst hr
 refine nS ?_
 refine j _ _ (qn ?_)
 revert h;refine ca rfl (fun hc h=>?_) fun hc h=>?_
 ·refine sq (ar rfl (qn (rt (qr (br (qr (qr ?_)))))))
  obtain rfl:=Aa h
  obtain rfl:=Ae aa
  replace h:=Ao ae
  refine br (qr ?_)
  cases h;exact en Tryz.results93
 refine sk (qn (sq (sq ?_)))
 refine AWP.draw Tryz.mixed (by kernel_rfl) ?_;intro K j
 refine nS ?_
 obtain⟨hk,h⟩:=Fz h
 intro hm
 (repeat(refine⟨by omega,?_⟩))
 obtain⟨cf,dt,h⟩:=Ah h
 refine Cf.pure Tryz.call194 (cK (l.take k0) ab.ID dt) rfl ?_
 refine nS ?_
 refine j _ _ _ (by kernel_rfl) ?_
 refine qn ?_
 revert h;refine ca rfl (fun hc h=>?_) fun hc h=>?_
 ·refine sq (ar rfl (qn (rt (qr (br (qr (qr ?_)))))))
  obtain rfl:=Aa h
  obtain rfl:=Ae aa
  replace h:=Ao ae
  refine br (qr ?_)
  cases h;exact en Tryz.results93
 refine sk (qn (sq (rg rfl fun K j=>?_)))
 revert h;refine gf (fun hc h=>?_) fun hc h=>?_
 ·refine j _ _ (qn ?_)
  revert h;refine ca rfl (fun hc h=>?_) fun hc h=>?_
  ·refine sq (ar rfl (qn (rt (br (qr (qr ?_))))))
   obtain rfl:=Aa h
   obtain rfl:=Ae aa
   replace h:=Ao ae
   refine br (qr ?_)
   cases h;exact en Tryz.results93
  refine sk (bn (qn (ar rfl (qn ?_))))
  obtain rfl:=Aa h
  refine⟨(k0+1,(),()),⟨by dsimp only;omega,Aj aa⟩,by dsimp only;omega,?_,?_⟩
  ·exact cuw ak
  exact cuw ak
 refine j _ _ (qn ?_)
 refine AWP.cond (Ai ?_)
 refine sq (ar rfl (qn (rt (br (qr (qr ?_))))))
 obtain rfl:=Aa h
 obtain rfl:=Ae aa
 replace h:=Ao ae
 refine br (qr ?_)
 cases h;exact en Tryz.results93
def Gc (y1:Int) (y2:Int) (y3:Int) (y4:Int) (y5:Int) (y6:Int) (y7:Int) (y8:Int) (y9:Int) (k9:Nat) (_x:Unit) (sv:Unit):Option (Out (Unit) (Int)):=
 (Dv [y1,y2,y3,y4,y5,y6,y7,y8,y9] ((k9:Nat):Int)).bind fun jn=>(bif (decide (jn≠0))then some (Out.ret jn)else some (Out.next ()))
def Kt (f_:Af):Option (Int):=
 (I4 f_.Map).bind fun y1=>(Ix f_.Closures).bind fun y2=>(Iw f_.Patrol).bind fun y3=>(Pz f_.Surfaces).bind fun y4=>(No f_.Slides).bind fun y5=>(Iz f_.Bulletin).bind fun y6=>(Iy f_.Missions).bind fun y7=>(Np f_.Winches).bind fun y8=>(Nq f_.Groomers).bind fun y9=>(Ki (Gc y1 y2 y3 y4 y5 y6 y7 y8 y9) 9 ()).bind fun o9=>o9.on fun s9=>some 0
theorem bU (f_:Af) {r:Int} (h:Kt f_=some r):Ad Tryz.prog 41 [.agg (Ce f_)] (·= .int .i64 r):=by
 refine Ad.nle (Ad.intro Tryz.func41 rfl rfl (by show _≤48;simp) ?_)
 unfold Kt at h
 refine nS (sq ?_)
 refine ar rfl (qn (sq ?_))
 refine AWP.draw Tryz.mixed (by kernel_rfl) ?_;intro K j
 refine nS ?_
 obtain⟨y1,bp,h⟩:=Ah h
 refine Cf.pure Tryz.call85 (cR f_.Map bp) rfl ?_
 refine nS ?_
 obtain⟨y2,dn,h⟩:=Ah h
 refine Cf.pure Tryz.call86 (bZ f_.Closures dn) rfl ?_
 refine nS ?_
 obtain⟨y3,bx,h⟩:=Ah h
 refine Cf.pure Tryz.call87 (bX f_.Patrol bx) rfl ?_
 refine nS ?_
 obtain⟨y4,cn,h⟩:=Ah h
 refine Cf.pure Tryz.call88 (cH f_.Surfaces cn) rfl ?_
 refine nS ?_
 obtain⟨y5,db,h⟩:=Ah h
 refine Cf.pure Tryz.call89 (cE f_.Slides db) rfl ?_
 refine nS ?_
 obtain⟨y6,ey,h⟩:=Ah h
 refine Cf.pure Tryz.call90 (cG f_.Bulletin ey) rfl ?_
 refine nS ?_
 obtain⟨y7,eo,h⟩:=Ah h
 refine Cf.pure Tryz.call91 (cD f_.Missions eo) rfl ?_
 refine nS ?_
 obtain⟨y8,fp,h⟩:=Ah h
 refine Cf.pure Tryz.call92 (cJ f_.Winches fp) rfl ?_
 refine nS ?_
 obtain⟨y9,ic,h⟩:=Ah h
 refine Cf.pure Tryz.call93 (cL f_.Groomers ic) rfl ?_
 refine nS ?_
 refine j _ _ _ (by kernel_rfl) ?_
 refine qn (sq (sq (ar rfl (qn (bk ?_)))))
 obtain⟨o9,jg,hO9⟩:=Ah h
 clear h
 obtain⟨hn9,jg⟩:=S3 jg
 refine AWP.Bw (ι:=Nat×(Unit)×(Unit)) (fun zz=>[(3,.own 10 0 0 9),(4,.int .i64 ((zz.1:Nat):Int))]) (fun zz=>[.gone,.gone,.gone,.gone,.gone,.gone,.gone,.gone,.gone,.gone,.row 0 1 ([y1,y2,y3,y4,y5,y6,y7,y8,y9].map Bb)]) (fun zz=>zz.1≤9∧An (Gc y1 y2 y3 y4 y5 y6 y7 y8 y9) zz.1 ((List.replicate 9 ()).drop zz.1) zz.2.1=some o9) (fun zz=>9 - zz.1) (0,(),()) ⟨Nat.zero_le _,jg⟩ cu cu (fun x=>⟨rfl,rfl,rfl⟩) ?_
 clear jg
 rintro⟨k9,⟨⟩,⟨⟩⟩ ⟨hk9,jg⟩
 dsimp only at hk9 jg ⊢
 refine sq (sq (ar rfl (qn ?_)))
 refine AWP.cond (Am (fun hc=>?_) (fun hc=>?_))
 rotate_left
 ·obtain rfl:=Bg jg (fun hl=>by rw[Akx]at hl;have:=Ako hc;omega)
  have h:=Bf hO9;try dsimp only at h
  have ag:9=k9:=by have:=Ako hc;omega
  subst ag
  refine xt (qe (qe (bs (qn (sq (ar rfl (qn (rt ?_))))))))
  cases h;exact en Tryz.results41
 have vw:k9<9:=by have:=Akp hc;omega
 obtain⟨_,b9,_,h,jg⟩:=Bc jg (by rw[Akx];exact vw)
 have vk:=wk (k:=k9) (by omega)
 unfold Gc at h;try dsimp only at h
 refine sk (qn (sq (bk (sq (rg rfl fun K j=>?_)))))
 obtain⟨jn,mq,h⟩:=Ah h
 refine Lb mq (by first | rfl | exact(Cy _).symm | (simp only[Akw,List.length_cons,List.length_nil,List.length_set,Akx]<;>omega)) ?_
 refine nS ?_
 refine Dm.ofNat (f:=Bb) (l:=[y1,y2,y3,y4,y5,y6,y7,y8,y9]) (n:=k9) mq ?_
 refine nS ?_
 refine j _ _ (qn ?_)
 revert h;refine ca rfl (fun hc h=>?_) fun hc h=>?_
 ·refine sq ?_
  refine rg rfl fun K j=>?_
  refine Lb mq (by first | rfl | exact(Cy _).symm | (simp only[Akw,List.length_cons,List.length_nil,List.length_set,Akx]<;>omega)) ?_
  refine nS ?_
  refine Dm.ofNat (f:=Bb) (l:=[y1,y2,y3,y4,y5,y6,y7,y8,y9]) (n:=k9) mq ?_
  refine nS ?_
  refine j _ _ (qn (rt (br (qr (qr ?_)))))
  obtain rfl:=Aa h
  obtain rfl:=Ae jg
  replace h:=Ao hO9
  refine br (qr ?_)
  cases h;exact en Tryz.results41
 refine sk (bn (qn (ar rfl (qn ?_))))
 obtain rfl:=Aa h
 refine⟨(k9+1,(),()),⟨by dsimp only;omega,Aj jg⟩,by dsimp only;omega,?_,?_⟩
 ·exact cuw vk
 exact cuw vk
def Tn (id_:Int) (k0:Nat) (ab:Co) (sv:Unit):Option (Out (Unit) (Co×Bool)):=
 (bif (decide (ab.ID=id_))then some (Out.ret (ab,true))else some (Out.next ()))
def U5 (m:Bd) (id_:Int):Option (Co×Bool):=
 (An (Tn id_) 0 m.Lifts ()).bind fun o0=>o0.on fun s0=>some ((Co.mk 0 0 0 0 0 0 0 0),false)
theorem V1 (m:Bd) (id_:Int) {r:Co×Bool} (h:U5 m id_=some r):Ad Tryz.prog 42 [.agg (Ct m),.int .i64 id_] (·= .tuple [.agg (A6 r.1),.bool r.2]):=by
 refine Ad.nle (Ad.intro Tryz.func42 rfl rfl (by show _≤28;simp) ?_)
 unfold U5 at h
 refine nS (sq ?_)
 refine ar rfl (qn (sq (sq ?_)))
 refine ar rfl (qn (bk ?_))
 obtain⟨o0,aa,ae⟩:=Ah h
 clear h
 refine AWP.Bw (ι:=Nat×(Unit)×(Unit)) (fun zz=>[(1,.int .i64 id_),(2,.ptr 0 0),(4,.ptr 1 0),(6,.int .i64 ((zz.1:Nat):Int))]) (fun zz=>[.box [.sl 2 (m.Nodes.map A5),.sl 8 (m.Lifts.map A6),.sl 7 (m.Runs.map Ba),.sl 1 (m.Bases.map Bb)],.box [.int .i64 0,.int .i64 0,.int .i64 0,.int .i64 0,.int .i64 0,.int .i64 0,.int .i64 0,.int .i64 0]]) (fun zz=>zz.1≤m.Lifts.length∧An (Tn id_) zz.1 ((m.Lifts).drop zz.1) zz.2.1=some o0) (fun zz=>m.Lifts.length - zz.1) (0,(),()) ⟨Nat.zero_le _,aa⟩ cu cu (fun x=>⟨rfl,rfl,rfl⟩) ?_
 clear aa
 rintro⟨k0,⟨⟩,⟨⟩⟩ ⟨bg,aa⟩
 dsimp only at bg aa ⊢
 refine sq (sq (rg rfl fun K j=>?_))
 intro hm
 refine j _ _ (qn ?_)
 refine AWP.cond (Am (fun hc=>?_) (fun hc=>?_))
 rotate_left
 ·obtain rfl:=Bg aa (fun hl=>by have:=Ako hc;omega)
  have h:=Bf ae;try dsimp only at h
  have ag:m.Lifts.length=k0:=by have:=Ako hc;omega
  subst ag
  refine xt (qe (qe (bs (qn (sq (ar rfl (qn (rt ?_))))))))
  cases h;exact en Tryz.results42
 have ah:k0<m.Lifts.length:=by have:=Akp hc;omega
 obtain⟨ab,b0,aj,h,aa⟩:=Bc aa ah
 have aw:=A9 aj
 have ak:=wk (k:=k0) (by omega)
 unfold Tn at h;try dsimp only at h
 refine sk (qn (sq (bk (sq (rg rfl fun K j=>?_)))))
 refine Bo.of (f:=A6) (l:=m.Lifts) aw ?_
 refine nS ?_
 refine j _ _ (qn ?_)
 revert h;refine ca rfl (fun hc h=>?_) fun hc h=>?_
 ·refine sq ?_
  refine rg rfl fun K j=>?_
  refine Bo.of (f:=A6) (l:=m.Lifts) aw ?_
  refine nS ?_
  refine j _ _ (qn (rt (br (qr (qr ?_)))))
  obtain rfl:=Aa h
  obtain rfl:=Ae aa
  replace h:=Ao ae
  refine br (qr ?_)
  cases h;exact en Tryz.results42
 refine sk (bn (qn (ar rfl (qn ?_))))
 obtain rfl:=Aa h
 refine⟨(k0+1,(),()),⟨by dsimp only;omega,Aj aa⟩,by dsimp only;omega,?_,?_⟩
 ·exact cuw ak
 exact cuw ak
def Ui (n_:Int) (lo:Int) (hi:Int):Option (Bool):=
 (bif (decide (lo≤n_))then some (decide (n_≤hi))else some false)
theorem Tl (n_:Int) (lo:Int) (hi:Int) {r:Bool} (h:Ui n_ lo hi=some r):Ad Tryz.prog 94 [.int .i64 n_,.int .i64 lo,.int .i64 hi] (·= .bool r):=by
 refine Ad.nle (Ad.intro Tryz.func94 rfl rfl (by show _≤15;simp) ?_)
 unfold Ui at h
 refine nS (sq ?_)
 refine ar rfl (qn (sq ?_))
 refine rg rfl fun K j=>?_
 revert h;refine gt (fun hc h=>?_) fun hc h=>?_
 ·refine j _ _ (qn (rt ?_))
  cases h;exact en Tryz.results94
 refine j _ _ (qn (rt ?_))
 cases h;exact en Tryz.results94
def K7 (p:F3):Option (Bool):=
 (Ui p.Natural 0 20000).bind fun y1=>(bif y1 then(Ui p.Machine 0 20000).bind fun y2=>(bif y2 then(Ui p.Density 50 900).bind fun y3=>some y3 else some false)else some false)
theorem cN (p:F3) {r:Bool} (h:K7 p=some r):Ad Tryz.prog 43 [.agg (Pe p)] (·= .bool r):=by
 refine Ad.nle (Ad.intro Tryz.func43 rfl rfl (by show _≤16;simp) ?_)
 unfold K7 at h
 refine nS (sq ?_)
 refine ar rfl (qn (sq ?_))
 refine rg rfl fun K j=>?_
 obtain⟨y1,bp,h⟩:=Ah h
 refine Al.pure Tryz.call94 (Tl p.Natural 0 20000 bp) rfl fun _ hr=>?_
 subst hr
 refine nS ?_
 revert h;refine gt (fun hc h=>?_) fun hc h=>?_
 ·obtain⟨y2,dn,h⟩:=Ah h
  refine Al.pure Tryz.call94 (Tl p.Machine 0 20000 dn) rfl fun _ hr=>?_
  subst hr
  refine nS ?_
  revert h;refine gt (fun hc h=>?_) fun hc h=>?_
  ·obtain⟨y3,bx,h⟩:=Ah h
   refine Al.pure Tryz.call94 (Tl p.Density 50 900 bx) rfl fun _ hr=>?_
   subst hr
   refine nS ?_
   refine j _ _ (qn (rt ?_))
   cases h;exact en Tryz.results43
  refine j _ _ (qn (rt ?_))
  cases h;exact en Tryz.results43
 refine j _ _ (qn (rt ?_))
 cases h;exact en Tryz.results43
def U4 (id_:Int) (k0:Nat) (ab:Cq) (sv:Unit):Option (Out (Unit) (Cq×Bool)):=
 (bif (decide (ab.ID=id_))then some (Out.ret (ab,true))else some (Out.next ()))
def Lt (m:Bd) (id_:Int):Option (Cq×Bool):=
 (An (U4 id_) 0 m.Runs ()).bind fun o0=>o0.on fun s0=>some ((Cq.mk 0 0 0 0 0 0 0),false)
theorem Wz (m:Bd) (id_:Int) {r:Cq×Bool} (h:Lt m id_=some r):Ad Tryz.prog 32 [.agg (Ct m),.int .i64 id_] (·= .tuple [.agg (Ba r.1),.bool r.2]):=by
 refine Ad.nle (Ad.intro Tryz.func32 rfl rfl (by show _≤28;simp) ?_)
 unfold Lt at h
 refine nS (sq ?_)
 refine ar rfl (qn (sq (sq ?_)))
 refine ar rfl (qn (bk ?_))
 obtain⟨o0,aa,ae⟩:=Ah h
 clear h
 refine AWP.Bw (ι:=Nat×(Unit)×(Unit)) (fun zz=>[(1,.int .i64 id_),(2,.ptr 0 0),(4,.ptr 1 0),(6,.int .i64 ((zz.1:Nat):Int))]) (fun zz=>[.box [.sl 2 (m.Nodes.map A5),.sl 8 (m.Lifts.map A6),.sl 7 (m.Runs.map Ba),.sl 1 (m.Bases.map Bb)],.box [.int .i64 0,.int .i64 0,.int .i64 0,.int .i64 0,.int .i64 0,.int .i64 0,.int .i64 0]]) (fun zz=>zz.1≤m.Runs.length∧An (U4 id_) zz.1 ((m.Runs).drop zz.1) zz.2.1=some o0) (fun zz=>m.Runs.length - zz.1) (0,(),()) ⟨Nat.zero_le _,aa⟩ cu cu (fun x=>⟨rfl,rfl,rfl⟩) ?_
 clear aa
 rintro⟨k0,⟨⟩,⟨⟩⟩ ⟨bg,aa⟩
 dsimp only at bg aa ⊢
 refine sq (sq (rg rfl fun K j=>?_))
 intro hm
 refine j _ _ (qn ?_)
 refine AWP.cond (Am (fun hc=>?_) (fun hc=>?_))
 rotate_left
 ·obtain rfl:=Bg aa (fun hl=>by have:=Ako hc;omega)
  have h:=Bf ae;try dsimp only at h
  have ag:m.Runs.length=k0:=by have:=Ako hc;omega
  subst ag
  refine xt (qe (qe (bs (qn (sq (ar rfl (qn (rt ?_))))))))
  cases h;exact en Tryz.results32
 have ah:k0<m.Runs.length:=by have:=Akp hc;omega
 obtain⟨ab,b0,aj,h,aa⟩:=Bc aa ah
 have aw:=A9 aj
 have ak:=wk (k:=k0) (by omega)
 unfold U4 at h;try dsimp only at h
 refine sk (qn (sq (bk (sq (rg rfl fun K j=>?_)))))
 refine Bo.of (f:=Ba) (l:=m.Runs) aw ?_
 refine nS ?_
 refine j _ _ (qn ?_)
 revert h;refine ca rfl (fun hc h=>?_) fun hc h=>?_
 ·refine sq ?_
  refine rg rfl fun K j=>?_
  refine Bo.of (f:=Ba) (l:=m.Runs) aw ?_
  refine nS ?_
  refine j _ _ (qn (rt (br (qr (qr ?_)))))
  obtain rfl:=Aa h
  obtain rfl:=Ae aa
  replace h:=Ao ae
  refine br (qr ?_)
  cases h;exact en Tryz.results32
 refine sk (bn (qn (ar rfl (qn ?_))))
 obtain rfl:=Aa h
 refine⟨(k0+1,(),()),⟨by dsimp only;omega,Aj aa⟩,by dsimp only;omega,?_,?_⟩
 ·exact cuw ak
 exact cuw ak
def Kx (f_:Af) (k3:Nat) (ch:A4) (sv:Unit):Option (Out (Unit) (Int)):=
 (bif (decide (0<((k3:Nat):Int)))then (Dv f_.Status (IntKind.i64.wrap (((k3:Nat):Int) - 1))).bind fun cx=>(bif (decide (ch.Run≤cx.Run))then some (Out.ret 11)else (Lt f_.Map ch.Run).bind fun y7=>(bif (!y7.2)then some (Out.ret 8)else (bif (decide (ch.Since<0))then some (Out.ret 2)else (bif (decide (20000000<ch.Since))then some (Out.ret 2)else some (Out.next ())))))else (Lt f_.Map ch.Run).bind fun y8=>(bif (!y8.2)then some (Out.ret 8)else (bif (decide (ch.Since<0))then some (Out.ret 2)else (bif (decide (20000000<ch.Since))then some (Out.ret 2)else some (Out.next ())))))
def Ku (f_:Af):Option (Int):=
 (An (Kx f_) 0 f_.Status ()).bind fun o3=>o3.on fun s3=>(bif (decide (f_.Depth<0))then some 2 else(bif (decide (10000<f_.Depth))then some 2 else(bif (decide (f_.Time<0))then some 2 else(bif (decide (20000000<f_.Time))then some 2 else some 0))))
def Kw (f_:Af) (k8:Nat) (ib:C7) (sv:Unit):Option (Out (Unit) (Int)):=
 (bif (decide (ib.Area<1))then some (Out.ret 2)else (bif (decide (10000000<ib.Area))then some (Out.ret 2)else (K7 ib.Pack).bind fun dd=>(bif (!dd)then some (Out.ret 2)else (bif (decide (0<((k8:Nat):Int)))then (Dv f_.Packs (IntKind.i64.wrap (((k8:Nat):Int) - 1))).bind fun jb=>(bif (decide (ib.Run≤jb.Run))then some (Out.ret 11)else some (Out.next ()))else some (Out.next ())))))
def Kv (f_:Af):Option (Int):=
 (An (Kw f_) 0 f_.Packs ()).bind fun o8=>o8.on fun s8=>Ku f_
def N6 (f_:Af) (ta:Nat) (ja:Cs) (sv:Unit):Option (Out (Unit) (Int)):=
 (bif (decide (0<((ta:Nat):Int)))then (Dv f_.Lifts (IntKind.i64.wrap (((ta:Nat):Int) - 1))).bind fun xz=>(bif (decide (ja.Lift≤xz.Lift))then some (Out.ret 11)else (U5 f_.Map ja.Lift).bind fun oh=>(bif (!oh.2)then some (Out.ret 8)else (bif (decide (ja.Mode<0))then some (Out.ret 2)else (bif (decide (3<ja.Mode))then some (Out.ret 2)else some (Out.next ())))))else (U5 f_.Map ja.Lift).bind fun xw=>(bif (!xw.2)then some (Out.ret 8)else (bif (decide (ja.Mode<0))then some (Out.ret 2)else (bif (decide (3<ja.Mode))then some (Out.ret 2)else some (Out.next ())))))
def Iv (f_:Af):Option (Int):=
 (Kt f_).bind fun y1=>(bif (decide (y1≠0))then some y1 else(bif (decide (32<((f_.Lifts.length:Nat):Int)))then some 4 else(bif (decide (64<((f_.Packs.length:Nat):Int)))then some 4 else(bif (decide (64<((f_.Status.length:Nat):Int)))then some 4 else(An (N6 f_) 0 f_.Lifts ()).bind fun o12=>o12.on fun s12=>Kv f_))))
theorem bV (f_:Af) {r:Int} (h:Iv f_=some r):Ad Tryz.prog 13 [.agg (Ce f_)] (·= .int .i64 r):=by
 refine Ad.nle (Ad.intro Tryz.func13 rfl rfl (by show _≤211;simp) ?_)
 unfold Iv at h
 refine nS (sq ?_)
 refine ar rfl (qn (sq (sq ?_)))
 refine rg rfl fun K j=>?_
 obtain⟨y1,bp,h⟩:=Ah h
 refine Al.pure Tryz.call41 (bU f_ bp) rfl fun _ hr=>?_
 subst hr
 refine nS ?_
 refine j _ _ (qn (sq ?_))
 refine ar rfl (qn ?_)
 revert h;refine ca rfl (fun hc h=>?_) fun hc h=>?_
 ·refine sq (ar rfl (qn (rt (qr ?_))))
  cases h;exact en Tryz.results13
 refine sk (qn (sq (sq (rg rfl fun K j=>?_))))
 intro hm
 revert h;refine gf (fun hc h=>?_) fun hc h=>?_
 rotate_left
 ·refine j _ _ (qn ?_)
  refine AWP.cond (Ai ?_)
  refine sq (ar rfl (qn (rt (qr ?_))))
  cases h;exact en Tryz.results13
 intro hm
 revert h;refine gf (fun hc h=>?_) fun hc h=>?_
 rotate_left
 ·refine j _ _ (qn ?_)
  refine AWP.cond (Ai ?_)
  refine sq (ar rfl (qn (rt (qr ?_))))
  cases h;exact en Tryz.results13
 intro hm
 refine j _ _ (qn ?_)
 revert h;refine ca rfl (fun hc h=>?_) fun hc h=>?_
 ·refine sq (ar rfl (qn (rt (qr ?_))))
  cases h;exact en Tryz.results13
 refine sk (qn ?_)
 refine AWP.Mz (ι:=(Unit)×(Unit)) (fun zz=>[(1,.ptr 0 0)]) (fun zz=>[.box [.sl 2 (f_.Map.Nodes.map A5),.sl 8 (f_.Map.Lifts.map A6),.sl 7 (f_.Map.Runs.map Ba),.sl 1 (f_.Map.Bases.map Bb),.sl 2 (f_.Lifts.map Av),.sl 4 (f_.Closures.map Au),.sl 4 (f_.Patrol.Bl.map Aq),.sl 3 (f_.Patrol.Hazards.map Ay),.sl 3 (f_.Surfaces.map A1),.sl 5 (f_.Packs.map Az),.sl 6 (f_.Slides.map A3),.sl 7 (f_.Bulletin.map Ar),.sl 7 (f_.Missions.map Ap),.sl 4 (f_.Winches.map Ak),.sl 8 (f_.Groomers.map Ax),.sl 3 (f_.Status.map Aw),.int .i64 f_.Depth,.int .i64 f_.Time]]) (fun zz=>Kv f_=some r) (fun zz=>⟨rfl,rfl,rfl⟩) ?_ ?_
 ·refine sq (ar rfl (qn (bk ?_)))
  obtain⟨o12,fj,ks⟩:=Ah h
  clear h
  refine AWP.Bw (ι:=Nat×(Unit)×(Unit)) (fun zz=>[(1,.ptr 0 0),(4,.int .i64 ((zz.1:Nat):Int))]) (fun zz=>[.box [.sl 2 (f_.Map.Nodes.map A5),.sl 8 (f_.Map.Lifts.map A6),.sl 7 (f_.Map.Runs.map Ba),.sl 1 (f_.Map.Bases.map Bb),.sl 2 (f_.Lifts.map Av),.sl 4 (f_.Closures.map Au),.sl 4 (f_.Patrol.Bl.map Aq),.sl 3 (f_.Patrol.Hazards.map Ay),.sl 3 (f_.Surfaces.map A1),.sl 5 (f_.Packs.map Az),.sl 6 (f_.Slides.map A3),.sl 7 (f_.Bulletin.map Ar),.sl 7 (f_.Missions.map Ap),.sl 4 (f_.Winches.map Ak),.sl 8 (f_.Groomers.map Ax),.sl 3 (f_.Status.map Aw),.int .i64 f_.Depth,.int .i64 f_.Time]]) (fun zz=>zz.1≤f_.Lifts.length∧An (N6 f_) zz.1 ((f_.Lifts).drop zz.1) zz.2.1=some o12) (fun zz=>f_.Lifts.length - zz.1) (0,(),()) ⟨Nat.zero_le _,fj⟩ cu cu (fun x=>⟨rfl,rfl,rfl⟩) ?_
  clear fj
  rintro⟨ta,⟨⟩,⟨⟩⟩ ⟨hk12,fj⟩
  dsimp only at hk12 fj ⊢
  refine sq (sq (rg rfl fun K j=>?_))
  intro hm
  refine j _ _ (qn ?_)
  refine AWP.cond (Am (fun hc=>?_) (fun hc=>?_))
  rotate_left
  ·obtain rfl:=Bg fj (fun hl=>by have:=Ako hc;omega)
   have h:=Bf ks;try dsimp only at h
   have ag:f_.Lifts.length=ta:=by have:=Ako hc;omega
   subst ag
   refine xt (qe (qe (bs (qn ?_))))
   exact⟨((),()),h,cu,cu⟩
  have hlt12:ta<f_.Lifts.length:=by have:=Akp hc;omega
  obtain⟨ja,b12,zf,h,fj⟩:=Bc fj hlt12
  have mf:=A9 zf
  have rz:=wk (k:=ta) (by omega)
  unfold N6 at h;try dsimp only at h
  refine sk (qn (sq (bk (sq (sq ?_)))))
  refine AWP.draw Tryz.mixed (by kernel_rfl) ?_;intro K j
  refine nS ?_
  revert h;refine gt (fun hc h=>?_) fun hc h=>?_
  ·refine Bo.of (f:=Av) (l:=f_.Lifts) mf ?_
   refine nS ?_
   obtain⟨xz,yl,h⟩:=Ah h
   refine Bo.of (f:=Av) (l:=f_.Lifts) yl ?_
   refine nS ?_
   refine j _ _ _ (by kernel_rfl) ?_
   refine qn ?_
   revert h;refine ca rfl (fun hc h=>?_) fun hc h=>?_
   ·refine sq (ar rfl (qn (rt (qr (br (qr (qr ?_)))))))
    obtain rfl:=Aa h
    obtain rfl:=Ae fj
    replace h:=Ao ks
    refine br (qr ?_)
    cases h;exact en Tryz.results13
   refine sk (qn (sq (sq ?_)))
   refine AWP.draw Tryz.mixed (by kernel_rfl) ?_;intro K j
   refine nS ?_
   refine Bo.of (f:=Av) (l:=f_.Lifts) mf ?_
   refine nS ?_
   obtain⟨oh,pg,h⟩:=Ah h
   refine Cf.pure Tryz.call42 (V1 f_.Map ja.Lift pg) rfl ?_
   refine nS ?_
   refine j _ _ _ (by kernel_rfl) ?_
   refine qn (sq (ar rfl (qn ?_)))
   revert h;refine ca rfl (fun hc h=>?_) fun hc h=>?_
   ·refine sq (ar rfl (qn (rt (qr (br (qr (qr ?_)))))))
    obtain rfl:=Aa h
    obtain rfl:=Ae fj
    replace h:=Ao ks
    refine br (qr ?_)
    cases h;exact en Tryz.results13
   refine sk (qn (sq (rg rfl fun K j=>?_)))
   refine Bo.of (f:=Av) (l:=f_.Lifts) mf ?_
   refine nS ?_
   revert h;refine gf (fun hc h=>?_) fun hc h=>?_
   ·refine Bo.of (f:=Av) (l:=f_.Lifts) mf ?_
    refine nS ?_
    refine j _ _ (qn ?_)
    revert h;refine ca rfl (fun hc h=>?_) fun hc h=>?_
    ·refine sq (ar rfl (qn (rt (br (qr (qr ?_))))))
     obtain rfl:=Aa h
     obtain rfl:=Ae fj
     replace h:=Ao ks
     refine br (qr ?_)
     cases h;exact en Tryz.results13
    refine sk (bn (qn (ar rfl (qn ?_))))
    obtain rfl:=Aa h
    refine⟨(ta+1,(),()),⟨by dsimp only;omega,Aj fj⟩,by dsimp only;omega,?_,?_⟩
    ·exact cuw rz
    exact cuw rz
   refine j _ _ (qn ?_)
   refine AWP.cond (Ai ?_)
   refine sq (ar rfl (qn (rt (br (qr (qr ?_))))))
   obtain rfl:=Aa h
   obtain rfl:=Ae fj
   replace h:=Ao ks
   refine br (qr ?_)
   cases h;exact en Tryz.results13
  refine j _ _ _ (by kernel_rfl) ?_
  refine qn ?_
  refine AWP.cond (Bj ?_)
  refine sk (qn (sq (sq ?_)))
  refine AWP.draw Tryz.mixed (by kernel_rfl) ?_;intro K j
  refine nS ?_
  refine Bo.of (f:=Av) (l:=f_.Lifts) mf ?_
  refine nS ?_
  obtain⟨xw,uz,h⟩:=Ah h
  refine Cf.pure Tryz.call42 (V1 f_.Map ja.Lift uz) rfl ?_
  refine nS ?_
  refine j _ _ _ (by kernel_rfl) ?_
  refine qn (sq (ar rfl (qn ?_)))
  revert h;refine ca rfl (fun hc h=>?_) fun hc h=>?_
  ·refine sq (ar rfl (qn (rt (qr (br (qr (qr ?_)))))))
   obtain rfl:=Aa h
   obtain rfl:=Ae fj
   replace h:=Ao ks
   refine br (qr ?_)
   cases h;exact en Tryz.results13
  refine sk (qn (sq (rg rfl fun K j=>?_)))
  refine Bo.of (f:=Av) (l:=f_.Lifts) mf ?_
  refine nS ?_
  revert h;refine gf (fun hc h=>?_) fun hc h=>?_
  ·refine Bo.of (f:=Av) (l:=f_.Lifts) mf ?_
   refine nS ?_
   refine j _ _ (qn ?_)
   revert h;refine ca rfl (fun hc h=>?_) fun hc h=>?_
   ·refine sq (ar rfl (qn (rt (br (qr (qr ?_))))))
    obtain rfl:=Aa h
    obtain rfl:=Ae fj
    replace h:=Ao ks
    refine br (qr ?_)
    cases h;exact en Tryz.results13
   refine sk (bn (qn (ar rfl (qn ?_))))
   obtain rfl:=Aa h
   refine⟨(ta+1,(),()),⟨by dsimp only;omega,Aj fj⟩,by dsimp only;omega,?_,?_⟩
   ·exact cuw rz
   exact cuw rz
  refine j _ _ (qn ?_)
  refine AWP.cond (Ai ?_)
  refine sq (ar rfl (qn (rt (br (qr (qr ?_))))))
  obtain rfl:=Aa h
  obtain rfl:=Ae fj
  replace h:=Ao ks
  refine br (qr ?_)
  cases h;exact en Tryz.results13
 rintro⟨⟨⟩,⟨⟩⟩ h
 try dsimp only at h ⊢
 unfold Kv at h;try dsimp only at h
 refine AWP.Mz (ι:=(Unit)×(Unit)) (fun zz=>[(1,.ptr 0 0)]) (fun zz=>[.box [.sl 2 (f_.Map.Nodes.map A5),.sl 8 (f_.Map.Lifts.map A6),.sl 7 (f_.Map.Runs.map Ba),.sl 1 (f_.Map.Bases.map Bb),.sl 2 (f_.Lifts.map Av),.sl 4 (f_.Closures.map Au),.sl 4 (f_.Patrol.Bl.map Aq),.sl 3 (f_.Patrol.Hazards.map Ay),.sl 3 (f_.Surfaces.map A1),.sl 5 (f_.Packs.map Az),.sl 6 (f_.Slides.map A3),.sl 7 (f_.Bulletin.map Ar),.sl 7 (f_.Missions.map Ap),.sl 4 (f_.Winches.map Ak),.sl 8 (f_.Groomers.map Ax),.sl 3 (f_.Status.map Aw),.int .i64 f_.Depth,.int .i64 f_.Time]]) (fun zz=>Ku f_=some r) (fun zz=>⟨rfl,rfl,rfl⟩) ?_ ?_
 ·refine sq (ar rfl (qn (bk ?_)))
  obtain⟨o8,ik,sw⟩:=Ah h
  clear h
  refine AWP.Bw (ι:=Nat×(Unit)×(Unit)) (fun zz=>[(1,.ptr 0 0),(7,.int .i64 ((zz.1:Nat):Int))]) (fun zz=>[.box [.sl 2 (f_.Map.Nodes.map A5),.sl 8 (f_.Map.Lifts.map A6),.sl 7 (f_.Map.Runs.map Ba),.sl 1 (f_.Map.Bases.map Bb),.sl 2 (f_.Lifts.map Av),.sl 4 (f_.Closures.map Au),.sl 4 (f_.Patrol.Bl.map Aq),.sl 3 (f_.Patrol.Hazards.map Ay),.sl 3 (f_.Surfaces.map A1),.sl 5 (f_.Packs.map Az),.sl 6 (f_.Slides.map A3),.sl 7 (f_.Bulletin.map Ar),.sl 7 (f_.Missions.map Ap),.sl 4 (f_.Winches.map Ak),.sl 8 (f_.Groomers.map Ax),.sl 3 (f_.Status.map Aw),.int .i64 f_.Depth,.int .i64 f_.Time]]) (fun zz=>zz.1≤f_.Packs.length∧An (Kw f_) zz.1 ((f_.Packs).drop zz.1) zz.2.1=some o8) (fun zz=>f_.Packs.length - zz.1) (0,(),()) ⟨Nat.zero_le _,ik⟩ cu cu (fun x=>⟨rfl,rfl,rfl⟩) ?_
  clear ik
  rintro⟨k8,⟨⟩,⟨⟩⟩ ⟨hk8,ik⟩
  dsimp only at hk8 ik ⊢
  refine sq (sq (rg rfl fun K j=>?_))
  intro hm
  refine j _ _ (qn ?_)
  refine AWP.cond (Am (fun hc=>?_) (fun hc=>?_))
  rotate_left
  ·obtain rfl:=Bg ik (fun hl=>by have:=Ako hc;omega)
   have h:=Bf sw;try dsimp only at h
   have ag:f_.Packs.length=k8:=by have:=Ako hc;omega
   subst ag
   refine xt (qe (qe (bs (qn ?_))))
   exact⟨((),()),h,cu,cu⟩
  have vx:k8<f_.Packs.length:=by have:=Akp hc;omega
  obtain⟨ib,b8,ve,h,ik⟩:=Bc ik vx
  have vf:=A9 ve
  have vl:=wk (k:=k8) (by omega)
  unfold Kw at h;try dsimp only at h
  refine sk (qn (sq (bk (sq (sq (rg rfl fun K j=>?_))))))
  refine Bo.of (f:=Az) (l:=f_.Packs) vf ?_
  refine nS ?_
  revert h;refine gf (fun hc h=>?_) fun hc h=>?_
  rotate_left
  ·refine j _ _ (qn ?_)
   refine AWP.cond (Ai ?_)
   refine sq (ar rfl (qn (rt (qr (br (qr (qr ?_)))))))
   obtain rfl:=Aa h
   obtain rfl:=Ae ik
   replace h:=Ao sw
   refine br (qr ?_)
   cases h;exact en Tryz.results13
  refine Bo.of (f:=Az) (l:=f_.Packs) vf ?_
  refine nS ?_
  revert h;refine gf (fun hc h=>?_) fun hc h=>?_
  rotate_left
  ·refine j _ _ (qn ?_)
   refine AWP.cond (Ai ?_)
   refine sq (ar rfl (qn (rt (qr (br (qr (qr ?_)))))))
   obtain rfl:=Aa h
   obtain rfl:=Ae ik
   replace h:=Ao sw
   refine br (qr ?_)
   cases h;exact en Tryz.results13
  refine Bo.of (f:=Az) (l:=f_.Packs) vf ?_
  refine nS ?_
  obtain⟨dd,eh,h⟩:=Ah h
  refine Al.pure Tryz.call43 (cN ib.Pack eh) rfl fun _ hr=>?_
  subst hr
  refine nS ?_
  refine j _ _ (qn ?_)
  revert h;refine ca rfl (fun hc h=>?_) fun hc h=>?_
  ·refine sq (ar rfl (qn (rt (qr (br (qr (qr ?_)))))))
   obtain rfl:=Aa h
   obtain rfl:=Ae ik
   replace h:=Ao sw
   refine br (qr ?_)
   cases h;exact en Tryz.results13
  refine sk (qn (sq ?_))
  refine AWP.draw Tryz.mixed (by kernel_rfl) ?_;intro K j
  refine nS ?_
  revert h;refine gt (fun hc h=>?_) fun hc h=>?_
  ·refine Bo.of (f:=Az) (l:=f_.Packs) vf ?_
   refine nS ?_
   obtain⟨jb,yn,h⟩:=Ah h
   refine Bo.of (f:=Az) (l:=f_.Packs) yn ?_
   refine nS ?_
   refine j _ _ _ (by kernel_rfl) ?_
   refine qn ?_
   revert h;refine ca rfl (fun hc h=>?_) fun hc h=>?_
   ·refine sq (ar rfl (qn (rt (br (qr (qr ?_))))))
    obtain rfl:=Aa h
    obtain rfl:=Ae ik
    replace h:=Ao sw
    refine br (qr ?_)
    cases h;exact en Tryz.results13
   refine sk (bn (qn (ar rfl (qn ?_))))
   obtain rfl:=Aa h
   refine⟨(k8+1,(),()),⟨by dsimp only;omega,Aj ik⟩,by dsimp only;omega,?_,?_⟩
   ·exact cuw vl
   exact cuw vl
  refine j _ _ _ (by kernel_rfl) ?_
  refine qn ?_
  refine AWP.cond (Bj ?_)
  refine sk (bn (qn (ar rfl (qn ?_))))
  obtain rfl:=Aa h
  refine⟨(k8+1,(),()),⟨by dsimp only;omega,Aj ik⟩,by dsimp only;omega,?_,?_⟩
  ·exact cuw vl
  exact cuw vl
 rintro⟨⟨⟩,⟨⟩⟩ h
 try dsimp only at h ⊢
 unfold Ku at h;try dsimp only at h
 refine sq (sq (ar rfl (qn (bk ?_))))
 obtain⟨o3,bw,gw⟩:=Ah h
 clear h
 refine AWP.Bw (ι:=Nat×(Unit)×(Unit)) (fun zz=>[(1,.ptr 0 0),(8,.int .i64 ((zz.1:Nat):Int))]) (fun zz=>[.box [.sl 2 (f_.Map.Nodes.map A5),.sl 8 (f_.Map.Lifts.map A6),.sl 7 (f_.Map.Runs.map Ba),.sl 1 (f_.Map.Bases.map Bb),.sl 2 (f_.Lifts.map Av),.sl 4 (f_.Closures.map Au),.sl 4 (f_.Patrol.Bl.map Aq),.sl 3 (f_.Patrol.Hazards.map Ay),.sl 3 (f_.Surfaces.map A1),.sl 5 (f_.Packs.map Az),.sl 6 (f_.Slides.map A3),.sl 7 (f_.Bulletin.map Ar),.sl 7 (f_.Missions.map Ap),.sl 4 (f_.Winches.map Ak),.sl 8 (f_.Groomers.map Ax),.sl 3 (f_.Status.map Aw),.int .i64 f_.Depth,.int .i64 f_.Time]]) (fun zz=>zz.1≤f_.Status.length∧An (Kx f_) zz.1 ((f_.Status).drop zz.1) zz.2.1=some o3) (fun zz=>f_.Status.length - zz.1) (0,(),()) ⟨Nat.zero_le _,bw⟩ cu cu (fun x=>⟨rfl,rfl,rfl⟩) ?_
 clear bw
 rintro⟨k3,⟨⟩,⟨⟩⟩ ⟨nw,bw⟩
 dsimp only at nw bw ⊢
 refine sq (sq (rg rfl fun K j=>?_))
 intro hm
 refine j _ _ (qn ?_)
 refine AWP.cond (Am (fun hc=>?_) (fun hc=>?_))
 rotate_left
 ·obtain rfl:=Bg bw (fun hl=>by have:=Ako hc;omega)
  have h:=Bf gw;try dsimp only at h
  have ag:f_.Status.length=k3:=by have:=Ako hc;omega
  subst ag
  refine xt (qe (qe (bs (qn (sq (sq (rg rfl fun K j=>?_)))))))
  revert h;refine gf (fun hc h=>?_) fun hc h=>?_
  ·revert h;refine gf (fun hc h=>?_) fun hc h=>?_
   ·revert h;refine gf (fun hc h=>?_) fun hc h=>?_
    ·refine j _ _ (qn ?_)
     revert h;refine ca rfl (fun hc h=>?_) fun hc h=>?_
     ·refine sq (ar rfl (qn (rt (qr ?_))))
      cases h;exact en Tryz.results13
     refine sk (qn (sq (ar rfl (qn (rt ?_)))))
     cases h;exact en Tryz.results13
    refine j _ _ (qn ?_)
    refine AWP.cond (Ai ?_)
    refine sq (ar rfl (qn (rt (qr ?_))))
    cases h;exact en Tryz.results13
   refine j _ _ (qn ?_)
   refine AWP.cond (Ai ?_)
   refine sq (ar rfl (qn (rt (qr ?_))))
   cases h;exact en Tryz.results13
  refine j _ _ (qn ?_)
  refine AWP.cond (Ai ?_)
  refine sq (ar rfl (qn (rt (qr ?_))))
  cases h;exact en Tryz.results13
 have fe:k3<f_.Status.length:=by have:=Akp hc;omega
 obtain⟨ch,b3,mc,h,bw⟩:=Bc bw fe
 have ns:=A9 mc
 have iz:=wk (k:=k3) (by omega)
 unfold Kx at h;try dsimp only at h
 refine sk (qn (sq (bk (sq (sq ?_)))))
 refine AWP.draw Tryz.mixed (by kernel_rfl) ?_;intro K j
 refine nS ?_
 revert h;refine gt (fun hc h=>?_) fun hc h=>?_
 ·refine Bo.of (f:=Aw) (l:=f_.Status) ns ?_
  refine nS ?_
  obtain⟨cx,gm,h⟩:=Ah h
  refine Bo.of (f:=Aw) (l:=f_.Status) gm ?_
  refine nS ?_
  refine j _ _ _ (by kernel_rfl) ?_
  refine qn ?_
  revert h;refine ca rfl (fun hc h=>?_) fun hc h=>?_
  ·refine sq (ar rfl (qn (rt (qr (br (qr (qr ?_)))))))
   obtain rfl:=Aa h
   obtain rfl:=Ae bw
   replace h:=Ao gw
   refine br (qr ?_)
   cases h;exact en Tryz.results13
  refine sk (qn (sq (sq ?_)))
  refine AWP.draw Tryz.mixed (by kernel_rfl) ?_;intro K j
  refine nS ?_
  refine Bo.of (f:=Aw) (l:=f_.Status) ns ?_
  refine nS ?_
  obtain⟨y7,eo,h⟩:=Ah h
  refine Cf.pure Tryz.call32 (Wz f_.Map ch.Run eo) rfl ?_
  refine nS ?_
  refine j _ _ _ (by kernel_rfl) ?_
  refine qn (sq (ar rfl (qn ?_)))
  revert h;refine ca rfl (fun hc h=>?_) fun hc h=>?_
  ·refine sq (ar rfl (qn (rt (qr (br (qr (qr ?_)))))))
   obtain rfl:=Aa h
   obtain rfl:=Ae bw
   replace h:=Ao gw
   refine br (qr ?_)
   cases h;exact en Tryz.results13
  refine sk (qn (sq (rg rfl fun K j=>?_)))
  refine Bo.of (f:=Aw) (l:=f_.Status) ns ?_
  refine nS ?_
  revert h;refine gf (fun hc h=>?_) fun hc h=>?_
  ·refine Bo.of (f:=Aw) (l:=f_.Status) ns ?_
   refine nS ?_
   refine j _ _ (qn ?_)
   revert h;refine ca rfl (fun hc h=>?_) fun hc h=>?_
   ·refine sq (ar rfl (qn (rt (br (qr (qr ?_))))))
    obtain rfl:=Aa h
    obtain rfl:=Ae bw
    replace h:=Ao gw
    refine br (qr ?_)
    cases h;exact en Tryz.results13
   refine sk (bn (qn (ar rfl (qn ?_))))
   obtain rfl:=Aa h
   refine⟨(k3+1,(),()),⟨by dsimp only;omega,Aj bw⟩,by dsimp only;omega,?_,?_⟩
   ·exact cuw iz
   exact cuw iz
  refine j _ _ (qn ?_)
  refine AWP.cond (Ai ?_)
  refine sq (ar rfl (qn (rt (br (qr (qr ?_))))))
  obtain rfl:=Aa h
  obtain rfl:=Ae bw
  replace h:=Ao gw
  refine br (qr ?_)
  cases h;exact en Tryz.results13
 refine j _ _ _ (by kernel_rfl) ?_
 refine qn ?_
 refine AWP.cond (Bj ?_)
 refine sk (qn (sq (sq ?_)))
 refine AWP.draw Tryz.mixed (by kernel_rfl) ?_;intro K j
 refine nS ?_
 refine Bo.of (f:=Aw) (l:=f_.Status) ns ?_
 refine nS ?_
 obtain⟨y8,fp,h⟩:=Ah h
 refine Cf.pure Tryz.call32 (Wz f_.Map ch.Run fp) rfl ?_
 refine nS ?_
 refine j _ _ _ (by kernel_rfl) ?_
 refine qn (sq (ar rfl (qn ?_)))
 revert h;refine ca rfl (fun hc h=>?_) fun hc h=>?_
 ·refine sq (ar rfl (qn (rt (qr (br (qr (qr ?_)))))))
  obtain rfl:=Aa h
  obtain rfl:=Ae bw
  replace h:=Ao gw
  refine br (qr ?_)
  cases h;exact en Tryz.results13
 refine sk (qn (sq (rg rfl fun K j=>?_)))
 refine Bo.of (f:=Aw) (l:=f_.Status) ns ?_
 refine nS ?_
 revert h;refine gf (fun hc h=>?_) fun hc h=>?_
 ·refine Bo.of (f:=Aw) (l:=f_.Status) ns ?_
  refine nS ?_
  refine j _ _ (qn ?_)
  revert h;refine ca rfl (fun hc h=>?_) fun hc h=>?_
  ·refine sq (ar rfl (qn (rt (br (qr (qr ?_))))))
   obtain rfl:=Aa h
   obtain rfl:=Ae bw
   replace h:=Ao gw
   refine br (qr ?_)
   cases h;exact en Tryz.results13
  refine sk (bn (qn (ar rfl (qn ?_))))
  obtain rfl:=Aa h
  refine⟨(k3+1,(),()),⟨by dsimp only;omega,Aj bw⟩,by dsimp only;omega,?_,?_⟩
  ·exact cuw iz
  exact cuw iz
 refine j _ _ (qn ?_)
 refine AWP.cond (Ai ?_)
 refine sq (ar rfl (qn (rt (br (qr (qr ?_))))))
 obtain rfl:=Aa h
 obtain rfl:=Ae bw
 replace h:=Ao gw
 refine br (qr ?_)
 cases h;exact en Tryz.results13
def Ns (f_:Af) (l:List Int):Option (Bool):=
 (bif (decide (((l.length:Nat):Int)≤40))then (Lc f_).bind fun y1=>(bif y1 then(Iv f_).bind fun y2=>some (decide (y2=0))else some false)else some false)
theorem cX (f_:Af) (l:List Int) {r:Bool} (h:Ns f_ l=some r):Ad Tryz.prog 14 [.agg (Ce f_),.sl 1 (l.map Bb)] (·= .bool r):=by
 refine Ad.nle (Ad.intro Tryz.func14 rfl rfl (by show _≤17;simp) ?_)
 unfold Ns at h
 refine nS (sq ?_)
 refine ar rfl (qn (sq ?_))
 refine rg rfl fun K j=>?_
 intro hm
 revert h;refine gt (fun hc h=>?_) fun hc h=>?_
 ·obtain⟨y1,bp,h⟩:=Ah h
  refine Al.pure Tryz.call11 (cW f_ bp) rfl fun _ hr=>?_
  subst hr
  refine nS ?_
  revert h;refine gt (fun hc h=>?_) fun hc h=>?_
  ·obtain⟨y2,dn,h⟩:=Ah h
   refine Al.pure Tryz.call13 (bV f_ dn) rfl fun _ hr=>?_
   subst hr
   refine nS ?_
   refine j _ _ (qn (rt ?_))
   cases h;exact en Tryz.results14
  refine j _ _ (qn (rt ?_))
  cases h;exact en Tryz.results14
 refine j _ _ (qn (rt ?_))
 cases h;exact en Tryz.results14
def Nl (m:Bd) (node:Int):Option (Int):=
 (Et m node).bind fun y1=>some y1.1.Alt
def Q6 (b:Bi) (t:Int):Option (Bool):=
 (bif (decide (b.Span.From≤t))then some (decide (t<b.Span.To))else some false)
def Lr (t:Int) (k1:Nat) (bb:Bi) (sv:Int):Option (Out (Int) (Int)):=
 (Q6 bb t).bind fun y4=>(bif y4 then some (Out.next (if sv<bb.Version then bb.Version else sv))else some (Out.next sv))
def Mn (l:List Bi) (t:Int):Option (Int):=
 (An (Lr t) 0 l 0).bind fun o1=>o1.on fun s1=>some s1
def l6 (n_:Int) (k0:Nat) (ab:Int) (sv:Unit):Option (Out (Unit) (Bool)):=
 (bif (decide (ab=n_))then some (Out.ret true)else some (Out.next ()))
def kJ (l:List Int) (n_:Int):Option (Bool):=
 (An (l6 n_) 0 l ()).bind fun o0=>o0.on fun s0=>some false
def Wu (l:List Bi) (zone:Int) (low:Int) (high:Int) (t:Int) (k1:Nat) (bb:Bi) (sv:Int):Option (Out (Int) (Int)):=
 (Q6 bb t).bind fun y4=>(bif y4 then(Mn l t).bind fun y5=>(bif (decide (bb.Version=y5))then (kJ bb.Zones zone).bind fun y6=>(bif y6 then(bif (decide (bb.Low<high))then (bif (decide (low<bb.High))then some (Out.next (if sv<bb.Level then bb.Level else sv))else some (Out.next sv))else some (Out.next sv))else some (Out.next sv))else some (Out.next sv))else some (Out.next sv))
def Wv (l:List Bi) (zone:Int) (low:Int) (high:Int) (t:Int):Option (Int):=
 (An (Wu l zone low high t) 0 l 0).bind fun o1=>o1.on fun s1=>some s1
def M0 (f_:Af) (k2:Nat) (k5:Nat) (fh:Cq) (sv:Int×Int):Option (Out (Int×Int) (Out ((List Int)) ((List Int)))):=
 (bif (decide (fh.Zone≠(((k2:Nat):Int)+1)))then some (Out.next (sv.1,sv.2))else (Nl f_.Map fh.To).bind fun y8=>(bif (decide (y8<sv.1))then (Nl f_.Map fh.To).bind fun y9=>(Nl f_.Map fh.From).bind fun cf=>(bif (decide (sv.2<cf))then (Nl f_.Map fh.From).bind fun dd=>some (Out.next (y9,dd))else some (Out.next (y9,sv.2)))else (Nl f_.Map fh.From).bind fun dm=>(bif (decide (sv.2<dm))then (Nl f_.Map fh.From).bind fun er=>some (Out.next (sv.1,er))else some (Out.next (sv.1,sv.2)))))
def Gp (f_:Af) (k2:Nat) (_x:Unit) (sv:(List Int)):Option (Out ((List Int)) ((List Int))):=
 (An (M0 f_ k2) 0 f_.Map.Runs (9999,(-1))).bind fun o5=>o5.on fun s5=>(bif (decide (0≤s5.2))then (Wv f_.Bulletin (((k2:Nat):Int)+1) s5.1 s5.2 f_.Time).bind fun jy=>chk (sv.length+1) (some (Out.next (sv++[jy])))else chk (sv.length+1) (some (Out.next (sv++[(0:Int)]))))
def Q5 (f_:Af):Option ((List Int)):=
 (Ki (Gp f_) 32 []).bind fun o2=>o2.on fun s2=>some s2
def Wr (l:List Bn) (kind:Int) (target:Int) (k2:Nat) (_x:Unit) (sv:(List Int)):Option (Out ((List Int)) ((List Int))):=
 (F4 l kind target (((k2:Nat):Int)+1)).bind fun y4=>(bif (decide (0≤y4))then chk (sv.length+1) (some (Out.next (sv++[(((k2:Nat):Int)+1)])))else some (Out.next sv))
def aE (l:List Bn) (kind:Int) (target:Int):Option ((List Int)):=
 (Ki (Wr l kind target) 6 []).bind fun o2=>o2.on fun s2=>some s2
def bY (m:Bd) (l:List Bn) (run:Int):Option (Bool):=
 (Lt m run).bind fun y1=>(bif y1.2 then(aE l 1 run).bind fun y2=>(bif (decide (0<((y2.length:Nat):Int)))then some true else(aE l 3 y1.1.Zone).bind fun y3=>some (decide (0<((y3.length:Nat):Int))))else some false)
def eF (run:Int) (k0:Nat) (ab:Cb) (sv:Unit):Option (Out (Unit) (Bool)):=
 (bif (decide (ab.State=2))then (bif (decide (ab.Run=run))then some (Out.ret true)else some (Out.next ()))else some (Out.next ()))
def gG (l:List Cb) (run:Int):Option (Bool):=
 (An (eF run) 0 l ()).bind fun o0=>o0.on fun s0=>some false
def Rs (t:Int) (bo:List Int) (k2:Nat) (k3:Nat) (ch:A8) (sv:Unit):Option (Out (Unit) (Out ((List Int)) ((List Int)))):=
 (bif (decide (ch.From≤t))then (bif (decide (t<ch.To))then (Rf ch.Runs (((k2:Nat):Int)+1)).bind fun y6=>(bif y6 then chk (bo.length+1) (some (Out.ret (Out.next (bo++[(((k2:Nat):Int)+1)]))))else some (Out.next ()))else some (Out.next ()))else some (Out.next ()))
def Rt (l:List A8) (t:Int) (k2:Nat) (_x:Unit) (sv:(List Int)):Option (Out ((List Int)) ((List Int))):=
 (An (Rs t sv k2) 0 l ()).bind fun o3=>o3.on fun s3=>some (Out.next sv)
def Ww (l:List A8) (t:Int):Option ((List Int)):=
 (Ki (Rt l t) 9999 []).bind fun o2=>o2.on fun s2=>some s2
def Wp (n_:Int) (k0:Nat) (ab:Int) (sv:Unit):Option (Out (Unit) (Bool)):=
 (bif (decide (ab=n_))then some (Out.ret true)else some (Out.next ()))
def Gw (l:List Int) (n_:Int):Option (Bool):=
 (An (Wp n_) 0 l ()).bind fun o0=>o0.on fun s0=>some false
theorem jQ (l:List Int) (n_:Int) {r:Bool} (h:Gw l n_=some r):Ad Tryz.prog 31 [.sl 1 (l.map Bb),.int .i64 n_] (·= .bool r):=by
 refine Ad.nle (Ad.intro Tryz.func31 rfl rfl (by show _≤18;simp) ?_)
 unfold Gw at h
 refine nS (sq ?_)
 refine ar rfl (qn (sq (sq ?_)))
 refine ar rfl (qn (bk ?_))
 obtain⟨o0,aa,ae⟩:=Ah h
 clear h
 refine AWP.Bw (ι:=Nat×(Unit)×(Unit)) (fun zz=>[(0,.sl 1 (l.map Bb)),(1,.int .i64 n_),(5,.int .i64 ((zz.1:Nat):Int))]) (fun zz=>[]) (fun zz=>zz.1≤l.length∧An (Wp n_) zz.1 ((l).drop zz.1) zz.2.1=some o0) (fun zz=>l.length - zz.1) (0,(),()) ⟨Nat.zero_le _,aa⟩ cu cu (fun x=>⟨rfl,rfl,rfl⟩) ?_
 clear aa
 rintro⟨k0,⟨⟩,⟨⟩⟩ ⟨bg,aa⟩
 dsimp only at bg aa ⊢
 refine sq (sq (rg rfl fun K j=>?_))
 intro hm
 refine j _ _ (qn ?_)
 refine AWP.cond (Am (fun hc=>?_) (fun hc=>?_))
 rotate_left
 ·obtain rfl:=Bg aa (fun hl=>by have:=Ako hc;omega)
  have h:=Bf ae;try dsimp only at h
  have ag:l.length=k0:=by have:=Ako hc;omega
  subst ag
  refine xt (qe (qe (bs (qn (sq (ar rfl (qn (rt ?_))))))))
  cases h;exact en Tryz.results31
 have ah:k0<l.length:=by have:=Akp hc;omega
 obtain⟨ab,b0,aj,h,aa⟩:=Bc aa ah
 have aw:=A9 aj
 have ak:=wk (k:=k0) (by omega)
 unfold Wp at h;try dsimp only at h
 refine sk (qn (sq (bk (sq (rg rfl fun K j=>?_)))))
 refine Bo.of (f:=Bb) (l:=l) aw ?_
 refine nS ?_
 refine j _ _ (qn ?_)
 revert h;refine ca rfl (fun hc h=>?_) fun hc h=>?_
 ·refine sq (ar rfl (qn (rt (br (qr (qr ?_))))))
  obtain rfl:=Aa h
  obtain rfl:=Ae aa
  replace h:=Ao ae
  refine br (qr ?_)
  cases h;exact en Tryz.results31
 refine sk (bn (qn (ar rfl (qn ?_))))
 obtain rfl:=Aa h
 refine⟨(k0+1,(),()),⟨by dsimp only;omega,Aj aa⟩,by dsimp only;omega,?_,?_⟩
 ·exact cuw ak
 exact cuw ak
def M1 (last1:Int) (k5:Nat) (fh:Bh) (sv:Int):Option (Out (Int) (Out (Int×(List Int)) ((List Int)))):=
 (Nf fh).bind fun y8=>(bif y8 then(bif (decide (fh.State≠0))then (bif (decide (last1<fh.Slide))then (bif (decide (sv=0))then some (Out.next fh.Slide)else (bif (decide (fh.Slide<sv))then some (Out.next fh.Slide)else some (Out.next sv)))else some (Out.next sv))else some (Out.next sv))else some (Out.next sv))
def Qm (l:List Bh) (sv:Int×(List Int)):Option (Out (Int×(List Int)) ((List Int))):=
 (An (M1 sv.1) 0 l 0).bind fun o5=>o5.on fun s5=>(bif (decide (s5=0))then some (Out.ret sv.2)else chk (sv.2.length+1) (some (Out.next (s5,(sv.2++[s5])))))
def Uy (l:List Bh):Option ((List Int)):=
 (D6 (Qm l) fuel (0,[])).bind fun o3=>o3.on fun _=>none
def Ue (zone:Int) (y1:(List Int)) (k1:Nat) (bb:Be) (sv:Unit):Option (Out (Unit) (Bool)):=
 (Gw y1 bb.ID).bind fun y4=>(bif y4 then(Gw bb.Zones zone).bind fun y5=>(bif y5 then some (Out.ret true)else some (Out.next ()))else some (Out.next ()))
def Tf (f_:Af) (zone:Int):Option (Bool):=
 (Uy f_.Missions).bind fun y1=>(An (Ue zone y1) 0 f_.Slides ()).bind fun o1=>o1.on fun s1=>some false
def Rq (levels:List Int) (k1:Nat) (bb:Int) (sv:Int):Option (Out (Int) (Int)):=
 (bif (decide (bb≤((levels.length:Nat):Int)))then (Dv levels (IntKind.i64.wrap (bb - 1))).bind fun au=>(bif (decide (((k1:Nat):Int)=0))then some (Out.next au)else (bif (decide (sv<au))then some (Out.next au)else some (Out.next sv)))else (bif (decide (((k1:Nat):Int)=0))then some (Out.next 0)else (bif (decide (sv<0))then some (Out.next 0)else some (Out.next sv))))
def eE (s_:Be) (levels:List Int):Option (Int):=
 (An (Rq levels) 0 s_.Zones 0).bind fun o1=>o1.on fun s1=>some s1
def Rp (s_:Be) (levels:List Int):Option (Bool):=
 (eE s_ levels).bind fun y1=>(bif (decide (4<y1))then some true else(bif (decide (y1=4))then some (decide ((IntKind.i64.wrap (Int.tdiv s_.Limit 4))≤s_.Load))else (bif (decide (y1=3))then some (decide ((IntKind.i64.wrap (Int.tdiv s_.Limit 2))≤s_.Load))else some (decide (s_.Limit≤s_.Load)))))
def Ro (at_10:Int) (sv:Int×(List Int)):Option (Out (Int×(List Int)) (Out ((List Int)) (Out ((List Int)) ((List Int))))):=
 (bif (decide (at_10<sv.1))then (Dv sv.2 (IntKind.i64.wrap (sv.1 - 1))).bind fun np=>(Dv sv.2 sv.1).bind fun kf=>(Dv (sv.2.set sv.1.toNat np) (IntKind.i64.wrap (sv.1 - 1))).bind fun nm=>some (Out.next ((IntKind.i64.wrap (sv.1 - 1)),((sv.2.set sv.1.toNat np).set (IntKind.i64.wrap (sv.1 - 1)).toNat kf)))else some (Out.ret (Out.next sv.2)))
def Kz (fz:List Int) (ke:Int) (at_10:Int):Option (Out ((List Int)) (Out ((List Int)) ((List Int)))):=
 chk (fz.length+1) ((D6 (Ro at_10) fuel ((IntKind.i64.wrap ((((fz.length+1):Nat):Int) - 1)),(fz++[ke]))).bind fun o15=>o15.on fun _=>none)
def Od (fz:List Int) (ke:Int) (at_10:Int):Option (Out ((List Int)) (Out ((List Int)) ((List Int)))):=
 (bif (decide (at_10<((fz.length:Nat):Int)))then (Dv fz at_10).bind fun x_22=>(bif (decide (x_22=ke))then some (Out.next fz)else Kz fz ke at_10)else Kz fz ke at_10)
def Rn (fz:List Int) (ke:Int) (sv:Int):Option (Out (Int) (Out ((List Int)) (Out ((List Int)) ((List Int))))):=
 (bif (decide (sv<((fz.length:Nat):Int)))then (Dv fz sv).bind fun jm=>(bif (decide (jm<ke))then some (Out.next (IntKind.i64.wrap (sv+1)))else (Od fz ke sv).bind fun q25=>some (Out.ret q25))else (bif false then some (Out.next (IntKind.i64.wrap (sv+1)))else (Od fz ke sv).bind fun q26=>some (Out.ret q26)))
def H6 (k7:Nat) (ke:Int) (sv:(List Int)):Option (Out ((List Int)) (Out ((List Int)) ((List Int)))):=
 (D6 (Rn sv ke) fuel 0).bind fun o23=>o23.on fun _=>none
def Ws (levels:List Int) (k2:Nat) (au:Be) (sv:(List Int)):Option (Out ((List Int)) ((List Int))):=
 (Rp au levels).bind fun y5=>(bif y5 then(An H6 0 au.Zones sv).bind fun o7=>o7.on fun s7=>some (Out.next s7)else some (Out.next sv))
def Wt (l:List Be) (levels:List Int):Option ((List Int)):=
 (An (Ws levels) 0 l []).bind fun o2=>o2.on fun s2=>some s2
def U0 (l:Bq) (item:Int) (t:Int) (k1:Nat) (bb:F2) (sv:Int):Option (Out (Int) (Int)):=
 (bif (decide (bb.Item=item))then (bif (decide (bb.At≤t))then (bif (decide (t<(IntKind.i64.wrap (bb.At+l.Every))))then some (Out.next (if sv<(IntKind.i64.wrap (bb.At+l.Every))then (IntKind.i64.wrap (bb.At+l.Every))else sv))else some (Out.next sv))else some (Out.next sv))else some (Out.next sv))
def cM (l:Bq) (item:Int) (t:Int):Option (Int):=
 (An (U0 l item t) 0 l.Signs t).bind fun o1=>o1.on fun s1=>some s1
def Tk (l:Bq) (t:Int) (k2:Nat) (au:Int) (sv:(List Int)):Option (Out ((List Int)) ((List Int))):=
 (cM l au t).bind fun y5=>(bif (decide (y5=t))then chk (sv.length+1) (some (Out.next (sv++[au])))else some (Out.next sv))
def Zj (l:Bq) (t:Int):Option ((List Int)):=
 (An (Tk l t) 0 l.Items []).bind fun o2=>o2.on fun s2=>some s2
def U2 (l:Bq) (t:Int):Option (Bool):=
 (Zj l t).bind fun y1=>some (decide (((y1.length:Nat):Int)=0))
def Wq (run:Int) (k3:Nat) (ch:C4) (sv:Unit):Option (Out (Unit) (Bool)):=
 (bif (decide (ch.Run=run))then some (Out.ret false)else some (Out.next ()))
def Sw (p:B9) (run:Int) (t:Int):Option (Bool):=
 (N7 p run).bind fun y1=>(bif (decide (y1<0))then some false else(Dv p.Bl y1).bind fun ab=>(U2 ab.List_ t).bind fun y3=>(bif (!y3)then some false else(An (Wq run) 0 p.Hazards ()).bind fun o3=>o3.on fun s3=>some true))
def Wy (p:F3):Option (Int×Int):=
 (K7 p).bind fun y1=>(bif (!y1)then some (0,1)else nz p.Density (some ((IntKind.i64.wrap (Int.tdiv (IntKind.i64.wrap ((IntKind.i64.wrap (p.Natural+p.Machine))*1000)) p.Density)),0)))
def Y1 (f_:Af) (run:Int) (k0:Nat) (ab:C7) (sv:Unit):Option (Out (Unit) (Bool)):=
 (bif (decide (ab.Run=run))then (Wy ab.Pack).bind fun y3=>some (Out.ret (decide (f_.Depth≤y3.1)))else some (Out.next ()))
def Uw (f_:Af) (run:Int):Option (Bool):=
 (An (Y1 f_ run) 0 f_.Packs ()).bind fun o0=>o0.on fun s0=>some false
def Sv (f_:Af) (x_:Cq):Option (Int):=
 (bY f_.Map f_.Closures x_.ID).bind fun y1=>(bif y1 then some 13 else(gG f_.Groomers x_.ID).bind fun y2=>(bif y2 then some 15 else(Ww f_.Winches f_.Time).bind fun y3=>(Gw y3 x_.ID).bind fun y4=>(bif y4 then some 15 else(Tf f_ x_.Zone).bind fun y5=>(bif y5 then some 15 else(Q5 f_).bind fun y6=>(Wt f_.Slides y6).bind fun y7=>(Gw y7 x_.Zone).bind fun y8=>(bif y8 then some 10 else(Sw f_.Patrol x_.ID f_.Time).bind fun y9=>(bif (!y9)then some 14 else(Uw f_ x_.ID).bind fun cf=>(bif (!cf)then some 5 else some 0)))))))
def Vz (k2:Nat) (au:Cs) (sv:(List Int)):Option (Out ((List Int)) ((List Int))):=
 (bif (decide (au.Mode=1))then chk (sv.length+1) (some (Out.next (sv++[au.Lift])))else some (Out.next sv))
def N5 (f_:Af):Option ((List Int)):=
 (An Vz 0 f_.Lifts []).bind fun o2=>o2.on fun s2=>some s2
def l7 (n_:Int) (k0:Nat) (ab:Int) (sv:Unit):Option (Out (Unit) (Bool)):=
 (bif (decide (ab=n_))then some (Out.ret true)else some (Out.next ()))
def Uj (l:List Int) (n_:Int):Option (Bool):=
 (An (l7 n_) 0 l ()).bind fun o0=>o0.on fun s0=>some false
def Y3 (runs:List Int) (k2:Nat) (au:Cq) (sv:(List A7)):Option (Out ((List A7)) ((List A7))):=
 (Uj runs au.ID).bind fun y5=>(bif y5 then chk (sv.length+1) (some (Out.next (sv++[(A7.mk au.ID au.From au.To au.Length)])))else some (Out.next sv))
def U3 (m:Bd) (runs:List Int):Option ((List A7)):=
 (An (Y3 runs) 0 m.Runs []).bind fun o2=>o2.on fun s2=>some s2
def U7 (n_:Int) (k3:Nat) (ch:Int) (sv:Bool×(List Int)):Option (Out (Bool×(List Int)) ((List Int))):=
 (bif (!sv.1)then (bif (decide (n_≤ch))then (bif (decide (n_<ch))then chk (sv.2.length+1) (chk ((sv.2.length+1)+1) (some (Out.next (true,((sv.2++[n_])++[ch])))))else chk (sv.2.length+1) (some (Out.next (true,(sv.2++[ch])))))else chk (sv.2.length+1) (some (Out.next (sv.1,(sv.2++[ch])))))else chk (sv.2.length+1) (some (Out.next (sv.1,(sv.2++[ch])))))
def X8 (l:List Int) (n_:Int):Option ((List Int)):=
 (An (U7 n_) 0 l (false,[])).bind fun o3=>o3.on fun s3=>(bif (!s3.1)then chk (s3.2.length+1) (some (s3.2++[n_]))else some s3.2)
def Oj (k6:Nat) (dz:A7) (sv:(List Int)):Option (Out ((List Int)) (Out ((List Int)×Int) ((List Int)))):=
 (Uj sv dz.From).bind fun y9=>(bif y9 then(X8 sv dz.To).bind fun cf=>some (Out.next cf)else some (Out.next sv))
def R1 (l:List A7) (sv:(List Int)×Int):Option (Out ((List Int)×Int) ((List Int))):=
 (bif (decide (sv.2<((sv.1.length:Nat):Int)))then (An Oj 0 l sv.1).bind fun o6=>o6.on fun s6=>some (Out.next (s6,((sv.1.length:Nat):Int)))else some (Out.ret sv.1))
def Ry (l:List A7) (bo:List Int):Option ((List Int)):=
 (D6 (R1 l) fuel (bo,(-1))).bind fun o4=>o4.on fun _=>none
def Rz (k11:Nat) (nq:Int) (sv:(List Int)):Option (Out ((List Int)) ((List Int))):=
 (X8 sv nq).bind fun jy=>some (Out.next jy)
def P6 (l:List A7) (from_:List Int):Option ((List Int)):=
 (An Rz 0 from_ []).bind fun o11=>o11.on fun s11=>Ry l s11
def Ng (lifts:List Int) (k3:Nat) (ch:Co) (sv:(List A7)):Option (Out ((List A7)) ((List Int))):=
 (Uj lifts ch.ID).bind fun y6=>(bif y6 then chk (sv.length+1) (some (Out.next (sv++[(A7.mk 0 ch.From ch.To 0)])))else some (Out.next sv))
def Qo (m:Bd) (lifts:List Int) (runs:List Int):Option ((List Int)):=
 (U3 m runs).bind fun y1=>chk y1.length ((An (Ng lifts) 0 m.Lifts y1).bind fun o3=>o3.on fun s3=>(P6 s3 m.Bases).bind fun y7=>some y7)
def P3 (m:Bd) (lifts:List Int) (runs:List Int) (run:Int):Option (Bool):=
 (Lt m run).bind fun y1=>(bif y1.2 then(Qo m lifts runs).bind fun y2=>(Uj y2 y1.1.From).bind fun y3=>some y3 else some false)
def V2 (k2:Nat) (au:A7) (sv:(List A7)):Option (Out ((List A7)) ((List A7))):=
 chk (sv.length+1) (some (Out.next (sv++[(A7.mk au.ID au.To au.From au.Cost)])))
def U6 (l:List A7):Option ((List A7)):=
 (An V2 0 l []).bind fun o2=>o2.on fun s2=>some s2
def Zk (l:List A7) (to_:List Int):Option ((List Int)):=
 (U6 l).bind fun y1=>(P6 y1 to_).bind fun y2=>some y2
def Ru (m:Bd) (runs:List Int):Option ((List Int)):=
 (U3 m runs).bind fun y1=>(Zk y1 m.Bases).bind fun y2=>some y2
def Uf (f_:Af) (open_:List Int) (run:Int):Option (Int):=
 (Lt f_.Map run).bind fun y1=>(bif (!y1.2)then some 8 else(Sv f_ y1.1).bind fun y2=>(bif (decide (y2≠0))then some y2 else(N5 f_).bind fun y3=>(P3 f_.Map y3 open_ run).bind fun y4=>(bif (!y4)then some 16 else(Ru f_.Map open_).bind fun y5=>(Gw y5 y1.1.To).bind fun y6=>(bif (!y6)then some 16 else some 0))))
def l5 (k2:Nat) (au:A4) (sv:(List Int)):Option (Out ((List Int)) ((List Int))):=
 (bif au.Open then chk (sv.length+1) (some (Out.next (sv++[au.Run])))else some (Out.next sv))
def bW (f_:Af):Option ((List Int)):=
 (An l5 0 f_.Status []).bind fun o2=>o2.on fun s2=>some s2
def Y2 (f_:Af) (y1:(List Int)) (k1:Nat) (bb:Int) (sv:Unit):Option (Out (Unit) (Bool)):=
 (Uf f_ y1 bb).bind fun y4=>(bif (decide (y4≠0))then some (Out.ret false)else some (Out.next ()))
def Zh (f_:Af):Option (Bool):=
 (bW f_).bind fun y1=>(An (Y2 f_ y1) 0 y1 ()).bind fun o1=>o1.on fun s1=>some true
def Ti (f_:Af) (now4:List Int) (y7:(List Int)) (y8:(List Int)) (xe:Nat) (jb:Int) (sv:(List Int)):Option (Out ((List Int)) (Out ((List Int)) ((List Int)))):=
 (Lt f_.Map jb).bind fun er=>(P3 f_.Map y7 now4 jb).bind fun jy=>(bif jy then(Gw y8 er.1.To).bind fun lk=>(bif lk then chk (sv.length+1) (some (Out.next (sv++[jb])))else some (Out.next sv))else some (Out.next sv))
def Tj (f_:Af) (k5:Nat) (_x:Unit) (sv:(List Int)):Option (Out ((List Int)) ((List Int))):=
 (N5 f_).bind fun y7=>(Ru f_.Map sv).bind fun y8=>(An (Ti f_ sv y7 y8) 0 sv []).bind fun o10=>o10.on fun s10=>some (Out.next s10)
def Tg (f_:Af) (now1:List Int):Option ((List Int)):=
 (Ki (Tj f_) (f_.Map.Runs.length+1) now1).bind fun o5=>o5.on fun s5=>some s5
def Th (f_:Af) (runs:List Int) (k17:Nat) (uj:Cq) (sv:(List Int)):Option (Out ((List Int)) ((List Int))):=
 (Gw runs uj.ID).bind fun ly=>(bif ly then(Sv f_ uj).bind fun jl=>(bif (decide (jl=0))then chk (sv.length+1) (some (Out.next (sv++[uj.ID])))else some (Out.next sv))else some (Out.next sv))
def Zi (f_:Af) (runs:List Int):Option ((List Int)):=
 (An (Th f_ runs) 0 f_.Map.Runs []).bind fun o17=>o17.on fun s17=>Tg f_ s17
def Qk (f_:Af) (y2:(List Int)) (k6:Nat) (dz:A4) (sv:(List A4)×(List Int)):Option (Out ((List A4)×(List Int)) (Af×(List Int))):=
 (bif dz.Open then(Gw y2 dz.Run).bind fun y9=>(bif (!y9)then chk (sv.2.length+1) (chk (sv.1.length+1) (some (Out.next ((sv.1++[(A4.mk dz.Run false f_.Time)]),(sv.2++[dz.Run])))))else chk (sv.1.length+1) (some (Out.next ((sv.1++[(A4.mk dz.Run true dz.Since)]),sv.2))))else chk (sv.1.length+1) (some (Out.next ((sv.1++[(A4.mk dz.Run false dz.Since)]),sv.2))))
def Ux (f_:Af):Option (Af×(List Int)):=
 (bW f_).bind fun y1=>(Zi f_ y1).bind fun y2=>(An (Qk f_ y2) 0 f_.Status ([],[])).bind fun o6=>o6.on fun s6=>some ((Af.mk f_.Map f_.Lifts f_.Closures f_.Patrol f_.Surfaces f_.Packs f_.Slides f_.Bulletin f_.Missions f_.Winches f_.Groomers s6.1 f_.Depth f_.Time),s6.2)
def Eu (y3:Af×(List Int)) (y5:(List Int)) (k5:Nat) (fh:Int) (sv:Unit):Option (Out (Unit) (Bool)):=
 (Cw y3.1 y5 fh).bind fun y8=>(bif (decide (y8≠0))then some (Out.ret false)else some (Out.next ()))
def Hq (f_:Af) (run:Int):Option (Bool):=
 (P8).bind fun y1=>(bif (!y1)then some false else(Ns f_ []).bind fun y2=>(bif (!y2)then some true else(F9 f_).bind fun y3=>(C6 y3.1).bind fun y4=>(bif (!y4)then some false else(De y3.1).bind fun y5=>(An (Eu y3 y5) 0 y5 ()).bind fun o5=>o5.on fun s5=>(Ee y3.1 run).bind fun y9=>(bif (decide (y9.2=0))then (C6 y9.1).bind fun cf=>(bif (!cf)then some false else(De y9.1).bind fun dd=>(Gw dd run).bind fun dm=>(bif (!dm)then some false else(De y9.1).bind fun er=>(bif (decide (((er.length:Nat):Int)≠(IntKind.i64.wrap (((y5.length:Nat):Int)+1))))then some false else(C6 (Af.mk f_.Map f_.Lifts f_.Closures f_.Patrol f_.Surfaces f_.Packs f_.Slides f_.Bulletin f_.Missions f_.Winches f_.Groomers [] f_.Depth f_.Time)).bind fun jy=>some jy)))else (C6 (Af.mk f_.Map f_.Lifts f_.Closures f_.Patrol f_.Surfaces f_.Packs f_.Slides f_.Bulletin f_.Missions f_.Winches f_.Groomers [] f_.Depth f_.Time)).bind fun lk=>some lk))))
theorem Tt (f_:Af) (run:Int) {r:Bool} (h:Hq f_ run=some r):Ad Tryz.prog 7 [.agg (Ce f_),.int .i64 run] (·= .bool r):=by
 refine Ad.nle (Ad.intro Tryz.func7 rfl rfl (by show _≤74;simp) ?_)
 unfold Hq at h
 refine nS (sq ?_)
 refine ar rfl (qn (sq (sq ?_)))
 refine rg rfl fun K j=>?_
 obtain⟨y1,bp,h⟩:=Ah h
 refine Al.pure Tryz.call10 (cY bp) rfl fun _ hr=>?_
 subst hr
 refine nS ?_
 refine j _ _ (qn ?_)
 revert h;refine ca rfl (fun hc h=>?_) fun hc h=>?_
 ·refine sq (ar rfl (qn (rt (qr ?_))))
  cases h;exact en Tryz.results7
 refine sk (qn (sq (sq (rg rfl fun K j=>?_))))
 obtain⟨y2,dn,h⟩:=Ah h
 refine Al.pure Tryz.call14 (Ad.Ab2 (args:=[.agg [.sl 2 (f_.Map.Nodes.map A5),.sl 8 (f_.Map.Lifts.map A6),.sl 7 (f_.Map.Runs.map Ba),.sl 1 (f_.Map.Bases.map Bb),.sl 2 (f_.Lifts.map Av),.sl 4 (f_.Closures.map Au),.sl 4 (f_.Patrol.Bl.map Aq),.sl 3 (f_.Patrol.Hazards.map Ay),.sl 3 (f_.Surfaces.map A1),.sl 5 (f_.Packs.map Az),.sl 6 (f_.Slides.map A3),.sl 7 (f_.Bulletin.map Ar),.sl 7 (f_.Missions.map Ap),.sl 4 (f_.Winches.map Ak),.sl 8 (f_.Groomers.map Ax),.sl 3 (f_.Status.map Aw),.int .i64 f_.Depth,.int .i64 f_.Time],.nils]) (by simp +decide -implicitDefEqProofs only[go_sem,Eg,Ac.int.injEq,Int.natCast_zero,List.replicate_zero,List.length_take,List.length_drop,Ac.own.injEq,reduceCtorEq,Int.reduceAdd,Sl,Sm,Pd,Sk,Pc]) (cX f_ [] dn)) rfl fun _ hr=>?_
 subst hr
 refine nS ?_
 refine j _ _ (qn ?_)
 revert h;refine ca rfl (fun hc h=>?_) fun hc h=>?_
 ·refine sq (ar rfl (qn (rt (qr ?_))))
  cases h;exact en Tryz.results7
 refine sk (qn (sq (rg rfl fun K j=>?_)))
 obtain⟨y3,bx,h⟩:=Ah h
 refine Al.pure Tryz.call27 (O2 f_ bx) rfl fun _ hr=>?_
 subst hr
 refine nS ?_
 refine j _ _ (qn (sq (sq ?_)))
 refine rg rfl fun K j=>?_
 obtain⟨y4,cn,h⟩:=Ah h
 refine Al.pure Tryz.call22 (E1 y3.1 cn) rfl fun _ hr=>?_
 subst hr
 refine nS ?_
 refine j _ _ (qn ?_)
 revert h;refine ca rfl (fun hc h=>?_) fun hc h=>?_
 ·refine sq (ar rfl (qn (rt (qr ?_))))
  cases h;exact en Tryz.results7
 refine sk (qn (sq (rg rfl fun K j=>?_)))
 obtain⟨y5,db,h⟩:=Ah h
 refine Al.pure Tryz.call20 (E7 y3.1 db) rfl fun _ hr=>?_
 subst hr
 refine nS ?_
 refine j _ _ (qn (sq (sq ?_)))
 refine ar rfl (qn (bk ?_))
 obtain⟨o5,ep,nc⟩:=Ah h
 clear h
 refine AWP.Bw (ι:=Nat×(Unit)×(Unit)) (fun zz=>[(1,.int .i64 run),(2,.ptr 0 0),(5,.ptr 1 0),(7,.sl 1 (y5.map Bb)),(8,.int .i64 ((zz.1:Nat):Int))]) (fun zz=>[.box [.sl 2 (f_.Map.Nodes.map A5),.sl 8 (f_.Map.Lifts.map A6),.sl 7 (f_.Map.Runs.map Ba),.sl 1 (f_.Map.Bases.map Bb),.sl 2 (f_.Lifts.map Av),.sl 4 (f_.Closures.map Au),.sl 4 (f_.Patrol.Bl.map Aq),.sl 3 (f_.Patrol.Hazards.map Ay),.sl 3 (f_.Surfaces.map A1),.sl 5 (f_.Packs.map Az),.sl 6 (f_.Slides.map A3),.sl 7 (f_.Bulletin.map Ar),.sl 7 (f_.Missions.map Ap),.sl 4 (f_.Winches.map Ak),.sl 8 (f_.Groomers.map Ax),.sl 3 (f_.Status.map Aw),.int .i64 f_.Depth,.int .i64 f_.Time],.box [.sl 2 (y3.1.Map.Nodes.map A5),.sl 8 (y3.1.Map.Lifts.map A6),.sl 7 (y3.1.Map.Runs.map Ba),.sl 1 (y3.1.Map.Bases.map Bb),.sl 2 (y3.1.Lifts.map Av),.sl 4 (y3.1.Closures.map Au),.sl 4 (y3.1.Patrol.Bl.map Aq),.sl 3 (y3.1.Patrol.Hazards.map Ay),.sl 3 (y3.1.Surfaces.map A1),.sl 5 (y3.1.Packs.map Az),.sl 6 (y3.1.Slides.map A3),.sl 7 (y3.1.Bulletin.map Ar),.sl 7 (y3.1.Missions.map Ap),.sl 4 (y3.1.Winches.map Ak),.sl 8 (y3.1.Groomers.map Ax),.sl 3 (y3.1.Status.map Aw),.int .i64 y3.1.Depth,.int .i64 y3.1.Time]]) (fun zz=>zz.1≤y5.length∧An (Eu y3 y5) zz.1 ((y5).drop zz.1) zz.2.1=some o5) (fun zz=>y5.length - zz.1) (0,(),()) ⟨Nat.zero_le _,ep⟩ cu cu (fun x=>⟨rfl,rfl,rfl⟩) ?_
 clear ep
 rintro⟨k5,⟨⟩,⟨⟩⟩ ⟨hk5,ep⟩
 dsimp only at hk5 ep ⊢
 refine sq (sq (rg rfl fun K j=>?_))
 intro hm
 refine j _ _ (qn ?_)
 refine AWP.cond (Am (fun hc=>?_) (fun hc=>?_))
 ·have qb:k5<y5.length:=by have:=Akp hc;omega
  obtain⟨fh,b5,pq,h,ep⟩:=Bc ep qb
  have yu:=A9 pq
  have rb:=wk (k:=k5) (by omega)
  unfold Eu at h;try dsimp only at h
  refine sk (qn (sq (bk (sq ?_))))
  refine AWP.draw Tryz.mixed (by kernel_rfl) ?_;intro K j
  refine nS ?_
  refine Bo.of (f:=Bb) (l:=y5) yu ?_
  refine nS ?_
  obtain⟨y8,fp,h⟩:=Ah h
  refine Cf.pure Tryz.call18 (Dt y3.1 y5 fh fp) rfl ?_
  refine nS ?_
  refine j _ _ _ (by kernel_rfl) ?_
  refine qn ?_
  revert h;refine ca rfl (fun hc h=>?_) fun hc h=>?_
  ·refine sq (ar rfl (qn (rt (br (qr (qr ?_))))))
   obtain rfl:=Aa h
   obtain rfl:=Ae ep
   replace h:=Ao nc
   refine br (qr ?_)
   cases h;exact en Tryz.results7
  refine sk (bn (qn (ar rfl (qn ?_))))
  obtain rfl:=Aa h
  refine⟨(k5+1,(),()),⟨by dsimp only;omega,Aj ep⟩,by dsimp only;omega,?_,?_⟩
  ·exact cuw rb
  exact cuw rb
 obtain rfl:=Bg ep (fun hl=>by have:=Ako hc;omega)
 have h:=Bf nc;try dsimp only at h
 have ag:y5.length=k5:=by have:=Ako hc;omega
 subst ag
 refine xt (qe (qe (bs (qn (sq (rg rfl fun K j=>?_))))))
 obtain⟨y9,ic,h⟩:=Ah h
 refine Al.pure Tryz.call24 (Mc y3.1 run ic) rfl fun _ hr=>?_
 subst hr
 refine nS ?_
 refine j _ _ (qn (sq (sq ?_)))
 refine rg rfl fun K j=>?_
 revert h;refine gt (fun hc h=>?_) fun hc h=>?_
 rotate_left
 ·refine j _ _ (qn ?_)
  refine AWP.cond (Bj ?_)
  refine sk (qn (sq (ar rfl (qn (sq ?_)))))
  refine ar rfl (qn (sq ?_))
  refine rg rfl fun K j=>?_
  obtain⟨lk,ph,h⟩:=Ah h
  refine Al.pure Tryz.call22 (Ad.Ab2 (args:=[.agg [.sl 2 (f_.Map.Nodes.map A5),.sl 8 (f_.Map.Lifts.map A6),.sl 7 (f_.Map.Runs.map Ba),.sl 1 (f_.Map.Bases.map Bb),.sl 2 (f_.Lifts.map Av),.sl 4 (f_.Closures.map Au),.sl 4 (f_.Patrol.Bl.map Aq),.sl 3 (f_.Patrol.Hazards.map Ay),.sl 3 (f_.Surfaces.map A1),.sl 5 (f_.Packs.map Az),.sl 6 (f_.Slides.map A3),.sl 7 (f_.Bulletin.map Ar),.sl 7 (f_.Missions.map Ap),.sl 4 (f_.Winches.map Ak),.sl 8 (f_.Groomers.map Ax),.nils,.int .i64 f_.Depth,.int .i64 f_.Time]]) (by simp +decide -implicitDefEqProofs only[go_sem,Eg,Ac.int.injEq,Int.natCast_zero,List.replicate_zero,List.length_take,List.length_drop,Ac.own.injEq,reduceCtorEq,Int.reduceAdd,Sl,Sm,Pd,Sk,Pc]) (E1 (Af.mk f_.Map f_.Lifts f_.Closures f_.Patrol f_.Surfaces f_.Packs f_.Slides f_.Bulletin f_.Missions f_.Winches f_.Groomers [] f_.Depth f_.Time) ph)) rfl fun _ hr=>?_
  subst hr
  refine nS ?_
  refine j _ _ (qn (rt ?_))
  cases h;exact en Tryz.results7
 obtain⟨cf,dt,h⟩:=Ah h
 refine Al.pure Tryz.call22 (E1 y9.1 dt) rfl fun _ hr=>?_
 subst hr
 refine nS ?_
 revert h;refine gf (fun hc h=>?_) fun hc h=>?_
 rotate_left
 ·refine j _ _ (qn ?_)
  refine AWP.cond (Ai ?_)
  refine sq (ar rfl (qn (rt (qr ?_))))
  cases h;exact en Tryz.results7
 obtain⟨dd,eh,h⟩:=Ah h
 refine Al.pure Tryz.call20 (E7 y9.1 eh) rfl fun _ hr=>?_
 subst hr
 refine nS ?_
 obtain⟨dm,ez,h⟩:=Ah h
 refine Al.pure Tryz.call31 (jQ dd run ez) rfl fun _ hr=>?_
 subst hr
 refine nS ?_
 revert h;refine gf (fun hc h=>?_) fun hc h=>?_
 rotate_left
 ·refine j _ _ (qn ?_)
  refine AWP.cond (Ai ?_)
  refine sq (ar rfl (qn (rt (qr ?_))))
  cases h;exact en Tryz.results7
 obtain⟨er,iu,h⟩:=Ah h
 refine Al.pure Tryz.call20 (E7 y9.1 iu) rfl fun _ hr=>?_
 subst hr
 refine nS ?_
 intro hm
 intro hm
 refine j _ _ (qn ?_)
 revert h;refine ca rfl (fun hc h=>?_) fun hc h=>?_
 ·refine sq (ar rfl (qn (rt (qr ?_))))
  cases h;exact en Tryz.results7
 refine sk (qn (sq (ar rfl (qn (sq ?_)))))
 refine ar rfl (qn (sq ?_))
 refine rg rfl fun K j=>?_
 obtain⟨jy,pj,h⟩:=Ah h
 refine Al.pure Tryz.call22 (Ad.Ab2 (args:=[.agg [.sl 2 (f_.Map.Nodes.map A5),.sl 8 (f_.Map.Lifts.map A6),.sl 7 (f_.Map.Runs.map Ba),.sl 1 (f_.Map.Bases.map Bb),.sl 2 (f_.Lifts.map Av),.sl 4 (f_.Closures.map Au),.sl 4 (f_.Patrol.Bl.map Aq),.sl 3 (f_.Patrol.Hazards.map Ay),.sl 3 (f_.Surfaces.map A1),.sl 5 (f_.Packs.map Az),.sl 6 (f_.Slides.map A3),.sl 7 (f_.Bulletin.map Ar),.sl 7 (f_.Missions.map Ap),.sl 4 (f_.Winches.map Ak),.sl 8 (f_.Groomers.map Ax),.nils,.int .i64 f_.Depth,.int .i64 f_.Time]]) (by simp +decide -implicitDefEqProofs only[go_sem,Eg,Ac.int.injEq,Int.natCast_zero,List.replicate_zero,List.length_take,List.length_drop,Ac.own.injEq,reduceCtorEq,Int.reduceAdd,Sl,Sm,Pd,Sk,Pc]) (E1 (Af.mk f_.Map f_.Lifts f_.Closures f_.Patrol f_.Surfaces f_.Packs f_.Slides f_.Bulletin f_.Missions f_.Winches f_.Groomers [] f_.Depth f_.Time) pj)) rfl fun _ hr=>?_
 subst hr
 refine nS ?_
 refine j _ _ (qn (rt ?_))
 cases h;exact en Tryz.results7
end
end Go.Proofs.YtjopghiagoidgaaGreat
namespace Go.Proofs.YtjopghiagoidgaaGreat
open Go Go.Ab
set_option linter.unusedSimpArgs false
set_option linter.unusedVariables false
inductive Rch (l:List A7) (S:Int→Prop):Int→Prop
  | base {n:Int}:S n→Rch l S n
  | step {e:A7}:e∈l→Rch l S e.From→Rch l S e.To
theorem Rch.mono {l l':List A7} {S T:Int→Prop} (hl:∀ e∈l,e∈l') (hS:∀ n,S n→T n) {n:Int} (h:Rch l S n):Rch l' T n:=by
  induction h with
  | base h=>exact .base (hS _ h)
  | step he _ ih=>exact .step (hl _ he) ih
structure Pt (l:List A7) (f r:List Int):Prop where
  inc:Inc r
  mem:∀ n,n∈r↔Rch l (·∈f) n
theorem Pt.unique {l:List A7} {f r r':List Int} (h:Pt l f r) (h':Pt l f r'):r=r':=
  Pq h.inc h'.inc fun x=>by rw[h.mem,h'.mem]
theorem Pt.of_closed {l:List A7} {f r:List Int} (h:Inc r) (h1:∀ n∈r,Rch l (·∈f) n) (h2:∀ n∈f,n∈r) (h3:∀ e∈l,e.From∈r→e.To∈r):Pt l f r:=
  ⟨h,fun n=>⟨h1 n,fun hr=>by
    induction hr with
    | base h=>exact h2 _ h
    | step he _ ih=>exact h3 _ he ih⟩⟩
theorem Rg {l:List A7} {f:List Int} {n:Int} (h:Rch l (·∈f) n):n∈f++l.map (·.To):=by
  cases h with
  | base h=>exact Akz.2 (.inl h)
  | step he _=>exact Akz.2 (.inr (List.mem_map_of_mem he))
def Z8 (e:A7):A7:=⟨e.ID,e.To,e.From,e.Cost⟩
def turn (l:List A7):List A7:=l.map Z8
theorem gU {l:List A7} {e:A7}:e∈turn l↔Z8 e∈l:=by
  unfold turn
  rw[List.mem_map]
  constructor
  ·rintro⟨x,hx,rfl⟩;exact hx
  ·intro h;exact⟨Z8 e,h,rfl⟩
def Jw (l:List A7):Int→List A7→Int→Prop
  | n,[],t=>n=t
  | n,e::es,t=>e∈l∧e.From=n∧Jw l e.To es t
def ecost (es:List A7):Int:=(es.map (·.Cost)).sum
theorem Pg (e:A7) (es:List A7):ecost (e::es)=e.Cost+ecost es:=by simp[ecost]
theorem lI:∀ (a b:List A7),ecost (a++b)=ecost a+ecost b
  | [],b=>by simp[ecost]
  | e::a,b=>by rw[List.cons_append,Pg,Pg,lI a b];omega
theorem Yk {l:List A7}:∀ {a b:List A7} {n t:Int},Jw l n (a++b) t↔∃ m,Jw l n a m∧Jw l m b t
  | [],b,n,t=>by simp[Jw]
  | e::a,b,n,t=>by
    simp only[List.cons_append,Jw,Yk (a:=a)]
    constructor
    ·rintro⟨h1,h2,m,h3,h4⟩;exact⟨m,⟨h1,h2,h3⟩,h4⟩
    ·rintro⟨m,⟨h1,h2,h3⟩,h4⟩;exact⟨h1,h2,m,h3,h4⟩
theorem Jw.mem {l:List A7}:∀ {es:List A7} {n t:Int},Jw l n es t→∀ e∈es,e∈l
  | [],n,t,h,e,he=>by simp at he
  | x::es,n,t,h,e,he=>by
    rcases List.mem_cons.1 he with rfl | he
    ·exact h.1
    ·exact Jw.mem h.2.2 e he
theorem Jw.mono {l l':List A7} (hs:∀ e∈l,e∈l'):∀ {es:List A7} {n t:Int},Jw l n es t→Jw l' n es t
  | [],n,t,h=>h
  | x::es,n,t,h=>⟨hs _ h.1,h.2.1,Jw.mono hs h.2.2⟩
def lexle (a b:Int×Nat):Prop:=a.1<b.1∨(a.1=b.1∧a.2≤b.2)
theorem lexle.refl (a:Int×Nat):lexle a a:=.inr ⟨rfl,Nat.le_refl _⟩
theorem lexle.trans {a b c:Int×Nat} (h:lexle a b) (k:lexle b c):lexle a c:=by
  unfold lexle at *;omega
theorem lexle.antisymm {a b:Int×Nat} (h:lexle a b) (k:lexle b a):a=b:=by
  obtain⟨a1,a2⟩:=a;obtain⟨b1,b2⟩:=b
  unfold lexle at *
  simp only at h k
  have h1:a1=b1:=by omega
  have h2:a2=b2:=by omega
  rw[h1,h2]
theorem lexle.add {a b:Int×Nat} (h:lexle a b) (c:Int):lexle (a.1+c,a.2+1) (b.1+c,b.2+1):=by
  unfold lexle at *;simp only;omega
theorem lexle.sub {a b:Int×Nat} {c:Int} (h:lexle (a.1+c,a.2+1) (b.1+c,b.2+1)):lexle a b:=by
  unfold lexle at *;simp only at h;omega
def cst (es:List A7):Int×Nat:=(ecost es,es.length)
theorem aW (e:A7) (es:List A7):cst (e::es)=((cst es).1+e.Cost,(cst es).2+1):=by
  unfold cst;rw[Pg,Int.add_comm];rfl
theorem lJ {α:Type} [DecidableEq α]:∀ {es:List α},¬ es.Nodup→∃ a e b d,es=a++e::(b++e::d)
  | [],h=>absurd List.nodup_nil h
  | x::es,h=>by
    by_cases hx:x∈es
    ·obtain⟨b,d,rfl⟩:=List.append_of_mem hx
     exact⟨[],x,b,d,rfl⟩
    ·have:¬ es.Nodup:=fun hn=>h (List.nodup_cons.2 ⟨hx,hn⟩)
     obtain⟨a,e,b,d,rfl⟩:=lJ this
     exact⟨x::a,e,b,d,rfl⟩
theorem shorten {l:List A7} (h0:∀ e∈l,0≤e.Cost):∀ (k:Nat) {n t:Int} {es:List A7},es.length≤k→Jw l n es t→∃ es',Jw l n es' t∧es'.length≤l.length∧lexle (cst es') (cst es)
  | 0,n,t,es,hk,h=>⟨es,h,by omega,.refl _⟩
  | k+1,n,t,es,hk,h=>by
    by_cases hn:es.Nodup
    ·exact⟨es,h,Gq hn (Jw.mem h),.refl _⟩
    ·obtain⟨a,e,b,d,rfl⟩:=lJ hn
     obtain⟨m,h1,h2,h3,h4⟩:=Yk.1 h
     obtain⟨m',h5,h6,h7,h8⟩:=Yk.1 h4
     have hc:Jw l n (a++e::d) t:=Yk.2 ⟨m,h1,h2,h3,h8⟩
     obtain⟨es',g1,g2,g3⟩:=shorten h0 k (by simp at hk ⊢;omega) hc
     refine⟨es',g1,g2,g3.trans ?_⟩
     have hb:0≤ecost b:=by
       have:∀ {b:List A7},(∀ e∈b,0≤e.Cost)→0≤ecost b:=by
         intro b
         induction b with
         | nil=>intro _;simp[ecost]
         | cons x b ih=>intro h;rw[Pg];have:=h x (by simp);have:=ih fun y hy=>h y (List.mem_cons_of_mem _ hy);omega
       exact this fun x hx=>h0 x (Jw.mem h5 x hx)
     have he:=h0 e h2
     unfold lexle cst
     simp only[lI,Pg,Akw,List.length_cons]
     omega
structure dW (l:List A7) (t n:Int) (p:Int×Nat):Prop where
  walk:∃ es,Jw l n es t∧p=cst es
  least:∀ es,Jw l n es t→lexle p (cst es)
theorem dW.unique {l:List A7} {t n:Int} {p q:Int×Nat} (h:dW l t n p) (k:dW l t n q):p=q:=by
  obtain⟨es,h1,h2⟩:=h.walk
  obtain⟨es',k1,k2⟩:=k.walk
  exact(k2 ▸ h.least es' k1).antisymm (h2 ▸ k.least es h1)
theorem dW.Ab1 {l:List A7} (h0:∀ e∈l,0≤e.Cost) {t:Int}:dW l t t (0,0):=by
  refine⟨⟨[],rfl,rfl⟩,fun es h=>?_⟩
  have:0≤ecost es:=by
    have:∀ {b:List A7},(∀ e∈b,0≤e.Cost)→0≤ecost b:=by
      intro b
      induction b with
      | nil=>intro _;simp[ecost]
      | cons x b ih=>intro h;rw[Pg];have:=h x (by simp);have:=ih fun y hy=>h y (List.mem_cons_of_mem _ hy);omega
    exact this fun x hx=>h0 x (Jw.mem h x hx)
  unfold lexle cst;simp only;omega
def Good (l:List A7) (t n:Int) (e:A7):Prop:=e∈l∧e.From=n∧∃ p,dW l t e.To p∧dW l t n (p.1+e.Cost,p.2+1)
theorem dW.step {l:List A7} {t n:Int} {p:Int×Nat} (h:dW l t n p) (hn:n≠t):∃ e,Good l t n e:=by
  obtain⟨es,h1,h2⟩:=h.walk
  cases es with
  | nil=>exact absurd h1 hn
  | cons e es=>
    refine⟨e,h1.1,h1.2.1,cst es,⟨⟨es,h1.2.2,rfl⟩,fun es' h'=>?_⟩,by rw[← aW,← h2];exact h⟩
    have:=h.least (e::es') ⟨h1.1,h1.2.1,h'⟩
    rw[h2,aW,aW]at this
    exact this.sub
inductive Q9 (l:List A7) (t:Int):Int→List Int→Prop
  | done:Q9 l t t []
  | step {n:Int} {i:Nat} {e:A7} {ids:List Int}:n≠t→l[i]? =some e→Good l t n e→(∀ j e',j<i→l[j]? =some e'→¬ Good l t n e')→Q9 l t e.To ids→Q9 l t n (e.ID::ids)
theorem Q9.unique {l:List A7} {t n:Int} {a b:List Int} (h:Q9 l t n a) (k:Q9 l t n b):a=b:=by
  induction h generalizing b with
  | done=>
    cases k with
    | done=>rfl
    | step hn=>exact absurd rfl hn
  | @step n i e ids hn hi hg hf _ ih=>
    cases k with
    | done=>exact absurd rfl hn
    | @step _ i' e' ids' mw de hg' ri ff=>
      have:i=i':=by
        rcases Nat.lt_trichotomy i i' with h | h | h
        ·exact absurd hg (ri i e h hi)
        ·exact h
        ·exact absurd hg' (hf i' e' h de)
      subst this
      rw[hi]at de
      obtain rfl:=Ak0 de
      rw[ih ff]
theorem Q9.walk {l:List A7} {t n:Int} {ids:List Int} (h:Q9 l t n ids) {p:Int×Nat} (hb:dW l t n p) (h0:∀ e∈l,0≤e.Cost):∃ es,Jw l n es t∧es.map (·.ID)=ids∧cst es=p:=by
  induction h generalizing p with
  | done=>exact ⟨[],rfl,rfl,(dW.Ab1 h0).unique hb⟩
  | @step n i e ids hn hi hg hf _ ih=>
    obtain⟨g1,g2,q,g3,g4⟩:=hg
    obtain⟨es,e1,e2,e3⟩:=ih g3
    exact⟨e::es,⟨g1,g2,e1⟩,by rw[List.map_cons,e2],by rw[aW,e3];exact g4.unique hb⟩
inductive qS (l:List A7) (f t:Int):List Int×Int×Bool→Prop
  | none:(∀ es,¬ Jw l f es t)→qS l f t ([],0,false)
  | some {p:Int×Nat} {ids:List Int}:dW l t f p→Q9 l t f ids→qS l f t (ids,p.1,true)
theorem qS.unique {l:List A7} {f t:Int} {r r':List Int×Int×Bool} (h:qS l f t r) (k:qS l f t r'):r=r':=by
  cases h with
  | none h=>
    cases k with
    | none=>rfl
    | some hb=>obtain ⟨es,h1,_⟩:=hb.walk;exact absurd h1 (h es)
  | some hb hp=>
    cases k with
    | none k=>obtain ⟨es,h1,_⟩:=hb.walk;exact absurd h1 (k es)
    | some kb kp=>rw[hb.unique kb,hp.unique kp]
abbrev Tab:=Int→Option (Int×Nat)
def lexlt (a b:Int×Nat):Prop:=a.1<b.1∨(a.1=b.1∧a.2<b.2)
instance (a b:Int×Nat):Decidable (lexlt a b):=by unfold lexlt;infer_instance
def TLe (x y:Option (Int×Nat)):Prop:=∀ b,y=some b→∃ a,x=some a∧lexle a b
theorem TLe.refl (x:Option (Int×Nat)):TLe x x:=fun b h=>⟨b,h,.refl b⟩
theorem TLe.trans {x y z:Option (Int×Nat)} (h:TLe x y) (k:TLe y z):TLe x z:=fun b hb=>by
  obtain⟨a,h1,h2⟩:=k b hb
  obtain⟨c,h3,h4⟩:=h a h1
  exact⟨c,h3,h4.trans h2⟩
def Cov (l:List A7) (t:Int) (T:Tab) (i:Nat):Prop:=∀ n es,Jw l n es t→es.length≤i→TLe (T n) (some (cst es))
theorem Cov.all {l:List A7} (h0:∀ e∈l,0≤e.Cost) {t:Int} {T:Tab} {i:Nat} (h:Cov l t T i) (hi:l.length≤i):∀ j,Cov l t T j:=by
  intro j n es hc _
  obtain⟨es',g1,g2,g3⟩:=shorten h0 _ (Nat.le_refl _) hc
  refine(h n es' g1 (by omega)).trans fun b hb=>?_
  obtain rfl:=Ak0 hb
  exact⟨_,rfl,g3⟩
structure Exact (l:List A7) (t:Int) (T:Tab):Prop where
  best:∀ n p,T n=some p↔dW l t n p
  cov:∀ i,Cov l t T i
theorem Exact.none {l:List A7} {t:Int} {T:Tab} (h:Exact l t T) {n:Int} (hn:T n=none):∀ es,¬ Jw l n es t:=fun es hc=>by
  obtain⟨a,h1,_⟩:=h.cov es.length n es hc (Nat.le_refl _) _ rfl
  rw[hn]at h1;cases h1
theorem back_eq {l:List A7} (hl:l.length≤100000) (f:List Int):Sa l f=G7 (turn l) f:=by
  unfold Sa E4
  rw[B1 (by omega),Aku]
  obtain⟨s,h1,h2,h3⟩:=Eb (ρ:=List Int) (step:=Mt) (l:=l) (s:=l) (fun k s=>s.length=l.length∧∀ i e,l[i]? =some e→s[i]? =some (if i<k then Z8 e else e)) ⟨rfl,fun i e h=>by simpa using h⟩ (fun k x s hk ⟨i1,i2⟩=>by
    have af:=(Ak1.1 hk).1
    have hx:=i2 k x hk
    rw[if_neg (Nat.lt_irrefl k)]at hx
    refine⟨(s.set k (A7.mk x.ID x.To x.To x.Cost)).set k (Z8 x),?_,by simp[i1],fun i e he=>?_⟩
    ·unfold Mt
     rw[A9 hx,Aku];rfl
    ·rw[List.set_set]
     by_cases h:k=i
     ·subst h
      rw[hk]at he;obtain rfl:=Ak0 he
      rw[List.getElem?_set_self (by omega),if_pos (by omega)]
     ·rw[List.getElem?_set_ne h,i2 i e he]
      by_cases h2:i<k
      ·rw[if_pos h2,if_pos (by omega)]
      ·rw[if_neg h2,if_neg (by omega)])
  rw[h1]
  have:s=turn l:=by
    apply List.ext_getElem?
    intro i
    unfold turn
    rw[List.getElem?_map]
    by_cases hi:i<l.length
    ·have he:=Aks hi
     rw[h3 i _ he,he,if_pos hi];rfl
    ·rw[List.getElem?_eq_none (by omega),List.getElem?_eq_none (by omega)];rfl
  subst this
  show(G7 (turn l) f).bind _=_
  cases G7 (turn l) f<;>rfl
theorem gQ (l:List A7) (n:Int):mget [] (Ck l) n=(l.filter fun e=>decide (e.From=n)).map (·.To):=by
  have key:∀ (l:List A7) (g:List (Int×List Int)),mget [] (l.foldl (fun g e=>gadd g e.From e.To) g) n=mget [] g n++(l.filter fun e=>decide (e.From=n)).map (·.To):=by
    intro l
    induction l with
    | nil=>intro g;simp
    | cons e l ih=>
      intro g
      rw[List.foldl_cons,ih,vH]
      by_cases h:e.From=n<;>simp[h]
  have:=key l []
  simpa[mget,Ck]using this
theorem jT (l:List A7) (m:List (Int×Bool)) (i:List Int) (x:Int) (hi:i.length≤549755813888) :
    Gf l (m,i++[x])=bif (!(mget false m x))then chk (i.length+(mget [] (Ck l) x).length) (some (Out.next (mset m x true,i++mget [] (Ck l) x)))else some (Out.next (m,i)):=by
  unfold Gf
  have e1:IntKind.i64.wrap ((((i++[x]).length:Nat):Int) - 1)=((i.length:Nat):Int):=by
    rw[wrap_i64]<;>simp<;>omega
  simp only[e1]
  rw[Akq (show(0:Int)<(((i++[x]).length:Nat):Int) by simp),cond_true,A9 (x:=x) (by simp),Aku,Nh (by simp;omega)]
  simp[List.take_left]
theorem nZ {l:List A7} {f:List Int} (hl:l.length≤100000) (hf:f.length≤100000) (hE:∀ e∈l,I64 e.To) (hF:∀ n∈f,I64 n):∃ r,G7 l f=some r∧Pt l f r:=by
  have hlen:∀ n,(mget [] (Ck l) n).length≤l.length:=fun n=>by
    rw[gQ,Aky];exact List.length_filter_le _ _
  have hC:(f++l.map (·.To)).length=f.length+l.length:=by simp
  have hB:(f.length+l.length)*(l.length+1)+f.length≤30000000000:=by
    have:=Nat.mul_le_mul (show f.length+l.length≤200000 by omega) (show l.length+1≤100001 by omega)
    omega
  obtain⟨r,h1,h2⟩:=Hd (step:=Gf l)
    (fun s=>(mkeys s.1).Nodup∧(∀ n,mget false s.1 n=true↔n∈mkeys s.1)∧(∀ n∈mkeys s.1,Rch l (·∈f) n)∧(∀ n∈s.2,Rch l (·∈f) n)∧(∀ n∈f,n∈mkeys s.1∨n∈s.2)∧(∀ e∈l,e.From∈mkeys s.1→e.To∈mkeys s.1∨e.To∈s.2)∧
      (f.length+l.length - s.1.length)*(l.length+1)+s.2.length≤30000000000)
    (fun r=>Pt l f r) (fun s=>(f.length+l.length - s.1.length)*(l.length+1)+s.2.length) (fun s ⟨i1,i2,i3,i4,i5,i6,i7⟩=>by
      obtain⟨m,o⟩:=s
      simp only at i1 i2 i3 i4 i5 i6 i7 ⊢
      have hk:m.length≤f.length+l.length:=by
        have:=Gq i1 (b:=f++l.map (·.To)) fun n hn=>Rg (i3 n hn)
        rw[hC]at this
        simpa[mkeys]using this
      have ho:o=[]∨∃ i x,o=i++[x]:=by
        rcases List.eq_nil_or_concat o with h | ⟨i,x,h⟩
        ·exact .inl h
        ·exact .inr ⟨i,x,by rw[h,List.concat_eq_append]⟩
      rcases ho with rfl | ⟨i,x,rfl⟩
      ·refine .inr ⟨Dk (mkeys m),?_,?_⟩
       ·unfold Gf
        have hr:∀ k∈mkeys m, -9223372036854775808≤k∧k≤9223372036854775807:=fun k hk=>by
          rcases Akz.1 (Rg (i3 k hk))with h | h
          ·exact hF k h
          ·obtain⟨e,he,rfl⟩:=List.mem_map.1 h;exact hE e he
        simp only[List.length_nil,Int.natCast_zero,Int.lt_irrefl,decide_false,cond_false]
        rw[Nh hr,B1 (by omega)];rfl
       ·refine .of_closed (uT i1) (fun n hn=>i3 n ((Nk _ _).1 hn)) (fun n hn=>(Nk _ _).2 ?_) (fun e he hm=>(Nk _ _).2 ?_)
        ·simpa using i5 n hn
        ·simpa using i6 e he ((Nk _ _).1 hm)
      ·simp only[Akw,List.length_cons,List.length_nil]at i7
       rw[jT l m i x (by omega)]
       have hx:=i4 x (by simp)
       cases hb:mget false m x with
       | false=>
         have ec:x ∉ mkeys m:=fun h=>by rw[(i2 x).2 h]at hb;cases hb
         have tp:=hlen x
         have hle:m.length+1≤f.length+l.length:=by
           have hn:(x::mkeys m).Nodup:=List.nodup_cons.2 ⟨ec,i1⟩
           have:=Gq hn (b:=f++l.map (·.To)) fun n hn=>by
             rcases List.mem_cons.1 hn with rfl | hn
             ·exact Rg hx
             ·exact Rg (i3 n hn)
           rw[hC]at this
           simpa[mkeys]using this
         have hml:(mset m x true).length=m.length+1:=by
           have hh:mhas m x=false:=by
             cases h:mhas m x with
             | false=>rfl
             | true=>exact absurd ((gT m x).1 h) ec
           rw[oO,hh];rfl
         have dp:mkeys (mset m x true)=mkeys m++[x]:=by rw[Ya,if_neg ec]
         obtain⟨d,hd⟩:∃ d,f.length+l.length=m.length+1+d:=⟨_,(Nat.add_sub_cancel' hle).symm⟩
         have e1:f.length+l.length - m.length=d+1:=by omega
         have e2:f.length+l.length - (m.length+1)=d:=by omega
         rw[e1,Nat.succ_mul]at i7
         simp only[Bool.not_false,cond_true]
         rw[B1 (by omega)]
         refine .inl ⟨_,rfl,⟨rX i1 _ _,fun n=>?_,fun n hn=>?_,fun n hn=>?_,fun n hn=>?_,fun e he hm=>?_,?_⟩,?_⟩
         ·simp only[dp,Yb,Akz,List.mem_singleton]
          by_cases h:x=n
          ·simp[h]
          ·rw[if_neg h,i2];exact⟨.inl,fun h'=>h'.elim id fun h'=>absurd h'.symm h⟩
         ·simp only[dp,Akz,List.mem_singleton]at hn
          rcases hn with hn | rfl
          ·exact i3 n hn
          ·exact hx
         ·rcases Akz.1 hn with hn | hn
          ·exact i4 n (by simp[hn])
          ·rw[gQ]at hn
           obtain⟨e,he,rfl⟩:=List.mem_map.1 hn
           have:=List.mem_filter.1 he
           have hfx:=Akp this.2
           exact .step this.1 (hfx ▸ hx)
         ·simp only[dp,Akz,List.mem_singleton]
          rcases i5 n hn with h | h
          ·exact .inl (.inl h)
          ·rcases Akz.1 h with h | h
           ·exact .inr (.inl h)
           ·exact .inl (.inr (by simpa using h))
         ·simp only[dp,Akz,List.mem_singleton]at hm ⊢
          rcases hm with hm | hm
          ·rcases i6 e he hm with h | h
           ·exact .inl (.inl h)
           ·rcases Akz.1 h with h | h
            ·exact .inr (.inl h)
            ·exact .inl (.inr (by simpa using h))
          ·refine .inr (.inr ?_)
           rw[gQ]
           exact List.mem_map.2 ⟨e,List.mem_filter.2 ⟨he,Akq hm⟩,rfl⟩
         ·simp only[hml,e2,Akw];omega
         ·simp only[hml,e1,e2,Akw,Nat.succ_mul,List.length_cons,List.length_nil];omega
       | true=>
         have hold:=(i2 x).1 hb
         refine .inl ⟨_,rfl,⟨i1,i2,i3,fun n hn=>i4 n (by simp[hn]),fun n hn=>?_,fun e he hm=>?_,?_⟩,?_⟩
         ·rcases i5 n hn with h | h
          ·exact .inl h
          ·rcases Akz.1 h with h | h
           ·exact .inr h
           ·exact .inl (by rw[show n=x by simpa using h];exact hold)
         ·rcases i6 e he hm with h | h
          ·exact .inl h
          ·rcases Akz.1 h with h | h
           ·exact .inr h
           ·exact .inl (by rw[show e.To=x by simpa using h];exact hold)
         ·simp only;omega
         ·simp only[Akw,List.length_cons,List.length_nil];omega)
    fuel ([],f) ⟨by simp[mkeys],by simp[mget,mkeys],by simp[mkeys],fun n hn=>.base hn,fun n hn=>.inr hn,by simp[mkeys],by simpa using hB⟩ (by show _<1099511627776;simp only[List.length_nil,Nat.sub_zero];omega)
  refine⟨r,?_,h2⟩
  unfold G7 Cc
  rw[B1 (by omega),B1 (by omega),Aku,h1];rfl
def Ey (n_:Int) (least:Int) (most:Int):Option (Bool):=
  (bif (decide (least≤n_))then some (decide (n_≤most))else some false)
def O5 (m:Bd) (k0:Nat) (ab:Cr) (sv:Unit):Option (Out (Unit) (Int)):=
  (Ey ab.ID (1:Int) (9999:Int)).bind fun y3=>(bif (!y3)then some (Out.ret (2:Int))else (Ey ab.Alt (0:Int) (5000:Int)).bind fun y4=>(bif (!y4)then some (Out.ret (2:Int))else (bif (decide ((0:Int)<((k0:Nat):Int)))then (Dv m.Nodes (IntKind.i64.wrap (((k0:Nat):Int) - (1:Int)))).bind fun ch=>(bif (decide (ab.ID≤ch.ID))then some (Out.ret (7:Int))else some (Out.next ()))else some (Out.next ()))))
def Td (m:Bd):Option (Int):=
  (An (O5 m) 0 m.Nodes ()).bind fun o0=>o0.on fun s0=>some (0:Int)
def Lk (m:Bd) (ab:Co):Option (Out (Unit) (Int)):=
  (Et m ab.From).bind fun cf=>(Et m ab.To).bind fun dd=>(bif (!cf.2)then some (Out.ret (8:Int))else (bif (!dd.2)then some (Out.ret (8:Int))else (bif (decide (dd.1.Alt≤cf.1.Alt))then some (Out.ret (11:Int))else nz ab.Spacing ((bif (decide ((Int.tmod (IntKind.i64.wrap ((2:Int)*ab.Length)) ab.Spacing)≠(0:Int)))then some (Out.ret (1:Int))else nz ab.Spacing ((Ey (IntKind.i64.wrap (Int.tdiv (IntKind.i64.wrap ((2:Int)*ab.Length)) ab.Spacing)) (1:Int) (200:Int)).bind fun dm=>(bif (!dm)then some (Out.ret (1:Int))else some (Out.next ()))))))))
def Hz (m:Bd) (k0:Nat) (ab:Co) (sv:Unit):Option (Out (Unit) (Int)):=
  (Ey ab.ID (1:Int) (9999:Int)).bind fun y3=>(bif (!y3)then some (Out.ret (2:Int))else (Ey ab.Operator (1:Int) (8:Int)).bind fun y4=>(bif (!y4)then some (Out.ret (2:Int))else (Ey ab.Length (10:Int) (6000:Int)).bind fun y5=>(bif (!y5)then some (Out.ret (2:Int))else (Ey ab.Speed (500:Int) (12000:Int)).bind fun y6=>(bif (!y6)then some (Out.ret (2:Int))else (Ey ab.Seats (1:Int) (16:Int)).bind fun y7=>(bif (!y7)then some (Out.ret (2:Int))else (Ey ab.Spacing (5:Int) (1000:Int)).bind fun y8=>(bif (!y8)then some (Out.ret (2:Int))else (bif (decide ((0:Int)<((k0:Nat):Int)))then (Dv m.Lifts (IntKind.i64.wrap (((k0:Nat):Int) - (1:Int)))).bind fun nq=>(bif (decide (ab.ID≤nq.ID))then some (Out.ret (7:Int))else Lk m ab)else Lk m ab)))))))
def Pl (m:Bd):Option (Int):=
  (An (Hz m) 0 m.Lifts ()).bind fun o0=>o0.on fun s0=>some (0:Int)
def Jh (m:Bd) (k0:Nat) (ab:Cq) (sv:Unit):Option (Out (Unit) (Int)):=
  (Ey ab.ID (1:Int) (9999:Int)).bind fun y3=>(bif (!y3)then some (Out.ret (2:Int))else (Ey ab.Operator (1:Int) (8:Int)).bind fun y4=>(bif (!y4)then some (Out.ret (2:Int))else (Ey ab.Grade (1:Int) (4:Int)).bind fun y5=>(bif (!y5)then some (Out.ret (2:Int))else (Ey ab.Zone (1:Int) (32:Int)).bind fun y6=>(bif (!y6)then some (Out.ret (2:Int))else (Ey ab.Length (10:Int) (20000:Int)).bind fun y7=>(bif (!y7)then some (Out.ret (2:Int))else (bif (decide ((0:Int)<((k0:Nat):Int)))then (Dv m.Runs (IntKind.i64.wrap (((k0:Nat):Int) - (1:Int)))).bind fun dz=>(bif (decide (ab.ID≤dz.ID))then some (Out.ret (7:Int))else (Et m ab.From).bind fun y9=>(Et m ab.To).bind fun cf=>(bif (!y9.2)then some (Out.ret (8:Int))else (bif (!cf.2)then some (Out.ret (8:Int))else (bif (decide (y9.1.Alt≤cf.1.Alt))then some (Out.ret (11:Int))else some (Out.next ())))))else (Et m ab.From).bind fun dd=>(Et m ab.To).bind fun dm=>(bif (!dd.2)then some (Out.ret (8:Int))else (bif (!dm.2)then some (Out.ret (8:Int))else (bif (decide (dd.1.Alt≤dm.1.Alt))then some (Out.ret (11:Int))else some (Out.next ()))))))))))
def Q1 (m:Bd):Option (Int):=
  (An (Jh m) 0 m.Runs ()).bind fun o0=>o0.on fun s0=>some (0:Int)
def H0 (m:Bd) (k1:Nat) (bb:Int) (sv:Unit):Option (Out (Unit) (Int)):=
  (bif (decide ((0:Int)<((k1:Nat):Int)))then (Dv m.Bases (IntKind.i64.wrap (((k1:Nat):Int) - (1:Int)))).bind fun au=>(bif (decide (bb≤au))then some (Out.ret (7:Int))else some (Out.next ()))else some (Out.next ()))
def bO (m:Bd):Option (Int):=
  (An (H0 m) 0 m.Bases ()).bind fun o1=>o1.on fun s1=>some (0:Int)
def F6 (m:Bd) (k4:Nat) (cx:Int) (sv:Unit):Option (Out (Unit) (Int)):=
  (Et m cx).bind fun y7=>(bif (!y7.2)then some (Out.ret (8:Int))else some (Out.next ()))
def Te (m:Bd):Option (Int):=
  (bif (decide (((m.Bases.length:Nat):Int)=(0:Int)))then some (8:Int)else (An (F6 m) 0 m.Bases ()).bind fun o4=>o4.on fun s4=>bO m)
def fT (m:Bd):Option (Int):=
  (bif (decide ((64:Int)<((m.Nodes.length:Nat):Int)))then some (4:Int)else (bif (decide ((32:Int)<((m.Lifts.length:Nat):Int)))then some (4:Int)else (bif (decide ((64:Int)<((m.Runs.length:Nat):Int)))then some (4:Int)else (bif (decide ((64:Int)<((m.Bases.length:Nat):Int)))then some (4:Int)else (Td m).bind fun y1=>(bif (decide (y1≠(0:Int)))then some y1 else(Pl m).bind fun y2=>(bif (decide (y2≠(0:Int)))then some y2 else(Q1 m).bind fun y3=>(bif (decide (y3≠(0:Int)))then some y3 else(Te m).bind fun y4=>some y4)))))))
def Xg {α:Type} (idf:α→Int) (d:α) (l:List α) (id:Int):α×Bool:=match l.find? (fun x=>decide (idf x=id))with | some x=>(x,true) | none=>(d,false)
def Dc (m:Bd) (id:Int):Cr×Bool:=Xg Cr.ID ⟨0,0⟩ m.Nodes id
def Acq (m:Bd) (id:Int):Co×Bool:=Xg Co.ID ⟨0,0,0,0,0,0,0,0⟩ m.Lifts id
def Gv (m:Bd) (id:Int):Cq×Bool:=Xg Cq.ID ⟨0,0,0,0,0,0,0⟩ m.Runs id
theorem Xf {α:Type} {idf:α→Int} {d:α} {l:List α} {id:Int} {step:Nat→α→Unit→Option (Out Unit (α×Bool))} (hs:∀ k x,x∈l→step k x ()=bif decide (idf x=id)then some (.ret (x,true))else some (.next ())) :
    ((An step 0 l ()).bind fun o=>o.on fun _=>some (d,false))=some (Xg idf d l id):=by
  rw[Fk (fun x=>decide (idf x=id)) (fun x=>(x,true)) hs,Xg]
  cases l.find? (fun x=>decide (idf x=id))<;>rfl
theorem iQ {α:Type} {idf:α→Int} {d:α} {l:List α} {id:Int} (h:(Xg idf d l id).2=true):(Xg idf d l id).1∈l∧idf (Xg idf d l id).1=id:=by
  unfold Xg at h ⊢
  split
  ·rename_i x hx
   exact⟨List.mem_of_find?_eq_some hx,by simpa using List.find?_some hx⟩
  ·rename_i hx;rw[hx]at h;cases h
theorem vX {α:Type} {idf:α→Int} {d:α} {l:List α} {x:α} (h:x∈l):(Xg idf d l (idf x)).2=true:=by
  unfold Xg
  split
  ·rfl
  ·rename_i hx
   have:=List.find?_eq_none.1 hx x h
   simp at this
theorem Zo {m:Bd} {id:Int} (h:(Dc m id).2=true):(Dc m id).1∈m.Nodes∧(Dc m id).1.ID=id:=iQ h
theorem bR {m:Bd} {id:Int} (h:(Gv m id).2=true):(Gv m id).1∈m.Runs∧(Gv m id).1.ID=id:=iQ h
theorem Hg (m:Bd) (id:Int):Et m id=some (Dc m id):=Xf fun _ _ _=>rfl
theorem Rb (n lo hi:Int):Ey n lo hi=some (decide (lo≤n∧n≤hi)):=by
  unfold Ey
  by_cases h:lo≤n
  ·simp[h]
  ·simp[h]
theorem yA (n lo hi:Int):Fg n lo hi=some (decide (lo≤n∧n≤hi)):=Rb n lo hi
def Fv {α:Type} (idf:α→Int) (l:List α):Prop:=∀ k x y,l[k+1]? =some x→l[k]? =some y→idf y<idf x
def before {α ρ:Type} (idf:α→Int) (l:List α) (k:Nat) (x:α) (bad good:Option (Out Unit ρ)):Option (Out Unit ρ):=
  bif decide (0<((k:Nat):Int))then (Dv l (IntKind.i64.wrap ((k:Int) - 1))).bind fun y=>bif decide (idf x≤idf y)then bad else good else good
theorem Yl {α ρ:Type} {idf:α→Int} {l:List α} {k:Nat} {x:α} {bad good:Option (Out Unit ρ)} (hk:l[k]? =some x) (hl:l.length≤100000) :
    ((∀ y,0<k→l[k - 1]? =some y→idf y<idf x)∧before idf l k x bad good=good)∨(¬ (∀ y,0<k→l[k - 1]? =some y→idf y<idf x)∧before idf l k x bad good=bad):=by
  have af:=(Ak1.1 hk).1
  unfold before
  by_cases h0:0<k
  ·rw[Akq (by omega),cond_true,Ra h0 (by omega),aN (by omega)]
   have hy:l[k - 1]? =some l[k - 1]:=Aks (by omega)
   show(_∧(bif decide (idf x≤idf l[k - 1])then bad else good)=_)∨(_∧(bif decide (idf x≤idf l[k - 1])then bad else good)=_)
   by_cases hle:idf x≤idf l[k - 1]
   ·rw[Akq hle,cond_true]
    refine .inr ⟨fun h=>?_,rfl⟩
    have:=h _ h0 hy
    omega
   ·rw[Akr hle,cond_false]
    refine .inl ⟨fun y _ rq=>?_,rfl⟩
    rw[hy]at rq
    obtain rfl:=Ak0 rq
    omega
  ·rw[Akr (by omega),cond_false]
   exact .inl ⟨fun y h=>absurd h h0,rfl⟩
theorem Uv {α:Type} {idf:α→Int} {l:List α}:Fv idf l↔∀ (k:Nat) x,l[k]? =some x→∀ y,0<k→l[k - 1]? =some y→idf y<idf x:=by
  constructor
  ·intro h k x hx y h0 hy
   refine h (k - 1) x y ?_ hy
   rwa [show k - 1+1=k by omega]
  ·intro h k x y hx hy
   exact h (k+1) x hx y (by omega) (by simpa using hy)
def zQ (x:Cr):Prop:=(1≤x.ID∧x.ID≤9999)∧(0≤x.Alt∧x.Alt≤5000)
def bJ (m:Bd) (a b:Int):Prop:=(Dc m a).2=true∧(Dc m b).2=true∧(Dc m a).1.Alt<(Dc m b).1.Alt
def Aa6 (x:Co):Prop:=(1≤x.ID∧x.ID≤9999)∧(1≤x.Operator∧x.Operator≤8)∧(10≤x.Length∧x.Length≤6000)∧(500≤x.Speed∧x.Speed≤12000)∧(1≤x.Seats∧x.Seats≤16)∧(5≤x.Spacing∧x.Spacing≤1000)
def bK (x:Co):Prop:=(2*x.Length).tmod x.Spacing=0∧1≤(2*x.Length).tdiv x.Spacing∧(2*x.Length).tdiv x.Spacing≤200
def zR (m:Bd) (x:Co):Prop:=Aa6 x∧bJ m x.From x.To∧bK x
def Ab6 (x:Cq):Prop:=(1≤x.ID∧x.ID≤9999)∧(1≤x.Operator∧x.Operator≤8)∧(1≤x.Grade∧x.Grade≤4)∧(1≤x.Zone∧x.Zone≤32)∧(10≤x.Length∧x.Length≤20000)
def Abd (m:Bd) (x:Cq):Prop:=Ab6 x∧bJ m x.To x.From
structure Li (m:Bd):Prop where
  lenN:m.Nodes.length≤64
  lenL:m.Lifts.length≤32
  lenR:m.Runs.length≤64
  lenB:m.Bases.length≤64
  nodes:∀ x∈m.Nodes,zQ x
  nodesR:Fv Cr.ID m.Nodes
  lifts:∀ x∈m.Lifts,zR m x
  liftsR:Fv Co.ID m.Lifts
  runs:∀ x∈m.Runs,Abd m x
  runsR:Fv Cq.ID m.Runs
  some:m.Bases≠[]
  bases:∀ b∈m.Bases,(Dc m b).2=true
  basesR:Fv (fun b:Int=>b) m.Bases
theorem tests {α:Type} {step:Nat→α→Unit→Option (Out Unit Int)} {l:List α} (ok:Nat→α→Prop) (hs:∀ k x,l[k]? =some x→(step k x ()=some (.next ())∧ok k x)∨(∃ r,step k x ()=some (.ret r)∧r≠0∧¬ ok k x)) :
    ∃ r,((An step 0 l ()).bind fun o=>o.on fun _=>some 0)=some r∧(r=0↔∀ k x,l[k]? =some x→ok k x):=by
  rcases E9 (step:=step) (l:=l) (s:=()) (fun k _=>∀ i x,i<k→l[i]? =some x→ok i x) (fun r=>r≠0∧∃ k x,l[k]? =some x∧¬ ok k x) (fun i x h=>by omega) (fun k x u hk hI=>by
    rcases hs k x hk with⟨h1,h2⟩ | ⟨r,h1,h2,h3⟩
    ·refine .inl ⟨(),h1,fun i y hi hy=>?_⟩
     by_cases h:i=k
     ·subst h;rw[hk]at hy;obtain rfl:=Ak0 hy;exact h2
     ·exact hI i y (by omega) hy
    ·exact .inr ⟨r,h1,h2,k,x,hk,h3⟩)with ⟨u,h1,h2⟩ | ⟨r,h1,h2,k,x,hk,h3⟩
  ·refine⟨0,by rw[h1];rfl,fun _ k x hk=>h2 k x (Ak1.1 hk).1 hk,fun _=>rfl⟩
  ·refine⟨r,by rw[h1];rfl,fun h=>absurd h h2,fun h=>absurd (h k x hk) h3⟩
theorem mY {α:Type} {l:List α} {P:α→Prop} {Q:Nat→α→Prop}:(∀ (k:Nat) x,l[k]? =some x→P x∧Q k x)↔(∀ x∈l,P x)∧∀ (k:Nat) x,l[k]? =some x→Q k x:=by
  constructor
  ·intro h
   refine⟨fun x hx=>?_,fun k x hk=>(h k x hk).2⟩
   obtain⟨k,hk⟩:=List.getElem?_of_mem hx
   exact(h k x hk).1
  ·intro h k x hk
   exact⟨h.1 x (Akt hk),h.2 k x hk⟩
theorem jL (m:Bd) (hl:m.Nodes.length≤64):∃ r,Td m=some r∧(r=0↔(∀ x∈m.Nodes,zQ x)∧Fv Cr.ID m.Nodes):=by
  rw[Uv,← mY]
  refine tests _ fun k x hk=>?_
  have hb:O5 m k x ()=(bif !decide (1≤x.ID∧x.ID≤9999)then some (Out.ret 2)else bif !decide (0≤x.Alt∧x.Alt≤5000)then some (Out.ret 2)else before Cr.ID m.Nodes k x (some (Out.ret 7)) (some (Out.next ()))):=by
    simp only[O5,Rb,Aku];rfl
  rw[hb]
  by_cases h1:1≤x.ID∧x.ID≤9999
  ·by_cases h2:0≤x.Alt∧x.Alt≤5000
   ·rw[Akq h1,Akq h2]
    rcases Yl (idf:=Cr.ID) (bad:=some (Out.ret (7:Int))) (good:=some (Out.next ())) hk (by omega)with ⟨h3,e⟩ | ⟨h3,e⟩
    ·exact .inl ⟨e,⟨h1,h2⟩,h3⟩
    ·exact .inr ⟨7,e,by decide,fun h=>h3 h.2⟩
   ·rw[Akq h1,Akr h2]
    exact .inr ⟨2,rfl,by decide,fun h=>h2 h.1.2⟩
  ·rw[Akr h1]
   exact .inr ⟨2,rfl,by decide,fun h=>h1 h.1.1⟩
theorem gH (m:Bd):Sy m.Nodes=Td m:=rfl
theorem Ab8 {n:Int} (h:10≤n∧n≤6000):IntKind.i64.wrap (2*n)=2*n:=by rw[wrap_i64]<;>omega
theorem qZ {a b:Int} (ha:0≤a) (hb:0<b):0≤a.tdiv b∧a.tdiv b≤a:=by
  rw[Int.tdiv_eq_ediv_of_nonneg ha]
  exact⟨Int.ediv_nonneg ha (by omega),Int.ediv_le_self _ ha⟩
theorem uM {n s:Int} (h:10≤n∧n≤6000) (hs:5≤s∧s≤1000):IntKind.i64.wrap ((2*n).tdiv s)=(2*n).tdiv s:=by
  have:=qZ (a:=2*n) (b:=s) (by omega) (by omega)
  rw[wrap_i64]<;>omega
def leads (m:Bd) (a b:Int) (good:Option (Out Unit Int)):Option (Out Unit Int):=
  bif !(Dc m a).2 then some (.ret 8)else bif !(Dc m b).2 then some (.ret 8)else bif decide ((Dc m b).1.Alt≤(Dc m a).1.Alt)then some (.ret 11)else good
theorem oX (m:Bd) (a b:Int) (good:Option (Out Unit Int)):(bJ m a b∧leads m a b good=good)∨(¬ bJ m a b∧∃ r,leads m a b good=some (.ret r)∧r≠0):=by
  unfold leads bJ
  cases h1:(Dc m a).2 with
  | false=>exact .inr ⟨by simp,8,rfl,by decide⟩
  | true=>
    cases h2:(Dc m b).2 with
    | false=>exact .inr ⟨by simp,8,rfl,by decide⟩
    | true=>
      by_cases h3:(Dc m b).1.Alt≤(Dc m a).1.Alt
      ·rw[Akq h3]
       exact .inr ⟨fun h=>by omega,11,rfl,by decide⟩
      ·rw[Akr h3]
       exact .inl ⟨⟨rfl,rfl,by omega⟩,rfl⟩
def carr (x:Co) (good:Option (Out Unit Int)):Option (Out Unit Int):=
  nz x.Spacing (bif decide ((IntKind.i64.wrap (2*x.Length)).tmod x.Spacing≠0)then some (.ret 1)else nz x.Spacing (bif !decide (1≤IntKind.i64.wrap ((IntKind.i64.wrap (2*x.Length)).tdiv x.Spacing)∧IntKind.i64.wrap ((IntKind.i64.wrap (2*x.Length)).tdiv x.Spacing)≤200)then some (.ret 1)else good))
theorem Aay {x:Co} (hl:10≤x.Length∧x.Length≤6000) (hs:5≤x.Spacing∧x.Spacing≤1000) (good:Option (Out Unit Int)):(bK x∧carr x good=good)∨(¬ bK x∧∃ r,carr x good=some (.ret r)∧r≠0):=by
  unfold carr bK
  rw[gM (by omega),gM (by omega),Ab8 hl,uM hl hs]
  by_cases h1:(2*x.Length).tmod x.Spacing=0
  ·rw[Akr (by simpa using h1)]
   by_cases h2:1≤(2*x.Length).tdiv x.Spacing∧(2*x.Length).tdiv x.Spacing≤200
   ·rw[Akq h2];exact .inl ⟨⟨h1,h2.1,h2.2⟩,rfl⟩
   ·rw[Akr h2];exact .inr ⟨fun h=>h2 h.2,1,rfl,by decide⟩
  ·rw[Akq (by simpa using h1)];exact .inr ⟨fun h=>h1 h.1,1,rfl,by decide⟩
theorem jM (m:Bd) (hl:m.Lifts.length≤32):∃ r,Pl m=some r∧(r=0↔(∀ x∈m.Lifts,zR m x)∧Fv Co.ID m.Lifts):=by
  rw[Uv,← mY]
  refine tests _ fun k x hk=>?_
  have hb:Hz m k x ()=(bif !decide (1≤x.ID∧x.ID≤9999)then some (Out.ret 2)else bif !decide (1≤x.Operator∧x.Operator≤8)then some (Out.ret 2)else bif !decide (10≤x.Length∧x.Length≤6000)then some (Out.ret 2)else
   bif !decide (500≤x.Speed∧x.Speed≤12000)then some (Out.ret 2)else bif !decide (1≤x.Seats∧x.Seats≤16)then some (Out.ret 2)else bif !decide (5≤x.Spacing∧x.Spacing≤1000)then some (Out.ret 2)else
   before Co.ID m.Lifts k x (some (Out.ret 7)) (leads m x.From x.To (carr x (some (.next ()))))):=by
    simp only[Hz,Lk,Rb,Hg,Aku];rfl
  rw[hb]
  by_cases h1:1≤x.ID∧x.ID≤9999
  case neg=>rw[Akr h1];exact .inr ⟨2,rfl,by decide,fun h=>h1 h.1.1.1⟩
  by_cases h2:1≤x.Operator∧x.Operator≤8
  case neg=>rw[Akq h1,Akr h2];exact .inr ⟨2,rfl,by decide,fun h=>h2 h.1.1.2.1⟩
  by_cases h3:10≤x.Length∧x.Length≤6000
  case neg=>rw[Akq h1,Akq h2,Akr h3];exact .inr ⟨2,rfl,by decide,fun h=>h3 h.1.1.2.2.1⟩
  by_cases h4:500≤x.Speed∧x.Speed≤12000
  case neg=>rw[Akq h1,Akq h2,Akq h3,Akr h4];exact .inr ⟨2,rfl,by decide,fun h=>h4 h.1.1.2.2.2.1⟩
  by_cases h5:1≤x.Seats∧x.Seats≤16
  case neg=>rw[Akq h1,Akq h2,Akq h3,Akq h4,Akr h5];exact .inr ⟨2,rfl,by decide,fun h=>h5 h.1.1.2.2.2.2.1⟩
  by_cases h6:5≤x.Spacing∧x.Spacing≤1000
  case neg=>rw[Akq h1,Akq h2,Akq h3,Akq h4,Akq h5,Akr h6];exact .inr ⟨2,rfl,by decide,fun h=>h6 h.1.1.2.2.2.2.2⟩
  rw[Akq h1,Akq h2,Akq h3,Akq h4,Akq h5,Akq h6]
  rcases Yl (idf:=Co.ID) (bad:=some (Out.ret (7:Int))) (good:=leads m x.From x.To (carr x (some (.next ())))) hk (by omega)with ⟨h7,e⟩ | ⟨h7,e⟩
  case inr=>exact .inr ⟨7,e,by decide,fun h=>h7 h.2⟩
  rcases oX m x.From x.To (carr x (some (.next ())))with ⟨h8,e2⟩ | ⟨h8,r,e2,hr⟩
  case inr=>exact .inr ⟨r,e.trans e2,hr,fun h=>h8 h.1.2.1⟩
  rcases Aay h3 h6 (some (.next ()))with ⟨h9,e3⟩ | ⟨h9,r,e3,hr⟩
  case inr=>exact .inr ⟨r,e.trans (e2.trans e3),hr,fun h=>h9 h.1.2.2⟩
  exact .inl ⟨e.trans (e2.trans e3),⟨⟨h1,h2,h3,h4,h5,h6⟩,h8,h9⟩,h7⟩
theorem lY (m:Bd) (hl:m.Runs.length≤64):∃ r,Q1 m=some r∧(r=0↔(∀ x∈m.Runs,Abd m x)∧Fv Cq.ID m.Runs):=by
  rw[Uv,← mY]
  refine tests _ fun k x hk=>?_
  have qd:∀ (good:Option (Out Unit Int)),(bif !(Dc m x.From).2 then some (.ret 8)else bif !(Dc m x.To).2 then some (.ret 8)else bif decide ((Dc m x.From).1.Alt≤(Dc m x.To).1.Alt)then some (.ret 11)else good)=leads m x.To x.From good:=by
    intro good
    unfold leads
    cases(Dc m x.From).2<;>cases (Dc m x.To).2<;>rfl
  have hb:Jh m k x ()=(bif !decide (1≤x.ID∧x.ID≤9999)then some (Out.ret 2)else bif !decide (1≤x.Operator∧x.Operator≤8)then some (Out.ret 2)else bif !decide (1≤x.Grade∧x.Grade≤4)then some (Out.ret 2)else
   bif !decide (1≤x.Zone∧x.Zone≤32)then some (Out.ret 2)else bif !decide (10≤x.Length∧x.Length≤20000)then some (Out.ret 2)else
   before Cq.ID m.Runs k x (some (Out.ret 7)) (leads m x.To x.From (some (.next ())))):=by
    simp only[Jh,Rb,Hg,Aku,qd];rfl
  rw[hb]
  by_cases h1:1≤x.ID∧x.ID≤9999
  case neg=>rw[Akr h1];exact .inr ⟨2,rfl,by decide,fun h=>h1 h.1.1.1⟩
  by_cases h2:1≤x.Operator∧x.Operator≤8
  case neg=>rw[Akq h1,Akr h2];exact .inr ⟨2,rfl,by decide,fun h=>h2 h.1.1.2.1⟩
  by_cases h3:1≤x.Grade∧x.Grade≤4
  case neg=>rw[Akq h1,Akq h2,Akr h3];exact .inr ⟨2,rfl,by decide,fun h=>h3 h.1.1.2.2.1⟩
  by_cases h4:1≤x.Zone∧x.Zone≤32
  case neg=>rw[Akq h1,Akq h2,Akq h3,Akr h4];exact .inr ⟨2,rfl,by decide,fun h=>h4 h.1.1.2.2.2.1⟩
  by_cases h5:10≤x.Length∧x.Length≤20000
  case neg=>rw[Akq h1,Akq h2,Akq h3,Akq h4,Akr h5];exact .inr ⟨2,rfl,by decide,fun h=>h5 h.1.1.2.2.2.2⟩
  rw[Akq h1,Akq h2,Akq h3,Akq h4,Akq h5]
  rcases Yl (idf:=Cq.ID) (bad:=some (Out.ret (7:Int))) (good:=leads m x.To x.From (some (.next ()))) hk (by omega)with ⟨h7,e⟩ | ⟨h7,e⟩
  case inr=>exact .inr ⟨7,e,by decide,fun h=>h7 h.2⟩
  rcases oX m x.To x.From (some (.next ()))with ⟨h8,e2⟩ | ⟨h8,r,e2,hr⟩
  case inr=>exact .inr ⟨r,e.trans e2,hr,fun h=>h8 h.1.2⟩
  exact .inl ⟨e.trans e2,⟨⟨h1,h2,h3,h4,h5⟩,h8⟩,h7⟩
theorem qY {α:Type} {step:Nat→α→Unit→Option (Out Unit Int)} {l:List α} (e:Int) (ok:Nat→α→Prop) (hs:∀ k x,l[k]? =some x→(step k x ()=some (.next ())∧ok k x)∨(step k x ()=some (.ret e)∧¬ ok k x)) :
    (An step 0 l ()=some (.next ())∧∀ k x,l[k]? =some x→ok k x)∨(An step 0 l ()=some (.ret e)∧¬ ∀ k x,l[k]? =some x→ok k x):=by
  rcases E9 (step:=step) (l:=l) (s:=()) (fun k _=>∀ i x,i<k→l[i]? =some x→ok i x) (fun r=>r=e∧∃ k x,l[k]? =some x∧¬ ok k x) (fun i x h=>by omega) (fun k x u hk hI=>by
    rcases hs k x hk with⟨h1,h2⟩ | ⟨h1,h3⟩
    ·refine .inl ⟨(),h1,fun i y hi hy=>?_⟩
     by_cases h:i=k
     ·subst h;rw[hk]at hy;obtain rfl:=Ak0 hy;exact h2
     ·exact hI i y (by omega) hy
    ·exact .inr ⟨e,h1,rfl,k,x,hk,h3⟩)with ⟨u,h1,h2⟩ | ⟨r,h1,h2,k,x,hk,h3⟩
  ·exact .inl ⟨h1,fun k x hk=>h2 k x (Ak1.1 hk).1 hk⟩
  ·subst h2;exact .inr ⟨h1,fun h=>h3 (h k x hk)⟩
theorem Abz (m:Bd):(An (F6 m) 0 m.Bases ()=some (.next ())∧∀ b∈m.Bases,(Dc m b).2=true)∨(An (F6 m) 0 m.Bases ()=some (.ret 8)∧¬ ∀ b∈m.Bases,(Dc m b).2=true):=by
  have h:=qY (step:=F6 m) (l:=m.Bases) 8 (fun _ b=>(Dc m b).2=true) (fun k x hk=>by
    simp only[F6,Hg,Aku]
    cases(Dc m x).2<;>simp)
  have e:(∀ (k:Nat) x,m.Bases[k]? =some x→(Dc m x).2=true)↔∀ b∈m.Bases,(Dc m b).2=true:=
    ⟨fun h b hb=>by obtain⟨k,hk⟩:=List.getElem?_of_mem hb;exact h k b hk,fun h k x hk=>h x (Akt hk)⟩
  rwa [e]at h
theorem Aby (m:Bd) (hl:m.Bases.length≤64):(An (H0 m) 0 m.Bases ()=some (.next ())∧Fv (fun b:Int=>b) m.Bases)∨(An (H0 m) 0 m.Bases ()=some (.ret 7)∧¬ Fv (fun b:Int=>b) m.Bases):=by
  rw[Uv]
  refine qY _ _ fun k x hk=>?_
  rcases Yl (idf:=fun b:Int=>b) (bad:=some (Out.ret (7:Int))) (good:=some (Out.next ())) hk (by omega)with ⟨h,e⟩ | ⟨h,e⟩
  ·exact .inl ⟨e,h⟩
  ·exact .inr ⟨e,h⟩
theorem uG (m:Bd) (hl:m.Bases.length≤64):(Ki (Es m) (m.Bases.length - 1) ()=some (.next ())∧Fv (fun b:Int=>b) m.Bases)∨(Ki (Es m) (m.Bases.length - 1) ()=some (.ret 7)∧¬ Fv (fun b:Int=>b) m.Bases):=by
  have hn:m.Bases.length - 1≤9223372036854775807:=by omega
  rw[Ki,if_pos hn]
  have h:=qY (step:=Es m) (l:=List.replicate (m.Bases.length - 1) ()) 7 (fun k _=>∀ x y,m.Bases[k+1]? =some x→m.Bases[k]? =some y→y<x) (fun k u hk=>by
    have hk:=Tw hk
    have h1:m.Bases[k+1]? =some m.Bases[k+1]:=Aks (by omega)
    have h2:m.Bases[k]? =some m.Bases[k]:=Aks (by omega)
    have e1:Dv m.Bases ((k:Int)+1)=some m.Bases[k+1]:=Q7 (by omega) h1
    have e2:Dv m.Bases (IntKind.i64.wrap ((k:Int)+1 - 1))=some m.Bases[k]:=Q7 (by rw[wrap_i64]<;>omega) h2
    simp only[Es,e1,e2,Aku]
    by_cases hle:m.Bases[k+1]≤m.Bases[k]
    ·rw[Akq hle]
     exact .inr ⟨rfl,fun h=>by have:=h _ _ h1 h2;omega⟩
    ·rw[Akr hle]
     refine .inl ⟨rfl,fun x y hx hy=>?_⟩
     rw[h1]at hx;rw[h2]at hy
     obtain rfl:=Ak0 hx;obtain rfl:=Ak0 hy
     omega)
  have e:(∀ (k:Nat) (u:Unit),(List.replicate (m.Bases.length - 1) ())[k]? =some u→∀ x y,m.Bases[k+1]? =some x→m.Bases[k]? =some y→y<x)↔Fv (fun b:Int=>b) m.Bases:=by
    constructor
    ·intro h k x y hx hy
     have:=(Ak1.1 hx).1
     exact h k () (by rw[List.getElem?_replicate,if_pos (by omega)]) x y hx hy
    ·intro h k _ _ x y hx hy
     exact h k x y hx hy
  rwa [e]at h
theorem jN (m:Bd) (hl:m.Bases.length≤64):∃ r,Te m=some r∧P5 m=some r∧(r=0↔m.Bases≠[]∧(∀ b∈m.Bases,(Dc m b).2=true)∧Fv (fun b:Int=>b) m.Bases):=by
  unfold Te P5
  by_cases h0:m.Bases=[]
  ·exact⟨8,by simp[h0],by simp[h0],by simp[h0]⟩
  have hlen:¬ ((m.Bases.length:Nat):Int)=0:=by
    have:=List.length_pos_iff.2 h0;omega
  rw[Akr hlen,cond_false,cond_false]
  have e1:An (Oi m) 0 m.Bases ()=An (F6 m) 0 m.Bases ():=rfl
  rw[e1]
  rcases Abz m with⟨h1,h2⟩ | ⟨h1,h2⟩
  case inr=>exact ⟨8,by rw[h1];rfl,by rw[h1];rfl,by simp[h2]⟩
  rcases Aby m hl with⟨h3,h4⟩ | ⟨h3,h4⟩
  ·rcases uG m hl with⟨h5,h6⟩ | ⟨h5,h6⟩
   ·refine⟨0,?_,?_,fun _=>⟨h0,h2,h4⟩,fun _=>rfl⟩
    ·rw[h1];show((An (H0 m) 0 m.Bases ()).bind fun o=>o.on fun _=>some 0)=_;rw[h3];rfl
    ·rw[h1];show((Ki (Es m) (m.Bases.length - 1) ()).bind fun o=>o.on fun _=>some 0)=_;rw[h5];rfl
   ·exact absurd h4 h6
  ·rcases uG m hl with⟨h5,h6⟩ | ⟨h5,h6⟩
   ·exact absurd h6 h4
   ·refine⟨7,?_,?_,fun h=>by omega,fun h=>absurd h.2.2 h4⟩
    ·rw[h1];show((An (H0 m) 0 m.Bases ()).bind fun o=>o.on fun _=>some 0)=_;rw[h3];rfl
    ·rw[h1];show((Ki (Es m) (m.Bases.length - 1) ()).bind fun o=>o.on fun _=>some 0)=_;rw[h5];rfl
theorem xE (m:Bd) (a b:Int):Gy m a b=some (if(Dc m a).2=false then 8 else if(Dc m b).2=false then 8 else if(Dc m b).1.Alt≤(Dc m a).1.Alt then 11 else 0):=by
  unfold Gy
  simp only[Hg,Aku]
  cases(Dc m a).2<;>cases (Dc m b).2<;>simp
  by_cases h:(Dc m b).1.Alt≤(Dc m a).1.Alt
  ·simp[h]
  ·simp[h]
theorem eB (m:Bd) (a b:Int) (good:Option (Out Unit Int)):((Gy m a b).bind fun y=>bif decide (y≠0)then some (Out.ret y)else good)=leads m a b good:=by
  rw[xE]
  unfold leads
  cases(Dc m a).2
  ·rfl
  cases(Dc m b).2
  ·rfl
  show(bif decide ((if(Dc m b).1.Alt≤(Dc m a).1.Alt then(11:Int)else 0)≠0)then some (Out.ret (if(Dc m b).1.Alt≤(Dc m a).1.Alt then(11:Int)else 0))else good)=bif decide ((Dc m b).1.Alt≤(Dc m a).1.Alt)then some (Out.ret 11)else good
  by_cases h:(Dc m b).1.Alt≤(Dc m a).1.Alt
  ·rw[if_pos h,Akq h];rfl
  ·rw[if_neg h,Akr h];rfl
theorem yW (x:Co) (good:Option (Out Unit Int)):((H9 x).bind fun y=>bif !y then some (Out.ret 1)else good)=carr x good:=by
  unfold H9 carr
  simp only[yA]
  by_cases hs:x.Spacing=0
  ·simp[nz,hs]
  rw[gM hs,gM hs,gM hs,gM hs]
  by_cases h:(IntKind.i64.wrap (2*x.Length)).tmod x.Spacing=0
  ·have e1:decide ((IntKind.i64.wrap (2*x.Length)).tmod x.Spacing=0)=true:=Akq h
   have e2:decide ((IntKind.i64.wrap (2*x.Length)).tmod x.Spacing≠0)=false:=Akr (by simpa using h)
   rw[e1,e2];rfl
  ·have e1:decide ((IntKind.i64.wrap (2*x.Length)).tmod x.Spacing=0)=false:=Akr h
   have e2:decide ((IntKind.i64.wrap (2*x.Length)).tmod x.Spacing≠0)=true:=Akq h
   rw[e1,e2];rfl
theorem gI (m:Bd):P4 m=Pl m:=by
  have h:K8 m=Hz m:=by
    funext k x u
    simp only[K8,yA,Aku,eB,yW,Hz,Lk,Rb,Hg]
    rfl
  unfold P4 Pl
  rw[h]
theorem jS (m:Bd):Rv m=Q1 m:=by
  have qd:∀ (a b:Int) (good:Option (Out Unit Int)),(bif !(Dc m b).2 then some (.ret 8)else bif !(Dc m a).2 then some (.ret 8)else bif decide ((Dc m b).1.Alt≤(Dc m a).1.Alt)then some (.ret 11)else good)=leads m a b good:=by
    intro a b good
    unfold leads
    cases(Dc m a).2<;>cases (Dc m b).2<;>rfl
  have h:Mp m=Jh m:=by
    funext k x u
    simp only[Mp,yA,Aku,eB,Jh,Rb,Hg,qd]
  unfold Rv Q1
  rw[h]
theorem Wm (m:Bd):∃ r,fT m=some r∧I4 m=some r∧(r=0↔Li m):=by
  unfold fT I4
  by_cases h1:(64:Int)<((m.Nodes.length:Nat):Int)
  ·rw[Akq h1];exact⟨4,rfl,rfl,fun h=>by omega,fun h=>by have:=h.lenN;omega⟩
  by_cases h2:(32:Int)<((m.Lifts.length:Nat):Int)
  ·rw[Akr h1,Akq h2];exact⟨4,rfl,rfl,fun h=>by omega,fun h=>by have:=h.lenL;omega⟩
  by_cases h3:(64:Int)<((m.Runs.length:Nat):Int)
  ·rw[Akr h1,Akr h2,Akq h3];exact⟨4,rfl,rfl,fun h=>by omega,fun h=>by have:=h.lenR;omega⟩
  by_cases h4:(64:Int)<((m.Bases.length:Nat):Int)
  ·rw[Akr h1,Akr h2,Akr h3,Akq h4];exact⟨4,rfl,rfl,fun h=>by omega,fun h=>by have:=h.lenB;omega⟩
  rw[Akr h1,Akr h2,Akr h3,Akr h4]
  obtain⟨r1,e1,i1⟩:=jL m (by omega)
  obtain⟨r2,e2,i2⟩:=jM m (by omega)
  obtain⟨r3,e3,i3⟩:=lY m (by omega)
  obtain⟨r4,e4,e4',i4⟩:=jN m (by omega)
  simp only[cond_false,gH,gI,jS,e1,e2,e3,e4,e4',Aku]
  by_cases z1:r1=0
  case neg=>rw[Akq z1];exact⟨r1,rfl,rfl,fun h=>absurd h z1,fun h=>absurd (i1.2 ⟨h.nodes,h.nodesR⟩) z1⟩
  by_cases z2:r2=0
  case neg=>rw[Akr (by simpa using z1),Akq z2];exact⟨r2,rfl,rfl,fun h=>absurd h z2,fun h=>absurd (i2.2 ⟨h.lifts,h.liftsR⟩) z2⟩
  by_cases z3:r3=0
  case neg=>rw[Akr (by simpa using z1),Akr (by simpa using z2),Akq z3];exact⟨r3,rfl,rfl,fun h=>absurd h z3,fun h=>absurd (i3.2 ⟨h.runs,h.runsR⟩) z3⟩
  rw[Akr (by simpa using z1),Akr (by simpa using z2),Akr (by simpa using z3)]
  refine⟨r4,rfl,rfl,fun h=>?_,fun h=>i4.2 ⟨h.some,h.bases,h.basesR⟩⟩
  have g1:=i1.1 z1;have g2:=i2.1 z2;have g3:=i3.1 z3;have g4:=i4.1 h
  exact⟨by omega,by omega,by omega,by omega,g1.1,g1.2,g2.1,g2.2,g3.1,g3.2,g4.1,g4.2.1,g4.2.2⟩
theorem rI (m:Bd):∃ r,I4 m=some r∧(r=0↔Li m):=by
  obtain⟨r,_,h1,h2⟩:=Wm m
  exact⟨r,h1,h2⟩
theorem fJ (l:List Int) (n:Int):Uj l n=some (decide (n∈l)):=W8 fun k x hx=>rfl
theorem put_eq {l:List Int} (h:Inc l) (hl:l.length≤100000000) (n:Int):∃ r,X8 l n=some r∧Inc r∧(∀ x,x∈r↔x∈l∨x=n):=by
  have xi:=List.pairwise_iff_getElem.1 h
  obtain⟨s,h1,h2,h3,h4,h5,h6⟩:=Eb (ρ:=List Int) (step:=U7 n) (l:=l) (s:=(false,[])) (fun k s=>Inc s.2∧(∀ y∈s.2,(y∈l.take k∨(y=n∧∀ z∈l.drop k,n<z)))∧(∀ x,x∈s.2↔x∈l.take k∨(s.1=true∧x=n))∧(s.1=false→∀ x∈l.take k,x<n)∧s.2.length≤k+1)
    ⟨List.Pairwise.nil,by simp,by simp,by simp,by simp⟩ (fun k x s hk ⟨i1,i2,i3,i4,i5⟩=>by
      obtain⟨d,o⟩:=s
      simp only at i1 i2 i3 i4 i5
      have af:=(Ak1.1 hk).1
      have hx:l[k]=x:=(Ak1.1 hk).2
      have tk:∀ y∈l.take k,y<x:=fun y hy=>by
        obtain⟨i,hi,rfl⟩:=List.getElem_of_mem hy
        rw[List.length_take]at hi
        rw[List.getElem_take,← hx]
        exact xi i k (by omega) af (by omega)
      have dk:l.drop k=x::l.drop (k+1):=by rw[List.drop_eq_getElem_cons af,hx]
      have dk1:∀ z∈l.drop (k+1),x<z:=fun z hz=>by
        obtain⟨i,hi,rfl⟩:=List.getElem_of_mem hz
        rw[List.length_drop]at hi
        rw[List.getElem_drop,← hx]
        exact xi k (k+1+i) af (by omega) (by omega)
      have ts:=Bz hk
      have olt:∀ y∈o,(d=true→y<x)∧(d=false→y<x∧y<n):=fun y hy=>by
        refine⟨fun _=>?_,fun hd=>?_⟩
        ·rcases i2 y hy with h | ⟨rfl,h⟩
         ·exact tk y h
         ·exact h x (by rw[dk];simp)
        ·rcases(i3 y).1 hy with h | ⟨h,_⟩
         ·exact⟨tk y h,i4 hd y h⟩
         ·rw[hd]at h;cases h
      have app:∀ {o:List Int} {z:Int},Inc o→(∀ y∈o,y<z)→Inc (o++[z]):=fun ho hz=>by
        unfold Inc
        rw[List.pairwise_append]
        refine⟨ho,by simp,fun a ha b hb=>?_⟩
        simp at hb;subst hb;exact hz a ha
      unfold U7
      simp only
      cases d with
      | true=>
        simp only[Bool.not_true,cond_false]
        rw[B1 (by omega)]
        refine⟨_,rfl,app i1 fun y hy=>(olt y hy).1 rfl,fun y hy=>?_,fun y=>?_,(fun h=>by cases h),by simp;omega⟩
        ·rw[ts]
         rcases Akz.1 hy with hy | hy
         ·rcases i2 y hy with h | ⟨h,h'⟩
          ·exact .inl (Akz.2 (.inl h))
          ·exact .inr ⟨h,fun z hz=>h' z (by rw[dk];exact List.mem_cons_of_mem _ hz)⟩
         ·exact .inl (Akz.2 (.inr hy))
        ·simp only[ts,Akz,i3,List.mem_singleton]
         constructor
         ·rintro((h | h) | h)
          ·exact .inl (.inl h)
          ·exact .inr h
          ·exact .inl (.inr h)
         ·rintro((h | h) | h)
          ·exact .inl (.inl h)
          ·exact .inr h
          ·exact .inl (.inr h)
      | false=>
        simp only[Bool.not_false,cond_true]
        have km:o.length≤k:=by
          have:=Gq i1.nodup (b:=l.take k) fun z hz=>by
            rcases(i3 z).1 hz with h | ⟨h,_⟩
            ·exact h
            ·cases h
          rw[List.length_take]at this;omega
        by_cases c1:n≤x
        ·rw[Akq c1,cond_true]
         by_cases c2:n<x
         ·rw[Akq c2,cond_true,B1 (by omega),B1 (by omega)]
          refine⟨_,rfl,app (app i1 fun y hy=>((olt y hy).2 rfl).2) fun y hy=>?_,fun y hy=>?_,fun y=>?_,(fun h=>by cases h),by simp;omega⟩
          ·rcases Akz.1 hy with hy | hy
           ·exact((olt y hy).2 rfl).1
           ·simp at hy;subst hy;exact c2
          ·rw[ts]
           simp only[Akz,List.mem_singleton]at hy ⊢
           rcases hy with(hy | hy) | hy
           ·rcases i2 y hy with h | ⟨h,h'⟩
            ·exact .inl (.inl h)
            ·exact .inr ⟨h,fun z hz=>h' z (by rw[dk];exact List.mem_cons_of_mem _ hz)⟩
           ·exact .inr ⟨hy,fun z hz=>by have:=dk1 z hz;omega⟩
           ·exact .inl (.inr hy)
          ·simp only[ts,Akz,i3,List.mem_singleton]
           constructor
           ·rintro(((h | ⟨h,_⟩) | h) | h)
            ·exact .inl (.inl h)
            ·cases h
            ·exact .inr ⟨trivial,h⟩
            ·exact .inl (.inr h)
           ·rintro((h | h) | ⟨_,h⟩)
            ·exact .inl (.inl (.inl h))
            ·exact .inr h
            ·exact .inl (.inr h)
         ·have e:x=n:=by omega
          rw[Akr c2,cond_false,B1 (by omega)]
          refine⟨_,rfl,app i1 fun y hy=>((olt y hy).2 rfl).1,fun y hy=>?_,fun y=>?_,(fun h=>by cases h),by simp;omega⟩
          ·rw[ts]
           simp only[Akz,List.mem_singleton]at hy ⊢
           rcases hy with hy | hy
           ·rcases i2 y hy with h | ⟨h,h'⟩
            ·exact .inl (.inl h)
            ·exact .inr ⟨h,fun z hz=>h' z (by rw[dk];exact List.mem_cons_of_mem _ hz)⟩
           ·exact .inl (.inr hy)
          ·simp only[ts,Akz,i3,List.mem_singleton]
           constructor
           ·rintro((h | ⟨h,_⟩) | h)
            ·exact .inl (.inl h)
            ·cases h
            ·exact .inl (.inr h)
           ·rintro((h | h) | ⟨_,h⟩)
            ·exact .inl (.inl h)
            ·exact .inr h
            ·exact .inr (by rw[e];exact h)
        ·rw[Akr c1,cond_false,B1 (by omega)]
         refine⟨_,rfl,app i1 fun y hy=>((olt y hy).2 rfl).1,fun y hy=>?_,fun y=>?_,fun _ y hy=>?_,by simp;omega⟩
         ·rw[ts]
          simp only[Akz,List.mem_singleton]at hy ⊢
          rcases hy with hy | hy
          ·rcases i2 y hy with h | ⟨h,h'⟩
           ·exact .inl (.inl h)
           ·exact .inr ⟨h,fun z hz=>h' z (by rw[dk];exact List.mem_cons_of_mem _ hz)⟩
          ·exact .inl (.inr hy)
         ·simp only[ts,Akz,i3,List.mem_singleton]
          constructor
          ·rintro((h | ⟨h,_⟩) | h)
           ·exact .inl (.inl h)
           ·cases h
           ·exact .inl (.inr h)
          ·rintro((h | h) | ⟨h,_⟩)
           ·exact .inl (.inl h)
           ·exact .inr h
           ·cases h
         ·rw[ts]at hy
          rcases Akz.1 hy with hy | hy
          ·exact i4 rfl y hy
          ·simp at hy;subst hy;omega)
  rw[List.take_length]at h4 h5
  unfold X8
  rw[h1]
  show ∃ r,(bif (!s.1)then _ else _)=some r∧_
  cases hd:s.1 with
  | true=>
    refine⟨s.2,rfl,h2,fun x=>?_⟩
    rw[h4,hd];simp
  | false=>
    rw[Bool.not_false,cond_true,B1 (by omega)]
    refine⟨_,rfl,?_,fun x=>?_⟩
    ·unfold Inc
     rw[List.pairwise_append]
     refine⟨h2,by simp,fun a ha b hb=>?_⟩
     simp at hb;subst hb
     rcases(h4 a).1 ha with h | ⟨h,_⟩
     ·exact h5 hd a h
     ·rw[hd]at h;cases h
    ·simp only[Akz,List.mem_singleton,h4,hd];simp
theorem Abk {l r:List Int} {n:Int} (h:Inc l) (hr:Inc r) (hm:∀ x,x∈r↔x∈l∨x=n) (hn:n∈l):r=l:=
  Pq hr h fun x=>by rw[hm];exact⟨fun h=>h.elim id fun h=>h ▸ hn,.inl⟩
theorem z6 {l r:List Int} {n:Int} (h:Inc l) (hr:Inc r) (hm:∀ x,x∈r↔x∈l∨x=n) (hn:n ∉ l):r.length=l.length+1:=by
  have h1:(n::l).Nodup:=List.nodup_cons.2 ⟨hn,h.nodup⟩
  have a:=Gq h1 (b:=r) fun x hx=>by rw[hm];rcases List.mem_cons.1 hx with h | h;exact .inr h;exact .inl h
  have b:=Gq hr.nodup (b:=n::l) fun x hx=>by rcases(hm x).1 hx with h | h;exact List.mem_cons_of_mem _ h;exact h ▸ List.mem_cons_self
  simp at a b;omega
theorem oC {l:List A7} {f out:List Int} (h:Inc out) (hr:∀ n∈out,Rch l (·∈f) n) (hC:(f++l.map (·.To)).length≤1000000) :
    ∃ s,An Oj 0 l out=some (.next s)∧Inc s∧(∀ n∈s,Rch l (·∈f) n)∧(∀ n∈out,n∈s)∧((s=out∧∀ e∈l,e.From∈out→e.To∈out)∨out.length<s.length):=by
  obtain⟨s,h1,h2,h3,h4,h5⟩:=Eb (ρ:=Out (List Int×Int) (List Int)) (step:=Oj) (l:=l) (s:=out) (fun k s=>Inc s∧(∀ n∈s,Rch l (·∈f) n)∧(∀ n∈out,n∈s)∧((s=out∧∀ e∈l.take k,e.From∈out→e.To∈out)∨out.length<s.length))
    ⟨h,hr,fun n h=>h,.inl ⟨rfl,by simp⟩⟩ (fun k e s hk ⟨i1,i2,i3,i4⟩=>by
      have he:=Akt hk
      unfold Oj
      rw[fJ,Aku]
      have hlen:s.length≤1000000:=Nat.le_trans (Gq i1.nodup fun n hn=>Rg (i2 n hn)) hC
      by_cases hf:e.From∈s
      ·obtain⟨r,g1,g2,g3⟩:=put_eq i1 (by omega) e.To
       rw[Akq hf,cond_true,g1]
       refine⟨r,rfl,g2,fun n hn=>?_,fun n hn=>(g3 n).2 (.inl (i3 n hn)),?_⟩
       ·rcases(g3 n).1 hn with h | rfl
        ·exact i2 n h
        ·exact .step he (i2 _ hf)
       ·by_cases ht:e.To∈s
        ·obtain rfl:=Abk i1 g2 g3 ht
         rcases i4 with⟨rfl,h⟩ | h
         ·refine .inl ⟨rfl,fun x hx=>?_⟩
          rw[Bz hk]at hx
          rcases Akz.1 hx with hx | hx
          ·exact h x hx
          ·simp at hx;subst hx;exact fun _=>ht
         ·exact .inr h
        ·have:=z6 i1 g2 g3 ht
         refine .inr ?_
         rcases i4 with⟨rfl,_⟩ | h<;>omega
      ·rw[Akr hf,cond_false]
       refine⟨s,rfl,i1,i2,i3,?_⟩
       rcases i4 with⟨rfl,h⟩ | h
       ·refine .inl ⟨rfl,fun x hx=>?_⟩
        rw[Bz hk]at hx
        rcases Akz.1 hx with hx | hx
        ·exact h x hx
        ·simp at hx;subst hx;exact fun h=>absurd h hf
       ·exact .inr h)
  rw[List.take_length]at h5
  exact⟨s,h1,h2,h3,h4,h5⟩
theorem kL {l:List A7} {f:List Int} (hl:l.length≤100000) (hf:f.length≤100000):∃ r,P6 l f=some r∧Pt l f r:=by
  have hC:(f++l.map (·.To)).length≤1000000:=by simp;omega
  obtain⟨s,h1,h2,h3⟩:=Eb (ρ:=List Int) (step:=Rz) (l:=f) (s:=[]) (fun k s=>Inc s∧∀ x,x∈s↔x∈f.take k) ⟨List.Pairwise.nil,by simp⟩ (fun k x s hk ⟨i1,i2⟩=>by
    have hlen:s.length≤100000:=Nat.le_trans (Gq i1.nodup (b:=f) fun n hn=>List.mem_of_mem_take ((i2 n).1 hn)) hf
    obtain⟨r,g1,g2,g3⟩:=put_eq i1 (by omega) x
    refine⟨r,by unfold Rz;rw[g1];rfl,g2,fun y=>?_⟩
    rw[g3,i2,Bz hk];simp)
  rw[List.take_length]at h3
  have s1:∀ n∈s,Rch l (·∈f) n:=fun n hn=>.base ((h3 n).1 hn)
  unfold P6
  rw[h1]
  show ∃ r,Ry l s=some r∧_
  unfold Ry
  have hlen:∀ o:List Int,Inc o→(∀ n∈o,Rch l (·∈f) n)→o.length≤1000000:=fun o ho hr=>Nat.le_trans (Gq ho.nodup fun n hn=>Rg (hr n hn)) hC
  obtain⟨r,g1,g2⟩:=Hd (step:=R1 l) (fun st=>Inc st.1∧(∀ n∈st.1,Rch l (·∈f) n)∧(∀ n∈f,n∈st.1)∧st.2≤(st.1.length:Int)∧(st.2=(st.1.length:Int)→∀ e∈l,e.From∈st.1→e.To∈st.1)) (fun r=>Pt l f r)
    (fun st=>2*(1000000 - st.1.length)+if st.2<(st.1.length:Int)then 1 else 0) (fun st ⟨i1,i2,i3,i4,i5⟩=>by
      obtain⟨o,w⟩:=st
      simp only at i1 i2 i3 i4 i5 ⊢
      unfold R1
      simp only
      by_cases hw:w<(o.length:Int)
      ·obtain⟨s,e1,e2,e3,e4,e5⟩:=oC i1 i2 hC
       rw[Akq hw,cond_true,e1]
       have:=hlen s e2 e3
       have:=hlen o i1 i2
       refine .inl ⟨_,rfl,⟨e2,e3,fun n hn=>e4 n (i3 n hn),?_,fun hh=>?_⟩,?_⟩
       ·simp only
        rcases e5 with⟨rfl,_⟩ | h<;>omega
       ·rcases e5 with⟨rfl,h⟩ | h
        ·exact h
        ·simp only at hh;omega
       ·simp only
        rw[if_pos hw]
        rcases e5 with⟨rfl,_⟩ | h
        ·rw[if_neg (by omega)];omega
        ·rw[if_pos (by omega)];omega
      ·rw[Akr hw,cond_false]
       exact .inr ⟨o,rfl,.of_closed i1 i2 i3 (i5 (by omega))⟩) fuel (s, -1) ⟨h2,s1,fun n hn=>(h3 n).2 hn,by simp only;omega,fun h=>by simp only at h;omega⟩ (by show _<1099511627776;simp only;split<;>omega)
  rw[g1]
  exact⟨r,rfl,g2⟩
theorem rN {l:List A7} (hl:l.length≤100000):U6 l=some (turn l):=by
  unfold U6
  rw[Df (step:=V2) (fun _=>true) Z8 (by omega) (fun k x s hx=>rfl),List.filter_eq_self.2 (fun a _=>rfl)];rfl
theorem xI {l:List A7} {f:List Int} (hl:l.length≤100000) (hf:f.length≤100000):∃ r,Zk l f=some r∧Pt (turn l) f r:=by
  obtain⟨r,h1,h2⟩:=kL (l:=turn l) (f:=f) (by simpa[turn]using hl) hf
  refine⟨r,?_,h2⟩
  unfold Zk
  rw[rN hl,Aku,h1];rfl
theorem contains_eq (l:List Int) (v:Int):Br l v=some (decide (v∈l)):=by
  unfold Br Gk
  rcases E9 (step:=Ec v) (l:=l) (s:=()) (fun k _=>v ∉ l.take k) (fun r=>v∈l∧0≤r) (by simp) (fun k x u hk hI=>by
    unfold Ec
    by_cases e:v=x
    ·rw[Akq e];exact .inr ⟨_,rfl,e ▸ Akt hk,by omega⟩
    ·rw[Akr e]
     refine .inl ⟨(),rfl,?_⟩
     rw[Bz hk];simp[hI,e])with ⟨u,h1,h2⟩ | ⟨r,h1,h2,h3⟩
  ·rw[List.take_length]at h2
   rw[h1,Akr h2];rfl
  ·rw[h1,Akq h2]
   show some (decide (0≤r))=some true
   rw[Akq h3]
def zT (x:Cq):A7:=⟨x.ID,x.From,x.To,x.Length⟩
def tS (x:Co):A7:=⟨x.ID,x.From,x.To,x.Length⟩
def Qb (m:Bd) (runs:List Int):List A7:=(m.Runs.filter fun x=>decide (x.ID∈runs)).map zT
def upE (m:Bd) (lifts:List Int):List A7:=(m.Lifts.filter fun x=>decide (x.ID∈lifts)).map tS
theorem cV {m:Bd} {runs:List Int} {e:A7}:e∈Qb m runs↔∃ x∈m.Runs,x.ID∈runs∧zT x=e:=by
  unfold Qb
  simp only[List.mem_map,List.mem_filter,decide_eq_true_eq,and_assoc]
theorem mE {m:Bd} {lifts:List Int} {e:A7}:e∈upE m lifts↔∃ x∈m.Lifts,x.ID∈lifts∧tS x=e:=by
  unfold upE
  simp only[List.mem_map,List.mem_filter,decide_eq_true_eq,and_assoc]
theorem fK {m:Bd} (M:Li m) {n:Int} (h:(Dc m n).2=true):1≤n∧n≤9999:=by
  obtain⟨h1,h2⟩:=Zo h
  have:=(M.nodes _ h1).1
  rw[h2]at this;exact this
theorem iV {m:Bd} (M:Li m) {runs:List Int} {e:A7} (h:e∈Qb m runs):(Dc m e.From).2=true∧(Dc m e.To).2=true∧10≤e.Cost∧e.Cost≤20000:=by
  obtain⟨x,hx,_,rfl⟩:=cV.1 h
  have:=M.runs x hx
  exact⟨this.2.2.1,this.2.1,this.1.2.2.2.2.1,this.1.2.2.2.2.2⟩
theorem wW {m:Bd} (M:Li m) {lifts:List Int} {e:A7} (h:e∈upE m lifts):(Dc m e.From).2=true∧(Dc m e.To).2=true:=by
  obtain⟨x,hx,_,rfl⟩:=mE.1 h
  have:=M.lifts x hx
  exact⟨this.2.1.1,this.2.1.2.1⟩
theorem aV {m:Bd} (M:Li m) (runs:List Int):(Qb m runs).length≤64:=by
  unfold Qb;rw[Aky];exact Nat.le_trans (List.length_filter_le _ _) M.lenR
theorem Abh {m:Bd} (M:Li m) (lifts:List Int):(upE m lifts).length≤32:=by
  unfold upE;rw[Aky];exact Nat.le_trans (List.length_filter_le _ _) M.lenL
theorem uA {m:Bd} (M:Li m) (runs:List Int):I5 m runs=some (Qb m runs):=by
  have:=M.lenR
  unfold I5
  rw[Df (fun x=>decide (x.ID∈runs)) zT (by omega) (fun k x s hx=>by unfold My;rw[contains_eq];rfl)];rfl
theorem n0 {m:Bd} (M:Li m) (runs:List Int):U3 m runs=some (Qb m runs):=by
  have:=M.lenR
  unfold U3
  rw[Df (fun x=>decide (x.ID∈runs)) zT (by omega) (fun k x s hx=>by unfold Y3;rw[fJ];rfl)];rfl
theorem Ab9 {m:Bd} (M:Li m) (lifts:List Int):O6 m lifts=some (upE m lifts):=by
  have:=M.lenL
  unfold O6
  rw[Df (fun x=>decide (x.ID∈lifts)) tS (by omega) (fun k x s hx=>by unfold Pm;rw[contains_eq];rfl)];rfl
def J6 (a b:List A7):Prop:=a.map (fun e=>(e.From,e.To))=b.map (fun e=>(e.From,e.To))
theorem J6.rch {a b:List A7} (h:J6 a b) {S:Int→Prop} {n:Int} (hr:Rch a S n):Rch b S n:=by
  induction hr with
  | base h=>exact .base h
  | @step e he _ ih=>
    have:(e.From,e.To)∈a.map fun e=>(e.From,e.To):=List.mem_map.2 ⟨e,he,rfl⟩
    rw[h]at this
    obtain⟨e',sm,hh⟩:=List.mem_map.1 this
    rw[Prod.mk.injEq]at hh
    rw[← hh.2]
    exact .step sm (by rw[hh.1];exact ih)
theorem J6.turn {a b:List A7} (h:J6 a b):J6 (turn a) (turn b):=by
  unfold J6 Proofs.YtjopghiagoidgaaGreat.turn at *
  rw[List.map_map,List.map_map]
  have e:∀ l:List A7,l.map ((fun e:A7=>(e.From,e.To))∘Z8)=(l.map fun e=>(e.From,e.To)).map Prod.swap:=fun l=>by rw[List.map_map];rfl
  rw[e,e,h]
theorem cZ (l s:List A7) (hl:s.length+l.length≤100000):∃ s',An Lj 0 l s=some (.next s')∧J6 s' (s++l):=by
  obtain⟨s',h1,h2⟩:=Eb (ρ:=Out (List A7) (List A7)) (step:=Lj) (l:=l) (s:=s) (fun k t=>J6 t (s++l.take k)) (by simp[J6]) (fun k e t hk hI=>by
    have af:=(Ak1.1 hk).1
    have hlen:=congrArg List.length hI
    simp at hlen
    refine⟨_,by unfold Lj;rw[B1 (by omega)],?_⟩
    unfold J6 at *
    rw[Bz hk,← List.append_assoc,List.map_append,List.map_append,hI];rfl)
  rw[List.take_length]at h2
  exact⟨s',h1,h2⟩
theorem J6.len {a b:List A7} (h:J6 a b):a.length=b.length:=by
  have:=congrArg List.length h;simpa using this
theorem Acr {a b:List A7} (ha:a.length≤1000) (hb:b.length≤1000):∃ r,Nj [a,b]=some r∧J6 r (a++b):=by
  obtain⟨s1,h1,h2⟩:=cZ a [] (by simp;omega)
  have l1:=h2.len
  simp at l1
  obtain⟨s2,h3,h4⟩:=cZ b s1 (by omega)
  refine⟨s2,?_,?_⟩
  ·unfold Nj An Nz
   rw[h1]
   simp only[Aku,Out.on,Out.cont,An,h3]
  ·unfold J6 at *
   rw[h4,List.map_append,h2,List.nil_append,List.map_append]
theorem Acs {a:List A7} (ha:a.length≤1000):∃ r,Nj [a]=some r∧J6 r a:=by
  obtain⟨s1,h1,h2⟩:=cZ a [] (by simp;omega)
  refine⟨s1,?_,by simpa using h2⟩
  unfold Nj An Nz
  rw[h1];rfl
def RR (m:Bd) (lifts runs:List Int) (n:Int):Prop:=Rch (upE m lifts++Qb m runs) (·∈m.Bases) n
def HH (m:Bd) (runs:List Int) (n:Int):Prop:=Rch (turn (Qb m runs)) (·∈m.Bases) n
structure Vx (P:Int→Prop) (r:List Int):Prop where
  inc:Inc r
  mem:∀ n,n∈r↔P n
theorem Vx.unique {P:Int→Prop} {r r':List Int} (h:Vx P r) (h':Vx P r'):r=r':=Pq h.inc h'.inc fun n=>by rw[h.mem,h'.mem]
theorem uF {m:Bd} (M:Li m):∀ n∈m.Bases,I64 n:=fun n hn=>by have:=fK M (M.bases n hn);exact⟨by omega,by omega⟩
theorem l8 {m:Bd} (M:Li m) (lifts runs:List Int):∃ r,Hy m lifts runs=some r∧Vx (RR m lifts runs) r:=by
  have hb:=M.lenB
  have h1:=Abh M lifts
  have h2:=aV M runs
  obtain⟨j,e1,e2⟩:=Acr (a:=upE m lifts) (b:=Qb m runs) (by omega) (by omega)
  have hl:=e2.len
  rw[Akw]at hl
  obtain⟨r,e3,e4⟩:=nZ (l:=j) (f:=m.Bases) (by omega) (by omega) (fun e he=>by
    have:(e.From,e.To)∈j.map fun e=>(e.From,e.To):=List.mem_map.2 ⟨e,he,rfl⟩
    rw[e2]at this
    obtain⟨e',sm,hh⟩:=List.mem_map.1 this
    rw[Prod.mk.injEq]at hh
    rw[← hh.2]
    rcases Akz.1 sm with sm | sm
    ·have:=fK M (wW M sm).2;exact⟨by omega,by omega⟩
    ·have:=fK M (iV M sm).2.1;exact⟨by omega,by omega⟩) (uF M)
  refine⟨r,?_,e4.inc,fun n=>?_⟩
  ·unfold Hy
   rw[Ab9 M,Aku,uA M,Aku,e1,Aku,e3];rfl
  ·rw[e4.mem];exact⟨fun h=>e2.rch h,fun h=>J6.rch e2.symm h⟩
theorem jI {m:Bd} (M:Li m) (lifts runs:List Int):∃ r,Qo m lifts runs=some r∧Vx (RR m lifts runs) r:=by
  have hb:=M.lenB
  have hL:=M.lenL
  have h2:=aV M runs
  obtain⟨s,g1,g2⟩:=Eb (ρ:=List Int) (step:=Ng lifts) (l:=m.Lifts) (s:=Qb m runs) (fun k s=>s=Qb m runs++((m.Lifts.take k).filter fun x=>decide (x.ID∈lifts)).map fun x=>A7.mk 0 x.From x.To 0) (by simp) (fun k x s hk hI=>by
    have af:=(Ak1.1 hk).1
    have hlen:s.length≤1000:=by
      rw[hI,Akw,Aky]
      have:=List.length_filter_le (fun x:Co=>decide (x.ID∈lifts)) (m.Lifts.take k)
      rw[List.length_take]at this;omega
    unfold Ng
    rw[fJ,Aku]
    by_cases hx:x.ID∈lifts
    ·rw[Akq hx,cond_true,B1 (by omega)]
     refine⟨_,rfl,?_⟩
     rw[Bz hk,List.filter_append,List.filter_cons_of_pos (by simpa using hx),List.filter_nil,List.map_append,hI];simp
    ·rw[Akr hx,cond_false]
     refine⟨_,rfl,?_⟩
     rw[Bz hk,List.filter_append,List.filter_cons_of_neg (by simpa using hx),List.filter_nil,List.append_nil,hI])
  rw[List.take_length]at g2
  have hlen:s.length≤1000:=by
    rw[g2,Akw,Aky]
    have:=List.length_filter_le (fun x:Co=>decide (x.ID∈lifts)) m.Lifts
    omega
  obtain⟨r,e3,e4⟩:=kL (l:=s) (f:=m.Bases) (by omega) (by omega)
  refine⟨r,?_,e4.inc,fun n=>?_⟩
  ·unfold Qo
   rw[n0 M,Aku,B1 (by omega),g1]
   show(P6 s m.Bases).bind _=_
   rw[e3];rfl
  ·rw[e4.mem]
   constructor
   ·intro h
    refine J6.rch (a:=upE m lifts++Qb m runs) rfl ?_
    induction h with
    | base h=>exact .base h
    | step he _ ih=>
      rw[g2]at he
      rcases Akz.1 he with he | he
      ·exact .step (Akz.2 (.inr he)) ih
      ·obtain⟨x,hx,rfl⟩:=List.mem_map.1 he
       have hx:=List.mem_filter.1 hx
       exact Rch.step (e:=tS x) (Akz.2 (.inl (mE.2 ⟨x,hx.1,by simpa using hx.2,rfl⟩))) ih
   ·intro h
    unfold RR at h
    induction h with
    | base h=>exact .base h
    | step he _ ih=>
      rcases Akz.1 he with he | he
      ·obtain⟨x,hx,hi,rfl⟩:=mE.1 he
       refine Rch.step (e:=A7.mk 0 x.From x.To 0) ?_ ih
       rw[g2]
       exact Akz.2 (.inr (List.mem_map.2 ⟨x,List.mem_filter.2 ⟨hx,by simpa using hi⟩,rfl⟩))
      ·exact Rch.step (by rw[g2];exact Akz.2 (.inl he)) ih
theorem Aal {m:Bd} (M:Li m) (runs:List Int):∃ r,Rc m runs=some r∧Vx (HH m runs) r:=by
  have hb:=M.lenB
  have h2:=aV M runs
  obtain⟨j,e1,e2⟩:=Acs (a:=Qb m runs) (by omega)
  have hl:=e2.len
  obtain⟨r,e3,e4⟩:=nZ (l:=turn j) (f:=m.Bases) (by simp[turn];omega) (by omega) (fun e he=>by
    have he:=gU.1 he
    have:((Z8 e).From,(Z8 e).To)∈j.map fun e=>(e.From,e.To):=List.mem_map.2 ⟨_,he,rfl⟩
    rw[e2]at this
    obtain⟨e',sm,hh⟩:=List.mem_map.1 this
    rw[Prod.mk.injEq]at hh
    have:e.To=e'.From:=hh.1.symm
    rw[this]
    have:=fK M (iV M sm).1;exact⟨by omega,by omega⟩) (uF M)
  refine⟨r,?_,e4.inc,fun n=>?_⟩
  ·unfold Rc
   rw[uA M,Aku,e1,Aku,back_eq (by omega),e3];rfl
  ·rw[e4.mem];exact⟨fun h=>e2.turn.rch h,fun h=>J6.rch e2.turn.symm h⟩
theorem nP {m:Bd} (M:Li m) (runs:List Int):∃ r,Ru m runs=some r∧Vx (HH m runs) r:=by
  have hb:=M.lenB
  have h2:=aV M runs
  obtain⟨r,e3,e4⟩:=xI (l:=Qb m runs) (f:=m.Bases) (by omega) (by omega)
  refine⟨r,?_,e4.inc,e4.mem⟩
  unfold Ru
  rw[n0 M,Aku,e3];rfl
theorem rG {α:Type} {idf:α→Int} {l:List α} (h:Fv idf l) {a b:α} (ha:a∈l) (hb:b∈l) (e:idf a=idf b):a=b:=by
  have key:∀ (d i:Nat) (hj:i+d+1<l.length),idf (l[i]'(by omega))<idf l[i+d+1]:=by
    intro d
    induction d with
    | zero=>
      intro i hj
      exact h i _ _ (Aks (by omega)) (Aks (by omega))
    | succ d ih=>
      intro i hj
      have h1:=ih i (by omega)
      have h2:=h (i+d+1) l[i+(d+1)+1] l[i+d+1] (by rw[Aks (by omega)];rfl) (Aks (by omega))
      omega
  obtain⟨i,hi,rfl⟩:=List.getElem_of_mem ha
  obtain⟨j,hj,rfl⟩:=List.getElem_of_mem hb
  rcases Nat.lt_trichotomy i j with h1 | h1 | h1
  ·have:=key (j - i - 1) i (by omega)
   simp only[show i+(j - i - 1)+1=j by omega]at this;omega
  ·subst h1;rfl
  ·have:=key (i - j - 1) j (by omega)
   simp only[show j+(i - j - 1)+1=i by omega]at this;omega
theorem lL {m:Bd} {runs runs':List Int} (h:∀ n∈runs,n∈runs'):∀ e∈Qb m runs,e∈Qb m runs':=fun e he=>by
  obtain⟨x,hx,hi,rfl⟩:=cV.1 he
  exact cV.2 ⟨x,hx,h _ hi,rfl⟩
end Go.Proofs.YtjopghiagoidgaaGreat
namespace Go.Proofs.YtjopghiagoidgaaGreat.W46
open Go Go.Ab
set_option linter.unusedSimpArgs false
set_option linter.unusedVariables false
theorem uN {a:Int} (h0:0≤a) (h1:a≤4611686018427387904):IntKind.i64.wrap (fY (IntKind.u64.wrap (IntKind.i64.wrap a)) 1)=a / 2:=by
  have e1:IntKind.i64.wrap a=a:=by rw[wrap_i64]<;>omega
  have e2:IntKind.u64.wrap a=a:=by rw[IntKind.wrap_u64];omega
  have e3:fY a 1=a / 2:=by unfold fY;simp
  rw[e1,e2,e3,wrap_i64]<;>omega
theorem Aag (x y:Int):cmp_Less_int x y=some (decide (x<y)):=rfl
theorem Vi {xs:List Int} (hi:Inc xs) {i j:Nat} {x y:Int} (hx:xs[i]? =some x) (hy:xs[j]? =some y) (h:i<j):x<y:=by
  obtain⟨h1,rfl⟩:=Ak1.1 hx
  obtain⟨h2,rfl⟩:=Ak1.1 hy
  exact(List.pairwise_iff_getElem.1 hi) i j h1 h2 h
theorem uV {xs:List Int} (hi:Inc xs) (hl:xs.length≤549755813888) (t:Int):∃ i,Dx xs t=some (i,decide (t∈xs)):=by
  obtain⟨r,h1,h2⟩:=Hd (step:=Dh xs t)
    (fun s=>0≤s.1∧s.1≤s.2∧s.2≤xs.length∧(∀ (k:Nat) x,(k:Int)<s.1→xs[k]? =some x→x<t)∧(∀ (k:Nat) x,s.2≤(k:Int)→xs[k]? =some x→t≤x))
    (fun r=>r.2=decide (t∈xs)) (fun s=>(s.2 - s.1).toNat) (by
      rintro⟨i,j⟩ ⟨h0,h1,h2,h3,h4⟩
      dsimp only at h0 h1 h2 h3 h4
      unfold Dh
      dsimp only
      by_cases oq:i<j
      ·rw[Akq oq,cond_true,uN (by omega) (by omega)]
       have hm:((i+j) / 2).toNat<xs.length:=by omega
       have hmm:(i+j) / 2=(((i+j) / 2).toNat:Int):=by omega
       have hx:xs[((i+j) / 2).toNat]? =some xs[((i+j) / 2).toNat]:=Aks hm
       generalize xs[((i+j) / 2).toNat]=x at hx
       rw[Q7 hmm hx,Aku,Aag,Aku]
       by_cases af:x<t
       ·rw[Akq af,cond_true,wrap_i64 (by omega) (by omega)]
        refine .inl ⟨_,rfl,⟨by dsimp only;omega,by dsimp only;omega,h2,fun k y hk hy=>?_,h4⟩,by dsimp only;omega⟩
        dsimp only at hk
        by_cases e:k=((i+j) / 2).toNat
        ·subst e;rw[hx]at hy;obtain rfl:=Ak0 hy;exact af
        ·have:=Vi hi hy hx (by omega);omega
       ·rw[Akr af,cond_false]
        refine .inl ⟨_,rfl,⟨h0,by dsimp only;omega,by dsimp only;omega,h3,fun k y hk hy=>?_⟩,by dsimp only;omega⟩
        dsimp only at hk
        by_cases e:k=((i+j) / 2).toNat
        ·subst e;rw[hx]at hy;obtain rfl:=Ak0 hy;omega
        ·have:=Vi hi hx hy (by omega);omega
      ·rw[Akr oq,cond_false]
       have e:j=i:=by omega
       subst e
       right
       by_cases hlen:j<(xs.length:Int)
       ·rw[Akq hlen,cond_true]
        have hjj:j=(j.toNat:Int):=by omega
        have hx:xs[j.toNat]? =some xs[j.toNat]:=Aks (by omega)
        generalize xs[j.toNat]=x at hx
        rw[Q7 hjj hx,Aku]
        by_cases hxt:x=t
        ·rw[Akq hxt,cond_true]
         subst hxt
         exact⟨_,rfl,(Akq (Akt hx)).symm⟩
        ·rw[Akr hxt,cond_false]
         refine⟨_,rfl,(Akr fun hm=>?_).symm⟩
         obtain⟨k,hk⟩:=List.mem_iff_getElem?.1 hm
         by_cases h5:(k:Int)<j
         ·have:=h3 k t h5 hk;omega
         ·have h6:=h4 j.toNat x (by omega) hx
          by_cases e:k=j.toNat
          ·subst e;rw[hx]at hk;exact hxt (Ak0 hk)
          ·have:=Vi hi hx hk (by omega);omega
       ·rw[Akr hlen,cond_false]
        refine⟨_,rfl,(Akr fun hm=>?_).symm⟩
        obtain⟨k,hk⟩:=List.mem_iff_getElem?.1 hm
        have:=(Ak1.1 hk).1
        have:=h3 k t (by omega) hk;omega)
    fuel (0,(xs.length:Int)) ⟨by simp,by simp,by simp,fun k x hk _=>by simp at hk;omega,fun k x hk hx=>by have:=(Ak1.1 hx).1;simp at hk;omega⟩ (by unfold fuel;simp;omega)
  refine⟨r.1,?_⟩
  unfold Dx
  rw[h1,← h2];rfl
theorem uR {w:A8} (hi:Inc w.Runs) (hl:w.Runs.length≤549755813888) (n:Int):Ny w n=some (decide (n∈w.Runs)):=by
  obtain⟨i,h⟩:=uV hi hl n
  unfold Ny;rw[h];rfl
structure jD (l:List Int):Prop where
  ne:l≠[]
  inc:Inc l
  lo:∀ x∈l,1≤x
  hi:∀ x∈l,x≤9999
theorem r7 {l:List Int} (h:∀ (k:Nat) (x y:Int),l[k+1]? =some x→l[k]? =some y→y<x):Inc l:=by
  unfold Inc
  rw[List.pairwise_iff_getElem]
  have key:∀ (d i:Nat) (hj:i+d+1<l.length),l[i]'(by omega)<l[i+d+1]:=by
    intro d
    induction d with
    | zero=>
      intro i hj
      exact h i _ _ (Aks (by omega)) (Aks (by omega))
    | succ d ih=>
      intro i hj
      have h1:=ih i (by omega)
      have h2:=h (i+d+1) l[i+(d+1)+1] l[i+d+1] (by rw[Aks (by omega)];rfl) (Aks (by omega))
      omega
  intro i j hi hj af
  have:=key (j - i - 1) i (by omega)
  simpa[show i+(j - i - 1)+1=j by omega]using this
theorem tJ {l:List Int} (hl:l.length≤9223372036854775807):∃ b,O8 l=some b∧(b=true↔jD l):=by
  unfold O8
  rcases E9 (step:=Mo l) (l:=l) (s:=()) (fun k _=>∀ (i:Nat) x,i<k→l[i]? =some x→1≤x∧x≤9999∧∀ y,0<i→l[i - 1]? =some y→y<x) (fun r=>r=false∧¬ jD l)
    (fun i x h=>by omega) (fun k x u hk hI=>by
      have af:=(Ak1.1 hk).1
      unfold Mo
      by_cases h1:x<1
      ·rw[Akq h1]
       exact .inr ⟨_,rfl,rfl,fun h=>by have:=h.lo x (Akt hk);omega⟩
      rw[Akr h1,cond_false]
      by_cases h2:9999<x
      ·rw[Akq h2]
       exact .inr ⟨_,rfl,rfl,fun h=>by have:=h.hi x (Akt hk);omega⟩
      rw[Akr h2,cond_false]
      by_cases h3:(0:Int)<(k:Int)
      ·rw[Akq h3,cond_true,Ra (by omega) (by omega)]
       have hy:l[k - 1]? =some l[k - 1]:=Aks (by omega)
       generalize l[k - 1]=y at hy
       rw[A9 hy,Aku]
       by_cases h4:x≤y
       ·rw[Akq h4]
        refine .inr ⟨_,rfl,rfl,fun h=>?_⟩
        have:=Vi h.inc hy hk (by omega);omega
       ·rw[Akr h4]
        refine .inl ⟨_,rfl,fun i z hi hz=>?_⟩
        by_cases e:i=k
        ·subst e;rw[hk]at hz;obtain rfl:=Ak0 hz
         exact⟨by omega,by omega,fun y' _ rq=>by rw[hy]at rq;obtain rfl:=Ak0 rq;omega⟩
        ·exact hI i z (by omega) hz
      ·rw[Akr h3]
       refine .inl ⟨_,rfl,fun i z hi hz=>?_⟩
       have e:i=k:=by omega
       subst e;rw[hk]at hz;obtain rfl:=Ak0 hz
       exact⟨by omega,by omega,fun y' h _=>by omega⟩)with ⟨s',h1,h2⟩ | ⟨r,h1,rfl,h2⟩
  ·rw[h1]
   refine⟨_,rfl,?_⟩
   rw[decide_eq_true_eq]
   have gv:∀ x∈l,1≤x∧x≤9999:=fun x hx=>by
     obtain⟨i,hi⟩:=List.mem_iff_getElem?.1 hx
     have:=h2 i x (Ak1.1 hi).1 hi
     exact⟨this.1,this.2.1⟩
   constructor
   ·intro h
    refine⟨fun e=>by rw[e]at h;simp at h,r7 fun k x y hx hy=>?_,fun x hx=>(gv x hx).1,fun x hx=>(gv x hx).2⟩
    exact(h2 (k+1) x (Ak1.1 hx).1 hx).2.2 y (by omega) (by simpa using hy)
   ·intro h
    have:=List.length_pos_iff.2 h.ne
    omega
  ·rw[h1]
   exact⟨false,rfl,by simp[h2]⟩
theorem hY {l:List Int} (h:Inc l) (lo:∀ x∈l,1≤x):∀ (k:Nat) (x:Int),l[k]? =some x→(k:Int)+1≤x
  | 0,x,hx=>by have:=lo x (Akt hx);omega
  | k+1,x,hx=>by
    have af:=(Ak1.1 hx).1
    have hy:l[k]? =some l[k]:=Aks (by omega)
    have h1:=hY h lo k _ hy
    have h2:=Vi h hy hx (by omega)
    omega
theorem jD.len {l:List Int} (h:jD l):l.length≤9999:=by
  by_cases e:l.length=0
  ·omega
  ·have hx:l[l.length - 1]? =some (l[l.length - 1]'(by omega)):=Aks (by omega)
   have h1:=hY h.inc h.lo _ _ hx
   have h2:=h.hi _ (Akt hx)
   omega
theorem X6 (l:List Int):Qz l=O8 l:=rfl
theorem has_eq (l:List Int) (n:Int):Rf l n=some (decide (n∈l)):=by
  unfold Rf
  exact W8 fun k x hx=>rfl
def clash (a b:A8):Bool:=decide (a.From<b.To)&&decide (b.From<a.To)&&(decide (a.Groomer=b.Groomer)||a.Runs.any fun x=>decide (x∈b.Runs))
theorem kK (a b:A8):P0 a b=some (clash a b):=by
  unfold P0 clash
  by_cases h1:b.To≤a.From
  ·rw[Akq h1,Akr (show ¬ a.From<b.To by omega)];rfl
  rw[Akr h1,Akq (show a.From<b.To by omega),cond_false]
  by_cases h2:a.To≤b.From
  ·rw[Akq h2,Akr (show ¬ b.From<a.To by omega)];rfl
  rw[Akr h2,Akq (show b.From<a.To by omega),cond_false]
  rw[Fk (step:=K3 b) (fun x=>decide (x∈b.Runs)) (fun _=>true) (fun k x hx=>by unfold K3;rw[has_eq];rfl)]
  cases hf:a.Runs.find? fun x=>decide (x∈b.Runs)with
  | some x=>
    have:(a.Runs.any fun x=>decide (x∈b.Runs))=true:=List.any_eq_true.2 ⟨x,List.mem_of_find?_eq_some hf,List.find?_some (p:=fun x=>decide (x∈b.Runs)) hf⟩
    rw[this];simp[Out.on]
  | none=>
    have:(a.Runs.any fun x=>decide (x∈b.Runs))=false:=List.any_eq_false.2 fun x hx=>by simpa using List.find?_eq_none.1 hf x hx
    rw[this];simp[Out.on]
theorem pZ {a b:A8} (hi:Inc b.Runs) (hl:b.Runs.length≤549755813888):Kj a b=some (clash a b):=by
  unfold Kj clash
  by_cases h1:b.To≤a.From
  ·rw[Akq h1,Akr (show ¬ a.From<b.To by omega)];rfl
  rw[Akr h1,Akq (show a.From<b.To by omega),cond_false]
  by_cases h2:a.To≤b.From
  ·rw[Akq h2,Akr (show ¬ b.From<a.To by omega)];rfl
  rw[Akr h2,Akq (show b.From<a.To by omega),cond_false]
  by_cases h3:a.Groomer=b.Groomer
  ·rw[Akq h3];rfl
  rw[Akr h3,cond_false]
  rw[Fk (step:=Gu b) (fun x=>decide (x∈b.Runs)) (fun _=>true) (fun k x hx=>by
   unfold Gu;rw[uR hi hl,Aku,Akq (show(0:Int)≤(k:Int) by omega)])]
  cases hf:a.Runs.find? fun x=>decide (x∈b.Runs)with
  | some x=>
    have:(a.Runs.any fun x=>decide (x∈b.Runs))=true:=List.any_eq_true.2 ⟨x,List.mem_of_find?_eq_some hf,List.find?_some (p:=fun x=>decide (x∈b.Runs)) hf⟩
    rw[this];simp[Out.on]
  | none=>
    have:(a.Runs.any fun x=>decide (x∈b.Runs))=false:=List.any_eq_false.2 fun x hx=>by simpa using List.find?_eq_none.1 hf x hx
    rw[this];simp[Out.on]
structure zO (w:A8):Prop where
  g1:1≤w.Groomer
  g2:w.Groomer≤9999
  f0:0≤w.From
  ft:w.From<w.To
  t1:w.To≤20000000
  runs:jD w.Runs
structure fR (l:List A8):Prop where
  len:l.length≤16
  rope:∀ w∈l,zO w
  apart:l.Pairwise fun a b=>clash a b=false
theorem x9 {l:List A8} {x:A8} {k:Nat} (hk:k≤l.length) (hl:l.length≤16) :
    (Ki (Er l x) k ()=some (.next ())∧∀ (j:Nat) w,j<k→l[j]? =some w→clash w x=false)∨(Ki (Er l x) k ()=some (.ret (.ret 15))∧∃ (j:Nat) (w:A8),j<k∧l[j]? =some w∧clash w x=true):=by
  rcases Xe (n:=k) (step:=Er l x) (s:=()) (by omega) (fun i _=>∀ (j:Nat) w,j<i→l[j]? =some w→clash w x=false) (fun r=>r= .ret 15∧∃ (j:Nat) (w:A8),j<k∧l[j]? =some w∧clash w x=true)
    (fun j w h=>by omega) (fun i s hi hI=>by
      have hw:l[i]? =some l[i]:=Aks (by omega)
      generalize l[i]=w at hw
      unfold Er
      rw[A9 hw,Aku,kK,Aku]
      cases hc:clash w x with
      | true=>exact .inr ⟨_,rfl,rfl,i,w,hi,hw,hc⟩
      | false=>
        refine .inl ⟨(),rfl,fun j w' hj zu=>?_⟩
        by_cases e:j=i
        ·subst e;rw[hw]at zu;obtain rfl:=Ak0 zu;exact hc
        ·exact hI j w' (by omega) zu)with ⟨s',h1,h2⟩ | ⟨r,h1,rfl,h2⟩
  ·exact .inl ⟨h1,h2⟩
  ·exact .inr ⟨h1,h2⟩
theorem step_eq {l:List A8} {x:A8} {k:Nat} (hk:l[k]? =some x) (hl:l.length≤16) (hr:x.Runs.length≤9223372036854775807):Hw l k x ()=Ff l k x ():=by
  have af:=(Ak1.1 hk).1
  unfold Hw Ff
  obtain⟨b,hb,hbr⟩:=tJ hr
  rw[X6,hb,Aku,Aku]
  cases b with
  | false=>rfl
  | true=>
    have wb:=(hbr.1 rfl).inc
    have ig:Ki (Kl l k x) k ()=Ki (Er l x) k ():=by
      unfold Ki
      rw[if_pos (by omega),if_pos (by omega)]
      refine L4 fun i u s hi=>?_
      have hik:i<k:=Tw hi
      have hw:l[i]? =some l[i]:=Aks (by omega)
      generalize l[i]=w at hw
      have zu:(l.take k)[i]? =some w:=by rw[List.getElem?_take,if_pos hik];exact hw
      unfold Kl Er
      rw[A9 hw,A9 zu,Aku,Aku,pZ wb (by have:=(hbr.1 rfl).len;omega),kK,Akq (show(0:Int)≤(i:Int) by omega)]
      cases clash w x<;>rfl
    rw[ig,Nh (show(0:Int)≤(k:Int)∧(k:Int)≤(l.length:Int) by omega)]
theorem nO {l:List A8} (hr:∀ w∈l,w.Runs.length≤9223372036854775807):∃ e,Np l=some e∧Pv l=some e∧(e=0↔fR l):=by
  unfold Pv Np
  by_cases h16:(16:Int)<(l.length:Int)
  ·rw[Akq h16]
   exact⟨4,rfl,rfl,by simp,fun h=>by have:=h.len;omega⟩
  rw[Akr h16,cond_false,cond_false]
  rw[L4 (step:=Hw l) (step':=Ff l) fun i x s hi=>step_eq hi (by omega) (hr x (Akt hi))]
  rcases E9 (step:=Ff l) (l:=l) (s:=()) (fun k _=>∀ (i:Nat) w,i<k→l[i]? =some w→zO w∧∀ (j:Nat) v,j<i→l[j]? =some v→clash v w=false) (fun r=>r≠0∧¬ fR l)
    (fun i w h=>by omega) (fun k x u hk hI=>by
      have af:=(Ak1.1 hk).1
      have gv:=Akt hk
      unfold Ff
      by_cases h1:x.Groomer<1
      ·rw[Akq h1];exact .inr ⟨_,rfl,by simp,fun h=>by have:=(h.rope x gv).g1;omega⟩
      rw[Akr h1,cond_false]
      by_cases h2:9999<x.Groomer
      ·rw[Akq h2];exact .inr ⟨_,rfl,by simp,fun h=>by have:=(h.rope x gv).g2;omega⟩
      rw[Akr h2,cond_false]
      by_cases h3:x.From<0
      ·rw[Akq h3];exact .inr ⟨_,rfl,by simp,fun h=>by have:=(h.rope x gv).f0;omega⟩
      rw[Akr h3,cond_false]
      by_cases h4:x.To≤x.From
      ·rw[Akq h4];exact .inr ⟨_,rfl,by simp,fun h=>by have:=(h.rope x gv).ft;omega⟩
      rw[Akr h4,cond_false]
      by_cases h5:20000000<x.To
      ·rw[Akq h5];exact .inr ⟨_,rfl,by simp,fun h=>by have:=(h.rope x gv).t1;omega⟩
      rw[Akr h5,cond_false]
      obtain⟨b,hb,hbr⟩:=tJ (hr x gv)
      rw[hb,Aku]
      cases b with
      | false=>exact .inr ⟨1,rfl,by simp,fun h=>by have:=hbr.2 (h.rope x gv).runs;cases this⟩
      | true=>
        rcases x9 (l:=l) (x:=x) (k:=k) (by omega) (by omega)with ⟨h6,h7⟩ | ⟨h6,j,w,hj,hw,hc⟩
        ·refine .inl ⟨(),by rw[h6];rfl,fun i w hi hw=>?_⟩
         by_cases e:i=k
         ·subst e;rw[hk]at hw;obtain rfl:=Ak0 hw
          exact⟨⟨by omega,by omega,by omega,by omega,by omega,hbr.1 rfl⟩,h7⟩
         ·exact hI i w (by omega) hw
        ·refine .inr ⟨15,by rw[h6];rfl,by simp,fun h=>?_⟩
         obtain⟨h8,rfl⟩:=Ak1.1 hw
         obtain⟨h9,rfl⟩:=Ak1.1 hk
         have:=(List.pairwise_iff_getElem.1 h.apart) j k h8 h9 hj
         rw[this]at hc;cases hc)with ⟨s',h1,h2⟩ | ⟨r,h1,h2,h3⟩
  ·rw[h1]
   refine⟨0,rfl,rfl,fun _=>?_,fun _=>rfl⟩
   refine⟨by omega,fun w hw=>?_,?_⟩
   ·obtain⟨i,hi⟩:=List.mem_iff_getElem?.1 hw
    exact(h2 i w (Ak1.1 hi).1 hi).1
   ·rw[List.pairwise_iff_getElem]
    intro i j hi hj oq
    exact(h2 j _ hj (Aks hj)).2 i _ oq (Aks hi)
  ·rw[h1]
   exact⟨r,rfl,rfl,fun e=>absurd e h2,fun h=>absurd h h3⟩
structure Few (l:List A8):Prop where
  len:l.length≤40
  runs:∀ w∈l,w.Runs.length≤10000
def atT (l:List A8) (t:Int):List A8:=l.filter fun w=>decide (w.From≤t)&&decide (t<w.To)
def Ks (l:List A8) (t:Int):List Int:=(atT l t).flatMap (·.Runs)
theorem mF {l:List A8} {t:Int} {w:A8}:w∈atT l t↔w∈l∧w.From≤t∧t<w.To:=by simp[atT]
theorem Vc {l:List A8} {t n:Int}:n∈Ks l t↔∃ w∈l,(w.From≤t∧t<w.To)∧n∈w.Runs:=by
  unfold Ks
  rw[List.mem_flatMap]
  constructor
  ·rintro⟨w,hw,hn⟩;exact⟨w,(mF.1 hw).1,(mF.1 hw).2,hn⟩
  ·rintro⟨w,hw,ht,hn⟩;exact⟨w,mF.2 ⟨hw,ht⟩,hn⟩
theorem gY {l:List A8} {t:Int} (h:∀ w∈l,w.Runs.length≤10000):(Ks l t).length≤10000*l.length:=by
  induction l with
  | nil=>simp[Ks,atT]
  | cons w l ih=>
    have ih:=ih fun w hw=>h w (List.mem_cons_of_mem _ hw)
    have hw:=h w (by simp)
    unfold Ks atT at ih ⊢
    rw[List.filter_cons]
    split
    ·rw[List.flatMap_cons,Akw,List.length_cons];omega
    ·rw[List.length_cons];omega
theorem nJ (l:List A8) (x:A8) (t:Int):Ks (l++[x]) t=if x.From≤t∧t<x.To then Ks l t++x.Runs else Ks l t:=by
  unfold Ks atT
  rw[List.filter_append]
  by_cases h:x.From≤t∧t<x.To
  ·rw[if_pos h,List.filter_cons_of_pos (by simp[h]),List.filter_nil,List.flatMap_append];simp
  ·rw[if_neg h,List.filter_cons_of_neg (by simpa using h),List.filter_nil,List.append_nil]
theorem w5 {l:List A8} (h:Few l) (t:Int):Pu l t=some (norm (Ks l t)):=by
  unfold Pu
  obtain⟨s',h1,h2⟩:=Eb (step:=Kk t) (l:=l) (s:=[]) (fun k s=>s=Ks (l.take k) t) (by simp[Ks,atT]) (fun k x s hk hI=>by
    have af:=(Ak1.1 hk).1
    have hlen:s.length≤10000*k:=by
      rw[hI]
      have:=gY (l:=l.take k) (t:=t) fun w hw=>h.runs w (List.mem_of_mem_take hw)
      rw[List.length_take]at this;omega
    have hx:=h.runs x (Akt hk)
    have hl:=h.len
    rw[Bz hk,nJ]
    unfold Kk
    by_cases h1:x.From≤t
    ·rw[Akq h1,cond_true]
     by_cases h2:t<x.To
     ·rw[Akq h2,cond_true,B1 (by omega),if_pos ⟨h1,h2⟩,hI]
      exact⟨_,rfl,rfl⟩
     ·rw[Akr h2,cond_false,if_neg (fun h=>h2 h.2)]
      exact⟨_,rfl,hI⟩
    ·rw[Akr h1,cond_false,if_neg (fun h=>h1 h.1)]
     exact⟨_,rfl,hI⟩)
  rw[List.take_length]at h2
  have hl:=gY (l:=l) (t:=t) h.runs
  have:=h.len
  rw[h1,Aku]
  show chk s'.length _=_
  rw[h2,B1 (by omega),B1 (by omega)];rfl
theorem uX {l:List A8} (hr:fR l) (t:Int):Ww l t=some (norm (Ks l t)):=by
  unfold Ww
  obtain⟨s',h1,h2,h3,h4⟩:=aQ (ρ:=List Int) (n:=9999) (step:=Rt l t) (s:=[]) (by omega) (fun k s=>Inc s∧s.length≤k∧∀ n,n∈s↔(n≤k∧n∈Ks l t))
    ⟨List.Pairwise.nil,by simp,fun n=>by
      constructor
      ·intro h;simp at h
      ·rintro⟨h,hn⟩
       obtain⟨w,hw,_,hm⟩:=Vc.1 hn
       have:=(hr.rope w hw).runs.lo n hm;simp at h;omega⟩ (fun k s hk hI=>by
    obtain⟨i1,i2,i3⟩:=hI
    unfold Rt
    rw[Fk (step:=Rs t s k) (fun w=>decide (w.From≤t)&&(decide (t<w.To)&&decide (((k:Nat):Int)+1∈w.Runs))) (fun _=>.next (s++[((k:Nat):Int)+1])) (fun j w hw=>by
     unfold Rs
     rw[has_eq]
     by_cases h1:w.From≤t<;>by_cases h2:t<w.To<;>by_cases h3:((k:Nat):Int)+1∈w.Runs<;>simp[h1,h2,h3,B1 (show s.length+1≤549755813888 by omega)])]
    have old:∀ n,n∈Ks l t→n≤((k+1:Nat):Int)→n≤(k:Int)∨n=(k:Int)+1:=fun n _ h=>by omega
    cases hf:l.find? (fun w=>decide (w.From≤t)&&(decide (t<w.To)&&decide (((k:Nat):Int)+1∈w.Runs)))with
    | some w=>
      have hp:=List.find?_some hf
      have hw:=List.mem_of_find?_eq_some hf
      simp only[Bool.and_eq_true,decide_eq_true_eq]at hp
      have ig:((k:Nat):Int)+1∈Ks l t:=Vc.2 ⟨w,hw,⟨hp.1,hp.2.1⟩,hp.2.2⟩
      refine⟨_,rfl,?_,by simp;omega,fun n=>?_⟩
      ·unfold Inc
       rw[List.pairwise_append]
       exact⟨i1,by simp,fun a ha b hb=>by simp at hb;have:=((i3 a).1 ha).1;omega⟩
      ·rw[Akz,i3,List.mem_singleton]
       constructor
       ·rintro(h | rfl)
        ·exact⟨by omega,h.2⟩
        ·exact⟨by omega,ig⟩
       ·rintro⟨h,hn⟩
        rcases old n hn h with h | h
        ·exact .inl ⟨h,hn⟩
        ·exact .inr h
    | none=>
      refine⟨_,rfl,i1,by omega,fun n=>?_⟩
      rw[i3]
      constructor
      ·rintro⟨h,hn⟩;exact⟨by omega,hn⟩
      ·rintro⟨h,hn⟩
       rcases old n hn h with h | rfl
       ·exact⟨h,hn⟩
       ·obtain⟨w,hw,ht,hm⟩:=Vc.1 hn
        have:=List.find?_eq_none.1 hf w hw
        simp[ht.1,ht.2,hm]at this)
  rw[h1,Aku]
  show some s'=_
  congr 1
  refine Pq h2 (Um _) fun n=>?_
  rw[Ul,h4]
  refine⟨fun h=>h.2,fun h=>⟨?_,h⟩⟩
  obtain⟨w,hw,_,hm⟩:=Vc.1 h
  exact(hr.rope w hw).runs.hi n hm
end Go.Proofs.YtjopghiagoidgaaGreat.W46
namespace Go.Proofs.YtjopghiagoidgaaGreat.S50
open Go Go.Ab
set_option linter.unusedSimpArgs false
set_option linter.unusedVariables false
section
variable {α σ ρ:Type}
theorem Qa {step step':Nat→α→σ→Option (Out σ ρ)}:∀ {l:List α} {k:Nat},(∀ i x s,l[i]? =some x→step (k+i) x s=step' (k+i) x s)→∀ s,An step k l s=An step' k l s
  | [],k,h,s=>rfl
  | x::r,k,h,s=>by
    have h0:=h 0 x s rfl
    rw[Nat.add_zero]at h0
    rw[An,An,h0]
    have ih:∀ s,An step (k+1) r s=An step' (k+1) r s:=Qa (l:=r) (k:=k+1) (fun i y s hy=>by
      have:=h (i+1) y s (by simpa using hy)
      rwa [show k+(i+1)=k+1+i by omega]at this)
    cases step' k x s with
    | none=>rfl
    | some o=>cases o with
      | next s'=>exact ih s'
      | ret r=>rfl
theorem L4 {step step':Nat→α→σ→Option (Out σ ρ)} {l:List α} {s:σ} (h:∀ i x s,l[i]? =some x→step i x s=step' i x s):An step 0 l s=An step' 0 l s:=
  Qa (k:=0) (fun i x s hx=>by rw[Nat.zero_add];exact h i x s hx) s
end
def Small (l:List Be):Prop:=l.length≤50∧∀ s∈l,s.Zones.length≤100∧True
def Inc (l:List Int):Prop:=l.Pairwise (·< ·)
def Tc (most:Int) (l:List Int):Prop:=(∀ x∈l,1≤x∧x≤most)∧Inc l
instance (most:Int) (l:List Int):Decidable (Tc most l):=by unfold Tc Inc;infer_instance
theorem mL {l:List Int} (h:∀ k x y,l[k+1]? =some x→l[k]? =some y→y<x):Inc l:=by
  unfold Inc
  rw[List.pairwise_iff_getElem]
  have key:∀ (d i:Nat) (hj:i+d+1<l.length),l[i]'(by omega)<l[i+d+1]:=by
    intro d
    induction d with
    | zero=>
      intro i hj
      exact h i _ _ (Aks (by omega)) (Aks (by omega))
    | succ d ih=>
      intro i hj
      have h1:=ih i (by omega)
      have h2:=h (i+d+1) l[i+(d+1)+1] l[i+d+1] (by rw[Aks (by omega)];rfl) (Aks (by omega))
      omega
  intro i j hi hj af
  have:=key (j - i - 1) i (by omega)
  simpa[show i+(j - i - 1)+1=j by omega]using this
theorem vT {l:List Int} (h:Inc l) {k:Nat} {x y:Int} (hx:l[k+1]? =some x) (hy:l[k]? =some y):y<x:=by
  unfold Inc at h
  rw[List.pairwise_iff_getElem]at h
  obtain⟨h1,rfl⟩:=Ak1.1 hx
  obtain⟨h2,rfl⟩:=Ak1.1 hy
  exact h k (k+1) h2 h1 (by omega)
theorem Tv (l:List Int) (most:Int) (hl:l.length≤9223372036854775807):En l most=some (decide (Tc most l)):=by
  unfold En
  rcases E9 (step:=Em l most) (l:=l) (s:=()) (fun k _=>(∀ i x,i<k→l[i]? =some x→1≤x∧x≤most)∧∀ i x y,i+1<k→l[i+1]? =some x→l[i]? =some y→y<x)
    (fun r=>r=false∧¬ Tc most l) ⟨fun i x h=>by omega,fun i x y h=>by omega⟩ (fun k x u hk ⟨ot,oa⟩=>by
      have af:=(Ak1.1 hk).1
      have hm:=Akt hk
      unfold Em
      by_cases h1:x<1
      ·rw[Akq h1];exact .inr ⟨false,rfl,rfl,fun h=>by have:=h.1 x hm;omega⟩
      rw[Akr h1,cond_false]
      by_cases h2:most<x
      ·rw[Akq h2];exact .inr ⟨false,rfl,rfl,fun h=>by have:=h.1 x hm;omega⟩
      rw[Akr h2,cond_false]
      have hI1':∀ i y,i<k+1→l[i]? =some y→1≤y∧y≤most:=fun i y hi hy=>by
        by_cases e:i=k
        ·subst e;rw[hk]at hy;obtain rfl:=Ak0 hy;omega
        ·exact ot i y (by omega) hy
      by_cases h3:(0:Int)<(k:Int)
      ·rw[Akq h3,cond_true,Ra (by omega) (by omega),aN (k:=k - 1) (by omega),Aku]
       have hp:l[k - 1]? =some l[k - 1]:=Aks (by omega)
       by_cases h4:x≤l[k - 1]
       ·rw[Akq h4]
        refine .inr ⟨false,rfl,rfl,fun h=>?_⟩
        have:=vT h.2 (k:=k - 1) (by rw[Nat.sub_add_cancel (by omega)];exact hk) hp
        omega
       ·rw[Akr h4]
        refine .inl ⟨(),rfl,hI1',fun i a b hi ha hb=>?_⟩
        by_cases e:i+1=k
        ·rw[e,hk]at ha;obtain rfl:=Ak0 ha
         obtain rfl:i=k - 1:=by omega
         rw[hp]at hb;obtain rfl:=Ak0 hb;omega
        ·exact oa i a b (by omega) ha hb
      ·rw[Akr h3]
       exact .inl ⟨(),rfl,hI1',fun i a b hi ha hb=>by omega⟩)with ⟨u,h1,h2,h3⟩ | ⟨r,h1,h2,h3⟩
  ·have:Tc most l:=⟨fun x hx=>by
     obtain⟨i,hi,rfl⟩:=List.getElem_of_mem hx
     exact h2 i _ hi (Aks hi),mL fun k x y hx hy=>h3 k x y (Ak1.1 hx).1 hx hy⟩
   rw[h1,Akq this];rfl
  ·subst h2
   rw[h1,Akr h3];rfl
theorem X6 (l:List Int) (most:Int) (hl:l.length≤9223372036854775807):Oc l most=some (decide (Tc most l)):=Tv l most hl
theorem find_eq (l:List Be) (n:Int):(Ik l n=some (-1)∧∀ x∈l,x.ID≠n)∨(∃ (k:Nat) (x:Be),Ik l n=some (k:Int)∧l[k]? =some x∧x.ID=n∧∀ j y,j<k→l[j]? =some y→y.ID≠n):=by
  unfold Ik
  rcases E9 (step:=G9 n) (l:=l) (s:=()) (fun k _=>∀ i x,i<k→l[i]? =some x→x.ID≠n)
    (fun r=>∃ (k:Nat) (x:Be),r=(k:Int)∧l[k]? =some x∧x.ID=n∧∀ j y,j<k→l[j]? =some y→y.ID≠n) (fun i x h=>by omega) (fun k x u hk hI=>by
      unfold G9
      by_cases e:x.ID=n
      ·rw[Akq e];exact .inr ⟨_,rfl,k,x,rfl,hk,e,hI⟩
      ·rw[Akr e]
       refine .inl ⟨(),rfl,fun i y hi hy=>?_⟩
       by_cases h:i=k
       ·subst h;rw[hk]at hy;obtain rfl:=Ak0 hy;exact e
       ·exact hI i y (by omega) hy)with ⟨u,h1,h2⟩ | ⟨r,h1,k,x,rfl,h2,h3,h4⟩
  ·refine .inl ⟨by rw[h1];rfl,fun x hx=>?_⟩
   obtain⟨i,hi,rfl⟩:=List.getElem_of_mem hx
   exact h2 i _ hi (Aks hi)
  ·exact .inr ⟨k,x,by rw[h1];rfl,h2,h3,h4⟩
def InR (s:Be):Prop:=1≤s.ID∧s.ID≤9999∧4≤s.Limit∧s.Limit≤100000∧0≤s.Load∧s.Load≤100000∧-1≤s.Controlled∧s.Controlled≤20000000
instance (s:Be):Decidable (InR s):=by unfold InR;infer_instance
def Bl (s:Be):Prop:=s.Zones≠[]∧Tc 32 s.Zones∧Tc 9999 s.Lifts
instance (s:Be):Decidable (Bl s):=by unfold Bl;infer_instance
def lQ (l:List Be) (k:Nat) (s:Be):Prop:=∃ y∈l.take k,y.ID=s.ID
instance (l:List Be) (k:Nat) (s:Be):Decidable (lQ l k s):=by unfold lQ;infer_instance
def Xi (l:List Be) (k:Nat) (s:Be):Option Int:=if ¬ InR s then some 2 else if lQ l k s then some 7 else if ¬ Bl s then some 1 else none
def ans (o:Option Int):Option (Out Unit Int):=match o with | none=>some (.next ()) | some e=>some (.ret e)
theorem r8 (s:Be):G8 s=some (decide (InR s)):=by
  unfold G8 InR
  by_cases h1:1≤s.ID<;>by_cases h2:s.ID≤9999<;>by_cases h3:4≤s.Limit<;>by_cases h4:s.Limit≤100000<;>by_cases h5:0≤s.Load<;>by_cases h6:s.Load≤100000<;>by_cases h7: -1≤s.Controlled<;>simp[h1,h2,h3,h4,h5,h6,h7]
theorem kS (s:Be):decide (((s.Zones.length:Nat):Int)=(0:Int))=decide (s.Zones=[]):=by
  cases s.Zones<;>simp<;>omega
theorem rH (l:List Be) (hl:l.length≤9223372036854775807) (k:Nat) (x:Be) (hk:l[k]? =some x) (hz:x.Zones.length≤9223372036854775807) (hf:x.Lifts.length≤9223372036854775807) :
    Fa l k x ()=ans (Xi l k x):=by
  have af:=(Ak1.1 hk).1
  unfold Fa Xi
  rw[r8,Aku]
  by_cases h1:InR x
  ·rw[Akq h1,Bool.not_true,cond_false,Nh ⟨by omega,by omega⟩,if_neg (by simpa using h1)]
   rcases find_eq (l.take k) x.ID with⟨h2,h3⟩ | ⟨j,y,h2,h3,h4,_⟩
   ·rw[h2,Aku,if_neg (fun⟨y,hy,e⟩=>h3 y hy e)]
    show(bif decide (((x.Zones.length:Nat):Int)=(0:Int))then _ else _)=_
    rw[kS,Tv _ _ hz,Tv _ _ hf]
    unfold Bl
    by_cases h5:x.Zones=[]<;>by_cases h6:Tc 32 x.Zones<;>by_cases h7:Tc 9999 x.Lifts<;>simp[h5,h6,h7,ans]
   ·rw[h2,Aku,Akq (Int.natCast_nonneg j),cond_true,if_pos ⟨y,Akt h3,h4⟩];rfl
  ·rw[Akr h1,if_pos h1];rfl
theorem uZ (l:List Be) (k:Nat) (x:Be) (hk:k<l.length) (hl:l.length≤9223372036854775807) :
    (lQ l k x∧Ki (Gd l x) k ()=some (.ret (.ret 7)))∨(¬ lQ l k x∧Ki (Gd l x) k ()=some (.next ())):=by
  rcases Xe (step:=Gd l x) (n:=k) (s:=()) (by omega) (fun i _=>∀ j y,j<i→l[j]? =some y→y.ID≠x.ID) (fun r=>r= .ret 7∧lQ l k x) (fun j y h=>by omega) (fun i u hi hI=>by
    unfold Gd
    have hy:l[i]? =some l[i]:=Aks (by omega)
    rw[A9 hy,Aku]
    by_cases e:l[i].ID=x.ID
    ·rw[Akq e]
     refine .inr ⟨_,rfl,rfl,l[i],Akt (i:=i) ?_,e⟩
     rw[List.getElem?_take,if_pos hi];exact hy
    ·rw[Akr e]
     refine .inl ⟨(),rfl,fun j y hj rq=>?_⟩
     by_cases h:j=i
     ·subst h;rw[hy]at rq;obtain rfl:=Ak0 rq;exact e
     ·exact hI j y (by omega) rq)with ⟨u,h1,h2⟩ | ⟨r,h1,h2,h3⟩
  ·refine .inr ⟨fun⟨y,hy,e⟩=>?_,h1⟩
   obtain⟨j,hj,rfl⟩:=List.getElem_of_mem hy
   rw[List.length_take]at hj
   rw[List.getElem_take]at e
   exact h2 j _ (by omega) (Aks (by omega)) e
  ·subst h2;exact .inl ⟨h3,h1⟩
theorem jO (l:List Be) (hl:l.length≤9223372036854775807) (k:Nat) (x:Be) (hk:l[k]? =some x) (hz:x.Zones.length≤9223372036854775807) (hf:x.Lifts.length≤9223372036854775807) :
    H7 l k x ()=ans (Xi l k x):=by
  have af:=(Ak1.1 hk).1
  unfold H7 Xi
  by_cases h1:InR x
  ·obtain⟨a1,a2,a3,a4,a5,a6,a7,a8⟩:=h1
   rw[Akr (by omega),cond_false,Akr (by omega),cond_false,Akr (by omega),cond_false,Akr (by omega),cond_false,Akr (by omega),cond_false,
    Akr (by omega),cond_false,Akr (by omega),cond_false,Akr (by omega),cond_false,if_neg (fun hn=>hn (show InR x from⟨a1,a2,a3,a4,a5,a6,a7,a8⟩))]
   rcases uZ l k x af hl with⟨h2,h3⟩ | ⟨h2,h3⟩
   ·rw[h3,if_pos h2];rfl
   ·rw[h3,if_neg h2,Aku]
    show(bif decide (((x.Zones.length:Nat):Int)=(0:Int))then _ else _)=_
    rw[kS,X6 _ _ hz,X6 _ _ hf]
    unfold Bl
    by_cases h5:x.Zones=[]<;>by_cases h6:Tc 32 x.Zones<;>by_cases h7:Tc 9999 x.Lifts<;>simp[h5,h6,h7,ans]
  ·rw[if_pos h1]
   by_cases b1:x.ID<1
   ·rw[Akq b1];rfl
   rw[Akr b1,cond_false]
   by_cases b2:9999<x.ID
   ·rw[Akq b2];rfl
   rw[Akr b2,cond_false]
   by_cases b3:x.Limit<4
   ·rw[Akq b3];rfl
   rw[Akr b3,cond_false]
   by_cases b4:100000<x.Limit
   ·rw[Akq b4];rfl
   rw[Akr b4,cond_false]
   by_cases b5:x.Load<0
   ·rw[Akq b5];rfl
   rw[Akr b5,cond_false]
   by_cases b6:100000<x.Load
   ·rw[Akq b6];rfl
   rw[Akr b6,cond_false]
   by_cases b7:x.Controlled < -1
   ·rw[Akq b7];rfl
   rw[Akr b7,cond_false]
   by_cases b8:20000000<x.Controlled
   ·rw[Akq b8];rfl
   exact absurd (show InR x from⟨by omega,by omega,by omega,by omega,by omega,by omega,by omega,by omega⟩) h1
def bI (l:List Be):Prop:=l.length≤32∧∀ k x,l[k]? =some x→Xi l k x=none
def Ab7 (l:List Be):Prop:=l.length≤9223372036854775807∧∀ s∈l,s.Zones.length≤9223372036854775807∧s.Lifts.length≤9223372036854775807
theorem zG (l:List Be) (g:Nat→Be→Option Int):∃ r,((An (fun k x (_:Unit)=>ans (g k x)) 0 l ()).bind fun o=>o.on fun _=>some (0:Int))=some r∧((∀ k x,l[k]? =some x→g k x≠some 0)→(r=0↔∀ k x,l[k]? =some x→g k x=none)):=by
  rcases E9 (step:=fun k x (_:Unit)=>ans (g k x)) (l:=l) (s:=()) (fun i _=>∀ k x,k<i→l[k]? =some x→g k x=none) (fun r=>∃ k x,l[k]? =some x∧g k x=some r) (fun k x h=>by omega) (fun k x u hk hI=>by
    cases hg:g k x with
    | none=>
      refine .inl ⟨(),by simp only[hg,ans],fun i y hi hy=>?_⟩
      by_cases e:i=k
      ·subst e;rw[hk]at hy;obtain rfl:=Ak0 hy;exact hg
      ·exact hI i y (by omega) hy
    | some e=>exact .inr ⟨e,by simp only[hg,ans],k,x,hk,hg⟩)with ⟨u,h1,h2⟩ | ⟨r,h1,k,x,h2,h3⟩
  ·exact⟨0,by rw[h1];rfl,fun _=>⟨fun _ k x hx=>h2 k x (Ak1.1 hx).1 hx,fun _=>rfl⟩⟩
  ·refine⟨r,by rw[h1];rfl,fun hn=>⟨fun e=>?_,fun h=>?_⟩⟩
   ·subst e;exact absurd h3 (hn k x h2)
   ·rw[h k x h2]at h3;cases h3
theorem yP (l:List Be) (k:Nat) (x:Be):Xi l k x≠some 0:=by
  unfold Xi;split<;>(try split)<;>(try split)<;>simp
theorem Wm (l:List Be) (h:Ab7 l):∃ r,Jv l=some r∧No l=some r∧(r=0↔bI l):=by
  unfold Jv No
  by_cases hl:(32:Int)<((l.length:Nat):Int)
  ·rw[Akq hl]
   exact⟨4,rfl,rfl,fun e=>by omega,fun h=>by have:=h.1;omega⟩
  ·rw[Akr hl,cond_false,cond_false]
   rw[L4 (step:=Fa l) (step':=fun k x (_:Unit)=>ans (Xi l k x)) (fun k x u hx=>rH l h.1 k x hx (h.2 x (Akt hx)).1 (h.2 x (Akt hx)).2),
    L4 (step:=H7 l) (step':=fun k x (_:Unit)=>ans (Xi l k x)) (fun k x u hx=>jO l h.1 k x hx (h.2 x (Akt hx)).1 (h.2 x (Akt hx)).2)]
   obtain⟨r,h1,h2⟩:=zG l (Xi l)
   refine⟨r,h1,h1,(h2 fun k x _=>yP l k x).trans ⟨fun h=>⟨by omega,h⟩,fun h=>h.2⟩⟩
theorem bI.at {l:List Be} (h:bI l) {x:Be} (hx:x∈l):InR x∧Bl x:=by
  obtain⟨k,hk,rfl⟩:=List.getElem_of_mem hx
  have:=h.2 k _ (Aks hk)
  unfold Xi at this
  split at this
  ·cases this
  ·split at this
   ·cases this
   ·split at this
    ·cases this
    ·rename_i a b c;exact⟨by simpa using a,by simpa using c⟩
theorem wrap_small {n:Int} (h: -9223372036854775808≤n) (h2:n≤9223372036854775807):IntKind.i64.wrap n=n:=by simp[IntKind.wrap,IntKind.bits,IntKind.signed]<;>omega
def lvl (levels:List Int) (z:Int):Int:=if 1≤z then(levels[(z - 1).toNat]?).getD 0 else 0
def W4 (levels:List Int):List Int→Int
  | []=>0
  | z::r=>r.foldl (fun a z=>if a<lvl levels z then lvl levels z else a) (lvl levels z)
theorem vM (levels:List Int) (zs:List Int) (z:Int):W4 levels (zs++[z])=if zs=[]∨W4 levels zs<lvl levels z then lvl levels z else W4 levels zs:=by
  cases zs with
  | nil=>rfl
  | cons y r=>
    simp only[List.cons_append,W4,List.foldl_append,List.foldl_cons,List.foldl_nil,reduceCtorEq,false_or]
theorem xR {levels:List Int} {z:Int} (hl:levels.length≤9223372036854775807) (h1:1≤z) (h2:z≤(levels.length:Int)):Dv levels (IntKind.i64.wrap (z - 1))=some (lvl levels z):=by
  rw[wrap_small (by omega) (by omega)]
  have af:(z - 1).toNat<levels.length:=by omega
  unfold lvl
  rw[if_pos h1,Aks af]
  exact Q7 (k:=(z - 1).toNat) (by omega) (Aks af)
theorem mG {levels:List Int} {z:Int} (h:¬ (1≤z∧z≤(levels.length:Int))):lvl levels z=0:=by
  unfold lvl
  by_cases h1:1≤z
  ·rw[if_pos h1,List.getElem?_eq_none (by omega)];rfl
  ·rw[if_neg h1]
theorem W3 (k:Nat) (v sv:Int):(bif (decide (((k:Nat):Int)=(0:Int)))then some (Out.next v)else (bif (decide (sv<v))then some (Out.next v)else some (Out.next sv)):Option (Out Int Int))=some (.next (if k=0∨sv<v then v else sv)):=by
  by_cases h1:k=0
  ·rw[Akq (by omega),if_pos (.inl h1)];rfl
  ·rw[Akr (by omega),cond_false]
   by_cases h2:sv<v
   ·rw[Akq h2,if_pos (.inr h2)];rfl
   ·rw[Akr h2,if_neg (by omega)];rfl
theorem r5 {levels:List Int} (hl:levels.length≤9223372036854775807) (k:Nat) (x sv:Int):Gh levels k x sv=some (.next (if k=0∨sv<lvl levels x then lvl levels x else sv)):=by
  unfold Gh
  by_cases h1:1≤x
  ·rw[Akq h1,cond_true]
   by_cases h2:x≤(levels.length:Int)
   ·rw[Akq h2,cond_true,xR hl h1 h2,Aku];exact W3 k _ sv
   ·rw[Akr h2,cond_false,mG (fun h=>h2 h.2)];exact W3 k _ sv
  ·rw[Akr h1,cond_false,mG (fun h=>h1 h.1)];exact W3 k _ sv
theorem jP {levels:List Int} (hl:levels.length≤9223372036854775807) (k:Nat) (x sv:Int) (h1:1≤x):Rq levels k x sv=some (.next (if k=0∨sv<lvl levels x then lvl levels x else sv)):=by
  unfold Rq
  by_cases h2:x≤(levels.length:Int)
  ·rw[Akq h2,cond_true,xR hl h1 h2,Aku];exact W3 k _ sv
  ·rw[Akr h2,cond_false,mG (fun h=>h2 h.2)];exact W3 k _ sv
theorem oW {step:Nat→Int→Int→Option (Out Int Int)} {levels zs:List Int} (hs:∀ k x sv,x∈zs→step k x sv=some (.next (if k=0∨sv<lvl levels x then lvl levels x else sv))) :
    ((An step 0 zs 0).bind fun o=>o.on fun s=>some s)=some (W4 levels zs):=by
  obtain⟨s',h1,h2⟩:=Eb (step:=step) (l:=zs) (s:=0) (fun k s=>s=W4 levels (zs.take k)) rfl (fun k x s hk hI=>by
    have af:=(Ak1.1 hk).1
    rw[hs k x s (Akt hk)]
    refine⟨_,rfl,?_⟩
    rw[List.take_add_one,hk,hI]
    show _=W4 levels (zs.take k++[x])
    rw[vM]
    have:zs.take k=[]↔k=0:=by
      constructor
      ·intro h
       have:=congrArg List.length h
       simp at this
       rcases this with h | h
       ·exact h
       ·subst h;simp at af
      ·intro h;subst h;rfl
    simp only[this])
  rw[h1,h2,List.take_length];rfl
theorem xV (s:Be) {levels:List Int} (hl:levels.length≤9223372036854775807):M9 s levels=some (W4 levels s.Zones):=
  oW fun k x sv _=>r5 hl k x sv
theorem nY (s:Be) {levels:List Int} (hl:levels.length≤9223372036854775807) (hz:∀ z∈s.Zones,1≤z):eE s levels=some (W4 levels s.Zones):=
  oW fun k x sv hx=>jP hl k x sv (hz x hx)
def Yz (s:Be) (levels:List Int):Prop:=
  s.Limit≤s.Load∨(W4 levels s.Zones=3∧s.Limit / 2≤s.Load)∨(W4 levels s.Zones=4∧s.Limit / 4≤s.Load)∨4<W4 levels s.Zones
instance (s:Be) (levels:List Int):Decidable (Yz s levels):=by unfold Yz;infer_instance
theorem fP {n d:Int} (h0:0≤n) (h1:n≤100000) (hd:1≤d):IntKind.i64.wrap (Int.tdiv n d)=n / d:=by
  have h2:n / d≤n:=Int.ediv_le_self d h0
  have h3:0≤n / d:=Int.ediv_nonneg h0 (by omega)
  rw[Int.tdiv_eq_ediv_of_nonneg h0,wrap_small (by omega) (by omega)]
theorem nB {s:Be} (hr:InR s) {levels:List Int} (hl:levels.length≤9223372036854775807):Gg s levels=some (decide (Yz s levels)):=by
  unfold InR at hr
  unfold Gg
  rw[xV s hl,fP (by omega) (by omega) (by omega),fP (by omega) (by omega) (by omega)]
  by_cases h1:s.Limit≤s.Load
  ·rw[Akq h1,Akq (show Yz s levels from .inl h1)];rfl
  rw[Akr h1,cond_false,Aku]
  by_cases h2:W4 levels s.Zones=3
  ·rw[Akq h2,cond_true]
   refine congrArg some (decide_eq_decide.2 ?_)
   unfold Yz;omega
  rw[Akr h2,cond_false]
  by_cases h3:W4 levels s.Zones=4
  ·rw[Akq h3,cond_true]
   refine congrArg some (decide_eq_decide.2 ?_)
   unfold Yz;omega
  rw[Akr h3,cond_false]
  refine congrArg some (decide_eq_decide.2 ?_)
  unfold Yz;omega
theorem gC {s:Be} (hr:InR s) {levels:List Int} (hl:levels.length≤9223372036854775807) (hz:∀ z∈s.Zones,1≤z):Rp s levels=some (decide (Yz s levels)):=by
  unfold InR at hr
  unfold Rp
  rw[nY s hl hz,fP (by omega) (by omega) (by omega),fP (by omega) (by omega) (by omega),Aku]
  by_cases h1:4<W4 levels s.Zones
  ·rw[Akq h1,Akq (show Yz s levels from .inr (.inr (.inr h1)))];rfl
  rw[Akr h1,cond_false]
  by_cases h3:W4 levels s.Zones=4
  ·rw[Akq h3,cond_true]
   refine congrArg some (decide_eq_decide.2 ?_)
   unfold Yz;omega
  rw[Akr h3,cond_false]
  by_cases h2:W4 levels s.Zones=3
  ·rw[Akq h2,cond_true]
   refine congrArg some (decide_eq_decide.2 ?_)
   unfold Yz;omega
  rw[Akr h2,cond_false]
  refine congrArg some (decide_eq_decide.2 ?_)
  unfold Yz;omega
theorem Pq:∀ {a b:List Int},Inc a→Inc b→(∀ x,x∈a↔x∈b)→a=b
  | [],[],_,_,_=>rfl
  | [],y::s,_,_,h=>absurd ((h y).2 (by simp)) (by simp)
  | x::r,[],_,_,h=>absurd ((h x).1 (by simp)) (by simp)
  | x::r,y::s,ha,hb,h=>by
    obtain⟨wv,su⟩:=List.pairwise_cons.1 ha
    obtain⟨rj,nb⟩:=List.pairwise_cons.1 hb
    have e:x=y:=by
      rcases List.mem_cons.1 ((h x).1 (by simp))with e | h1
      ·exact e
      ·rcases List.mem_cons.1 ((h y).2 (by simp))with e | h2
       ·exact e.symm
       ·have:=wv y h2;have:=rj x h1;omega
    subst e
    rw[Pq su nb (fun z=>?_)]
    constructor
    ·intro hz
     rcases List.mem_cons.1 ((h z).1 (List.mem_cons_of_mem _ hz))with e | h1
     ·have:=wv z hz;omega
     ·exact h1
    ·intro hz
     rcases List.mem_cons.1 ((h z).2 (List.mem_cons_of_mem _ hz))with e | h1
     ·have:=rj z hz;omega
     ·exact h1
def norm (xs:List Int):List Int:=Cu (Dk xs)
theorem Q2 (xs:List Int):(Dk xs).Pairwise (·≤·):=by
  have:=List.pairwise_mergeSort (le:=fun x y:Int=>decide (x≤y)) (fun a b c h1 h2=>by simp at *;omega) (fun a b=>by simp;omega) xs
  exact this.imp (fun h=>by simpa using h)
theorem Nk (xs:List Int) (a:Int):a∈Dk xs↔a∈xs:=(List.mergeSort_perm xs _).mem_iff
theorem F1 {zs:List Int} {j:Nat} (h:j<zs.length):zs.toArray[j]! =zs[j]:=by simp[h]
theorem Xj {zs:List Int} (a:Int):a∈Cu zs↔a∈zs:=by
  unfold Cu Lib.compact Lib.compactUpTo
  rw[List.mem_map]
  constructor
  ·rintro⟨j,hj,rfl⟩
   have h1:=List.mem_range.1 (List.mem_filter.1 hj).1
   rw[F1 h1];exact List.getElem_mem h1
  ·intro ha
   obtain⟨i,hi,rfl⟩:=List.getElem_of_mem ha
   induction i with
   | zero=>exact ⟨0,List.mem_filter.2 ⟨List.mem_range.2 hi,by simp[Lib.keeps]⟩,F1 hi⟩
   | succ i ih=>
     by_cases e:zs[i+1]=zs[i]
     ·rw[e];exact ih (by omega) (List.getElem_mem _)
     ·refine⟨i+1,List.mem_filter.2 ⟨List.mem_range.2 hi,?_⟩,F1 hi⟩
      unfold Lib.keeps
      rw[F1 hi,Nat.add_sub_cancel,F1 (show i<zs.length by omega)]
      exact Akq (.inr e)
theorem Xk {zs:List Int} (h:zs.Pairwise (·≤·)):Inc (Cu zs):=by
  unfold Cu Lib.compact Lib.compactUpTo Inc
  rw[List.pairwise_map]
  refine(List.pairwise_lt_range.filter _).imp_of_mem (fun {i j} hi hj af=>?_)
  obtain⟨qf,hj2⟩:=List.mem_filter.1 hj
  have qf:=List.mem_range.1 qf
  rw[F1 (show i<zs.length by omega),F1 qf]
  unfold Lib.keeps at hj2
  have bc:=Akp hj2
  rw[F1 qf,F1 (show j - 1<zs.length by omega)]at bc
  rw[List.pairwise_iff_getElem]at h
  have h1:=h (j - 1) j (by omega) qf (by omega)
  rcases Nat.lt_or_ge i (j - 1)with hh | hh
  ·have:=h i (j - 1) (by omega) (by omega) hh;omega
  ·have e:i=j - 1:=by omega
   subst e;omega
theorem Um (xs:List Int):Inc (norm xs):=Xk (Q2 xs)
theorem Ul (xs:List Int) (a:Int):a∈norm xs↔a∈xs:=by unfold norm;rw[Xj,Nk]
theorem gather {step:Nat→Be→List Int→Option (Out (List Int) (List Int))} {l:List Be} (f:Be→List Int) (p:Be→Bool) (hl:l.length≤50) (hf:∀ x∈l,(f x).length≤100)
    (hs:∀ k x s,x∈l→step k x s=bif p x then chk (s.length+(f x).length) (some (Out.next (s++f x)))else some (Out.next s)) :
    ((An step 0 l []).bind fun o2=>o2.on fun s2=>chk s2.length (chk s2.length (some (Cu (Dk s2)))))=some (norm ((l.filter p).flatMap f)):=by
  obtain⟨s',h1,h2,h3⟩:=Eb (step:=step) (l:=l) (s:=[]) (fun k s=>s=((l.take k).filter p).flatMap f∧s.length≤100*k) ⟨by simp,by simp⟩ (fun k x s hk ⟨hI,hn⟩=>by
    have af:=(Ak1.1 hk).1
    have hx:=Akt hk
    have:=hf x hx
    rw[hs k x s hx]
    cases hp:p x with
    | true=>
      rw[cond_true,B1 (by omega)]
      refine⟨_,rfl,?_,by rw[Akw];omega⟩
      rw[List.take_add_one,hk,hI];simp[hp]
    | false=>
      rw[cond_false]
      refine⟨_,rfl,?_,by omega⟩
      rw[List.take_add_one,hk,hI];simp[hp])
  rw[h1]
  show chk s'.length (chk s'.length _)=_
  rw[B1 (by omega),B1 (by omega),h2,List.take_length];rfl
theorem wU {l:List Be} {levels:List Int} (hs:Small l) (hr:∀ x∈l,InR x) (hl:levels.length≤9223372036854775807):Gt l levels=some (norm ((l.filter fun x=>decide (Yz x levels)).flatMap Be.Zones)):=
  gather Be.Zones (fun x=>decide (Yz x levels)) hs.1 (fun x hx=>(hs.2 x hx).1) (fun k x s hx=>by
    unfold Jd;rw[nB (hr x hx) hl,Aku])
theorem w6 (a b:List Int) (x y:Int):((a++y::x::b).set (a.length+1) y).set a.length x=a++x::y::b:=by
  simp[List.set_append]
theorem x4 {at_:Nat} {out:List Int} {x:Int} (hat:at_≤out.length) (hlen:out.length≤100000000) :
    ∃ a b,Kz out x (at_:Int)=some (.next (a++x::b))∧a++b=out∧a.length=at_:=by
  unfold Kz
  rw[B1 (by omega),wrap_small (by omega) (by omega)]
  obtain⟨r,h1,a,b,h2,h3,h4⟩:=Hd (step:=Ro (at_:Int)) (fun s=>∃ a b:List Int,s=((a.length:Int),a++x::b)∧a++b=out∧at_≤a.length)
    (fun r=>∃ a b,r= .next (a++x::b)∧a++b=out∧a.length=at_) (fun s=>s.1.toNat) (fun s hI=>by
      obtain⟨a,b,rfl,rk,ha⟩:=hI
      unfold Ro
      show(∃ s',(bif decide ((at_:Int)<((a.length:Nat):Int))then _ else _)=_∧_)∨_
      by_cases af:at_<a.length
      ·rw[Akq (by omega),cond_true]
       rcases List.eq_nil_or_concat a with e | ⟨a',y,e⟩
       ·subst e;simp at af
       ·rw[List.concat_eq_append]at e
        subst e
        have kd:(a'++[y]).length=a'.length+1:=by simp
        rw[kd]at af ha
        have hle:a'.length+1≤out.length:=by rw[← rk];simp
        have e1:a'++[y]++x::b=a'++y::x::b:=by simp
        have g1:(a'++y::x::b)[a'.length]? =some y:=by simp
        have g2:(a'++y::x::b)[a'.length+1]? =some x:=by simp
        have g3:((a'++y::x::b).set (a'.length+1) y)[a'.length]? =some y:=by rw[List.getElem?_set_ne (by omega)];exact g1
        simp only[kd,e1,Ra (show 0<a'.length+1 by omega) (by omega),Nat.add_sub_cancel,A9 g1,A9 g2,Aku,Int.toNat_natCast,A9 g3,w6]
        exact .inl ⟨_,rfl,⟨a',y::b,rfl,by rw[← rk];simp,by omega⟩,by omega⟩
      ·rw[Akr (by omega),cond_false]
       exact .inr ⟨_,rfl,a,b,rfl,rk,by omega⟩) fuel ((out.length:Int),out++[x]) ⟨out,[],rfl,by simp,hat⟩ (by show out.length<fuel;unfold fuel;omega)
  refine⟨a,b,?_,h3,h4⟩
  rw[show((((out.length+1:Nat):Int)) - 1)=(out.length:Int) by omega,h1,h2];rfl
theorem vO (k:Nat) (x:Int) {out:List Int} (hi:Inc out) (hlen:out.length≤100000000) :
    ∃ out',H6 k x out=some (.next out')∧Inc out'∧(∀ a,a∈out'↔a∈out∨a=x)∧out'.length≤out.length+1:=by
  unfold H6
  obtain⟨r,h1,out',h2,h3⟩:=Hd (step:=Rn out x) (fun(s:Int)=>∃ n:Nat,s=(n:Int)∧n≤out.length∧∀ i y,i<n→out[i]? =some y→y<x)
    (fun r=>∃ out',r= .next out'∧Inc out'∧(∀ a,a∈out'↔a∈out∨a=x)∧out'.length≤out.length+1) (fun s=>out.length - s.toNat) (fun s hI=>by
      obtain⟨n,rfl,hn,hI⟩:=hI
      have hins:(∀ y,out[n]? =some y→x<y)→∃ out',Kz out x (n:Int)=some (.next out')∧Inc out'∧(∀ a,a∈out'↔a∈out∨a=x)∧out'.length≤out.length+1:=fun hgt=>by
        obtain⟨a,b,g1,g2,g3⟩:=x4 (x:=x) hn hlen
        refine⟨_,g1,?_,fun c=>?_,by rw[← g2];simp;omega⟩
        ·subst g2
         unfold Inc at hi ⊢
         obtain⟨p1,p2,p3⟩:=List.pairwise_append.1 hi
         have hb:∀ y∈b,x<y:=fun y hy=>by
           cases b with
           | nil=>cases hy
           | cons z b'=>
             have hz:x<z:=hgt z (by rw[← g3];simp)
             rcases List.mem_cons.1 hy with e | hy
             ·subst e;exact hz
             ·have:=(List.pairwise_cons.1 p2).1 y hy;omega
         have ha:∀ y∈a,y<x:=fun y hy=>by
           obtain⟨i,de,rfl⟩:=List.getElem_of_mem hy
           exact hI i _ (by omega) (by rw[List.getElem?_append_left de];exact Aks de)
         refine List.pairwise_append.2 ⟨p1,List.pairwise_cons.2 ⟨hb,p2⟩,fun y hy z hz=>?_⟩
         rcases List.mem_cons.1 hz with e | hz
         ·subst e;exact ha y hy
         ·exact p3 y hy z hz
        ·subst g2;simp only[Akz,List.mem_cons]
         constructor
         ·rintro(h | h | h)
          ·exact .inl (.inl h)
          ·exact .inr h
          ·exact .inl (.inr h)
         ·rintro((h | h) | h)
          ·exact .inl h
          ·exact .inr (.inr h)
          ·exact .inr (.inl h)
      unfold Rn
      by_cases af:n<out.length
      ·rw[Akq (by omega),cond_true,aN af,Aku]
       have hg:out[n]? =some out[n]:=Aks af
       by_cases hx:out[n]< x
       ·rw[Akq hx,cond_true,O3 (by omega)]
        refine .inl ⟨_,rfl,⟨n+1,rfl,by omega,fun i y de hy=>?_⟩,by omega⟩
        by_cases e:i=n
        ·subst e;rw[hg]at hy;obtain rfl:=Ak0 hy;exact hx
        ·exact hI i y (by omega) hy
       ·rw[Akr hx,cond_false]
        unfold Od
        rw[Akq (by omega),cond_true,aN af,Aku]
        by_cases e:out[n]=x
        ·rw[Akq e,cond_true]
         refine .inr ⟨_,rfl,out,rfl,hi,fun a=>⟨.inl,fun h=>?_⟩,by omega⟩
         rcases h with h | h
         ·exact h
         ·rw[h,← e];exact List.getElem_mem af
        ·rw[Akr e,cond_false]
         obtain⟨out',g1,g2⟩:=hins (fun y hy=>by rw[hg]at hy;obtain rfl:=Ak0 hy;omega)
         rw[g1]
         exact .inr ⟨_,rfl,out',rfl,g2⟩
      ·rw[Akr (by omega),cond_false,cond_false]
       unfold Od
       rw[Akr (by omega),cond_false]
       obtain⟨out',g1,g2⟩:=hins (fun y hy=>by rw[List.getElem?_eq_none (by omega)]at hy;cases hy)
       rw[g1]
       exact .inr ⟨_,rfl,out',rfl,g2⟩) fuel 0 ⟨0,rfl,by omega,fun i y h=>by omega⟩ (by show out.length - 0<fuel;unfold fuel;omega)
  exact⟨out',by rw[h1,h2];rfl,h3⟩
theorem vP (zs:List Int) {out:List Int} (hi:Inc out) (hlen:out.length+zs.length≤100000000) :
    ∃ out',An H6 0 zs out=some (.next out')∧Inc out'∧(∀ a,a∈out'↔a∈out∨a∈zs)∧out'.length≤out.length+zs.length:=by
  obtain⟨s',h1,h2,h3,h4⟩:=Eb (step:=H6) (l:=zs) (s:=out) (fun k s=>Inc s∧(∀ a,a∈s↔a∈out∨a∈zs.take k)∧s.length≤out.length+k) ⟨hi,by simp,by omega⟩ (fun k x s hk ⟨ot,oa,xp⟩=>by
    have af:=(Ak1.1 hk).1
    obtain⟨out',g1,g2,g3,g4⟩:=vO k x ot (by omega)
    refine⟨out',g1,g2,fun a=>?_,by omega⟩
    rw[g3,oa,List.take_add_one,hk]
    simp[or_assoc])
  rw[List.take_length]at h3
  exact⟨s',h1,h2,h3,h4⟩
theorem refgather {step:Nat→Be→List Int→Option (Out (List Int) (List Int))} {l:List Be} (f:Be→List Int) (p:Be→Bool) (hl:l.length≤50) (hf:∀ x∈l,(f x).length≤100)
    (hs:∀ k x s,x∈l→step k x s=bif p x then(An H6 0 (f x) s).bind fun o7=>o7.on fun s7=>some (Out.next s7)else some (Out.next s)) :
    ((An step 0 l []).bind fun o2=>o2.on fun s2=>some s2)=some (norm ((l.filter p).flatMap f)):=by
  obtain⟨s',h1,h2,h3,h4⟩:=Eb (step:=step) (l:=l) (s:=[]) (fun k s=>Inc s∧(∀ a,a∈s↔a∈((l.take k).filter p).flatMap f)∧s.length≤100*k) ⟨List.Pairwise.nil,by simp,by simp⟩ (fun k x s hk ⟨ot,oa,xp⟩=>by
    have af:=(Ak1.1 hk).1
    have hx:=Akt hk
    have:=hf x hx
    rw[hs k x s hx]
    cases hp:p x with
    | true=>
      rw[cond_true]
      obtain⟨out',g1,g2,g3,g4⟩:=vP (f x) ot (by omega)
      refine⟨out',by rw[g1];rfl,g2,fun a=>?_,by omega⟩
      rw[g3,oa,List.take_add_one,hk];simp[hp]
    | false=>
      rw[cond_false]
      refine⟨_,rfl,ot,fun a=>?_,by omega⟩
      rw[oa,List.take_add_one,hk];simp[hp])
  rw[List.take_length]at h3
  rw[h1]
  show some s'=_
  rw[Pq h2 (Um _) (fun a=>by rw[h3,Ul])]
theorem nX {l:List Be} {levels:List Int} (hs:Small l) (hr:bI l) (hl:levels.length≤9223372036854775807):Wt l levels=some (norm ((l.filter fun x=>decide (Yz x levels)).flatMap Be.Zones)):=
  refgather Be.Zones (fun x=>decide (Yz x levels)) hs.1 (fun x hx=>(hs.2 x hx).1) (fun k x s hx=>by
    unfold Ws;rw[gC (hr.at hx).1 hl (fun z hz=>((hr.at hx).2.2.1.1 z hz).1),Aku])
end Go.Proofs.YtjopghiagoidgaaGreat.S50
namespace Go.Proofs.YtjopghiagoidgaaGreat
open Go Go.Ab
set_option linter.unusedSimpArgs false
set_option linter.unusedVariables false
def Ag {α:Type} (a b:Option α):Prop:=∃ r,a=some r∧b=some r
theorem Ag.some {α:Type} (x:α):Ag (some x) (some x):=⟨x,rfl,rfl⟩
theorem Ag.refl {α:Type} {a:Option α} (h:∃ x,a=Option.some x):Ag a a:=by obtain⟨x,h⟩:=h;exact⟨x,h,h⟩
theorem Ag.symm {α:Type} {a b:Option α} (h:Ag a b):Ag b a:=by obtain⟨x,h,k⟩:=h;exact⟨x,k,h⟩
theorem Ag.trans {α:Type} {a b c:Option α} (h:Ag a b) (k:Ag b c):Ag a c:=by
  obtain⟨x,h1,h2⟩:=h;obtain⟨y,k1,k2⟩:=k
  rw[h2]at k1;obtain rfl:=Ak0 k1
  exact⟨x,h1,k2⟩
theorem Ag.eq {α:Type} {a b:Option α} (h:Ag a b):a=b:=by obtain⟨x,h1,h2⟩:=h;rw[h1,h2]
theorem Ag.of {α:Type} {a b:Option α} (h:∃ x,a=Option.some x) (e:a=b):Ag a b:=by obtain⟨x,h⟩:=h;exact⟨x,h,by rw[← e];exact h⟩
theorem Ag.bind {α β:Type} {a b:Option α} {f g:α→Option β} (h:Ag a b) (k:∀ x,a=Option.some x→b=Option.some x→Ag (f x) (g x)):Ag (a.bind f) (b.bind g):=by
  obtain⟨x,h1,h2⟩:=h
  have:=k x h1 h2
  rw[h1,h2];exact this
theorem Ag.bif {α:Type} {c d:Bool} {a b a' b':Option α} (hc:c=d) (h:c=true→Ag a b) (k:c=false→Ag a' b'):Ag (bif c then a else a') (bif d then b else b'):=by
  subst hc
  cases c with
  | true=>exact h rfl
  | false=>exact k rfl
theorem lG {α σ ρ:Type} {step:Nat→α→σ→Option (Out σ ρ)}:∀ {l:List α} {k:Nat},(∀ i x s,l[i]? =Option.some x→∃ o,step (k+i) x s=Option.some o)→∀ s,∃ o,An step k l s=Option.some o
  | [],k,_,s=>⟨_,rfl⟩
  | x::l,k,h,s=>by
    obtain⟨o,ho⟩:=h 0 x s rfl
    rw[Nat.add_zero]at ho
    rw[An,ho]
    cases o with
    | ret r=>exact ⟨_,rfl⟩
    | next s'=>exact lG (fun i y s hy=>by have:=h (i+1) y s (by simpa using hy);rwa [show k+(i+1)=k+1+i by omega]at this) s'
theorem Ag.yL {α σ ρ:Type} {step step':Nat→α→σ→Option (Out σ ρ)}:∀ {l:List α} {k:Nat},(∀ i x s,l[i]? =Option.some x→Ag (step (k+i) x s) (step' (k+i) x s))→∀ s,Ag (An step k l s) (An step' k l s)
  | [],k,_,s=>⟨_,rfl,rfl⟩
  | x::l,k,h,s=>by
    obtain⟨o,ho,fc⟩:=h 0 x s rfl
    rw[Nat.add_zero]at ho fc
    rw[An,An,ho,fc]
    cases o with
    | ret r=>exact ⟨_,rfl,rfl⟩
    | next s'=>exact Ag.yL (fun i y s hy=>by have:=h (i+1) y s (by simpa using hy);rwa [show k+(i+1)=k+1+i by omega]at this) s'
theorem Ag.An {α σ ρ:Type} {step step':Nat→α→σ→Option (Out σ ρ)} {l:List α} {s:σ} (h:∀ i x s,l[i]? =Option.some x→Ag (step i x s) (step' i x s)):Ag (An step 0 l s) (An step' 0 l s):=
  Ag.yL (fun i x s hx=>by rw[Nat.zero_add];exact h i x s hx) s
theorem Ag.on {σ ρ:Type} {o:Out σ ρ} {f g:σ→Option ρ} (h:∀ s,o= .next s→Ag (f s) (g s)):Ag (o.on f) (o.on g):=by
  cases o with
  | ret r=>exact ⟨_,rfl,rfl⟩
  | next s=>exact h s rfl
theorem c8 {α:Type} {l:List α} {k:Nat} (hk:k<l.length) (h0:0<k) (hl:l.length≤9223372036854775807):∃ x,Dv l (IntKind.i64.wrap ((k:Int) - 1))=Option.some x∧l[k - 1]? =Option.some x:=by
  have hx:l[k - 1]? =Option.some (l[k - 1]'(by omega)):=Aks (by omega)
  exact⟨_,Q7 (Ra h0 (by omega)) hx,hx⟩
def Tot {α:Type} (a:Option α):Prop:=∃ r,a=Option.some r
theorem Tot.some {α:Type} (x:α):Tot (Option.some x):=⟨x,rfl⟩
theorem Tot.bif {α:Type} {c:Bool} {a b:Option α} (h:c=true→Tot a) (k:c=false→Tot b):Tot (bif c then a else b):=by
  cases c with
  | true=>exact h rfl
  | false=>exact k rfl
theorem Tot.bind {α β:Type} {a:Option α} {f:α→Option β} (h:Tot a) (k:∀ x,a=Option.some x→Tot (f x)):Tot (a.bind f):=by
  obtain⟨x,h⟩:=h
  have:=k x h
  rw[h];exact this
theorem Tot.on {σ ρ:Type} {o:Out σ ρ} {f:σ→Option ρ} (h:∀ s,Tot (f s)):Tot (o.on f):=by
  cases o with
  | ret r=>exact ⟨_,rfl⟩
  | next s=>exact h s
theorem Tot.An {α σ ρ:Type} {step:Nat→α→σ→Option (Out σ ρ)} {l:List α} {s:σ} (h:∀ i x s,l[i]? =Option.some x→Tot (step i x s)):Tot (An step 0 l s):=
  lG (fun i x s hx=>by rw[Nat.zero_add];exact h i x s hx) s
theorem Tot.pred {α β:Type} {l:List α} {k:Nat} {f:α→Option β} (hk:k<l.length) (h0:decide ((0:Int)<((k:Nat):Int))=true) (hl:l.length≤9223372036854775807) (h:∀ y,Tot (f y)):Tot ((Dv l (IntKind.i64.wrap (((k:Nat):Int) - (1:Int)))).bind f):=by
  obtain⟨x,h1,_⟩:=c8 hk (by have:=Akp h0;omega) hl
  rw[h1];exact h x
theorem Ag.oH {α:Type} {a b:Option α} (h:Tot a) (e:a=b):Ag a b:=Ag.of h e
def Dw {σ ρ:Type} (P:ρ→Prop) (o:Option (Out σ ρ)):Prop:=∀ r,o=Option.some (.ret r)→P r
theorem Dw.next {σ ρ:Type} {P:ρ→Prop} (s:σ):Dw P (Option.some (Out.next s)):=by intro r h;cases h
theorem Dw.ret {σ ρ:Type} {P:ρ→Prop} {r:ρ} (h:P r):Dw (σ:=σ) P (Option.some (Out.ret r)):=by intro r' h';cases h';exact h
theorem Dw.bif {σ ρ:Type} {P:ρ→Prop} {c:Bool} {a b:Option (Out σ ρ)} (h:c=true→Dw P a) (k:c=false→Dw P b):Dw P (bif c then a else b):=by
  cases c with
  | true=>exact h rfl
  | false=>exact k rfl
theorem Dw.bind {α σ ρ:Type} {P:ρ→Prop} {a:Option α} {f:α→Option (Out σ ρ)} (h:∀ x,a=Option.some x→Dw P (f x)):Dw P (a.bind f):=by
  intro r hr
  obtain⟨x,h1,h2⟩:=Ah hr
  exact h x h1 r h2
theorem Dw.okB {σ ρ:Type} {P:ρ→Prop} {c:Bool} {o:Option (Out σ ρ)} (h:Dw P o):Dw P (okB c o):=by
  cases c with
  | true=>exact h
  | false=>intro r h';cases h'
theorem Dw.An {α σ ρ:Type} {P:ρ→Prop} {step:Nat→α→σ→Option (Out σ ρ)} (h:∀ i x s,Dw P (step i x s)):∀ {l:List α} {k:Nat} {s:σ},Dw P (An step k l s)
  | [],k,s=>Dw.next _
  | x::l,k,s=>by
    intro r hr
    rw[Go.Ab.An]at hr
    obtain⟨o,h1,h2⟩:=Ah hr
    cases o with
    | ret q=>exact h k x s r (by rw[h1];exact h2 ▸ rfl)
    | next s'=>exact Dw.An h r h2
theorem rC {σ:Type} {o:Option (Out σ Int)} {rest:Option Int} (h:Dw (·≠0) o):((o.bind fun x=>x.on fun _=>Option.some (0:Int)).bind fun y=>bif decide (y≠(0:Int))then Option.some y else rest)=o.bind fun x=>x.on fun _=>rest:=by
  cases o with
  | none=>rfl
  | some x=>
    cases x with
    | next s=>rfl
    | ret r=>
      have:=h r rfl
      show(bif decide (r≠0)then Option.some r else rest)=Option.some r
      rw[Akq this];rfl
theorem mU {α:Type} {n lo hi:Int} {a b:α}:(bif decide (n<lo)then a else(bif decide (hi<n)then a else b))=(bif !decide (lo≤n∧n≤hi)then a else b):=by
  by_cases h1:n<lo
  ·rw[Akq h1,Akr (p:=lo≤n∧n≤hi) (by omega)];rfl
  ·by_cases h2:hi<n
   ·rw[Akr h1,Akq h2,Akr (by omega)];rfl
   ·rw[Akr h1,Akr h2,Akq (by omega)];rfl
theorem bf {p q:Prop} [Decidable p] [Decidable q]:(bif decide p then Option.some false else Option.some (decide q))=Option.some (decide (¬p∧q)):=by
  by_cases h1:p<;>by_cases h2:q<;>simp[h1,h2]
theorem bt {p q:Prop} [Decidable p] [Decidable q]:(bif decide p then Option.some (decide q)else Option.some false)=Option.some (decide (p∧q)):=by
  by_cases h1:p<;>by_cases h2:q<;>simp[h1,h2]
theorem ba {α:Type} {p q:Prop} [Decidable p] [Decidable q] {a b:α}:(bif !decide p then a else(bif !decide q then a else b))=(bif !decide (p∧q)then a else b):=by
  by_cases h1:p<;>by_cases h2:q<;>simp[h1,h2]
theorem uC {α:Type} {x y:Int} {a b:α}:(bif decide (x<y)then a else b)=(bif !decide (y≤x)then a else b):=by
  by_cases h:x<y
  ·rw[Akq h,Akr (by omega)];rfl
  ·rw[Akr h,Akq (by omega)];rfl
theorem Aaz {α:Type} {x y:Int} {a b:α}:(bif decide (x≤y)then a else b)=(bif !decide (y<x)then a else b):=by
  by_cases h:x≤y
  ·rw[Akq h,Akr (by omega)];rfl
  ·rw[Akr h,Akq (by omega)];rfl
theorem in2 {lo n hi:Int}:(bif (decide (lo≤n))then Option.some (decide (n≤hi))else Option.some false)=Option.some (decide (lo≤n∧n≤hi)):=bt
theorem lF {α σ τ ρ:Type} {step:Nat→α→σ→Option (Out σ ρ)} {step':Nat→α→τ→Option (Out τ ρ)} (l:List α) (R:Nat→σ→τ→Prop)
    (hs:∀ i x s t,l[i]? =Option.some x→R i s t→(∃ s' t',step i x s=Option.some (.next s')∧step' i x t=Option.some (.next t')∧R (i+1) s' t')∨(∃ r,step i x s=Option.some (.ret r)∧step' i x t=Option.some (.ret r))) :
    ∀ (n k:Nat) (s:σ) (t:τ),l.length - k=n→k≤l.length→R k s t→(∃ s' t',An step k (l.drop k) s=Option.some (.next s')∧An step' k (l.drop k) t=Option.some (.next t')∧R l.length s' t')∨(∃ r,An step k (l.drop k) s=Option.some (.ret r)∧An step' k (l.drop k) t=Option.some (.ret r))
  | 0,k,s,t,hn,hk,hR=>by
    have:k=l.length:=by omega
    subst this
    rw[List.drop_length]
    exact .inl ⟨s,t,rfl,rfl,hR⟩
  | n+1,k,s,t,hn,hk,hR=>by
    have af:k<l.length:=by omega
    rw[List.drop_eq_getElem_cons af]
    rcases hs k _ s t (Aks af) hR with⟨s',t',h1,h2,h3⟩ | ⟨r,h1,h2⟩
    ·rcases lF l R hs n (k+1) s' t' (by omega) af h3 with⟨s2,t2,h4,h5,h6⟩ | ⟨r,h4,h5⟩
     ·exact .inl ⟨s2,t2,by rw[Go.Ab.An,h1];exact h4,by rw[Go.Ab.An,h2];exact h5,h6⟩
     ·exact .inr ⟨r,by rw[Go.Ab.An,h1];exact h4,by rw[Go.Ab.An,h2];exact h5⟩
    ·exact .inr ⟨r,by rw[Go.Ab.An,h1];rfl,by rw[Go.Ab.An,h2];rfl⟩
theorem rY (c:Bn):Re c=some (decide (1≤c.Kind∧c.Kind≤3∧1≤c.Target∧c.Target≤9999∧1≤c.By∧c.By≤6∧0≤c.Since∧c.Since≤20000000)):=by
  unfold Re;simp only[bt]
theorem yV (l:List Bn) (a b c:Int):Ox l ⟨a,b,c⟩=F4 l a b c:=by
  have:Ju ⟨a,b,c⟩=Fc a b c:=by
    funext k x s
    unfold Ju Fc Jz
    rw[Aku]
    dsimp only
    cases decide (x.Kind=a)<;>cases decide (x.Target=b)<;>cases decide (x.By=c)<;>rfl
  unfold Ox F4;rw[this]
theorem u5 (l:List Bn) (a b c:Int):Tot (F4 l a b c):=by
  unfold F4
  refine Tot.bind (Tot.An fun i x s _=>?_) fun o _=>Tot.on fun _=>Tot.some _
  unfold Fc
  repeat' first | exact Tot.some _ | refine Tot.bif (fun _=>?_) (fun _=>?_)
theorem sE (l:List Bn) (hl:l.length≤1000):Ag (Mv l) (Ix l):=by
  unfold Mv Ix
  refine Ag.bif rfl (fun _=>Ag.some _) fun _=>?_
  refine Ag.bind (Ag.An fun i x s hx=>?_) fun o _ _=>Ag.on fun _ _=>Ag.some _
  have hi:=(Ak1.1 hx).1
  unfold L5 H4
  refine Ag.bind (a:=M7 x) (b:=Re x) ⟨_,rY x,rY x⟩ fun y _ _=>?_
  refine Ag.bif rfl (fun _=>Ag.some _) fun _=>?_
  rw[Nh (by omega),Nh (by omega)]
  unfold Jz
  rw[Aku,yV]
  exact Ag.bind (Ag.refl (u5 _ _ _ _)) fun y _ _=>Ag.bif rfl (fun _=>Ag.some _) fun _=>Ag.some _
theorem pC (l:List Int) (n:Int):Uh l n=some (decide (n∈l)):=W8 fun k x hx=>rfl
theorem fN (n lo hi:Int):P2 n lo hi=some (decide (lo≤n∧n≤hi)):=by unfold P2;exact in2
theorem r6 (l:Bq) (h1:l.Items.length≤9223372036854775807) (h2:l.Signs.length≤9223372036854775807):Ag (Jy l) (Gx l):=by
  unfold Jy Gx
  refine Ag.bif rfl (fun _=>Ag.some _) fun iy=>?_
  refine Ag.bif rfl (fun _=>Ag.some _) fun ix=>?_
  have iy:=Ako iy
  have ix:=Ako ix
  rw[mU,fN,Aku]
  refine Ag.bif rfl (fun _=>Ag.some _) fun _=>?_
  refine Ag.bind (Ag.An fun i x s hx=>?_) fun o _ _=>Ag.on fun _ _=>?_
  ·have hi:=(Ak1.1 hx).1
   unfold Ly Og
   rw[mU,fN,Aku]
   refine Ag.bif rfl (fun _=>Ag.some _) fun _=>?_
   rw[Nh (by omega),Nh (by omega)]
   simp only[contains_eq,pC,Aku]
   exact Ag.bif rfl (fun _=>Ag.some _) fun _=>Ag.some _
  ·unfold Lx Oe
   refine Ag.bind (Ag.An fun i x s hx=>?_) fun o _ _=>Ag.on fun _ _=>Ag.some _
   have hi:=(Ak1.1 hx).1
   unfold L0 Oh
   simp only[contains_eq,pC,Aku]
   refine Ag.bif rfl (fun _=>Ag.some _) fun _=>?_
   rw[mU,fN,Aku]
   refine Ag.bif rfl (fun _=>Ag.some _) fun _=>?_
   rw[mU,fN,Aku]
   refine Ag.bif rfl (fun _=>Ag.some _) fun _=>?_
   refine Ag.bif rfl (fun h0=>?_) fun _=>Ag.some _
   refine Ag.refl ?_
   exact Tot.pred hi h0 (by omega) fun y=>Tot.bif (fun _=>Tot.some _) fun _=>Tot.some _
theorem pA {l:Bq} (h:Gx l=some 0):l.Items.length≤64∧l.Signs.length≤200:=by
  unfold Gx at h
  by_cases h1:((64:Int)<((l.Items.length:Nat):Int))
  ·rw[Akq h1]at h;cases h
  ·by_cases h2:((200:Int)<((l.Signs.length:Nat):Int))
   ·rw[Akr h1,Akq h2]at h;cases h
   ·omega
theorem mN (l:List C4) (n:Int):Mq l n=some (match l.findIdx? (fun x=>decide (x.ID=n))with | some k=>(k:Int) | none=> -1):=by
  unfold Mq
  have key:∀ (l:List C4) (k:Nat),An (F7 n) k l ()=match l.findIdx? (fun x=>decide (x.ID=n))with | some j=>some (.ret ((j+k:Nat):Int)) | none=>some (.next ()):=by
    intro l
    induction l with
    | nil=>intro k;rfl
    | cons x l ih=>
      intro k
      rw[An,List.findIdx?_cons]
      unfold F7
      cases hx:decide (x.ID=n)with
      | true=>simp[Out.cont]
      | false=>
        rw[cond_false,Aku]
        show An (F7 n) (k+1) l ()=_
        rw[ih (k+1)]
        cases l.findIdx? (fun x=>decide (x.ID=n))with
        | none=>rfl
        | some j=>simp;omega
  rw[key l 0]
  cases l.findIdx? (fun x=>decide (x.ID=n))with
  | none=>rfl
  | some j=>rfl
theorem u6 (p:B9) (h1:p.Bl.length≤1000) (h2:p.Hazards.length≤1000) (h3:∀ x∈p.Bl,x.List_.Items.length≤9223372036854775807∧x.List_.Signs.length≤9223372036854775807):Ag (Ol p) (Iw p):=by
  unfold Ol Iw
  refine Ag.bif rfl (fun _=>Ag.some _) fun _=>?_
  refine Ag.bif rfl (fun _=>Ag.some _) fun _=>?_
  refine Ag.bind (Ag.An fun i x s hx=>?_) fun o _ _=>Ag.on fun _ _=>?_
  ·have hi:=(Ak1.1 hx).1
   have hI:=r6 x.List_ (h3 x (Akt hx)).1 (h3 x (Akt hx)).2
   unfold M4 H3
   refine Ag.bif rfl (fun _=>Ag.some _) fun _=>?_
   refine Ag.bif rfl (fun _=>Ag.some _) fun _=>?_
   refine Ag.bif rfl (fun h0=>?_) fun _=>?_
   ·obtain⟨y,hy,_⟩:=c8 hi (by have:=Akp h0;omega) (by omega)
    refine Ag.bind ⟨y,hy,hy⟩ fun y _ _=>?_
    refine Ag.bif rfl (fun _=>Ag.some _) fun _=>?_
    exact Ag.bind hI fun z _ _=>Ag.bif rfl (fun _=>Ag.some _) fun _=>Ag.some _
   ·exact Ag.bind hI fun z _ _=>Ag.bif rfl (fun _=>Ag.some _) fun _=>Ag.some _
  ·unfold M3 N8
   refine Ag.bind (Ag.An fun i x s hx=>?_) fun o _ _=>Ag.on fun _ _=>Ag.some _
   have hi:=(Ak1.1 hx).1
   have hat:Tot (N7 p x.Run):=by
     unfold N7
     refine Tot.bind (Tot.An fun i x s _=>?_) fun o _=>Tot.on fun _=>Tot.some _
     unfold Nm
     exact Tot.bif (fun _=>Tot.some _) fun _=>Tot.some _
   unfold M5 N9
   refine Ag.bif rfl (fun _=>Ag.some _) fun _=>?_
   refine Ag.bif rfl (fun _=>Ag.some _) fun _=>?_
   refine Ag.bif rfl (fun _=>Ag.some _) fun _=>?_
   refine Ag.bif rfl (fun _=>Ag.some _) fun _=>?_
   rw[Nh (by omega),mN,Aku]
   have hat2:Ag ((K9 p x.Run).bind fun y5=>(bif (decide (y5<(0:Int)))then some (Out.ret (8:Int))else some (Out.next ()))) ((N7 p x.Run).bind fun y6=>(bif (decide (y6<(0:Int)))then some (Out.ret (8:Int))else some (Out.next ()))):=
     Ag.bind (a:=K9 p x.Run) (b:=N7 p x.Run) (Ag.refl hat) fun z _ _=>Ag.bif rfl (fun _=>Ag.some _) fun _=>Ag.some _
   rcases Xe (step:=Ky p x) (n:=i) (s:=()) (by omega) (fun j _=>∀ y∈p.Hazards.take j,y.ID≠x.ID) (fun r=>r= .ret 7∧∃ y∈p.Hazards.take i,y.ID=x.ID) (by simp) (fun j s hj hI=>by
       have hy:p.Hazards[j]? =some (p.Hazards[j]'(by omega)):=Aks (by omega)
       generalize (p.Hazards[j]'(by omega))=y at hy
       unfold Ky
       rw[Q7 rfl hy,Aku]
       by_cases e:y.ID=x.ID
       ·rw[Akq e]
        exact .inr ⟨_,rfl,rfl,y,Akt (by rw[List.getElem?_take,if_pos hj];exact hy),e⟩
       ·rw[Akr e]
        refine .inl ⟨_,rfl,fun z hz=>?_⟩
        rw[Bz hy,Akz,List.mem_singleton]at hz
        rcases hz with hz | rfl
        ·exact hI z hz
        ·exact e)with ⟨s',e1,e2⟩ | ⟨r,e1,rfl,e2⟩
   ·have e3:(p.Hazards.take i).findIdx? (fun y=>decide (y.ID=x.ID))=none:=by
      rw[List.findIdx?_eq_none_iff];intro y hy;simpa using e2 y hy
    rw[e1,e3]
    exact hat2
   ·rw[e1]
    cases e3:(p.Hazards.take i).findIdx? (fun y=>decide (y.ID=x.ID))with
    | none=>
      rw[List.findIdx?_eq_none_iff]at e3
      obtain⟨y,hy,e⟩:=e2
      have:=e3 y hy;simp[e]at this
    | some j=>
      show Ag (bif decide ((0:Int)≤((j:Nat):Int))then _ else _) _
      rw[Akq (Int.natCast_nonneg j)]
      exact Ag.some _
theorem rB (l:List C5) (hl:l.length≤1000):Ag (Mg l) (Pz l):=by
  refine Ag.oH ?_ rfl
  unfold Mg
  refine Tot.bif (fun _=>Tot.some _) fun _=>?_
  refine Tot.bind (Tot.An fun i x s hx=>?_) fun o _=>Tot.on fun _=>Tot.some _
  have hi:=(Ak1.1 hx).1
  unfold Lm
  repeat' first | exact Tot.some _ | (refine Tot.pred hi ‹_› (by omega) fun y=>?_) | refine Tot.bif (fun h0=>?_) (fun _=>?_)
theorem m9 (l:List Int) (hl:l.length≤9223372036854775807):Tot (K0 l):=by
  unfold K0
  refine Tot.bind (Tot.An fun i x s hx=>?_) fun o _=>Tot.on fun _=>Tot.some _
  have hi:=(Ak1.1 hx).1
  unfold H8
  repeat' first | exact Tot.some _ | (refine Tot.pred hi ‹_› (by omega) fun y=>?_) | refine Tot.bif (fun h0=>?_) (fun _=>?_)
def qV (b:Bi):Prop:=1≤b.Version∧b.Version≤1000000∧0≤b.Span.From∧b.Span.From<b.Span.To∧b.Span.To≤20000000∧0≤b.Low∧b.Low<b.High∧b.High≤6000∧1≤b.Level∧b.Level≤5
instance (b:Bi):Decidable (qV b):=by unfold qV;infer_instance
theorem zA (b:Bi):Ie b=some (decide (qV b)):=by
  unfold Ie;simp only[bf,bt]
  congr 1
  rw[decide_eq_decide];unfold qV;omega
theorem jY (l:List Bi) (i:Nat) (x:Bi):Ew l i x ()=Fe l i x ():=by
  unfold Ew Fe
  rw[zA,Aku]
  by_cases h:qV x
  ·obtain⟨h1,h2,h3,h4,h5,h6,h7,h8,h9,ob⟩:=id h
   rw[Akq h,Akr (p:=x.Version<1) (by omega),Akr (p:=(1000000:Int)<x.Version) (by omega),Akr (p:=x.Span.From<0) (by omega),Akr (p:=x.Span.To≤x.Span.From) (by omega),Akr (p:=(20000000:Int)<x.Span.To) (by omega),Akr (p:=x.Low<0) (by omega),Akr (p:=x.High≤x.Low) (by omega),Akr (p:=(6000:Int)<x.High) (by omega),Akr (p:=x.Level<1) (by omega),Akr (p:=(5:Int)<x.Level) (by omega)]
   rfl
  ·rw[Akr h]
   show some (Out.ret (2:Int))=_
   by_cases h1:x.Version<1
   ·rw[Akq h1];rfl
   rw[Akr h1]
   by_cases h2:(1000000:Int)<x.Version
   ·rw[Akq h2];rfl
   rw[Akr h2]
   by_cases h3:x.Span.From<0
   ·rw[Akq h3];rfl
   rw[Akr h3]
   by_cases h4:x.Span.To≤x.Span.From
   ·rw[Akq h4];rfl
   rw[Akr h4]
   by_cases h5:(20000000:Int)<x.Span.To
   ·rw[Akq h5];rfl
   rw[Akr h5]
   by_cases h6:x.Low<0
   ·rw[Akq h6];rfl
   rw[Akr h6]
   by_cases h7:x.High≤x.Low
   ·rw[Akq h7];rfl
   rw[Akr h7]
   by_cases h8:(6000:Int)<x.High
   ·rw[Akq h8];rfl
   rw[Akr h8]
   by_cases h9:x.Level<1
   ·rw[Akq h9];rfl
   rw[Akr h9]
   by_cases ob:(5:Int)<x.Level
   ·rw[Akq ob];rfl
   exact absurd ⟨by omega,by omega,by omega,by omega,by omega,by omega,by omega,by omega,by omega,by omega⟩ h
theorem qC (l:List Bi) (hl:l.length≤1000) (hz:∀ b∈l,b.Zones.length≤9223372036854775807):Ag (Ig l) (Iz l):=by
  refine Ag.oH ?_ ?_
  ·unfold Ig
   refine Tot.bif (fun _=>Tot.some _) fun _=>?_
   refine Tot.bind (Tot.An fun i x s hx=>?_) fun o _=>Tot.on fun _=>Tot.some _
   have hi:=(Ak1.1 hx).1
   unfold Ew
   rw[zA,Aku]
   refine Tot.bif (fun _=>Tot.some _) fun _=>?_
   refine Tot.bind (m9 x.Zones (hz x (Akt hx))) fun y _=>?_
   refine Tot.bif (fun _=>Tot.some _) fun _=>?_
   refine Tot.bif (fun h0=>?_) fun _=>Tot.some _
   exact Tot.pred hi h0 (by omega) fun y=>Tot.bif (fun _=>Tot.some _) fun _=>Tot.some _
  ·unfold Ig Iz
   have:Ew l=Fe l:=by funext i x s;exact jY l i x
   rw[this]
theorem mM (n lo hi:Int):Mm n lo hi=some (decide (lo≤n∧n≤hi)):=by unfold Mm;exact in2
theorem Aaj (n lo hi:Int):K5 n lo hi=some (decide (lo≤n∧n≤hi)):=by unfold K5;exact in2
def lS (m:Bh):Prop:=1≤m.ID∧m.ID≤9999∧1≤m.Slide∧m.Slide≤9999∧1≤m.By∧m.By≤9999∧0≤m.State∧m.State≤6∧0≤m.Since∧m.Since≤20000000∧0≤m.Window.From∧m.Window.From<m.Window.To∧m.Window.To≤20000000
instance (m:Bh):Decidable (lS m):=by unfold lS;infer_instance
theorem Abn (m:Bh):Mw m=some (decide (lS m)):=by
  unfold Mw;simp only[bf,bt]
  congr 1
  rw[decide_eq_decide];unfold lS;omega
theorem qE (m:Bh):Ph m=some (decide (0≤m.State∧m.State≤4)):=by
  unfold Ph Jb E3
  by_cases h0:m.State=0
  ·rw[Akq h0,Akq (p:=0≤m.State∧m.State≤4) (by omega)];rfl
  ·by_cases h1:m.State=1
   ·rw[Akr h0,Akq h1,Akq (p:=0≤m.State∧m.State≤4) (by omega)];rfl
   ·by_cases h2:m.State=2
    ·rw[Akr h0,Akr h1,Akq h2,Akq (p:=0≤m.State∧m.State≤4) (by omega)];rfl
    ·by_cases h3:m.State=3
     ·rw[Akr h0,Akr h1,Akr h2,Akq h3,Akq (p:=0≤m.State∧m.State≤4) (by omega)];rfl
     ·by_cases h4:m.State=4
      ·rw[Akr h0,Akr h1,Akr h2,Akr h3,Akq h4,Akq (p:=0≤m.State∧m.State≤4) (by omega)];rfl
      ·rw[Akr h0,Akr h1,Akr h2,Akr h3,Akr h4,Akr (p:=0≤m.State∧m.State≤4) (by omega)];rfl
theorem gB (m:Bh):Nf m=some (decide (0≤m.State∧m.State≤4)):=by unfold Nf;rw[mM];rfl
def opn (m:Bh):Bool:=decide (0≤m.State∧m.State≤4)
theorem w4 (l:List Bh) (s:Int):Py l s=some (l.any fun x=>opn x&&decide (x.Slide=s)):=by
  unfold Py
  rw[Fk (fun x=>opn x&&decide (x.Slide=s)) (fun _=>true) (fun k x _=>by
   unfold Oa;rw[gB,Aku];show(bif opn x then _ else _)=_
   cases opn x<;>cases decide (x.Slide=s)<;>rfl)]
  cases h:l.find? (fun x=>opn x&&decide (x.Slide=s))with
  | none=>
    have:(l.any fun x=>opn x&&decide (x.Slide=s))=false:=by
      rw[List.any_eq_false];rw[List.find?_eq_none]at h;exact h
    rw[this];rfl
  | some x=>
    have:(l.any fun x=>opn x&&decide (x.Slide=s))=true:=by
      rw[List.any_eq_true];exact⟨x,List.mem_of_find?_eq_some h,List.find?_some (p:=fun x=>opn x&&decide (x.Slide=s)) h⟩
    rw[this];rfl
theorem sI (l:List Bh) (i:Nat) (x:Bh) (hi:i<l.length) (hl:l.length≤1000) :
    ((Ki (Ij l i x) i ()).bind fun o4=>o4.on fun s4=>some (Out.next ()))=(some (bif opn x&&((l.take i).any fun y=>opn y&&decide (y.Slide=x.Slide))then Out.ret (15:Int)else Out.next ()):Option (Out Unit Int)):=by
  rcases Xe (step:=Ij l i x) (n:=i) (s:=()) (by omega) (fun j _=>∀ y∈l.take j,¬ (opn x=true∧opn y=true∧y.Slide=x.Slide)) (fun r=>r= .ret 15∧∃ y∈l.take i,opn x=true∧opn y=true∧y.Slide=x.Slide) (by simp) (fun j s hj hI=>by
      have hy:l[j]? =some (l[j]'(by omega)):=Aks (by omega)
      generalize (l[j]'(by omega))=y at hy
      have hyt:(l.take i)[j]? =some y:=by rw[List.getElem?_take,if_pos hj];exact hy
      unfold Ij
      rw[Q7 rfl hyt,Aku,qE,qE,Aku,Aku]
      show(∃ s',(bif opn x then bif opn y then _ else _ else _)=_∧_)∨(∃ r,(bif opn x then bif opn y then _ else _ else _)=_∧_)
      by_cases e:opn x=true∧opn y=true∧y.Slide=x.Slide
      ·rw[e.1,e.2.1,Akq e.2.2]
       exact .inr ⟨_,rfl,rfl,y,Akt hyt,e.1 ▸ e⟩
      ·refine .inl ⟨(),?_,fun z hz=>?_⟩
       ·cases h1:opn x with
        | false=>rfl
        | true=>
          cases h2:opn y with
          | false=>rfl
          | true=>rw[Akr (fun h3=>e ⟨h1,h2,h3⟩)];rfl
       ·rw[Bz hy,Akz,List.mem_singleton]at hz
        rcases hz with hz | rfl
        ·exact hI z hz
        ·exact e)with ⟨s',e1,e2⟩ | ⟨r,e1,rfl,y,hy,e2,e3,e4⟩
  ·rw[e1]
   have:(opn x&&((l.take i).any fun y=>opn y&&decide (y.Slide=x.Slide)))=false:=by
     rw[Bool.and_eq_false_iff]
     by_cases hx:opn x=true
     ·right
      rw[List.any_eq_false]
      intro y hy h
      simp at h
      exact e2 y hy ⟨hx,h.1,h.2⟩
     ·left;simpa using hx
   rw[this];rfl
  ·rw[e1]
   have:(opn x&&((l.take i).any fun y=>opn y&&decide (y.Slide=x.Slide)))=true:=by
     rw[Bool.and_eq_true]
     exact⟨e2,List.any_eq_true.2 ⟨y,hy,by simp[e3,e4]⟩⟩
   rw[this];rfl
theorem vS (l:List Bh) (n:Int):Tot (Nn l n):=by
  unfold Nn
  refine Tot.bind (Tot.An fun i x s _=>?_) fun o _=>Tot.on fun _=>Tot.some _
  unfold Ob
  exact Tot.bif (fun _=>Tot.some _) fun _=>Tot.some _
theorem zB (l:List Bh) (hl:l.length≤1000):Ag (Qd l) (Iy l):=by
  unfold Qd Iy
  refine Ag.bif rfl (fun _=>Ag.some _) fun _=>?_
  refine Ag.bind (Ag.An fun i x s hx=>?_) fun o _ _=>Ag.on fun _ _=>Ag.some _
  have hi:=(Ak1.1 hx).1
  unfold Oy H5
  simp only[Abn,mM,Aku]
  rw[uC (x:=x.Window.From),Aaz (x:=x.Window.To),uC (y:=x.Window.To)]
  simp only[ba]
  rw[show decide (lS x)=decide ((1≤x.ID∧x.ID≤9999)∧(1≤x.Slide∧x.Slide≤9999)∧(1≤x.By∧x.By≤9999)∧(0≤x.State∧x.State≤6)∧(0≤x.Since∧x.Since≤20000000)∧0≤x.Window.From∧x.Window.From<x.Window.To∧x.Window.To≤20000000) from by rw[decide_eq_decide];unfold lS;omega]
  refine Ag.bif rfl (fun _=>Ag.some _) fun _=>?_
  have ho:∀ {α:Type} (o:Option α),okB (decide ((0:Int)≤((i:Nat):Int)∧((i:Nat):Int)≤((l.length:Nat):Int))) o=o:=fun o=>Nh (by omega)
  simp only[ho]
  refine Ag.bind (a:=Vm (l.take i) x.ID) (b:=Nn (l.take i) x.ID) (Ag.refl (vS _ _)) fun y _ _=>?_
  refine Ag.bif rfl (fun _=>Ag.some _) fun _=>?_
  rw[sI l i x hi hl,gB,Aku]
  show Ag _ (bif opn x then _ else _)
  cases h:opn x with
  | false=>exact Ag.some _
  | true=>
    rw[cond_true,w4,Aku,Bool.true_and]
    cases((l.take i).any fun y=>opn y&&decide (y.Slide=x.Slide))<;>exact Ag.some _
def lU (g:Cb):Prop:=1≤g.ID∧g.ID≤9999∧1≤g.Node∧g.Node≤9999∧0≤g.Fuel∧g.Fuel≤1000000∧0≤g.State∧g.State≤2∧0≤g.Until∧g.Until≤20000000∧0≤g.To∧g.To≤9999∧0≤g.Run∧g.Run≤9999
instance (m:Cb):Decidable (lU m):=by unfold lU;infer_instance
theorem Abr (m:Cb):Js m=some (decide (lU m)):=by
  unfold Js;simp only[bf,bt]
  congr 1
  rw[decide_eq_decide];unfold lU;omega
theorem pD (l:List Cb) (n:Int):∃ r,P1 l n=some r∧(0≤r↔∃ x∈l,x.ID=n):=by
  unfold P1
  rcases E9 (step:=K4 n) (l:=l) (s:=()) (fun k _=>∀ x∈l.take k,x.ID≠n) (fun r=>0≤r∧∃ x∈l,x.ID=n) (by simp) (fun k x s hk hI=>by
      unfold K4
      by_cases e:x.ID=n
      ·rw[Akq e];exact .inr ⟨_,rfl,by omega,x,Akt hk,e⟩
      ·rw[Akr e]
       refine .inl ⟨_,rfl,fun z hz=>?_⟩
       rw[Bz hk,Akz,List.mem_singleton]at hz
       rcases hz with hz | rfl
       ·exact hI z hz
       ·exact e)with ⟨s',e1,e2⟩ | ⟨r,e1,e2,e3⟩
  ·rw[List.take_length]at e2
   rw[e1]
   exact⟨_,rfl,by constructor
                  ·intro h;exact absurd h (by decide)
                  ·rintro⟨x,hx,e⟩;exact absurd e (e2 x hx)⟩
  ·rw[e1];exact⟨r,rfl,fun _=>e3,fun _=>e2⟩
theorem r9 (l:List Cb) (hl:l.length≤1000):Ag (Ms l) (Nq l):=by
  unfold Ms Nq
  refine Ag.bif rfl (fun _=>Ag.some _) fun _=>?_
  have key:=lF (step:=Ia) (step':=K6 l) l (fun k sv _=>∀ n,mget false sv n=decide (∃ x∈l.take k,x.ID=n)) (fun i x sv t hx hR=>by
    have hi:=(Ak1.1 hx).1
    unfold Ia K6
    simp only[Abr,Aaj,Aku,ba]
    rw[show decide (lU x)=decide ((1≤x.ID∧x.ID≤9999)∧(1≤x.Node∧x.Node≤9999)∧(0≤x.Fuel∧x.Fuel≤1000000)∧(0≤x.State∧x.State≤2)∧(0≤x.Until∧x.Until≤20000000)∧(0≤x.To∧x.To≤9999)∧0≤x.Run∧x.Run≤9999) from by rw[decide_eq_decide];unfold lU;omega]
    rw[Nh (by omega)]
    obtain⟨r,h1,h2⟩:=pD (l.take i) x.ID
    rw[h1,Aku,hR,show decide ((0:Int)≤r)=decide (∃ y∈l.take i,y.ID=x.ID) from by rw[decide_eq_decide];exact h2]
    generalize (!decide ((1≤x.ID∧x.ID≤9999)∧(1≤x.Node∧x.Node≤9999)∧(0≤x.Fuel∧x.Fuel≤1000000)∧(0≤x.State∧x.State≤2)∧(0≤x.Until∧x.Until≤20000000)∧(0≤x.To∧x.To≤9999)∧0≤x.Run∧x.Run≤9999))=b1
    generalize nb:decide (∃ y∈l.take i,y.ID=x.ID)=b2
    generalize (decide (x.To≠0) !=decide (x.State=1))=b3
    generalize (decide (x.Run≠0) !=decide (x.State=2))=b4
    cases b1 with
    | true=>exact .inr ⟨_,rfl,rfl⟩
    | false=>
      cases b2 with
      | true=>exact .inr ⟨_,rfl,rfl⟩
      | false=>
        cases b3 with
        | true=>exact .inr ⟨_,rfl,rfl⟩
        | false=>
          cases b4 with
          | true=>exact .inr ⟨_,rfl,rfl⟩
          | false=>
            refine .inl ⟨_,_,rfl,rfl,fun n=>?_⟩
            rw[Yb,hR]
            by_cases e:x.ID=n
            ·subst e
             rw[if_pos rfl,eq_comm,decide_eq_true_iff]
             exact⟨x,by rw[Bz hx];simp,rfl⟩
            ·rw[if_neg e,decide_eq_decide,Bz hx]
             constructor
             ·rintro⟨y,hy,e'⟩;exact⟨y,List.mem_append_left _ hy,e'⟩
             ·rintro⟨y,hy,e'⟩
              rw[Akz,List.mem_singleton]at hy
              rcases hy with hy | rfl
              ·exact⟨y,hy,e'⟩
              ·exact absurd e' e) l.length 0 [] () rfl (Nat.zero_le _) (fun n=>by simp[mget])
  rw[List.drop_zero]at key
  rcases key with⟨s',t',h1,h2,_⟩ | ⟨r,h1,h2⟩
  ·rw[h1,h2];exact Ag.some _
  ·rw[h1,h2];exact Ag.some _
theorem Abi (m:Bd):fT m=Mf m:=rfl
theorem Abo (m:Bd):Ag (Mf m) (I4 m):=by
  obtain⟨r,h1,h2,_⟩:=Wm m
  exact⟨r,by rw[← Abi];exact h1,h2⟩
theorem Q0 (m:Bd) (id:Int):Fb m id=some (Gv m id):=Xf fun _ _ _=>rfl
theorem aB (m:Bd) (id:Int):Lt m id=some (Gv m id):=Xf fun _ _ _=>rfl
theorem w0 (m:Bd) (id:Int):N1 m id=some (Acq m id):=Xf fun _ _ _=>rfl
theorem wZ (m:Bd) (id:Int):Ef m id=some (Dc m id):=Xf fun _ _ _=>rfl
structure jG (f:Af):Prop where
  closures:f.Closures.length≤12
  lists:f.Patrol.Bl.length≤12
  gg:f.Patrol.Hazards.length≤12
  surfaces:f.Surfaces.length≤12
  slides:f.Slides.length≤12
  bulletin:f.Bulletin.length≤12
  missions:f.Missions.length≤12
  winches:f.Winches.length≤12
  groomers:f.Groomers.length≤12
structure wS (f:Af):Prop where
  items:∀ x∈f.Patrol.Bl,x.List_.Items.length≤9223372036854775807∧x.List_.Signs.length≤9223372036854775807
  zones:∀ x∈f.Slides,x.Zones.length≤9223372036854775807∧x.Lifts.length≤9223372036854775807
  bzones:∀ x∈f.Bulletin,x.Zones.length≤9223372036854775807
  runs:∀ x∈f.Winches,x.Runs.length≤9223372036854775807
theorem xK (f:Af) (h:jG f) (hi:wS f):Ag (Fh f) (Kt f):=by
  obtain⟨y1,a1,b1⟩:=Abo f.Map
  obtain⟨y2,a2,b2⟩:=sE f.Closures (by have:=h.closures;omega)
  obtain⟨y3,a3,b3⟩:=u6 f.Patrol (by have:=h.lists;omega) (by have:=h.gg;omega) (fun x hx=>by have:=hi.items x hx;omega)
  obtain⟨y4,a4,b4⟩:=rB f.Surfaces (by have:=h.surfaces;omega)
  obtain⟨y5,a5,b5,_⟩:=S50.Wm f.Slides ⟨by have:=h.slides;omega,hi.zones⟩
  obtain⟨y6,a6,b6⟩:=qC f.Bulletin (by have:=h.bulletin;omega) hi.bzones
  obtain⟨y7,a7,b7⟩:=zB f.Missions (by have:=h.missions;omega)
  obtain⟨y8,b8,a8,_⟩:=W46.nO hi.runs
  obtain⟨y9,a9,b9⟩:=r9 f.Groomers (by have:=h.groomers;omega)
  unfold Fh Kt
  simp only[a1,a2,a3,a4,a5,a6,a7,a8,a9,b1,b2,b3,b4,b5,b6,b7,b8,b9,Aku]
  have st:∀ (k:Nat) y,[y1,y2,y3,y4,y5,y6,y7,y8,y9][k]? =some y→∀ s:Unit,Gc y1 y2 y3 y4 y5 y6 y7 y8 y9 k () s=(bif decide (y≠0)then some (Out.ret y)else some (Out.next ())):=by
    intro k y hk s
    unfold Gc
    rw[Q7 rfl hk];rfl
  unfold Ki
  rw[if_pos (by decide),show List.replicate 9 ()=[(),(),(),(),(),(),(),(),()] from rfl]
  simp only[An,Nat.zero_add,Nat.reduceAdd]
  simp only[st 0 y1 rfl,st 1 y2 rfl,st 2 y3 rfl,st 3 y4 rfl,st 4 y5 rfl,st 5 y6 rfl,st 6 y7 rfl,st 7 y8 rfl,st 8 y9 rfl]
  by_cases e9:y9=0
  ·subst e9
   cases decide (y1≠0)
   rotate_left
   ·exact⟨_,rfl,rfl⟩
   cases decide (y2≠0)
   rotate_left
   ·exact⟨_,rfl,rfl⟩
   cases decide (y3≠0)
   rotate_left
   ·exact⟨_,rfl,rfl⟩
   cases decide (y4≠0)
   rotate_left
   ·exact⟨_,rfl,rfl⟩
   cases decide (y5≠0)
   rotate_left
   ·exact⟨_,rfl,rfl⟩
   cases decide (y6≠0)
   rotate_left
   ·exact⟨_,rfl,rfl⟩
   cases decide (y7≠0)
   rotate_left
   ·exact⟨_,rfl,rfl⟩
   cases decide (y8≠0)
   rotate_left
   ·exact⟨_,rfl,rfl⟩
   exact⟨_,rfl,rfl⟩
  ·rw[Akq (p:=y9≠0) e9]
   cases decide (y1≠0)
   rotate_left
   ·exact⟨_,rfl,rfl⟩
   cases decide (y2≠0)
   rotate_left
   ·exact⟨_,rfl,rfl⟩
   cases decide (y3≠0)
   rotate_left
   ·exact⟨_,rfl,rfl⟩
   cases decide (y4≠0)
   rotate_left
   ·exact⟨_,rfl,rfl⟩
   cases decide (y5≠0)
   rotate_left
   ·exact⟨_,rfl,rfl⟩
   cases decide (y6≠0)
   rotate_left
   ·exact⟨_,rfl,rfl⟩
   cases decide (y7≠0)
   rotate_left
   ·exact⟨_,rfl,rfl⟩
   cases decide (y8≠0)
   rotate_left
   ·exact⟨_,rfl,rfl⟩
   exact⟨_,rfl,rfl⟩
theorem kO (p:F3):Kp p=K7 p:=rfl
theorem mB (p:F3):K7 p=some (decide ((0≤p.Natural∧p.Natural≤20000)∧(0≤p.Machine∧p.Machine≤20000)∧50≤p.Density∧p.Density≤900)):=by
  unfold K7 Ui
  simp only[bt,Aku]
theorem lE (f:Af) (h:jG f) (hi:wS f) (h1:f.Lifts.length≤100) (h2:f.Packs.length≤100) (h3:f.Status.length≤100):Ag (Gr f) (Iv f):=by
  unfold Gr Iv
  refine Ag.bind (xK f h hi) fun y _ _=>?_
  refine Ag.bif rfl (fun _=>Ag.some _) fun _=>?_
  refine Ag.bif rfl (fun _=>Ag.some _) fun _=>?_
  refine Ag.bif rfl (fun _=>Ag.some _) fun _=>?_
  refine Ag.bif rfl (fun _=>Ag.some _) fun _=>?_
  unfold G1
  rw[rC (Dw.An fun i x s=>by
   unfold Ek
   repeat' first | exact Dw.ret (by decide) | exact Dw.next _ | refine Dw.bif (fun _=>?_) (fun _=>?_) | refine Dw.bind fun _ _=>?_)]
  refine Ag.bind (Ag.An fun i x s hx=>?_) fun o _ _=>Ag.on fun _ _=>?_
  ·have de:=(Ak1.1 hx).1
   refine Ag.oH ?_ rfl
   unfold Ek
   rw[w0,Aku]
   repeat' first | exact Tot.some _ | (refine Tot.pred de ‹_› (by omega) fun y=>?_) | refine Tot.bif (fun h0=>?_) (fun _=>?_)
  unfold G0 Kv
  rw[rC (Dw.An fun i x s=>by
   unfold Ej
   repeat' first | exact Dw.ret (by decide) | exact Dw.next _ | refine Dw.bif (fun _=>?_) (fun _=>?_) | refine Dw.bind fun _ _=>?_)]
  refine Ag.bind (Ag.An fun i x s hx=>?_) fun o _ _=>Ag.on fun _ _=>?_
  ·have de:=(Ak1.1 hx).1
   refine Ag.oH ?_ rfl
   unfold Ej
   rw[kO,mB,Aku]
   repeat' first | exact Tot.some _ | (refine Tot.pred de ‹_› (by omega) fun y=>?_) | refine Tot.bif (fun h0=>?_) (fun _=>?_)
  unfold Gl Ku
  rw[rC (Dw.An fun i x s=>by
   unfold Ed
   repeat' first | exact Dw.ret (by decide) | exact Dw.next _ | refine Dw.bif (fun _=>?_) (fun _=>?_) | refine Dw.bind fun _ _=>?_)]
  refine Ag.bind (Ag.An fun i x s hx=>?_) fun o _ _=>Ag.on fun _ _=>?_
  ·have de:=(Ak1.1 hx).1
   refine Ag.oH ?_ rfl
   unfold Ed
   rw[Q0,Aku]
   repeat' first | exact Tot.some _ | (refine Tot.pred de ‹_› (by omega) fun y=>?_) | refine Tot.bif (fun h0=>?_) (fun _=>?_)
  refine Ag.refl ?_
  repeat' first | exact Tot.some _ | refine Tot.bif (fun h0=>?_) (fun _=>?_)
def stp (L:List Int→Int→Bool) (s:List Int):List Int:=s.filter (L s)
def iter (L:List Int→Int→Bool):Nat→List Int→List Int
  | 0,s=>s
  | n+1,s=>iter L n (stp L s)
section
variable {L:List Int→Int→Bool}
theorem fI (s:List Int):(stp L s).Sublist s:=List.filter_sublist
theorem tG {s:List Int} (h:(stp L s).length=s.length):stp L s=s:=(fI s).eq_of_length h
theorem W5 {s:List Int} (h:stp L s=s):∀ n,iter L n s=s
  | 0=>rfl
  | n+1=>by rw[iter,h];exact W5 h n
theorem S0:∀ (n:Nat) (s:List Int),s.length≤n→stp L (iter L n s)=iter L n s
  | 0,s,h=>by
    have:s=[]:=List.eq_nil_of_length_eq_zero (by omega)
    subst this;rfl
  | n+1,s,h=>by
    by_cases e:stp L s=s
    ·rw[W5 e];exact e
    ·have h1:=(fI (L:=L) s).length_le
     have h2:(stp L s).length≠s.length:=fun h=>e (tG h)
     exact S0 n _ (by omega)
theorem hX:∀ (n m:Nat) (s:List Int),iter L (n+m) s=iter L m (iter L n s)
  | 0,m,s=>by rw[Nat.zero_add];rfl
  | n+1,m,s=>by rw[Nat.succ_add];exact hX n m _
theorem iter_eq {s:List Int} {n m:Nat} (hn:stp L (iter L n s)=iter L n s) (hm:stp L (iter L m s)=iter L m s):iter L n s=iter L m s:=by
  have h1:=W5 hn m
  have h2:=W5 hm n
  rw[← hX]at h1 h2
  rw[← h1,Nat.add_comm,h2]
theorem gZ:∀ (n:Nat) (s:List Int),(iter L n s).Sublist s
  | 0,s=>List.Sublist.refl _
  | n+1,s=>(gZ n _).trans (fI s)
def gfp (L:List Int→Int→Bool) (s:List Int):List Int:=iter L s.length s
theorem iE (s:List Int):stp L (gfp L s)=gfp L s:=S0 _ _ (Nat.le_refl _)
theorem tV (s:List Int):(gfp L s).Sublist s:=gZ _ _
theorem yD {s:List Int} {r:Int} (h:r∈gfp L s):L (gfp L s) r=true:=by
  have h':r∈stp L (gfp L s):=by rw[iE];exact h
  exact(List.mem_filter.1 h').2
theorem eI {s:List Int} {n:Nat} (h:stp L (iter L n s)=iter L n s):iter L n s=gfp L s:=iter_eq h (iE s)
end
theorem Us {α:Type} {step:Nat→α→Unit→Option (Out Unit Bool)} {l:List α} (p:α→Bool) (hs:∀ k x,x∈l→step k x ()=bif p x then some (.ret true)else some (.next ())) :
    ((An step 0 l ()).bind fun o=>o.on fun _=>some false)=some (l.any p):=by
  rw[Fk p (fun _=>true) hs]
  cases h:l.find? p with
  | none=>
    have:l.any p=false:=by rw[List.any_eq_false];rw[List.find?_eq_none]at h;exact h
    rw[this];rfl
  | some x=>
    have:l.any p=true:=by rw[List.any_eq_true];exact⟨x,List.mem_of_find?_eq_some h,List.find?_some h⟩
    rw[this];rfl
theorem tU {α:Type} {step:Nat→α→Unit→Option (Out Unit Int)} {l:List α} (p:α→Bool) (hs:∀ k x,x∈l→step k x ()=bif p x then some (.ret ((k:Nat):Int))else some (.next ())) :
    ∃ r,((An step 0 l ()).bind fun o=>o.on fun _=>some (-1:Int))=some r∧((r= -1∧∀ x∈l,p x=false)∨∃ (k:Nat) (x:α),r=(k:Int)∧l[k]? =some x∧p x=true):=by
  rcases E9 (step:=step) (l:=l) (s:=()) (fun k _=>∀ x∈l.take k,p x=false) (fun r=>∃ (k:Nat) (x:α),r=(k:Int)∧l[k]? =some x∧p x=true) (by simp) (fun k x s hk hI=>by
      rw[hs k x (Akt hk)]
      cases h:p x with
      | true=>exact .inr ⟨_,rfl,k,x,rfl,hk,h⟩
      | false=>
        refine .inl ⟨_,rfl,fun z hz=>?_⟩
        rw[Bz hk,Akz,List.mem_singleton]at hz
        rcases hz with hz | rfl
        ·exact hI z hz
        ·exact h)with ⟨s',e1,e2⟩ | ⟨r,e1,e2⟩
  ·rw[List.take_length]at e2
   rw[e1];exact⟨_,rfl,.inl ⟨rfl,e2⟩⟩
  ·rw[e1];exact⟨r,rfl,.inr e2⟩
def clo (l:List Bn) (kind target:Int):Bool:=l.any fun c=>decide (c.Kind=kind)&&decide (c.Target=target)
theorem lN (l:List Bn) (kind target:Int):Ic l kind target=some (clo l kind target):=by
  unfold Ic clo
  refine Us _ fun k x _=>?_
  unfold Kf
  rw[Akq (Int.natCast_nonneg k)]
  cases decide (x.Kind=kind)<;>cases decide (x.Target=target)<;>rfl
theorem rP (l:List Bn) (a b c:Int):∃ r,F4 l a b c=some r∧(0≤r↔∃ x∈l,x.Kind=a∧x.Target=b∧x.By=c):=by
  unfold F4
  obtain⟨r,h1,h2⟩:=tU (step:=Fc a b c) (l:=l) (fun x=>decide (x.Kind=a)&&(decide (x.Target=b)&&decide (x.By=c))) (fun k x _=>by
    unfold Fc
    cases decide (x.Kind=a)<;>cases decide (x.Target=b)<;>cases decide (x.By=c)<;>rfl)
  refine⟨r,h1,?_⟩
  rcases h2 with⟨rfl,h2⟩ | ⟨k,x,rfl,h3,h4⟩
  ·constructor
   ·intro h;exact absurd h (by decide)
   ·rintro⟨x,hx,e1,e2,e3⟩
    have:=h2 x hx
    simp[e1,e2,e3]at this
  ·simp at h4
   exact⟨fun _=>⟨x,Akt h3,h4.1,h4.2.1,h4.2.2⟩,fun _=>Int.natCast_nonneg k⟩
theorem of_eq {l:List Bn} (hb:∀ c∈l,1≤c.By∧c.By≤6) (kind target:Int):∃ r,aE l kind target=some r∧decide ((0:Int)<((r.length:Nat):Int))=clo l kind target:=by
  unfold aE
  obtain⟨s',h1,h2,h3⟩:=aQ (ρ:=List Int) (n:=6) (step:=Wr l kind target) (s:=[]) (by omega) (fun k s=>s.length≤k∧(s≠[]↔∃ x∈l,x.Kind=kind∧x.Target=target∧x.By≤k)) ⟨by simp,by
      constructor
      ·intro h;exact absurd rfl h
      ·rintro⟨x,hx,_,_,h⟩;have:=(hb x hx).1;omega⟩ (fun k s hk ⟨ot,oa⟩=>by
    obtain⟨r,h1,h2⟩:=rP l kind target (((k:Nat):Int)+1)
    unfold Wr
    rw[h1,Aku]
    by_cases h:0≤r
    ·rw[Akq h,cond_true,B1 (by omega)]
     refine⟨_,rfl,by simp;omega,?_⟩
     obtain⟨x,hx,e1,e2,e3⟩:=h2.1 h
     exact⟨fun _=>⟨x,hx,e1,e2,by rw[e3];omega⟩,fun _=>by simp⟩
    ·rw[Akr h]
     refine⟨_,rfl,by omega,?_⟩
     rw[oa]
     constructor
     ·rintro⟨x,hx,e1,e2,e3⟩;exact⟨x,hx,e1,e2,by omega⟩
     ·rintro⟨x,hx,e1,e2,e3⟩
      refine⟨x,hx,e1,e2,?_⟩
      by_cases e:x.By=(k:Int)+1
      ·exact absurd (h2.2 ⟨x,hx,e1,e2,e⟩) h
      ·omega)
  rw[h1]
  refine⟨s',rfl,?_⟩
  have:(0:Int)<((s'.length:Nat):Int)↔s'≠[]:=by
    constructor
    ·intro h e;subst e;simp at h
    ·intro h;have:=List.length_pos_iff.2 h;omega
  unfold clo
  rw[Bool.eq_iff_iff,decide_eq_true_iff,this,h3,List.any_eq_true]
  constructor
  ·rintro⟨x,hx,e1,e2,_⟩;exact⟨x,hx,by simp[e1,e2]⟩
  ·rintro⟨x,hx,e⟩;simp at e;exact⟨x,hx,e.1,e.2,(hb x hx).2⟩
theorem Aau (m:Bd) (l:List Bn) (run:Int) (h:(Gv m run).2=true):Qc m l run=some (clo l 1 run||clo l 3 (Gv m run).1.Zone):=by
  unfold Qc
  rw[Q0,Aku,h,cond_true,lN,lN,Aku]
  cases clo l 1 run<;>rfl
theorem xH {m:Bd} {l:List Bn} (hb:∀ c∈l,1≤c.By∧c.By≤6) (run:Int) (h:(Gv m run).2=true):bY m l run=some (clo l 1 run||clo l 3 (Gv m run).1.Zone):=by
  obtain⟨r1,h1,h2⟩:=of_eq hb 1 run
  obtain⟨r3,h3,h4⟩:=of_eq hb 3 (Gv m run).1.Zone
  unfold bY
  rw[aB,Aku,h,cond_true,h1,Aku,h2,h3,Aku,h4]
  cases clo l 1 run<;>rfl
def gon (l:List Cb) (run:Int):Bool:=l.any fun g=>decide (g.State=2)&&decide (g.Run=run)
theorem Abs (l:List Cb) (run:Int):R9 l run=some (gon l run):=by
  unfold R9 gon
  refine Us _ fun k x _=>?_
  unfold Pr
  rw[Akq (Int.natCast_nonneg k)]
  cases decide (x.State=2)<;>cases decide (x.Run=run)<;>rfl
theorem zX (l:List Cb) (run:Int):gG l run=some (gon l run):=by
  unfold gG gon
  refine Us _ fun k x _=>?_
  unfold eF
  cases decide (x.State=2)<;>cases decide (x.Run=run)<;>rfl
theorem Wl (l:List Int) (n:Int):Gw l n=some (decide (n∈l)):=W8 fun k x hx=>rfl
def act (m:Bh):Bool:=decide (1≤m.State∧m.State≤4)
theorem Ab5 (m:Bh):Jb m=some (act m):=by
  unfold Jb E3 act
  by_cases h1:m.State=1
  ·rw[Akq h1,Akq (p:=1≤m.State∧m.State≤4) (by omega)];rfl
  ·by_cases h2:m.State=2
   ·rw[Akr h1,Akq h2,Akq (p:=1≤m.State∧m.State≤4) (by omega)];rfl
   ·by_cases h3:m.State=3
    ·rw[Akr h1,Akr h2,Akq h3,Akq (p:=1≤m.State∧m.State≤4) (by omega)];rfl
    ·by_cases h4:m.State=4
     ·rw[Akr h1,Akr h2,Akr h3,Akq h4,Akq (p:=1≤m.State∧m.State≤4) (by omega)];rfl
     ·rw[Akr h1,Akr h2,Akr h3,Akr h4,Akr (p:=1≤m.State∧m.State≤4) (by omega)];rfl
def acts (l:List Bh):List Int:=(l.filter act).map Bh.Slide
theorem sK {l:List Bh} (hl:l.length≤1000):L8 l=some (Dk (acts l)):=by
  unfold L8
  rw[Df (p:=act) (g:=Bh.Slide) (by omega) (fun k x s _=>by unfold M8;rw[Ab5,Aku])]
  show chk (acts l).length _=_
  rw[B1 (by have:=List.length_filter_le act l;unfold acts;rw[Aky];omega)];rfl
theorem l9 (l:List Bh) (last:Int) (h0:0≤last) (hr:∀ m∈l,1≤m.Slide):∃ s,An (M1 last) 0 l 0=some (.next s)∧((s=0∧∀ n∈acts l,n≤last)∨(s∈acts l∧last<s∧∀ n∈acts l,last<n→s≤n)):=by
  obtain⟨s',h1,h2⟩:=Eb (ρ:=Out (Int×List Int) (List Int)) (step:=M1 last) (l:=l) (s:=0) (fun k s=>(s=0∧∀ n∈acts (l.take k),n≤last)∨(s∈acts (l.take k)∧last<s∧∀ n∈acts (l.take k),last<n→s≤n)) (.inl ⟨rfl,by simp[acts]⟩) (fun k x s hk hI=>by
    have hx:=Akt hk
    have jc:=hr x hx
    have e:acts (l.take (k+1))=acts (l.take k)++(if act x=true then [x.Slide]else []):=by
      unfold acts;rw[Bz hk,List.filter_append,List.map_append]
      cases h:act x<;>simp[h]
    unfold M1
    rw[gB,Aku,e]
    by_cases ha:1≤x.State∧x.State≤4
    ·have wu:act x=true:=Akq ha
     rw[Akq (p:=0≤x.State∧x.State≤4) (by omega),Akq (p:=x.State≠0) (by omega),if_pos wu]
     simp only[cond_true]
     by_cases hl:last<x.Slide
     ·rw[Akq hl,cond_true]
      by_cases hs:s=0
      ·rw[Akq hs]
       refine⟨_,rfl,.inr ⟨by simp,hl,fun n hn xk=>?_⟩⟩
       rcases hI with⟨_,hI⟩ | ⟨ot,oa,_⟩
       ·rw[Akz,List.mem_singleton]at hn
        rcases hn with hn | rfl
        ·have:=hI n hn;omega
        ·exact Int.le_refl _
       ·omega
      ·rw[Akr hs,cond_false]
       rcases hI with⟨h,_⟩ | ⟨ot,oa,xp⟩
       ·exact absurd h hs
       by_cases af:x.Slide<s
       ·rw[Akq af]
        refine⟨_,rfl,.inr ⟨by simp,hl,fun n hn xk=>?_⟩⟩
        rw[Akz,List.mem_singleton]at hn
        rcases hn with hn | rfl
        ·have:=xp n hn xk;omega
        ·exact Int.le_refl _
       ·rw[Akr af]
        refine⟨_,rfl,.inr ⟨List.mem_append_left _ ot,oa,fun n hn xk=>?_⟩⟩
        rw[Akz,List.mem_singleton]at hn
        rcases hn with hn | rfl
        ·exact xp n hn xk
        ·omega
     ·rw[Akr hl]
      refine⟨_,rfl,?_⟩
      rcases hI with⟨h,hI⟩ | ⟨ot,oa,xp⟩
      ·refine .inl ⟨h,fun n hn=>?_⟩
       rw[Akz,List.mem_singleton]at hn
       rcases hn with hn | rfl
       ·exact hI n hn
       ·omega
      ·refine .inr ⟨List.mem_append_left _ ot,oa,fun n hn xk=>?_⟩
       rw[Akz,List.mem_singleton]at hn
       rcases hn with hn | rfl
       ·exact xp n hn xk
       ·omega
    ·have wu:¬ act x=true:=by unfold act;simpa using ha
     rw[if_neg wu,List.append_nil]
     by_cases h1:0≤x.State∧x.State≤4
     ·rw[Akq h1,Akr (p:=x.State≠0) (by omega)];exact⟨_,rfl,hI⟩
     ·rw[Akr h1];exact⟨_,rfl,hI⟩)
  rw[List.take_length]at h2
  exact⟨s',h1,h2⟩
theorem rM {l:List Bh} (hr:∀ m∈l,1≤m.Slide∧m.Slide≤9999):∃ r,Uy l=some r∧∀ n,n∈r↔n∈acts l:=by
  have tw:∀ n∈acts l,1≤n∧n≤9999:=by
    intro n hn
    unfold acts at hn
    obtain⟨m,hm,rfl⟩:=List.mem_map.1 hn
    exact hr m (List.mem_filter.1 hm).1
  unfold Uy
  obtain⟨r,h1,h2⟩:=Hd (step:=Qm l) (fun s=>0≤s.1∧s.1≤9999∧(s.2.length:Int)≤s.1∧∀ n,n∈s.2↔n∈acts l∧n≤s.1) (fun r=>∀ n,n∈r↔n∈acts l) (fun s=>(9999 - s.1).toNat) (by
      rintro⟨last,out⟩ ⟨i0,i1,i2,i3⟩
      dsimp only at i0 i1 i2 i3
      obtain⟨s,e1,e2⟩:=l9 l last i0 (fun m hm=>(hr m hm).1)
      unfold Qm
      dsimp only
      rw[e1,Aku]
      show(∃ s',(bif decide (s=0)then _ else _)=_∧_)∨(∃ r,(bif decide (s=0)then _ else _)=_∧_)
      rcases e2 with⟨rfl,e2⟩ | ⟨e2,e3,e4⟩
      ·exact .inr ⟨out,rfl,fun n=>by rw[i3];exact⟨fun h=>h.1,fun h=>⟨h,e2 n h⟩⟩⟩
      ·have hb:=tw s e2
       rw[Akr (by omega),cond_false,B1 (by omega)]
       refine .inl ⟨_,rfl,⟨by dsimp only;omega,by dsimp only;omega,by dsimp only;rw[Akw,List.length_singleton];omega,fun n=>?_⟩,by dsimp only;omega⟩
       dsimp only
       rw[Akz,List.mem_singleton,i3]
       constructor
       ·rintro(⟨h,h'⟩ | rfl)
        ·exact⟨h,by omega⟩
        ·exact⟨e2,Int.le_refl _⟩
       ·rintro⟨h,h'⟩
        by_cases hn:n≤last
        ·exact .inl ⟨h,hn⟩
        ·right;have:=e4 n h (by omega);omega) fuel (0,[]) ⟨by simp,by simp,by simp,fun n=>by simp;intro h;have:=tw n h;omega⟩ (by unfold fuel;dsimp only;omega)
  rw[h1]
  exact⟨r,rfl,h2⟩
def blasted (f:Af) (zone:Int):Bool:=f.Slides.any fun s=>decide (s.ID∈acts f.Missions)&&decide (zone∈s.Zones)
theorem sH (f:Af) (zone:Int) (hl:f.Missions.length≤1000):G4 f zone=some (blasted f zone):=by
  unfold G4 blasted
  rw[sK hl,Aku]
  refine Us _ fun k x _=>?_
  unfold G3
  simp only[contains_eq,Aku,Nk]
  rw[Akq (Int.natCast_nonneg k)]
  cases decide (x.ID∈acts f.Missions)<;>cases decide (zone∈x.Zones)<;>rfl
theorem oA (f:Af) (zone:Int) (hr:∀ m∈f.Missions,1≤m.Slide∧m.Slide≤9999):Tf f zone=some (blasted f zone):=by
  obtain⟨r,h1,h2⟩:=rM hr
  unfold Tf blasted
  rw[h1,Aku]
  refine Us _ fun k x _=>?_
  unfold Ue
  simp only[Wl,Aku,h2]
  cases decide (x.ID∈acts f.Missions)<;>cases decide (zone∈x.Zones)<;>rfl
def kC (s:Hc) (t:Int):Bool:=decide (s.From≤t∧t<s.To)
theorem uD (s:Hc) (t:Int):L7 s t=some (kC s t):=by unfold L7 kC;exact bt
theorem dI (b:Bi) (t:Int):Q6 b t=some (kC b.Span t):=by unfold Q6 kC;exact bt
theorem Aat (l:List Bi) (t:Int):Tot (Mn l t):=by
  unfold Mn
  refine Tot.bind (Tot.An fun i x s _=>?_) fun o _=>Tot.on fun _=>Tot.some _
  unfold Lr
  rw[dI,Aku]
  exact Tot.bif (fun _=>Tot.some _) fun _=>Tot.some _
theorem Abu (l:List Bi) (t:Int):Ii l t=Mn l t:=by
  have:Fx t=Lr t:=by
    funext k x sv
    unfold Fx Lr
    rw[uD,dI,Aku,Aku]
    cases kC x.Span t with
    | false=>rfl
    | true=>
      rw[cond_true,cond_true]
      by_cases h:sv<x.Version
      ·rw[Akq h,if_pos h];rfl
      ·rw[Akr h,if_neg h];rfl
  unfold Ii Mn;rw[this]
theorem yC (l:List Int) (n:Int):kJ l n=some (decide (n∈l)):=W8 fun k x hx=>rfl
theorem lO (l:List Bi) (zone low high t:Int):Ag (Ih l zone low high t) (Wv l zone low high t):=by
  obtain⟨c,hc⟩:=Aat l t
  unfold Ih Wv
  rw[Abu,hc,Aku]
  refine Ag.bind (Ag.An fun i x s hx=>?_) fun o _ _=>Ag.on fun _ _=>Ag.some _
  unfold Kg Wu
  simp only[uD,dI,hc,yC,contains_eq,Aku]
  generalize decide (x.Version=c)=b1
  generalize kC x.Span t=b2
  generalize decide (zone∈x.Zones)=b3
  generalize decide (x.Low<high)=b4
  generalize decide (low<x.High)=b5
  by_cases h:s<x.Level
  ·rw[Akq h,if_pos h]
   cases b1<;>cases b2<;>cases b3<;>cases b4<;>cases b5<;>exact ⟨_,rfl,rfl⟩
  ·rw[Akr h,if_neg h]
   cases b1<;>cases b2<;>cases b3<;>cases b4<;>cases b5<;>exact ⟨_,rfl,rfl⟩
def Le (m:Bd) (n:Int):Int:=(Dc m n).1.Alt
theorem Ab4 (m:Bd) (n:Int):Nl m n=some (Le m n):=by unfold Nl Le;rw[Hg];rfl
def vI (m:Bd) (x:Cq) (s:Int):Int:=if Le m x.To<s then Le m x.To else s
def iC (m:Bd) (x:Cq) (s:Int):Int:=if s<Le m x.From then Le m x.From else s
def FF (m:Bd) (l:List Cq):Int×Int:=l.foldl (fun s x=>(vI m x s.1,iC m x s.2)) (9999, -1)
theorem uK (m:Bd) (l:List Cq) (x:Cq):FF m (l++[x])=(vI m x (FF m l).1,iC m x (FF m l).2):=by unfold FF;rw[List.foldl_append];rfl
theorem nK {m:Bd} (M:Li m) {x:Cq} (hx:x∈m.Runs):(0≤Le m x.To∧Le m x.To≤5000)∧0≤Le m x.From∧Le m x.From≤5000:=by
  have h:=(M.runs x hx).2
  have h1:=Zo h.1
  have h2:=Zo h.2.1
  exact⟨(M.nodes _ h1.1).2,(M.nodes _ h2.1).2⟩
theorem kG (f:Af) (k:Nat):An (M0 f k) 0 f.Map.Runs (9999, -1)=some (.next (FF f.Map (f.Map.Runs.filter fun x=>decide (x.Zone=(k:Int)+1)))):=by
  obtain⟨s',h1,h2⟩:=Eb (ρ:=Out (List Int) (List Int)) (step:=M0 f k) (l:=f.Map.Runs) (s:=(9999, -1)) (fun j s=>s=FF f.Map ((f.Map.Runs.take j).filter fun x=>decide (x.Zone=(k:Int)+1))) rfl (fun j x s hj hI=>by
    unfold M0
    simp only[Ab4,Aku]
    rw[Bz hj,List.filter_append]
    by_cases hz:x.Zone=(k:Int)+1
    ·rw[Akr (p:=x.Zone≠(k:Int)+1) (fun h=>h hz),cond_false,List.filter_cons_of_pos (by simpa using hz),List.filter_nil,uK,← hI]
     unfold vI iC
     by_cases h1:Le f.Map x.To<s.1
     ·rw[Akq h1,cond_true,if_pos h1]
      by_cases h2:s.2<Le f.Map x.From
      ·rw[Akq h2,if_pos h2];exact⟨_,rfl,rfl⟩
      ·rw[Akr h2,if_neg h2];exact⟨_,rfl,rfl⟩
     ·rw[Akr h1,cond_false,if_neg h1]
      by_cases h2:s.2<Le f.Map x.From
      ·rw[Akq h2,if_pos h2];exact⟨_,rfl,rfl⟩
      ·rw[Akr h2,if_neg h2];exact⟨_,rfl,rfl⟩
    ·rw[Akq (p:=x.Zone≠(k:Int)+1) hz,List.filter_cons_of_neg (by simpa using hz),List.filter_nil,List.append_nil]
     exact⟨_,rfl,hI⟩)
  rw[h1,h2,List.take_length]
theorem nL {m:Bd} (M:Li m) {x:Cq} (hx:x∈m.Runs):Gv m x.ID=(x,true):=by
  have h:(Gv m x.ID).2=true:=vX hx
  have h1:=bR h
  have h2:=rG M.runsR h1.1 hx h1.2
  exact Prod.ext h2 h
theorem wY {m:Bd} (M:Li m) (z:Int):Ll m z=some ((m.Runs.filter fun x=>decide (x.Zone=z)).map Cq.ID):=by
  unfold Ll
  rw[Df (step:=Mx z) (p:=fun x=>decide (x.Zone=z)) (g:=Cq.ID) (by have:=M.lenR;omega) (fun k x s _=>rfl)]
  rfl
theorem Aa3 {m:Bd} (M:Li m) (z:Int):Fw m z=some (bif (m.Runs.filter fun x=>decide (x.Zone=z)).isEmpty then(0,0,false)else ((FF m (m.Runs.filter fun x=>decide (x.Zone=z))).1,(FF m (m.Runs.filter fun x=>decide (x.Zone=z))).2,true)):=by
  unfold Fw
  rw[wY M,Aku]
  generalize hR:(m.Runs.filter fun x=>decide (x.Zone=z))=R
  have gq:∀ x∈R,x∈m.Runs:=fun x hx=>by rw[← hR]at hx;exact(List.mem_filter.1 hx).1
  obtain⟨s',h1,h2⟩:=Eb (ρ:=Int×Int×Bool) (step:=Ev m) (l:=R.map Cq.ID) (s:=((0:Int),(0:Int),false)) (fun j s=>s=bif (R.take j).isEmpty then(0,0,false)else ((FF m (R.take j)).1,(FF m (R.take j)).2,true)) rfl (fun j id s hj hI=>by
    rw[List.getElem?_map]at hj
    obtain⟨x,hx,rfl⟩:=Option.map_eq_some_iff.1 hj
    have hm:=gq x (Akt hx)
    have ha:=nK M hm
    unfold Ev
    simp only[Q0,wZ,Aku,nL M hm]
    rw[Bz hx,uK]
    have bc:(R.take j++[x]).isEmpty=false:=by simp
    rw[bc,cond_false]
    change ∃ s',(bif (!s.2.2)then some (Out.next ((if Le m x.To<Le m x.To then Le m x.To else Le m x.To),(if Le m x.From<Le m x.From then Le m x.From else Le m x.From),true))else some (Out.next ((if Le m x.To<s.1 then Le m x.To else s.1),(if s.2.1<Le m x.From then Le m x.From else s.2.1),s.2.2)))=_∧_
    cases hE:(R.take j).isEmpty with
    | true=>
      rw[hE]at hI
      have e0:R.take j=[]:=by simpa using hE
      subst hI
      rw[e0]
      refine⟨_,rfl,?_⟩
      have e1:vI m x 9999=Le m x.To:=if_pos (by omega)
      have e2:iC m x (-1)=Le m x.From:=if_pos (by omega)
      show((if Le m x.To<Le m x.To then Le m x.To else Le m x.To),(if Le m x.From<Le m x.From then Le m x.From else Le m x.From),true)=(vI m x 9999,iC m x (-1),true)
      rw[e1,e2];simp only[ite_self]
    | false=>
      rw[hE]at hI
      subst hI
      exact⟨_,rfl,rfl⟩)
  rw[h1]
  rw[Aky,List.take_length]at h2
  rw[h2]
  cases R.isEmpty<;>rfl
theorem Aa7 {m:Bd} (M:Li m) {R:List Cq} (hR:∀ x∈R,x∈m.Runs):R≠[]→0≤(FF m R).2:=by
  have key:∀ (l:List Cq) (s:Int×Int),(∀ x∈l,x∈m.Runs)→(l≠[]∨0≤s.2)→0≤(l.foldl (fun s x=>(vI m x s.1,iC m x s.2)) s).2:=by
    intro l
    induction l with
    | nil=>intro s _ h;rcases h with h | h;exact absurd rfl h;exact h
    | cons x l ih=>
      intro s hl h
      rw[List.foldl_cons]
      refine ih _ (fun y hy=>hl y (List.mem_cons_of_mem _ hy)) (.inr ?_)
      have:=(nK M (hl x (by simp))).2
      dsimp only;unfold iC
      split<;>omega
  intro h
  exact key R _ hR (.inl h)
theorem vL {f:Af} (M:Li f.Map):∃ L,E8 f=some L∧Q5 f=some L∧L.length=32:=by
  have zx:∀ k s,E2 f k () s=Gp f k () s:=by
    intro k s
    unfold E2 Gp
    rw[Aa3 M,kG,Aku,Aku]
    show(bif (bif _ then _ else _:Int×Int×Bool).2.2 then _ else _)=(bif _ then _ else _)
    generalize hR:(f.Map.Runs.filter fun x=>decide (x.Zone=(k:Int)+1))=R
    have gq:∀ x∈R,x∈f.Map.Runs:=fun x hx=>by rw[← hR]at hx;exact(List.mem_filter.1 hx).1
    cases R with
    | nil=>rfl
    | cons x R=>
      have hh:=Aa7 M gq (by simp)
      rw[Akq hh]
      show(Ih _ _ _ _ _).bind _=_
      rw[(lO f.Bulletin _ _ _ _).eq]
      rfl
  obtain⟨s',h1,h2⟩:=aQ (ρ:=List Int) (n:=32) (step:=Gp f) (s:=[]) (by omega) (fun k s=>s.length=k) rfl (fun k s hk hI=>by
    unfold Gp
    rw[kG,Aku]
    show ∃ s',(bif _ then _ else _)=_∧_
    cases decide ((0:Int)≤(FF f.Map (f.Map.Runs.filter fun x=>decide (x.Zone=(k:Int)+1))).2)with
    | true=>
      obtain⟨n,_,hn⟩:=lO f.Bulletin ((k:Int)+1) (FF f.Map (f.Map.Runs.filter fun x=>decide (x.Zone=(k:Int)+1))).1 (FF f.Map (f.Map.Runs.filter fun x=>decide (x.Zone=(k:Int)+1))).2 f.Time
      rw[cond_true,hn,Aku,B1 (by omega)]
      exact⟨_,rfl,by simp[hI]⟩
    | false=>
      rw[cond_false,B1 (by omega)]
      exact⟨_,rfl,by simp[hI]⟩)
  have he:Ki (E2 f) 32 []=Ki (Gp f) 32 []:=by
    unfold Ki
    rw[if_pos (by decide),if_pos (by decide)]
    exact S50.L4 fun i x s _=>zx i s
  refine⟨s',?_,?_,h2⟩
  ·unfold E8
   rw[Aav (by omega),he,h1];rfl
  ·unfold Q5
   rw[h1];rfl
end Go.Proofs.YtjopghiagoidgaaGreat
