/- Our own texts: a layer of abstract values over the model, the walks of the functions, the plain laws; joined and shortened by a small program of our own (wip/dce2.py, wip/pack.py). -/
import Derived.Test.YtjopghiagoidgaaGreatA1
import Derived.Calls
import Derived.Tactics2
import Derived.Below
import Derived.Deep.LoopGhost
import Derived.KernelRfl
import Derived.Laws.Shifts
import Derived.Laws.CopyRow
import Derived.Laws.AppendOwn
import Derived.Laws.MakeOwn
import Derived.Laws.StructEq
import Derived.Maps.RangeRun
import Derived.Lib.SliceRun
import Derived.TacticsIn
import Derived.OrdersIn
import Derived.Sort.LoopGhostIn
import Derived.RangeFuncRecord
import Derived.Orders
import Derived.ProofKit
import Derived.OpenShut
import Derived.ShutString
import Derived.ChangeOld
import Derived.Carry
import Derived.WideShapes
import Derived.ChangeArms
import Derived.ChangeShapes
import Derived.Handed
import Derived.JoinedOf
import Derived.Sort.Grow
import Derived.Lib.SlicesCompact
import Derived.Lib.SlKeysI
import Derived.Maps.Own
import Derived.WideKeyRuns
import Derived.Test.YtjopghiagoidgaaGreatChecked
import Derived.Test.YtjopghiagoidgaaGreatProg
import Derived.Shelf.SortM.Plain
import Derived.Shelf.SortM.SortNone
import Derived.Shelf.SlIterI.Nil
import Derived.Shelf.Slices.CompactI
namespace Go.Ab
open Go Go.RowKit
def F2 (op:Op):Bool:=
  match op with
  | .alloc _ | .box _ _ | .buildSlice _ _ _ | .makeSlice _ _ _ | .makeMap _ none=>true
  | .call {callee:=.builtin .append,args:=_,argTypes:=_}=>true
  | .call {callee:=.value _,args:=_,argTypes:=_}=>true
  | _=>false
def qA (op:Op):Bool:=
  match op with
  | .store _ _ _ | .mapUpdate _ _ _ _ | .insert _ _ _ _=>true
  | .call {callee:=.builtin .append,args:=_,argTypes:=_} | .call {callee:=.builtin .delete,args:=_,argTypes:=_}=>true
  | _=>false
def drawable (op:Op):Bool:=
  match op with
  | .range _ _ | .next _ _ | .entry _ | .select _ _ | .defer _=>false
  | _=>true
def rid (v:Ac):List Nat:=
  match v with
  | .own r _ _ _ | .ptr r _ | .rptr r _ _ _ | .map r | .iter r | .yld r=>[r]
  | _=>[]
def xQ:List Ac→List Nat
  | []=>[]
  | v::r=>rid v++xQ r
def xR (v:Ac):List Nat:=
  match v with
  | .agg cs=>xQ cs
  | v=>rid v
def Y7:List Ac→List Nat
  | []=>[]
  | v::r=>xR v++Y7 r
def touch (op:Op) (e:Operand→Ac):List Nat:=
  match op with
  | .load _ a=>rid (e a)
  | .store _ a _=>rid (e a)
  | .indexAddr _ x _=>rid (e x)
  | .slice _ x _ _ _=>rid (e x)
  | .lookup _ x _ _=>rid (e x)
  | .mapUpdate _ m _ _=>rid (e m)
  | .insert _ m _ _=>rid (e m)
  | .call c=>Y7 (c.args.toList.map e)
  | _=>[]
def pD (op:Op) (e:Operand→Ac) (H:List Ar) (id:Nat) (ef:Eff):Prop:=
  match ef with
  | .none=>True
  | .new j _=>F2 op=true∧j=id
  | .set r _=>qA op=true∧r∈touch op e∧∃ x,H[r]? =some x∧x≠.resv
def jK (T:(Ac→Prop)→Prop) (T':(Ac→Prop)→Prop):Prop:=∀ K,T K→(∃ v,K v∧∀ K',K' v→T' K')∨∀ K',T K'
theorem x9 {sz:Nat} {xs:List (List Ac)} {n:Int} {K:List Ac→Prop} (h:Bn sz xs n K):(∃ y,K y∧∀ K':List Ac→Prop,K' y→Bn sz xs n K')∨∀ K',Bn sz xs n K':=by
  obtain⟨h1,h2,h3⟩:=h
  cases hx:xs[n.toNat]? with
  | none=>exact .inr fun K'=>⟨h1,h2,fun y hy=>by rw[hx]at hy;cases hy⟩
  | some y=>
    by_cases hl:y.length=sz
    ·exact .inl ⟨y,h3 y hx hl,fun K' hk=>⟨h1,h2,fun y' hy _=>by rw[hx,Option.some.injEq]at hy;exact hy ▸ hk⟩⟩
    ·exact .inr fun K'=>⟨h1,h2,fun y' hy hl'=>by rw[hx,Option.some.injEq]at hy;exact absurd (hy ▸ hl') hl⟩
theorem oC {sz:Nat} {xs:List (List Ac)} {i:Nat} {K:List Ac→Prop} (h:De sz xs i K):(∃ y,K y∧∀ K':List Ac→Prop,K' y→De sz xs i K')∨∀ K',De sz xs i K':=by
  cases hx:xs[i]? with
  | none=>exact .inr fun K' y hy=>by rw[hx]at hy;cases hy
  | some y=>
    by_cases hl:y.length=sz
    ·exact .inl ⟨y,h y hx hl,fun K' hk y' hy _=>by rw[hx,Option.some.injEq]at hy;exact hy ▸ hk⟩
    ·exact .inr fun K' y' hy hl'=>by rw[hx,Option.some.injEq]at hy;exact absurd (hy ▸ hl') hl
theorem vZ {es:List (Int×Ac)} {n:Int} {z:Ac} {K:Ac→Bool→Prop} (h:D1 es n z K):∃ v b,K v b∧∀ K':Ac→Bool→Prop,K' v b→D1 es n z K':=by
  cases hx:alook es n with
  | none=>exact ⟨z,false,h.2 hx,fun K' hk=>⟨fun v hv=>by rw[hx]at hv;(cases hv),fun _=>hk⟩⟩
  | some v=>exact ⟨v,true,h.1 v hx,fun K' hk=>⟨fun v' hv=>by rw[hx,Option.some.injEq]at hv;(exact hv ▸ hk),fun hv=>by rw[hx]at hv;cases hv⟩⟩
variable {P:Program}
theorem uR (c a b:Ac):jK (iK c a b) (iK c a b):=by
  intro K h
  unfold iK at *
  split at h
  ·rename_i cv
   split at h
   ·exact .inl ⟨_,h,fun _ h=>h⟩
   ·rename_i hne
    cases cv
    ·exact .inl ⟨b,h.2 rfl,fun K' hk=>⟨(fun h=>by cases h),fun _=>hk⟩⟩
    ·exact .inl ⟨a,h.1 rfl,fun K' hk=>⟨fun _=>hk,fun h=>by cases h⟩⟩
  ·exact h.elim
theorem xI (o:BinOp) (T:TypeId) (x y:Ac):jK (oZ P o T x y) (oZ P o T x y):=by
  intro K h
  unfold oZ aY at *
  repeat' split at h
  all_goals first
    | exact h.elim
    | exact h.2.elim
    | exact .inl ⟨_,h.2,fun _ hk=>⟨h.1,hk⟩⟩
    | exact .inl ⟨_,h.2.2,fun _ hk=>⟨h.1,h.2.1,hk⟩⟩
    | exact .inl ⟨_,h,fun _ h=>h⟩
theorem yW (o:UnOp) (x:Ac):jK (aUn o x) (aUn o x):=by
  intro K h
  unfold aUn at *
  repeat' split at h
  all_goals first
    | exact h.elim
    | exact .inl ⟨_,h,fun _ h=>h⟩
theorem uU (s d:TypeId) (x:Ac):jK (eF P s d x) (eF P s d x):=by
  intro K h
  unfold eF at *
  split at h
  ·rename_i h1 h2;exact .inl ⟨_,h,fun _ hk=>by first | exact hk | (simp only[h1,h2];exact hk)⟩
  ·exact h.elim
theorem uS (T:TypeId) (p:Ac) {H H':List Ar} (hH:∀ r∈rid p,H'[r]? =H[r]?):(K:Ac→Prop)→Xq P T p H K→(∃ v,K v∧∀ K',K' v→Xq P T p H' K')∨∀ K',Xq P T p H K':=by
  intro K h
  unfold Xq at *
  obtain⟨h0,h⟩:=h
  split at h
  ·rename_i r k
   rw[hH r (by simp[rid])]
   split at h
   ·exact .inl ⟨_,h.2,fun K' hk=>⟨h0,h.1,hk⟩⟩
   ·exact h.elim
  ·rename_i r v i k
   rw[hH r (by simp[rid])]
   split at h
   ·obtain⟨h1,h2,h3⟩:=h
    rcases oC h3 with⟨y,hy,hK⟩ | hK
    ·exact .inl ⟨_,hy,fun K' hk=>⟨h0,h1,h2,hK _ hk⟩⟩
    ·exact .inr fun K'=>⟨h0,h1,h2,hK _⟩
   ·exact h.elim
  ·exact .inl ⟨_,h.2,fun K' hk=>⟨h0,h.1,hk⟩⟩
  ·exact h.elim
theorem iN (T:TypeId) (p:Ac) (f:Nat):jK (K3 P T p f) (K3 P T p f):=by
  intro K h
  unfold K3 at *
  split at h
  ·obtain⟨h1,h⟩:=h
   split at h
   all_goals first
     | exact h.elim
     | exact .inl ⟨_,h,fun _ h=>⟨h1,h⟩⟩
  ·exact h.elim
theorem rG (T:TypeId) (x:Ac) (f:Nat):jK (Zs P T x f) (Zs P T x f):=by
  intro K h
  unfold Zs at *
  split at h
  ·rename_i h1
   split at h
   ·exact .inl ⟨_,h.2.2.2,fun _ hk=>⟨h.1,h.2.1,h.2.2.1,hk⟩⟩
   ·exact h.elim
  ·exact h.elim
theorem iM (T:TypeId) (x i:Ac) {H H':List Ar} (hH:∀ r∈rid x,H'[r]? =H[r]?):(K:Ac→Prop)→Ip P T x i H K→(∃ v,K v∧∀ K',K' v→Ip P T x i H' K')∨∀ K',Ip P T x i H K':=by
  intro K h
  unfold Ip at *
  split at h
  ·rename_i e k n he
   obtain⟨h0,h⟩:=h
   split at h
   ·obtain⟨h1,h2⟩:=h
    rcases x9 h2 with⟨y,hy,hK⟩ | hK
    ·exact .inl ⟨_,hy,fun K' hk=>⟨h0,h1,hK _ hk⟩⟩
    ·exact .inr fun K'=>⟨h0,h1,hK _⟩
   ·rename_i r v lo len
    rw[hH r (by simp[rid])]
    split at h
    ·obtain⟨h1,h2,h3,h4,h5⟩:=h
     exact .inl ⟨_,h5,fun K' hk=>⟨h0,h1,h2,h3,h4,hk⟩⟩
    ·exact h.elim
   ·exact h.elim
  ·rename_i k n he
   split at h
   ·rename_i hA
    obtain⟨h1,h2,h3,h4⟩:=h
    exact .inl ⟨_,h4,fun K' hk=>⟨h1,h2,h3,hk⟩⟩
   ·obtain⟨h1,h2,h3,h4⟩:=h
    exact .inl ⟨_,h4,fun K' hk=>⟨h1,h2,h3,hk⟩⟩
   ·exact h.elim
  ·exact h.elim
theorem rH (T:TypeId) (parts:List (Nat×Ac)):jK (Zu P T parts) (Zu P T parts):=by
  intro K h
  unfold Zu at *
  obtain⟨h0,h⟩:=h
  split at h
  ·rename_i h1
   split at h
   ·rename_i h2;exact .inl ⟨_,h,fun _ hk=>⟨h0,by first | exact hk | (simp only[h1,h2];exact hk)⟩⟩
   ·exact h.elim
  ·exact h.elim
theorem uT {x:Ac} {H H':List Ar} (hH:∀ r∈rid x,H'[r]? =H[r]?):Zt x H'=Zt x H:=by
  unfold Zt
  split
  ·rfl
  ·rw[hH _ (by simp[rid])]
  ·rfl
theorem oX {x:Ac} {H H':List Ar} (hH:∀ r∈rid x,H'[r]? =H[r]?):R9 x H'=R9 x H:=by
  unfold R9
  split
  ·rfl
  ·rfl
  ·rw[hH _ (by simp[rid])]
  ·rfl
theorem vW {x:Ac} {H H':List Ar} (hH:∀ r∈rid x,H'[r]? =H[r]?):j1 x H'=j1 x H:=by
  unfold j1
  split
  ·rw[hH _ (by simp[rid])]
  ·rfl
theorem xH (T:TypeId) (x:Ac) {H H':List Ar} (hH:∀ r∈rid x,H'[r]? =H[r]?):(K:Ac→Prop)→l7 P T x H K→(∃ v,K v∧∀ K',K' v→l7 P T x H' K')∨∀ K',l7 P T x H K':=by
  intro K h
  unfold l7 at *
  split at h
  ·rename_i xs _
   by_cases hl:xs.length≤9223372036854775807
   ·exact .inl ⟨_,h hl,fun K' hk=>fun _=>hk⟩
   ·exact .inr fun K' h=>absurd h hl
  ·rename_i len _
   by_cases hl:len≤9223372036854775807
   ·exact .inl ⟨_,h hl,fun K' hk=>fun _=>hk⟩
   ·exact .inr fun K' h=>absurd h hl
  ·exact .inl ⟨_,h,fun K' hk=>hk⟩
  ·exact .inl ⟨_,h,fun K' hk=>hk⟩
  ·exact .inl ⟨_,h,fun K' hk=>hk⟩
  ·exact .inl ⟨_,h,fun K' hk=>hk⟩
  ·rw[hH _ (by simp[rid])]
   split at h
   ·exact .inl ⟨_,h,fun K' hk=>hk⟩
   ·exact h.elim
  ·exact .inl ⟨_,h,fun K' hk=>hk⟩
  ·exact h.elim
theorem rD (T:TypeId) (x:Ac) (lo hi mx:Option Ac) {H H':List Ar} (hH:∀ r∈rid x,H'[r]? =H[r]?):(K:Ac→Prop)→Qj P T x lo hi mx H K→(∃ v,K v∧∀ K',K' v→Qj P T x lo hi mx H' K')∨∀ K',Qj P T x lo hi mx H K':=by
  intro K h
  have e:Qj P T x lo hi mx H'=Qj P T x lo hi mx H:=by
    funext K
    cases x with
    | own r v a len=>simp only[Qj,hH r (by simp[rid])]
    | _=>rfl
  rw[e]
  unfold Qj at *
  split at h
  ·obtain⟨h0,h⟩:=h
   split at h
   ·rename_i sz xs
    by_cases hl:xs.length≤9223372036854775807
    ·obtain⟨h1,h⟩:=h
     have h:=h hl
     split at h
     ·rename_i hl1 hh1
      exact .inl ⟨_,h.2.2.2,fun K' hk=>⟨h0,h1,fun _=>by first | exact⟨h.1,h.2.1,h.2.2.1,hk⟩ | (simp only[hl1,hh1];exact⟨h.1,h.2.1,h.2.2.1,hk⟩)⟩⟩
     ·rename_i hl1 hh1
      exact .inl ⟨_,h.2.2.2.2,fun K' hk=>⟨h0,h1,fun _=>by first | exact⟨h.1,h.2.1,h.2.2.1,h.2.2.2.1,hk⟩ | (simp only[hl1,hh1];exact⟨h.1,h.2.1,h.2.2.1,h.2.2.2.1,hk⟩)⟩⟩
     ·exact h.elim
    ·exact .inr fun K'=>⟨h0,h.1,fun h=>absurd h hl⟩
   ·split at h
    ·obtain⟨h1,h2,h⟩:=h
     split at h
     ·rename_i hl1 hh1
      exact .inl ⟨_,h.2.2.2,fun K' hk=>⟨h0,h1,h2,by first | exact⟨h.1,h.2.1,h.2.2.1,hk⟩ | (simp only[hl1,hh1];exact⟨h.1,h.2.1,h.2.2.1,hk⟩)⟩⟩
     ·rename_i hl1 hh1
      exact .inl ⟨_,h.2.2.2.2,fun K' hk=>⟨h0,h1,h2,by first | exact⟨h.1,h.2.1,h.2.2.1,h.2.2.2.1,hk⟩ | (simp only[hl1,hh1];exact⟨h.1,h.2.1,h.2.2.1,h.2.2.2.1,hk⟩)⟩⟩
     ·exact h.elim
    ·exact h.elim
   ·split at h
    ·rename_i hl1 hh1
     exact .inl ⟨_,h.2.2,fun K' hk=>⟨h0,by first | exact⟨h.1,h.2.1,hk⟩ | (simp only[hl1,hh1];exact⟨h.1,h.2.1,hk⟩)⟩⟩
    ·rename_i hl1 hh1
     exact .inl ⟨_,h.2.2.2.2,fun K' hk=>⟨h0,by first | exact⟨h.1,h.2.1,h.2.2.1,h.2.2.2.1,hk⟩ | (simp only[hl1,hh1];exact⟨h.1,h.2.1,h.2.2.1,h.2.2.2.1,hk⟩)⟩⟩
    ·exact h.elim
   ·split at h
    ·rename_i hl1 hh1
     exact .inl ⟨_,h.2.2,fun K' hk=>⟨h0,by first | exact⟨h.1,h.2.1,hk⟩ | (simp only[hl1,hh1];exact⟨h.1,h.2.1,hk⟩)⟩⟩
    ·rename_i hl1 hh1
     exact .inl ⟨_,h.2.2.2.2,fun K' hk=>⟨h0,by first | exact⟨h.1,h.2.1,h.2.2.1,h.2.2.2.1,hk⟩ | (simp only[hl1,hh1];exact⟨h.1,h.2.1,h.2.2.1,h.2.2.2.1,hk⟩)⟩⟩
    ·exact h.elim
   ·exact h.elim
  ·split at h
   ·obtain⟨h1,h2,h3,h4,h5⟩:=h
    exact .inl ⟨_,h5,fun K' hk=>⟨h1,h2,h3,h4,hk⟩⟩
   ·exact h.elim
theorem oW (T:TypeId) (x i:Ac) (ok:Bool) {H H':List Ar} (hH:∀ r∈rid x,H'[r]? =H[r]?):(K:Ac→Prop)→Qy P T x i ok H K→(∃ v,K v∧∀ K',K' v→Qy P T x i ok H' K')∨∀ K',Qy P T x i ok H K':=by
  intro K h
  unfold Qy at *
  rw[oX hH,vW hH]
  split at h
  ·obtain⟨h0,h⟩:=h
   split at h
   ·rename_i es hes
    obtain⟨v,b,hk,hK⟩:=vZ h
    exact .inl ⟨_,hk,fun K' hk'=>⟨h0,hK _ hk'⟩⟩
   ·exact h.elim
  ·exact h.elim
def rL (op:Op) (e:Operand→Ac) (H:List Ar) (id:Nat) (T T':(Ac→Eff→Prop)→Prop):Prop:=
  ∀ K,T K→(∃ v ef,K v ef∧pD op e H id ef∧∀ K',K' v ef→T' K')∨∀ K',T K'
theorem rL.quiet {op:Op} {e:Operand→Ac} {H:List Ar} {id:Nat} {T T':(Ac→Prop)→Prop} (h:jK T T'):rL op e H id (fun K=>T (Ih K)) (fun K=>T' (Ih K)):=by
  intro K hT
  rcases h _ hT with⟨v,hk,hK⟩ | hK
  ·exact .inl ⟨v,.none,hk,trivial,fun K' hk'=>hK _ hk'⟩
  ·exact .inr fun K'=>hK _
theorem rC (T:TypeId) (a x:Operand) (e:Operand→Ac) (id:Nat) {H H':List Ar} (hH:∀ r∈rid (e a),H'[r]? =H[r]?) :
    rL (.store T a x) e H id (fun K=>Xn P T (e a) (e x) H K) (fun K=>Xn P T (e a) (e x) H' K):=by
  intro K h
  simp only[Xn]at *
  split at h
  ·rename_i vs hvs
   obtain⟨h1,h2,h3,h⟩:=h
   split at h
   ·rename_i r k hp
    have hH':=hH r (by simp[rid,hp])
    split at h
    ·rename_i cs hr
     refine .inl ⟨_,_,h.2,⟨rfl,by simp[touch,rid,hp],_,hr,by simp⟩,fun K' hk=>⟨h1,h2,h3,?_⟩⟩
     first | simp only[hp,hH',hr] | simp only[hH',hr] | skip
     exact⟨h.1,hk⟩
    ·exact h.elim
   ·rename_i r v i k hp
    have hH':=hH r (by simp[rid,hp])
    split at h
    ·rename_i v' sz xs hr
     obtain⟨g1,g2,g3,g4⟩:=h
     rcases oC g4 with⟨y,hy,hK⟩ | hK
     ·refine .inl ⟨_,_,hy,⟨rfl,by simp[touch,rid,hp],_,hr,by simp⟩,fun K' hk=>⟨h1,h2,h3,?_⟩⟩
      first | simp only[hp,hH',hr] | simp only[hH',hr] | skip
      exact⟨g1,g2,g3,hK _ hk⟩
     ·refine .inr fun K'=>⟨h1,h2,h3,?_⟩
      first | simp only[hp,hr] | simp only[hr] | skip
      exact⟨g1,g2,g3,hK _⟩
    ·exact h.elim
   ·exact h.elim
  ·exact h.elim
theorem Xp {op:Op} (T:TypeId) (x i v:Ac) (e:Operand→Ac) (id:Nat) {H H':List Ar} (hop:qA op=true) (ht:∀ r∈rid x,r∈touch op e) (hH:∀ r∈rid x,H'[r]? =H[r]?) :
    rL op e H id (fun K=>Gx P T x i v H K) (fun K=>Gx P T x i v H' K):=by
  intro K h
  simp only[Gx]at *
  split at h
  ·rename_i r hk0
   have hH':=hH r (by simp[rid])
   split at h
   ·rename_i es hr
    refine .inl ⟨_,_,h.2,⟨hop,ht r (by simp[rid]),_,hr,by simp⟩,fun K' hk=>?_⟩
    first | exact⟨h.1,hk⟩ | (simp only[hH',hr];exact⟨h.1,hk⟩) | (simp only[hH',hr,hk0];exact⟨h.1,hk⟩)
   ·rename_i es hr
    refine .inl ⟨_,_,h,⟨hop,ht r (by simp[rid]),_,hr,by simp⟩,fun K' hk=>?_⟩
    first | exact hk | (simp only[hH',hr];exact hk) | (simp only[hH',hr,hk0];exact hk)
   ·exact h.elim
  ·exact h.elim
theorem oY {op:Op} (T:TypeId) (x i:Ac) (e:Operand→Ac) (id:Nat) {H H':List Ar} (hop:qA op=true) (ht:∀ r∈rid x,r∈touch op e) (hH:∀ r∈rid x,H'[r]? =H[r]?) :
    rL op e H id (fun K=>S3 P T x i H K) (fun K=>S3 P T x i H' K):=by
  intro K h
  simp only[S3]at *
  split at h
  ·rename_i r hk0
   have hH':=hH r (by simp[rid])
   split at h
   ·rename_i es hr
    refine .inl ⟨_,_,h,⟨hop,ht r (by simp[rid]),_,hr,by simp⟩,fun K' hk=>?_⟩
    first | exact hk | (simp only[hH',hr];exact hk) | (simp only[hH',hr,hk0];exact hk)
   ·exact h.elim
  ·exact h.elim
theorem pA {op:Op} (T:TypeId) (s x:Ac) (e:Operand→Ac) (id:Nat) {H H':List Ar} (hn:F2 op=true) (hop:qA op=true) (ht:∀ r∈rid s,r∈touch op e)
    (hs:∀ r∈rid s,H'[r]? =H[r]?) (hx:∀ r∈rid x,H'[r]? =H[r]?) :
    rL op e H id (fun K=>S4 P T s x H id K) (fun K=>S4 P T s x H' id K):=by
  intro K h
  simp only[S4,uT hx]at *
  split at h
  ·rename_i el hel
   obtain⟨h1,h2,h3,h⟩:=h
   split at h
   ·rename_i szx ys hy
    obtain⟨h4,h⟩:=h
    split at h
    ·exact .inl ⟨_,_,h.2.2,⟨hn,rfl⟩,fun K' hk=>by first | exact⟨h1,h2,h3,h4,h.1,h.2.1,hk⟩ | (simp only[hy];exact⟨h1,h2,h3,h4,h.1,h.2.1,hk⟩) | (simp only[hel,hy];exact⟨h1,h2,h3,h4,h.1,h.2.1,hk⟩)⟩
    ·exact .inl ⟨_,_,h.2.2,⟨hn,rfl⟩,fun K' hk=>by first | exact⟨h1,h2,h3,h4,h.1,h.2.1,hk⟩ | (simp only[hy];exact⟨h1,h2,h3,h4,h.1,h.2.1,hk⟩) | (simp only[hel,hy];exact⟨h1,h2,h3,h4,h.1,h.2.1,hk⟩)⟩
    ·rename_i r v lo len
     have hH':=hs r (by simp[rid])
     split at h
     ·rename_i v' sz xs hr
      refine .inl ⟨_,_,h.2.2.2.2,⟨hop,ht r (by simp[rid]),_,hr,by simp⟩,fun K' hk=>?_⟩
      first | simp only[hy,hH',hr] | simp only[hH',hr] | simp only[hel,hy,hH',hr]
      exact⟨h1,h2,h3,h4,h.1,h.2.1,h.2.2.1,h.2.2.2.1,hk⟩
     ·exact h.elim
    ·exact h.elim
   ·exact h.elim
  ·exact h.elim
theorem xF (x y:Ac):jK (rE x y) (rE x y):=by
  intro K h
  unfold rE at *
  split at h
  ·exact .inl ⟨_,h.2,fun _ hk=>⟨h.1,hk⟩⟩
  ·exact h.elim
theorem xG (x y:Ac):jK (rF x y) (rF x y):=by
  intro K h
  unfold rF at *
  split at h
  ·exact .inl ⟨_,h.2,fun _ hk=>⟨h.1,hk⟩⟩
  ·exact h.elim
theorem T9 {v:Ac} {r:Nat} (h:r∈rid v):r∈xR v:=by
  cases v<;>first | exact h | simp[rid]at h
theorem oI {α:Type} {F:List Ar→(α→Prop)→Prop} {E:α→Prop} {S:List Nat} {H:List Ar}
    (hd:∀ H':List Ar,(∀ r∈S,H'[r]? =H[r]?)→∀ K,F H K→(∃ v,K v∧E v∧∀ K':α→Prop,K' v→F H' K')∨∀ K',F H K') {K:α→Prop} (h:F H K) :
    (∃ v,K v∧E v∧∀ H':List Ar,(∀ r∈S,H'[r]? =H[r]?)→∀ K':α→Prop,K' v→F H' K')∨∀ K',F H K':=by
  by_cases hv:∀ K',F H K'
  ·exact .inr hv
  ·rcases hd H (fun _ _=>rfl) K h with⟨v,h1,h2,h3⟩ | h2
   ·refine .inl ⟨v,h1,h2,fun H' hH' K' hk=>?_⟩
    rcases hd H' hH' (·=v) (h3 _ rfl)with ⟨v',rfl,_,h4⟩ | h4
    ·exact h4 _ hk
    ·exact absurd h4 hv
   ·exact absurd h2 hv
def xL (P:Program) (op:Op) (e:Operand→Ac) (H:List Ar) (id:Nat) (K:Ac→Eff→Prop):Prop:=
  (∃ v ef,K v ef∧pD op e H id ef∧∀ H':List Ar,(∀ r∈touch op e,H'[r]? =H[r]?)→∀ K':Ac→Eff→Prop,K' v ef→astep P op e H' id K')∨(∀ K':Ac→Eff→Prop,astep P op e H id K')
theorem xL.quiet {op:Op} {e:Operand→Ac} {H:List Ar} {id:Nat} {K:Ac→Eff→Prop} (F:List Ar→(Ac→Prop)→Prop)
    (hs:∀ (H':List Ar) (K':Ac→Eff→Prop),astep P op e H' id K'=F H' (Ih K'))
    (hd:∀ H':List Ar,(∀ r∈touch op e,H'[r]? =H[r]?)→∀ K,F H K→(∃ v,K v∧∀ K':Ac→Prop,K' v→F H' K')∨∀ K',F H K') (h:astep P op e H id K):xL P op e H id K:=by
  rw[hs]at h
  rcases oI (F:=F) (E:=fun _=>True) (S:=touch op e) (fun H' hH' K hK=>(hd H' hH' K hK).imp (fun⟨v,a,b⟩=>⟨v,a,trivial,b⟩) (fun h=>h)) h with⟨v,h1,_,h2⟩ | h2
  ·exact .inl ⟨v,.none,h1,trivial,fun H' hH' K' hk=>by rw[hs];exact h2 H' hH' _ hk⟩
  ·exact .inr fun K'=>by rw[hs];exact h2 _
theorem xL.eff {op:Op} {e:Operand→Ac} {H:List Ar} {id:Nat} {K:Ac→Eff→Prop} (F:List Ar→(Ac→Eff→Prop)→Prop)
    (hs:∀ (H':List Ar) (K':Ac→Eff→Prop),astep P op e H' id K'=F H' K')
    (hd:∀ H':List Ar,(∀ r∈touch op e,H'[r]? =H[r]?)→rL op e H id (F H) (F H')) (h:astep P op e H id K):xL P op e H id K:=by
  rw[hs]at h
  rcases oI (F:=fun H K=>F H fun v ef=>K (v,ef)) (E:=fun x=>pD op e H id x.2) (S:=touch op e) (K:=fun x=>K x.1 x.2) (fun H' hH' K hK=>(hd H' hH' (fun v ef=>K (v,ef)) hK).imp (fun⟨v,ef,a,b,c⟩=>⟨(v,ef),a,b,fun K' hk=>c _ hk⟩) (fun h K'=>h _)) h with⟨⟨v,ef⟩,h1,h2,h3⟩ | h2
  ·exact .inl ⟨v,ef,h1,h2,fun H' hH' K' hk=>by rw[hs];exact h3 H' hH' (fun x=>K' x.1 x.2) hk⟩
  ·exact .inr fun K'=>by rw[hs];exact h2 fun x=>K' x.1 x.2
theorem uL {op:Op} {e:Operand→Ac} {H:List Ar} {id:Nat} {K:Ac→Eff→Prop} (hd:drawable op=true) (h:astep P op e H id K):xL P op e H id K:=by
  cases op with
  | move x=>exact .inl ⟨_,_,h,trivial,fun _ _ _ hk=>hk⟩
  | assign x=>exact .inl ⟨_,_,h,trivial,fun _ _ _ hk=>hk⟩
  | pick c a b=>exact .quiet (fun _=>iK (e c) (e a) (e b)) (fun _ _=>rfl) (fun _ _=>uR _ _ _) h
  | binOp o T x y t=>exact .quiet (fun _=>oZ P o T (e x) (e y)) (fun _ _=>rfl) (fun _ _=>xI _ _ _ _) h
  | unOp o t x=>exact .quiet (fun _=>aUn o (e x)) (fun _ _=>rfl) (fun _ _=>yW _ _) h
  | convert s d x=>exact .quiet (fun _=>eF P s d (e x)) (fun _ _=>rfl) (fun _ _=>uU _ _ _) h
  | alloc T=>exact .inl ⟨_,_,h.2,⟨rfl,rfl⟩,fun _ _ _ hk=>⟨h.1,hk⟩⟩
  | box t x=>
    simp only[astep,uV]at h
    split at h
    ·rename_i cs hcs
     exact .inl ⟨_,_,h,⟨rfl,rfl⟩,fun _ _ K' hk=>by simp only[astep,uV,hcs];exact hk⟩
    ·exact h.elim
  | build T parts=>exact .quiet (fun _=>Zu P T (Kv e parts.toList)) (fun _ _=>rfl) (fun _ _=>rH _ _) h
  | buildSlice T n parts=>
    simp only[astep,Nk]at h
    obtain⟨h0,h⟩:=h
    split at h
    ·rename_i el hel
     obtain⟨h1,h2,h3,h4,h⟩:=h
     split at h
     ·rename_i cs hcs
      exact .inl ⟨_,_,h.2,⟨rfl,rfl⟩,fun _ _ K' hk=>by simp only[astep,Nk,hel,hcs];exact⟨h0,h1,h2,h3,h4,h.1,hk⟩⟩
     ·exact h.elim
    ·exact h.elim
  | load T a=>exact .quiet (fun H=>Xq P T (e a) H) (fun _ _=>rfl) (fun _ hH=>uS _ _ hH) h
  | store T a x=>exact .eff (fun H=>Xn P T (e a) (e x) H) (fun _ _=>rfl) (fun _ hH=>rC _ _ _ _ _ hH) h
  | fieldAddr T x f=>exact .quiet (fun _=>K3 P T (e x) f) (fun _ _=>rfl) (fun _ _=>iN _ _ _) h
  | field T x f=>exact .quiet (fun _=>Zs P T (e x) f) (fun _ _=>rfl) (fun _ _=>rG _ _ _) h
  | indexAddr T x i=>exact .quiet (fun H=>Ip P T (e x) (e i) H) (fun _ _=>rfl) (fun _ hH=>iM _ _ _ hH) h
  | extract t i=>
    simp only[astep]at h
    split at h
    ·rename_i vs hvs
     exact .inl ⟨_,_,h.2,trivial,fun _ _ K' hk=>by simp only[astep,hvs];exact⟨h.1,hk⟩⟩
    ·exact h.elim
  | slice T x lo hi mx=>exact .quiet (fun H=>Qj P T (e x) (lo.map e) (hi.map e) (mx.map e) H) (fun _ _=>rfl) (fun _ hH=>rD _ _ _ _ _ hH) h
  | makeSlice T l c=>
    simp only[astep,O8]at h
    split at h
    ·rename_i el _ _ _ _ hel hl hc
     obtain⟨h1,h2,h3,h4,h5,h6,h7,h8,h⟩:=h
     exact .inl ⟨_,_,h,⟨rfl,rfl⟩,fun _ _ K' hk=>by simp only[astep,O8,hel,hl,hc];exact⟨h1,h2,h3,h4,h5,h6,h7,h8,hk⟩⟩
    ·exact h.elim
  | makeMap T r=>
    cases r with
    | none=>exact .inl ⟨_,_,h,⟨rfl,rfl⟩,fun _ _ K' hk=>hk⟩
    | some r=>exact h.elim
  | lookup T x i ok=>exact .quiet (fun H=>Qy P T (e x) (e i) ok H) (fun _ _=>rfl) (fun _ hH=>oW _ _ _ _ hH) h
  | mapUpdate T m k x=>exact .eff (fun H=>Gx P T (e m) (e k) (e x) H) (fun _ _=>rfl) (fun _ hH=>Xp _ _ _ _ _ _ rfl (fun _ h=>h) hH) h
  | insert T m k x=>exact .eff (fun H=>Gx P T (e m) (e k) (e x) H) (fun _ _=>rfl) (fun _ hH=>Xp _ _ _ _ _ _ rfl (fun _ h=>h) hH) h
  | makeFunc f first caps=>
    cases f with
    | func f=>exact .inl ⟨_,_,h.2,trivial,fun _ _ K' hk=>⟨h.1,hk⟩⟩
    | _=>exact h.elim
  | call c=>
    obtain⟨callee,args,tys⟩:=c
    cases callee with
    | builtin b=>
      simp only[astep]at h
      unfold Gr at h
      split at h
      ·rename_i x T ha ht
       refine .quiet (fun H=>l7 P T x H) (fun H' K'=>by simp only[astep,Gr,ha,ht]) (fun H' hH=>xH _ _ fun r hr=>hH r ?_) (by simp only[astep,Gr,ha,ht];exact h)
       simp only[touch,ha,Y7,List.append_nil];exact T9 hr
      ·rename_i s x T T2 ha ht
       refine .eff (fun H K=>T=T2∧S4 P T s x H id K) (fun H' K'=>by simp only[astep,Gr,ha,ht]) (fun H' hH K hK=>?_) (by simp only[astep,Gr,ha,ht];exact h)
       rcases pA (P:=P) (op:=.call ⟨.builtin .append,args,tys⟩) T s x e id rfl rfl (fun r hr=>by simp only[touch,ha,Y7];exact List.mem_append_left _ (T9 hr))
         (fun r hr=>hH r (by simp only[touch,ha,Y7];exact List.mem_append_left _ (T9 hr))) (fun r hr=>hH r (by simp only[touch,ha,Y7];exact List.mem_append_right _ (List.mem_append_left _ (T9 hr)))) K hK.2 with⟨v,ef,h1,h2,h3⟩ | h1
       ·exact .inl ⟨v,ef,h1,h2,fun K' hk=>⟨hK.1,h3 K' hk⟩⟩
       ·exact .inr fun K'=>⟨hK.1,h1 K'⟩
      ·rename_i m k T _ ha ht
       exact .eff (fun H K=>S3 P T m k H K) (fun H' K'=>by simp only[astep,Gr,ha,ht])
         (fun H' hH=>oY (op:=.call ⟨.builtin .delete,args,tys⟩) T m k e id rfl (fun r hr=>by simp only[touch,ha,Y7];exact List.mem_append_left _ (T9 hr)) fun r hr=>hH r (by simp only[touch,ha,Y7];exact List.mem_append_left _ (T9 hr)))
         (by simp only[astep,Gr,ha,ht];exact h)
      ·rename_i x y ha
       exact .quiet (fun _=>rE x y) (fun H' K'=>by simp only[astep,Gr,ha]) (fun _ _=>xF _ _) (by simp only[astep,Gr,ha];exact h)
      ·rename_i x y ha
       exact .quiet (fun _=>rF x y) (fun H' K'=>by simp only[astep,Gr,ha]) (fun _ _=>xG _ _) (by simp only[astep,Gr,ha];exact h)
      ·exact h.elim
    | _=>exact h.elim
  | range _ _ | next _ _ | entry _=>simp[drawable]at hd
  | _=>exact h.elim
theorem U5 {e e':Operand→Ac}:∀ {l:List (Nat×Operand)},(∀ p∈l,e' p.2=e p.2)→Kv e' l=Kv e l
  | [],_=>rfl
  | p::r,h=>by rw[Kv,Kv,h p (List.mem_cons_self ..),U5 fun q hq=>h q (List.mem_cons_of_mem _ hq)]
theorem Va {e e':Operand→Ac} {l:List Operand} (h:∀ x∈l,e' x=e x):l.map e'=l.map e:=List.map_congr_left h
theorem Zd {e e':Operand→Ac} {o:Option Operand} (h:∀ x∈o,e' x=e x):o.map e'=o.map e:=by
  cases o with
  | none=>rfl
  | some x=>simp[h x rfl]
theorem eC {op:Op} {e e':Operand→Ac} {H:List Ar} {id:Nat} {K:Ac→Eff→Prop} (h:∀ x∈op.operands.toList,e' x=e x) (hd:drawable op=true):astep P op e' H id K=astep P op e H id K∧touch op e'=touch op e:=by
  cases op with
  | build T parts=>
    have:Kv e' parts.toList=Kv e parts.toList:=U5 fun p hp=>h _ (by simpa[Op.operands]using ⟨p.1,by simpa using hp⟩)
    exact⟨by simp only[astep,this],rfl⟩
  | buildSlice T n parts=>
    have:Kv e' parts.toList=Kv e parts.toList:=U5 fun p hp=>h _ (by simpa[Op.operands]using ⟨p.1,by simpa using hp⟩)
    exact⟨by simp only[astep,this],rfl⟩
  | slice T x lo hi mx=>
    have h1:=h x (by simp[Op.operands])
    have h2:lo.map e'=lo.map e:=Zd fun y hy=>h y (by simp[Op.operands];simp_all)
    have h3:hi.map e'=hi.map e:=Zd fun y hy=>h y (by simp[Op.operands];simp_all)
    have h4:mx.map e'=mx.map e:=Zd fun y hy=>h y (by simp[Op.operands];simp_all)
    exact⟨by simp only[astep,h1,h2,h3,h4],by simp only[touch,h1]⟩
  | makeFunc f first caps=>
    cases f with
    | func f=>
      refine⟨?_,rfl⟩
      simp only[astep,Va (e:=e) (e':=e') (l:=caps.toList) fun x hx=>h x (by simp[Op.operands];exact .inr (by simpa using hx))]
    | _=>exact ⟨rfl,rfl⟩
  | makeMap T r=>cases r<;>exact ⟨rfl,rfl⟩
  | call c=>
    obtain⟨callee,args,tys⟩:=c
    have h1:args.toList.map e'=args.toList.map e:=Va fun x hx=>h x (by simp[Op.operands,Call.operands];exact .inr (by simpa using hx))
    cases callee with
    | builtin b=>exact ⟨by simp only[astep,h1],by simp only[touch,h1]⟩
    | _=>exact ⟨rfl,by simp only[touch,h1]⟩
  | range _ _ | next _ _ | entry _=>simp[drawable]at hd
  | _=>first
    | exact⟨rfl,rfl⟩
    | (simp[Op.operands]at h;simp[astep,touch,h])
abbrev Log:=List (Nat×List Nat×Bool)
def j3 (i:Nat) (S:List Nat) (w:Bool):Log:=
  match S with
  | []=>[]
  | a::r=>[(i,a::r,w)]
def ents (i id:Nat) (op:Op) (e:Operand→Ac):Log:=j3 i (if F2 op then id::touch op e else touch op e) (F2 op||qA op)
def zG (P:Program) (fid:FuncId) (gs args:List Ac) (H:List Ar) (id:Nat) (r:Ac) (ef:Eff):Prop:=
  (ef= .none∧((Ad P fid gs (·=r)∧Gh (On H) args=some gs∧r.f2=true)∨(Ad P fid gs (·=r)∧args.all Ac.g2=true∧gs=args)∨(Bo P fid gs (·=r)∧Gh (On H) args=some gs)))∨
  (∃ sz xs,Db P fid gs sz xs∧r= .own id 0 0 xs.length∧ef= .new id (.row 0 sz xs)∧((args.all Ac.g2=true∧gs=args)∨(Gh (On H) args=some gs∧(xs.all fun x=>x.all Ac.f0)=true)))∨
  ∃ r0 o',ef= .set r0 o'∧r0∈Y7 args∧(∃ x,H[r0]? =some x∧x≠.resv)∧∀ (st:List Fr) (H':List Ar),H'.length=H.length→(∀ q∈Y7 args,H'[q]? =H[q]?)→
    An P (.func fid []) args st H' fun r' H''=>r'=r∧H''=H'.set r0 o'
def B7 (P:Program) (f:Ac) (args:List Ac) (H:List Ar) (id:Nat) (K:Ac→Eff→Prop):Prop:=
  ∃ fid gs r ef,f= .func fid []∧(∀ (args:Array Value) (w:World),(callFunc fid args).run P w= .ok (.enter fid args) w)∧zG P fid gs args H id r ef∧K r ef
def dop (P:Program) (op:Op) (e:Operand→Ac) (H:List Ar) (id:Nat) (K:Ac→Eff→Prop):Prop:=
  match Qi op with
  | some (f,args)=>B7 P (e f) (args.map e) H id K
  | none=>astep P op e H id K
abbrev DK:=Log→Ac→Eff→Prop
def drun (P:Program) (op:Op) (i id:Nat) (K:DK) (fr:Fr) (H:List Ar):Prop:=dop P op (ev fr) H id (K (ents i id op (ev fr)))
def dskip (K:DK) (_fr:Fr) (_H:List Ar):Prop:=K [] (.tuple []) .none
def dstep (P:Program) (all:List Oper) (o:Oper) (i id:Nat) (K:DK) (fr:Fr) (H:List Ar):Prop:=
  match o.guard with
  | none=>drun P o.op i id K fr H
  | some (j,want)=>match (all[j]?).bind (·.dst)with
    | some d=>Ff (get fr d) want (drun P o.op i id K) (dskip K) fr H
    | none=>dskip K fr H
def dafter (next:Log→Fr→List Ar→Prop) (log:Log) (fr:Fr) (dst:Option Tmp) (H:List Ar) (en:Log) (v:Ac) (ef:Eff):Prop:=
  next (en++log) (put fr dst v) (ef.app H)
def dlist (P:Program) (all:List Oper) (top:Nat) (K:Log→Fr→List Ar→Prop):List Oper→Nat→Nat→Log→Fr→List Ar→Prop
  | [],_,_,log,fr,H=>K log fr H
  | o::r,i,id,log,fr,H=>dstep P all o i (if F2 o.op then id else top) (dafter (dlist P all top K r (i+1) (if F2 o.op then id+1 else id)) log fr o.dst H) fr H
structure Tag where
  i:Nat
  id:Nat
  o:Oper
def dlt (P:Program) (all:List Oper) (K:Log→Fr→List Ar→Prop):List Tag→Log→Fr→List Ar→Prop
  | [],log,fr,H=>K log fr H
  | t::r,log,fr,H=>dstep P all t.o t.i t.id (dafter (dlt P all K r) log fr t.o.dst H) fr H
def tags (top:Nat):List Oper→Nat→Nat→List Tag
  | [],_,_=>[]
  | o::r,i,id=>⟨i,if F2 o.op then id else top,o⟩::tags top r (i+1) (if F2 o.op then id+1 else id)
def resvs:List Oper→List Ar
  | []=>[]
  | o::r=>if F2 o.op then .resv::resvs r else resvs r
def qH (o:Oper) (acc:List Nat):Nat:=o.after.toList.foldl (fun m e=>if Region.binds .any e then m|||(2 ^ e.on|||acc.getD e.on 0)else m) 0
def masks:List Oper→List Nat→List Nat
  | [],acc=>acc
  | o::r,acc=>masks r (acc++[qH o acc])
def bit (A:List Nat) (i j:Nat):Bool:=(A.getD i 0).testBit j
def disj (S T:List Nat):Bool:=S.all fun r=>!T.contains r
def Rr (A:List Nat) (log:Log):Bool:=log.all fun p=>log.all fun q=>p.1 ==q.1||bit A p.1 q.1||bit A q.1 p.1||!(p.2.2||q.2.2)||disj p.2.1 q.2.1
def Z9 (A:List Nat) (arr:Array Oper):List (Nat×Oper)→List Oper→Nat→Bool
  | _,[],_=>true
  | prev,o::r,i=>prev.all (fun p=>bit A i p.1||p.2.apart arr o)&&Z9 A arr ((i,o)::prev) r (i+1)
def X7:List Oper→Nat→Bool
  | [],_=>true
  | o::r,i=>o.after.toList.all (fun e=>!Region.binds .any e||Nat.blt e.on i)&&X7 r (i+1)
def wZ (n:Nat) (ops:List Oper):Bool:=
  aL n ops&&ops.all (fun o=>(Qi o.op).isSome||drawable o.op)&&X7 ops 0&&Z9 (masks ops []) ops.toArray [] ops 0
section
variable {P:Program}
theorem r9 {H H':List Ar} {v:Ac} (h:∀ r∈rid v,H'[r]? =H[r]?):W4 H' v=W4 H v:=by
  cases v<;>first | rfl | (simp only[W4,h _ (List.mem_singleton.2 rfl)])
theorem r7 {H H':List Ar}:∀ {l:List Ac},(∀ r∈xQ l,H'[r]? =H[r]?)→Gh (W4 H') l=Gh (W4 H) l
  | [],_=>rfl
  | v::l,h=>by
    rw[Gh,Gh,r9 fun r hr=>h r (List.mem_append_left _ hr),r7 fun r hr=>h r (List.mem_append_right _ hr)]
theorem yE {H H':List Ar} {v:Ac} (h:∀ r∈xR v,H'[r]? =H[r]?):On H' v=On H v:=by
  cases v with
  | agg cs=>simp only[On,r7 (H:=H) (H':=H') (l:=cs) h]
  | _=>
    simp only[On]
    refine r9 fun r hr=>h r ?_
    exact hr
theorem r8 {H H':List Ar}:∀ {l:List Ac},(∀ r∈Y7 l,H'[r]? =H[r]?)→Gh (On H') l=Gh (On H) l
  | [],_=>rfl
  | v::l,h=>by
    rw[Gh,Gh,yE fun r hr=>h r (List.mem_append_left _ hr),r8 fun r hr=>h r (List.mem_append_right _ hr)]
def rK (op:Op) (e:Operand→Ac) (H:List Ar) (id:Nat) (ef:Eff):Prop:=
  match ef with
  | .none=>True
  | .new j _=>F2 op=true∧j=id
  | .set r _=>(F2 op||qA op)=true∧r∈touch op e∧∃ x,H[r]? =some x∧x≠.resv
theorem pD.w {op:Op} {e:Operand→Ac} {H:List Ar} {id:Nat} {ef:Eff} (h:pD op e H id ef):rK op e H id ef:=by
  cases ef with
  | none=>trivial
  | new j x=>exact h
  | set r x=>exact ⟨by rw[h.1,Bool.or_true],h.2⟩
def dOK (op:Op):Prop:=(Qi op).isSome=true∨drawable op=true
theorem yF {op:Op} {e:Operand→Ac} {H:List Ar} {id:Nat} {K:Ac→Eff→Prop} (hd:dOK op) (h:dop P op e H id K) :
    (∃ v ef,K v ef∧rK op e H id ef∧∀ (H':List Ar) (e':Operand→Ac),H'.length=H.length→(∀ x∈op.operands.toList,e' x=e x)→(∀ r∈touch op e,H'[r]? =H[r]?)→∀ K':Ac→Eff→Prop,K' v ef→dop P op e' H' id K')∨
     (∀ K':Ac→Eff→Prop,dop P op e H id K'):=by
  unfold dop at h
  split at h
  ·rename_i f args hc
   obtain⟨zq,ts,rfl,rfl⟩:=Sy hc
   obtain⟨fid,gs,r,ef,h1,h2,h4,h5⟩:=h
   have hE:rK (.call {callee:=.value f,args:=zq,argTypes:=ts}) e H id ef:=by
     rcases h4 with⟨rfl,_⟩ | ⟨sz,xs,_,_,rfl,_⟩ | ⟨r0,o',rfl,h6,h7,_⟩
     ·trivial
     ·exact⟨rfl,rfl⟩
     ·exact⟨rfl,h6,h7⟩
   refine .inl ⟨r,ef,h5,hE,fun H' e' hlen he hH K' hk=>?_⟩
   have e1:e' f=e f:=he _ (by simp[Op.operands,Call.operands])
   have e2:zq.toList.map e'=zq.toList.map e:=Va fun x hx=>he x (by simp[Op.operands,Call.operands];exact .inr (by simpa using hx))
   simp only[dop,Qi]
   refine⟨fid,gs,r,ef,by rw[e1];exact h1,h2,?_,hk⟩
   rw[e2]
   have hfz:Gh (On H') (zq.toList.map e)=Gh (On H) (zq.toList.map e):=r8 (H:=H) (H':=H') hH
   unfold zG at *
   rw[hfz]
   rcases h4 with h4 | h4 | ⟨r0,o',h6,h7,h8,h9⟩
   ·exact .inl h4
   ·exact .inr (.inl h4)
   ·have hH:∀ q∈Y7 (zq.toList.map e),H'[q]? =H[q]?:=hH
    exact .inr (.inr ⟨r0,o',h6,h7,by rw[hH r0 h7];exact h8,fun st H2 hl2 ha2=>h9 st H2 (hl2.trans hlen) fun q hq=>(ha2 q hq).trans (hH q hq)⟩)
  ·rename_i hc
   have hd:drawable op=true:=hd.resolve_left (by rw[hc];simp)
   rcases uL hd h with⟨v,ef,h1,h2,h3⟩ | h1
   ·refine .inl ⟨v,ef,h1,h2.w,fun H' e' _ he hH K' hk=>?_⟩
    simp only[dop,hc]
    rw[(eC he hd).1]
    exact h3 H' hH K' hk
   ·exact .inr fun K'=>by simp only[dop,hc];exact h1 K'
def kU (i id:Nat) (o:Oper) (H:List Ar) (en:Log) (ef:Eff):Prop:=
  (∀ p∈en,p.1=i)∧match ef with
  | .none=>True
  | .new j _=>F2 o.op=true∧j=id∧∃ p∈en,p.2.2=true∧id∈p.2.1
  | .set r _=>(∃ p∈en,p.2.2=true∧r∈p.2.1)∧∃ x,H[r]? =some x∧x≠.resv
theorem tI {i:Nat} {S:List Nat} {w:Bool} {p:Nat×List Nat×Bool} (h:p∈j3 i S w):p=(i,S,w):=by
  unfold j3 at h
  split at h
  ·cases h
  ·exact List.mem_singleton.1 h
theorem gI {i:Nat} {S:List Nat} {w:Bool} {r:Nat} (h:r∈S):(i,S,w)∈j3 i S w:=by
  unfold j3
  split
  ·cases h
  ·exact List.mem_singleton.2 rfl
def Aa6 (P:Program) (all:List Oper) (o:Oper) (i id:Nat) (K:DK) (fr:Fr) (H:List Ar) (en:Log) (v:Ac) (ef:Eff):Prop:=
  K en v ef∧kU i id o H en ef∧∀ (fr':Fr) (H':List Ar),H'.length=H.length→(∀ t∈o.looksAt all.toArray,get fr' t=get fr t)→(∀ p∈en,∀ r∈p.2.1,H'[r]? =H[r]?)→
    ∀ K':DK,K' en v ef→dstep P all o i id K' fr' H'
theorem oD {o:Oper} {i id:Nat} {K:DK} {fr:Fr} {H:List Ar} (hd:dOK o.op) (h:drun P o.op i id K fr H) :
    (∃ en v ef,K en v ef∧kU i id o H en ef∧∀ (fr':Fr) (H':List Ar),H'.length=H.length→(∀ t,.tmp t∈o.op.operands.toList→get fr' t=get fr t)→(∀ p∈en,∀ r∈p.2.1,H'[r]? =H[r]?)→
     ∀ K':DK,K' en v ef→drun P o.op i id K' fr' H')∨∀ K':DK,drun P o.op i id K' fr H:=by
  unfold drun at h
  rcases yF hd h with⟨v,ef,h1,h2,h3⟩ | h1
  ·refine .inl ⟨ents i id o.op (ev fr),v,ef,h1,⟨fun p hp=>by rw[tI hp],?_⟩,fun fr' H' hlen hf hH K' hk=>?_⟩
   ·cases ef with
    | none=>trivial
    | new j x=>
      obtain⟨g1,rfl⟩:=h2
      exact⟨g1,rfl,_,gI (r:=j) (by rw[if_pos g1];exact List.mem_cons_self ..),by simp[g1],by simp[g1]⟩
    | set r x=>
      obtain⟨g1,g2,g3⟩:=h2
      have:r∈(if F2 o.op=true then id::touch o.op (ev fr)else touch o.op (ev fr)):=by split<;>first | exact List.mem_cons_of_mem _ g2 | exact g2
      exact⟨⟨_,gI this,g1,this⟩,g3⟩
   ·have he:∀ x∈o.op.operands.toList,ev fr' x=ev fr x:=by
      intro x hx
      cases x with
      | tmp t=>exact hf t hx
      | _=>rfl
    have ht:∀ r∈touch o.op (ev fr),H'[r]? =H[r]?:=by
      intro r hr
      have:r∈(if F2 o.op=true then id::touch o.op (ev fr)else touch o.op (ev fr)):=by split<;>first | exact List.mem_cons_of_mem _ hr | exact hr
      exact hH _ (gI this) r this
    have e2:touch o.op (ev fr')=touch o.op (ev fr):=by
      rcases hd with hd | hd
      ·cases hc:Qi o.op with
       | none=>rw[hc]at hd;cases hd
       | some fa=>
         obtain⟨zq,ts,ho, -⟩:=Sy (f:=fa.1) (args:=fa.2) hc
         rw[ho]at he ⊢
         simp only[touch]
         rw[Va fun x hx=>he x (by simp[Op.operands,Call.operands];exact .inr (by simpa using hx))]
      ·exact(eC (P:=P) (H:=H) (id:=id) (K:=fun _ _=>True) he hd).2
    unfold drun
    rw[show ents i id o.op (ev fr')=ents i id o.op (ev fr) by unfold ents;rw[e2]]
    exact h3 H' (ev fr') hlen he ht _ hk
  ·exact .inr fun K'=>h1 _
theorem kL {all:List Oper} {o:Oper} {i id:Nat} {K:DK} {fr:Fr} {H:List Ar} (hd:dOK o.op) (h:dstep P all o i id K fr H) :
    (∃ en v ef,Aa6 P all o i id K fr H en v ef)∨∀ K':DK,dstep P all o i id K' fr H:=by
  have hops:∀ {t},.tmp t∈o.op.operands.toList→t∈o.looksAt all.toArray:=by
    intro t ht
    unfold Oper.looksAt
    exact List.mem_append_left _ (List.mem_filterMap.2 ⟨_,ht,rfl⟩)
  unfold dstep at h
  cases hg:o.guard with
  | none=>
    simp only[hg]at h
    rcases oD hd h with⟨en,v,ef,h1,h2,h3⟩ | h1
    ·exact .inl ⟨en,v,ef,h1,h2,fun fr' H' hlen hf hH K' hk=>by simp only[dstep,hg];exact h3 fr' H' hlen (fun t ht=>hf t (hops ht)) hH K' hk⟩
    ·exact .inr fun K'=>by simp only[dstep,hg];exact h1 K'
  | some jw=>
    obtain⟨j,want⟩:=jw
    cases hdd:(all[j]?).bind (·.dst)with
    | none=>
      simp only[hg,hdd]at h
      exact .inl ⟨[],_,_,h,⟨(by simp),trivial⟩,fun fr' H' _ hf hH K' hk=>by simp only[dstep,hg,hdd];exact hk⟩
    | some d=>
      simp only[hg,hdd]at h
      have hdl:d∈o.looksAt all.toArray:=by
        unfold Oper.looksAt
        refine List.mem_append_right _ ?_
        simp[hg,hdd]
      have hs:∀ (fr':Fr) (H':List Ar) (K':DK),(∀ t∈o.looksAt all.toArray,get fr' t=get fr t)→Ff (get fr d) want (drun P o.op i id K') (dskip K') fr' H'→dstep P all o i id K' fr' H':=by
        intro fr' H' K' hf hh
        simp only[dstep,hg,hdd]
        rw[hf d hdl];exact hh
      unfold Ff at h
      split at h
      ·rename_i c hc
       by_cases hcw:c=want
       ·rcases oD hd (h.1 hcw)with ⟨en,v,ef,h1,h2,h3⟩ | h1
        ·exact .inl ⟨en,v,ef,h1,h2,fun fr' H' hlen hf hH K' hk=>hs fr' H' K' hf (by rw[hc];exact⟨fun _=>h3 fr' H' hlen (fun t ht=>hf t (hops ht)) hH K' hk,fun hn=>absurd hcw hn⟩)⟩
        ·exact .inr fun K'=>hs fr H K' (fun _ _=>rfl) (by rw[hc];exact⟨fun _=>h1 K',fun hn=>absurd hcw hn⟩)
       ·exact .inl ⟨[],_,_,h.2 hcw,⟨(by simp),trivial⟩,fun fr' H' _ hf hH K' hk=>hs fr' H' K' hf (by rw[hc];exact⟨fun hy=>absurd hy hcw,fun _=>hk⟩)⟩
      ·rename_i vs hc
       exact .inl ⟨[],_,_,h,⟨(by simp),trivial⟩,fun fr' H' _ hf hH K' hk=>hs fr' H' K' hf (by rw[hc];exact hk)⟩
      ·exact h.elim
end
end Go.Ab
namespace Go.Ab
open Go Go.RowKit
section
variable {P:Program}
theorem Fx.congr {W0:World} {A0:Nat→Prop} {ds:List Deferred} {n:Nat} {outs:List (Array Value)} {outer:List Fr} {fr fr':Fr} {H:List Ar} {a:Act} {w:World} (hf:∀ t,get fr' t=get fr t)
    (R:Fx W0 A0 ds n outs outer fr H a w):Fx W0 A0 ds n outs outer fr' H a w:=by
  obtain⟨C,h1,h2,h3,h4,h5⟩:=R.ex
  exact⟨C,h1,h2,h3,fun t=>by rw[hf];exact h4 t,h5⟩
theorem aF (fr:Fr) (d:Option Tmp) (v:Ac) (t:Nat):get (put fr d v) t=if d=some t then v else get fr t:=by
  cases d with
  | none=>simp[put]
  | some k=>simp[put,get]
structure Good (W0:World) (A0:Nat→Prop) (ds:List Deferred) (n:Nat) (outs:List (Array Value)) (outer:List Fr) (K:DK) (fr:Fr) (dst:Option Tmp) (H:List Ar) (a':Act) (w':World):Prop where
  ex:∃ en v ef,K en v ef∧Fx W0 A0 ds n outs outer (put fr dst v) (ef.app H) a' w'
def Zv (P:Program) (all:List Oper) (o:Oper) (a:Act) (w:World) (G:Act→World→Prop):Prop:=
  (Region.wanted o (yielded all.toArray a.tmps)=true∧
    ((∃ v' w',(execOp a.eval o).run P w= .ok (.value v') w'∧G (a.put o.dst v') w')∨(∃ w',(execOp a.eval o).run P w= .ok .skip w'∧G (a.put o.dst undef) w')∨
      (∃ f args,(execOp a.eval o).run P w= .ok (.enter f args) w∧Calls P f args w fun e w'=>∃ v',e= .returned v'∧G (a.put o.dst v') w')))∨
  (Region.wanted o (yielded all.toArray a.tmps)=false∧G (a.put o.dst undef) w)
theorem Zv.exists {all:List Oper} {o:Oper} {a:Act} {w:World} {G:Act→World→Prop} (h:Zv P all o a w G):∃ a' w',G a' w':=by
  rcases h with⟨_,h⟩ | ⟨_,h⟩
  ·rcases h with⟨v,w',_,h⟩ | ⟨w',_,h⟩ | ⟨f,args,_,h⟩
   ·exact⟨_,_,h⟩
   ·exact⟨_,_,h⟩
   ·obtain⟨e,w',fr,⟨v',_,h⟩,_⟩:=h []
    exact⟨_,_,h⟩
  ·exact⟨_,_,h⟩
theorem Zv.wpOp {md:Option Nat} {all:List Oper} {i:Nat} {o:Oper} {a:Act} {w:World} {G:Act→World→Prop} {Q:Exit→Act→World→Prop} {K:Act→World→Prop} (hi:all[i]? =some o) (h:Zv P all o a w G) (hK:∀ a' w',G a' w'→K a' w') (nd:∀ c,o.op≠.defer c) :
    wpOpIn (fence md) 5 P all.toArray Q i K a w:=by
  unfold Go.wpOpIn
  have hi':all.toArray[i]? =some o:=by simpa using hi
  rw[hi']
  simp only
  rcases h with⟨hw,h⟩ | ⟨hw,h⟩
  ·rw[if_pos hw]
   unfold Oper.wpIn
   refine⟨fun _ _=>trivial,?_⟩
   rw[Oper.semAt_eq _ _ _ nd]
   rcases h with⟨v,w',h1,h⟩ | ⟨w',h1,h⟩ | ⟨f,args,h1,h⟩
   ·rw[h1];exact hK _ _ h
   ·rw[h1];exact hK _ _ h
   ·rw[h1,Oper.uponIn_enter]
    exact⟨Sx,W8 (h.mono fun e w' ⟨v',he,hg⟩=>by subst he;exact hK _ _ hg)⟩
  ·rw[if_neg (by rw[hw];simp)]
   exact⟨fun _ _=>trivial,hK _ _ h⟩
theorem X8 {W0:World} {A0:Nat→Prop} {ds:List Deferred} {n:Nat} {outs:List (Array Value)} {outer:List Fr} {all:List Oper} {o:Oper} {i id:Nat} {K:DK} {fr:Fr} {H:List Ar} {a:Act} {w:World}
    (hd:∀ k,o.dst=some k→k<n) (hid:Oj H id) (R:Fx W0 A0 ds n outs outer fr H a w) (h:dstep P all o i id K fr H) :
    Zv P all o a w (Good W0 A0 ds n outs outer K fr o.dst H):=by
  obtain⟨C,rfl,rfl,I,hF,hO,hn,hdf⟩:=R.ex
  have hlt:∀ k,o.dst=some k→k<a.tmps.size:=by intro k hk;rw[hn];exact hd k hk
  have srep:∀ (C':Ctx) (w':World) (v:Value) (r:Ac),C'.A0=C.A0→Inv W0 C' w'→Sa C' w' a.tmps fr→Ej C' w' outs outer→Bj C' w' v r→Fx W0 C.A0 ds n outs outer (put fr o.dst r) C'.H (a.put o.dst v) w':=
    fun C' w' v r e I' hF' hO' hv=>⟨C',rfl,e,I',hF'.put hv o.dst hlt,hO',by rw[fZ,hn],by rw[put_defers,hdf]⟩
  have skip:dskip K fr C.H→Good W0 C.A0 ds n outs outer K fr o.dst C.H (a.put o.dst undef) w:=
    fun h=>⟨[],.tuple [],.none,h,srep C w undef _ rfl I hF hO (T4 C w)⟩
  have run:drun P o.op i id K fr C.H→(∃ v' w',(execOp a.eval o).run P w= .ok (.value v') w'∧Good W0 C.A0 ds n outs outer K fr o.dst C.H (a.put o.dst v') w')∨(∃ w',(execOp a.eval o).run P w= .ok .skip w'∧Good W0 C.A0 ds n outs outer K fr o.dst C.H (a.put o.dst undef) w')∨
   (∃ f args,(execOp a.eval o).run P w= .ok (.enter f args) w∧Calls P f args w fun e w'=>∃ v',e= .returned v'∧Good W0 C.A0 ds n outs outer K fr o.dst C.H (a.put o.dst v') w'):=by
    intro h
    unfold drun dop at h
    split at h
    ·rename_i f args hc
     obtain⟨zq,ts,ho,rfl⟩:=Sy hc
     obtain⟨fid,gs,r,ef,g1,g2,g4,g5⟩:=h
     have hcall:An P (ev fr f) (zq.toList.map (ev fr)) (fr::outer) C.H fun r' H'=>r'=r∧H'=ef.app C.H:=by
       rw[g1]
       rcases g4 with⟨rfl,⟨g3,g4⟩ | ⟨g3,g4⟩ | ⟨g3,g4⟩⟩ | ⟨sz,xs,g3,rfl,rfl,g4⟩ | ⟨r0,o',rfl,_,_,g4⟩
       ·exact An.snap g2 g3 g4.1 (fun r' hr=>hr ▸ g4.2) fun r' hr=>⟨hr,rfl⟩
       ·rw[g4.2]at g3;exact An.pure g2 g3 g4.1 fun r' hr=>⟨hr,rfl⟩
       ·exact An.jQ g2 g3 g4 fun r' hr=>⟨hr,rfl⟩
       ·exact An.rowAt g2 g3 g4 id hid ⟨rfl,rfl⟩
       ·exact g4 _ _ rfl fun _ _=>rfl
     obtain⟨fid',caps,h1,h2,h3⟩:=Or.resolve_right (hcall W0 C w (a.tmps::outs) (a.eval f) (zq.toList.map a.eval) I rfl (hO.cons hF) (Qh hF f) (by simp) (fun i v x hv hx=>by
       simp only[List.getElem?_map]at hv hx
       cases hy:zq.toList[i]? with
       | none=>simp[hy]at hv
       | some y=>
         simp only[hy,Option.map_some,Option.some.injEq]at hv hx
         subst hv hx;exact Qh hF y)) (by
       rintro⟨l,rec,h1,_⟩
       have hfv:=Qh hF f
       rw[g1,h1]at hfv
       cases hfv)
     have hrun:(execOp a.eval o).run P w= .ok (.enter fid' ((zq.toList.map a.eval).toArray++caps)) w:=by
       unfold execOp
       rw[ho]
       simp only[resolve,Deferred.ofValue,h1,invoke,Sem.run_bind,Sem.run_pure,Result.andThen_ok]
       have e1:(#[]++Array.map a.eval zq++caps:Array Value)=(zq.toList.map a.eval).toArray++caps:=by
         apply Array.ext';simp
       rw[e1,h2]
     refine .inr (.inr ⟨_,_,hrun,h3.mono fun e w' ⟨v,r',C',he,⟨hr,hH⟩,hA,hv,I',hO'⟩=>⟨v,he,?_⟩⟩)
     subst hr
     exact⟨_,r',ef,g5,hH ▸ srep C' w' v r' hA I' hO'.head hO'.tail hv⟩
    ·obtain⟨r,w',C',ef,hres,hk,hH,I',m⟩:=(eB (P:=P) I hid (Qh hF) h).ex
     rcases hres with⟨v,hrun,hv⟩ | ⟨hrun,rfl⟩
     ·exact .inl ⟨v,w',hrun,⟨_,r,ef,hk,hH ▸ srep C' w' v r m.A0 I' (hF.mono m) (hO.mono m) hv⟩⟩
     ·exact .inr (.inl ⟨w',hrun,⟨_,_,ef,hk,hH ▸ srep C' w' undef _ m.A0 I' (hF.mono m) (hO.mono m) (T4 C' w')⟩⟩)
  unfold dstep at h
  unfold Zv
  cases hg:o.guard with
  | none=>
    simp only[hg]at h
    exact .inl ⟨by simp[Region.wanted,hg],run h⟩
  | some jw=>
    obtain⟨j,want⟩:=jw
    have hy:∀ d,(all[j]?).bind (·.dst)=some d→yielded all.toArray a.tmps j=match a.tmps[d]? with | some (.bool b)=>some b | _=>none:=by
      intro d hd
      unfold yielded
      simp only[List.getElem?_toArray,hd,Option.bind_some]
      rfl
    cases hdd:(all[j]?).bind (·.dst)with
    | some d=>
      simp only[hg,hdd]at h
      have hv:=hF d
      unfold Ff at h
      split at h
      ·rename_i c hc
       rw[hc]at hv
       have hva:a.tmps.getD d undef= .bool c:=by cases hv':a.tmps.getD d undef<;>rw[hv']at hv<;>cases hv;rfl
       have hsome:a.tmps[d]? =some (.bool c):=by
         rw[Array.getD_eq_getD_getElem?]at hva
         cases ht:a.tmps[d]? with
         | none=>rw[ht]at hva;cases hva
         | some u=>rw[ht]at hva;simp at hva;rw[hva]
       have hw:Region.wanted o (yielded all.toArray a.tmps)=decide (c=want):=by
         simp only[Region.wanted,hg,hy d hdd,hsome]
         cases c<;>cases want<;>rfl
       by_cases hcw:c=want
       ·exact .inl ⟨by rw[hw];simpa using hcw,run (h.1 hcw)⟩
       ·exact .inr ⟨by rw[hw];simpa using hcw,skip (h.2 hcw)⟩
      ·rename_i vs hc
       rw[hc]at hv
       have hw:Region.wanted o (yielded all.toArray a.tmps)=false:=by
         simp only[Region.wanted,hg,hy d hdd]
         cases ht:a.tmps[d]? with
         | none=>rfl
         | some u=>
           have:a.tmps.getD d undef=u:=by rw[Array.getD_eq_getD_getElem?,ht];rfl
           rw[this]at hv
           cases hv;rfl
       exact .inr ⟨hw,skip h⟩
      ·exact h.elim
    | none=>
      simp only[hg,hdd]at h
      have hw:Region.wanted o (yielded all.toArray a.tmps)=false:=by
        simp only[Region.wanted,hg]
        unfold yielded
        simp[hdd]
      exact .inr ⟨hw,skip h⟩
theorem sI {i id:Nat} {o:Oper} {H:List Ar} {en:Log} {ef:Eff} (hl:kU i id o H en ef) (hid:F2 o.op=true→H[id]? =some .resv):(ef.app H).length=H.length:=by
  cases ef with
  | none=>rfl
  | new j x=>
    obtain⟨_,h1,h2,_⟩:=hl
    subst h2
    have:=(List.getElem?_eq_some_iff.1 (hid h1)).1
    simp only[Eff.app,Gq]
    rw[if_neg (by omega),List.length_set]
  | set r x=>simp[Eff.app]
theorem l4 {i id:Nat} {o:Oper} {H:List Ar} {en:Log} {ef:Eff} (hl:kU i id o H en ef) (hid:F2 o.op=true→H[id]? =some .resv) :
    (ef= .none)∨∃ l x,(∃ p∈en,p.2.2=true∧l∈p.2.1)∧(∀ H2:List Ar,H2.length=H.length→ef.app H2=H2.set l x)∧((F2 o.op=true∧l=id)∨∃ y,H[l]? =some y∧y≠.resv):=by
  cases ef with
  | none=>exact .inl rfl
  | new j x=>
    obtain⟨_,h1,rfl,h3⟩:=hl
    have:=(List.getElem?_eq_some_iff.1 (hid h1)).1
    refine .inr ⟨j,x,h3,fun H2 h2=>?_,.inl ⟨h1,rfl⟩⟩
    simp only[Eff.app,Gq]
    rw[if_neg (by omega)]
  | set r x=>
    obtain⟨_,h1,h2⟩:=hl
    exact .inr ⟨r,x,h1,fun H2 _=>rfl,.inr h2⟩
def Aa5 (s t:Tag):Prop:=F2 s.o.op=true→F2 t.o.op=true→s.id≠t.id
structure Ids (L:List Tag) (H:List Ar):Prop where
  new:∀ t∈L,F2 t.o.op=true→H[t.id]? =some .resv
  old:∀ t∈L,F2 t.o.op=false→t.id=H.length
  dst:L.Pairwise Aa5
theorem Ids.free {L:List Tag} {H:List Ar} (h:Ids L H) {t:Tag} (ht:t∈L):Oj H t.id:=by
  cases hn:F2 t.o.op with
  | true=>exact .inr (h.new t ht hn)
  | false=>exact .inl (h.old t ht hn)
theorem Ids.step {L1 L2:List Tag} {t:Tag} {H:List Ar} (h:Ids (L1++t::L2) H) {en:Log} {ef:Eff} (hl:kU t.i t.id t.o H en ef):Ids (L1++L2) (ef.app H):=by
  have htm:t∈L1++t::L2:=by simp
  have hlen:=sI hl (h.new t htm)
  have hD:∀ s∈L1++L2,Aa5 s t:=by
    have hp:=h.dst
    rw[List.pairwise_append]at hp
    obtain⟨_,hp2,hp3⟩:=hp
    intro s hs
    rcases List.mem_append.1 hs with hs | hs
    ·exact hp3 s hs t (List.mem_cons_self ..)
    ·intro a b e
     exact(List.pairwise_cons.1 hp2).1 s hs b a e.symm
  have hsub:∀ s∈L1++L2,s∈L1++t::L2:=by
    intro s hs
    rcases List.mem_append.1 hs with hs | hs
    ·exact List.mem_append_left _ hs
    ·exact List.mem_append_right _ (List.mem_cons_of_mem _ hs)
  refine⟨fun s hs hn=>?_,fun s hs hn=>by rw[hlen];exact h.old s (hsub s hs) hn,?_⟩
  ·have hr:=h.new s (hsub s hs) hn
   rcases l4 hl (h.new t htm)with rfl | ⟨l,x,_,h2,h3⟩
   ·exact hr
   ·rw[h2 H rfl]
    have hne:l≠s.id:=by
      rcases h3 with⟨g1,rfl⟩ | ⟨y,g1,g2⟩
      ·exact fun e=>hD s hs hn g1 e.symm
      ·rintro rfl
       rw[hr,Option.some.injEq]at g1
       exact g2 g1.symm
    rw[List.getElem?_set_ne hne];exact hr
  ·have hp:=h.dst
   rw[List.pairwise_append]at hp ⊢
   exact⟨hp.1,(List.pairwise_cons.1 hp.2.1).2,fun a ha b hb=>hp.2.2 a ha b (List.mem_cons_of_mem _ hb)⟩
variable {all:List Oper} {K:Log→Fr→List Ar→Prop}
theorem kM (hK:∀ log log' fr fr' H,(∀ t,get fr' t=get fr t)→(∀ p,p∈log↔p∈log')→K log fr H→K log' fr' H):∀ (L:List Tag) (log log':Log) (fr fr':Fr) (H:List Ar),
    (∀ t∈L,dOK t.o.op)→(∀ t,get fr' t=get fr t)→(∀ p,p∈log↔p∈log')→dlt P all K L log fr H→dlt P all K L log' fr' H
  | [],log,log',fr,fr',H,_,hf,hl,h=>hK _ _ _ _ _ hf hl h
  | t::L,log,log',fr,fr',H,hd,hf,hl,h=>by
    have ih:=kM hK L
    unfold dlt at h ⊢
    have key:∀ K1 K2:DK,(∀ en v ef,K1 en v ef→K2 en v ef)→dstep P all t.o t.i t.id K1 fr H→dstep P all t.o t.i t.id K2 fr' H:=by
      intro K1 K2 hk hs
      have e1:dstep P all t.o t.i t.id K2 fr' H=dstep P all t.o t.i t.id K2 fr H:=by
        have hg:get fr'=get fr:=funext hf
        have he:ev fr'=ev fr:=by funext x;cases x<;>simp[ev,hf]
        simp only[dstep,drun,dskip,Ff,hg,he]
      rw[e1]
      rcases kL (hd t (List.mem_cons_self ..)) hs with⟨en,v,ef,h1,h2,h3⟩ | h1
      ·exact h3 fr H rfl (fun _ _=>rfl) (fun _ _ _ _=>rfl) K2 (hk _ _ _ h1)
      ·exact h1 K2
    refine key _ _ (fun en v ef hk=>?_) h
    refine ih _ _ _ _ _ (fun t ht=>hd t (List.mem_cons_of_mem _ ht)) (fun x=>?_) (fun p=>?_) hk
    ·rw[aF,aF,hf]
    ·rw[List.mem_append,List.mem_append,hl]
variable {W0:World} {A0:Nat→Prop} {ds:List Deferred} {n:Nat} {outs:List (Array Value)} {outer:List Fr}
theorem X9 {t:Tag} {L1 L2:List Tag} {K1:DK} {fr:Fr} {H:List Ar} {a:Act} {w:World} (hd:dOK t.o.op) (hn:∀ k,t.o.dst=some k→k<n) (hI:Ids (L1++t::L2) H) (R:Fx W0 A0 ds n outs outer fr H a w)
    (h:dstep P all t.o t.i t.id K1 fr H):∃ en v ef,Aa6 P all t.o t.i t.id K1 fr H en v ef∧∃ a' w',Fx W0 A0 ds n outs outer (put fr t.o.dst v) (ef.app H) a' w':=by
  have hid:=hI.free (t:=t) (by simp)
  rcases kL hd h with⟨en,v,ef,h1⟩ | h1
  ·have h2:=h1.2.2 fr H rfl (fun _ _=>rfl) (fun _ _ _ _=>rfl) (fun en' v' ef'=>en'=en∧v'=v∧ef'=ef) ⟨rfl,rfl,rfl⟩
   obtain⟨a',w',⟨⟨_,_,_,⟨rfl,rfl,rfl⟩,R'⟩⟩⟩:=(X8 hn hid R h2).exists
   exact⟨_,_,_,h1,a',w',R'⟩
  ·obtain⟨a',w',⟨⟨_,_,_,hf,_⟩⟩⟩:=(X8 hn hid R (h1 fun _ _ _=>False)).exists
   exact hf.elim
theorem sC:∀ (L:List Tag) (log:Log) (fr:Fr) (H:List Ar) (a:Act) (w:World),(∀ t∈L,dOK t.o.op)→(∀ t∈L,∀ k,t.o.dst=some k→k<n)→Ids L H→Fx W0 A0 ds n outs outer fr H a w→
    dlt P all K L log fr H→∃ log' fr' H',K log' fr' H'∧∀ p∈log,p∈log'
  | [],log,fr,H,_,_,_,_,_,_,h=>⟨log,fr,H,h,fun _ h=>h⟩
  | t::L,log,fr,H,a,w,hd,hn,hI,R,h=>by
    unfold dlt at h
    obtain⟨en,v,ef,⟨h1,h2,_⟩,a',w',R'⟩:=X9 (L1:=[]) (hd t (List.mem_cons_self ..)) (hn t (List.mem_cons_self ..)) hI R h
    obtain⟨log',fr',H',g1,g2⟩:=sC L _ _ _ a' w' (fun t ht=>hd t (List.mem_cons_of_mem _ ht)) (fun t ht=>hn t (List.mem_cons_of_mem _ ht)) (hI.step (L1:=[]) h2) R' h1
    exact⟨log',fr',H',g1,fun p hp=>g2 p (List.mem_append_right _ hp)⟩
structure zH (A:List Nat) (all:List Oper) (s t:Tag):Prop where
  ap:s.o.apart all.toArray t.o=true
  b1:bit A s.i t.i=false
  b2:bit A t.i s.i=false
  ne:s.i≠t.i
theorem qB {A:List Nat} {log:Log} (h:Rr A log=true) {p q:Nat×List Nat×Bool} (hp:p∈log) (hq:q∈log) (hne:p.1≠q.1) (h1:bit A p.1 q.1=false) (h2:bit A q.1 p.1=false) (hw:(p.2.2||q.2.2)=true)
    {r:Nat} (hr:r∈p.2.1):r ∉ q.2.1:=by
  unfold Rr at h
  have:=List.all_eq_true.1 (List.all_eq_true.1 h p hp) q hq
  simp only[h1,h2,hw,Bool.or_false,Bool.not_true,Bool.or_eq_true,beq_iff_eq,hne,false_or]at this
  unfold disj at this
  have:=List.all_eq_true.1 this r hr
  simpa using this
variable {A:List Nat}
theorem hoist (hK:∀ log log' fr fr' H,(∀ t,get fr' t=get fr t)→(∀ p,p∈log↔p∈log')→K log fr H→K log' fr' H) (hOK:∀ log fr H,K log fr H→Rr A log=true):∀ (L1:List Tag) (t:Tag) (L2:List Tag) (log:Log) (fr:Fr) (H:List Ar) (a:Act) (w:World),
    (∀ s∈L1++t::L2,dOK s.o.op)→(∀ s∈L1++t::L2,∀ k,s.o.dst=some k→k<n)→Ids (L1++t::L2) H→Fx W0 A0 ds n outs outer fr H a w→(∀ s∈L1,zH A all s t)→
    dlt P all K (L1++t::L2) log fr H→dstep P all t.o t.i t.id (dafter (dlt P all K (L1++L2)) log fr t.o.dst H) fr H
  | [],t,L2,log,fr,H,a,w,_,_,_,_,_,h=>h
  | s::L1,t,L2,log,fr,H,a,w,hd,hn,hI,R,hA,h=>by
    rw[List.cons_append]at h
    unfold dlt at h
    obtain⟨en_s,v_s,ef_s,⟨g1,g2,g3⟩,a',w',R'⟩:=X9 (L1:=[]) (hd s (by simp)) (hn s (by simp)) hI R h
    have I':Ids (L1++t::L2) (ef_s.app H):=hI.step (L1:=[]) g2
    have hd':∀ s∈L1++t::L2,dOK s.o.op:=fun x hx=>hd x (by rw[List.cons_append];exact List.mem_cons_of_mem _ hx)
    have hn':∀ s∈L1++t::L2,∀ k,s.o.dst=some k→k<n:=fun x hx=>hn x (by rw[List.cons_append];exact List.mem_cons_of_mem _ hx)
    have ht:=hoist hK hOK L1 t L2 _ _ _ a' w' hd' hn' I' R' (fun x hx=>hA x (List.mem_cons_of_mem _ hx)) g1
    obtain⟨en_t,v_t,ef_t,⟨k1,k2,k3⟩,a'',w'',R''⟩:=X9 (L1:=L1) (L2:=L2) (hd' t (by simp)) (hn' t (by simp)) I' R' ht
    have hsubm:∀ x∈L1++L2,x∈L1++t::L2:=by
      intro x hx
      rcases List.mem_append.1 hx with hx | hx
      ·exact List.mem_append_left _ hx
      ·exact List.mem_append_right _ (List.mem_cons_of_mem _ hx)
    obtain⟨log',fr',H',q1,q2⟩:=sC (L1++L2) _ _ _ a'' w'' (fun x hx=>hd' x (hsubm x hx)) (fun x hx=>hn' x (hsubm x hx)) (I'.step k2) R'' k1
    have hok:=hOK _ _ _ q1
    have hst:=hA s (List.mem_cons_self ..)
    obtain⟨ap1,ap2,ap3⟩:=Oper.apart_spec hst.ap
    have hdis:∀ p∈en_s,∀ q∈en_t,(p.2.2||q.2.2)=true→∀ r∈p.2.1,r ∉ q.2.1:=by
      intro p hp q hq hw r hr
      have e1:=g2.1 p hp
      have e2:=k2.1 q hq
      exact qB hok (q2 p (by simp[hp])) (q2 q (by simp[hq])) (by rw[e1,e2];exact hst.ne) (by rw[e1,e2];exact hst.b1) (by rw[e1,e2];exact hst.b2) hw hr
    have sS:=l4 g2 (hI.new s (by simp))
    have sT:=l4 k2 (I'.new t (by simp))
    have lenS:=sI g2 (hI.new s (by simp))
    have lenT:(ef_t.app H).length=H.length:=by
      rcases sT with rfl | ⟨lt,xt,_,ht2,_⟩
      ·rfl
      ·rw[ht2 H lenS.symm,List.length_set]
    have heq:ef_s.app (ef_t.app H)=ef_t.app (ef_s.app H):=by
      rcases sS with rfl | ⟨ls,xs,⟨p,hp,hpw,hpl⟩,hs2,_⟩
      ·rfl
      ·rcases sT with rfl | ⟨lt,xt,⟨q,hq,hqw,hql⟩,ht2,_⟩
       ·rfl
       ·rw[ht2 H lenS.symm,hs2 H rfl,hs2 (H.set lt xt) (by simp),ht2 (H.set ls xs) (by rw[lenS];simp)]
        have hne:ls≠lt:=fun e=>hdis p hp q hq (by rw[hpw];rfl) ls hpl (e ▸ hql)
        exact List.set_comm _ _ (fun e=>hne e.symm)
    refine k3 fr H lenS.symm (fun x hx=>?_) (fun p hp r hr=>?_) _ ?_
    ·rw[aF,if_neg]
     exact fun e=>ap1 x e hx
    ·rcases sS with rfl | ⟨ls,xs,⟨p',hp',hpw,hpl⟩,hs2,_⟩
     ·rfl
     ·rw[hs2 H rfl,List.getElem?_set_ne]
      exact fun e=>hdis p' hp' p hp (by rw[hpw];rfl) ls hpl (e ▸ hr)
    ·show dlt P all K (s::(L1++L2)) (en_t++log) (put fr t.o.dst v_t) (ef_t.app H)
     unfold dlt
     refine g3 _ _ lenT (fun x hx=>?_) (fun p hp r hr=>?_) _ ?_
     ·rw[aF,if_neg]
      exact fun e=>ap3 x e hx
     ·rcases sT with rfl | ⟨lt,xt,⟨q,hq,hqw,hql⟩,ht2,_⟩
      ·rfl
      ·rw[ht2 H lenS.symm,List.getElem?_set_ne]
       exact fun e=>hdis p hp q hq (by rw[hqw,Bool.or_true]) r hr (e ▸ hql)
     ·show dlt P all K (L1++L2) (en_s++(en_t++log)) (put (put fr t.o.dst v_t) s.o.dst v_s) (ef_s.app (ef_t.app H))
      rw[heq]
      refine kM hK _ _ _ _ _ _ (fun x hx=>hd' x (hsubm x hx)) (fun x=>?_) (fun p=>?_) k1
      ·simp only[aF]
       by_cases e1:s.o.dst=some x
       ·rw[if_pos e1,if_neg (fun e=>ap2 x e1 e),if_pos e1]
       ·rw[if_neg e1,if_neg e1]
      ·simp only[List.mem_append]
       constructor
       ·rintro(h | h | h)
        ·exact .inr (.inl h)
        ·exact .inl h
        ·exact .inr (.inr h)
       ·rintro(h | h | h)
        ·exact .inr (.inl h)
        ·exact .inl h
        ·exact .inr (.inr h)
variable {P:Program} {md:Option Nat}
inductive Anc (ops:List Oper):Nat→Nat→Prop
  | edge {i:Nat} {o:Oper} {e:Edge} (ho:ops[i]? =some o) (he:e∈o.after) (hb:Region.binds .any e=true):Anc ops i e.on
  | trans {i j:Nat} {o:Oper} {e:Edge} (ho:ops[i]? =some o) (he:e∈o.after) (hb:Region.binds .any e=true) (h:Anc ops e.on j):Anc ops i j
theorem hZ (acc:List Nat) (j:Nat):∀ (l:List Edge) (m:Nat),(l.foldl (fun m e=>if Region.binds .any e then m|||(2 ^ e.on|||acc.getD e.on 0)else m) m).testBit j=true→
    m.testBit j=true∨∃ e∈l,Region.binds .any e=true∧(e.on=j∨(acc.getD e.on 0).testBit j=true)
  | [],m,h=>.inl h
  | e::l,m,h=>by
    rw[List.foldl_cons]at h
    rcases hZ acc j l _ h with h | ⟨e',h1,h2⟩
    ·split at h
     ·rename_i hb
      rw[Nat.testBit_or,Nat.testBit_or,Bool.or_eq_true,Bool.or_eq_true]at h
      rcases h with h | h | h
      ·exact .inl h
      ·rw[Nat.testBit_two_pow]at h
       exact .inr ⟨e,List.mem_cons_self ..,hb,.inl (by simpa using h)⟩
      ·exact .inr ⟨e,List.mem_cons_self ..,hb,.inr h⟩
     ·exact .inl h
    ·exact .inr ⟨e',List.mem_cons_of_mem _ h1,h2⟩
theorem gK (ops:List Oper):∀ (l:List Oper) (acc:List Nat),(∀ k,l[k]? =ops[acc.length+k]?)→(∀ i j,(acc.getD i 0).testBit j=true→Anc ops i j)→
    ∀ i j,((masks l acc).getD i 0).testBit j=true→Anc ops i j
  | [],acc,_,hacc=>hacc
  | o::l,acc,hl,hacc=>by
    refine gK ops l (acc++[qH o acc]) (fun k=>?_) (fun i j h=>?_)
    ·have:=hl (k+1)
     rw[List.getElem?_cons_succ]at this
     rw[this,List.length_append,List.length_singleton]
     congr 1;omega
    ·rw[List.getD_eq_getElem?_getD]at h
     by_cases hi:i<acc.length
     ·rw[List.getElem?_append_left hi,← List.getD_eq_getElem?_getD]at h
      exact hacc i j h
     ·by_cases he:i=acc.length
      ·subst he
       rw[List.getElem?_append_right (Nat.le_refl _),Nat.sub_self]at h
       have ho:ops[acc.length]? =some o:=by have:=hl 0;simpa using this.symm
       simp only[List.getElem?_cons_zero,Option.getD_some]at h
       unfold qH at h
       rcases hZ acc j _ _ h with h | ⟨e,h1,h2,h3⟩
       ·simp at h
       ·have h1':e∈o.after:=by simpa using h1
        rcases h3 with rfl | h3
        ·exact .edge ho h1' h2
        ·exact .trans ho h1' h2 (hacc _ _ h3)
      ·rw[List.getElem?_eq_none (by simp;omega)]at h
       simp at h
theorem Vg:∀ (l:List Oper) (k:Nat),X7 l k=true→∀ i o,l[i]? =some o→∀ e∈o.after,Region.binds .any e=true→e.on<k+i
  | [],_,_,i,o,h,_,_,_=>by simp at h
  | o::l,k,hk,i,o',h,e,he,hb=>by
    simp only[X7,Bool.and_eq_true]at hk
    match i,h with
    | 0,h=>
      simp only[List.getElem?_cons_zero,Option.some.injEq]at h
      subst h
      have:=List.all_eq_true.1 hk.1 e (by simpa using he)
      simpa[hb,Nat.blt_eq]using this
    | i+1,h=>
      have:=Vg l (k+1) hk.2 i o' (by simpa using h) e he hb
      omega
theorem gB (A:List Nat) (arr:Array Oper):∀ (l:List Oper) (prev:List (Nat×Oper)) (k:Nat),Z9 A arr prev l k=true→
    ∀ i o,l[i]? =some o→(∀ p∈prev,bit A (k+i) p.1=true∨p.2.apart arr o=true)∧∀ j o',j<i→l[j]? =some o'→bit A (k+i) (k+j)=true∨o'.apart arr o=true
  | [],_,_,_,i,o,h=>by simp at h
  | o::l,prev,k,hk,i,o',h=>by
    simp only[Z9,Bool.and_eq_true]at hk
    match i,h with
    | 0,h=>
      simp only[List.getElem?_cons_zero,Option.some.injEq]at h
      subst h
      refine⟨fun p hp=>?_,fun j _ hj=>by omega⟩
      have:=List.all_eq_true.1 hk.1 p hp
      simpa using this
    | i+1,h=>
      have ih:=gB A arr l ((k,o)::prev) (k+1) hk.2 i o' (by simpa using h)
      rw[show k+(i+1)=k+1+i by omega]
      refine⟨fun p hp=>ih.1 p (List.mem_cons_of_mem _ hp),fun j o2 hj h2=>?_⟩
      match j,h2 with
      | 0,h2=>
        simp only[List.getElem?_cons_zero,Option.some.injEq]at h2
        subst h2
        exact ih.1 (k,o) (List.mem_cons_self ..)
      | j+1,h2=>
        have:=ih.2 j o2 (by omega) (by simpa using h2)
        rwa [show k+(j+1)=k+1+j by omega]
theorem z8 {ops:List Oper} (he:X7 ops 0=true):∀ {i j:Nat},Anc ops i j→j<i:=by
  intro i j h
  induction h with
  | edge ho hm hb=>have:=Vg ops 0 he _ _ ho _ hm hb;omega
  | trans ho hm hb _ ih=>have:=Vg ops 0 he _ _ ho _ hm hb;omega
theorem q0 {ops:List Oper} {L:Nat→Prop} (hc:∀ k o,ops[k]? =some o→L k→∀ e∈o.after,Region.binds .any e=true→L e.on):∀ {i j:Nat},Anc ops i j→(∀ o,ops[i]? =some o→∀ e∈o.after,Region.binds .any e=true→L e.on)→L j:=by
  intro i j h
  induction h with
  | edge ho hm hb=>exact fun hi=>hi _ ho _ hm hb
  | trans ho hm hb _ ih=>exact fun hi=>ih fun o' ho'=>hc _ o' ho' (hi _ ho _ hm hb)
variable {W0:World} {A0:Nat→Prop} {ds:List Deferred} {n:Nat} {outs:List (Array Value)} {outer:List Fr} {ops:List Oper} {K:Log→Fr→List Ar→Prop} {Q:Exit→Act→World→Prop}
theorem uO (hK:∀ log log' fr fr' H,(∀ t,get fr' t=get fr t)→(∀ p,p∈log↔p∈log')→K log fr H→K log' fr' H) (hOK:∀ log fr H,K log fr H→Rr (masks ops []) log=true)
    (hQ:∀ log fr H a w,K log fr H→Fx W0 A0 ds n outs outer fr H a w→Q .normal a w) (hd:∀ (i:Nat) o,ops[i]? =some o→dOK o.op) (hn:∀ (i:Nat) o,ops[i]? =some o→∀ k,o.dst=some k→k<n)
    (he:X7 ops 0=true) (hp:Z9 (masks ops []) ops.toArray [] ops 0=true):∀ (fuel:Nat) (L:List Tag) (listed:Array Bool) (log:Log) (fr:Fr) (H:List Ar) (a:Act) (w:World),
    L.length=fuel→listed.size=ops.length→(∀ t∈L,ops[t.i]? =some t.o∧listed.getD t.i true=false)→(∀ i,i<ops.length→listed.getD i true=false→∃ t∈L,t.i=i)→L.Pairwise (fun s t=>s.i<t.i)→
    (∀ k o,ops[k]? =some o→listed.getD k false=true→∀ e∈o.after,Region.binds .any e=true→listed.getD e.on false=true)→Ids L H→Fx W0 A0 ds n outs outer fr H a w→dlt P ops K L log fr H→
    wpAnyIn (fence md) 5 P .any ops.toArray Q fuel listed a w:=by
  have hlst:∀ {listed:Array Bool} {i:Nat},listed.size=ops.length→i<ops.length→listed.getD i true=listed.getD i false:=by
    intro listed i h1 h2
    simp[Array.getD,h1,h2]
  have anc0:∀ i j,bit (masks ops []) i j=true→Anc ops i j:=gK ops ops [] (fun k=>by simp) (fun i j h=>by simp at h)
  intro fuel
  induction fuel with
  | zero=>
    intro L listed log fr H a w hl hs hL hc _ _ _ R h
    have:L=[]:=List.length_eq_zero_iff.1 hl
    subst this
    refine wpAnyIn_done ?_ (hQ _ _ _ _ _ h R) 0
    rw[List.eq_nil_iff_forall_not_mem]
    intro j hj
    obtain⟨h1,o,ho,_⟩:=mem_ready.1 hj
    have hlt:j<ops.length:=by have:=(Array.getElem?_eq_some_iff.1 ho).1;simpa using this
    obtain⟨t,ht,_⟩:=hc j hlt h1
    cases ht
  | succ fuel ih=>
    intro L listed log fr H a w hl hs hL hc hsort hcl hI R h
    refine⟨fun hr=>?_,fun i hi=>?_⟩
    ·exfalso
     match L,hl,hL,hc,hsort with
     | t::L,_,hL,hc,hsort=>
       obtain⟨h1,h2⟩:=hL t (List.mem_cons_self ..)
       have hlt:t.i<ops.length:=(List.getElem?_eq_some_iff.1 h1).1
       have:t.i∈Region.ready .any ops.toArray listed:=by
         refine mem_ready.2 ⟨h2,t.o,by simpa using h1,fun e hm hb=>?_⟩
         have hon:=Vg ops 0 he _ _ h1 e hm hb
         cases hf:listed.getD e.on false with
         | true=>rfl
         | false=>
           obtain⟨s,hs1,hs2⟩:=hc e.on (by omega) (by rw[hlst hs (by omega)];exact hf)
           rcases List.mem_cons.1 hs1 with rfl | hs1
           ·omega
           ·have:=(List.pairwise_cons.1 hsort).1 s hs1;omega
       rw[hr]at this
       cases this
    ·obtain⟨h1,o,ho,h3⟩:=mem_ready.1 hi
     have ho':ops[i]? =some o:=by simpa using ho
     have hlt:i<ops.length:=(List.getElem?_eq_some_iff.1 ho').1
     obtain⟨t,ht,rfl⟩:=hc i hlt h1
     obtain⟨L1,L2,rfl⟩:=List.append_of_mem ht
     have hto:t.o=o:=by have:=(hL t ht).1;rw[ho',Option.some.injEq]at this;exact this.symm
     subst hto
     have hA:∀ s∈L1,zH (masks ops []) ops s t:=by
       intro s hs1
       have hlts:s.i<t.i:=(List.pairwise_append.1 hsort).2.2 s hs1 t (List.mem_cons_self ..)
       obtain⟨g1,g2⟩:=hL s (List.mem_append_left _ hs1)
       have b2:bit (masks ops []) t.i s.i=false:=by
         cases hb:bit (masks ops []) t.i s.i with
         | false=>rfl
         | true=>
           have:=q0 (L:=fun k=>listed.getD k false=true) hcl (anc0 _ _ hb) (fun o2 ho2=>by rw[ho',Option.some.injEq]at ho2;subst ho2;exact h3)
           rw[hlst hs (by omega)]at g2
           rw[g2]at this;cases this
       have b1:bit (masks ops []) s.i t.i=false:=by
         cases hb:bit (masks ops []) s.i t.i with
         | false=>rfl
         | true=>have:=z8 he (anc0 _ _ hb);omega
       refine⟨?_,b1,b2,by omega⟩
       have:=(gB _ _ ops [] 0 hp t.i t.o ho').2 s.i s.o hlts g1
       rw[Nat.zero_add,Nat.zero_add,b2]at this
       simpa using this
     have hd':∀ s∈L1++t::L2,dOK s.o.op:=fun s hs1=>hd _ _ (hL s hs1).1
     have hn':∀ s∈L1++t::L2,∀ k,s.o.dst=some k→k<n:=fun s hs1=>hn _ _ (hL s hs1).1
     have hst:=hoist hK hOK L1 t L2 log fr H a w hd' hn' hI R hA h
     have hrun:=X8 (hn' t (by simp)) (hI.free (by simp)) R hst
     have hst2:dstep P ops t.o t.i t.id (fun en v ef=>kU t.i t.id t.o H en ef∧dafter (dlt P ops K (L1++L2)) log fr t.o.dst H en v ef) fr H:=by
       obtain⟨en,v,ef,⟨k1,k2,k3⟩,_⟩:=X9 (hd' t (by simp)) (hn' t (by simp)) hI R hst
       exact k3 fr H rfl (fun _ _=>rfl) (fun _ _ _ _=>rfl) _ ⟨k2,k1⟩
     have nd:∀ c,t.o.op≠.defer c:=fun c hc=>by
       have hdo:=hd' t (by simp)
       rw[hc]at hdo
       rcases hdo with h | h<;>simp[Qi,drawable]at h
     refine Zv.wpOp ho' (X8 (hn' t (by simp)) (hI.free (by simp)) R hst2) (fun a' w' hg=>?_) nd
     obtain⟨en,v,ef,⟨k2,k1⟩,R'⟩:=hg.ex
     have hne:∀ s∈L1++L2,s.i≠t.i:=by
       intro s hs1
       have hq:=List.pairwise_append.1 hsort
       rcases List.mem_append.1 hs1 with hs1 | hs1
       ·have:=hq.2.2 s hs1 t (List.mem_cons_self ..);omega
       ·have:=(List.pairwise_cons.1 hq.2.1).1 s hs1;omega
     have hsubm:∀ x∈L1++L2,x∈L1++t::L2:=by
       intro x hx
       rcases List.mem_append.1 hx with hx | hx
       ·exact List.mem_append_left _ hx
       ·exact List.mem_append_right _ (List.mem_cons_of_mem _ hx)
     refine ih (L1++L2) _ _ _ _ a' w' (by simp at hl ⊢;omega) (by simpa using hs) (fun s hs1=>?_) (fun j hj hu=>?_) ?_ (fun k o2 hk hk2 e hm hb=>?_) (hI.step k2) R' k1
     ·refine⟨(hL s (hsubm s hs1)).1,?_⟩
      rw[getD_set_ne _ (fun e=>hne s hs1 e.symm)]
      exact(hL s (hsubm s hs1)).2
     ·by_cases e:j=t.i
      ·subst e
       simp[Array.getD,hs,hlt]at hu
      ·rw[getD_set_ne _ (fun e'=>e e'.symm)]at hu
       obtain⟨s,hs1,hs2⟩:=hc j hj hu
       refine⟨s,?_,hs2⟩
       rcases List.mem_append.1 hs1 with hs1 | hs1
       ·exact List.mem_append_left _ hs1
       ·rcases List.mem_cons.1 hs1 with rfl | hs1
        ·exact absurd hs2.symm e
        ·exact List.mem_append_right _ hs1
     ·have hq:=List.pairwise_append.1 hsort
      rw[List.pairwise_append]
      exact⟨hq.1,(List.pairwise_cons.1 hq.2.1).2,fun a ha b hb=>hq.2.2 a ha b (List.mem_cons_of_mem _ hb)⟩
     ·by_cases e1:k=t.i
      ·subst e1
       rw[ho',Option.some.injEq]at hk
       subst hk
       exact getD_set_true (h3 e hm hb)
      ·rw[getD_set_ne _ (fun e'=>e1 e'.symm)]at hk2
       exact getD_set_true (hcl k o2 hk hk2 e hm hb)
theorem m8 {A:List Nat} {log log':Log} (h:∀ p,p∈log↔p∈log') (hk:Rr A log=true):Rr A log'=true:=by
  unfold Rr at *
  exact List.all_eq_true.2 fun p hp=>List.all_eq_true.2 fun q hq=>List.all_eq_true.1 (List.all_eq_true.1 hk p ((h p).2 hp)) q ((h q).2 hq)
theorem oG (all:List Oper) (top:Nat) (K:Log→Fr→List Ar→Prop):∀ (l:List Oper) (i id:Nat),dlist P all top K l i id=dlt P all K (tags top l i id)
  | [],_,_=>by funext log fr H;rfl
  | o::l,i,id=>by
    funext log fr H
    rw[dlist,oG all top K l,tags,dlt]
theorem mD (top:Nat):∀ (l:List Oper) (i id:Nat),(tags top l i id).length=l.length
  | [],_,_=>rfl
  | o::l,i,id=>by rw[tags,List.length_cons,mD top l,List.length_cons]
theorem fK (top:Nat):∀ (l:List Oper) (i id:Nat) (t:Tag),t∈tags top l i id→∃ k,t.i=i+k∧l[k]? =some t.o
  | [],_,_,t,h=>by cases h
  | o::l,i,id,t,h=>by
    rw[tags]at h
    rcases List.mem_cons.1 h with rfl | h
    ·exact⟨0,rfl,rfl⟩
    ·obtain⟨k,h1,h2⟩:=fK top l _ _ t h
     exact⟨k+1,by omega,by simpa using h2⟩
theorem mE (top:Nat):∀ (l:List Oper) (i id k:Nat),k<l.length→∃ t∈tags top l i id,t.i=i+k
  | [],_,_,k,h=>by simp at h
  | o::l,i,id,0,_=>⟨_,List.mem_cons_self ..,rfl⟩
  | o::l,i,id,k+1,h=>by
    obtain⟨t,h1,h2⟩:=mE top l (i+1) (if F2 o.op then id+1 else id) k (by simpa using h)
    exact⟨t,List.mem_cons_of_mem _ h1,by omega⟩
theorem dL (top:Nat):∀ (l:List Oper) (i id:Nat),(tags top l i id).Pairwise (fun s t=>s.i<t.i)
  | [],_,_=>.nil
  | o::l,i,id=>by
    rw[tags,List.pairwise_cons]
    refine⟨fun t ht=>?_,dL top l _ _⟩
    obtain⟨k,h1,_⟩:=fK top l _ _ t ht
    show i<t.i
    omega
theorem rO (top:Nat):∀ (l:List Oper) (i id:Nat) (t:Tag),t∈tags top l i id→F2 t.o.op=true→id≤t.id
  | [],_,_,t,h,_=>by cases h
  | o::l,i,id,t,h,hn=>by
    rw[tags]at h
    rcases List.mem_cons.1 h with rfl | h
    ·simp only at hn ⊢
     rw[if_pos hn];exact Nat.le_refl _
    ·have:=rO top l _ _ t h hn
     split at this<;>omega
theorem fL (top:Nat):∀ (l:List Oper) (i:Nat) (H:List Ar),top=(H++resvs l).length→Ids (tags top l i H.length) (H++resvs l)
  | [],i,H,_=>⟨fun t h=>(by cases h),fun t h=>(by cases h),.nil⟩
  | o::l,i,H,ht=>by
    rw[tags]
    cases hn:F2 o.op with
    | true=>
      have e1:H++resvs (o::l)=(H++[.resv])++resvs l:=by simp[resvs,hn]
      rw[e1]at ht ⊢
      have ih:=fL top l (i+1) (H++[.resv]) ht
      rw[List.length_append,List.length_singleton]at ih
      simp only[if_true]
      refine⟨fun t hm hnew=>?_,fun t hm hnew=>?_,?_⟩
      ·rcases List.mem_cons.1 hm with rfl | hm
       ·simp
       ·exact ih.new t hm hnew
      ·rcases List.mem_cons.1 hm with rfl | hm
       ·rw[hn]at hnew;cases hnew
       ·exact ih.old t hm hnew
      ·rw[List.pairwise_cons]
       refine⟨fun t hm _ hnew=>?_,ih.dst⟩
       have:=rO top l _ _ t hm hnew
       simp only
       omega
    | false=>
      have e1:H++resvs (o::l)=H++resvs l:=by simp[resvs,hn]
      rw[e1]at ht ⊢
      have ih:=fL top l (i+1) H ht
      simp only[Bool.false_eq_true,if_false]
      refine⟨fun t hm hnew=>?_,fun t hm hnew=>?_,?_⟩
      ·rcases List.mem_cons.1 hm with rfl | hm
       ·rw[hn]at hnew;cases hnew
       ·exact ih.new t hm hnew
      ·rcases List.mem_cons.1 hm with rfl | hm
       ·exact ht
       ·exact ih.old t hm hnew
      ·rw[List.pairwise_cons]
       refine⟨fun t hm hnew=>?_,ih.dst⟩
       rw[hn]at hnew;cases hnew
theorem Fx.resv {fr:Fr} {H:List Ar} {a:Act} {w:World} (R:Fx W0 A0 ds n outs outer fr H a w):Fx W0 A0 ds n outs outer fr (H++[.resv]) a w:=by
  obtain⟨C,rfl,h2,I,h4,h5,h6⟩:=R.ex
  obtain⟨I',m⟩:=I.ghost C.H.length (.inl rfl) .resv fun _=>I.rV (.inl rfl)
  have e:(C.ghost C.H.length .resv).H=C.H++[.resv]:=by simp[Ctx.ghost,Gq]
  exact⟨_,e,h2,I',h4.mono m,h5.mono m,h6⟩
theorem Fx.resvs {fr:Fr} {a:Act} {w:World}:∀ (l:List Oper) {H:List Ar},Fx W0 A0 ds n outs outer fr H a w→Fx W0 A0 ds n outs outer fr (H++Go.Ab.resvs l) a w
  | [],H,R=>by simpa[Go.Ab.resvs]using R
  | o::l,H,R=>by
    unfold Go.Ab.resvs
    split
    ·rw[show H++Ar.resv::Go.Ab.resvs l=(H++[.resv])++Go.Ab.resvs l by simp]
     exact Fx.resvs l R.resv
    ·exact Fx.resvs l R
theorem Fx.drawn {fr:Fr} {H:List Ar} {a:Act} {w:World} (R:Fx W0 A0 ds n outs outer fr H a w) (d:Nat):Fx W0 A0 ds n outs outer fr H a {w with drawn:=d}:=by
  obtain⟨C,h1,h2,I,h4,h5,h6⟩:=R.ex
  obtain⟨I',m⟩:=I.same (w':={w with drawn:=d}) rfl ⟨I.below.os,I.below.tape,I.below.output,I.below.size,I.below.block⟩
  exact⟨C,h1,h2,I',h4.mono m,h5.mono m,h6⟩
theorem AWP.draw {id:Nat} {Q:Exit→Fr→List Ar→Prop} {fr:Fr} {H:List Ar} (hm:P.follows .mixedOrders=true) (hok:wZ n ops=true)
    (h:∀ K:Log→Fr→List Ar→Prop,(∀ log fr H,Rr (masks ops []) log=true→Q .normal fr H→K log fr H)→dlist P ops (H++resvs ops).length K ops 0 H.length [] fr (H++resvs ops)) :
    AWP md P n (.region id ops.toArray true) Q outer fr H:=by
  intro W0 A0 ds outs a w R
  simp only[wZ,Bool.and_eq_true]at hok
  obtain⟨⟨⟨h1,h2⟩,h3⟩,h4⟩:=hok
  refine wpIn_region_any hm ?_
  have hK:=h (fun log fr H=>Rr (masks ops []) log=true∧∃ fr2,(∀ t,get fr2 t=get fr t)∧Q .normal fr2 H) fun log fr H g1 g2=>⟨g1,fr,fun _=>rfl,g2⟩
  rw[oG]at hK
  have hin:∀ (i:Nat) o,ops[i]? =some o→o∈ops:=fun i o ho=>Ai4 ho
  have a1:∀ (log log':Log) (fr fr':Fr) (H:List Ar),(∀ t,get fr' t=get fr t)→(∀ p,p∈log↔p∈log')→(Rr (masks ops []) log=true∧∃ fr2,(∀ t,get fr2 t=get fr t)∧Q .normal fr2 H)→
   (Rr (masks ops []) log'=true∧∃ fr2,(∀ t,get fr2 t=get fr' t)∧Q .normal fr2 H):=by
    intro log log' fr fr' H hf hl ⟨g0,fr2,g1,g2⟩
    exact⟨m8 hl g0,fr2,fun t=>by rw[g1,hf],g2⟩
  have a2:∀ (log:Log) (fr:Fr) (H:List Ar) (a:Act) (w:World),(Rr (masks ops []) log=true∧∃ fr2,(∀ t,get fr2 t=get fr t)∧Q .normal fr2 H)→Fx W0 A0 ds n outs outer fr H a w→
   ∃ fr' H',Q .normal fr' H'∧Fx W0 A0 ds n outs outer fr' H' a w:=by
    intro log fr H a w ⟨_,fr2,g1,g2⟩ R
    exact⟨fr2,H,g2,R.congr g1⟩
  have a3:∀ (i:Nat) o,ops[i]? =some o→dOK o.op:=by
    intro i o ho
    have:=List.all_eq_true.1 h2 o (hin i o ho)
    simpa[dOK]using this
  have a4:∀ (i:Nat) o,ops[i]? =some o→∀ k,o.dst=some k→k<n:=by
    intro i o ho k hk
    have:=List.all_eq_true.1 h1 o (hin i o ho)
    rw[hk]at this
    simpa using this
  have a5:∀ t∈tags (H++resvs ops).length ops 0 H.length,ops[t.i]? =some t.o∧(Array.replicate ops.toArray.size false).getD t.i true=false:=by
    intro t ht
    obtain⟨k,g1,g2⟩:=fK _ ops 0 _ t ht
    rw[Nat.zero_add]at g1
    have hlt:k<ops.length:=(List.getElem?_eq_some_iff.1 g2).1
    exact⟨by rw[g1];exact g2,by rw[g1];simp[Array.getD,hlt]⟩
  have a6:∀ i,i<ops.length→(Array.replicate ops.toArray.size false).getD i true=false→∃ t∈tags (H++resvs ops).length ops 0 H.length,t.i=i:=by
    intro i hi _
    obtain⟨t,g1,g2⟩:=mE (H++resvs ops).length ops 0 H.length i hi
    exact⟨t,g1,by omega⟩
  have a7:∀ k o,ops[k]? =some o→(Array.replicate ops.toArray.size false).getD k false=true→∀ e∈o.after,Region.binds .any e=true→(Array.replicate ops.toArray.size false).getD e.on false=true:=by
    intro k o _ hl
    exfalso
    simp[Array.getD]at hl
  exact uO (W0:=W0) (A0:=A0) (n:=n) (outs:=outs) (outer:=outer) a1 (fun log fr H hk=>hk.1) a2 a3 a4 h3 h4
    ops.length (tags _ ops 0 H.length) _ [] fr (H++resvs ops) a _ (mD ..) (by simp) a5 a6 (dL ..) a7 (fL _ ops 0 H rfl) ((R.drawn _).resvs ops) hK
end
end Go.Ab
namespace Go.Ab
open Go Go.RowKit
theorem pY (K:Ac→Eff→Prop) (v:Ac):Ih K v=K v .none:=rfl
theorem jJ (fr:Fr) (dst:Option Tmp) (next:Fr→List Ar→Prop) (v:Ac) (H:List Ar):dD fr dst next v H=next (put fr dst v) H:=rfl
theorem jI (fr:Fr) (dst:Option Tmp) (next:Fr→List Ar→Prop) (H:List Ar) (v:Ac) (ef:Eff):O7 fr dst next H v ef=next (put fr dst v) (ef.app H):=rfl
theorem uM (dst:Option Tmp) (next:Fr→List Ar→Prop) (fr:Fr) (H:List Ar):askip dst next fr H=next (put fr dst (.tuple [])) H:=rfl
theorem wK (K:Ac→Prop) (y:List Ac):Aaz K y=K (.eptr y):=rfl
theorem vI (P:Program) (T:TypeId) (k:Nat) (K:Ac→Prop) (y:List Ac):Aah P T k K y=K (Io (Ly P T) (Bt P T) (y.drop k)):=rfl
theorem vG (r v sz:Nat) (xs:List (List Ac)) (i k:Nat) (vs:List Ac) (K:Ac→Eff→Prop) (y:List Ac):vH r v sz xs i k vs K y=K (.tuple []) (.set r (.row v sz (xs.set i (splice y k vs)))):=rfl
theorem tM (ok:Bool) (K:Ac→Prop) (v:Ac) (b:Bool):zA ok K v b=K (if ok then .tuple [v,.bool b]else v):=rfl
theorem uN (P:Program) (outer:List Fr) (op:Op) (dst:Option Tmp) (next:Fr→List Ar→Prop) (fr:Fr) (H:List Ar):aoper P outer op dst next fr H =
  match Qi op with
  | some (f,args)=>An P (ev fr f) (args.map (ev fr)) (fr::outer) H (dD fr dst next)
  | none=>match xE P op (ev fr)with
    | some xs=>∀ b:Bool,(xs≠[]→b=false)→O7 fr dst next H (.bool b) .none
    | none=>astep P op (ev fr) H H.length (O7 fr dst next H):=rfl
theorem uG (P:Program) (all:List Oper) (top:Nat) (K:Log→Fr→List Ar→Prop) (i id:Nat) (log:Log) (fr:Fr) (H:List Ar):dlist P all top K [] i id log fr H=K log fr H:=rfl
theorem oE (P:Program) (all:List Oper) (top:Nat) (K:Log→Fr→List Ar→Prop) (dst:Option Tmp) (op:Op) (type:TypeId) (pos:String) (after:Array Edge) (rest:List Oper) (i id:Nat) (log:Log) (fr:Fr) (H:List Ar) :
    dlist P all top K ({dst,op,type,pos,after,guard:=none}::rest) i id log fr H =
      drun P op i (if F2 op then id else top) (dafter (dlist P all top K rest (i+1) (if F2 op then id+1 else id)) log fr dst H) fr H:=rfl
theorem oF (P:Program) (all:List Oper) (top:Nat) (K:Log→Fr→List Ar→Prop) (dst:Option Tmp) (op:Op) (type:TypeId) (pos:String) (after:Array Edge) (j:Nat) (want:Bool) (rest:List Oper) (i id:Nat) (log:Log) (fr:Fr) (H:List Ar) :
    dlist P all top K ({dst,op,type,pos,after,guard:=some (j,want)}::rest) i id log fr H =
      aX ((all[j]?).bind (·.dst)) want (drun P op i (if F2 op then id else top) (dafter (dlist P all top K rest (i+1) (if F2 op then id+1 else id)) log fr dst H))
       (dskip (dafter (dlist P all top K rest (i+1) (if F2 op then id+1 else id)) log fr dst H)) fr H:=by
  simp only[dlist,dstep,aX]
  cases(all[j]?).bind (·.dst)<;>rfl
theorem wY (P:Program) (op:Op) (i id:Nat) (K:DK) (fr:Fr) (H:List Ar):drun P op i id K fr H=dop P op (ev fr) H id (K (ents i id op (ev fr))):=rfl
theorem uE (K:DK) (fr:Fr) (H:List Ar):dskip K fr H=K [] (.tuple []) .none:=rfl
theorem qQ (next:Log→Fr→List Ar→Prop) (log:Log) (fr:Fr) (dst:Option Tmp) (H:List Ar) (en:Log) (v:Ac) (ef:Eff):dafter next log fr dst H en v ef=next (en++log) (put fr dst v) (ef.app H):=rfl
theorem yG (P:Program) (op:Op) (e:Operand→Ac) (H:List Ar) (id:Nat) (K:Ac→Eff→Prop):dop P op e H id K =
  match Qi op with
  | some (f,args)=>B7 P (e f) (args.map e) H id K
  | none=>astep P op e H id K:=rfl
attribute [go_sem] uG oE oF wY uE qQ yG ents j3 touch rid xQ xR Y7 F2 qA resvs
attribute [go_sem] pY jJ jI uM wK vI vG tM uN uP oT oU aX q5 rB q9 rA jH
theorem yD (k:Nat) (v:Ac) (r:Fr):get ((k,v)::r) k=v:=if_pos rfl
theorem wN {k t:Nat} (h:k≠t) (v:Ac) (r:Fr):get ((k,v)::r) t=get r t:=if_neg h
attribute [go_sem] yD wN
attribute [go_sem] List.append_eq
attribute [go_sem] Qi xE astep Kv Gr rE rF ev put aconst Ye acells Ac.one Ac.g0 Ac.g1 Ac.g2 Ac.f0 Ac.f1 Ac.f2 iK rR aY oZ Fj aUn eF Io Xq Xn rI uV K3 Ip Y1 Zu Nk reps chunk Zt l7 K4 Qj O8 S4 splice Eff.app Gq iL Qy R9 j1 vD rM Gx S3 l6 sJ l8 acond qthen qblock qret rfrz aresult aret Gh W4 On jC R2 vle aQ Py Yh fM Ac.Yo Ac.Xd Ac.V4 Ac.O6 Mh qY jG
end Go.Ab
namespace Go.Ab
open Go Go.RowKit
section
variable {P:Program} {md:Option Nat} {n:Nat} {Q:Exit→Fr→List Ar→Prop} {outer:List Fr} {fr:Fr} {H:List Ar}
theorem B7.snap {f:FuncId} {args args':List Ac} {r:Ac} {id:Nat} {K:Ac→Eff→Prop} (hc:∀ (args:Array Value) (w:World),(callFunc f args).run P w= .ok (.enter f args) w)
    (spec:Ad P f args' (·=r)) (ha:Gh (On H) args=some args') (hflat:r.f2=true) (h:K r .none):B7 P (.func f []) args H id K:=
  ⟨f,args',r,.none,rfl,hc,.inl ⟨rfl,.inl ⟨spec,ha,hflat⟩⟩,h⟩
theorem B7.jQ {f:FuncId} {args args':List Ac} {r:Ac} {id:Nat} {K:Ac→Eff→Prop} (hc:∀ (args:Array Value) (w:World),(callFunc f args).run P w= .ok (.enter f args) w)
    (spec:Bo P f args' (·=r)) (ha:Gh (On H) args=some args') (h:K r .none):B7 P (.func f []) args H id K:=
  ⟨f,args',r,.none,rfl,hc,.inl ⟨rfl,.inr (.inr ⟨spec,ha⟩)⟩,h⟩
theorem B7.eff {f:FuncId} {args:List Ac} {r:Ac} {id:Nat} {H:List Ar} {K:Ac→Eff→Prop} (r0:Nat) (o':Ar) (hc:∀ (args:Array Value) (w:World),(callFunc f args).run P w= .ok (.enter f args) w)
    (hr0:(Y7 args).contains r0=true) (hx:∃ x,H[r0]? =some x∧x≠.resv) (hcall:∀ (st:List Fr) (H':List Ar),H'.length=H.length→(∀ q∈Y7 args,H'[q]? =H[q]?)→An P (.func f []) args st H' fun r' H''=>r'=r∧H''=H'.set r0 o')
    (h:K r (.set r0 o')):B7 P (.func f []) args H id K:=
  ⟨f,[],r,.set r0 o',rfl,hc,.inr (.inr ⟨r0,o',rfl,by simpa using hr0,hx,hcall⟩),h⟩
theorem B7.pure {f:FuncId} {args:List Ac} {r:Ac} {id:Nat} {K:Ac→Eff→Prop} (hc:∀ (args:Array Value) (w:World),(callFunc f args).run P w= .ok (.enter f args) w)
    (spec:Ad P f args (·=r)) (hg:args.all Ac.g2=true) (h:K r .none):B7 P (.func f []) args H id K:=
  ⟨f,args,r,.none,rfl,hc,.inl ⟨rfl,.inr (.inl ⟨spec,hg,rfl⟩)⟩,h⟩
theorem B7.row {f:FuncId} {args:List Ac} {id sz:Nat} {xs:List (List Ac)} {K:Ac→Eff→Prop} (hc:∀ (args:Array Value) (w:World),(callFunc f args).run P w= .ok (.enter f args) w)
    (spec:Db P f args sz xs) (hg:args.all Ac.g2=true) (h:K (.own id 0 0 xs.length) (.new id (.row 0 sz xs))):B7 P (.func f []) args H id K:=
  ⟨f,args,_,_,rfl,hc,.inr (.inl ⟨sz,xs,spec,rfl,rfl,.inl ⟨hg,rfl⟩⟩),h⟩
theorem An.row {f:FuncId} {args:List Ac} {st:List Fr} {sz:Nat} {xs:List (List Ac)} {K:Ac→List Ar→Prop} (hc:∀ (args:Array Value) (w:World),(callFunc f args).run P w= .ok (.enter f args) w)
    (spec:Db P f args sz xs) (hg:args.all Ac.g2=true) (id:Nat) (hid:H.length=id) (h:K (.own id 0 0 xs.length) (H++[.row 0 sz xs])):An P (.func f []) args st H K:=
  An.rowAt hc spec (.inl ⟨hg,rfl⟩) id (.inl hid.symm) (by unfold Gq;rw[if_pos hid.symm];exact h)
theorem An.vH {f:FuncId} {args args':List Ac} {st:List Fr} {sz:Nat} {xs:List (List Ac)} {K:Ac→List Ar→Prop} (hc:∀ (args:Array Value) (w:World),(callFunc f args).run P w= .ok (.enter f args) w)
    (spec:Db P f args' sz xs) (ha:Gh (On H) args=some args') (hfl:(xs.all fun x=>x.all Ac.f0)=true) (id:Nat) (hid:H.length=id) (h:K (.own id 0 0 xs.length) (H++[.row 0 sz xs])):An P (.func f []) args st H K:=
  An.rowAt hc spec (.inr ⟨ha,hfl⟩) id (.inl hid.symm) (by unfold Gq;rw[if_pos hid.symm];exact h)
theorem m0 {id:Nat} (h:Q .normal fr H):qblock id Q (.exit id) fr H:=by simp only[qblock,if_true];exact h
theorem Ak {t:Bool} {yes no:Prop} (h1:t=true→yes) (h2:t=false→no):acond (.bool t) yes no:=⟨h1,h2⟩
theorem Ah {yes no:Prop} (h1:yes):acond (.bool true) yes no:=⟨fun _=>h1,fun h=>by cases h⟩
theorem Bk {yes no:Prop} (h1:no):acond (.bool false) yes no:=⟨(fun h=>by cases h),fun _=>h1⟩
theorem AWP.Bw {ι:Type} {c:Code} (F:ι→Fr) (HH:ι→List Ar) (J:ι→Prop) (μ:ι→Nat) (x0:ι) (h0:J x0) (hF0:fM fr (F x0)) (hH0:Yh H (HH x0))
    (hb:∀ x,Mh (HH x).length (F x)=true∧jG (HH x).length (HH x)=true∧outer.all (Mh (HH x).length)=true)
    (round:∀ x,J x→AWP md P n c (qthen (fun fr' H'=>∃ x',J x'∧μ x'< μ x∧fM fr' (F x')∧Yh H' (HH x')) Q) outer (F x) (HH x)):AWP md P n (.loop c) Q outer fr H:=by
  refine AWP.loop F HH J μ x0 h0 (Sub.weak hH0 hF0 (.inr (hb x0))) fun x hx=>AWP.mono ?_ (round x hx)
  intro e fr' H' h
  cases e with
  | normal=>
    obtain⟨x',h1,h2,h3,h4⟩:=h
    exact⟨x',h1,h2,Sub.weak h4 h3 (.inr (hb x'))⟩
  | _=>exact h
theorem AWP.ghost {c:Code} (k sz:Nat) (hk:get fr k= .nils) (hsz:1≤sz) (h:AWP md P n c Q outer ((k,.own H.length 0 0 0)::fr) (H++[.row 0 sz []])):AWP md P n c Q outer fr H:=
  AWP.sub (Sub.ghost k sz hk hsz) h
end
theorem Bn.map {α:Type} {f:α→List Ac} {l:List α} {n:Int} {k sz:Nat} {K:List Ac→Prop} (hn:n=(k:Int)) (hk:k<l.length) (h:∀ a,l[k]? =some a→K (f a)):Bn sz (l.map f) n K:=by
  subst hn
  refine⟨by omega,by simpa using hk,fun y hy _=>?_⟩
  simp only[Int.toNat_natCast,List.getElem?_map]at hy
  cases ha:l[k]? with
  | none=>simp[ha]at hy
  | some a=>simp only[ha,Option.map_some,Option.some.injEq]at hy;subst hy;exact h a ha
theorem Y0 {c want:Bool} {Y N:Fr→List Ar→Prop} {fr:Fr} {H:List Ar} (h1:c=want→Y fr H) (h2:c= !want→N fr H):Ff (.bool c) want Y N fr H:=
  ⟨h1,fun h=>h2 (by cases c<;>cases want<;>simp_all)⟩
theorem wrap_i64 {x:Int} (h1: -9223372036854775808≤x) (h2:x≤9223372036854775807):IntKind.i64.wrap x=x:=by
  rw[IntKind.wrap_i64];omega
theorem Bx {α:Type} {l:List α} {k:Nat} {a:α} (h:l[k]? =some a):l.take (k+1)=l.take k++[a]:=by
  rw[List.take_add_one,h];rfl
def A2 (n:Int):List Ac:=[.int .i64 n]
theorem natCast_succ (k:Nat):((k+1:Nat):Int)=(k:Int)+1:=rfl
end Go.Ab
namespace Go.Ab
open Go Go.RowKit
abbrev uW (W:World):Ctx:=Ctx.imm fun b=>b<W.heap.size
def Ht (W:World) (cs:List Value) (zq:List Ac):Prop:=
  cs.length=zq.length∧∀ (i:Nat) v a,cs[i]? =some v→zq[i]? =some a→Bj (uW W) W v a
structure B6 (P:Program) (t:TypeId) {α:Type} (f:α→List Ac) (Pa:α→Prop):Prop where
  op:∀ {H:Type} {enc:TypeId×Value→H} {w:World} {base:Nat} {spare:Nat→Bool} {held:Bool} {fuel:Nat} {cs:List Value} {x:DataW H×List MemPlace},
   DataW.trod enc P w base spare held fuel t cs=some x→∃ a,Pa a∧Ht w cs (f a)
theorem Ht.one {W:World} {v:Value} {a:Ac} (h:Bj (uW W) W v a):Ht W [v] [a]:=
  ⟨rfl,fun i v' a' h1 h2=>by
    match i,h1,h2 with
    | 0,h1,h2=>simp at h1 h2;subst h1 h2;exact h⟩
section
variable {P:Program} {t:TypeId}
theorem B6.int {k:IntKind} (ht:P.underlying t=some (.int k)):B6 P t (fun n:Int=>[.int k n]) (fun n=>(Lit.int k n).wf=true):=by
  constructor
  intro H enc w base spare held fuel cs x h
  obtain⟨n,rfl,_,hw⟩:=DataW.trod_int ht h
  exact⟨n,hw,.one (.int k n)⟩
theorem B6.bool (ht:P.underlying t=some .bool):B6 P t (fun b:Bool=>[.bool b]) (fun _=>True):=by
  constructor
  intro H enc w base spare held fuel cs x h
  obtain⟨b,rfl,_⟩:=DataW.trod_bool ht h
  exact⟨b,trivial,.one (.bool b)⟩
theorem B6.string (ht:P.underlying t=some .string):B6 P t (fun s:ByteArray=>[.str s]) (fun s=>s.size≤maxLen):=by
  constructor
  intro H enc w base spare held fuel cs x h
  obtain⟨s,rfl,_,hs⟩:=DataW.trod_string ht h
  exact⟨s,hs,.one (.str s)⟩
theorem B6.iso {α β:Type} {f:α→List Ac} {Pa:α→Prop} {g:β→List Ac} {Pb:β→Prop} (h:B6 P t f Pa) (φ:α→β) (hf:∀ a,g (φ a)=f a) (hP:∀ a,Pa a→Pb (φ a)):B6 P t g Pb:=by
  constructor
  intro H enc w base spare held fuel cs x hx
  obtain⟨a,h1,h2⟩:=h.op hx
  exact⟨φ a,hP a h1,by rw[hf];exact h2⟩
theorem nJ {α:Type} {n:Nat} {Q:Nat→α→Prop} (h:∀ i,i<n→∃ a,Q i a):∃ l:List α,l.length=n∧∀ (i:Nat) a,l[i]? =some a→Q i a:=by
  induction n with
  | zero=>exact ⟨[],rfl,fun i a h=>by simp at h⟩
  | succ n ih=>
    obtain⟨l,h1,h2⟩:=ih fun i hi=>h i (by omega)
    obtain⟨a,ha⟩:=h n (by omega)
    refine⟨l++[a],by simp[h1],fun i b hb=>?_⟩
    by_cases hi:i<l.length
    ·rw[List.getElem?_append_left hi]at hb;exact h2 i b hb
    ·rw[List.getElem?_append_right (by omega)]at hb
     have:i - l.length=0:=by
       cases h3:i - l.length with
       | zero=>rfl
       | succ k=>rw[h3]at hb;simp at hb
     rw[this]at hb
     simp at hb;subst hb
     have:i=n:=by omega
     subst this;exact ha
theorem B6.slice {α:Type} {f:α→List Ac} {Pa:α→Prop} {e:TypeId} {sz:Nat} (ht:P.underlying t=some (.slice e)) (hc:P.cellsOf e=sz) (hsz:1≤sz) (hl:∀ a,(f a).length=sz)
    (hg:∀ a,∀ c∈f a,Ac.g0 c=true) (h:B6 P e f Pa):B6 P t (fun l:List α=>[.sl sz (l.map f)]) (fun l=>l.length≤9223372036854775807∧∀ a∈l,Pa a):=by
  constructor
  intro H enc w base spare held fuel cs x hx
  rcases DataW.trod_slice ht hx with⟨rfl,_⟩ | ⟨a,len,cap,elems,rest,n,_,rfl,_,hb,hlc,hm,hlen,hel,_⟩
  ·exact⟨[],⟨by simp,by simp⟩,.one (.sl0 none 0 sz (by simp))⟩
  ·have hmax:len≤9223372036854775807:=by have:=Nf;omega
   have each:∀ i,i<len→∃ y,Pa y∧∃ cs',w.cells? base (a.add (i*sz)) sz=some cs'∧Ht w cs' (f y):=by
     intro i hi
     have:=hel i hi
     rw[hc]at this
     have hlt:i<elems.length:=by omega
     rw[Ai3 hlt,Option.bind_eq_some_iff]at this
     obtain⟨cs',h1,h2⟩:=this
     obtain⟨y,hy1,hy2⟩:=h.op h2
     exact⟨y,hy1,cs',h1,hy2⟩
   obtain⟨l,hll,hl2⟩:=nJ each
   refine⟨l,⟨by omega,fun y hy=>?_⟩,?_⟩
   ·obtain⟨i,hi⟩:=List.getElem?_of_mem hy
    exact(hl2 i y hi).1
   ·by_cases h0:len=0
    ·have:l=[]:=List.length_eq_zero_iff.1 (by omega)
     subst this;subst h0
     exact .one (.sl0 (some a) cap sz hm)
    ·
     have hcells:∀ i y,l[i]? =some y→∃ cs',cs'.length=sz∧Ht w cs' (f y)∧∀ k,k<sz→w.cell? ((a.add (i*sz)).add k)=cs'[k]?:=by
       intro i y hy
       obtain⟨_,cs',h1,h2⟩:=hl2 i y hy
       obtain⟨_,g1,g2⟩:=World.cells?_some h1
       exact⟨cs',g1,h2,g2⟩
     have hlt0:0<l.length:=by omega
     obtain⟨_,cs0,g0,_⟩:=hl2 0 _ (Ai3 hlt0)
     have hblk:a.block<w.heap.size:=by
       have:=World.cells?_block g0 (by omega)
       simpa[Addr.add]using this
     have hsp:a.spot=none:=by
       obtain⟨cs',g1,_,g3⟩:=hcells 0 _ (Ai3 hlt0)
       have:=g3 0 (by omega)
       rw[Ai3 (by omega)]at this
       have:=World.cell?_spot this
       simpa[Addr.add]using this
     have hadd:∀ i k,(a.add (i*sz)).add k=⟨a.block,a.off+(i*sz+k),none⟩:=by
       intro i k
       obtain⟨b,off,sp⟩:=a
       simp only at hsp
       subst hsp
       unfold Addr.add
       split<;>split<;>simp<;>omega
     have hcell:∀ i y,l[i]? =some y→∀ k,k<sz→∃ v,w.cell? ⟨a.block,a.off+(i*sz+k),none⟩=some v∧∀ c,(f y)[k]? =some c→Bj (uW w) w v c:=by
       intro i y hy k hk
       obtain⟨cs',g1,g2,g3⟩:=hcells i y hy
       have g4:=g3 k hk
       rw[hadd,Ai3 (by omega)]at g4
       exact⟨_,g4,fun c hc'=>g2.2 k _ c (Ai3 (by omega)) hc'⟩
     refine .one (.sl a len cap (l.map f) sz (fun j=>(w.cell? ⟨a.block,a.off+j,none⟩).getD undef) hsp (by simp[hll]) hlc hm hblk hsz (fun x hx=>?_) (fun x hx=>?_) (fun j hj=>?_) fun i k x c hx hc'=>?_)
     ·obtain⟨y,_,rfl⟩:=List.mem_map.1 hx;exact hl y
     ·obtain⟨y,_,rfl⟩:=List.mem_map.1 hx;exact hg y
     ·rw[List.length_map]at hj
      have hi:j / sz<l.length:=Nat.div_lt_of_lt_mul (by rw[Nat.mul_comm];exact hj)
      obtain⟨v,g1,_⟩:=hcell (j / sz) _ (Ai3 hi) (j % sz) (Nat.mod_lt _ (by omega))
      have e:j / sz*sz+j % sz=j:=by rw[Nat.mul_comm];exact Nat.div_add_mod j sz
      rw[e]at g1
      rw[g1];rfl
     ·rw[List.getElem?_map]at hx
      cases hy:l[i]? with
      | none=>simp[hy]at hx
      | some y=>
        simp only[hy,Option.map_some,Option.some.injEq]at hx
        subst hx
        have hk:k<sz:=by have:=(List.getElem?_eq_some_iff.1 hc').1;rw[hl]at this;exact this
        obtain⟨v,g1,g2⟩:=hcell i y hy k hk
        simp only[g1,Option.getD_some]
        exact g2 c hc'
theorem Ht.append {W:World} {cs cs':List Value} {zq as':List Ac} (h:Ht W cs zq) (h':Ht W cs' as'):Ht W (cs++cs') (zq++as'):=by
  refine⟨by simp[h.1,h'.1],fun i v a h1 h2=>?_⟩
  by_cases hi:i<cs.length
  ·rw[List.getElem?_append_left hi]at h1
   rw[List.getElem?_append_left (by have:=h.1;omega)]at h2
   exact h.2 i v a h1 h2
  ·rw[List.getElem?_append_right (by omega)]at h1
   rw[List.getElem?_append_right (by have:=h.1;omega),← h.1]at h2
   exact h'.2 _ v a h1 h2
structure Vk (P:Program) (tot off:Nat) (fl:List Field) {α:Type} (f:α→List Ac) (Pa:α→Prop):Prop where
  op:∀ {H:Type} {enc:TypeId×Value→H} {w:World} {base:Nat} {spare:Nat→Bool} {held:Bool} {fuel:Nat} {cs:List Value},cs.length=tot→
   (∀ (i:Nat) (fd:Field),fl[i]? =some fd→∃ x,DataW.trod enc P w base spare held fuel fd.type ((cs.drop fd.offset).take (P.cellsOf fd.type))=some x)→∃ a,Pa a∧Ht w (cs.drop off) (f a)
theorem Vk.nil {tot:Nat}:Vk P tot tot [] (fun _:Unit=>[]) (fun _=>True):=by
  constructor
  intro H enc w base spare held fuel cs hl _
  exact⟨(),trivial,by simp[hl],fun i v a h1 h2=>by simp at h2⟩
theorem Vk.cons {tot off sz:Nat} {fd:Field} {fl:List Field} {α β:Type} {f:α→List Ac} {Pa:α→Prop} {g:β→List Ac} {Pb:β→Prop} (ho:fd.offset=off) (hs:P.cellsOf fd.type=sz)
    (h:B6 P fd.type f Pa) (h':Vk P tot (off+sz) fl g Pb):Vk P tot off (fd::fl) (fun x:α×β=>f x.1++g x.2) (fun x=>Pa x.1∧Pb x.2):=by
  constructor
  intro H enc w base spare held fuel cs hl hx
  obtain⟨x,hx0⟩:=hx 0 fd rfl
  obtain⟨a,ha1,ha2⟩:=h.op hx0
  obtain⟨b,hb1,hb2⟩:=h'.op hl fun i fd' hi=>hx (i+1) fd' (by simpa using hi)
  refine⟨(a,b),⟨ha1,hb1⟩,?_⟩
  rw[ho,hs]at ha2
  have:=ha2.append hb2
  rwa [← List.drop_drop,List.take_append_drop]at this
theorem B6.struct {tot:Nat} {fs:Array Field} {α:Type} {f:α→List Ac} {Pa:α→Prop} (ht:P.underlying t=some (.struct fs)) (hc:P.cellsOf t=tot) (h:Vk P tot 0 fs.toList f Pa):B6 P t f Pa:=by
  constructor
  intro H enc w base spare held fuel cs x hx
  obtain⟨xs,n,rfl,_,hl,hxs,hf⟩:=DataW.trod_struct ht hx
  have:=h.op (cs:=cs) (by rw[hl,hc]) fun i fd hi=>by
    have hi':fs[i]? =some fd:=by simpa using hi
    have:=hf i fd hi'
    have hlt:i<xs.length:=by rw[hxs];exact(Array.getElem?_eq_some_iff.1 hi').1
    rw[Ai3 hlt]at this
    exact⟨_,this⟩
  simpa using this
structure M4 (P:Program) (t:TypeId) {α:Type} (g:α→Ac) (Pa:α→Prop):Prop where
  op:∀ {H:Type} {enc:TypeId×Value→H} {w:World} {base b0:Nat} {r:Reach} {spare:Nat→Bool} {held:Bool} {v:Value} {d:DataW H} {ps:List MemPlace},
   Value.okWide P w r b0 t v→DataW.Trod enc P w base spare held t v d ps→∃ a,Pa a∧Bj (uW w) w v (g a)
theorem Ht.head {W:World} {v:Value} {a:Ac} (h:Ht W [v] [a]):Bj (uW W) W v a:=h.2 0 v a rfl rfl
theorem M4.struct {fs:Array Field} {α:Type} {f:α→List Ac} {Pa:α→Prop} (ht:P.underlying t=some (.struct fs)) (h:B6 P t f Pa):M4 P t (fun a=>.agg (f a)) Pa:=by
  constructor
  intro H enc w base b0 r spare held v d ps hval ⟨fuel,hf⟩
  obtain⟨cs,rfl,_⟩:=Go.WideShapes.okWide_struct ht hval
  obtain⟨a,h1,h2⟩:=h.op hf
  refine⟨a,h1,.agg cs (f a) (by simpa[Value.cells]using h2.1) fun i u c hu hc=>h2.2 i u c (by simpa[Value.cells]using hu) hc⟩
theorem M4.slice {e:TypeId} {α:Type} {g:α→Ac} {Pa:α→Prop} (ht:P.underlying t=some (.slice e)) (h:B6 P t (fun a=>[g a]) Pa):M4 P t g Pa:=by
  constructor
  intro H enc w base b0 r spare held v d ps hval ⟨fuel,hf⟩
  obtain⟨a,len,cap,rfl⟩:=Go.WideShapes.okWide_slice ht hval
  obtain⟨a,h1,h2⟩:=h.op hf
  exact⟨a,h1,Ht.head (by simpa[Value.cells]using h2)⟩
theorem M4.int {k:IntKind} (ht:P.underlying t=some (.int k)):M4 P t (fun n:Int=>.int k n) (fun n=>(Lit.int k n).wf=true):=by
  constructor
  intro H enc w base b0 r spare held v d ps hval hd
  obtain⟨n,rfl,_,_,hw⟩:=Go.ChangeShapes.open_int ht hval hd
  exact⟨n,hw,.int k n⟩
theorem M4.bool (ht:P.underlying t=some .bool):M4 P t (fun b:Bool=>.bool b) (fun _=>True):=by
  constructor
  intro H enc w base b0 r spare held v d ps hval hd
  obtain⟨n,rfl,_,_⟩:=open_bool ht hval hd
  exact⟨n,trivial,.bool n⟩
theorem M4.iso {α β:Type} {f:α→Ac} {Pa:α→Prop} {g:β→Ac} {Pb:β→Prop} (h:M4 P t f Pa) (φ:α→β) (hf:∀ a,g (φ a)=f a) (hP:∀ a,Pa a→Pb (φ a)):M4 P t g Pb:=by
  constructor
  intro H enc w base b0 r spare held v d ps hval hd
  obtain⟨a,h1,h2⟩:=h.op hval hd
  exact⟨φ a,hP a h1,by rw[hf];exact h2⟩
structure Vl (P:Program) (ts:List TypeId) {α:Type} (g:α→List Ac) (Pa:α→Prop):Prop where
  op:∀ {H:Type} {enc:TypeId×Value→H} {w:World} {base b0:Nat} {r:Reach} {spare:Nat→Bool} {held:Bool} {vs:List Value} {ds:List (DataW H)} {ps:List MemPlace},
   (∀ (j:Nat) t v,ts[j]? =some t→vs[j]? =some v→Value.okWide P w r b0 t v)→DataW.TrodAll enc P w base spare held ts vs ds ps→∃ a,Pa a∧P5 (uW w) w vs (g a)
theorem Vl.nil:Vl P [] (fun _:Unit=>[]) (fun _=>True):=by
  constructor
  intro H enc w base b0 r spare held vs ds ps hv hd
  obtain⟨rfl,_,_⟩:=Go.ChangeShapes.trodAll_nil hd
  exact⟨(),trivial,rfl,fun i v a h=>by simp at h⟩
theorem Vl.cons {ts:List TypeId} {α β:Type} {f:α→Ac} {Pa:α→Prop} {g:β→List Ac} {Pb:β→Prop} (h:M4 P t f Pa) (h':Vl P ts g Pb):Vl P (t::ts) (fun x:α×β=>f x.1::g x.2) (fun x=>Pa x.1∧Pb x.2):=by
  constructor
  intro H enc w base b0 r spare held vs ds ps hv hd
  obtain⟨v,vs',d,ds',p,q,rfl,rfl,rfl,h1,h2⟩:=Go.ChangeShapes.trodAll_cons hd
  obtain⟨a,ha1,ha2⟩:=h.op (hv 0 t v rfl rfl) h1
  obtain⟨b,hb1,hb2,hb3⟩:=h'.op (fun j t v ht hv'=>hv (j+1) t v (by simpa using ht) (by simpa using hv')) h2
  refine⟨(a,b),⟨ha1,hb1⟩,by simp[hb2],fun i v' a' g1 g2=>?_⟩
  match i,g1,g2 with
  | 0,g1,g2=>simp at g1 g2;subst g1 g2;exact ha2
  | i+1,g1,g2=>exact hb3 i v' a' (by simpa using g1) (by simpa using g2)
theorem Vl.iso {ts:List TypeId} {α β:Type} {f:α→List Ac} {Pa:α→Prop} {g:β→List Ac} {Pb:β→Prop} (h:Vl P ts f Pa) (φ:α→β) (hf:∀ a,g (φ a)=f a) (hP:∀ a,Pa a→Pb (φ a)):Vl P ts g Pb:=by
  constructor
  intro H enc w base b0 r spare held vs ds ps hval hd
  obtain⟨a,h1,h2⟩:=h.op hval hd
  exact⟨φ a,hP a h1,by rw[hf];exact h2⟩
theorem jE {f:FuncId} {ts:List TypeId} {α:Type} {g:α→List Ac} {Pa:α→Prop} (spec:∀ a,Pa a→Ad P f (g a) (·= .bool true)) (ho:Vl P ts g Pa)
    {H:Type} {enc:TypeId×Value→H} {W:World} {base b0:Nat} {r:Reach} {spare:Nat→Bool} {held:Bool} {args:Array Value} {ds:List (DataW H)} {ps:List MemPlace}
    (hv:∀ (j:Nat) t v,ts[j]? =some t→args.toList[j]? =some v→Value.okWide P W r b0 t v) (hd:DataW.TrodAll enc P W base spare held ts args.toList ds ps) :
    Calls P f args W fun e W'=>e= .returned (.bool true)∧Below W.heap.size W W':=by
  obtain⟨a,h1,h2⟩:=ho.op hv hd
  refine(spec a h1 (fun b=>b<W.heap.size) W args.toList (fun b h=>h) h2).mono fun e W' ⟨v,r,he,hr,_,hb,hrep⟩=>?_
  subst hr he
  cases hrep
  exact⟨rfl,hb⟩
theorem dK {H:Type} {enc:TypeId×Value→H} {w:World} {base:Nat} {spare:Nat→Bool} {held:Bool}:∀ {ts:List TypeId} {vs:List Value} {ds:List (DataW H)} {ps:List MemPlace},
    DataW.TrodAll enc P w base spare held ts vs ds ps→vs.length=ts.length∧ds.length=ts.length
  | [],vs,ds,ps,h=>by obtain⟨rfl,rfl,_⟩:=Go.ChangeShapes.trodAll_nil h;exact⟨rfl,rfl⟩
  | t::ts,vs,ds,ps,h=>by
    obtain⟨v,vs',d,ds',p,q,rfl,rfl,rfl,_,h2⟩:=Go.ChangeShapes.trodAll_cons h
    have:=dK h2
    simp[this.1,this.2]
theorem Ys {H:Type} {enc:TypeId×Value→H} (hl:laidOutB P=true) {W W':World} (hb:Below W.heap.size W W'):∀ {ts:List TypeId} {vs:List Value} {ds:List (DataW H)} {ps:List MemPlace},
    (ts.all fun t=>P.readableRec t&&decide (t<P.types.size))=true→DataW.TrodAll enc P W 0 (fun _=>true) true ts vs ds ps→DataW.TrodAll enc P W' 0 (fun b=>decide (b<W.heap.size)) true ts vs ds ps
  | [],vs,ds,ps,_,h=>by obtain⟨rfl,rfl,rfl⟩:=Go.ChangeShapes.trodAll_nil h;exact rfl
  | t::ts,vs,ds,ps,ht,h=>by
    obtain⟨v,vs',d,ds',p,q,rfl,rfl,rfl,h1,h2⟩:=Go.ChangeShapes.trodAll_cons h
    simp only[List.all_cons,Bool.and_eq_true,decide_eq_true_eq]at ht
    refine trodAll_cons_mk (Below.trod hl ht.1.1 ht.1.2 h1 hb ?_) (Ys hl hb ht.2 h2)
    obtain⟨m,hm⟩:=h1
    exact DataW.trod_lt m _ _ _ hm
theorem tN {C:Checked} {os:Os} {f:FuncId} {fn:Func} {s:ChangeSpec} {conds:List PathCond} {H:Type} {enc:TypeId×Value→H} {tb:TypeId}
    (own:ownKnob C.prog.godebug=none) (started:os.Started) (noInit:C.prog.inits.idxOf? f=none) (hfn:C.prog.funcs[f]? =some fn)
    (witness:∃ (w:World) (tape:Tape) (i:Input),w.os=os∧(w.forCall tape i).Shaped C.prog∧i.vars=[]∧Input.okWide C.prog (w.forCall tape i) .any w.heap.size f i∧
      s.pre6 enc C.prog fn conds false (w.forCall tape i).memory i.args∧({}:Assume).holds C.prog (lone (Frame.enter C.prog f i.args .normal) [] (w.forCall tape i)))
    (hvars:s.vars=[]) (hres:fn.resultTypes=#[tb]) (htb:C.prog.underlying tb=some .bool) (laid:laidOutB C.prog=true)
    (hread:(fn.params.toList.all fun t=>C.prog.readableRec t&&decide (t<C.prog.types.size))=true)
    (hs:∀ ds:List (DataW H),ds.length=fn.params.toList.length→(s.fn H ds).results=[.lit (.bool true)]∧(s.fn H ds).args=ds∧(s.fn H ds).vars=[])
    (calls:∀ (W:World) (b0:Nat) (args:Array Value) (ds:List (DataW H)) (ps:List MemPlace),(∀ (j:Nat) t v,fn.params.toList[j]? =some t→args.toList[j]? =some v→Value.okWide C.prog W .any b0 t v)→
      DataW.TrodAll enc C.prog W 0 (fun _=>true) true fn.params.toList args.toList ds ps→Calls C.prog f args W fun e W'=>e= .returned (.bool true)∧Below W.heap.size W W') :
    ReturnsInHanded {} C os f .any (s.pre6 enc C.prog fn conds false) (s.post enc C.prog fn false true false false):=by
  refine returnsInHanded_of_change own started noInit hfn witness ?_
  intro W base args ds gs before hval hW _ _
  have hW':=hW
  obtain⟨p,q,hA,hV,_⟩:=hW
  rw[hvars]at hV
  obtain⟨rfl,rfl⟩:=Go.ChangeShapes.trodVars_none hV
  have hlen:=dK hA
  obtain⟨h1,h2,h3⟩:=hs ds hlen.2
  refine(calls W base args ds p (fun j t v a b=>hval j t v (by simpa using a) (by simpa using b)) hA).mono fun e W' ⟨he,bel⟩=>?_
  subst he
  refine⟨_,rfl,ds,[],before,[],p,[],hW',?_,?_,?_,bel.frame _,fun h=>by cases h⟩
  ·rw[List.append_nil,h1,hres]
   exact Go.ChangeShapes.trodAll_mk1 (shut_bool htb true)
  ·rw[List.append_nil,h2]
   exact Ys laid bel hread hA
  ·rw[List.append_nil,h3,hvars]
   rfl
end
inductive Out (σ ρ:Type) where
  | next (s:σ)
  | ret (r:ρ)
def Out.cont {σ ρ:Type} (o:Out σ ρ) (g:σ→Option (Out σ ρ)):Option (Out σ ρ):=match o with | .next s=>g s | .ret r=>some (.ret r)
def Out.on {σ ρ:Type} (o:Out σ ρ) (f:σ→Option ρ):Option ρ:=match o with | .next s=>f s | .ret r=>some r
def Am {α σ ρ:Type} (step:Nat→α→σ→Option (Out σ ρ)):Nat→List α→σ→Option (Out σ ρ)
  | _,[],s=>some (.next s)
  | k,x::l,s=>(step k x s).bind fun o=>o.cont fun s'=>Am step (k+1) l s'
def Ea {σ ρ:Type} (step:σ→Option (Out σ ρ)):Nat→σ→Option (Out σ ρ)
  | 0,_=>none
  | n+1,s=>(step s).bind fun o=>o.cont fun s'=>Ea step n s'
def fuel:Nat:=1099511627776
def J0 {σ ρ:Type} (step:Nat→Unit→σ→Option (Out σ ρ)) (n:Nat) (s:σ):Option (Out σ ρ):=if n≤9223372036854775807 then Am step 0 (List.replicate n ()) s else none
def Dk {α:Type} (l:List α) (n:Int):Option α:=if 0≤n then l[n.toNat]? else none
def mpE {β:Type} (f:β→Ac) (m:List (Int×β)):List (Int×Ac):=m.map fun p=>(p.1,f p.2)
def mget {β:Type} (d:β):List (Int×β)→Int→β
  | [],_=>d
  | (k,v)::r,n=>if k=n then v else mget d r n
def mhas {β:Type}:List (Int×β)→Int→Bool
  | [],_=>false
  | (k,_)::r,n=>if k=n then true else mhas r n
def mset {β:Type}:List (Int×β)→Int→β→List (Int×β)
  | [],n,v=>[(n,v)]
  | (k,u)::r,n,v=>if k=n then(k,v)::r else(k,u)::mset r n v
theorem Af {α β:Type} {o:Option α} {f:α→Option β} {r:β} (h:o.bind f=some r):∃ x,o=some x∧f x=some r:=by
  cases o with
  | none=>cases h
  | some x=>exact ⟨x,rfl,h⟩
theorem zC {α:Type} {c:Bool} {a b:Option α} {r:α} (h:(bif c then a else b)=some r) (hc:c=true):a=some r:=by subst hc;exact h
theorem zD {α:Type} {c:Bool} {a b:Option α} {r:α} (h:(bif c then a else b)=some r) (hc:c=false):b=some r:=by subst hc;exact h
theorem Be {σ ρ:Type} {s:σ} {f:σ→Option ρ} {r:ρ} (h:(Out.next s).on f=some r):f s=some r:=h
theorem Al {σ ρ:Type} {q:ρ} {f:σ→Option ρ} {r:ρ} (h:(Out.ret q).on f=some r):some q=some r:=h
theorem Ai {σ ρ:Type} {s:σ} {g:σ→Option (Out σ ρ)} {r:Out σ ρ} (h:(Out.next s).cont g=some r):g s=some r:=h
theorem Ae {σ ρ:Type} {q:ρ} {g:σ→Option (Out σ ρ)} {r:Out σ ρ} (h:(Out.ret q).cont g=some r):r= .ret q:=(Option.some.inj h).symm
theorem Aa {α:Type} {a b:α} (h:some a=some b):b=a:=(Option.some.inj h).symm
theorem Bf {α σ ρ:Type} {step:Nat→α→σ→Option (Out σ ρ)} {k:Nat} {l:List α} {s:σ} {o:Out σ ρ} (h:Am step k (l.drop k) s=some o) (hk:¬ k<l.length):o= .next s:=by
  rw[List.drop_of_length_le (by omega)]at h;exact(Option.some.inj h).symm
theorem A9 {α σ ρ:Type} {step:Nat→α→σ→Option (Out σ ρ)} {k:Nat} {l:List α} {s:σ} {o:Out σ ρ} (h:Am step k (l.drop k) s=some o) (hk:k<l.length) :
    ∃ x b,l[k]? =some x∧step k x s=some b∧b.cont (fun s'=>Am step (k+1) (l.drop (k+1)) s')=some o:=by
  rw[List.drop_eq_getElem_cons hk]at h
  obtain⟨b,h1,h2⟩:=Af h
  exact⟨l[k],b,Ai3 hk,h1,h2⟩
theorem J4 {σ ρ:Type} {step:σ→Option (Out σ ρ)} {n:Nat} {s:σ} {o:Out σ ρ} (h:Ea step n s=some o) :
    ∃ m b,n=m+1∧step s=some b∧b.cont (fun s'=>Ea step m s')=some o:=by
  cases n with
  | zero=>cases h
  | succ m=>
    obtain⟨b,h1,h2⟩:=Af h
    exact⟨m,b,rfl,h1,h2⟩
theorem Sw {σ ρ:Type} {step:Nat→Unit→σ→Option (Out σ ρ)} {n:Nat} {s:σ} {o:Out σ ρ} (h:J0 step n s=some o):n≤9223372036854775807∧Am step 0 (List.replicate n ()) s=some o:=by
  unfold J0 at h
  split at h
  ·exact⟨by assumption,h⟩
  ·cases h
theorem fD {α:Type} {l:List α} {n:Int} {x:α} (h:Dk l n=some x):0≤n∧n<l.length∧l[n.toNat]? =some x:=by
  unfold Dk at h
  split at h
  ·rename_i h0
   have:=(List.getElem?_eq_some_iff.1 h).1
   exact⟨h0,by omega,h⟩
  ·cases h
theorem Ay {α:Type} {l:List α} {k:Nat} {x:α} (h:l[k]? =some x):Dk l (k:Int)=some x:=by
  simp[Dk,h]
theorem Bn.of {α:Type} {f:α→List Ac} {l:List α} {n:Int} {x:α} {sz:Nat} {K:List Ac→Prop} (hx:Dk l n=some x) (h:K (f x)):Bn sz (l.map f) n K:=by
  obtain⟨h1,h2,h3⟩:=fD hx
  refine⟨h1,by simpa using h2,fun y hy _=>?_⟩
  simp only[List.getElem?_map,h3,Option.map_some,Option.some.injEq]at hy
  subst hy;exact h
theorem De.of {α:Type} {f:α→List Ac} {l:List α} {n:Int} {x:α} {sz:Nat} {K:List Ac→Prop} (hx:Dk l n=some x) (h:K (f x)):De sz (l.map f) n.toNat K:=by
  obtain⟨h1,h2,h3⟩:=fD hx
  intro y hy _
  simp only[List.getElem?_map,h3,Option.map_some,Option.some.injEq]at hy
  subst hy;exact h
theorem De.ofNat {α:Type} {f:α→List Ac} {l:List α} {n:Nat} {x:α} {sz:Nat} {K:List Ac→Prop} (hx:Dk l (n:Int)=some x) (h:K (f x)):De sz (l.map f) n K:=De.of hx h
theorem Kw {α:Type} {l:List α} {n:Int} {m:Nat} {x:α} {R:Prop} (hx:Dk l n=some x) (hm:m=l.length) (h:R):0≤n∧n<(m:Int)∧R:=by
  obtain⟨h1,h2,_⟩:=fD hx
  exact⟨h1,by omega,h⟩
theorem kP {β:Type} (f:β→Ac) (d:β):∀ (m:List (Int×β)) (n:Int),alook (mpE f m) n=if mhas m n then some (f (mget d m n))else none
  | [],_=>rfl
  | (k,v)::r,n=>by
    simp only[mpE,List.map_cons,alook,mhas,mget]
    split
    ·rfl
    ·exact kP f d r n
theorem nH {β:Type} {d:β}:∀ {m:List (Int×β)} {n:Int},mhas m n=false→mget d m n=d
  | [],_,_=>rfl
  | (k,v)::r,n,h=>by
    simp only[mhas,mget]at h ⊢
    split at h
    ·cases h
    ·rename_i hk;rw[if_neg hk];exact nH h
theorem D1.of {β:Type} {f:β→Ac} {m:List (Int×β)} {n:Int} {d:β} {z:Ac} {K:Ac→Bool→Prop} (hd:f d=z) (h:K (f (mget d m n)) (mhas m n)):D1 (mpE f m) n z K:=by
  unfold D1
  rw[kP f d]
  cases hb:mhas m n with
  | true=>rw[hb]at h;simp;exact h
  | false=>rw[hb,nH hb,hd]at h;simp;exact h
theorem oQ {β:Type} (f:β→Ac):∀ (m:List (Int×β)) (n:Int) (v:β),aset (mpE f m) n (f v)=mpE f (mset m n v)
  | [],_,_=>rfl
  | (k,u)::r,n,v=>by
    have ih:=oQ f r n v
    simp only[mpE,List.map_cons,aset,mset]at ih ⊢
    split<;>simp[ih]
theorem lK {β:Type} (f:β→Ac) (m:List (Int×β)):(mpE f m).length=m.length:=by simp[mpE]
theorem x5 {α β:Type} (f:α→β) (l m:List α):l.map f++m.map f=(l++m).map f:=(List.map_append).symm
theorem sQ {α β:Type} (f:α→β) (l:List α) (n:Nat):(l.map f).take n=(l.take n).map f:=(List.map_take).symm
theorem uF {α β:Type} (f:α→β) (l:List α) (n:Nat):(l.map f).drop n=(l.drop n).map f:=(List.map_drop).symm
section
variable {P:Program} {md:Option Nat} {n:Nat} {Q:Exit→Fr→List Ar→Prop} {outer:List Fr} {fr:Fr} {H:List Ar}
theorem AWP.Le {ι:Type} {c d:Code} (F:ι→Fr) (HH:ι→List Ar) (J:ι→Prop) (hb:∀ x,Mh (HH x).length (F x)=true∧jG (HH x).length (HH x)=true∧outer.all (Mh (HH x).length)=true)
    (hc:AWP md P n c (qthen (fun fr' H'=>∃ x,J x∧fM fr' (F x)∧Yh H' (HH x)) Q) outer fr H) (hd:∀ x,J x→AWP md P n d Q outer (F x) (HH x)):AWP md P n (.seq c d) Q outer fr H:=by
  refine AWP.seq (AWP.mono ?_ hc)
  intro e fr' H' h
  cases e with
  | normal=>
    obtain⟨x,h1,h2,h3⟩:=h
    exact AWP.sub (Sub.weak h3 h2 (.inr (hb x))) (hd x h1)
  | _=>exact h
end
def Om (v v':Ac):Prop:=match v' with | .sl _ xs=>v=v'∨(v= .nils∧xs=[]) | _=>v=v'
def Ol:List Ac→List Ac→Prop
  | [],[]=>True
  | c::r,c'::r'=>Om c c'∧Ol r r'
  | _,_=>False
def Rv (v v':Ac):Prop:=match v' with | .agg ds=>(match v with | .agg cs=>Ol cs ds | _=>False) | .sl _ xs=>v=v'∨(v= .nils∧xs=[]) | _=>v=v'
def Rt:List Ac→List Ac→Prop
  | [],[]=>True
  | c::r,c'::r'=>Rv c c'∧Rt r r'
  | _,_=>False
def Ru (v v':Ac):Prop:=match v' with | .tuple ds=>(match v with | .tuple cs=>Rt cs ds | _=>False) | .agg ds=>(match v with | .agg cs=>Ol cs ds | _=>False) | .sl _ xs=>v=v'∨(v= .nils∧xs=[]) | _=>v=v'
theorem gG {C:Ctx} {w:World} {u:Value} {a a':Ac} (h:Om a a') (hr:Bj C w u a):Bj C w u a'∧(a.g0=true→a'.g0=true):=by
  unfold Om at h
  split at h
  ·rcases h with rfl | ⟨rfl,rfl⟩
   ·exact⟨hr,id⟩
   ·cases hr;exact⟨.sl0 _ _ _ (Nat.zero_le _),fun _=>rfl⟩
  ·subst h;exact⟨hr,id⟩
theorem aA:∀ {cs cs':List Ac},Ol cs cs'→cs.length=cs'.length∧∀ (i:Nat) c',cs'[i]? =some c'→∃ c,cs[i]? =some c∧Om c c'
  | [],[],_=>⟨rfl,by simp⟩
  | c::r,c'::r',h=>by
    have ih:=aA h.2
    refine⟨by simp[ih.1],fun i d hi=>?_⟩
    match i,hi with
    | 0,hi=>simp at hi;subst hi;exact⟨c,rfl,h.1⟩
    | i+1,hi=>exact ih.2 i d (by simpa using hi)
  | [],_::_,h=>h.elim
  | _::_,[],h=>h.elim
theorem gD:∀ {cs cs':List Ac},Rt cs cs'→cs.length=cs'.length∧∀ (i:Nat) c',cs'[i]? =some c'→∃ c,cs[i]? =some c∧Rv c c'
  | [],[],_=>⟨rfl,by simp⟩
  | c::r,c'::r',h=>by
    have ih:=gD h.2
    refine⟨by simp[ih.1],fun i d hi=>?_⟩
    match i,hi with
    | 0,hi=>simp at hi;subst hi;exact⟨c,rfl,h.1⟩
    | i+1,hi=>exact ih.2 i d (by simpa using hi)
  | [],_::_,h=>h.elim
  | _::_,[],h=>h.elim
theorem nD {C:Ctx} {w:World} {u:Value} {cs ds:List Ac} (h:Ol cs ds) (hr:Bj C w u (.agg cs)):Bj C w u (.agg ds)∧((Ac.agg cs).g1=true→(Ac.agg ds).g1=true):=by
  have hg:=aA h
  cases hr with
  | agg arr _ hl hc=>
    refine⟨.agg arr ds (by rw[hl,hg.1]) fun i u c h1 h2=>?_,fun hk=>?_⟩
    ·obtain⟨c0,h3,h4⟩:=hg.2 i c h2
     exact(gG h4 (hc i u c0 h1 h3)).1
    ·simp only[Ac.g1,List.all_eq_true]at hk ⊢
     intro c hm
     obtain⟨i,hi⟩:=List.getElem?_of_mem hm
     obtain⟨c0,h3,h4⟩:=hg.2 i c hi
     have hlt:i<arr.size:=by rw[hl];exact(List.getElem?_eq_some_iff.1 h3).1
     exact(gG h4 (hc i _ c0 (Array.getElem?_eq_getElem hlt) h3)).2 (hk c0 (Ai4 h3))
theorem gF {C:Ctx} {w:World} {u:Value} {a a':Ac} (h:Rv a a') (hr:Bj C w u a):Bj C w u a'∧(a.g1=true→a'.g1=true):=by
  unfold Rv at h
  split at h
  ·split at h
   ·exact nD h hr
   ·exact h.elim
  ·rcases h with rfl | ⟨rfl,rfl⟩
   ·exact⟨hr,id⟩
   ·cases hr;exact⟨.sl0 _ _ _ (Nat.zero_le _),fun _=>rfl⟩
  ·subst h;exact⟨hr,id⟩
theorem nE {C:Ctx} {w:World} {u:Value} {a a':Ac} (h:Ru a a') (hr:Bj C w u a):Bj C w u a'∧(a.g2=true→a'.g2=true):=by
  unfold Ru at h
  split at h
  ·split at h
   ·rename_i v ds _ cs
    have hg:=gD h
    cases hr with
    | tuple arr _ hl hc=>
      refine⟨.tuple arr _ (by rw[hl,hg.1]) fun i u c h1 h2=>?_,fun hk=>?_⟩
      ·obtain⟨c0,h3,h4⟩:=hg.2 i c h2
       exact(gF h4 (hc i u c0 h1 h3)).1
      ·simp only[Ac.g2,List.all_eq_true]at hk ⊢
       intro c hm
       obtain⟨i,hi⟩:=List.getElem?_of_mem hm
       obtain⟨c0,h3,h4⟩:=hg.2 i c hi
       have hlt:i<arr.size:=by rw[hl];exact(List.getElem?_eq_some_iff.1 h3).1
       exact(gF h4 (hc i _ c0 (Array.getElem?_eq_getElem hlt) h3)).2 (hk c0 (Ai4 h3))
   ·exact h.elim
  ·split at h
   ·exact nD h hr
   ·exact h.elim
  ·rcases h with rfl | ⟨rfl,rfl⟩
   ·exact⟨hr,id⟩
   ·cases hr;exact⟨.sl0 _ _ _ (Nat.zero_le _),fun _=>rfl⟩
  ·subst h;exact⟨hr,id⟩
theorem Ad.nle {P:Program} {f:FuncId} {args:List Ac} {r':Ac} (h:Ad P f args (fun r=>Ru r r')):Ad P f args (·=r'):=by
  intro A w vs hA hv
  refine(h A w vs hA hv).mono fun e w' ⟨v,r,h1,h2,h3,h4,h5⟩=>?_
  have:=nE h2 h5
  exact⟨v,r',h1,rfl,this.2 h3,h4,this.1⟩
theorem Ad.yS {P:Program} {f:FuncId} {args args':List Ac} {R:Ac→Prop} (hn:Rt args args') (h:Ad P f args' R):Ad P f args R:=by
  intro A w vs hA hv
  refine h A w vs hA ?_
  have hg:=gD hn
  refine⟨by rw[hv.1,hg.1],fun i v a h1 h2=>?_⟩
  obtain⟨c,h3,h4⟩:=hg.2 i a h2
  exact(gF h4 (hv.2 i v c h1 h3)).1
theorem wG (l:List Int) (a:Int):l.map A2++[[.int .i64 a]]=(l++[a]).map A2:=by simp[A2]
theorem wF (l:List Int) (i:Nat) (a:Int):(l.map A2).set i [.int .i64 a]=(l.set i a).map A2:=by simp[A2]
theorem vK (n:Nat) (a:Int):List.replicate n [Ac.int .i64 a]=(List.replicate n a).map A2:=by simp[A2]
def Yy (b:Bool):Ac:=.bool b
theorem uI (m:List (Int×Bool)) (n:Int) (v:Bool):aset (mpE Yy m) n (.bool v)=mpE Yy (mset m n v):=oQ Yy m n v
theorem Dg {β:Type} (f:β→Ac):mpE f []=[]:=rfl
def chk {α:Type} (n:Nat) (o:Option α):Option α:=if n≤549755813888 then o else none
theorem B4 {α:Type} {n:Nat} {o:Option α} {r:α} (h:chk n o=some r):n≤549755813888∧o=some r:=by
  unfold chk at h
  split at h
  ·exact⟨by assumption,h⟩
  ·cases h
def yM {α:Type} (n:Int) (o:Option α):Option α:=if 0≤n∧n≤549755813888 then o else none
theorem yL {α:Type} {n:Int} {o:Option α} {r:α} (h:yM n o=some r):0≤n∧n≤549755813888∧o=some r:=by
  unfold yM at h
  split at h
  ·rename_i hn;exact⟨hn.1,hn.2,h⟩
  ·cases h
def nz {α:Type} (n:Int) (o:Option α):Option α:=if n=0 then none else o
theorem nA {α:Type} {n:Int} {o:Option α} {r:α} (h:nz n o=some r):¬ n=0∧o=some r:=by
  unfold nz at h
  split at h
  ·cases h
  ·exact⟨by assumption,h⟩
theorem Rz {α:Type} {l:List α} {n:Int} {x y:α} (h:Dk l n=some x):Dk (l.set n.toNat y) n=some y:=by
  obtain⟨h1,h2,h3⟩:=fD h
  unfold Dk
  rw[if_pos h1,List.getElem?_set_self (by omega)]
open Classical in
def okB {α:Type} (c:Bool) (o:Option α):Option α:=bif c then o else none
theorem Jm {α:Type} {p:Prop} [Decidable p] {o:Option α} {r:α} (h:okB (decide p) o=some r):p∧o=some r:=by
  unfold okB at h
  by_cases hp:p
  ·rw[Ai1 hp]at h;exact⟨hp,h⟩
  ·rw[Ai2 hp]at h;cases h
theorem pK {α:Type} (l:List α) (a:α):(l++[a]).take (l.length+1)=l++[a]:=List.take_of_length_le (by simp)
def dW (r v sz:Nat) (xs:List (List Ac)) (a:Ac):Ac:=
  match a with
  | .own r' v' lo len=>if r'=r then(if v'=v then .sl sz ((xs.drop lo).take len)else a)else a
  | _=>a
def Yx (r v sz:Nat) (xs:List (List Ac)):List Ac→List Ac
  | []=>[]
  | a::l=>dW r v sz xs a::Yx r v sz xs l
def Sv (r v sz:Nat) (xs:List (List Ac)) (a:Ac):Ac:=
  match a with
  | .agg cs=>.agg (Yx r v sz xs cs)
  | a=>dW r v sz xs a
def aG (r v sz:Nat) (xs:List (List Ac)):List Ac→List Ac
  | []=>[]
  | a::l=>Sv r v sz xs a::aG r v sz xs l
def Zl (r v sz:Nat) (xs:List (List Ac)):Fr→Fr
  | []=>[]
  | (k,a)::fr=>(k,Sv r v sz xs a)::Zl r v sz xs fr
theorem nP {W0:World} {C:Ctx} {w:World} (I:Inv W0 C w) {r v sz:Nat} {xs:List (List Ac)} (hr:C.H[r]? =some (.row v sz xs)) {u:Value} {lo len:Nat} (h:Bj C w u (.own r v lo len)) :
    Bj (C.freeze r) w u (.sl sz ((xs.drop lo).take len)):=by
  cases h with
  | own ad _ cap _ _ _ hlt hlc hcm hh=>
    obtain⟨_,hh⟩:=hh _ _ _ hr
    obtain⟨hle,hh⟩:=hh rfl
    have hlen:((xs.drop lo).take len).length=len:=by simp;omega
    obtain⟨hsz1,hsz,hg,ho⟩:=I.objs r _ hr
    by_cases h0:len=0
    ·subst h0
     simp only[List.take_zero]
     exact .sl0 _ _ _ hcm
    ·rcases hh with hh | ⟨l,hl,rfl,hfit⟩
     ·omega
     rcases ho with⟨e1,_⟩ | ⟨l',arr,T',e1,e2,e3,e4,e5⟩
     ·subst e1;simp at hle;omega
     rw[hl,Option.some.injEq]at e1
     subst e1
     have hmul:(lo+len)*sz≤xs.length*sz:=Nat.mul_le_mul_right _ hle
     have hadd:(lo+len)*sz=lo*sz+len*sz:=Nat.add_mul _ _ _
     have key:=I.freeze r
     refine .sl _ _ _ _ _ (fun j=>arr.getD (l.base+lo*sz+j) undef) rfl hlen.symm hlc hcm (.inr ⟨l,hl,rfl⟩) hsz1
       (fun x hx=>hsz x (List.mem_of_mem_drop (List.mem_of_mem_take hx))) (fun x hx=>hg x (List.mem_of_mem_drop (List.mem_of_mem_take hx))) (fun j hj=>?_) fun i k x c hx hc=>?_
     ·rw[hlen]at hj
      simp only[World.cell?,e2]
      have:l.base+lo*sz+j<arr.size:=by omega
      simp[Array.getD,this]
     ·rw[List.getElem?_take]at hx
      split at hx
      ·rename_i hi
       rw[List.getElem?_drop]at hx
       obtain⟨u,hu,hur⟩:=e5 _ k x c hx hc
       have e:l.base+((lo+i)*sz+k)=l.base+lo*sz+(i*sz+k):=by rw[Nat.add_mul];omega
       rw[e]at hu
       have:arr.getD (l.base+lo*sz+(i*sz+k)) undef=u:=by rw[Array.getD_eq_getD_getElem?,hu];rfl
       rw[this]
       exact hur.mono key.2
      ·cases hx
theorem cX {W0:World} {C:Ctx} {w:World} (I:Inv W0 C w) {r v sz:Nat} {xs:List (List Ac)} (hr:C.H[r]? =some (.row v sz xs)) {u:Value} {a:Ac} (h:Bj C w u a) :
    Bj (C.freeze r) w u (dW r v sz xs a):=by
  have key:=I.freeze r
  unfold dW
  split
  ·split
   ·rename_i e
    split
    ·rename_i e2
     subst e e2
     exact nP I hr h
    ·exact h.mono key.2
   ·exact h.mono key.2
  ·exact h.mono key.2
theorem cT (r v sz:Nat) (xs:List (List Ac)):∀ (l:List Ac),(Yx r v sz xs l).length=l.length∧∀ (i:Nat) c,(Yx r v sz xs l)[i]? =some c→∃ c0,l[i]? =some c0∧c=dW r v sz xs c0
  | []=>⟨rfl,by simp[Yx]⟩
  | a::l=>by
    have ih:=cT r v sz xs l
    refine⟨by simp[Yx,ih.1],fun i c hi=>?_⟩
    match i,hi with
    | 0,hi=>simp only[Yx,List.getElem?_cons_zero,Option.some.injEq]at hi;exact⟨a,rfl,hi.symm⟩
    | i+1,hi=>simp only[Yx,List.getElem?_cons_succ]at hi;simpa using ih.2 i c hi
theorem cW {W0:World} {C:Ctx} {w:World} (I:Inv W0 C w) {r v sz:Nat} {xs:List (List Ac)} (hr:C.H[r]? =some (.row v sz xs)) {u:Value} {a:Ac} (h:Bj C w u a) :
    Bj (C.freeze r) w u (Sv r v sz xs a):=by
  unfold Sv
  split
  ·rename_i cs
   have hg:=cT r v sz xs cs
   cases h with
   | agg arr _ hl hc=>
     refine .agg arr _ (by rw[hl,hg.1]) fun i u c h1 h2=>?_
     obtain⟨c0,h3,rfl⟩:=hg.2 i c h2
     exact cX I hr (hc i u c0 h1 h3)
  ·exact cX I hr h
theorem kC (r v sz:Nat) (xs:List (List Ac)):∀ (l:List Ac),(aG r v sz xs l).length=l.length∧∀ (i:Nat) c,(aG r v sz xs l)[i]? =some c→∃ c0,l[i]? =some c0∧c=Sv r v sz xs c0
  | []=>⟨rfl,by simp[aG]⟩
  | a::l=>by
    have ih:=kC r v sz xs l
    refine⟨by simp[aG,ih.1],fun i c hi=>?_⟩
    match i,hi with
    | 0,hi=>simp only[aG,List.getElem?_cons_zero,Option.some.injEq]at hi;exact⟨a,rfl,hi.symm⟩
    | i+1,hi=>simp only[aG,List.getElem?_cons_succ]at hi;simpa using ih.2 i c hi
theorem gW (r v sz:Nat) (xs:List (List Ac)):∀ (fr:Fr) (t:Nat),get (Zl r v sz xs fr) t=Sv r v sz xs (get fr t)
  | [],t=>rfl
  | (k,a)::fr,t=>by
    have ih:=gW r v sz xs fr t
    simp only[Zl,get]at ih ⊢
    split
    ·rfl
    ·exact ih
def Me (r v sz:Nat) (xs:List (List Ac)):List (Int×Ac)→List (Int×Ac)
  | []=>[]
  | (k,a)::es=>(k,Sv r v sz xs a)::Me r v sz xs es
theorem j9 (r v sz:Nat) (xs:List (List Ac)):∀ (l:List (Int×Ac)) (i:Nat),(Me r v sz xs l)[i]? =(l[i]?).map fun p=>(p.1,Sv r v sz xs p.2)
  | [],i=>by simp[Me]
  | (k,a)::es,0=>by simp[Me]
  | (k,a)::es,i+1=>by simp[Me,j9 r v sz xs es i]
theorem gZ {r v sz:Nat} {xs:List (List Ac)} {l:List (Int×Ac)} {i:Nat} {p:Int×Ac} (h:(Me r v sz xs l)[i]? =some p):∃ p0,l[i]? =some p0∧p=(p0.1,Sv r v sz xs p0.2):=by
  rw[j9]at h
  cases hc:l[i]? with
  | none=>rw[hc]at h;cases h
  | some c0=>rw[hc]at h;exact⟨c0,rfl,(Option.some.inj h).symm⟩
theorem hN (r v sz:Nat) (xs:List (List Ac)):∀ l:List (Int×Ac),(Me r v sz xs l).map (·.1)=l.map (·.1)
  | []=>rfl
  | (k,a)::es=>by simp[Me,hN r v sz xs es]
theorem j8 (r v sz:Nat) (xs:List (List Ac)):∀ l:List (Int×Ac),(Me r v sz xs l).length=l.length
  | []=>rfl
  | (k,a)::es=>by simp[Me,j8 r v sz xs es]
theorem P6.frz {q:Bool} {r v sz:Nat} {xs:List (List Ac)} {en:Array MapEntry} {cl:Nat} {es:List (Int×Ac)} (h:P6 q en cl es):P6 q en cl (Me r v sz xs es):=
  ⟨by rw[j8];exact h.size,fun i e p a b=>by
    obtain⟨p0,h1,rfl⟩:=gZ b
    exact h.keys i e p0 a h1,by rw[hN];exact h.nodup,h.born,h.bnodup⟩
def gY (r v sz:Nat) (xs:List (List Ac)) (o:Ar):Ar:=
  match o with
  | .box cs=>.box (Yx r v sz xs cs)
  | .mpo q es=>.mpo q (Me r v sz xs es)
  | o=>o
def Ju (r v sz:Nat) (xs:List (List Ac)):List Ar→List Ar
  | []=>[]
  | o::H=>gY r v sz xs o::Ju r v sz xs H
theorem cV (r v sz:Nat) (xs:List (List Ac)):∀ (H:List Ar) (i:Nat),(Ju r v sz xs H)[i]? =(H[i]?).map (gY r v sz xs)
  | [],i=>by simp[Ju]
  | o::H,0=>by simp[Ju]
  | o::H,i+1=>by simp[Ju,cV r v sz xs H i]
theorem cU (r v sz:Nat) (xs:List (List Ac)):∀ H:List Ar,(Ju r v sz xs H).length=H.length
  | []=>rfl
  | o::H=>by simp[Ju,cU r v sz xs H]
def Ctx.Ds (C:Ctx) (r v sz:Nat) (xs:List (List Ac)):Ctx:={C.freeze r with H:=Ju r v sz xs (C.H.set r .gone)}
theorem Inv.Ds {W0:World} {C:Ctx} {w:World} (I:Inv W0 C w) {r v sz:Nat} {xs:List (List Ac)} (hr:C.H[r]? =some (.row v sz xs)) :
    Inv W0 (C.Ds r v sz xs) w∧E9 (C.freeze r) w (C.Ds r v sz xs) w:=by
  have key:=I.freeze r
  have m:E9 (C.freeze r) w (C.Ds r v sz xs) w:=by
    refine⟨fun b hb=>⟨hb,rfl⟩,by simp[Ctx.Ds,cU,Ctx.freeze],rfl,fun r' hr'=>?_⟩
    obtain⟨o,ho,hne⟩:=hr'
    have hg:(C.Ds r v sz xs).H[r']? =some (gY r v sz xs o):=by
      show(Ju r v sz xs (C.H.set r .gone))[r']? =_
      rw[cV,show(C.H.set r .gone)[r']? =some o from ho];rfl
    unfold Dn
    rw[hg,ho]
    cases o with
    | box cs=>exact ⟨⟨cs,rfl⟩,rfl⟩
    | row v' sz' xs'=>exact .inl ⟨xs',rfl,Nat.le_refl _,rfl⟩
    | mp es=>exact ⟨⟨_,rfl,rfl⟩,rfl⟩
    | mpo q es=>exact ⟨⟨_,rfl,rfl⟩,rfl⟩
    | it l c=>exact ⟨⟨l,c,rfl⟩,rfl⟩
    | lp=>exact ⟨⟨_,rfl,rfl⟩,rfl⟩
    | gone=>trivial
    | resv=>exact absurd rfl hne
  refine⟨⟨key.1.below,key.1.sub,key.1.old,fun r' l hl=>?_,key.1.inj,fun r' o ho=>?_⟩,m⟩
  ·have:=key.1.sep r' l hl
   refine⟨?_,this.2⟩
   have h:=this.1
   simpa[Ctx.Ds,cU,Ctx.freeze]using h
  ·have ho':(Ju r v sz xs (C.H.set r .gone))[r']? =some o:=ho
   rw[cV]at ho'
   cases hc:(C.H.set r .gone)[r']? with
   | none=>rw[hc]at ho';cases ho'
   | some o0=>
     rw[hc]at ho'
     obtain rfl:=Option.some.inj ho'
     have h0:=key.1.objs r' o0 hc
     cases o0 with
     | box cs=>
       have hne:r'≠r:=by
         intro e;subst e
         rw[List.getElem?_set_self (List.getElem?_eq_some_iff.1 hr).1]at hc;cases hc
       have hcs:C.H[r']? =some (.box cs):=by rw[List.getElem?_set_ne (fun h=>hne h.symm)]at hc;exact hc
       obtain⟨l,arr,T,e1,e2,e3,e4⟩:=I.objs r' _ hcs
       obtain⟨l',arr',T',f1,f2,f3,f4⟩:=h0
       have hg:=cT r v sz xs cs
       refine⟨l',arr',T',f1,f2,by rw[hg.1];exact f3,fun i u c h1 h2=>?_⟩
       obtain⟨c0,h3,rfl⟩:=hg.2 i c h2
       have hl:l=l':=by
         have:(C.freeze r).ρ r'=C.ρ r':=by simp only[Ctx.freeze];rw[if_neg hne]
         rw[this,e1]at f1;exact Option.some.inj f1
       subst hl
       rw[e2]at f2
       simp only[Option.some.injEq,Obj.cells.injEq]at f2
       obtain⟨rfl,rfl,_⟩:=f2
       exact(cX I hr (e4 i u c0 h1 h3)).mono m
     | mpo q es=>
       have hne:r'≠r:=by
         intro e;subst e
         rw[List.getElem?_set_self (List.getElem?_eq_some_iff.1 hr).1]at hc;cases hc
       have hcs:C.H[r']? =some (.mpo q es):=by rw[List.getElem?_set_ne (fun h=>hne h.symm)]at hc;exact hc
       obtain⟨l,en,cl,e1,e2,e3,e4⟩:=I.objs r' _ hcs
       have hρ:(C.Ds r v sz xs).ρ r'=C.ρ r':=by
         show(C.freeze r).ρ r'=C.ρ r'
         simp only[Ctx.freeze];rw[if_neg hne]
       refine⟨l,en,cl,by rw[hρ];exact e1,e2,e3.frz,fun i e p h1 h2=>?_⟩
       obtain⟨p0,h3,rfl⟩:=gZ h2
       exact(cW I hr (e4 i e p0 h1 h3)).mono m
     | _=>exact h0.mono m rfl fun _ _=>rfl
theorem Sub.x4 {outer:List Fr} {fr:Fr} {H:List Ar} (r:Nat) {es:List (Int×Ac)} (hr:H[r]? =some (.mpo false es)) (hg:∀ p∈es,Ac.g1 p.2=true):Sub outer fr H fr (H.set r (.mp es)):=by
  intro W0 A0 ds n outs a w R
  obtain⟨C,rfl,rfl,I,hF,hO,hn,hd⟩:=R.ex
  obtain⟨l,en,cl,e1,e2,e3,e4⟩:=I.objs r _ hr
  have hlt:r<C.H.length:=(List.getElem?_eq_some_iff.1 hr).1
  have key:=I.put hr e1 (w':=w) (o':=.mp es) (fun _ _=>rfl) rfl I.below (by
    unfold Dn
    simp only[Ctx.set,List.getElem?_set_self hlt]
    exact⟨⟨_,hr,rfl⟩,trivial⟩) fun m=>⟨l,en,cl,e1,e2,e3,hg,fun i e p h1 h2=>(e4 i e p h1 h2).mono m⟩
  exact⟨C.set r (.mp es),rfl,rfl,key.1,fun t=>(hF t).mono key.2,hO.mono key.2,hn,hd⟩
theorem Sub.Ds {outer:List Fr} {fr:Fr} {H:List Ar} (r:Nat) {v sz:Nat} {xs:List (List Ac)} (hr:H[r]? =some (.row v sz xs)):Sub outer fr H (Zl r v sz xs fr) (Ju r v sz xs (H.set r .gone)):=by
  intro W0 A0 ds n outs a w R
  obtain⟨C,rfl,rfl,I,hF,hO,hn,hd⟩:=R.ex
  have key:=I.freeze r
  have key2:=I.Ds hr
  refine⟨C.Ds r v sz xs,rfl,rfl,key2.1,fun t=>?_,(hO.mono key.2).mono key2.2,hn,hd⟩
  rw[gW]
  exact(cW I hr (hF t)).mono key2.2
theorem An.Ds {P:Program} {f:Ac} {args:List Ac} {st:List Fr} {H:List Ar} {K:Ac→List Ar→Prop} (r:Nat) {v sz:Nat} {xs:List (List Ac)} (hr:H[r]? =some (.row v sz xs))
    (h:An P f (aG r v sz xs args) st (Ju r v sz xs (H.set r .gone)) K):An P f args st H K:=by
  intro W0 C w outs fv vs I hH hO hf hl hv
  subst hH
  have key:=I.freeze r
  have key2:=I.Ds hr
  have hg:=kC r v sz xs args
  refine h W0 (C.Ds r v sz xs) w outs fv vs key2.1 rfl ((hO.mono key.2).mono key2.2) ((hf.mono key.2).mono key2.2) (by rw[hl,hg.1]) fun i u a h1 h2=>?_
  obtain⟨c0,h3,rfl⟩:=hg.2 i a h2
  exact(cW I hr (hv i u c0 h1 h3)).mono key2.2
theorem pV {W0:World} {C:Ctx} {w:World} (I:Inv W0 C w) {r v lo len sz:Nat} {xs:List (List Ac)} (hr:C.H[r]? =some (.row v sz xs)) {u:Value} (hv:Bj C w u (.own r v lo len)) :
    ∃ lx,Inv W0 (C.reloc r (.row (v+1) sz ((xs.drop lo).take len)) lx) w∧E9 C w (C.reloc r (.row (v+1) sz ((xs.drop lo).take len)) lx) w∧Bj (C.reloc r (.row (v+1) sz ((xs.drop lo).take len)) lx) w u (.own r (v+1) 0 len):=by
  obtain⟨hsz1,hsz,hg,ho⟩:=I.objs r _ hr
  have hsub:∀ x∈(xs.drop lo).take len,x∈xs:=fun x hx=>List.mem_of_mem_drop (List.mem_of_mem_take hx)
  cases hv with
  | own ad _ cap _ _ _ hlt hlc hcm hh=>
    obtain⟨_,hh⟩:=hh _ _ _ hr
    obtain⟨hle,hh⟩:=hh rfl
    have hlen:((xs.drop lo).take len).length=len:=by simp;omega
    have hadd:(lo+len)*sz=lo*sz+len*sz:=Nat.add_mul _ _ _
    have fin:∀ (lx:Option Loc),(cap=0∨∃ l,lx=some l∧ad=some ⟨l.b,l.base,none⟩∧l.base+cap*sz≤l.cap)→
     Bj (C.reloc r (.row (v+1) sz ((xs.drop lo).take len)) lx) w (.slice ad len cap) (.own r (v+1) 0 len):=by
      intro lx hc
      have hself:(C.H.set r (.row (v+1) sz ((xs.drop lo).take len)))[r]? =some (.row (v+1) sz ((xs.drop lo).take len)):=List.getElem?_set_self (List.getElem?_eq_some_iff.1 hr).1
      refine .own _ _ _ _ _ _ ⟨_,hself,by simp⟩ hlc hcm fun v' sz' xs' h'=>?_
      have h'':(C.H.set r (.row (v+1) sz ((xs.drop lo).take len)))[r]? =some (.row v' sz' xs'):=h'
      rw[hself,Option.some.injEq,Ar.row.injEq]at h''
      obtain⟨rfl,rfl,rfl⟩:=h''
      refine⟨Nat.le_refl _,fun _=>⟨by omega,?_⟩⟩
      rcases hc with hc | ⟨l,rfl,rfl,h3⟩
      ·exact .inl hc
      ·refine .inr ⟨l,by simp[Ctx.reloc],by simp,by rw[Nat.zero_add];exact h3⟩
    rcases hh with rfl | ⟨l,hl,rfl,hfit⟩
    ·have h0:len=0:=by omega
     subst h0
     have key:=I.reloc hr (Nat.lt_succ_self v) (v':=v+1) (sz':=sz) (xs':=(xs.drop lo).take 0) none (fun _ _ _=>rfl) (Nat.le_refl _) I.below (fun l h=>by cases h) fun m=>
       ⟨hsz1,by simp,by simp,.inl ⟨by simp,by simp[Ctx.reloc]⟩⟩
     exact⟨none,key.1,key.2,fin none (.inl rfl)⟩
    ·have hs:=I.sep r l hl
     have key:=I.reloc hr (Nat.lt_succ_self v) (v':=v+1) (sz':=sz) (xs':=(xs.drop lo).take len) (some ⟨l.b,l.base+lo*sz,l.cap⟩) (fun _ _ _=>rfl) (Nat.le_refl _) I.below (fun l' h=>by
       rw[Option.some.injEq]at h
       subst h
       exact⟨hs.2.1,hs.2.2.1,hs.2.2.2,fun r' l' hne hl' e=>hne (I.inj _ _ _ _ hl' hl e)⟩) fun m=>by
         refine⟨hsz1,fun x hx=>hsz x (hsub x hx),fun x hx=>hg x (hsub x hx),?_⟩
         rcases ho with⟨e1,e1'⟩ | ⟨l',arr,T',e1,e2,e3,e4,e5⟩
         ·rw[hl]at e1';cases e1'
         rw[hl,Option.some.injEq]at e1
         subst e1
         have hmul:(lo+len)*sz≤xs.length*sz:=Nat.mul_le_mul_right _ hle
         refine .inr ⟨⟨l.b,l.base+lo*sz,l.cap⟩,arr,T',by simp[Ctx.reloc],e2,e3,?_,fun i k x c hx hc=>?_⟩
         ·show l.base+lo*sz+_≤l.cap
          rw[hlen];omega
         ·rw[List.getElem?_take]at hx
          split at hx
          ·rw[List.getElem?_drop]at hx
           obtain⟨u',hu',hur⟩:=e5 _ k x c hx hc
           refine⟨u',?_,hur.mono m⟩
           rw[← hu']
           show arr[l.base+lo*sz+(i*sz+k)]? =_
           congr 1
           rw[Nat.add_mul];omega
          ·cases hx
     refine⟨_,key.1,key.2,fin _ (.inr ⟨_,rfl,rfl,?_⟩)⟩
     show l.base+lo*sz+cap*sz≤l.cap
     have:(lo+cap)*sz=lo*sz+cap*sz:=Nat.add_mul _ _ _
     omega
theorem Sub.window {outer:List Fr} {fr:Fr} {H:List Ar} (k:Nat) {r v lo len sz:Nat} {xs:List (List Ac)} (hk:get fr k= .own r v lo len) (hr:H[r]? =some (.row v sz xs)) :
    Sub outer fr H ((k,.own r (v+1) 0 len)::fr) (H.set r (.row (v+1) sz ((xs.drop lo).take len))):=by
  intro W0 A0 ds n outs a w R
  obtain⟨C,rfl,rfl,I,hF,hO,hn,hd⟩:=R.ex
  have hv:=hF k
  rw[hk]at hv
  obtain⟨lx,I',m,hu⟩:=pV I hr hv
  refine⟨C.reloc r (.row (v+1) sz ((xs.drop lo).take len)) lx,rfl,rfl,I',fun t=>?_,hO.mono m,hn,hd⟩
  simp only[get]
  split
  ·rename_i e;subst e;exact hu
  ·exact(hF t).mono m
theorem Inv.retell {W0:World} {C:Ctx} {w:World} (I:Inv W0 C w) {b j:Nat} {cs:List Ac} {c':Ac} (hb:C.H[b]? =some (.box cs))
    (hc:∀ u c,cs[j]? =some c→Bj C w u c→E9 C w (C.set b (.box (cs.set j c'))) w→Bj (C.set b (.box (cs.set j c'))) w u c') :
    Inv W0 (C.set b (.box (cs.set j c'))) w∧E9 C w (C.set b (.box (cs.set j c'))) w:=by
  obtain⟨l,arr,T,e1,e2,e3,e4⟩:=I.objs b _ hb
  have hlt:b<C.H.length:=(List.getElem?_eq_some_iff.1 hb).1
  refine I.put hb e1 (fun _ _=>rfl) rfl I.below ?_ fun m=>?_
  ·unfold Dn
   simp only[Ctx.set,List.getElem?_set_self hlt]
   exact⟨⟨cs,hb⟩,trivial⟩
  ·refine⟨l,arr,T,e1,e2,by rw[e3,List.length_set],fun i u c h1 h2=>?_⟩
   rw[List.getElem?_set]at h2
   split at h2
   ·rename_i e
    subst e
    split at h2
    ·rename_i hj
     obtain rfl:=Option.some.inj h2
     have hcj:cs[j]? =some cs[j]:=Ai3 hj
     exact hc u _ hcj (e4 j u _ h1 hcj) m
    ·cases h2
   ·exact(e4 i u c h1 h2).mono m
theorem Sub.zU {outer:List Fr} {fr:Fr} {H:List Ar} (b j sz:Nat) {cs:List Ac} (hb:H[b]? =some (.box cs)) (hj:cs[j]? =some .nils) (hsz:1≤sz) :
    Sub outer fr H fr ((H++[Ar.row 0 sz []]).set b (.box (cs.set j (.own H.length 0 0 0)))):=by
  intro W0 A0 ds n outs a w R
  obtain⟨C,rfl,rfl,I,hF,hO,hn,hd⟩:=R.ex
  have hid:Oj C.H C.H.length:=.inl rfl
  have key:=I.ghost _ hid (.row 0 sz []) (fun _=>⟨hsz,by simp,by simp,.inl ⟨rfl,I.rV hid⟩⟩)
  have hH:(C.ghost C.H.length (.row 0 sz [])).H=C.H++[.row 0 sz []]:=by simp[Ctx.ghost,Gq]
  have hlt:b<C.H.length:=(List.getElem?_eq_some_iff.1 hb).1
  have hb':(C.ghost C.H.length (.row 0 sz [])).H[b]? =some (.box cs):=by rw[hH,List.getElem?_append_left hlt];exact hb
  have key2:=key.1.retell (j:=j) (c':=.own C.H.length 0 0 0) hb' fun u c hc hu m=>by
    rw[hj]at hc
    obtain rfl:=Option.some.inj hc
    cases hu
    have hself:((C.ghost C.H.length (.row 0 sz [])).set b (.box (cs.set j (.own C.H.length 0 0 0)))).H[C.H.length]? =some (.row 0 sz []):=by
      simp only[Ctx.set];rw[List.getElem?_set_ne (by omega),hH,List.getElem?_append_right (Nat.le_refl _)];simp
    refine .own _ _ _ _ _ _ ⟨_,hself,by simp⟩ (Nat.le_refl _) (Nat.zero_le _) fun v' sz' xs' h'=>?_
    rw[hself,Option.some.injEq,Ar.row.injEq]at h'
    obtain⟨rfl,rfl,rfl⟩:=h'
    exact⟨Nat.le_refl _,fun _=>⟨by simp,.inl rfl⟩⟩
  have mm:=key.2.trans key2.2
  refine⟨(C.ghost C.H.length (.row 0 sz [])).set b (.box (cs.set j (.own C.H.length 0 0 0))),?_,rfl,key2.1,fun t=>(hF t).mono mm,hO.mono mm,hn,hd⟩
  simp only[Ctx.set,hH]
attribute [go_sem] Nat.lt_irrefl gt_iff_lt ge_iff_le or_self false_or or_false true_or or_true Nat.le_refl natCast_succ List.take_length if_true if_false and_true true_and and_self and_false false_and not_true_eq_false not_false_eq_true ne_eq Nat.zero_add Nat.add_zero Nat.sub_zero Nat.zero_le List.length_cons List.length_nil List.length_append List.length_map List.length_set List.length_replicate List.getElem?_cons_zero List.getElem?_cons_succ List.getElem?_nil List.take_zero List.take_succ_cons List.take_nil List.drop_zero List.drop_succ_cons List.drop_nil List.cons_append List.nil_append List.append_nil List.set_cons_zero List.set_cons_succ List.all_cons List.all_nil List.headD_cons List.getD_cons_zero List.getD_cons_succ Option.bind_some Option.bind_none Option.map_some Option.map_none Option.some.injEq Bool.and_true Bool.true_and Bool.false_and Bool.and_false Bool.and_self Bool.not_true Bool.not_false Bool.and_eq_true Bool.false_eq_true Bool.true_eq_false cond_true cond_false decide_true decide_false forall_const false_implies true_implies implies_true Int.toNat_natCast lK x5 sQ uF A2 Yy wG wF vK uI List.map_cons List.map_nil pK Int.le_refl gY Ju dW Sv Yx aG Zl
end Go.Ab
namespace Go.Ab
open Go
theorem Ci {α:Type} {n:Nat} {o:Option α} (h:n≤549755813888):chk n o=o:=if_pos h
theorem gC {α:Type} {n:Int} {o:Option α} (h:n≠0):nz n o=o:=if_neg h
theorem Oz {α:Type} {p:Prop} [Decidable p] {o:Option α} (h:p):okB (decide p) o=o:=by rw[okB,Ai1 h];rfl
theorem yK {α:Type} {n:Int} {o:Option α} (h:0≤n∧n≤549755813888):yM n o=o:=if_pos h
section
variable {α σ ρ:Type} {step:Nat→α→σ→Option (Out σ ρ)}
theorem hY (l:List α) (I:Nat→σ→Prop) (R:ρ→Prop) (hs:∀ k x s,l[k]? =some x→I k s→(∃ s',step k x s=some (.next s')∧I (k+1) s')∨(∃ r,step k x s=some (.ret r)∧R r)) :
    ∀ (n k:Nat) (s:σ),l.length - k=n→k≤l.length→I k s→(∃ s',Am step k (l.drop k) s=some (.next s')∧I l.length s')∨(∃ r,Am step k (l.drop k) s=some (.ret r)∧R r)
  | 0,k,s,hn,hk,hI=>by
    have:k=l.length:=by omega
    subst this
    rw[List.drop_length]
    exact .inl ⟨s,rfl,hI⟩
  | n+1,k,s,hn,hk,hI=>by
    have hlt:k<l.length:=by omega
    rw[List.drop_eq_getElem_cons hlt]
    rcases hs k _ s (Ai3 hlt) hI with⟨s',h1,h2⟩ | ⟨r,h1,h2⟩
    ·rcases hY l I R hs n (k+1) s' (by omega) hlt h2 with⟨s2,h3,h4⟩ | ⟨r,h3,h4⟩
     ·exact .inl ⟨s2,by rw[Am,h1];exact h3,h4⟩
     ·exact .inr ⟨r,by rw[Am,h1];exact h3,h4⟩
    ·exact .inr ⟨r,by rw[Am,h1];rfl,h2⟩
theorem Fe {l:List α} {s:σ} (I:Nat→σ→Prop) (R:ρ→Prop) (h0:I 0 s) (hs:∀ k x s,l[k]? =some x→I k s→(∃ s',step k x s=some (.next s')∧I (k+1) s')∨(∃ r,step k x s=some (.ret r)∧R r)) :
    (∃ s',Am step 0 l s=some (.next s')∧I l.length s')∨(∃ r,Am step 0 l s=some (.ret r)∧R r):=
  hY l I R hs _ 0 s rfl (Nat.zero_le _) h0
theorem Dt {l:List α} {s:σ} (I:Nat→σ→Prop) (h0:I 0 s) (hs:∀ k x s,l[k]? =some x→I k s→∃ s',step k x s=some (.next s')∧I (k+1) s') :
    ∃ s',Am step 0 l s=some (.next s')∧I l.length s':=by
  rcases Fe (ρ:=ρ) I (fun _=>False) h0 (fun k x s h1 h2=>.inl (hs k x s h1 h2))with h | ⟨r,_,h⟩
  ·exact h
  ·exact h.elim
theorem Ts {n k:Nat} {u x:Unit} (h:(List.replicate n u)[k]? =some x):k<n:=by
  have:=(List.getElem?_eq_some_iff.1 h).1;simpa using this
theorem W5 {n:Nat} {s:σ} {step:Nat→Unit→σ→Option (Out σ ρ)} (hn:n≤9223372036854775807) (I:Nat→σ→Prop) (R:ρ→Prop) (h0:I 0 s)
    (hs:∀ k s,k<n→I k s→(∃ s',step k () s=some (.next s')∧I (k+1) s')∨(∃ r,step k () s=some (.ret r)∧R r)) :
    (∃ s',J0 step n s=some (.next s')∧I n s')∨(∃ r,J0 step n s=some (.ret r)∧R r):=by
  rw[J0,if_pos hn]
  have:=Fe (step:=step) (l:=List.replicate n ()) I R h0 (fun k x s h1 h2=>hs k s (Ts h1) h2)
  rwa [List.length_replicate]at this
theorem aH {n:Nat} {s:σ} {step:Nat→Unit→σ→Option (Out σ ρ)} (hn:n≤9223372036854775807) (I:Nat→σ→Prop) (h0:I 0 s)
    (hs:∀ k s,k<n→I k s→∃ s',step k () s=some (.next s')∧I (k+1) s'):∃ s',J0 step n s=some (.next s')∧I n s':=by
  rcases W5 (ρ:=ρ) hn I (fun _=>False) h0 (fun k s h1 h2=>.inl (hs k s h1 h2))with h | ⟨r,_,h⟩
  ·exact h
  ·exact h.elim
theorem C4 {β:Type} {step:Nat→α→List β→Option (Out (List β) ρ)} {l:List α} (p:α→Bool) (g:α→β) (hl:l.length≤549755813888)
    (hs:∀ k x s,x∈l→step k x s=bif p x then chk (s.length+1) (some (.next (s++[g x])))else some (.next s)) :
    Am step 0 l []=some (.next ((l.filter p).map g)):=by
  obtain⟨s',h1,h2⟩:=Dt (step:=step) (l:=l) (s:=[]) (fun k s=>s=((l.take k).filter p).map g) (by simp) (fun k x s hk hI=>by
    have hlt:=(List.getElem?_eq_some_iff.1 hk).1
    have hlen:s.length≤k:=by
      rw[hI,List.length_map]
      exact Nat.le_trans (List.length_filter_le _ _) (by simp;omega)
    rw[hs k x s (Ai4 hk)]
    cases hp:p x with
    | true=>
      refine⟨s++[g x],by rw[cond_true,Ci (by omega)],?_⟩
      rw[Bx hk,List.filter_append,List.filter_cons_of_pos hp,List.filter_nil,List.map_append,hI];rfl
    | false=>
      refine⟨s,rfl,?_⟩
      rw[Bx hk,List.filter_append,List.filter_cons_of_neg (by simp[hp]),List.filter_nil,List.append_nil,hI])
  rw[h1,h2,List.take_length]
theorem Fq {step:Nat→α→Unit→Option (Out Unit ρ)} (p:α→Bool) (g:α→ρ):∀ {l:List α} {k:Nat},(∀ k x,x∈l→step k x ()=bif p x then some (.ret (g x))else some (.next ()))→
    Am step k l ()=match l.find? p with | some x=>some (.ret (g x)) | none=>some (.next ())
  | [],k,_=>rfl
  | x::l,k,hs=>by
    rw[Am,hs k x (by simp)]
    cases hp:p x with
    | true=>simp[hp,Out.cont]
    | false=>
      rw[List.find?_cons_of_neg (by simp[hp])]
      exact Fq p g (fun k y hy=>hs k y (List.mem_cons_of_mem _ hy))
theorem Um {step:Nat→α→Unit→Option (Out Unit ρ)}:∀ {l:List α} {k:Nat},Am step k l ()=some (.next ())↔∀ i x,l[i]? =some x→step (k+i) x ()=some (.next ())
  | [],k=>by simp[Am]
  | x::l,k=>by
    rw[Am]
    constructor
    ·intro h i y hy
     obtain⟨o,h1,h2⟩:=Af h
     cases o with
     | ret r=>cases h2
     | next u=>
       match i,hy with
       | 0,hy=>simp at hy;subst hy;exact h1
       | i+1,hy=>
         have:=(Um (step:=step)).1 h2 i y (by simpa using hy)
         rw[show k+(i+1)=k+1+i by omega];exact this
    ·intro h
     have h0:=h 0 x (by simp)
     rw[Nat.add_zero]at h0
     rw[h0]
     show Am step (k+1) l ()=_
     exact(Um (step:=step)).2 fun i y hy=>by
       have:=h (i+1) y (by simpa using hy)
       rwa [show k+(i+1)=k+1+i by omega]at this
end
theorem Qw {α:Type} {l:List α} {n:Int} {k:Nat} {x:α} (hn:n=(k:Int)) (hx:l[k]? =some x):Dk l n=some x:=by subst hn;exact Ay hx
theorem X3 {α:Type} {l:List α} {k:Nat} (hk:k<l.length):Dk l (k:Int)=some l[k]:=Ay (Ai3 hk)
theorem Q0 {k:Nat} (h0:0<k) (hk:k≤9223372036854775807):IntKind.i64.wrap ((k:Int) - 1)=((k - 1:Nat):Int):=by
  rw[wrap_i64]<;>omega
theorem Q1 {k:Nat} (hk:k<9223372036854775807):IntKind.i64.wrap ((k:Int)+1)=((k+1:Nat):Int):=by
  rw[wrap_i64]<;>omega
theorem Dz {α β:Type} {o:Option α} {f:α→Option β} {x:α} {y:β} (h1:o=some x) (h2:f x=some y):o.bind f=some y:=by rw[h1];exact h2
def I64 (n:Int):Prop:= -9223372036854775808≤n∧n≤9223372036854775807
theorem wf_i64 {n:Int} (h:(Lit.int .i64 n).wf=true):I64 n:=by
  simp[Lit.wf,IntKind.min,IntKind.max,IntKind.signed,IntKind.bits]at h;exact⟨by omega,by omega⟩
def OkL {α:Type} (p:α→Prop) (l:List α):Prop:=l.length≤9223372036854775807∧∀ a∈l,p a
end Go.Ab
namespace Go.Ab
open Go
section
variable {β:Type}
def mkeys (m:List (Int×β)):List Int:=m.map (·.1)
theorem X2 (d:β):∀ (m:List (Int×β)) (k:Int) (v:β) (n:Int),mget d (mset m k v) n=if k=n then v else mget d m n
  | [],k,v,n=>rfl
  | (j,u)::r,k,v,n=>by
    simp only[mset]
    by_cases h:j=k
    ·subst h
     simp only[if_true,mget]
     split<;>rfl
    ·rw[if_neg h]
     simp only[mget]
     by_cases h2:j=n
     ·subst h2
      rw[if_pos rfl,if_neg (fun e=>h e.symm),if_pos rfl]
     ·rw[if_neg h2,if_neg h2,X2 d r k v n]
theorem gJ:∀ (m:List (Int×β)) (n:Int),mhas m n=true↔n∈mkeys m
  | [],n=>by simp[mhas,mkeys]
  | (j,u)::r,n=>by
    have ih:=gJ r n
    simp only[mhas,mkeys,List.map_cons,List.mem_cons]at ih ⊢
    by_cases h:j=n
    ·simp[h]
    ·rw[if_neg h,ih]
     constructor
     ·exact .inr
     ·rintro(e | e)
      ·exact absurd e.symm h
      ·exact e
theorem U8 (j:Int) (u:β) (r:List (Int×β)):mkeys ((j,u)::r)=j::mkeys r:=rfl
theorem X1:∀ (m:List (Int×β)) (k:Int) (v:β),mkeys (mset m k v)=if k∈mkeys m then mkeys m else mkeys m++[k]
  | [],k,v=>by simp[mset,mkeys]
  | (j,u)::r,k,v=>by
    have ih:=X1 r k v
    simp only[mset]
    by_cases h:j=k
    ·subst h
     rw[if_pos rfl,U8,U8,if_pos (by simp)]
    ·rw[if_neg h,U8,U8,ih]
     have hne:¬ k=j:=fun e=>h e.symm
     by_cases h2:k∈mkeys r
     ·rw[if_pos h2,if_pos (List.mem_cons_of_mem _ h2)]
     ·rw[if_neg h2,if_neg (fun hm=>by rcases List.mem_cons.1 hm with e | e;exact hne e;exact h2 e),List.cons_append]
theorem qF {m:List (Int×β)} (h:(mkeys m).Nodup) (k:Int) (v:β):(mkeys (mset m k v)).Nodup:=by
  rw[X1]
  split
  ·exact h
  ·rename_i hk
   rw[List.nodup_append]
   refine⟨h,by simp,?_⟩
   rintro a ha b hb rfl
   simp at hb;subst hb;exact hk ha
theorem nF (m:List (Int×β)) (k:Int) (v:β):(mset m k v).length=if mhas m k then m.length else m.length+1:=by
  have h:=congrArg List.length (X1 m k v)
  have h2:=gJ m k
  by_cases hk:k∈mkeys m
  ·rw[if_pos hk]at h
   rw[if_pos (h2.2 hk)]
   simpa[mkeys]using h
  ·rw[if_neg hk]at h
   rw[if_neg (fun e=>hk (h2.1 e))]
   simpa[mkeys]using h
end
section
variable {α ρ:Type} {step:α→Unit→Option (Out Unit ρ)}
end
theorem H8 {σ ρ:Type} {step:σ→Option (Out σ ρ)} (I:σ→Prop) (R:ρ→Prop) (μ:σ→Nat) (hs:∀ s,I s→(∃ s',step s=some (.next s')∧I s'∧μ s'< μ s)∨(∃ r,step s=some (.ret r)∧R r)) :
    ∀ (n:Nat) (s:σ),I s→μ s<n→∃ r,Ea step n s=some (.ret r)∧R r
  | 0,s,_,h=>by omega
  | n+1,s,hI,h=>by
    rcases hs s hI with⟨s',h1,h2,h3⟩ | ⟨r,h1,h2⟩
    ·obtain⟨r,h4,h5⟩:=H8 I R μ hs n s' h2 (by omega)
     exact⟨r,by rw[Ea,h1];exact h4,h5⟩
    ·exact⟨r,by rw[Ea,h1];rfl,h2⟩
end Go.Ab
namespace Go.Ab
open Go Go.RowKit
theorem AWP.nI {md:Option Nat} {P:Program} {n:Nat} {Q:Exit→Fr→List Ar→Prop} {outer:List Fr} {fr:Fr} {H:List Ar} {ι:Type} {c:Code} (F:ι→Fr) (HH:ι→List Ar) (J:ι→Prop) (μ:ι→Nat) (x0:ι) (h0:J x0) (hF0:fM fr (F x0)) (hH0:Yh H (HH x0))
    (hb:∀ x,Mh (HH x).length (F x)=true∧jG (HH x).length (HH x)=true∧outer.all (Mh (HH x).length)=true)
    (round:∀ x,J x→AWP md P n c (qthen (fun fr' H'=>∃ x',J x'∧μ x'< μ x∧∃ fr2 H2,Sub outer fr' H' fr2 H2∧fM fr2 (F x')∧Yh H2 (HH x')) Q) outer (F x) (HH x)):AWP md P n (.loop c) Q outer fr H:=by
  refine AWP.loop F HH J μ x0 h0 (Sub.weak hH0 hF0 (.inr (hb x0))) fun x hx=>AWP.mono ?_ (round x hx)
  intro e fr' H' h
  cases e with
  | normal=>
    obtain⟨x',h1,h2,fr2,H2,h5,h3,h4⟩:=h
    exact⟨x',h1,h2,h5.trans (Sub.weak h4 h3 (.inr (hb x')))⟩
  | _=>exact h
theorem Bo.nle {P:Program} {f:FuncId} {args:List Ac} {r':Ac} (h:Bo P f args (fun r=>Ru r r')):Bo P f args (·=r'):=by
  intro A w vs hA hv
  refine(h A w vs hA hv).mono fun e w' ⟨v,r,h1,h2,h3,h4,h5⟩=>?_
  have:=nE h2 h5
  exact⟨v,r',h1,rfl,this.2 h3,h4,this.1⟩
theorem oS (l:List Int):((l.map A2).all fun x=>x.all Ac.f0)=true:=by simp[A2,Ac.f0]
attribute [go_sem] rfre wS uA wR oS ren rens bI dR bJ Uu swp Vu
end Go.Ab
namespace Go.Ab
open Go Go.RowKit Go.Sort
theorem tZ {w:World} {b off:Nat} {arr:Array Value} {T:TypeId} (h:w.heap[b]? =some (.cells arr T (0,0))):w.frozen? ⟨b,off,none⟩=false:=by
  simp[World.frozen?,h]
theorem Ww {w:World} {n blk off:Nat} {d:Array Int} {b:Nat} (hb:b≠blk):(putRow (Value.int .i64) (Sort.ahead w n) blk off d).heap[b]? =w.heap[b]?:=by
  simp only[putRow,mapBlock,heap_ahead,Array.getElem?_modify]
  rw[if_neg (fun e=>hb e.symm)]
theorem cR {w:World} {n blk off:Nat} {d:Array Int} {arr:Array Value} {T:TypeId} (h:w.heap[blk]? =some (.cells arr T (0,0))) :
    (putRow (Value.int .i64) (Sort.ahead w n) blk off d).heap[blk]? =some (.cells (putCells (Value.int .i64) off d arr) T (0,0)):=by
  simp only[putRow,mapBlock,heap_ahead,Array.getElem?_modify,if_true,h];rfl
theorem aS {w:World} {B n blk off:Nat} {d:Array Int} (hb:B≤blk):RowKit.Below B w (putRow (Value.int .i64) (Sort.ahead w n) blk off d):=
  ⟨rfl,rfl,rfl,by simp,fun k hk=>Ww (by omega)⟩
theorem oP {w:World} {os:Array Obj} {B:Nat} (hB:B≤w.heap.size):RowKit.Below B w (grow w os):=
  ⟨rfl,rfl,rfl,by simp,fun k hk=>heap_grow_old w os (by omega)⟩
theorem Ctx.tH (C:Ctx):C.more (fun _=>False)=C:=by
  unfold Ctx.more;simp
theorem Inv.Aa0 {W0:World} {C:Ctx} {w w':World} (I:Inv W0 C w) (hb:RowKit.Below w.heap.size w w'):Inv W0 C w'∧E9 C w C w':=by
  have:=I.grow (fun _=>False) (fun b h=>h.elim) hb
  rwa [C.tH]at this
theorem xY {C:Ctx} {w:World} {u:Value} {r v lo len:Nat} (h:Bj C w u (.own r v lo len)):∃ a cap,u= .slice a len cap∧C.known r∧len≤cap∧cap≤maxLen∧
    ∀ v' sz xs,C.H[r]? =some (.row v' sz xs)→v≤v'∧(v=v'→lo+len≤xs.length∧(cap=0∨∃ l,C.ρ r=some l∧a=some ⟨l.b,l.base+lo*sz,none⟩∧l.base+(lo+cap)*sz≤l.cap)):=by
  cases h with
  | own a _ cap _ _ _ hk hlc hcm hv=>exact ⟨a,cap,rfl,hk,hlc,hcm,hv⟩
theorem mL {W0:World} {C:Ctx} {w:World} (I:Inv W0 C w) {r v:Nat} {zs:List Int} (hr:C.H[r]? =some (.row v 1 (zs.map A2))) {u:Value} {len:Nat} (hu:Bj C w u (.own r v 0 len)) (hlen:len=zs.length) :
    ∃ a cap,u= .slice a zs.length cap∧zs.length≤cap∧((zs=[])∨∃ l arr T,C.ρ r=some l∧a=some ⟨l.b,l.base,none⟩∧w.heap[l.b]? =some (.cells arr T (0,0))∧arr.size=l.cap∧l.base+cap≤l.cap∧
      ∀ (i:Nat) z,zs[i]? =some z→arr[l.base+i]? =some (.int .i64 z)):=by
  subst hlen
  cases hu with
  | own a _ cap _ _ _ hk hlc hcm hv=>
    refine⟨a,cap,rfl,hlc,?_⟩
    obtain⟨_,hv⟩:=hv _ _ _ hr
    obtain⟨_,hv⟩:=hv rfl
    obtain⟨_,_,_,ho⟩:=I.objs r _ hr
    by_cases hz:zs=[]
    ·exact .inl hz
    ·right
     have hpos:0<zs.length:=List.length_pos_iff.2 hz
     rcases ho with⟨e,_⟩ | ⟨l',arr,T,e1,e2,e3,e4,e5⟩
     ·exact absurd (List.map_eq_nil_iff.1 e) hz
     ·rcases hv with hv | ⟨l,hl,ha,hfit⟩
      ·omega
      rw[hl,Option.some.injEq]at e1
      subst e1
      refine⟨l,arr,T,hl,by rw[ha];simp,e2,e3,by omega,fun i z hi=>?_⟩
      obtain⟨u,hu,hrep⟩:=e5 i 0 (A2 z) (.int .i64 z) (by simp[hi]) rfl
      rw[show l.base+(i*1+0)=l.base+i by omega]at hu
      rw[hu]
      cases u<;>cases hrep;rfl
theorem rT {W0:World} {C:Ctx} {w:World} {r:Nat} {v v':Nat} {zs zs' ws:List Int} {l:Loc} {arr:Array Value} {T:TypeId} (I:Inv W0 C w) (hl:C.ρ r=some l) (hc:w.heap[l.b]? =some (.cells arr T (0,0))) (hs:arr.size=l.cap) (hfit:l.base+ws.length≤l.cap) (hle:zs'.length≤ws.length)
    (hpre:∀ (i:Nat) z,zs'[i]? =some z→ws[i]? =some z) {n:Nat} {C':Ctx} (hρ:C'.ρ r=some l):V7 C' (putRow (Value.int .i64) (Sort.ahead w n) l.b l.base ws.toArray) r (.row v' 1 (zs'.map A2)):=by
  refine⟨Nat.le_refl _,fun x hx=>?_,fun x hx c hc=>?_,.inr ⟨l,_,T,hρ,cR hc,by simp[putCells,hs],by simp;omega,fun i k x c hx hc=>?_⟩⟩
  ·obtain⟨z,_,rfl⟩:=List.mem_map.1 hx;rfl
  ·obtain⟨z,_,rfl⟩:=List.mem_map.1 hx
   simp[A2]at hc;subst hc;rfl
  ·simp only[List.getElem?_map,Option.map_eq_some_iff]at hx
   obtain⟨z,hz,rfl⟩:=hx
   have hk:k=0:=by
     have:=(List.getElem?_eq_some_iff.1 hc).1
     simp[A2]at this;exact this
   subst hk
   simp[A2]at hc;subst hc
   have hi:=(List.getElem?_eq_some_iff.1 (hpre i z hz)).1
   refine⟨.int .i64 z,?_,.int _ _⟩
   have hi2:l.base+(i*1+0)<arr.size:=by omega
   simp only[putCells,Array.getElem?_mapIdx,Array.getElem?_eq_getElem hi2,Option.map_some]
   rw[if_pos (by simp;omega)]
   have e:l.base+(i*1+0) - l.base=i:=by omega
   rw[e]
   have:=hpre i z hz
   congr 2
   simp[getElem!_def,this]
section
variable {P:Program}
structure xJ (P:Program) (f:FuncId):Prop where
  some:∀ (blk off cap:Nat) (zs:List Int) (w:World),Holds (Value.int .i64) w blk off zs.toArray→blk<w.heap.size→zs.length<4611686018427387904→
    Calls P f #[.slice (some ⟨blk,off,none⟩) zs.length cap] w fun e w'=>e= .returned (.tuple #[])∧∃ n os,w'=grow (putRow (Value.int .i64) (Sort.ahead w n) blk off (zs.mergeSort fun x y=>decide (x≤y)).toArray) os
  none:∀ (p:Option Addr) (cap:Nat) (w:World),Calls P f #[.slice p 0 cap] w fun e w'=>e= .returned (.tuple #[])∧w'=w
def Dc (zs:List Int):List Int:=zs.mergeSort fun x y=>decide (x≤y)
theorem Cl (zs:List Int):(Dc zs).length=zs.length:=List.length_mergeSort _
theorem gS {w:World} {l:Loc} {arr:Array Value} {T:TypeId} {zs:List Int} (hc:w.heap[l.b]? =some (.cells arr T (0,0))) (h:∀ (i:Nat) z,zs[i]? =some z→arr[l.base+i]? =some (.int .i64 z)):Holds (Value.int .i64) w l.b l.base zs.toArray:=by
  intro j hj
  have hj':j<zs.length:=by simpa using hj
  refine⟨?_,tZ hc⟩
  rw[show w.cell? ⟨l.b,l.base+j,none⟩=arr[l.base+j]? by simp[World.cell?,hc],h j _ (Ai3 hj')]
  simp[getElem!_def,hj']
theorem An.Dc {f:FuncId} {r v len:Nat} {zs:List Int} {st:List Fr} {H:List Ar} {K:Ac→List Ar→Prop} (hc:∀ (args:Array Value) (w:World),(callFunc f args).run P w= .ok (.enter f args) w)
    (spec:xJ P f) (hr:H[r]? =some (.row v 1 (zs.map A2))) (hlen:len=zs.length) (hbd:len≤549755813888) (h:K (.tuple []) (H.set r (.row v 1 ((Go.Ab.Dc zs).map A2)))):An P (.func f []) [.own r v 0 len] st H K:=by
  intro W0 C w outs fv vs I hH hO hf hl hv
  subst hH
  cases hf with
  | func _ caps _ hcl _=>
    have:caps=#[]:=Array.eq_empty_of_size_eq_zero (by simpa using hcl)
    subst this
    refine .inl ⟨f,#[],rfl,hc,?_⟩
    match vs,hl with
    | [u],_=>
      have hu:=hv 0 u _ rfl rfl
      obtain⟨a,cap,rfl,hcap,hz⟩:=mL I hr hu hlen
      have hlt:r<C.H.length:=(List.getElem?_eq_some_iff.1 hr).1
      rcases hz with rfl | ⟨l,arr,T,hl,rfl,hcell,hsz,hfit,hget⟩
      ·refine(spec.none a cap w).mono fun e w' ⟨he,hw⟩=>?_
       subst hw
       have e0:Go.Ab.Dc []=[]:=by simp[Go.Ab.Dc]
       rw[e0]at h
       have hs:C.H.set r (.row v 1 (([]:List Int).map A2))=C.H:=by
         apply List.ext_getElem?
         intro i
         rw[List.getElem?_set]
         split
         ·rename_i e;subst e;first | (rw[hr]) | (rw[if_pos hlt,hr])
         ·rfl
       rw[hs]at h
       exact⟨.tuple #[],.tuple [],C,he,h,rfl,.tuple _ _ rfl (by simp),I,hO⟩
      ·have hS:=I.sep r l hl
       refine(spec.some l.b l.base cap zs w (gS hcell hget) hS.2.2.1 (by omega)).mono fun e w' ⟨he,n,os,hw⟩=>?_
       subst hw
       have key:=I.put (w':=putRow (Value.int .i64) (Sort.ahead w n) l.b l.base (Go.Ab.Dc zs).toArray) (o':=.row v 1 ((Go.Ab.Dc zs).map A2)) hr hl (fun b hb=>Ww hb) (by simp) (I.below.trans (aS hS.2.1)) (by
         unfold Dn
         simp only[Ctx.set,List.getElem?_set_self hlt]
         exact .inl ⟨_,hr,by simp[Cl],by trivial⟩) (fun m=>rT (zs:=zs) (v:=v) I hl hcell hsz (by rw[Cl];omega) (Nat.le_refl _) (fun i z hi=>hi) (C':=C.set r _) hl)
       have key2:=key.1.Aa0 (w':=grow (putRow (Value.int .i64) (Sort.ahead w n) l.b l.base (Go.Ab.Dc zs).toArray) os) (oP (Nat.le_refl _))
       exact⟨.tuple #[],.tuple [],C.set r (.row v 1 ((Go.Ab.Dc zs).map A2)),he,h,rfl,.tuple _ _ rfl (by simp),key2.1,(hO.mono key.2).mono key2.2⟩
structure kW (P:Program) (f:FuncId):Prop where
  some:∀ (blk off cap:Nat) (zs:List Int) (w:World),Holds (Value.int .i64) w blk off zs.toArray→zs.length≤9223372036854775807→zs.length≤cap→
    Calls P f #[.slice (some ⟨blk,off,none⟩) zs.length cap] w fun e w'=>e= .returned (.slice (some ⟨blk,off,none⟩) (Lib.compact zs).length cap)∧∃ q,w'=putRow (Value.int .i64) (Sort.ahead w q) blk off (Lib.compact zs++List.replicate (zs.length - (Lib.compact zs).length) 0).toArray
  none:∀ (a:Option Addr) (cap:Nat) (w:World),Calls P f #[.slice a 0 cap] w fun e w'=>e= .returned (.slice a 0 cap)∧w'=w
theorem oK (zs:List Int):(Lib.compact zs).length≤zs.length:=by
  unfold Lib.compact Lib.compactUpTo
  rw[List.length_map]
  exact Nat.le_trans (List.length_filter_le _ _) (by simp)
def Cg (zs:List Int):List Int:=Lib.compact zs
theorem An.Cg {f:FuncId} {r v len:Nat} {zs:List Int} {st:List Fr} {H:List Ar} {K:Ac→List Ar→Prop} (hc:∀ (args:Array Value) (w:World),(callFunc f args).run P w= .ok (.enter f args) w)
    (spec:kW P f) (hr:H[r]? =some (.row v 1 (zs.map A2))) (hlen:len=zs.length) (hbd:len≤549755813888) (h:K (.own r (v+1) 0 (Go.Ab.Cg zs).length) (H.set r (.row (v+1) 1 ((Go.Ab.Cg zs).map A2)))):An P (.func f []) [.own r v 0 len] st H K:=by
  unfold Go.Ab.Cg at h
  intro W0 C w outs fv vs I hH hO hf hl hv
  subst hH
  cases hf with
  | func _ caps _ hcl _=>
    have:caps=#[]:=Array.eq_empty_of_size_eq_zero (by simpa using hcl)
    subst this
    refine .inl ⟨f,#[],rfl,hc,?_⟩
    match vs,hl with
    | [u],_=>
      have hu:=hv 0 u _ rfl rfl
      obtain⟨a,cap,rfl,hcap,hz⟩:=mL I hr hu hlen
      have hlt:r<C.H.length:=(List.getElem?_eq_some_iff.1 hr).1
      rcases hz with rfl | ⟨l,arr,T,hl,rfl,hcell,hsz,hfit,hget⟩
      ·refine(spec.none a cap w).mono fun e w' ⟨he,hw⟩=>?_
       subst hw
       have e0:Lib.compact ([]:List Int)=[]:=rfl
       rw[e0]at h
       have hρ:C.reloc r (.row (v+1) 1 (([]:List Int).map A2)) (C.ρ r)={C with H:=C.H.set r (.row (v+1) 1 [])}:=by
         unfold Ctx.reloc
         congr 1
         funext r'
         split
         ·rename_i e;rw[e]
         ·rfl
       obtain⟨o1,o2,o3,o4⟩:=I.objs r _ hr
       have key:=I.reloc (w':=w') (v':=v+1) (sz':=1) (xs':=[]) hr (Nat.lt_succ_self v) (C.ρ r) (fun b _ _=>rfl) (Nat.le_refl _) I.below (fun l hl=>⟨(I.sep r l hl).2.1,(I.sep r l hl).2.2.1,(I.sep r l hl).2.2.2,fun r' l' hne hl' e=>hne (I.inj _ _ _ _ hl' hl e)⟩) (fun m=>by
         refine⟨Nat.le_refl _,by simp,by simp,?_⟩
         rcases o4 with⟨_,o4⟩ | ⟨l,arr,T,o4,o5,o6,o7,o8⟩
         ·exact .inl ⟨rfl,by show(if r=r then C.ρ r else _)=none;rw[if_pos rfl];exact o4⟩
         ·exact .inr ⟨l,arr,T,by show(if r=r then C.ρ r else _)=some l;rw[if_pos rfl];exact o4,o5,o6,by simp at o7 ⊢;omega,by simp⟩)
       refine⟨_,.own r (v+1) 0 0,C.reloc r (.row (v+1) 1 []) (C.ρ r),he,h,rfl,?_,key.1,hO.mono key.2⟩
       cases hu with
       | own _ _ _ _ _ _ hk hlc hcm hv'=>
         have hget:(C.H.set r (.row (v+1) 1 []))[r]? =some (.row (v+1) 1 []):=List.getElem?_set_self hlt
         refine .own a 0 cap r (v+1) 0 ⟨_,hget,by simp⟩ (Nat.zero_le _) hcm fun v' sz xs h'=>?_
         have h':(C.H.set r (.row (v+1) 1 []))[r]? =some (.row v' sz xs):=h'
         rw[hget]at h'
         simp only[Option.some.injEq,Ar.row.injEq]at h'
         obtain⟨rfl,rfl,rfl⟩:=h'
         refine⟨Nat.le_refl _,fun _=>⟨Nat.le_refl _,?_⟩⟩
         obtain⟨_,hv'⟩:=hv' _ _ _ hr
         obtain⟨_,hv'⟩:=hv' rfl
         rcases hv' with h0 | ⟨l,h1,h2,h3⟩
         ·exact .inl h0
         ·exact .inr ⟨l,by show(if r=r then C.ρ r else _)=some l;rw[if_pos rfl];exact h1,h2,h3⟩
      ·have hS:=I.sep r l hl
       refine(spec.some l.b l.base cap zs w (gS hcell hget) (by omega) hcap).mono fun e w' ⟨he,n,hw⟩=>?_
       subst hw
       have hcl:=oK zs
       have hwl:(Lib.compact zs++List.replicate (zs.length - (Lib.compact zs).length) (0:Int)).length=zs.length:=by simp;omega
       have key:=I.reloc (w':=putRow (Value.int .i64) (Sort.ahead w n) l.b l.base (Lib.compact zs++List.replicate (zs.length - (Lib.compact zs).length) 0).toArray) (v':=v+1) (sz':=1) (xs':=(Lib.compact zs).map A2) hr (Nat.lt_succ_self v) (some l)
         (fun b _ hb=>Ww (hb l rfl)) (by simp) (I.below.trans (aS hS.2.1)) (fun l2 hl2=>by
           obtain rfl:=Option.some.inj hl2
           exact⟨hS.2.1,by simpa using hS.2.2.1,hS.2.2.2,fun r' l' hne hl' e=>hne (I.inj _ _ _ _ hl' hl e)⟩) (fun m=>
           rT (zs:=zs) (v:=v) I hl hcell hsz (by rw[hwl];omega) (by rw[hwl];exact hcl) (fun i z hi=>by
            rw[List.getElem?_append_left (List.getElem?_eq_some_iff.1 hi).1];exact hi) (C':=C.reloc r _ _) (by show(if r=r then some l else _)=some l;rw[if_pos rfl]))
       refine⟨_,.own r (v+1) 0 (Lib.compact zs).length,C.reloc r (.row (v+1) 1 ((Lib.compact zs).map A2)) (some l),he,h,rfl,?_,key.1,hO.mono key.2⟩
       obtain⟨a2,cap2,e2,hk,hlc,hcm,_⟩:=xY hu
       simp only[Value.slice.injEq]at e2
       obtain⟨_,_,rfl⟩:=e2
       have hget':(C.H.set r (.row (v+1) 1 ((Lib.compact zs).map A2)))[r]? =some (.row (v+1) 1 ((Lib.compact zs).map A2)):=List.getElem?_set_self hlt
       refine .own _ _ cap r (v+1) 0 ⟨_,hget',by simp⟩ (by omega) hcm fun v' sz xs h'=>?_
       have h':(C.H.set r (.row (v+1) 1 ((Lib.compact zs).map A2)))[r]? =some (.row v' sz xs):=h'
       rw[hget']at h'
       simp only[Option.some.injEq,Ar.row.injEq]at h'
       obtain⟨rfl,rfl,rfl⟩:=h'
       refine⟨Nat.le_refl _,fun _=>⟨by simp,.inr ⟨l,by show(if r=r then some l else _)=some l;rw[if_pos rfl],by simp,by omega⟩⟩⟩
theorem xX {A:Nat→Prop} {w w':World} {v:Value} {T:TypeId} {sz:Nat} {xs:List (List Ac)} {news:List Value} (hA:∀ b,A b→b<w.heap.size) (hb:RowKit.Below w.heap.size w w') (hsz:1≤sz) (hx:∀ x∈xs,x.length=sz) (hg:∀ x∈xs,∀ c∈x,Ac.g0 c=true)
    (ho:w'.ownsRow w.heap.size T sz v xs.length news) (hrep:∀ (i k:Nat) (x:List Ac) (c:Ac),xs[i]? =some x→x[k]? =some c→∃ u,news[i*sz+k]? =some u∧Bj (Ctx.imm A) w u c) :
    ∃ C:Ctx,C.H=[.row 0 sz xs]∧C.A0=A∧C.A=A∧Inv w C w'∧Bj C w' v (.own 0 0 0 xs.length):=by
  have gr:∀ (C:Ctx),C.A=A→∀ {u c},Bj (Ctx.imm A) w u c→c.g0=true→Bj C w' u c:=fun C hC u c h hc=>
    Bj.ground (C:=Ctx.imm A) (fun b hb'=>⟨by rw[hC];exact hb',hb.block b (hA b hb')⟩) h (Ac.Hl hc)
  obtain⟨hl,ho⟩:=ho
  rcases ho with⟨rfl,h0⟩ | ⟨g,cap,cur,rfl,hbase,hgb,hn,hcap,hcs,hcur⟩
  ·have hxs:xs=[]:=List.eq_nil_of_length_eq_zero h0
   subst hxs
   refine⟨⟨A,A,fun _=>none,[.row 0 sz []]⟩,rfl,rfl,rfl,⟨hb,fun b hb'=>Nat.lt_of_lt_of_le (hA b hb') hb.size,fun b hb' _=>hb',by simp,by simp,fun r o h=>?_⟩,?_⟩
   ·match r,h with
    | 0,h=>simp at h;subst h;exact⟨hsz,by simp,by simp,.inl ⟨rfl,rfl⟩⟩
   ·refine .own none 0 0 0 0 0 ⟨_,rfl,by simp⟩ (Nat.le_refl _) (Nat.zero_le _) fun v' sz' xs' h=>?_
    simp at h;obtain⟨rfl,rfl,rfl⟩:=h
    exact⟨Nat.le_refl _,fun _=>⟨by simp,.inl rfl⟩⟩
  ·have hgl:g<w'.heap.size:=(Array.getElem?_eq_some_iff.1 hgb).1
   refine⟨⟨A,A,fun r=>if r=0 then some ⟨g,0,cur.size⟩else none,[.row 0 sz xs]⟩,rfl,rfl,rfl,⟨hb,fun b hb'=>Nat.lt_of_lt_of_le (hA b hb') hb.size,fun b hb' _=>hb',fun r l h=>?_,fun r r' l l' h h' _=>?_,fun r o h=>?_⟩,?_⟩
   ·simp only at h
    split at h
    ·rename_i e
     obtain rfl:=Option.some.inj h
     exact⟨by simp[e],hbase,hgl,fun hb'=>by have:=hA _ hb';simp only at this;omega⟩
    ·cases h
   ·simp only at h h'
    split at h
    ·split at h'
     ·omega
     ·cases h'
    ·cases h
   ·match r,h with
    | 0,h=>
      simp at h;subst h
      refine⟨hsz,hx,hg,.inr ⟨_,cur,T,rfl,hgb,rfl,?_,fun i k x c hi hk=>?_⟩⟩
      ·have:xs.length*sz≤cap*sz:=Nat.mul_le_mul_right _ hn
       simp only;omega
      ·obtain⟨u,hu,hr⟩:=hrep i k x c hi hk
       refine⟨u,?_,gr _ rfl hr (hg x (Ai4 hi) c (Ai4 hk))⟩
       rw[← hcur,List.getElem?_take]at hu
       split at hu
       ·simpa using hu
       ·cases hu
   ·refine .own _ _ _ 0 0 0 ⟨_,rfl,by simp⟩ hn hcap fun v' sz' xs' h=>?_
    simp at h;obtain⟨rfl,rfl,rfl⟩:=h
    refine⟨Nat.le_refl _,fun _=>⟨by simp,.inr ⟨_,rfl,by simp,?_⟩⟩⟩
    simp only;rw[hcs];simp
end
theorem pJ (zs:List Int):(Go.Ab.Dc zs).take zs.length=Go.Ab.Dc zs:=List.take_of_length_le (by rw[Cl];exact Nat.le_refl _)
attribute [go_sem] pJ
end Go.Ab
namespace Go.Ab
open Go Go.RowKit Go.Maps
section
variable {P:Program}
structure zF (P:Program) (f c:FuncId) (T:TypeId):Prop where
  run:∀ (mb:Option Nat) (W:World),Calls P f #[.map mb] W fun e w'=>e= .returned (.func (.func c) #[] #[.pointer (some ⟨W.heap.size,0,none⟩)])∧w'=W.alloc (.cells #[.map mb] T)
structure Xs (P:Program) (f c:FuncId) (kT:TypeId):Prop where
  key:P.underlying kT=some (.int .i64)
  run:∀ (b Bm nn:Nat) (D0:DataW Unit) (R:Value→Option (DataW Unit×List MemPlace)) (W:World),W.cell? ⟨Bm,0,none⟩=some (.map (some b))→Bm<W.heap.size→W.ownsMap P kT R b nn D0→Maps.size D0≤maxLen→Maps.size D0*8≤140737488355328→
    Calls P f #[.func (.func c) #[] #[.pointer (some ⟨Bm,0,none⟩)]] W fun e w'=>∃ (v:Value) (ss:List Int),e= .returned v∧ss.Perm (intKeys D0)∧w'.ownsRow W.heap.size kT 1 v ss.length ((ss.mergeSort (fun x y=>decide (x≤y))).map encZ)∧Below W.heap.size W w'
theorem An.Uk {f c:FuncId} {T:TypeId} {r:Nat} {es:List (Int×Ac)} {st:List Fr} {H:List Ar} {K:Ac→List Ar→Prop} (hc:∀ (args:Array Value) (w:World),(callFunc f args).run P w= .ok (.enter f args) w)
    (spec:zF P f c T) (hr:H[r]? =some (.mp es)) (h:K (.func c [.ptr H.length 0]) (H++[.box [.map r]])):An P (.func f []) [.map r] st H K:=by
  intro W0 C w outs fv vs I hH hO hf hl hv
  subst hH
  cases hf with
  | func _ caps _ hcl _=>
    have:caps=#[]:=Array.eq_empty_of_size_eq_zero (by simpa using hcl)
    subst this
    refine .inl ⟨f,#[],rfl,hc,?_⟩
    match vs,hl with
    | [u],_=>
      have hu:=hv 0 u _ rfl rfl
      cases hu with
      | map b _ hk hh=>
        refine(spec.run (some b) w).mono fun e w' ⟨he,hw⟩=>?_
        subst hw
        have hid:Oj C.H C.H.length:=.inl rfl
        have key:=I.alloc C.H.length hid (.box [.map r]) (.cells #[.map (some b)] T) 0 (fun m=>⟨_,#[.map (some b)],T,Ctx.Ss _ _ _ _,Dy _ _,rfl,fun i u c' h1 h2=>by
          match i,h1,h2 with
          | 0,h1,h2=>
            simp at h1 h2;subst h1 h2
            exact(Bj.map b r hk hh).mono m
          | i+1,h1,h2=>simp at h2⟩)
        have hadd:Gq C.H C.H.length (.box [.map r])=C.H++[.box [.map r]]:=by simp[Gq]
        refine⟨_,.func c [.ptr C.H.length 0],C.new C.H.length (.box [.map r]) ⟨w.heap.size,0,0⟩,he,?_,rfl,.func c _ _ rfl fun i u c' h1 h2=>?_,key.1,hO.mono key.2⟩
        ·show K _ (Gq C.H C.H.length (.box [.map r]))
         rw[hadd];exact h
        ·match i,h1,h2 with
         | 0,h1,h2=>
           simp at h1 h2;subst h1 h2
           exact .ptr _ _ _ (Ctx.Q7 hid ⟨w.heap.size,0,0⟩ (by simp)) fun cs _=>⟨_,Ctx.Ss _ _ _ _,rfl⟩
         | i+1,h1,h2=>simp at h2
theorem xW {w:World} {b:Nat} {en:Array MapEntry} {cl:Nat} {es:List (Int×Ac)} {kT:TypeId} (hkT:P.underlying kT=some (.int .i64)) (hb:w.heap[b]? =some (.map en cl)) (hwf:P6 false en cl es)
    (hk:∀ p∈es,(Lit.int .i64 p.1).wf=true) (hn:es.length≤maxLen) :
    ∃ D0:DataW Unit,w.ownsMap P kT (fun _=>some (.nil,[])) b es.length D0∧(intKeys D0).Perm (es.map (·.1))∧Maps.size D0=es.length:=by
  have hkey:∀ x∈en.toList,∃ p∈es,x.key= .int .i64 p.1:=fun x hx=>by
    obtain⟨i,hi,rfl⟩:=List.getElem_of_mem hx
    have hi':i<en.size:=by simpa using hi
    have h1:en[i]? =some en[i]:=Array.getElem?_eq_getElem hi'
    have h2:es[i]? =some (es[i]'(by rw[← hwf.size];exact hi')):=Ai3 _
    exact⟨_,Ai4 h2,by simpa using hwf.Uk i _ _ h1 h2⟩
  have hmap:en.toList.map (·.key)=es.map fun p=>Value.int .i64 p.1:=by
    apply List.ext_getElem?
    intro i
    simp only[List.getElem?_map,Array.getElem?_toList]
    cases h1:en[i]? with
    | none=>
      have:en.size≤i:=by simpa using h1
      rw[List.getElem?_eq_none (by rw[← hwf.size];exact this)];rfl
    | some e=>
      have hi:i<en.size:=(Array.getElem?_eq_some_iff.1 h1).1
      have h2:es[i]? =some (es[i]'(by rw[← hwf.size];exact hi)):=Ai3 _
      rw[h2];simp only[Option.map_some];rw[hwf.Uk i _ _ h1 h2]
  have hrd:∀ x∈en.toList,∃ p∈es,x.key= .int .i64 p.1∧Go.WideElems.rd (H:=Unit) P kT (fun _=>some (.nil,[])) x=some (.int .i64 p.1,.nil):=fun x hx=>by
    obtain⟨p,hp,e⟩:=hkey x hx
    refine⟨p,hp,e,?_⟩
    unfold Go.WideElems.rd
    rw[e,keyOf_int_mk hkT (hk p hp)];rfl
  have hfit:Go.WideElems.Fit (H:=Unit) P kT (fun _=>some (.nil,[])) en cl:=by
    refine⟨by rw[hwf.size];exact hn,⟨hwf.born,hwf.bnodup,?_⟩,fun x hx=>?_⟩
    ·rw[hmap]
     refine List.pairwise_map.2 ((List.pairwise_map.1 hwf.nodup).imp fun {a b} hne e=>hne ?_)
     simpa using e
    ·obtain⟨p,_,_,h⟩:=hrd x hx;exact⟨_,h⟩
  refine⟨.map ((en.toList.map (Go.WideElems.rg P kT (fun _=>some (.nil,[])))).foldr DataW.insert []),⟨en,cl,hb,hfit,by rw[hwf.size];exact Nat.le_refl _,rfl⟩,?_,?_⟩
  ·show(List.map (fun p:Lit×DataW Unit=>intOf p.1) _).Perm _
   refine((Go.WideShapes.sorted_perm _).map _).trans ?_
   rw[List.map_map]
   have:en.toList.map ((fun p:Lit×DataW Unit=>intOf p.1)∘Go.WideElems.rg P kT (fun _=>some (.nil,[])))=es.map (·.1):=by
     have e1:en.toList.map ((fun p:Lit×DataW Unit=>intOf p.1)∘Go.WideElems.rg P kT (fun _=>some (.nil,[])))=(en.toList.map (·.key)).map fun v=>match v with | .int _ n=>n | _=>0:=by
       rw[List.map_map]
       refine List.map_congr_left fun x hx=>?_
       obtain⟨p,_,e,h⟩:=hrd x hx
       simp only[Function.comp_apply,Go.WideElems.rg,h,e,Option.getD_some,intOf]
     rw[e1,hmap,List.map_map];rfl
   rw[this]
  ·simp[Maps.size,length_sorted,hwf.size]
theorem An.mG {f c:FuncId} {kT:TypeId} {r b:Nat} {es:List (Int×Ac)} {st:List Fr} {H:List Ar} {K:Ac→List Ar→Prop} (hc:∀ (args:Array Value) (w:World),(callFunc f args).run P w= .ok (.enter f args) w)
    (spec:Xs P f c kT) (hb:H[b]? =some (.box [.map r])) (hr:H[r]? =some (.mp es)) (hk:∀ p∈es, -9223372036854775808≤p.1∧p.1≤9223372036854775807) (hn:es.length≤549755813888)
    (h:K (.own H.length 0 0 es.length) (H++[.row 0 1 ((Go.Ab.Dc (es.map (·.1))).map A2)])):An P (.func f []) [.func c [.ptr b 0]] st H K:=by
  intro W0 C w outs fv vs I hH hO hf hl hv
  subst hH
  cases hf with
  | func _ caps _ hcl _=>
    have:caps=#[]:=Array.eq_empty_of_size_eq_zero (by simpa using hcl)
    subst this
    refine .inl ⟨f,#[],rfl,hc,?_⟩
    match vs,hl with
    | [u],_=>
      have hu:=hv 0 u _ rfl rfl
      cases hu with
      | func _ arr _ hal harr=>
        obtain⟨pv,rfl⟩:∃ pv,arr=#[pv]:=by
          have:arr.size=1:=by simpa using hal
          exact⟨arr[0],by apply Array.ext<;>simp[this];intro i h1;have:i=0:=by omega
                          subst this;rfl⟩
        have hp:=harr 0 pv _ rfl rfl
        cases hp with
        | ptr a _ _ hkn hpa=>
          obtain⟨l,hl,rfl⟩:=hpa _ hb
          obtain⟨l',carr,T,e1,e2,e3,e4⟩:=I.objs b _ hb
          rw[hl,Option.some.injEq]at e1;subst e1
          obtain⟨mv,rfl⟩:∃ mv,carr=#[mv]:=by
            have:carr.size=1:=by simpa using e3
            exact⟨carr[0],by apply Array.ext<;>simp[this];intro i h1;have:i=0:=by omega
                             subst this;rfl⟩
          have hm:=e4 0 mv _ rfl rfl
          cases hm with
          | map bm _ hkm hmm=>
            obtain⟨lm,hlm,rfl⟩:=hmm _ hr rfl
            obtain⟨lm',en,cl,m1,m2,m3,m4,m5⟩:=I.objs r _ hr
            rw[hlm,Option.some.injEq]at m1;subst m1
            obtain⟨D0,o1,o2,o3⟩:=xW (P:=P) spec.key m2 m3 (fun p hp=>by
              have:=hk p hp
              exact WalkArith.wf_i64 (by omega)) (by unfold maxLen;omega)
            have hcell:w.cell? ⟨l.b,0,none⟩=some (.map (some lm.b)):=by simp[World.cell?,e2]
            refine(spec.run lm.b l.b es.length D0 _ w hcell (I.sep b l hl).2.2.1 o1 (by rw[o3];unfold maxLen;omega) (by rw[o3];omega)).mono fun e w' ⟨v,ss,he,hss,hrow,hbel⟩=>?_
            have hperm:ss.Perm (es.map (·.1)):=hss.trans o2
            have hsort:ss.mergeSort (fun x y=>decide (x≤y))=Go.Ab.Dc (es.map (·.1)):=mergeSort_of_perm_i hperm
            have hlen:ss.length=es.length:=by rw[hperm.length_eq,List.length_map]
            have hxl:((Go.Ab.Dc (es.map (·.1))).map A2).length=es.length:=by rw[List.length_map,Cl,List.length_map]
            rw[hsort,hlen,← hxl]at hrow
            obtain⟨C',c1,c2,c3,c4,c5⟩:=xX (A:=C.A) (sz:=1) (xs:=(Go.Ab.Dc (es.map (·.1))).map A2) I.sub hbel (Nat.le_refl _) (fun x hx=>by
              obtain⟨z,_,rfl⟩:=List.mem_map.1 hx;rfl) (fun x hx cc hcc=>by
              obtain⟨z,_,rfl⟩:=List.mem_map.1 hx
              simp[A2]at hcc;subst hcc;rfl) hrow (fun i k x cc hx hcc=>by
              simp only[List.getElem?_map,Option.map_eq_some_iff]at hx
              obtain⟨z,hz,rfl⟩:=hx
              have hk0:k=0:=by
                have:=(List.getElem?_eq_some_iff.1 hcc).1
                simp[A2]at this;exact this
              subst hk0
              simp[A2]at hcc;subst hcc
              exact⟨.int .i64 z,by simp[hz],.int _ _⟩)
            have hid:Oj C.H C.H.length:=.inl rfl
            have key:=I.place c4 (fun b' hb'=>by rw[c2]at hb';exact hb') hid c1
            refine⟨v,.own C.H.length 0 0 es.length,C.place C' C.H.length _,he,?_,rfl,?_,key.1,hO.mono key.2.1⟩
            ·show K _ (Gq C.H C.H.length _)
             rw[show Gq C.H C.H.length (Ar.row 0 1 ((Go.Ab.Dc (es.map (·.1))).map A2))=C.H++[.row 0 1 ((Go.Ab.Dc (es.map (·.1))).map A2)] by simp[Gq]]
             exact h
            ·rw[hxl]at c5
             exact c5.ren key.2.2
end
end Go.Ab
namespace Go.Ab
open Go Go.RowKit
theorem D1.mk' {es:List (Int×Ac)} {n:Int} {z:Ac} {K:Ac→Bool→Prop} (h1:∀ v,alook es n=some v→K v true) (h2:alook es n=none→K z false):D1 es n z K:=⟨h1,h2⟩
theorem oH {S T:List Nat}:disj S T=true↔∀ r∈S,r ∉ T:=by
  unfold disj
  rw[List.all_eq_true]
  exact⟨fun h r hr hT=>by have:=h r hr;simp[hT]at this,fun h r hr=>by have:=h r hr;simp[this]⟩
theorem X0 {A:List Nat} (σ:Nat→Nat) (n:Nat) (log:Log) (hl:(log.all fun p=>p.2.1.all fun a=>Nat.blt a n)=true) (hσ:∀ a b,a<n→b<n→σ a=σ b→a=b) (h:Rr A log=true) :
    Rr A (log.map fun p=>(p.1,p.2.1.map σ,p.2.2))=true:=by
  unfold Rr at *
  rw[List.all_map,List.all_eq_true]
  rw[List.all_eq_true]at h
  intro p hp
  have h1:=h p hp
  rw[List.all_eq_true]at h1
  simp only[Function.comp_apply]
  rw[List.all_map,List.all_eq_true]
  intro q hq
  have h2:=h1 q hq
  have hd:disj (p.2.1.map σ) (q.2.1.map σ)=disj p.2.1 q.2.1:=by
    have e1:=List.all_eq_true.1 (List.all_eq_true.1 hl p hp)
    have e2:=List.all_eq_true.1 (List.all_eq_true.1 hl q hq)
    rw[Bool.eq_iff_iff,oH,oH]
    constructor
    ·intro h r hr hT
     exact h (σ r) (List.mem_map_of_mem hr) (List.mem_map_of_mem hT)
    ·intro h r hr hT
     obtain⟨a,ha,rfl⟩:=List.mem_map.1 hr
     obtain⟨b,hb,e⟩:=List.mem_map.1 hT
     have:=hσ b a (by simpa using e2 b hb) (by simpa using e1 a ha) e
     subst this
     exact h b ha hb
  simp only[Function.comp_apply,hd]
  exact h2
theorem An.dM {P:Program} {f c:FuncId} {kT:TypeId} {r b:Nat} {β:Type} {fv:β→Ac} {m:List (Int×β)} {st:List Fr} {H:List Ar} {K:Ac→List Ar→Prop} (hc:∀ (args:Array Value) (w:World),(callFunc f args).run P w= .ok (.enter f args) w)
    (spec:Xs P f c kT) (hb:H[b]? =some (.box [.map r])) (hr:H[r]? =some (.mp (mpE fv m))) (hk:∀ k∈mkeys m, -9223372036854775808≤k∧k≤9223372036854775807) (hn:m.length≤549755813888)
    (h:K (.own H.length 0 0 (Go.Ab.Dc (mkeys m)).length) (H++[.row 0 1 ((Go.Ab.Dc (mkeys m)).map A2)])):An P (.func f []) [.func c [.ptr b 0]] st H K:=by
  have e:(mpE fv m).map (·.1)=mkeys m:=by simp[mpE,mkeys]
  refine An.mG hc spec hb hr (fun p hp=>hk _ ?_) (by rw[lK];exact hn) ?_
  ·rw[← e];exact List.mem_map_of_mem hp
  ·rw[e,lK]
   rw[Cl]at h
   simpa[mkeys]using h
def gE:Nat→List (Int×List Int)→List (Int×Ac)
  | _,[]=>[]
  | n,(k,xs)::r=>(k,.own n (xs.length - 1) 0 xs.length)::gE (n+1) r
def gR (g:List (Int×List Int)):List Ar:=g.map fun p=>.row (p.2.length - 1) 1 (p.2.map A2)
def gadd (g:List (Int×List Int)) (k v:Int):List (Int×List Int):=mset g k (mget [] g k++[v])
def D4 (xs:List Int):Ac:=.sl 1 (xs.map A2)
theorem apN {α:Type} (A:List α) (b:α) (C:List α):A++[b]++C=A++b::C:=by simp
theorem ga0 {α:Type} (A:List α) (b:α) (B:List α):(A++b::B)[A.length]? =some b:=by simp
theorem ga1 {α:Type} (A:List α) (b c:α) (B:List α):(A++b::c::B)[A.length+1]? =some c:=by simp
theorem ga2 {α:Type} (A:List α) (b c d:α) (B:List α):(A++b::c::d::B)[A.length+2]? =some d:=by simp
theorem sa0 {α:Type} (A:List α) (b x:α) (B:List α):(A++b::B).set A.length x=A++x::B:=by simp[List.set_append]
theorem sa1 {α:Type} (A:List α) (b c x:α) (B:List α):(A++b::c::B).set (A.length+1) x=A++b::x::B:=by simp[List.set_append]
theorem sa2 {α:Type} (A:List α) (b c d x:α) (B:List α):(A++b::c::d::B).set (A.length+2) x=A++b::c::x::B:=by simp[List.set_append]
theorem Wz (g:List (Int×List Int)):(gR g).length=g.length:=by simp[gR]
theorem qO:∀ (g:List (Int×List Int)) (n:Nat) (k:Int) (xs:List Int),gE n (g++[(k,xs)])=gE n g++[(k,.own (g.length+n) (xs.length - 1) 0 xs.length)]
  | [],n,k,xs=>by simp[gE]
  | (k',ys)::r,n,k,xs=>by
    simp only[List.cons_append,gE,qO r (n+1) k xs,List.length_cons]
    rw[show r.length+1+n=r.length+(n+1) by omega]
theorem iH:∀ (g:List (Int×List Int)) (n:Nat) (k:Int) (v:Ac),alook (gE n g) k=some v→∃ (i:Nat) (xs:List Int),g[i]? =some (k,xs)∧v= .own (i+n) (xs.length - 1) 0 xs.length∧mget [] g k=xs∧
    (∀ ys:List Int,aset (gE n g) k (.own (i+n) (ys.length - 1) 0 ys.length)=gE n (mset g k ys))∧(∀ ys:List Int,(gR g).set i (.row (ys.length - 1) 1 (ys.map A2))=gR (mset g k ys))
  | [],n,k,v,h=>by simp[gE,alook]at h
  | (k',xs)::r,n,k,v,h=>by
    simp only[gE,alook]at h
    by_cases e:k'=k
    ·subst e
     rw[if_pos rfl]at h
     obtain rfl:=Option.some.inj h
     exact⟨0,xs,rfl,by rw[Nat.zero_add],by simp[mget],fun ys=>by simp[gE,aset,mset],fun ys=>by simp[gR,mset]⟩
    ·rw[if_neg e]at h
     obtain⟨i,ys,h1,h2,h3,h4,h5⟩:=iH r (n+1) k v h
     refine⟨i+1,ys,by simpa using h1,by rw[h2,show i+(n+1)=i+1+n by omega],by simp[mget,e,h3],fun zs=>?_,fun zs=>?_⟩
     ·have:=h4 zs
      rw[show i+(n+1)=i+1+n by omega]at this
      simp[gE,aset,mset,e,this]
     ·have:=h5 zs
      simp[gR,mset,e]at this ⊢
      exact this
theorem Tw:∀ (g:List (Int×List Int)) (n:Nat) (k:Int),alook (gE n g) k=none→mget [] g k=[]∧(∀ v,aset (gE n g) k v=gE n g++[(k,v)])∧∀ ys,mset g k ys=g++[(k,ys)]
  | [],n,k,h=>⟨by simp[mget],fun v=>by simp[gE,aset],fun ys=>by simp[mset]⟩
  | (k',xs)::r,n,k,h=>by
    simp only[gE,alook]at h
    by_cases e:k'=k
    ·rw[if_pos e]at h;cases h
    ·rw[if_neg e]at h
     obtain⟨h1,h2,h3⟩:=Tw r (n+1) k h
     exact⟨by simp[mget,e,h1],fun v=>by simp[gE,aset,e,h2],fun ys=>by simp[mset,e,h3]⟩
theorem lB {π:Nat→Nat}:∀ (g:List (Int×List Int)) (n:Nat),(∀ i,n≤i→i<n+g.length→π i=i)→Sd π (gE n g)=gE n g
  | [],n,h=>rfl
  | (k,xs)::r,n,h=>by
    simp only[gE,Sd,ren]
    rw[h n (Nat.le_refl _) (by simp),lB r (n+1) (fun i h1 h2=>h i (by omega) (by simp at h2 ⊢;omega))]
theorem fS (π:Nat→Nat):∀ (a b:List (Int×Ac)),Sd π (a++b)=Sd π a++Sd π b
  | [],b=>rfl
  | (k,v)::a,b=>by simp[Sd,fS π a b]
theorem fR (π:Nat→Nat):∀ (a b:List Ar),Uu π (a++b)=Uu π a++Uu π b
  | [],b=>rfl
  | o::a,b=>by simp[Uu,fR π a b]
theorem lA (π:Nat→Nat):∀ (g:List (Int×List Int)),Uu π (gR g)=gR g
  | []=>rfl
  | p::r=>by
    have:=lA π r
    simp only[gR,List.map_cons,Uu,bI]at this ⊢
    rw[this]
theorem sF {m:Nat}:∀ (g:List (Int×List Int)) (n:Nat),n+g.length≤m→((gE n g).all fun p=>p.2.O6 m)=true
  | [],n,h=>rfl
  | (k,xs)::r,n,h=>by
    simp only[gE,List.all_cons,Bool.and_eq_true]
    refine⟨by simp[Ac.O6,Ac.V4,Ac.Xd,Ac.Yo]at h ⊢;omega,sF r (n+1) (by simp at h ⊢;omega)⟩
theorem yQ {m:Nat} (g:List (Int×List Int)):jG m (gR g)=true:=by
  unfold jG gR;simp[qY]
theorem w8 {m:Nat} (g:List (Int×List Int)) (h:1+g.length≤m):jG m (.mpo false (gE 1 g)::gR g)=true:=by
  have:=yQ (m:=m) g
  unfold jG at this ⊢
  rw[List.all_cons,this,Bool.and_true]
  exact sF g 1 h
theorem qD:∀ (o:Ar),o≠.resv→Py o o
  | .box cs,_=>by
    show aQ cs cs
    induction cs with
    | nil=>trivial
    | cons c r ih=>exact ⟨by unfold vle;split<;>simp,ih (by simp)⟩
  | .row v sz xs,_=>⟨rfl,rfl,rfl⟩
  | .mp es,_=>rfl
  | .mpo q es,_=>⟨rfl,rfl⟩
  | .it l c,_=>⟨rfl,rfl⟩
  | .lp _ _ _ _ _ _ _ _,_=>⟨rfl,rfl,rfl,rfl,rfl,rfl,rfl,rfl⟩
  | .gone,_=>trivial
  | .resv,h=>absurd rfl h
theorem Z2:∀ (A B:List Ar),(∀ o∈A,o≠.resv)→Yh (A++B) A
  | [],B,_=>by simp[Yh]
  | o::A,B,h=>⟨qD o (h o (by simp)),Z2 A B fun o' ho'=>h o' (List.mem_cons_of_mem _ ho')⟩
theorem Zk (g:List (Int×List Int)):∀ o∈gR g,o≠.resv:=by
  intro o ho
  obtain⟨p,_,rfl⟩:=List.mem_map.1 ho
  simp
theorem kX (g:List (Int×List Int)) (B:List Ar):Yh (.mpo false (gE 1 g)::(gR g++B)) (.mpo false (gE 1 g)::gR g):=⟨⟨rfl,rfl⟩,Z2 _ _ (Zk g)⟩
theorem wO {g:List (Int×List Int)} {n:Nat} (h:∀ p∈g,1≤p.2.length∧p.2.length≤n) (k v:Int):∀ p∈gadd g k v,1≤p.2.length∧p.2.length≤n+1:=by
  have hget:∀ g:List (Int×List Int),(∀ p∈g,1≤p.2.length∧p.2.length≤n)→(mget [] g k).length≤n:=by
    intro g
    induction g with
    | nil=>intro _;simp[mget]
    | cons p r ih=>
      intro h
      obtain⟨k',xs⟩:=p
      simp only[mget]
      split
      ·exact(h (k',xs) (by simp)).2
      ·exact ih fun p hp=>h p (List.mem_cons_of_mem _ hp)
  have hlen:=hget g h
  have hset:∀ (ys:List Int),1≤ys.length→ys.length≤n+1→∀ g:List (Int×List Int),(∀ p∈g,1≤p.2.length∧p.2.length≤n)→∀ p∈mset g k ys,1≤p.2.length∧p.2.length≤n+1:=by
    intro ys h1 h2 g
    induction g with
    | nil=>intro _ p hp;simp[mset]at hp;subst hp;exact⟨h1,h2⟩
    | cons p r ih=>
      intro h p' hp'
      obtain⟨k',xs⟩:=p
      simp only[mset]at hp'
      split at hp'
      ·rcases List.mem_cons.1 hp' with e | hp'
       ·subst e;exact⟨h1,h2⟩
       ·have:=h p' (List.mem_cons_of_mem _ hp');omega
      ·rcases List.mem_cons.1 hp' with e | hp'
       ·subst e;have:=h (k',xs) (by simp);simp only at this ⊢;omega
       ·exact ih (fun p hp=>h p (List.mem_cons_of_mem _ hp)) p' hp'
  exact hset _ (by simp) (by simp;exact hlen) g h
theorem kA (r v sz:Nat) (xs:List (List Ac)):∀ (a b:List (Int×Ac)),Me r v sz xs (a++b)=Me r v sz xs a++Me r v sz xs b
  | [],b=>rfl
  | (k,x)::a,b=>by simp[Me,kA r v sz xs a b]
theorem kB (r v sz:Nat) (xs:List (List Ac)):∀ (a b:List Ar),Ju r v sz xs (a++b)=Ju r v sz xs a++Ju r v sz xs b
  | [],b=>rfl
  | o::a,b=>by simp[Ju,kB r v sz xs a b]
theorem hG (r v sz:Nat) (xs:List (List Ac)):∀ (g:List (Int×List Int)),Me r v sz xs (mpE D4 g)=mpE D4 g
  | []=>rfl
  | (k,x)::g=>by
    have:=hG r v sz xs g
    simp only[mpE,List.map_cons,Me]at this ⊢
    rw[this];rfl
theorem nQ (r v sz:Nat) (xs:List (List Ac)):∀ (g:List (Int×List Int)) (n:Nat),r<n→Me r v sz xs (gE n g)=gE n g
  | [],n,h=>rfl
  | (k,x)::g,n,h=>by
    simp only[gE,Me]
    rw[nQ r v sz xs g (n+1) (by omega)]
    have:Sv r v sz xs (.own n (x.length - 1) 0 x.length)= .own n (x.length - 1) 0 x.length:=by
      unfold Sv dW
      simp only[]
      rw[if_neg (by omega)]
    rw[this]
theorem nR (r v sz:Nat) (xs:List (List Ac)):∀ (g:List (Int×List Int)),Ju r v sz xs (gR g)=gR g
  | []=>rfl
  | p::g=>by
    have:=nR r v sz xs g
    simp only[gR,List.map_cons,Ju,gY]at this ⊢
    rw[this]
theorem hX (r v sz:Nat) (xs:List (List Ac)):∀ (n:Nat),Ju r v sz xs (List.replicate n .gone)=List.replicate n .gone
  | 0=>rfl
  | n+1=>by simp[List.replicate_succ,Ju,gY,hX r v sz xs n]
theorem Sub.refl' {outer:List Fr} {fr:Fr} {H:List Ar}:Sub outer fr H fr H:=fun _ _ _ _ _ _ _ R=>R
theorem Sub.zB {outer:List Fr} {fr:Fr} (hfr:∀ r v sz xs,Zl r v sz xs fr=fr):∀ (g2 g1:List (Int×List Int)),
    Sub outer fr (.mpo false (mpE D4 g1++gE (g1.length+1) g2)::(List.replicate g1.length .gone++gR g2)) fr (.mpo false (mpE D4 (g1++g2))::List.replicate (g1.length+g2.length) .gone)
  | [],g1=>by
    simp only[gE,gR,List.map_nil,List.append_nil,List.length_nil,Nat.add_zero]
    exact Sub.refl'
  | (k,xs)::g2,g1=>by
    have hr:(Ar.mpo false (mpE D4 g1++gE (g1.length+1) ((k,xs)::g2))::(List.replicate g1.length .gone++gR ((k,xs)::g2)))[g1.length+1]? =some (.row (xs.length - 1) 1 (xs.map A2)):=by
      rw[List.getElem?_cons_succ,List.getElem?_append_right (by simp)]
      simp[gR]
    have s:=Sub.Ds (outer:=outer) (fr:=fr) (g1.length+1) hr
    rw[hfr]at s
    have e:Ju (g1.length+1) (xs.length - 1) 1 (xs.map A2) ((Ar.mpo false (mpE D4 g1++gE (g1.length+1) ((k,xs)::g2))::(List.replicate g1.length .gone++gR ((k,xs)::g2))).set (g1.length+1) .gone) =
     .mpo false (mpE D4 (g1++[(k,xs)])++gE ((g1++[(k,xs)]).length+1) g2)::(List.replicate (g1++[(k,xs)]).length .gone++gR g2):=by
      rw[List.set_cons_succ,List.set_append_right _ _ (by simp),List.length_replicate,Nat.sub_self]
      show Ju _ _ _ _ (Ar.mpo false (mpE D4 g1++gE (g1.length+1) ((k,xs)::g2))::(List.replicate g1.length .gone++(Ar.gone::gR g2)))=_
      simp only[Ju,gY,kB,hX,nR,kA,hG,gE,Me]
      rw[nQ _ _ _ _ g2 (g1.length+1+1) (by omega)]
      have h1:Sv (g1.length+1) (xs.length - 1) 1 (xs.map A2) (.own (g1.length+1) (xs.length - 1) 0 xs.length)=D4 xs:=by
        unfold Sv dW D4
        simp only[]
        simp
        exact List.take_of_length_le (by simp)
      rw[h1]
      simp[mpE,List.replicate_succ']
    rw[e]at s
    have ih:=Sub.zB (outer:=outer) hfr g2 (g1++[(k,xs)])
    have:=s.trans ih
    simp only[List.append_assoc,List.cons_append,List.nil_append,List.length_append,List.length_cons,List.length_nil]at this
    simp only[List.length_cons]
    rw[show g1.length+(g2.length+1)=g1.length+(0+1)+g2.length by omega]
    exact this
theorem nG (g:List (Int×List Int)):∀ p∈mpE D4 g,Ac.g1 p.2=true:=by
  intro p hp
  obtain⟨q,_,rfl⟩:=List.mem_map.1 hp
  rfl
theorem Sub.groups {outer:List Fr} {fr:Fr} (hfr:∀ r v sz xs,Zl r v sz xs fr=fr) (hsub:fM fr fr) (hb:Mh 1 fr=true) (ho:outer.all (Mh 1)=true) (g:List (Int×List Int)) :
    Sub outer fr (.mpo false (gE 1 g)::gR g) fr [.mp (mpE D4 g)]:=by
  have s1:=Sub.zB (outer:=outer) hfr g []
  simp only[mpE,List.map_nil,List.nil_append,List.length_nil,Nat.zero_add,List.replicate_zero]at s1
  have s2:=Sub.x4 (outer:=outer) (fr:=fr) (H:=.mpo false (mpE D4 g)::List.replicate g.length .gone) 0 rfl (nG g)
  have s3:Sub outer fr (.mp (mpE D4 g)::List.replicate g.length .gone) fr [.mp (mpE D4 g)]:=Sub.weak ⟨rfl,by simp[Yh]⟩ hsub (.inr ⟨hb,rfl,ho⟩)
  exact(s1.trans s2).trans s3
theorem sP {α:Type} (l:List α) (n:Nat):(l.take n).take n=l.take n:=by rw[List.take_take,Nat.min_self]
attribute [go_sem] D4 sP
end Go.Ab
namespace Go.Ab
open Go
section
variable {α σ ρ:Type}
theorem P2 {step step':Nat→α→σ→Option (Out σ ρ)}:∀ {l:List α} {k:Nat},(∀ i x s,l[i]? =some x→step (k+i) x s=step' (k+i) x s)→∀ s,Am step k l s=Am step' k l s
  | [],k,h,s=>rfl
  | x::r,k,h,s=>by
    have h0:=h 0 x s rfl
    rw[Nat.add_zero]at h0
    rw[Am,Am,h0]
    have ih:∀ s,Am step (k+1) r s=Am step' (k+1) r s:=P2 (l:=r) (k:=k+1) (fun i y s hy=>by
      have:=h (i+1) y s (by simpa using hy)
      rwa [show k+(i+1)=k+1+i by omega]at this)
    cases step' k x s with
    | none=>rfl
    | some o=>cases o with
      | next s'=>exact ih s'
      | ret r=>rfl
theorem Lo {step step':Nat→α→σ→Option (Out σ ρ)} {l:List α} {s:σ} (h:∀ i x s,l[i]? =some x→step i x s=step' i x s):Am step 0 l s=Am step' 0 l s:=
  P2 (k:=0) (fun i x s hx=>by rw[Nat.zero_add];exact h i x s hx) s
end
theorem Jd {α:Type} [DecidableEq α] {a b:List α} (h:a.Nodup) (hs:∀ x∈a,x∈b):a.length≤b.length:=by
  induction a generalizing b with
  | nil=>exact Nat.zero_le _
  | cons x a ih=>
    rw[List.nodup_cons]at h
    have hx:=hs x (by simp)
    have:=ih (b:=b.erase x) h.2 fun y hy=>(List.mem_erase_of_ne (fun(e:y=x)=>h.1 (e ▸ hy))).2 (hs y (List.mem_cons_of_mem _ hy))
    rw[List.length_erase_of_mem hx]at this
    have:0<b.length:=List.length_pos_of_mem hx
    simp only[List.length_cons];omega
def Inc (l:List Int):Prop:=l.Pairwise (·< ·)
theorem Inc.nodup {l:List Int} (h:Inc l):l.Nodup:=List.Pairwise.imp (fun h e=>by omega) h
theorem Ph:∀ {a b:List Int},Inc a→Inc b→(∀ x,x∈a↔x∈b)→a=b
  | [],[],_,_,_=>rfl
  | [],y::b,_,_,h=>by have:=(h y).2 (by simp);simp at this
  | x::a,[],_,_,h=>by have:=(h x).1 (by simp);simp at this
  | x::a,y::b,ha,hb,h=>by
    have ha:=List.pairwise_cons.1 ha
    have hb:=List.pairwise_cons.1 hb
    have e:x=y:=by
      rcases List.mem_cons.1 ((h x).1 (by simp))with h1 | h1
      ·exact h1
      ·rcases List.mem_cons.1 ((h y).2 (by simp))with h2 | h2
       ·exact h2.symm
       ·have:=ha.1 y h2;have:=hb.1 x h1;omega
    subst e
    rw[Ph ha.2 hb.2 fun z=>?_]
    constructor
    ·intro hz
     rcases List.mem_cons.1 ((h z).1 (List.mem_cons_of_mem _ hz))with e | h1
     ·have:=ha.1 z hz;omega
     ·exact h1
    ·intro hz
     rcases List.mem_cons.1 ((h z).2 (List.mem_cons_of_mem _ hz))with e | h1
     ·have:=hb.1 z hz;omega
     ·exact h1
theorem Qr (xs:List Int):(Dc xs).Pairwise (·≤·):=by
  have:=List.pairwise_mergeSort (le:=fun x y:Int=>decide (x≤y)) (fun a b c h1 h2=>by simp at *;omega) (fun a b=>by simp;omega) xs
  exact this.imp (fun h=>by simpa using h)
theorem M7 (xs:List Int) (a:Int):a∈Dc xs↔a∈xs:=(List.mergeSort_perm xs _).mem_iff
theorem sV {xs:List Int} (h:xs.Nodup):Inc (Dc xs):=by
  have h1:(Dc xs).Nodup:=(List.mergeSort_perm xs _).nodup_iff.2 h
  exact((Qr xs).and h1).imp (fun⟨a,b⟩=>by omega)
theorem Fk {zs:List Int} {j:Nat} (h:j<zs.length):zs.toArray[j]! =zs[j]:=by simp[h]
theorem Xa {zs:List Int} (a:Int):a∈Cg zs↔a∈zs:=by
  unfold Cg Lib.compact Lib.compactUpTo
  rw[List.mem_map]
  constructor
  ·rintro⟨j,hj,rfl⟩
   have h1:=List.mem_range.1 (List.mem_filter.1 hj).1
   rw[Fk h1];exact List.getElem_mem h1
  ·intro ha
   obtain⟨i,hi,rfl⟩:=List.getElem_of_mem ha
   induction i with
   | zero=>exact ⟨0,List.mem_filter.2 ⟨List.mem_range.2 hi,by simp[Lib.keeps]⟩,Fk hi⟩
   | succ i ih=>
     by_cases e:zs[i+1]=zs[i]
     ·rw[e];exact ih (by omega) (List.getElem_mem _)
     ·refine⟨i+1,List.mem_filter.2 ⟨List.mem_range.2 hi,?_⟩,Fk hi⟩
      unfold Lib.keeps
      rw[Fk hi,Nat.add_sub_cancel,Fk (show i<zs.length by omega)]
      exact Ai1 (.inr e)
theorem Xb {zs:List Int} (h:zs.Pairwise (·≤·)):Inc (Cg zs):=by
  unfold Cg Lib.compact Lib.compactUpTo Inc
  rw[List.pairwise_map]
  refine(List.pairwise_lt_range.filter _).imp_of_mem (fun {i j} hi hj hlt=>?_)
  obtain⟨hj1,hj2⟩:=List.mem_filter.1 hj
  have hj1:=List.mem_range.1 hj1
  rw[Fk (show i<zs.length by omega),Fk hj1]
  unfold Lib.keeps at hj2
  have hne:=Ai0 hj2
  rw[Fk hj1,Fk (show j - 1<zs.length by omega)]at hne
  rw[List.pairwise_iff_getElem]at h
  have h1:=h (j - 1) j (by omega) hj1 (by omega)
  rcases Nat.lt_or_ge i (j - 1)with hh | hh
  ·have:=h i (j - 1) (by omega) (by omega) hh;omega
  ·have e:i=j - 1:=by omega
   subst e;omega
def norm (xs:List Int):List Int:=Cg (Dc xs)
theorem Uh (xs:List Int):Inc (norm xs):=Xb (Qr xs)
theorem Ug (xs:List Int) (a:Int):a∈norm xs↔a∈xs:=by unfold norm;rw[Xa,M7]
theorem sY {α:Type} [DecidableEq α] {step:Nat→α→Unit→Option (Out Unit Bool)} {a b:List α} (hl:a.length=b.length) (hs:∀ k x y,a[k]? =some x→b[k]? =some y→step k x ()=bif decide (x≠y)then some (.ret false)else some (.next ())) :
    ((Am step 0 a ()).bind fun o=>o.on fun _=>some true)=some (decide (a=b)):=by
  rcases Fe (step:=step) (l:=a) (s:=()) (fun k _=>∀ i x,i<k→a[i]? =some x→b[i]? =some x) (fun r=>r=false∧a≠b) (fun i x h=>by omega) (fun k x u hk hI=>by
    have hlt:=(List.getElem?_eq_some_iff.1 hk).1
    have hy:b[k]? =some b[k]:=Ai3 (by omega)
    rw[hs k x _ hk hy]
    by_cases e:x=b[k]
    ·rw[Ai2 (by simpa using e)]
     refine .inl ⟨(),rfl,fun i z hi hz=>?_⟩
     by_cases h:i=k
     ·subst h;rw[hk]at hz;obtain rfl:=Option.some.inj hz;rw[hy,← e]
     ·exact hI i z (by omega) hz
    ·rw[Ai1 (by simpa using e)]
     refine .inr ⟨false,rfl,rfl,fun h=>e ?_⟩
     subst h
     rw[hk]at hy;exact Option.some.inj hy)with ⟨s',h1,h2⟩ | ⟨r,h1,rfl,h2⟩
  ·rw[h1]
   have:a=b:=by
     apply List.ext_getElem? fun i=>?_
     by_cases hi:i<a.length
     ·rw[h2 i _ hi (Ai3 hi),Ai3 hi]
     ·rw[List.getElem?_eq_none (by omega),List.getElem?_eq_none (by omega)]
   rw[Ai1 this];rfl
  ·rw[h1,Ai2 h2];rfl
theorem vF {α:Type} [DecidableEq α] {step:Nat→α→Unit→Option (Out Unit Bool)} {a b:List α} (hs:∀ k x y,a[k]? =some x→b[k]? =some y→step k x ()=bif decide (x≠y)then some (.ret false)else some (.next ())) :
    (bif (decide (((a.length:Nat):Int)≠((b.length:Nat):Int)))then some false else(Am step 0 a ()).bind fun o=>o.on fun _=>some true)=some (decide (a=b)):=by
  by_cases h:a.length=b.length
  ·rw[Ai2 (by simp[h]),cond_false];exact sY h hs
  ·have h':¬ a=b:=fun e=>h (by rw[e])
   rw[Ai1 (show((a.length:Nat):Int)≠((b.length:Nat):Int) by omega),Ai2 h'];rfl
theorem Wx {α:Type} [DecidableEq α] {step:Nat→α→Unit→Option (Out Unit Bool)} {l:List α} {n:α} (hs:∀ k x,x∈l→step k x ()=bif decide (x=n)then some (.ret true)else some (.next ())) :
    ((Am step 0 l ()).bind fun o=>o.on fun _=>some false)=some (decide (n∈l)):=by
  rw[Fq (step:=step) (fun x=>decide (x=n)) (fun _=>true) (fun k x hx=>hs k x hx)]
  by_cases h:n∈l
  ·obtain⟨x,hx⟩:∃ x,l.find? (fun x=>decide (x=n))=some x:=by
     cases hf:l.find? fun x=>decide (x=n)with
     | some x=>exact ⟨x,rfl⟩
     | none=>have:=List.find?_eq_none.1 hf n h;simp at this
   rw[hx,Ai1 h];rfl
  ·have:l.find? (fun x=>decide (x=n))=none:=List.find?_eq_none.2 fun x hx=>by
     simp;rintro rfl;exact h hx
   rw[this,Ai2 h];rfl
theorem Up {α:Type} {step:Nat→α→Unit→Option (Out Unit Bool)} {l:List α} (p:α→Bool) (hs:∀ k x,x∈l→step k x ()=bif p x then some (.ret true)else some (.next ())) :
    ((Am step 0 l ()).bind fun o=>o.on fun _=>some false)=some (l.any p):=by
  rw[Fq (step:=step) p (fun _=>true) (fun k x hx=>hs k x hx)]
  cases hf:l.find? p with
  | some x=>rw[List.any_eq_true.2 ⟨x,List.mem_of_find?_eq_some hf,List.find?_some hf⟩];rfl
  | none=>rw[List.any_eq_false.2 fun x hx=>by simpa using List.find?_eq_none.1 hf x hx];rfl
theorem tJ (g:List (Int×List Int)) (k v n:Int):mget [] (gadd g k v) n=if k=n then mget [] g n++[v]else mget [] g n:=by
  unfold gadd;rw[X2]
  by_cases h:k=n
  ·subst h;simp
  ·simp[h]
end Go.Ab
namespace Go.Ab
open Go Go.RowKit
attribute [go_sem] singles
def fld (t o:Nat):Field:={name:= "",type:=t,offset:=o,embedded:=false,tag:= "",pkgPath:= "",byteOffset:=0}
section
variable {P:Program} {t:TypeId}
theorem B6.array {tot n sz:Nat} {e:TypeId} {fl:List Field} {α:Type} {f:α→List Ac} {Pa:α→Prop} (ht:P.underlying t=some (.array n e)) (hc:P.cellsOf t=tot) (he:P.cellsOf e=sz)
    (hl:fl=(List.range n).map fun i=>fld e (i*sz)) (h:Vk P tot 0 fl f Pa):B6 P t f Pa:=by
  constructor
  intro H enc w base spare held fuel cs x hx
  obtain⟨xs,m,rfl,_,hlen,hxs,hf⟩:=DataW.trod_array ht hx
  have:=h.op (cs:=cs) (by rw[hlen,hc]) fun i fd hi=>by
    rw[hl,List.getElem?_map]at hi
    have hin:i<n:=by
      cases hr:(List.range n)[i]? with
      | none=>rw[hr]at hi;cases hi
      | some j=>have:=(List.getElem?_eq_some_iff.1 hr).1;simpa using this
    rw[List.getElem?_range hin]at hi
    obtain rfl:=Option.some.inj hi
    have:=hf i hin
    rw[Ai3 (by omega),he]at this
    refine⟨xs[i],?_⟩
    simp only[fld,he]
    exact this
  simpa using this
theorem lJ {w:World} {r:Reach} {base:Nat} {v:Value} {n:Nat} {e:TypeId} (ht:P.underlying t=some (.array n e)) (h:Value.okWide P w r base t v):∃ cs,v= .agg cs:=by
  simp only[Value.okWide,ht]at h
  obtain⟨cs,h1,_⟩:=h
  exact⟨cs,h1⟩
theorem M4.array {n:Nat} {e:TypeId} {α:Type} {f:α→List Ac} {Pa:α→Prop} (ht:P.underlying t=some (.array n e)) (h:B6 P t f Pa):M4 P t (fun a=>.agg (f a)) Pa:=by
  constructor
  intro H enc w base b0 r spare held v d ps hval ⟨fuel,hf⟩
  obtain⟨cs,rfl⟩:=lJ ht hval
  obtain⟨a,h1,h2⟩:=h.op hf
  refine⟨a,h1,.agg cs (f a) (by simpa[Value.cells]using h2.1) fun i u c hu hc=>h2.2 i u c (by simpa[Value.cells]using hu) hc⟩
end
variable {P:Program} {md:Option Nat}
theorem jM {md:Option Nat} {n m:Nat} {c:Code} {Q:Exit→Act→World→Prop} {a:Act} {w:World} (h:c.wpIn (fence md) n P Q a w):c.wpIn (fence md) m P Q a w:=
  fun b k cs h1 h2 _=>h b k cs h1 h2 (fun _ h=>by simp[fence,Fence.wide]at h)
theorem fB {W0:World} {C:Ctx} {w:World} (I:Inv W0 C w) {r D n:Nat} {fr:Fr} {ps:Array Tmp} {asg body:Code} {st:LoopState} {p:Option Code} (hr:C.H[r]? =some (.lp D n fr ps asg body st p)) :
    ∃ rec:Loop,w.heap[D+1]? =some (.loop rec)∧rec.state=st∧rec.pending=p∧rec.params=ps∧rec.assign=asg∧rec.body=body∧rec.tmps.size=n∧Sa C w rec.tmps fr∧
      ∀ st' p',Inv W0 (C.set r (.lp D n fr ps asg body st' p')) (w.putObj (D+1) (.loop {rec with state:=st',pending:=p'}))∧E9 C w (C.set r (.lp D n fr ps asg body st' p')) (w.putObj (D+1) (.loop {rec with state:=st',pending:=p'})):=by
  obtain⟨l,rec,h1,h0,h2,h3,h4,h5,h6,h7,h8,h9,h10,h11,h12⟩:=I.objs r _ hr
  rw[h0]at h2
  refine⟨rec,h2,h6,h7,h3,h4,h5,h9,h10,fun st' p'=>?_⟩
  have hs:=I.sep r l h1
  have hlt:D+1<w.heap.size:=by have:=hs.2.2.1;omega
  have hne:∀ b,b≠l.b→(w.putObj (D+1) (.loop {rec with state:=st',pending:=p'})).heap[b]? =w.heap[b]?:=fun b hb=>World.putObj_heap_other (by omega)
  refine I.put hr h1 hne World.putObj_size (R8 I.below (by omega) _) ?_ (fun m=>?_)
  ·unfold Dn
   simp only[Ctx.set,List.getElem?_set_self hs.1]
   exact⟨⟨_,hr,rfl⟩,trivial⟩
  ·exact⟨l,{rec with state:=st',pending:=p'},h1,h0,by rw[h0];exact World.putObj_heap_same hlt,h3,h4,h5,rfl,rfl,h8,h9,fun t=>(h10 t).mono m,h11,by rw[hne D (by omega)];exact h12⟩
def lH:Fr→List Tmp→List Ac→Fr
  | fr,t::ts,v::vs=>lH ((t,v)::fr) ts vs
  | fr,_,_=>fr
theorem gA {C:Ctx} {w:World}:∀ (ps:List Tmp) (vs:List Value) (args:List Ac) (tmps:Array Value) (fr:Fr),Sa C w tmps fr→vs.length=args.length→(∀ t∈ps,t<tmps.size)→
    (∀ (i:Nat) (v:Value) (a:Ac),vs[i]? =some v→args[i]? =some a→Bj C w v a)→
    Sa C w ((ps.zip vs).foldl (fun tmps (t,a)=>tmps.setIfInBounds t a) tmps) (lH fr ps args)∧((ps.zip vs).foldl (fun tmps (t,a)=>tmps.setIfInBounds t a) tmps).size=tmps.size
  | [],vs,args,tmps,fr,h,_,_,_=>⟨by cases args<;>exact h,rfl⟩
  | t::ps,[],[],tmps,fr,h,_,_,_=>⟨h,rfl⟩
  | t::ps,v::vs,a::args,tmps,fr,h,hl,hp,hv=>by
    have hs:(tmps.setIfInBounds t v).size=tmps.size:=by simp
    have h':Sa C w (tmps.setIfInBounds t v) ((t,a)::fr):=h.put (a:={tmps:=tmps,defers:=[]}) (hv 0 v a rfl rfl) (some t) (fun k hk=>by simp at hk;subst hk;exact hp t (by simp))
    have:=gA ps vs args (tmps.setIfInBounds t v) ((t,a)::fr) h' (by simpa using hl) (fun t' ht'=>by rw[hs];exact hp t' (List.mem_cons_of_mem _ ht')) (fun i v' a' h1 h2=>hv (i+1) v' a' (by simpa using h1) (by simpa using h2))
    exact⟨this.1,this.2.trans hs⟩
  | t::ps,[],a::args,tmps,fr,h,hl,_,_=>by simp at hl
  | t::ps,v::vs,[],tmps,fr,h,hl,_,_=>by simp at hl
def qyB (r D n:Nat) (fr:Fr) (ps:Array Tmp) (asg body:Code) (K:Ac→List Ar→Prop):Exit→Fr→List Ar→Prop
  | .normal,_,H=>∃ p,H[r]? =some (.lp D n fr ps asg body .busy p)∧K (.bool true) (H.set r (.lp D n fr ps asg body .ready none))
  | .ret,_,H=>∃ p,H[r]? =some (.lp D n fr ps asg body .busy p)∧K (.bool false) (H.set r (.lp D n fr ps asg body .done (some .ret)))
  | .exit id,_,H=>∃ p,H[r]? =some (.lp D n fr ps asg body .busy p)∧K (.bool false) (H.set r (.lp D n fr ps asg body .done (some (.exit id))))
  | _,_,_=>False
def qyA (md:Option Nat) (P:Program) (st:List Fr) (r D n:Nat) (fr:Fr) (ps:Array Tmp) (asg body bodyc:Code) (K:Ac→List Ar→Prop):Exit→Fr→List Ar→Prop
  | .normal,fr1,H=>∃ p,H[r]? =some (.lp D n fr ps asg body .ready p)∧AWP md P n bodyc (qyB r D n fr ps asg body K) st fr1 (H.set r (.lp D n fr ps asg body .busy p))
  | _,_,_=>False
theorem An.yield {r D n:Nat} {fr:Fr} {ps:Array Tmp} {asg body:Code} {p:Option Code} {args:List Ac} {st:List Fr} {H:List Ar} {K:Ac→List Ar→Prop} (hr:H[r]? =some (.lp D n fr ps asg body .ready p))
    (hlen:args.length=ps.size) (hps:(ps.toList.all fun t=>Nat.blt t n)=true) {asgc bodyc:Code} {pl:List Tmp} (hA:asg=asgc) (hB:body=bodyc) (hpl:ps.toList=pl) (h:∀ md,AWP md P n asgc (qyA md P st r D n fr ps asg body bodyc K) st (lH fr pl args) H):An P (.yld r) args st H K:=by
  subst hA hB hpl
  intro W0 C w outs fv vs I hH hO hf hl hv
  subst hH
  obtain⟨rec,e1,e2,e3,rfl,rfl,rfl,e7,e8,e9⟩:=fB I hr
  cases hf with
  | yld b _ hk hh=>
    obtain⟨l,h1,rfl⟩:=hh _ hr rfl
    obtain⟨l',_,h1',h0',_⟩:=I.objs r _ hr
    have hb:l.b=D+1:=by rw[h1]at h1';obtain rfl:=Option.some.inj h1';exact h0'
    rw[hb]
    refine .inr ⟨D+1,rec,rfl,e1,by rw[hl,hlen],roundIn_of_wpIn (F:=Fence.wide) trivial ?_⟩
    have hfold:(rec.params.zip vs.toArray).foldl (fun tmps (t,a)=>tmps.setIfInBounds t a) rec.tmps=(rec.params.toList.zip vs).foldl (fun tmps (t,a)=>tmps.setIfInBounds t a) rec.tmps:=by
      rw[← Array.foldl_toList];simp
    rw[hfold]
    have hF:=gA rec.params.toList vs args rec.tmps fr e8 hl (fun t ht=>by
      have:=List.all_eq_true.1 hps t ht
      rw[e7];simpa using this) hv
    refine jM (md:=some (D+1)) (n:=5) (wpIn_mono (h (some (D+1)) W0 C.A0 [] outs _ w ⟨C,rfl,rfl,I,hF.1,hO,by rw[← e7];exact hF.2,rfl⟩) ?_)
    intro e a1 w1 ⟨fr1,H1,hq,hR1⟩
    cases e with
    | normal=>
      obtain⟨p1,hr1,hb1⟩:=hq
      obtain⟨C1,rfl,hA1,I1,hF1,hO1,hn1,hd1⟩:=hR1.ex
      obtain⟨rec1,f1,f2,f3,f4,f5,f6,f7,f8,f9⟩:=fB I1 hr1
      have t1:=f9 .busy p1
      refine⟨_,run_beginRound f1 f2,?_⟩
      rw[show({rec1 with state:=LoopState.busy}:Loop)={rec1 with state:=.busy,pending:=p1} by rw[← f3]]
      refine jM (md:=some (D+1)) (n:=5) (wpIn_mono (hb1 W0 C.A0 [] outs a1 _ ⟨C1.set r (.lp D n fr rec.params rec.assign rec.body .busy p1),rfl,hA1,t1.1,hF1.mono t1.2,hO1.mono t1.2,hn1,hd1⟩) ?_)
      intro e a2 w2 ⟨fr2,H2,hq2,hR2⟩
      have fin:∀ (jump:Option Code) (p2:Option Code) (b:Bool) (st2:LoopState),b=jump.isNone→st2=(if jump.isNone then LoopState.ready else .done)→H2[r]? =some (.lp D n fr rec.params rec.assign rec.body .busy p2)→K (.bool b) (H2.set r (.lp D n fr rec.params rec.assign rec.body st2 jump))→
       ∃ v w',(Instr.endRound (D+1) jump).run P w2= .ok v w'∧∃ v' r C',Ending.returned v= .returned v'∧K r C'.H∧C'.A0=C.A0∧Bj C' w' v' r∧Inv W0 C' w'∧Ej C' w' outs st:=by
        intro jump p2 b st2 hb hst hr2 hk
        subst hb hst
        obtain⟨C2,rfl,hA2,I2,hF2,hO2,hn2,hd2⟩:=hR2.ex
        obtain⟨rec2,g1,g2,g3,g4,g5,g6,g7,g8,g9⟩:=fB I2 hr2
        have t2:=g9 (if jump.isNone then LoopState.ready else .done) jump
        exact⟨_,_,run_endRound jump g1,_,_,C2.set r (.lp D n fr rec.params rec.assign rec.body (if jump.isNone then LoopState.ready else LoopState.done) jump),rfl,hk,hA2,.bool _,t2.1,hO2.mono t2.2⟩
      cases e with
      | normal=>obtain ⟨p2,hr2,hk⟩:=hq2;exact fin none p2 true _ rfl rfl hr2 hk
      | ret=>obtain ⟨p2,hr2,hk⟩:=hq2;exact fin (some .ret) p2 false _ rfl rfl hr2 hk
      | exit id=>obtain ⟨p2,hr2,hk⟩:=hq2;exact fin (some (.exit id)) p2 false _ rfl rfl hr2 hk
      | _=>exact hq2.elim
    | _=>exact hq.elim
def yB (D:Nat) (H:List Ar):Prop:=∃ (r n:Nat) (fr:Fr) (ps:Array Tmp) (asg body:Code) (st:LoopState) (p:Option Code),H[r]? =some (Ar.lp D n fr ps asg body st p)
def jL (P:Program) (n:Nat) (c:Code) (Q:Exit→Fr→List Ar→Prop) (fr:Fr) (H:List Ar):Prop:=
  ∀ (W0:World) (A0:Nat→Prop) (a:Act) (w:World),Fx W0 A0 [] n [] [] fr H a w→
    c.wpIn (fence none) 5 P (fun e a' w'=>∃ fr' H',Q e fr' H'∧(Fx W0 A0 [] n [] [] fr' H' a' w'∨∃ D,W0.heap.size≤D∧yB D H'∧Fx W0 A0 [{target:=.collected D,args:=#[]}] n [] [] fr' H' a' w')) a w
theorem jL.pre {n:Nat} {c d:Code} {Q:Exit→Fr→List Ar→Prop} {fr:Fr} {H:List Ar} (h:AWP none P n c (qthen (jL P n d Q) Q) [] fr H):jL P n (.seq c d) Q fr H:=by
  intro W0 A0 a w R
  refine wpIn_seq (wpIn_mono (h W0 A0 [] [] a w R) ?_)
  intro e a' w' ⟨fr',H',hq,hR⟩
  cases e<;>first | exact hq W0 A0 a' w' hR | exact⟨fr',H',hq,.inl hR⟩
def qmD (D:Nat) (Q:Exit→Fr→List Ar→Prop) (e:Exit) (fr:Fr) (H:List Ar):Prop:=yB D H∧Q e fr H
theorem qmD.mk {D r n:Nat} {Q:Exit→Fr→List Ar→Prop} {e:Exit} {fr:Fr} {H:List Ar} {fr':Fr} {ps:Array Tmp} {asg body:Code} {st:LoopState} {p:Option Code} (hr:H[r]? =some (.lp D n fr' ps asg body st p)) (h:Q e fr H):qmD D Q e fr H:=⟨⟨r,n,fr',ps,asg,body,st,p,hr⟩,h⟩
def pF (P:Program) (n:Nat) (c:Code) (N:Option Nat→Fr→List Ar→Prop) (Q:Exit→Fr→List Ar→Prop) (fr:Fr) (H:List Ar):Prop:=
  ∀ (W0:World) (A0:Nat→Prop) (a:Act) (w:World),Fx W0 A0 [] n [] [] fr H a w→
    c.wpIn (fence none) 5 P (fun e a' w'=>∃ fr' H',(match e with
      | .normal=>(N none fr' H'∧Fx W0 A0 [] n [] [] fr' H' a' w')∨∃ D,W0.heap.size≤D∧N (some D) fr' H'∧Fx W0 A0 [{target:=.collected D,args:=#[]}] n [] [] fr' H' a' w'
      | e=>Q e fr' H'∧(Fx W0 A0 [] n [] [] fr' H' a' w'∨∃ D,W0.heap.size≤D∧yB D H'∧Fx W0 A0 [{target:=.collected D,args:=#[]}] n [] [] fr' H' a' w'))) a w
def nafter (P:Program) (n:Nat) (d:Code) (Q:Exit→Fr→List Ar→Prop):Option Nat→Fr→List Ar→Prop
  | none=>jL P n d Q
  | some D=>AWP none P n d (qmD D Q) []
theorem jL.seqq {n:Nat} {c d:Code} {Q:Exit→Fr→List Ar→Prop} {fr:Fr} {H:List Ar} (h:pF P n c (nafter P n d Q) Q fr H):jL P n (.seq c d) Q fr H:=by
  intro W0 A0 a w R
  refine wpIn_seq (wpIn_mono (h W0 A0 a w R) ?_)
  intro e a' w' ⟨fr',H',hq⟩
  cases e with
  | normal=>
    rcases hq with⟨hn,hR⟩ | ⟨D,hge,hn,hR⟩
    ·exact hn W0 A0 a' w' hR
    ·exact wpIn_mono (hn W0 A0 _ [] a' w' hR) fun e a' w' ⟨fr',H',hq,hR⟩=>⟨fr',H',hq.2,.inr ⟨D,hge,hq.1,hR⟩⟩
  | _=>exact ⟨fr',H',hq.1,hq.2⟩
theorem pF.seq {n:Nat} {c d:Code} {N:Option Nat→Fr→List Ar→Prop} {Q:Exit→Fr→List Ar→Prop} {fr:Fr} {H:List Ar} (h:AWP none P n c (qthen (pF P n d N Q) Q) [] fr H):pF P n (.seq c d) N Q fr H:=by
  intro W0 A0 a w R
  refine wpIn_seq (wpIn_mono (h W0 A0 [] [] a w R) ?_)
  intro e a' w' ⟨fr',H',hq,hR⟩
  cases e<;>first | exact hq W0 A0 a' w' hR | exact⟨fr',H',hq,.inl hR⟩
def qrange (n:Nat) (N:Option Nat→Fr→List Ar→Prop) (Q:Exit→Fr→List Ar→Prop) (id D r:Nat) (fr:Fr) (ps:Array Tmp) (asg body:Code) (_:Ac) (H:List Ar):Prop:=
  ∃ st p,H[r]? =some (.lp D n fr ps asg body st p)∧st≠.busy∧
    match p with
    | none=>N (some D) fr (H.set r (.lp D n fr ps asg body .exhausted p))
    | some .ret=>Q .ret fr (H.set r (.lp D n fr ps asg body .exhausted p))
    | some (.exit i)=>i=id∧N (some D) fr (H.set r (.lp D n fr ps asg body .exhausted p))
    | _=>False
section
variable {n id D r:Nat} {N:Option Nat→Fr→List Ar→Prop} {Q:Exit→Fr→List Ar→Prop} {fr:Fr} {ps:Array Tmp} {asg body d:Code} {v:Ac} {H:List Ar}
theorem qrange.all (hr:H[r]? =some (.lp D n fr ps asg body .ready none)) (h:AWP none P n d (qmD D Q) [] fr (H.set r (.lp D n fr ps asg body .exhausted none))):qrange n (nafter P n d Q) Q id D r fr ps asg body v H:=⟨_,_,hr,by simp,h⟩
theorem qrange.ret (hr:H[r]? =some (.lp D n fr ps asg body .done (some .ret))) (h:Q .ret fr (H.set r (.lp D n fr ps asg body .exhausted (some .ret)))):qrange n N Q id D r fr ps asg body v H:=⟨_,_,hr,by simp,h⟩
end
theorem qyA.mk {md:Option Nat} {st:List Fr} {r D n:Nat} {fr fr1:Fr} {ps:Array Tmp} {asg body bodyc:Code} {K:Ac→List Ar→Prop} {H:List Ar} {p:Option Code} (hr:H[r]? =some (.lp D n fr ps asg body .ready p))
    (h:AWP md P n bodyc (qyB r D n fr ps asg body K) st fr1 (H.set r (.lp D n fr ps asg body .busy p))):qyA md P st r D n fr ps asg body bodyc K .normal fr1 H:=⟨p,hr,h⟩
section
variable {r D n:Nat} {fr fr1:Fr} {ps:Array Tmp} {asg body:Code} {K:Ac→List Ar→Prop} {H:List Ar} {p:Option Code}
theorem qyB.next (hr:H[r]? =some (.lp D n fr ps asg body .busy p)) (h:K (.bool true) (H.set r (.lp D n fr ps asg body .ready none))):qyB r D n fr ps asg body K .normal fr1 H:=⟨p,hr,h⟩
theorem qyB.ret (hr:H[r]? =some (.lp D n fr ps asg body .busy p)) (h:K (.bool false) (H.set r (.lp D n fr ps asg body .done (some .ret)))):qyB r D n fr ps asg body K .ret fr1 H:=⟨p,hr,h⟩
theorem qyB.exit {id:Nat} (hr:H[r]? =some (.lp D n fr ps asg body .busy p)) (h:K (.bool false) (H.set r (.lp D n fr ps asg body .done (some (.exit id))))):qyB r D n fr ps asg body K (.exit id) fr1 H:=⟨p,hr,h⟩
end
theorem pF.range {n id:Nat} {g:Operand} {ps:Array Tmp} {asg body:Code} {N:Option Nat→Fr→List Ar→Prop} {Q:Exit→Fr→List Ar→Prop} {fr0:Fr} {H:List Ar} {f:FuncId} {cs:List Ac} (fr:Fr) (hF0:fM fr0 fr) (hH0:Yh H H) (hg:ev fr g= .func f cs)
    (h:∀ D asg' body',asg'=asg→body'=body→An P (.func f cs) [.yld H.length] [fr] (H++[.lp D n fr ps asg' body' .ready none]) (qrange n N Q id D H.length fr ps asg' body')):pF P n (.block id (.rangeFunc g ps asg body)) N Q fr0 H:=by
  intro W0 A0 a w R0
  have R:=Sub.weak (outer:=[]) hH0 hF0 (.inl rfl) _ _ _ _ _ _ _ R0
  clear R0 hF0 hH0
  replace h:=fun D=>h D asg body rfl rfl
  obtain⟨C,rfl,rfl,I,hF,hO,hn,hd⟩:=R.ex
  refine wpIn_block (wpIn_rangeFunc fun fn _=>?_)
  have henter:=run_enterLoop_outer (P:=P) (w:=w) fn a.tmps ps asg body
  have g1:=I.grow (w':=w.alloc (.deferred (some []))) (fun b=>b=w.heap.size) (fun b hb=>by subst hb;simp) (by
    exact((Below.refl w.heap.size w).alloc (Nat.le_refl _) _))
  have hD:(w.alloc (.deferred (some []))).heap[w.heap.size]? =some (.deferred (some [])):=World.alloc_heap_new w _
  have g2:=g1.1.alloc (C.more fun b=>b=w.heap.size).H.length (.inl rfl) (.lp w.heap.size n fr ps asg body .ready none)
    (.loop {state:=.ready,pending:=none,fn,tmps:=a.tmps,params:=ps,assign:=asg,body:=body,defers:=w.heap.size}) 0 (fun m=>by
      refine⟨_,_,Ctx.Ss _ _ _ _,by simp,Dy _ _,rfl,rfl,rfl,rfl,rfl,rfl,hn,fun t=>((hF t).mono g1.2).mono m,.inr rfl,?_⟩
      rw[Below.heap_alloc _ _ _ (by simp)];exact hD)
  have hH:((C.more fun b=>b=w.heap.size).new (C.more fun b=>b=w.heap.size).H.length (.lp w.heap.size n fr ps asg body .ready none) ⟨(w.alloc (.deferred (some []))).heap.size,0,0⟩).H=C.H++[.lp w.heap.size n fr ps asg body .ready none]:=by
    show Gq C.H C.H.length _=_
    unfold Gq;rw[if_pos rfl]
  have hm:=g1.2.trans g2.2
  have hcall:=h w.heap.size W0 _ _ (a.tmps::[]) (a.eval g) [.func (.yield (w.heap.size+1)) #[] #[]] g2.1 hH (Ej.nil.cons (hF.mono hm)) (hg ▸ Qh (hF.mono hm) g) rfl (fun i v x hv hx=>by
    match i with
    | 0=>
      simp at hv hx
      subst hv hx
      refine .yld _ _ (Ctx.Q7 (C:=C.more fun b=>b=w.heap.size) (.inl rfl) _ (by simp)) fun o ho hlp=>⟨_,Ctx.Ss (C.more fun b=>b=w.heap.size) _ _ _,by simp⟩
    | i+1=>simp at hv)
  rcases hcall with⟨fid,caps,h1,h2,h3⟩ | ⟨l,rec,h1,hl,_⟩
  ·generalize hW1:(w.alloc (.deferred (some []))).alloc (.loop {state:=.ready,pending:=none,fn,tmps:=a.tmps,params:=ps,assign:=asg,body:=body,defers:=w.heap.size})=W1 at henter h3 g2 hm
   refine⟨w.heap.size+1,[{target:=.collected w.heap.size,args:=#[]}],W1,{target:=.fn (.func fid) caps,args:=#[.func (.yield (w.heap.size+1)) #[] #[]]},W1,fid,#[.func (.yield (w.heap.size+1)) #[] #[]]++caps,W1,henter,?_,fun _ _=>trivial,?_,Sx,?_⟩
   rotate_left 2
   ·refine W8 (h3.mono ?_)
    rintro e w3 ⟨v,r,C3,he,hk,hA,hv,I3,hO3⟩
    subst he
    obtain⟨st,p,hr,hst,hk⟩:=hk
    obtain⟨rec,e1,e2,e3,e4,e5,e6,e7,e8,e9⟩:=fB I3 hr
    have t:=e9 .exhausted p
    refine⟨rec.pending,_,run_endLoop e1 (by rw[e2];exact hst),?_⟩
    rw[show({rec with state:=LoopState.exhausted}:Loop)={rec with state:=.exhausted,pending:=p} by rw[← e3]]
    have hlt:=(List.getElem?_eq_some_iff.1 hr).1
    have hhas:yB w.heap.size (C3.H.set C.H.length (.lp w.heap.size n fr ps asg body .exhausted p)):=⟨C.H.length,_,_,_,_,_,_,_,List.getElem?_set_self hlt⟩
    have R3:Fx W0 C.A0 ({target:=.collected w.heap.size,args:=#[]}::[]) n [] [] fr (C3.H.set C.H.length (.lp w.heap.size n fr ps asg body .exhausted p)) {a with defers:=[{target:=.collected w.heap.size,args:=#[]}]++a.defers} (w3.putObj (w.heap.size+1) (.loop {rec with state:=.exhausted,pending:=p})):=
      ⟨C3.set C.H.length (.lp w.heap.size n fr ps asg body .exhausted p),rfl,hA,t.1,hO3.head.mono t.2,.nil,hn,by simp[hd]⟩
    rw[e3]
    cases p with
    | none=>exact ⟨fr,_,.inr ⟨_,I.below.size,hk,R3⟩⟩
    | some c=>
      cases c<;>first | exact hk.elim | skip
      ·obtain⟨rfl,hk⟩:=hk
       refine wpIn_exit ?_
       simp only[Exit.inBlock,if_pos]
       exact⟨fr,_,.inr ⟨_,I.below.size,hk,R3⟩⟩
      ·exact wpIn_ret ⟨fr,_,hk,.inr ⟨_,I.below.size,hhas,R3⟩⟩
   ·simp only[resolve,rangeCall,Deferred.ofValue,h1,Sem.run_bind,Sem.run_pure,Result.andThen_ok]
    rw[show(#[]++Array.map a.eval #[Operand.const (Value.func (Fn.yield (w.heap.size+1)) #[] #[])]:Array Value)=#[Value.func (Fn.yield (w.heap.size+1)) #[] #[]] by apply Array.ext';simp[Act.eval]]
   ·simp only[invoke]
    exact h2 _ _
  ·have hv:=Qh hF g
   rw[hg,h1]at hv
   cases hv
def Oa:Ar→Ar
  | .lp _ _ _ _ _ _ _ _=>.gone
  | o=>o
def Ctx.Oa (C:Ctx):Ctx:={C with ρ:=fun r=>match C.H[r]? with | some (.lp _ _ _ _ _ _ _ _)=>none | _=>C.ρ r,H:=C.H.map Go.Ab.Oa}
theorem Ctx.Rs (C:Ctx) (r:Nat):C.Oa.H[r]? =(C.H[r]?).map Go.Ab.Oa:=by simp[Ctx.Oa]
theorem Ctx.U7 {C:Ctx} {r:Nat} {o:Ar} (h:C.Oa.H[r]? =some o) (ho:o≠.gone):C.H[r]? =some o∧C.Oa.ρ r=C.ρ r:=by
  rw[Ctx.Rs]at h
  cases hc:C.H[r]? with
  | none=>rw[hc]at h;cases h
  | some o0=>
    rw[hc]at h
    obtain rfl:=Option.some.inj h
    cases o0<;>first | exact absurd rfl ho | exact⟨rfl,by simp only[Ctx.Oa,hc]⟩
theorem Ctx.O0 {C:Ctx} {r:Nat} (h:C.known r):C.Oa.known r:=by
  obtain⟨o,ho,hne⟩:=h
  refine⟨Go.Ab.Oa o,by rw[Ctx.Rs,ho];rfl,?_⟩
  cases o<;>first | exact absurd rfl hne | simp[Go.Ab.Oa]
theorem Bj.shut {C:Ctx} {w w':World} {D:Nat} {ds:Option (List Deferred)} (hD:w.heap[D]? =some (.deferred ds)) (hw:∀ b,b≠D→w'.heap[b]? =w.heap[b]?) {v:Value} {a:Ac} (h:Bj C w v a):Bj C.Oa w' v a:=by
  have hcell:∀ (ad:Addr) (u:Value),w.cell? ad=some u→w'.cell? ad=some u:=by
    intro ad u h
    by_cases e:ad.block=D
    ·have:w.cell? ad=none:=by unfold World.cell?;rw[e,hD]
     rw[this]at h;cases h
    ·rw[Gw (hw _ e)];exact h
  induction h with
  | any v=>exact .any v
  | bool b=>exact .bool b
  | int k n=>exact .int k n
  | str s=>exact .str s
  | agg arr cs h _ ih=>exact .agg arr cs h ih
  | tuple arr cs h _ ih=>exact .tuple arr cs h ih
  | nils=>exact .nils
  | z0 a=>exact .z0 a
  | sl0 a cap sz hcm=>exact .sl0 a cap sz hcm
  | sl a len cap xs sz u hsp hlen hlc hcm hA hsz1 hsz hg hc hrep ih=>exact .sl a len cap xs sz u hsp hlen hlc hcm hA hsz1 hsz hg (fun j hj=>hcell _ _ (hc j hj)) ih
  | own a len cap r v lo hr hlc hcm hv=>
    refine .own a len cap r v lo (Ctx.O0 hr) hlc hcm fun v' sz xs h=>?_
    have:=Ctx.U7 h (by simp)
    rw[this.2];exact hv _ _ _ this.1
  | eptr a cs u hsp hA hg hc hrep ih=>exact .eptr a cs u hsp hA hg (fun j hj=>hcell _ _ (hc j hj)) ih
  | ptr a r k hr h=>
    refine .ptr a r k (Ctx.O0 hr) fun cs h'=>?_
    have:=Ctx.U7 h' (by simp)
    rw[this.2];exact h _ this.1
  | rptr a r v i k hr h=>
    refine .rptr a r v i k (Ctx.O0 hr) fun v' sz xs h'=>?_
    have:=Ctx.U7 h' (by simp)
    rw[this.2];exact h _ _ _ this.1
  | nilm=>exact .nilm
  | map b r hr h=>
    refine .map b r (Ctx.O0 hr) fun o h' hl=>?_
    have:=Ctx.U7 h' (by rintro rfl;cases hl)
    rw[this.2];exact h _ this.1 hl
  | vmap0=>exact .vmap0
  | vmap b es entries clock hA hg hh hwf hrep ih=>
    refine .vmap b es entries clock hA hg ?_ hwf ih
    rw[hw b (fun e=>by rw[e,hD]at hh;cases hh)];exact hh
  | func f arr cs h _ ih=>exact .func f arr cs h ih
  | iter a r hr hsp h=>
    refine .iter a r (Ctx.O0 hr) hsp fun left cur h'=>?_
    have:=Ctx.U7 h' (by simp)
    rw[this.2];exact h _ _ this.1
  | yld b r hr h=>
    refine .yld b r (Ctx.O0 hr) fun o h' hl=>?_
    have:=Ctx.U7 h' (by rintro rfl;cases hl)
    rw[this.2];exact h _ this.1 hl
theorem Inv.shut {W0:World} {C:Ctx} {w w':World} (I:Inv W0 C w) {D:Nat} {ds:Option (List Deferred)} (hD:w.heap[D]? =some (.deferred ds)) (hw:∀ b,b≠D→w'.heap[b]? =w.heap[b]?) (hsz:w'.heap.size=w.heap.size) (hb:Below W0.heap.size W0 w'):Inv W0 C.Oa w':=by
  have sh:∀ {v a},Bj C w v a→Bj C.Oa w' v a:=fun h=>h.shut hD hw
  have hρ:∀ {r l},C.Oa.ρ r=some l→C.ρ r=some l:=by
    intro r l h
    simp only[Ctx.Oa]at h
    split at h
    ·cases h
    ·exact h
  refine⟨hb,fun b hA=>by rw[hsz];exact I.sub b hA,I.old,fun r l h=>?_,fun r r' l l' h h'=>I.inj r r' l l' (hρ h) (hρ h'),fun r o h=>?_⟩
  ·have:=I.sep r l (hρ h)
   exact⟨by simpa[Ctx.Oa]using this.1,this.2.1,by rw[hsz];exact this.2.2.1,this.2.2.2⟩
  ·by_cases hg:o= .gone
   ·subst hg
    show C.Oa.ρ r=none
    rw[Ctx.Rs]at h
    cases hc:C.H[r]? with
    | none=>rw[hc]at h;cases h
    | some o0=>
      rw[hc]at h
      have h:=Option.some.inj h
      have hR:=I.objs r o0 hc
      cases o0<;>simp only[Go.Ab.Oa]at h<;>first | (cases h;done) | skip
      ·simp only[Ctx.Oa,hc]
      ·simp only[Ctx.Oa,hc];exact hR
   ·obtain⟨h1,h2⟩:=Ctx.U7 h hg
    have hR:=I.objs r o h1
    have hne:∀ {b:Nat} {o':Obj},w.heap[b]? =some o'→(∀ x,o'≠Obj.deferred x)→w'.heap[b]? =some o':=by
      intro b o' hb hx
      rw[hw b (fun e=>by rw[e,hD]at hb;exact hx _ (Option.some.inj hb).symm)];exact hb
    cases o with
    | box cs=>
      obtain⟨l,arr,T,h1,h3,h4,h5⟩:=hR
      exact⟨l,arr,T,by rw[h2];exact h1,hne h3 (by simp),h4,fun i u c a b=>sh (h5 i u c a b)⟩
    | row v sz xs=>
      obtain⟨e1,e2,e3,h⟩:=hR
      refine⟨e1,e2,e3,?_⟩
      rcases h with⟨h1,h3⟩ | ⟨l,arr,T,h1,h3,h4,h5,h6⟩
      ·exact .inl ⟨h1,by rw[h2];exact h3⟩
      ·refine .inr ⟨l,arr,T,by rw[h2];exact h1,hne h3 (by simp),h4,h5,fun i k x c a b=>?_⟩
       obtain⟨u,hu,hr⟩:=h6 i k x c a b
       exact⟨u,hu,sh hr⟩
    | mp es=>
      obtain⟨l,en,cl,h1,h3,h4,hg,h5⟩:=hR
      exact⟨l,en,cl,by rw[h2];exact h1,hne h3 (by simp),h4,hg,fun i e p a b=>sh (h5 i e p a b)⟩
    | mpo q es=>
      obtain⟨l,en,cl,h1,h3,h4,h5⟩:=hR
      exact⟨l,en,cl,by rw[h2];exact h1,hne h3 (by simp),h4,fun i e p a b=>sh (h5 i e p a b)⟩
    | it left cur=>
      obtain⟨l,h1,h⟩:=hR
      refine⟨l,by rw[h2];exact h1,?_⟩
      rcases h with⟨e2,e2',s,n,k,h3⟩ | ⟨bm,seen,en,clock,e2,h3,h4,h5,h6,h7,h8⟩
      ·exact .inl ⟨e2,e2',s,n,k,hne h3 (by simp)⟩
      ·refine .inr ⟨bm,seen,en,clock,hne e2 (by simp),h3,hne h4 (by simp),h5,h6,⟨h7.1,fun i e p a b=>⟨(h7.2 i e p a b).1,(h7.2 i e p a b).2.1,sh (h7.2 i e p a b).2.2⟩⟩,fun p hp=>?_⟩
       obtain⟨e,g1,g2,g3,g4,g5⟩:=h8 p hp
       exact⟨e,g1,g2,g3,g4,sh g5⟩
    | lp D' n fr ps asg body st p=>
      rw[Ctx.Rs,h1]at h
      exact absurd (Option.some.inj h).symm hg
    | gone=>exact absurd rfl hg
    | resv=>show C.Oa.ρ r=none;rw[h2];exact hR
theorem lY (fr:Fr) (C:Ctx) (rv:ResultVar) {a:Ac} (h:aresult P fr C.H rv=some a):aresult P fr C.Oa.H rv=some a:=by
  cases rv with
  | tmp t=>exact h
  | cell p T=>
    simp only[aresult]at h ⊢
    split at h
    ·rename_i r k hpk
     rw[Ctx.Rs]
     cases hc:C.H[r]? with
     | none=>rw[hc]at h;cases h
     | some o=>
       rw[hc]at h
       cases o<;>first | exact h | (cases h;done)
    ·cases h
theorem Yz (fr:Fr) (C:Ctx):∀ (l:List ResultVar) {vs:List Ac},Gh (aresult P fr C.H) l=some vs→Gh (aresult P fr C.Oa.H) l=some vs
  | [],vs,h=>h
  | rv::l,vs,h=>by
    simp only[Gh]at h ⊢
    split at h
    ·rename_i y ys h1 h2
     rw[lY fr C rv h1,Yz fr C l h2]
     exact h
    ·cases h
theorem kE (C:Ctx) (a:Ac):W4 C.Oa.H a=W4 C.H a:=by
  unfold W4
  split
  ·rename_i r _ _ _
   rw[Ctx.Rs]
   cases hc:C.H[r]? with
   | none=>rfl
   | some o=>cases o<;>rfl
  ·rename_i r
   rw[Ctx.Rs]
   cases hc:C.H[r]? with
   | none=>rfl
   | some o=>cases o<;>rfl
  all_goals rfl
theorem Zg {α β:Type} {f g:α→Option β} (h:∀ x,f x=g x):∀ l:List α,Gh f l=Gh g l
  | []=>rfl
  | x::l=>by simp only[Gh,h x,Zg h l]
theorem kD (C:Ctx) (a:Ac):On C.Oa.H a=On C.H a:=by
  unfold On
  split
  ·rw[Zg (kE C)]
  ·exact kE C _
theorem tY (C:Ctx) (a:Ac):jC C.Oa.H a=jC C.H a:=by
  unfold jC
  split
  ·rw[Zg (kD C)]
  ·exact kD C _
theorem Ad.zR {f:FuncId} {fn:Func} {c:Code} {n:Nat} {args:List Ac} {R:Ac→Prop} (hf:P.funcs[f]? =some fn) (hb:fn.body=some c) (hn:fn.ntmps=n) (hlen:args.length≤n)
    (h:jL P n c (qret P fn (rfrz R)) (R2 args 0) []):Ad P f args R:=by
  intro A w vs hA hvs
  have hsize:(vs.toArray++Array.replicate (fn.ntmps - vs.toArray.size) undef).size=n:=by
    have:=hvs.1
    simp only[Array.size_append,List.size_toArray,Array.size_replicate];omega
  have I0:Inv w (Ctx.imm A) w:=⟨.refl _ _,hA,fun b hb _=>hb,by simp[Ctx.imm],by simp[Ctx.imm],by simp[Ctx.imm]⟩
  refine(callsIn_wide (n:=5)).1 (callsIn_of_wp_marks hf hb trivial (wpIn_mono (h w A _ w ⟨Ctx.imm A,rfl,rfl,I0,Un hvs _,.nil,hsize,rfl⟩) ?_))
  intro e a' w' ⟨fr',H',hq,hR⟩
  have key:∀ (C:Ctx) (w2:World),C.A0=A→Inv w C w2→Sa C w2 a'.tmps fr'→(match Gh (aresult P fr' C.H) fn.results.toList with | some vs=>rfrz R (aret vs) C.H | none=>False)→
   LeavesIn Fence.wide 5 P fn a'.tmps (fun e w'=>∃ v r,e= .returned v∧R r∧r.g2=true∧Below w.heap.size w w'∧Bj (Ctx.imm fun b=>A b∨(w.heap.size≤b∧b<w'.heap.size)) w' v r) [] .returning w2:=by
    intro C w2 hA0 I hF h
    split at h
    ·rename_i rs hrs
     obtain⟨v,h1,h2⟩:=Pp (P:=P) I hF hrs
     unfold rfrz at h
     split at h
     ·rename_i r hr
      have h3:=W2 I h2 hr
      refine⟨v,h1,v,r,rfl,h,h3.1,I.below,Bj.ground' (fun b hb=>?_) h3.2 h3.1⟩
      rcases hb with hb | hb
      ·by_cases hlt:b<w.heap.size
       ·exact .inl (hA0 ▸ I.old b hb hlt)
       ·exact .inr ⟨by omega,I.sub b hb⟩
      ·exact .inr hb
     ·exact h.elim
    ·exact h.elim
  have all:(match Gh (aresult P fr' H') fn.results.toList with | some vs=>rfrz R (aret vs) H' | none=>False)→
   LeavesInM Fence.wide 5 P fn a'.tmps (fun e w'=>∃ v r,e= .returned v∧R r∧r.g2=true∧Below w.heap.size w w'∧Bj (Ctx.imm fun b=>A b∨(w.heap.size≤b∧b<w'.heap.size)) w' v r) a'.defers .returning w':=by
    intro h
    rcases hR with hR | ⟨D,hDge,hD,hR⟩
    ·obtain⟨C,rfl,hA0,I,hF,_,_,hd⟩:=hR.ex
     rw[hd]
     exact key C w' hA0 I hF h
    ·obtain⟨C,rfl,hA0,I,hF,_,_,hd⟩:=hR.ex
     rw[hd]
     obtain⟨r,n',fr2,ps,asg,body,st,p,hr⟩:=hD
     obtain⟨l,rec,_,_,_,_,_,_,_,_,_,_,_,_,hdD⟩:=I.objs r _ hr
     obtain⟨l',_,hl',h0',_⟩:=I.objs r _ hr
     have hs:=I.sep r l' hl'
     have hDlt:D<w'.heap.size:=(Array.getElem?_eq_some_iff.1 hdD).1
     refine⟨by simp,.inl ⟨D,_,rfl,run_takeDeferred hdD,?_⟩⟩
     have hw:∀ b,b≠D→(w'.putObj D (.deferred none)).heap[b]? =w'.heap[b]?:=fun b hb=>World.putObj_heap_other hb
     have I2:=I.shut hdD hw World.putObj_size (R8 I.below hDge _)
     refine key C.Oa _ hA0 I2 (fun t=>(hF t).shut hdD hw) ?_
     split at h
     ·rename_i rs hrs
      rw[Yz fr' C _ hrs]
      have h':rfrz R (aret rs) C.Oa.H:=by
        unfold rfrz at h ⊢
        rw[tY C (aret rs)]
        exact h
      exact h'
     ·exact h.elim
  cases e with
  | normal=>exact all hq
  | ret=>exact all hq
  | _=>exact hq.elim
variable {P:Program} {md:Option Nat}
theorem pG {s:Nat}:∀ {t:Nat},s<t→tri s+s<tri t
  | t+1,h=>by
    simp only[tri]
    by_cases e:s=t
    ·subst e;omega
    ·have:=pG (s:=s) (t:=t) (by omega);omega
theorem uY {a b:Int} (h:zz a=zz b):a=b:=by
  unfold zz at h
  split at h<;>split at h<;>omega
theorem zM {a b c d:Int} (h:pk a b=pk c d):a=c∧b=d:=by
  unfold pk at h
  have h:tri (zz a+zz b)+zz b=tri (zz c+zz d)+zz d:=by omega
  rcases Nat.lt_trichotomy (zz a+zz b) (zz c+zz d)with h1 | h1 | h1
  ·have:=pG h1;omega
  ·rw[h1]at h
   have h2:zz b=zz d:=by omega
   exact⟨uY (by omega),uY h2⟩
  ·have:=pG h1;omega
theorem sK.unique {u v:Value} {n:Int} (h:sK true u n) (k:sK true v n):u=v:=by
  obtain⟨a,b,rfl,h1⟩:=h
  obtain⟨c,d,rfl,h2⟩:=k
  obtain⟨rfl,rfl⟩:=zM (h1.symm.trans h2)
  rfl
theorem ALP.op1 {n:Nat} {outer:List Fr} {all rest:List Oper} {Q:Exit→Fr→List Ar→Prop} {fr:Fr} {H:List Ar} {dst:Option Tmp} {op:Op} {type:TypeId} {pos:String} {after:Array Edge} (hd:(match dst with | some d=>Nat.blt d n | none=>true)=true) (hnd:∀ c,op≠.defer c)
    (h:∀ (W0:World) (C:Ctx) (w:World) (ρ:Operand→Value),Inv W0 C w→C.H=H→(∀ x,Bj C w (ρ x) (ev fr x))→Tx W0 C w ((execOp ρ {dst,op,type,pos,after,guard:=none}).run P w) (fun v ef=>ALP md P n outer all rest Q (put fr dst v) (ef.app H))) :
    ALP md P n outer all ({dst,op,type,pos,after,guard:=none}::rest) Q fr H:=by
  intro W0 A0 ds outs a w R
  obtain⟨C,rfl,rfl,I,hF,hO,hn,hdf⟩:=R.ex
  have hlt:∀ k,dst=some k→k<a.tmps.size:=by
    intro k hk
    subst hk
    rw[hn]
    simpa using hd
  have srep:∀ (C':Ctx) (w':World) (v:Value) (r:Ac),C'.A0=C.A0→Inv W0 C' w'→Sa C' w' a.tmps fr→Ej C' w' outs outer→Bj C' w' v r→Fx W0 C.A0 ds n outs outer (put fr dst r) C'.H (a.put dst v) w':=
    fun C' w' v r e I' hF' hO' hv=>⟨C',rfl,e,I',hF'.put hv dst hlt,hO',by rw[fZ,hn],by rw[put_defers,hdf]⟩
  unfold wpListIn
  rw[if_pos (by simp[Region.wanted])]
  unfold Oper.wpIn
  refine⟨fun _ _=>trivial,?_⟩
  rw[Oper.semAt_eq _ _ _ hnd]
  obtain⟨r,w',C',ef,hres,hk,hH,I',m⟩:=(h W0 C w a.eval I rfl (Qh hF)).ex
  rw[← hH]at hk
  rcases hres with⟨v,hrun,hv⟩ | ⟨hrun,rfl⟩
  ·rw[hrun,Oper.uponIn_value]
   exact hk W0 C.A0 ds outs _ w' (srep C' w' v r m.A0 I' (hF.mono m) (hO.mono m) hv)
  ·rw[hrun,Oper.uponIn_skip]
   exact hk W0 C.A0 ds outs _ w' (srep C' w' undef _ m.A0 I' (hF.mono m) (hO.mono m) (T4 C' w'))
variable {P:Program}
variable {P:Program}
theorem oL {W0:World} {C:Ctx} {w:World} (I:Inv W0 C w) {T e:TypeId} {k:IntKind} {x:Value} {r v lo n:Nat} {xs:List (List Ac)} (hx:Bj C w x (.own r v lo n)) (hT:P.underlying T=some (.slice e))
    (hz:zeroV P e=some (.int k 0)) (hr:C.H[r]? =some (.row v 1 xs)) (hlo:lo+n=xs.length) (ty:TypeId) {K:Ac→Eff→Prop} (hk:K (.tuple []) (.set r (.row v 1 (xs.take lo++List.replicate n [.int k 0])))) :
    V8 W0 C w ((Builtin.clear_ #[T] ty #[x]).run P w) K:=by
  cases hx with
  | own a _ cap _ _ _ hkn hlc hcm hv=>
    obtain⟨-,h⟩:=hv _ _ _ hr
    obtain⟨h1,h2⟩:=h rfl
    have hlt:r<C.H.length:=(List.getElem?_eq_some_iff.1 hr).1
    cases n with
    | zero=>
      have e0:xs.take lo++List.replicate 0 [Ac.int k 0]=xs:=by rw[List.replicate_zero,List.append_nil];exact List.take_of_length_le (by omega)
      rw[e0]at hk
      have hrun:(Builtin.clear_ #[T] ty #[.slice a 0 cap]).run P w= .ok (.tuple #[]) w:=by
        cases a<;>simp[Builtin.clear_,Iz hT]
      refine⟨_,_,w,C,_,hrun,.tuple _ _ rfl (by simp),hk,?_,I,.refl _ _⟩
      show C.H=C.H.set r _
      apply List.ext_getElem?
      intro i
      by_cases e:r=i
      ·subst e;rw[List.getElem?_set_self hlt];exact hr
      ·rw[List.getElem?_set_ne e]
    | succ m=>
      obtain⟨l,hl,ha,hcap⟩:=h2.resolve_left (by omega)
      subst ha
      obtain⟨_,hsz,hg,ho⟩:=I.objs r _ hr
      rcases ho with⟨_,e1⟩ | ⟨l',arr,T',e1,e2,e3,e4,e5⟩
      ·rw[hl]at e1;cases e1
      rw[hl,Option.some.injEq]at e1
      subst e1
      have hzc:(Builtin.zeroCells (Value.int k 0).cells (m+1)).toList=List.replicate (m+1) (Value.int k 0):=by
        simp[Builtin.zeroCells,Value.cells]
        apply List.ext_getElem
        ·simp
        ·intro i h1 h2
         simp[Nat.mod_one]
      have hf2:l.base+lo*1+(List.replicate (m+1) (Value.int k 0)).length≤arr.size:=by simp;omega
      have hst:=run_storeCells_at P l.b (l.base+lo*1) T' (List.replicate (m+1) (Value.int k 0)) 0 arr w e2 (by simpa using hf2) (by intro u hu;rw[List.eq_of_mem_replicate hu];rfl)
      simp only[Nat.add_zero]at hst
      have hrun:(Builtin.clear_ #[T] ty #[.slice (some ⟨l.b,l.base+lo*1,none⟩) (m+1) cap]).run P w= .ok (.tuple #[]) (w.setRow l.b (arr.toList.take (l.base+lo*1)++List.replicate (m+1) (Value.int k 0)++arr.toList.drop (l.base+lo*1+(List.replicate (m+1) (Value.int k 0)).length)).toArray):=by
        have hst':=hst
        simp only[Nat.mul_one]at hst' ⊢
        simp only[Builtin.clear_,Sem.run_bind,Sem.run_pure,Result.andThen_ok,Iz hT,T1 hz,hzc,hst',List.getElem?_toArray,List.getElem?_cons_zero,List.size_toArray]
      have hlen:(xs.take lo++List.replicate (m+1) [Ac.int k 0]).length=xs.length:=by simp;omega
      have hget:∀ (i:Nat) (y:List Ac),(xs.take lo++List.replicate (m+1) [Ac.int k 0])[i]? =some y→(i<lo∧xs[i]? =some y)∨(lo≤i∧i<lo+(m+1)∧y=[.int k 0]):=by
        intro i y h
        rw[List.getElem?_append]at h
        have el:(xs.take lo).length=lo:=by simp;omega
        rw[el]at h
        split at h
        ·rename_i hi
         rw[List.getElem?_take,if_pos hi]at h;exact .inl ⟨hi,h⟩
        ·rename_i hi
         have h':=List.getElem?_eq_some_iff.1 h
         obtain⟨hi2,rfl⟩:=h'
         simp at hi2
         exact .inr ⟨by omega,by omega,by simp⟩
      have key:=I.put (o':=.row v 1 (xs.take lo++List.replicate (m+1) [.int k 0])) hr hl (w':=w.setRow l.b (arr.toList.take (l.base+lo*1)++List.replicate (m+1) (Value.int k 0)++arr.toList.drop (l.base+lo*1+(List.replicate (m+1) (Value.int k 0)).length)).toArray)
        (fun b hb=>setRow_other w l.b b _ hb) (by simp[World.setRow]) (Qx I.below (I.sep _ _ hl).2.1 _)
        (by unfold Dn;simp only[Ctx.set,List.getElem?_set_self hlt];exact .inl ⟨_,hr,by omega,trivial⟩)
        (fun mm=>⟨Nat.le_refl 1,fun x2 h2=>by
         obtain⟨i,hi⟩:=List.getElem?_of_mem h2
         rcases hget i x2 hi with⟨_,h⟩ | ⟨_,_,rfl⟩
         ·exact hsz x2 (Ai4 h)
         ·rfl,fun x2 h2=>by
         obtain⟨i,hi⟩:=List.getElem?_of_mem h2
         rcases hget i x2 hi with⟨_,h⟩ | ⟨_,_,rfl⟩
         ·exact hg x2 (Ai4 h)
         ·intro c hc;simp at hc;subst hc;rfl,
          .inr ⟨l,_,T',hl,Su e2,by rw[Sk hf2,e3],by rw[hlen];exact e4,fun i2 k2 x2 c2 g1 g2=>by
            rw[Us hf2]
            rcases hget i2 x2 g1 with⟨hi,h⟩ | ⟨hi,hi2,rfl⟩
            ·obtain⟨u,hu,hur⟩:=e5 i2 k2 _ c2 h g2
             have hk2:k2<1:=by have:=Ct g2;have:=hsz _ (Ai4 h);omega
             exact⟨u,by rw[if_pos (by omega)];exact hu,hur.mono mm⟩
            ·have hk2:k2=0:=by have:=(List.getElem?_eq_some_iff.1 g2).1;simp at this;exact this
             subst hk2
             simp at g2;subst g2
             refine⟨.int k 0,?_,.int _ _⟩
             rw[if_neg (by omega),if_pos (by simp;omega)]
             rw[List.getElem?_replicate,if_pos (by omega)]⟩⟩)
      exact⟨_,_,_,_,_,hrun,.tuple _ _ rfl (by simp),hk,rfl,key.1,key.2⟩
theorem ALP.clr {md:Option Nat} {n:Nat} {outer:List Fr} {all rest:List Oper} {Q:Exit→Fr→List Ar→Prop} {fr:Fr} {H:List Ar} {dst:Option Tmp} {T e:TypeId} {x:Operand} {type:TypeId} {pos:String} {after:Array Edge}
    {r v lo m:Nat} {l:List Int} (hd:(match dst with | some d=>Nat.blt d n | none=>true)=true) (hx:ev fr x= .own r v lo m) (hT:P.underlying T=some (.slice e))
    (hz:zeroV P e=some (.int .i64 0)) (hr:H[r]? =some (.row v 1 (l.map A2))) (hlo:lo+m=l.length) (h:ALP md P n outer all rest Q (put fr dst (.tuple [])) (H.set r (.row v 1 ((l.take lo++List.replicate m 0).map A2)))) :
    ALP md P n outer all ({dst,op:=.call {callee:=.builtin .clear,args:=#[x],argTypes:=#[T]},type,pos,after,guard:=none}::rest) Q fr H:=by
  refine ALP.op1 hd (by simp) fun W0 C w ρ I hH he=>?_
  subst hH
  have hx':=he x
  rw[hx]at hx'
  unfold execOp
  simp only[resolve,Sem.run_bind,Sem.run_pure,Result.andThen_ok,invoke,List.map_toArray,List.map_cons,List.map_nil,builtin]
  have e0:(l.map A2).take lo++List.replicate m [Ac.int .i64 0]=(l.take lo++List.replicate m 0).map A2:=by simp[List.map_take,A2]
  obtain⟨v',a,w',C',ef,h1,h2,h3,h4,h5,h6⟩:=(oL (K:=fun v ef=>ALP md P n outer all rest Q (put fr dst v) (ef.app C.H)) I hx' hT hz hr (by simpa using hlo) type (by rw[e0];exact h)).ex
  exact⟨a,w',C',ef,.inl ⟨v',by rw[h1];rfl,h2⟩,h3,h4,h5,h6⟩
def vU:List (List Ac)→List (List Ac)→Prop
  | [],[]=>True
  | x::r,y::r'=>Ol x y∧vU r r'
  | _,_=>False
theorem nC:∀ {xs ys:List (List Ac)},vU xs ys→xs.length=ys.length∧∀ (i:Nat) y,ys[i]? =some y→∃ x,xs[i]? =some x∧Ol x y
  | [],[],_=>⟨rfl,by simp⟩
  | x::r,y::r',h=>by
    have ih:=nC h.2
    refine⟨by simp[ih.1],fun i d hi=>?_⟩
    match i,hi with
    | 0,hi=>simp at hi;subst hi;exact⟨x,rfl,h.1⟩
    | i+1,hi=>exact ih.2 i d (by simpa using hi)
  | [],_::_,h=>h.elim
  | _::_,[],h=>h.elim
theorem Sub.denil {outer:List Fr} {fr:Fr} {H:List Ar} (r:Nat) {v sz:Nat} {xs:List (List Ac)} (ys:List (List Ac)) (hr:H[r]? =some (.row v sz xs)) (h:vU xs ys):Sub outer fr H fr (H.set r (.row v sz ys)):=by
  intro W0 A0 ds n outs a w R
  obtain⟨C,rfl,rfl,I,hF,hO,hn,hd⟩:=R.ex
  have hlt:r<C.H.length:=(List.getElem?_eq_some_iff.1 hr).1
  have hg:=nC h
  obtain⟨hsz1,hsz,hg0,ho⟩:=I.objs r _ hr
  have hcell:∀ (i k:Nat) (y:List Ac) (c':Ac),ys[i]? =some y→y[k]? =some c'→∃ x c,xs[i]? =some x∧x[k]? =some c∧Om c c':=by
    intro i k y c' h1 h2
    obtain⟨x,h3,h4⟩:=hg.2 i y h1
    obtain⟨c,h5,h6⟩:=(aA h4).2 k c' h2
    exact⟨x,c,h3,h5,h6⟩
  rcases ho with⟨rfl,_⟩ | ⟨l,arr,T',e1,e2,e3,e4,e5⟩
  ·have:ys=[]:=List.eq_nil_of_length_eq_zero (by rw[← hg.1];rfl)
   subst this
   have e:C.H.set r (.row v sz [])=C.H:=by
     apply List.ext_getElem?
     intro i
     by_cases e:r=i
     ·subst e;rw[List.getElem?_set_self hlt];exact hr.symm
     ·rw[List.getElem?_set_ne e]
   rw[e]
   exact⟨C,rfl,rfl,I,hF,hO,hn,hd⟩
  have nle0_g:∀ {c c':Ac},Om c c'→c.g0=true→c'.g0=true:=by
    intro c c' h hc
    unfold Om at h
    split at h
    ·rcases h with rfl | ⟨rfl,rfl⟩
     ·exact hc
     ·rfl
    ·subst h;exact hc
  have key:=I.put (o':=.row v sz ys) hr e1 (w':=w) (fun _ _=>rfl) rfl I.below
    (by unfold Dn;simp only[Ctx.set,List.getElem?_set_self hlt];exact .inl ⟨_,hr,by rw[hg.1];exact Nat.le_refl _,trivial⟩)
    (fun mm=>⟨hsz1,fun y h2=>by
     obtain⟨i,hi⟩:=List.getElem?_of_mem h2
     obtain⟨x,h3,h4⟩:=hg.2 i y hi
     rw[← (aA h4).1];exact hsz x (Ai4 h3),fun y h2 c' h5=>by
     obtain⟨i,hi⟩:=List.getElem?_of_mem h2
     obtain⟨k,hk⟩:=List.getElem?_of_mem h5
     obtain⟨x,c,h6,h7,h8⟩:=hcell i k y c' hi hk
     exact nle0_g h8 (hg0 x (Ai4 h6) c (Ai4 h7)),
      .inr ⟨l,arr,T',e1,e2,e3,by rw[← hg.1];exact e4,fun i k y c' h1 h2=>by
        obtain⟨x,c,h6,h7,h8⟩:=hcell i k y c' h1 h2
        obtain⟨u,hu,hur⟩:=e5 i k x c h6 h7
        exact⟨u,hu,(gG h8 (hur.mono mm)).1⟩⟩⟩)
  exact⟨C.set r (.row v sz ys),rfl,rfl,key.1,fun t=>(hF t).mono key.2,hO.mono key.2,hn,hd⟩
end Go.Ab
namespace Go.Ab
open Go Go.RowKit
section
variable {P:Program} {md:Option Nat} {n:Nat} {outer:List Fr} {Q:Exit→Fr→List Ar→Prop} {fr:Fr} {H:List Ar}
theorem nS {a b:Prop} (h:b) (e:a=b:=by first | (conv=>lhs;simp +decide -implicitDefEqProofs only[go_sem]) | exact rfl):a:=by rw[e];exact h
theorem nSc {a b p:Prop} (w:p) (h:b) (e:p→a=b:=by intro hw;first | (conv=>lhs;simp +decide -implicitDefEqProofs only[go_sem,hw]) | exact rfl):a:=by rw[e w];exact h
theorem cu {a:Prop} (h:a:=by (simp +decide -implicitDefEqProofs only[go_sem,Dg,Ac.int.injEq,Int.natCast_zero,List.replicate_zero,List.length_take,List.length_drop,Ac.own.injEq,reduceCtorEq,Int.reduceAdd]<;>omega)):a:=h
theorem cuw {a p:Prop} (w:p) (h:p→a:=by intro hw;(simp +decide -implicitDefEqProofs only[go_sem,Dg,Ac.int.injEq,Int.natCast_zero,List.replicate_zero,List.length_take,List.length_drop,Ac.own.injEq,reduceCtorEq,Int.reduceAdd,hw]<;>omega)):a:=h w
theorem en {a p:Prop} (w:p) (h:p→a:=by intro hw;simp +decide -implicitDefEqProofs only[go_sem,Dg,Ac.int.injEq,Int.natCast_zero,List.replicate_zero,List.length_take,List.length_drop,Ac.own.injEq,reduceCtorEq,Int.reduceAdd,Ru,Rv,Om,Rt,Ol,hw]):a:=h w
theorem ar {id:Nat} {ops:List Oper} {fr':Fr} {H':List Ar} (hd:aL n ops=true) (h:Q .normal fr' H') (e:∀ K:Fr→List Ar→Prop,alist P outer ops ops K fr H=K fr' H':=by intro K;conv=>lhs;simp +decide -implicitDefEqProofs only[go_sem]) :
    AWP md P n (.region id ops.toArray false) Q outer fr H:=AWP.region hd fun K hK=>by rw[e K];exact hK _ _ h
theorem rg {id:Nat} {ops:List Oper} {X:(Fr→List Ar→Prop)→Prop} (hd:aL n ops=true) (h:∀ K:Fr→List Ar→Prop,(∀ fr H,Q .normal fr H→K fr H)→X K) (e:∀ K:Fr→List Ar→Prop,alist P outer ops ops K fr H=X K:=by intro K;conv=>lhs;simp +decide -implicitDefEqProofs only[go_sem]) :
    AWP md P n (.region id ops.toArray false) Q outer fr H:=AWP.region hd fun K hK=>by rw[e K];exact h K hK
theorem sq {c d:Code} (h:AWP md P n c (qthen (AWP md P n d Q outer) Q) outer fr H):AWP md P n (.seq c d) Q outer fr H:=AWP.seq h
theorem qn {K:Fr→List Ar→Prop} (h:K fr H):qthen K Q .normal fr H:=h
theorem qr {K:Fr→List Ar→Prop} (h:Q .ret fr H):qthen K Q .ret fr H:=h
theorem qe {K:Fr→List Ar→Prop} {i:Nat} (h:Q (.exit i) fr H):qthen K Q (.exit i) fr H:=h
theorem bn {id:Nat} (h:Q .normal fr H):qblock id Q .normal fr H:=h
theorem br {id:Nat} (h:Q .ret fr H):qblock id Q .ret fr H:=h
theorem bs {id:Nat} (h:Q .normal fr H):qblock id Q (.exit id) fr H:=m0 h
theorem bk {id:Nat} {c:Code} (h:AWP md P n c (qblock id Q) outer fr H):AWP md P n (.block id c) Q outer fr H:=AWP.block h
theorem sk (h:Q .normal fr H):AWP md P n .skip Q outer fr H:=AWP.skip h
theorem rt (h:Q .ret fr H):AWP md P n .ret Q outer fr H:=AWP.ret h
theorem xt {id:Nat} (h:Q (.exit id) fr H):AWP md P n (.exit id) Q outer fr H:=AWP.exit h
theorem cs {α:Type} {t:Bool} {A B:Option α} {r:α} {yes no:Prop} (h1:t=true→A=some r→yes) (h2:t=false→B=some r→no) (h:(bif t then A else B)=some r):acond (.bool t) yes no:=by
  cases t with
  | true=>exact Ah (h1 rfl h)
  | false=>exact Bk (h2 rfl h)
theorem ca {α:Type} {t:Bool} {A B:Option α} {r:α} {x:Operand} {c d:Code} (hx:ev fr x= .bool t) (h1:t=true→A=some r→AWP md P n c Q outer fr H) (h2:t=false→B=some r→AWP md P n d Q outer fr H) (h:(bif t then A else B)=some r):AWP md P n (.cond x c d) Q outer fr H:=
  AWP.cond (by rw[hx];exact cs h1 h2 h)
theorem gt {α:Type} {c:Bool} {Y N:Fr→List Ar→Prop} {A B:Option α} {r:α} {a b:Prop} (h1:c=true→A=some r→a) (h2:c=false→B=some r→b)
    (e1:c=true→Y fr H=a:=by intro hw;first | (conv=>lhs;simp +decide -implicitDefEqProofs only[go_sem,hw]) | exact rfl) (e2:c=false→N fr H=b:=by intro hw;first | (conv=>lhs;simp +decide -implicitDefEqProofs only[go_sem,hw]) | exact rfl) (h:(bif c then A else B)=some r):Ff (.bool c) true Y N fr H:=
  Y0 (fun hc=>by rw[e1 hc];exact h1 hc (zC h hc)) (fun hc=>by rw[e2 hc];exact h2 hc (zD h hc))
theorem gf {α:Type} {c:Bool} {Y N:Fr→List Ar→Prop} {A B:Option α} {r:α} {a b:Prop} (h1:c=false→B=some r→a) (h2:c=true→A=some r→b)
    (e1:c=false→Y fr H=a:=by intro hw;first | (conv=>lhs;simp +decide -implicitDefEqProofs only[go_sem,hw]) | exact rfl) (e2:c=true→N fr H=b:=by intro hw;first | (conv=>lhs;simp +decide -implicitDefEqProofs only[go_sem,hw]) | exact rfl) (h:(bif c then A else B)=some r):Ff (.bool c) false Y N fr H:=
  Y0 (fun hc=>by rw[e1 hc];exact h1 hc (zD h hc)) (fun hc=>by rw[e2 hc];exact h2 hc (zC h hc))
theorem rp {a b:Prop} (k:b) (h:a:=by first | omega | (simp only[List.length_take,List.length_drop,List.length_append];omega)):a∧b:=⟨h,k⟩
theorem wk {k:Nat} (h:k<9223372036854775807):IntKind.i64.wrap (((k:Nat):Int)+1)=(((k:Nat):Int)+(1:Int)):=by rw[wrap_i64]<;>omega
end
end Go.Ab
namespace Go.Proofs.YtjopghiagoidgaaGreat
open Go Go.Ab
theorem Tryz.mixed:Tryz.prog.follows .mixedOrders=true:=by kernel_rfl
@[go_sem] theorem sz3:Bt Tryz.prog 3=1:=by kernel_rfl
@[go_sem] theorem by3:bytesOf Tryz.prog 3=8:=by kernel_rfl
@[go_sem] theorem un3:Program.underlying Tryz.prog 3=some (.int .i64):=by kernel_rfl
@[go_sem] theorem zc3:B1 Tryz.prog 3=[.int .i64 0]:=by kernel_rfl
@[go_sem] theorem ok4:okT Tryz.prog 4=true:=by kernel_rfl
@[go_sem] theorem sz4:Bt Tryz.prog 4=1:=by kernel_rfl
@[go_sem] theorem un4:Program.underlying Tryz.prog 4=some (.bool):=by kernel_rfl
@[go_sem] theorem zv4:azero Tryz.prog 4= .bool false:=by kernel_rfl
@[go_sem] theorem Ahy:Bt Tryz.prog 22=1:=by kernel_rfl
@[go_sem] theorem Ag5:Program.underlying Tryz.prog 22=some (.slice 114):=by kernel_rfl
@[go_sem] theorem Aiq:Fs Tryz.prog 22=some 114:=by kernel_rfl
@[go_sem] theorem Ahx:Bt Tryz.prog 23=1:=by kernel_rfl
@[go_sem] theorem Ag4:Program.underlying Tryz.prog 23=some (.slice 80):=by kernel_rfl
@[go_sem] theorem Aip:Fs Tryz.prog 23=some 80:=by kernel_rfl
@[go_sem] theorem Ahw:Bt Tryz.prog 24=1:=by kernel_rfl
@[go_sem] theorem Ag3:Program.underlying Tryz.prog 24=some (.slice 62):=by kernel_rfl
@[go_sem] theorem Aio:Fs Tryz.prog 24=some 62:=by kernel_rfl
@[go_sem] theorem Ahv:Bt Tryz.prog 25=1:=by kernel_rfl
@[go_sem] theorem Ag2:Program.underlying Tryz.prog 25=some (.slice 3):=by kernel_rfl
@[go_sem] theorem Ain:Fs Tryz.prog 25=some 3:=by kernel_rfl
@[go_sem] theorem Ago:B1 Tryz.prog 25=[.nils]:=by kernel_rfl
@[go_sem] theorem Aga:azero Tryz.prog 25= .nils:=by kernel_rfl
@[go_sem] theorem Ahu:Bt Tryz.prog 27=4:=by kernel_rfl
@[go_sem] theorem Agn:B1 Tryz.prog 27=[.nils,.nils,.nils,.nils]:=by kernel_rfl
@[go_sem] theorem Aet:Bq Tryz.prog 27 0=some (0,1):=by kernel_rfl
@[go_sem] theorem Aes:Bq Tryz.prog 27 1=some (1,1):=by kernel_rfl
@[go_sem] theorem Aer:Bq Tryz.prog 27 2=some (2,1):=by kernel_rfl
@[go_sem] theorem Aeq:Bq Tryz.prog 27 3=some (3,1):=by kernel_rfl
@[go_sem] theorem Aia:placesOf Tryz.prog 27=some [(0,1),(1,1),(2,1),(3,1)]:=by kernel_rfl
@[go_sem] theorem Aht:Bt Tryz.prog 28=1:=by kernel_rfl
@[go_sem] theorem Ag1:Program.underlying Tryz.prog 28=some (.slice 78):=by kernel_rfl
@[go_sem] theorem Aim:Fs Tryz.prog 28=some 78:=by kernel_rfl
@[go_sem] theorem Ahs:Bt Tryz.prog 29=1:=by kernel_rfl
@[go_sem] theorem Ag0:Program.underlying Tryz.prog 29=some (.slice 72):=by kernel_rfl
@[go_sem] theorem Ail:Fs Tryz.prog 29=some 72:=by kernel_rfl
@[go_sem] theorem Ahr:Bt Tryz.prog 30=1:=by kernel_rfl
@[go_sem] theorem Agz:Program.underlying Tryz.prog 30=some (.slice 119):=by kernel_rfl
@[go_sem] theorem Aik:Fs Tryz.prog 30=some 119:=by kernel_rfl
@[go_sem] theorem Ahq:Bt Tryz.prog 31=1:=by kernel_rfl
@[go_sem] theorem Agy:Program.underlying Tryz.prog 31=some (.slice 74):=by kernel_rfl
@[go_sem] theorem Aij:Fs Tryz.prog 31=some 74:=by kernel_rfl
@[go_sem] theorem Ahp:Bt Tryz.prog 33=2:=by kernel_rfl
@[go_sem] theorem Agm:B1 Tryz.prog 33=[.nils,.nils]:=by kernel_rfl
@[go_sem] theorem Aep:Bq Tryz.prog 33 0=some (0,1):=by kernel_rfl
@[go_sem] theorem Aeo:Bq Tryz.prog 33 1=some (1,1):=by kernel_rfl
@[go_sem] theorem Ah9:placesOf Tryz.prog 33=some [(0,1),(1,1)]:=by kernel_rfl
@[go_sem] theorem Aho:Bt Tryz.prog 34=1:=by kernel_rfl
@[go_sem] theorem Agx:Program.underlying Tryz.prog 34=some (.slice 162):=by kernel_rfl
@[go_sem] theorem Aii:Fs Tryz.prog 34=some 162:=by kernel_rfl
@[go_sem] theorem Ahn:Bt Tryz.prog 35=1:=by kernel_rfl
@[go_sem] theorem Agw:Program.underlying Tryz.prog 35=some (.slice 86):=by kernel_rfl
@[go_sem] theorem Aih:Fs Tryz.prog 35=some 86:=by kernel_rfl
@[go_sem] theorem Ahm:Bt Tryz.prog 36=1:=by kernel_rfl
@[go_sem] theorem Agv:Program.underlying Tryz.prog 36=some (.slice 76):=by kernel_rfl
@[go_sem] theorem Aig:Fs Tryz.prog 36=some 76:=by kernel_rfl
@[go_sem] theorem Ahl:Bt Tryz.prog 37=1:=by kernel_rfl
@[go_sem] theorem Agu:Program.underlying Tryz.prog 37=some (.slice 139):=by kernel_rfl
@[go_sem] theorem Aif:Fs Tryz.prog 37=some 139:=by kernel_rfl
@[go_sem] theorem Ahk:Bt Tryz.prog 38=1:=by kernel_rfl
@[go_sem] theorem Agt:Program.underlying Tryz.prog 38=some (.slice 170):=by kernel_rfl
@[go_sem] theorem Aie:Fs Tryz.prog 38=some 170:=by kernel_rfl
@[go_sem] theorem Ahj:Bt Tryz.prog 39=1:=by kernel_rfl
@[go_sem] theorem Ags:Program.underlying Tryz.prog 39=some (.slice 173):=by kernel_rfl
@[go_sem] theorem Aid:Fs Tryz.prog 39=some 173:=by kernel_rfl
@[go_sem] theorem Ahi:Bt Tryz.prog 40=1:=by kernel_rfl
@[go_sem] theorem Agr:Program.underlying Tryz.prog 40=some (.slice 177):=by kernel_rfl
@[go_sem] theorem Aic:Fs Tryz.prog 40=some 177:=by kernel_rfl
@[go_sem] theorem Ahh:Bt Tryz.prog 41=1:=by kernel_rfl
@[go_sem] theorem Agq:Program.underlying Tryz.prog 41=some (.slice 70):=by kernel_rfl
@[go_sem] theorem Aib:Fs Tryz.prog 41=some 70:=by kernel_rfl
@[go_sem] theorem Ahg:Bt Tryz.prog 43=18:=by kernel_rfl
@[go_sem] theorem Agl:B1 Tryz.prog 43=[.nils,.nils,.nils,.nils,.nils,.nils,.nils,.nils,.nils,.nils,.nils,.nils,.nils,.nils,.nils,.nils,.int .i64 0,.int .i64 0]:=by kernel_rfl
@[go_sem] theorem Aen:Bq Tryz.prog 43 0=some (0,4):=by kernel_rfl
@[go_sem] theorem Aem:Bq Tryz.prog 43 1=some (4,1):=by kernel_rfl
@[go_sem] theorem Ael:Bq Tryz.prog 43 2=some (5,1):=by kernel_rfl
@[go_sem] theorem Aek:Bq Tryz.prog 43 3=some (6,2):=by kernel_rfl
@[go_sem] theorem Aej:Bq Tryz.prog 43 4=some (8,1):=by kernel_rfl
@[go_sem] theorem Aei:Bq Tryz.prog 43 5=some (9,1):=by kernel_rfl
@[go_sem] theorem Aeh:Bq Tryz.prog 43 6=some (10,1):=by kernel_rfl
@[go_sem] theorem Aeg:Bq Tryz.prog 43 7=some (11,1):=by kernel_rfl
@[go_sem] theorem Aef:Bq Tryz.prog 43 8=some (12,1):=by kernel_rfl
@[go_sem] theorem Aee:Bq Tryz.prog 43 9=some (13,1):=by kernel_rfl
@[go_sem] theorem Aba:Bq Tryz.prog 43 10=some (14,1):=by kernel_rfl
@[go_sem] theorem Aa9:Bq Tryz.prog 43 11=some (15,1):=by kernel_rfl
@[go_sem] theorem Aa8:Bq Tryz.prog 43 12=some (16,1):=by kernel_rfl
@[go_sem] theorem Aa7:Bq Tryz.prog 43 13=some (17,1):=by kernel_rfl
@[go_sem] theorem Ah8:placesOf Tryz.prog 43=some [(0,4),(4,1),(5,1),(6,2),(8,1),(9,1),(10,1),(11,1),(12,1),(13,1),(14,1),(15,1),(16,1),(17,1)]:=by kernel_rfl
@[go_sem] theorem Ahf:Bt Tryz.prog 46=1:=by kernel_rfl
@[go_sem] theorem Agk:B1 Tryz.prog 46=[.int .i64 0]:=by kernel_rfl
@[go_sem] theorem Ahe:Bt Tryz.prog 62=7:=by kernel_rfl
@[go_sem] theorem Aiy:bytesOf Tryz.prog 62=56:=by kernel_rfl
@[go_sem] theorem Agj:B1 Tryz.prog 62=[.int .i64 0,.int .i64 0,.int .i64 0,.int .i64 0,.int .i64 0,.int .i64 0,.int .i64 0]:=by kernel_rfl
@[go_sem] theorem Aed:Bq Tryz.prog 62 0=some (0,1):=by kernel_rfl
@[go_sem] theorem Aec:Bq Tryz.prog 62 1=some (1,1):=by kernel_rfl
@[go_sem] theorem Aeb:Bq Tryz.prog 62 2=some (2,1):=by kernel_rfl
@[go_sem] theorem Aea:Bq Tryz.prog 62 3=some (3,1):=by kernel_rfl
@[go_sem] theorem Ad9:Bq Tryz.prog 62 4=some (4,1):=by kernel_rfl
@[go_sem] theorem Ad8:Bq Tryz.prog 62 5=some (5,1):=by kernel_rfl
@[go_sem] theorem Ad7:Bq Tryz.prog 62 6=some (6,1):=by kernel_rfl
@[go_sem] theorem Ah7:placesOf Tryz.prog 62=some [(0,1),(1,1),(2,1),(3,1),(4,1),(5,1),(6,1)]:=by kernel_rfl
@[go_sem] theorem Agp:Program.underlying Tryz.prog 65=some (.int .u64):=by kernel_rfl
@[go_sem] theorem Ahd:Bt Tryz.prog 70=3:=by kernel_rfl
@[go_sem] theorem Aix:bytesOf Tryz.prog 70=24:=by kernel_rfl
@[go_sem] theorem Agi:B1 Tryz.prog 70=[.int .i64 0,.bool false,.int .i64 0]:=by kernel_rfl
@[go_sem] theorem Ad6:Bq Tryz.prog 70 0=some (0,1):=by kernel_rfl
@[go_sem] theorem Ad5:Bq Tryz.prog 70 1=some (1,1):=by kernel_rfl
@[go_sem] theorem Ad4:Bq Tryz.prog 70 2=some (2,1):=by kernel_rfl
@[go_sem] theorem Ah6:placesOf Tryz.prog 70=some [(0,1),(1,1),(2,1)]:=by kernel_rfl
@[go_sem] theorem Ahc:Bt Tryz.prog 72=4:=by kernel_rfl
@[go_sem] theorem Aiw:bytesOf Tryz.prog 72=32:=by kernel_rfl
@[go_sem] theorem Agh:B1 Tryz.prog 72=[.int .i64 0,.int .i64 0,.int .i64 0,.int .i64 0]:=by kernel_rfl
@[go_sem] theorem Ad3:Bq Tryz.prog 72 0=some (0,1):=by kernel_rfl
@[go_sem] theorem Ad2:Bq Tryz.prog 72 1=some (1,1):=by kernel_rfl
@[go_sem] theorem Ad1:Bq Tryz.prog 72 2=some (2,1):=by kernel_rfl
@[go_sem] theorem Ad0:Bq Tryz.prog 72 3=some (3,1):=by kernel_rfl
@[go_sem] theorem Ah5:placesOf Tryz.prog 72=some [(0,1),(1,1),(2,1),(3,1)]:=by kernel_rfl
@[go_sem] theorem Ahb:Bt Tryz.prog 74=3:=by kernel_rfl
@[go_sem] theorem Aiv:bytesOf Tryz.prog 74=24:=by kernel_rfl
@[go_sem] theorem Agg:B1 Tryz.prog 74=[.int .i64 0,.int .i64 0,.int .i64 0]:=by kernel_rfl
@[go_sem] theorem Adz:Bq Tryz.prog 74 0=some (0,1):=by kernel_rfl
@[go_sem] theorem Ady:Bq Tryz.prog 74 1=some (1,1):=by kernel_rfl
@[go_sem] theorem Adx:Bq Tryz.prog 74 2=some (2,1):=by kernel_rfl
@[go_sem] theorem Ah4:placesOf Tryz.prog 74=some [(0,1),(1,1),(2,1)]:=by kernel_rfl
@[go_sem] theorem Aha:Bt Tryz.prog 76=6:=by kernel_rfl
@[go_sem] theorem Aiu:bytesOf Tryz.prog 76=80:=by kernel_rfl
@[go_sem] theorem Agf:B1 Tryz.prog 76=[.int .i64 0,.nils,.nils,.int .i64 0,.int .i64 0,.int .i64 0]:=by kernel_rfl
@[go_sem] theorem Adw:Bq Tryz.prog 76 0=some (0,1):=by kernel_rfl
@[go_sem] theorem Adv:Bq Tryz.prog 76 1=some (1,1):=by kernel_rfl
@[go_sem] theorem Adu:Bq Tryz.prog 76 2=some (2,1):=by kernel_rfl
@[go_sem] theorem Adt:Bq Tryz.prog 76 3=some (3,1):=by kernel_rfl
@[go_sem] theorem Ads:Bq Tryz.prog 76 4=some (4,1):=by kernel_rfl
@[go_sem] theorem Adr:Bq Tryz.prog 76 5=some (5,1):=by kernel_rfl
@[go_sem] theorem Ah3:placesOf Tryz.prog 76=some [(0,1),(1,1),(2,1),(3,1),(4,1),(5,1)]:=by kernel_rfl
@[go_sem] theorem Ag9:Bt Tryz.prog 78=2:=by kernel_rfl
@[go_sem] theorem Ait:bytesOf Tryz.prog 78=16:=by kernel_rfl
@[go_sem] theorem Age:B1 Tryz.prog 78=[.int .i64 0,.int .i64 0]:=by kernel_rfl
@[go_sem] theorem Adq:Bq Tryz.prog 78 0=some (0,1):=by kernel_rfl
@[go_sem] theorem Adp:Bq Tryz.prog 78 1=some (1,1):=by kernel_rfl
@[go_sem] theorem Ah2:placesOf Tryz.prog 78=some [(0,1),(1,1)]:=by kernel_rfl
@[go_sem] theorem Ag8:Bt Tryz.prog 80=8:=by kernel_rfl
@[go_sem] theorem Ais:bytesOf Tryz.prog 80=64:=by kernel_rfl
@[go_sem] theorem Agd:B1 Tryz.prog 80=[.int .i64 0,.int .i64 0,.int .i64 0,.int .i64 0,.int .i64 0,.int .i64 0,.int .i64 0,.int .i64 0]:=by kernel_rfl
@[go_sem] theorem Ado:Bq Tryz.prog 80 0=some (0,1):=by kernel_rfl
@[go_sem] theorem Adn:Bq Tryz.prog 80 1=some (1,1):=by kernel_rfl
@[go_sem] theorem Adm:Bq Tryz.prog 80 2=some (2,1):=by kernel_rfl
@[go_sem] theorem Adl:Bq Tryz.prog 80 3=some (3,1):=by kernel_rfl
@[go_sem] theorem Adk:Bq Tryz.prog 80 4=some (4,1):=by kernel_rfl
@[go_sem] theorem Adj:Bq Tryz.prog 80 5=some (5,1):=by kernel_rfl
@[go_sem] theorem Adi:Bq Tryz.prog 80 6=some (6,1):=by kernel_rfl
@[go_sem] theorem Adh:Bq Tryz.prog 80 7=some (7,1):=by kernel_rfl
@[go_sem] theorem Ah1:placesOf Tryz.prog 80=some [(0,1),(1,1),(2,1),(3,1),(4,1),(5,1),(6,1),(7,1)]:=by kernel_rfl
@[go_sem] theorem Ag7:Bt Tryz.prog 84=3:=by kernel_rfl
@[go_sem] theorem Agc:B1 Tryz.prog 84=[.int .i64 0,.int .i64 0,.int .i64 0]:=by kernel_rfl
@[go_sem] theorem Adg:Bq Tryz.prog 84 0=some (0,1):=by kernel_rfl
@[go_sem] theorem Adf:Bq Tryz.prog 84 1=some (1,1):=by kernel_rfl
@[go_sem] theorem Ade:Bq Tryz.prog 84 2=some (2,1):=by kernel_rfl
@[go_sem] theorem Ah0:placesOf Tryz.prog 84=some [(0,1),(1,1),(2,1)]:=by kernel_rfl
@[go_sem] theorem Ag6:Bt Tryz.prog 86=5:=by kernel_rfl
@[go_sem] theorem Air:bytesOf Tryz.prog 86=40:=by kernel_rfl
@[go_sem] theorem Agb:B1 Tryz.prog 86=[.int .i64 0,.int .i64 0,.int .i64 0,.int .i64 0,.int .i64 0]:=by kernel_rfl
@[go_sem] theorem Adc:Bq Tryz.prog 86 0=some (0,1):=by kernel_rfl
@[go_sem] theorem Adb:Bq Tryz.prog 86 1=some (1,1):=by kernel_rfl
@[go_sem] theorem Ada:Bq Tryz.prog 86 2=some (2,3):=by kernel_rfl
@[go_sem] theorem Ahz:placesOf Tryz.prog 86=some [(0,1),(1,1),(2,3)]:=by kernel_rfl
@[go_sem] theorem Afo:Bt Tryz.prog 111=1:=by kernel_rfl
@[go_sem] theorem Afa:Program.underlying Tryz.prog 111=some (.slice 188):=by kernel_rfl
@[go_sem] theorem Af0:Fs Tryz.prog 111=some 188:=by kernel_rfl
@[go_sem] theorem Ae6:B1 Tryz.prog 111=[.nils]:=by kernel_rfl
@[go_sem] theorem Afn:Bt Tryz.prog 114=2:=by kernel_rfl
@[go_sem] theorem Af9:bytesOf Tryz.prog 114=16:=by kernel_rfl
@[go_sem] theorem Ae5:B1 Tryz.prog 114=[.int .i64 0,.int .i64 0]:=by kernel_rfl
@[go_sem] theorem Ach:Bq Tryz.prog 114 0=some (0,1):=by kernel_rfl
@[go_sem] theorem Acg:Bq Tryz.prog 114 1=some (1,1):=by kernel_rfl
@[go_sem] theorem Aft:placesOf Tryz.prog 114=some [(0,1),(1,1)]:=by kernel_rfl
@[go_sem] theorem Afm:Bt Tryz.prog 115=1:=by kernel_rfl
@[go_sem] theorem Ae9:Program.underlying Tryz.prog 115=some (.slice 157):=by kernel_rfl
@[go_sem] theorem Afz:Fs Tryz.prog 115=some 157:=by kernel_rfl
@[go_sem] theorem Afl:Bt Tryz.prog 117=3:=by kernel_rfl
@[go_sem] theorem Ae4:B1 Tryz.prog 117=[.nils,.int .i64 0,.nils]:=by kernel_rfl
@[go_sem] theorem Acf:Bq Tryz.prog 117 0=some (0,1):=by kernel_rfl
@[go_sem] theorem Ace:Bq Tryz.prog 117 1=some (1,1):=by kernel_rfl
@[go_sem] theorem Acd:Bq Tryz.prog 117 2=some (2,1):=by kernel_rfl
@[go_sem] theorem Afs:placesOf Tryz.prog 117=some [(0,1),(1,1),(2,1)]:=by kernel_rfl
@[go_sem] theorem Afk:Bt Tryz.prog 119=4:=by kernel_rfl
@[go_sem] theorem Af8:bytesOf Tryz.prog 119=64:=by kernel_rfl
@[go_sem] theorem Ae3:B1 Tryz.prog 119=[.int .i64 0,.nils,.int .i64 0,.nils]:=by kernel_rfl
@[go_sem] theorem Acb:Bq Tryz.prog 119 0=some (0,1):=by kernel_rfl
@[go_sem] theorem Aca:Bq Tryz.prog 119 1=some (1,3):=by kernel_rfl
@[go_sem] theorem Afr:placesOf Tryz.prog 119=some [(0,1),(1,3)]:=by kernel_rfl
@[go_sem] theorem Ae8:Program.underlying Tryz.prog 129=some (.slice 46):=by kernel_rfl
@[go_sem] theorem Afy:Fs Tryz.prog 129=some 46:=by kernel_rfl
@[go_sem] theorem Afj:Bt Tryz.prog 137=2:=by kernel_rfl
@[go_sem] theorem Ae2:B1 Tryz.prog 137=[.int .i64 0,.int .i64 0]:=by kernel_rfl
@[go_sem] theorem Ab9:Bq Tryz.prog 137 0=some (0,1):=by kernel_rfl
@[go_sem] theorem Ab8:Bq Tryz.prog 137 1=some (1,1):=by kernel_rfl
@[go_sem] theorem Afi:Bt Tryz.prog 139=7:=by kernel_rfl
@[go_sem] theorem Af7:bytesOf Tryz.prog 139=72:=by kernel_rfl
@[go_sem] theorem Ae1:B1 Tryz.prog 139=[.int .i64 0,.int .i64 0,.int .i64 0,.int .i64 0,.int .i64 0,.nils,.int .i64 0]:=by kernel_rfl
@[go_sem] theorem Ab7:Bq Tryz.prog 139 0=some (0,1):=by kernel_rfl
@[go_sem] theorem Ab6:Bq Tryz.prog 139 1=some (1,2):=by kernel_rfl
@[go_sem] theorem Ab5:Bq Tryz.prog 139 2=some (3,1):=by kernel_rfl
@[go_sem] theorem Ab4:Bq Tryz.prog 139 3=some (4,1):=by kernel_rfl
@[go_sem] theorem Ab3:Bq Tryz.prog 139 4=some (5,1):=by kernel_rfl
@[go_sem] theorem Ab2:Bq Tryz.prog 139 5=some (6,1):=by kernel_rfl
@[go_sem] theorem Afh:Bt Tryz.prog 157=3:=by kernel_rfl
@[go_sem] theorem Af6:bytesOf Tryz.prog 157=24:=by kernel_rfl
@[go_sem] theorem Ae0:B1 Tryz.prog 157=[.int .i64 0,.int .i64 0,.int .i64 0]:=by kernel_rfl
@[go_sem] theorem Ab1:Bq Tryz.prog 157 0=some (0,1):=by kernel_rfl
@[go_sem] theorem Ab0:Bq Tryz.prog 157 1=some (1,1):=by kernel_rfl
@[go_sem] theorem Abz:Bq Tryz.prog 157 2=some (2,1):=by kernel_rfl
@[go_sem] theorem Afg:Bt Tryz.prog 162=3:=by kernel_rfl
@[go_sem] theorem Af5:bytesOf Tryz.prog 162=24:=by kernel_rfl
@[go_sem] theorem Aez:B1 Tryz.prog 162=[.int .i64 0,.int .i64 0,.int .i64 0]:=by kernel_rfl
@[go_sem] theorem Aby:Bq Tryz.prog 162 0=some (0,1):=by kernel_rfl
@[go_sem] theorem Abx:Bq Tryz.prog 162 1=some (1,1):=by kernel_rfl
@[go_sem] theorem Abw:Bq Tryz.prog 162 2=some (2,1):=by kernel_rfl
@[go_sem] theorem Aff:Bt Tryz.prog 170=7:=by kernel_rfl
@[go_sem] theorem Af4:bytesOf Tryz.prog 170=56:=by kernel_rfl
@[go_sem] theorem Aey:B1 Tryz.prog 170=[.int .i64 0,.int .i64 0,.int .i64 0,.int .i64 0,.int .i64 0,.int .i64 0,.int .i64 0]:=by kernel_rfl
@[go_sem] theorem Abv:Bq Tryz.prog 170 0=some (0,1):=by kernel_rfl
@[go_sem] theorem Abu:Bq Tryz.prog 170 1=some (1,1):=by kernel_rfl
@[go_sem] theorem Abt:Bq Tryz.prog 170 2=some (2,1):=by kernel_rfl
@[go_sem] theorem Abs:Bq Tryz.prog 170 3=some (3,1):=by kernel_rfl
@[go_sem] theorem Abr:Bq Tryz.prog 170 4=some (4,1):=by kernel_rfl
@[go_sem] theorem Abq:Bq Tryz.prog 170 5=some (5,2):=by kernel_rfl
@[go_sem] theorem Afe:Bt Tryz.prog 173=4:=by kernel_rfl
@[go_sem] theorem Af3:bytesOf Tryz.prog 173=48:=by kernel_rfl
@[go_sem] theorem Aex:B1 Tryz.prog 173=[.int .i64 0,.int .i64 0,.int .i64 0,.nils]:=by kernel_rfl
@[go_sem] theorem Abp:Bq Tryz.prog 173 0=some (0,1):=by kernel_rfl
@[go_sem] theorem Abo:Bq Tryz.prog 173 1=some (1,1):=by kernel_rfl
@[go_sem] theorem Abn:Bq Tryz.prog 173 2=some (2,1):=by kernel_rfl
@[go_sem] theorem Abm:Bq Tryz.prog 173 3=some (3,1):=by kernel_rfl
@[go_sem] theorem Afd:Bt Tryz.prog 177=8:=by kernel_rfl
@[go_sem] theorem Af2:bytesOf Tryz.prog 177=64:=by kernel_rfl
@[go_sem] theorem Aew:B1 Tryz.prog 177=[.int .i64 0,.int .i64 0,.int .i64 0,.int .i64 0,.int .i64 0,.int .i64 0,.int .i64 0,.bool false]:=by kernel_rfl
@[go_sem] theorem Abl:Bq Tryz.prog 177 0=some (0,1):=by kernel_rfl
@[go_sem] theorem Abk:Bq Tryz.prog 177 1=some (1,1):=by kernel_rfl
@[go_sem] theorem Abj:Bq Tryz.prog 177 2=some (2,1):=by kernel_rfl
@[go_sem] theorem Abi:Bq Tryz.prog 177 3=some (3,1):=by kernel_rfl
@[go_sem] theorem Abh:Bq Tryz.prog 177 4=some (4,1):=by kernel_rfl
@[go_sem] theorem Abg:Bq Tryz.prog 177 5=some (5,1):=by kernel_rfl
@[go_sem] theorem Abf:Bq Tryz.prog 177 6=some (6,1):=by kernel_rfl
@[go_sem] theorem Afc:Bt Tryz.prog 188=4:=by kernel_rfl
@[go_sem] theorem Af1:bytesOf Tryz.prog 188=32:=by kernel_rfl
@[go_sem] theorem Aev:B1 Tryz.prog 188=[.int .i64 0,.int .i64 0,.int .i64 0,.int .i64 0]:=by kernel_rfl
@[go_sem] theorem Abe:Bq Tryz.prog 188 0=some (0,1):=by kernel_rfl
@[go_sem] theorem Abd:Bq Tryz.prog 188 1=some (1,1):=by kernel_rfl
@[go_sem] theorem Abc:Bq Tryz.prog 188 2=some (2,1):=by kernel_rfl
@[go_sem] theorem Abb:Bq Tryz.prog 188 3=some (3,1):=by kernel_rfl
@[go_sem] theorem Afq:placesOf Tryz.prog 188=some [(0,1),(1,1),(2,1),(3,1)]:=by kernel_rfl
@[go_sem] theorem Afb:Bt Tryz.prog 192=3:=by kernel_rfl
@[go_sem] theorem Aeu:B1 Tryz.prog 192=[.int .i64 0,.int .i64 0,.int .i64 0]:=by kernel_rfl
@[go_sem] theorem Afp:placesOf Tryz.prog 192=some [(0,1),(1,1),(2,1)]:=by kernel_rfl
@[go_sem] theorem Afw:qP Tryz.prog 192=some [(0,false),(1,false),(2,false)]:=by kernel_rfl
@[go_sem] theorem Afv:lP Tryz.prog 205=some 4:=by kernel_rfl
@[go_sem] theorem Ae7:Program.underlying Tryz.prog 259=some (.slice 111):=by kernel_rfl
@[go_sem] theorem Afx:Fs Tryz.prog 259=some 111:=by kernel_rfl
@[go_sem] theorem Afu:lP Tryz.prog 270=some 25:=by kernel_rfl
end Go.Proofs.YtjopghiagoidgaaGreat
set_option linter.all false
namespace Go.Proofs.YtjopghiagoidgaaGreat
open Go Go.Ab Go.Shelf Go.RowKit Go.Sort
def Tryz.lkeys_ren:Go.Shelf.Ren:=⟨fun | 7=>282 | 10=>288 | n=>n,fun | 3=>4 | 23=>205 | 26=>3 | 27=>272 | 28=>273 | 33=>109 | n=>n,fun | n=>n⟩
theorem Tryz.lkeys:SlLaysZI.n7 Tryz.prog Tryz.lkeys_ren:={
  mixed:=by kernel_rfl
  f7:=⟨Tryz.f282.name,by kernel_rfl,Tryz.func282.trans (congrArg some (by kernel_rfl))⟩
  f10:=⟨Tryz.f288.name,by kernel_rfl,Tryz.func288.trans (congrArg some (by kernel_rfl))⟩
  t0:=Tryz.underlying0
  a0:=Tryz.isAgg0
  z0:=Tryz.sizeOf0
  v0:=Tryz.zeroValue0
  t4:=Tryz.underlying4
  a4:=Tryz.isAgg4
  z4:=Tryz.sizeOf4
  v4:=Tryz.zeroValue4
  t23:=Tryz.underlying205
  a23:=Tryz.isAgg205
  z23:=Tryz.sizeOf205
  v23:=Tryz.zeroValue205
  t26:=Tryz.underlying3
  a26:=Tryz.isAgg3
  z26:=Tryz.sizeOf3
  v26:=Tryz.zeroValue3
  t27:=Tryz.underlying272
  a27:=Tryz.isAgg272
  z27:=Tryz.sizeOf272
  v27:=Tryz.zeroValue272
  t28:=Tryz.underlying273
  a28:=Tryz.isAgg273
  z28:=Tryz.sizeOf273
  v28:=Tryz.zeroValue273
  t33:=Tryz.underlying109
  a33:=Tryz.isAgg109
  z33:=Tryz.sizeOf109
  v33:=Tryz.zeroValue109
}
def Tryz.lsorted_ren:Go.Shelf.Ren:=⟨fun | 6=>281 | 8=>287 | 9=>68 | 11=>289 | 12=>148 | 13=>149 | 14=>226 | 15=>227 | 16=>228 | 17=>229 | 18=>230 | 19=>231 | 20=>232 | 21=>233 | 22=>234 | 23=>235 | 24=>236 | 25=>272 | 26=>273 | 27=>274 | 28=>275 | 29=>276 | 30=>277 | 31=>284 | n=>n,fun | 24=>25 | 26=>3 | 28=>273 | 33=>109 | 37=>65 | 39=>231 | 40=>232 | 45=>237 | 48=>240 | 50=>242 | 51=>261 | 55=>265 | 57=>276 | 58=>277 | n=>n,fun | n=>n⟩
theorem Tryz.lsorted:SlLaysZI.n6 Tryz.prog Tryz.lsorted_ren:={
  mixed:=by kernel_rfl
  f6:=⟨Tryz.f281.name,by kernel_rfl,Tryz.func281.trans (congrArg some (by kernel_rfl))⟩
  f8:=⟨Tryz.f287.name,by kernel_rfl,Tryz.func287.trans (congrArg some (by kernel_rfl))⟩
  f11:=⟨Tryz.f289.name,by kernel_rfl,Tryz.func289.trans (congrArg some (by kernel_rfl))⟩
  t0:=Tryz.underlying0
  a0:=Tryz.isAgg0
  z0:=Tryz.sizeOf0
  v0:=Tryz.zeroValue0
  t24:=Tryz.underlying25
  a24:=Tryz.isAgg25
  z24:=Tryz.sizeOf25
  v24:=Tryz.zeroValue25
  t26:=Tryz.underlying3
  a26:=Tryz.isAgg3
  z26:=Tryz.sizeOf3
  v26:=Tryz.zeroValue3
  t28:=Tryz.underlying273
  a28:=Tryz.isAgg273
  z28:=Tryz.sizeOf273
  v28:=Tryz.zeroValue273
  i26:=by kernel_rfl
}
def Tryz.lsort_ren:Go.Shelf.Ren:=⟨fun | 5=>68 | 7=>148 | 8=>149 | 10=>226 | 11=>227 | 12=>228 | 13=>229 | 14=>230 | 15=>231 | 16=>232 | 17=>233 | 18=>234 | 19=>235 | 20=>236 | 30=>272 | 31=>273 | 32=>274 | 33=>275 | 34=>276 | 35=>277 | 40=>284 | n=>n,fun | 22=>25 | 23=>25 | 25=>3 | 32=>65 | 35=>231 | 36=>232 | 41=>237 | 44=>240 | 46=>242 | 53=>261 | 57=>265 | 63=>276 | 64=>277 | n=>n,fun | n=>n⟩
theorem Tryz.lsort:SlLaysM.n5 Tryz.prog Tryz.lsort_ren:={
  mixed:=by kernel_rfl
  f5:=⟨Tryz.f68.name,by kernel_rfl,Tryz.func68.trans (congrArg some (by kernel_rfl))⟩
  f7:=⟨Tryz.f148.name,by kernel_rfl,Tryz.func148.trans (congrArg some (by kernel_rfl))⟩
  f8:=Tryz.func149.trans (congrArg some (by kernel_rfl))
  f10:=⟨Tryz.f226.name,by kernel_rfl,Tryz.func226.trans (congrArg some (by kernel_rfl))⟩
  f11:=⟨Tryz.f227.name,by kernel_rfl,Tryz.func227.trans (congrArg some (by kernel_rfl))⟩
  f12:=⟨Tryz.f228.name,by kernel_rfl,Tryz.func228.trans (congrArg some (by kernel_rfl))⟩
  f13:=⟨Tryz.f229.name,by kernel_rfl,Tryz.func229.trans (congrArg some (by kernel_rfl))⟩
  f14:=⟨Tryz.f230.name,by kernel_rfl,Tryz.func230.trans (congrArg some (by kernel_rfl))⟩
  f15:=⟨Tryz.f231.name,by kernel_rfl,Tryz.func231.trans (congrArg some (by kernel_rfl))⟩
  f16:=⟨Tryz.f232.name,by kernel_rfl,Tryz.func232.trans (congrArg some (by kernel_rfl))⟩
  f17:=⟨Tryz.f233.name,by kernel_rfl,Tryz.func233.trans (congrArg some (by kernel_rfl))⟩
  f18:=⟨Tryz.f234.name,by kernel_rfl,Tryz.func234.trans (congrArg some (by kernel_rfl))⟩
  f19:=Tryz.func235.trans (congrArg some (by kernel_rfl))
  f20:=Tryz.func236.trans (congrArg some (by kernel_rfl))
  f30:=⟨Tryz.f272.name,by kernel_rfl,Tryz.func272.trans (congrArg some (by kernel_rfl))⟩
  f31:=Tryz.func273.trans (congrArg some (by kernel_rfl))
  f32:=Tryz.func274.trans (congrArg some (by kernel_rfl))
  f33:=⟨Tryz.f275.name,by kernel_rfl,Tryz.func275.trans (congrArg some (by kernel_rfl))⟩
  f34:=⟨Tryz.f276.name,by kernel_rfl,Tryz.func276.trans (congrArg some (by kernel_rfl))⟩
  f35:=⟨Tryz.f277.name,by kernel_rfl,Tryz.func277.trans (congrArg some (by kernel_rfl))⟩
  f40:=⟨Tryz.f284.name,by kernel_rfl,Tryz.func284.trans (congrArg some (by kernel_rfl))⟩
  t0:=Tryz.underlying0
  a0:=Tryz.isAgg0
  z0:=Tryz.sizeOf0
  v0:=Tryz.zeroValue0
  t3:=Tryz.underlying3
  a3:=Tryz.isAgg3
  z3:=Tryz.sizeOf3
  v3:=Tryz.zeroValue3
  t4:=Tryz.underlying4
  a4:=Tryz.isAgg4
  z4:=Tryz.sizeOf4
  v4:=Tryz.zeroValue4
  t5:=Tryz.underlying5
  a5:=Tryz.isAgg5
  z5:=Tryz.sizeOf5
  v5:=Tryz.zeroValue5
  t9:=Tryz.underlying9
  a9:=Tryz.isAgg9
  z9:=Tryz.sizeOf9
  v9:=Tryz.zeroValue9
  t22:=Tryz.underlying25
  a22:=Tryz.isAgg25
  z22:=Tryz.sizeOf25
  v22:=Tryz.zeroValue25
  t23:=Tryz.underlying25
  a23:=Tryz.isAgg25
  z23:=Tryz.sizeOf25
  v23:=Tryz.zeroValue25
  t25:=Tryz.underlying3
  a25:=Tryz.isAgg3
  z25:=Tryz.sizeOf3
  v25:=Tryz.zeroValue3
  t32:=Tryz.underlying65
  a32:=Tryz.isAgg65
  z32:=Tryz.sizeOf65
  v32:=Tryz.zeroValue65
  t35:=Tryz.underlying231
  a35:=Tryz.isAgg231
  z35:=Tryz.sizeOf231
  v35:=Tryz.zeroValue231
  t36:=Tryz.underlying232
  a36:=Tryz.isAgg232
  z36:=Tryz.sizeOf232
  v36:=Tryz.zeroValue232
  t41:=Tryz.underlying237
  a41:=Tryz.isAgg237
  z41:=Tryz.sizeOf237
  v41:=Tryz.zeroValue237
  t44:=Tryz.underlying240
  a44:=Tryz.isAgg240
  z44:=Tryz.sizeOf240
  v44:=Tryz.zeroValue240
  t46:=Tryz.underlying242
  a46:=Tryz.isAgg242
  z46:=Tryz.sizeOf242
  v46:=Tryz.zeroValue242
  t53:=Tryz.underlying261
  a53:=Tryz.isAgg261
  z53:=Tryz.sizeOf261
  v53:=Tryz.zeroValue261
  t57:=Tryz.underlying265
  a57:=Tryz.isAgg265
  z57:=Tryz.sizeOf265
  v57:=Tryz.zeroValue265
  t63:=Tryz.underlying276
  a63:=Tryz.isAgg276
  z63:=Tryz.sizeOf276
  v63:=Tryz.zeroValue276
  t64:=Tryz.underlying277
  a64:=Tryz.isAgg277
  z64:=Tryz.sizeOf277
  v64:=Tryz.zeroValue277
}
def Tryz.lcompact_ren:Go.Shelf.Ren:=⟨fun | 20=>69 | n=>n,fun | 22=>25 | n=>n,fun | n=>n⟩
theorem Tryz.lcompact:Lays2.n20 Tryz.prog Tryz.lcompact_ren:={
  mixed:=by kernel_rfl
  f20:=Tryz.func69.trans (congrArg some (by kernel_rfl))
  t0:=Tryz.underlying0
  a0:=Tryz.isAgg0
  z0:=Tryz.sizeOf0
  v0:=Tryz.zeroValue0
  t3:=Tryz.underlying3
  a3:=Tryz.isAgg3
  z3:=Tryz.sizeOf3
  v3:=Tryz.zeroValue3
  t4:=Tryz.underlying4
  a4:=Tryz.isAgg4
  z4:=Tryz.sizeOf4
  v4:=Tryz.zeroValue4
  t22:=Tryz.underlying25
  a22:=Tryz.isAgg25
  z22:=Tryz.sizeOf25
  v22:=Tryz.zeroValue25
  i3:=by kernel_rfl
}
theorem Tryz.sorts68:xJ Tryz.prog 68:=⟨fun blk off cap ss W hH hblk hsz=>AnyM.slices_Sort_int Tryz.lsort blk off cap ss W hH hblk hsz,fun p cap W=>AnyM.slices_Sort_int_none Tryz.lsort p cap W⟩
theorem Tryz.lsortsIn (m:Nat):AnyZI.SortsIn Tryz.prog Tryz.lsorted_ren Fence.wide m:=
  ⟨fun blk off cap ss W hH hblk hsz=>callsIn_wide.2 (AnyM.slices_Sort_int Tryz.lsort blk off cap ss W hH hblk hsz),
   fun p cap W=>callsIn_wide.2 (AnyM.slices_Sort_int_none Tryz.lsort p cap W)⟩
theorem Tryz.keys282:zF Tryz.prog 282 288 205:=⟨fun mb W=>(callsIn_wide (n:=5)).1 (AnyZI.keys_in Tryz.lkeys Fence.wide 5 trivial rfl mb W)⟩
theorem Tryz.sortedKeys281:Xs Tryz.prog 281 288 3:=⟨Tryz.underlying3,fun b Bm nn D0 R W hcell hBm hown hmax hbytes=>by
  refine(callsIn_wide (n:=5)).1 ?_
  have hseq:SeqGives Fence.wide 2 Tryz.prog 288 #[.pointer (some ⟨Bm,0,none⟩)] encZ (fun ss=>ss.Perm (intKeys D0)) (Maps.size D0) W:=
    AnyZI.keys_gives (ρ:=Tryz.lkeys_ren) {Tryz.lkeys with} Fence.wide _ trivial rfl (by omega) Bm b nn D0 W hBm hcell hown
  have cS:=AnyZI.sorted_in Tryz.lsorted Fence.wide 5 trivial trivial trivial trivial rfl (by omega) (Tryz.lsortsIn _) (enters_of Tryz.func68 (by kernel_rfl) rfl) 288 #[.pointer (some ⟨Bm,0,none⟩)] trivial (enters_of Tryz.func288 (by kernel_rfl) rfl) _ _ hmax hbytes _ hseq
  change CallsIn _ _ Tryz.prog 281 _ _ _ at cS
  exact cS.mono fun e w' ⟨v,ss,h1,h2,h3,_,h5⟩=>⟨v,ss,h1,h2,h3,h5⟩⟩
theorem Tryz.compacts69:kW Tryz.prog 69:=⟨fun blk off cap zs w h1 h2 h3=>Any.slices_Compact_int Tryz.lcompact blk off cap zs w h1 h2 h3,fun a cap w=>Any.slices_Compact_int_empty Tryz.lcompact a cap w⟩
end Go.Proofs.YtjopghiagoidgaaGreat
namespace Go.Proofs.YtjopghiagoidgaaGreat
open Go Go.Ab
structure Ck where
  ID:Int
  Alt:Int
  deriving DecidableEq,Inhabited
def A6 (x:Ck):List Ac:=[.int .i64 x.ID,.int .i64 x.Alt]
theorem aU (l:List Ck):((l.map A6).all fun x=>x.all Ac.f0)=true:=by simp[A6,Ac.f0]
attribute [go_sem] aU
def dH (x:Ck):Prop:=I64 x.ID∧I64 x.Alt
attribute [go_sem] A6
structure Cc where
  ID:Int
  Operator:Int
  From:Int
  To:Int
  Length:Int
  Speed:Int
  Seats:Int
  Spacing:Int
  deriving DecidableEq,Inhabited
def A7 (x:Cc):List Ac:=[.int .i64 x.ID,.int .i64 x.Operator,.int .i64 x.From,.int .i64 x.To,.int .i64 x.Length,.int .i64 x.Speed,.int .i64 x.Seats,.int .i64 x.Spacing]
theorem aV (l:List Cc):((l.map A7).all fun x=>x.all Ac.f0)=true:=by simp[A7,Ac.f0]
attribute [go_sem] aV
def dI (x:Cc):Prop:=I64 x.ID∧I64 x.Operator∧I64 x.From∧I64 x.To∧I64 x.Length∧I64 x.Speed∧I64 x.Seats∧I64 x.Spacing
attribute [go_sem] A7
structure Ce where
  ID:Int
  Operator:Int
  From:Int
  To:Int
  Grade:Int
  Zone:Int
  Length:Int
  deriving DecidableEq,Inhabited
def Bc (x:Ce):List Ac:=[.int .i64 x.ID,.int .i64 x.Operator,.int .i64 x.From,.int .i64 x.To,.int .i64 x.Grade,.int .i64 x.Zone,.int .i64 x.Length]
theorem dC (l:List Ce):((l.map Bc).all fun x=>x.all Ac.f0)=true:=by simp[Bc,Ac.f0]
attribute [go_sem] dC
def iP (x:Ce):Prop:=I64 x.ID∧I64 x.Operator∧I64 x.From∧I64 x.To∧I64 x.Grade∧I64 x.Zone∧I64 x.Length
attribute [go_sem] Bc
structure Bb where
  Nodes:List Ck
  Lifts:List Cc
  Runs:List Ce
  Bases:List Int
  deriving DecidableEq,Inhabited
def Cd (x:Bb):List Ac:=[.sl 2 (x.Nodes.map A6),.sl 8 (x.Lifts.map A7),.sl 7 (x.Runs.map Bc),.sl 1 (x.Bases.map A2)]
def pC (x:Bb):Prop:=OkL dH x.Nodes∧OkL dI x.Lifts∧OkL iP x.Runs∧OkL I64 x.Bases
attribute [go_sem] Cd
structure Cr where
  Lift:Int
  Mode:Int
  deriving DecidableEq,Inhabited
def Aw (x:Cr):List Ac:=[.int .i64 x.Lift,.int .i64 x.Mode]
theorem V6 (l:List Cr):((l.map Aw).all fun x=>x.all Ac.f0)=true:=by simp[Aw,Ac.f0]
attribute [go_sem] V6
def Ty (x:Cr):Prop:=I64 x.Lift∧I64 x.Mode
attribute [go_sem] Aw
structure Bl where
  Kind:Int
  Target:Int
  By:Int
  Since:Int
  deriving DecidableEq,Inhabited
def Au (x:Bl):List Ac:=[.int .i64 x.Kind,.int .i64 x.Target,.int .i64 x.By,.int .i64 x.Since]
theorem Xl (l:List Bl):((l.map Au).all fun x=>x.all Ac.f0)=true:=by simp[Au,Ac.f0]
attribute [go_sem] Xl
def Vr (x:Bl):Prop:=I64 x.Kind∧I64 x.Target∧I64 x.By∧I64 x.Since
attribute [go_sem] Au
structure Fl where
  Item:Int
  By:Int
  At:Int
  deriving DecidableEq,Inhabited
def B9 (x:Fl):List Ac:=[.int .i64 x.Item,.int .i64 x.By,.int .i64 x.At]
theorem aT (l:List Fl):((l.map B9).all fun x=>x.all Ac.f0)=true:=by simp[B9,Ac.f0]
attribute [go_sem] aT
def dG (x:Fl):Prop:=I64 x.Item∧I64 x.By∧I64 x.At
attribute [go_sem] B9
structure Br where
  Items:List Int
  Every:Int
  Signs:List Fl
  deriving DecidableEq,Inhabited
def Fg (x:Br):List Ac:=[.sl 1 (x.Items.map A2),.int .i64 x.Every,.sl 3 (x.Signs.map B9)]
def Xv (x:Br):Prop:=OkL I64 x.Items∧I64 x.Every∧OkL dG x.Signs
attribute [go_sem] Fg
structure Cj where
  Run:Int
  List_:Br
  deriving DecidableEq,Inhabited
def Av (x:Cj):List Ac:=[.int .i64 x.Run,.sl 1 (x.List_.Items.map A2),.int .i64 x.List_.Every,.sl 3 (x.List_.Signs.map B9)]
theorem aK (l:List Cj) (a0:Int) (a1:List Int) (a2:Int) (a3:List Fl):l.map Av++[[.int .i64 a0,.sl 1 (a1.map A2),.int .i64 a2,.sl 3 (a3.map B9)]]=(l++[(Cj.mk a0 (Br.mk a1 a2 a3))]).map Av:=by simp[Av]
def Vo (x:Cj):Prop:=I64 x.Run∧Xv x.List_
attribute [go_sem] Av aK
structure Cv where
  ID:Int
  Run:Int
  At:Int
  deriving DecidableEq,Inhabited
def Az (x:Cv):List Ac:=[.int .i64 x.ID,.int .i64 x.Run,.int .i64 x.At]
theorem Yq (l:List Cv):((l.map Az).all fun x=>x.all Ac.f0)=true:=by simp[Az,Ac.f0]
attribute [go_sem] Yq
def Xu (x:Cv):Prop:=I64 x.ID∧I64 x.Run∧I64 x.At
attribute [go_sem] Az
structure Ca where
  Bu:List Cj
  Hazards:List Cv
  deriving DecidableEq,Inhabited
def Ij (x:Ca):List Ac:=[.sl 4 (x.Bu.map Av),.sl 3 (x.Hazards.map Az)]
def eG (x:Ca):Prop:=OkL Vo x.Bu∧OkL Xu x.Hazards
attribute [go_sem] Ij
structure Cy where
  Run:Int
  Groomed:Int
  Traffic:Int
  deriving DecidableEq,Inhabited
def A4 (x:Cy):List Ac:=[.int .i64 x.Run,.int .i64 x.Groomed,.int .i64 x.Traffic]
theorem Xh (l:List Cy):((l.map A4).all fun x=>x.all Ac.f0)=true:=by simp[A4,Ac.f0]
attribute [go_sem] Xh
def Vm (x:Cy):Prop:=I64 x.Run∧I64 x.Groomed∧I64 x.Traffic
attribute [go_sem] A4
structure Fm where
  Natural:Int
  Machine:Int
  Density:Int
  deriving DecidableEq,Inhabited
def O1 (x:Fm):List Ac:=[.int .i64 x.Natural,.int .i64 x.Machine,.int .i64 x.Density]
def kR (x:Fm):Prop:=I64 x.Natural∧I64 x.Machine∧I64 x.Density
attribute [go_sem] O1
structure C5 where
  Run:Int
  Area:Int
  Pack:Fm
  deriving DecidableEq,Inhabited
def A3 (x:C5):List Ac:=[.int .i64 x.Run,.int .i64 x.Area,.int .i64 x.Pack.Natural,.int .i64 x.Pack.Machine,.int .i64 x.Pack.Density]
theorem Xi (l:List C5):((l.map A3).all fun x=>x.all Ac.f0)=true:=by simp[A3,Ac.f0]
attribute [go_sem] Xi
def Vn (x:C5):Prop:=I64 x.Run∧I64 x.Area∧kR x.Pack
attribute [go_sem] A3
structure Bd where
  ID:Int
  Zones:List Int
  Lifts:List Int
  Limit:Int
  Load:Int
  Controlled:Int
  deriving DecidableEq,Inhabited
def Ba (x:Bd):List Ac:=[.int .i64 x.ID,.sl 1 (x.Zones.map A2),.sl 1 (x.Lifts.map A2),.int .i64 x.Limit,.int .i64 x.Load,.int .i64 x.Controlled]
theorem eV (l:List Bd) (a0:Int) (a1:List Int) (a2:List Int) (a3:Int) (a4:Int) (a5:Int):l.map Ba++[[.int .i64 a0,.sl 1 (a1.map A2),.sl 1 (a2.map A2),.int .i64 a3,.int .i64 a4,.int .i64 a5]]=(l++[(Bd.mk a0 a1 a2 a3 a4 a5)]).map Ba:=by simp[Ba]
def Zw (x:Bd):Prop:=I64 x.ID∧OkL I64 x.Zones∧OkL I64 x.Lifts∧I64 x.Limit∧I64 x.Load∧I64 x.Controlled
attribute [go_sem] Ba eV
structure Gs where
  From:Int
  To:Int
  deriving DecidableEq,Inhabited
def R4 (x:Gs):List Ac:=[.int .i64 x.From,.int .i64 x.To]
def Tz (x:Gs):Prop:=I64 x.From∧I64 x.To
attribute [go_sem] R4
structure Bp where
  Version:Int
  Span:Gs
  Low:Int
  High:Int
  Zones:List Int
  Level:Int
  deriving DecidableEq,Inhabited
def Ax (x:Bp):List Ac:=[.int .i64 x.Version,.int .i64 x.Span.From,.int .i64 x.Span.To,.int .i64 x.Low,.int .i64 x.High,.sl 1 (x.Zones.map A2),.int .i64 x.Level]
theorem Zm (l:List Bp) (a0:Int) (a1:Int) (a2:Int) (a3:Int) (a4:Int) (a5:List Int) (a6:Int):l.map Ax++[[.int .i64 a0,.int .i64 a1,.int .i64 a2,.int .i64 a3,.int .i64 a4,.sl 1 (a5.map A2),.int .i64 a6]]=(l++[(Bp.mk a0 (Gs.mk a1 a2) a3 a4 a5 a6)]).map Ax:=by simp[Ax]
def T0 (x:Bp):Prop:=I64 x.Version∧Tz x.Span∧I64 x.Low∧I64 x.High∧OkL I64 x.Zones∧I64 x.Level
attribute [go_sem] Ax Zm
structure Bh where
  ID:Int
  Slide:Int
  By:Int
  State:Int
  Since:Int
  Window:Gs
  deriving DecidableEq,Inhabited
def Ap (x:Bh):List Ac:=[.int .i64 x.ID,.int .i64 x.Slide,.int .i64 x.By,.int .i64 x.State,.int .i64 x.Since,.int .i64 x.Window.From,.int .i64 x.Window.To]
theorem Xj (l:List Bh):((l.map Ap).all fun x=>x.all Ac.f0)=true:=by simp[Ap,Ac.f0]
attribute [go_sem] Xj
def Vp (x:Bh):Prop:=I64 x.ID∧I64 x.Slide∧I64 x.By∧I64 x.State∧I64 x.Since∧Tz x.Window
attribute [go_sem] Ap
structure A8 where
  Groomer:Int
  From:Int
  To:Int
  Runs:List Int
  deriving DecidableEq,Inhabited
def Ao (x:A8):List Ac:=[.int .i64 x.Groomer,.int .i64 x.From,.int .i64 x.To,.sl 1 (x.Runs.map A2)]
theorem Yl (l:List A8) (a0:Int) (a1:Int) (a2:Int) (a3:List Int):l.map Ao++[[.int .i64 a0,.int .i64 a1,.int .i64 a2,.sl 1 (a3.map A2)]]=(l++[(A8.mk a0 a1 a2 a3)]).map Ao:=by simp[Ao]
def Sb (x:A8):Prop:=I64 x.Groomer∧I64 x.From∧I64 x.To∧OkL I64 x.Runs
attribute [go_sem] Ao Yl
structure B5 where
  ID:Int
  Node:Int
  Fuel:Int
  State:Int
  To:Int
  Run:Int
  Until:Int
  Winch:Bool
  deriving DecidableEq,Inhabited
def A1 (x:B5):List Ac:=[.int .i64 x.ID,.int .i64 x.Node,.int .i64 x.Fuel,.int .i64 x.State,.int .i64 x.To,.int .i64 x.Run,.int .i64 x.Until,.bool x.Winch]
theorem Xk (l:List B5):((l.map A1).all fun x=>x.all Ac.f0)=true:=by simp[A1,Ac.f0]
attribute [go_sem] Xk
def Vq (x:B5):Prop:=I64 x.ID∧I64 x.Node∧I64 x.Fuel∧I64 x.State∧I64 x.To∧I64 x.Run∧I64 x.Until∧True
attribute [go_sem] A1
structure Bi where
  Run:Int
  Open:Bool
  Since:Int
  deriving DecidableEq,Inhabited
def A5 (x:Bi):List Ac:=[.int .i64 x.Run,.bool x.Open,.int .i64 x.Since]
theorem cZ (l:List Bi) (i:Nat) (a0:Int) (a1:Bool) (a2:Int):(l.map A5).set i [.int .i64 a0,.bool a1,.int .i64 a2]=(l.set i (Bi.mk a0 a1 a2)).map A5:=by simp[A5]
def Xt (x:Bi):Prop:=I64 x.Run∧True∧I64 x.Since
attribute [go_sem] A5 cZ
structure Aj where
  Map:Bb
  Lifts:List Cr
  Closures:List Bl
  Patrol:Ca
  Surfaces:List Cy
  Packs:List C5
  Slides:List Bd
  Bulletin:List Bp
  Missions:List Bh
  Winches:List A8
  Groomers:List B5
  Status:List Bi
  Depth:Int
  Time:Int
  deriving DecidableEq,Inhabited
def B3 (x:Aj):List Ac:=[.sl 2 (x.Map.Nodes.map A6),.sl 8 (x.Map.Lifts.map A7),.sl 7 (x.Map.Runs.map Bc),.sl 1 (x.Map.Bases.map A2),.sl 2 (x.Lifts.map Aw),.sl 4 (x.Closures.map Au),.sl 4 (x.Patrol.Bu.map Av),.sl 3 (x.Patrol.Hazards.map Az),.sl 3 (x.Surfaces.map A4),.sl 5 (x.Packs.map A3),.sl 6 (x.Slides.map Ba),.sl 7 (x.Bulletin.map Ax),.sl 7 (x.Missions.map Ap),.sl 4 (x.Winches.map Ao),.sl 8 (x.Groomers.map A1),.sl 3 (x.Status.map A5),.int .i64 x.Depth,.int .i64 x.Time]
def Sc (x:Aj):Prop:=pC x.Map∧OkL Ty x.Lifts∧OkL Vr x.Closures∧eG x.Patrol∧OkL Vm x.Surfaces∧OkL Vn x.Packs∧OkL Zw x.Slides∧OkL T0 x.Bulletin∧OkL Vp x.Missions∧OkL Sb x.Winches∧OkL Vq x.Groomers∧OkL Xt x.Status∧I64 x.Depth∧I64 x.Time
attribute [go_sem] B3
structure Aq where
  ID:Int
  From:Int
  To:Int
  Cost:Int
  deriving DecidableEq,Inhabited
def Bg (x:Aq):List Ac:=[.int .i64 x.ID,.int .i64 x.From,.int .i64 x.To,.int .i64 x.Cost]
theorem iE (l:List Aq) (a0:Int) (a1:Int) (a2:Int) (a3:Int):l.map Bg++[[.int .i64 a0,.int .i64 a1,.int .i64 a2,.int .i64 a3]]=(l++[(Aq.mk a0 a1 a2 a3)]).map Bg:=by simp[Bg]
theorem iD (l:List Aq) (i:Nat) (a0:Int) (a1:Int) (a2:Int) (a3:Int):(l.map Bg).set i [.int .i64 a0,.int .i64 a1,.int .i64 a2,.int .i64 a3]=(l.set i (Aq.mk a0 a1 a2 a3)).map Bg:=by simp[Bg]
theorem aW (l:List Aq):((l.map Bg).all fun x=>x.all Ac.f0)=true:=by simp[Bg,Ac.f0]
attribute [go_sem] aW
attribute [go_sem] Bg iE iD
structure M5 where
  kind:Int
  target:Int
  by_:Int
  deriving DecidableEq,Inhabited
def Tt (x:M5):List Ac:=[.int .i64 x.kind,.int .i64 x.target,.int .i64 x.by_]
attribute [go_sem] Tt
attribute [go_sem] Nat.reduceAdd Nat.reduceMul Nat.reduceSub Int.reduceToNat
def J9 (x:List Aq):List Ac:=[.sl 4 (x.map Bg)]
attribute [go_sem] J9
end Go.Proofs.YtjopghiagoidgaaGreat
