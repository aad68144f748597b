/- Our own texts: a layer of abstract values over the model, the walks of the functions, the plain laws; joined and shortened by a small program of our own (wip/dce2.py, wip/pack.py). -/
import Derived.Test.YtjopghiagoidgaaGreatA1
import Derived.Calls
import Derived.Tactics2
import Derived.Below
import Derived.Deep.LoopGhost
import Derived.KernelRfl
import Derived.Laws.Shifts
import Derived.Laws.CopyRow
import Derived.Laws.AppendOwn
import Derived.Laws.MakeOwn
import Derived.Laws.StructEq
import Derived.Maps.RangeRun
import Derived.Lib.SliceRun
import Derived.TacticsIn
import Derived.OrdersIn
import Derived.Sort.LoopGhostIn
import Derived.RangeFuncRecord
import Derived.Orders
import Derived.ProofKit
import Derived.OpenShut
import Derived.ShutString
import Derived.ChangeOld
import Derived.Carry
import Derived.WideShapes
import Derived.ChangeArms
import Derived.ChangeShapes
import Derived.Handed
import Derived.JoinedOf
import Derived.Sort.Grow
import Derived.Lib.SlicesCompact
import Derived.Lib.SlKeysI
import Derived.Maps.Own
import Derived.WideKeyRuns
import Derived.Laws.IdiomCopy
import Derived.Lib.Overlaps
import Derived.Test.YtjopghiagoidgaaGreatChecked
namespace Go.Ab
open Go Go.RowKit
def Ge (op:Op):Bool:=
  match op with
  | .alloc _ | .box _ _ | .buildSlice _ _ _ | .makeSlice _ _ _ | .makeMap _ none=>true
  | .call {callee:=.builtin .append,args:=_,argTypes:=_}=>true
  | .call {callee:=.value _,args:=_,argTypes:=_}=>true
  | _=>false
def rS (op:Op):Bool:=
  match op with
  | .store _ _ _ | .mapUpdate _ _ _ _ | .insert _ _ _ _=>true
  | .call {callee:=.builtin .append,args:=_,argTypes:=_} | .call {callee:=.builtin .delete,args:=_,argTypes:=_}=>true
  | _=>false
def drawable (op:Op):Bool:=
  match op with
  | .range _ _ | .next _ _ | .entry _ | .select _ _ | .defer _=>false
  | _=>true
def rid (v:Ac):List Nat:=
  match v with
  | .own r _ _ _ | .ptr r _ | .rptr r _ _ _ | .map r | .iter r | .yld r=>[r]
  | _=>[]
def zV:List Ac→List Nat
  | []=>[]
  | v::r=>rid v++zV r
def zW (v:Ac):List Nat:=
  match v with
  | .agg cs=>zV cs
  | v=>rid v
def Zg:List Ac→List Nat
  | []=>[]
  | v::r=>zW v++Zg r
def touch (op:Op) (e:Operand→Ac):List Nat:=
  match op with
  | .load _ a=>rid (e a)
  | .store _ a _=>rid (e a)
  | .indexAddr _ x _=>rid (e x)
  | .slice _ x _ _ _=>rid (e x)
  | .lookup _ x _ _=>rid (e x)
  | .mapUpdate _ m _ _=>rid (e m)
  | .insert _ m _ _=>rid (e m)
  | .call c=>Zg (c.args.toList.map e)
  | _=>[]
def qU (op:Op) (e:Operand→Ac) (H:List A2) (id:Nat) (ef:Eff):Prop:=
  match ef with
  | .none=>True
  | .new j _=>Ge op=true∧j=id
  | .set r _=>rS op=true∧r∈touch op e∧∃ x,H[r]? =some x∧x≠.resv
def j5 (T:(Ac→Prop)→Prop) (T':(Ac→Prop)→Prop):Prop:=∀ K,T K→(∃ v,K v∧∀ K',K' v→T' K')∨∀ K',T K'
theorem Aak {sz:Nat} {xs:List (List Ac)} {n:Int} {K:List Ac→Prop} (h:Bo sz xs n K):(∃ y,K y∧∀ K':List Ac→Prop,K' y→Bo sz xs n K')∨∀ K',Bo sz xs n K':=by
  obtain⟨h1,h2,h3⟩:=h
  cases hx:xs[n.toNat]? with
  | none=>exact .inr fun K'=>⟨h1,h2,fun y hy=>by rw[hx]at hy;cases hy⟩
  | some y=>
    by_cases hl:y.length=sz
    ·exact .inl ⟨y,h3 y hx hl,fun K' hk=>⟨h1,h2,fun y' hy _=>by rw[hx,Akv]at hy;exact hy ▸ hk⟩⟩
    ·exact .inr fun K'=>⟨h1,h2,fun y' hy kd=>by rw[hx,Akv]at hy;exact absurd (hy ▸ kd) hl⟩
theorem pS {sz:Nat} {xs:List (List Ac)} {i:Nat} {K:List Ac→Prop} (h:Dm sz xs i K):(∃ y,K y∧∀ K':List Ac→Prop,K' y→Dm sz xs i K')∨∀ K',Dm sz xs i K':=by
  cases hx:xs[i]? with
  | none=>exact .inr fun K' y hy=>by rw[hx]at hy;cases hy
  | some y=>
    by_cases hl:y.length=sz
    ·exact .inl ⟨y,h y hx hl,fun K' hk y' hy _=>by rw[hx,Akv]at hy;exact hy ▸ hk⟩
    ·exact .inr fun K' y' hy kd=>by rw[hx,Akv]at hy;exact absurd (hy ▸ kd) hl
theorem xS {es:List (Int×Ac)} {n:Int} {z:Ac} {K:Ac→Bool→Prop} (h:Ex es n z K):∃ v b,K v b∧∀ K':Ac→Bool→Prop,K' v b→Ex es n z K':=by
  cases hx:alook es n with
  | none=>exact ⟨z,false,h.2 hx,fun K' hk=>⟨fun v hv=>by rw[hx]at hv;(cases hv),fun _=>hk⟩⟩
  | some v=>exact ⟨v,true,h.1 v hx,fun K' hk=>⟨fun v' hv=>by rw[hx,Akv]at hv;(exact hv ▸ hk),fun hv=>by rw[hx]at hv;cases hv⟩⟩
variable {P:Program}
theorem wM (c a b:Ac):j5 (iZ c a b) (iZ c a b):=by
  intro K h
  unfold iZ at *
  split at h
  ·rename_i cv
   split at h
   ·exact .inl ⟨_,h,fun _ h=>h⟩
   ·rename_i bc
    cases cv
    ·exact .inl ⟨b,h.2 rfl,fun K' hk=>⟨(fun h=>by cases h),fun _=>hk⟩⟩
    ·exact .inl ⟨a,h.1 rfl,fun K' hk=>⟨fun _=>hk,fun h=>by cases h⟩⟩
  ·exact h.elim
theorem zM (o:BinOp) (T:TypeId) (x y:Ac):j5 (qQ P o T x y) (qQ P o T x y):=by
  intro K h
  unfold qQ bH at *
  repeat' split at h
  all_goals first
    | exact h.elim
    | exact h.2.elim
    | exact .inl ⟨_,h.2,fun _ hk=>⟨h.1,hk⟩⟩
    | exact .inl ⟨_,h.2.2,fun _ hk=>⟨h.1,h.2.1,hk⟩⟩
    | exact .inl ⟨_,h,fun _ h=>h⟩
theorem Aa5 (o:UnOp) (x:Ac):j5 (aUn o x) (aUn o x):=by
  intro K h
  unfold aUn at *
  repeat' split at h
  all_goals first
    | exact h.elim
    | exact .inl ⟨_,h,fun _ h=>h⟩
theorem wP (s d:TypeId) (x:Ac):j5 (eS P s d x) (eS P s d x):=by
  intro K h
  unfold eS at *
  split at h
  ·rename_i h1 h2;exact .inl ⟨_,h,fun _ hk=>by first | exact hk | (simp only[h1,h2];exact hk)⟩
  ·exact h.elim
theorem wN (T:TypeId) (p:Ac) {H H':List A2} (hH:∀ r∈rid p,H'[r]? =H[r]?):(K:Ac→Prop)→X0 P T p H K→(∃ v,K v∧∀ K',K' v→X0 P T p H' K')∨∀ K',X0 P T p H K':=by
  intro K h
  unfold X0 at *
  obtain⟨h0,h⟩:=h
  split at h
  ·rename_i r k
   rw[hH r (by simp[rid])]
   split at h
   ·exact .inl ⟨_,h.2,fun K' hk=>⟨h0,h.1,hk⟩⟩
   ·exact h.elim
  ·rename_i r v i k
   rw[hH r (by simp[rid])]
   split at h
   ·obtain⟨h1,h2,h3⟩:=h
    rcases pS h3 with⟨y,hy,hK⟩ | hK
    ·exact .inl ⟨_,hy,fun K' hk=>⟨h0,h1,h2,hK _ hk⟩⟩
    ·exact .inr fun K'=>⟨h0,h1,h2,hK _⟩
   ·exact h.elim
  ·exact .inl ⟨_,h.2,fun K' hk=>⟨h0,h.1,hk⟩⟩
  ·exact h.elim
theorem jC (T:TypeId) (p:Ac) (f:Nat):j5 (Lf P T p f) (Lf P T p f):=by
  intro K h
  unfold Lf at *
  split at h
  ·obtain⟨h1,h⟩:=h
   split at h
   all_goals first
     | exact h.elim
     | exact .inl ⟨_,h,fun _ h=>⟨h1,h⟩⟩
  ·exact h.elim
theorem sW (T:TypeId) (x:Ac) (f:Nat):j5 (Z1 P T x f) (Z1 P T x f):=by
  intro K h
  unfold Z1 at *
  split at h
  ·rename_i h1
   split at h
   ·exact .inl ⟨_,h.2.2.2,fun _ hk=>⟨h.1,h.2.1,h.2.2.1,hk⟩⟩
   ·exact h.elim
  ·exact h.elim
theorem jB (T:TypeId) (x i:Ac) {H H':List A2} (hH:∀ r∈rid x,H'[r]? =H[r]?):(K:Ac→Prop)→Jf P T x i H K→(∃ v,K v∧∀ K',K' v→Jf P T x i H' K')∨∀ K',Jf P T x i H K':=by
  intro K h
  unfold Jf at *
  split at h
  ·rename_i e k n he
   obtain⟨h0,h⟩:=h
   split at h
   ·obtain⟨h1,h2⟩:=h
    rcases Aak h2 with⟨y,hy,hK⟩ | hK
    ·exact .inl ⟨_,hy,fun K' hk=>⟨h0,h1,hK _ hk⟩⟩
    ·exact .inr fun K'=>⟨h0,h1,hK _⟩
   ·rename_i r v lo len
    rw[hH r (by simp[rid])]
    split at h
    ·obtain⟨h1,h2,h3,h4,h5⟩:=h
     exact .inl ⟨_,h5,fun K' hk=>⟨h0,h1,h2,h3,h4,hk⟩⟩
    ·exact h.elim
   ·exact h.elim
  ·rename_i k n he
   split at h
   ·rename_i hA
    obtain⟨h1,h2,h3,h4⟩:=h
    exact .inl ⟨_,h4,fun K' hk=>⟨h1,h2,h3,hk⟩⟩
   ·obtain⟨h1,h2,h3,h4⟩:=h
    exact .inl ⟨_,h4,fun K' hk=>⟨h1,h2,h3,hk⟩⟩
   ·exact h.elim
  ·exact h.elim
theorem sX (T:TypeId) (parts:List (Nat×Ac)):j5 (Z3 P T parts) (Z3 P T parts):=by
  intro K h
  unfold Z3 at *
  obtain⟨h0,h⟩:=h
  split at h
  ·rename_i h1
   split at h
   ·rename_i h2;exact .inl ⟨_,h,fun _ hk=>⟨h0,by first | exact hk | (simp only[h1,h2];exact hk)⟩⟩
   ·exact h.elim
  ·exact h.elim
theorem wO {x:Ac} {H H':List A2} (hH:∀ r∈rid x,H'[r]? =H[r]?):Z2 x H'=Z2 x H:=by
  unfold Z2
  split
  ·rfl
  ·rw[hH _ (by simp[rid])]
  ·rfl
theorem qO {x:Ac} {H H':List A2} (hH:∀ r∈rid x,H'[r]? =H[r]?):Sg x H'=Sg x H:=by
  unfold Sg
  split
  ·rfl
  ·rfl
  ·rw[hH _ (by simp[rid])]
  ·rfl
theorem xP {x:Ac} {H H':List A2} (hH:∀ r∈rid x,H'[r]? =H[r]?):kQ x H'=kQ x H:=by
  unfold kQ
  split
  ·rw[hH _ (by simp[rid])]
  ·rfl
theorem zL (T:TypeId) (x:Ac) {H H':List A2} (hH:∀ r∈rid x,H'[r]? =H[r]?):(K:Ac→Prop)→m0 P T x H K→(∃ v,K v∧∀ K',K' v→m0 P T x H' K')∨∀ K',m0 P T x H K':=by
  intro K h
  unfold m0 at *
  split at h
  ·rename_i xs _
   by_cases hl:xs.length≤9223372036854775807
   ·exact .inl ⟨_,h hl,fun K' hk=>fun _=>hk⟩
   ·exact .inr fun K' h=>absurd h hl
  ·rename_i len _
   by_cases hl:len≤9223372036854775807
   ·exact .inl ⟨_,h hl,fun K' hk=>fun _=>hk⟩
   ·exact .inr fun K' h=>absurd h hl
  ·exact .inl ⟨_,h,fun K' hk=>hk⟩
  ·exact .inl ⟨_,h,fun K' hk=>hk⟩
  ·exact .inl ⟨_,h,fun K' hk=>hk⟩
  ·exact .inl ⟨_,h,fun K' hk=>hk⟩
  ·rw[hH _ (by simp[rid])]
   split at h
   ·exact .inl ⟨_,h,fun K' hk=>hk⟩
   ·exact h.elim
  ·exact .inl ⟨_,h,fun K' hk=>hk⟩
  ·exact h.elim
theorem sR (T:TypeId) (x:Ac) (lo hi mx:Option Ac) {H H':List A2} (hH:∀ r∈rid x,H'[r]? =H[r]?):(K:Ac→Prop)→Qs P T x lo hi mx H K→(∃ v,K v∧∀ K',K' v→Qs P T x lo hi mx H' K')∨∀ K',Qs P T x lo hi mx H K':=by
  intro K h
  have e:Qs P T x lo hi mx H'=Qs P T x lo hi mx H:=by
    funext K
    cases x with
    | own r v a len=>simp only[Qs,hH r (by simp[rid])]
    | _=>rfl
  rw[e]
  unfold Qs at *
  split at h
  ·obtain⟨h0,h⟩:=h
   split at h
   ·rename_i sz xs
    by_cases hl:xs.length≤9223372036854775807
    ·obtain⟨h1,h⟩:=h
     have h:=h hl
     split at h
     ·rename_i iy mj
      exact .inl ⟨_,h.2.2.2,fun K' hk=>⟨h0,h1,fun _=>by first | exact⟨h.1,h.2.1,h.2.2.1,hk⟩ | (simp only[iy,mj];exact⟨h.1,h.2.1,h.2.2.1,hk⟩)⟩⟩
     ·rename_i iy mj
      exact .inl ⟨_,h.2.2.2.2,fun K' hk=>⟨h0,h1,fun _=>by first | exact⟨h.1,h.2.1,h.2.2.1,h.2.2.2.1,hk⟩ | (simp only[iy,mj];exact⟨h.1,h.2.1,h.2.2.1,h.2.2.2.1,hk⟩)⟩⟩
     ·exact h.elim
    ·exact .inr fun K'=>⟨h0,h.1,fun h=>absurd h hl⟩
   ·split at h
    ·obtain⟨h1,h2,h⟩:=h
     split at h
     ·rename_i iy mj
      exact .inl ⟨_,h.2.2.2,fun K' hk=>⟨h0,h1,h2,by first | exact⟨h.1,h.2.1,h.2.2.1,hk⟩ | (simp only[iy,mj];exact⟨h.1,h.2.1,h.2.2.1,hk⟩)⟩⟩
     ·rename_i iy mj
      exact .inl ⟨_,h.2.2.2.2,fun K' hk=>⟨h0,h1,h2,by first | exact⟨h.1,h.2.1,h.2.2.1,h.2.2.2.1,hk⟩ | (simp only[iy,mj];exact⟨h.1,h.2.1,h.2.2.1,h.2.2.2.1,hk⟩)⟩⟩
     ·exact h.elim
    ·exact h.elim
   ·split at h
    ·rename_i iy mj
     exact .inl ⟨_,h.2.2,fun K' hk=>⟨h0,by first | exact⟨h.1,h.2.1,hk⟩ | (simp only[iy,mj];exact⟨h.1,h.2.1,hk⟩)⟩⟩
    ·rename_i iy mj
     exact .inl ⟨_,h.2.2.2.2,fun K' hk=>⟨h0,by first | exact⟨h.1,h.2.1,h.2.2.1,h.2.2.2.1,hk⟩ | (simp only[iy,mj];exact⟨h.1,h.2.1,h.2.2.1,h.2.2.2.1,hk⟩)⟩⟩
    ·exact h.elim
   ·split at h
    ·rename_i iy mj
     exact .inl ⟨_,h.2.2,fun K' hk=>⟨h0,by first | exact⟨h.1,h.2.1,hk⟩ | (simp only[iy,mj];exact⟨h.1,h.2.1,hk⟩)⟩⟩
    ·rename_i iy mj
     exact .inl ⟨_,h.2.2.2.2,fun K' hk=>⟨h0,by first | exact⟨h.1,h.2.1,h.2.2.1,h.2.2.2.1,hk⟩ | (simp only[iy,mj];exact⟨h.1,h.2.1,h.2.2.1,h.2.2.2.1,hk⟩)⟩⟩
    ·exact h.elim
   ·exact h.elim
  ·split at h
   ·obtain⟨h1,h2,h3,h4,h5⟩:=h
    exact .inl ⟨_,h5,fun K' hk=>⟨h1,h2,h3,h4,hk⟩⟩
   ·exact h.elim
theorem qN (T:TypeId) (x i:Ac) (ok:Bool) {H H':List A2} (hH:∀ r∈rid x,H'[r]? =H[r]?):(K:Ac→Prop)→Q8 P T x i ok H K→(∃ v,K v∧∀ K',K' v→Q8 P T x i ok H' K')∨∀ K',Q8 P T x i ok H K':=by
  intro K h
  unfold Q8 at *
  rw[qO hH,xP hH]
  split at h
  ·obtain⟨h0,h⟩:=h
   split at h
   ·rename_i es hes
    obtain⟨v,b,hk,hK⟩:=xS h
    exact .inl ⟨_,hk,fun K' nx=>⟨h0,hK _ nx⟩⟩
   ·exact h.elim
  ·exact h.elim
def tC (op:Op) (e:Operand→Ac) (H:List A2) (id:Nat) (T T':(Ac→Eff→Prop)→Prop):Prop:=
  ∀ K,T K→(∃ v ef,K v ef∧qU op e H id ef∧∀ K',K' v ef→T' K')∨∀ K',T K'
theorem tC.quiet {op:Op} {e:Operand→Ac} {H:List A2} {id:Nat} {T T':(Ac→Prop)→Prop} (h:j5 T T'):tC op e H id (fun K=>T (I6 K)) (fun K=>T' (I6 K)):=by
  intro K hT
  rcases h _ hT with⟨v,hk,hK⟩ | hK
  ·exact .inl ⟨v,.none,hk,trivial,fun K' nx=>hK _ nx⟩
  ·exact .inr fun K'=>hK _
theorem sQ (T:TypeId) (a x:Operand) (e:Operand→Ac) (id:Nat) {H H':List A2} (hH:∀ r∈rid (e a),H'[r]? =H[r]?) :
    tC (.store T a x) e H id (fun K=>Xx P T (e a) (e x) H K) (fun K=>Xx P T (e a) (e x) H' K):=by
  intro K h
  simp only[Xx]at *
  split at h
  ·rename_i vs eg
   obtain⟨h1,h2,h3,h⟩:=h
   split at h
   ·rename_i r k hp
    have fk:=hH r (by simp[rid,hp])
    split at h
    ·rename_i cs hr
     refine .inl ⟨_,_,h.2,⟨rfl,by simp[touch,rid,hp],_,hr,by simp⟩,fun K' hk=>⟨h1,h2,h3,?_⟩⟩
     first | simp only[hp,fk,hr] | simp only[fk,hr] | skip
     exact⟨h.1,hk⟩
    ·exact h.elim
   ·rename_i r v i k hp
    have fk:=hH r (by simp[rid,hp])
    split at h
    ·rename_i v' sz xs hr
     obtain⟨g1,g2,g3,g4⟩:=h
     rcases pS g4 with⟨y,hy,hK⟩ | hK
     ·refine .inl ⟨_,_,hy,⟨rfl,by simp[touch,rid,hp],_,hr,by simp⟩,fun K' hk=>⟨h1,h2,h3,?_⟩⟩
      first | simp only[hp,fk,hr] | simp only[fk,hr] | skip
      exact⟨g1,g2,g3,hK _ hk⟩
     ·refine .inr fun K'=>⟨h1,h2,h3,?_⟩
      first | simp only[hp,hr] | simp only[hr] | skip
      exact⟨g1,g2,g3,hK _⟩
    ·exact h.elim
   ·exact h.elim
  ·exact h.elim
theorem Xz {op:Op} (T:TypeId) (x i v:Ac) (e:Operand→Ac) (id:Nat) {H H':List A2} (tm:rS op=true) (ht:∀ r∈rid x,r∈touch op e) (hH:∀ r∈rid x,H'[r]? =H[r]?) :
    tC op e H id (fun K=>Hm P T x i v H K) (fun K=>Hm P T x i v H' K):=by
  intro K h
  simp only[Hm]at *
  split at h
  ·rename_i r bg
   have fk:=hH r (by simp[rid])
   split at h
   ·rename_i es hr
    refine .inl ⟨_,_,h.2,⟨tm,ht r (by simp[rid]),_,hr,by simp⟩,fun K' hk=>?_⟩
    first | exact⟨h.1,hk⟩ | (simp only[fk,hr];exact⟨h.1,hk⟩) | (simp only[fk,hr,bg];exact⟨h.1,hk⟩)
   ·rename_i es hr
    refine .inl ⟨_,_,h,⟨tm,ht r (by simp[rid]),_,hr,by simp⟩,fun K' hk=>?_⟩
    first | exact hk | (simp only[fk,hr];exact hk) | (simp only[fk,hr,bg];exact hk)
   ·exact h.elim
  ·exact h.elim
theorem qP {op:Op} (T:TypeId) (x i:Ac) (e:Operand→Ac) (id:Nat) {H H':List A2} (tm:rS op=true) (ht:∀ r∈rid x,r∈touch op e) (hH:∀ r∈rid x,H'[r]? =H[r]?) :
    tC op e H id (fun K=>Ta P T x i H K) (fun K=>Ta P T x i H' K):=by
  intro K h
  simp only[Ta]at *
  split at h
  ·rename_i r bg
   have fk:=hH r (by simp[rid])
   split at h
   ·rename_i es hr
    refine .inl ⟨_,_,h,⟨tm,ht r (by simp[rid]),_,hr,by simp⟩,fun K' hk=>?_⟩
    first | exact hk | (simp only[fk,hr];exact hk) | (simp only[fk,hr,bg];exact hk)
   ·exact h.elim
  ·exact h.elim
theorem qR {op:Op} (T:TypeId) (s x:Ac) (e:Operand→Ac) (id:Nat) {H H':List A2} (hn:Ge op=true) (tm:rS op=true) (ht:∀ r∈rid s,r∈touch op e)
    (hs:∀ r∈rid s,H'[r]? =H[r]?) (hx:∀ r∈rid x,H'[r]? =H[r]?) :
    tC op e H id (fun K=>Tb P T s x H id K) (fun K=>Tb P T s x H' id K):=by
  intro K h
  simp only[Tb,wO hx]at *
  split at h
  ·rename_i el qj
   obtain⟨h1,h2,h3,h⟩:=h
   split at h
   ·rename_i szx ys hy
    obtain⟨h4,h⟩:=h
    split at h
    ·exact .inl ⟨_,_,h.2.2,⟨hn,rfl⟩,fun K' hk=>by first | exact⟨h1,h2,h3,h4,h.1,h.2.1,hk⟩ | (simp only[hy];exact⟨h1,h2,h3,h4,h.1,h.2.1,hk⟩) | (simp only[qj,hy];exact⟨h1,h2,h3,h4,h.1,h.2.1,hk⟩)⟩
    ·exact .inl ⟨_,_,h.2.2,⟨hn,rfl⟩,fun K' hk=>by first | exact⟨h1,h2,h3,h4,h.1,h.2.1,hk⟩ | (simp only[hy];exact⟨h1,h2,h3,h4,h.1,h.2.1,hk⟩) | (simp only[qj,hy];exact⟨h1,h2,h3,h4,h.1,h.2.1,hk⟩)⟩
    ·rename_i r v lo len
     have fk:=hs r (by simp[rid])
     split at h
     ·rename_i v' sz xs hr
      refine .inl ⟨_,_,h.2.2.2.2,⟨tm,ht r (by simp[rid]),_,hr,by simp⟩,fun K' hk=>?_⟩
      first | simp only[hy,fk,hr] | simp only[fk,hr] | simp only[qj,hy,fk,hr]
      exact⟨h1,h2,h3,h4,h.1,h.2.1,h.2.2.1,h.2.2.2.1,hk⟩
     ·exact h.elim
    ·exact h.elim
   ·exact h.elim
  ·exact h.elim
theorem zJ (x y:Ac):j5 (sU x y) (sU x y):=by
  intro K h
  unfold sU at *
  split at h
  ·exact .inl ⟨_,h.2,fun _ hk=>⟨h.1,hk⟩⟩
  ·exact h.elim
theorem zK (x y:Ac):j5 (sV x y) (sV x y):=by
  intro K h
  unfold sV at *
  split at h
  ·exact .inl ⟨_,h.2,fun _ hk=>⟨h.1,hk⟩⟩
  ·exact h.elim
theorem Uc {v:Ac} {r:Nat} (h:r∈rid v):r∈zW v:=by
  cases v<;>first | exact h | simp[rid]at h
theorem pY {α:Type} {F:List A2→(α→Prop)→Prop} {E:α→Prop} {S:List Nat} {H:List A2}
    (hd:∀ H':List A2,(∀ r∈S,H'[r]? =H[r]?)→∀ K,F H K→(∃ v,K v∧E v∧∀ K':α→Prop,K' v→F H' K')∨∀ K',F H K') {K:α→Prop} (h:F H K) :
    (∃ v,K v∧E v∧∀ H':List A2,(∀ r∈S,H'[r]? =H[r]?)→∀ K':α→Prop,K' v→F H' K')∨∀ K',F H K':=by
  by_cases hv:∀ K',F H K'
  ·exact .inr hv
  ·rcases hd H (fun _ _=>rfl) K h with⟨v,h1,h2,h3⟩ | h2
   ·refine .inl ⟨v,h1,h2,fun H' fk K' hk=>?_⟩
    rcases hd H' fk (·=v) (h3 _ rfl)with ⟨v',rfl,_,h4⟩ | h4
    ·exact h4 _ hk
    ·exact absurd h4 hv
   ·exact absurd h2 hv
def zP (P:Program) (op:Op) (e:Operand→Ac) (H:List A2) (id:Nat) (K:Ac→Eff→Prop):Prop:=
  (∃ v ef,K v ef∧qU op e H id ef∧∀ H':List A2,(∀ r∈touch op e,H'[r]? =H[r]?)→∀ K':Ac→Eff→Prop,K' v ef→astep P op e H' id K')∨(∀ K':Ac→Eff→Prop,astep P op e H id K')
theorem zP.quiet {op:Op} {e:Operand→Ac} {H:List A2} {id:Nat} {K:Ac→Eff→Prop} (F:List A2→(Ac→Prop)→Prop)
    (hs:∀ (H':List A2) (K':Ac→Eff→Prop),astep P op e H' id K'=F H' (I6 K'))
    (hd:∀ H':List A2,(∀ r∈touch op e,H'[r]? =H[r]?)→∀ K,F H K→(∃ v,K v∧∀ K':Ac→Prop,K' v→F H' K')∨∀ K',F H K') (h:astep P op e H id K):zP P op e H id K:=by
  rw[hs]at h
  rcases pY (F:=F) (E:=fun _=>True) (S:=touch op e) (fun H' fk K hK=>(hd H' fk K hK).imp (fun⟨v,a,b⟩=>⟨v,a,trivial,b⟩) (fun h=>h)) h with⟨v,h1,_,h2⟩ | h2
  ·exact .inl ⟨v,.none,h1,trivial,fun H' fk K' hk=>by rw[hs];exact h2 H' fk _ hk⟩
  ·exact .inr fun K'=>by rw[hs];exact h2 _
theorem zP.eff {op:Op} {e:Operand→Ac} {H:List A2} {id:Nat} {K:Ac→Eff→Prop} (F:List A2→(Ac→Eff→Prop)→Prop)
    (hs:∀ (H':List A2) (K':Ac→Eff→Prop),astep P op e H' id K'=F H' K')
    (hd:∀ H':List A2,(∀ r∈touch op e,H'[r]? =H[r]?)→tC op e H id (F H) (F H')) (h:astep P op e H id K):zP P op e H id K:=by
  rw[hs]at h
  rcases pY (F:=fun H K=>F H fun v ef=>K (v,ef)) (E:=fun x=>qU op e H id x.2) (S:=touch op e) (K:=fun x=>K x.1 x.2) (fun H' fk K hK=>(hd H' fk (fun v ef=>K (v,ef)) hK).imp (fun⟨v,ef,a,b,c⟩=>⟨(v,ef),a,b,fun K' hk=>c _ hk⟩) (fun h K'=>h _)) h with⟨⟨v,ef⟩,h1,h2,h3⟩ | h2
  ·exact .inl ⟨v,ef,h1,h2,fun H' fk K' hk=>by rw[hs];exact h3 H' fk (fun x=>K' x.1 x.2) hk⟩
  ·exact .inr fun K'=>by rw[hs];exact h2 fun x=>K' x.1 x.2
theorem wG {op:Op} {e:Operand→Ac} {H:List A2} {id:Nat} {K:Ac→Eff→Prop} (hd:drawable op=true) (h:astep P op e H id K):zP P op e H id K:=by
  cases op with
  | move x=>exact .inl ⟨_,_,h,trivial,fun _ _ _ hk=>hk⟩
  | assign x=>exact .inl ⟨_,_,h,trivial,fun _ _ _ hk=>hk⟩
  | pick c a b=>exact .quiet (fun _=>iZ (e c) (e a) (e b)) (fun _ _=>rfl) (fun _ _=>wM _ _ _) h
  | binOp o T x y t=>exact .quiet (fun _=>qQ P o T (e x) (e y)) (fun _ _=>rfl) (fun _ _=>zM _ _ _ _) h
  | unOp o t x=>exact .quiet (fun _=>aUn o (e x)) (fun _ _=>rfl) (fun _ _=>Aa5 _ _) h
  | convert s d x=>exact .quiet (fun _=>eS P s d (e x)) (fun _ _=>rfl) (fun _ _=>wP _ _ _) h
  | alloc T=>exact .inl ⟨_,_,h.2,⟨rfl,rfl⟩,fun _ _ _ hk=>⟨h.1,hk⟩⟩
  | box t x=>
    simp only[astep,wQ]at h
    split at h
    ·rename_i cs ia
     exact .inl ⟨_,_,h,⟨rfl,rfl⟩,fun _ _ K' hk=>by simp only[astep,wQ,ia];exact hk⟩
    ·exact h.elim
  | build T parts=>exact .quiet (fun _=>Z3 P T (La e parts.toList)) (fun _ _=>rfl) (fun _ _=>sX _ _) h
  | buildSlice T n parts=>
    simp only[astep,Nv]at h
    obtain⟨h0,h⟩:=h
    split at h
    ·rename_i el qj
     obtain⟨h1,h2,h3,h4,h⟩:=h
     split at h
     ·rename_i cs ia
      exact .inl ⟨_,_,h.2,⟨rfl,rfl⟩,fun _ _ K' hk=>by simp only[astep,Nv,qj,ia];exact⟨h0,h1,h2,h3,h4,h.1,hk⟩⟩
     ·exact h.elim
    ·exact h.elim
  | load T a=>exact .quiet (fun H=>X0 P T (e a) H) (fun _ _=>rfl) (fun _ hH=>wN _ _ hH) h
  | store T a x=>exact .eff (fun H=>Xx P T (e a) (e x) H) (fun _ _=>rfl) (fun _ hH=>sQ _ _ _ _ _ hH) h
  | fieldAddr T x f=>exact .quiet (fun _=>Lf P T (e x) f) (fun _ _=>rfl) (fun _ _=>jC _ _ _) h
  | field T x f=>exact .quiet (fun _=>Z1 P T (e x) f) (fun _ _=>rfl) (fun _ _=>sW _ _ _) h
  | indexAddr T x i=>exact .quiet (fun H=>Jf P T (e x) (e i) H) (fun _ _=>rfl) (fun _ hH=>jB _ _ _ hH) h
  | extract t i=>
    simp only[astep]at h
    split at h
    ·rename_i vs eg
     exact .inl ⟨_,_,h.2,trivial,fun _ _ K' hk=>by simp only[astep,eg];exact⟨h.1,hk⟩⟩
    ·exact h.elim
  | slice T x lo hi mx=>exact .quiet (fun H=>Qs P T (e x) (lo.map e) (hi.map e) (mx.map e) H) (fun _ _=>rfl) (fun _ hH=>sR _ _ _ _ _ hH) h
  | makeSlice T l c=>
    simp only[astep,Pk]at h
    split at h
    ·rename_i el _ _ _ _ qj hl hc
     obtain⟨h1,h2,h3,h4,h5,h6,h7,h8,h⟩:=h
     exact .inl ⟨_,_,h,⟨rfl,rfl⟩,fun _ _ K' hk=>by simp only[astep,Pk,qj,hl,hc];exact⟨h1,h2,h3,h4,h5,h6,h7,h8,hk⟩⟩
    ·exact h.elim
  | makeMap T r=>
    cases r with
    | none=>exact .inl ⟨_,_,h,⟨rfl,rfl⟩,fun _ _ K' hk=>hk⟩
    | some r=>exact h.elim
  | lookup T x i ok=>exact .quiet (fun H=>Q8 P T (e x) (e i) ok H) (fun _ _=>rfl) (fun _ hH=>qN _ _ _ _ hH) h
  | mapUpdate T m k x=>exact .eff (fun H=>Hm P T (e m) (e k) (e x) H) (fun _ _=>rfl) (fun _ hH=>Xz _ _ _ _ _ _ rfl (fun _ h=>h) hH) h
  | insert T m k x=>exact .eff (fun H=>Hm P T (e m) (e k) (e x) H) (fun _ _=>rfl) (fun _ hH=>Xz _ _ _ _ _ _ rfl (fun _ h=>h) hH) h
  | makeFunc f first caps=>
    cases f with
    | func f=>exact .inl ⟨_,_,h.2,trivial,fun _ _ K' hk=>⟨h.1,hk⟩⟩
    | _=>exact h.elim
  | call c=>
    obtain⟨callee,args,tys⟩:=c
    cases callee with
    | builtin b=>
      simp only[astep]at h
      unfold Hb at h
      split at h
      ·rename_i x T ha ht
       refine .quiet (fun H=>m0 P T x H) (fun H' K'=>by simp only[astep,Hb,ha,ht]) (fun H' hH=>zL _ _ fun r hr=>hH r ?_) (by simp only[astep,Hb,ha,ht];exact h)
       simp only[touch,ha,Zg,List.append_nil];exact Uc hr
      ·rename_i s x T T2 ha ht
       refine .eff (fun H K=>T=T2∧Tb P T s x H id K) (fun H' K'=>by simp only[astep,Hb,ha,ht]) (fun H' hH K hK=>?_) (by simp only[astep,Hb,ha,ht];exact h)
       rcases qR (P:=P) (op:=.call ⟨.builtin .append,args,tys⟩) T s x e id rfl rfl (fun r hr=>by simp only[touch,ha,Zg];exact List.mem_append_left _ (Uc hr))
         (fun r hr=>hH r (by simp only[touch,ha,Zg];exact List.mem_append_left _ (Uc hr))) (fun r hr=>hH r (by simp only[touch,ha,Zg];exact List.mem_append_right _ (List.mem_append_left _ (Uc hr)))) K hK.2 with⟨v,ef,h1,h2,h3⟩ | h1
       ·exact .inl ⟨v,ef,h1,h2,fun K' hk=>⟨hK.1,h3 K' hk⟩⟩
       ·exact .inr fun K'=>⟨hK.1,h1 K'⟩
      ·rename_i m k T _ ha ht
       exact .eff (fun H K=>Ta P T m k H K) (fun H' K'=>by simp only[astep,Hb,ha,ht])
         (fun H' hH=>qP (op:=.call ⟨.builtin .delete,args,tys⟩) T m k e id rfl (fun r hr=>by simp only[touch,ha,Zg];exact List.mem_append_left _ (Uc hr)) fun r hr=>hH r (by simp only[touch,ha,Zg];exact List.mem_append_left _ (Uc hr)))
         (by simp only[astep,Hb,ha,ht];exact h)
      ·rename_i x y ha
       exact .quiet (fun _=>sU x y) (fun H' K'=>by simp only[astep,Hb,ha]) (fun _ _=>zJ _ _) (by simp only[astep,Hb,ha];exact h)
      ·rename_i x y ha
       exact .quiet (fun _=>sV x y) (fun H' K'=>by simp only[astep,Hb,ha]) (fun _ _=>zK _ _) (by simp only[astep,Hb,ha];exact h)
      ·exact h.elim
    | _=>exact h.elim
  | range _ _ | next _ _ | entry _=>simp[drawable]at hd
  | _=>exact h.elim
theorem U8 {e e':Operand→Ac}:∀ {l:List (Nat×Operand)},(∀ p∈l,e' p.2=e p.2)→La e' l=La e l
  | [],_=>rfl
  | p::r,h=>by rw[La,La,h p (List.mem_cons_self ..),U8 fun q hq=>h q (List.mem_cons_of_mem _ hq)]
theorem Vd {e e':Operand→Ac} {l:List Operand} (h:∀ x∈l,e' x=e x):l.map e'=l.map e:=List.map_congr_left h
theorem Zm {e e':Operand→Ac} {o:Option Operand} (h:∀ x∈o,e' x=e x):o.map e'=o.map e:=by
  cases o with
  | none=>rfl
  | some x=>simp[h x rfl]
theorem eP {op:Op} {e e':Operand→Ac} {H:List A2} {id:Nat} {K:Ac→Eff→Prop} (h:∀ x∈op.operands.toList,e' x=e x) (hd:drawable op=true):astep P op e' H id K=astep P op e H id K∧touch op e'=touch op e:=by
  cases op with
  | build T parts=>
    have:La e' parts.toList=La e parts.toList:=U8 fun p hp=>h _ (by simpa[Op.operands]using ⟨p.1,by simpa using hp⟩)
    exact⟨by simp only[astep,this],rfl⟩
  | buildSlice T n parts=>
    have:La e' parts.toList=La e parts.toList:=U8 fun p hp=>h _ (by simpa[Op.operands]using ⟨p.1,by simpa using hp⟩)
    exact⟨by simp only[astep,this],rfl⟩
  | slice T x lo hi mx=>
    have h1:=h x (by simp[Op.operands])
    have h2:lo.map e'=lo.map e:=Zm fun y hy=>h y (by simp[Op.operands];simp_all)
    have h3:hi.map e'=hi.map e:=Zm fun y hy=>h y (by simp[Op.operands];simp_all)
    have h4:mx.map e'=mx.map e:=Zm fun y hy=>h y (by simp[Op.operands];simp_all)
    exact⟨by simp only[astep,h1,h2,h3,h4],by simp only[touch,h1]⟩
  | makeFunc f first caps=>
    cases f with
    | func f=>
      refine⟨?_,rfl⟩
      simp only[astep,Vd (e:=e) (e':=e') (l:=caps.toList) fun x hx=>h x (by simp[Op.operands];exact .inr (by simpa using hx))]
    | _=>exact ⟨rfl,rfl⟩
  | makeMap T r=>cases r<;>exact ⟨rfl,rfl⟩
  | call c=>
    obtain⟨callee,args,tys⟩:=c
    have h1:args.toList.map e'=args.toList.map e:=Vd fun x hx=>h x (by simp[Op.operands,Call.operands];exact .inr (by simpa using hx))
    cases callee with
    | builtin b=>exact ⟨by simp only[astep,h1],by simp only[touch,h1]⟩
    | _=>exact ⟨rfl,by simp only[touch,h1]⟩
  | range _ _ | next _ _ | entry _=>simp[drawable]at hd
  | _=>first
    | exact⟨rfl,rfl⟩
    | (simp[Op.operands]at h;simp[astep,touch,h])
abbrev Log:=List (Nat×List Nat×Bool)
def kR (i:Nat) (S:List Nat) (w:Bool):Log:=
  match S with
  | []=>[]
  | a::r=>[(i,a::r,w)]
def ents (i id:Nat) (op:Op) (e:Operand→Ac):Log:=kR i (if Ge op then id::touch op e else touch op e) (Ge op||rS op)
def Abf (P:Program) (fid:FuncId) (gs args:List Ac) (H:List A2) (id:Nat) (r:Ac) (ef:Eff):Prop:=
  (ef= .none∧((Ad P fid gs (·=r)∧Gz (O0 H) args=some gs∧r.f2=true)∨(Ad P fid gs (·=r)∧args.all Ac.g2=true∧gs=args)∨(Bu P fid gs (·=r)∧Gz (O0 H) args=some gs)))∨
  (∃ sz xs,Dj P fid gs sz xs∧r= .own id 0 0 xs.length∧ef= .new id (.row 0 sz xs)∧((args.all Ac.g2=true∧gs=args)∨(Gz (O0 H) args=some gs∧(xs.all fun x=>x.all Ac.f0)=true)))∨
  ∃ r0 o',ef= .set r0 o'∧r0∈Zg args∧(∃ x,H[r0]? =some x∧x≠.resv)∧∀ (st:List Fr) (H':List A2),H'.length=H.length→(∀ q∈Zg args,H'[q]? =H[q]?)→
    Al P (.func fid []) args st H' fun r' H''=>r'=r∧H''=H'.set r0 o'
def Cf (P:Program) (f:Ac) (args:List Ac) (H:List A2) (id:Nat) (K:Ac→Eff→Prop):Prop:=
  ∃ fid gs r ef,f= .func fid []∧(∀ (args:Array Value) (w:World),(callFunc fid args).run P w= .ok (.enter fid args) w)∧Abf P fid gs args H id r ef∧K r ef
def dop (P:Program) (op:Op) (e:Operand→Ac) (H:List A2) (id:Nat) (K:Ac→Eff→Prop):Prop:=
  match Qr op with
  | some (f,args)=>Cf P (e f) (args.map e) H id K
  | none=>astep P op e H id K
abbrev DK:=Log→Ac→Eff→Prop
def drun (P:Program) (op:Op) (i id:Nat) (K:DK) (fr:Fr) (H:List A2):Prop:=dop P op (ev fr) H id (K (ents i id op (ev fr)))
def dskip (K:DK) (_fr:Fr) (_H:List A2):Prop:=K [] (.tuple []) .none
def dstep (P:Program) (all:List Oper) (o:Oper) (i id:Nat) (K:DK) (fr:Fr) (H:List A2):Prop:=
  match o.guard with
  | none=>drun P o.op i id K fr H
  | some (j,want)=>match (all[j]?).bind (·.dst)with
    | some d=>Ft (get fr d) want (drun P o.op i id K) (dskip K) fr H
    | none=>dskip K fr H
def dafter (next:Log→Fr→List A2→Prop) (log:Log) (fr:Fr) (dst:Option Tmp) (H:List A2) (en:Log) (v:Ac) (ef:Eff):Prop:=
  next (en++log) (put fr dst v) (ef.app H)
def dlist (P:Program) (all:List Oper) (top:Nat) (K:Log→Fr→List A2→Prop):List Oper→Nat→Nat→Log→Fr→List A2→Prop
  | [],_,_,log,fr,H=>K log fr H
  | o::r,i,id,log,fr,H=>dstep P all o i (if Ge o.op then id else top) (dafter (dlist P all top K r (i+1) (if Ge o.op then id+1 else id)) log fr o.dst H) fr H
structure Tag where
  i:Nat
  id:Nat
  o:Oper
def dlt (P:Program) (all:List Oper) (K:Log→Fr→List A2→Prop):List Tag→Log→Fr→List A2→Prop
  | [],log,fr,H=>K log fr H
  | t::r,log,fr,H=>dstep P all t.o t.i t.id (dafter (dlt P all K r) log fr t.o.dst H) fr H
def tags (top:Nat):List Oper→Nat→Nat→List Tag
  | [],_,_=>[]
  | o::r,i,id=>⟨i,if Ge o.op then id else top,o⟩::tags top r (i+1) (if Ge o.op then id+1 else id)
def resvs:List Oper→List A2
  | []=>[]
  | o::r=>if Ge o.op then .resv::resvs r else resvs r
def rZ (o:Oper) (acc:List Nat):Nat:=o.after.toList.foldl (fun m e=>if Region.binds .any e then m|||(2 ^ e.on|||acc.getD e.on 0)else m) 0
def masks:List Oper→List Nat→List Nat
  | [],acc=>acc
  | o::r,acc=>masks r (acc++[rZ o acc])
def bit (A:List Nat) (i j:Nat):Bool:=(A.getD i 0).testBit j
def disj (S T:List Nat):Bool:=S.all fun r=>!T.contains r
def R4 (A:List Nat) (log:Log):Bool:=log.all fun p=>log.all fun q=>p.1 ==q.1||bit A p.1 q.1||bit A q.1 p.1||!(p.2.2||q.2.2)||disj p.2.1 q.2.1
def aH (A:List Nat) (arr:Array Oper):List (Nat×Oper)→List Oper→Nat→Bool
  | _,[],_=>true
  | prev,o::r,i=>prev.all (fun p=>bit A i p.1||p.2.apart arr o)&&aH A arr ((i,o)::prev) r (i+1)
def Yg:List Oper→Nat→Bool
  | [],_=>true
  | o::r,i=>o.after.toList.all (fun e=>!Region.binds .any e||Nat.blt e.on i)&&Yg r (i+1)
def yS (n:Nat) (ops:List Oper):Bool:=
  aU n ops&&ops.all (fun o=>(Qr o.op).isSome||drawable o.op)&&Yg ops 0&&aH (masks ops []) ops.toArray [] ops 0
section
variable {P:Program}
theorem tY {H H':List A2} {v:Ac} (h:∀ r∈rid v,H'[r]? =H[r]?):Xd H' v=Xd H v:=by
  cases v<;>first | rfl | (simp only[Xd,h _ (List.mem_singleton.2 rfl)])
theorem tW {H H':List A2}:∀ {l:List Ac},(∀ r∈zV l,H'[r]? =H[r]?)→Gz (Xd H') l=Gz (Xd H) l
  | [],_=>rfl
  | v::l,h=>by
    rw[Gz,Gz,tY fun r hr=>h r (List.mem_append_left _ hr),tW fun r hr=>h r (List.mem_append_right _ hr)]
theorem Aap {H H':List A2} {v:Ac} (h:∀ r∈zW v,H'[r]? =H[r]?):O0 H' v=O0 H v:=by
  cases v with
  | agg cs=>simp only[O0,tW (H:=H) (H':=H') (l:=cs) h]
  | _=>
    simp only[O0]
    refine tY fun r hr=>h r ?_
    exact hr
theorem tX {H H':List A2}:∀ {l:List Ac},(∀ r∈Zg l,H'[r]? =H[r]?)→Gz (O0 H') l=Gz (O0 H) l
  | [],_=>rfl
  | v::l,h=>by
    rw[Gz,Gz,Aap fun r hr=>h r (List.mem_append_left _ hr),tX fun r hr=>h r (List.mem_append_right _ hr)]
def sZ (op:Op) (e:Operand→Ac) (H:List A2) (id:Nat) (ef:Eff):Prop:=
  match ef with
  | .none=>True
  | .new j _=>Ge op=true∧j=id
  | .set r _=>(Ge op||rS op)=true∧r∈touch op e∧∃ x,H[r]? =some x∧x≠.resv
theorem qU.w {op:Op} {e:Operand→Ac} {H:List A2} {id:Nat} {ef:Eff} (h:qU op e H id ef):sZ op e H id ef:=by
  cases ef with
  | none=>trivial
  | new j x=>exact h
  | set r x=>exact ⟨by rw[h.1,Bool.or_true],h.2⟩
def dOK (op:Op):Prop:=(Qr op).isSome=true∨drawable op=true
theorem Aaq {op:Op} {e:Operand→Ac} {H:List A2} {id:Nat} {K:Ac→Eff→Prop} (hd:dOK op) (h:dop P op e H id K) :
    (∃ v ef,K v ef∧sZ op e H id ef∧∀ (H':List A2) (e':Operand→Ac),H'.length=H.length→(∀ x∈op.operands.toList,e' x=e x)→(∀ r∈touch op e,H'[r]? =H[r]?)→∀ K':Ac→Eff→Prop,K' v ef→dop P op e' H' id K')∨
     (∀ K':Ac→Eff→Prop,dop P op e H id K'):=by
  unfold dop at h
  split at h
  ·rename_i f args hc
   obtain⟨zq,ts,rfl,rfl⟩:=S5 hc
   obtain⟨fid,gs,r,ef,h1,h2,h4,h5⟩:=h
   have hE:sZ (.call {callee:=.value f,args:=zq,argTypes:=ts}) e H id ef:=by
     rcases h4 with⟨rfl,_⟩ | ⟨sz,xs,_,_,rfl,_⟩ | ⟨r0,o',rfl,h6,h7,_⟩
     ·trivial
     ·exact⟨rfl,rfl⟩
     ·exact⟨rfl,h6,h7⟩
   refine .inl ⟨r,ef,h5,hE,fun H' e' hlen he hH K' hk=>?_⟩
   have e1:e' f=e f:=he _ (by simp[Op.operands,Call.operands])
   have e2:zq.toList.map e'=zq.toList.map e:=Vd fun x hx=>he x (by simp[Op.operands,Call.operands];exact .inr (by simpa using hx))
   simp only[dop,Qr]
   refine⟨fid,gs,r,ef,by rw[e1];exact h1,h2,?_,hk⟩
   rw[e2]
   have hfz:Gz (O0 H') (zq.toList.map e)=Gz (O0 H) (zq.toList.map e):=tX (H:=H) (H':=H') hH
   unfold Abf at *
   rw[hfz]
   rcases h4 with h4 | h4 | ⟨r0,o',h6,h7,h8,h9⟩
   ·exact .inl h4
   ·exact .inr (.inl h4)
   ·have hH:∀ q∈Zg (zq.toList.map e),H'[q]? =H[q]?:=hH
    exact .inr (.inr ⟨r0,o',h6,h7,by rw[hH r0 h7];exact h8,fun st H2 ix su=>h9 st H2 (ix.trans hlen) fun q hq=>(su q hq).trans (hH q hq)⟩)
  ·rename_i hc
   have hd:drawable op=true:=hd.resolve_left (by rw[hc];simp)
   rcases wG hd h with⟨v,ef,h1,h2,h3⟩ | h1
   ·refine .inl ⟨v,ef,h1,h2.w,fun H' e' _ he hH K' hk=>?_⟩
    simp only[dop,hc]
    rw[(eP he hd).1]
    exact h3 H' hH K' hk
   ·exact .inr fun K'=>by simp only[dop,hc];exact h1 K'
def lT (i id:Nat) (o:Oper) (H:List A2) (en:Log) (ef:Eff):Prop:=
  (∀ p∈en,p.1=i)∧match ef with
  | .none=>True
  | .new j _=>Ge o.op=true∧j=id∧∃ p∈en,p.2.2=true∧id∈p.2.1
  | .set r _=>(∃ p∈en,p.2.2=true∧r∈p.2.1)∧∃ x,H[r]? =some x∧x≠.resv
theorem vG {i:Nat} {S:List Nat} {w:Bool} {p:Nat×List Nat×Bool} (h:p∈kR i S w):p=(i,S,w):=by
  unfold kR at h
  split at h
  ·cases h
  ·exact List.mem_singleton.1 h
theorem gS {i:Nat} {S:List Nat} {w:Bool} {r:Nat} (h:r∈S):(i,S,w)∈kR i S w:=by
  unfold kR
  split
  ·cases h
  ·exact List.mem_singleton.2 rfl
def Acy (P:Program) (all:List Oper) (o:Oper) (i id:Nat) (K:DK) (fr:Fr) (H:List A2) (en:Log) (v:Ac) (ef:Eff):Prop:=
  K en v ef∧lT i id o H en ef∧∀ (fr':Fr) (H':List A2),H'.length=H.length→(∀ t∈o.looksAt all.toArray,get fr' t=get fr t)→(∀ p∈en,∀ r∈p.2.1,H'[r]? =H[r]?)→
    ∀ K':DK,K' en v ef→dstep P all o i id K' fr' H'
theorem pT {o:Oper} {i id:Nat} {K:DK} {fr:Fr} {H:List A2} (hd:dOK o.op) (h:drun P o.op i id K fr H) :
    (∃ en v ef,K en v ef∧lT i id o H en ef∧∀ (fr':Fr) (H':List A2),H'.length=H.length→(∀ t,.tmp t∈o.op.operands.toList→get fr' t=get fr t)→(∀ p∈en,∀ r∈p.2.1,H'[r]? =H[r]?)→
     ∀ K':DK,K' en v ef→drun P o.op i id K' fr' H')∨∀ K':DK,drun P o.op i id K' fr H:=by
  unfold drun at h
  rcases Aaq hd h with⟨v,ef,h1,h2,h3⟩ | h1
  ·refine .inl ⟨ents i id o.op (ev fr),v,ef,h1,⟨fun p hp=>by rw[vG hp],?_⟩,fun fr' H' hlen hf hH K' hk=>?_⟩
   ·cases ef with
    | none=>trivial
    | new j x=>
      obtain⟨g1,rfl⟩:=h2
      exact⟨g1,rfl,_,gS (r:=j) (by rw[if_pos g1];exact List.mem_cons_self ..),by simp[g1],by simp[g1]⟩
    | set r x=>
      obtain⟨g1,g2,g3⟩:=h2
      have:r∈(if Ge o.op=true then id::touch o.op (ev fr)else touch o.op (ev fr)):=by split<;>first | exact List.mem_cons_of_mem _ g2 | exact g2
      exact⟨⟨_,gS this,g1,this⟩,g3⟩
   ·have he:∀ x∈o.op.operands.toList,ev fr' x=ev fr x:=by
      intro x hx
      cases x with
      | tmp t=>exact hf t hx
      | _=>rfl
    have ht:∀ r∈touch o.op (ev fr),H'[r]? =H[r]?:=by
      intro r hr
      have:r∈(if Ge o.op=true then id::touch o.op (ev fr)else touch o.op (ev fr)):=by split<;>first | exact List.mem_cons_of_mem _ hr | exact hr
      exact hH _ (gS this) r this
    have e2:touch o.op (ev fr')=touch o.op (ev fr):=by
      rcases hd with hd | hd
      ·cases hc:Qr o.op with
       | none=>rw[hc]at hd;cases hd
       | some fa=>
         obtain⟨zq,ts,ho, -⟩:=S5 (f:=fa.1) (args:=fa.2) hc
         rw[ho]at he ⊢
         simp only[touch]
         rw[Vd fun x hx=>he x (by simp[Op.operands,Call.operands];exact .inr (by simpa using hx))]
      ·exact(eP (P:=P) (H:=H) (id:=id) (K:=fun _ _=>True) he hd).2
    unfold drun
    rw[show ents i id o.op (ev fr')=ents i id o.op (ev fr) by unfold ents;rw[e2]]
    exact h3 H' (ev fr') hlen he ht _ hk
  ·exact .inr fun K'=>h1 _
theorem lK {all:List Oper} {o:Oper} {i id:Nat} {K:DK} {fr:Fr} {H:List A2} (hd:dOK o.op) (h:dstep P all o i id K fr H) :
    (∃ en v ef,Acy P all o i id K fr H en v ef)∨∀ K':DK,dstep P all o i id K' fr H:=by
  have hops:∀ {t},.tmp t∈o.op.operands.toList→t∈o.looksAt all.toArray:=by
    intro t ht
    unfold Oper.looksAt
    exact List.mem_append_left _ (List.mem_filterMap.2 ⟨_,ht,rfl⟩)
  unfold dstep at h
  cases hg:o.guard with
  | none=>
    simp only[hg]at h
    rcases pT hd h with⟨en,v,ef,h1,h2,h3⟩ | h1
    ·exact .inl ⟨en,v,ef,h1,h2,fun fr' H' hlen hf hH K' hk=>by simp only[dstep,hg];exact h3 fr' H' hlen (fun t ht=>hf t (hops ht)) hH K' hk⟩
    ·exact .inr fun K'=>by simp only[dstep,hg];exact h1 K'
  | some jw=>
    obtain⟨j,want⟩:=jw
    cases ko:(all[j]?).bind (·.dst)with
    | none=>
      simp only[hg,ko]at h
      exact .inl ⟨[],_,_,h,⟨(by simp),trivial⟩,fun fr' H' _ hf hH K' hk=>by simp only[dstep,hg,ko];exact hk⟩
    | some d=>
      simp only[hg,ko]at h
      have lq:d∈o.looksAt all.toArray:=by
        unfold Oper.looksAt
        refine List.mem_append_right _ ?_
        simp[hg,ko]
      have hs:∀ (fr':Fr) (H':List A2) (K':DK),(∀ t∈o.looksAt all.toArray,get fr' t=get fr t)→Ft (get fr d) want (drun P o.op i id K') (dskip K') fr' H'→dstep P all o i id K' fr' H':=by
        intro fr' H' K' hf hh
        simp only[dstep,hg,ko]
        rw[hf d lq];exact hh
      unfold Ft at h
      split at h
      ·rename_i c hc
       by_cases ml:c=want
       ·rcases pT hd (h.1 ml)with ⟨en,v,ef,h1,h2,h3⟩ | h1
        ·exact .inl ⟨en,v,ef,h1,h2,fun fr' H' hlen hf hH K' hk=>hs fr' H' K' hf (by rw[hc];exact⟨fun _=>h3 fr' H' hlen (fun t ht=>hf t (hops ht)) hH K' hk,fun hn=>absurd ml hn⟩)⟩
        ·exact .inr fun K'=>hs fr H K' (fun _ _=>rfl) (by rw[hc];exact⟨fun _=>h1 K',fun hn=>absurd ml hn⟩)
       ·exact .inl ⟨[],_,_,h.2 ml,⟨(by simp),trivial⟩,fun fr' H' _ hf hH K' hk=>hs fr' H' K' hf (by rw[hc];exact⟨fun hy=>absurd hy ml,fun _=>hk⟩)⟩
      ·rename_i vs hc
       exact .inl ⟨[],_,_,h,⟨(by simp),trivial⟩,fun fr' H' _ hf hH K' hk=>hs fr' H' K' hf (by rw[hc];exact hk)⟩
      ·exact h.elim
end
end Go.Ab
namespace Go.Ab
open Go Go.RowKit
section
variable {P:Program}
theorem Gb.congr {W0:World} {A0:Nat→Prop} {ds:List Deferred} {n:Nat} {outs:List (Array Value)} {outer:List Fr} {fr fr':Fr} {H:List A2} {a:Act} {w:World} (hf:∀ t,get fr' t=get fr t)
    (R:Gb W0 A0 ds n outs outer fr H a w):Gb W0 A0 ds n outs outer fr' H a w:=by
  obtain⟨C,h1,h2,h3,h4,h5⟩:=R.ex
  exact⟨C,h1,h2,h3,fun t=>by rw[hf];exact h4 t,h5⟩
theorem aO (fr:Fr) (d:Option Tmp) (v:Ac) (t:Nat):get (put fr d v) t=if d=some t then v else get fr t:=by
  cases d with
  | none=>simp[put]
  | some k=>simp[put,get]
structure Good (W0:World) (A0:Nat→Prop) (ds:List Deferred) (n:Nat) (outs:List (Array Value)) (outer:List Fr) (K:DK) (fr:Fr) (dst:Option Tmp) (H:List A2) (a':Act) (w':World):Prop where
  ex:∃ en v ef,K en v ef∧Gb W0 A0 ds n outs outer (put fr dst v) (ef.app H) a' w'
def Z4 (P:Program) (all:List Oper) (o:Oper) (a:Act) (w:World) (G:Act→World→Prop):Prop:=
  (Region.wanted o (yielded all.toArray a.tmps)=true∧
    ((∃ v' w',(execOp a.eval o).run P w= .ok (.value v') w'∧G (a.put o.dst v') w')∨(∃ w',(execOp a.eval o).run P w= .ok .skip w'∧G (a.put o.dst undef) w')∨
      (∃ f args,(execOp a.eval o).run P w= .ok (.enter f args) w∧Calls P f args w fun e w'=>∃ v',e= .returned v'∧G (a.put o.dst v') w')))∨
  (Region.wanted o (yielded all.toArray a.tmps)=false∧G (a.put o.dst undef) w)
theorem Z4.exists {all:List Oper} {o:Oper} {a:Act} {w:World} {G:Act→World→Prop} (h:Z4 P all o a w G):∃ a' w',G a' w':=by
  rcases h with⟨_,h⟩ | ⟨_,h⟩
  ·rcases h with⟨v,w',_,h⟩ | ⟨w',_,h⟩ | ⟨f,args,_,h⟩
   ·exact⟨_,_,h⟩
   ·exact⟨_,_,h⟩
   ·obtain⟨e,w',fr,⟨v',_,h⟩,_⟩:=h []
    exact⟨_,_,h⟩
  ·exact⟨_,_,h⟩
theorem Z4.wpOp {md:Option Nat} {all:List Oper} {i:Nat} {o:Oper} {a:Act} {w:World} {G:Act→World→Prop} {Q:Exit→Act→World→Prop} {K:Act→World→Prop} (hi:all[i]? =some o) (h:Z4 P all o a w G) (hK:∀ a' w',G a' w'→K a' w') (nd:∀ c,o.op≠.defer c) :
    wpOpIn (fence md) 5 P all.toArray Q i K a w:=by
  unfold Go.wpOpIn
  have de:all.toArray[i]? =some o:=by simpa using hi
  rw[de]
  simp only
  rcases h with⟨hw,h⟩ | ⟨hw,h⟩
  ·rw[if_pos hw]
   unfold Oper.wpIn
   refine⟨fun _ _=>trivial,?_⟩
   rw[Oper.semAt_eq _ _ _ nd]
   rcases h with⟨v,w',h1,h⟩ | ⟨w',h1,h⟩ | ⟨f,args,h1,h⟩
   ·rw[h1];exact hK _ _ h
   ·rw[h1];exact hK _ _ h
   ·rw[h1,Oper.uponIn_enter]
    exact⟨S4,Xh (h.mono fun e w' ⟨v',he,hg⟩=>by subst he;exact hK _ _ hg)⟩
  ·rw[if_neg (by rw[hw];simp)]
   exact⟨fun _ _=>trivial,hK _ _ h⟩
theorem Yh {W0:World} {A0:Nat→Prop} {ds:List Deferred} {n:Nat} {outs:List (Array Value)} {outer:List Fr} {all:List Oper} {o:Oper} {i id:Nat} {K:DK} {fr:Fr} {H:List A2} {a:Act} {w:World}
    (hd:∀ k,o.dst=some k→k<n) (bj:Oz H id) (R:Gb W0 A0 ds n outs outer fr H a w) (h:dstep P all o i id K fr H) :
    Z4 P all o a w (Good W0 A0 ds n outs outer K fr o.dst H):=by
  obtain⟨C,rfl,rfl,I,hF,hO,hn,hdf⟩:=R.ex
  have af:∀ k,o.dst=some k→k<a.tmps.size:=by intro k hk;rw[hn];exact hd k hk
  have srep:∀ (C':Ctx) (w':World) (v:Value) (r:Ac),C'.A0=C.A0→Inv W0 C' w'→Sh C' w' a.tmps fr→Eo C' w' outs outer→Bk C' w' v r→Gb W0 C.A0 ds n outs outer (put fr o.dst r) C'.H (a.put o.dst v) w':=
    fun C' w' v r e I' wy lu hv=>⟨C',rfl,e,I',wy.put hv o.dst af,lu,by rw[gJ,hn],by rw[put_defers,hdf]⟩
  have skip:dskip K fr C.H→Good W0 C.A0 ds n outs outer K fr o.dst C.H (a.put o.dst undef) w:=
    fun h=>⟨[],.tuple [],.none,h,srep C w undef _ rfl I hF hO (T7 C w)⟩
  have run:drun P o.op i id K fr C.H→(∃ v' w',(execOp a.eval o).run P w= .ok (.value v') w'∧Good W0 C.A0 ds n outs outer K fr o.dst C.H (a.put o.dst v') w')∨(∃ w',(execOp a.eval o).run P w= .ok .skip w'∧Good W0 C.A0 ds n outs outer K fr o.dst C.H (a.put o.dst undef) w')∨
   (∃ f args,(execOp a.eval o).run P w= .ok (.enter f args) w∧Calls P f args w fun e w'=>∃ v',e= .returned v'∧Good W0 C.A0 ds n outs outer K fr o.dst C.H (a.put o.dst v') w'):=by
    intro h
    unfold drun dop at h
    split at h
    ·rename_i f args hc
     obtain⟨zq,ts,ho,rfl⟩:=S5 hc
     obtain⟨fid,gs,r,ef,g1,g2,g4,g5⟩:=h
     have kr:Al P (ev fr f) (zq.toList.map (ev fr)) (fr::outer) C.H fun r' H'=>r'=r∧H'=ef.app C.H:=by
       rw[g1]
       rcases g4 with⟨rfl,⟨g3,g4⟩ | ⟨g3,g4⟩ | ⟨g3,g4⟩⟩ | ⟨sz,xs,g3,rfl,rfl,g4⟩ | ⟨r0,o',rfl,_,_,g4⟩
       ·exact Al.snap g2 g3 g4.1 (fun r' hr=>hr ▸ g4.2) fun r' hr=>⟨hr,rfl⟩
       ·rw[g4.2]at g3;exact Al.pure g2 g3 g4.1 fun r' hr=>⟨hr,rfl⟩
       ·exact Al.kD g2 g3 g4 fun r' hr=>⟨hr,rfl⟩
       ·exact Al.rowAt g2 g3 g4 id bj ⟨rfl,rfl⟩
       ·exact g4 _ _ rfl fun _ _=>rfl
     obtain⟨fid',caps,h1,h2,h3⟩:=Or.resolve_right (kr W0 C w (a.tmps::outs) (a.eval f) (zq.toList.map a.eval) I rfl (hO.cons hF) (Qq hF f) (by simp) (fun i v x hv hx=>by
       simp only[List.getElem?_map]at hv hx
       cases hy:zq.toList[i]? with
       | none=>simp[hy]at hv
       | some y=>
         simp only[hy,Option.map_some,Akv]at hv hx
         subst hv hx;exact Qq hF y)) (by
       rintro⟨l,rec,h1,_⟩
       have hfv:=Qq hF f
       rw[g1,h1]at hfv
       cases hfv)
     have bh:(execOp a.eval o).run P w= .ok (.enter fid' ((zq.toList.map a.eval).toArray++caps)) w:=by
       unfold execOp
       rw[ho]
       simp only[resolve,Deferred.ofValue,h1,invoke,Sem.run_bind,Sem.run_pure,Result.andThen_ok]
       have e1:(#[]++Array.map a.eval zq++caps:Array Value)=(zq.toList.map a.eval).toArray++caps:=by
         apply Array.ext';simp
       rw[e1,h2]
     refine .inr (.inr ⟨_,_,bh,h3.mono fun e w' ⟨v,r',C',he,⟨hr,hH⟩,hA,hv,I',lu⟩=>⟨v,he,?_⟩⟩)
     subst hr
     exact⟨_,r',ef,g5,hH ▸ srep C' w' v r' hA I' lu.head lu.tail hv⟩
    ·obtain⟨r,w',C',ef,mh,hk,hH,I',m⟩:=(eO (P:=P) I bj (Qq hF) h).ex
     rcases mh with⟨v,bh,hv⟩ | ⟨bh,rfl⟩
     ·exact .inl ⟨v,w',bh,⟨_,r,ef,hk,hH ▸ srep C' w' v r m.A0 I' (hF.mono m) (hO.mono m) hv⟩⟩
     ·exact .inr (.inl ⟨w',bh,⟨_,_,ef,hk,hH ▸ srep C' w' undef _ m.A0 I' (hF.mono m) (hO.mono m) (T7 C' w')⟩⟩)
  unfold dstep at h
  unfold Z4
  cases hg:o.guard with
  | none=>
    simp only[hg]at h
    exact .inl ⟨by simp[Region.wanted,hg],run h⟩
  | some jw=>
    obtain⟨j,want⟩:=jw
    have hy:∀ d,(all[j]?).bind (·.dst)=some d→yielded all.toArray a.tmps j=match a.tmps[d]? with | some (.bool b)=>some b | _=>none:=by
      intro d hd
      unfold yielded
      simp only[List.getElem?_toArray,hd,Aku]
      rfl
    cases ko:(all[j]?).bind (·.dst)with
    | some d=>
      simp only[hg,ko]at h
      have hv:=hF d
      unfold Ft at h
      split at h
      ·rename_i c hc
       rw[hc]at hv
       have ln:a.tmps.getD d undef= .bool c:=by cases ka:a.tmps.getD d undef<;>rw[ka]at hv<;>cases hv;rfl
       have px:a.tmps[d]? =some (.bool c):=by
         rw[Array.getD_eq_getD_getElem?]at ln
         cases ht:a.tmps[d]? with
         | none=>rw[ht]at ln;cases ln
         | some u=>rw[ht]at ln;simp at ln;rw[ln]
       have hw:Region.wanted o (yielded all.toArray a.tmps)=decide (c=want):=by
         simp only[Region.wanted,hg,hy d ko,px]
         cases c<;>cases want<;>rfl
       by_cases ml:c=want
       ·exact .inl ⟨by rw[hw];simpa using ml,run (h.1 ml)⟩
       ·exact .inr ⟨by rw[hw];simpa using ml,skip (h.2 ml)⟩
      ·rename_i vs hc
       rw[hc]at hv
       have hw:Region.wanted o (yielded all.toArray a.tmps)=false:=by
         simp only[Region.wanted,hg,hy d ko]
         cases ht:a.tmps[d]? with
         | none=>rfl
         | some u=>
           have:a.tmps.getD d undef=u:=by rw[Array.getD_eq_getD_getElem?,ht];rfl
           rw[this]at hv
           cases hv;rfl
       exact .inr ⟨hw,skip h⟩
      ·exact h.elim
    | none=>
      simp only[hg,ko]at h
      have hw:Region.wanted o (yielded all.toArray a.tmps)=false:=by
        simp only[Region.wanted,hg]
        unfold yielded
        simp[ko]
      exact .inr ⟨hw,skip h⟩
theorem uH {i id:Nat} {o:Oper} {H:List A2} {en:Log} {ef:Eff} (hl:lT i id o H en ef) (bj:Ge o.op=true→H[id]? =some .resv):(ef.app H).length=H.length:=by
  cases ef with
  | none=>rfl
  | new j x=>
    obtain⟨_,h1,h2,_⟩:=hl
    subst h2
    have:=(Ak1.1 (bj h1)).1
    simp only[Eff.app,Ha]
    rw[if_neg (by omega),List.length_set]
  | set r x=>simp[Eff.app]
theorem mX {i id:Nat} {o:Oper} {H:List A2} {en:Log} {ef:Eff} (hl:lT i id o H en ef) (bj:Ge o.op=true→H[id]? =some .resv) :
    (ef= .none)∨∃ l x,(∃ p∈en,p.2.2=true∧l∈p.2.1)∧(∀ H2:List A2,H2.length=H.length→ef.app H2=H2.set l x)∧((Ge o.op=true∧l=id)∨∃ y,H[l]? =some y∧y≠.resv):=by
  cases ef with
  | none=>exact .inl rfl
  | new j x=>
    obtain⟨_,h1,rfl,h3⟩:=hl
    have:=(Ak1.1 (bj h1)).1
    refine .inr ⟨j,x,h3,fun H2 h2=>?_,.inl ⟨h1,rfl⟩⟩
    simp only[Eff.app,Ha]
    rw[if_neg (by omega)]
  | set r x=>
    obtain⟨_,h1,h2⟩:=hl
    exact .inr ⟨r,x,h1,fun H2 _=>rfl,.inr h2⟩
def Acx (s t:Tag):Prop:=Ge s.o.op=true→Ge t.o.op=true→s.id≠t.id
structure Ids (L:List Tag) (H:List A2):Prop where
  new:∀ t∈L,Ge t.o.op=true→H[t.id]? =some .resv
  old:∀ t∈L,Ge t.o.op=false→t.id=H.length
  dst:L.Pairwise Acx
theorem Ids.free {L:List Tag} {H:List A2} (h:Ids L H) {t:Tag} (ht:t∈L):Oz H t.id:=by
  cases hn:Ge t.o.op with
  | true=>exact .inr (h.new t ht hn)
  | false=>exact .inl (h.old t ht hn)
theorem Ids.step {L1 L2:List Tag} {t:Tag} {H:List A2} (h:Ids (L1++t::L2) H) {en:Log} {ef:Eff} (hl:lT t.i t.id t.o H en ef):Ids (L1++L2) (ef.app H):=by
  have htm:t∈L1++t::L2:=by simp
  have hlen:=uH hl (h.new t htm)
  have hD:∀ s∈L1++L2,Acx s t:=by
    have hp:=h.dst
    rw[List.pairwise_append]at hp
    obtain⟨_,hp2,hp3⟩:=hp
    intro s hs
    rcases Akz.1 hs with hs | hs
    ·exact hp3 s hs t (List.mem_cons_self ..)
    ·intro a b e
     exact(List.pairwise_cons.1 hp2).1 s hs b a e.symm
  have gq:∀ s∈L1++L2,s∈L1++t::L2:=by
    intro s hs
    rcases Akz.1 hs with hs | hs
    ·exact List.mem_append_left _ hs
    ·exact List.mem_append_right _ (List.mem_cons_of_mem _ hs)
  refine⟨fun s hs hn=>?_,fun s hs hn=>by rw[hlen];exact h.old s (gq s hs) hn,?_⟩
  ·have hr:=h.new s (gq s hs) hn
   rcases mX hl (h.new t htm)with rfl | ⟨l,x,_,h2,h3⟩
   ·exact hr
   ·rw[h2 H rfl]
    have bc:l≠s.id:=by
      rcases h3 with⟨g1,rfl⟩ | ⟨y,g1,g2⟩
      ·exact fun e=>hD s hs hn g1 e.symm
      ·rintro rfl
       rw[hr,Akv]at g1
       exact g2 g1.symm
    rw[List.getElem?_set_ne bc];exact hr
  ·have hp:=h.dst
   rw[List.pairwise_append]at hp ⊢
   exact⟨hp.1,(List.pairwise_cons.1 hp.2.1).2,fun a ha b hb=>hp.2.2 a ha b (List.mem_cons_of_mem _ hb)⟩
variable {all:List Oper} {K:Log→Fr→List A2→Prop}
theorem lM (hK:∀ log log' fr fr' H,(∀ t,get fr' t=get fr t)→(∀ p,p∈log↔p∈log')→K log fr H→K log' fr' H):∀ (L:List Tag) (log log':Log) (fr fr':Fr) (H:List A2),
    (∀ t∈L,dOK t.o.op)→(∀ t,get fr' t=get fr t)→(∀ p,p∈log↔p∈log')→dlt P all K L log fr H→dlt P all K L log' fr' H
  | [],log,log',fr,fr',H,_,hf,hl,h=>hK _ _ _ _ _ hf hl h
  | t::L,log,log',fr,fr',H,hd,hf,hl,h=>by
    have ih:=lM hK L
    unfold dlt at h ⊢
    have key:∀ K1 K2:DK,(∀ en v ef,K1 en v ef→K2 en v ef)→dstep P all t.o t.i t.id K1 fr H→dstep P all t.o t.i t.id K2 fr' H:=by
      intro K1 K2 hk hs
      have e1:dstep P all t.o t.i t.id K2 fr' H=dstep P all t.o t.i t.id K2 fr H:=by
        have hg:get fr'=get fr:=funext hf
        have he:ev fr'=ev fr:=by funext x;cases x<;>simp[ev,hf]
        simp only[dstep,drun,dskip,Ft,hg,he]
      rw[e1]
      rcases lK (hd t (List.mem_cons_self ..)) hs with⟨en,v,ef,h1,h2,h3⟩ | h1
      ·exact h3 fr H rfl (fun _ _=>rfl) (fun _ _ _ _=>rfl) K2 (hk _ _ _ h1)
      ·exact h1 K2
    refine key _ _ (fun en v ef hk=>?_) h
    refine ih _ _ _ _ _ (fun t ht=>hd t (List.mem_cons_of_mem _ ht)) (fun x=>?_) (fun p=>?_) hk
    ·rw[aO,aO,hf]
    ·rw[Akz,Akz,hl]
variable {W0:World} {A0:Nat→Prop} {ds:List Deferred} {n:Nat} {outs:List (Array Value)} {outer:List Fr}
theorem Yi {t:Tag} {L1 L2:List Tag} {K1:DK} {fr:Fr} {H:List A2} {a:Act} {w:World} (hd:dOK t.o.op) (hn:∀ k,t.o.dst=some k→k<n) (hI:Ids (L1++t::L2) H) (R:Gb W0 A0 ds n outs outer fr H a w)
    (h:dstep P all t.o t.i t.id K1 fr H):∃ en v ef,Acy P all t.o t.i t.id K1 fr H en v ef∧∃ a' w',Gb W0 A0 ds n outs outer (put fr t.o.dst v) (ef.app H) a' w':=by
  have bj:=hI.free (t:=t) (by simp)
  rcases lK hd h with⟨en,v,ef,h1⟩ | h1
  ·have h2:=h1.2.2 fr H rfl (fun _ _=>rfl) (fun _ _ _ _=>rfl) (fun en' v' ef'=>en'=en∧v'=v∧ef'=ef) ⟨rfl,rfl,rfl⟩
   obtain⟨a',w',⟨⟨_,_,_,⟨rfl,rfl,rfl⟩,R'⟩⟩⟩:=(Yh hn bj R h2).exists
   exact⟨_,_,_,h1,a',w',R'⟩
  ·obtain⟨a',w',⟨⟨_,_,_,hf,_⟩⟩⟩:=(Yh hn bj R (h1 fun _ _ _=>False)).exists
   exact hf.elim
theorem uB:∀ (L:List Tag) (log:Log) (fr:Fr) (H:List A2) (a:Act) (w:World),(∀ t∈L,dOK t.o.op)→(∀ t∈L,∀ k,t.o.dst=some k→k<n)→Ids L H→Gb W0 A0 ds n outs outer fr H a w→
    dlt P all K L log fr H→∃ log' fr' H',K log' fr' H'∧∀ p∈log,p∈log'
  | [],log,fr,H,_,_,_,_,_,_,h=>⟨log,fr,H,h,fun _ h=>h⟩
  | t::L,log,fr,H,a,w,hd,hn,hI,R,h=>by
    unfold dlt at h
    obtain⟨en,v,ef,⟨h1,h2,_⟩,a',w',R'⟩:=Yi (L1:=[]) (hd t (List.mem_cons_self ..)) (hn t (List.mem_cons_self ..)) hI R h
    obtain⟨log',fr',H',g1,g2⟩:=uB L _ _ _ a' w' (fun t ht=>hd t (List.mem_cons_of_mem _ ht)) (fun t ht=>hn t (List.mem_cons_of_mem _ ht)) (hI.step (L1:=[]) h2) R' h1
    exact⟨log',fr',H',g1,fun p hp=>g2 p (List.mem_append_right _ hp)⟩
structure Abg (A:List Nat) (all:List Oper) (s t:Tag):Prop where
  ap:s.o.apart all.toArray t.o=true
  b1:bit A s.i t.i=false
  b2:bit A t.i s.i=false
  ne:s.i≠t.i
theorem rT {A:List Nat} {log:Log} (h:R4 A log=true) {p q:Nat×List Nat×Bool} (hp:p∈log) (hq:q∈log) (bc:p.1≠q.1) (h1:bit A p.1 q.1=false) (h2:bit A q.1 p.1=false) (hw:(p.2.2||q.2.2)=true)
    {r:Nat} (hr:r∈p.2.1):r ∉ q.2.1:=by
  unfold R4 at h
  have:=List.all_eq_true.1 (List.all_eq_true.1 h p hp) q hq
  simp only[h1,h2,hw,Bool.or_false,Bool.not_true,Bool.or_eq_true,beq_iff_eq,bc,false_or]at this
  unfold disj at this
  have:=List.all_eq_true.1 this r hr
  simpa using this
variable {A:List Nat}
theorem hoist (hK:∀ log log' fr fr' H,(∀ t,get fr' t=get fr t)→(∀ p,p∈log↔p∈log')→K log fr H→K log' fr' H) (hOK:∀ log fr H,K log fr H→R4 A log=true):∀ (L1:List Tag) (t:Tag) (L2:List Tag) (log:Log) (fr:Fr) (H:List A2) (a:Act) (w:World),
    (∀ s∈L1++t::L2,dOK s.o.op)→(∀ s∈L1++t::L2,∀ k,s.o.dst=some k→k<n)→Ids (L1++t::L2) H→Gb W0 A0 ds n outs outer fr H a w→(∀ s∈L1,Abg A all s t)→
    dlt P all K (L1++t::L2) log fr H→dstep P all t.o t.i t.id (dafter (dlt P all K (L1++L2)) log fr t.o.dst H) fr H
  | [],t,L2,log,fr,H,a,w,_,_,_,_,_,h=>h
  | s::L1,t,L2,log,fr,H,a,w,hd,hn,hI,R,hA,h=>by
    rw[List.cons_append]at h
    unfold dlt at h
    obtain⟨en_s,v_s,ef_s,⟨g1,g2,g3⟩,a',w',R'⟩:=Yi (L1:=[]) (hd s (by simp)) (hn s (by simp)) hI R h
    have I':Ids (L1++t::L2) (ef_s.app H):=hI.step (L1:=[]) g2
    have tu:∀ s∈L1++t::L2,dOK s.o.op:=fun x hx=>hd x (by rw[List.cons_append];exact List.mem_cons_of_mem _ hx)
    have mw:∀ s∈L1++t::L2,∀ k,s.o.dst=some k→k<n:=fun x hx=>hn x (by rw[List.cons_append];exact List.mem_cons_of_mem _ hx)
    have ht:=hoist hK hOK L1 t L2 _ _ _ a' w' tu mw I' R' (fun x hx=>hA x (List.mem_cons_of_mem _ hx)) g1
    obtain⟨en_t,v_t,ef_t,⟨k1,k2,k3⟩,a'',w'',R''⟩:=Yi (L1:=L1) (L2:=L2) (tu t (by simp)) (mw t (by simp)) I' R' ht
    have jk:∀ x∈L1++L2,x∈L1++t::L2:=by
      intro x hx
      rcases Akz.1 hx with hx | hx
      ·exact List.mem_append_left _ hx
      ·exact List.mem_append_right _ (List.mem_cons_of_mem _ hx)
    obtain⟨log',fr',H',q1,q2⟩:=uB (L1++L2) _ _ _ a'' w'' (fun x hx=>tu x (jk x hx)) (fun x hx=>mw x (jk x hx)) (I'.step k2) R'' k1
    have km:=hOK _ _ _ q1
    have iw:=hA s (List.mem_cons_self ..)
    obtain⟨ap1,ap2,ap3⟩:=Oper.apart_spec iw.ap
    have wh:∀ p∈en_s,∀ q∈en_t,(p.2.2||q.2.2)=true→∀ r∈p.2.1,r ∉ q.2.1:=by
      intro p hp q hq hw r hr
      have e1:=g2.1 p hp
      have e2:=k2.1 q hq
      exact rT km (q2 p (by simp[hp])) (q2 q (by simp[hq])) (by rw[e1,e2];exact iw.ne) (by rw[e1,e2];exact iw.b1) (by rw[e1,e2];exact iw.b2) hw hr
    have sS:=mX g2 (hI.new s (by simp))
    have sT:=mX k2 (I'.new t (by simp))
    have lenS:=uH g2 (hI.new s (by simp))
    have lenT:(ef_t.app H).length=H.length:=by
      rcases sT with rfl | ⟨lt,xt,_,xh,_⟩
      ·rfl
      ·rw[xh H lenS.symm,List.length_set]
    have heq:ef_s.app (ef_t.app H)=ef_t.app (ef_s.app H):=by
      rcases sS with rfl | ⟨ls,xs,⟨p,hp,xi,oo⟩,mg,_⟩
      ·rfl
      ·rcases sT with rfl | ⟨lt,xt,⟨q,hq,hqw,hql⟩,xh,_⟩
       ·rfl
       ·rw[xh H lenS.symm,mg H rfl,mg (H.set lt xt) (by simp),xh (H.set ls xs) (by rw[lenS];simp)]
        have bc:ls≠lt:=fun e=>wh p hp q hq (by rw[xi];rfl) ls oo (e ▸ hql)
        exact List.set_comm _ _ (fun e=>bc e.symm)
    refine k3 fr H lenS.symm (fun x hx=>?_) (fun p hp r hr=>?_) _ ?_
    ·rw[aO,if_neg]
     exact fun e=>ap1 x e hx
    ·rcases sS with rfl | ⟨ls,xs,⟨p',rf,xi,oo⟩,mg,_⟩
     ·rfl
     ·rw[mg H rfl,List.getElem?_set_ne]
      exact fun e=>wh p' rf p hp (by rw[xi];rfl) ls oo (e ▸ hr)
    ·show dlt P all K (s::(L1++L2)) (en_t++log) (put fr t.o.dst v_t) (ef_t.app H)
     unfold dlt
     refine g3 _ _ lenT (fun x hx=>?_) (fun p hp r hr=>?_) _ ?_
     ·rw[aO,if_neg]
      exact fun e=>ap3 x e hx
     ·rcases sT with rfl | ⟨lt,xt,⟨q,hq,hqw,hql⟩,xh,_⟩
      ·rfl
      ·rw[xh H lenS.symm,List.getElem?_set_ne]
       exact fun e=>wh p hp q hq (by rw[hqw,Bool.or_true]) r hr (e ▸ hql)
     ·show dlt P all K (L1++L2) (en_s++(en_t++log)) (put (put fr t.o.dst v_t) s.o.dst v_s) (ef_s.app (ef_t.app H))
      rw[heq]
      refine lM hK _ _ _ _ _ _ (fun x hx=>tu x (jk x hx)) (fun x=>?_) (fun p=>?_) k1
      ·simp only[aO]
       by_cases e1:s.o.dst=some x
       ·rw[if_pos e1,if_neg (fun e=>ap2 x e1 e),if_pos e1]
       ·rw[if_neg e1,if_neg e1]
      ·simp only[Akz]
       constructor
       ·rintro(h | h | h)
        ·exact .inr (.inl h)
        ·exact .inl h
        ·exact .inr (.inr h)
       ·rintro(h | h | h)
        ·exact .inr (.inl h)
        ·exact .inl h
        ·exact .inr (.inr h)
variable {P:Program} {md:Option Nat}
inductive Anc (ops:List Oper):Nat→Nat→Prop
  | edge {i:Nat} {o:Oper} {e:Edge} (ho:ops[i]? =some o) (he:e∈o.after) (hb:Region.binds .any e=true):Anc ops i e.on
  | trans {i j:Nat} {o:Oper} {e:Edge} (ho:ops[i]? =some o) (he:e∈o.after) (hb:Region.binds .any e=true) (h:Anc ops e.on j):Anc ops i j
theorem iO (acc:List Nat) (j:Nat):∀ (l:List Edge) (m:Nat),(l.foldl (fun m e=>if Region.binds .any e then m|||(2 ^ e.on|||acc.getD e.on 0)else m) m).testBit j=true→
    m.testBit j=true∨∃ e∈l,Region.binds .any e=true∧(e.on=j∨(acc.getD e.on 0).testBit j=true)
  | [],m,h=>.inl h
  | e::l,m,h=>by
    rw[List.foldl_cons]at h
    rcases iO acc j l _ h with h | ⟨e',h1,h2⟩
    ·split at h
     ·rename_i hb
      rw[Nat.testBit_or,Nat.testBit_or,Bool.or_eq_true,Bool.or_eq_true]at h
      rcases h with h | h | h
      ·exact .inl h
      ·rw[Nat.testBit_two_pow]at h
       exact .inr ⟨e,List.mem_cons_self ..,hb,.inl (by simpa using h)⟩
      ·exact .inr ⟨e,List.mem_cons_self ..,hb,.inr h⟩
     ·exact .inl h
    ·exact .inr ⟨e',List.mem_cons_of_mem _ h1,h2⟩
theorem gV (ops:List Oper):∀ (l:List Oper) (acc:List Nat),(∀ k,l[k]? =ops[acc.length+k]?)→(∀ i j,(acc.getD i 0).testBit j=true→Anc ops i j)→
    ∀ i j,((masks l acc).getD i 0).testBit j=true→Anc ops i j
  | [],acc,_,sr=>sr
  | o::l,acc,hl,sr=>by
    refine gV ops l (acc++[rZ o acc]) (fun k=>?_) (fun i j h=>?_)
    ·have:=hl (k+1)
     rw[List.getElem?_cons_succ]at this
     rw[this,Akw,List.length_singleton]
     congr 1;omega
    ·rw[List.getD_eq_getElem?_getD]at h
     by_cases hi:i<acc.length
     ·rw[List.getElem?_append_left hi,← List.getD_eq_getElem?_getD]at h
      exact sr i j h
     ·by_cases he:i=acc.length
      ·subst he
       rw[List.getElem?_append_right (Nat.le_refl _),Nat.sub_self]at h
       have ho:ops[acc.length]? =some o:=by have:=hl 0;simpa using this.symm
       simp only[List.getElem?_cons_zero,Option.getD_some]at h
       unfold rZ at h
       rcases iO acc j _ _ h with h | ⟨e,h1,h2,h3⟩
       ·simp at h
       ·have ou:e∈o.after:=by simpa using h1
        rcases h3 with rfl | h3
        ·exact .edge ho ou h2
        ·exact .trans ho ou h2 (sr _ _ h3)
      ·rw[List.getElem?_eq_none (by simp;omega)]at h
       simp at h
theorem Vk:∀ (l:List Oper) (k:Nat),Yg l k=true→∀ i o,l[i]? =some o→∀ e∈o.after,Region.binds .any e=true→e.on<k+i
  | [],_,_,i,o,h,_,_,_=>by simp at h
  | o::l,k,hk,i,o',h,e,he,hb=>by
    simp only[Yg,Bool.and_eq_true]at hk
    match i,h with
    | 0,h=>
      simp only[List.getElem?_cons_zero,Akv]at h
      subst h
      have:=List.all_eq_true.1 hk.1 e (by simpa using he)
      simpa[hb,Nat.blt_eq]using this
    | i+1,h=>
      have:=Vk l (k+1) hk.2 i o' (by simpa using h) e he hb
      omega
theorem gL (A:List Nat) (arr:Array Oper):∀ (l:List Oper) (prev:List (Nat×Oper)) (k:Nat),aH A arr prev l k=true→
    ∀ i o,l[i]? =some o→(∀ p∈prev,bit A (k+i) p.1=true∨p.2.apart arr o=true)∧∀ j o',j<i→l[j]? =some o'→bit A (k+i) (k+j)=true∨o'.apart arr o=true
  | [],_,_,_,i,o,h=>by simp at h
  | o::l,prev,k,hk,i,o',h=>by
    simp only[aH,Bool.and_eq_true]at hk
    match i,h with
    | 0,h=>
      simp only[List.getElem?_cons_zero,Akv]at h
      subst h
      refine⟨fun p hp=>?_,fun j _ hj=>by omega⟩
      have:=List.all_eq_true.1 hk.1 p hp
      simpa using this
    | i+1,h=>
      have ih:=gL A arr l ((k,o)::prev) (k+1) hk.2 i o' (by simpa using h)
      rw[show k+(i+1)=k+1+i by omega]
      refine⟨fun p hp=>ih.1 p (List.mem_cons_of_mem _ hp),fun j o2 hj h2=>?_⟩
      match j,h2 with
      | 0,h2=>
        simp only[List.getElem?_cons_zero,Akv]at h2
        subst h2
        exact ih.1 (k,o) (List.mem_cons_self ..)
      | j+1,h2=>
        have:=ih.2 j o2 (by omega) (by simpa using h2)
        rwa [show k+(j+1)=k+1+j by omega]
theorem Ab3 {ops:List Oper} (he:Yg ops 0=true):∀ {i j:Nat},Anc ops i j→j<i:=by
  intro i j h
  induction h with
  | edge ho hm hb=>have:=Vk ops 0 he _ _ ho _ hm hb;omega
  | trans ho hm hb _ ih=>have:=Vk ops 0 he _ _ ho _ hm hb;omega
theorem sL {ops:List Oper} {L:Nat→Prop} (hc:∀ k o,ops[k]? =some o→L k→∀ e∈o.after,Region.binds .any e=true→L e.on):∀ {i j:Nat},Anc ops i j→(∀ o,ops[i]? =some o→∀ e∈o.after,Region.binds .any e=true→L e.on)→L j:=by
  intro i j h
  induction h with
  | edge ho hm hb=>exact fun hi=>hi _ ho _ hm hb
  | trans ho hm hb _ ih=>exact fun hi=>ih fun o' fc=>hc _ o' fc (hi _ ho _ hm hb)
variable {W0:World} {A0:Nat→Prop} {ds:List Deferred} {n:Nat} {outs:List (Array Value)} {outer:List Fr} {ops:List Oper} {K:Log→Fr→List A2→Prop} {Q:Exit→Act→World→Prop}
theorem wJ (hK:∀ log log' fr fr' H,(∀ t,get fr' t=get fr t)→(∀ p,p∈log↔p∈log')→K log fr H→K log' fr' H) (hOK:∀ log fr H,K log fr H→R4 (masks ops []) log=true)
    (hQ:∀ log fr H a w,K log fr H→Gb W0 A0 ds n outs outer fr H a w→Q .normal a w) (hd:∀ (i:Nat) o,ops[i]? =some o→dOK o.op) (hn:∀ (i:Nat) o,ops[i]? =some o→∀ k,o.dst=some k→k<n)
    (he:Yg ops 0=true) (hp:aH (masks ops []) ops.toArray [] ops 0=true):∀ (fuel:Nat) (L:List Tag) (listed:Array Bool) (log:Log) (fr:Fr) (H:List A2) (a:Act) (w:World),
    L.length=fuel→listed.size=ops.length→(∀ t∈L,ops[t.i]? =some t.o∧listed.getD t.i true=false)→(∀ i,i<ops.length→listed.getD i true=false→∃ t∈L,t.i=i)→L.Pairwise (fun s t=>s.i<t.i)→
    (∀ k o,ops[k]? =some o→listed.getD k false=true→∀ e∈o.after,Region.binds .any e=true→listed.getD e.on false=true)→Ids L H→Gb W0 A0 ds n outs outer fr H a w→dlt P ops K L log fr H→
    wpAnyIn (fence md) 5 P .any ops.toArray Q fuel listed a w:=by
  have hlst:∀ {listed:Array Bool} {i:Nat},listed.size=ops.length→i<ops.length→listed.getD i true=listed.getD i false:=by
    intro listed i h1 h2
    simp[Array.getD,h1,h2]
  have anc0:∀ i j,bit (masks ops []) i j=true→Anc ops i j:=gV ops ops [] (fun k=>by simp) (fun i j h=>by simp at h)
  intro fuel
  induction fuel with
  | zero=>
    intro L listed log fr H a w hl hs hL hc _ _ _ R h
    have:L=[]:=List.length_eq_zero_iff.1 hl
    subst this
    refine wpAnyIn_done ?_ (hQ _ _ _ _ _ h R) 0
    rw[List.eq_nil_iff_forall_not_mem]
    intro j hj
    obtain⟨h1,o,ho,_⟩:=mem_ready.1 hj
    have af:j<ops.length:=by have:=(Array.getElem?_eq_some_iff.1 ho).1;simpa using this
    obtain⟨t,ht,_⟩:=hc j af h1
    cases ht
  | succ fuel ih=>
    intro L listed log fr H a w hl hs hL hc gx dx hI R h
    refine⟨fun hr=>?_,fun i hi=>?_⟩
    ·exfalso
     match L,hl,hL,hc,gx with
     | t::L,_,hL,hc,gx=>
       obtain⟨h1,h2⟩:=hL t (List.mem_cons_self ..)
       have af:t.i<ops.length:=(Ak1.1 h1).1
       have:t.i∈Region.ready .any ops.toArray listed:=by
         refine mem_ready.2 ⟨h2,t.o,by simpa using h1,fun e hm hb=>?_⟩
         have hon:=Vk ops 0 he _ _ h1 e hm hb
         cases hf:listed.getD e.on false with
         | true=>rfl
         | false=>
           obtain⟨s,gb,mg⟩:=hc e.on (by omega) (by rw[hlst hs (by omega)];exact hf)
           rcases List.mem_cons.1 gb with rfl | gb
           ·omega
           ·have:=(List.pairwise_cons.1 gx).1 s gb;omega
       rw[hr]at this
       cases this
    ·obtain⟨h1,o,ho,h3⟩:=mem_ready.1 hi
     have fc:ops[i]? =some o:=by simpa using ho
     have af:i<ops.length:=(Ak1.1 fc).1
     obtain⟨t,ht,rfl⟩:=hc i af h1
     obtain⟨L1,L2,rfl⟩:=List.append_of_mem ht
     have hto:t.o=o:=by have:=(hL t ht).1;rw[fc,Akv]at this;exact this.symm
     subst hto
     have hA:∀ s∈L1,Abg (masks ops []) ops s t:=by
       intro s gb
       have hlts:s.i<t.i:=(List.pairwise_append.1 gx).2.2 s gb t (List.mem_cons_self ..)
       obtain⟨g1,g2⟩:=hL s (List.mem_append_left _ gb)
       have b2:bit (masks ops []) t.i s.i=false:=by
         cases hb:bit (masks ops []) t.i s.i with
         | false=>rfl
         | true=>
           have:=sL (L:=fun k=>listed.getD k false=true) dx (anc0 _ _ hb) (fun o2 ho2=>by rw[fc,Akv]at ho2;subst ho2;exact h3)
           rw[hlst hs (by omega)]at g2
           rw[g2]at this;cases this
       have b1:bit (masks ops []) s.i t.i=false:=by
         cases hb:bit (masks ops []) s.i t.i with
         | false=>rfl
         | true=>have:=Ab3 he (anc0 _ _ hb);omega
       refine⟨?_,b1,b2,by omega⟩
       have:=(gL _ _ ops [] 0 hp t.i t.o fc).2 s.i s.o hlts g1
       rw[Nat.zero_add,Nat.zero_add,b2]at this
       simpa using this
     have tu:∀ s∈L1++t::L2,dOK s.o.op:=fun s gb=>hd _ _ (hL s gb).1
     have mw:∀ s∈L1++t::L2,∀ k,s.o.dst=some k→k<n:=fun s gb=>hn _ _ (hL s gb).1
     have iw:=hoist hK hOK L1 t L2 log fr H a w tu mw hI R hA h
     have bh:=Yh (mw t (by simp)) (hI.free (by simp)) R iw
     have hst2:dstep P ops t.o t.i t.id (fun en v ef=>lT t.i t.id t.o H en ef∧dafter (dlt P ops K (L1++L2)) log fr t.o.dst H en v ef) fr H:=by
       obtain⟨en,v,ef,⟨k1,k2,k3⟩,_⟩:=Yi (tu t (by simp)) (mw t (by simp)) hI R iw
       exact k3 fr H rfl (fun _ _=>rfl) (fun _ _ _ _=>rfl) _ ⟨k2,k1⟩
     have nd:∀ c,t.o.op≠.defer c:=fun c hc=>by
       have hdo:=tu t (by simp)
       rw[hc]at hdo
       rcases hdo with h | h<;>simp[Qr,drawable]at h
     refine Z4.wpOp fc (Yh (mw t (by simp)) (hI.free (by simp)) R hst2) (fun a' w' hg=>?_) nd
     obtain⟨en,v,ef,⟨k2,k1⟩,R'⟩:=hg.ex
     have bc:∀ s∈L1++L2,s.i≠t.i:=by
       intro s gb
       have hq:=List.pairwise_append.1 gx
       rcases Akz.1 gb with gb | gb
       ·have:=hq.2.2 s gb t (List.mem_cons_self ..);omega
       ·have:=(List.pairwise_cons.1 hq.2.1).1 s gb;omega
     have jk:∀ x∈L1++L2,x∈L1++t::L2:=by
       intro x hx
       rcases Akz.1 hx with hx | hx
       ·exact List.mem_append_left _ hx
       ·exact List.mem_append_right _ (List.mem_cons_of_mem _ hx)
     refine ih (L1++L2) _ _ _ _ a' w' (by simp at hl ⊢;omega) (by simpa using hs) (fun s gb=>?_) (fun j hj hu=>?_) ?_ (fun k o2 hk dp e hm hb=>?_) (hI.step k2) R' k1
     ·refine⟨(hL s (jk s gb)).1,?_⟩
      rw[getD_set_ne _ (fun e=>bc s gb e.symm)]
      exact(hL s (jk s gb)).2
     ·by_cases e:j=t.i
      ·subst e
       simp[Array.getD,hs,af]at hu
      ·rw[getD_set_ne _ (fun e'=>e e'.symm)]at hu
       obtain⟨s,gb,mg⟩:=hc j hj hu
       refine⟨s,?_,mg⟩
       rcases Akz.1 gb with gb | gb
       ·exact List.mem_append_left _ gb
       ·rcases List.mem_cons.1 gb with rfl | gb
        ·exact absurd mg.symm e
        ·exact List.mem_append_right _ gb
     ·have hq:=List.pairwise_append.1 gx
      rw[List.pairwise_append]
      exact⟨hq.1,(List.pairwise_cons.1 hq.2.1).2,fun a ha b hb=>hq.2.2 a ha b (List.mem_cons_of_mem _ hb)⟩
     ·by_cases e1:k=t.i
      ·subst e1
       rw[fc,Akv]at hk
       subst hk
       exact getD_set_true (h3 e hm hb)
      ·rw[getD_set_ne _ (fun e'=>e1 e'.symm)]at dp
       exact getD_set_true (dx k o2 hk dp e hm hb)
theorem oG {A:List Nat} {log log':Log} (h:∀ p,p∈log↔p∈log') (hk:R4 A log=true):R4 A log'=true:=by
  unfold R4 at *
  exact List.all_eq_true.2 fun p hp=>List.all_eq_true.2 fun q hq=>List.all_eq_true.1 (List.all_eq_true.1 hk p ((h p).2 hp)) q ((h q).2 hq)
theorem pW (all:List Oper) (top:Nat) (K:Log→Fr→List A2→Prop):∀ (l:List Oper) (i id:Nat),dlist P all top K l i id=dlt P all K (tags top l i id)
  | [],_,_=>by funext log fr H;rfl
  | o::l,i,id=>by
    funext log fr H
    rw[dlist,pW all top K l,tags,dlt]
theorem nC (top:Nat):∀ (l:List Oper) (i id:Nat),(tags top l i id).length=l.length
  | [],_,_=>rfl
  | o::l,i,id=>by rw[tags,List.length_cons,nC top l,List.length_cons]
theorem fU (top:Nat):∀ (l:List Oper) (i id:Nat) (t:Tag),t∈tags top l i id→∃ k,t.i=i+k∧l[k]? =some t.o
  | [],_,_,t,h=>by cases h
  | o::l,i,id,t,h=>by
    rw[tags]at h
    rcases List.mem_cons.1 h with rfl | h
    ·exact⟨0,rfl,rfl⟩
    ·obtain⟨k,h1,h2⟩:=fU top l _ _ t h
     exact⟨k+1,by omega,by simpa using h2⟩
theorem nD (top:Nat):∀ (l:List Oper) (i id k:Nat),k<l.length→∃ t∈tags top l i id,t.i=i+k
  | [],_,_,k,h=>by simp at h
  | o::l,i,id,0,_=>⟨_,List.mem_cons_self ..,rfl⟩
  | o::l,i,id,k+1,h=>by
    obtain⟨t,h1,h2⟩:=nD top l (i+1) (if Ge o.op then id+1 else id) k (by simpa using h)
    exact⟨t,List.mem_cons_of_mem _ h1,by omega⟩
theorem dY (top:Nat):∀ (l:List Oper) (i id:Nat),(tags top l i id).Pairwise (fun s t=>s.i<t.i)
  | [],_,_=>.nil
  | o::l,i,id=>by
    rw[tags,List.pairwise_cons]
    refine⟨fun t ht=>?_,dY top l _ _⟩
    obtain⟨k,h1,_⟩:=fU top l _ _ t ht
    show i<t.i
    omega
theorem tF (top:Nat):∀ (l:List Oper) (i id:Nat) (t:Tag),t∈tags top l i id→Ge t.o.op=true→id≤t.id
  | [],_,_,t,h,_=>by cases h
  | o::l,i,id,t,h,hn=>by
    rw[tags]at h
    rcases List.mem_cons.1 h with rfl | h
    ·simp only at hn ⊢
     rw[if_pos hn];exact Nat.le_refl _
    ·have:=tF top l _ _ t h hn
     split at this<;>omega
theorem fV (top:Nat):∀ (l:List Oper) (i:Nat) (H:List A2),top=(H++resvs l).length→Ids (tags top l i H.length) (H++resvs l)
  | [],i,H,_=>⟨fun t h=>(by cases h),fun t h=>(by cases h),.nil⟩
  | o::l,i,H,ht=>by
    rw[tags]
    cases hn:Ge o.op with
    | true=>
      have e1:H++resvs (o::l)=(H++[.resv])++resvs l:=by simp[resvs,hn]
      rw[e1]at ht ⊢
      have ih:=fV top l (i+1) (H++[.resv]) ht
      rw[Akw,List.length_singleton]at ih
      simp only[if_true]
      refine⟨fun t hm ec=>?_,fun t hm ec=>?_,?_⟩
      ·rcases List.mem_cons.1 hm with rfl | hm
       ·simp
       ·exact ih.new t hm ec
      ·rcases List.mem_cons.1 hm with rfl | hm
       ·rw[hn]at ec;cases ec
       ·exact ih.old t hm ec
      ·rw[List.pairwise_cons]
       refine⟨fun t hm _ ec=>?_,ih.dst⟩
       have:=tF top l _ _ t hm ec
       simp only
       omega
    | false=>
      have e1:H++resvs (o::l)=H++resvs l:=by simp[resvs,hn]
      rw[e1]at ht ⊢
      have ih:=fV top l (i+1) H ht
      simp only[Bool.false_eq_true,if_false]
      refine⟨fun t hm ec=>?_,fun t hm ec=>?_,?_⟩
      ·rcases List.mem_cons.1 hm with rfl | hm
       ·rw[hn]at ec;cases ec
       ·exact ih.new t hm ec
      ·rcases List.mem_cons.1 hm with rfl | hm
       ·exact ht
       ·exact ih.old t hm ec
      ·rw[List.pairwise_cons]
       refine⟨fun t hm ec=>?_,ih.dst⟩
       rw[hn]at ec;cases ec
theorem Gb.resv {fr:Fr} {H:List A2} {a:Act} {w:World} (R:Gb W0 A0 ds n outs outer fr H a w):Gb W0 A0 ds n outs outer fr (H++[.resv]) a w:=by
  obtain⟨C,rfl,h2,I,h4,h5,h6⟩:=R.ex
  obtain⟨I',m⟩:=I.ghost C.H.length (.inl rfl) .resv fun _=>I.tP (.inl rfl)
  have e:(C.ghost C.H.length .resv).H=C.H++[.resv]:=by simp[Ctx.ghost,Ha]
  exact⟨_,e,h2,I',h4.mono m,h5.mono m,h6⟩
theorem Gb.resvs {fr:Fr} {a:Act} {w:World}:∀ (l:List Oper) {H:List A2},Gb W0 A0 ds n outs outer fr H a w→Gb W0 A0 ds n outs outer fr (H++Go.Ab.resvs l) a w
  | [],H,R=>by simpa[Go.Ab.resvs]using R
  | o::l,H,R=>by
    unfold Go.Ab.resvs
    split
    ·rw[show H++A2.resv::Go.Ab.resvs l=(H++[.resv])++Go.Ab.resvs l by simp]
     exact Gb.resvs l R.resv
    ·exact Gb.resvs l R
theorem Gb.drawn {fr:Fr} {H:List A2} {a:Act} {w:World} (R:Gb W0 A0 ds n outs outer fr H a w) (d:Nat):Gb W0 A0 ds n outs outer fr H a {w with drawn:=d}:=by
  obtain⟨C,h1,h2,I,h4,h5,h6⟩:=R.ex
  obtain⟨I',m⟩:=I.same (w':={w with drawn:=d}) rfl ⟨I.below.os,I.below.tape,I.below.output,I.below.size,I.below.block⟩
  exact⟨C,h1,h2,I',h4.mono m,h5.mono m,h6⟩
theorem AWP.draw {id:Nat} {Q:Exit→Fr→List A2→Prop} {fr:Fr} {H:List A2} (hm:P.follows .mixedOrders=true) (km:yS n ops=true)
    (h:∀ K:Log→Fr→List A2→Prop,(∀ log fr H,R4 (masks ops []) log=true→Q .normal fr H→K log fr H)→dlist P ops (H++resvs ops).length K ops 0 H.length [] fr (H++resvs ops)) :
    AWP md P n (.region id ops.toArray true) Q outer fr H:=by
  intro W0 A0 ds outs a w R
  simp only[yS,Bool.and_eq_true]at km
  obtain⟨⟨⟨h1,h2⟩,h3⟩,h4⟩:=km
  refine wpIn_region_any hm ?_
  have hK:=h (fun log fr H=>R4 (masks ops []) log=true∧∃ fr2,(∀ t,get fr2 t=get fr t)∧Q .normal fr2 H) fun log fr H g1 g2=>⟨g1,fr,fun _=>rfl,g2⟩
  rw[pW]at hK
  have ig:∀ (i:Nat) o,ops[i]? =some o→o∈ops:=fun i o ho=>Akt ho
  have a1:∀ (log log':Log) (fr fr':Fr) (H:List A2),(∀ t,get fr' t=get fr t)→(∀ p,p∈log↔p∈log')→(R4 (masks ops []) log=true∧∃ fr2,(∀ t,get fr2 t=get fr t)∧Q .normal fr2 H)→
   (R4 (masks ops []) log'=true∧∃ fr2,(∀ t,get fr2 t=get fr' t)∧Q .normal fr2 H):=by
    intro log log' fr fr' H hf hl ⟨g0,fr2,g1,g2⟩
    exact⟨oG hl g0,fr2,fun t=>by rw[g1,hf],g2⟩
  have a2:∀ (log:Log) (fr:Fr) (H:List A2) (a:Act) (w:World),(R4 (masks ops []) log=true∧∃ fr2,(∀ t,get fr2 t=get fr t)∧Q .normal fr2 H)→Gb W0 A0 ds n outs outer fr H a w→
   ∃ fr' H',Q .normal fr' H'∧Gb W0 A0 ds n outs outer fr' H' a w:=by
    intro log fr H a w ⟨_,fr2,g1,g2⟩ R
    exact⟨fr2,H,g2,R.congr g1⟩
  have a3:∀ (i:Nat) o,ops[i]? =some o→dOK o.op:=by
    intro i o ho
    have:=List.all_eq_true.1 h2 o (ig i o ho)
    simpa[dOK]using this
  have a4:∀ (i:Nat) o,ops[i]? =some o→∀ k,o.dst=some k→k<n:=by
    intro i o ho k hk
    have:=List.all_eq_true.1 h1 o (ig i o ho)
    rw[hk]at this
    simpa using this
  have a5:∀ t∈tags (H++resvs ops).length ops 0 H.length,ops[t.i]? =some t.o∧(Array.replicate ops.toArray.size false).getD t.i true=false:=by
    intro t ht
    obtain⟨k,g1,g2⟩:=fU _ ops 0 _ t ht
    rw[Nat.zero_add]at g1
    have af:k<ops.length:=(Ak1.1 g2).1
    exact⟨by rw[g1];exact g2,by rw[g1];simp[Array.getD,af]⟩
  have a6:∀ i,i<ops.length→(Array.replicate ops.toArray.size false).getD i true=false→∃ t∈tags (H++resvs ops).length ops 0 H.length,t.i=i:=by
    intro i hi _
    obtain⟨t,g1,g2⟩:=nD (H++resvs ops).length ops 0 H.length i hi
    exact⟨t,g1,by omega⟩
  have a7:∀ k o,ops[k]? =some o→(Array.replicate ops.toArray.size false).getD k false=true→∀ e∈o.after,Region.binds .any e=true→(Array.replicate ops.toArray.size false).getD e.on false=true:=by
    intro k o _ hl
    exfalso
    simp[Array.getD]at hl
  exact wJ (W0:=W0) (A0:=A0) (n:=n) (outs:=outs) (outer:=outer) a1 (fun log fr H hk=>hk.1) a2 a3 a4 h3 h4
    ops.length (tags _ ops 0 H.length) _ [] fr (H++resvs ops) a _ (nC ..) (by simp) a5 a6 (dY ..) a7 (fV _ ops 0 H rfl) ((R.drawn _).resvs ops) hK
end
end Go.Ab
namespace Go.Ab
open Go Go.RowKit
theorem rO (K:Ac→Eff→Prop) (v:Ac):I6 K v=K v .none:=rfl
theorem j4 (fr:Fr) (dst:Option Tmp) (next:Fr→List A2→Prop) (v:Ac) (H:List A2):dP fr dst next v H=next (put fr dst v) H:=rfl
theorem j3 (fr:Fr) (dst:Option Tmp) (next:Fr→List A2→Prop) (H:List A2) (v:Ac) (ef:Eff):Pj fr dst next H v ef=next (put fr dst v) (ef.app H):=rfl
theorem wH (dst:Option Tmp) (next:Fr→List A2→Prop) (fr:Fr) (H:List A2):askip dst next fr H=next (put fr dst (.tuple [])) H:=rfl
theorem yB (K:Ac→Prop) (y:List Ac):Acv K y=K (.eptr y):=rfl
theorem xD (P:Program) (T:TypeId) (k:Nat) (K:Ac→Prop) (y:List Ac):Acb P T k K y=K (Je (Me P T) (Bs P T) (y.drop k)):=rfl
theorem xC (r v sz:Nat) (xs:List (List Ac)) (i k:Nat) (vs:List Ac) (K:Ac→Eff→Prop) (y:List Ac):zU r v sz xs i k vs K y=K (.tuple []) (.set r (.row v sz (xs.set i (splice y k vs)))):=rfl
theorem vJ (ok:Bool) (K:Ac→Prop) (v:Ac) (b:Bool):Aa9 ok K v b=K (if ok then .tuple [v,.bool b]else v):=rfl
theorem wI (P:Program) (outer:List Fr) (op:Op) (dst:Option Tmp) (next:Fr→List A2→Prop) (fr:Fr) (H:List A2):aoper P outer op dst next fr H =
  match Qr op with
  | some (f,args)=>Al P (ev fr f) (args.map (ev fr)) (fr::outer) H (dP fr dst next)
  | none=>match zI P op (ev fr)with
    | some xs=>∀ b:Bool,(xs≠[]→b=false)→Pj fr dst next H (.bool b) .none
    | none=>astep P op (ev fr) H H.length (Pj fr dst next H):=rfl
theorem wA (P:Program) (all:List Oper) (top:Nat) (K:Log→Fr→List A2→Prop) (i id:Nat) (log:Log) (fr:Fr) (H:List A2):dlist P all top K [] i id log fr H=K log fr H:=rfl
theorem pU (P:Program) (all:List Oper) (top:Nat) (K:Log→Fr→List A2→Prop) (dst:Option Tmp) (op:Op) (type:TypeId) (pos:String) (after:Array Edge) (rest:List Oper) (i id:Nat) (log:Log) (fr:Fr) (H:List A2) :
    dlist P all top K ({dst,op,type,pos,after,guard:=none}::rest) i id log fr H =
      drun P op i (if Ge op then id else top) (dafter (dlist P all top K rest (i+1) (if Ge op then id+1 else id)) log fr dst H) fr H:=rfl
theorem pV (P:Program) (all:List Oper) (top:Nat) (K:Log→Fr→List A2→Prop) (dst:Option Tmp) (op:Op) (type:TypeId) (pos:String) (after:Array Edge) (j:Nat) (want:Bool) (rest:List Oper) (i id:Nat) (log:Log) (fr:Fr) (H:List A2) :
    dlist P all top K ({dst,op,type,pos,after,guard:=some (j,want)}::rest) i id log fr H =
      bG ((all[j]?).bind (·.dst)) want (drun P op i (if Ge op then id else top) (dafter (dlist P all top K rest (i+1) (if Ge op then id+1 else id)) log fr dst H))
       (dskip (dafter (dlist P all top K rest (i+1) (if Ge op then id+1 else id)) log fr dst H)) fr H:=by
  simp only[dlist,dstep,bG]
  cases(all[j]?).bind (·.dst)<;>rfl
theorem yR (P:Program) (op:Op) (i id:Nat) (K:DK) (fr:Fr) (H:List A2):drun P op i id K fr H=dop P op (ev fr) H id (K (ents i id op (ev fr))):=rfl
theorem v7 (K:DK) (fr:Fr) (H:List A2):dskip K fr H=K [] (.tuple []) .none:=rfl
theorem sB (next:Log→Fr→List A2→Prop) (log:Log) (fr:Fr) (dst:Option Tmp) (H:List A2) (en:Log) (v:Ac) (ef:Eff):dafter next log fr dst H en v ef=next (en++log) (put fr dst v) (ef.app H):=rfl
theorem Aar (P:Program) (op:Op) (e:Operand→Ac) (H:List A2) (id:Nat) (K:Ac→Eff→Prop):dop P op e H id K =
  match Qr op with
  | some (f,args)=>Cf P (e f) (args.map e) H id K
  | none=>astep P op e H id K:=rfl
attribute [go_sem] wA pU pV yR v7 sB Aar ents kR touch rid zV zW Zg Ge rS resvs
attribute [go_sem] rO j4 j3 wH yB xD xC vJ wI wK qK qL bG sM sP sN sO j0
theorem Aao (k:Nat) (v:Ac) (r:Fr):get ((k,v)::r) k=v:=if_pos rfl
theorem yE {k t:Nat} (h:k≠t) (v:Ac) (r:Fr):get ((k,v)::r) t=get r t:=if_neg h
attribute [go_sem] Aao yE
attribute [go_sem] List.append_eq
attribute [go_sem] Qr zI astep La Hb sU sV ev put aconst Ym acells Ac.one Ac.g0 Ac.g1 Ac.g2 Ac.f0 Ac.f1 Ac.f2 iZ tI bH qQ Fy aUn eS Je X0 Xx sY wQ Lf Jf Za Z3 Nv reps chunk Z2 m0 Lg Qs Pk Tb splice Eff.app Ha jA Q8 Sg kQ w9 tD Hm Ta mZ uI m7 acond qthen qblock qret rfrz aresult aret Gz Xd O0 jV Sb vle aZ P7 Yp fX Ac.Zz Ac.Yw Ac.Xn Ac.Qe Nt sJ jZ
end Go.Ab
namespace Go.Ab
open Go Go.RowKit
section
variable {P:Program} {md:Option Nat} {n:Nat} {Q:Exit→Fr→List A2→Prop} {outer:List Fr} {fr:Fr} {H:List A2}
theorem Cf.snap {f:FuncId} {args args':List Ac} {r:Ac} {id:Nat} {K:Ac→Eff→Prop} (hc:∀ (args:Array Value) (w:World),(callFunc f args).run P w= .ok (.enter f args) w)
    (spec:Ad P f args' (·=r)) (ha:Gz (O0 H) args=some args') (qh:r.f2=true) (h:K r .none):Cf P (.func f []) args H id K:=
  ⟨f,args',r,.none,rfl,hc,.inl ⟨rfl,.inl ⟨spec,ha,qh⟩⟩,h⟩
theorem Cf.kD {f:FuncId} {args args':List Ac} {r:Ac} {id:Nat} {K:Ac→Eff→Prop} (hc:∀ (args:Array Value) (w:World),(callFunc f args).run P w= .ok (.enter f args) w)
    (spec:Bu P f args' (·=r)) (ha:Gz (O0 H) args=some args') (h:K r .none):Cf P (.func f []) args H id K:=
  ⟨f,args',r,.none,rfl,hc,.inl ⟨rfl,.inr (.inr ⟨spec,ha⟩)⟩,h⟩
theorem Cf.eff {f:FuncId} {args:List Ac} {r:Ac} {id:Nat} {H:List A2} {K:Ac→Eff→Prop} (r0:Nat) (o':A2) (hc:∀ (args:Array Value) (w:World),(callFunc f args).run P w= .ok (.enter f args) w)
    (hr0:(Zg args).contains r0=true) (hx:∃ x,H[r0]? =some x∧x≠.resv) (kr:∀ (st:List Fr) (H':List A2),H'.length=H.length→(∀ q∈Zg args,H'[q]? =H[q]?)→Al P (.func f []) args st H' fun r' H''=>r'=r∧H''=H'.set r0 o')
    (h:K r (.set r0 o')):Cf P (.func f []) args H id K:=
  ⟨f,[],r,.set r0 o',rfl,hc,.inr (.inr ⟨r0,o',rfl,by simpa using hr0,hx,kr⟩),h⟩
theorem Cf.pure {f:FuncId} {args:List Ac} {r:Ac} {id:Nat} {K:Ac→Eff→Prop} (hc:∀ (args:Array Value) (w:World),(callFunc f args).run P w= .ok (.enter f args) w)
    (spec:Ad P f args (·=r)) (hg:args.all Ac.g2=true) (h:K r .none):Cf P (.func f []) args H id K:=
  ⟨f,args,r,.none,rfl,hc,.inl ⟨rfl,.inr (.inl ⟨spec,hg,rfl⟩)⟩,h⟩
theorem Cf.row {f:FuncId} {args:List Ac} {id sz:Nat} {xs:List (List Ac)} {K:Ac→Eff→Prop} (hc:∀ (args:Array Value) (w:World),(callFunc f args).run P w= .ok (.enter f args) w)
    (spec:Dj P f args sz xs) (hg:args.all Ac.g2=true) (h:K (.own id 0 0 xs.length) (.new id (.row 0 sz xs))):Cf P (.func f []) args H id K:=
  ⟨f,args,_,_,rfl,hc,.inr (.inl ⟨sz,xs,spec,rfl,rfl,.inl ⟨hg,rfl⟩⟩),h⟩
theorem Al.row {f:FuncId} {args:List Ac} {st:List Fr} {sz:Nat} {xs:List (List Ac)} {K:Ac→List A2→Prop} (hc:∀ (args:Array Value) (w:World),(callFunc f args).run P w= .ok (.enter f args) w)
    (spec:Dj P f args sz xs) (hg:args.all Ac.g2=true) (id:Nat) (bj:H.length=id) (h:K (.own id 0 0 xs.length) (H++[.row 0 sz xs])):Al P (.func f []) args st H K:=
  Al.rowAt hc spec (.inl ⟨hg,rfl⟩) id (.inl bj.symm) (by unfold Ha;rw[if_pos bj.symm];exact h)
theorem Al.zU {f:FuncId} {args args':List Ac} {st:List Fr} {sz:Nat} {xs:List (List Ac)} {K:Ac→List A2→Prop} (hc:∀ (args:Array Value) (w:World),(callFunc f args).run P w= .ok (.enter f args) w)
    (spec:Dj P f args' sz xs) (ha:Gz (O0 H) args=some args') (wg:(xs.all fun x=>x.all Ac.f0)=true) (id:Nat) (bj:H.length=id) (h:K (.own id 0 0 xs.length) (H++[.row 0 sz xs])):Al P (.func f []) args st H K:=
  Al.rowAt hc spec (.inr ⟨ha,wg⟩) id (.inl bj.symm) (by unfold Ha;rw[if_pos bj.symm];exact h)
theorem oD {id:Nat} (h:Q .normal fr H):qblock id Q (.exit id) fr H:=by simp only[qblock,if_true];exact h
theorem Am {t:Bool} {yes no:Prop} (h1:t=true→yes) (h2:t=false→no):acond (.bool t) yes no:=⟨h1,h2⟩
theorem Ai {yes no:Prop} (h1:yes):acond (.bool true) yes no:=⟨fun _=>h1,fun h=>by cases h⟩
theorem Bj {yes no:Prop} (h1:no):acond (.bool false) yes no:=⟨(fun h=>by cases h),fun _=>h1⟩
theorem AWP.Bw {ι:Type} {c:Code} (F:ι→Fr) (HH:ι→List A2) (J:ι→Prop) (μ:ι→Nat) (x0:ι) (h0:J x0) (xu:fX fr (F x0)) (xq:Yp H (HH x0))
    (hb:∀ x,Nt (HH x).length (F x)=true∧jZ (HH x).length (HH x)=true∧outer.all (Nt (HH x).length)=true)
    (round:∀ x,J x→AWP md P n c (qthen (fun fr' H'=>∃ x',J x'∧μ x'< μ x∧fX fr' (F x')∧Yp H' (HH x')) Q) outer (F x) (HH x)):AWP md P n (.loop c) Q outer fr H:=by
  refine AWP.loop F HH J μ x0 h0 (Sub.weak xq xu (.inr (hb x0))) fun x hx=>AWP.mono ?_ (round x hx)
  intro e fr' H' h
  cases e with
  | normal=>
    obtain⟨x',h1,h2,h3,h4⟩:=h
    exact⟨x',h1,h2,Sub.weak h4 h3 (.inr (hb x'))⟩
  | _=>exact h
theorem AWP.ghost {c:Code} (k sz:Nat) (hk:get fr k= .nils) (bu:1≤sz) (h:AWP md P n c Q outer ((k,.own H.length 0 0 0)::fr) (H++[.row 0 sz []])):AWP md P n c Q outer fr H:=
  AWP.sub (Sub.ghost k sz hk bu) h
end
theorem Bo.map {α:Type} {f:α→List Ac} {l:List α} {n:Int} {k sz:Nat} {K:List Ac→Prop} (hn:n=(k:Int)) (hk:k<l.length) (h:∀ a,l[k]? =some a→K (f a)):Bo sz (l.map f) n K:=by
  subst hn
  refine⟨by omega,by simpa using hk,fun y hy _=>?_⟩
  simp only[Int.toNat_natCast,List.getElem?_map]at hy
  cases ha:l[k]? with
  | none=>simp[ha]at hy
  | some a=>simp only[ha,Option.map_some,Akv]at hy;subst hy;exact h a ha
theorem Y9 {c want:Bool} {Y N:Fr→List A2→Prop} {fr:Fr} {H:List A2} (h1:c=want→Y fr H) (h2:c= !want→N fr H):Ft (.bool c) want Y N fr H:=
  ⟨h1,fun h=>h2 (by cases c<;>cases want<;>simp_all)⟩
theorem wrap_i64 {x:Int} (h1: -9223372036854775808≤x) (h2:x≤9223372036854775807):IntKind.i64.wrap x=x:=by
  rw[IntKind.wrap_i64];omega
theorem Bz {α:Type} {l:List α} {k:Nat} {a:α} (h:l[k]? =some a):l.take (k+1)=l.take k++[a]:=by
  rw[List.take_add_one,h];rfl
def Bb (n:Int):List Ac:=[.int .i64 n]
theorem natCast_succ (k:Nat):((k+1:Nat):Int)=(k:Int)+1:=rfl
end Go.Ab
namespace Go.Ab
open Go Go.RowKit
abbrev wR (W:World):Ctx:=Ctx.imm fun b=>b<W.heap.size
def Il (W:World) (cs:List Value) (zq:List Ac):Prop:=
  cs.length=zq.length∧∀ (i:Nat) v a,cs[i]? =some v→zq[i]? =some a→Bk (wR W) W v a
structure Cd (P:Program) (t:TypeId) {α:Type} (f:α→List Ac) (Pa:α→Prop):Prop where
  op:∀ {H:Type} {enc:TypeId×Value→H} {w:World} {base:Nat} {spare:Nat→Bool} {held:Bool} {fuel:Nat} {cs:List Value} {x:DataW H×List MemPlace},
   DataW.trod enc P w base spare held fuel t cs=some x→∃ a,Pa a∧Il w cs (f a)
theorem Il.one {W:World} {v:Value} {a:Ac} (h:Bk (wR W) W v a):Il W [v] [a]:=
  ⟨rfl,fun i v' a' h1 h2=>by
    match i,h1,h2 with
    | 0,h1,h2=>simp at h1 h2;subst h1 h2;exact h⟩
section
variable {P:Program} {t:TypeId}
theorem Cd.int {k:IntKind} (ht:P.underlying t=some (.int k)):Cd P t (fun n:Int=>[.int k n]) (fun n=>(Lit.int k n).wf=true):=by
  constructor
  intro H enc w base spare held fuel cs x h
  obtain⟨n,rfl,_,hw⟩:=DataW.trod_int ht h
  exact⟨n,hw,.one (.int k n)⟩
theorem Cd.bool (ht:P.underlying t=some .bool):Cd P t (fun b:Bool=>[.bool b]) (fun _=>True):=by
  constructor
  intro H enc w base spare held fuel cs x h
  obtain⟨b,rfl,_⟩:=DataW.trod_bool ht h
  exact⟨b,trivial,.one (.bool b)⟩
theorem Cd.string (ht:P.underlying t=some .string):Cd P t (fun s:ByteArray=>[.str s]) (fun s=>s.size≤maxLen):=by
  constructor
  intro H enc w base spare held fuel cs x h
  obtain⟨s,rfl,_,hs⟩:=DataW.trod_string ht h
  exact⟨s,hs,.one (.str s)⟩
theorem Cd.iso {α β:Type} {f:α→List Ac} {Pa:α→Prop} {g:β→List Ac} {Pb:β→Prop} (h:Cd P t f Pa) (φ:α→β) (hf:∀ a,g (φ a)=f a) (hP:∀ a,Pa a→Pb (φ a)):Cd P t g Pb:=by
  constructor
  intro H enc w base spare held fuel cs x hx
  obtain⟨a,h1,h2⟩:=h.op hx
  exact⟨φ a,hP a h1,by rw[hf];exact h2⟩
theorem oV {α:Type} {n:Nat} {Q:Nat→α→Prop} (h:∀ i,i<n→∃ a,Q i a):∃ l:List α,l.length=n∧∀ (i:Nat) a,l[i]? =some a→Q i a:=by
  induction n with
  | zero=>exact ⟨[],rfl,fun i a h=>by simp at h⟩
  | succ n ih=>
    obtain⟨l,h1,h2⟩:=ih fun i hi=>h i (by omega)
    obtain⟨a,ha⟩:=h n (by omega)
    refine⟨l++[a],by simp[h1],fun i b hb=>?_⟩
    by_cases hi:i<l.length
    ·rw[List.getElem?_append_left hi]at hb;exact h2 i b hb
    ·rw[List.getElem?_append_right (by omega)]at hb
     have:i - l.length=0:=by
       cases h3:i - l.length with
       | zero=>rfl
       | succ k=>rw[h3]at hb;simp at hb
     rw[this]at hb
     simp at hb;subst hb
     have:i=n:=by omega
     subst this;exact ha
theorem Cd.slice {α:Type} {f:α→List Ac} {Pa:α→Prop} {e:TypeId} {sz:Nat} (ht:P.underlying t=some (.slice e)) (hc:P.cellsOf e=sz) (bu:1≤sz) (hl:∀ a,(f a).length=sz)
    (hg:∀ a,∀ c∈f a,Ac.g0 c=true) (h:Cd P e f Pa):Cd P t (fun l:List α=>[.sl sz (l.map f)]) (fun l=>l.length≤9223372036854775807∧∀ a∈l,Pa a):=by
  constructor
  intro H enc w base spare held fuel cs x hx
  rcases DataW.trod_slice ht hx with⟨rfl,_⟩ | ⟨a,len,cap,elems,rest,n,_,rfl,_,hb,cw,hm,hlen,qj,_⟩
  ·exact⟨[],⟨by simp,by simp⟩,.one (.sl0 none 0 sz (by simp))⟩
  ·have hmax:len≤9223372036854775807:=by have:=Lv;omega
   have each:∀ i,i<len→∃ y,Pa y∧∃ cs',w.cells? base (a.add (i*sz)) sz=some cs'∧Il w cs' (f y):=by
     intro i hi
     have:=qj i hi
     rw[hc]at this
     have af:i<elems.length:=by omega
     rw[Aks af,Option.bind_eq_some_iff]at this
     obtain⟨cs',h1,h2⟩:=this
     obtain⟨y,bp,dn⟩:=h.op h2
     exact⟨y,bp,cs',h1,dn⟩
   obtain⟨l,hll,ix⟩:=oV each
   refine⟨l,⟨by omega,fun y hy=>?_⟩,?_⟩
   ·obtain⟨i,hi⟩:=List.getElem?_of_mem hy
    exact(ix i y hi).1
   ·by_cases h0:len=0
    ·have:l=[]:=List.length_eq_zero_iff.1 (by omega)
     subst this;subst h0
     exact .one (.sl0 (some a) cap sz hm)
    ·
     have qk:∀ i y,l[i]? =some y→∃ cs',cs'.length=sz∧Il w cs' (f y)∧∀ k,k<sz→w.cell? ((a.add (i*sz)).add k)=cs'[k]?:=by
       intro i y hy
       obtain⟨_,cs',h1,h2⟩:=ix i y hy
       obtain⟨_,g1,g2⟩:=World.cells?_some h1
       exact⟨cs',g1,h2,g2⟩
     have ah:0<l.length:=by omega
     obtain⟨_,cs0,g0,_⟩:=ix 0 _ (Aks ah)
     have qo:a.block<w.heap.size:=by
       have:=World.cells?_block g0 (by omega)
       simpa[Addr.add]using this
     have cm:a.spot=none:=by
       obtain⟨cs',g1,_,g3⟩:=qk 0 _ (Aks ah)
       have:=g3 0 (by omega)
       rw[Aks (by omega)]at this
       have:=World.cell?_spot this
       simpa[Addr.add]using this
     have jf:∀ i k,(a.add (i*sz)).add k=⟨a.block,a.off+(i*sz+k),none⟩:=by
       intro i k
       obtain⟨b,off,sp⟩:=a
       simp only at cm
       subst cm
       unfold Addr.add
       split<;>split<;>simp<;>omega
     have aq:∀ i y,l[i]? =some y→∀ k,k<sz→∃ v,w.cell? ⟨a.block,a.off+(i*sz+k),none⟩=some v∧∀ c,(f y)[k]? =some c→Bk (wR w) w v c:=by
       intro i y hy k hk
       obtain⟨cs',g1,g2,g3⟩:=qk i y hy
       have g4:=g3 k hk
       rw[jf,Aks (by omega)]at g4
       exact⟨_,g4,fun c lr=>g2.2 k _ c (Aks (by omega)) lr⟩
     refine .one (.sl a len cap (l.map f) sz (fun j=>(w.cell? ⟨a.block,a.off+j,none⟩).getD undef) cm (by simp[hll]) cw hm qo bu (fun x hx=>?_) (fun x hx=>?_) (fun j hj=>?_) fun i k x c hx lr=>?_)
     ·obtain⟨y,_,rfl⟩:=List.mem_map.1 hx;exact hl y
     ·obtain⟨y,_,rfl⟩:=List.mem_map.1 hx;exact hg y
     ·rw[Aky]at hj
      have hi:j / sz<l.length:=Nat.div_lt_of_lt_mul (by rw[Nat.mul_comm];exact hj)
      obtain⟨v,g1,_⟩:=aq (j / sz) _ (Aks hi) (j % sz) (Nat.mod_lt _ (by omega))
      have e:j / sz*sz+j % sz=j:=by rw[Nat.mul_comm];exact Nat.div_add_mod j sz
      rw[e]at g1
      rw[g1];rfl
     ·rw[List.getElem?_map]at hx
      cases hy:l[i]? with
      | none=>simp[hy]at hx
      | some y=>
        simp only[hy,Option.map_some,Akv]at hx
        subst hx
        have hk:k<sz:=by have:=(Ak1.1 lr).1;rw[hl]at this;exact this
        obtain⟨v,g1,g2⟩:=aq i y hy k hk
        simp only[g1,Option.getD_some]
        exact g2 c lr
theorem Il.append {W:World} {cs cs':List Value} {zq as':List Ac} (h:Il W cs zq) (h':Il W cs' as'):Il W (cs++cs') (zq++as'):=by
  refine⟨by simp[h.1,h'.1],fun i v a h1 h2=>?_⟩
  by_cases hi:i<cs.length
  ·rw[List.getElem?_append_left hi]at h1
   rw[List.getElem?_append_left (by have:=h.1;omega)]at h2
   exact h.2 i v a h1 h2
  ·rw[List.getElem?_append_right (by omega)]at h1
   rw[List.getElem?_append_right (by have:=h.1;omega),← h.1]at h2
   exact h'.2 _ v a h1 h2
structure Vp (P:Program) (tot off:Nat) (fl:List Field) {α:Type} (f:α→List Ac) (Pa:α→Prop):Prop where
  op:∀ {H:Type} {enc:TypeId×Value→H} {w:World} {base:Nat} {spare:Nat→Bool} {held:Bool} {fuel:Nat} {cs:List Value},cs.length=tot→
   (∀ (i:Nat) (fd:Field),fl[i]? =some fd→∃ x,DataW.trod enc P w base spare held fuel fd.type ((cs.drop fd.offset).take (P.cellsOf fd.type))=some x)→∃ a,Pa a∧Il w (cs.drop off) (f a)
theorem Vp.nil {tot:Nat}:Vp P tot tot [] (fun _:Unit=>[]) (fun _=>True):=by
  constructor
  intro H enc w base spare held fuel cs hl _
  exact⟨(),trivial,by simp[hl],fun i v a h1 h2=>by simp at h2⟩
theorem Vp.cons {tot off sz:Nat} {fd:Field} {fl:List Field} {α β:Type} {f:α→List Ac} {Pa:α→Prop} {g:β→List Ac} {Pb:β→Prop} (ho:fd.offset=off) (hs:P.cellsOf fd.type=sz)
    (h:Cd P fd.type f Pa) (h':Vp P tot (off+sz) fl g Pb):Vp P tot off (fd::fl) (fun x:α×β=>f x.1++g x.2) (fun x=>Pa x.1∧Pb x.2):=by
  constructor
  intro H enc w base spare held fuel cs hl hx
  obtain⟨x,aw⟩:=hx 0 fd rfl
  obtain⟨a,wv,su⟩:=h.op aw
  obtain⟨b,rj,nb⟩:=h'.op hl fun i fd' hi=>hx (i+1) fd' (by simpa using hi)
  refine⟨(a,b),⟨wv,rj⟩,?_⟩
  rw[ho,hs]at su
  have:=su.append nb
  rwa [← List.drop_drop,List.take_append_drop]at this
theorem Cd.struct {tot:Nat} {fs:Array Field} {α:Type} {f:α→List Ac} {Pa:α→Prop} (ht:P.underlying t=some (.struct fs)) (hc:P.cellsOf t=tot) (h:Vp P tot 0 fs.toList f Pa):Cd P t f Pa:=by
  constructor
  intro H enc w base spare held fuel cs x hx
  obtain⟨xs,n,rfl,_,hl,qz,hf⟩:=DataW.trod_struct ht hx
  have:=h.op (cs:=cs) (by rw[hl,hc]) fun i fd hi=>by
    have de:fs[i]? =some fd:=by simpa using hi
    have:=hf i fd de
    have af:i<xs.length:=by rw[qz];exact(Array.getElem?_eq_some_iff.1 de).1
    rw[Aks af]at this
    exact⟨_,this⟩
  simpa using this
structure Lh (P:Program) (t:TypeId) {α:Type} (g:α→Ac) (Pa:α→Prop):Prop where
  op:∀ {H:Type} {enc:TypeId×Value→H} {w:World} {base b0:Nat} {r:Reach} {spare:Nat→Bool} {held:Bool} {v:Value} {d:DataW H} {ps:List MemPlace},
   Value.okWide P w r b0 t v→DataW.Trod enc P w base spare held t v d ps→∃ a,Pa a∧Bk (wR w) w v (g a)
theorem Il.head {W:World} {v:Value} {a:Ac} (h:Il W [v] [a]):Bk (wR W) W v a:=h.2 0 v a rfl rfl
theorem Lh.struct {fs:Array Field} {α:Type} {f:α→List Ac} {Pa:α→Prop} (ht:P.underlying t=some (.struct fs)) (h:Cd P t f Pa):Lh P t (fun a=>.agg (f a)) Pa:=by
  constructor
  intro H enc w base b0 r spare held v d ps fq ⟨fuel,hf⟩
  obtain⟨cs,rfl,_⟩:=Go.WideShapes.okWide_struct ht fq
  obtain⟨a,h1,h2⟩:=h.op hf
  refine⟨a,h1,.agg cs (f a) (by simpa[Value.cells]using h2.1) fun i u c hu hc=>h2.2 i u c (by simpa[Value.cells]using hu) hc⟩
theorem Lh.slice {e:TypeId} {α:Type} {g:α→Ac} {Pa:α→Prop} (ht:P.underlying t=some (.slice e)) (h:Cd P t (fun a=>[g a]) Pa):Lh P t g Pa:=by
  constructor
  intro H enc w base b0 r spare held v d ps fq ⟨fuel,hf⟩
  obtain⟨a,len,cap,rfl⟩:=Go.WideShapes.okWide_slice ht fq
  obtain⟨a,h1,h2⟩:=h.op hf
  exact⟨a,h1,Il.head (by simpa[Value.cells]using h2)⟩
theorem Lh.int {k:IntKind} (ht:P.underlying t=some (.int k)):Lh P t (fun n:Int=>.int k n) (fun n=>(Lit.int k n).wf=true):=by
  constructor
  intro H enc w base b0 r spare held v d ps fq hd
  obtain⟨n,rfl,_,_,hw⟩:=Go.ChangeShapes.open_int ht fq hd
  exact⟨n,hw,.int k n⟩
theorem Lh.bool (ht:P.underlying t=some .bool):Lh P t (fun b:Bool=>.bool b) (fun _=>True):=by
  constructor
  intro H enc w base b0 r spare held v d ps fq hd
  obtain⟨n,rfl,_,_⟩:=open_bool ht fq hd
  exact⟨n,trivial,.bool n⟩
theorem Lh.iso {α β:Type} {f:α→Ac} {Pa:α→Prop} {g:β→Ac} {Pb:β→Prop} (h:Lh P t f Pa) (φ:α→β) (hf:∀ a,g (φ a)=f a) (hP:∀ a,Pa a→Pb (φ a)):Lh P t g Pb:=by
  constructor
  intro H enc w base b0 r spare held v d ps fq hd
  obtain⟨a,h1,h2⟩:=h.op fq hd
  exact⟨φ a,hP a h1,by rw[hf];exact h2⟩
structure Vq (P:Program) (ts:List TypeId) {α:Type} (g:α→List Ac) (Pa:α→Prop):Prop where
  op:∀ {H:Type} {enc:TypeId×Value→H} {w:World} {base b0:Nat} {r:Reach} {spare:Nat→Bool} {held:Bool} {vs:List Value} {ds:List (DataW H)} {ps:List MemPlace},
   (∀ (j:Nat) t v,ts[j]? =some t→vs[j]? =some v→Value.okWide P w r b0 t v)→DataW.TrodAll enc P w base spare held ts vs ds ps→∃ a,Pa a∧Qf (wR w) w vs (g a)
theorem Vq.nil:Vq P [] (fun _:Unit=>[]) (fun _=>True):=by
  constructor
  intro H enc w base b0 r spare held vs ds ps hv hd
  obtain⟨rfl,_,_⟩:=Go.ChangeShapes.trodAll_nil hd
  exact⟨(),trivial,rfl,fun i v a h=>by simp at h⟩
theorem Vq.cons {ts:List TypeId} {α β:Type} {f:α→Ac} {Pa:α→Prop} {g:β→List Ac} {Pb:β→Prop} (h:Lh P t f Pa) (h':Vq P ts g Pb):Vq P (t::ts) (fun x:α×β=>f x.1::g x.2) (fun x=>Pa x.1∧Pb x.2):=by
  constructor
  intro H enc w base b0 r spare held vs ds ps hv hd
  obtain⟨v,vs',d,ds',p,q,rfl,rfl,rfl,h1,h2⟩:=Go.ChangeShapes.trodAll_cons hd
  obtain⟨a,wv,su⟩:=h.op (hv 0 t v rfl rfl) h1
  obtain⟨b,rj,nb,hb3⟩:=h'.op (fun j t v ht ka=>hv (j+1) t v (by simpa using ht) (by simpa using ka)) h2
  refine⟨(a,b),⟨wv,rj⟩,by simp[nb],fun i v' a' g1 g2=>?_⟩
  match i,g1,g2 with
  | 0,g1,g2=>simp at g1 g2;subst g1 g2;exact su
  | i+1,g1,g2=>exact hb3 i v' a' (by simpa using g1) (by simpa using g2)
theorem Vq.iso {ts:List TypeId} {α β:Type} {f:α→List Ac} {Pa:α→Prop} {g:β→List Ac} {Pb:β→Prop} (h:Vq P ts f Pa) (φ:α→β) (hf:∀ a,g (φ a)=f a) (hP:∀ a,Pa a→Pb (φ a)):Vq P ts g Pb:=by
  constructor
  intro H enc w base b0 r spare held vs ds ps fq hd
  obtain⟨a,h1,h2⟩:=h.op fq hd
  exact⟨φ a,hP a h1,by rw[hf];exact h2⟩
theorem jX {f:FuncId} {ts:List TypeId} {α:Type} {g:α→List Ac} {Pa:α→Prop} (spec:∀ a,Pa a→Ad P f (g a) (·= .bool true)) (ho:Vq P ts g Pa)
    {H:Type} {enc:TypeId×Value→H} {W:World} {base b0:Nat} {r:Reach} {spare:Nat→Bool} {held:Bool} {args:Array Value} {ds:List (DataW H)} {ps:List MemPlace}
    (hv:∀ (j:Nat) t v,ts[j]? =some t→args.toList[j]? =some v→Value.okWide P W r b0 t v) (hd:DataW.TrodAll enc P W base spare held ts args.toList ds ps) :
    Calls P f args W fun e W'=>e= .returned (.bool true)∧Below W.heap.size W W':=by
  obtain⟨a,h1,h2⟩:=ho.op hv hd
  refine(spec a h1 (fun b=>b<W.heap.size) W args.toList (fun b h=>h) h2).mono fun e W' ⟨v,r,he,hr,_,hb,ay⟩=>?_
  subst hr he
  cases ay
  exact⟨rfl,hb⟩
theorem dX {H:Type} {enc:TypeId×Value→H} {w:World} {base:Nat} {spare:Nat→Bool} {held:Bool}:∀ {ts:List TypeId} {vs:List Value} {ds:List (DataW H)} {ps:List MemPlace},
    DataW.TrodAll enc P w base spare held ts vs ds ps→vs.length=ts.length∧ds.length=ts.length
  | [],vs,ds,ps,h=>by obtain⟨rfl,rfl,_⟩:=Go.ChangeShapes.trodAll_nil h;exact⟨rfl,rfl⟩
  | t::ts,vs,ds,ps,h=>by
    obtain⟨v,vs',d,ds',p,q,rfl,rfl,rfl,_,h2⟩:=Go.ChangeShapes.trodAll_cons h
    have:=dX h2
    simp[this.1,this.2]
theorem Y0 {H:Type} {enc:TypeId×Value→H} (hl:laidOutB P=true) {W W':World} (hb:Below W.heap.size W W'):∀ {ts:List TypeId} {vs:List Value} {ds:List (DataW H)} {ps:List MemPlace},
    (ts.all fun t=>P.readableRec t&&decide (t<P.types.size))=true→DataW.TrodAll enc P W 0 (fun _=>true) true ts vs ds ps→DataW.TrodAll enc P W' 0 (fun b=>decide (b<W.heap.size)) true ts vs ds ps
  | [],vs,ds,ps,_,h=>by obtain⟨rfl,rfl,rfl⟩:=Go.ChangeShapes.trodAll_nil h;exact rfl
  | t::ts,vs,ds,ps,ht,h=>by
    obtain⟨v,vs',d,ds',p,q,rfl,rfl,rfl,h1,h2⟩:=Go.ChangeShapes.trodAll_cons h
    simp only[List.all_cons,Bool.and_eq_true,decide_eq_true_eq]at ht
    refine trodAll_cons_mk (Below.trod hl ht.1.1 ht.1.2 h1 hb ?_) (Y0 hl hb ht.2 h2)
    obtain⟨m,hm⟩:=h1
    exact DataW.trod_lt m _ _ _ hm
theorem vK {C:Checked} {os:Os} {f:FuncId} {fn:Func} {s:ChangeSpec} {conds:List PathCond} {H:Type} {enc:TypeId×Value→H} {tb:TypeId}
    (own:ownKnob C.prog.godebug=none) (started:os.Started) (noInit:C.prog.inits.idxOf? f=none) (hfn:C.prog.funcs[f]? =some fn)
    (witness:∃ (w:World) (tape:Tape) (i:Input),w.os=os∧(w.forCall tape i).Shaped C.prog∧i.vars=[]∧Input.okWide C.prog (w.forCall tape i) .any w.heap.size f i∧
      s.pre6 enc C.prog fn conds false (w.forCall tape i).memory i.args∧({}:Assume).holds C.prog (lone (Frame.enter C.prog f i.args .normal) [] (w.forCall tape i)))
    (th:s.vars=[]) (mh:fn.resultTypes=#[tb]) (htb:C.prog.underlying tb=some .bool) (laid:laidOutB C.prog=true)
    (hread:(fn.params.toList.all fun t=>C.prog.readableRec t&&decide (t<C.prog.types.size))=true)
    (hs:∀ ds:List (DataW H),ds.length=fn.params.toList.length→(s.fn H ds).results=[.lit (.bool true)]∧(s.fn H ds).args=ds∧(s.fn H ds).vars=[])
    (calls:∀ (W:World) (b0:Nat) (args:Array Value) (ds:List (DataW H)) (ps:List MemPlace),(∀ (j:Nat) t v,fn.params.toList[j]? =some t→args.toList[j]? =some v→Value.okWide C.prog W .any b0 t v)→
      DataW.TrodAll enc C.prog W 0 (fun _=>true) true fn.params.toList args.toList ds ps→Calls C.prog f args W fun e W'=>e= .returned (.bool true)∧Below W.heap.size W W') :
    ReturnsInHanded {} C os f .any (s.pre6 enc C.prog fn conds false) (s.post enc C.prog fn false true false false):=by
  refine returnsInHanded_of_change own started noInit hfn witness ?_
  intro W base args ds gs before fq hW _ _
  have hW':=hW
  obtain⟨p,q,hA,hV,_⟩:=hW
  rw[th]at hV
  obtain⟨rfl,rfl⟩:=Go.ChangeShapes.trodVars_none hV
  have hlen:=dX hA
  obtain⟨h1,h2,h3⟩:=hs ds hlen.2
  refine(calls W base args ds p (fun j t v a b=>fq j t v (by simpa using a) (by simpa using b)) hA).mono fun e W' ⟨he,bel⟩=>?_
  subst he
  refine⟨_,rfl,ds,[],before,[],p,[],hW',?_,?_,?_,bel.frame _,fun h=>by cases h⟩
  ·rw[List.append_nil,h1,mh]
   exact Go.ChangeShapes.trodAll_mk1 (shut_bool htb true)
  ·rw[List.append_nil,h2]
   exact Y0 laid bel hread hA
  ·rw[List.append_nil,h3,th]
   rfl
end
inductive Out (σ ρ:Type) where
  | next (s:σ)
  | ret (r:ρ)
def Out.cont {σ ρ:Type} (o:Out σ ρ) (g:σ→Option (Out σ ρ)):Option (Out σ ρ):=match o with | .next s=>g s | .ret r=>some (.ret r)
def Out.on {σ ρ:Type} (o:Out σ ρ) (f:σ→Option ρ):Option ρ:=match o with | .next s=>f s | .ret r=>some r
def An {α σ ρ:Type} (step:Nat→α→σ→Option (Out σ ρ)):Nat→List α→σ→Option (Out σ ρ)
  | _,[],s=>some (.next s)
  | k,x::l,s=>(step k x s).bind fun o=>o.cont fun s'=>An step (k+1) l s'
def D6 {σ ρ:Type} (step:σ→Option (Out σ ρ)):Nat→σ→Option (Out σ ρ)
  | 0,_=>none
  | n+1,s=>(step s).bind fun o=>o.cont fun s'=>D6 step n s'
def fuel:Nat:=1099511627776
def Ki {σ ρ:Type} (step:Nat→Unit→σ→Option (Out σ ρ)) (n:Nat) (s:σ):Option (Out σ ρ):=if n≤9223372036854775807 then An step 0 (List.replicate n ()) s else none
def Dv {α:Type} (l:List α) (n:Int):Option α:=if 0≤n then l[n.toNat]? else none
def mpE {β:Type} (f:β→Ac) (m:List (Int×β)):List (Int×Ac):=m.map fun p=>(p.1,f p.2)
def mget {β:Type} (d:β):List (Int×β)→Int→β
  | [],_=>d
  | (k,v)::r,n=>if k=n then v else mget d r n
def mhas {β:Type}:List (Int×β)→Int→Bool
  | [],_=>false
  | (k,_)::r,n=>if k=n then true else mhas r n
def mset {β:Type}:List (Int×β)→Int→β→List (Int×β)
  | [],n,v=>[(n,v)]
  | (k,u)::r,n,v=>if k=n then(k,v)::r else(k,u)::mset r n v
theorem Ah {α β:Type} {o:Option α} {f:α→Option β} {r:β} (h:o.bind f=some r):∃ x,o=some x∧f x=some r:=by
  cases o with
  | none=>cases h
  | some x=>exact ⟨x,rfl,h⟩
theorem Abb {α:Type} {c:Bool} {a b:Option α} {r:α} (h:(bif c then a else b)=some r) (hc:c=true):a=some r:=by subst hc;exact h
theorem Abc {α:Type} {c:Bool} {a b:Option α} {r:α} (h:(bif c then a else b)=some r) (hc:c=false):b=some r:=by subst hc;exact h
theorem Bf {σ ρ:Type} {s:σ} {f:σ→Option ρ} {r:ρ} (h:(Out.next s).on f=some r):f s=some r:=h
theorem Ao {σ ρ:Type} {q:ρ} {f:σ→Option ρ} {r:ρ} (h:(Out.ret q).on f=some r):some q=some r:=h
theorem Aj {σ ρ:Type} {s:σ} {g:σ→Option (Out σ ρ)} {r:Out σ ρ} (h:(Out.next s).cont g=some r):g s=some r:=h
theorem Ae {σ ρ:Type} {q:ρ} {g:σ→Option (Out σ ρ)} {r:Out σ ρ} (h:(Out.ret q).cont g=some r):r= .ret q:=(Ak0 h).symm
theorem Aa {α:Type} {a b:α} (h:some a=some b):b=a:=(Ak0 h).symm
theorem Bg {α σ ρ:Type} {step:Nat→α→σ→Option (Out σ ρ)} {k:Nat} {l:List α} {s:σ} {o:Out σ ρ} (h:An step k (l.drop k) s=some o) (hk:¬ k<l.length):o= .next s:=by
  rw[List.drop_of_length_le (by omega)]at h;exact(Ak0 h).symm
theorem Bc {α σ ρ:Type} {step:Nat→α→σ→Option (Out σ ρ)} {k:Nat} {l:List α} {s:σ} {o:Out σ ρ} (h:An step k (l.drop k) s=some o) (hk:k<l.length) :
    ∃ x b,l[k]? =some x∧step k x s=some b∧b.cont (fun s'=>An step (k+1) (l.drop (k+1)) s')=some o:=by
  rw[List.drop_eq_getElem_cons hk]at h
  obtain⟨b,h1,h2⟩:=Ah h
  exact⟨l[k],b,Aks hk,h1,h2⟩
theorem Km {σ ρ:Type} {step:σ→Option (Out σ ρ)} {n:Nat} {s:σ} {o:Out σ ρ} (h:D6 step n s=some o) :
    ∃ m b,n=m+1∧step s=some b∧b.cont (fun s'=>D6 step m s')=some o:=by
  cases n with
  | zero=>cases h
  | succ m=>
    obtain⟨b,h1,h2⟩:=Ah h
    exact⟨m,b,rfl,h1,h2⟩
theorem S3 {σ ρ:Type} {step:Nat→Unit→σ→Option (Out σ ρ)} {n:Nat} {s:σ} {o:Out σ ρ} (h:Ki step n s=some o):n≤9223372036854775807∧An step 0 (List.replicate n ()) s=some o:=by
  unfold Ki at h
  split at h
  ·exact⟨by assumption,h⟩
  ·cases h
theorem fO {α:Type} {l:List α} {n:Int} {x:α} (h:Dv l n=some x):0≤n∧n<l.length∧l[n.toNat]? =some x:=by
  unfold Dv at h
  split at h
  ·rename_i h0
   have:=(Ak1.1 h).1
   exact⟨h0,by omega,h⟩
  ·cases h
theorem A9 {α:Type} {l:List α} {k:Nat} {x:α} (h:l[k]? =some x):Dv l (k:Int)=some x:=by
  simp[Dv,h]
theorem Bo.of {α:Type} {f:α→List Ac} {l:List α} {n:Int} {x:α} {sz:Nat} {K:List Ac→Prop} (hx:Dv l n=some x) (h:K (f x)):Bo sz (l.map f) n K:=by
  obtain⟨h1,h2,h3⟩:=fO hx
  refine⟨h1,by simpa using h2,fun y hy _=>?_⟩
  simp only[List.getElem?_map,h3,Option.map_some,Akv]at hy
  subst hy;exact h
theorem Dm.of {α:Type} {f:α→List Ac} {l:List α} {n:Int} {x:α} {sz:Nat} {K:List Ac→Prop} (hx:Dv l n=some x) (h:K (f x)):Dm sz (l.map f) n.toNat K:=by
  obtain⟨h1,h2,h3⟩:=fO hx
  intro y hy _
  simp only[List.getElem?_map,h3,Option.map_some,Akv]at hy
  subst hy;exact h
theorem Dm.ofNat {α:Type} {f:α→List Ac} {l:List α} {n:Nat} {x:α} {sz:Nat} {K:List Ac→Prop} (hx:Dv l (n:Int)=some x) (h:K (f x)):Dm sz (l.map f) n K:=Dm.of hx h
theorem Lb {α:Type} {l:List α} {n:Int} {m:Nat} {x:α} {R:Prop} (hx:Dv l n=some x) (hm:m=l.length) (h:R):0≤n∧n<(m:Int)∧R:=by
  obtain⟨h1,h2,_⟩:=fO hx
  exact⟨h1,by omega,h⟩
theorem lP {β:Type} (f:β→Ac) (d:β):∀ (m:List (Int×β)) (n:Int),alook (mpE f m) n=if mhas m n then some (f (mget d m n))else none
  | [],_=>rfl
  | (k,v)::r,n=>by
    simp only[mpE,List.map_cons,alook,mhas,mget]
    split
    ·rfl
    ·exact lP f d r n
theorem oQ {β:Type} {d:β}:∀ {m:List (Int×β)} {n:Int},mhas m n=false→mget d m n=d
  | [],_,_=>rfl
  | (k,v)::r,n,h=>by
    simp only[mhas,mget]at h ⊢
    split at h
    ·cases h
    ·rename_i hk;rw[if_neg hk];exact oQ h
theorem Ex.of {β:Type} {f:β→Ac} {m:List (Int×β)} {n:Int} {d:β} {z:Ac} {K:Ac→Bool→Prop} (hd:f d=z) (h:K (f (mget d m n)) (mhas m n)):Ex (mpE f m) n z K:=by
  unfold Ex
  rw[lP f d]
  cases hb:mhas m n with
  | true=>rw[hb]at h;simp;exact h
  | false=>rw[hb,oQ hb,hd]at h;simp;exact h
theorem qG {β:Type} (f:β→Ac):∀ (m:List (Int×β)) (n:Int) (v:β),aset (mpE f m) n (f v)=mpE f (mset m n v)
  | [],_,_=>rfl
  | (k,u)::r,n,v=>by
    have ih:=qG f r n v
    simp only[mpE,List.map_cons,aset,mset]at ih ⊢
    split<;>simp[ih]
theorem mD {β:Type} (f:β→Ac) (m:List (Int×β)):(mpE f m).length=m.length:=by simp[mpE]
theorem Aaf {α β:Type} (f:α→β) (l m:List α):l.map f++m.map f=(l++m).map f:=(List.map_append).symm
theorem uP {α β:Type} (f:α→β) (l:List α) (n:Nat):(l.map f).take n=(l.take n).map f:=(List.map_take).symm
theorem v8 {α β:Type} (f:α→β) (l:List α) (n:Nat):(l.map f).drop n=(l.drop n).map f:=(List.map_drop).symm
section
variable {P:Program} {md:Option Nat} {n:Nat} {Q:Exit→Fr→List A2→Prop} {outer:List Fr} {fr:Fr} {H:List A2}
theorem AWP.Mz {ι:Type} {c d:Code} (F:ι→Fr) (HH:ι→List A2) (J:ι→Prop) (hb:∀ x,Nt (HH x).length (F x)=true∧jZ (HH x).length (HH x)=true∧outer.all (Nt (HH x).length)=true)
    (hc:AWP md P n c (qthen (fun fr' H'=>∃ x,J x∧fX fr' (F x)∧Yp H' (HH x)) Q) outer fr H) (hd:∀ x,J x→AWP md P n d Q outer (F x) (HH x)):AWP md P n (.seq c d) Q outer fr H:=by
  refine AWP.seq (AWP.mono ?_ hc)
  intro e fr' H' h
  cases e with
  | normal=>
    obtain⟨x,h1,h2,h3⟩:=h
    exact AWP.sub (Sub.weak h3 h2 (.inr (hb x))) (hd x h1)
  | _=>exact h
end
def Pd (v v':Ac):Prop:=match v' with | .sl _ xs=>v=v'∨(v= .nils∧xs=[]) | _=>v=v'
def Pc:List Ac→List Ac→Prop
  | [],[]=>True
  | c::r,c'::r'=>Pd c c'∧Pc r r'
  | _,_=>False
def Sm (v v':Ac):Prop:=match v' with | .agg ds=>(match v with | .agg cs=>Pc cs ds | _=>False) | .sl _ xs=>v=v'∨(v= .nils∧xs=[]) | _=>v=v'
def Sk:List Ac→List Ac→Prop
  | [],[]=>True
  | c::r,c'::r'=>Sm c c'∧Sk r r'
  | _,_=>False
def Sl (v v':Ac):Prop:=match v' with | .tuple ds=>(match v with | .tuple cs=>Sk cs ds | _=>False) | .agg ds=>(match v with | .agg cs=>Pc cs ds | _=>False) | .sl _ xs=>v=v'∨(v= .nils∧xs=[]) | _=>v=v'
theorem gP {C:Ctx} {w:World} {u:Value} {a a':Ac} (h:Pd a a') (hr:Bk C w u a):Bk C w u a'∧(a.g0=true→a'.g0=true):=by
  unfold Pd at h
  split at h
  ·rcases h with rfl | ⟨rfl,rfl⟩
   ·exact⟨hr,id⟩
   ·cases hr;exact⟨.sl0 _ _ _ (Nat.zero_le _),fun _=>rfl⟩
  ·subst h;exact⟨hr,id⟩
theorem aJ:∀ {cs cs':List Ac},Pc cs cs'→cs.length=cs'.length∧∀ (i:Nat) c',cs'[i]? =some c'→∃ c,cs[i]? =some c∧Pd c c'
  | [],[],_=>⟨rfl,by simp⟩
  | c::r,c'::r',h=>by
    have ih:=aJ h.2
    refine⟨by simp[ih.1],fun i d hi=>?_⟩
    match i,hi with
    | 0,hi=>simp at hi;subst hi;exact⟨c,rfl,h.1⟩
    | i+1,hi=>exact ih.2 i d (by simpa using hi)
  | [],_::_,h=>h.elim
  | _::_,[],h=>h.elim
theorem gN:∀ {cs cs':List Ac},Sk cs cs'→cs.length=cs'.length∧∀ (i:Nat) c',cs'[i]? =some c'→∃ c,cs[i]? =some c∧Sm c c'
  | [],[],_=>⟨rfl,by simp⟩
  | c::r,c'::r',h=>by
    have ih:=gN h.2
    refine⟨by simp[ih.1],fun i d hi=>?_⟩
    match i,hi with
    | 0,hi=>simp at hi;subst hi;exact⟨c,rfl,h.1⟩
    | i+1,hi=>exact ih.2 i d (by simpa using hi)
  | [],_::_,h=>h.elim
  | _::_,[],h=>h.elim
theorem oM {C:Ctx} {w:World} {u:Value} {cs ds:List Ac} (h:Pc cs ds) (hr:Bk C w u (.agg cs)):Bk C w u (.agg ds)∧((Ac.agg cs).g1=true→(Ac.agg ds).g1=true):=by
  have hg:=aJ h
  cases hr with
  | agg arr _ hl hc=>
    refine⟨.agg arr ds (by rw[hl,hg.1]) fun i u c h1 h2=>?_,fun hk=>?_⟩
    ·obtain⟨c0,h3,h4⟩:=hg.2 i c h2
     exact(gP h4 (hc i u c0 h1 h3)).1
    ·simp only[Ac.g1,List.all_eq_true]at hk ⊢
     intro c hm
     obtain⟨i,hi⟩:=List.getElem?_of_mem hm
     obtain⟨c0,h3,h4⟩:=hg.2 i c hi
     have af:i<arr.size:=by rw[hl];exact(Ak1.1 h3).1
     exact(gP h4 (hc i _ c0 (Array.getElem?_eq_getElem af) h3)).2 (hk c0 (Akt h3))
theorem gO {C:Ctx} {w:World} {u:Value} {a a':Ac} (h:Sm a a') (hr:Bk C w u a):Bk C w u a'∧(a.g1=true→a'.g1=true):=by
  unfold Sm at h
  split at h
  ·split at h
   ·exact oM h hr
   ·exact h.elim
  ·rcases h with rfl | ⟨rfl,rfl⟩
   ·exact⟨hr,id⟩
   ·cases hr;exact⟨.sl0 _ _ _ (Nat.zero_le _),fun _=>rfl⟩
  ·subst h;exact⟨hr,id⟩
theorem oN {C:Ctx} {w:World} {u:Value} {a a':Ac} (h:Sl a a') (hr:Bk C w u a):Bk C w u a'∧(a.g2=true→a'.g2=true):=by
  unfold Sl at h
  split at h
  ·split at h
   ·rename_i v ds _ cs
    have hg:=gN h
    cases hr with
    | tuple arr _ hl hc=>
      refine⟨.tuple arr _ (by rw[hl,hg.1]) fun i u c h1 h2=>?_,fun hk=>?_⟩
      ·obtain⟨c0,h3,h4⟩:=hg.2 i c h2
       exact(gO h4 (hc i u c0 h1 h3)).1
      ·simp only[Ac.g2,List.all_eq_true]at hk ⊢
       intro c hm
       obtain⟨i,hi⟩:=List.getElem?_of_mem hm
       obtain⟨c0,h3,h4⟩:=hg.2 i c hi
       have af:i<arr.size:=by rw[hl];exact(Ak1.1 h3).1
       exact(gO h4 (hc i _ c0 (Array.getElem?_eq_getElem af) h3)).2 (hk c0 (Akt h3))
   ·exact h.elim
  ·split at h
   ·exact oM h hr
   ·exact h.elim
  ·rcases h with rfl | ⟨rfl,rfl⟩
   ·exact⟨hr,id⟩
   ·cases hr;exact⟨.sl0 _ _ _ (Nat.zero_le _),fun _=>rfl⟩
  ·subst h;exact⟨hr,id⟩
theorem Ad.nle {P:Program} {f:FuncId} {args:List Ac} {r':Ac} (h:Ad P f args (fun r=>Sl r r')):Ad P f args (·=r'):=by
  intro A w vs hA hv
  refine(h A w vs hA hv).mono fun e w' ⟨v,r,h1,h2,h3,h4,h5⟩=>?_
  have:=oN h2 h5
  exact⟨v,r',h1,rfl,this.2 h3,h4,this.1⟩
theorem Ad.Ab2 {P:Program} {f:FuncId} {args args':List Ac} {R:Ac→Prop} (hn:Sk args args') (h:Ad P f args' R):Ad P f args R:=by
  intro A w vs hA hv
  refine h A w vs hA ?_
  have hg:=gN hn
  refine⟨by rw[hv.1,hg.1],fun i v a h1 h2=>?_⟩
  obtain⟨c,h3,h4⟩:=hg.2 i a h2
  exact(gO h4 (hv.2 i v c h1 h3)).1
theorem x3 (l:List Int) (a:Int):l.map Bb++[[.int .i64 a]]=(l++[a]).map Bb:=by simp[Bb]
theorem x1 (l:List Int) (i:Nat) (a:Int):(l.map Bb).set i [.int .i64 a]=(l.set i a).map Bb:=by simp[Bb]
theorem xF (n:Nat) (a:Int):List.replicate n [Ac.int .i64 a]=(List.replicate n a).map Bb:=by simp[Bb]
def eN (b:Bool):Ac:=.bool b
theorem wD (m:List (Int×Bool)) (n:Int) (v:Bool):aset (mpE eN m) n (.bool v)=mpE eN (mset m n v):=qG eN m n v
theorem Eg {β:Type} (f:β→Ac):mpE f []=[]:=rfl
def chk {α:Type} (n:Nat) (o:Option α):Option α:=if n≤549755813888 then o else none
theorem Bx {α:Type} {n:Nat} {o:Option α} {r:α} (h:chk n o=some r):n≤549755813888∧o=some r:=by
  unfold chk at h
  split at h
  ·exact⟨by assumption,h⟩
  ·cases h
def Aax {α:Type} (n:Int) (o:Option α):Option α:=if 0≤n∧n≤549755813888 then o else none
theorem Aaw {α:Type} {n:Int} {o:Option α} {r:α} (h:Aax n o=some r):0≤n∧n≤549755813888∧o=some r:=by
  unfold Aax at h
  split at h
  ·rename_i hn;exact⟨hn.1,hn.2,h⟩
  ·cases h
def nz {α:Type} (n:Int) (o:Option α):Option α:=if n=0 then none else o
theorem oI {α:Type} {n:Int} {o:Option α} {r:α} (h:nz n o=some r):¬ n=0∧o=some r:=by
  unfold nz at h
  split at h
  ·cases h
  ·exact⟨by assumption,h⟩
theorem Uo {α:Type} {l:List α} {n:Int} {x y:α} (h:Dv l n=some x):Dv (l.set n.toNat y) n=some y:=by
  obtain⟨h1,h2,h3⟩:=fO h
  unfold Dv
  rw[if_pos h1,List.getElem?_set_self (by omega)]
open Classical in
def okB {α:Type} (c:Bool) (o:Option α):Option α:=bif c then o else none
theorem Fz {α:Type} {p:Prop} [Decidable p] {o:Option α} {r:α} (h:okB (decide p) o=some r):p∧o=some r:=by
  unfold okB at h
  by_cases hp:p
  ·rw[Akq hp]at h;exact⟨hp,h⟩
  ·rw[Akr hp]at h;cases h
theorem rA {α:Type} (l:List α) (a:α):(l++[a]).take (l.length+1)=l++[a]:=List.take_of_length_le (by simp)
theorem lX {α:Type} (l:List α) (i:Nat) (a:α):(l.set i a).take l.length=l.set i a:=List.take_of_length_le (by simp)
def eJ (r v sz:Nat) (xs:List (List Ac)) (a:Ac):Ac:=
  match a with
  | .own r' v' lo len=>if r'=r then(if v'=v then .sl sz ((xs.drop lo).take len)else a)else a
  | _=>a
def Y6 (r v sz:Nat) (xs:List (List Ac)):List Ac→List Ac
  | []=>[]
  | a::l=>eJ r v sz xs a::Y6 r v sz xs l
def S2 (r v sz:Nat) (xs:List (List Ac)) (a:Ac):Ac:=
  match a with
  | .agg cs=>.agg (Y6 r v sz xs cs)
  | a=>eJ r v sz xs a
def aP (r v sz:Nat) (xs:List (List Ac)):List Ac→List Ac
  | []=>[]
  | a::l=>S2 r v sz xs a::aP r v sz xs l
def Zt (r v sz:Nat) (xs:List (List Ac)):Fr→Fr
  | []=>[]
  | (k,a)::fr=>(k,S2 r v sz xs a)::Zt r v sz xs fr
theorem pE {W0:World} {C:Ctx} {w:World} (I:Inv W0 C w) {r v sz:Nat} {xs:List (List Ac)} (hr:C.H[r]? =some (.row v sz xs)) {u:Value} {lo len:Nat} (h:Bk C w u (.own r v lo len)) :
    Bk (C.freeze r) w u (.sl sz ((xs.drop lo).take len)):=by
  cases h with
  | own ad _ cap _ _ _ af cw cd hh=>
    obtain⟨_,hh⟩:=hh _ _ _ hr
    obtain⟨hle,hh⟩:=hh rfl
    have hlen:((xs.drop lo).take len).length=len:=by simp;omega
    obtain⟨bl,bu,hg,ho⟩:=I.objs r _ hr
    by_cases h0:len=0
    ·subst h0
     simp only[List.take_zero]
     exact .sl0 _ _ _ cd
    ·rcases hh with hh | ⟨l,hl,rfl,ct⟩
     ·omega
     rcases ho with⟨e1,_⟩ | ⟨l',arr,T',e1,e2,e3,e4,e5⟩
     ·subst e1;simp at hle;omega
     rw[hl,Akv]at e1
     subst e1
     have hmul:(lo+len)*sz≤xs.length*sz:=Nat.mul_le_mul_right _ hle
     have jf:(lo+len)*sz=lo*sz+len*sz:=Nat.add_mul _ _ _
     have key:=I.freeze r
     refine .sl _ _ _ _ _ (fun j=>arr.getD (l.base+lo*sz+j) undef) rfl hlen.symm cw cd (.inr ⟨l,hl,rfl⟩) bl
       (fun x hx=>bu x (List.mem_of_mem_drop (List.mem_of_mem_take hx))) (fun x hx=>hg x (List.mem_of_mem_drop (List.mem_of_mem_take hx))) (fun j hj=>?_) fun i k x c hx hc=>?_
     ·rw[hlen]at hj
      simp only[World.cell?,e2]
      have:l.base+lo*sz+j<arr.size:=by omega
      simp[Array.getD,this]
     ·rw[List.getElem?_take]at hx
      split at hx
      ·rename_i hi
       rw[List.getElem?_drop]at hx
       obtain⟨u,hu,di⟩:=e5 _ k x c hx hc
       have e:l.base+((lo+i)*sz+k)=l.base+lo*sz+(i*sz+k):=by rw[Nat.add_mul];omega
       rw[e]at hu
       have:arr.getD (l.base+lo*sz+(i*sz+k)) undef=u:=by rw[Array.getD_eq_getD_getElem?,hu];rfl
       rw[this]
       exact di.mono key.2
      ·cases hx
theorem dE {W0:World} {C:Ctx} {w:World} (I:Inv W0 C w) {r v sz:Nat} {xs:List (List Ac)} (hr:C.H[r]? =some (.row v sz xs)) {u:Value} {a:Ac} (h:Bk C w u a) :
    Bk (C.freeze r) w u (eJ r v sz xs a):=by
  have key:=I.freeze r
  unfold eJ
  split
  ·split
   ·rename_i e
    split
    ·rename_i e2
     subst e e2
     exact pE I hr h
    ·exact h.mono key.2
   ·exact h.mono key.2
  ·exact h.mono key.2
theorem dA (r v sz:Nat) (xs:List (List Ac)):∀ (l:List Ac),(Y6 r v sz xs l).length=l.length∧∀ (i:Nat) c,(Y6 r v sz xs l)[i]? =some c→∃ c0,l[i]? =some c0∧c=eJ r v sz xs c0
  | []=>⟨rfl,by simp[Y6]⟩
  | a::l=>by
    have ih:=dA r v sz xs l
    refine⟨by simp[Y6,ih.1],fun i c hi=>?_⟩
    match i,hi with
    | 0,hi=>simp only[Y6,List.getElem?_cons_zero,Akv]at hi;exact⟨a,rfl,hi.symm⟩
    | i+1,hi=>simp only[Y6,List.getElem?_cons_succ]at hi;simpa using ih.2 i c hi
theorem dD {W0:World} {C:Ctx} {w:World} (I:Inv W0 C w) {r v sz:Nat} {xs:List (List Ac)} (hr:C.H[r]? =some (.row v sz xs)) {u:Value} {a:Ac} (h:Bk C w u a) :
    Bk (C.freeze r) w u (S2 r v sz xs a):=by
  unfold S2
  split
  ·rename_i cs
   have hg:=dA r v sz xs cs
   cases h with
   | agg arr _ hl hc=>
     refine .agg arr _ (by rw[hl,hg.1]) fun i u c h1 h2=>?_
     obtain⟨c0,h3,rfl⟩:=hg.2 i c h2
     exact dE I hr (hc i u c0 h1 h3)
  ·exact dE I hr h
theorem lB (r v sz:Nat) (xs:List (List Ac)):∀ (l:List Ac),(aP r v sz xs l).length=l.length∧∀ (i:Nat) c,(aP r v sz xs l)[i]? =some c→∃ c0,l[i]? =some c0∧c=S2 r v sz xs c0
  | []=>⟨rfl,by simp[aP]⟩
  | a::l=>by
    have ih:=lB r v sz xs l
    refine⟨by simp[aP,ih.1],fun i c hi=>?_⟩
    match i,hi with
    | 0,hi=>simp only[aP,List.getElem?_cons_zero,Akv]at hi;exact⟨a,rfl,hi.symm⟩
    | i+1,hi=>simp only[aP,List.getElem?_cons_succ]at hi;simpa using ih.2 i c hi
theorem iF (r v sz:Nat) (xs:List (List Ac)):∀ (fr:Fr) (t:Nat),get (Zt r v sz xs fr) t=S2 r v sz xs (get fr t)
  | [],t=>rfl
  | (k,a)::fr,t=>by
    have ih:=iF r v sz xs fr t
    simp only[Zt,get]at ih ⊢
    split
    ·rfl
    ·exact ih
def Mu (r v sz:Nat) (xs:List (List Ac)):List (Int×Ac)→List (Int×Ac)
  | []=>[]
  | (k,a)::es=>(k,S2 r v sz xs a)::Mu r v sz xs es
theorem kY (r v sz:Nat) (xs:List (List Ac)):∀ (l:List (Int×Ac)) (i:Nat),(Mu r v sz xs l)[i]? =(l[i]?).map fun p=>(p.1,S2 r v sz xs p.2)
  | [],i=>by simp[Mu]
  | (k,a)::es,0=>by simp[Mu]
  | (k,a)::es,i+1=>by simp[Mu,kY r v sz xs es i]
theorem iJ {r v sz:Nat} {xs:List (List Ac)} {l:List (Int×Ac)} {i:Nat} {p:Int×Ac} (h:(Mu r v sz xs l)[i]? =some p):∃ p0,l[i]? =some p0∧p=(p0.1,S2 r v sz xs p0.2):=by
  rw[kY]at h
  cases hc:l[i]? with
  | none=>rw[hc]at h;cases h
  | some c0=>rw[hc]at h;exact⟨c0,rfl,(Ak0 h).symm⟩
theorem iL (r v sz:Nat) (xs:List (List Ac)):∀ l:List (Int×Ac),(Mu r v sz xs l).map (·.1)=l.map (·.1)
  | []=>rfl
  | (k,a)::es=>by simp[Mu,iL r v sz xs es]
theorem kX (r v sz:Nat) (xs:List (List Ac)):∀ l:List (Int×Ac),(Mu r v sz xs l).length=l.length
  | []=>rfl
  | (k,a)::es=>by simp[Mu,kX r v sz xs es]
theorem Qg.frz {q:Bool} {r v sz:Nat} {xs:List (List Ac)} {en:Array MapEntry} {cl:Nat} {es:List (Int×Ac)} (h:Qg q en cl es):Qg q en cl (Mu r v sz xs es):=
  ⟨by rw[kX];exact h.size,fun i e p a b=>by
    obtain⟨p0,h1,rfl⟩:=iJ b
    exact h.keys i e p0 a h1,by rw[iL];exact h.nodup,h.born,h.bnodup⟩
def iI (r v sz:Nat) (xs:List (List Ac)) (o:A2):A2:=
  match o with
  | .box cs=>.box (Y6 r v sz xs cs)
  | .mpo q es=>.mpo q (Mu r v sz xs es)
  | o=>o
def Ke (r v sz:Nat) (xs:List (List Ac)):List A2→List A2
  | []=>[]
  | o::H=>iI r v sz xs o::Ke r v sz xs H
theorem dC (r v sz:Nat) (xs:List (List Ac)):∀ (H:List A2) (i:Nat),(Ke r v sz xs H)[i]? =(H[i]?).map (iI r v sz xs)
  | [],i=>by simp[Ke]
  | o::H,0=>by simp[Ke]
  | o::H,i+1=>by simp[Ke,dC r v sz xs H i]
theorem dB (r v sz:Nat) (xs:List (List Ac)):∀ H:List A2,(Ke r v sz xs H).length=H.length
  | []=>rfl
  | o::H=>by simp[Ke,dB r v sz xs H]
def Ctx.Ea (C:Ctx) (r v sz:Nat) (xs:List (List Ac)):Ctx:={C.freeze r with H:=Ke r v sz xs (C.H.set r .gone)}
theorem Inv.Ea {W0:World} {C:Ctx} {w:World} (I:Inv W0 C w) {r v sz:Nat} {xs:List (List Ac)} (hr:C.H[r]? =some (.row v sz xs)) :
    Inv W0 (C.Ea r v sz xs) w∧Fl (C.freeze r) w (C.Ea r v sz xs) w:=by
  have key:=I.freeze r
  have m:Fl (C.freeze r) w (C.Ea r v sz xs) w:=by
    refine⟨fun b hb=>⟨hb,rfl⟩,by simp[Ctx.Ea,dB,Ctx.freeze],rfl,fun r' ff=>?_⟩
    obtain⟨o,ho,bc⟩:=ff
    have hg:(C.Ea r v sz xs).H[r']? =some (iI r v sz xs o):=by
      show(Ke r v sz xs (C.H.set r .gone))[r']? =_
      rw[dC,show(C.H.set r .gone)[r']? =some o from ho];rfl
    unfold D2
    rw[hg,ho]
    cases o with
    | box cs=>exact ⟨⟨cs,rfl⟩,rfl⟩
    | row v' sz' xs'=>exact .inl ⟨xs',rfl,Nat.le_refl _,rfl⟩
    | mp es=>exact ⟨⟨_,rfl,rfl⟩,rfl⟩
    | mpo q es=>exact ⟨⟨_,rfl,rfl⟩,rfl⟩
    | it l c=>exact ⟨⟨l,c,rfl⟩,rfl⟩
    | lp=>exact ⟨⟨_,rfl,rfl⟩,rfl⟩
    | gone=>trivial
    | resv=>exact absurd rfl bc
  refine⟨⟨key.1.below,key.1.sub,key.1.old,fun r' l hl=>?_,key.1.inj,fun r' o ho=>?_⟩,m⟩
  ·have:=key.1.sep r' l hl
   refine⟨?_,this.2⟩
   have h:=this.1
   simpa[Ctx.Ea,dB,Ctx.freeze]using h
  ·have fc:(Ke r v sz xs (C.H.set r .gone))[r']? =some o:=ho
   rw[dC]at fc
   cases hc:(C.H.set r .gone)[r']? with
   | none=>rw[hc]at fc;cases fc
   | some o0=>
     rw[hc]at fc
     obtain rfl:=Ak0 fc
     have h0:=key.1.objs r' o0 hc
     cases o0 with
     | box cs=>
       have bc:r'≠r:=by
         intro e;subst e
         rw[List.getElem?_set_self (Ak1.1 hr).1]at hc;cases hc
       have ia:C.H[r']? =some (.box cs):=by rw[List.getElem?_set_ne (fun h=>bc h.symm)]at hc;exact hc
       obtain⟨l,arr,T,e1,e2,e3,e4⟩:=I.objs r' _ ia
       obtain⟨l',arr',T',f1,f2,f3,f4⟩:=h0
       have hg:=dA r v sz xs cs
       refine⟨l',arr',T',f1,f2,by rw[hg.1];exact f3,fun i u c h1 h2=>?_⟩
       obtain⟨c0,h3,rfl⟩:=hg.2 i c h2
       have hl:l=l':=by
         have:(C.freeze r).ρ r'=C.ρ r':=by simp only[Ctx.freeze];rw[if_neg bc]
         rw[this,e1]at f1;exact Ak0 f1
       subst hl
       rw[e2]at f2
       simp only[Akv,Obj.cells.injEq]at f2
       obtain⟨rfl,rfl,_⟩:=f2
       exact(dE I hr (e4 i u c0 h1 h3)).mono m
     | mpo q es=>
       have bc:r'≠r:=by
         intro e;subst e
         rw[List.getElem?_set_self (Ak1.1 hr).1]at hc;cases hc
       have ia:C.H[r']? =some (.mpo q es):=by rw[List.getElem?_set_ne (fun h=>bc h.symm)]at hc;exact hc
       obtain⟨l,en,cl,e1,e2,e3,e4⟩:=I.objs r' _ ia
       have hρ:(C.Ea r v sz xs).ρ r'=C.ρ r':=by
         show(C.freeze r).ρ r'=C.ρ r'
         simp only[Ctx.freeze];rw[if_neg bc]
       refine⟨l,en,cl,by rw[hρ];exact e1,e2,e3.frz,fun i e p h1 h2=>?_⟩
       obtain⟨p0,h3,rfl⟩:=iJ h2
       exact(dD I hr (e4 i e p0 h1 h3)).mono m
     | _=>exact h0.mono m rfl fun _ _=>rfl
theorem Sub.Aae {outer:List Fr} {fr:Fr} {H:List A2} (r:Nat) {es:List (Int×Ac)} (hr:H[r]? =some (.mpo false es)) (hg:∀ p∈es,Ac.g1 p.2=true):Sub outer fr H fr (H.set r (.mp es)):=by
  intro W0 A0 ds n outs a w R
  obtain⟨C,rfl,rfl,I,hF,hO,hn,hd⟩:=R.ex
  obtain⟨l,en,cl,e1,e2,e3,e4⟩:=I.objs r _ hr
  have af:r<C.H.length:=(Ak1.1 hr).1
  have key:=I.put hr e1 (w':=w) (o':=.mp es) (fun _ _=>rfl) rfl I.below (by
    unfold D2
    simp only[Ctx.set,List.getElem?_set_self af]
    exact⟨⟨_,hr,rfl⟩,trivial⟩) fun m=>⟨l,en,cl,e1,e2,e3,hg,fun i e p h1 h2=>(e4 i e p h1 h2).mono m⟩
  exact⟨C.set r (.mp es),rfl,rfl,key.1,fun t=>(hF t).mono key.2,hO.mono key.2,hn,hd⟩
theorem Sub.Ea {outer:List Fr} {fr:Fr} {H:List A2} (r:Nat) {v sz:Nat} {xs:List (List Ac)} (hr:H[r]? =some (.row v sz xs)):Sub outer fr H (Zt r v sz xs fr) (Ke r v sz xs (H.set r .gone)):=by
  intro W0 A0 ds n outs a w R
  obtain⟨C,rfl,rfl,I,hF,hO,hn,hd⟩:=R.ex
  have key:=I.freeze r
  have key2:=I.Ea hr
  refine⟨C.Ea r v sz xs,rfl,rfl,key2.1,fun t=>?_,(hO.mono key.2).mono key2.2,hn,hd⟩
  rw[iF]
  exact(dD I hr (hF t)).mono key2.2
theorem Al.Ea {P:Program} {f:Ac} {args:List Ac} {st:List Fr} {H:List A2} {K:Ac→List A2→Prop} (r:Nat) {v sz:Nat} {xs:List (List Ac)} (hr:H[r]? =some (.row v sz xs))
    (h:Al P f (aP r v sz xs args) st (Ke r v sz xs (H.set r .gone)) K):Al P f args st H K:=by
  intro W0 C w outs fv vs I hH hO hf hl hv
  subst hH
  have key:=I.freeze r
  have key2:=I.Ea hr
  have hg:=lB r v sz xs args
  refine h W0 (C.Ea r v sz xs) w outs fv vs key2.1 rfl ((hO.mono key.2).mono key2.2) ((hf.mono key.2).mono key2.2) (by rw[hl,hg.1]) fun i u a h1 h2=>?_
  obtain⟨c0,h3,rfl⟩:=hg.2 i a h2
  exact(dD I hr (hv i u c0 h1 h3)).mono key2.2
theorem rL {W0:World} {C:Ctx} {w:World} (I:Inv W0 C w) {r v lo len sz:Nat} {xs:List (List Ac)} (hr:C.H[r]? =some (.row v sz xs)) {u:Value} (hv:Bk C w u (.own r v lo len)) :
    ∃ lx,Inv W0 (C.reloc r (.row (v+1) sz ((xs.drop lo).take len)) lx) w∧Fl C w (C.reloc r (.row (v+1) sz ((xs.drop lo).take len)) lx) w∧Bk (C.reloc r (.row (v+1) sz ((xs.drop lo).take len)) lx) w u (.own r (v+1) 0 len):=by
  obtain⟨bl,bu,hg,ho⟩:=I.objs r _ hr
  have gq:∀ x∈(xs.drop lo).take len,x∈xs:=fun x hx=>List.mem_of_mem_drop (List.mem_of_mem_take hx)
  cases hv with
  | own ad _ cap _ _ _ af cw cd hh=>
    obtain⟨_,hh⟩:=hh _ _ _ hr
    obtain⟨hle,hh⟩:=hh rfl
    have hlen:((xs.drop lo).take len).length=len:=by simp;omega
    have jf:(lo+len)*sz=lo*sz+len*sz:=Nat.add_mul _ _ _
    have fin:∀ (lx:Option Loc),(cap=0∨∃ l,lx=some l∧ad=some ⟨l.b,l.base,none⟩∧l.base+cap*sz≤l.cap)→
     Bk (C.reloc r (.row (v+1) sz ((xs.drop lo).take len)) lx) w (.slice ad len cap) (.own r (v+1) 0 len):=by
      intro lx hc
      have kj:(C.H.set r (.row (v+1) sz ((xs.drop lo).take len)))[r]? =some (.row (v+1) sz ((xs.drop lo).take len)):=List.getElem?_set_self (Ak1.1 hr).1
      refine .own _ _ _ _ _ _ ⟨_,kj,by simp⟩ cw cd fun v' sz' xs' h'=>?_
      have h'':(C.H.set r (.row (v+1) sz ((xs.drop lo).take len)))[r]? =some (.row v' sz' xs'):=h'
      rw[kj,Akv,A2.row.injEq]at h''
      obtain⟨rfl,rfl,rfl⟩:=h''
      refine⟨Nat.le_refl _,fun _=>⟨by omega,?_⟩⟩
      rcases hc with hc | ⟨l,rfl,rfl,h3⟩
      ·exact .inl hc
      ·refine .inr ⟨l,by simp[Ctx.reloc],by simp,by rw[Nat.zero_add];exact h3⟩
    rcases hh with rfl | ⟨l,hl,rfl,ct⟩
    ·have h0:len=0:=by omega
     subst h0
     have key:=I.reloc hr (Nat.lt_succ_self v) (v':=v+1) (sz':=sz) (xs':=(xs.drop lo).take 0) none (fun _ _ _=>rfl) (Nat.le_refl _) I.below (fun l h=>by cases h) fun m=>
       ⟨bl,by simp,by simp,.inl ⟨by simp,by simp[Ctx.reloc]⟩⟩
     exact⟨none,key.1,key.2,fin none (.inl rfl)⟩
    ·have hs:=I.sep r l hl
     have key:=I.reloc hr (Nat.lt_succ_self v) (v':=v+1) (sz':=sz) (xs':=(xs.drop lo).take len) (some ⟨l.b,l.base+lo*sz,l.cap⟩) (fun _ _ _=>rfl) (Nat.le_refl _) I.below (fun l' h=>by
       rw[Akv]at h
       subst h
       exact⟨hs.2.1,hs.2.2.1,hs.2.2.2,fun r' l' bc kd e=>bc (I.inj _ _ _ _ kd hl e)⟩) fun m=>by
         refine⟨bl,fun x hx=>bu x (gq x hx),fun x hx=>hg x (gq x hx),?_⟩
         rcases ho with⟨e1,e1'⟩ | ⟨l',arr,T',e1,e2,e3,e4,e5⟩
         ·rw[hl]at e1';cases e1'
         rw[hl,Akv]at e1
         subst e1
         have hmul:(lo+len)*sz≤xs.length*sz:=Nat.mul_le_mul_right _ hle
         refine .inr ⟨⟨l.b,l.base+lo*sz,l.cap⟩,arr,T',by simp[Ctx.reloc],e2,e3,?_,fun i k x c hx hc=>?_⟩
         ·show l.base+lo*sz+_≤l.cap
          rw[hlen];omega
         ·rw[List.getElem?_take]at hx
          split at hx
          ·rw[List.getElem?_drop]at hx
           obtain⟨u',re,di⟩:=e5 _ k x c hx hc
           refine⟨u',?_,di.mono m⟩
           rw[← re]
           show arr[l.base+lo*sz+(i*sz+k)]? =_
           congr 1
           rw[Nat.add_mul];omega
          ·cases hx
     refine⟨_,key.1,key.2,fin _ (.inr ⟨_,rfl,rfl,?_⟩)⟩
     show l.base+lo*sz+cap*sz≤l.cap
     have:(lo+cap)*sz=lo*sz+cap*sz:=Nat.add_mul _ _ _
     omega
theorem Sub.window {outer:List Fr} {fr:Fr} {H:List A2} (k:Nat) {r v lo len sz:Nat} {xs:List (List Ac)} (hk:get fr k= .own r v lo len) (hr:H[r]? =some (.row v sz xs)) :
    Sub outer fr H ((k,.own r (v+1) 0 len)::fr) (H.set r (.row (v+1) sz ((xs.drop lo).take len))):=by
  intro W0 A0 ds n outs a w R
  obtain⟨C,rfl,rfl,I,hF,hO,hn,hd⟩:=R.ex
  have hv:=hF k
  rw[hk]at hv
  obtain⟨lx,I',m,hu⟩:=rL I hr hv
  refine⟨C.reloc r (.row (v+1) sz ((xs.drop lo).take len)) lx,rfl,rfl,I',fun t=>?_,hO.mono m,hn,hd⟩
  simp only[get]
  split
  ·rename_i e;subst e;exact hu
  ·exact(hF t).mono m
theorem Inv.retell {W0:World} {C:Ctx} {w:World} (I:Inv W0 C w) {b j:Nat} {cs:List Ac} {c':Ac} (hb:C.H[b]? =some (.box cs))
    (hc:∀ u c,cs[j]? =some c→Bk C w u c→Fl C w (C.set b (.box (cs.set j c'))) w→Bk (C.set b (.box (cs.set j c'))) w u c') :
    Inv W0 (C.set b (.box (cs.set j c'))) w∧Fl C w (C.set b (.box (cs.set j c'))) w:=by
  obtain⟨l,arr,T,e1,e2,e3,e4⟩:=I.objs b _ hb
  have af:b<C.H.length:=(Ak1.1 hb).1
  refine I.put hb e1 (fun _ _=>rfl) rfl I.below ?_ fun m=>?_
  ·unfold D2
   simp only[Ctx.set,List.getElem?_set_self af]
   exact⟨⟨cs,hb⟩,trivial⟩
  ·refine⟨l,arr,T,e1,e2,by rw[e3,List.length_set],fun i u c h1 h2=>?_⟩
   rw[List.getElem?_set]at h2
   split at h2
   ·rename_i e
    subst e
    split at h2
    ·rename_i hj
     obtain rfl:=Ak0 h2
     have hcj:cs[j]? =some cs[j]:=Aks hj
     exact hc u _ hcj (e4 j u _ h1 hcj) m
    ·cases h2
   ·exact(e4 i u c h1 h2).mono m
theorem Sub.Abt {outer:List Fr} {fr:Fr} {H:List A2} (b j sz:Nat) {cs:List Ac} (hb:H[b]? =some (.box cs)) (hj:cs[j]? =some .nils) (bu:1≤sz) :
    Sub outer fr H fr ((H++[A2.row 0 sz []]).set b (.box (cs.set j (.own H.length 0 0 0)))):=by
  intro W0 A0 ds n outs a w R
  obtain⟨C,rfl,rfl,I,hF,hO,hn,hd⟩:=R.ex
  have bj:Oz C.H C.H.length:=.inl rfl
  have key:=I.ghost _ bj (.row 0 sz []) (fun _=>⟨bu,by simp,by simp,.inl ⟨rfl,I.tP bj⟩⟩)
  have hH:(C.ghost C.H.length (.row 0 sz [])).H=C.H++[.row 0 sz []]:=by simp[Ctx.ghost,Ha]
  have af:b<C.H.length:=(Ak1.1 hb).1
  have ee:(C.ghost C.H.length (.row 0 sz [])).H[b]? =some (.box cs):=by rw[hH,List.getElem?_append_left af];exact hb
  have key2:=key.1.retell (j:=j) (c':=.own C.H.length 0 0 0) ee fun u c hc hu m=>by
    rw[hj]at hc
    obtain rfl:=Ak0 hc
    cases hu
    have kj:((C.ghost C.H.length (.row 0 sz [])).set b (.box (cs.set j (.own C.H.length 0 0 0)))).H[C.H.length]? =some (.row 0 sz []):=by
      simp only[Ctx.set];rw[List.getElem?_set_ne (by omega),hH,List.getElem?_append_right (Nat.le_refl _)];simp
    refine .own _ _ _ _ _ _ ⟨_,kj,by simp⟩ (Nat.le_refl _) (Nat.zero_le _) fun v' sz' xs' h'=>?_
    rw[kj,Akv,A2.row.injEq]at h'
    obtain⟨rfl,rfl,rfl⟩:=h'
    exact⟨Nat.le_refl _,fun _=>⟨by simp,.inl rfl⟩⟩
  have mm:=key.2.trans key2.2
  refine⟨(C.ghost C.H.length (.row 0 sz [])).set b (.box (cs.set j (.own C.H.length 0 0 0))),?_,rfl,key2.1,fun t=>(hF t).mono mm,hO.mono mm,hn,hd⟩
  simp only[Ctx.set,hH]
attribute [go_sem] Nat.lt_irrefl gt_iff_lt ge_iff_le or_self false_or or_false true_or or_true Nat.le_refl natCast_succ List.take_length if_true if_false and_true true_and and_self and_false false_and not_true_eq_false not_false_eq_true ne_eq Nat.zero_add Nat.add_zero Nat.sub_zero Nat.zero_le List.length_cons List.length_nil Akw Aky List.length_set Akx List.getElem?_cons_zero List.getElem?_cons_succ List.getElem?_nil List.take_zero List.take_succ_cons List.take_nil List.drop_zero List.drop_succ_cons List.drop_nil List.cons_append List.nil_append List.append_nil List.set_cons_zero List.set_cons_succ List.all_cons List.all_nil List.headD_cons List.getD_cons_zero List.getD_cons_succ Aku Option.bind_none Option.map_some Option.map_none Akv Bool.and_true Bool.true_and Bool.false_and Bool.and_false Bool.and_self Bool.not_true Bool.not_false Bool.and_eq_true Bool.false_eq_true Bool.true_eq_false cond_true cond_false decide_true decide_false forall_const false_implies true_implies implies_true Int.toNat_natCast mD Aaf uP v8 Bb eN x3 x1 xF wD List.map_cons List.map_nil rA lX Int.le_refl iI Ke eJ S2 Y6 aP Zt
end Go.Ab
namespace Go.Ab
open Go
theorem B1 {α:Type} {n:Nat} {o:Option α} (h:n≤549755813888):chk n o=o:=if_pos h
theorem gM {α:Type} {n:Int} {o:Option α} (h:n≠0):nz n o=o:=if_neg h
theorem Nh {α:Type} {p:Prop} [Decidable p] {o:Option α} (h:p):okB (decide p) o=o:=by rw[okB,Akq h];rfl
theorem Aav {α:Type} {n:Int} {o:Option α} (h:0≤n∧n≤549755813888):Aax n o=o:=if_pos h
section
variable {α σ ρ:Type} {step:Nat→α→σ→Option (Out σ ρ)}
theorem iN (l:List α) (I:Nat→σ→Prop) (R:ρ→Prop) (hs:∀ k x s,l[k]? =some x→I k s→(∃ s',step k x s=some (.next s')∧I (k+1) s')∨(∃ r,step k x s=some (.ret r)∧R r)) :
    ∀ (n k:Nat) (s:σ),l.length - k=n→k≤l.length→I k s→(∃ s',An step k (l.drop k) s=some (.next s')∧I l.length s')∨(∃ r,An step k (l.drop k) s=some (.ret r)∧R r)
  | 0,k,s,hn,hk,hI=>by
    have:k=l.length:=by omega
    subst this
    rw[List.drop_length]
    exact .inl ⟨s,rfl,hI⟩
  | n+1,k,s,hn,hk,hI=>by
    have af:k<l.length:=by omega
    rw[List.drop_eq_getElem_cons af]
    rcases hs k _ s (Aks af) hI with⟨s',h1,h2⟩ | ⟨r,h1,h2⟩
    ·rcases iN l I R hs n (k+1) s' (by omega) af h2 with⟨s2,h3,h4⟩ | ⟨r,h3,h4⟩
     ·exact .inl ⟨s2,by rw[An,h1];exact h3,h4⟩
     ·exact .inr ⟨r,by rw[An,h1];exact h3,h4⟩
    ·exact .inr ⟨r,by rw[An,h1];rfl,h2⟩
theorem E9 {l:List α} {s:σ} (I:Nat→σ→Prop) (R:ρ→Prop) (h0:I 0 s) (hs:∀ k x s,l[k]? =some x→I k s→(∃ s',step k x s=some (.next s')∧I (k+1) s')∨(∃ r,step k x s=some (.ret r)∧R r)) :
    (∃ s',An step 0 l s=some (.next s')∧I l.length s')∨(∃ r,An step 0 l s=some (.ret r)∧R r):=
  iN l I R hs _ 0 s rfl (Nat.zero_le _) h0
theorem Eb {l:List α} {s:σ} (I:Nat→σ→Prop) (h0:I 0 s) (hs:∀ k x s,l[k]? =some x→I k s→∃ s',step k x s=some (.next s')∧I (k+1) s') :
    ∃ s',An step 0 l s=some (.next s')∧I l.length s':=by
  rcases E9 (ρ:=ρ) I (fun _=>False) h0 (fun k x s h1 h2=>.inl (hs k x s h1 h2))with h | ⟨r,_,h⟩
  ·exact h
  ·exact h.elim
theorem Tw {n k:Nat} {u x:Unit} (h:(List.replicate n u)[k]? =some x):k<n:=by
  have:=(Ak1.1 h).1;simpa using this
theorem Xe {n:Nat} {s:σ} {step:Nat→Unit→σ→Option (Out σ ρ)} (hn:n≤9223372036854775807) (I:Nat→σ→Prop) (R:ρ→Prop) (h0:I 0 s)
    (hs:∀ k s,k<n→I k s→(∃ s',step k () s=some (.next s')∧I (k+1) s')∨(∃ r,step k () s=some (.ret r)∧R r)) :
    (∃ s',Ki step n s=some (.next s')∧I n s')∨(∃ r,Ki step n s=some (.ret r)∧R r):=by
  rw[Ki,if_pos hn]
  have:=E9 (step:=step) (l:=List.replicate n ()) I R h0 (fun k x s h1 h2=>hs k s (Tw h1) h2)
  rwa [Akx]at this
theorem aQ {n:Nat} {s:σ} {step:Nat→Unit→σ→Option (Out σ ρ)} (hn:n≤9223372036854775807) (I:Nat→σ→Prop) (h0:I 0 s)
    (hs:∀ k s,k<n→I k s→∃ s',step k () s=some (.next s')∧I (k+1) s'):∃ s',Ki step n s=some (.next s')∧I n s':=by
  rcases Xe (ρ:=ρ) hn I (fun _=>False) h0 (fun k s h1 h2=>.inl (hs k s h1 h2))with h | ⟨r,_,h⟩
  ·exact h
  ·exact h.elim
theorem Df {β:Type} {step:Nat→α→List β→Option (Out (List β) ρ)} {l:List α} (p:α→Bool) (g:α→β) (hl:l.length≤549755813888)
    (hs:∀ k x s,x∈l→step k x s=bif p x then chk (s.length+1) (some (.next (s++[g x])))else some (.next s)) :
    An step 0 l []=some (.next ((l.filter p).map g)):=by
  obtain⟨s',h1,h2⟩:=Eb (step:=step) (l:=l) (s:=[]) (fun k s=>s=((l.take k).filter p).map g) (by simp) (fun k x s hk hI=>by
    have af:=(Ak1.1 hk).1
    have hlen:s.length≤k:=by
      rw[hI,Aky]
      exact Nat.le_trans (List.length_filter_le _ _) (by simp;omega)
    rw[hs k x s (Akt hk)]
    cases hp:p x with
    | true=>
      refine⟨s++[g x],by rw[cond_true,B1 (by omega)],?_⟩
      rw[Bz hk,List.filter_append,List.filter_cons_of_pos hp,List.filter_nil,List.map_append,hI];rfl
    | false=>
      refine⟨s,rfl,?_⟩
      rw[Bz hk,List.filter_append,List.filter_cons_of_neg (by simp[hp]),List.filter_nil,List.append_nil,hI])
  rw[h1,h2,List.take_length]
theorem Fk {step:Nat→α→Unit→Option (Out Unit ρ)} (p:α→Bool) (g:α→ρ):∀ {l:List α} {k:Nat},(∀ k x,x∈l→step k x ()=bif p x then some (.ret (g x))else some (.next ()))→
    An step k l ()=match l.find? p with | some x=>some (.ret (g x)) | none=>some (.next ())
  | [],k,_=>rfl
  | x::l,k,hs=>by
    rw[An,hs k x (by simp)]
    cases hp:p x with
    | true=>simp[hp,Out.cont]
    | false=>
      rw[List.find?_cons_of_neg (by simp[hp])]
      exact Fk p g (fun k y hy=>hs k y (List.mem_cons_of_mem _ hy))
theorem Up {step:Nat→α→Unit→Option (Out Unit ρ)}:∀ {l:List α} {k:Nat},An step k l ()=some (.next ())↔∀ i x,l[i]? =some x→step (k+i) x ()=some (.next ())
  | [],k=>by simp[An]
  | x::l,k=>by
    rw[An]
    constructor
    ·intro h i y hy
     obtain⟨o,h1,h2⟩:=Ah h
     cases o with
     | ret r=>cases h2
     | next u=>
       match i,hy with
       | 0,hy=>simp at hy;subst hy;exact h1
       | i+1,hy=>
         have:=(Up (step:=step)).1 h2 i y (by simpa using hy)
         rw[show k+(i+1)=k+1+i by omega];exact this
    ·intro h
     have h0:=h 0 x (by simp)
     rw[Nat.add_zero]at h0
     rw[h0]
     show An step (k+1) l ()=_
     exact(Up (step:=step)).2 fun i y hy=>by
       have:=h (i+1) y (by simpa using hy)
       rwa [show k+(i+1)=k+1+i by omega]at this
end
theorem Q7 {α:Type} {l:List α} {n:Int} {k:Nat} {x:α} (hn:n=(k:Int)) (hx:l[k]? =some x):Dv l n=some x:=by subst hn;exact A9 hx
theorem aN {α:Type} {l:List α} {k:Nat} (hk:k<l.length):Dv l (k:Int)=some l[k]:=A9 (Aks hk)
theorem Ra {k:Nat} (h0:0<k) (hk:k≤9223372036854775807):IntKind.i64.wrap ((k:Int) - 1)=((k - 1:Nat):Int):=by
  rw[wrap_i64]<;>omega
theorem O3 {k:Nat} (hk:k<9223372036854775807):IntKind.i64.wrap ((k:Int)+1)=((k+1:Nat):Int):=by
  rw[wrap_i64]<;>omega
theorem Du {α β:Type} {o:Option α} {f:α→Option β} {x:α} {y:β} (h1:o=some x) (h2:f x=some y):o.bind f=some y:=by rw[h1];exact h2
def I64 (n:Int):Prop:= -9223372036854775808≤n∧n≤9223372036854775807
theorem wf_i64 {n:Int} (h:(Lit.int .i64 n).wf=true):I64 n:=by
  simp[Lit.wf,IntKind.min,IntKind.max,IntKind.signed,IntKind.bits]at h;exact⟨by omega,by omega⟩
def OkL {α:Type} (p:α→Prop) (l:List α):Prop:=l.length≤9223372036854775807∧∀ a∈l,p a
end Go.Ab
namespace Go.Ab
open Go
section
variable {β:Type}
def mkeys (m:List (Int×β)):List Int:=m.map (·.1)
theorem Yb (d:β):∀ (m:List (Int×β)) (k:Int) (v:β) (n:Int),mget d (mset m k v) n=if k=n then v else mget d m n
  | [],k,v,n=>rfl
  | (j,u)::r,k,v,n=>by
    simp only[mset]
    by_cases h:j=k
    ·subst h
     simp only[if_true,mget]
     split<;>rfl
    ·rw[if_neg h]
     simp only[mget]
     by_cases h2:j=n
     ·subst h2
      rw[if_pos rfl,if_neg (fun e=>h e.symm),if_pos rfl]
     ·rw[if_neg h2,if_neg h2,Yb d r k v n]
theorem gT:∀ (m:List (Int×β)) (n:Int),mhas m n=true↔n∈mkeys m
  | [],n=>by simp[mhas,mkeys]
  | (j,u)::r,n=>by
    have ih:=gT r n
    simp only[mhas,mkeys,List.map_cons,List.mem_cons]at ih ⊢
    by_cases h:j=n
    ·simp[h]
    ·rw[if_neg h,ih]
     constructor
     ·exact .inr
     ·rintro(e | e)
      ·exact absurd e.symm h
      ·exact e
theorem Vb (j:Int) (u:β) (r:List (Int×β)):mkeys ((j,u)::r)=j::mkeys r:=rfl
theorem Ya:∀ (m:List (Int×β)) (k:Int) (v:β),mkeys (mset m k v)=if k∈mkeys m then mkeys m else mkeys m++[k]
  | [],k,v=>by simp[mset,mkeys]
  | (j,u)::r,k,v=>by
    have ih:=Ya r k v
    simp only[mset]
    by_cases h:j=k
    ·subst h
     rw[if_pos rfl,Vb,Vb,if_pos (by simp)]
    ·rw[if_neg h,Vb,Vb,ih]
     have bc:¬ k=j:=fun e=>h e.symm
     by_cases h2:k∈mkeys r
     ·rw[if_pos h2,if_pos (List.mem_cons_of_mem _ h2)]
     ·rw[if_neg h2,if_neg (fun hm=>by rcases List.mem_cons.1 hm with e | e;exact bc e;exact h2 e),List.cons_append]
theorem rX {m:List (Int×β)} (h:(mkeys m).Nodup) (k:Int) (v:β):(mkeys (mset m k v)).Nodup:=by
  rw[Ya]
  split
  ·exact h
  ·rename_i hk
   rw[List.nodup_append]
   refine⟨h,by simp,?_⟩
   rintro a ha b hb rfl
   simp at hb;subst hb;exact hk ha
theorem oO (m:List (Int×β)) (k:Int) (v:β):(mset m k v).length=if mhas m k then m.length else m.length+1:=by
  have h:=congrArg List.length (Ya m k v)
  have h2:=gT m k
  by_cases hk:k∈mkeys m
  ·rw[if_pos hk]at h
   rw[if_pos (h2.2 hk)]
   simpa[mkeys]using h
  ·rw[if_neg hk]at h
   rw[if_neg (fun e=>hk (h2.1 e))]
   simpa[mkeys]using h
end
section
variable {α ρ:Type} {step:α→Unit→Option (Out Unit ρ)}
end
theorem Hd {σ ρ:Type} {step:σ→Option (Out σ ρ)} (I:σ→Prop) (R:ρ→Prop) (μ:σ→Nat) (hs:∀ s,I s→(∃ s',step s=some (.next s')∧I s'∧μ s'< μ s)∨(∃ r,step s=some (.ret r)∧R r)) :
    ∀ (n:Nat) (s:σ),I s→μ s<n→∃ r,D6 step n s=some (.ret r)∧R r
  | 0,s,_,h=>by omega
  | n+1,s,hI,h=>by
    rcases hs s hI with⟨s',h1,h2,h3⟩ | ⟨r,h1,h2⟩
    ·obtain⟨r,h4,h5⟩:=Hd I R μ hs n s' h2 (by omega)
     exact⟨r,by rw[D6,h1];exact h4,h5⟩
    ·exact⟨r,by rw[D6,h1];rfl,h2⟩
end Go.Ab
namespace Go.Ab
open Go Go.RowKit
theorem AWP.tR {md:Option Nat} {P:Program} {n:Nat} {Q:Exit→Fr→List A2→Prop} {outer:List Fr} {fr:Fr} {H:List A2} {ι:Type} {c:Code} (F:ι→Fr) (HH:ι→List A2) (J:ι→Prop) (μ:ι→Nat) (x0:ι) (h0:J x0) (xu:fX fr (F x0)) (xq:Yp H (HH x0))
    (hb:∀ x,Nt (HH x).length (F x)=true∧jZ (HH x).length (HH x)=true∧outer.all (Nt (HH x).length)=true)
    (round:∀ x,J x→AWP md P n c (qthen (fun fr' H'=>∃ x',J x'∧μ x'< μ x∧∃ fr2 H2,Sub outer fr' H' fr2 H2∧fX fr2 (F x')∧Yp H2 (HH x')) Q) outer (F x) (HH x)):AWP md P n (.loop c) Q outer fr H:=by
  refine AWP.loop F HH J μ x0 h0 (Sub.weak xq xu (.inr (hb x0))) fun x hx=>AWP.mono ?_ (round x hx)
  intro e fr' H' h
  cases e with
  | normal=>
    obtain⟨x',h1,h2,fr2,H2,h5,h3,h4⟩:=h
    exact⟨x',h1,h2,h5.trans (Sub.weak h4 h3 (.inr (hb x')))⟩
  | _=>exact h
theorem Bu.nle {P:Program} {f:FuncId} {args:List Ac} {r':Ac} (h:Bu P f args (fun r=>Sl r r')):Bu P f args (·=r'):=by
  intro A w vs hA hv
  refine(h A w vs hA hv).mono fun e w' ⟨v,r,h1,h2,h3,h4,h5⟩=>?_
  have:=oN h2 h5
  exact⟨v,r',h1,rfl,this.2 h3,h4,this.1⟩
theorem qJ (l:List Int):((l.map Bb).all fun x=>x.all Ac.f0)=true:=by simp[Bb,Ac.f0]
attribute [go_sem] rfre yK vW yJ qJ ren rens eY eD bT V7 swp Wi
end Go.Ab
namespace Go.Ab
open Go Go.RowKit Go.Sort
theorem Yd {w:World} {b off:Nat} {arr:Array Value} {T:TypeId} (h:w.heap[b]? =some (.cells arr T (0,0))):w.frozen? ⟨b,off,none⟩=false:=by
  simp[World.frozen?,h]
theorem W7 {w:World} {n blk off:Nat} {d:Array Int} {b:Nat} (hb:b≠blk):(putRow (Value.int .i64) (Sort.ahead w n) blk off d).heap[b]? =w.heap[b]?:=by
  simp only[putRow,mapBlock,heap_ahead,Array.getElem?_modify]
  rw[if_neg (fun e=>hb e.symm)]
theorem c9 {w:World} {n blk off:Nat} {d:Array Int} {arr:Array Value} {T:TypeId} (h:w.heap[blk]? =some (.cells arr T (0,0))) :
    (putRow (Value.int .i64) (Sort.ahead w n) blk off d).heap[blk]? =some (.cells (putCells (Value.int .i64) off d arr) T (0,0)):=by
  simp only[putRow,mapBlock,heap_ahead,Array.getElem?_modify,if_true,h];rfl
theorem bB {w:World} {B n blk off:Nat} {d:Array Int} (hb:B≤blk):RowKit.Below B w (putRow (Value.int .i64) (Sort.ahead w n) blk off d):=
  ⟨rfl,rfl,rfl,by simp,fun k hk=>W7 (by omega)⟩
theorem qF {w:World} {os:Array Obj} {B:Nat} (hB:B≤w.heap.size):RowKit.Below B w (grow w os):=
  ⟨rfl,rfl,rfl,by simp,fun k hk=>heap_grow_old w os (by omega)⟩
theorem Ctx.vF (C:Ctx):C.more (fun _=>False)=C:=by
  unfold Ctx.more;simp
theorem Inv.Acw {W0:World} {C:Ctx} {w w':World} (I:Inv W0 C w) (hb:RowKit.Below w.heap.size w w'):Inv W0 C w'∧Fl C w C w':=by
  have:=I.grow (fun _=>False) (fun b h=>h.elim) hb
  rwa [C.vF]at this
theorem tO {C:Ctx} {w:World} {u:Value} {r v lo len:Nat} (h:Bk C w u (.own r v lo len)):∃ a cap,u= .slice a len cap∧C.known r∧len≤cap∧cap≤maxLen∧
    ∀ v' sz xs,C.H[r]? =some (.row v' sz xs)→v≤v'∧(v=v'→lo+len≤xs.length∧(cap=0∨∃ l,C.ρ r=some l∧a=some ⟨l.b,l.base+lo*sz,none⟩∧l.base+(lo+cap)*sz≤l.cap)):=by
  cases h with
  | own a _ cap _ _ _ hk cw cd hv=>exact ⟨a,cap,rfl,hk,cw,cd,hv⟩
theorem nM {W0:World} {C:Ctx} {w:World} (I:Inv W0 C w) {r v:Nat} {zs:List Int} (hr:C.H[r]? =some (.row v 1 (zs.map Bb))) {u:Value} {len:Nat} (hu:Bk C w u (.own r v 0 len)) (hlen:len=zs.length) :
    ∃ a cap,u= .slice a zs.length cap∧zs.length≤cap∧((zs=[])∨∃ l arr T,C.ρ r=some l∧a=some ⟨l.b,l.base,none⟩∧w.heap[l.b]? =some (.cells arr T (0,0))∧arr.size=l.cap∧l.base+cap≤l.cap∧
      ∀ (i:Nat) z,zs[i]? =some z→arr[l.base+i]? =some (.int .i64 z)):=by
  subst hlen
  cases hu with
  | own a _ cap _ _ _ hk cw cd hv=>
    refine⟨a,cap,rfl,cw,?_⟩
    obtain⟨_,hv⟩:=hv _ _ _ hr
    obtain⟨_,hv⟩:=hv rfl
    obtain⟨_,_,_,ho⟩:=I.objs r _ hr
    by_cases hz:zs=[]
    ·exact .inl hz
    ·right
     have sd:0<zs.length:=List.length_pos_iff.2 hz
     rcases ho with⟨e,_⟩ | ⟨l',arr,T,e1,e2,e3,e4,e5⟩
     ·exact absurd (List.map_eq_nil_iff.1 e) hz
     ·rcases hv with hv | ⟨l,hl,ha,ct⟩
      ·omega
      rw[hl,Akv]at e1
      subst e1
      refine⟨l,arr,T,hl,by rw[ha];simp,e2,e3,by omega,fun i z hi=>?_⟩
      obtain⟨u,hu,ay⟩:=e5 i 0 (Bb z) (.int .i64 z) (by simp[hi]) rfl
      rw[show l.base+(i*1+0)=l.base+i by omega]at hu
      rw[hu]
      cases u<;>cases ay;rfl
theorem tK {W0:World} {C:Ctx} {w:World} {r:Nat} {v v':Nat} {zs zs' ws:List Int} {l:Loc} {arr:Array Value} {T:TypeId} (I:Inv W0 C w) (hl:C.ρ r=some l) (hc:w.heap[l.b]? =some (.cells arr T (0,0))) (hs:arr.size=l.cap) (ct:l.base+ws.length≤l.cap) (hle:zs'.length≤ws.length)
    (hpre:∀ (i:Nat) z,zs'[i]? =some z→ws[i]? =some z) {n:Nat} {C':Ctx} (hρ:C'.ρ r=some l):Wf C' (putRow (Value.int .i64) (Sort.ahead w n) l.b l.base ws.toArray) r (.row v' 1 (zs'.map Bb)):=by
  refine⟨Nat.le_refl _,fun x hx=>?_,fun x hx c hc=>?_,.inr ⟨l,_,T,hρ,c9 hc,by simp[putCells,hs],by simp;omega,fun i k x c hx hc=>?_⟩⟩
  ·obtain⟨z,_,rfl⟩:=List.mem_map.1 hx;rfl
  ·obtain⟨z,_,rfl⟩:=List.mem_map.1 hx
   simp[Bb]at hc;subst hc;rfl
  ·simp only[List.getElem?_map,Option.map_eq_some_iff]at hx
   obtain⟨z,hz,rfl⟩:=hx
   have hk:k=0:=by
     have:=(Ak1.1 hc).1
     simp[Bb]at this;exact this
   subst hk
   simp[Bb]at hc;subst hc
   have hi:=(Ak1.1 (hpre i z hz)).1
   refine⟨.int .i64 z,?_,.int _ _⟩
   have mz:l.base+(i*1+0)<arr.size:=by omega
   simp only[putCells,Array.getElem?_mapIdx,Array.getElem?_eq_getElem mz,Option.map_some]
   rw[if_pos (by simp;omega)]
   have e:l.base+(i*1+0) - l.base=i:=by omega
   rw[e]
   have:=hpre i z hz
   congr 2
   simp[getElem!_def,this]
section
variable {P:Program}
structure zN (P:Program) (f:FuncId):Prop where
  some:∀ (blk off cap:Nat) (zs:List Int) (w:World),Holds (Value.int .i64) w blk off zs.toArray→blk<w.heap.size→zs.length<4611686018427387904→
    Calls P f #[.slice (some ⟨blk,off,none⟩) zs.length cap] w fun e w'=>e= .returned (.tuple #[])∧∃ n os,w'=grow (putRow (Value.int .i64) (Sort.ahead w n) blk off (zs.mergeSort fun x y=>decide (x≤y)).toArray) os
  none:∀ (p:Option Addr) (cap:Nat) (w:World),Calls P f #[.slice p 0 cap] w fun e w'=>e= .returned (.tuple #[])∧w'=w
def Dk (zs:List Int):List Int:=zs.mergeSort fun x y=>decide (x≤y)
theorem Cy (zs:List Int):(Dk zs).length=zs.length:=List.length_mergeSort _
theorem iB {w:World} {l:Loc} {arr:Array Value} {T:TypeId} {zs:List Int} (hc:w.heap[l.b]? =some (.cells arr T (0,0))) (h:∀ (i:Nat) z,zs[i]? =some z→arr[l.base+i]? =some (.int .i64 z)):Holds (Value.int .i64) w l.b l.base zs.toArray:=by
  intro j hj
  have hj':j<zs.length:=by simpa using hj
  refine⟨?_,Yd hc⟩
  rw[show w.cell? ⟨l.b,l.base+j,none⟩=arr[l.base+j]? by simp[World.cell?,hc],h j _ (Aks hj')]
  simp[getElem!_def,hj']
theorem Al.Dk {f:FuncId} {r v len:Nat} {zs:List Int} {st:List Fr} {H:List A2} {K:Ac→List A2→Prop} (hc:∀ (args:Array Value) (w:World),(callFunc f args).run P w= .ok (.enter f args) w)
    (spec:zN P f) (hr:H[r]? =some (.row v 1 (zs.map Bb))) (hlen:len=zs.length) (je:len≤549755813888) (h:K (.tuple []) (H.set r (.row v 1 ((Go.Ab.Dk zs).map Bb)))):Al P (.func f []) [.own r v 0 len] st H K:=by
  intro W0 C w outs fv vs I hH hO hf hl hv
  subst hH
  cases hf with
  | func _ caps _ dx _=>
    have:caps=#[]:=Array.eq_empty_of_size_eq_zero (by simpa using dx)
    subst this
    refine .inl ⟨f,#[],rfl,hc,?_⟩
    match vs,hl with
    | [u],_=>
      have hu:=hv 0 u _ rfl rfl
      obtain⟨a,cap,rfl,mn,hz⟩:=nM I hr hu hlen
      have af:r<C.H.length:=(Ak1.1 hr).1
      rcases hz with rfl | ⟨l,arr,T,hl,rfl,aq,bu,ct,cr⟩
      ·refine(spec.none a cap w).mono fun e w' ⟨he,hw⟩=>?_
       subst hw
       have e0:Go.Ab.Dk []=[]:=by simp[Go.Ab.Dk]
       rw[e0]at h
       have hs:C.H.set r (.row v 1 (([]:List Int).map Bb))=C.H:=by
         apply List.ext_getElem?
         intro i
         rw[List.getElem?_set]
         split
         ·rename_i e;subst e;first | (rw[hr]) | (rw[if_pos af,hr])
         ·rfl
       rw[hs]at h
       exact⟨.tuple #[],.tuple [],C,he,h,rfl,.tuple _ _ rfl (by simp),I,hO⟩
      ·have hS:=I.sep r l hl
       refine(spec.some l.b l.base cap zs w (iB aq cr) hS.2.2.1 (by omega)).mono fun e w' ⟨he,n,os,hw⟩=>?_
       subst hw
       have key:=I.put (w':=putRow (Value.int .i64) (Sort.ahead w n) l.b l.base (Go.Ab.Dk zs).toArray) (o':=.row v 1 ((Go.Ab.Dk zs).map Bb)) hr hl (fun b hb=>W7 hb) (by simp) (I.below.trans (bB hS.2.1)) (by
         unfold D2
         simp only[Ctx.set,List.getElem?_set_self af]
         exact .inl ⟨_,hr,by simp[Cy],by trivial⟩) (fun m=>tK (zs:=zs) (v:=v) I hl aq bu (by rw[Cy];omega) (Nat.le_refl _) (fun i z hi=>hi) (C':=C.set r _) hl)
       have key2:=key.1.Acw (w':=grow (putRow (Value.int .i64) (Sort.ahead w n) l.b l.base (Go.Ab.Dk zs).toArray) os) (qF (Nat.le_refl _))
       exact⟨.tuple #[],.tuple [],C.set r (.row v 1 ((Go.Ab.Dk zs).map Bb)),he,h,rfl,.tuple _ _ rfl (by simp),key2.1,(hO.mono key.2).mono key2.2⟩
structure lV (P:Program) (f:FuncId):Prop where
  some:∀ (blk off cap:Nat) (zs:List Int) (w:World),Holds (Value.int .i64) w blk off zs.toArray→zs.length≤9223372036854775807→zs.length≤cap→
    Calls P f #[.slice (some ⟨blk,off,none⟩) zs.length cap] w fun e w'=>e= .returned (.slice (some ⟨blk,off,none⟩) (Lib.compact zs).length cap)∧∃ q,w'=putRow (Value.int .i64) (Sort.ahead w q) blk off (Lib.compact zs++List.replicate (zs.length - (Lib.compact zs).length) 0).toArray
  none:∀ (a:Option Addr) (cap:Nat) (w:World),Calls P f #[.slice a 0 cap] w fun e w'=>e= .returned (.slice a 0 cap)∧w'=w
theorem qA (zs:List Int):(Lib.compact zs).length≤zs.length:=by
  unfold Lib.compact Lib.compactUpTo
  rw[Aky]
  exact Nat.le_trans (List.length_filter_le _ _) (by simp)
def Cu (zs:List Int):List Int:=Lib.compact zs
theorem Al.Cu {f:FuncId} {r v len:Nat} {zs:List Int} {st:List Fr} {H:List A2} {K:Ac→List A2→Prop} (hc:∀ (args:Array Value) (w:World),(callFunc f args).run P w= .ok (.enter f args) w)
    (spec:lV P f) (hr:H[r]? =some (.row v 1 (zs.map Bb))) (hlen:len=zs.length) (je:len≤549755813888) (h:K (.own r (v+1) 0 (Go.Ab.Cu zs).length) (H.set r (.row (v+1) 1 ((Go.Ab.Cu zs).map Bb)))):Al P (.func f []) [.own r v 0 len] st H K:=by
  unfold Go.Ab.Cu at h
  intro W0 C w outs fv vs I hH hO hf hl hv
  subst hH
  cases hf with
  | func _ caps _ dx _=>
    have:caps=#[]:=Array.eq_empty_of_size_eq_zero (by simpa using dx)
    subst this
    refine .inl ⟨f,#[],rfl,hc,?_⟩
    match vs,hl with
    | [u],_=>
      have hu:=hv 0 u _ rfl rfl
      obtain⟨a,cap,rfl,mn,hz⟩:=nM I hr hu hlen
      have af:r<C.H.length:=(Ak1.1 hr).1
      rcases hz with rfl | ⟨l,arr,T,hl,rfl,aq,bu,ct,cr⟩
      ·refine(spec.none a cap w).mono fun e w' ⟨he,hw⟩=>?_
       subst hw
       have e0:Lib.compact ([]:List Int)=[]:=rfl
       rw[e0]at h
       have hρ:C.reloc r (.row (v+1) 1 (([]:List Int).map Bb)) (C.ρ r)={C with H:=C.H.set r (.row (v+1) 1 [])}:=by
         unfold Ctx.reloc
         congr 1
         funext r'
         split
         ·rename_i e;rw[e]
         ·rfl
       obtain⟨o1,o2,o3,o4⟩:=I.objs r _ hr
       have key:=I.reloc (w':=w') (v':=v+1) (sz':=1) (xs':=[]) hr (Nat.lt_succ_self v) (C.ρ r) (fun b _ _=>rfl) (Nat.le_refl _) I.below (fun l hl=>⟨(I.sep r l hl).2.1,(I.sep r l hl).2.2.1,(I.sep r l hl).2.2.2,fun r' l' bc kd e=>bc (I.inj _ _ _ _ kd hl e)⟩) (fun m=>by
         refine⟨Nat.le_refl _,by simp,by simp,?_⟩
         rcases o4 with⟨_,o4⟩ | ⟨l,arr,T,o4,o5,o6,o7,o8⟩
         ·exact .inl ⟨rfl,by show(if r=r then C.ρ r else _)=none;rw[if_pos rfl];exact o4⟩
         ·exact .inr ⟨l,arr,T,by show(if r=r then C.ρ r else _)=some l;rw[if_pos rfl];exact o4,o5,o6,by simp at o7 ⊢;omega,by simp⟩)
       refine⟨_,.own r (v+1) 0 0,C.reloc r (.row (v+1) 1 []) (C.ρ r),he,h,rfl,?_,key.1,hO.mono key.2⟩
       cases hu with
       | own _ _ _ _ _ _ hk cw cd ka=>
         have cr:(C.H.set r (.row (v+1) 1 []))[r]? =some (.row (v+1) 1 []):=List.getElem?_set_self af
         refine .own a 0 cap r (v+1) 0 ⟨_,cr,by simp⟩ (Nat.zero_le _) cd fun v' sz xs h'=>?_
         have h':(C.H.set r (.row (v+1) 1 []))[r]? =some (.row v' sz xs):=h'
         rw[cr]at h'
         simp only[Akv,A2.row.injEq]at h'
         obtain⟨rfl,rfl,rfl⟩:=h'
         refine⟨Nat.le_refl _,fun _=>⟨Nat.le_refl _,?_⟩⟩
         obtain⟨_,ka⟩:=ka _ _ _ hr
         obtain⟨_,ka⟩:=ka rfl
         rcases ka with h0 | ⟨l,h1,h2,h3⟩
         ·exact .inl h0
         ·exact .inr ⟨l,by show(if r=r then C.ρ r else _)=some l;rw[if_pos rfl];exact h1,h2,h3⟩
      ·have hS:=I.sep r l hl
       refine(spec.some l.b l.base cap zs w (iB aq cr) (by omega) mn).mono fun e w' ⟨he,n,hw⟩=>?_
       subst hw
       have dx:=qA zs
       have hwl:(Lib.compact zs++List.replicate (zs.length - (Lib.compact zs).length) (0:Int)).length=zs.length:=by simp;omega
       have key:=I.reloc (w':=putRow (Value.int .i64) (Sort.ahead w n) l.b l.base (Lib.compact zs++List.replicate (zs.length - (Lib.compact zs).length) 0).toArray) (v':=v+1) (sz':=1) (xs':=(Lib.compact zs).map Bb) hr (Nat.lt_succ_self v) (some l)
         (fun b _ hb=>W7 (hb l rfl)) (by simp) (I.below.trans (bB hS.2.1)) (fun l2 ix=>by
           obtain rfl:=Ak0 ix
           exact⟨hS.2.1,by simpa using hS.2.2.1,hS.2.2.2,fun r' l' bc kd e=>bc (I.inj _ _ _ _ kd hl e)⟩) (fun m=>
           tK (zs:=zs) (v:=v) I hl aq bu (by rw[hwl];omega) (by rw[hwl];exact dx) (fun i z hi=>by
            rw[List.getElem?_append_left (Ak1.1 hi).1];exact hi) (C':=C.reloc r _ _) (by show(if r=r then some l else _)=some l;rw[if_pos rfl]))
       refine⟨_,.own r (v+1) 0 (Lib.compact zs).length,C.reloc r (.row (v+1) 1 ((Lib.compact zs).map Bb)) (some l),he,h,rfl,?_,key.1,hO.mono key.2⟩
       obtain⟨a2,cap2,e2,hk,cw,cd,_⟩:=tO hu
       simp only[Value.slice.injEq]at e2
       obtain⟨_,_,rfl⟩:=e2
       have kn:(C.H.set r (.row (v+1) 1 ((Lib.compact zs).map Bb)))[r]? =some (.row (v+1) 1 ((Lib.compact zs).map Bb)):=List.getElem?_set_self af
       refine .own _ _ cap r (v+1) 0 ⟨_,kn,by simp⟩ (by omega) cd fun v' sz xs h'=>?_
       have h':(C.H.set r (.row (v+1) 1 ((Lib.compact zs).map Bb)))[r]? =some (.row v' sz xs):=h'
       rw[kn]at h'
       simp only[Akv,A2.row.injEq]at h'
       obtain⟨rfl,rfl,rfl⟩:=h'
       refine⟨Nat.le_refl _,fun _=>⟨by simp,.inr ⟨l,by show(if r=r then some l else _)=some l;rw[if_pos rfl],by simp,by omega⟩⟩⟩
theorem z8 {A:Nat→Prop} {w w':World} {v:Value} {T:TypeId} {sz:Nat} {xs:List (List Ac)} {news:List Value} (hA:∀ b,A b→b<w.heap.size) (hb:RowKit.Below w.heap.size w w') (bu:1≤sz) (hx:∀ x∈xs,x.length=sz) (hg:∀ x∈xs,∀ c∈x,Ac.g0 c=true)
    (ho:w'.ownsRow w.heap.size T sz v xs.length news) (ay:∀ (i k:Nat) (x:List Ac) (c:Ac),xs[i]? =some x→x[k]? =some c→∃ u,news[i*sz+k]? =some u∧Bk (Ctx.imm A) w u c) :
    ∃ C:Ctx,C.H=[.row 0 sz xs]∧C.A0=A∧C.A=A∧Inv w C w'∧Bk C w' v (.own 0 0 0 xs.length):=by
  have gr:∀ (C:Ctx),C.A=A→∀ {u c},Bk (Ctx.imm A) w u c→c.g0=true→Bk C w' u c:=fun C hC u c h hc=>
    Bk.ground (C:=Ctx.imm A) (fun b ee=>⟨by rw[hC];exact ee,hb.block b (hA b ee)⟩) h (Ac.Ib hc)
  obtain⟨hl,ho⟩:=ho
  rcases ho with⟨rfl,h0⟩ | ⟨g,cap,cur,rfl,hbase,hgb,hn,mn,ia,hcur⟩
  ·have qz:xs=[]:=List.eq_nil_of_length_eq_zero h0
   subst qz
   refine⟨⟨A,A,fun _=>none,[.row 0 sz []]⟩,rfl,rfl,rfl,⟨hb,fun b ee=>Nat.lt_of_lt_of_le (hA b ee) hb.size,fun b ee _=>ee,by simp,by simp,fun r o h=>?_⟩,?_⟩
   ·match r,h with
    | 0,h=>simp at h;subst h;exact⟨bu,by simp,by simp,.inl ⟨rfl,rfl⟩⟩
   ·refine .own none 0 0 0 0 0 ⟨_,rfl,by simp⟩ (Nat.le_refl _) (Nat.zero_le _) fun v' sz' xs' h=>?_
    simp at h;obtain⟨rfl,rfl,rfl⟩:=h
    exact⟨Nat.le_refl _,fun _=>⟨by simp,.inl rfl⟩⟩
  ·have hgl:g<w'.heap.size:=(Array.getElem?_eq_some_iff.1 hgb).1
   refine⟨⟨A,A,fun r=>if r=0 then some ⟨g,0,cur.size⟩else none,[.row 0 sz xs]⟩,rfl,rfl,rfl,⟨hb,fun b ee=>Nat.lt_of_lt_of_le (hA b ee) hb.size,fun b ee _=>ee,fun r l h=>?_,fun r r' l l' h h' _=>?_,fun r o h=>?_⟩,?_⟩
   ·simp only at h
    split at h
    ·rename_i e
     obtain rfl:=Ak0 h
     exact⟨by simp[e],hbase,hgl,fun ee=>by have:=hA _ ee;simp only at this;omega⟩
    ·cases h
   ·simp only at h h'
    split at h
    ·split at h'
     ·omega
     ·cases h'
    ·cases h
   ·match r,h with
    | 0,h=>
      simp at h;subst h
      refine⟨bu,hx,hg,.inr ⟨_,cur,T,rfl,hgb,rfl,?_,fun i k x c hi hk=>?_⟩⟩
      ·have:xs.length*sz≤cap*sz:=Nat.mul_le_mul_right _ hn
       simp only;omega
      ·obtain⟨u,hu,hr⟩:=ay i k x c hi hk
       refine⟨u,?_,gr _ rfl hr (hg x (Akt hi) c (Akt hk))⟩
       rw[← hcur,List.getElem?_take]at hu
       split at hu
       ·simpa using hu
       ·cases hu
   ·refine .own _ _ _ 0 0 0 ⟨_,rfl,by simp⟩ hn mn fun v' sz' xs' h=>?_
    simp at h;obtain⟨rfl,rfl,rfl⟩:=h
    refine⟨Nat.le_refl _,fun _=>⟨by simp,.inr ⟨_,rfl,by simp,?_⟩⟩⟩
    simp only;rw[ia];simp
end
theorem q0 (zs:List Int):(Go.Ab.Dk zs).take zs.length=Go.Ab.Dk zs:=List.take_of_length_le (by rw[Cy];exact Nat.le_refl _)
attribute [go_sem] q0
end Go.Ab
namespace Go.Ab
open Go Go.RowKit Go.Maps
section
variable {P:Program}
structure Abe (P:Program) (f c:FuncId) (T:TypeId):Prop where
  run:∀ (mb:Option Nat) (W:World),Calls P f #[.map mb] W fun e w'=>e= .returned (.func (.func c) #[] #[.pointer (some ⟨W.heap.size,0,none⟩)])∧w'=W.alloc (.cells #[.map mb] T)
structure X2 (P:Program) (f c:FuncId) (kT:TypeId):Prop where
  key:P.underlying kT=some (.int .i64)
  run:∀ (b Bm nn:Nat) (D0:DataW Unit) (R:Value→Option (DataW Unit×List MemPlace)) (W:World),W.cell? ⟨Bm,0,none⟩=some (.map (some b))→Bm<W.heap.size→W.ownsMap P kT R b nn D0→Maps.size D0≤maxLen→Maps.size D0*8≤140737488355328→
    Calls P f #[.func (.func c) #[] #[.pointer (some ⟨Bm,0,none⟩)]] W fun e w'=>∃ (v:Value) (ss:List Int),e= .returned v∧ss.Perm (intKeys D0)∧w'.ownsRow W.heap.size kT 1 v ss.length ((ss.mergeSort (fun x y=>decide (x≤y))).map encZ)∧Below W.heap.size W w'
theorem Al.V4 {f c:FuncId} {T:TypeId} {r:Nat} {es:List (Int×Ac)} {st:List Fr} {H:List A2} {K:Ac→List A2→Prop} (hc:∀ (args:Array Value) (w:World),(callFunc f args).run P w= .ok (.enter f args) w)
    (spec:Abe P f c T) (hr:H[r]? =some (.mp es)) (h:K (.func c [.ptr H.length 0]) (H++[.box [.map r]])):Al P (.func f []) [.map r] st H K:=by
  intro W0 C w outs fv vs I hH hO hf hl hv
  subst hH
  cases hf with
  | func _ caps _ dx _=>
    have:caps=#[]:=Array.eq_empty_of_size_eq_zero (by simpa using dx)
    subst this
    refine .inl ⟨f,#[],rfl,hc,?_⟩
    match vs,hl with
    | [u],_=>
      have hu:=hv 0 u _ rfl rfl
      cases hu with
      | map b _ hk hh=>
        refine(spec.run (some b) w).mono fun e w' ⟨he,hw⟩=>?_
        subst hw
        have bj:Oz C.H C.H.length:=.inl rfl
        have key:=I.alloc C.H.length bj (.box [.map r]) (.cells #[.map (some b)] T) 0 (fun m=>⟨_,#[.map (some b)],T,Ctx.Sz _ _ _ _,D5 _ _,rfl,fun i u c' h1 h2=>by
          match i,h1,h2 with
          | 0,h1,h2=>
            simp at h1 h2;subst h1 h2
            exact(Bk.map b r hk hh).mono m
          | i+1,h1,h2=>simp at h2⟩)
        have jf:Ha C.H C.H.length (.box [.map r])=C.H++[.box [.map r]]:=by simp[Ha]
        refine⟨_,.func c [.ptr C.H.length 0],C.new C.H.length (.box [.map r]) ⟨w.heap.size,0,0⟩,he,?_,rfl,.func c _ _ rfl fun i u c' h1 h2=>?_,key.1,hO.mono key.2⟩
        ·show K _ (Ha C.H C.H.length (.box [.map r]))
         rw[jf];exact h
        ·match i,h1,h2 with
         | 0,h1,h2=>
           simp at h1 h2;subst h1 h2
           exact .ptr _ _ _ (Ctx.Rh bj ⟨w.heap.size,0,0⟩ (by simp)) fun cs _=>⟨_,Ctx.Sz _ _ _ _,rfl⟩
         | i+1,h1,h2=>simp at h2
theorem z7 {w:World} {b:Nat} {en:Array MapEntry} {cl:Nat} {es:List (Int×Ac)} {kT:TypeId} (hkT:P.underlying kT=some (.int .i64)) (hb:w.heap[b]? =some (.map en cl)) (cj:Qg false en cl es)
    (hk:∀ p∈es,(Lit.int .i64 p.1).wf=true) (hn:es.length≤maxLen) :
    ∃ D0:DataW Unit,w.ownsMap P kT (fun _=>some (.nil,[])) b es.length D0∧(intKeys D0).Perm (es.map (·.1))∧Maps.size D0=es.length:=by
  have hkey:∀ x∈en.toList,∃ p∈es,x.key= .int .i64 p.1:=fun x hx=>by
    obtain⟨i,hi,rfl⟩:=List.getElem_of_mem hx
    have de:i<en.size:=by simpa using hi
    have h1:en[i]? =some en[i]:=Array.getElem?_eq_getElem de
    have h2:es[i]? =some (es[i]'(by rw[← cj.size];exact de)):=Aks _
    exact⟨_,Akt h2,by simpa using cj.V4 i _ _ h1 h2⟩
  have hmap:en.toList.map (·.key)=es.map fun p=>Value.int .i64 p.1:=by
    apply List.ext_getElem?
    intro i
    simp only[List.getElem?_map,Array.getElem?_toList]
    cases h1:en[i]? with
    | none=>
      have:en.size≤i:=by simpa using h1
      rw[List.getElem?_eq_none (by rw[← cj.size];exact this)];rfl
    | some e=>
      have hi:i<en.size:=(Array.getElem?_eq_some_iff.1 h1).1
      have h2:es[i]? =some (es[i]'(by rw[← cj.size];exact hi)):=Aks _
      rw[h2];simp only[Option.map_some];rw[cj.V4 i _ _ h1 h2]
  have hrd:∀ x∈en.toList,∃ p∈es,x.key= .int .i64 p.1∧Go.WideElems.rd (H:=Unit) P kT (fun _=>some (.nil,[])) x=some (.int .i64 p.1,.nil):=fun x hx=>by
    obtain⟨p,hp,e⟩:=hkey x hx
    refine⟨p,hp,e,?_⟩
    unfold Go.WideElems.rd
    rw[e,keyOf_int_mk hkT (hk p hp)];rfl
  have ct:Go.WideElems.Fit (H:=Unit) P kT (fun _=>some (.nil,[])) en cl:=by
    refine⟨by rw[cj.size];exact hn,⟨cj.born,cj.bnodup,?_⟩,fun x hx=>?_⟩
    ·rw[hmap]
     refine List.pairwise_map.2 ((List.pairwise_map.1 cj.nodup).imp fun {a b} bc e=>bc ?_)
     simpa using e
    ·obtain⟨p,_,_,h⟩:=hrd x hx;exact⟨_,h⟩
  refine⟨.map ((en.toList.map (Go.WideElems.rg P kT (fun _=>some (.nil,[])))).foldr DataW.insert []),⟨en,cl,hb,ct,by rw[cj.size];exact Nat.le_refl _,rfl⟩,?_,?_⟩
  ·show(List.map (fun p:Lit×DataW Unit=>intOf p.1) _).Perm _
   refine((Go.WideShapes.sorted_perm _).map _).trans ?_
   rw[List.map_map]
   have:en.toList.map ((fun p:Lit×DataW Unit=>intOf p.1)∘Go.WideElems.rg P kT (fun _=>some (.nil,[])))=es.map (·.1):=by
     have e1:en.toList.map ((fun p:Lit×DataW Unit=>intOf p.1)∘Go.WideElems.rg P kT (fun _=>some (.nil,[])))=(en.toList.map (·.key)).map fun v=>match v with | .int _ n=>n | _=>0:=by
       rw[List.map_map]
       refine List.map_congr_left fun x hx=>?_
       obtain⟨p,_,e,h⟩:=hrd x hx
       simp only[Function.comp_apply,Go.WideElems.rg,h,e,Option.getD_some,intOf]
     rw[e1,hmap,List.map_map];rfl
   rw[this]
  ·simp[Maps.size,length_sorted,cj.size]
theorem Al.nH {f c:FuncId} {kT:TypeId} {r b:Nat} {es:List (Int×Ac)} {st:List Fr} {H:List A2} {K:Ac→List A2→Prop} (hc:∀ (args:Array Value) (w:World),(callFunc f args).run P w= .ok (.enter f args) w)
    (spec:X2 P f c kT) (hb:H[b]? =some (.box [.map r])) (hr:H[r]? =some (.mp es)) (hk:∀ p∈es, -9223372036854775808≤p.1∧p.1≤9223372036854775807) (hn:es.length≤549755813888)
    (h:K (.own H.length 0 0 es.length) (H++[.row 0 1 ((Go.Ab.Dk (es.map (·.1))).map Bb)])):Al P (.func f []) [.func c [.ptr b 0]] st H K:=by
  intro W0 C w outs fv vs I hH hO hf hl hv
  subst hH
  cases hf with
  | func _ caps _ dx _=>
    have:caps=#[]:=Array.eq_empty_of_size_eq_zero (by simpa using dx)
    subst this
    refine .inl ⟨f,#[],rfl,hc,?_⟩
    match vs,hl with
    | [u],_=>
      have hu:=hv 0 u _ rfl rfl
      cases hu with
      | func _ arr _ hal harr=>
        obtain⟨pv,rfl⟩:∃ pv,arr=#[pv]:=by
          have:arr.size=1:=by simpa using hal
          exact⟨arr[0],by apply Array.ext<;>simp[this];intro i h1;have:i=0:=by omega
                          subst this;rfl⟩
        have hp:=harr 0 pv _ rfl rfl
        cases hp with
        | ptr a _ _ vz hpa=>
          obtain⟨l,hl,rfl⟩:=hpa _ hb
          obtain⟨l',carr,T,e1,e2,e3,e4⟩:=I.objs b _ hb
          rw[hl,Akv]at e1;subst e1
          obtain⟨mv,rfl⟩:∃ mv,carr=#[mv]:=by
            have:carr.size=1:=by simpa using e3
            exact⟨carr[0],by apply Array.ext<;>simp[this];intro i h1;have:i=0:=by omega
                             subst this;rfl⟩
          have hm:=e4 0 mv _ rfl rfl
          cases hm with
          | map bm _ hkm hmm=>
            obtain⟨lm,hlm,rfl⟩:=hmm _ hr rfl
            obtain⟨lm',en,cl,m1,m2,m3,m4,m5⟩:=I.objs r _ hr
            rw[hlm,Akv]at m1;subst m1
            obtain⟨D0,o1,o2,o3⟩:=z7 (P:=P) spec.key m2 m3 (fun p hp=>by
              have:=hk p hp
              exact WalkArith.wf_i64 (by omega)) (by unfold maxLen;omega)
            have aq:w.cell? ⟨l.b,0,none⟩=some (.map (some lm.b)):=by simp[World.cell?,e2]
            refine(spec.run lm.b l.b es.length D0 _ w aq (I.sep b l hl).2.2.1 o1 (by rw[o3];unfold maxLen;omega) (by rw[o3];omega)).mono fun e w' ⟨v,ss,he,hss,jq,hbel⟩=>?_
            have tl:ss.Perm (es.map (·.1)):=hss.trans o2
            have gx:ss.mergeSort (fun x y=>decide (x≤y))=Go.Ab.Dk (es.map (·.1)):=mergeSort_of_perm_i tl
            have hlen:ss.length=es.length:=by rw[tl.length_eq,Aky]
            have va:((Go.Ab.Dk (es.map (·.1))).map Bb).length=es.length:=by rw[Aky,Cy,Aky]
            rw[gx,hlen,← va]at jq
            obtain⟨C',c1,c2,c3,c4,c5⟩:=z8 (A:=C.A) (sz:=1) (xs:=(Go.Ab.Dk (es.map (·.1))).map Bb) I.sub hbel (Nat.le_refl _) (fun x hx=>by
              obtain⟨z,_,rfl⟩:=List.mem_map.1 hx;rfl) (fun x hx cc xm=>by
              obtain⟨z,_,rfl⟩:=List.mem_map.1 hx
              simp[Bb]at xm;subst xm;rfl) jq (fun i k x cc hx xm=>by
              simp only[List.getElem?_map,Option.map_eq_some_iff]at hx
              obtain⟨z,hz,rfl⟩:=hx
              have bg:k=0:=by
                have:=(Ak1.1 xm).1
                simp[Bb]at this;exact this
              subst bg
              simp[Bb]at xm;subst xm
              exact⟨.int .i64 z,by simp[hz],.int _ _⟩)
            have bj:Oz C.H C.H.length:=.inl rfl
            have key:=I.place c4 (fun b' ee=>by rw[c2]at ee;exact ee) bj c1
            refine⟨v,.own C.H.length 0 0 es.length,C.place C' C.H.length _,he,?_,rfl,?_,key.1,hO.mono key.2.1⟩
            ·show K _ (Ha C.H C.H.length _)
             rw[show Ha C.H C.H.length (A2.row 0 1 ((Go.Ab.Dk (es.map (·.1))).map Bb))=C.H++[.row 0 1 ((Go.Ab.Dk (es.map (·.1))).map Bb)] by simp[Ha]]
             exact h
            ·rw[va]at c5
             exact c5.ren key.2.2
end
end Go.Ab
namespace Go.Ab
open Go Go.RowKit
theorem Ex.mk' {es:List (Int×Ac)} {n:Int} {z:Ac} {K:Ac→Bool→Prop} (h1:∀ v,alook es n=some v→K v true) (h2:alook es n=none→K z false):Ex es n z K:=⟨h1,h2⟩
theorem pX {S T:List Nat}:disj S T=true↔∀ r∈S,r ∉ T:=by
  unfold disj
  rw[List.all_eq_true]
  exact⟨fun h r hr hT=>by have:=h r hr;simp[hT]at this,fun h r hr=>by have:=h r hr;simp[this]⟩
theorem kP {A:List Nat} (σ:Nat→Nat) (n:Nat) (log:Log) (hl:(log.all fun p=>p.2.1.all fun a=>Nat.blt a n)=true) (hσ:∀ a b,a<n→b<n→σ a=σ b→a=b) (h:R4 A log=true) :
    R4 A (log.map fun p=>(p.1,p.2.1.map σ,p.2.2))=true:=by
  unfold R4 at *
  rw[List.all_map,List.all_eq_true]
  rw[List.all_eq_true]at h
  intro p hp
  have h1:=h p hp
  rw[List.all_eq_true]at h1
  simp only[Function.comp_apply]
  rw[List.all_map,List.all_eq_true]
  intro q hq
  have h2:=h1 q hq
  have hd:disj (p.2.1.map σ) (q.2.1.map σ)=disj p.2.1 q.2.1:=by
    have e1:=List.all_eq_true.1 (List.all_eq_true.1 hl p hp)
    have e2:=List.all_eq_true.1 (List.all_eq_true.1 hl q hq)
    rw[Bool.eq_iff_iff,pX,pX]
    constructor
    ·intro h r hr hT
     exact h (σ r) (List.mem_map_of_mem hr) (List.mem_map_of_mem hT)
    ·intro h r hr hT
     obtain⟨a,ha,rfl⟩:=List.mem_map.1 hr
     obtain⟨b,hb,e⟩:=List.mem_map.1 hT
     have:=hσ b a (by simpa using e2 b hb) (by simpa using e1 a ha) e
     subst this
     exact h b ha hb
  simp only[Function.comp_apply,hd]
  exact h2
theorem Al.nG {P:Program} {f c:FuncId} {kT:TypeId} {r b:Nat} {β:Type} {fv:β→Ac} {m:List (Int×β)} {st:List Fr} {H:List A2} {K:Ac→List A2→Prop} (hc:∀ (args:Array Value) (w:World),(callFunc f args).run P w= .ok (.enter f args) w)
    (spec:X2 P f c kT) (hb:H[b]? =some (.box [.map r])) (hr:H[r]? =some (.mp (mpE fv m))) (hk:∀ k∈mkeys m, -9223372036854775808≤k∧k≤9223372036854775807) (hn:m.length≤549755813888)
    (h:K (.own H.length 0 0 (Go.Ab.Dk (mkeys m)).length) (H++[.row 0 1 ((Go.Ab.Dk (mkeys m)).map Bb)])):Al P (.func f []) [.func c [.ptr b 0]] st H K:=by
  have e:(mpE fv m).map (·.1)=mkeys m:=by simp[mpE,mkeys]
  refine Al.nH hc spec hb hr (fun p hp=>hk _ ?_) (by rw[mD];exact hn) ?_
  ·rw[← e];exact List.mem_map_of_mem hp
  ·rw[e,mD]
   rw[Cy]at h
   simpa[mkeys]using h
def gE:Nat→List (Int×List Int)→List (Int×Ac)
  | _,[]=>[]
  | n,(k,xs)::r=>(k,.own n (xs.length - 1) 0 xs.length)::gE (n+1) r
def gR (g:List (Int×List Int)):List A2:=g.map fun p=>.row (p.2.length - 1) 1 (p.2.map Bb)
def gadd (g:List (Int×List Int)) (k v:Int):List (Int×List Int):=mset g k (mget [] g k++[v])
def E5 (xs:List Int):Ac:=.sl 1 (xs.map Bb)
theorem apN {α:Type} (A:List α) (b:α) (C:List α):A++[b]++C=A++b::C:=by simp
theorem ga0 {α:Type} (A:List α) (b:α) (B:List α):(A++b::B)[A.length]? =some b:=by simp
theorem ga1 {α:Type} (A:List α) (b c:α) (B:List α):(A++b::c::B)[A.length+1]? =some c:=by simp
theorem ga2 {α:Type} (A:List α) (b c d:α) (B:List α):(A++b::c::d::B)[A.length+2]? =some d:=by simp
theorem sa0 {α:Type} (A:List α) (b x:α) (B:List α):(A++b::B).set A.length x=A++x::B:=by simp[List.set_append]
theorem sa1 {α:Type} (A:List α) (b c x:α) (B:List α):(A++b::c::B).set (A.length+1) x=A++b::x::B:=by simp[List.set_append]
theorem sa2 {α:Type} (A:List α) (b c d x:α) (B:List α):(A++b::c::d::B).set (A.length+2) x=A++b::c::x::B:=by simp[List.set_append]
theorem mO (g:List (Int×List Int)):(gR g).length=g.length:=by simp[gR]
theorem yG:∀ (g:List (Int×List Int)) (n:Nat) (k:Int) (xs:List Int),gE n (g++[(k,xs)])=gE n g++[(k,.own (g.length+n) (xs.length - 1) 0 xs.length)]
  | [],n,k,xs=>by simp[gE]
  | (k',ys)::r,n,k,xs=>by
    simp only[List.cons_append,gE,yG r (n+1) k xs,List.length_cons]
    rw[show r.length+1+n=r.length+(n+1) by omega]
theorem qH:∀ (g:List (Int×List Int)) (n:Nat) (k:Int) (v:Ac),alook (gE n g) k=some v→∃ (i:Nat) (xs:List Int),g[i]? =some (k,xs)∧v= .own (i+n) (xs.length - 1) 0 xs.length∧mget [] g k=xs∧
    (∀ ys:List Int,aset (gE n g) k (.own (i+n) (ys.length - 1) 0 ys.length)=gE n (mset g k ys))∧(∀ ys:List Int,(gR g).set i (.row (ys.length - 1) 1 (ys.map Bb))=gR (mset g k ys))
  | [],n,k,v,h=>by simp[gE,alook]at h
  | (k',xs)::r,n,k,v,h=>by
    simp only[gE,alook]at h
    by_cases e:k'=k
    ·subst e
     rw[if_pos rfl]at h
     obtain rfl:=Ak0 h
     exact⟨0,xs,rfl,by rw[Nat.zero_add],by simp[mget],fun ys=>by simp[gE,aset,mset],fun ys=>by simp[gR,mset]⟩
    ·rw[if_neg e]at h
     obtain⟨i,ys,h1,h2,h3,h4,h5⟩:=qH r (n+1) k v h
     refine⟨i+1,ys,by simpa using h1,by rw[h2,show i+(n+1)=i+1+n by omega],by simp[mget,e,h3],fun zs=>?_,fun zs=>?_⟩
     ·have:=h4 zs
      rw[show i+(n+1)=i+1+n by omega]at this
      simp[gE,aset,mset,e,this]
     ·have:=h5 zs
      simp[gR,mset,e]at this ⊢
      exact this
theorem Y8:∀ (g:List (Int×List Int)) (n:Nat) (k:Int),alook (gE n g) k=none→mget [] g k=[]∧(∀ v,aset (gE n g) k v=gE n g++[(k,v)])∧∀ ys,mset g k ys=g++[(k,ys)]
  | [],n,k,h=>⟨by simp[mget],fun v=>by simp[gE,aset],fun ys=>by simp[mset]⟩
  | (k',xs)::r,n,k,h=>by
    simp only[gE,alook]at h
    by_cases e:k'=k
    ·rw[if_pos e]at h;cases h
    ·rw[if_neg e]at h
     obtain⟨h1,h2,h3⟩:=Y8 r (n+1) k h
     exact⟨by simp[mget,e,h1],fun v=>by simp[gE,aset,e,h2],fun ys=>by simp[mset,e,h3]⟩
theorem tN {π:Nat→Nat}:∀ (g:List (Int×List Int)) (n:Nat),(∀ i,n≤i→i<n+g.length→π i=i)→Ud π (gE n g)=gE n g
  | [],n,h=>rfl
  | (k,xs)::r,n,h=>by
    simp only[gE,Ud,ren]
    rw[h n (Nat.le_refl _) (by simp),tN r (n+1) (fun i h1 h2=>h i (by omega) (by simp at h2 ⊢;omega))]
theorem nW (π:Nat→Nat):∀ (a b:List (Int×Ac)),Ud π (a++b)=Ud π a++Ud π b
  | [],b=>rfl
  | (k,v)::a,b=>by simp[Ud,nW π a b]
theorem nT (π:Nat→Nat):∀ (a b:List A2),V7 π (a++b)=V7 π a++V7 π b
  | [],b=>rfl
  | o::a,b=>by simp[V7,nT π a b]
theorem tM (π:Nat→Nat):∀ (g:List (Int×List Int)),V7 π (gR g)=gR g
  | []=>rfl
  | p::r=>by
    have:=tM π r
    simp only[gR,List.map_cons,V7,eY]at this ⊢
    rw[this]
theorem uE {m:Nat}:∀ (g:List (Int×List Int)) (n:Nat),n+g.length≤m→((gE n g).all fun p=>p.2.Qe m)=true
  | [],n,h=>rfl
  | (k,xs)::r,n,h=>by
    simp only[gE,List.all_cons,Bool.and_eq_true]
    refine⟨by simp[Ac.Qe,Ac.Xn,Ac.Yw,Ac.Zz]at h ⊢;omega,uE r (n+1) (by simp at h ⊢;omega)⟩
theorem Aa1 {m:Nat} (g:List (Int×List Int)):jZ m (gR g)=true:=by
  unfold jZ gR;simp[sJ]
theorem Abx {m:Nat} (g:List (Int×List Int)) (h:1+g.length≤m):jZ m (.mpo false (gE 1 g)::gR g)=true:=by
  have:=Aa1 (m:=m) g
  unfold jZ at this ⊢
  rw[List.all_cons,this,Bool.and_true]
  exact uE g 1 h
theorem rV:∀ (o:A2),o≠.resv→P7 o o
  | .box cs,_=>by
    show aZ cs cs
    induction cs with
    | nil=>trivial
    | cons c r ih=>exact ⟨by unfold vle;split<;>simp,ih (by simp)⟩
  | .row v sz xs,_=>⟨rfl,rfl,rfl⟩
  | .mp es,_=>rfl
  | .mpo q es,_=>⟨rfl,rfl⟩
  | .it l c,_=>⟨rfl,rfl⟩
  | .lp _ _ _ _ _ _ _ _,_=>⟨rfl,rfl,rfl,rfl,rfl,rfl,rfl,rfl⟩
  | .gone,_=>trivial
  | .resv,h=>absurd rfl h
theorem fW:∀ (A B:List A2),(∀ o∈A,o≠.resv)→Yp (A++B) A
  | [],B,_=>by simp[Yp]
  | o::A,B,h=>⟨rV o (h o (by simp)),fW A B fun o' fc=>h o' (List.mem_cons_of_mem _ fc)⟩
theorem iH (g:List (Int×List Int)):∀ o∈gR g,o≠.resv:=by
  intro o ho
  obtain⟨p,_,rfl⟩:=List.mem_map.1 ho
  simp
theorem w7 (g:List (Int×List Int)) (B:List A2):Yp (.mpo false (gE 1 g)::(gR g++B)) (.mpo false (gE 1 g)::gR g):=⟨⟨rfl,rfl⟩,fW _ _ (iH g)⟩
theorem yF {g:List (Int×List Int)} {n:Nat} (h:∀ p∈g,1≤p.2.length∧p.2.length≤n) (k v:Int):∀ p∈gadd g k v,1≤p.2.length∧p.2.length≤n+1:=by
  have cr:∀ g:List (Int×List Int),(∀ p∈g,1≤p.2.length∧p.2.length≤n)→(mget [] g k).length≤n:=by
    intro g
    induction g with
    | nil=>intro _;simp[mget]
    | cons p r ih=>
      intro h
      obtain⟨k',xs⟩:=p
      simp only[mget]
      split
      ·exact(h (k',xs) (by simp)).2
      ·exact ih fun p hp=>h p (List.mem_cons_of_mem _ hp)
  have hlen:=cr g h
  have gu:∀ (ys:List Int),1≤ys.length→ys.length≤n+1→∀ g:List (Int×List Int),(∀ p∈g,1≤p.2.length∧p.2.length≤n)→∀ p∈mset g k ys,1≤p.2.length∧p.2.length≤n+1:=by
    intro ys h1 h2 g
    induction g with
    | nil=>intro _ p hp;simp[mset]at hp;subst hp;exact⟨h1,h2⟩
    | cons p r ih=>
      intro h p' rf
      obtain⟨k',xs⟩:=p
      simp only[mset]at rf
      split at rf
      ·rcases List.mem_cons.1 rf with e | rf
       ·subst e;exact⟨h1,h2⟩
       ·have:=h p' (List.mem_cons_of_mem _ rf);omega
      ·rcases List.mem_cons.1 rf with e | rf
       ·subst e;have:=h (k',xs) (by simp);simp only at this ⊢;omega
       ·exact ih (fun p hp=>h p (List.mem_cons_of_mem _ hp)) p' rf
  exact gu _ (by simp) (by simp;exact hlen) g h
theorem kZ (r v sz:Nat) (xs:List (List Ac)):∀ (a b:List (Int×Ac)),Mu r v sz xs (a++b)=Mu r v sz xs a++Mu r v sz xs b
  | [],b=>rfl
  | (k,x)::a,b=>by simp[Mu,kZ r v sz xs a b]
theorem lA (r v sz:Nat) (xs:List (List Ac)):∀ (a b:List A2),Ke r v sz xs (a++b)=Ke r v sz xs a++Ke r v sz xs b
  | [],b=>rfl
  | o::a,b=>by simp[Ke,lA r v sz xs a b]
theorem iK (r v sz:Nat) (xs:List (List Ac)):∀ (g:List (Int×List Int)),Mu r v sz xs (mpE E5 g)=mpE E5 g
  | []=>rfl
  | (k,x)::g=>by
    have:=iK r v sz xs g
    simp only[mpE,List.map_cons,Mu]at this ⊢
    rw[this];rfl
theorem pF (r v sz:Nat) (xs:List (List Ac)):∀ (g:List (Int×List Int)) (n:Nat),r<n→Mu r v sz xs (gE n g)=gE n g
  | [],n,h=>rfl
  | (k,x)::g,n,h=>by
    simp only[gE,Mu]
    rw[pF r v sz xs g (n+1) (by omega)]
    have:S2 r v sz xs (.own n (x.length - 1) 0 x.length)= .own n (x.length - 1) 0 x.length:=by
      unfold S2 eJ
      simp only[]
      rw[if_neg (by omega)]
    rw[this]
theorem pG (r v sz:Nat) (xs:List (List Ac)):∀ (g:List (Int×List Int)),Ke r v sz xs (gR g)=gR g
  | []=>rfl
  | p::g=>by
    have:=pG r v sz xs g
    simp only[gR,List.map_cons,Ke,iI]at this ⊢
    rw[this]
theorem iM (r v sz:Nat) (xs:List (List Ac)):∀ (n:Nat),Ke r v sz xs (List.replicate n .gone)=List.replicate n .gone
  | 0=>rfl
  | n+1=>by simp[List.replicate_succ,Ke,iI,iM r v sz xs n]
theorem Sub.refl' {outer:List Fr} {fr:Fr} {H:List A2}:Sub outer fr H fr H:=fun _ _ _ _ _ _ _ R=>R
theorem Sub.Aba {outer:List Fr} {fr:Fr} (xl:∀ r v sz xs,Zt r v sz xs fr=fr):∀ (g2 g1:List (Int×List Int)),
    Sub outer fr (.mpo false (mpE E5 g1++gE (g1.length+1) g2)::(List.replicate g1.length .gone++gR g2)) fr (.mpo false (mpE E5 (g1++g2))::List.replicate (g1.length+g2.length) .gone)
  | [],g1=>by
    simp only[gE,gR,List.map_nil,List.append_nil,List.length_nil,Nat.add_zero]
    exact Sub.refl'
  | (k,xs)::g2,g1=>by
    have hr:(A2.mpo false (mpE E5 g1++gE (g1.length+1) ((k,xs)::g2))::(List.replicate g1.length .gone++gR ((k,xs)::g2)))[g1.length+1]? =some (.row (xs.length - 1) 1 (xs.map Bb)):=by
      rw[List.getElem?_cons_succ,List.getElem?_append_right (by simp)]
      simp[gR]
    have s:=Sub.Ea (outer:=outer) (fr:=fr) (g1.length+1) hr
    rw[xl]at s
    have e:Ke (g1.length+1) (xs.length - 1) 1 (xs.map Bb) ((A2.mpo false (mpE E5 g1++gE (g1.length+1) ((k,xs)::g2))::(List.replicate g1.length .gone++gR ((k,xs)::g2))).set (g1.length+1) .gone) =
     .mpo false (mpE E5 (g1++[(k,xs)])++gE ((g1++[(k,xs)]).length+1) g2)::(List.replicate (g1++[(k,xs)]).length .gone++gR g2):=by
      rw[List.set_cons_succ,List.set_append_right _ _ (by simp),Akx,Nat.sub_self]
      show Ke _ _ _ _ (A2.mpo false (mpE E5 g1++gE (g1.length+1) ((k,xs)::g2))::(List.replicate g1.length .gone++(A2.gone::gR g2)))=_
      simp only[Ke,iI,lA,iM,pG,kZ,iK,gE,Mu]
      rw[pF _ _ _ _ g2 (g1.length+1+1) (by omega)]
      have h1:S2 (g1.length+1) (xs.length - 1) 1 (xs.map Bb) (.own (g1.length+1) (xs.length - 1) 0 xs.length)=E5 xs:=by
        unfold S2 eJ E5
        simp only[]
        simp
        exact List.take_of_length_le (by simp)
      rw[h1]
      simp[mpE,List.replicate_succ']
    rw[e]at s
    have ih:=Sub.Aba (outer:=outer) xl g2 (g1++[(k,xs)])
    have:=s.trans ih
    simp only[List.append_assoc,List.cons_append,List.nil_append,Akw,List.length_cons,List.length_nil]at this
    simp only[List.length_cons]
    rw[show g1.length+(g2.length+1)=g1.length+(0+1)+g2.length by omega]
    exact this
theorem oP (g:List (Int×List Int)):∀ p∈mpE E5 g,Ac.g1 p.2=true:=by
  intro p hp
  obtain⟨q,_,rfl⟩:=List.mem_map.1 hp
  rfl
theorem Sub.groups {outer:List Fr} {fr:Fr} (xl:∀ r v sz xs,Zt r v sz xs fr=fr) (gq:fX fr fr) (hb:Nt 1 fr=true) (ho:outer.all (Nt 1)=true) (g:List (Int×List Int)) :
    Sub outer fr (.mpo false (gE 1 g)::gR g) fr [.mp (mpE E5 g)]:=by
  have s1:=Sub.Aba (outer:=outer) xl g []
  simp only[mpE,List.map_nil,List.nil_append,List.length_nil,Nat.zero_add,List.replicate_zero]at s1
  have s2:=Sub.Aae (outer:=outer) (fr:=fr) (H:=.mpo false (mpE E5 g)::List.replicate g.length .gone) 0 rfl (oP g)
  have s3:Sub outer fr (.mp (mpE E5 g)::List.replicate g.length .gone) fr [.mp (mpE E5 g)]:=Sub.weak ⟨rfl,by simp[Yp]⟩ gq (.inr ⟨hb,rfl,ho⟩)
  exact(s1.trans s2).trans s3
theorem uO {α:Type} (l:List α) (n:Nat):(l.take n).take n=l.take n:=by rw[List.take_take,Nat.min_self]
attribute [go_sem] E5 uO
end Go.Ab
namespace Go.Ab
open Go
section
variable {α σ ρ:Type}
theorem Qa {step step':Nat→α→σ→Option (Out σ ρ)}:∀ {l:List α} {k:Nat},(∀ i x s,l[i]? =some x→step (k+i) x s=step' (k+i) x s)→∀ s,An step k l s=An step' k l s
  | [],k,h,s=>rfl
  | x::r,k,h,s=>by
    have h0:=h 0 x s rfl
    rw[Nat.add_zero]at h0
    rw[An,An,h0]
    have ih:∀ s,An step (k+1) r s=An step' (k+1) r s:=Qa (l:=r) (k:=k+1) (fun i y s hy=>by
      have:=h (i+1) y s (by simpa using hy)
      rwa [show k+(i+1)=k+1+i by omega]at this)
    cases step' k x s with
    | none=>rfl
    | some o=>cases o with
      | next s'=>exact ih s'
      | ret r=>rfl
theorem L4 {step step':Nat→α→σ→Option (Out σ ρ)} {l:List α} {s:σ} (h:∀ i x s,l[i]? =some x→step i x s=step' i x s):An step 0 l s=An step' 0 l s:=
  Qa (k:=0) (fun i x s hx=>by rw[Nat.zero_add];exact h i x s hx) s
end
theorem Gq {α:Type} [DecidableEq α] {a b:List α} (h:a.Nodup) (hs:∀ x∈a,x∈b):a.length≤b.length:=by
  induction a generalizing b with
  | nil=>exact Nat.zero_le _
  | cons x a ih=>
    rw[List.nodup_cons]at h
    have hx:=hs x (by simp)
    have:=ih (b:=b.erase x) h.2 fun y hy=>(List.mem_erase_of_ne (fun(e:y=x)=>h.1 (e ▸ hy))).2 (hs y (List.mem_cons_of_mem _ hy))
    rw[List.length_erase_of_mem hx]at this
    have:0<b.length:=List.length_pos_of_mem hx
    simp only[List.length_cons];omega
def Inc (l:List Int):Prop:=l.Pairwise (·< ·)
theorem Inc.nodup {l:List Int} (h:Inc l):l.Nodup:=List.Pairwise.imp (fun h e=>by omega) h
theorem Pq:∀ {a b:List Int},Inc a→Inc b→(∀ x,x∈a↔x∈b)→a=b
  | [],[],_,_,_=>rfl
  | [],y::b,_,_,h=>by have:=(h y).2 (by simp);simp at this
  | x::a,[],_,_,h=>by have:=(h x).1 (by simp);simp at this
  | x::a,y::b,ha,hb,h=>by
    have ha:=List.pairwise_cons.1 ha
    have hb:=List.pairwise_cons.1 hb
    have e:x=y:=by
      rcases List.mem_cons.1 ((h x).1 (by simp))with h1 | h1
      ·exact h1
      ·rcases List.mem_cons.1 ((h y).2 (by simp))with h2 | h2
       ·exact h2.symm
       ·have:=ha.1 y h2;have:=hb.1 x h1;omega
    subst e
    rw[Pq ha.2 hb.2 fun z=>?_]
    constructor
    ·intro hz
     rcases List.mem_cons.1 ((h z).1 (List.mem_cons_of_mem _ hz))with e | h1
     ·have:=ha.1 z hz;omega
     ·exact h1
    ·intro hz
     rcases List.mem_cons.1 ((h z).2 (List.mem_cons_of_mem _ hz))with e | h1
     ·have:=hb.1 z hz;omega
     ·exact h1
theorem Q2 (xs:List Int):(Dk xs).Pairwise (·≤·):=by
  have:=List.pairwise_mergeSort (le:=fun x y:Int=>decide (x≤y)) (fun a b c h1 h2=>by simp at *;omega) (fun a b=>by simp;omega) xs
  exact this.imp (fun h=>by simpa using h)
theorem Nk (xs:List Int) (a:Int):a∈Dk xs↔a∈xs:=(List.mergeSort_perm xs _).mem_iff
theorem uT {xs:List Int} (h:xs.Nodup):Inc (Dk xs):=by
  have h1:(Dk xs).Nodup:=(List.mergeSort_perm xs _).nodup_iff.2 h
  exact((Q2 xs).and h1).imp (fun⟨a,b⟩=>by omega)
theorem F1 {zs:List Int} {j:Nat} (h:j<zs.length):zs.toArray[j]! =zs[j]:=by simp[h]
theorem Xj {zs:List Int} (a:Int):a∈Cu zs↔a∈zs:=by
  unfold Cu Lib.compact Lib.compactUpTo
  rw[List.mem_map]
  constructor
  ·rintro⟨j,hj,rfl⟩
   have h1:=List.mem_range.1 (List.mem_filter.1 hj).1
   rw[F1 h1];exact List.getElem_mem h1
  ·intro ha
   obtain⟨i,hi,rfl⟩:=List.getElem_of_mem ha
   induction i with
   | zero=>exact ⟨0,List.mem_filter.2 ⟨List.mem_range.2 hi,by simp[Lib.keeps]⟩,F1 hi⟩
   | succ i ih=>
     by_cases e:zs[i+1]=zs[i]
     ·rw[e];exact ih (by omega) (List.getElem_mem _)
     ·refine⟨i+1,List.mem_filter.2 ⟨List.mem_range.2 hi,?_⟩,F1 hi⟩
      unfold Lib.keeps
      rw[F1 hi,Nat.add_sub_cancel,F1 (show i<zs.length by omega)]
      exact Akq (.inr e)
theorem Xk {zs:List Int} (h:zs.Pairwise (·≤·)):Inc (Cu zs):=by
  unfold Cu Lib.compact Lib.compactUpTo Inc
  rw[List.pairwise_map]
  refine(List.pairwise_lt_range.filter _).imp_of_mem (fun {i j} hi hj af=>?_)
  obtain⟨qf,hj2⟩:=List.mem_filter.1 hj
  have qf:=List.mem_range.1 qf
  rw[F1 (show i<zs.length by omega),F1 qf]
  unfold Lib.keeps at hj2
  have bc:=Akp hj2
  rw[F1 qf,F1 (show j - 1<zs.length by omega)]at bc
  rw[List.pairwise_iff_getElem]at h
  have h1:=h (j - 1) j (by omega) qf (by omega)
  rcases Nat.lt_or_ge i (j - 1)with hh | hh
  ·have:=h i (j - 1) (by omega) (by omega) hh;omega
  ·have e:i=j - 1:=by omega
   subst e;omega
def norm (xs:List Int):List Int:=Cu (Dk xs)
theorem Um (xs:List Int):Inc (norm xs):=Xk (Q2 xs)
theorem Ul (xs:List Int) (a:Int):a∈norm xs↔a∈xs:=by unfold norm;rw[Xj,Nk]
theorem uW {α:Type} [DecidableEq α] {step:Nat→α→Unit→Option (Out Unit Bool)} {a b:List α} (hl:a.length=b.length) (hs:∀ k x y,a[k]? =some x→b[k]? =some y→step k x ()=bif decide (x≠y)then some (.ret false)else some (.next ())) :
    ((An step 0 a ()).bind fun o=>o.on fun _=>some true)=some (decide (a=b)):=by
  rcases E9 (step:=step) (l:=a) (s:=()) (fun k _=>∀ i x,i<k→a[i]? =some x→b[i]? =some x) (fun r=>r=false∧a≠b) (fun i x h=>by omega) (fun k x u hk hI=>by
    have af:=(Ak1.1 hk).1
    have hy:b[k]? =some b[k]:=Aks (by omega)
    rw[hs k x _ hk hy]
    by_cases e:x=b[k]
    ·rw[Akr (by simpa using e)]
     refine .inl ⟨(),rfl,fun i z hi hz=>?_⟩
     by_cases h:i=k
     ·subst h;rw[hk]at hz;obtain rfl:=Ak0 hz;rw[hy,← e]
     ·exact hI i z (by omega) hz
    ·rw[Akq (by simpa using e)]
     refine .inr ⟨false,rfl,rfl,fun h=>e ?_⟩
     subst h
     rw[hk]at hy;exact Ak0 hy)with ⟨s',h1,h2⟩ | ⟨r,h1,rfl,h2⟩
  ·rw[h1]
   have:a=b:=by
     apply List.ext_getElem? fun i=>?_
     by_cases hi:i<a.length
     ·rw[h2 i _ hi (Aks hi),Aks hi]
     ·rw[List.getElem?_eq_none (by omega),List.getElem?_eq_none (by omega)]
   rw[Akq this];rfl
  ·rw[h1,Akr h2];rfl
theorem xB {α:Type} [DecidableEq α] {step:Nat→α→Unit→Option (Out Unit Bool)} {a b:List α} (hs:∀ k x y,a[k]? =some x→b[k]? =some y→step k x ()=bif decide (x≠y)then some (.ret false)else some (.next ())) :
    (bif (decide (((a.length:Nat):Int)≠((b.length:Nat):Int)))then some false else(An step 0 a ()).bind fun o=>o.on fun _=>some true)=some (decide (a=b)):=by
  by_cases h:a.length=b.length
  ·rw[Akr (by simp[h]),cond_false];exact uW h hs
  ·have h':¬ a=b:=fun e=>h (by rw[e])
   rw[Akq (show((a.length:Nat):Int)≠((b.length:Nat):Int) by omega),Akr h'];rfl
theorem W8 {α:Type} [DecidableEq α] {step:Nat→α→Unit→Option (Out Unit Bool)} {l:List α} {n:α} (hs:∀ k x,x∈l→step k x ()=bif decide (x=n)then some (.ret true)else some (.next ())) :
    ((An step 0 l ()).bind fun o=>o.on fun _=>some false)=some (decide (n∈l)):=by
  rw[Fk (step:=step) (fun x=>decide (x=n)) (fun _=>true) (fun k x hx=>hs k x hx)]
  by_cases h:n∈l
  ·obtain⟨x,hx⟩:∃ x,l.find? (fun x=>decide (x=n))=some x:=by
     cases hf:l.find? fun x=>decide (x=n)with
     | some x=>exact ⟨x,rfl⟩
     | none=>have:=List.find?_eq_none.1 hf n h;simp at this
   rw[hx,Akq h];rfl
  ·have:l.find? (fun x=>decide (x=n))=none:=List.find?_eq_none.2 fun x hx=>by
     simp;rintro rfl;exact h hx
   rw[this,Akr h];rfl
theorem Us {α:Type} {step:Nat→α→Unit→Option (Out Unit Bool)} {l:List α} (p:α→Bool) (hs:∀ k x,x∈l→step k x ()=bif p x then some (.ret true)else some (.next ())) :
    ((An step 0 l ()).bind fun o=>o.on fun _=>some false)=some (l.any p):=by
  rw[Fk (step:=step) p (fun _=>true) (fun k x hx=>hs k x hx)]
  cases hf:l.find? p with
  | some x=>rw[List.any_eq_true.2 ⟨x,List.mem_of_find?_eq_some hf,List.find?_some hf⟩];rfl
  | none=>rw[List.any_eq_false.2 fun x hx=>by simpa using List.find?_eq_none.1 hf x hx];rfl
theorem zH {α:Type} {step:Nat→α→Unit→Option (Out Unit Bool)} {l:List α} (p:α→Bool) (hs:∀ k x,x∈l→step k x ()=bif p x then some (.next ())else some (.ret false)) :
    ((An step 0 l ()).bind fun o=>o.on fun _=>some true)=some (l.all p):=by
  rw[Fk (step:=step) (fun x=>!p x) (fun _=>false) (fun k x hx=>by rw[hs k x hx];cases p x<;>rfl)]
  cases hf:l.find? fun x=>!p x with
  | some x=>rw[List.all_eq_false.2 ⟨x,List.mem_of_find?_eq_some hf,by simpa using List.find?_some hf⟩];rfl
  | none=>rw[List.all_eq_true.2 fun x hx=>by simpa using List.find?_eq_none.1 hf x hx];rfl
theorem vH (g:List (Int×List Int)) (k v n:Int):mget [] (gadd g k v) n=if k=n then mget [] g n++[v]else mget [] g n:=by
  unfold gadd;rw[Yb]
  by_cases h:k=n
  ·subst h;simp
  ·simp[h]
end Go.Ab
namespace Go.Ab
open Go Go.RowKit
attribute [go_sem] singles
def fld (t o:Nat):Field:={name:= "",type:=t,offset:=o,embedded:=false,tag:= "",pkgPath:= "",byteOffset:=0}
section
variable {P:Program} {t:TypeId}
theorem Cd.array {tot n sz:Nat} {e:TypeId} {fl:List Field} {α:Type} {f:α→List Ac} {Pa:α→Prop} (ht:P.underlying t=some (.array n e)) (hc:P.cellsOf t=tot) (he:P.cellsOf e=sz)
    (hl:fl=(List.range n).map fun i=>fld e (i*sz)) (h:Vp P tot 0 fl f Pa):Cd P t f Pa:=by
  constructor
  intro H enc w base spare held fuel cs x hx
  obtain⟨xs,m,rfl,_,hlen,qz,hf⟩:=DataW.trod_array ht hx
  have:=h.op (cs:=cs) (by rw[hlen,hc]) fun i fd hi=>by
    rw[hl,List.getElem?_map]at hi
    have ig:i<n:=by
      cases hr:(List.range n)[i]? with
      | none=>rw[hr]at hi;cases hi
      | some j=>have:=(Ak1.1 hr).1;simpa using this
    rw[List.getElem?_range ig]at hi
    obtain rfl:=Ak0 hi
    have:=hf i ig
    rw[Aks (by omega),he]at this
    refine⟨xs[i],?_⟩
    simp only[fld,he]
    exact this
  simpa using this
theorem mC {w:World} {r:Reach} {base:Nat} {v:Value} {n:Nat} {e:TypeId} (ht:P.underlying t=some (.array n e)) (h:Value.okWide P w r base t v):∃ cs,v= .agg cs:=by
  simp only[Value.okWide,ht]at h
  obtain⟨cs,h1,_⟩:=h
  exact⟨cs,h1⟩
theorem Lh.array {n:Nat} {e:TypeId} {α:Type} {f:α→List Ac} {Pa:α→Prop} (ht:P.underlying t=some (.array n e)) (h:Cd P t f Pa):Lh P t (fun a=>.agg (f a)) Pa:=by
  constructor
  intro H enc w base b0 r spare held v d ps fq ⟨fuel,hf⟩
  obtain⟨cs,rfl⟩:=mC ht fq
  obtain⟨a,h1,h2⟩:=h.op hf
  refine⟨a,h1,.agg cs (f a) (by simpa[Value.cells]using h2.1) fun i u c hu hc=>h2.2 i u c (by simpa[Value.cells]using hu) hc⟩
end
variable {P:Program} {md:Option Nat}
theorem j7 {md:Option Nat} {n m:Nat} {c:Code} {Q:Exit→Act→World→Prop} {a:Act} {w:World} (h:c.wpIn (fence md) n P Q a w):c.wpIn (fence md) m P Q a w:=
  fun b k cs h1 h2 _=>h b k cs h1 h2 (fun _ h=>by simp[fence,Fence.wide]at h)
theorem fL {W0:World} {C:Ctx} {w:World} (I:Inv W0 C w) {r D n:Nat} {fr:Fr} {ps:Array Tmp} {asg body:Code} {st:LoopState} {p:Option Code} (hr:C.H[r]? =some (.lp D n fr ps asg body st p)) :
    ∃ rec:Loop,w.heap[D+1]? =some (.loop rec)∧rec.state=st∧rec.pending=p∧rec.params=ps∧rec.assign=asg∧rec.body=body∧rec.tmps.size=n∧Sh C w rec.tmps fr∧
      ∀ st' p',Inv W0 (C.set r (.lp D n fr ps asg body st' p')) (w.putObj (D+1) (.loop {rec with state:=st',pending:=p'}))∧Fl C w (C.set r (.lp D n fr ps asg body st' p')) (w.putObj (D+1) (.loop {rec with state:=st',pending:=p'})):=by
  obtain⟨l,rec,h1,h0,h2,h3,h4,h5,h6,h7,h8,h9,ob,sx,qu⟩:=I.objs r _ hr
  rw[h0]at h2
  refine⟨rec,h2,h6,h7,h3,h4,h5,h9,ob,fun st' p'=>?_⟩
  have hs:=I.sep r l h1
  have af:D+1<w.heap.size:=by have:=hs.2.2.1;omega
  have bc:∀ b,b≠l.b→(w.putObj (D+1) (.loop {rec with state:=st',pending:=p'})).heap[b]? =w.heap[b]?:=fun b hb=>World.putObj_heap_other (by omega)
  refine I.put hr h1 bc World.putObj_size (Sf I.below (by omega) _) ?_ (fun m=>?_)
  ·unfold D2
   simp only[Ctx.set,List.getElem?_set_self hs.1]
   exact⟨⟨_,hr,rfl⟩,trivial⟩
  ·exact⟨l,{rec with state:=st',pending:=p'},h1,h0,by rw[h0];exact World.putObj_heap_same af,h3,h4,h5,rfl,rfl,h8,h9,fun t=>(ob t).mono m,sx,by rw[bc D (by omega)];exact qu⟩
def mA:Fr→List Tmp→List Ac→Fr
  | fr,t::ts,v::vs=>mA ((t,v)::fr) ts vs
  | fr,_,_=>fr
theorem gK {C:Ctx} {w:World}:∀ (ps:List Tmp) (vs:List Value) (args:List Ac) (tmps:Array Value) (fr:Fr),Sh C w tmps fr→vs.length=args.length→(∀ t∈ps,t<tmps.size)→
    (∀ (i:Nat) (v:Value) (a:Ac),vs[i]? =some v→args[i]? =some a→Bk C w v a)→
    Sh C w ((ps.zip vs).foldl (fun tmps (t,a)=>tmps.setIfInBounds t a) tmps) (mA fr ps args)∧((ps.zip vs).foldl (fun tmps (t,a)=>tmps.setIfInBounds t a) tmps).size=tmps.size
  | [],vs,args,tmps,fr,h,_,_,_=>⟨by cases args<;>exact h,rfl⟩
  | t::ps,[],[],tmps,fr,h,_,_,_=>⟨h,rfl⟩
  | t::ps,v::vs,a::args,tmps,fr,h,hl,hp,hv=>by
    have hs:(tmps.setIfInBounds t v).size=tmps.size:=by simp
    have h':Sh C w (tmps.setIfInBounds t v) ((t,a)::fr):=h.put (a:={tmps:=tmps,defers:=[]}) (hv 0 v a rfl rfl) (some t) (fun k hk=>by simp at hk;subst hk;exact hp t (by simp))
    have:=gK ps vs args (tmps.setIfInBounds t v) ((t,a)::fr) h' (by simpa using hl) (fun t' ht'=>by rw[hs];exact hp t' (List.mem_cons_of_mem _ ht')) (fun i v' a' h1 h2=>hv (i+1) v' a' (by simpa using h1) (by simpa using h2))
    exact⟨this.1,this.2.trans hs⟩
  | t::ps,[],a::args,tmps,fr,h,hl,_,_=>by simp at hl
  | t::ps,v::vs,[],tmps,fr,h,hl,_,_=>by simp at hl
def qyB (r D n:Nat) (fr:Fr) (ps:Array Tmp) (asg body:Code) (K:Ac→List A2→Prop):Exit→Fr→List A2→Prop
  | .normal,_,H=>∃ p,H[r]? =some (.lp D n fr ps asg body .busy p)∧K (.bool true) (H.set r (.lp D n fr ps asg body .ready none))
  | .ret,_,H=>∃ p,H[r]? =some (.lp D n fr ps asg body .busy p)∧K (.bool false) (H.set r (.lp D n fr ps asg body .done (some .ret)))
  | .exit id,_,H=>∃ p,H[r]? =some (.lp D n fr ps asg body .busy p)∧K (.bool false) (H.set r (.lp D n fr ps asg body .done (some (.exit id))))
  | _,_,_=>False
def qyA (md:Option Nat) (P:Program) (st:List Fr) (r D n:Nat) (fr:Fr) (ps:Array Tmp) (asg body bodyc:Code) (K:Ac→List A2→Prop):Exit→Fr→List A2→Prop
  | .normal,fr1,H=>∃ p,H[r]? =some (.lp D n fr ps asg body .ready p)∧AWP md P n bodyc (qyB r D n fr ps asg body K) st fr1 (H.set r (.lp D n fr ps asg body .busy p))
  | _,_,_=>False
theorem Al.yield {r D n:Nat} {fr:Fr} {ps:Array Tmp} {asg body:Code} {p:Option Code} {args:List Ac} {st:List Fr} {H:List A2} {K:Ac→List A2→Prop} (hr:H[r]? =some (.lp D n fr ps asg body .ready p))
    (hlen:args.length=ps.size) (hps:(ps.toList.all fun t=>Nat.blt t n)=true) {asgc bodyc:Code} {pl:List Tmp} (hA:asg=asgc) (hB:body=bodyc) (oo:ps.toList=pl) (h:∀ md,AWP md P n asgc (qyA md P st r D n fr ps asg body bodyc K) st (mA fr pl args) H):Al P (.yld r) args st H K:=by
  subst hA hB oo
  intro W0 C w outs fv vs I hH hO hf hl hv
  subst hH
  obtain⟨rec,e1,e2,e3,rfl,rfl,rfl,e7,e8,e9⟩:=fL I hr
  cases hf with
  | yld b _ hk hh=>
    obtain⟨l,h1,rfl⟩:=hh _ hr rfl
    obtain⟨l',_,ou,xv,_⟩:=I.objs r _ hr
    have hb:l.b=D+1:=by rw[h1]at ou;obtain rfl:=Ak0 ou;exact xv
    rw[hb]
    refine .inr ⟨D+1,rec,rfl,e1,by rw[hl,hlen],roundIn_of_wpIn (F:=Fence.wide) trivial ?_⟩
    have hfold:(rec.params.zip vs.toArray).foldl (fun tmps (t,a)=>tmps.setIfInBounds t a) rec.tmps=(rec.params.toList.zip vs).foldl (fun tmps (t,a)=>tmps.setIfInBounds t a) rec.tmps:=by
      rw[← Array.foldl_toList];simp
    rw[hfold]
    have hF:=gK rec.params.toList vs args rec.tmps fr e8 hl (fun t ht=>by
      have:=List.all_eq_true.1 hps t ht
      rw[e7];simpa using this) hv
    refine j7 (md:=some (D+1)) (n:=5) (wpIn_mono (h (some (D+1)) W0 C.A0 [] outs _ w ⟨C,rfl,rfl,I,hF.1,hO,by rw[← e7];exact hF.2,rfl⟩) ?_)
    intro e a1 w1 ⟨fr1,H1,hq,hR1⟩
    cases e with
    | normal=>
      obtain⟨p1,hr1,rj⟩:=hq
      obtain⟨C1,rfl,hA1,I1,hF1,dj,hn1,hd1⟩:=hR1.ex
      obtain⟨rec1,f1,f2,f3,f4,f5,f6,f7,f8,f9⟩:=fL I1 hr1
      have t1:=f9 .busy p1
      refine⟨_,run_beginRound f1 f2,?_⟩
      rw[show({rec1 with state:=LoopState.busy}:Loop)={rec1 with state:=.busy,pending:=p1} by rw[← f3]]
      refine j7 (md:=some (D+1)) (n:=5) (wpIn_mono (rj W0 C.A0 [] outs a1 _ ⟨C1.set r (.lp D n fr rec.params rec.assign rec.body .busy p1),rfl,hA1,t1.1,hF1.mono t1.2,dj.mono t1.2,hn1,hd1⟩) ?_)
      intro e a2 w2 ⟨fr2,H2,hq2,hR2⟩
      have fin:∀ (jump:Option Code) (p2:Option Code) (b:Bool) (st2:LoopState),b=jump.isNone→st2=(if jump.isNone then LoopState.ready else .done)→H2[r]? =some (.lp D n fr rec.params rec.assign rec.body .busy p2)→K (.bool b) (H2.set r (.lp D n fr rec.params rec.assign rec.body st2 jump))→
       ∃ v w',(Instr.endRound (D+1) jump).run P w2= .ok v w'∧∃ v' r C',Ending.returned v= .returned v'∧K r C'.H∧C'.A0=C.A0∧Bk C' w' v' r∧Inv W0 C' w'∧Eo C' w' outs st:=by
        intro jump p2 b st2 hb iw gy hk
        subst hb iw
        obtain⟨C2,rfl,hA2,I2,hF2,ek,hn2,hd2⟩:=hR2.ex
        obtain⟨rec2,g1,g2,g3,g4,g5,g6,g7,g8,g9⟩:=fL I2 gy
        have t2:=g9 (if jump.isNone then LoopState.ready else .done) jump
        exact⟨_,_,run_endRound jump g1,_,_,C2.set r (.lp D n fr rec.params rec.assign rec.body (if jump.isNone then LoopState.ready else LoopState.done) jump),rfl,hk,hA2,.bool _,t2.1,ek.mono t2.2⟩
      cases e with
      | normal=>obtain ⟨p2,gy,hk⟩:=hq2;exact fin none p2 true _ rfl rfl gy hk
      | ret=>obtain ⟨p2,gy,hk⟩:=hq2;exact fin (some .ret) p2 false _ rfl rfl gy hk
      | exit id=>obtain ⟨p2,gy,hk⟩:=hq2;exact fin (some (.exit id)) p2 false _ rfl rfl gy hk
      | _=>exact hq2.elim
    | _=>exact hq.elim
def Aam (D:Nat) (H:List A2):Prop:=∃ (r n:Nat) (fr:Fr) (ps:Array Tmp) (asg body:Code) (st:LoopState) (p:Option Code),H[r]? =some (A2.lp D n fr ps asg body st p)
def j6 (P:Program) (n:Nat) (c:Code) (Q:Exit→Fr→List A2→Prop) (fr:Fr) (H:List A2):Prop:=
  ∀ (W0:World) (A0:Nat→Prop) (a:Act) (w:World),Gb W0 A0 [] n [] [] fr H a w→
    c.wpIn (fence none) 5 P (fun e a' w'=>∃ fr' H',Q e fr' H'∧(Gb W0 A0 [] n [] [] fr' H' a' w'∨∃ D,W0.heap.size≤D∧Aam D H'∧Gb W0 A0 [{target:=.collected D,args:=#[]}] n [] [] fr' H' a' w')) a w
theorem j6.pre {n:Nat} {c d:Code} {Q:Exit→Fr→List A2→Prop} {fr:Fr} {H:List A2} (h:AWP none P n c (qthen (j6 P n d Q) Q) [] fr H):j6 P n (.seq c d) Q fr H:=by
  intro W0 A0 a w R
  refine wpIn_seq (wpIn_mono (h W0 A0 [] [] a w R) ?_)
  intro e a' w' ⟨fr',H',hq,hR⟩
  cases e<;>first | exact hq W0 A0 a' w' hR | exact⟨fr',H',hq,.inl hR⟩
def qmD (D:Nat) (Q:Exit→Fr→List A2→Prop) (e:Exit) (fr:Fr) (H:List A2):Prop:=Aam D H∧Q e fr H
theorem qmD.mk {D r n:Nat} {Q:Exit→Fr→List A2→Prop} {e:Exit} {fr:Fr} {H:List A2} {fr':Fr} {ps:Array Tmp} {asg body:Code} {st:LoopState} {p:Option Code} (hr:H[r]? =some (.lp D n fr' ps asg body st p)) (h:Q e fr H):qmD D Q e fr H:=⟨⟨r,n,fr',ps,asg,body,st,p,hr⟩,h⟩
def qW (P:Program) (n:Nat) (c:Code) (N:Option Nat→Fr→List A2→Prop) (Q:Exit→Fr→List A2→Prop) (fr:Fr) (H:List A2):Prop:=
  ∀ (W0:World) (A0:Nat→Prop) (a:Act) (w:World),Gb W0 A0 [] n [] [] fr H a w→
    c.wpIn (fence none) 5 P (fun e a' w'=>∃ fr' H',(match e with
      | .normal=>(N none fr' H'∧Gb W0 A0 [] n [] [] fr' H' a' w')∨∃ D,W0.heap.size≤D∧N (some D) fr' H'∧Gb W0 A0 [{target:=.collected D,args:=#[]}] n [] [] fr' H' a' w'
      | e=>Q e fr' H'∧(Gb W0 A0 [] n [] [] fr' H' a' w'∨∃ D,W0.heap.size≤D∧Aam D H'∧Gb W0 A0 [{target:=.collected D,args:=#[]}] n [] [] fr' H' a' w'))) a w
def nafter (P:Program) (n:Nat) (d:Code) (Q:Exit→Fr→List A2→Prop):Option Nat→Fr→List A2→Prop
  | none=>j6 P n d Q
  | some D=>AWP none P n d (qmD D Q) []
theorem j6.seqq {n:Nat} {c d:Code} {Q:Exit→Fr→List A2→Prop} {fr:Fr} {H:List A2} (h:qW P n c (nafter P n d Q) Q fr H):j6 P n (.seq c d) Q fr H:=by
  intro W0 A0 a w R
  refine wpIn_seq (wpIn_mono (h W0 A0 a w R) ?_)
  intro e a' w' ⟨fr',H',hq⟩
  cases e with
  | normal=>
    rcases hq with⟨hn,hR⟩ | ⟨D,wc,hn,hR⟩
    ·exact hn W0 A0 a' w' hR
    ·exact wpIn_mono (hn W0 A0 _ [] a' w' hR) fun e a' w' ⟨fr',H',hq,hR⟩=>⟨fr',H',hq.2,.inr ⟨D,wc,hq.1,hR⟩⟩
  | _=>exact ⟨fr',H',hq.1,hq.2⟩
theorem qW.seq {n:Nat} {c d:Code} {N:Option Nat→Fr→List A2→Prop} {Q:Exit→Fr→List A2→Prop} {fr:Fr} {H:List A2} (h:AWP none P n c (qthen (qW P n d N Q) Q) [] fr H):qW P n (.seq c d) N Q fr H:=by
  intro W0 A0 a w R
  refine wpIn_seq (wpIn_mono (h W0 A0 [] [] a w R) ?_)
  intro e a' w' ⟨fr',H',hq,hR⟩
  cases e<;>first | exact hq W0 A0 a' w' hR | exact⟨fr',H',hq,.inl hR⟩
def qrange (n:Nat) (N:Option Nat→Fr→List A2→Prop) (Q:Exit→Fr→List A2→Prop) (id D r:Nat) (fr:Fr) (ps:Array Tmp) (asg body:Code) (_:Ac) (H:List A2):Prop:=
  ∃ st p,H[r]? =some (.lp D n fr ps asg body st p)∧st≠.busy∧
    match p with
    | none=>N (some D) fr (H.set r (.lp D n fr ps asg body .exhausted p))
    | some .ret=>Q .ret fr (H.set r (.lp D n fr ps asg body .exhausted p))
    | some (.exit i)=>i=id∧N (some D) fr (H.set r (.lp D n fr ps asg body .exhausted p))
    | _=>False
section
variable {n id D r:Nat} {N:Option Nat→Fr→List A2→Prop} {Q:Exit→Fr→List A2→Prop} {fr:Fr} {ps:Array Tmp} {asg body d:Code} {v:Ac} {H:List A2}
theorem qrange.all (hr:H[r]? =some (.lp D n fr ps asg body .ready none)) (h:AWP none P n d (qmD D Q) [] fr (H.set r (.lp D n fr ps asg body .exhausted none))):qrange n (nafter P n d Q) Q id D r fr ps asg body v H:=⟨_,_,hr,by simp,h⟩
theorem qrange.ret (hr:H[r]? =some (.lp D n fr ps asg body .done (some .ret))) (h:Q .ret fr (H.set r (.lp D n fr ps asg body .exhausted (some .ret)))):qrange n N Q id D r fr ps asg body v H:=⟨_,_,hr,by simp,h⟩
end
theorem qyA.mk {md:Option Nat} {st:List Fr} {r D n:Nat} {fr fr1:Fr} {ps:Array Tmp} {asg body bodyc:Code} {K:Ac→List A2→Prop} {H:List A2} {p:Option Code} (hr:H[r]? =some (.lp D n fr ps asg body .ready p))
    (h:AWP md P n bodyc (qyB r D n fr ps asg body K) st fr1 (H.set r (.lp D n fr ps asg body .busy p))):qyA md P st r D n fr ps asg body bodyc K .normal fr1 H:=⟨p,hr,h⟩
section
variable {r D n:Nat} {fr fr1:Fr} {ps:Array Tmp} {asg body:Code} {K:Ac→List A2→Prop} {H:List A2} {p:Option Code}
theorem qyB.next (hr:H[r]? =some (.lp D n fr ps asg body .busy p)) (h:K (.bool true) (H.set r (.lp D n fr ps asg body .ready none))):qyB r D n fr ps asg body K .normal fr1 H:=⟨p,hr,h⟩
theorem qyB.ret (hr:H[r]? =some (.lp D n fr ps asg body .busy p)) (h:K (.bool false) (H.set r (.lp D n fr ps asg body .done (some .ret)))):qyB r D n fr ps asg body K .ret fr1 H:=⟨p,hr,h⟩
theorem qyB.exit {id:Nat} (hr:H[r]? =some (.lp D n fr ps asg body .busy p)) (h:K (.bool false) (H.set r (.lp D n fr ps asg body .done (some (.exit id))))):qyB r D n fr ps asg body K (.exit id) fr1 H:=⟨p,hr,h⟩
end
theorem qW.range {n id:Nat} {g:Operand} {ps:Array Tmp} {asg body:Code} {N:Option Nat→Fr→List A2→Prop} {Q:Exit→Fr→List A2→Prop} {fr0:Fr} {H:List A2} {f:FuncId} {cs:List Ac} (fr:Fr) (xu:fX fr0 fr) (xq:Yp H H) (hg:ev fr g= .func f cs)
    (h:∀ D asg' body',asg'=asg→body'=body→Al P (.func f cs) [.yld H.length] [fr] (H++[.lp D n fr ps asg' body' .ready none]) (qrange n N Q id D H.length fr ps asg' body')):qW P n (.block id (.rangeFunc g ps asg body)) N Q fr0 H:=by
  intro W0 A0 a w R0
  have R:=Sub.weak (outer:=[]) xq xu (.inl rfl) _ _ _ _ _ _ _ R0
  clear R0 xu xq
  replace h:=fun D=>h D asg body rfl rfl
  obtain⟨C,rfl,rfl,I,hF,hO,hn,hd⟩:=R.ex
  refine wpIn_block (wpIn_rangeFunc fun fn _=>?_)
  have qi:=run_enterLoop_outer (P:=P) (w:=w) fn a.tmps ps asg body
  have g1:=I.grow (w':=w.alloc (.deferred (some []))) (fun b=>b=w.heap.size) (fun b hb=>by subst hb;simp) (by
    exact((Below.refl w.heap.size w).alloc (Nat.le_refl _) _))
  have hD:(w.alloc (.deferred (some []))).heap[w.heap.size]? =some (.deferred (some [])):=World.alloc_heap_new w _
  have g2:=g1.1.alloc (C.more fun b=>b=w.heap.size).H.length (.inl rfl) (.lp w.heap.size n fr ps asg body .ready none)
    (.loop {state:=.ready,pending:=none,fn,tmps:=a.tmps,params:=ps,assign:=asg,body:=body,defers:=w.heap.size}) 0 (fun m=>by
      refine⟨_,_,Ctx.Sz _ _ _ _,by simp,D5 _ _,rfl,rfl,rfl,rfl,rfl,rfl,hn,fun t=>((hF t).mono g1.2).mono m,.inr rfl,?_⟩
      rw[Below.heap_alloc _ _ _ (by simp)];exact hD)
  have hH:((C.more fun b=>b=w.heap.size).new (C.more fun b=>b=w.heap.size).H.length (.lp w.heap.size n fr ps asg body .ready none) ⟨(w.alloc (.deferred (some []))).heap.size,0,0⟩).H=C.H++[.lp w.heap.size n fr ps asg body .ready none]:=by
    show Ha C.H C.H.length _=_
    unfold Ha;rw[if_pos rfl]
  have hm:=g1.2.trans g2.2
  have kr:=h w.heap.size W0 _ _ (a.tmps::[]) (a.eval g) [.func (.yield (w.heap.size+1)) #[] #[]] g2.1 hH (Eo.nil.cons (hF.mono hm)) (hg ▸ Qq (hF.mono hm) g) rfl (fun i v x hv hx=>by
    match i with
    | 0=>
      simp at hv hx
      subst hv hx
      refine .yld _ _ (Ctx.Rh (C:=C.more fun b=>b=w.heap.size) (.inl rfl) _ (by simp)) fun o ho hlp=>⟨_,Ctx.Sz (C.more fun b=>b=w.heap.size) _ _ _,by simp⟩
    | i+1=>simp at hv)
  rcases kr with⟨fid,caps,h1,h2,h3⟩ | ⟨l,rec,h1,hl,_⟩
  ·generalize ny:(w.alloc (.deferred (some []))).alloc (.loop {state:=.ready,pending:=none,fn,tmps:=a.tmps,params:=ps,assign:=asg,body:=body,defers:=w.heap.size})=W1 at qi h3 g2 hm
   refine⟨w.heap.size+1,[{target:=.collected w.heap.size,args:=#[]}],W1,{target:=.fn (.func fid) caps,args:=#[.func (.yield (w.heap.size+1)) #[] #[]]},W1,fid,#[.func (.yield (w.heap.size+1)) #[] #[]]++caps,W1,qi,?_,fun _ _=>trivial,?_,S4,?_⟩
   rotate_left 2
   ·refine Xh (h3.mono ?_)
    rintro e w3 ⟨v,r,C3,he,hk,hA,hv,I3,gw⟩
    subst he
    obtain⟨st,p,hr,iw,hk⟩:=hk
    obtain⟨rec,e1,e2,e3,e4,e5,e6,e7,e8,e9⟩:=fL I3 hr
    have t:=e9 .exhausted p
    refine⟨rec.pending,_,run_endLoop e1 (by rw[e2];exact iw),?_⟩
    rw[show({rec with state:=LoopState.exhausted}:Loop)={rec with state:=.exhausted,pending:=p} by rw[← e3]]
    have af:=(Ak1.1 hr).1
    have hhas:Aam w.heap.size (C3.H.set C.H.length (.lp w.heap.size n fr ps asg body .exhausted p)):=⟨C.H.length,_,_,_,_,_,_,_,List.getElem?_set_self af⟩
    have R3:Gb W0 C.A0 ({target:=.collected w.heap.size,args:=#[]}::[]) n [] [] fr (C3.H.set C.H.length (.lp w.heap.size n fr ps asg body .exhausted p)) {a with defers:=[{target:=.collected w.heap.size,args:=#[]}]++a.defers} (w3.putObj (w.heap.size+1) (.loop {rec with state:=.exhausted,pending:=p})):=
      ⟨C3.set C.H.length (.lp w.heap.size n fr ps asg body .exhausted p),rfl,hA,t.1,gw.head.mono t.2,.nil,hn,by simp[hd]⟩
    rw[e3]
    cases p with
    | none=>exact ⟨fr,_,.inr ⟨_,I.below.size,hk,R3⟩⟩
    | some c=>
      cases c<;>first | exact hk.elim | skip
      ·obtain⟨rfl,hk⟩:=hk
       refine wpIn_exit ?_
       simp only[Exit.inBlock,if_pos]
       exact⟨fr,_,.inr ⟨_,I.below.size,hk,R3⟩⟩
      ·exact wpIn_ret ⟨fr,_,hk,.inr ⟨_,I.below.size,hhas,R3⟩⟩
   ·simp only[resolve,rangeCall,Deferred.ofValue,h1,Sem.run_bind,Sem.run_pure,Result.andThen_ok]
    rw[show(#[]++Array.map a.eval #[Operand.const (Value.func (Fn.yield (w.heap.size+1)) #[] #[])]:Array Value)=#[Value.func (Fn.yield (w.heap.size+1)) #[] #[]] by apply Array.ext';simp[Act.eval]]
   ·simp only[invoke]
    exact h2 _ _
  ·have hv:=Qq hF g
   rw[hg,h1]at hv
   cases hv
def Oo:A2→A2
  | .lp _ _ _ _ _ _ _ _=>.gone
  | o=>o
def Ctx.Oo (C:Ctx):Ctx:={C with ρ:=fun r=>match C.H[r]? with | some (.lp _ _ _ _ _ _ _ _)=>none | _=>C.ρ r,H:=C.H.map Go.Ab.Oo}
theorem Ctx.R5 (C:Ctx) (r:Nat):C.Oo.H[r]? =(C.H[r]?).map Go.Ab.Oo:=by simp[Ctx.Oo]
theorem Ctx.Va {C:Ctx} {r:Nat} {o:A2} (h:C.Oo.H[r]? =some o) (ho:o≠.gone):C.H[r]? =some o∧C.Oo.ρ r=C.ρ r:=by
  rw[Ctx.R5]at h
  cases hc:C.H[r]? with
  | none=>rw[hc]at h;cases h
  | some o0=>
    rw[hc]at h
    obtain rfl:=Ak0 h
    cases o0<;>first | exact absurd rfl ho | exact⟨rfl,by simp only[Ctx.Oo,hc]⟩
theorem Ctx.O9 {C:Ctx} {r:Nat} (h:C.known r):C.Oo.known r:=by
  obtain⟨o,ho,bc⟩:=h
  refine⟨Go.Ab.Oo o,by rw[Ctx.R5,ho];rfl,?_⟩
  cases o<;>first | exact absurd rfl bc | simp[Go.Ab.Oo]
theorem Bk.shut {C:Ctx} {w w':World} {D:Nat} {ds:Option (List Deferred)} (hD:w.heap[D]? =some (.deferred ds)) (hw:∀ b,b≠D→w'.heap[b]? =w.heap[b]?) {v:Value} {a:Ac} (h:Bk C w v a):Bk C.Oo w' v a:=by
  have aq:∀ (ad:Addr) (u:Value),w.cell? ad=some u→w'.cell? ad=some u:=by
    intro ad u h
    by_cases e:ad.block=D
    ·have:w.cell? ad=none:=by unfold World.cell?;rw[e,hD]
     rw[this]at h;cases h
    ·rw[Hl (hw _ e)];exact h
  induction h with
  | any v=>exact .any v
  | bool b=>exact .bool b
  | int k n=>exact .int k n
  | str s=>exact .str s
  | agg arr cs h _ ih=>exact .agg arr cs h ih
  | tuple arr cs h _ ih=>exact .tuple arr cs h ih
  | nils=>exact .nils
  | z0 a=>exact .z0 a
  | sl0 a cap sz cd=>exact .sl0 a cap sz cd
  | sl a len cap xs sz u cm hlen cw cd hA bl bu hg hc ay ih=>exact .sl a len cap xs sz u cm hlen cw cd hA bl bu hg (fun j hj=>aq _ _ (hc j hj)) ih
  | own a len cap r v lo hr cw cd hv=>
    refine .own a len cap r v lo (Ctx.O9 hr) cw cd fun v' sz xs h=>?_
    have:=Ctx.Va h (by simp)
    rw[this.2];exact hv _ _ _ this.1
  | eptr a cs u cm hA hg hc ay ih=>exact .eptr a cs u cm hA hg (fun j hj=>aq _ _ (hc j hj)) ih
  | ptr a r k hr h=>
    refine .ptr a r k (Ctx.O9 hr) fun cs h'=>?_
    have:=Ctx.Va h' (by simp)
    rw[this.2];exact h _ this.1
  | rptr a r v i k hr h=>
    refine .rptr a r v i k (Ctx.O9 hr) fun v' sz xs h'=>?_
    have:=Ctx.Va h' (by simp)
    rw[this.2];exact h _ _ _ this.1
  | nilm=>exact .nilm
  | map b r hr h=>
    refine .map b r (Ctx.O9 hr) fun o h' hl=>?_
    have:=Ctx.Va h' (by rintro rfl;cases hl)
    rw[this.2];exact h _ this.1 hl
  | vmap0=>exact .vmap0
  | vmap b es entries clock hA hg hh cj ay ih=>
    refine .vmap b es entries clock hA hg ?_ cj ih
    rw[hw b (fun e=>by rw[e,hD]at hh;cases hh)];exact hh
  | func f arr cs h _ ih=>exact .func f arr cs h ih
  | iter a r hr cm h=>
    refine .iter a r (Ctx.O9 hr) cm fun left cur h'=>?_
    have:=Ctx.Va h' (by simp)
    rw[this.2];exact h _ _ this.1
  | yld b r hr h=>
    refine .yld b r (Ctx.O9 hr) fun o h' hl=>?_
    have:=Ctx.Va h' (by rintro rfl;cases hl)
    rw[this.2];exact h _ this.1 hl
theorem Inv.shut {W0:World} {C:Ctx} {w w':World} (I:Inv W0 C w) {D:Nat} {ds:Option (List Deferred)} (hD:w.heap[D]? =some (.deferred ds)) (hw:∀ b,b≠D→w'.heap[b]? =w.heap[b]?) (bu:w'.heap.size=w.heap.size) (hb:Below W0.heap.size W0 w'):Inv W0 C.Oo w':=by
  have sh:∀ {v a},Bk C w v a→Bk C.Oo w' v a:=fun h=>h.shut hD hw
  have hρ:∀ {r l},C.Oo.ρ r=some l→C.ρ r=some l:=by
    intro r l h
    simp only[Ctx.Oo]at h
    split at h
    ·cases h
    ·exact h
  refine⟨hb,fun b hA=>by rw[bu];exact I.sub b hA,I.old,fun r l h=>?_,fun r r' l l' h h'=>I.inj r r' l l' (hρ h) (hρ h'),fun r o h=>?_⟩
  ·have:=I.sep r l (hρ h)
   exact⟨by simpa[Ctx.Oo]using this.1,this.2.1,by rw[bu];exact this.2.2.1,this.2.2.2⟩
  ·by_cases hg:o= .gone
   ·subst hg
    show C.Oo.ρ r=none
    rw[Ctx.R5]at h
    cases hc:C.H[r]? with
    | none=>rw[hc]at h;cases h
    | some o0=>
      rw[hc]at h
      have h:=Ak0 h
      have hR:=I.objs r o0 hc
      cases o0<;>simp only[Go.Ab.Oo]at h<;>first | (cases h;done) | skip
      ·simp only[Ctx.Oo,hc]
      ·simp only[Ctx.Oo,hc];exact hR
   ·obtain⟨h1,h2⟩:=Ctx.Va h hg
    have hR:=I.objs r o h1
    have bc:∀ {b:Nat} {o':Obj},w.heap[b]? =some o'→(∀ x,o'≠Obj.deferred x)→w'.heap[b]? =some o':=by
      intro b o' hb hx
      rw[hw b (fun e=>by rw[e,hD]at hb;exact hx _ (Ak0 hb).symm)];exact hb
    cases o with
    | box cs=>
      obtain⟨l,arr,T,h1,h3,h4,h5⟩:=hR
      exact⟨l,arr,T,by rw[h2];exact h1,bc h3 (by simp),h4,fun i u c a b=>sh (h5 i u c a b)⟩
    | row v sz xs=>
      obtain⟨e1,e2,e3,h⟩:=hR
      refine⟨e1,e2,e3,?_⟩
      rcases h with⟨h1,h3⟩ | ⟨l,arr,T,h1,h3,h4,h5,h6⟩
      ·exact .inl ⟨h1,by rw[h2];exact h3⟩
      ·refine .inr ⟨l,arr,T,by rw[h2];exact h1,bc h3 (by simp),h4,h5,fun i k x c a b=>?_⟩
       obtain⟨u,hu,hr⟩:=h6 i k x c a b
       exact⟨u,hu,sh hr⟩
    | mp es=>
      obtain⟨l,en,cl,h1,h3,h4,hg,h5⟩:=hR
      exact⟨l,en,cl,by rw[h2];exact h1,bc h3 (by simp),h4,hg,fun i e p a b=>sh (h5 i e p a b)⟩
    | mpo q es=>
      obtain⟨l,en,cl,h1,h3,h4,h5⟩:=hR
      exact⟨l,en,cl,by rw[h2];exact h1,bc h3 (by simp),h4,fun i e p a b=>sh (h5 i e p a b)⟩
    | it left cur=>
      obtain⟨l,h1,h⟩:=hR
      refine⟨l,by rw[h2];exact h1,?_⟩
      rcases h with⟨e2,e2',s,n,k,h3⟩ | ⟨bm,seen,en,clock,e2,h3,h4,h5,h6,h7,h8⟩
      ·exact .inl ⟨e2,e2',s,n,k,bc h3 (by simp)⟩
      ·refine .inr ⟨bm,seen,en,clock,bc e2 (by simp),h3,bc h4 (by simp),h5,h6,⟨h7.1,fun i e p a b=>⟨(h7.2 i e p a b).1,(h7.2 i e p a b).2.1,sh (h7.2 i e p a b).2.2⟩⟩,fun p hp=>?_⟩
       obtain⟨e,g1,g2,g3,g4,g5⟩:=h8 p hp
       exact⟨e,g1,g2,g3,g4,sh g5⟩
    | lp D' n fr ps asg body st p=>
      rw[Ctx.R5,h1]at h
      exact absurd (Ak0 h).symm hg
    | gone=>exact absurd rfl hg
    | resv=>show C.Oo.ρ r=none;rw[h2];exact hR
theorem mV (fr:Fr) (C:Ctx) (rv:ResultVar) {a:Ac} (h:aresult P fr C.H rv=some a):aresult P fr C.Oo.H rv=some a:=by
  cases rv with
  | tmp t=>exact h
  | cell p T=>
    simp only[aresult]at h ⊢
    split at h
    ·rename_i r k hpk
     rw[Ctx.R5]
     cases hc:C.H[r]? with
     | none=>rw[hc]at h;cases h
     | some o=>
       rw[hc]at h
       cases o<;>first | exact h | (cases h;done)
    ·cases h
theorem Y7 (fr:Fr) (C:Ctx):∀ (l:List ResultVar) {vs:List Ac},Gz (aresult P fr C.H) l=some vs→Gz (aresult P fr C.Oo.H) l=some vs
  | [],vs,h=>h
  | rv::l,vs,h=>by
    simp only[Gz]at h ⊢
    split at h
    ·rename_i y ys h1 h2
     rw[mV fr C rv h1,Y7 fr C l h2]
     exact h
    ·cases h
theorem lD (C:Ctx) (a:Ac):Xd C.Oo.H a=Xd C.H a:=by
  unfold Xd
  split
  ·rename_i r _ _ _
   rw[Ctx.R5]
   cases hc:C.H[r]? with
   | none=>rfl
   | some o=>cases o<;>rfl
  ·rename_i r
   rw[Ctx.R5]
   cases hc:C.H[r]? with
   | none=>rfl
   | some o=>cases o<;>rfl
  all_goals rfl
theorem Zp {α β:Type} {f g:α→Option β} (h:∀ x,f x=g x):∀ l:List α,Gz f l=Gz g l
  | []=>rfl
  | x::l=>by simp only[Gz,h x,Zp h l]
theorem lC (C:Ctx) (a:Ac):O0 C.Oo.H a=O0 C.H a:=by
  unfold O0
  split
  ·rw[Zp (lD C)]
  ·exact lD C _
theorem vV (C:Ctx) (a:Ac):jV C.Oo.H a=jV C.H a:=by
  unfold jV
  split
  ·rw[Zp (lC C)]
  ·exact lC C _
theorem Ad.Abq {f:FuncId} {fn:Func} {c:Code} {n:Nat} {args:List Ac} {R:Ac→Prop} (hf:P.funcs[f]? =some fn) (hb:fn.body=some c) (hn:fn.ntmps=n) (hlen:args.length≤n)
    (h:j6 P n c (qret P fn (rfrz R)) (Sb args 0) []):Ad P f args R:=by
  intro A w vs hA eg
  have ej:(vs.toArray++Array.replicate (fn.ntmps - vs.toArray.size) undef).size=n:=by
    have:=eg.1
    simp only[Array.size_append,List.size_toArray,Array.size_replicate];omega
  have I0:Inv w (Ctx.imm A) w:=⟨.refl _ _,hA,fun b hb _=>hb,by simp[Ctx.imm],by simp[Ctx.imm],by simp[Ctx.imm]⟩
  refine(callsIn_wide (n:=5)).1 (callsIn_of_wp_marks hf hb trivial (wpIn_mono (h w A _ w ⟨Ctx.imm A,rfl,rfl,I0,Uq eg _,.nil,ej,rfl⟩) ?_))
  intro e a' w' ⟨fr',H',hq,hR⟩
  have key:∀ (C:Ctx) (w2:World),C.A0=A→Inv w C w2→Sh C w2 a'.tmps fr'→(match Gz (aresult P fr' C.H) fn.results.toList with | some vs=>rfrz R (aret vs) C.H | none=>False)→
   LeavesIn Fence.wide 5 P fn a'.tmps (fun e w'=>∃ v r,e= .returned v∧R r∧r.g2=true∧Below w.heap.size w w'∧Bk (Ctx.imm fun b=>A b∨(w.heap.size≤b∧b<w'.heap.size)) w' v r) [] .returning w2:=by
    intro C w2 fo I hF h
    split at h
    ·rename_i rs py
     obtain⟨v,h1,h2⟩:=Px (P:=P) I hF py
     unfold rfrz at h
     split at h
     ·rename_i r hr
      have h3:=Xb I h2 hr
      refine⟨v,h1,v,r,rfl,h,h3.1,I.below,Bk.ground' (fun b hb=>?_) h3.2 h3.1⟩
      rcases hb with hb | hb
      ·by_cases af:b<w.heap.size
       ·exact .inl (fo ▸ I.old b hb af)
       ·exact .inr ⟨by omega,I.sub b hb⟩
      ·exact .inr hb
     ·exact h.elim
    ·exact h.elim
  have all:(match Gz (aresult P fr' H') fn.results.toList with | some vs=>rfrz R (aret vs) H' | none=>False)→
   LeavesInM Fence.wide 5 P fn a'.tmps (fun e w'=>∃ v r,e= .returned v∧R r∧r.g2=true∧Below w.heap.size w w'∧Bk (Ctx.imm fun b=>A b∨(w.heap.size≤b∧b<w'.heap.size)) w' v r) a'.defers .returning w':=by
    intro h
    rcases hR with hR | ⟨D,hDge,hD,hR⟩
    ·obtain⟨C,rfl,fo,I,hF,_,_,hd⟩:=hR.ex
     rw[hd]
     exact key C w' fo I hF h
    ·obtain⟨C,rfl,fo,I,hF,_,_,hd⟩:=hR.ex
     rw[hd]
     obtain⟨r,n',fr2,ps,asg,body,st,p,hr⟩:=hD
     obtain⟨l,rec,_,_,_,_,_,_,_,_,_,_,_,_,hdD⟩:=I.objs r _ hr
     obtain⟨l',_,kd,xv,_⟩:=I.objs r _ hr
     have hs:=I.sep r l' kd
     have hDlt:D<w'.heap.size:=(Array.getElem?_eq_some_iff.1 hdD).1
     refine⟨by simp,.inl ⟨D,_,rfl,run_takeDeferred hdD,?_⟩⟩
     have hw:∀ b,b≠D→(w'.putObj D (.deferred none)).heap[b]? =w'.heap[b]?:=fun b hb=>World.putObj_heap_other hb
     have I2:=I.shut hdD hw World.putObj_size (Sf I.below hDge _)
     refine key C.Oo _ fo I2 (fun t=>(hF t).shut hdD hw) ?_
     split at h
     ·rename_i rs py
      rw[Y7 fr' C _ py]
      have h':rfrz R (aret rs) C.Oo.H:=by
        unfold rfrz at h ⊢
        rw[vV C (aret rs)]
        exact h
      exact h'
     ·exact h.elim
  cases e with
  | normal=>exact all hq
  | ret=>exact all hq
  | _=>exact hq.elim
variable {P:Program} {md:Option Nat}
theorem qX {s:Nat}:∀ {t:Nat},s<t→tri s+s<tri t
  | t+1,h=>by
    simp only[tri]
    by_cases e:s=t
    ·subst e;omega
    ·have:=qX (s:=s) (t:=t) (by omega);omega
theorem wT {a b:Int} (h:zz a=zz b):a=b:=by
  unfold zz at h
  split at h<;>split at h<;>omega
theorem Abl {a b c d:Int} (h:pk a b=pk c d):a=c∧b=d:=by
  unfold pk at h
  have h:tri (zz a+zz b)+zz b=tri (zz c+zz d)+zz d:=by omega
  rcases Nat.lt_trichotomy (zz a+zz b) (zz c+zz d)with h1 | h1 | h1
  ·have:=qX h1;omega
  ·rw[h1]at h
   have h2:zz b=zz d:=by omega
   exact⟨wT (by omega),wT h2⟩
  ·have:=qX h1;omega
theorem uJ.unique {u v:Value} {n:Int} (h:uJ true u n) (k:uJ true v n):u=v:=by
  obtain⟨a,b,rfl,h1⟩:=h
  obtain⟨c,d,rfl,h2⟩:=k
  obtain⟨rfl,rfl⟩:=Abl (h1.symm.trans h2)
  rfl
theorem ALP.op1 {n:Nat} {outer:List Fr} {all rest:List Oper} {Q:Exit→Fr→List A2→Prop} {fr:Fr} {H:List A2} {dst:Option Tmp} {op:Op} {type:TypeId} {pos:String} {after:Array Edge} (hd:(match dst with | some d=>Nat.blt d n | none=>true)=true) (hnd:∀ c,op≠.defer c)
    (h:∀ (W0:World) (C:Ctx) (w:World) (ρ:Operand→Value),Inv W0 C w→C.H=H→(∀ x,Bk C w (ρ x) (ev fr x))→T0 W0 C w ((execOp ρ {dst,op,type,pos,after,guard:=none}).run P w) (fun v ef=>ALP md P n outer all rest Q (put fr dst v) (ef.app H))) :
    ALP md P n outer all ({dst,op,type,pos,after,guard:=none}::rest) Q fr H:=by
  intro W0 A0 ds outs a w R
  obtain⟨C,rfl,rfl,I,hF,hO,hn,hdf⟩:=R.ex
  have af:∀ k,dst=some k→k<a.tmps.size:=by
    intro k hk
    subst hk
    rw[hn]
    simpa using hd
  have srep:∀ (C':Ctx) (w':World) (v:Value) (r:Ac),C'.A0=C.A0→Inv W0 C' w'→Sh C' w' a.tmps fr→Eo C' w' outs outer→Bk C' w' v r→Gb W0 C.A0 ds n outs outer (put fr dst r) C'.H (a.put dst v) w':=
    fun C' w' v r e I' wy lu hv=>⟨C',rfl,e,I',wy.put hv dst af,lu,by rw[gJ,hn],by rw[put_defers,hdf]⟩
  unfold wpListIn
  rw[if_pos (by simp[Region.wanted])]
  unfold Oper.wpIn
  refine⟨fun _ _=>trivial,?_⟩
  rw[Oper.semAt_eq _ _ _ hnd]
  obtain⟨r,w',C',ef,mh,hk,hH,I',m⟩:=(h W0 C w a.eval I rfl (Qq hF)).ex
  rw[← hH]at hk
  rcases mh with⟨v,bh,hv⟩ | ⟨bh,rfl⟩
  ·rw[bh,Oper.uponIn_value]
   exact hk W0 C.A0 ds outs _ w' (srep C' w' v r m.A0 I' (hF.mono m) (hO.mono m) hv)
  ·rw[bh,Oper.uponIn_skip]
   exact hk W0 C.A0 ds outs _ w' (srep C' w' undef _ m.A0 I' (hF.mono m) (hO.mono m) (T7 C' w'))
variable {P:Program}
variable {P:Program}
theorem qB {W0:World} {C:Ctx} {w:World} (I:Inv W0 C w) {T e:TypeId} {k:IntKind} {x:Value} {r v lo n:Nat} {xs:List (List Ac)} (hx:Bk C w x (.own r v lo n)) (hT:P.underlying T=some (.slice e))
    (hz:zeroV P e=some (.int k 0)) (hr:C.H[r]? =some (.row v 1 xs)) (xj:lo+n=xs.length) (ty:TypeId) {K:Ac→Eff→Prop} (hk:K (.tuple []) (.set r (.row v 1 (xs.take lo++List.replicate n [.int k 0])))) :
    Wg W0 C w ((Builtin.clear_ #[T] ty #[x]).run P w) K:=by
  cases hx with
  | own a _ cap _ _ _ vz cw cd hv=>
    obtain⟨-,h⟩:=hv _ _ _ hr
    obtain⟨h1,h2⟩:=h rfl
    have af:r<C.H.length:=(Ak1.1 hr).1
    cases n with
    | zero=>
      have e0:xs.take lo++List.replicate 0 [Ac.int k 0]=xs:=by rw[List.replicate_zero,List.append_nil];exact List.take_of_length_le (by omega)
      rw[e0]at hk
      have bh:(Builtin.clear_ #[T] ty #[.slice a 0 cap]).run P w= .ok (.tuple #[]) w:=by
        cases a<;>simp[Builtin.clear_,Jp hT]
      refine⟨_,_,w,C,_,bh,.tuple _ _ rfl (by simp),hk,?_,I,.refl _ _⟩
      show C.H=C.H.set r _
      apply List.ext_getElem?
      intro i
      by_cases e:r=i
      ·subst e;rw[List.getElem?_set_self af];exact hr
      ·rw[List.getElem?_set_ne e]
    | succ m=>
      obtain⟨l,hl,ha,mn⟩:=h2.resolve_left (by omega)
      subst ha
      obtain⟨_,bu,hg,ho⟩:=I.objs r _ hr
      rcases ho with⟨_,e1⟩ | ⟨l',arr,T',e1,e2,e3,e4,e5⟩
      ·rw[hl]at e1;cases e1
      rw[hl,Akv]at e1
      subst e1
      have hzc:(Builtin.zeroCells (Value.int k 0).cells (m+1)).toList=List.replicate (m+1) (Value.int k 0):=by
        simp[Builtin.zeroCells,Value.cells]
        apply List.ext_getElem
        ·simp
        ·intro i h1 h2
         simp[Nat.mod_one]
      have rh:l.base+lo*1+(List.replicate (m+1) (Value.int k 0)).length≤arr.size:=by simp;omega
      have iw:=run_storeCells_at P l.b (l.base+lo*1) T' (List.replicate (m+1) (Value.int k 0)) 0 arr w e2 (by simpa using rh) (by intro u hu;rw[List.eq_of_mem_replicate hu];rfl)
      simp only[Nat.add_zero]at iw
      have bh:(Builtin.clear_ #[T] ty #[.slice (some ⟨l.b,l.base+lo*1,none⟩) (m+1) cap]).run P w= .ok (.tuple #[]) (w.setRow l.b (arr.toList.take (l.base+lo*1)++List.replicate (m+1) (Value.int k 0)++arr.toList.drop (l.base+lo*1+(List.replicate (m+1) (Value.int k 0)).length)).toArray):=by
        have zy:=iw
        simp only[Nat.mul_one]at zy ⊢
        simp only[Builtin.clear_,Sem.run_bind,Sem.run_pure,Result.andThen_ok,Jp hT,T5 hz,hzc,zy,List.getElem?_toArray,List.getElem?_cons_zero,List.size_toArray]
      have hlen:(xs.take lo++List.replicate (m+1) [Ac.int k 0]).length=xs.length:=by simp;omega
      have cr:∀ (i:Nat) (y:List Ac),(xs.take lo++List.replicate (m+1) [Ac.int k 0])[i]? =some y→(i<lo∧xs[i]? =some y)∨(lo≤i∧i<lo+(m+1)∧y=[.int k 0]):=by
        intro i y h
        rw[List.getElem?_append]at h
        have el:(xs.take lo).length=lo:=by simp;omega
        rw[el]at h
        split at h
        ·rename_i hi
         rw[List.getElem?_take,if_pos hi]at h;exact .inl ⟨hi,h⟩
        ·rename_i hi
         have h':=Ak1.1 h
         obtain⟨mz,rfl⟩:=h'
         simp at mz
         exact .inr ⟨by omega,by omega,by simp⟩
      have key:=I.put (o':=.row v 1 (xs.take lo++List.replicate (m+1) [.int k 0])) hr hl (w':=w.setRow l.b (arr.toList.take (l.base+lo*1)++List.replicate (m+1) (Value.int k 0)++arr.toList.drop (l.base+lo*1+(List.replicate (m+1) (Value.int k 0)).length)).toArray)
        (fun b hb=>setRow_other w l.b b _ hb) (by simp[World.setRow]) (Jc I.below (I.sep _ _ hl).2.1 _)
        (by unfold D2;simp only[Ctx.set,List.getElem?_set_self af];exact .inl ⟨_,hr,by omega,trivial⟩)
        (fun mm=>⟨Nat.le_refl 1,fun x2 h2=>by
         obtain⟨i,hi⟩:=List.getElem?_of_mem h2
         rcases cr i x2 hi with⟨_,h⟩ | ⟨_,_,rfl⟩
         ·exact bu x2 (Akt h)
         ·rfl,fun x2 h2=>by
         obtain⟨i,hi⟩:=List.getElem?_of_mem h2
         rcases cr i x2 hi with⟨_,h⟩ | ⟨_,_,rfl⟩
         ·exact hg x2 (Akt h)
         ·intro c hc;simp at hc;subst hc;rfl,
          .inr ⟨l,_,T',hl,S1 e2,by rw[Iu rh,e3],by rw[hlen];exact e4,fun i2 k2 x2 c2 g1 g2=>by
            rw[He rh]
            rcases cr i2 x2 g1 with⟨hi,h⟩ | ⟨hi,mz,rfl⟩
            ·obtain⟨u,hu,di⟩:=e5 i2 k2 _ c2 h g2
             have dp:k2<1:=by have:=C0 g2;have:=bu _ (Akt h);omega
             exact⟨u,by rw[if_pos (by omega)];exact hu,di.mono mm⟩
            ·have dp:k2=0:=by have:=(Ak1.1 g2).1;simp at this;exact this
             subst dp
             simp at g2;subst g2
             refine⟨.int k 0,?_,.int _ _⟩
             rw[if_neg (by omega),if_pos (by simp;omega)]
             rw[List.getElem?_replicate,if_pos (by omega)]⟩⟩)
      exact⟨_,_,_,_,_,bh,.tuple _ _ rfl (by simp),hk,rfl,key.1,key.2⟩
theorem ALP.clr {md:Option Nat} {n:Nat} {outer:List Fr} {all rest:List Oper} {Q:Exit→Fr→List A2→Prop} {fr:Fr} {H:List A2} {dst:Option Tmp} {T e:TypeId} {x:Operand} {type:TypeId} {pos:String} {after:Array Edge}
    {r v lo m:Nat} {l:List Int} (hd:(match dst with | some d=>Nat.blt d n | none=>true)=true) (hx:ev fr x= .own r v lo m) (hT:P.underlying T=some (.slice e))
    (hz:zeroV P e=some (.int .i64 0)) (hr:H[r]? =some (.row v 1 (l.map Bb))) (xj:lo+m=l.length) (h:ALP md P n outer all rest Q (put fr dst (.tuple [])) (H.set r (.row v 1 ((l.take lo++List.replicate m 0).map Bb)))) :
    ALP md P n outer all ({dst,op:=.call {callee:=.builtin .clear,args:=#[x],argTypes:=#[T]},type,pos,after,guard:=none}::rest) Q fr H:=by
  refine ALP.op1 hd (by simp) fun W0 C w ρ I hH he=>?_
  subst hH
  have xg:=he x
  rw[hx]at xg
  unfold execOp
  simp only[resolve,Sem.run_bind,Sem.run_pure,Result.andThen_ok,invoke,List.map_toArray,List.map_cons,List.map_nil,builtin]
  have e0:(l.map Bb).take lo++List.replicate m [Ac.int .i64 0]=(l.take lo++List.replicate m 0).map Bb:=by simp[List.map_take,Bb]
  obtain⟨v',a,w',C',ef,h1,h2,h3,h4,h5,h6⟩:=(qB (K:=fun v ef=>ALP md P n outer all rest Q (put fr dst v) (ef.app C.H)) I xg hT hz hr (by simpa using xj) type (by rw[e0];exact h)).ex
  exact⟨a,w',C',ef,.inl ⟨v',by rw[h1];rfl,h2⟩,h3,h4,h5,h6⟩
def xN:List (List Ac)→List (List Ac)→Prop
  | [],[]=>True
  | x::r,y::r'=>Pc x y∧xN r r'
  | _,_=>False
theorem oL:∀ {xs ys:List (List Ac)},xN xs ys→xs.length=ys.length∧∀ (i:Nat) y,ys[i]? =some y→∃ x,xs[i]? =some x∧Pc x y
  | [],[],_=>⟨rfl,by simp⟩
  | x::r,y::r',h=>by
    have ih:=oL h.2
    refine⟨by simp[ih.1],fun i d hi=>?_⟩
    match i,hi with
    | 0,hi=>simp at hi;subst hi;exact⟨x,rfl,h.1⟩
    | i+1,hi=>exact ih.2 i d (by simpa using hi)
  | [],_::_,h=>h.elim
  | _::_,[],h=>h.elim
theorem Sub.denil {outer:List Fr} {fr:Fr} {H:List A2} (r:Nat) {v sz:Nat} {xs:List (List Ac)} (ys:List (List Ac)) (hr:H[r]? =some (.row v sz xs)) (h:xN xs ys):Sub outer fr H fr (H.set r (.row v sz ys)):=by
  intro W0 A0 ds n outs a w R
  obtain⟨C,rfl,rfl,I,hF,hO,hn,hd⟩:=R.ex
  have af:r<C.H.length:=(Ak1.1 hr).1
  have hg:=oL h
  obtain⟨bl,bu,hg0,ho⟩:=I.objs r _ hr
  have aq:∀ (i k:Nat) (y:List Ac) (c':Ac),ys[i]? =some y→y[k]? =some c'→∃ x c,xs[i]? =some x∧x[k]? =some c∧Pd c c':=by
    intro i k y c' h1 h2
    obtain⟨x,h3,h4⟩:=hg.2 i y h1
    obtain⟨c,h5,h6⟩:=(aJ h4).2 k c' h2
    exact⟨x,c,h3,h5,h6⟩
  rcases ho with⟨rfl,_⟩ | ⟨l,arr,T',e1,e2,e3,e4,e5⟩
  ·have:ys=[]:=List.eq_nil_of_length_eq_zero (by rw[← hg.1];rfl)
   subst this
   have e:C.H.set r (.row v sz [])=C.H:=by
     apply List.ext_getElem?
     intro i
     by_cases e:r=i
     ·subst e;rw[List.getElem?_set_self af];exact hr.symm
     ·rw[List.getElem?_set_ne e]
   rw[e]
   exact⟨C,rfl,rfl,I,hF,hO,hn,hd⟩
  have nle0_g:∀ {c c':Ac},Pd c c'→c.g0=true→c'.g0=true:=by
    intro c c' h hc
    unfold Pd at h
    split at h
    ·rcases h with rfl | ⟨rfl,rfl⟩
     ·exact hc
     ·rfl
    ·subst h;exact hc
  have key:=I.put (o':=.row v sz ys) hr e1 (w':=w) (fun _ _=>rfl) rfl I.below
    (by unfold D2;simp only[Ctx.set,List.getElem?_set_self af];exact .inl ⟨_,hr,by rw[hg.1];exact Nat.le_refl _,trivial⟩)
    (fun mm=>⟨bl,fun y h2=>by
     obtain⟨i,hi⟩:=List.getElem?_of_mem h2
     obtain⟨x,h3,h4⟩:=hg.2 i y hi
     rw[← (aJ h4).1];exact bu x (Akt h3),fun y h2 c' h5=>by
     obtain⟨i,hi⟩:=List.getElem?_of_mem h2
     obtain⟨k,hk⟩:=List.getElem?_of_mem h5
     obtain⟨x,c,h6,h7,h8⟩:=aq i k y c' hi hk
     exact nle0_g h8 (hg0 x (Akt h6) c (Akt h7)),
      .inr ⟨l,arr,T',e1,e2,e3,by rw[← hg.1];exact e4,fun i k y c' h1 h2=>by
        obtain⟨x,c,h6,h7,h8⟩:=aq i k y c' h1 h2
        obtain⟨u,hu,di⟩:=e5 i k x c h6 h7
        exact⟨u,hu,(gP h8 (di.mono mm)).1⟩⟩⟩)
  exact⟨C.set r (.row v sz ys),rfl,rfl,key.1,fun t=>(hF t).mono key.2,hO.mono key.2,hn,hd⟩
end Go.Ab
namespace Go.Ab
open Go Go.RowKit
section
variable {P:Program} {md:Option Nat} {n:Nat} {outer:List Fr} {Q:Exit→Fr→List A2→Prop} {fr:Fr} {H:List A2}
theorem nS {a b:Prop} (h:b) (e:a=b:=by first | (conv=>lhs;simp +decide -implicitDefEqProofs only[go_sem]) | exact rfl):a:=by rw[e];exact h
theorem nSc {a b p:Prop} (w:p) (h:b) (e:p→a=b:=by intro hw;first | (conv=>lhs;simp +decide -implicitDefEqProofs only[go_sem,hw]) | exact rfl):a:=by rw[e w];exact h
theorem cu {a:Prop} (h:a:=by (simp +decide -implicitDefEqProofs only[go_sem,Eg,Ac.int.injEq,Int.natCast_zero,List.replicate_zero,List.length_take,List.length_drop,Ac.own.injEq,reduceCtorEq,Int.reduceAdd]<;>omega)):a:=h
theorem cuw {a p:Prop} (w:p) (h:p→a:=by intro hw;(simp +decide -implicitDefEqProofs only[go_sem,Eg,Ac.int.injEq,Int.natCast_zero,List.replicate_zero,List.length_take,List.length_drop,Ac.own.injEq,reduceCtorEq,Int.reduceAdd,hw]<;>omega)):a:=h w
theorem en {a p:Prop} (w:p) (h:p→a:=by intro hw;simp +decide -implicitDefEqProofs only[go_sem,Eg,Ac.int.injEq,Int.natCast_zero,List.replicate_zero,List.length_take,List.length_drop,Ac.own.injEq,reduceCtorEq,Int.reduceAdd,Sl,Sm,Pd,Sk,Pc,hw]):a:=h w
theorem ar {id:Nat} {ops:List Oper} {fr':Fr} {H':List A2} (hd:aU n ops=true) (h:Q .normal fr' H') (e:∀ K:Fr→List A2→Prop,alist P outer ops ops K fr H=K fr' H':=by intro K;conv=>lhs;simp +decide -implicitDefEqProofs only[go_sem]) :
    AWP md P n (.region id ops.toArray false) Q outer fr H:=AWP.region hd fun K hK=>by rw[e K];exact hK _ _ h
theorem rg {id:Nat} {ops:List Oper} {X:(Fr→List A2→Prop)→Prop} (hd:aU n ops=true) (h:∀ K:Fr→List A2→Prop,(∀ fr H,Q .normal fr H→K fr H)→X K) (e:∀ K:Fr→List A2→Prop,alist P outer ops ops K fr H=X K:=by intro K;conv=>lhs;simp +decide -implicitDefEqProofs only[go_sem]) :
    AWP md P n (.region id ops.toArray false) Q outer fr H:=AWP.region hd fun K hK=>by rw[e K];exact h K hK
theorem sq {c d:Code} (h:AWP md P n c (qthen (AWP md P n d Q outer) Q) outer fr H):AWP md P n (.seq c d) Q outer fr H:=AWP.seq h
theorem qn {K:Fr→List A2→Prop} (h:K fr H):qthen K Q .normal fr H:=h
theorem qr {K:Fr→List A2→Prop} (h:Q .ret fr H):qthen K Q .ret fr H:=h
theorem qe {K:Fr→List A2→Prop} {i:Nat} (h:Q (.exit i) fr H):qthen K Q (.exit i) fr H:=h
theorem bn {id:Nat} (h:Q .normal fr H):qblock id Q .normal fr H:=h
theorem br {id:Nat} (h:Q .ret fr H):qblock id Q .ret fr H:=h
theorem bs {id:Nat} (h:Q .normal fr H):qblock id Q (.exit id) fr H:=oD h
theorem bk {id:Nat} {c:Code} (h:AWP md P n c (qblock id Q) outer fr H):AWP md P n (.block id c) Q outer fr H:=AWP.block h
theorem sk (h:Q .normal fr H):AWP md P n .skip Q outer fr H:=AWP.skip h
theorem rt (h:Q .ret fr H):AWP md P n .ret Q outer fr H:=AWP.ret h
theorem xt {id:Nat} (h:Q (.exit id) fr H):AWP md P n (.exit id) Q outer fr H:=AWP.exit h
theorem cs {α:Type} {t:Bool} {A B:Option α} {r:α} {yes no:Prop} (h1:t=true→A=some r→yes) (h2:t=false→B=some r→no) (h:(bif t then A else B)=some r):acond (.bool t) yes no:=by
  cases t with
  | true=>exact Ai (h1 rfl h)
  | false=>exact Bj (h2 rfl h)
theorem ca {α:Type} {t:Bool} {A B:Option α} {r:α} {x:Operand} {c d:Code} (hx:ev fr x= .bool t) (h1:t=true→A=some r→AWP md P n c Q outer fr H) (h2:t=false→B=some r→AWP md P n d Q outer fr H) (h:(bif t then A else B)=some r):AWP md P n (.cond x c d) Q outer fr H:=
  AWP.cond (by rw[hx];exact cs h1 h2 h)
theorem gt {α:Type} {c:Bool} {Y N:Fr→List A2→Prop} {A B:Option α} {r:α} {a b:Prop} (h1:c=true→A=some r→a) (h2:c=false→B=some r→b)
    (e1:c=true→Y fr H=a:=by intro hw;first | (conv=>lhs;simp +decide -implicitDefEqProofs only[go_sem,hw]) | exact rfl) (e2:c=false→N fr H=b:=by intro hw;first | (conv=>lhs;simp +decide -implicitDefEqProofs only[go_sem,hw]) | exact rfl) (h:(bif c then A else B)=some r):Ft (.bool c) true Y N fr H:=
  Y9 (fun hc=>by rw[e1 hc];exact h1 hc (Abb h hc)) (fun hc=>by rw[e2 hc];exact h2 hc (Abc h hc))
theorem gf {α:Type} {c:Bool} {Y N:Fr→List A2→Prop} {A B:Option α} {r:α} {a b:Prop} (h1:c=false→B=some r→a) (h2:c=true→A=some r→b)
    (e1:c=false→Y fr H=a:=by intro hw;first | (conv=>lhs;simp +decide -implicitDefEqProofs only[go_sem,hw]) | exact rfl) (e2:c=true→N fr H=b:=by intro hw;first | (conv=>lhs;simp +decide -implicitDefEqProofs only[go_sem,hw]) | exact rfl) (h:(bif c then A else B)=some r):Ft (.bool c) false Y N fr H:=
  Y9 (fun hc=>by rw[e1 hc];exact h1 hc (Abc h hc)) (fun hc=>by rw[e2 hc];exact h2 hc (Abb h hc))
theorem rp {a b:Prop} (k:b) (h:a:=by first | omega | (simp only[List.length_take,List.length_drop,Akw];omega)):a∧b:=⟨h,k⟩
theorem wk {k:Nat} (h:k<9223372036854775807):IntKind.i64.wrap (((k:Nat):Int)+1)=(((k:Nat):Int)+(1:Int)):=by rw[wrap_i64]<;>omega
end
end Go.Ab
namespace Go.Ab
open Go Go.RowKit
theorem N4 {b:Nat} {T:TypeId}:∀ (vs:List Value) (o:Nat) (w:World) (arr:Array Value),w.heap[b]? =some (.cells arr T (0,0))→o+vs.length≤arr.size→
    w.setCells b o vs=w.setRow b (arr.toList.take o++vs++arr.toList.drop (o+vs.length)).toArray
  | [],o,w,arr,h,hl=>by
    simp only[World.setCells,List.append_nil,List.length_nil,Nat.add_zero,List.take_append_drop,Array.toArray_toList]
    rw[setRow_self w b arr T (0,0) h]
  | v::r,o,w,arr,h,hl=>by
    have iw:w.setCell ⟨b,o,none⟩ v=w.setRow b (arr.setIfInBounds o v):=setCell_eq_setRow w b o arr T (0,0) v h
    have ih:=N4 r (o+1) (w.setRow b (arr.setIfInBounds o v)) (arr.setIfInBounds o v) (setRow_heap w b arr _ T _ h) (by simp at hl ⊢;omega)
    rw[World.setCells,iw,ih,setRow_setRow]
    congr 2
    have e:=list_seg_step arr.toList o v r (by simp at hl ⊢;omega)
    simpa[Array.toList_setIfInBounds,Nat.add_assoc]using e
structure jF (P:Program) (f:FuncId) (e:TypeId) (sz bytes:Nat):Prop where
  grow:∀ (b off n c i vb voff vc:Nat) (cs vs:List Value) (w:World),i<n→n≤c→c<n+1→(n+1)*bytes≤140737488355328→cs.length=n*sz→vs.length=sz→
    (∀ j v,cs[j]? =some v→w.cell? ⟨b,off+j,none⟩=some v)→(∀ j v,vs[j]? =some v→w.cell? ⟨vb,voff+j,none⟩=some v)→(∀ v∈cs,v.oneCell'=true)→(∀ v∈vs,v.oneCell'=true)→
    Calls P f #[.slice (some ⟨b,off,none⟩) n c,.int .i64 i,.slice (some ⟨vb,voff,none⟩) 1 vc] w fun ed w'=>∃ (G:Nat) (ROW:Array Value),ed= .returned (.slice (some ⟨w.heap.size,0,none⟩) (n+1) G)∧n+1≤G∧G≤maxLen∧ROW.size=G*sz∧
      (∀ (j:Nat) (u:Value),(cs.take (i*sz))[j]? =some u→ROW[j]? =some u)∧w'=(((w.alloc (.cells ROW e)).drew.setCells w.heap.size (i*sz) vs).drew).setCells w.heap.size ((i+1)*sz) (cs.drop (i*sz))
  shift:∀ (b off n c i vb voff vc:Nat) (cs vs:List Value) (w:World),i<n→n+1≤c→c≤9223372036854775807→vb≠b→cs.length=n*sz→vs.length=sz→
    (∀ j v,cs[j]? =some v→w.cell? ⟨b,off+j,none⟩=some v)→(∀ j,j<(n+1)*sz→(w.cell? ⟨b,off+j,none⟩).isSome=true)→(∀ j,j<(n+1)*sz→w.frozen? ⟨b,off+j,none⟩=false)→
    (∀ j v,vs[j]? =some v→w.cell? ⟨vb,voff+j,none⟩=some v)→(∀ v∈cs,v.oneCell'=true)→(∀ v∈vs,v.oneCell'=true)→
    ∀ (tA tB:TypeId) (kA kB:Nat),w.shape? vb=some (tA,kA)→w.shape? b=some (tB,kB)→kB≠0→w.frozen? ⟨vb,voff,none⟩=false→w.frozen? ⟨vb,kA,none⟩=false→
    Calls P f #[.slice (some ⟨b,off,none⟩) n c,.int .i64 i,.slice (some ⟨vb,voff,none⟩) 1 vc] w fun ed w'=>ed= .returned (.slice (some ⟨b,off,none⟩) (n+1) c)∧
      w'=(w.drew.setCells b (off+(i+1)*sz) (cs.drop (i*sz))).setCells b (off+i*sz) vs
theorem yN {R:Value→Ac→Prop} {sz i:Nat} {xs:List (List Ac)} {y:List Ac} {cs vs:List Value} (hi:i<xs.length) (hx:∀ x∈xs,x.length=sz) (hy:y.length=sz) (dx:cs.length=xs.length*sz) (jz:vs.length=sz)
    (h1:∀ (i k:Nat) (x:List Ac) (c:Ac),xs[i]? =some x→x[k]? =some c→∃ u,cs[i*sz+k]? =some u∧R u c) (h2:∀ (k:Nat) (c:Ac),y[k]? =some c→∃ u,vs[k]? =some u∧R u c) :
    ∀ (i2 k:Nat) (x:List Ac) (c:Ac),(xs.take i++[y]++xs.drop i)[i2]? =some x→x[k]? =some c→∃ u,(cs.take (i*sz)++vs++cs.drop (i*sz))[i2*sz+k]? =some u∧R u c:=by
  intro i2 k x c g1 g2
  have hi3:i*sz≤xs.length*sz:=Nat.mul_le_mul_right _ (by omega)
  have iy:(cs.take (i*sz)).length=i*sz:=by rw[List.length_take];omega
  have ix:(xs.take i).length=i:=by rw[List.length_take];omega
  by_cases c1:i2<i
  ·rw[List.getElem?_append_left (by rw[Akw];omega),List.getElem?_append_left (by omega),List.getElem?_take,if_pos c1]at g1
   have hk:k<sz:=by have:=(Ak1.1 g2).1;have:=hx x (Akt g1);omega
   obtain⟨u,hu,hr⟩:=h1 i2 k x c g1 g2
   have:(i2+1)*sz≤i*sz:=Nat.mul_le_mul_right _ c1
   rw[Nat.add_mul,Nat.one_mul]at this
   exact⟨u,by rw[List.getElem?_append_left (by rw[Akw];omega),List.getElem?_append_left (by omega),List.getElem?_take,if_pos (by omega)];exact hu,hr⟩
  ·by_cases c2:i2=i
   ·subst c2
    rw[List.getElem?_append_left (by rw[Akw,List.length_singleton];omega),List.getElem?_append_right (by omega),ix,Nat.sub_self]at g1
    obtain rfl:y=x:=by simpa using g1
    have hk:k<sz:=by have:=(Ak1.1 g2).1;omega
    obtain⟨u,hu,hr⟩:=h2 k c g2
    exact⟨u,by rw[List.getElem?_append_left (by rw[Akw];omega),List.getElem?_append_right (by omega),iy,Nat.add_sub_cancel_left];exact hu,hr⟩
   ·rw[List.getElem?_append_right (by rw[Akw,List.length_singleton];omega),Akw,List.length_singleton,ix,List.getElem?_drop]at g1
    have e1:i+(i2 - (i+1))=i2 - 1:=by omega
    rw[e1]at g1
    have hk:k<sz:=by have:=(Ak1.1 g2).1;have:=hx x (Akt g1);omega
    obtain⟨u,hu,hr⟩:=h1 (i2 - 1) k x c g1 g2
    have h3:(i+1)*sz≤i2*sz:=Nat.mul_le_mul_right _ (by omega)
    rw[Nat.add_mul,Nat.one_mul]at h3
    have h4:i2*sz=(i2 - 1)*sz+sz:=by rw[← Nat.succ_mul];congr 1;omega
    refine⟨u,?_,hr⟩
    rw[List.getElem?_append_right (by rw[Akw];omega),Akw,iy,jz,List.getElem?_drop]
    rw[← hu];congr 1;omega
section
variable {P:Program}
theorem kF {W0:World} {C:Ctx} {w:World} (I:Inv W0 C w) {r v sz len:Nat} {xs:List (List Ac)} (hr:C.H[r]? =some (.row v sz xs)) {u:Value} (hu:Bk C w u (.own r v 0 len)) (hlen:len=xs.length) (bc:0<len) :
    ∃ (l:Loc) (arr:Array Value) (T:TypeId) (cap:Nat) (cs:List Value),u= .slice (some ⟨l.b,l.base,none⟩) len cap∧len≤cap∧cap≤maxLen∧C.ρ r=some l∧w.heap[l.b]? =some (.cells arr T (0,0))∧arr.size=l.cap∧l.base+cap*sz≤l.cap∧
      cs.length=len*sz∧(∀ j u,cs[j]? =some u→arr[l.base+j]? =some u)∧(∀ u∈cs,u.oneCell'=true)∧(∀ (i k:Nat) (x:List Ac) (c:Ac),xs[i]? =some x→x[k]? =some c→∃ u,cs[i*sz+k]? =some u∧Bk C w u c):=by
  obtain⟨a,cap,rfl,hk,cw,cd,hv⟩:=tO hu
  obtain⟨_,hv⟩:=hv _ _ _ hr
  obtain⟨_,hv⟩:=hv rfl
  obtain⟨bl,gj,gi,ho⟩:=I.objs r _ hr
  rcases ho with⟨e,_⟩ | ⟨l',arr,T,e1,e2,e3,e4,e5⟩
  ·subst e;simp at hlen;omega
  rcases hv with hv | ⟨l,hl,ha,ct⟩
  ·omega
  rw[hl,Akv]at e1
  subst e1
  have hmul:len*sz≤cap*sz:=Nat.mul_le_mul_right _ cw
  rw[Nat.zero_add]at ct
  have dx:((arr.toList.drop l.base).take (len*sz)).length=len*sz:=by simp;omega
  have cr:∀ j u,((arr.toList.drop l.base).take (len*sz))[j]? =some u→arr[l.base+j]? =some u:=fun j u h=>by
    rw[List.getElem?_take]at h
    split at h
    ·rw[List.getElem?_drop,Array.getElem?_toList]at h;exact h
    ·cases h
  have ay:∀ (i k:Nat) (x:List Ac) (c:Ac),xs[i]? =some x→x[k]? =some c→∃ u,((arr.toList.drop l.base).take (len*sz))[i*sz+k]? =some u∧Bk C w u c:=fun i k x c h1 h2=>by
    obtain⟨u,hu,hr⟩:=e5 i k x c h1 h2
    refine⟨u,?_,hr⟩
    have hi:=(Ak1.1 h1).1
    have hk:k<sz:=by have:=(Ak1.1 h2).1;have:=gj x (Akt h1);omega
    have:(i+1)*sz≤len*sz:=Nat.mul_le_mul_right _ (by omega)
    rw[Nat.add_mul,Nat.one_mul]at this
    rw[List.getElem?_take,if_pos (by omega),List.getElem?_drop,Array.getElem?_toList];exact hu
  exact⟨l,arr,T,cap,_,by rw[ha,Nat.zero_mul,Nat.add_zero],cw,cd,hl,e2,e3,ct,dx,cr,pL (by rw[dx,hlen]) gj gi ay,ay⟩
theorem mR {w:World} {b:Nat} {arr:Array Value} {T:TypeId} (h:w.heap[b]? =some (.cells arr T (0,0))) (o:Nat):w.cell? ⟨b,o,none⟩=arr[o]?:=by simp[World.cell?,h]
theorem Al.Aai {f:FuncId} {e:TypeId} {sz bytes r v len r2 v2:Nat} {n:Int} {xs:List (List Ac)} {y:List Ac} {st:List Fr} {H:List A2} {K:Ac→List A2→Prop} (hc:∀ (args:Array Value) (w:World),(callFunc f args).run P w= .ok (.enter f args) w)
    (spec:jF P f e sz bytes) (hr:H[r]? =some (.row v sz xs)) (hlen:len=xs.length) (gy:H[r2]? =some (.row v2 sz [y])) (bc:r≠r2) (hn:0≤n∧n<(len:Int)) (je:(len+1)*bytes≤140737488355328)
    (h:K (.own r (v+1) 0 (len+1)) (H.set r (.row (v+1) sz (xs.take n.toNat++[y]++xs.drop n.toNat)))):Al P (.func f []) [.own r v 0 len,.int .i64 n,.own r2 v2 0 1] st H K:=by
  intro W0 C w outs fv vs I hH hO hf hl hv
  subst hH
  cases hf with
  | func _ caps _ dx _=>
    have:caps=#[]:=Array.eq_empty_of_size_eq_zero (by simpa using dx)
    subst this
    refine .inl ⟨f,#[],rfl,hc,?_⟩
    match vs,hl with
    | [u,u1,u2],_=>
      have hu:=hv 0 u _ rfl rfl
      have hu1:=hv 1 u1 _ rfl rfl
      have zv:=hv 2 u2 _ rfl rfl
      cases hu1
      obtain⟨i,rfl⟩:∃ i:Nat,n=(i:Int):=⟨n.toNat,by omega⟩
      rw[Int.toNat_natCast]at h
      have hi:i<len:=by omega
      have af:r<C.H.length:=(Ak1.1 hr).1
      obtain⟨l,arr,T,cap,cs,rfl,cw,cd,hρ,hb,bu,ct,dx,cr,nu,ay⟩:=kF I hr hu hlen (by omega)
      obtain⟨l2,arr2,T2,cap2,ws,rfl,hlc2,_,hρ2,nb,hsz2,na,hcl2,hget2,tn,hrep2⟩:=kF I gy zv rfl (by omega)
      obtain⟨bl,gj,gi,_⟩:=I.objs r _ hr
      obtain⟨_,hall2,wq,_⟩:=I.objs r2 _ gy
      have hS:=I.sep r l hρ
      have hS2:=I.sep r2 l2 hρ2
      have hbb:l2.b≠l.b:=fun e=>bc (I.inj _ _ _ _ hρ hρ2 e.symm)
      have xf:y.length=sz:=hall2 y (by simp)
      have jz:ws.length=sz:=by rw[hcl2,Nat.one_mul]
      have hmul:len*sz≤cap*sz:=Nat.mul_le_mul_right _ cw
      have mz:(i+1)*sz≤len*sz:=Nat.mul_le_mul_right _ hi
      have wv:(i+1)*sz=i*sz+sz:=by rw[Nat.add_mul,Nat.one_mul]
      have su:(len+1)*sz=len*sz+sz:=by rw[Nat.add_mul,Nat.one_mul]
      have lq:(cs.drop (i*sz)).length=len*sz - i*sz:=by rw[List.length_drop,dx]
      have hLl:(cs.take (i*sz)++ws++cs.drop (i*sz)).length=(len+1)*sz:=by
        rw[Akw,Akw,List.length_take,lq,dx,jz];omega
      have hxs':∀ x∈xs.take i++[y]++xs.drop i,x.length=sz:=fun x hx=>by
        rw[Akz,Akz,List.mem_singleton]at hx
        rcases hx with(hx | rfl) | hx
        ·exact gj x (List.mem_of_mem_take hx)
        ·exact xf
        ·exact gj x (List.mem_of_mem_drop hx)
      have hxg':∀ x∈xs.take i++[y]++xs.drop i,∀ c∈x,Ac.g0 c=true:=fun x hx=>by
        rw[Akz,Akz,List.mem_singleton]at hx
        rcases hx with(hx | rfl) | hx
        ·exact gi x (List.mem_of_mem_take hx)
        ·exact wq _ (by simp)
        ·exact gi x (List.mem_of_mem_drop hx)
      have yk:(xs.take i++[y]++xs.drop i).length=len+1:=by simp;omega
      have wg:=yN (R:=Bk C w) (i:=i) (by omega) gj xf (by rw[dx,hlen]) jz ay (fun k c hk=>by
        obtain⟨u,hu,hr⟩:=hrep2 0 k y c rfl hk
        exact⟨u,by simpa using hu,hr⟩)
      have kn:(C.H.set r (.row (v+1) sz (xs.take i++[y]++xs.drop i)))[r]? =some (.row (v+1) sz (xs.take i++[y]++xs.drop i)):=List.getElem?_set_self af
      have fin:∀ (l':Loc) (arr':Array Value) (T':TypeId) (cap':Nat) (w':World),len+1≤cap'→cap'≤maxLen→w'.heap[l'.b]? =some (.cells arr' T' (0,0))→arr'.size=l'.cap→l'.base+cap'*sz≤l'.cap→
       (∀ j u,(cs.take (i*sz)++ws++cs.drop (i*sz))[j]? =some u→arr'[l'.base+j]? =some u)→(∀ b,b<w.heap.size→b≠l'.b→w'.heap[b]? =w.heap[b]?)→w.heap.size≤w'.heap.size→Below W0.heap.size W0 w'→
       (W0.heap.size≤l'.b∧l'.b<w'.heap.size∧¬ C.A l'.b∧∀ r' l'',r'≠r→C.ρ r'=some l''→l''.b≠l'.b)→
       ∃ v' ra C2,Ending.returned (.slice (some ⟨l'.b,l'.base,none⟩) (len+1) cap')= .returned v'∧K ra C2.H∧C2.A0=C.A0∧Bk C2 w' v' ra∧Inv W0 C2 w'∧Eo C2 w' outs st:=by
        intro l' arr' T' cap' w' q1 q2 q3 q4 q5 q6 q7 q8 q9 q10
        have hmc:(len+1)*sz≤cap'*sz:=Nat.mul_le_mul_right _ q1
        have key:=I.reloc (w':=w') (v':=v+1) (sz':=sz) (xs':=xs.take i++[y]++xs.drop i) hr (Nat.lt_succ_self v) (some l') (fun b hb h'=>q7 b hb (h' l' rfl)) q8 q9 (fun l3 hl3=>by obtain rfl:=Ak0 hl3;exact q10) (fun m=>
          ⟨bl,hxs',hxg',.inr ⟨l',arr',T',by show(if r=r then some l' else _)=some l';rw[if_pos rfl],q3,q4,by rw[yk];omega,fun i2 k x c g1 g2=>by
           obtain⟨u,hu,hr⟩:=wg i2 k x c g1 g2
           exact⟨u,q6 _ u hu,hr.mono m⟩⟩⟩)
        refine⟨_,.own r (v+1) 0 (len+1),C.reloc r (.row (v+1) sz (xs.take i++[y]++xs.drop i)) (some l'),rfl,h,rfl,?_,key.1,hO.mono key.2⟩
        refine .own _ _ cap' r (v+1) 0 ⟨_,kn,by simp⟩ q1 q2 fun v' sz' xs2 h'=>?_
        have h':(C.H.set r (.row (v+1) sz (xs.take i++[y]++xs.drop i)))[r]? =some (.row v' sz' xs2):=h'
        rw[kn]at h'
        simp only[Akv,A2.row.injEq]at h'
        obtain⟨rfl,rfl,rfl⟩:=h'
        exact⟨Nat.le_refl _,fun _=>⟨by rw[yk];omega,.inr ⟨l',by show(if r=r then some l' else _)=some l';rw[if_pos rfl],by simp,by rw[Nat.zero_add];omega⟩⟩⟩
      have qm:∀ j u,cs[j]? =some u→w.cell? ⟨l.b,l.base+j,none⟩=some u:=fun j u hj=>by rw[mR hb];exact cr j u hj
      have ql:∀ j u,ws[j]? =some u→w.cell? ⟨l2.b,l2.base+j,none⟩=some u:=fun j u hj=>by rw[mR nb];exact hget2 j u hj
      have hml:=Lv
      by_cases dw:len+1≤cap
      ·have hmr:(len+1)*sz≤cap*sz:=Nat.mul_le_mul_right _ dw
       refine(spec.shift l.b l.base len cap i l2.b l2.base cap2 cs ws w hi dw (by omega) hbb dx jz qm (fun j hj=>by rw[mR hb,Array.getElem?_eq_getElem (by omega)];rfl) (fun j _=>Yd hb) ql nu tn T2 T arr2.size arr.size
         (by simp[World.shape?,nb]) (by simp[World.shape?,hb]) (by omega) (Yd nb) (Yd nb)).mono fun ed w' ⟨he,hw⟩=>?_
       have e1:=N4 (b:=l.b) (T:=T) (cs.drop (i*sz)) (l.base+(i+1)*sz) w.drew arr hb (by rw[lq];omega)
       rw[e1]at hw
       have s1:=Iu (cur:=arr) (o:=l.base+(i+1)*sz) (vs:=cs.drop (i*sz)) (by rw[lq];omega)
       have e2:=N4 (b:=l.b) (T:=T) ws (l.base+i*sz) (w.drew.setRow l.b (arr.toList.take (l.base+(i+1)*sz)++cs.drop (i*sz)++arr.toList.drop (l.base+(i+1)*sz+(cs.drop (i*sz)).length)).toArray) _ (setRow_heap w.drew l.b arr _ T _ hb) (by rw[s1,jz];omega)
       rw[e2,setRow_setRow]at hw
       subst hw
       subst he
       refine fin l _ T cap _ dw cd (setRow_heap w.drew l.b arr _ T _ hb) ?_ ct ?_ (fun b _ bc=>setRow_other w.drew l.b b _ bc) (by simp[World.setRow]) (Jc (I.below.drew) hS.2.1 _) ⟨hS.2.1,by simpa[World.setRow]using hS.2.2.1,hS.2.2.2,fun r' l' bc h' eb=>bc (I.inj _ _ _ _ h' hρ eb)⟩
       ·rw[Iu (by rw[s1,jz];omega),s1];exact bu
       ·intro j u hj
        have hjl:=(Ak1.1 hj).1
        rw[hLl]at hjl
        rw[He (by rw[s1,jz];omega)]
        by_cases j1:j<i*sz
        ·rw[if_pos (by omega),He (by rw[lq];omega),if_pos (by omega)]
         rw[List.getElem?_append_left (by rw[Akw,List.length_take];omega),List.getElem?_append_left (by rw[List.length_take];omega),List.getElem?_take,if_pos j1]at hj
         exact cr j u hj
        ·rw[if_neg (by omega)]
         by_cases j2:j<(i+1)*sz
         ·rw[if_pos (by omega)]
          rw[List.getElem?_append_left (by rw[Akw,List.length_take];omega),List.getElem?_append_right (by rw[List.length_take];omega),List.length_take]at hj
          rw[← hj];congr 1;omega
         ·rw[if_neg (by omega),He (by rw[lq];omega),if_neg (by omega),if_pos (by rw[lq];omega)]
          rw[List.getElem?_append_right (by rw[Akw,List.length_take];omega),Akw,List.length_take]at hj
          rw[← hj];congr 1;omega
      ·refine(spec.grow l.b l.base len cap i l2.b l2.base cap2 cs ws w hi cw (by omega) je dx jz qm ql nu tn).mono fun ed w' ⟨G,ROW,he,g1,g2,g3,g4,hw⟩=>?_
       have hGm:(len+1)*sz≤G*sz:=Nat.mul_le_mul_right _ g1
       have hb0:W0.heap.size≤w.heap.size:=I.below.size
       have hA:((w.alloc (.cells ROW e)).drew).heap[w.heap.size]? =some (.cells ROW e (0,0)):=D5 w _
       have e1:=N4 (b:=w.heap.size) (T:=e) ws (i*sz) (w.alloc (.cells ROW e)).drew ROW hA (by rw[jz,g3];omega)
       rw[e1]at hw
       have s1:=Iu (cur:=ROW) (o:=i*sz) (vs:=ws) (by rw[jz,g3];omega)
       have hA2:=setRow_heap (w.alloc (.cells ROW e)).drew w.heap.size ROW (ROW.toList.take (i*sz)++ws++ROW.toList.drop (i*sz+ws.length)).toArray e (0,0) hA
       have e2:=N4 (b:=w.heap.size) (T:=e) (cs.drop (i*sz)) ((i+1)*sz) ((w.alloc (.cells ROW e)).drew.setRow w.heap.size (ROW.toList.take (i*sz)++ws++ROW.toList.drop (i*sz+ws.length)).toArray).drew _ hA2 (by rw[s1,g3,lq];omega)
       rw[e2]at hw
       subst hw
       subst he
       have hA3:(((w.alloc (.cells ROW e)).drew.setRow w.heap.size (ROW.toList.take (i*sz)++ws++ROW.toList.drop (i*sz+ws.length)).toArray).drew).heap[w.heap.size]? =some (.cells _ e (0,0)):=hA2
       refine fin ⟨w.heap.size,0,G*sz⟩ _ e G _ g1 g2 (setRow_heap _ w.heap.size _ _ e _ hA3) ?_ (by simp) ?_ (fun b ee bc=>?_) ?_ ?_ ⟨hb0,by simp[World.setRow],fun hA=>by have:=I.sub _ hA;simp at this,fun r' l' bc h' eb=>by have:=(I.sep _ _ h').2.2.1;simp only at eb;omega⟩
       ·rw[Iu (by rw[s1,g3,lq];omega),s1];exact g3
       ·intro j u hj
        have hjl:=(Ak1.1 hj).1
        rw[hLl]at hjl
        rw[Nat.zero_add,He (by rw[s1,g3,lq];omega)]
        by_cases j1:j<i*sz
        ·rw[if_pos (by omega),He (by rw[jz,g3];omega),if_pos (by omega)]
         rw[List.getElem?_append_left (by rw[Akw,List.length_take];omega),List.getElem?_append_left (by rw[List.length_take];omega)]at hj
         exact g4 j u hj
        ·by_cases j2:j<(i+1)*sz
         ·rw[if_pos (by omega),He (by rw[jz,g3];omega),if_neg (by omega),if_pos (by omega)]
          rw[List.getElem?_append_left (by rw[Akw,List.length_take];omega),List.getElem?_append_right (by rw[List.length_take];omega),List.length_take]at hj
          rw[← hj];congr 1;omega
         ·rw[if_neg (by omega),if_pos (by rw[lq];omega)]
          rw[List.getElem?_append_right (by rw[Akw,List.length_take];omega),Akw,List.length_take]at hj
          rw[← hj];congr 1;omega
       ·rw[setRow_other _ _ _ _ bc]
        show((w.alloc (.cells ROW e)).drew.setRow w.heap.size _).heap[b]? =_
        rw[setRow_other _ _ _ _ bc]
        exact(by first | exact heap_alloc_old w _ b ee | exact heap_alloc_old w _ ee)
       ·simp[World.setRow]
       ·exact Jc ((Jc ((Xm I.below _).drew) hb0 _).drew) hb0 _
def c6 {α:Type} (l:List α) (n:Nat) (a:α):List α:=l.take n++[a]++l.drop n
theorem x8 {α:Type} (l:List α) (n:Nat) (a:α):(c6 l n a).length=l.length+1:=by unfold c6;simp;omega
theorem uQ {α:Type} (l:List α) (n:Nat) (a:α):(c6 l n a).take (l.length+1)=c6 l n a:=List.take_of_length_le (by rw[x8];exact Nat.le_refl _)
theorem Al.fM {α:Type} {f:FuncId} {e:TypeId} {sz bytes r v len r2 v2:Nat} {n:Int} (g:α→List Ac) (l:List α) (a:α) {st:List Fr} {H:List A2} {K:Ac→List A2→Prop} (hc:∀ (args:Array Value) (w:World),(callFunc f args).run P w= .ok (.enter f args) w)
    (spec:jF P f e sz bytes) (hr:H[r]? =some (.row v sz (l.map g))) (hlen:len=l.length) (gy:H[r2]? =some (.row v2 sz [g a])) (bc:r≠r2) (hn:0≤n∧n<(len:Int)) (je:(len+1)*bytes≤140737488355328)
    (h:K (.own r (v+1) 0 (len+1)) (H.set r (.row (v+1) sz ((c6 l n.toNat a).map g)))):Al P (.func f []) [.own r v 0 len,.int .i64 n,.own r2 v2 0 1] st H K:=
  Al.Aai hc spec hr (by rw[Aky];exact hlen) gy bc hn je (by
   have:(l.map g).take n.toNat++[g a]++(l.map g).drop n.toNat=(c6 l n.toNat a).map g:=by unfold c6;simp
   rw[this];exact h)
theorem mT {α:Type} {c:Bool} {a b:Option α} {r:α} (h:(bif c then a else b)=some r):(c=true∧a=some r)∨(c=false∧b=some r):=by
  cases c with
  | true=>exact .inl ⟨rfl,h⟩
  | false=>exact .inr ⟨rfl,h⟩
attribute [go_sem] uQ
end
end Go.Ab
namespace Go.Proofs.YtjopghiagoidgaaGreat
open Go Go.Ab
theorem Tryz.mixed:Tryz.prog.follows .mixedOrders=true:=by kernel_rfl
@[go_sem] theorem sz3:Bs Tryz.prog 3=1:=by kernel_rfl
@[go_sem] theorem by3:bytesOf Tryz.prog 3=8:=by kernel_rfl
@[go_sem] theorem un3:Program.underlying Tryz.prog 3=some (.int .i64):=by kernel_rfl
@[go_sem] theorem zc3:Ca Tryz.prog 3=[.int .i64 0]:=by kernel_rfl
@[go_sem] theorem ok4:okT Tryz.prog 4=true:=by kernel_rfl
@[go_sem] theorem sz4:Bs Tryz.prog 4=1:=by kernel_rfl
@[go_sem] theorem un4:Program.underlying Tryz.prog 4=some (.bool):=by kernel_rfl
@[go_sem] theorem zv4:azero Tryz.prog 4= .bool false:=by kernel_rfl
@[go_sem] theorem Ajn:Bs Tryz.prog 22=1:=by kernel_rfl
@[go_sem] theorem Aiu:Program.underlying Tryz.prog 22=some (.slice 114):=by kernel_rfl
@[go_sem] theorem Akf:F5 Tryz.prog 22=some 114:=by kernel_rfl
@[go_sem] theorem Ajm:Bs Tryz.prog 23=1:=by kernel_rfl
@[go_sem] theorem Ait:Program.underlying Tryz.prog 23=some (.slice 80):=by kernel_rfl
@[go_sem] theorem Ake:F5 Tryz.prog 23=some 80:=by kernel_rfl
@[go_sem] theorem Ajl:Bs Tryz.prog 24=1:=by kernel_rfl
@[go_sem] theorem Ais:Program.underlying Tryz.prog 24=some (.slice 62):=by kernel_rfl
@[go_sem] theorem Akd:F5 Tryz.prog 24=some 62:=by kernel_rfl
@[go_sem] theorem Ajk:Bs Tryz.prog 25=1:=by kernel_rfl
@[go_sem] theorem Air:Program.underlying Tryz.prog 25=some (.slice 3):=by kernel_rfl
@[go_sem] theorem Akc:F5 Tryz.prog 25=some 3:=by kernel_rfl
@[go_sem] theorem Aid:Ca Tryz.prog 25=[.nils]:=by kernel_rfl
@[go_sem] theorem Ahz:azero Tryz.prog 25= .nils:=by kernel_rfl
@[go_sem] theorem Ajj:Bs Tryz.prog 27=4:=by kernel_rfl
@[go_sem] theorem Aic:Ca Tryz.prog 27=[.nils,.nils,.nils,.nils]:=by kernel_rfl
@[go_sem] theorem Agi:Bp Tryz.prog 27 0=some (0,1):=by kernel_rfl
@[go_sem] theorem Agh:Bp Tryz.prog 27 1=some (1,1):=by kernel_rfl
@[go_sem] theorem Agg:Bp Tryz.prog 27 2=some (2,1):=by kernel_rfl
@[go_sem] theorem Agf:Bp Tryz.prog 27 3=some (3,1):=by kernel_rfl
@[go_sem] theorem Ajz:placesOf Tryz.prog 27=some [(0,1),(1,1),(2,1),(3,1)]:=by kernel_rfl
@[go_sem] theorem Aji:Bs Tryz.prog 28=1:=by kernel_rfl
@[go_sem] theorem Aiq:Program.underlying Tryz.prog 28=some (.slice 78):=by kernel_rfl
@[go_sem] theorem Akb:F5 Tryz.prog 28=some 78:=by kernel_rfl
@[go_sem] theorem Ajh:Bs Tryz.prog 29=1:=by kernel_rfl
@[go_sem] theorem Aip:Program.underlying Tryz.prog 29=some (.slice 72):=by kernel_rfl
@[go_sem] theorem Aka:F5 Tryz.prog 29=some 72:=by kernel_rfl
@[go_sem] theorem Ajg:Bs Tryz.prog 30=1:=by kernel_rfl
@[go_sem] theorem Aio:Program.underlying Tryz.prog 30=some (.slice 119):=by kernel_rfl
@[go_sem] theorem Aj9:F5 Tryz.prog 30=some 119:=by kernel_rfl
@[go_sem] theorem Ajf:Bs Tryz.prog 31=1:=by kernel_rfl
@[go_sem] theorem Ain:Program.underlying Tryz.prog 31=some (.slice 74):=by kernel_rfl
@[go_sem] theorem Aj8:F5 Tryz.prog 31=some 74:=by kernel_rfl
@[go_sem] theorem Aje:Bs Tryz.prog 33=2:=by kernel_rfl
@[go_sem] theorem Aib:Ca Tryz.prog 33=[.nils,.nils]:=by kernel_rfl
@[go_sem] theorem Age:Bp Tryz.prog 33 0=some (0,1):=by kernel_rfl
@[go_sem] theorem Agd:Bp Tryz.prog 33 1=some (1,1):=by kernel_rfl
@[go_sem] theorem Ajy:placesOf Tryz.prog 33=some [(0,1),(1,1)]:=by kernel_rfl
@[go_sem] theorem Ajd:Bs Tryz.prog 34=1:=by kernel_rfl
@[go_sem] theorem Aim:Program.underlying Tryz.prog 34=some (.slice 162):=by kernel_rfl
@[go_sem] theorem Aj7:F5 Tryz.prog 34=some 162:=by kernel_rfl
@[go_sem] theorem Ajc:Bs Tryz.prog 35=1:=by kernel_rfl
@[go_sem] theorem Ail:Program.underlying Tryz.prog 35=some (.slice 86):=by kernel_rfl
@[go_sem] theorem Aj6:F5 Tryz.prog 35=some 86:=by kernel_rfl
@[go_sem] theorem Ajb:Bs Tryz.prog 36=1:=by kernel_rfl
@[go_sem] theorem Aik:Program.underlying Tryz.prog 36=some (.slice 76):=by kernel_rfl
@[go_sem] theorem Aj5:F5 Tryz.prog 36=some 76:=by kernel_rfl
@[go_sem] theorem Aja:Bs Tryz.prog 37=1:=by kernel_rfl
@[go_sem] theorem Aij:Program.underlying Tryz.prog 37=some (.slice 139):=by kernel_rfl
@[go_sem] theorem Aj4:F5 Tryz.prog 37=some 139:=by kernel_rfl
@[go_sem] theorem Ai9:Bs Tryz.prog 38=1:=by kernel_rfl
@[go_sem] theorem Aii:Program.underlying Tryz.prog 38=some (.slice 170):=by kernel_rfl
@[go_sem] theorem Aj3:F5 Tryz.prog 38=some 170:=by kernel_rfl
@[go_sem] theorem Ai8:Bs Tryz.prog 39=1:=by kernel_rfl
@[go_sem] theorem Aih:Program.underlying Tryz.prog 39=some (.slice 173):=by kernel_rfl
@[go_sem] theorem Aj2:F5 Tryz.prog 39=some 173:=by kernel_rfl
@[go_sem] theorem Ai7:Bs Tryz.prog 40=1:=by kernel_rfl
@[go_sem] theorem Aig:Program.underlying Tryz.prog 40=some (.slice 177):=by kernel_rfl
@[go_sem] theorem Aj1:F5 Tryz.prog 40=some 177:=by kernel_rfl
@[go_sem] theorem Ai6:Bs Tryz.prog 41=1:=by kernel_rfl
@[go_sem] theorem Aif:Program.underlying Tryz.prog 41=some (.slice 70):=by kernel_rfl
@[go_sem] theorem Aj0:F5 Tryz.prog 41=some 70:=by kernel_rfl
@[go_sem] theorem Ai5:Bs Tryz.prog 43=18:=by kernel_rfl
@[go_sem] theorem Aia:Ca Tryz.prog 43=[.nils,.nils,.nils,.nils,.nils,.nils,.nils,.nils,.nils,.nils,.nils,.nils,.nils,.nils,.nils,.nils,.int .i64 0,.int .i64 0]:=by kernel_rfl
@[go_sem] theorem Agc:Bp Tryz.prog 43 0=some (0,4):=by kernel_rfl
@[go_sem] theorem Agb:Bp Tryz.prog 43 1=some (4,1):=by kernel_rfl
@[go_sem] theorem Aga:Bp Tryz.prog 43 2=some (5,1):=by kernel_rfl
@[go_sem] theorem Af9:Bp Tryz.prog 43 3=some (6,2):=by kernel_rfl
@[go_sem] theorem Af8:Bp Tryz.prog 43 4=some (8,1):=by kernel_rfl
@[go_sem] theorem Af7:Bp Tryz.prog 43 5=some (9,1):=by kernel_rfl
@[go_sem] theorem Af6:Bp Tryz.prog 43 6=some (10,1):=by kernel_rfl
@[go_sem] theorem Af5:Bp Tryz.prog 43 7=some (11,1):=by kernel_rfl
@[go_sem] theorem Af4:Bp Tryz.prog 43 8=some (12,1):=by kernel_rfl
@[go_sem] theorem Af3:Bp Tryz.prog 43 9=some (13,1):=by kernel_rfl
@[go_sem] theorem Ac2:Bp Tryz.prog 43 10=some (14,1):=by kernel_rfl
@[go_sem] theorem Ac1:Bp Tryz.prog 43 11=some (15,1):=by kernel_rfl
@[go_sem] theorem Ac0:Bp Tryz.prog 43 12=some (16,1):=by kernel_rfl
@[go_sem] theorem Acz:Bp Tryz.prog 43 13=some (17,1):=by kernel_rfl
@[go_sem] theorem Ajx:placesOf Tryz.prog 43=some [(0,4),(4,1),(5,1),(6,2),(8,1),(9,1),(10,1),(11,1),(12,1),(13,1),(14,1),(15,1),(16,1),(17,1)]:=by kernel_rfl
@[go_sem] theorem Ai4:Bs Tryz.prog 46=1:=by kernel_rfl
@[go_sem] theorem Ah9:Ca Tryz.prog 46=[.int .i64 0]:=by kernel_rfl
@[go_sem] theorem Ai3:Bs Tryz.prog 62=7:=by kernel_rfl
@[go_sem] theorem Akn:bytesOf Tryz.prog 62=56:=by kernel_rfl
@[go_sem] theorem Ah8:Ca Tryz.prog 62=[.int .i64 0,.int .i64 0,.int .i64 0,.int .i64 0,.int .i64 0,.int .i64 0,.int .i64 0]:=by kernel_rfl
@[go_sem] theorem Af2:Bp Tryz.prog 62 0=some (0,1):=by kernel_rfl
@[go_sem] theorem Af1:Bp Tryz.prog 62 1=some (1,1):=by kernel_rfl
@[go_sem] theorem Af0:Bp Tryz.prog 62 2=some (2,1):=by kernel_rfl
@[go_sem] theorem Afz:Bp Tryz.prog 62 3=some (3,1):=by kernel_rfl
@[go_sem] theorem Afy:Bp Tryz.prog 62 4=some (4,1):=by kernel_rfl
@[go_sem] theorem Afx:Bp Tryz.prog 62 5=some (5,1):=by kernel_rfl
@[go_sem] theorem Afw:Bp Tryz.prog 62 6=some (6,1):=by kernel_rfl
@[go_sem] theorem Ajw:placesOf Tryz.prog 62=some [(0,1),(1,1),(2,1),(3,1),(4,1),(5,1),(6,1)]:=by kernel_rfl
@[go_sem] theorem Aie:Program.underlying Tryz.prog 65=some (.int .u64):=by kernel_rfl
@[go_sem] theorem Ai2:Bs Tryz.prog 70=3:=by kernel_rfl
@[go_sem] theorem Akm:bytesOf Tryz.prog 70=24:=by kernel_rfl
@[go_sem] theorem Ah7:Ca Tryz.prog 70=[.int .i64 0,.bool false,.int .i64 0]:=by kernel_rfl
@[go_sem] theorem Afv:Bp Tryz.prog 70 0=some (0,1):=by kernel_rfl
@[go_sem] theorem Afu:Bp Tryz.prog 70 1=some (1,1):=by kernel_rfl
@[go_sem] theorem Aft:Bp Tryz.prog 70 2=some (2,1):=by kernel_rfl
@[go_sem] theorem Ajv:placesOf Tryz.prog 70=some [(0,1),(1,1),(2,1)]:=by kernel_rfl
@[go_sem] theorem Ai1:Bs Tryz.prog 72=4:=by kernel_rfl
@[go_sem] theorem Akl:bytesOf Tryz.prog 72=32:=by kernel_rfl
@[go_sem] theorem Ah6:Ca Tryz.prog 72=[.int .i64 0,.int .i64 0,.int .i64 0,.int .i64 0]:=by kernel_rfl
@[go_sem] theorem Afs:Bp Tryz.prog 72 0=some (0,1):=by kernel_rfl
@[go_sem] theorem Afr:Bp Tryz.prog 72 1=some (1,1):=by kernel_rfl
@[go_sem] theorem Afq:Bp Tryz.prog 72 2=some (2,1):=by kernel_rfl
@[go_sem] theorem Afp:Bp Tryz.prog 72 3=some (3,1):=by kernel_rfl
@[go_sem] theorem Aju:placesOf Tryz.prog 72=some [(0,1),(1,1),(2,1),(3,1)]:=by kernel_rfl
@[go_sem] theorem Ai0:Bs Tryz.prog 74=3:=by kernel_rfl
@[go_sem] theorem Akk:bytesOf Tryz.prog 74=24:=by kernel_rfl
@[go_sem] theorem Ah5:Ca Tryz.prog 74=[.int .i64 0,.int .i64 0,.int .i64 0]:=by kernel_rfl
@[go_sem] theorem Afo:Bp Tryz.prog 74 0=some (0,1):=by kernel_rfl
@[go_sem] theorem Afn:Bp Tryz.prog 74 1=some (1,1):=by kernel_rfl
@[go_sem] theorem Afm:Bp Tryz.prog 74 2=some (2,1):=by kernel_rfl
@[go_sem] theorem Ajt:placesOf Tryz.prog 74=some [(0,1),(1,1),(2,1)]:=by kernel_rfl
@[go_sem] theorem Aiz:Bs Tryz.prog 76=6:=by kernel_rfl
@[go_sem] theorem Akj:bytesOf Tryz.prog 76=80:=by kernel_rfl
@[go_sem] theorem Ah4:Ca Tryz.prog 76=[.int .i64 0,.nils,.nils,.int .i64 0,.int .i64 0,.int .i64 0]:=by kernel_rfl
@[go_sem] theorem Afl:Bp Tryz.prog 76 0=some (0,1):=by kernel_rfl
@[go_sem] theorem Afk:Bp Tryz.prog 76 1=some (1,1):=by kernel_rfl
@[go_sem] theorem Afj:Bp Tryz.prog 76 2=some (2,1):=by kernel_rfl
@[go_sem] theorem Afi:Bp Tryz.prog 76 3=some (3,1):=by kernel_rfl
@[go_sem] theorem Afh:Bp Tryz.prog 76 4=some (4,1):=by kernel_rfl
@[go_sem] theorem Afg:Bp Tryz.prog 76 5=some (5,1):=by kernel_rfl
@[go_sem] theorem Ajs:placesOf Tryz.prog 76=some [(0,1),(1,1),(2,1),(3,1),(4,1),(5,1)]:=by kernel_rfl
@[go_sem] theorem Aiy:Bs Tryz.prog 78=2:=by kernel_rfl
@[go_sem] theorem Aki:bytesOf Tryz.prog 78=16:=by kernel_rfl
@[go_sem] theorem Ah3:Ca Tryz.prog 78=[.int .i64 0,.int .i64 0]:=by kernel_rfl
@[go_sem] theorem Aff:Bp Tryz.prog 78 0=some (0,1):=by kernel_rfl
@[go_sem] theorem Afe:Bp Tryz.prog 78 1=some (1,1):=by kernel_rfl
@[go_sem] theorem Ajr:placesOf Tryz.prog 78=some [(0,1),(1,1)]:=by kernel_rfl
@[go_sem] theorem Aix:Bs Tryz.prog 80=8:=by kernel_rfl
@[go_sem] theorem Akh:bytesOf Tryz.prog 80=64:=by kernel_rfl
@[go_sem] theorem Ah2:Ca Tryz.prog 80=[.int .i64 0,.int .i64 0,.int .i64 0,.int .i64 0,.int .i64 0,.int .i64 0,.int .i64 0,.int .i64 0]:=by kernel_rfl
@[go_sem] theorem Afd:Bp Tryz.prog 80 0=some (0,1):=by kernel_rfl
@[go_sem] theorem Afc:Bp Tryz.prog 80 1=some (1,1):=by kernel_rfl
@[go_sem] theorem Afb:Bp Tryz.prog 80 2=some (2,1):=by kernel_rfl
@[go_sem] theorem Afa:Bp Tryz.prog 80 3=some (3,1):=by kernel_rfl
@[go_sem] theorem Ae9:Bp Tryz.prog 80 4=some (4,1):=by kernel_rfl
@[go_sem] theorem Ae8:Bp Tryz.prog 80 5=some (5,1):=by kernel_rfl
@[go_sem] theorem Ae7:Bp Tryz.prog 80 6=some (6,1):=by kernel_rfl
@[go_sem] theorem Ae6:Bp Tryz.prog 80 7=some (7,1):=by kernel_rfl
@[go_sem] theorem Ajq:placesOf Tryz.prog 80=some [(0,1),(1,1),(2,1),(3,1),(4,1),(5,1),(6,1),(7,1)]:=by kernel_rfl
@[go_sem] theorem Aiw:Bs Tryz.prog 84=3:=by kernel_rfl
@[go_sem] theorem Ah1:Ca Tryz.prog 84=[.int .i64 0,.int .i64 0,.int .i64 0]:=by kernel_rfl
@[go_sem] theorem Ae5:Bp Tryz.prog 84 0=some (0,1):=by kernel_rfl
@[go_sem] theorem Ae4:Bp Tryz.prog 84 1=some (1,1):=by kernel_rfl
@[go_sem] theorem Ae3:Bp Tryz.prog 84 2=some (2,1):=by kernel_rfl
@[go_sem] theorem Ajp:placesOf Tryz.prog 84=some [(0,1),(1,1),(2,1)]:=by kernel_rfl
@[go_sem] theorem Aiv:Bs Tryz.prog 86=5:=by kernel_rfl
@[go_sem] theorem Akg:bytesOf Tryz.prog 86=40:=by kernel_rfl
@[go_sem] theorem Ah0:Ca Tryz.prog 86=[.int .i64 0,.int .i64 0,.int .i64 0,.int .i64 0,.int .i64 0]:=by kernel_rfl
@[go_sem] theorem Ae2:Bp Tryz.prog 86 0=some (0,1):=by kernel_rfl
@[go_sem] theorem Ae1:Bp Tryz.prog 86 1=some (1,1):=by kernel_rfl
@[go_sem] theorem Ae0:Bp Tryz.prog 86 2=some (2,3):=by kernel_rfl
@[go_sem] theorem Ajo:placesOf Tryz.prog 86=some [(0,1),(1,1),(2,3)]:=by kernel_rfl
@[go_sem] theorem Ahd:Bs Tryz.prog 111=1:=by kernel_rfl
@[go_sem] theorem Agz:Program.underlying Tryz.prog 111=some (.slice 188):=by kernel_rfl
@[go_sem] theorem Ahp:F5 Tryz.prog 111=some 188:=by kernel_rfl
@[go_sem] theorem Agv:Ca Tryz.prog 111=[.nils]:=by kernel_rfl
@[go_sem] theorem Ahc:Bs Tryz.prog 114=2:=by kernel_rfl
@[go_sem] theorem Ahy:bytesOf Tryz.prog 114=16:=by kernel_rfl
@[go_sem] theorem Agu:Ca Tryz.prog 114=[.int .i64 0,.int .i64 0]:=by kernel_rfl
@[go_sem] theorem Ad8:Bp Tryz.prog 114 0=some (0,1):=by kernel_rfl
@[go_sem] theorem Ad7:Bp Tryz.prog 114 1=some (1,1):=by kernel_rfl
@[go_sem] theorem Ahi:placesOf Tryz.prog 114=some [(0,1),(1,1)]:=by kernel_rfl
@[go_sem] theorem Ahb:Bs Tryz.prog 115=1:=by kernel_rfl
@[go_sem] theorem Agy:Program.underlying Tryz.prog 115=some (.slice 157):=by kernel_rfl
@[go_sem] theorem Aho:F5 Tryz.prog 115=some 157:=by kernel_rfl
@[go_sem] theorem Aha:Bs Tryz.prog 117=3:=by kernel_rfl
@[go_sem] theorem Agt:Ca Tryz.prog 117=[.nils,.int .i64 0,.nils]:=by kernel_rfl
@[go_sem] theorem Ad6:Bp Tryz.prog 117 0=some (0,1):=by kernel_rfl
@[go_sem] theorem Ad5:Bp Tryz.prog 117 1=some (1,1):=by kernel_rfl
@[go_sem] theorem Ad4:Bp Tryz.prog 117 2=some (2,1):=by kernel_rfl
@[go_sem] theorem Ahh:placesOf Tryz.prog 117=some [(0,1),(1,1),(2,1)]:=by kernel_rfl
@[go_sem] theorem Ag9:Bs Tryz.prog 119=4:=by kernel_rfl
@[go_sem] theorem Ahx:bytesOf Tryz.prog 119=64:=by kernel_rfl
@[go_sem] theorem Ags:Ca Tryz.prog 119=[.int .i64 0,.nils,.int .i64 0,.nils]:=by kernel_rfl
@[go_sem] theorem Ad3:Bp Tryz.prog 119 0=some (0,1):=by kernel_rfl
@[go_sem] theorem Ad2:Bp Tryz.prog 119 1=some (1,3):=by kernel_rfl
@[go_sem] theorem Ahg:placesOf Tryz.prog 119=some [(0,1),(1,3)]:=by kernel_rfl
@[go_sem] theorem Agx:Program.underlying Tryz.prog 129=some (.slice 46):=by kernel_rfl
@[go_sem] theorem Ahn:F5 Tryz.prog 129=some 46:=by kernel_rfl
@[go_sem] theorem Ag8:Bs Tryz.prog 137=2:=by kernel_rfl
@[go_sem] theorem Agr:Ca Tryz.prog 137=[.int .i64 0,.int .i64 0]:=by kernel_rfl
@[go_sem] theorem Ad1:Bp Tryz.prog 137 0=some (0,1):=by kernel_rfl
@[go_sem] theorem Ad0:Bp Tryz.prog 137 1=some (1,1):=by kernel_rfl
@[go_sem] theorem Ag7:Bs Tryz.prog 139=7:=by kernel_rfl
@[go_sem] theorem Ahw:bytesOf Tryz.prog 139=72:=by kernel_rfl
@[go_sem] theorem Agq:Ca Tryz.prog 139=[.int .i64 0,.int .i64 0,.int .i64 0,.int .i64 0,.int .i64 0,.nils,.int .i64 0]:=by kernel_rfl
@[go_sem] theorem Adz:Bp Tryz.prog 139 0=some (0,1):=by kernel_rfl
@[go_sem] theorem Ady:Bp Tryz.prog 139 1=some (1,2):=by kernel_rfl
@[go_sem] theorem Adx:Bp Tryz.prog 139 2=some (3,1):=by kernel_rfl
@[go_sem] theorem Adw:Bp Tryz.prog 139 3=some (4,1):=by kernel_rfl
@[go_sem] theorem Adv:Bp Tryz.prog 139 4=some (5,1):=by kernel_rfl
@[go_sem] theorem Adu:Bp Tryz.prog 139 5=some (6,1):=by kernel_rfl
@[go_sem] theorem Ag6:Bs Tryz.prog 157=3:=by kernel_rfl
@[go_sem] theorem Ahv:bytesOf Tryz.prog 157=24:=by kernel_rfl
@[go_sem] theorem Agp:Ca Tryz.prog 157=[.int .i64 0,.int .i64 0,.int .i64 0]:=by kernel_rfl
@[go_sem] theorem Adt:Bp Tryz.prog 157 0=some (0,1):=by kernel_rfl
@[go_sem] theorem Ads:Bp Tryz.prog 157 1=some (1,1):=by kernel_rfl
@[go_sem] theorem Adr:Bp Tryz.prog 157 2=some (2,1):=by kernel_rfl
@[go_sem] theorem Ag5:Bs Tryz.prog 162=3:=by kernel_rfl
@[go_sem] theorem Ahu:bytesOf Tryz.prog 162=24:=by kernel_rfl
@[go_sem] theorem Ago:Ca Tryz.prog 162=[.int .i64 0,.int .i64 0,.int .i64 0]:=by kernel_rfl
@[go_sem] theorem Adq:Bp Tryz.prog 162 0=some (0,1):=by kernel_rfl
@[go_sem] theorem Adp:Bp Tryz.prog 162 1=some (1,1):=by kernel_rfl
@[go_sem] theorem Ado:Bp Tryz.prog 162 2=some (2,1):=by kernel_rfl
@[go_sem] theorem Ag4:Bs Tryz.prog 170=7:=by kernel_rfl
@[go_sem] theorem Aht:bytesOf Tryz.prog 170=56:=by kernel_rfl
@[go_sem] theorem Agn:Ca Tryz.prog 170=[.int .i64 0,.int .i64 0,.int .i64 0,.int .i64 0,.int .i64 0,.int .i64 0,.int .i64 0]:=by kernel_rfl
@[go_sem] theorem Adn:Bp Tryz.prog 170 0=some (0,1):=by kernel_rfl
@[go_sem] theorem Adm:Bp Tryz.prog 170 1=some (1,1):=by kernel_rfl
@[go_sem] theorem Adl:Bp Tryz.prog 170 2=some (2,1):=by kernel_rfl
@[go_sem] theorem Adk:Bp Tryz.prog 170 3=some (3,1):=by kernel_rfl
@[go_sem] theorem Adj:Bp Tryz.prog 170 4=some (4,1):=by kernel_rfl
@[go_sem] theorem Adi:Bp Tryz.prog 170 5=some (5,2):=by kernel_rfl
@[go_sem] theorem Ag3:Bs Tryz.prog 173=4:=by kernel_rfl
@[go_sem] theorem Ahs:bytesOf Tryz.prog 173=48:=by kernel_rfl
@[go_sem] theorem Agm:Ca Tryz.prog 173=[.int .i64 0,.int .i64 0,.int .i64 0,.nils]:=by kernel_rfl
@[go_sem] theorem Adh:Bp Tryz.prog 173 0=some (0,1):=by kernel_rfl
@[go_sem] theorem Adg:Bp Tryz.prog 173 1=some (1,1):=by kernel_rfl
@[go_sem] theorem Adf:Bp Tryz.prog 173 2=some (2,1):=by kernel_rfl
@[go_sem] theorem Ade:Bp Tryz.prog 173 3=some (3,1):=by kernel_rfl
@[go_sem] theorem Ag2:Bs Tryz.prog 177=8:=by kernel_rfl
@[go_sem] theorem Ahr:bytesOf Tryz.prog 177=64:=by kernel_rfl
@[go_sem] theorem Agl:Ca Tryz.prog 177=[.int .i64 0,.int .i64 0,.int .i64 0,.int .i64 0,.int .i64 0,.int .i64 0,.int .i64 0,.bool false]:=by kernel_rfl
@[go_sem] theorem Adc:Bp Tryz.prog 177 0=some (0,1):=by kernel_rfl
@[go_sem] theorem Adb:Bp Tryz.prog 177 1=some (1,1):=by kernel_rfl
@[go_sem] theorem Ada:Bp Tryz.prog 177 2=some (2,1):=by kernel_rfl
@[go_sem] theorem Ac9:Bp Tryz.prog 177 3=some (3,1):=by kernel_rfl
@[go_sem] theorem Ac8:Bp Tryz.prog 177 4=some (4,1):=by kernel_rfl
@[go_sem] theorem Ac7:Bp Tryz.prog 177 5=some (5,1):=by kernel_rfl
@[go_sem] theorem Ac6:Bp Tryz.prog 177 6=some (6,1):=by kernel_rfl
@[go_sem] theorem Ag1:Bs Tryz.prog 188=4:=by kernel_rfl
@[go_sem] theorem Ahq:bytesOf Tryz.prog 188=32:=by kernel_rfl
@[go_sem] theorem Agk:Ca Tryz.prog 188=[.int .i64 0,.int .i64 0,.int .i64 0,.int .i64 0]:=by kernel_rfl
@[go_sem] theorem Ac5:Bp Tryz.prog 188 0=some (0,1):=by kernel_rfl
@[go_sem] theorem Ac4:Bp Tryz.prog 188 1=some (1,1):=by kernel_rfl
@[go_sem] theorem Ac3:Bp Tryz.prog 188 2=some (2,1):=by kernel_rfl
@[go_sem] theorem Ahf:placesOf Tryz.prog 188=some [(0,1),(1,1),(2,1),(3,1)]:=by kernel_rfl
@[go_sem] theorem Ag0:Bs Tryz.prog 192=3:=by kernel_rfl
@[go_sem] theorem Agj:Ca Tryz.prog 192=[.int .i64 0,.int .i64 0,.int .i64 0]:=by kernel_rfl
@[go_sem] theorem Ahe:placesOf Tryz.prog 192=some [(0,1),(1,1),(2,1)]:=by kernel_rfl
@[go_sem] theorem Ahl:sA Tryz.prog 192=some [(0,false),(1,false),(2,false)]:=by kernel_rfl
@[go_sem] theorem Ahk:mI Tryz.prog 205=some 4:=by kernel_rfl
@[go_sem] theorem Agw:Program.underlying Tryz.prog 259=some (.slice 111):=by kernel_rfl
@[go_sem] theorem Ahm:F5 Tryz.prog 259=some 111:=by kernel_rfl
@[go_sem] theorem Ahj:mI Tryz.prog 270=some 25:=by kernel_rfl
end Go.Proofs.YtjopghiagoidgaaGreat
