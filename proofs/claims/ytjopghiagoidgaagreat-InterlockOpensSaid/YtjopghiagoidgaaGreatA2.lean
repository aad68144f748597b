/- Our own texts: a layer of abstract values over the model, the walks of the functions, the plain laws; joined and shortened by a small program of our own (wip/dce2.py, wip/pack.py). -/
import Derived.Test.YtjopghiagoidgaaGreatA1
import Derived.Orders
import Derived.ProofKit
import Derived.OpenShut
import Derived.ShutString
import Derived.ChangeOld
import Derived.Carry
import Derived.WideShapes
import Derived.ChangeArms
import Derived.ChangeShapes
import Derived.Handed
import Derived.JoinedOf
import Derived.Sort.Grow
import Derived.Lib.SlicesCompact
import Derived.Lib.SlKeysI
import Derived.Maps.Own
import Derived.WideKeyRuns
import Derived.Laws.IdiomCopy
import Derived.Lib.Overlaps
namespace Go.Ab
open Go Go.RowKit
def Gf (op:Op):Bool:=
  match op with
  | .alloc _ | .box _ _ | .buildSlice _ _ _ | .makeSlice _ _ _ | .makeMap _ none=>true
  | .call {callee:=.builtin .append,args:=_,argTypes:=_}=>true
  | .call {callee:=.value _,args:=_,argTypes:=_}=>true
  | _=>false
def wJ (op:Op):Bool:=
  match op with
  | .store _ _ _ | .mapUpdate _ _ _ _ | .insert _ _ _ _=>true
  | .call {callee:=.builtin .append,args:=_,argTypes:=_} | .call {callee:=.builtin .delete,args:=_,argTypes:=_}=>true
  | _=>false
def drawable (op:Op):Bool:=
  match op with
  | .range _ _ | .next _ _ | .entry _ | .select _ _ | .defer _=>false
  | _=>true
def rid (v:Ac):List Nat:=
  match v with
  | .own r _ _ _ | .ptr r _ | .rptr r _ _ _ | .map r | .iter r | .yld r=>[r]
  | _=>[]
def Adj:List Ac→List Nat
  | []=>[]
  | v::r=>rid v++Adj r
def Adk (v:Ac):List Nat:=
  match v with
  | .agg cs=>Adj cs
  | v=>rid v
def cE:List Ac→List Nat
  | []=>[]
  | v::r=>Adk v++cE r
def touch (op:Op) (e:Operand→Ac):List Nat:=
  match op with
  | .load _ a=>rid (e a)
  | .store _ a _=>rid (e a)
  | .indexAddr _ x _=>rid (e x)
  | .slice _ x _ _ _=>rid (e x)
  | .lookup _ x _ _=>rid (e x)
  | .mapUpdate _ m _ _=>rid (e m)
  | .insert _ m _ _=>rid (e m)
  | .call c=>cE (c.args.toList.map e)
  | _=>[]
def vK (op:Op) (e:Operand→Ac) (H:List Ak) (id:Nat) (ef:Eff):Prop:=
  match ef with
  | .none=>True
  | .new j _=>Gf op=true∧j=id
  | .set r _=>wJ op=true∧r∈touch op e∧∃ x,H[r]? =some x∧x≠.resv
def oN (T:(Ac→Prop)→Prop) (T':(Ac→Prop)→Prop):Prop:=∀ K,T K→(∃ v,K v∧∀ K',K' v→T' K')∨∀ K',T K'
theorem Adz {sz:Nat} {xs:List (List Ac)} {n:Int} {K:List Ac→Prop} (h:A1 sz xs n K):(∃ y,K y∧∀ K':List Ac→Prop,K' y→A1 sz xs n K')∨∀ K',A1 sz xs n K':=by
  obtain⟨h1,h2,h3⟩:=h
  cases hx:xs[n.toNat]? with
  | none=>exact .inr fun K'=>⟨h1,h2,fun y hy=>by rw[hx]at hy;cases hy⟩
  | some y=>
    by_cases hl:y.length=sz
    ·exact .inl ⟨y,h3 y hx hl,fun K' hk=>⟨h1,h2,fun y' hy _=>by rw[hx,Aot]at hy;exact hy ▸ hk⟩⟩
    ·exact .inr fun K'=>⟨h1,h2,fun y' hy lh=>by rw[hx,Aot]at hy;exact absurd (hy ▸ lh) hl⟩
theorem uM {sz:Nat} {xs:List (List Ac)} {i:Nat} {K:List Ac→Prop} (h:Dg sz xs i K):(∃ y,K y∧∀ K':List Ac→Prop,K' y→Dg sz xs i K')∨∀ K',Dg sz xs i K':=by
  cases hx:xs[i]? with
  | none=>exact .inr fun K' y hy=>by rw[hx]at hy;cases hy
  | some y=>
    by_cases hl:y.length=sz
    ·exact .inl ⟨y,h y hx hl,fun K' hk y' hy _=>by rw[hx,Aot]at hy;exact hy ▸ hk⟩
    ·exact .inr fun K' y' hy lh=>by rw[hx,Aot]at hy;exact absurd (hy ▸ lh) hl
theorem Aby {es:List (Int×Ac)} {n:Int} {z:Ac} {K:Ac→Bool→Prop} (h:Ev es n z K):∃ v b,K v b∧∀ K':Ac→Bool→Prop,K' v b→Ev es n z K':=by
  cases hx:alook es n with
  | none=>exact ⟨z,false,h.2 hx,fun K' hk=>⟨fun v hv=>by rw[hx]at hv;(cases hv),fun _=>hk⟩⟩
  | some v=>exact ⟨v,true,h.1 v hx,fun K' hk=>⟨fun v' hv=>by rw[hx,Aot]at hv;(exact hv ▸ hk),fun hv=>by rw[hx]at hv;cases hv⟩⟩
variable {P:Program}
theorem Aau (c a b:Ac):oN (nL c a b) (nL c a b):=by
  intro K h
  unfold nL at *
  split at h
  ·rename_i cv
   split at h
   ·exact .inl ⟨_,h,fun _ h=>h⟩
   ·rename_i bj
    cases cv
    ·exact .inl ⟨b,h.2 rfl,fun K' hk=>⟨(fun h=>by cases h),fun _=>hk⟩⟩
    ·exact .inl ⟨a,h.1 rfl,fun K' hk=>⟨fun _=>hk,fun h=>by cases h⟩⟩
  ·exact h.elim
theorem Ac9 (o:BinOp) (T:TypeId) (x y:Ac):oN (vG P o T x y) (vG P o T x y):=by
  intro K h
  unfold vG fG at *
  repeat' split at h
  all_goals first
    | exact h.elim
    | exact h.2.elim
    | exact .inl ⟨_,h.2,fun _ hk=>⟨h.1,hk⟩⟩
    | exact .inl ⟨_,h.2.2,fun _ hk=>⟨h.1,h.2.1,hk⟩⟩
    | exact .inl ⟨_,h,fun _ h=>h⟩
theorem Aek (o:UnOp) (x:Ac):oN (aUn o x) (aUn o x):=by
  intro K h
  unfold aUn at *
  repeat' split at h
  all_goals first
    | exact h.elim
    | exact .inl ⟨_,h,fun _ h=>h⟩
theorem Aax (s d:TypeId) (x:Ac):oN (j0 P s d x) (j0 P s d x):=by
  intro K h
  unfold j0 at *
  split at h
  ·rename_i h1 h2;exact .inl ⟨_,h,fun _ hk=>by first | exact hk | (simp only[h1,h2];exact hk)⟩
  ·exact h.elim
theorem Aav (T:TypeId) (p:Ac) {H H':List Ak} (hH:∀ r∈rid p,H'[r]? =H[r]?):(K:Ac→Prop)→Z3 P T p H K→(∃ v,K v∧∀ K',K' v→Z3 P T p H' K')∨∀ K',Z3 P T p H K':=by
  intro K h
  unfold Z3 at *
  obtain⟨h0,h⟩:=h
  split at h
  ·rename_i r k
   rw[hH r (by simp[rid])]
   split at h
   ·exact .inl ⟨_,h.2,fun K' hk=>⟨h0,h.1,hk⟩⟩
   ·exact h.elim
  ·rename_i r v i k
   rw[hH r (by simp[rid])]
   split at h
   ·obtain⟨h1,h2,h3⟩:=h
    rcases uM h3 with⟨y,hy,hK⟩ | hK
    ·exact .inl ⟨_,hy,fun K' hk=>⟨h0,h1,h2,hK _ hk⟩⟩
    ·exact .inr fun K'=>⟨h0,h1,h2,hK _⟩
   ·exact h.elim
  ·exact .inl ⟨_,h.2,fun K' hk=>⟨h0,h.1,hk⟩⟩
  ·exact h.elim
theorem nO (T:TypeId) (p:Ac) (f:Nat):oN (Le P T p f) (Le P T p f):=by
  intro K h
  unfold Le at *
  split at h
  ·obtain⟨h1,h⟩:=h
   split at h
   all_goals first
     | exact h.elim
     | exact .inl ⟨_,h,fun _ h=>⟨h1,h⟩⟩
  ·exact h.elim
theorem xN (T:TypeId) (x:Ac) (f:Nat):oN (dB P T x f) (dB P T x f):=by
  intro K h
  unfold dB at *
  split at h
  ·rename_i h1
   split at h
   ·exact .inl ⟨_,h.2.2.2,fun _ hk=>⟨h.1,h.2.1,h.2.2.1,hk⟩⟩
   ·exact h.elim
  ·exact h.elim
theorem nN (T:TypeId) (x i:Ac) {H H':List Ak} (hH:∀ r∈rid x,H'[r]? =H[r]?):(K:Ac→Prop)→I8 P T x i H K→(∃ v,K v∧∀ K',K' v→I8 P T x i H' K')∨∀ K',I8 P T x i H K':=by
  intro K h
  unfold I8 at *
  split at h
  ·rename_i e k n he
   obtain⟨h0,h⟩:=h
   split at h
   ·obtain⟨h1,h2⟩:=h
    rcases Adz h2 with⟨y,hy,hK⟩ | hK
    ·exact .inl ⟨_,hy,fun K' hk=>⟨h0,h1,hK _ hk⟩⟩
    ·exact .inr fun K'=>⟨h0,h1,hK _⟩
   ·rename_i r v lo len
    rw[hH r (by simp[rid])]
    split at h
    ·obtain⟨h1,h2,h3,h4,h5⟩:=h
     exact .inl ⟨_,h5,fun K' hk=>⟨h0,h1,h2,h3,h4,hk⟩⟩
    ·exact h.elim
   ·exact h.elim
  ·rename_i k n he
   split at h
   ·rename_i hA
    obtain⟨h1,h2,h3,h4⟩:=h
    exact .inl ⟨_,h4,fun K' hk=>⟨h1,h2,h3,hk⟩⟩
   ·obtain⟨h1,h2,h3,h4⟩:=h
    exact .inl ⟨_,h4,fun K' hk=>⟨h1,h2,h3,hk⟩⟩
   ·exact h.elim
  ·exact h.elim
theorem xO (T:TypeId) (parts:List (Nat×Ac)):oN (dD P T parts) (dD P T parts):=by
  intro K h
  unfold dD at *
  obtain⟨h0,h⟩:=h
  split at h
  ·rename_i h1
   split at h
   ·rename_i h2;exact .inl ⟨_,h,fun _ hk=>⟨h0,by first | exact hk | (simp only[h1,h2];exact hk)⟩⟩
   ·exact h.elim
  ·exact h.elim
theorem Aaw {x:Ac} {H H':List Ak} (hH:∀ r∈rid x,H'[r]? =H[r]?):dC x H'=dC x H:=by
  unfold dC
  split
  ·rfl
  ·rw[hH _ (by simp[rid])]
  ·rfl
theorem vE {x:Ac} {H H':List Ak} (hH:∀ r∈rid x,H'[r]? =H[r]?):Ui x H'=Ui x H:=by
  unfold Ui
  split
  ·rfl
  ·rfl
  ·rw[hH _ (by simp[rid])]
  ·rfl
theorem Abu {x:Ac} {H H':List Ak} (hH:∀ r∈rid x,H'[r]? =H[r]?):pH x H'=pH x H:=by
  unfold pH
  split
  ·rw[hH _ (by simp[rid])]
  ·rfl
theorem Ac8 (T:TypeId) (x:Ac) {H H':List Ak} (hH:∀ r∈rid x,H'[r]? =H[r]?):(K:Ac→Prop)→rS P T x H K→(∃ v,K v∧∀ K',K' v→rS P T x H' K')∨∀ K',rS P T x H K':=by
  intro K h
  unfold rS at *
  split at h
  ·rename_i xs _
   by_cases hl:xs.length≤9223372036854775807
   ·exact .inl ⟨_,h hl,fun K' hk=>fun _=>hk⟩
   ·exact .inr fun K' h=>absurd h hl
  ·rename_i len _
   by_cases hl:len≤9223372036854775807
   ·exact .inl ⟨_,h hl,fun K' hk=>fun _=>hk⟩
   ·exact .inr fun K' h=>absurd h hl
  ·exact .inl ⟨_,h,fun K' hk=>hk⟩
  ·exact .inl ⟨_,h,fun K' hk=>hk⟩
  ·exact .inl ⟨_,h,fun K' hk=>hk⟩
  ·exact .inl ⟨_,h,fun K' hk=>hk⟩
  ·rw[hH _ (by simp[rid])]
   split at h
   ·exact .inl ⟨_,h,fun K' hk=>hk⟩
   ·exact h.elim
  ·exact .inl ⟨_,h,fun K' hk=>hk⟩
  ·exact h.elim
theorem xK (T:TypeId) (x:Ac) (lo hi mx:Option Ac) {H H':List Ak} (hH:∀ r∈rid x,H'[r]? =H[r]?):(K:Ac→Prop)→Sj P T x lo hi mx H K→(∃ v,K v∧∀ K',K' v→Sj P T x lo hi mx H' K')∨∀ K',Sj P T x lo hi mx H K':=by
  intro K h
  have e:Sj P T x lo hi mx H'=Sj P T x lo hi mx H:=by
    funext K
    cases x with
    | own r v a len=>simp only[Sj,hH r (by simp[rid])]
    | _=>rfl
  rw[e]
  unfold Sj at *
  split at h
  ·obtain⟨h0,h⟩:=h
   split at h
   ·rename_i sz xs
    by_cases hl:xs.length≤9223372036854775807
    ·obtain⟨h1,h⟩:=h
     have h:=h hl
     split at h
     ·rename_i jy ni
      exact .inl ⟨_,h.2.2.2,fun K' hk=>⟨h0,h1,fun _=>by first | exact⟨h.1,h.2.1,h.2.2.1,hk⟩ | (simp only[jy,ni];exact⟨h.1,h.2.1,h.2.2.1,hk⟩)⟩⟩
     ·rename_i jy ni
      exact .inl ⟨_,h.2.2.2.2,fun K' hk=>⟨h0,h1,fun _=>by first | exact⟨h.1,h.2.1,h.2.2.1,h.2.2.2.1,hk⟩ | (simp only[jy,ni];exact⟨h.1,h.2.1,h.2.2.1,h.2.2.2.1,hk⟩)⟩⟩
     ·exact h.elim
    ·exact .inr fun K'=>⟨h0,h.1,fun h=>absurd h hl⟩
   ·split at h
    ·obtain⟨h1,h2,h⟩:=h
     split at h
     ·rename_i jy ni
      exact .inl ⟨_,h.2.2.2,fun K' hk=>⟨h0,h1,h2,by first | exact⟨h.1,h.2.1,h.2.2.1,hk⟩ | (simp only[jy,ni];exact⟨h.1,h.2.1,h.2.2.1,hk⟩)⟩⟩
     ·rename_i jy ni
      exact .inl ⟨_,h.2.2.2.2,fun K' hk=>⟨h0,h1,h2,by first | exact⟨h.1,h.2.1,h.2.2.1,h.2.2.2.1,hk⟩ | (simp only[jy,ni];exact⟨h.1,h.2.1,h.2.2.1,h.2.2.2.1,hk⟩)⟩⟩
     ·exact h.elim
    ·exact h.elim
   ·split at h
    ·rename_i jy ni
     exact .inl ⟨_,h.2.2,fun K' hk=>⟨h0,by first | exact⟨h.1,h.2.1,hk⟩ | (simp only[jy,ni];exact⟨h.1,h.2.1,hk⟩)⟩⟩
    ·rename_i jy ni
     exact .inl ⟨_,h.2.2.2.2,fun K' hk=>⟨h0,by first | exact⟨h.1,h.2.1,h.2.2.1,h.2.2.2.1,hk⟩ | (simp only[jy,ni];exact⟨h.1,h.2.1,h.2.2.1,h.2.2.2.1,hk⟩)⟩⟩
    ·exact h.elim
   ·split at h
    ·rename_i jy ni
     exact .inl ⟨_,h.2.2,fun K' hk=>⟨h0,by first | exact⟨h.1,h.2.1,hk⟩ | (simp only[jy,ni];exact⟨h.1,h.2.1,hk⟩)⟩⟩
    ·rename_i jy ni
     exact .inl ⟨_,h.2.2.2.2,fun K' hk=>⟨h0,by first | exact⟨h.1,h.2.1,h.2.2.1,h.2.2.2.1,hk⟩ | (simp only[jy,ni];exact⟨h.1,h.2.1,h.2.2.1,h.2.2.2.1,hk⟩)⟩⟩
    ·exact h.elim
   ·exact h.elim
  ·split at h
   ·obtain⟨h1,h2,h3,h4,h5⟩:=h
    exact .inl ⟨_,h5,fun K' hk=>⟨h1,h2,h3,h4,hk⟩⟩
   ·exact h.elim
theorem vD (T:TypeId) (x i:Ac) (ok:Bool) {H H':List Ak} (hH:∀ r∈rid x,H'[r]? =H[r]?):(K:Ac→Prop)→S2 P T x i ok H K→(∃ v,K v∧∀ K',K' v→S2 P T x i ok H' K')∨∀ K',S2 P T x i ok H K':=by
  intro K h
  unfold S2 at *
  rw[vE hH,Abu hH]
  split at h
  ·obtain⟨h0,h⟩:=h
   split at h
   ·rename_i es hes
    obtain⟨v,b,hk,hK⟩:=Aby h
    exact .inl ⟨_,hk,fun K' oz=>⟨h0,hK _ oz⟩⟩
   ·exact h.elim
  ·exact h.elim
def xR (op:Op) (e:Operand→Ac) (H:List Ak) (id:Nat) (T T':(Ac→Eff→Prop)→Prop):Prop:=
  ∀ K,T K→(∃ v ef,K v ef∧vK op e H id ef∧∀ K',K' v ef→T' K')∨∀ K',T K'
theorem xR.quiet {op:Op} {e:Operand→Ac} {H:List Ak} {id:Nat} {T T':(Ac→Prop)→Prop} (h:oN T T'):xR op e H id (fun K=>T (Iz K)) (fun K=>T' (Iz K)):=by
  intro K hT
  rcases h _ hT with⟨v,hk,hK⟩ | hK
  ·exact .inl ⟨v,.none,hk,trivial,fun K' oz=>hK _ oz⟩
  ·exact .inr fun K'=>hK _
theorem xJ (T:TypeId) (a x:Operand) (e:Operand→Ac) (id:Nat) {H H':List Ak} (hH:∀ r∈rid (e a),H'[r]? =H[r]?) :
    xR (.store T a x) e H id (fun K=>Z0 P T (e a) (e x) H K) (fun K=>Z0 P T (e a) (e x) H' K):=by
  intro K h
  simp only[Z0]at *
  split at h
  ·rename_i vs fc
   obtain⟨h1,h2,h3,h⟩:=h
   split at h
   ·rename_i r k hp
    have gk:=hH r (by simp[rid,hp])
    split at h
    ·rename_i cs hr
     refine .inl ⟨_,_,h.2,⟨rfl,by simp[touch,rid,hp],_,hr,by simp⟩,fun K' hk=>⟨h1,h2,h3,?_⟩⟩
     first | simp only[hp,gk,hr] | simp only[gk,hr] | skip
     exact⟨h.1,hk⟩
    ·exact h.elim
   ·rename_i r v i k hp
    have gk:=hH r (by simp[rid,hp])
    split at h
    ·rename_i v' sz xs hr
     obtain⟨g1,g2,g3,g4⟩:=h
     rcases uM g4 with⟨y,hy,hK⟩ | hK
     ·refine .inl ⟨_,_,hy,⟨rfl,by simp[touch,rid,hp],_,hr,by simp⟩,fun K' hk=>⟨h1,h2,h3,?_⟩⟩
      first | simp only[hp,gk,hr] | simp only[gk,hr] | skip
      exact⟨g1,g2,g3,hK _ hk⟩
     ·refine .inr fun K'=>⟨h1,h2,h3,?_⟩
      first | simp only[hp,hr] | simp only[hr] | skip
      exact⟨g1,g2,g3,hK _⟩
    ·exact h.elim
   ·exact h.elim
  ·exact h.elim
theorem Z2 {op:Op} (T:TypeId) (x i v:Ac) (e:Operand→Ac) (id:Nat) {H H':List Ak} (vf:wJ op=true) (ht:∀ r∈rid x,r∈touch op e) (hH:∀ r∈rid x,H'[r]? =H[r]?) :
    xR op e H id (fun K=>Hn P T x i v H K) (fun K=>Hn P T x i v H' K):=by
  intro K h
  simp only[Hn]at *
  split at h
  ·rename_i r bb
   have gk:=hH r (by simp[rid])
   split at h
   ·rename_i es hr
    refine .inl ⟨_,_,h.2,⟨vf,ht r (by simp[rid]),_,hr,by simp⟩,fun K' hk=>?_⟩
    first | exact⟨h.1,hk⟩ | (simp only[gk,hr];exact⟨h.1,hk⟩) | (simp only[gk,hr,bb];exact⟨h.1,hk⟩)
   ·rename_i es hr
    refine .inl ⟨_,_,h,⟨vf,ht r (by simp[rid]),_,hr,by simp⟩,fun K' hk=>?_⟩
    first | exact hk | (simp only[gk,hr];exact hk) | (simp only[gk,hr,bb];exact hk)
   ·exact h.elim
  ·exact h.elim
theorem vF {op:Op} (T:TypeId) (x i:Ac) (e:Operand→Ac) (id:Nat) {H H':List Ak} (vf:wJ op=true) (ht:∀ r∈rid x,r∈touch op e) (hH:∀ r∈rid x,H'[r]? =H[r]?) :
    xR op e H id (fun K=>Vc P T x i H K) (fun K=>Vc P T x i H' K):=by
  intro K h
  simp only[Vc]at *
  split at h
  ·rename_i r bb
   have gk:=hH r (by simp[rid])
   split at h
   ·rename_i es hr
    refine .inl ⟨_,_,h,⟨vf,ht r (by simp[rid]),_,hr,by simp⟩,fun K' hk=>?_⟩
    first | exact hk | (simp only[gk,hr];exact hk) | (simp only[gk,hr,bb];exact hk)
   ·exact h.elim
  ·exact h.elim
theorem vH {op:Op} (T:TypeId) (s x:Ac) (e:Operand→Ac) (id:Nat) {H H':List Ak} (hn:Gf op=true) (vf:wJ op=true) (ht:∀ r∈rid s,r∈touch op e)
    (hs:∀ r∈rid s,H'[r]? =H[r]?) (hx:∀ r∈rid x,H'[r]? =H[r]?) :
    xR op e H id (fun K=>Vd P T s x H id K) (fun K=>Vd P T s x H' id K):=by
  intro K h
  simp only[Vd,Aaw hx]at *
  split at h
  ·rename_i el sb
   obtain⟨h1,h2,h3,h⟩:=h
   split at h
   ·rename_i szx ys hy
    obtain⟨h4,h⟩:=h
    split at h
    ·exact .inl ⟨_,_,h.2.2,⟨hn,rfl⟩,fun K' hk=>by first | exact⟨h1,h2,h3,h4,h.1,h.2.1,hk⟩ | (simp only[hy];exact⟨h1,h2,h3,h4,h.1,h.2.1,hk⟩) | (simp only[sb,hy];exact⟨h1,h2,h3,h4,h.1,h.2.1,hk⟩)⟩
    ·exact .inl ⟨_,_,h.2.2,⟨hn,rfl⟩,fun K' hk=>by first | exact⟨h1,h2,h3,h4,h.1,h.2.1,hk⟩ | (simp only[hy];exact⟨h1,h2,h3,h4,h.1,h.2.1,hk⟩) | (simp only[sb,hy];exact⟨h1,h2,h3,h4,h.1,h.2.1,hk⟩)⟩
    ·rename_i r v lo len
     have gk:=hs r (by simp[rid])
     split at h
     ·rename_i v' sz xs hr
      refine .inl ⟨_,_,h.2.2.2.2,⟨vf,ht r (by simp[rid]),_,hr,by simp⟩,fun K' hk=>?_⟩
      first | simp only[hy,gk,hr] | simp only[gk,hr] | simp only[sb,hy,gk,hr]
      exact⟨h1,h2,h3,h4,h.1,h.2.1,h.2.2.1,h.2.2.2.1,hk⟩
     ·exact h.elim
    ·exact h.elim
   ·exact h.elim
  ·exact h.elim
theorem Ac6 (x y:Ac):oN (xL x y) (xL x y):=by
  intro K h
  unfold xL at *
  split at h
  ·exact .inl ⟨_,h.2,fun _ hk=>⟨h.1,hk⟩⟩
  ·exact h.elim
theorem Ac7 (x y:Ac):oN (xM x y) (xM x y):=by
  intro K h
  unfold xM at *
  split at h
  ·exact .inl ⟨_,h.2,fun _ hk=>⟨h.1,hk⟩⟩
  ·exact h.elim
theorem Wa {v:Ac} {r:Nat} (h:r∈rid v):r∈Adk v:=by
  cases v<;>first | exact h | simp[rid]at h
theorem uS {α:Type} {F:List Ak→(α→Prop)→Prop} {E:α→Prop} {S:List Nat} {H:List Ak}
    (hd:∀ H':List Ak,(∀ r∈S,H'[r]? =H[r]?)→∀ K,F H K→(∃ v,K v∧E v∧∀ K':α→Prop,K' v→F H' K')∨∀ K',F H K') {K:α→Prop} (h:F H K) :
    (∃ v,K v∧E v∧∀ H':List Ak,(∀ r∈S,H'[r]? =H[r]?)→∀ K':α→Prop,K' v→F H' K')∨∀ K',F H K':=by
  by_cases hv:∀ K',F H K'
  ·exact .inr hv
  ·rcases hd H (fun _ _=>rfl) K h with⟨v,h1,h2,h3⟩ | h2
   ·refine .inl ⟨v,h1,h2,fun H' gk K' hk=>?_⟩
    rcases hd H' gk (·=v) (h3 _ rfl)with ⟨v',rfl,_,h4⟩ | h4
    ·exact h4 _ hk
    ·exact absurd h4 hv
   ·exact absurd h2 hv
def Adc (P:Program) (op:Op) (e:Operand→Ac) (H:List Ak) (id:Nat) (K:Ac→Eff→Prop):Prop:=
  (∃ v ef,K v ef∧vK op e H id ef∧∀ H':List Ak,(∀ r∈touch op e,H'[r]? =H[r]?)→∀ K':Ac→Eff→Prop,K' v ef→astep P op e H' id K')∨(∀ K':Ac→Eff→Prop,astep P op e H id K')
theorem Adc.quiet {op:Op} {e:Operand→Ac} {H:List Ak} {id:Nat} {K:Ac→Eff→Prop} (F:List Ak→(Ac→Prop)→Prop)
    (hs:∀ (H':List Ak) (K':Ac→Eff→Prop),astep P op e H' id K'=F H' (Iz K'))
    (hd:∀ H':List Ak,(∀ r∈touch op e,H'[r]? =H[r]?)→∀ K,F H K→(∃ v,K v∧∀ K':Ac→Prop,K' v→F H' K')∨∀ K',F H K') (h:astep P op e H id K):Adc P op e H id K:=by
  rw[hs]at h
  rcases uS (F:=F) (E:=fun _=>True) (S:=touch op e) (fun H' gk K hK=>(hd H' gk K hK).imp (fun⟨v,a,b⟩=>⟨v,a,trivial,b⟩) (fun h=>h)) h with⟨v,h1,_,h2⟩ | h2
  ·exact .inl ⟨v,.none,h1,trivial,fun H' gk K' hk=>by rw[hs];exact h2 H' gk _ hk⟩
  ·exact .inr fun K'=>by rw[hs];exact h2 _
theorem Adc.eff {op:Op} {e:Operand→Ac} {H:List Ak} {id:Nat} {K:Ac→Eff→Prop} (F:List Ak→(Ac→Eff→Prop)→Prop)
    (hs:∀ (H':List Ak) (K':Ac→Eff→Prop),astep P op e H' id K'=F H' K')
    (hd:∀ H':List Ak,(∀ r∈touch op e,H'[r]? =H[r]?)→xR op e H id (F H) (F H')) (h:astep P op e H id K):Adc P op e H id K:=by
  rw[hs]at h
  rcases uS (F:=fun H K=>F H fun v ef=>K (v,ef)) (E:=fun x=>vK op e H id x.2) (S:=touch op e) (K:=fun x=>K x.1 x.2) (fun H' gk K hK=>(hd H' gk (fun v ef=>K (v,ef)) hK).imp (fun⟨v,ef,a,b,c⟩=>⟨(v,ef),a,b,fun K' hk=>c _ hk⟩) (fun h K'=>h _)) h with⟨⟨v,ef⟩,h1,h2,h3⟩ | h2
  ·exact .inl ⟨v,ef,h1,h2,fun H' gk K' hk=>by rw[hs];exact h3 H' gk (fun x=>K' x.1 x.2) hk⟩
  ·exact .inr fun K'=>by rw[hs];exact h2 fun x=>K' x.1 x.2
theorem Aao {op:Op} {e:Operand→Ac} {H:List Ak} {id:Nat} {K:Ac→Eff→Prop} (hd:drawable op=true) (h:astep P op e H id K):Adc P op e H id K:=by
  cases op with
  | move x=>exact .inl ⟨_,_,h,trivial,fun _ _ _ hk=>hk⟩
  | assign x=>exact .inl ⟨_,_,h,trivial,fun _ _ _ hk=>hk⟩
  | pick c a b=>exact .quiet (fun _=>nL (e c) (e a) (e b)) (fun _ _=>rfl) (fun _ _=>Aau _ _ _) h
  | binOp o T x y t=>exact .quiet (fun _=>vG P o T (e x) (e y)) (fun _ _=>rfl) (fun _ _=>Ac9 _ _ _ _) h
  | unOp o t x=>exact .quiet (fun _=>aUn o (e x)) (fun _ _=>rfl) (fun _ _=>Aek _ _) h
  | convert s d x=>exact .quiet (fun _=>j0 P s d (e x)) (fun _ _=>rfl) (fun _ _=>Aax _ _ _) h
  | alloc T=>exact .inl ⟨_,_,h.2,⟨rfl,rfl⟩,fun _ _ _ hk=>⟨h.1,hk⟩⟩
  | box t x=>
    simp only[astep,Aay]at h
    split at h
    ·rename_i cs jh
     exact .inl ⟨_,_,h,⟨rfl,rfl⟩,fun _ _ K' hk=>by simp only[astep,Aay,jh];exact hk⟩
    ·exact h.elim
  | build T parts=>exact .quiet (fun _=>dD P T (K8 e parts.toList)) (fun _ _=>rfl) (fun _ _=>xO _ _) h
  | buildSlice T n parts=>
    simp only[astep,Oc]at h
    obtain⟨h0,h⟩:=h
    split at h
    ·rename_i el sb
     obtain⟨h1,h2,h3,h4,h⟩:=h
     split at h
     ·rename_i cs jh
      exact .inl ⟨_,_,h.2,⟨rfl,rfl⟩,fun _ _ K' hk=>by simp only[astep,Oc,sb,jh];exact⟨h0,h1,h2,h3,h4,h.1,hk⟩⟩
     ·exact h.elim
    ·exact h.elim
  | load T a=>exact .quiet (fun H=>Z3 P T (e a) H) (fun _ _=>rfl) (fun _ hH=>Aav _ _ hH) h
  | store T a x=>exact .eff (fun H=>Z0 P T (e a) (e x) H) (fun _ _=>rfl) (fun _ hH=>xJ _ _ _ _ _ hH) h
  | fieldAddr T x f=>exact .quiet (fun _=>Le P T (e x) f) (fun _ _=>rfl) (fun _ _=>nO _ _ _) h
  | field T x f=>exact .quiet (fun _=>dB P T (e x) f) (fun _ _=>rfl) (fun _ _=>xN _ _ _) h
  | indexAddr T x i=>exact .quiet (fun H=>I8 P T (e x) (e i) H) (fun _ _=>rfl) (fun _ hH=>nN _ _ _ hH) h
  | extract t i=>
    simp only[astep]at h
    split at h
    ·rename_i vs fc
     exact .inl ⟨_,_,h.2,trivial,fun _ _ K' hk=>by simp only[astep,fc];exact⟨h.1,hk⟩⟩
    ·exact h.elim
  | slice T x lo hi mx=>exact .quiet (fun H=>Sj P T (e x) (lo.map e) (hi.map e) (mx.map e) H) (fun _ _=>rfl) (fun _ hH=>xK _ _ _ _ _ hH) h
  | makeSlice T l c=>
    simp only[astep,Qv]at h
    split at h
    ·rename_i el _ _ _ _ sb hl hc
     obtain⟨h1,h2,h3,h4,h5,h6,h7,h8,h⟩:=h
     exact .inl ⟨_,_,h,⟨rfl,rfl⟩,fun _ _ K' hk=>by simp only[astep,Qv,sb,hl,hc];exact⟨h1,h2,h3,h4,h5,h6,h7,h8,hk⟩⟩
    ·exact h.elim
  | makeMap T r=>
    cases r with
    | none=>exact .inl ⟨_,_,h,⟨rfl,rfl⟩,fun _ _ K' hk=>hk⟩
    | some r=>exact h.elim
  | lookup T x i ok=>exact .quiet (fun H=>S2 P T (e x) (e i) ok H) (fun _ _=>rfl) (fun _ hH=>vD _ _ _ _ hH) h
  | mapUpdate T m k x=>exact .eff (fun H=>Hn P T (e m) (e k) (e x) H) (fun _ _=>rfl) (fun _ hH=>Z2 _ _ _ _ _ _ rfl (fun _ h=>h) hH) h
  | insert T m k x=>exact .eff (fun H=>Hn P T (e m) (e k) (e x) H) (fun _ _=>rfl) (fun _ hH=>Z2 _ _ _ _ _ _ rfl (fun _ h=>h) hH) h
  | makeFunc f first caps=>
    cases f with
    | func f=>exact .inl ⟨_,_,h.2,trivial,fun _ _ K' hk=>⟨h.1,hk⟩⟩
    | _=>exact h.elim
  | call c=>
    obtain⟨callee,args,tys⟩:=c
    cases callee with
    | builtin b=>
      simp only[astep]at h
      unfold Ha at h
      split at h
      ·rename_i x T ha ht
       refine .quiet (fun H=>rS P T x H) (fun H' K'=>by simp only[astep,Ha,ha,ht]) (fun H' hH=>Ac8 _ _ fun r hr=>hH r ?_) (by simp only[astep,Ha,ha,ht];exact h)
       simp only[touch,ha,cE,List.append_nil];exact Wa hr
      ·rename_i s x T T2 ha ht
       refine .eff (fun H K=>T=T2∧Vd P T s x H id K) (fun H' K'=>by simp only[astep,Ha,ha,ht]) (fun H' hH K hK=>?_) (by simp only[astep,Ha,ha,ht];exact h)
       rcases vH (P:=P) (op:=.call ⟨.builtin .append,args,tys⟩) T s x e id rfl rfl (fun r hr=>by simp only[touch,ha,cE];exact List.mem_append_left _ (Wa hr))
         (fun r hr=>hH r (by simp only[touch,ha,cE];exact List.mem_append_left _ (Wa hr))) (fun r hr=>hH r (by simp only[touch,ha,cE];exact List.mem_append_right _ (List.mem_append_left _ (Wa hr)))) K hK.2 with⟨v,ef,h1,h2,h3⟩ | h1
       ·exact .inl ⟨v,ef,h1,h2,fun K' hk=>⟨hK.1,h3 K' hk⟩⟩
       ·exact .inr fun K'=>⟨hK.1,h1 K'⟩
      ·rename_i m k T _ ha ht
       exact .eff (fun H K=>Vc P T m k H K) (fun H' K'=>by simp only[astep,Ha,ha,ht])
         (fun H' hH=>vF (op:=.call ⟨.builtin .delete,args,tys⟩) T m k e id rfl (fun r hr=>by simp only[touch,ha,cE];exact List.mem_append_left _ (Wa hr)) fun r hr=>hH r (by simp only[touch,ha,cE];exact List.mem_append_left _ (Wa hr)))
         (by simp only[astep,Ha,ha,ht];exact h)
      ·rename_i x y ha
       exact .quiet (fun _=>xL x y) (fun H' K'=>by simp only[astep,Ha,ha]) (fun _ _=>Ac6 _ _) (by simp only[astep,Ha,ha];exact h)
      ·rename_i x y ha
       exact .quiet (fun _=>xM x y) (fun H' K'=>by simp only[astep,Ha,ha]) (fun _ _=>Ac7 _ _) (by simp only[astep,Ha,ha];exact h)
      ·exact h.elim
    | _=>exact h.elim
  | range _ _ | next _ _ | entry _=>simp[drawable]at hd
  | _=>exact h.elim
theorem W5 {e e':Operand→Ac}:∀ {l:List (Nat×Operand)},(∀ p∈l,e' p.2=e p.2)→K8 e' l=K8 e l
  | [],_=>rfl
  | p::r,h=>by rw[K8,K8,h p (List.mem_cons_self ..),W5 fun q hq=>h q (List.mem_cons_of_mem _ hq)]
theorem Xa {e e':Operand→Ac} {l:List Operand} (h:∀ x∈l,e' x=e x):l.map e'=l.map e:=List.map_congr_left h
theorem cP {e e':Operand→Ac} {o:Option Operand} (h:∀ x∈o,e' x=e x):o.map e'=o.map e:=by
  cases o with
  | none=>rfl
  | some x=>simp[h x rfl]
theorem jV {op:Op} {e e':Operand→Ac} {H:List Ak} {id:Nat} {K:Ac→Eff→Prop} (h:∀ x∈op.operands.toList,e' x=e x) (hd:drawable op=true):astep P op e' H id K=astep P op e H id K∧touch op e'=touch op e:=by
  cases op with
  | build T parts=>
    have:K8 e' parts.toList=K8 e parts.toList:=W5 fun p hp=>h _ (by simpa[Op.operands]using ⟨p.1,by simpa using hp⟩)
    exact⟨by simp only[astep,this],rfl⟩
  | buildSlice T n parts=>
    have:K8 e' parts.toList=K8 e parts.toList:=W5 fun p hp=>h _ (by simpa[Op.operands]using ⟨p.1,by simpa using hp⟩)
    exact⟨by simp only[astep,this],rfl⟩
  | slice T x lo hi mx=>
    have h1:=h x (by simp[Op.operands])
    have h2:lo.map e'=lo.map e:=cP fun y hy=>h y (by simp[Op.operands];simp_all)
    have h3:hi.map e'=hi.map e:=cP fun y hy=>h y (by simp[Op.operands];simp_all)
    have h4:mx.map e'=mx.map e:=cP fun y hy=>h y (by simp[Op.operands];simp_all)
    exact⟨by simp only[astep,h1,h2,h3,h4],by simp only[touch,h1]⟩
  | makeFunc f first caps=>
    cases f with
    | func f=>
      refine⟨?_,rfl⟩
      simp only[astep,Xa (e:=e) (e':=e') (l:=caps.toList) fun x hx=>h x (by simp[Op.operands];exact .inr (by simpa using hx))]
    | _=>exact ⟨rfl,rfl⟩
  | makeMap T r=>cases r<;>exact ⟨rfl,rfl⟩
  | call c=>
    obtain⟨callee,args,tys⟩:=c
    have h1:args.toList.map e'=args.toList.map e:=Xa fun x hx=>h x (by simp[Op.operands,Call.operands];exact .inr (by simpa using hx))
    cases callee with
    | builtin b=>exact ⟨by simp only[astep,h1],by simp only[touch,h1]⟩
    | _=>exact ⟨rfl,by simp only[touch,h1]⟩
  | range _ _ | next _ _ | entry _=>simp[drawable]at hd
  | _=>first
    | exact⟨rfl,rfl⟩
    | (simp[Op.operands]at h;simp[astep,touch,h])
abbrev Log:=List (Nat×List Nat×Bool)
def pI (i:Nat) (S:List Nat) (w:Bool):Log:=
  match S with
  | []=>[]
  | a::r=>[(i,a::r,w)]
def ents (i id:Nat) (op:Op) (e:Operand→Ac):Log:=pI i (if Gf op then id::touch op e else touch op e) (Gf op||wJ op)
def Aev (P:Program) (fid:FuncId) (gs args:List Ac) (H:List Ak) (id:Nat) (r:Ac) (ef:Eff):Prop:=
  (ef= .none∧((Ad P fid gs (·=r)∧Gz (Pz H) args=some gs∧r.f2=true)∨(Ad P fid gs (·=r)∧args.all Ac.g2=true∧gs=args)∨(A8 P fid gs (·=r)∧Gz (Pz H) args=some gs)))∨
  (∃ sz xs,Dm P fid gs sz xs∧r= .own id 0 0 xs.length∧ef= .new id (.row 0 sz xs)∧((args.all Ac.g2=true∧gs=args)∨(Gz (Pz H) args=some gs∧(xs.all fun x=>x.all Ac.f0)=true)))∨
  ∃ r0 o',ef= .set r0 o'∧r0∈cE args∧(∃ x,H[r0]? =some x∧x≠.resv)∧∀ (st:List Fr) (H':List Ak),H'.length=H.length→(∀ q∈cE args,H'[q]? =H[q]?)→
    Ah P (.func fid []) args st H' fun r' H''=>r'=r∧H''=H'.set r0 o'
def Br (P:Program) (f:Ac) (args:List Ac) (H:List Ak) (id:Nat) (K:Ac→Eff→Prop):Prop:=
  ∃ fid gs r ef,f= .func fid []∧(∀ (args:Array Value) (w:World),(callFunc fid args).run P w= .ok (.enter fid args) w)∧Aev P fid gs args H id r ef∧K r ef
def dop (P:Program) (op:Op) (e:Operand→Ac) (H:List Ak) (id:Nat) (K:Ac→Eff→Prop):Prop:=
  match Sh op with
  | some (f,args)=>Br P (e f) (args.map e) H id K
  | none=>astep P op e H id K
abbrev DK:=Log→Ac→Eff→Prop
def drun (P:Program) (op:Op) (i id:Nat) (K:DK) (fr:Fr) (H:List Ak):Prop:=dop P op (ev fr) H id (K (ents i id op (ev fr)))
def dskip (K:DK) (_fr:Fr) (_H:List Ak):Prop:=K [] (.tuple []) .none
def dstep (P:Program) (all:List Oper) (o:Oper) (i id:Nat) (K:DK) (fr:Fr) (H:List Ak):Prop:=
  match o.guard with
  | none=>drun P o.op i id K fr H
  | some (j,want)=>match (all[j]?).bind (·.dst)with
    | some d=>El (get fr d) want (drun P o.op i id K) (dskip K) fr H
    | none=>dskip K fr H
def dafter (next:Log→Fr→List Ak→Prop) (log:Log) (fr:Fr) (dst:Option Tmp) (H:List Ak) (en:Log) (v:Ac) (ef:Eff):Prop:=
  next (en++log) (put fr dst v) (ef.app H)
def dlist (P:Program) (all:List Oper) (top:Nat) (K:Log→Fr→List Ak→Prop):List Oper→Nat→Nat→Log→Fr→List Ak→Prop
  | [],_,_,log,fr,H=>K log fr H
  | o::r,i,id,log,fr,H=>dstep P all o i (if Gf o.op then id else top) (dafter (dlist P all top K r (i+1) (if Gf o.op then id+1 else id)) log fr o.dst H) fr H
structure Tag where
  i:Nat
  id:Nat
  o:Oper
def dlt (P:Program) (all:List Oper) (K:Log→Fr→List Ak→Prop):List Tag→Log→Fr→List Ak→Prop
  | [],log,fr,H=>K log fr H
  | t::r,log,fr,H=>dstep P all t.o t.i t.id (dafter (dlt P all K r) log fr t.o.dst H) fr H
def tags (top:Nat):List Oper→Nat→Nat→List Tag
  | [],_,_=>[]
  | o::r,i,id=>⟨i,if Gf o.op then id else top,o⟩::tags top r (i+1) (if Gf o.op then id+1 else id)
def resvs:List Oper→List Ak
  | []=>[]
  | o::r=>if Gf o.op then .resv::resvs r else resvs r
def wQ (o:Oper) (acc:List Nat):Nat:=o.after.toList.foldl (fun m e=>if Region.binds .any e then m|||(2 ^ e.on|||acc.getD e.on 0)else m) 0
def masks:List Oper→List Nat→List Nat
  | [],acc=>acc
  | o::r,acc=>masks r (acc++[wQ o acc])
def bit (A:List Nat) (i j:Nat):Bool:=(A.getD i 0).testBit j
def disj (S T:List Nat):Bool:=S.all fun r=>!T.contains r
def Sm (A:List Nat) (log:Log):Bool:=log.all fun p=>log.all fun q=>p.1 ==q.1||bit A p.1 q.1||bit A q.1 p.1||!(p.2.2||q.2.2)||disj p.2.1 q.2.1
def eF (A:List Nat) (arr:Array Oper):List (Nat×Oper)→List Oper→Nat→Bool
  | _,[],_=>true
  | prev,o::r,i=>prev.all (fun p=>bit A i p.1||p.2.apart arr o)&&eF A arr ((i,o)::prev) r (i+1)
def aM:List Oper→Nat→Bool
  | [],_=>true
  | o::r,i=>o.after.toList.all (fun e=>!Region.binds .any e||Nat.blt e.on i)&&aM r (i+1)
def wY (n:Nat) (ops:List Oper):Bool:=
  Mb n ops&&ops.all (fun o=>(Sh o.op).isSome||drawable o.op)&&aM ops 0&&eF (masks ops []) ops.toArray [] ops 0
section
variable {P:Program}
theorem yC {H H':List Ak} {v:Ac} (h:∀ r∈rid v,H'[r]? =H[r]?):Zg H' v=Zg H v:=by
  cases v<;>first | rfl | (simp only[Zg,h _ (List.mem_singleton.2 rfl)])
theorem yA {H H':List Ak}:∀ {l:List Ac},(∀ r∈Adj l,H'[r]? =H[r]?)→Gz (Zg H') l=Gz (Zg H) l
  | [],_=>rfl
  | v::l,h=>by
    rw[Gz,Gz,yC fun r hr=>h r (List.mem_append_left _ hr),yA fun r hr=>h r (List.mem_append_right _ hr)]
theorem Ad4 {H H':List Ak} {v:Ac} (h:∀ r∈Adk v,H'[r]? =H[r]?):Pz H' v=Pz H v:=by
  cases v with
  | agg cs=>simp only[Pz,yA (H:=H) (H':=H') (l:=cs) h]
  | _=>
    simp only[Pz]
    refine yC fun r hr=>h r ?_
    exact hr
theorem yB {H H':List Ak}:∀ {l:List Ac},(∀ r∈cE l,H'[r]? =H[r]?)→Gz (Pz H') l=Gz (Pz H) l
  | [],_=>rfl
  | v::l,h=>by
    rw[Gz,Gz,Ad4 fun r hr=>h r (List.mem_append_left _ hr),yB fun r hr=>h r (List.mem_append_right _ hr)]
def xQ (op:Op) (e:Operand→Ac) (H:List Ak) (id:Nat) (ef:Eff):Prop:=
  match ef with
  | .none=>True
  | .new j _=>Gf op=true∧j=id
  | .set r _=>(Gf op||wJ op)=true∧r∈touch op e∧∃ x,H[r]? =some x∧x≠.resv
theorem vK.w {op:Op} {e:Operand→Ac} {H:List Ak} {id:Nat} {ef:Eff} (h:vK op e H id ef):xQ op e H id ef:=by
  cases ef with
  | none=>trivial
  | new j x=>exact h
  | set r x=>exact ⟨by rw[h.1,Bool.or_true],h.2⟩
def dOK (op:Op):Prop:=(Sh op).isSome=true∨drawable op=true
theorem Ad5 {op:Op} {e:Operand→Ac} {H:List Ak} {id:Nat} {K:Ac→Eff→Prop} (hd:dOK op) (h:dop P op e H id K) :
    (∃ v ef,K v ef∧xQ op e H id ef∧∀ (H':List Ak) (e':Operand→Ac),H'.length=H.length→(∀ x∈op.operands.toList,e' x=e x)→(∀ r∈touch op e,H'[r]? =H[r]?)→∀ K':Ac→Eff→Prop,K' v ef→dop P op e' H' id K')∨
     (∀ K':Ac→Eff→Prop,dop P op e H id K'):=by
  unfold dop at h
  split at h
  ·rename_i f args hc
   obtain⟨zq,ts,rfl,rfl⟩:=U7 hc
   obtain⟨fid,gs,r,ef,h1,h2,h4,h5⟩:=h
   have hE:xQ (.call {callee:=.value f,args:=zq,argTypes:=ts}) e H id ef:=by
     rcases h4 with⟨rfl,_⟩ | ⟨sz,xs,_,_,rfl,_⟩ | ⟨r0,o',rfl,h6,h7,_⟩
     ·trivial
     ·exact⟨rfl,rfl⟩
     ·exact⟨rfl,h6,h7⟩
   refine .inl ⟨r,ef,h5,hE,fun H' e' hlen he hH K' hk=>?_⟩
   have e1:e' f=e f:=he _ (by simp[Op.operands,Call.operands])
   have e2:zq.toList.map e'=zq.toList.map e:=Xa fun x hx=>he x (by simp[Op.operands,Call.operands];exact .inr (by simpa using hx))
   simp only[dop,Sh]
   refine⟨fid,gs,r,ef,by rw[e1];exact h1,h2,?_,hk⟩
   rw[e2]
   have hfz:Gz (Pz H') (zq.toList.map e)=Gz (Pz H) (zq.toList.map e):=yB (H:=H) (H':=H') hH
   unfold Aev at *
   rw[hfz]
   rcases h4 with h4 | h4 | ⟨r0,o',h6,h7,h8,h9⟩
   ·exact .inl h4
   ·exact .inr (.inl h4)
   ·have hH:∀ q∈cE (zq.toList.map e),H'[q]? =H[q]?:=hH
    exact .inr (.inr ⟨r0,o',h6,h7,by rw[hH r0 h7];exact h8,fun st H2 jx ui=>h9 st H2 (jx.trans hlen) fun q hq=>(ui q hq).trans (hH q hq)⟩)
  ·rename_i hc
   have hd:drawable op=true:=hd.resolve_left (by rw[hc];simp)
   rcases Aao hd h with⟨v,ef,h1,h2,h3⟩ | h1
   ·refine .inl ⟨v,ef,h1,h2.w,fun H' e' _ he hH K' hk=>?_⟩
    simp only[dop,hc]
    rw[(jV he hd).1]
    exact h3 H' hH K' hk
   ·exact .inr fun K'=>by simp only[dop,hc];exact h1 K'
def qI (i id:Nat) (o:Oper) (H:List Ak) (en:Log) (ef:Eff):Prop:=
  (∀ p∈en,p.1=i)∧match ef with
  | .none=>True
  | .new j _=>Gf o.op=true∧j=id∧∃ p∈en,p.2.2=true∧id∈p.2.1
  | .set r _=>(∃ p∈en,p.2.2=true∧r∈p.2.1)∧∃ x,H[r]? =some x∧x≠.resv
theorem zN {i:Nat} {S:List Nat} {w:Bool} {p:Nat×List Nat×Bool} (h:p∈pI i S w):p=(i,S,w):=by
  unfold pI at h
  split at h
  ·cases h
  ·exact List.mem_singleton.1 h
theorem mG {i:Nat} {S:List Nat} {w:Bool} {r:Nat} (h:r∈S):(i,S,w)∈pI i S w:=by
  unfold pI
  split
  ·cases h
  ·exact List.mem_singleton.2 rfl
def Agc (P:Program) (all:List Oper) (o:Oper) (i id:Nat) (K:DK) (fr:Fr) (H:List Ak) (en:Log) (v:Ac) (ef:Eff):Prop:=
  K en v ef∧qI i id o H en ef∧∀ (fr':Fr) (H':List Ak),H'.length=H.length→(∀ t∈o.looksAt all.toArray,get fr' t=get fr t)→(∀ p∈en,∀ r∈p.2.1,H'[r]? =H[r]?)→
    ∀ K':DK,K' en v ef→dstep P all o i id K' fr' H'
theorem uN {o:Oper} {i id:Nat} {K:DK} {fr:Fr} {H:List Ak} (hd:dOK o.op) (h:drun P o.op i id K fr H) :
    (∃ en v ef,K en v ef∧qI i id o H en ef∧∀ (fr':Fr) (H':List Ak),H'.length=H.length→(∀ t,.tmp t∈o.op.operands.toList→get fr' t=get fr t)→(∀ p∈en,∀ r∈p.2.1,H'[r]? =H[r]?)→
     ∀ K':DK,K' en v ef→drun P o.op i id K' fr' H')∨∀ K':DK,drun P o.op i id K' fr H:=by
  unfold drun at h
  rcases Ad5 hd h with⟨v,ef,h1,h2,h3⟩ | h1
  ·refine .inl ⟨ents i id o.op (ev fr),v,ef,h1,⟨fun p hp=>by rw[zN hp],?_⟩,fun fr' H' hlen hf hH K' hk=>?_⟩
   ·cases ef with
    | none=>trivial
    | new j x=>
      obtain⟨g1,rfl⟩:=h2
      exact⟨g1,rfl,_,mG (r:=j) (by rw[if_pos g1];exact List.mem_cons_self ..),by simp[g1],by simp[g1]⟩
    | set r x=>
      obtain⟨g1,g2,g3⟩:=h2
      have:r∈(if Gf o.op=true then id::touch o.op (ev fr)else touch o.op (ev fr)):=by split<;>first | exact List.mem_cons_of_mem _ g2 | exact g2
      exact⟨⟨_,mG this,g1,this⟩,g3⟩
   ·have he:∀ x∈o.op.operands.toList,ev fr' x=ev fr x:=by
      intro x hx
      cases x with
      | tmp t=>exact hf t hx
      | _=>rfl
    have ht:∀ r∈touch o.op (ev fr),H'[r]? =H[r]?:=by
      intro r hr
      have:r∈(if Gf o.op=true then id::touch o.op (ev fr)else touch o.op (ev fr)):=by split<;>first | exact List.mem_cons_of_mem _ hr | exact hr
      exact hH _ (mG this) r this
    have e2:touch o.op (ev fr')=touch o.op (ev fr):=by
      rcases hd with hd | hd
      ·cases hc:Sh o.op with
       | none=>rw[hc]at hd;cases hd
       | some fa=>
         obtain⟨zq,ts,ho, -⟩:=U7 (f:=fa.1) (args:=fa.2) hc
         rw[ho]at he ⊢
         simp only[touch]
         rw[Xa fun x hx=>he x (by simp[Op.operands,Call.operands];exact .inr (by simpa using hx))]
      ·exact(jV (P:=P) (H:=H) (id:=id) (K:=fun _ _=>True) he hd).2
    unfold drun
    rw[show ents i id o.op (ev fr')=ents i id o.op (ev fr) by unfold ents;rw[e2]]
    exact h3 H' (ev fr') hlen he ht _ hk
  ·exact .inr fun K'=>h1 _
theorem qA {all:List Oper} {o:Oper} {i id:Nat} {K:DK} {fr:Fr} {H:List Ak} (hd:dOK o.op) (h:dstep P all o i id K fr H) :
    (∃ en v ef,Agc P all o i id K fr H en v ef)∨∀ K':DK,dstep P all o i id K' fr H:=by
  have hops:∀ {t},.tmp t∈o.op.operands.toList→t∈o.looksAt all.toArray:=by
    intro t ht
    unfold Oper.looksAt
    exact List.mem_append_left _ (List.mem_filterMap.2 ⟨_,ht,rfl⟩)
  unfold dstep at h
  cases hg:o.guard with
  | none=>
    simp only[hg]at h
    rcases uN hd h with⟨en,v,ef,h1,h2,h3⟩ | h1
    ·exact .inl ⟨en,v,ef,h1,h2,fun fr' H' hlen hf hH K' hk=>by simp only[dstep,hg];exact h3 fr' H' hlen (fun t ht=>hf t (hops ht)) hH K' hk⟩
    ·exact .inr fun K'=>by simp only[dstep,hg];exact h1 K'
  | some jw=>
    obtain⟨j,want⟩:=jw
    cases ly:(all[j]?).bind (·.dst)with
    | none=>
      simp only[hg,ly]at h
      exact .inl ⟨[],_,_,h,⟨(by simp),trivial⟩,fun fr' H' _ hf hH K' hk=>by simp only[dstep,hg,ly];exact hk⟩
    | some d=>
      simp only[hg,ly]at h
      have mq:d∈o.looksAt all.toArray:=by
        unfold Oper.looksAt
        refine List.mem_append_right _ ?_
        simp[hg,ly]
      have hs:∀ (fr':Fr) (H':List Ak) (K':DK),(∀ t∈o.looksAt all.toArray,get fr' t=get fr t)→El (get fr d) want (drun P o.op i id K') (dskip K') fr' H'→dstep P all o i id K' fr' H':=by
        intro fr' H' K' hf hh
        simp only[dstep,hg,ly]
        rw[hf d mq];exact hh
      unfold El at h
      split at h
      ·rename_i c hc
       by_cases nj:c=want
       ·rcases uN hd (h.1 nj)with ⟨en,v,ef,h1,h2,h3⟩ | h1
        ·exact .inl ⟨en,v,ef,h1,h2,fun fr' H' hlen hf hH K' hk=>hs fr' H' K' hf (by rw[hc];exact⟨fun _=>h3 fr' H' hlen (fun t ht=>hf t (hops ht)) hH K' hk,fun hn=>absurd nj hn⟩)⟩
        ·exact .inr fun K'=>hs fr H K' (fun _ _=>rfl) (by rw[hc];exact⟨fun _=>h1 K',fun hn=>absurd nj hn⟩)
       ·exact .inl ⟨[],_,_,h.2 nj,⟨(by simp),trivial⟩,fun fr' H' _ hf hH K' hk=>hs fr' H' K' hf (by rw[hc];exact⟨fun hy=>absurd hy nj,fun _=>hk⟩)⟩
      ·rename_i vs hc
       exact .inl ⟨[],_,_,h,⟨(by simp),trivial⟩,fun fr' H' _ hf hH K' hk=>hs fr' H' K' hf (by rw[hc];exact hk)⟩
      ·exact h.elim
end
end Go.Ab
namespace Go.Ab
open Go Go.RowKit
section
variable {P:Program}
theorem F5.congr {W0:World} {A0:Nat→Prop} {ds:List Deferred} {n:Nat} {outs:List (Array Value)} {outer:List Fr} {fr fr':Fr} {H:List Ak} {a:Act} {w:World} (hf:∀ t,get fr' t=get fr t)
    (R:F5 W0 A0 ds n outs outer fr H a w):F5 W0 A0 ds n outs outer fr' H a w:=by
  obtain⟨C,h1,h2,h3,h4,h5⟩:=R.ex
  exact⟨C,h1,h2,h3,fun t=>by rw[hf];exact h4 t,h5⟩
theorem eO (fr:Fr) (d:Option Tmp) (v:Ac) (t:Nat):get (put fr d v) t=if d=some t then v else get fr t:=by
  cases d with
  | none=>simp[put]
  | some k=>simp[put,get]
structure Good (W0:World) (A0:Nat→Prop) (ds:List Deferred) (n:Nat) (outs:List (Array Value)) (outer:List Fr) (K:DK) (fr:Fr) (dst:Option Tmp) (H:List Ak) (a':Act) (w':World):Prop where
  ex:∃ en v ef,K en v ef∧F5 W0 A0 ds n outs outer (put fr dst v) (ef.app H) a' w'
def dE (P:Program) (all:List Oper) (o:Oper) (a:Act) (w:World) (G:Act→World→Prop):Prop:=
  (Region.wanted o (yielded all.toArray a.tmps)=true∧
    ((∃ v' w',(execOp a.eval o).run P w= .ok (.value v') w'∧G (a.put o.dst v') w')∨(∃ w',(execOp a.eval o).run P w= .ok .skip w'∧G (a.put o.dst undef) w')∨
      (∃ f args,(execOp a.eval o).run P w= .ok (.enter f args) w∧Calls P f args w fun e w'=>∃ v',e= .returned v'∧G (a.put o.dst v') w')))∨
  (Region.wanted o (yielded all.toArray a.tmps)=false∧G (a.put o.dst undef) w)
theorem dE.exists {all:List Oper} {o:Oper} {a:Act} {w:World} {G:Act→World→Prop} (h:dE P all o a w G):∃ a' w',G a' w':=by
  rcases h with⟨_,h⟩ | ⟨_,h⟩
  ·rcases h with⟨v,w',_,h⟩ | ⟨w',_,h⟩ | ⟨f,args,_,h⟩
   ·exact⟨_,_,h⟩
   ·exact⟨_,_,h⟩
   ·obtain⟨e,w',fr,⟨v',_,h⟩,_⟩:=h []
    exact⟨_,_,h⟩
  ·exact⟨_,_,h⟩
theorem dE.wpOp {md:Option Nat} {all:List Oper} {i:Nat} {o:Oper} {a:Act} {w:World} {G:Act→World→Prop} {Q:Exit→Act→World→Prop} {K:Act→World→Prop} (hi:all[i]? =some o) (h:dE P all o a w G) (hK:∀ a' w',G a' w'→K a' w') (nd:∀ c,o.op≠.defer c) :
    wpOpIn (fence md) 5 P all.toArray Q i K a w:=by
  unfold Go.wpOpIn
  have dt:all.toArray[i]? =some o:=by simpa using hi
  rw[dt]
  simp only
  rcases h with⟨hw,h⟩ | ⟨hw,h⟩
  ·rw[if_pos hw]
   unfold Oper.wpIn
   refine⟨fun _ _=>trivial,?_⟩
   rw[Oper.semAt_eq _ _ _ nd]
   rcases h with⟨v,w',h1,h⟩ | ⟨w',h1,h⟩ | ⟨f,args,h1,h⟩
   ·rw[h1];exact hK _ _ h
   ·rw[h1];exact hK _ _ h
   ·rw[h1,Oper.uponIn_enter]
    exact⟨U6,Zk (h.mono fun e w' ⟨v',he,hg⟩=>by subst he;exact hK _ _ hg)⟩
  ·rw[if_neg (by rw[hw];simp)]
   exact⟨fun _ _=>trivial,hK _ _ h⟩
theorem aN {W0:World} {A0:Nat→Prop} {ds:List Deferred} {n:Nat} {outs:List (Array Value)} {outer:List Fr} {all:List Oper} {o:Oper} {i id:Nat} {K:DK} {fr:Fr} {H:List Ak} {a:Act} {w:World}
    (hd:∀ k,o.dst=some k→k<n) (bw:Py H id) (R:F5 W0 A0 ds n outs outer fr H a w) (h:dstep P all o i id K fr H) :
    dE P all o a w (Good W0 A0 ds n outs outer K fr o.dst H):=by
  obtain⟨C,rfl,rfl,I,hF,hO,hn,hdf⟩:=R.ex
  have ah:∀ k,o.dst=some k→k<a.tmps.size:=by intro k hk;rw[hn];exact hd k hk
  have srep:∀ (C':Ctx) (w':World) (v:Value) (r:Ac),C'.A0=C.A0→Inv W0 C' w'→Uj C' w' a.tmps fr→Em C' w' outs outer→A9 C' w' v r→F5 W0 C.A0 ds n outs outer (put fr o.dst r) C'.H (a.put o.dst v) w':=
    fun C' w' v r e I' yk mw hv=>⟨C',rfl,e,I',yk.put hv o.dst ah,mw,by rw[l7,hn],by rw[put_defers,hdf]⟩
  have skip:dskip K fr C.H→Good W0 C.A0 ds n outs outer K fr o.dst C.H (a.put o.dst undef) w:=
    fun h=>⟨[],.tuple [],.none,h,srep C w undef _ rfl I hF hO (V5 C w)⟩
  have run:drun P o.op i id K fr C.H→(∃ v' w',(execOp a.eval o).run P w= .ok (.value v') w'∧Good W0 C.A0 ds n outs outer K fr o.dst C.H (a.put o.dst v') w')∨(∃ w',(execOp a.eval o).run P w= .ok .skip w'∧Good W0 C.A0 ds n outs outer K fr o.dst C.H (a.put o.dst undef) w')∨
   (∃ f args,(execOp a.eval o).run P w= .ok (.enter f args) w∧Calls P f args w fun e w'=>∃ v',e= .returned v'∧Good W0 C.A0 ds n outs outer K fr o.dst C.H (a.put o.dst v') w'):=by
    intro h
    unfold drun dop at h
    split at h
    ·rename_i f args hc
     obtain⟨zq,ts,ho,rfl⟩:=U7 hc
     obtain⟨fid,gs,r,ef,g1,g2,g4,g5⟩:=h
     have ma:Ah P (ev fr f) (zq.toList.map (ev fr)) (fr::outer) C.H fun r' H'=>r'=r∧H'=ef.app C.H:=by
       rw[g1]
       rcases g4 with⟨rfl,⟨g3,g4⟩ | ⟨g3,g4⟩ | ⟨g3,g4⟩⟩ | ⟨sz,xs,g3,rfl,rfl,g4⟩ | ⟨r0,o',rfl,_,_,g4⟩
       ·exact Ah.snap g2 g3 g4.1 (fun r' hr=>hr ▸ g4.2) fun r' hr=>⟨hr,rfl⟩
       ·rw[g4.2]at g3;exact Ah.pure g2 g3 g4.1 fun r' hr=>⟨hr,rfl⟩
       ·exact Ah.oT g2 g3 g4 fun r' hr=>⟨hr,rfl⟩
       ·exact Ah.rowAt g2 g3 g4 id bw ⟨rfl,rfl⟩
       ·exact g4 _ _ rfl fun _ _=>rfl
     obtain⟨fid',caps,h1,h2,h3⟩:=Or.resolve_right (ma W0 C w (a.tmps::outs) (a.eval f) (zq.toList.map a.eval) I rfl (hO.cons hF) (Sg hF f) (by simp) (fun i v x hv hx=>by
       simp only[List.getElem?_map]at hv hx
       cases hy:zq.toList[i]? with
       | none=>simp[hy]at hv
       | some y=>
         simp only[hy,Option.map_some,Aot]at hv hx
         subst hv hx;exact Sg hF y)) (by
       rintro⟨l,rec,h1,_⟩
       have hfv:=Sg hF f
       rw[g1,h1]at hfv
       cases hfv)
     have bq:(execOp a.eval o).run P w= .ok (.enter fid' ((zq.toList.map a.eval).toArray++caps)) w:=by
       unfold execOp
       rw[ho]
       simp only[resolve,Deferred.ofValue,h1,invoke,Sem.run_bind,Sem.run_pure,Result.andThen_ok]
       have e1:(#[]++Array.map a.eval zq++caps:Array Value)=(zq.toList.map a.eval).toArray++caps:=by
         apply Array.ext';simp
       rw[e1,h2]
     refine .inr (.inr ⟨_,_,bq,h3.mono fun e w' ⟨v,r',C',he,⟨hr,hH⟩,hA,hv,I',mw⟩=>⟨v,he,?_⟩⟩)
     subst hr
     exact⟨_,r',ef,g5,hH ▸ srep C' w' v r' hA I' mw.head mw.tail hv⟩
    ·obtain⟨r,w',C',ef,ng,hk,hH,I',m⟩:=(jU (P:=P) I bw (Sg hF) h).ex
     rcases ng with⟨v,bq,hv⟩ | ⟨bq,rfl⟩
     ·exact .inl ⟨v,w',bq,⟨_,r,ef,hk,hH ▸ srep C' w' v r m.A0 I' (hF.mono m) (hO.mono m) hv⟩⟩
     ·exact .inr (.inl ⟨w',bq,⟨_,_,ef,hk,hH ▸ srep C' w' undef _ m.A0 I' (hF.mono m) (hO.mono m) (V5 C' w')⟩⟩)
  unfold dstep at h
  unfold dE
  cases hg:o.guard with
  | none=>
    simp only[hg]at h
    exact .inl ⟨by simp[Region.wanted,hg],run h⟩
  | some jw=>
    obtain⟨j,want⟩:=jw
    have hy:∀ d,(all[j]?).bind (·.dst)=some d→yielded all.toArray a.tmps j=match a.tmps[d]? with | some (.bool b)=>some b | _=>none:=by
      intro d hd
      unfold yielded
      simp only[List.getElem?_toArray,hd,Aos]
      rfl
    cases ly:(all[j]?).bind (·.dst)with
    | some d=>
      simp only[hg,ly]at h
      have hv:=hF d
      unfold El at h
      split at h
      ·rename_i c hc
       rw[hc]at hv
       have mo:a.tmps.getD d undef= .bool c:=by cases lg:a.tmps.getD d undef<;>rw[lg]at hv<;>cases hv;rfl
       have rh:a.tmps[d]? =some (.bool c):=by
         rw[Array.getD_eq_getD_getElem?]at mo
         cases ht:a.tmps[d]? with
         | none=>rw[ht]at mo;cases mo
         | some u=>rw[ht]at mo;simp at mo;rw[mo]
       have hw:Region.wanted o (yielded all.toArray a.tmps)=decide (c=want):=by
         simp only[Region.wanted,hg,hy d ly,rh]
         cases c<;>cases want<;>rfl
       by_cases nj:c=want
       ·exact .inl ⟨by rw[hw];simpa using nj,run (h.1 nj)⟩
       ·exact .inr ⟨by rw[hw];simpa using nj,skip (h.2 nj)⟩
      ·rename_i vs hc
       rw[hc]at hv
       have hw:Region.wanted o (yielded all.toArray a.tmps)=false:=by
         simp only[Region.wanted,hg,hy d ly]
         cases ht:a.tmps[d]? with
         | none=>rfl
         | some u=>
           have:a.tmps.getD d undef=u:=by rw[Array.getD_eq_getD_getElem?,ht];rfl
           rw[this]at hv
           cases hv;rfl
       exact .inr ⟨hw,skip h⟩
      ·exact h.elim
    | none=>
      simp only[hg,ly]at h
      have hw:Region.wanted o (yielded all.toArray a.tmps)=false:=by
        simp only[Region.wanted,hg]
        unfold yielded
        simp[ly]
      exact .inr ⟨hw,skip h⟩
theorem yL {i id:Nat} {o:Oper} {H:List Ak} {en:Log} {ef:Eff} (hl:qI i id o H en ef) (bw:Gf o.op=true→H[id]? =some .resv):(ef.app H).length=H.length:=by
  cases ef with
  | none=>rfl
  | new j x=>
    obtain⟨_,h1,h2,_⟩:=hl
    subst h2
    have:=(Aoz.1 (bw h1)).1
    simp only[Eff.app,G9]
    rw[if_neg (by omega),List.length_set]
  | set r x=>simp[Eff.app]
theorem rP {i id:Nat} {o:Oper} {H:List Ak} {en:Log} {ef:Eff} (hl:qI i id o H en ef) (bw:Gf o.op=true→H[id]? =some .resv) :
    (ef= .none)∨∃ l x,(∃ p∈en,p.2.2=true∧l∈p.2.1)∧(∀ H2:List Ak,H2.length=H.length→ef.app H2=H2.set l x)∧((Gf o.op=true∧l=id)∨∃ y,H[l]? =some y∧y≠.resv):=by
  cases ef with
  | none=>exact .inl rfl
  | new j x=>
    obtain⟨_,h1,rfl,h3⟩:=hl
    have:=(Aoz.1 (bw h1)).1
    refine .inr ⟨j,x,h3,fun H2 h2=>?_,.inl ⟨h1,rfl⟩⟩
    simp only[Eff.app,G9]
    rw[if_neg (by omega)]
  | set r x=>
    obtain⟨_,h1,h2⟩:=hl
    exact .inr ⟨r,x,h1,fun H2 _=>rfl,.inr h2⟩
def Agb (s t:Tag):Prop:=Gf s.o.op=true→Gf t.o.op=true→s.id≠t.id
structure Ids (L:List Tag) (H:List Ak):Prop where
  new:∀ t∈L,Gf t.o.op=true→H[t.id]? =some .resv
  old:∀ t∈L,Gf t.o.op=false→t.id=H.length
  dst:L.Pairwise Agb
theorem Ids.free {L:List Tag} {H:List Ak} (h:Ids L H) {t:Tag} (ht:t∈L):Py H t.id:=by
  cases hn:Gf t.o.op with
  | true=>exact .inr (h.new t ht hn)
  | false=>exact .inl (h.old t ht hn)
theorem Ids.step {L1 L2:List Tag} {t:Tag} {H:List Ak} (h:Ids (L1++t::L2) H) {en:Log} {ef:Eff} (hl:qI t.i t.id t.o H en ef):Ids (L1++L2) (ef.app H):=by
  have htm:t∈L1++t::L2:=by simp
  have hlen:=yL hl (h.new t htm)
  have hD:∀ s∈L1++L2,Agb s t:=by
    have hp:=h.dst
    rw[List.pairwise_append]at hp
    obtain⟨_,hp2,hp3⟩:=hp
    intro s hs
    rcases Aox.1 hs with hs | hs
    ·exact hp3 s hs t (List.mem_cons_self ..)
    ·intro a b e
     exact(List.pairwise_cons.1 hp2).1 s hs b a e.symm
  have iw:∀ s∈L1++L2,s∈L1++t::L2:=by
    intro s hs
    rcases Aox.1 hs with hs | hs
    ·exact List.mem_append_left _ hs
    ·exact List.mem_append_right _ (List.mem_cons_of_mem _ hs)
  refine⟨fun s hs hn=>?_,fun s hs hn=>by rw[hlen];exact h.old s (iw s hs) hn,?_⟩
  ·have hr:=h.new s (iw s hs) hn
   rcases rP hl (h.new t htm)with rfl | ⟨l,x,_,h2,h3⟩
   ·exact hr
   ·rw[h2 H rfl]
    have bj:l≠s.id:=by
      rcases h3 with⟨g1,rfl⟩ | ⟨y,g1,g2⟩
      ·exact fun e=>hD s hs hn g1 e.symm
      ·rintro rfl
       rw[hr,Aot]at g1
       exact g2 g1.symm
    rw[List.getElem?_set_ne bj];exact hr
  ·have hp:=h.dst
   rw[List.pairwise_append]at hp ⊢
   exact⟨hp.1,(List.pairwise_cons.1 hp.2.1).2,fun a ha b hb=>hp.2.2 a ha b (List.mem_cons_of_mem _ hb)⟩
variable {all:List Oper} {K:Log→Fr→List Ak→Prop}
theorem qB (hK:∀ log log' fr fr' H,(∀ t,get fr' t=get fr t)→(∀ p,p∈log↔p∈log')→K log fr H→K log' fr' H):∀ (L:List Tag) (log log':Log) (fr fr':Fr) (H:List Ak),
    (∀ t∈L,dOK t.o.op)→(∀ t,get fr' t=get fr t)→(∀ p,p∈log↔p∈log')→dlt P all K L log fr H→dlt P all K L log' fr' H
  | [],log,log',fr,fr',H,_,hf,hl,h=>hK _ _ _ _ _ hf hl h
  | t::L,log,log',fr,fr',H,hd,hf,hl,h=>by
    have ih:=qB hK L
    unfold dlt at h ⊢
    have key:∀ K1 K2:DK,(∀ en v ef,K1 en v ef→K2 en v ef)→dstep P all t.o t.i t.id K1 fr H→dstep P all t.o t.i t.id K2 fr' H:=by
      intro K1 K2 hk hs
      have e1:dstep P all t.o t.i t.id K2 fr' H=dstep P all t.o t.i t.id K2 fr H:=by
        have hg:get fr'=get fr:=funext hf
        have he:ev fr'=ev fr:=by funext x;cases x<;>simp[ev,hf]
        simp only[dstep,drun,dskip,El,hg,he]
      rw[e1]
      rcases qA (hd t (List.mem_cons_self ..)) hs with⟨en,v,ef,h1,h2,h3⟩ | h1
      ·exact h3 fr H rfl (fun _ _=>rfl) (fun _ _ _ _=>rfl) K2 (hk _ _ _ h1)
      ·exact h1 K2
    refine key _ _ (fun en v ef hk=>?_) h
    refine ih _ _ _ _ _ (fun t ht=>hd t (List.mem_cons_of_mem _ ht)) (fun x=>?_) (fun p=>?_) hk
    ·rw[eO,eO,hf]
    ·rw[Aox,Aox,hl]
variable {W0:World} {A0:Nat→Prop} {ds:List Deferred} {n:Nat} {outs:List (Array Value)} {outer:List Fr}
theorem aO {t:Tag} {L1 L2:List Tag} {K1:DK} {fr:Fr} {H:List Ak} {a:Act} {w:World} (hd:dOK t.o.op) (hn:∀ k,t.o.dst=some k→k<n) (hI:Ids (L1++t::L2) H) (R:F5 W0 A0 ds n outs outer fr H a w)
    (h:dstep P all t.o t.i t.id K1 fr H):∃ en v ef,Agc P all t.o t.i t.id K1 fr H en v ef∧∃ a' w',F5 W0 A0 ds n outs outer (put fr t.o.dst v) (ef.app H) a' w':=by
  have bw:=hI.free (t:=t) (by simp)
  rcases qA hd h with⟨en,v,ef,h1⟩ | h1
  ·have h2:=h1.2.2 fr H rfl (fun _ _=>rfl) (fun _ _ _ _=>rfl) (fun en' v' ef'=>en'=en∧v'=v∧ef'=ef) ⟨rfl,rfl,rfl⟩
   obtain⟨a',w',⟨⟨_,_,_,⟨rfl,rfl,rfl⟩,R'⟩⟩⟩:=(aN hn bw R h2).exists
   exact⟨_,_,_,h1,a',w',R'⟩
  ·obtain⟨a',w',⟨⟨_,_,_,hf,_⟩⟩⟩:=(aN hn bw R (h1 fun _ _ _=>False)).exists
   exact hf.elim
theorem yF:∀ (L:List Tag) (log:Log) (fr:Fr) (H:List Ak) (a:Act) (w:World),(∀ t∈L,dOK t.o.op)→(∀ t∈L,∀ k,t.o.dst=some k→k<n)→Ids L H→F5 W0 A0 ds n outs outer fr H a w→
    dlt P all K L log fr H→∃ log' fr' H',K log' fr' H'∧∀ p∈log,p∈log'
  | [],log,fr,H,_,_,_,_,_,_,h=>⟨log,fr,H,h,fun _ h=>h⟩
  | t::L,log,fr,H,a,w,hd,hn,hI,R,h=>by
    unfold dlt at h
    obtain⟨en,v,ef,⟨h1,h2,_⟩,a',w',R'⟩:=aO (L1:=[]) (hd t (List.mem_cons_self ..)) (hn t (List.mem_cons_self ..)) hI R h
    obtain⟨log',fr',H',g1,g2⟩:=yF L _ _ _ a' w' (fun t ht=>hd t (List.mem_cons_of_mem _ ht)) (fun t ht=>hn t (List.mem_cons_of_mem _ ht)) (hI.step (L1:=[]) h2) R' h1
    exact⟨log',fr',H',g1,fun p hp=>g2 p (List.mem_append_right _ hp)⟩
structure Aew (A:List Nat) (all:List Oper) (s t:Tag):Prop where
  ap:s.o.apart all.toArray t.o=true
  b1:bit A s.i t.i=false
  b2:bit A t.i s.i=false
  ne:s.i≠t.i
theorem wK {A:List Nat} {log:Log} (h:Sm A log=true) {p q:Nat×List Nat×Bool} (hp:p∈log) (hq:q∈log) (bj:p.1≠q.1) (h1:bit A p.1 q.1=false) (h2:bit A q.1 p.1=false) (hw:(p.2.2||q.2.2)=true)
    {r:Nat} (hr:r∈p.2.1):r ∉ q.2.1:=by
  unfold Sm at h
  have:=List.all_eq_true.1 (List.all_eq_true.1 h p hp) q hq
  simp only[h1,h2,hw,Bool.or_false,Bool.not_true,Bool.or_eq_true,beq_iff_eq,bj,false_or]at this
  unfold disj at this
  have:=List.all_eq_true.1 this r hr
  simpa using this
variable {A:List Nat}
theorem hoist (hK:∀ log log' fr fr' H,(∀ t,get fr' t=get fr t)→(∀ p,p∈log↔p∈log')→K log fr H→K log' fr' H) (hOK:∀ log fr H,K log fr H→Sm A log=true):∀ (L1:List Tag) (t:Tag) (L2:List Tag) (log:Log) (fr:Fr) (H:List Ak) (a:Act) (w:World),
    (∀ s∈L1++t::L2,dOK s.o.op)→(∀ s∈L1++t::L2,∀ k,s.o.dst=some k→k<n)→Ids (L1++t::L2) H→F5 W0 A0 ds n outs outer fr H a w→(∀ s∈L1,Aew A all s t)→
    dlt P all K (L1++t::L2) log fr H→dstep P all t.o t.i t.id (dafter (dlt P all K (L1++L2)) log fr t.o.dst H) fr H
  | [],t,L2,log,fr,H,a,w,_,_,_,_,_,h=>h
  | s::L1,t,L2,log,fr,H,a,w,hd,hn,hI,R,hA,h=>by
    rw[List.cons_append]at h
    unfold dlt at h
    obtain⟨en_s,v_s,ef_s,⟨g1,g2,g3⟩,a',w',R'⟩:=aO (L1:=[]) (hd s (by simp)) (hn s (by simp)) hI R h
    have I':Ids (L1++t::L2) (ef_s.app H):=hI.step (L1:=[]) g2
    have vl:∀ s∈L1++t::L2,dOK s.o.op:=fun x hx=>hd x (by rw[List.cons_append];exact List.mem_cons_of_mem _ hx)
    have ny:∀ s∈L1++t::L2,∀ k,s.o.dst=some k→k<n:=fun x hx=>hn x (by rw[List.cons_append];exact List.mem_cons_of_mem _ hx)
    have ht:=hoist hK hOK L1 t L2 _ _ _ a' w' vl ny I' R' (fun x hx=>hA x (List.mem_cons_of_mem _ hx)) g1
    obtain⟨en_t,v_t,ef_t,⟨k1,k2,k3⟩,a'',w'',R''⟩:=aO (L1:=L1) (L2:=L2) (vl t (by simp)) (ny t (by simp)) I' R' ht
    have kq:∀ x∈L1++L2,x∈L1++t::L2:=by
      intro x hx
      rcases Aox.1 hx with hx | hx
      ·exact List.mem_append_left _ hx
      ·exact List.mem_append_right _ (List.mem_cons_of_mem _ hx)
    obtain⟨log',fr',H',q1,q2⟩:=yF (L1++L2) _ _ _ a'' w'' (fun x hx=>vl x (kq x hx)) (fun x hx=>ny x (kq x hx)) (I'.step k2) R'' k1
    have ld:=hOK _ _ _ q1
    have jt:=hA s (List.mem_cons_self ..)
    obtain⟨ap1,ap2,ap3⟩:=Oper.apart_spec jt.ap
    have yb:∀ p∈en_s,∀ q∈en_t,(p.2.2||q.2.2)=true→∀ r∈p.2.1,r ∉ q.2.1:=by
      intro p hp q hq hw r hr
      have e1:=g2.1 p hp
      have e2:=k2.1 q hq
      exact wK ld (q2 p (by simp[hp])) (q2 q (by simp[hq])) (by rw[e1,e2];exact jt.ne) (by rw[e1,e2];exact jt.b1) (by rw[e1,e2];exact jt.b2) hw hr
    have sS:=rP g2 (hI.new s (by simp))
    have sT:=rP k2 (I'.new t (by simp))
    have lenS:=yL g2 (hI.new s (by simp))
    have lenT:(ef_t.app H).length=H.length:=by
      rcases sT with rfl | ⟨lt,xt,_,yq,_⟩
      ·rfl
      ·rw[yq H lenS.symm,List.length_set]
    have heq:ef_s.app (ef_t.app H)=ef_t.app (ef_s.app H):=by
      rcases sS with rfl | ⟨ls,xs,⟨p,hp,yr,qf⟩,qd,_⟩
      ·rfl
      ·rcases sT with rfl | ⟨lt,xt,⟨q,hq,hqw,hql⟩,yq,_⟩
       ·rfl
       ·rw[yq H lenS.symm,qd H rfl,qd (H.set lt xt) (by simp),yq (H.set ls xs) (by rw[lenS];simp)]
        have bj:ls≠lt:=fun e=>yb p hp q hq (by rw[yr];rfl) ls qf (e ▸ hql)
        exact List.set_comm _ _ (fun e=>bj e.symm)
    refine k3 fr H lenS.symm (fun x hx=>?_) (fun p hp r hr=>?_) _ ?_
    ·rw[eO,if_neg]
     exact fun e=>ap1 x e hx
    ·rcases sS with rfl | ⟨ls,xs,⟨p',sy,yr,qf⟩,qd,_⟩
     ·rfl
     ·rw[qd H rfl,List.getElem?_set_ne]
      exact fun e=>yb p' sy p hp (by rw[yr];rfl) ls qf (e ▸ hr)
    ·show dlt P all K (s::(L1++L2)) (en_t++log) (put fr t.o.dst v_t) (ef_t.app H)
     unfold dlt
     refine g3 _ _ lenT (fun x hx=>?_) (fun p hp r hr=>?_) _ ?_
     ·rw[eO,if_neg]
      exact fun e=>ap3 x e hx
     ·rcases sT with rfl | ⟨lt,xt,⟨q,hq,hqw,hql⟩,yq,_⟩
      ·rfl
      ·rw[yq H lenS.symm,List.getElem?_set_ne]
       exact fun e=>yb p hp q hq (by rw[hqw,Bool.or_true]) r hr (e ▸ hql)
     ·show dlt P all K (L1++L2) (en_s++(en_t++log)) (put (put fr t.o.dst v_t) s.o.dst v_s) (ef_s.app (ef_t.app H))
      rw[heq]
      refine qB hK _ _ _ _ _ _ (fun x hx=>vl x (kq x hx)) (fun x=>?_) (fun p=>?_) k1
      ·simp only[eO]
       by_cases e1:s.o.dst=some x
       ·rw[if_pos e1,if_neg (fun e=>ap2 x e1 e),if_pos e1]
       ·rw[if_neg e1,if_neg e1]
      ·simp only[Aox]
       constructor
       ·rintro(h | h | h)
        ·exact .inr (.inl h)
        ·exact .inl h
        ·exact .inr (.inr h)
       ·rintro(h | h | h)
        ·exact .inr (.inl h)
        ·exact .inl h
        ·exact .inr (.inr h)
variable {P:Program} {md:Option Nat}
inductive Anc (ops:List Oper):Nat→Nat→Prop
  | edge {i:Nat} {o:Oper} {e:Edge} (ho:ops[i]? =some o) (he:e∈o.after) (hb:Region.binds .any e=true):Anc ops i e.on
  | trans {i j:Nat} {o:Oper} {e:Edge} (ho:ops[i]? =some o) (he:e∈o.after) (hb:Region.binds .any e=true) (h:Anc ops e.on j):Anc ops i j
theorem m8 (acc:List Nat) (j:Nat):∀ (l:List Edge) (m:Nat),(l.foldl (fun m e=>if Region.binds .any e then m|||(2 ^ e.on|||acc.getD e.on 0)else m) m).testBit j=true→
    m.testBit j=true∨∃ e∈l,Region.binds .any e=true∧(e.on=j∨(acc.getD e.on 0).testBit j=true)
  | [],m,h=>.inl h
  | e::l,m,h=>by
    rw[List.foldl_cons]at h
    rcases m8 acc j l _ h with h | ⟨e',h1,h2⟩
    ·split at h
     ·rename_i hb
      rw[Nat.testBit_or,Nat.testBit_or,Bool.or_eq_true,Bool.or_eq_true]at h
      rcases h with h | h | h
      ·exact .inl h
      ·rw[Nat.testBit_two_pow]at h
       exact .inr ⟨e,List.mem_cons_self ..,hb,.inl (by simpa using h)⟩
      ·exact .inr ⟨e,List.mem_cons_self ..,hb,.inr h⟩
     ·exact .inl h
    ·exact .inr ⟨e',List.mem_cons_of_mem _ h1,h2⟩
theorem mJ (ops:List Oper):∀ (l:List Oper) (acc:List Nat),(∀ k,l[k]? =ops[acc.length+k]?)→(∀ i j,(acc.getD i 0).testBit j=true→Anc ops i j)→
    ∀ i j,((masks l acc).getD i 0).testBit j=true→Anc ops i j
  | [],acc,_,uh=>uh
  | o::l,acc,hl,uh=>by
    refine mJ ops l (acc++[wQ o acc]) (fun k=>?_) (fun i j h=>?_)
    ·have:=hl (k+1)
     rw[List.getElem?_cons_succ]at this
     rw[this,Aou,List.length_singleton]
     congr 1;omega
    ·rw[List.getD_eq_getElem?_getD]at h
     by_cases hi:i<acc.length
     ·rw[List.getElem?_append_left hi,← List.getD_eq_getElem?_getD]at h
      exact uh i j h
     ·by_cases he:i=acc.length
      ·subst he
       rw[List.getElem?_append_right (Nat.le_refl _),Nat.sub_self]at h
       have ho:ops[acc.length]? =some o:=by have:=hl 0;simpa using this.symm
       simp only[List.getElem?_cons_zero,Option.getD_some]at h
       unfold wQ at h
       rcases m8 acc j _ _ h with h | ⟨e,h1,h2,h3⟩
       ·simp at h
       ·have qj:e∈o.after:=by simpa using h1
        rcases h3 with rfl | h3
        ·exact .edge ho qj h2
        ·exact .trans ho qj h2 (uh _ _ h3)
      ·rw[List.getElem?_eq_none (by simp;omega)]at h
       simp at h
theorem Xg:∀ (l:List Oper) (k:Nat),aM l k=true→∀ i o,l[i]? =some o→∀ e∈o.after,Region.binds .any e=true→e.on<k+i
  | [],_,_,i,o,h,_,_,_=>by simp at h
  | o::l,k,hk,i,o',h,e,he,hb=>by
    simp only[aM,Bool.and_eq_true]at hk
    match i,h with
    | 0,h=>
      simp only[List.getElem?_cons_zero,Aot]at h
      subst h
      have:=List.all_eq_true.1 hk.1 e (by simpa using he)
      simpa[hb,Nat.blt_eq]using this
    | i+1,h=>
      have:=Xg l (k+1) hk.2 i o' (by simpa using h) e he hb
      omega
theorem l9 (A:List Nat) (arr:Array Oper):∀ (l:List Oper) (prev:List (Nat×Oper)) (k:Nat),eF A arr prev l k=true→
    ∀ i o,l[i]? =some o→(∀ p∈prev,bit A (k+i) p.1=true∨p.2.apart arr o=true)∧∀ j o',j<i→l[j]? =some o'→bit A (k+i) (k+j)=true∨o'.apart arr o=true
  | [],_,_,_,i,o,h=>by simp at h
  | o::l,prev,k,hk,i,o',h=>by
    simp only[eF,Bool.and_eq_true]at hk
    match i,h with
    | 0,h=>
      simp only[List.getElem?_cons_zero,Aot]at h
      subst h
      refine⟨fun p hp=>?_,fun j _ hj=>by omega⟩
      have:=List.all_eq_true.1 hk.1 p hp
      simpa using this
    | i+1,h=>
      have ih:=l9 A arr l ((k,o)::prev) (k+1) hk.2 i o' (by simpa using h)
      rw[show k+(i+1)=k+1+i by omega]
      refine⟨fun p hp=>ih.1 p (List.mem_cons_of_mem _ hp),fun j o2 hj h2=>?_⟩
      match j,h2 with
      | 0,h2=>
        simp only[List.getElem?_cons_zero,Aot]at h2
        subst h2
        exact ih.1 (k,o) (List.mem_cons_self ..)
      | j+1,h2=>
        have:=ih.2 j o2 (by omega) (by simpa using h2)
        rwa [show k+(j+1)=k+1+j by omega]
theorem Afj {ops:List Oper} (he:aM ops 0=true):∀ {i j:Nat},Anc ops i j→j<i:=by
  intro i j h
  induction h with
  | edge ho hm hb=>have:=Xg ops 0 he _ _ ho _ hm hb;omega
  | trans ho hm hb _ ih=>have:=Xg ops 0 he _ _ ho _ hm hb;omega
theorem xE {ops:List Oper} {L:Nat→Prop} (hc:∀ k o,ops[k]? =some o→L k→∀ e∈o.after,Region.binds .any e=true→L e.on):∀ {i j:Nat},Anc ops i j→(∀ o,ops[i]? =some o→∀ e∈o.after,Region.binds .any e=true→L e.on)→L j:=by
  intro i j h
  induction h with
  | edge ho hm hb=>exact fun hi=>hi _ ho _ hm hb
  | trans ho hm hb _ ih=>exact fun hi=>ih fun o' fz=>hc _ o' fz (hi _ ho _ hm hb)
variable {W0:World} {A0:Nat→Prop} {ds:List Deferred} {n:Nat} {outs:List (Array Value)} {outer:List Fr} {ops:List Oper} {K:Log→Fr→List Ak→Prop} {Q:Exit→Act→World→Prop}
theorem Aar (hK:∀ log log' fr fr' H,(∀ t,get fr' t=get fr t)→(∀ p,p∈log↔p∈log')→K log fr H→K log' fr' H) (hOK:∀ log fr H,K log fr H→Sm (masks ops []) log=true)
    (hQ:∀ log fr H a w,K log fr H→F5 W0 A0 ds n outs outer fr H a w→Q .normal a w) (hd:∀ (i:Nat) o,ops[i]? =some o→dOK o.op) (hn:∀ (i:Nat) o,ops[i]? =some o→∀ k,o.dst=some k→k<n)
    (he:aM ops 0=true) (hp:eF (masks ops []) ops.toArray [] ops 0=true):∀ (fuel:Nat) (L:List Tag) (listed:Array Bool) (log:Log) (fr:Fr) (H:List Ak) (a:Act) (w:World),
    L.length=fuel→listed.size=ops.length→(∀ t∈L,ops[t.i]? =some t.o∧listed.getD t.i true=false)→(∀ i,i<ops.length→listed.getD i true=false→∃ t∈L,t.i=i)→L.Pairwise (fun s t=>s.i<t.i)→
    (∀ k o,ops[k]? =some o→listed.getD k false=true→∀ e∈o.after,Region.binds .any e=true→listed.getD e.on false=true)→Ids L H→F5 W0 A0 ds n outs outer fr H a w→dlt P ops K L log fr H→
    wpAnyIn (fence md) 5 P .any ops.toArray Q fuel listed a w:=by
  have hlst:∀ {listed:Array Bool} {i:Nat},listed.size=ops.length→i<ops.length→listed.getD i true=listed.getD i false:=by
    intro listed i h1 h2
    simp[Array.getD,h1,h2]
  have anc0:∀ i j,bit (masks ops []) i j=true→Anc ops i j:=mJ ops ops [] (fun k=>by simp) (fun i j h=>by simp at h)
  intro fuel
  induction fuel with
  | zero=>
    intro L listed log fr H a w hl hs hL hc _ _ _ R h
    have:L=[]:=List.length_eq_zero_iff.1 hl
    subst this
    refine wpAnyIn_done ?_ (hQ _ _ _ _ _ h R) 0
    rw[List.eq_nil_iff_forall_not_mem]
    intro j hj
    obtain⟨h1,o,ho,_⟩:=mem_ready.1 hj
    have ah:j<ops.length:=by have:=(Array.getElem?_eq_some_iff.1 ho).1;simpa using this
    obtain⟨t,ht,_⟩:=hc j ah h1
    cases ht
  | succ fuel ih=>
    intro L listed log fr H a w hl hs hL hc jf et hI R h
    refine⟨fun hr=>?_,fun i hi=>?_⟩
    ·exfalso
     match L,hl,hL,hc,jf with
     | t::L,_,hL,hc,jf=>
       obtain⟨h1,h2⟩:=hL t (List.mem_cons_self ..)
       have ah:t.i<ops.length:=(Aoz.1 h1).1
       have:t.i∈Region.ready .any ops.toArray listed:=by
         refine mem_ready.2 ⟨h2,t.o,by simpa using h1,fun e hm hb=>?_⟩
         have hon:=Xg ops 0 he _ _ h1 e hm hb
         cases hf:listed.getD e.on false with
         | true=>rfl
         | false=>
           obtain⟨s,gz,qd⟩:=hc e.on (by omega) (by rw[hlst hs (by omega)];exact hf)
           rcases List.mem_cons.1 gz with rfl | gz
           ·omega
           ·have:=(List.pairwise_cons.1 jf).1 s gz;omega
       rw[hr]at this
       cases this
    ·obtain⟨h1,o,ho,h3⟩:=mem_ready.1 hi
     have fz:ops[i]? =some o:=by simpa using ho
     have ah:i<ops.length:=(Aoz.1 fz).1
     obtain⟨t,ht,rfl⟩:=hc i ah h1
     obtain⟨L1,L2,rfl⟩:=List.append_of_mem ht
     have hto:t.o=o:=by have:=(hL t ht).1;rw[fz,Aot]at this;exact this.symm
     subst hto
     have hA:∀ s∈L1,Aew (masks ops []) ops s t:=by
       intro s gz
       have hlts:s.i<t.i:=(List.pairwise_append.1 jf).2.2 s gz t (List.mem_cons_self ..)
       obtain⟨g1,g2⟩:=hL s (List.mem_append_left _ gz)
       have b2:bit (masks ops []) t.i s.i=false:=by
         cases hb:bit (masks ops []) t.i s.i with
         | false=>rfl
         | true=>
           have:=xE (L:=fun k=>listed.getD k false=true) et (anc0 _ _ hb) (fun o2 ho2=>by rw[fz,Aot]at ho2;subst ho2;exact h3)
           rw[hlst hs (by omega)]at g2
           rw[g2]at this;cases this
       have b1:bit (masks ops []) s.i t.i=false:=by
         cases hb:bit (masks ops []) s.i t.i with
         | false=>rfl
         | true=>have:=Afj he (anc0 _ _ hb);omega
       refine⟨?_,b1,b2,by omega⟩
       have:=(l9 _ _ ops [] 0 hp t.i t.o fz).2 s.i s.o hlts g1
       rw[Nat.zero_add,Nat.zero_add,b2]at this
       simpa using this
     have vl:∀ s∈L1++t::L2,dOK s.o.op:=fun s gz=>hd _ _ (hL s gz).1
     have ny:∀ s∈L1++t::L2,∀ k,s.o.dst=some k→k<n:=fun s gz=>hn _ _ (hL s gz).1
     have jt:=hoist hK hOK L1 t L2 log fr H a w vl ny hI R hA h
     have bq:=aN (ny t (by simp)) (hI.free (by simp)) R jt
     have hst2:dstep P ops t.o t.i t.id (fun en v ef=>qI t.i t.id t.o H en ef∧dafter (dlt P ops K (L1++L2)) log fr t.o.dst H en v ef) fr H:=by
       obtain⟨en,v,ef,⟨k1,k2,k3⟩,_⟩:=aO (vl t (by simp)) (ny t (by simp)) hI R jt
       exact k3 fr H rfl (fun _ _=>rfl) (fun _ _ _ _=>rfl) _ ⟨k2,k1⟩
     have nd:∀ c,t.o.op≠.defer c:=fun c hc=>by
       have hdo:=vl t (by simp)
       rw[hc]at hdo
       rcases hdo with h | h<;>simp[Sh,drawable]at h
     refine dE.wpOp fz (aN (ny t (by simp)) (hI.free (by simp)) R hst2) (fun a' w' hg=>?_) nd
     obtain⟨en,v,ef,⟨k2,k1⟩,R'⟩:=hg.ex
     have bj:∀ s∈L1++L2,s.i≠t.i:=by
       intro s gz
       have hq:=List.pairwise_append.1 jf
       rcases Aox.1 gz with gz | gz
       ·have:=hq.2.2 s gz t (List.mem_cons_self ..);omega
       ·have:=(List.pairwise_cons.1 hq.2.1).1 s gz;omega
     have kq:∀ x∈L1++L2,x∈L1++t::L2:=by
       intro x hx
       rcases Aox.1 hx with hx | hx
       ·exact List.mem_append_left _ hx
       ·exact List.mem_append_right _ (List.mem_cons_of_mem _ hx)
     refine ih (L1++L2) _ _ _ _ a' w' (by simp at hl ⊢;omega) (by simpa using hs) (fun s gz=>?_) (fun j hj hu=>?_) ?_ (fun k o2 hk df e hm hb=>?_) (hI.step k2) R' k1
     ·refine⟨(hL s (kq s gz)).1,?_⟩
      rw[getD_set_ne _ (fun e=>bj s gz e.symm)]
      exact(hL s (kq s gz)).2
     ·by_cases e:j=t.i
      ·subst e
       simp[Array.getD,hs,ah]at hu
      ·rw[getD_set_ne _ (fun e'=>e e'.symm)]at hu
       obtain⟨s,gz,qd⟩:=hc j hj hu
       refine⟨s,?_,qd⟩
       rcases Aox.1 gz with gz | gz
       ·exact List.mem_append_left _ gz
       ·rcases List.mem_cons.1 gz with rfl | gz
        ·exact absurd qd.symm e
        ·exact List.mem_append_right _ gz
     ·have hq:=List.pairwise_append.1 jf
      rw[List.pairwise_append]
      exact⟨hq.1,(List.pairwise_cons.1 hq.2.1).2,fun a ha b hb=>hq.2.2 a ha b (List.mem_cons_of_mem _ hb)⟩
     ·by_cases e1:k=t.i
      ·subst e1
       rw[fz,Aot]at hk
       subst hk
       exact getD_set_true (h3 e hm hb)
      ·rw[getD_set_ne _ (fun e'=>e1 e'.symm)]at df
       exact getD_set_true (et k o2 hk df e hm hb)
theorem tE {A:List Nat} {log log':Log} (h:∀ p,p∈log↔p∈log') (hk:Sm A log=true):Sm A log'=true:=by
  unfold Sm at *
  exact List.all_eq_true.2 fun p hp=>List.all_eq_true.2 fun q hq=>List.all_eq_true.1 (List.all_eq_true.1 hk p ((h p).2 hp)) q ((h q).2 hq)
theorem uQ (all:List Oper) (top:Nat) (K:Log→Fr→List Ak→Prop):∀ (l:List Oper) (i id:Nat),dlist P all top K l i id=dlt P all K (tags top l i id)
  | [],_,_=>by funext log fr H;rfl
  | o::l,i,id=>by
    funext log fr H
    rw[dlist,uQ all top K l,tags,dlt]
theorem rZ (top:Nat):∀ (l:List Oper) (i id:Nat),(tags top l i id).length=l.length
  | [],_,_=>rfl
  | o::l,i,id=>by rw[tags,List.length_cons,rZ top l,List.length_cons]
theorem lM (top:Nat):∀ (l:List Oper) (i id:Nat) (t:Tag),t∈tags top l i id→∃ k,t.i=i+k∧l[k]? =some t.o
  | [],_,_,t,h=>by cases h
  | o::l,i,id,t,h=>by
    rw[tags]at h
    rcases List.mem_cons.1 h with rfl | h
    ·exact⟨0,rfl,rfl⟩
    ·obtain⟨k,h1,h2⟩:=lM top l _ _ t h
     exact⟨k+1,by omega,by simpa using h2⟩
theorem r5 (top:Nat):∀ (l:List Oper) (i id k:Nat),k<l.length→∃ t∈tags top l i id,t.i=i+k
  | [],_,_,k,h=>by simp at h
  | o::l,i,id,0,_=>⟨_,List.mem_cons_self ..,rfl⟩
  | o::l,i,id,k+1,h=>by
    obtain⟨t,h1,h2⟩:=r5 top l (i+1) (if Gf o.op then id+1 else id) k (by simpa using h)
    exact⟨t,List.mem_cons_of_mem _ h1,by omega⟩
theorem jC (top:Nat):∀ (l:List Oper) (i id:Nat),(tags top l i id).Pairwise (fun s t=>s.i<t.i)
  | [],_,_=>.nil
  | o::l,i,id=>by
    rw[tags,List.pairwise_cons]
    refine⟨fun t ht=>?_,jC top l _ _⟩
    obtain⟨k,h1,_⟩:=lM top l _ _ t ht
    show i<t.i
    omega
theorem xU (top:Nat):∀ (l:List Oper) (i id:Nat) (t:Tag),t∈tags top l i id→Gf t.o.op=true→id≤t.id
  | [],_,_,t,h,_=>by cases h
  | o::l,i,id,t,h,hn=>by
    rw[tags]at h
    rcases List.mem_cons.1 h with rfl | h
    ·simp only at hn ⊢
     rw[if_pos hn];exact Nat.le_refl _
    ·have:=xU top l _ _ t h hn
     split at this<;>omega
theorem lN (top:Nat):∀ (l:List Oper) (i:Nat) (H:List Ak),top=(H++resvs l).length→Ids (tags top l i H.length) (H++resvs l)
  | [],i,H,_=>⟨fun t h=>(by cases h),fun t h=>(by cases h),.nil⟩
  | o::l,i,H,ht=>by
    rw[tags]
    cases hn:Gf o.op with
    | true=>
      have e1:H++resvs (o::l)=(H++[.resv])++resvs l:=by simp[resvs,hn]
      rw[e1]at ht ⊢
      have ih:=lN top l (i+1) (H++[.resv]) ht
      rw[Aou,List.length_singleton]at ih
      simp only[if_true]
      refine⟨fun t hm ez=>?_,fun t hm ez=>?_,?_⟩
      ·rcases List.mem_cons.1 hm with rfl | hm
       ·simp
       ·exact ih.new t hm ez
      ·rcases List.mem_cons.1 hm with rfl | hm
       ·rw[hn]at ez;cases ez
       ·exact ih.old t hm ez
      ·rw[List.pairwise_cons]
       refine⟨fun t hm _ ez=>?_,ih.dst⟩
       have:=xU top l _ _ t hm ez
       simp only
       omega
    | false=>
      have e1:H++resvs (o::l)=H++resvs l:=by simp[resvs,hn]
      rw[e1]at ht ⊢
      have ih:=lN top l (i+1) H ht
      simp only[Bool.false_eq_true,if_false]
      refine⟨fun t hm ez=>?_,fun t hm ez=>?_,?_⟩
      ·rcases List.mem_cons.1 hm with rfl | hm
       ·rw[hn]at ez;cases ez
       ·exact ih.new t hm ez
      ·rcases List.mem_cons.1 hm with rfl | hm
       ·exact ht
       ·exact ih.old t hm ez
      ·rw[List.pairwise_cons]
       refine⟨fun t hm ez=>?_,ih.dst⟩
       rw[hn]at ez;cases ez
theorem F5.resv {fr:Fr} {H:List Ak} {a:Act} {w:World} (R:F5 W0 A0 ds n outs outer fr H a w):F5 W0 A0 ds n outs outer fr (H++[.resv]) a w:=by
  obtain⟨C,rfl,h2,I,h4,h5,h6⟩:=R.ex
  obtain⟨I',m⟩:=I.ghost C.H.length (.inl rfl) .resv fun _=>I.x5 (.inl rfl)
  have e:(C.ghost C.H.length .resv).H=C.H++[.resv]:=by simp[Ctx.ghost,G9]
  exact⟨_,e,h2,I',h4.mono m,h5.mono m,h6⟩
theorem F5.resvs {fr:Fr} {a:Act} {w:World}:∀ (l:List Oper) {H:List Ak},F5 W0 A0 ds n outs outer fr H a w→F5 W0 A0 ds n outs outer fr (H++Go.Ab.resvs l) a w
  | [],H,R=>by simpa[Go.Ab.resvs]using R
  | o::l,H,R=>by
    unfold Go.Ab.resvs
    split
    ·rw[show H++Ak.resv::Go.Ab.resvs l=(H++[.resv])++Go.Ab.resvs l by simp]
     exact F5.resvs l R.resv
    ·exact F5.resvs l R
theorem F5.drawn {fr:Fr} {H:List Ak} {a:Act} {w:World} (R:F5 W0 A0 ds n outs outer fr H a w) (d:Nat):F5 W0 A0 ds n outs outer fr H a {w with drawn:=d}:=by
  obtain⟨C,h1,h2,I,h4,h5,h6⟩:=R.ex
  obtain⟨I',m⟩:=I.same (w':={w with drawn:=d}) rfl ⟨I.below.os,I.below.tape,I.below.output,I.below.size,I.below.block⟩
  exact⟨C,h1,h2,I',h4.mono m,h5.mono m,h6⟩
theorem AWP.draw {id:Nat} {Q:Exit→Fr→List Ak→Prop} {fr:Fr} {H:List Ak} (hm:P.follows .mixedOrders=true) (ld:wY n ops=true)
    (h:∀ K:Log→Fr→List Ak→Prop,(∀ log fr H,Sm (masks ops []) log=true→Q .normal fr H→K log fr H)→dlist P ops (H++resvs ops).length K ops 0 H.length [] fr (H++resvs ops)) :
    AWP md P n (.region id ops.toArray true) Q outer fr H:=by
  intro W0 A0 ds outs a w R
  simp only[wY,Bool.and_eq_true]at ld
  obtain⟨⟨⟨h1,h2⟩,h3⟩,h4⟩:=ld
  refine wpIn_region_any hm ?_
  have hK:=h (fun log fr H=>Sm (masks ops []) log=true∧∃ fr2,(∀ t,get fr2 t=get fr t)∧Q .normal fr2 H) fun log fr H g1 g2=>⟨g1,fr,fun _=>rfl,g2⟩
  rw[uQ]at hK
  have ij:∀ (i:Nat) o,ops[i]? =some o→o∈ops:=fun i o ho=>Aor ho
  have a1:∀ (log log':Log) (fr fr':Fr) (H:List Ak),(∀ t,get fr' t=get fr t)→(∀ p,p∈log↔p∈log')→(Sm (masks ops []) log=true∧∃ fr2,(∀ t,get fr2 t=get fr t)∧Q .normal fr2 H)→
   (Sm (masks ops []) log'=true∧∃ fr2,(∀ t,get fr2 t=get fr' t)∧Q .normal fr2 H):=by
    intro log log' fr fr' H hf hl ⟨g0,fr2,g1,g2⟩
    exact⟨tE hl g0,fr2,fun t=>by rw[g1,hf],g2⟩
  have a2:∀ (log:Log) (fr:Fr) (H:List Ak) (a:Act) (w:World),(Sm (masks ops []) log=true∧∃ fr2,(∀ t,get fr2 t=get fr t)∧Q .normal fr2 H)→F5 W0 A0 ds n outs outer fr H a w→
   ∃ fr' H',Q .normal fr' H'∧F5 W0 A0 ds n outs outer fr' H' a w:=by
    intro log fr H a w ⟨_,fr2,g1,g2⟩ R
    exact⟨fr2,H,g2,R.congr g1⟩
  have a3:∀ (i:Nat) o,ops[i]? =some o→dOK o.op:=by
    intro i o ho
    have:=List.all_eq_true.1 h2 o (ij i o ho)
    simpa[dOK]using this
  have a4:∀ (i:Nat) o,ops[i]? =some o→∀ k,o.dst=some k→k<n:=by
    intro i o ho k hk
    have:=List.all_eq_true.1 h1 o (ij i o ho)
    rw[hk]at this
    simpa using this
  have a5:∀ t∈tags (H++resvs ops).length ops 0 H.length,ops[t.i]? =some t.o∧(Array.replicate ops.toArray.size false).getD t.i true=false:=by
    intro t ht
    obtain⟨k,g1,g2⟩:=lM _ ops 0 _ t ht
    rw[Nat.zero_add]at g1
    have ah:k<ops.length:=(Aoz.1 g2).1
    exact⟨by rw[g1];exact g2,by rw[g1];simp[Array.getD,ah]⟩
  have a6:∀ i,i<ops.length→(Array.replicate ops.toArray.size false).getD i true=false→∃ t∈tags (H++resvs ops).length ops 0 H.length,t.i=i:=by
    intro i hi _
    obtain⟨t,g1,g2⟩:=r5 (H++resvs ops).length ops 0 H.length i hi
    exact⟨t,g1,by omega⟩
  have a7:∀ k o,ops[k]? =some o→(Array.replicate ops.toArray.size false).getD k false=true→∀ e∈o.after,Region.binds .any e=true→(Array.replicate ops.toArray.size false).getD e.on false=true:=by
    intro k o _ hl
    exfalso
    simp[Array.getD]at hl
  exact Aar (W0:=W0) (A0:=A0) (n:=n) (outs:=outs) (outer:=outer) a1 (fun log fr H hk=>hk.1) a2 a3 a4 h3 h4
    ops.length (tags _ ops 0 H.length) _ [] fr (H++resvs ops) a _ (rZ ..) (by simp) a5 a6 (jC ..) a7 (lN _ ops 0 H rfl) ((R.drawn _).resvs ops) hK
end
end Go.Ab
namespace Go.Ab
open Go Go.RowKit
theorem wF (K:Ac→Eff→Prop) (v:Ac):Iz K v=K v .none:=rfl
theorem oM (fr:Fr) (dst:Option Tmp) (next:Fr→List Ak→Prop) (v:Ac) (H:List Ak):iU fr dst next v H=next (put fr dst v) H:=rfl
theorem oL (fr:Fr) (dst:Option Tmp) (next:Fr→List Ak→Prop) (H:List Ak) (v:Ac) (ef:Eff):Qu fr dst next H v ef=next (put fr dst v) (ef.app H):=rfl
theorem Aap (dst:Option Tmp) (next:Fr→List Ak→Prop) (fr:Fr) (H:List Ak):askip dst next fr H=next (put fr dst (.tuple [])) H:=rfl
theorem Acb (K:Ac→Prop) (y:List Ac):Af9 K y=K (.eptr y):=rfl
theorem Abi (P:Program) (T:TypeId) (k:Nat) (K:Ac→Prop) (y:List Ac):Afr P T k K y=K (I7 (Mp P T) (Bp P T) (y.drop k)):=rfl
theorem Abh (r v sz:Nat) (xs:List (List Ac)) (i k:Nat) (vs:List Ac) (K:Ac→Eff→Prop) (y:List Ac):Adi r v sz xs i k vs K y=K (.tuple []) (.set r (.row v sz (xs.set i (splice y k vs)))):=rfl
theorem zR (ok:Bool) (K:Ac→Prop) (v:Ac) (b:Bool):Aep ok K v b=K (if ok then .tuple [v,.bool b]else v):=rfl
theorem Aaq (P:Program) (outer:List Fr) (op:Op) (dst:Option Tmp) (next:Fr→List Ak→Prop) (fr:Fr) (H:List Ak):aoper P outer op dst next fr H =
  match Sh op with
  | some (f,args)=>Ah P (ev fr f) (args.map (ev fr)) (fr::outer) H (iU fr dst next)
  | none=>match Ac5 P op (ev fr)with
    | some xs=>∀ b:Bool,(xs≠[]→b=false)→Qu fr dst next H (.bool b) .none
    | none=>astep P op (ev fr) H H.length (Qu fr dst next H):=rfl
theorem Aai (P:Program) (all:List Oper) (top:Nat) (K:Log→Fr→List Ak→Prop) (i id:Nat) (log:Log) (fr:Fr) (H:List Ak):dlist P all top K [] i id log fr H=K log fr H:=rfl
theorem uO (P:Program) (all:List Oper) (top:Nat) (K:Log→Fr→List Ak→Prop) (dst:Option Tmp) (op:Op) (type:TypeId) (pos:String) (after:Array Edge) (rest:List Oper) (i id:Nat) (log:Log) (fr:Fr) (H:List Ak) :
    dlist P all top K ({dst,op,type,pos,after,guard:=none}::rest) i id log fr H =
      drun P op i (if Gf op then id else top) (dafter (dlist P all top K rest (i+1) (if Gf op then id+1 else id)) log fr dst H) fr H:=rfl
theorem uP (P:Program) (all:List Oper) (top:Nat) (K:Log→Fr→List Ak→Prop) (dst:Option Tmp) (op:Op) (type:TypeId) (pos:String) (after:Array Edge) (j:Nat) (want:Bool) (rest:List Oper) (i id:Nat) (log:Log) (fr:Fr) (H:List Ak) :
    dlist P all top K ({dst,op,type,pos,after,guard:=some (j,want)}::rest) i id log fr H =
      fF ((all[j]?).bind (·.dst)) want (drun P op i (if Gf op then id else top) (dafter (dlist P all top K rest (i+1) (if Gf op then id+1 else id)) log fr dst H))
       (dskip (dafter (dlist P all top K rest (i+1) (if Gf op then id+1 else id)) log fr dst H)) fr H:=by
  simp only[dlist,dstep,fF]
  cases(all[j]?).bind (·.dst)<;>rfl
theorem Acp (P:Program) (op:Op) (i id:Nat) (K:DK) (fr:Fr) (H:List Ak):drun P op i id K fr H=dop P op (ev fr) H id (K (ents i id op (ev fr))):=rfl
theorem Aag (K:DK) (fr:Fr) (H:List Ak):dskip K fr H=K [] (.tuple []) .none:=rfl
theorem wZ (next:Log→Fr→List Ak→Prop) (log:Log) (fr:Fr) (dst:Option Tmp) (H:List Ak) (en:Log) (v:Ac) (ef:Eff):dafter next log fr dst H en v ef=next (en++log) (put fr dst v) (ef.app H):=rfl
theorem Ad6 (P:Program) (op:Op) (e:Operand→Ac) (H:List Ak) (id:Nat) (K:Ac→Eff→Prop):dop P op e H id K =
  match Sh op with
  | some (f,args)=>Br P (e f) (args.map e) H id K
  | none=>astep P op e H id K:=rfl
attribute [go_sem] Aai uO uP Acp Aag wZ Ad6 ents pI touch rid Adj Adk cE Gf wJ resvs
attribute [go_sem] wF oM oL Aap Acb Abi Abh zR Aaq Aas vA vB fF xF xI xG xH oK
theorem Ad3 (k:Nat) (v:Ac) (r:Fr):get ((k,v)::r) k=v:=if_pos rfl
theorem Ace {k t:Nat} (h:k≠t) (v:Ac) (r:Fr):get ((k,v)::r) t=get r t:=if_neg h
attribute [go_sem] Ad3 Ace
attribute [go_sem] List.append_eq
attribute [go_sem] Sh Ac5 astep K8 Ha xL xM ev put aconst aS acells Ac.one Ac.g0 Ac.g1 Ac.g2 Ac.f0 Ac.f1 Ac.f2 nL xX fG vG Fu aUn j0 I7 Z3 Z0 xP Aay Le I8 bU dD Oc reps chunk dC rS Lf Sj Qv Vd splice Eff.app G9 nM S2 Ui pH Abe xS Hn Vc rR yM rT acond qthen qblock qret rfrz aresult aret Gz Zg Pz oF Ub vle eY Rt Wz dM Ac.c9 Ac.bE Ac.Zq Ac.R2 Mc xC nG
end Go.Ab
namespace Go.Ab
open Go Go.RowKit
section
variable {P:Program} {md:Option Nat} {n:Nat} {Q:Exit→Fr→List Ak→Prop} {outer:List Fr} {fr:Fr} {H:List Ak}
theorem Br.snap {f:FuncId} {args args':List Ac} {r:Ac} {id:Nat} {K:Ac→Eff→Prop} (hc:∀ (args:Array Value) (w:World),(callFunc f args).run P w= .ok (.enter f args) w)
    (spec:Ad P f args' (·=r)) (ha:Gz (Pz H) args=some args') (ry:r.f2=true) (h:K r .none):Br P (.func f []) args H id K:=
  ⟨f,args',r,.none,rfl,hc,.inl ⟨rfl,.inl ⟨spec,ha,ry⟩⟩,h⟩
theorem Br.oT {f:FuncId} {args args':List Ac} {r:Ac} {id:Nat} {K:Ac→Eff→Prop} (hc:∀ (args:Array Value) (w:World),(callFunc f args).run P w= .ok (.enter f args) w)
    (spec:A8 P f args' (·=r)) (ha:Gz (Pz H) args=some args') (h:K r .none):Br P (.func f []) args H id K:=
  ⟨f,args',r,.none,rfl,hc,.inl ⟨rfl,.inr (.inr ⟨spec,ha⟩)⟩,h⟩
theorem Br.eff {f:FuncId} {args:List Ac} {r:Ac} {id:Nat} {H:List Ak} {K:Ac→Eff→Prop} (r0:Nat) (o':Ak) (hc:∀ (args:Array Value) (w:World),(callFunc f args).run P w= .ok (.enter f args) w)
    (hr0:(cE args).contains r0=true) (hx:∃ x,H[r0]? =some x∧x≠.resv) (ma:∀ (st:List Fr) (H':List Ak),H'.length=H.length→(∀ q∈cE args,H'[q]? =H[q]?)→Ah P (.func f []) args st H' fun r' H''=>r'=r∧H''=H'.set r0 o')
    (h:K r (.set r0 o')):Br P (.func f []) args H id K:=
  ⟨f,[],r,.set r0 o',rfl,hc,.inr (.inr ⟨r0,o',rfl,by simpa using hr0,hx,ma⟩),h⟩
theorem Br.pure {f:FuncId} {args:List Ac} {r:Ac} {id:Nat} {K:Ac→Eff→Prop} (hc:∀ (args:Array Value) (w:World),(callFunc f args).run P w= .ok (.enter f args) w)
    (spec:Ad P f args (·=r)) (hg:args.all Ac.g2=true) (h:K r .none):Br P (.func f []) args H id K:=
  ⟨f,args,r,.none,rfl,hc,.inl ⟨rfl,.inr (.inl ⟨spec,hg,rfl⟩)⟩,h⟩
theorem Br.row {f:FuncId} {args:List Ac} {id sz:Nat} {xs:List (List Ac)} {K:Ac→Eff→Prop} (hc:∀ (args:Array Value) (w:World),(callFunc f args).run P w= .ok (.enter f args) w)
    (spec:Dm P f args sz xs) (hg:args.all Ac.g2=true) (h:K (.own id 0 0 xs.length) (.new id (.row 0 sz xs))):Br P (.func f []) args H id K:=
  ⟨f,args,_,_,rfl,hc,.inr (.inl ⟨sz,xs,spec,rfl,rfl,.inl ⟨hg,rfl⟩⟩),h⟩
theorem Ah.row {f:FuncId} {args:List Ac} {st:List Fr} {sz:Nat} {xs:List (List Ac)} {K:Ac→List Ak→Prop} (hc:∀ (args:Array Value) (w:World),(callFunc f args).run P w= .ok (.enter f args) w)
    (spec:Dm P f args sz xs) (hg:args.all Ac.g2=true) (id:Nat) (bw:H.length=id) (h:K (.own id 0 0 xs.length) (H++[.row 0 sz xs])):Ah P (.func f []) args st H K:=
  Ah.rowAt hc spec (.inl ⟨hg,rfl⟩) id (.inl bw.symm) (by unfold G9;rw[if_pos bw.symm];exact h)
theorem Ah.Adi {f:FuncId} {args args':List Ac} {st:List Fr} {sz:Nat} {xs:List (List Ac)} {K:Ac→List Ak→Prop} (hc:∀ (args:Array Value) (w:World),(callFunc f args).run P w= .ok (.enter f args) w)
    (spec:Dm P f args' sz xs) (ha:Gz (Pz H) args=some args') (ya:(xs.all fun x=>x.all Ac.f0)=true) (id:Nat) (bw:H.length=id) (h:K (.own id 0 0 xs.length) (H++[.row 0 sz xs])):Ah P (.func f []) args st H K:=
  Ah.rowAt hc spec (.inr ⟨ha,ya⟩) id (.inl bw.symm) (by unfold G9;rw[if_pos bw.symm];exact h)
theorem sZ {id:Nat} (h:Q .normal fr H):qblock id Q (.exit id) fr H:=by simp only[qblock,if_true];exact h
theorem qS {id i:Nat} (bj:i≠id) (h:Q (.exit i) fr H):qblock id Q (.exit i) fr H:=by simp only[qblock,if_neg bj];exact h
theorem jY {t:Bool} {yes no:Prop} (h1:t=true→yes) (h2:t=false→no):acond (.bool t) yes no:=⟨h1,h2⟩
theorem nK {yes no:Prop} (h1:yes):acond (.bool true) yes no:=⟨fun _=>h1,fun h=>by cases h⟩
theorem jZ {yes no:Prop} (h1:no):acond (.bool false) yes no:=⟨(fun h=>by cases h),fun _=>h1⟩
theorem AWP.Ma {ι:Type} {c:Code} (F:ι→Fr) (HH:ι→List Ak) (J:ι→Prop) (μ:ι→Nat) (x0:ι) (h0:J x0) (vq:dM fr (F x0)) (vp:Wz H (HH x0))
    (hb:∀ x,Mc (HH x).length (F x)=true∧nG (HH x).length (HH x)=true∧outer.all (Mc (HH x).length)=true)
    (round:∀ x,J x→AWP md P n c (qthen (fun fr' H'=>∃ x',J x'∧μ x'< μ x∧dM fr' (F x')∧Wz H' (HH x')) Q) outer (F x) (HH x)):AWP md P n (.loop c) Q outer fr H:=by
  refine AWP.loop F HH J μ x0 h0 (Sub.weak vp vq (.inr (hb x0))) fun x hx=>AWP.mono ?_ (round x hx)
  intro e fr' H' h
  cases e with
  | normal=>
    obtain⟨x',h1,h2,h3,h4⟩:=h
    exact⟨x',h1,h2,Sub.weak h4 h3 (.inr (hb x'))⟩
  | _=>exact h
theorem AWP.ghost {c:Code} (k sz:Nat) (hk:get fr k= .nils) (cn:1≤sz) (h:AWP md P n c Q outer ((k,.own H.length 0 0 0)::fr) (H++[.row 0 sz []])):AWP md P n c Q outer fr H:=
  AWP.sub (Sub.ghost k sz hk cn) h
end
theorem A1.map {α:Type} {f:α→List Ac} {l:List α} {n:Int} {k sz:Nat} {K:List Ac→Prop} (hn:n=(k:Int)) (hk:k<l.length) (h:∀ a,l[k]? =some a→K (f a)):A1 sz (l.map f) n K:=by
  subst hn
  refine⟨by omega,by simpa using hk,fun y hy _=>?_⟩
  simp only[Int.toNat_natCast,List.getElem?_map]at hy
  cases ha:l[k]? with
  | none=>simp[ha]at hy
  | some a=>simp only[ha,Option.map_some,Aot]at hy;subst hy;exact h a ha
theorem bT {c want:Bool} {Y N:Fr→List Ak→Prop} {fr:Fr} {H:List Ak} (h1:c=want→Y fr H) (h2:c= !want→N fr H):El (.bool c) want Y N fr H:=
  ⟨h1,fun h=>h2 (by cases c<;>cases want<;>simp_all)⟩
theorem wrap_i64 {x:Int} (h1: -9223372036854775808≤x) (h2:x≤9223372036854775807):IntKind.i64.wrap x=x:=by
  rw[IntKind.wrap_i64];omega
theorem Bi {α:Type} {l:List α} {k:Nat} {a:α} (h:l[k]? =some a):l.take (k+1)=l.take k++[a]:=by
  rw[List.take_add_one,h];rfl
def An (n:Int):List Ac:=[.int .i64 n]
theorem natCast_succ (k:Nat):((k+1:Nat):Int)=(k:Int)+1:=rfl
end Go.Ab
namespace Go.Ab
open Go Go.RowKit
abbrev Aaz (W:World):Ctx:=Ctx.imm fun b=>b<W.heap.size
def Ig (W:World) (cs:List Value) (zq:List Ac):Prop:=
  cs.length=zq.length∧∀ (i:Nat) v a,cs[i]? =some v→zq[i]? =some a→A9 (Aaz W) W v a
structure Ca (P:Program) (t:TypeId) {α:Type} (f:α→List Ac) (Pa:α→Prop):Prop where
  op:∀ {H:Type} {enc:TypeId×Value→H} {w:World} {base:Nat} {spare:Nat→Bool} {held:Bool} {fuel:Nat} {cs:List Value} {x:DataW H×List MemPlace},
   DataW.trod enc P w base spare held fuel t cs=some x→∃ a,Pa a∧Ig w cs (f a)
theorem Ig.one {W:World} {v:Value} {a:Ac} (h:A9 (Aaz W) W v a):Ig W [v] [a]:=
  ⟨rfl,fun i v' a' h1 h2=>by
    match i,h1,h2 with
    | 0,h1,h2=>simp at h1 h2;subst h1 h2;exact h⟩
section
variable {P:Program} {t:TypeId}
theorem Ca.int {k:IntKind} (ht:P.underlying t=some (.int k)):Ca P t (fun n:Int=>[.int k n]) (fun n=>(Lit.int k n).wf=true):=by
  constructor
  intro H enc w base spare held fuel cs x h
  obtain⟨n,rfl,_,hw⟩:=DataW.trod_int ht h
  exact⟨n,hw,.one (.int k n)⟩
theorem Ca.bool (ht:P.underlying t=some .bool):Ca P t (fun b:Bool=>[.bool b]) (fun _=>True):=by
  constructor
  intro H enc w base spare held fuel cs x h
  obtain⟨b,rfl,_⟩:=DataW.trod_bool ht h
  exact⟨b,trivial,.one (.bool b)⟩
theorem Ca.string (ht:P.underlying t=some .string):Ca P t (fun s:ByteArray=>[.str s]) (fun s=>s.size≤maxLen):=by
  constructor
  intro H enc w base spare held fuel cs x h
  obtain⟨s,rfl,_,hs⟩:=DataW.trod_string ht h
  exact⟨s,hs,.one (.str s)⟩
theorem Ca.iso {α β:Type} {f:α→List Ac} {Pa:α→Prop} {g:β→List Ac} {Pb:β→Prop} (h:Ca P t f Pa) (φ:α→β) (hf:∀ a,g (φ a)=f a) (hP:∀ a,Pa a→Pb (φ a)):Ca P t g Pb:=by
  constructor
  intro H enc w base spare held fuel cs x hx
  obtain⟨a,h1,h2⟩:=h.op hx
  exact⟨φ a,hP a h1,by rw[hf];exact h2⟩
theorem tO {α:Type} {n:Nat} {Q:Nat→α→Prop} (h:∀ i,i<n→∃ a,Q i a):∃ l:List α,l.length=n∧∀ (i:Nat) a,l[i]? =some a→Q i a:=by
  induction n with
  | zero=>exact ⟨[],rfl,fun i a h=>by simp at h⟩
  | succ n ih=>
    obtain⟨l,h1,h2⟩:=ih fun i hi=>h i (by omega)
    obtain⟨a,ha⟩:=h n (by omega)
    refine⟨l++[a],by simp[h1],fun i b hb=>?_⟩
    by_cases hi:i<l.length
    ·rw[List.getElem?_append_left hi]at hb;exact h2 i b hb
    ·rw[List.getElem?_append_right (by omega)]at hb
     have:i - l.length=0:=by
       cases h3:i - l.length with
       | zero=>rfl
       | succ k=>rw[h3]at hb;simp at hb
     rw[this]at hb
     simp at hb;subst hb
     have:i=n:=by omega
     subst this;exact ha
theorem Ca.slice {α:Type} {f:α→List Ac} {Pa:α→Prop} {e:TypeId} {sz:Nat} (ht:P.underlying t=some (.slice e)) (hc:P.cellsOf e=sz) (cn:1≤sz) (hl:∀ a,(f a).length=sz)
    (hg:∀ a,∀ c∈f a,Ac.g0 c=true) (h:Ca P e f Pa):Ca P t (fun l:List α=>[.sl sz (l.map f)]) (fun l=>l.length≤9223372036854775807∧∀ a∈l,Pa a):=by
  constructor
  intro H enc w base spare held fuel cs x hx
  rcases DataW.trod_slice ht hx with⟨rfl,_⟩ | ⟨a,len,cap,elems,rest,n,_,rfl,_,hb,dm,hm,hlen,sb,_⟩
  ·exact⟨[],⟨by simp,by simp⟩,.one (.sl0 none 0 sz (by simp))⟩
  ·have hmax:len≤9223372036854775807:=by have:=Lx;omega
   have each:∀ i,i<len→∃ y,Pa y∧∃ cs',w.cells? base (a.add (i*sz)) sz=some cs'∧Ig w cs' (f y):=by
     intro i hi
     have:=sb i hi
     rw[hc]at this
     have ah:i<elems.length:=by omega
     rw[Aoq ah,Option.bind_eq_some_iff]at this
     obtain⟨cs',h1,h2⟩:=this
     obtain⟨y,bp,cx⟩:=h.op h2
     exact⟨y,bp,cs',h1,cx⟩
   obtain⟨l,hll,jx⟩:=tO each
   refine⟨l,⟨by omega,fun y hy=>?_⟩,?_⟩
   ·obtain⟨i,hi⟩:=List.getElem?_of_mem hy
    exact(jx i y hi).1
   ·by_cases h0:len=0
    ·have:l=[]:=List.length_eq_zero_iff.1 (by omega)
     subst this;subst h0
     exact .one (.sl0 (some a) cap sz hm)
    ·
     have sd:∀ i y,l[i]? =some y→∃ cs',cs'.length=sz∧Ig w cs' (f y)∧∀ k,k<sz→w.cell? ((a.add (i*sz)).add k)=cs'[k]?:=by
       intro i y hy
       obtain⟨_,cs',h1,h2⟩:=jx i y hy
       obtain⟨_,g1,g2⟩:=World.cells?_some h1
       exact⟨cs',g1,h2,g2⟩
     have ag:0<l.length:=by omega
     obtain⟨_,cs0,g0,_⟩:=jx 0 _ (Aoq ag)
     have sg:a.block<w.heap.size:=by
       have:=World.cells?_block g0 (by omega)
       simpa[Addr.add]using this
     have de:a.spot=none:=by
       obtain⟨cs',g1,_,g3⟩:=sd 0 _ (Aoq ag)
       have:=g3 0 (by omega)
       rw[Aoq (by omega)]at this
       have:=World.cell?_spot this
       simpa[Addr.add]using this
     have kh:∀ i k,(a.add (i*sz)).add k=⟨a.block,a.off+(i*sz+k),none⟩:=by
       intro i k
       obtain⟨b,off,sp⟩:=a
       simp only at de
       subst de
       unfold Addr.add
       split<;>split<;>simp<;>omega
     have au:∀ i y,l[i]? =some y→∀ k,k<sz→∃ v,w.cell? ⟨a.block,a.off+(i*sz+k),none⟩=some v∧∀ c,(f y)[k]? =some c→A9 (Aaz w) w v c:=by
       intro i y hy k hk
       obtain⟨cs',g1,g2,g3⟩:=sd i y hy
       have g4:=g3 k hk
       rw[kh,Aoq (by omega)]at g4
       exact⟨_,g4,fun c mu=>g2.2 k _ c (Aoq (by omega)) mu⟩
     refine .one (.sl a len cap (l.map f) sz (fun j=>(w.cell? ⟨a.block,a.off+j,none⟩).getD undef) de (by simp[hll]) dm hm sg cn (fun x hx=>?_) (fun x hx=>?_) (fun j hj=>?_) fun i k x c hx mu=>?_)
     ·obtain⟨y,_,rfl⟩:=List.mem_map.1 hx;exact hl y
     ·obtain⟨y,_,rfl⟩:=List.mem_map.1 hx;exact hg y
     ·rw[Aow]at hj
      have hi:j / sz<l.length:=Nat.div_lt_of_lt_mul (by rw[Nat.mul_comm];exact hj)
      obtain⟨v,g1,_⟩:=au (j / sz) _ (Aoq hi) (j % sz) (Nat.mod_lt _ (by omega))
      have e:j / sz*sz+j % sz=j:=by rw[Nat.mul_comm];exact Nat.div_add_mod j sz
      rw[e]at g1
      rw[g1];rfl
     ·rw[List.getElem?_map]at hx
      cases hy:l[i]? with
      | none=>simp[hy]at hx
      | some y=>
        simp only[hy,Option.map_some,Aot]at hx
        subst hx
        have hk:k<sz:=by have:=(Aoz.1 mu).1;rw[hl]at this;exact this
        obtain⟨v,g1,g2⟩:=au i y hy k hk
        simp only[g1,Option.getD_some]
        exact g2 c mu
theorem Ig.append {W:World} {cs cs':List Value} {zq as':List Ac} (h:Ig W cs zq) (h':Ig W cs' as'):Ig W (cs++cs') (zq++as'):=by
  refine⟨by simp[h.1,h'.1],fun i v a h1 h2=>?_⟩
  by_cases hi:i<cs.length
  ·rw[List.getElem?_append_left hi]at h1
   rw[List.getElem?_append_left (by have:=h.1;omega)]at h2
   exact h.2 i v a h1 h2
  ·rw[List.getElem?_append_right (by omega)]at h1
   rw[List.getElem?_append_right (by have:=h.1;omega),← h.1]at h2
   exact h'.2 _ v a h1 h2
structure Xl (P:Program) (tot off:Nat) (fl:List Field) {α:Type} (f:α→List Ac) (Pa:α→Prop):Prop where
  op:∀ {H:Type} {enc:TypeId×Value→H} {w:World} {base:Nat} {spare:Nat→Bool} {held:Bool} {fuel:Nat} {cs:List Value},cs.length=tot→
   (∀ (i:Nat) (fd:Field),fl[i]? =some fd→∃ x,DataW.trod enc P w base spare held fuel fd.type ((cs.drop fd.offset).take (P.cellsOf fd.type))=some x)→∃ a,Pa a∧Ig w (cs.drop off) (f a)
theorem Xl.nil {tot:Nat}:Xl P tot tot [] (fun _:Unit=>[]) (fun _=>True):=by
  constructor
  intro H enc w base spare held fuel cs hl _
  exact⟨(),trivial,by simp[hl],fun i v a h1 h2=>by simp at h2⟩
theorem Xl.cons {tot off sz:Nat} {fd:Field} {fl:List Field} {α β:Type} {f:α→List Ac} {Pa:α→Prop} {g:β→List Ac} {Pb:β→Prop} (ho:fd.offset=off) (hs:P.cellsOf fd.type=sz)
    (h:Ca P fd.type f Pa) (h':Xl P tot (off+sz) fl g Pb):Xl P tot off (fd::fl) (fun x:α×β=>f x.1++g x.2) (fun x=>Pa x.1∧Pb x.2):=by
  constructor
  intro H enc w base spare held fuel cs hl hx
  obtain⟨x,ao⟩:=hx 0 fd rfl
  obtain⟨a,yg,ui⟩:=h.op ao
  obtain⟨b,td,oc⟩:=h'.op hl fun i fd' hi=>hx (i+1) fd' (by simpa using hi)
  refine⟨(a,b),⟨yg,td⟩,?_⟩
  rw[ho,hs]at ui
  have:=ui.append oc
  rwa [← List.drop_drop,List.take_append_drop]at this
theorem Ca.struct {tot:Nat} {fs:Array Field} {α:Type} {f:α→List Ac} {Pa:α→Prop} (ht:P.underlying t=some (.struct fs)) (hc:P.cellsOf t=tot) (h:Xl P tot 0 fs.toList f Pa):Ca P t f Pa:=by
  constructor
  intro H enc w base spare held fuel cs x hx
  obtain⟨xs,n,rfl,_,hl,sw,hf⟩:=DataW.trod_struct ht hx
  have:=h.op (cs:=cs) (by rw[hl,hc]) fun i fd hi=>by
    have dt:fs[i]? =some fd:=by simpa using hi
    have:=hf i fd dt
    have ah:i<xs.length:=by rw[sw];exact(Array.getElem?_eq_some_iff.1 dt).1
    rw[Aoq ah]at this
    exact⟨_,this⟩
  simpa using this
structure Lg (P:Program) (t:TypeId) {α:Type} (g:α→Ac) (Pa:α→Prop):Prop where
  op:∀ {H:Type} {enc:TypeId×Value→H} {w:World} {base b0:Nat} {r:Reach} {spare:Nat→Bool} {held:Bool} {v:Value} {d:DataW H} {ps:List MemPlace},
   Value.okWide P w r b0 t v→DataW.Trod enc P w base spare held t v d ps→∃ a,Pa a∧A9 (Aaz w) w v (g a)
theorem Ig.head {W:World} {v:Value} {a:Ac} (h:Ig W [v] [a]):A9 (Aaz W) W v a:=h.2 0 v a rfl rfl
theorem Lg.struct {fs:Array Field} {α:Type} {f:α→List Ac} {Pa:α→Prop} (ht:P.underlying t=some (.struct fs)) (h:Ca P t f Pa):Lg P t (fun a=>.agg (f a)) Pa:=by
  constructor
  intro H enc w base b0 r spare held v d ps gw ⟨fuel,hf⟩
  obtain⟨cs,rfl,_⟩:=Go.WideShapes.okWide_struct ht gw
  obtain⟨a,h1,h2⟩:=h.op hf
  refine⟨a,h1,.agg cs (f a) (by simpa[Value.cells]using h2.1) fun i u c hu hc=>h2.2 i u c (by simpa[Value.cells]using hu) hc⟩
theorem Lg.slice {e:TypeId} {α:Type} {g:α→Ac} {Pa:α→Prop} (ht:P.underlying t=some (.slice e)) (h:Ca P t (fun a=>[g a]) Pa):Lg P t g Pa:=by
  constructor
  intro H enc w base b0 r spare held v d ps gw ⟨fuel,hf⟩
  obtain⟨a,len,cap,rfl⟩:=Go.WideShapes.okWide_slice ht gw
  obtain⟨a,h1,h2⟩:=h.op hf
  exact⟨a,h1,Ig.head (by simpa[Value.cells]using h2)⟩
theorem Lg.int {k:IntKind} (ht:P.underlying t=some (.int k)):Lg P t (fun n:Int=>.int k n) (fun n=>(Lit.int k n).wf=true):=by
  constructor
  intro H enc w base b0 r spare held v d ps gw hd
  obtain⟨n,rfl,_,_,hw⟩:=Go.ChangeShapes.open_int ht gw hd
  exact⟨n,hw,.int k n⟩
theorem Lg.bool (ht:P.underlying t=some .bool):Lg P t (fun b:Bool=>.bool b) (fun _=>True):=by
  constructor
  intro H enc w base b0 r spare held v d ps gw hd
  obtain⟨n,rfl,_,_⟩:=open_bool ht gw hd
  exact⟨n,trivial,.bool n⟩
theorem Lg.iso {α β:Type} {f:α→Ac} {Pa:α→Prop} {g:β→Ac} {Pb:β→Prop} (h:Lg P t f Pa) (φ:α→β) (hf:∀ a,g (φ a)=f a) (hP:∀ a,Pa a→Pb (φ a)):Lg P t g Pb:=by
  constructor
  intro H enc w base b0 r spare held v d ps gw hd
  obtain⟨a,h1,h2⟩:=h.op gw hd
  exact⟨φ a,hP a h1,by rw[hf];exact h2⟩
structure Xm (P:Program) (ts:List TypeId) {α:Type} (g:α→List Ac) (Pa:α→Prop):Prop where
  op:∀ {H:Type} {enc:TypeId×Value→H} {w:World} {base b0:Nat} {r:Reach} {spare:Nat→Bool} {held:Bool} {vs:List Value} {ds:List (DataW H)} {ps:List MemPlace},
   (∀ (j:Nat) t v,ts[j]? =some t→vs[j]? =some v→Value.okWide P w r b0 t v)→DataW.TrodAll enc P w base spare held ts vs ds ps→∃ a,Pa a∧R4 (Aaz w) w vs (g a)
theorem Xm.nil:Xm P [] (fun _:Unit=>[]) (fun _=>True):=by
  constructor
  intro H enc w base b0 r spare held vs ds ps hv hd
  obtain⟨rfl,_,_⟩:=Go.ChangeShapes.trodAll_nil hd
  exact⟨(),trivial,rfl,fun i v a h=>by simp at h⟩
theorem Xm.cons {ts:List TypeId} {α β:Type} {f:α→Ac} {Pa:α→Prop} {g:β→List Ac} {Pb:β→Prop} (h:Lg P t f Pa) (h':Xm P ts g Pb):Xm P (t::ts) (fun x:α×β=>f x.1::g x.2) (fun x=>Pa x.1∧Pb x.2):=by
  constructor
  intro H enc w base b0 r spare held vs ds ps hv hd
  obtain⟨v,vs',d,ds',p,q,rfl,rfl,rfl,h1,h2⟩:=Go.ChangeShapes.trodAll_cons hd
  obtain⟨a,yg,ui⟩:=h.op (hv 0 t v rfl rfl) h1
  obtain⟨b,td,oc,hb3⟩:=h'.op (fun j t v ht lg=>hv (j+1) t v (by simpa using ht) (by simpa using lg)) h2
  refine⟨(a,b),⟨yg,td⟩,by simp[oc],fun i v' a' g1 g2=>?_⟩
  match i,g1,g2 with
  | 0,g1,g2=>simp at g1 g2;subst g1 g2;exact ui
  | i+1,g1,g2=>exact hb3 i v' a' (by simpa using g1) (by simpa using g2)
theorem Xm.iso {ts:List TypeId} {α β:Type} {f:α→List Ac} {Pa:α→Prop} {g:β→List Ac} {Pb:β→Prop} (h:Xm P ts f Pa) (φ:α→β) (hf:∀ a,g (φ a)=f a) (hP:∀ a,Pa a→Pb (φ a)):Xm P ts g Pb:=by
  constructor
  intro H enc w base b0 r spare held vs ds ps gw hd
  obtain⟨a,h1,h2⟩:=h.op gw hd
  exact⟨φ a,hP a h1,by rw[hf];exact h2⟩
theorem oH {f:FuncId} {ts:List TypeId} {α:Type} {g:α→List Ac} {Pa:α→Prop} (spec:∀ a,Pa a→Ad P f (g a) (·= .bool true)) (ho:Xm P ts g Pa)
    {H:Type} {enc:TypeId×Value→H} {W:World} {base b0:Nat} {r:Reach} {spare:Nat→Bool} {held:Bool} {args:Array Value} {ds:List (DataW H)} {ps:List MemPlace}
    (hv:∀ (j:Nat) t v,ts[j]? =some t→args.toList[j]? =some v→Value.okWide P W r b0 t v) (hd:DataW.TrodAll enc P W base spare held ts args.toList ds ps) :
    Calls P f args W fun e W'=>e= .returned (.bool true)∧Below W.heap.size W W':=by
  obtain⟨a,h1,h2⟩:=ho.op hv hd
  refine(spec a h1 (fun b=>b<W.heap.size) W args.toList (fun b h=>h) h2).mono fun e W' ⟨v,r,he,hr,_,hb,bc⟩=>?_
  subst hr he
  cases bc
  exact⟨rfl,hb⟩
theorem jB {H:Type} {enc:TypeId×Value→H} {w:World} {base:Nat} {spare:Nat→Bool} {held:Bool}:∀ {ts:List TypeId} {vs:List Value} {ds:List (DataW H)} {ps:List MemPlace},
    DataW.TrodAll enc P w base spare held ts vs ds ps→vs.length=ts.length∧ds.length=ts.length
  | [],vs,ds,ps,h=>by obtain⟨rfl,rfl,_⟩:=Go.ChangeShapes.trodAll_nil h;exact⟨rfl,rfl⟩
  | t::ts,vs,ds,ps,h=>by
    obtain⟨v,vs',d,ds',p,q,rfl,rfl,rfl,_,h2⟩:=Go.ChangeShapes.trodAll_cons h
    have:=jB h2
    simp[this.1,this.2]
theorem bI {H:Type} {enc:TypeId×Value→H} (hl:laidOutB P=true) {W W':World} (hb:Below W.heap.size W W'):∀ {ts:List TypeId} {vs:List Value} {ds:List (DataW H)} {ps:List MemPlace},
    (ts.all fun t=>P.readableRec t&&decide (t<P.types.size))=true→DataW.TrodAll enc P W 0 (fun _=>true) true ts vs ds ps→DataW.TrodAll enc P W' 0 (fun b=>decide (b<W.heap.size)) true ts vs ds ps
  | [],vs,ds,ps,_,h=>by obtain⟨rfl,rfl,rfl⟩:=Go.ChangeShapes.trodAll_nil h;exact rfl
  | t::ts,vs,ds,ps,ht,h=>by
    obtain⟨v,vs',d,ds',p,q,rfl,rfl,rfl,h1,h2⟩:=Go.ChangeShapes.trodAll_cons h
    simp only[List.all_cons,Bool.and_eq_true,decide_eq_true_eq]at ht
    refine trodAll_cons_mk (Below.trod hl ht.1.1 ht.1.2 h1 hb ?_) (bI hl hb ht.2 h2)
    obtain⟨m,hm⟩:=h1
    exact DataW.trod_lt m _ _ _ hm
theorem zS {C:Checked} {os:Os} {f:FuncId} {fn:Func} {s:ChangeSpec} {conds:List PathCond} {H:Type} {enc:TypeId×Value→H} {tb:TypeId}
    (own:ownKnob C.prog.godebug=none) (started:os.Started) (noInit:C.prog.inits.idxOf? f=none) (hfn:C.prog.funcs[f]? =some fn)
    (witness:∃ (w:World) (tape:Tape) (i:Input),w.os=os∧(w.forCall tape i).Shaped C.prog∧i.vars=[]∧Input.okWide C.prog (w.forCall tape i) .any w.heap.size f i∧
      s.pre6 enc C.prog fn conds false (w.forCall tape i).memory i.args∧({}:Assume).holds C.prog (lone (Frame.enter C.prog f i.args .normal) [] (w.forCall tape i)))
    (va:s.vars=[]) (ng:fn.resultTypes=#[tb]) (htb:C.prog.underlying tb=some .bool) (laid:laidOutB C.prog=true)
    (hread:(fn.params.toList.all fun t=>C.prog.readableRec t&&decide (t<C.prog.types.size))=true)
    (hs:∀ ds:List (DataW H),ds.length=fn.params.toList.length→(s.fn H ds).results=[.lit (.bool true)]∧(s.fn H ds).args=ds∧(s.fn H ds).vars=[])
    (calls:∀ (W:World) (b0:Nat) (args:Array Value) (ds:List (DataW H)) (ps:List MemPlace),(∀ (j:Nat) t v,fn.params.toList[j]? =some t→args.toList[j]? =some v→Value.okWide C.prog W .any b0 t v)→
      DataW.TrodAll enc C.prog W 0 (fun _=>true) true fn.params.toList args.toList ds ps→Calls C.prog f args W fun e W'=>e= .returned (.bool true)∧Below W.heap.size W W') :
    ReturnsInHanded {} C os f .any (s.pre6 enc C.prog fn conds false) (s.post enc C.prog fn false true false false):=by
  refine returnsInHanded_of_change own started noInit hfn witness ?_
  intro W base args ds gs before gw hW _ _
  have hW':=hW
  obtain⟨p,q,hA,hV,_⟩:=hW
  rw[va]at hV
  obtain⟨rfl,rfl⟩:=Go.ChangeShapes.trodVars_none hV
  have hlen:=jB hA
  obtain⟨h1,h2,h3⟩:=hs ds hlen.2
  refine(calls W base args ds p (fun j t v a b=>gw j t v (by simpa using a) (by simpa using b)) hA).mono fun e W' ⟨he,bel⟩=>?_
  subst he
  refine⟨_,rfl,ds,[],before,[],p,[],hW',?_,?_,?_,bel.frame _,fun h=>by cases h⟩
  ·rw[List.append_nil,h1,ng]
   exact Go.ChangeShapes.trodAll_mk1 (shut_bool htb true)
  ·rw[List.append_nil,h2]
   exact bI laid bel hread hA
  ·rw[List.append_nil,h3,va]
   rfl
end
inductive Out (σ ρ:Type) where
  | next (s:σ)
  | ret (r:ρ)
def Out.cont {σ ρ:Type} (o:Out σ ρ) (g:σ→Option (Out σ ρ)):Option (Out σ ρ):=match o with | .next s=>g s | .ret r=>some (.ret r)
def Out.on {σ ρ:Type} (o:Out σ ρ) (f:σ→Option ρ):Option ρ:=match o with | .next s=>f s | .ret r=>some r
def Al {α σ ρ:Type} (step:Nat→α→σ→Option (Out σ ρ)):Nat→List α→σ→Option (Out σ ρ)
  | _,[],s=>some (.next s)
  | k,x::l,s=>(step k x s).bind fun o=>o.cont fun s'=>Al step (k+1) l s'
def Dx {σ ρ:Type} (step:σ→Option (Out σ ρ)):Nat→σ→Option (Out σ ρ)
  | 0,_=>none
  | n+1,s=>(step s).bind fun o=>o.cont fun s'=>Dx step n s'
def fuel:Nat:=1099511627776
def J8 {σ ρ:Type} (step:Nat→Unit→σ→Option (Out σ ρ)) (n:Nat) (s:σ):Option (Out σ ρ):=if n≤9223372036854775807 then Al step 0 (List.replicate n ()) s else none
def Da {α:Type} (l:List α) (n:Int):Option α:=if 0≤n then l[n.toNat]? else none
def mpE {β:Type} (f:β→Ac) (m:List (Int×β)):List (Int×Ac):=m.map fun p=>(p.1,f p.2)
def mget {β:Type} (d:β):List (Int×β)→Int→β
  | [],_=>d
  | (k,v)::r,n=>if k=n then v else mget d r n
def mhas {β:Type}:List (Int×β)→Int→Bool
  | [],_=>false
  | (k,_)::r,n=>if k=n then true else mhas r n
def mset {β:Type}:List (Int×β)→Int→β→List (Int×β)
  | [],n,v=>[(n,v)]
  | (k,u)::r,n,v=>if k=n then(k,v)::r else(k,u)::mset r n v
theorem Ae {α β:Type} {o:Option α} {f:α→Option β} {r:β} (h:o.bind f=some r):∃ x,o=some x∧f x=some r:=by
  cases o with
  | none=>cases h
  | some x=>exact ⟨x,rfl,h⟩
theorem Aer {α:Type} {c:Bool} {a b:Option α} {r:α} (h:(bif c then a else b)=some r) (hc:c=true):a=some r:=by subst hc;exact h
theorem Aes {α:Type} {c:Bool} {a b:Option α} {r:α} (h:(bif c then a else b)=some r) (hc:c=false):b=some r:=by subst hc;exact h
theorem Ao {σ ρ:Type} {s:σ} {f:σ→Option ρ} {r:ρ} (h:(Out.next s).on f=some r):f s=some r:=h
theorem Pg {σ ρ:Type} {q:ρ} {f:σ→Option ρ} {r:ρ} (h:(Out.ret q).on f=some r):some q=some r:=h
theorem Cj {σ ρ:Type} {s:σ} {g:σ→Option (Out σ ρ)} {r:Out σ ρ} (h:(Out.next s).cont g=some r):g s=some r:=h
theorem G7 {σ ρ:Type} {q:ρ} {g:σ→Option (Out σ ρ)} {r:Out σ ρ} (h:(Out.ret q).cont g=some r):r= .ret q:=(Aoy h).symm
theorem Aa {α:Type} {a b:α} (h:some a=some b):b=a:=(Aoy h).symm
theorem J5 {α σ ρ:Type} {step:Nat→α→σ→Option (Out σ ρ)} {k:Nat} {l:List α} {s:σ} {o:Out σ ρ} (h:Al step k (l.drop k) s=some o) (hk:¬ k<l.length):o= .next s:=by
  rw[List.drop_of_length_le (by omega)]at h;exact(Aoy h).symm
theorem G6 {α σ ρ:Type} {step:Nat→α→σ→Option (Out σ ρ)} {k:Nat} {l:List α} {s:σ} {o:Out σ ρ} (h:Al step k (l.drop k) s=some o) (hk:k<l.length) :
    ∃ x b,l[k]? =some x∧step k x s=some b∧b.cont (fun s'=>Al step (k+1) (l.drop (k+1)) s')=some o:=by
  rw[List.drop_eq_getElem_cons hk]at h
  obtain⟨b,h1,h2⟩:=Ae h
  exact⟨l[k],b,Aoq hk,h1,h2⟩
theorem Fp {σ ρ:Type} {step:σ→Option (Out σ ρ)} {n:Nat} {s:σ} {o:Out σ ρ} (h:Dx step n s=some o) :
    ∃ m b,n=m+1∧step s=some b∧b.cont (fun s'=>Dx step m s')=some o:=by
  cases n with
  | zero=>cases h
  | succ m=>
    obtain⟨b,h1,h2⟩:=Ae h
    exact⟨m,b,rfl,h1,h2⟩
theorem Ng {σ ρ:Type} {step:Nat→Unit→σ→Option (Out σ ρ)} {n:Nat} {s:σ} {o:Out σ ρ} (h:J8 step n s=some o):n≤9223372036854775807∧Al step 0 (List.replicate n ()) s=some o:=by
  unfold J8 at h
  split at h
  ·exact⟨by assumption,h⟩
  ·cases h
theorem lG {α:Type} {l:List α} {n:Int} {x:α} (h:Da l n=some x):0≤n∧n<l.length∧l[n.toNat]? =some x:=by
  unfold Da at h
  split at h
  ·rename_i h0
   have:=(Aoz.1 h).1
   exact⟨h0,by omega,h⟩
  ·cases h
theorem Cm {α:Type} {l:List α} {k:Nat} {x:α} (h:l[k]? =some x):Da l (k:Int)=some x:=by
  simp[Da,h]
theorem A1.of {α:Type} {f:α→List Ac} {l:List α} {n:Int} {x:α} {sz:Nat} {K:List Ac→Prop} (hx:Da l n=some x) (h:K (f x)):A1 sz (l.map f) n K:=by
  obtain⟨h1,h2,h3⟩:=lG hx
  refine⟨h1,by simpa using h2,fun y hy _=>?_⟩
  simp only[List.getElem?_map,h3,Option.map_some,Aot]at hy
  subst hy;exact h
theorem Dg.of {α:Type} {f:α→List Ac} {l:List α} {n:Int} {x:α} {sz:Nat} {K:List Ac→Prop} (hx:Da l n=some x) (h:K (f x)):Dg sz (l.map f) n.toNat K:=by
  obtain⟨h1,h2,h3⟩:=lG hx
  intro y hy _
  simp only[List.getElem?_map,h3,Option.map_some,Aot]at hy
  subst hy;exact h
theorem Dg.ofNat {α:Type} {f:α→List Ac} {l:List α} {n:Nat} {x:α} {sz:Nat} {K:List Ac→Prop} (hx:Da l (n:Int)=some x) (h:K (f x)):Dg sz (l.map f) n K:=Dg.of hx h
theorem Ge {α:Type} {l:List α} {n:Int} {m:Nat} {x:α} {R:Prop} (hx:Da l n=some x) (hm:m=l.length) (h:R):0≤n∧n<(m:Int)∧R:=by
  obtain⟨h1,h2,_⟩:=lG hx
  exact⟨h1,by omega,h⟩
theorem qE {β:Type} (f:β→Ac) (d:β):∀ (m:List (Int×β)) (n:Int),alook (mpE f m) n=if mhas m n then some (f (mget d m n))else none
  | [],_=>rfl
  | (k,v)::r,n=>by
    simp only[mpE,List.map_cons,alook,mhas,mget]
    split
    ·rfl
    ·exact qE f d r n
theorem tL {β:Type} {d:β}:∀ {m:List (Int×β)} {n:Int},mhas m n=false→mget d m n=d
  | [],_,_=>rfl
  | (k,v)::r,n,h=>by
    simp only[mhas,mget]at h ⊢
    split at h
    ·cases h
    ·rename_i hk;rw[if_neg hk];exact tL h
theorem Ev.of {β:Type} {f:β→Ac} {m:List (Int×β)} {n:Int} {d:β} {z:Ac} {K:Ac→Bool→Prop} (hd:f d=z) (h:K (f (mget d m n)) (mhas m n)):Ev (mpE f m) n z K:=by
  unfold Ev
  rw[qE f d]
  cases hb:mhas m n with
  | true=>rw[hb]at h;simp;exact h
  | false=>rw[hb,tL hb,hd]at h;simp;exact h
theorem u5 {β:Type} (f:β→Ac):∀ (m:List (Int×β)) (n:Int) (v:β),aset (mpE f m) n (f v)=mpE f (mset m n v)
  | [],_,_=>rfl
  | (k,u)::r,n,v=>by
    have ih:=u5 f r n v
    simp only[mpE,List.map_cons,aset,mset]at ih ⊢
    split<;>simp[ih]
theorem qW {β:Type} (f:β→Ac) (m:List (Int×β)):(mpE f m).length=m.length:=by simp[mpE]
theorem Adu {α β:Type} (f:α→β) (l m:List α):l.map f++m.map f=(l++m).map f:=(List.map_append).symm
theorem yU {α β:Type} (f:α→β) (l:List α) (n:Nat):(l.map f).take n=(l.take n).map f:=(List.map_take).symm
theorem Aah {α β:Type} (f:α→β) (l:List α) (n:Nat):(l.map f).drop n=(l.drop n).map f:=(List.map_drop).symm
section
variable {P:Program} {md:Option Nat} {n:Nat} {Q:Exit→Fr→List Ak→Prop} {outer:List Fr} {fr:Fr} {H:List Ak}
theorem AWP.Ek {ι:Type} {c d:Code} (F:ι→Fr) (HH:ι→List Ak) (J:ι→Prop) (hb:∀ x,Mc (HH x).length (F x)=true∧nG (HH x).length (HH x)=true∧outer.all (Mc (HH x).length)=true)
    (hc:AWP md P n c (qthen (fun fr' H'=>∃ x,J x∧dM fr' (F x)∧Wz H' (HH x)) Q) outer fr H) (hd:∀ x,J x→AWP md P n d Q outer (F x) (HH x)):AWP md P n (.seq c d) Q outer fr H:=by
  refine AWP.seq (AWP.mono ?_ hc)
  intro e fr' H' h
  cases e with
  | normal=>
    obtain⟨x,h1,h2,h3⟩:=h
    exact AWP.sub (Sub.weak h3 h2 (.inr (hb x))) (hd x h1)
  | _=>exact h
end
def Sf (v v':Ac):Prop:=match v' with | .sl _ xs=>v=v'∨(v= .nils∧xs=[]) | _=>v=v'
def Se:List Ac→List Ac→Prop
  | [],[]=>True
  | c::r,c'::r'=>Sf c c'∧Se r r'
  | _,_=>False
def Wq (v v':Ac):Prop:=match v' with | .agg ds=>(match v with | .agg cs=>Se cs ds | _=>False) | .sl _ xs=>v=v'∨(v= .nils∧xs=[]) | _=>v=v'
def Wo:List Ac→List Ac→Prop
  | [],[]=>True
  | c::r,c'::r'=>Wq c c'∧Wo r r'
  | _,_=>False
def Wp (v v':Ac):Prop:=match v' with | .tuple ds=>(match v with | .tuple cs=>Wo cs ds | _=>False) | .agg ds=>(match v with | .agg cs=>Se cs ds | _=>False) | .sl _ xs=>v=v'∨(v= .nils∧xs=[]) | _=>v=v'
theorem mE {C:Ctx} {w:World} {u:Value} {a a':Ac} (h:Sf a a') (hr:A9 C w u a):A9 C w u a'∧(a.g0=true→a'.g0=true):=by
  unfold Sf at h
  split at h
  ·rcases h with rfl | ⟨rfl,rfl⟩
   ·exact⟨hr,id⟩
   ·cases hr;exact⟨.sl0 _ _ _ (Nat.zero_le _),fun _=>rfl⟩
  ·subst h;exact⟨hr,id⟩
theorem eH:∀ {cs cs':List Ac},Se cs cs'→cs.length=cs'.length∧∀ (i:Nat) c',cs'[i]? =some c'→∃ c,cs[i]? =some c∧Sf c c'
  | [],[],_=>⟨rfl,by simp⟩
  | c::r,c'::r',h=>by
    have ih:=eH h.2
    refine⟨by simp[ih.1],fun i d hi=>?_⟩
    match i,hi with
    | 0,hi=>simp at hi;subst hi;exact⟨c,rfl,h.1⟩
    | i+1,hi=>exact ih.2 i d (by simpa using hi)
  | [],_::_,h=>h.elim
  | _::_,[],h=>h.elim
theorem mC:∀ {cs cs':List Ac},Wo cs cs'→cs.length=cs'.length∧∀ (i:Nat) c',cs'[i]? =some c'→∃ c,cs[i]? =some c∧Wq c c'
  | [],[],_=>⟨rfl,by simp⟩
  | c::r,c'::r',h=>by
    have ih:=mC h.2
    refine⟨by simp[ih.1],fun i d hi=>?_⟩
    match i,hi with
    | 0,hi=>simp at hi;subst hi;exact⟨c,rfl,h.1⟩
    | i+1,hi=>exact ih.2 i d (by simpa using hi)
  | [],_::_,h=>h.elim
  | _::_,[],h=>h.elim
theorem tH {C:Ctx} {w:World} {u:Value} {cs ds:List Ac} (h:Se cs ds) (hr:A9 C w u (.agg cs)):A9 C w u (.agg ds)∧((Ac.agg cs).g1=true→(Ac.agg ds).g1=true):=by
  have hg:=eH h
  cases hr with
  | agg arr _ hl hc=>
    refine⟨.agg arr ds (by rw[hl,hg.1]) fun i u c h1 h2=>?_,fun hk=>?_⟩
    ·obtain⟨c0,h3,h4⟩:=hg.2 i c h2
     exact(mE h4 (hc i u c0 h1 h3)).1
    ·simp only[Ac.g1,List.all_eq_true]at hk ⊢
     intro c hm
     obtain⟨i,hi⟩:=List.getElem?_of_mem hm
     obtain⟨c0,h3,h4⟩:=hg.2 i c hi
     have ah:i<arr.size:=by rw[hl];exact(Aoz.1 h3).1
     exact(mE h4 (hc i _ c0 (Array.getElem?_eq_getElem ah) h3)).2 (hk c0 (Aor h3))
theorem mD {C:Ctx} {w:World} {u:Value} {a a':Ac} (h:Wq a a') (hr:A9 C w u a):A9 C w u a'∧(a.g1=true→a'.g1=true):=by
  unfold Wq at h
  split at h
  ·split at h
   ·exact tH h hr
   ·exact h.elim
  ·rcases h with rfl | ⟨rfl,rfl⟩
   ·exact⟨hr,id⟩
   ·cases hr;exact⟨.sl0 _ _ _ (Nat.zero_le _),fun _=>rfl⟩
  ·subst h;exact⟨hr,id⟩
theorem tI {C:Ctx} {w:World} {u:Value} {a a':Ac} (h:Wp a a') (hr:A9 C w u a):A9 C w u a'∧(a.g2=true→a'.g2=true):=by
  unfold Wp at h
  split at h
  ·split at h
   ·rename_i v ds _ cs
    have hg:=mC h
    cases hr with
    | tuple arr _ hl hc=>
      refine⟨.tuple arr _ (by rw[hl,hg.1]) fun i u c h1 h2=>?_,fun hk=>?_⟩
      ·obtain⟨c0,h3,h4⟩:=hg.2 i c h2
       exact(mD h4 (hc i u c0 h1 h3)).1
      ·simp only[Ac.g2,List.all_eq_true]at hk ⊢
       intro c hm
       obtain⟨i,hi⟩:=List.getElem?_of_mem hm
       obtain⟨c0,h3,h4⟩:=hg.2 i c hi
       have ah:i<arr.size:=by rw[hl];exact(Aoz.1 h3).1
       exact(mD h4 (hc i _ c0 (Array.getElem?_eq_getElem ah) h3)).2 (hk c0 (Aor h3))
   ·exact h.elim
  ·split at h
   ·exact tH h hr
   ·exact h.elim
  ·rcases h with rfl | ⟨rfl,rfl⟩
   ·exact⟨hr,id⟩
   ·cases hr;exact⟨.sl0 _ _ _ (Nat.zero_le _),fun _=>rfl⟩
  ·subst h;exact⟨hr,id⟩
theorem Ad.nle {P:Program} {f:FuncId} {args:List Ac} {r':Ac} (h:Ad P f args (fun r=>Wp r r')):Ad P f args (·=r'):=by
  intro A w vs hA hv
  refine(h A w vs hA hv).mono fun e w' ⟨v,r,h1,h2,h3,h4,h5⟩=>?_
  have:=tI h2 h5
  exact⟨v,r',h1,rfl,this.2 h3,h4,this.1⟩
theorem Ad.Ajx {P:Program} {f:FuncId} {args args':List Ac} {R:Ac→Prop} (hn:Wo args args') (h:Ad P f args' R):Ad P f args R:=by
  intro A w vs hA hv
  refine h A w vs hA ?_
  have hg:=mC hn
  refine⟨by rw[hv.1,hg.1],fun i v a h1 h2=>?_⟩
  obtain⟨c,h3,h4⟩:=hg.2 i a h2
  exact(mD h4 (hv.2 i v c h1 h3)).1
theorem Ab5 (l:List Int) (a:Int):l.map An++[[.int .i64 a]]=(l++[a]).map An:=by simp[An]
theorem Ab4 (l:List Int) (i:Nat) (a:Int):(l.map An).set i [.int .i64 a]=(l.set i a).map An:=by simp[An]
theorem Abk (n:Nat) (a:Int):List.replicate n [Ac.int .i64 a]=(List.replicate n a).map An:=by simp[An]
def jT (b:Bool):Ac:=.bool b
theorem Aal (m:List (Int×Bool)) (n:Int) (v:Bool):aset (mpE jT m) n (.bool v)=mpE jT (mset m n v):=u5 jT m n v
theorem Et {β:Type} (f:β→Ac):mpE f []=[]:=rfl
def chk {α:Type} (n:Nat) (o:Option α):Option α:=if n≤549755813888 then o else none
theorem Bc {α:Type} {n:Nat} {o:Option α} {r:α} (h:chk n o=some r):n≤549755813888∧o=some r:=by
  unfold chk at h
  split at h
  ·exact⟨by assumption,h⟩
  ·cases h
def Aec {α:Type} (n:Int) (o:Option α):Option α:=if 0≤n∧n≤549755813888 then o else none
theorem Aeb {α:Type} {n:Int} {o:Option α} {r:α} (h:Aec n o=some r):0≤n∧n≤549755813888∧o=some r:=by
  unfold Aec at h
  split at h
  ·rename_i hn;exact⟨hn.1,hn.2,h⟩
  ·cases h
def nz {α:Type} (n:Int) (o:Option α):Option α:=if n=0 then none else o
theorem pG {α:Type} {n:Int} {o:Option α} {r:α} (h:nz n o=some r):¬ n=0∧o=some r:=by
  unfold nz at h
  split at h
  ·cases h
  ·exact⟨by assumption,h⟩
theorem Rx {α:Type} {l:List α} {n:Int} {x y:α} (h:Da l n=some x):Da (l.set n.toNat y) n=some y:=by
  obtain⟨h1,h2,h3⟩:=lG h
  unfold Da
  rw[if_pos h1,List.getElem?_set_self (by omega)]
open Classical in
def okB {α:Type} (c:Bool) (o:Option α):Option α:=bif c then o else none
theorem Fv {α:Type} {p:Prop} [Decidable p] {o:Option α} {r:α} (h:okB (decide p) o=some r):p∧o=some r:=by
  unfold okB at h
  by_cases hp:p
  ·rw[Aoo hp]at h;exact⟨hp,h⟩
  ·rw[Aop hp]at h;cases h
theorem vS {α:Type} (l:List α) (a:α):(l++[a]).take (l.length+1)=l++[a]:=List.take_of_length_le (by simp)
theorem qM {α:Type} (l:List α) (i:Nat) (a:α):(l.set i a).take l.length=l.set i a:=List.take_of_length_le (by simp)
def jP (r v sz:Nat) (xs:List (List Ac)) (a:Ac):Ac:=
  match a with
  | .own r' v' lo len=>if r'=r then(if v'=v then .sl sz ((xs.drop lo).take len)else a)else a
  | _=>a
def bP (r v sz:Nat) (xs:List (List Ac)):List Ac→List Ac
  | []=>[]
  | a::l=>jP r v sz xs a::bP r v sz xs l
def U5 (r v sz:Nat) (xs:List (List Ac)) (a:Ac):Ac:=
  match a with
  | .agg cs=>.agg (bP r v sz xs cs)
  | a=>jP r v sz xs a
def eP (r v sz:Nat) (xs:List (List Ac)):List Ac→List Ac
  | []=>[]
  | a::l=>U5 r v sz xs a::eP r v sz xs l
def cX (r v sz:Nat) (xs:List (List Ac)):Fr→Fr
  | []=>[]
  | (k,a)::fr=>(k,U5 r v sz xs a)::cX r v sz xs fr
theorem tY {W0:World} {C:Ctx} {w:World} (I:Inv W0 C w) {r v sz:Nat} {xs:List (List Ac)} (hr:C.H[r]? =some (.row v sz xs)) {u:Value} {lo len:Nat} (h:A9 C w u (.own r v lo len)) :
    A9 (C.freeze r) w u (.sl sz ((xs.drop lo).take len)):=by
  cases h with
  | own ad _ cap _ _ _ ah dm cq hh=>
    obtain⟨_,hh⟩:=hh _ _ _ hr
    obtain⟨hle,hh⟩:=hh rfl
    have hlen:((xs.drop lo).take len).length=len:=by simp;omega
    obtain⟨cg,cn,hg,ho⟩:=I.objs r _ hr
    by_cases h0:len=0
    ·subst h0
     simp only[List.take_zero]
     exact .sl0 _ _ _ cq
    ·rcases hh with hh | ⟨l,hl,rfl,di⟩
     ·omega
     rcases ho with⟨e1,_⟩ | ⟨l',arr,T',e1,e2,e3,e4,e5⟩
     ·subst e1;simp at hle;omega
     rw[hl,Aot]at e1
     subst e1
     have hmul:(lo+len)*sz≤xs.length*sz:=Nat.mul_le_mul_right _ hle
     have kh:(lo+len)*sz=lo*sz+len*sz:=Nat.add_mul _ _ _
     have key:=I.freeze r
     refine .sl _ _ _ _ _ (fun j=>arr.getD (l.base+lo*sz+j) undef) rfl hlen.symm dm cq (.inr ⟨l,hl,rfl⟩) cg
       (fun x hx=>cn x (List.mem_of_mem_drop (List.mem_of_mem_take hx))) (fun x hx=>hg x (List.mem_of_mem_drop (List.mem_of_mem_take hx))) (fun j hj=>?_) fun i k x c hx hc=>?_
     ·rw[hlen]at hj
      simp only[World.cell?,e2]
      have:l.base+lo*sz+j<arr.size:=by omega
      simp[Array.getD,this]
     ·rw[List.getElem?_take]at hx
      split at hx
      ·rename_i hi
       rw[List.getElem?_drop]at hx
       obtain⟨u,hu,ea⟩:=e5 _ k x c hx hc
       have e:l.base+((lo+i)*sz+k)=l.base+lo*sz+(i*sz+k):=by rw[Nat.add_mul];omega
       rw[e]at hu
       have:arr.getD (l.base+lo*sz+(i*sz+k)) undef=u:=by rw[Array.getD_eq_getD_getElem?,hu];rfl
       rw[this]
       exact ea.mono key.2
      ·cases hx
theorem iJ {W0:World} {C:Ctx} {w:World} (I:Inv W0 C w) {r v sz:Nat} {xs:List (List Ac)} (hr:C.H[r]? =some (.row v sz xs)) {u:Value} {a:Ac} (h:A9 C w u a) :
    A9 (C.freeze r) w u (jP r v sz xs a):=by
  have key:=I.freeze r
  unfold jP
  split
  ·split
   ·rename_i e
    split
    ·rename_i e2
     subst e e2
     exact tY I hr h
    ·exact h.mono key.2
   ·exact h.mono key.2
  ·exact h.mono key.2
theorem iF (r v sz:Nat) (xs:List (List Ac)):∀ (l:List Ac),(bP r v sz xs l).length=l.length∧∀ (i:Nat) c,(bP r v sz xs l)[i]? =some c→∃ c0,l[i]? =some c0∧c=jP r v sz xs c0
  | []=>⟨rfl,by simp[bP]⟩
  | a::l=>by
    have ih:=iF r v sz xs l
    refine⟨by simp[bP,ih.1],fun i c hi=>?_⟩
    match i,hi with
    | 0,hi=>simp only[bP,List.getElem?_cons_zero,Aot]at hi;exact⟨a,rfl,hi.symm⟩
    | i+1,hi=>simp only[bP,List.getElem?_cons_succ]at hi;simpa using ih.2 i c hi
theorem iI {W0:World} {C:Ctx} {w:World} (I:Inv W0 C w) {r v sz:Nat} {xs:List (List Ac)} (hr:C.H[r]? =some (.row v sz xs)) {u:Value} {a:Ac} (h:A9 C w u a) :
    A9 (C.freeze r) w u (U5 r v sz xs a):=by
  unfold U5
  split
  ·rename_i cs
   have hg:=iF r v sz xs cs
   cases h with
   | agg arr _ hl hc=>
     refine .agg arr _ (by rw[hl,hg.1]) fun i u c h1 h2=>?_
     obtain⟨c0,h3,rfl⟩:=hg.2 i c h2
     exact iJ I hr (hc i u c0 h1 h3)
  ·exact iJ I hr h
theorem pR (r v sz:Nat) (xs:List (List Ac)):∀ (l:List Ac),(eP r v sz xs l).length=l.length∧∀ (i:Nat) c,(eP r v sz xs l)[i]? =some c→∃ c0,l[i]? =some c0∧c=U5 r v sz xs c0
  | []=>⟨rfl,by simp[eP]⟩
  | a::l=>by
    have ih:=pR r v sz xs l
    refine⟨by simp[eP,ih.1],fun i c hi=>?_⟩
    match i,hi with
    | 0,hi=>simp only[eP,List.getElem?_cons_zero,Aot]at hi;exact⟨a,rfl,hi.symm⟩
    | i+1,hi=>simp only[eP,List.getElem?_cons_succ]at hi;simpa using ih.2 i c hi
theorem mT (r v sz:Nat) (xs:List (List Ac)):∀ (fr:Fr) (t:Nat),get (cX r v sz xs fr) t=U5 r v sz xs (get fr t)
  | [],t=>rfl
  | (k,a)::fr,t=>by
    have ih:=mT r v sz xs fr t
    simp only[cX,get]at ih ⊢
    split
    ·rfl
    ·exact ih
def M7 (r v sz:Nat) (xs:List (List Ac)):List (Int×Ac)→List (Int×Ac)
  | []=>[]
  | (k,a)::es=>(k,U5 r v sz xs a)::M7 r v sz xs es
theorem pO (r v sz:Nat) (xs:List (List Ac)):∀ (l:List (Int×Ac)) (i:Nat),(M7 r v sz xs l)[i]? =(l[i]?).map fun p=>(p.1,U5 r v sz xs p.2)
  | [],i=>by simp[M7]
  | (k,a)::es,0=>by simp[M7]
  | (k,a)::es,i+1=>by simp[M7,pO r v sz xs es i]
theorem mX {r v sz:Nat} {xs:List (List Ac)} {l:List (Int×Ac)} {i:Nat} {p:Int×Ac} (h:(M7 r v sz xs l)[i]? =some p):∃ p0,l[i]? =some p0∧p=(p0.1,U5 r v sz xs p0.2):=by
  rw[pO]at h
  cases hc:l[i]? with
  | none=>rw[hc]at h;cases h
  | some c0=>rw[hc]at h;exact⟨c0,rfl,(Aoy h).symm⟩
theorem mZ (r v sz:Nat) (xs:List (List Ac)):∀ l:List (Int×Ac),(M7 r v sz xs l).map (·.1)=l.map (·.1)
  | []=>rfl
  | (k,a)::es=>by simp[M7,mZ r v sz xs es]
theorem pN (r v sz:Nat) (xs:List (List Ac)):∀ l:List (Int×Ac),(M7 r v sz xs l).length=l.length
  | []=>rfl
  | (k,a)::es=>by simp[M7,pN r v sz xs es]
theorem R5.frz {q:Bool} {r v sz:Nat} {xs:List (List Ac)} {en:Array MapEntry} {cl:Nat} {es:List (Int×Ac)} (h:R5 q en cl es):R5 q en cl (M7 r v sz xs es):=
  ⟨by rw[pN];exact h.size,fun i e p a b=>by
    obtain⟨p0,h1,rfl⟩:=mX b
    exact h.keys i e p0 a h1,by rw[mZ];exact h.nodup,h.born,h.bnodup⟩
def mW (r v sz:Nat) (xs:List (List Ac)) (o:Ak):Ak:=
  match o with
  | .box cs=>.box (bP r v sz xs cs)
  | .mpo q es=>.mpo q (M7 r v sz xs es)
  | o=>o
def J4 (r v sz:Nat) (xs:List (List Ac)):List Ak→List Ak
  | []=>[]
  | o::H=>mW r v sz xs o::J4 r v sz xs H
theorem iH (r v sz:Nat) (xs:List (List Ac)):∀ (H:List Ak) (i:Nat),(J4 r v sz xs H)[i]? =(H[i]?).map (mW r v sz xs)
  | [],i=>by simp[J4]
  | o::H,0=>by simp[J4]
  | o::H,i+1=>by simp[J4,iH r v sz xs H i]
theorem iG (r v sz:Nat) (xs:List (List Ac)):∀ H:List Ak,(J4 r v sz xs H).length=H.length
  | []=>rfl
  | o::H=>by simp[J4,iG r v sz xs H]
def Ctx.D6 (C:Ctx) (r v sz:Nat) (xs:List (List Ac)):Ctx:={C.freeze r with H:=J4 r v sz xs (C.H.set r .gone)}
theorem Inv.D6 {W0:World} {C:Ctx} {w:World} (I:Inv W0 C w) {r v sz:Nat} {xs:List (List Ac)} (hr:C.H[r]? =some (.row v sz xs)) :
    Inv W0 (C.D6 r v sz xs) w∧Fe (C.freeze r) w (C.D6 r v sz xs) w:=by
  have key:=I.freeze r
  have m:Fe (C.freeze r) w (C.D6 r v sz xs) w:=by
    refine⟨fun b hb=>⟨hb,rfl⟩,by simp[Ctx.D6,iG,Ctx.freeze],rfl,fun r' gg=>?_⟩
    obtain⟨o,ho,bj⟩:=gg
    have hg:(C.D6 r v sz xs).H[r']? =some (mW r v sz xs o):=by
      show(J4 r v sz xs (C.H.set r .gone))[r']? =_
      rw[iH,show(C.H.set r .gone)[r']? =some o from ho];rfl
    unfold D3
    rw[hg,ho]
    cases o with
    | box cs=>exact ⟨⟨cs,rfl⟩,rfl⟩
    | row v' sz' xs'=>exact .inl ⟨xs',rfl,Nat.le_refl _,rfl⟩
    | mp es=>exact ⟨⟨_,rfl,rfl⟩,rfl⟩
    | mpo q es=>exact ⟨⟨_,rfl,rfl⟩,rfl⟩
    | it l c=>exact ⟨⟨l,c,rfl⟩,rfl⟩
    | lp=>exact ⟨⟨_,rfl,rfl⟩,rfl⟩
    | gone=>trivial
    | resv=>exact absurd rfl bj
  refine⟨⟨key.1.below,key.1.sub,key.1.old,fun r' l hl=>?_,key.1.inj,fun r' o ho=>?_⟩,m⟩
  ·have:=key.1.sep r' l hl
   refine⟨?_,this.2⟩
   have h:=this.1
   simpa[Ctx.D6,iG,Ctx.freeze]using h
  ·have fz:(J4 r v sz xs (C.H.set r .gone))[r']? =some o:=ho
   rw[iH]at fz
   cases hc:(C.H.set r .gone)[r']? with
   | none=>rw[hc]at fz;cases fz
   | some o0=>
     rw[hc]at fz
     obtain rfl:=Aoy fz
     have h0:=key.1.objs r' o0 hc
     cases o0 with
     | box cs=>
       have bj:r'≠r:=by
         intro e;subst e
         rw[List.getElem?_set_self (Aoz.1 hr).1]at hc;cases hc
       have jh:C.H[r']? =some (.box cs):=by rw[List.getElem?_set_ne (fun h=>bj h.symm)]at hc;exact hc
       obtain⟨l,arr,T,e1,e2,e3,e4⟩:=I.objs r' _ jh
       obtain⟨l',arr',T',f1,f2,f3,f4⟩:=h0
       have hg:=iF r v sz xs cs
       refine⟨l',arr',T',f1,f2,by rw[hg.1];exact f3,fun i u c h1 h2=>?_⟩
       obtain⟨c0,h3,rfl⟩:=hg.2 i c h2
       have hl:l=l':=by
         have:(C.freeze r).ρ r'=C.ρ r':=by simp only[Ctx.freeze];rw[if_neg bj]
         rw[this,e1]at f1;exact Aoy f1
       subst hl
       rw[e2]at f2
       simp only[Aot,Obj.cells.injEq]at f2
       obtain⟨rfl,rfl,_⟩:=f2
       exact(iJ I hr (e4 i u c0 h1 h3)).mono m
     | mpo q es=>
       have bj:r'≠r:=by
         intro e;subst e
         rw[List.getElem?_set_self (Aoz.1 hr).1]at hc;cases hc
       have jh:C.H[r']? =some (.mpo q es):=by rw[List.getElem?_set_ne (fun h=>bj h.symm)]at hc;exact hc
       obtain⟨l,en,cl,e1,e2,e3,e4⟩:=I.objs r' _ jh
       have hρ:(C.D6 r v sz xs).ρ r'=C.ρ r':=by
         show(C.freeze r).ρ r'=C.ρ r'
         simp only[Ctx.freeze];rw[if_neg bj]
       refine⟨l,en,cl,by rw[hρ];exact e1,e2,e3.frz,fun i e p h1 h2=>?_⟩
       obtain⟨p0,h3,rfl⟩:=mX h2
       exact(iI I hr (e4 i e p0 h1 h3)).mono m
     | _=>exact h0.mono m rfl fun _ _=>rfl
theorem Sub.Adt {outer:List Fr} {fr:Fr} {H:List Ak} (r:Nat) {es:List (Int×Ac)} (hr:H[r]? =some (.mpo false es)) (hg:∀ p∈es,Ac.g1 p.2=true):Sub outer fr H fr (H.set r (.mp es)):=by
  intro W0 A0 ds n outs a w R
  obtain⟨C,rfl,rfl,I,hF,hO,hn,hd⟩:=R.ex
  obtain⟨l,en,cl,e1,e2,e3,e4⟩:=I.objs r _ hr
  have ah:r<C.H.length:=(Aoz.1 hr).1
  have key:=I.put hr e1 (w':=w) (o':=.mp es) (fun _ _=>rfl) rfl I.below (by
    unfold D3
    simp only[Ctx.set,List.getElem?_set_self ah]
    exact⟨⟨_,hr,rfl⟩,trivial⟩) fun m=>⟨l,en,cl,e1,e2,e3,hg,fun i e p h1 h2=>(e4 i e p h1 h2).mono m⟩
  exact⟨C.set r (.mp es),rfl,rfl,key.1,fun t=>(hF t).mono key.2,hO.mono key.2,hn,hd⟩
theorem Sub.D6 {outer:List Fr} {fr:Fr} {H:List Ak} (r:Nat) {v sz:Nat} {xs:List (List Ac)} (hr:H[r]? =some (.row v sz xs)):Sub outer fr H (cX r v sz xs fr) (J4 r v sz xs (H.set r .gone)):=by
  intro W0 A0 ds n outs a w R
  obtain⟨C,rfl,rfl,I,hF,hO,hn,hd⟩:=R.ex
  have key:=I.freeze r
  have key2:=I.D6 hr
  refine⟨C.D6 r v sz xs,rfl,rfl,key2.1,fun t=>?_,(hO.mono key.2).mono key2.2,hn,hd⟩
  rw[mT]
  exact(iI I hr (hF t)).mono key2.2
theorem Ah.D6 {P:Program} {f:Ac} {args:List Ac} {st:List Fr} {H:List Ak} {K:Ac→List Ak→Prop} (r:Nat) {v sz:Nat} {xs:List (List Ac)} (hr:H[r]? =some (.row v sz xs))
    (h:Ah P f (eP r v sz xs args) st (J4 r v sz xs (H.set r .gone)) K):Ah P f args st H K:=by
  intro W0 C w outs fv vs I hH hO hf hl hv
  subst hH
  have key:=I.freeze r
  have key2:=I.D6 hr
  have hg:=pR r v sz xs args
  refine h W0 (C.D6 r v sz xs) w outs fv vs key2.1 rfl ((hO.mono key.2).mono key2.2) ((hf.mono key.2).mono key2.2) (by rw[hl,hg.1]) fun i u a h1 h2=>?_
  obtain⟨c0,h3,rfl⟩:=hg.2 i a h2
  exact(iI I hr (hv i u c0 h1 h3)).mono key2.2
theorem wC {W0:World} {C:Ctx} {w:World} (I:Inv W0 C w) {r v lo len sz:Nat} {xs:List (List Ac)} (hr:C.H[r]? =some (.row v sz xs)) {u:Value} (hv:A9 C w u (.own r v lo len)) :
    ∃ lx,Inv W0 (C.reloc r (.row (v+1) sz ((xs.drop lo).take len)) lx) w∧Fe C w (C.reloc r (.row (v+1) sz ((xs.drop lo).take len)) lx) w∧A9 (C.reloc r (.row (v+1) sz ((xs.drop lo).take len)) lx) w u (.own r (v+1) 0 len):=by
  obtain⟨cg,cn,hg,ho⟩:=I.objs r _ hr
  have iw:∀ x∈(xs.drop lo).take len,x∈xs:=fun x hx=>List.mem_of_mem_drop (List.mem_of_mem_take hx)
  cases hv with
  | own ad _ cap _ _ _ ah dm cq hh=>
    obtain⟨_,hh⟩:=hh _ _ _ hr
    obtain⟨hle,hh⟩:=hh rfl
    have hlen:((xs.drop lo).take len).length=len:=by simp;omega
    have kh:(lo+len)*sz=lo*sz+len*sz:=Nat.add_mul _ _ _
    have fin:∀ (lx:Option Loc),(cap=0∨∃ l,lx=some l∧ad=some ⟨l.b,l.base,none⟩∧l.base+cap*sz≤l.cap)→
     A9 (C.reloc r (.row (v+1) sz ((xs.drop lo).take len)) lx) w (.slice ad len cap) (.own r (v+1) 0 len):=by
      intro lx hc
      have lu:(C.H.set r (.row (v+1) sz ((xs.drop lo).take len)))[r]? =some (.row (v+1) sz ((xs.drop lo).take len)):=List.getElem?_set_self (Aoz.1 hr).1
      refine .own _ _ _ _ _ _ ⟨_,lu,by simp⟩ dm cq fun v' sz' xs' h'=>?_
      have h'':(C.H.set r (.row (v+1) sz ((xs.drop lo).take len)))[r]? =some (.row v' sz' xs'):=h'
      rw[lu,Aot,Ak.row.injEq]at h''
      obtain⟨rfl,rfl,rfl⟩:=h''
      refine⟨Nat.le_refl _,fun _=>⟨by omega,?_⟩⟩
      rcases hc with hc | ⟨l,rfl,rfl,h3⟩
      ·exact .inl hc
      ·refine .inr ⟨l,by simp[Ctx.reloc],by simp,by rw[Nat.zero_add];exact h3⟩
    rcases hh with rfl | ⟨l,hl,rfl,di⟩
    ·have h0:len=0:=by omega
     subst h0
     have key:=I.reloc hr (Nat.lt_succ_self v) (v':=v+1) (sz':=sz) (xs':=(xs.drop lo).take 0) none (fun _ _ _=>rfl) (Nat.le_refl _) I.below (fun l h=>by cases h) fun m=>
       ⟨cg,by simp,by simp,.inl ⟨by simp,by simp[Ctx.reloc]⟩⟩
     exact⟨none,key.1,key.2,fin none (.inl rfl)⟩
    ·have hs:=I.sep r l hl
     have key:=I.reloc hr (Nat.lt_succ_self v) (v':=v+1) (sz':=sz) (xs':=(xs.drop lo).take len) (some ⟨l.b,l.base+lo*sz,l.cap⟩) (fun _ _ _=>rfl) (Nat.le_refl _) I.below (fun l' h=>by
       rw[Aot]at h
       subst h
       exact⟨hs.2.1,hs.2.2.1,hs.2.2.2,fun r' l' bj lh e=>bj (I.inj _ _ _ _ lh hl e)⟩) fun m=>by
         refine⟨cg,fun x hx=>cn x (iw x hx),fun x hx=>hg x (iw x hx),?_⟩
         rcases ho with⟨e1,e1'⟩ | ⟨l',arr,T',e1,e2,e3,e4,e5⟩
         ·rw[hl]at e1';cases e1'
         rw[hl,Aot]at e1
         subst e1
         have hmul:(lo+len)*sz≤xs.length*sz:=Nat.mul_le_mul_right _ hle
         refine .inr ⟨⟨l.b,l.base+lo*sz,l.cap⟩,arr,T',by simp[Ctx.reloc],e2,e3,?_,fun i k x c hx hc=>?_⟩
         ·show l.base+lo*sz+_≤l.cap
          rw[hlen];omega
         ·rw[List.getElem?_take]at hx
          split at hx
          ·rw[List.getElem?_drop]at hx
           obtain⟨u',sx,ea⟩:=e5 _ k x c hx hc
           refine⟨u',?_,ea.mono m⟩
           rw[← sx]
           show arr[l.base+lo*sz+(i*sz+k)]? =_
           congr 1
           rw[Nat.add_mul];omega
          ·cases hx
     refine⟨_,key.1,key.2,fin _ (.inr ⟨_,rfl,rfl,?_⟩)⟩
     show l.base+lo*sz+cap*sz≤l.cap
     have:(lo+cap)*sz=lo*sz+cap*sz:=Nat.add_mul _ _ _
     omega
theorem Sub.window {outer:List Fr} {fr:Fr} {H:List Ak} (k:Nat) {r v lo len sz:Nat} {xs:List (List Ac)} (hk:get fr k= .own r v lo len) (hr:H[r]? =some (.row v sz xs)) :
    Sub outer fr H ((k,.own r (v+1) 0 len)::fr) (H.set r (.row (v+1) sz ((xs.drop lo).take len))):=by
  intro W0 A0 ds n outs a w R
  obtain⟨C,rfl,rfl,I,hF,hO,hn,hd⟩:=R.ex
  have hv:=hF k
  rw[hk]at hv
  obtain⟨lx,I',m,hu⟩:=wC I hr hv
  refine⟨C.reloc r (.row (v+1) sz ((xs.drop lo).take len)) lx,rfl,rfl,I',fun t=>?_,hO.mono m,hn,hd⟩
  simp only[get]
  split
  ·rename_i e;subst e;exact hu
  ·exact(hF t).mono m
theorem Inv.retell {W0:World} {C:Ctx} {w:World} (I:Inv W0 C w) {b j:Nat} {cs:List Ac} {c':Ac} (hb:C.H[b]? =some (.box cs))
    (hc:∀ u c,cs[j]? =some c→A9 C w u c→Fe C w (C.set b (.box (cs.set j c'))) w→A9 (C.set b (.box (cs.set j c'))) w u c') :
    Inv W0 (C.set b (.box (cs.set j c'))) w∧Fe C w (C.set b (.box (cs.set j c'))) w:=by
  obtain⟨l,arr,T,e1,e2,e3,e4⟩:=I.objs b _ hb
  have ah:b<C.H.length:=(Aoz.1 hb).1
  refine I.put hb e1 (fun _ _=>rfl) rfl I.below ?_ fun m=>?_
  ·unfold D3
   simp only[Ctx.set,List.getElem?_set_self ah]
   exact⟨⟨cs,hb⟩,trivial⟩
  ·refine⟨l,arr,T,e1,e2,by rw[e3,List.length_set],fun i u c h1 h2=>?_⟩
   rw[List.getElem?_set]at h2
   split at h2
   ·rename_i e
    subst e
    split at h2
    ·rename_i hj
     obtain rfl:=Aoy h2
     have hcj:cs[j]? =some cs[j]:=Aoq hj
     exact hc u _ hcj (e4 j u _ h1 hcj) m
    ·cases h2
   ·exact(e4 i u c h1 h2).mono m
theorem Sub.Afa {outer:List Fr} {fr:Fr} {H:List Ak} (b j sz:Nat) {cs:List Ac} (hb:H[b]? =some (.box cs)) (hj:cs[j]? =some .nils) (cn:1≤sz) :
    Sub outer fr H fr ((H++[Ak.row 0 sz []]).set b (.box (cs.set j (.own H.length 0 0 0)))):=by
  intro W0 A0 ds n outs a w R
  obtain⟨C,rfl,rfl,I,hF,hO,hn,hd⟩:=R.ex
  have bw:Py C.H C.H.length:=.inl rfl
  have key:=I.ghost _ bw (.row 0 sz []) (fun _=>⟨cn,by simp,by simp,.inl ⟨rfl,I.x5 bw⟩⟩)
  have hH:(C.ghost C.H.length (.row 0 sz [])).H=C.H++[.row 0 sz []]:=by simp[Ctx.ghost,G9]
  have ah:b<C.H.length:=(Aoz.1 hb).1
  have fb:(C.ghost C.H.length (.row 0 sz [])).H[b]? =some (.box cs):=by rw[hH,List.getElem?_append_left ah];exact hb
  have key2:=key.1.retell (j:=j) (c':=.own C.H.length 0 0 0) fb fun u c hc hu m=>by
    rw[hj]at hc
    obtain rfl:=Aoy hc
    cases hu
    have lu:((C.ghost C.H.length (.row 0 sz [])).set b (.box (cs.set j (.own C.H.length 0 0 0)))).H[C.H.length]? =some (.row 0 sz []):=by
      simp only[Ctx.set];rw[List.getElem?_set_ne (by omega),hH,List.getElem?_append_right (Nat.le_refl _)];simp
    refine .own _ _ _ _ _ _ ⟨_,lu,by simp⟩ (Nat.le_refl _) (Nat.zero_le _) fun v' sz' xs' h'=>?_
    rw[lu,Aot,Ak.row.injEq]at h'
    obtain⟨rfl,rfl,rfl⟩:=h'
    exact⟨Nat.le_refl _,fun _=>⟨by simp,.inl rfl⟩⟩
  have mm:=key.2.trans key2.2
  refine⟨(C.ghost C.H.length (.row 0 sz [])).set b (.box (cs.set j (.own C.H.length 0 0 0))),?_,rfl,key2.1,fun t=>(hF t).mono mm,hO.mono mm,hn,hd⟩
  simp only[Ctx.set,hH]
attribute [go_sem] Nat.lt_irrefl gt_iff_lt ge_iff_le or_self false_or or_false true_or or_true Nat.le_refl natCast_succ List.take_length if_true if_false and_true true_and and_self and_false false_and not_true_eq_false not_false_eq_true ne_eq Nat.zero_add Nat.add_zero Nat.sub_zero Nat.zero_le List.length_cons List.length_nil Aou Aow List.length_set Aov List.getElem?_cons_zero List.getElem?_cons_succ List.getElem?_nil List.take_zero List.take_succ_cons List.take_nil List.drop_zero List.drop_succ_cons List.drop_nil List.cons_append List.nil_append List.append_nil List.set_cons_zero List.set_cons_succ List.all_cons List.all_nil List.headD_cons List.getD_cons_zero List.getD_cons_succ Aos Option.bind_none Option.map_some Option.map_none Aot Bool.and_true Bool.true_and Bool.false_and Bool.and_false Bool.and_self Bool.not_true Bool.not_false Bool.and_eq_true Bool.false_eq_true Bool.true_eq_false cond_true cond_false decide_true decide_false forall_const false_implies true_implies implies_true Int.toNat_natCast qW Adu yU Aah An jT Ab5 Ab4 Abk Aal List.map_cons List.map_nil vS qM Int.le_refl mW J4 jP U5 bP eP cX
end Go.Ab
namespace Go.Ab
open Go
theorem Bs {α:Type} {n:Nat} {o:Option α} (h:n≤549755813888):chk n o=o:=if_pos h
theorem mB {α:Type} {n:Int} {o:Option α} (h:n≠0):nz n o=o:=if_neg h
theorem Ns {α:Type} {p:Prop} [Decidable p] {o:Option α} (h:p):okB (decide p) o=o:=by rw[okB,Aoo h];rfl
theorem Aea {α:Type} {n:Int} {o:Option α} (h:0≤n∧n≤549755813888):Aec n o=o:=if_pos h
section
variable {α σ ρ:Type} {step:Nat→α→σ→Option (Out σ ρ)}
theorem m7 (l:List α) (I:Nat→σ→Prop) (R:ρ→Prop) (hs:∀ k x s,l[k]? =some x→I k s→(∃ s',step k x s=some (.next s')∧I (k+1) s')∨(∃ r,step k x s=some (.ret r)∧R r)) :
    ∀ (n k:Nat) (s:σ),l.length - k=n→k≤l.length→I k s→(∃ s',Al step k (l.drop k) s=some (.next s')∧I l.length s')∨(∃ r,Al step k (l.drop k) s=some (.ret r)∧R r)
  | 0,k,s,hn,hk,hI=>by
    have:k=l.length:=by omega
    subst this
    rw[List.drop_length]
    exact .inl ⟨s,rfl,hI⟩
  | n+1,k,s,hn,hk,hI=>by
    have ah:k<l.length:=by omega
    rw[List.drop_eq_getElem_cons ah]
    rcases hs k _ s (Aoq ah) hI with⟨s',h1,h2⟩ | ⟨r,h1,h2⟩
    ·rcases m7 l I R hs n (k+1) s' (by omega) ah h2 with⟨s2,h3,h4⟩ | ⟨r,h3,h4⟩
     ·exact .inl ⟨s2,by rw[Al,h1];exact h3,h4⟩
     ·exact .inr ⟨r,by rw[Al,h1];exact h3,h4⟩
    ·exact .inr ⟨r,by rw[Al,h1];rfl,h2⟩
theorem E5 {l:List α} {s:σ} (I:Nat→σ→Prop) (R:ρ→Prop) (h0:I 0 s) (hs:∀ k x s,l[k]? =some x→I k s→(∃ s',step k x s=some (.next s')∧I (k+1) s')∨(∃ r,step k x s=some (.ret r)∧R r)) :
    (∃ s',Al step 0 l s=some (.next s')∧I l.length s')∨(∃ r,Al step 0 l s=some (.ret r)∧R r):=
  m7 l I R hs _ 0 s rfl (Nat.zero_le _) h0
theorem Eb {l:List α} {s:σ} (I:Nat→σ→Prop) (h0:I 0 s) (hs:∀ k x s,l[k]? =some x→I k s→∃ s',step k x s=some (.next s')∧I (k+1) s') :
    ∃ s',Al step 0 l s=some (.next s')∧I l.length s':=by
  rcases E5 (ρ:=ρ) I (fun _=>False) h0 (fun k x s h1 h2=>.inl (hs k x s h1 h2))with h | ⟨r,_,h⟩
  ·exact h
  ·exact h.elim
theorem Vx {n k:Nat} {u x:Unit} (h:(List.replicate n u)[k]? =some x):k<n:=by
  have:=(Aoz.1 h).1;simpa using this
theorem Zh {n:Nat} {s:σ} {step:Nat→Unit→σ→Option (Out σ ρ)} (hn:n≤9223372036854775807) (I:Nat→σ→Prop) (R:ρ→Prop) (h0:I 0 s)
    (hs:∀ k s,k<n→I k s→(∃ s',step k () s=some (.next s')∧I (k+1) s')∨(∃ r,step k () s=some (.ret r)∧R r)) :
    (∃ s',J8 step n s=some (.next s')∧I n s')∨(∃ r,J8 step n s=some (.ret r)∧R r):=by
  rw[J8,if_pos hn]
  have:=E5 (step:=step) (l:=List.replicate n ()) I R h0 (fun k x s h1 h2=>hs k s (Vx h1) h2)
  rwa [Aov]at this
theorem eQ {n:Nat} {s:σ} {step:Nat→Unit→σ→Option (Out σ ρ)} (hn:n≤9223372036854775807) (I:Nat→σ→Prop) (h0:I 0 s)
    (hs:∀ k s,k<n→I k s→∃ s',step k () s=some (.next s')∧I (k+1) s'):∃ s',J8 step n s=some (.next s')∧I n s':=by
  rcases Zh (ρ:=ρ) hn I (fun _=>False) h0 (fun k s h1 h2=>.inl (hs k s h1 h2))with h | ⟨r,_,h⟩
  ·exact h
  ·exact h.elim
theorem Di {β:Type} {step:Nat→α→List β→Option (Out (List β) ρ)} {l:List α} (p:α→Bool) (g:α→β) (hl:l.length≤549755813888)
    (hs:∀ k x s,x∈l→step k x s=bif p x then chk (s.length+1) (some (.next (s++[g x])))else some (.next s)) :
    Al step 0 l []=some (.next ((l.filter p).map g)):=by
  obtain⟨s',h1,h2⟩:=Eb (step:=step) (l:=l) (s:=[]) (fun k s=>s=((l.take k).filter p).map g) (by simp) (fun k x s hk hI=>by
    have ah:=(Aoz.1 hk).1
    have hlen:s.length≤k:=by
      rw[hI,Aow]
      exact Nat.le_trans (List.length_filter_le _ _) (by simp;omega)
    rw[hs k x s (Aor hk)]
    cases hp:p x with
    | true=>
      refine⟨s++[g x],by rw[cond_true,Bs (by omega)],?_⟩
      rw[Bi hk,List.filter_append,List.filter_cons_of_pos hp,List.filter_nil,List.map_append,hI];rfl
    | false=>
      refine⟨s,rfl,?_⟩
      rw[Bi hk,List.filter_append,List.filter_cons_of_neg (by simp[hp]),List.filter_nil,List.append_nil,hI])
  rw[h1,h2,List.take_length]
theorem Fz {step:Nat→α→Unit→Option (Out Unit ρ)} (p:α→Bool) (g:α→ρ):∀ {l:List α} {k:Nat},(∀ k x,x∈l→step k x ()=bif p x then some (.ret (g x))else some (.next ()))→
    Al step k l ()=match l.find? p with | some x=>some (.ret (g x)) | none=>some (.next ())
  | [],k,_=>rfl
  | x::l,k,hs=>by
    rw[Al,hs k x (by simp)]
    cases hp:p x with
    | true=>simp[hp,Out.cont]
    | false=>
      rw[List.find?_cons_of_neg (by simp[hp])]
      exact Fz p g (fun k y hy=>hs k y (List.mem_cons_of_mem _ hy))
theorem Wu {step:Nat→α→Unit→Option (Out Unit ρ)}:∀ {l:List α} {k:Nat},Al step k l ()=some (.next ())↔∀ i x,l[i]? =some x→step (k+i) x ()=some (.next ())
  | [],k=>by simp[Al]
  | x::l,k=>by
    rw[Al]
    constructor
    ·intro h i y hy
     obtain⟨o,h1,h2⟩:=Ae h
     cases o with
     | ret r=>cases h2
     | next u=>
       match i,hy with
       | 0,hy=>simp at hy;subst hy;exact h1
       | i+1,hy=>
         have:=(Wu (step:=step)).1 h2 i y (by simpa using hy)
         rw[show k+(i+1)=k+1+i by omega];exact this
    ·intro h
     have h0:=h 0 x (by simp)
     rw[Nat.add_zero]at h0
     rw[h0]
     show Al step (k+1) l ()=_
     exact(Wu (step:=step)).2 fun i y hy=>by
       have:=h (i+1) y (by simpa using hy)
       rwa [show k+(i+1)=k+1+i by omega]at this
end
theorem S1 {α:Type} {l:List α} {n:Int} {k:Nat} {x:α} (hn:n=(k:Int)) (hx:l[k]? =some x):Da l n=some x:=by subst hn;exact Cm hx
theorem eN {α:Type} {l:List α} {k:Nat} (hk:k<l.length):Da l (k:Int)=some l[k]:=Cm (Aoq hk)
theorem S4 {k:Nat} (h0:0<k) (hk:k≤9223372036854775807):IntKind.i64.wrap ((k:Int) - 1)=((k - 1:Nat):Int):=by
  rw[wrap_i64]<;>omega
theorem S5 {k:Nat} (hk:k<9223372036854775807):IntKind.i64.wrap ((k:Int)+1)=((k+1:Nat):Int):=by
  rw[wrap_i64]<;>omega
theorem D2 {α β:Type} {o:Option α} {f:α→Option β} {x:α} {y:β} (h1:o=some x) (h2:f x=some y):o.bind f=some y:=by rw[h1];exact h2
def I64 (n:Int):Prop:= -9223372036854775808≤n∧n≤9223372036854775807
theorem wf_i64 {n:Int} (h:(Lit.int .i64 n).wf=true):I64 n:=by
  simp[Lit.wf,IntKind.min,IntKind.max,IntKind.signed,IntKind.bits]at h;exact⟨by omega,by omega⟩
def OkL {α:Type} (p:α→Prop) (l:List α):Prop:=l.length≤9223372036854775807∧∀ a∈l,p a
end Go.Ab
namespace Go.Ab
open Go
section
variable {β:Type}
def mkeys (m:List (Int×β)):List Int:=m.map (·.1)
theorem aG (d:β):∀ (m:List (Int×β)) (k:Int) (v:β) (n:Int),mget d (mset m k v) n=if k=n then v else mget d m n
  | [],k,v,n=>rfl
  | (j,u)::r,k,v,n=>by
    simp only[mset]
    by_cases h:j=k
    ·subst h
     simp only[if_true,mget]
     split<;>rfl
    ·rw[if_neg h]
     simp only[mget]
     by_cases h2:j=n
     ·subst h2
      rw[if_pos rfl,if_neg (fun e=>h e.symm),if_pos rfl]
     ·rw[if_neg h2,if_neg h2,aG d r k v n]
theorem mH:∀ (m:List (Int×β)) (n:Int),mhas m n=true↔n∈mkeys m
  | [],n=>by simp[mhas,mkeys]
  | (j,u)::r,n=>by
    have ih:=mH r n
    simp only[mhas,mkeys,List.map_cons,List.mem_cons]at ih ⊢
    by_cases h:j=n
    ·simp[h]
    ·rw[if_neg h,ih]
     constructor
     ·exact .inr
     ·rintro(e | e)
      ·exact absurd e.symm h
      ·exact e
theorem W8 (j:Int) (u:β) (r:List (Int×β)):mkeys ((j,u)::r)=j::mkeys r:=rfl
theorem aF:∀ (m:List (Int×β)) (k:Int) (v:β),mkeys (mset m k v)=if k∈mkeys m then mkeys m else mkeys m++[k]
  | [],k,v=>by simp[mset,mkeys]
  | (j,u)::r,k,v=>by
    have ih:=aF r k v
    simp only[mset]
    by_cases h:j=k
    ·subst h
     rw[if_pos rfl,W8,W8,if_pos (by simp)]
    ·rw[if_neg h,W8,W8,ih]
     have bj:¬ k=j:=fun e=>h e.symm
     by_cases h2:k∈mkeys r
     ·rw[if_pos h2,if_pos (List.mem_cons_of_mem _ h2)]
     ·rw[if_neg h2,if_neg (fun hm=>by rcases List.mem_cons.1 hm with e | e;exact bj e;exact h2 e),List.cons_append]
theorem wO {m:List (Int×β)} (h:(mkeys m).Nodup) (k:Int) (v:β):(mkeys (mset m k v)).Nodup:=by
  rw[aF]
  split
  ·exact h
  ·rename_i hk
   rw[List.nodup_append]
   refine⟨h,by simp,?_⟩
   rintro a ha b hb rfl
   simp at hb;subst hb;exact hk ha
theorem tJ (m:List (Int×β)) (k:Int) (v:β):(mset m k v).length=if mhas m k then m.length else m.length+1:=by
  have h:=congrArg List.length (aF m k v)
  have h2:=mH m k
  by_cases hk:k∈mkeys m
  ·rw[if_pos hk]at h
   rw[if_pos (h2.2 hk)]
   simpa[mkeys]using h
  ·rw[if_neg hk]at h
   rw[if_neg (fun e=>hk (h2.1 e))]
   simpa[mkeys]using h
end
section
variable {α ρ:Type} {step:α→Unit→Option (Out Unit ρ)}
end
theorem Hc {σ ρ:Type} {step:σ→Option (Out σ ρ)} (I:σ→Prop) (R:ρ→Prop) (μ:σ→Nat) (hs:∀ s,I s→(∃ s',step s=some (.next s')∧I s'∧μ s'< μ s)∨(∃ r,step s=some (.ret r)∧R r)) :
    ∀ (n:Nat) (s:σ),I s→μ s<n→∃ r,Dx step n s=some (.ret r)∧R r
  | 0,s,_,h=>by omega
  | n+1,s,hI,h=>by
    rcases hs s hI with⟨s',h1,h2,h3⟩ | ⟨r,h1,h2⟩
    ·obtain⟨r,h4,h5⟩:=Hc I R μ hs n s' h2 (by omega)
     exact⟨r,by rw[Dx,h1];exact h4,h5⟩
    ·exact⟨r,by rw[Dx,h1];rfl,h2⟩
end Go.Ab
namespace Go.Ab
open Go Go.RowKit
theorem AWP.tN {md:Option Nat} {P:Program} {n:Nat} {Q:Exit→Fr→List Ak→Prop} {outer:List Fr} {fr:Fr} {H:List Ak} {ι:Type} {c:Code} (F:ι→Fr) (HH:ι→List Ak) (J:ι→Prop) (μ:ι→Nat) (x0:ι) (h0:J x0) (vq:dM fr (F x0)) (vp:Wz H (HH x0))
    (hb:∀ x,Mc (HH x).length (F x)=true∧nG (HH x).length (HH x)=true∧outer.all (Mc (HH x).length)=true)
    (round:∀ x,J x→AWP md P n c (qthen (fun fr' H'=>∃ x',J x'∧μ x'< μ x∧∃ fr2 H2,Sub outer fr' H' fr2 H2∧dM fr2 (F x')∧Wz H2 (HH x')) Q) outer (F x) (HH x)):AWP md P n (.loop c) Q outer fr H:=by
  refine AWP.loop F HH J μ x0 h0 (Sub.weak vp vq (.inr (hb x0))) fun x hx=>AWP.mono ?_ (round x hx)
  intro e fr' H' h
  cases e with
  | normal=>
    obtain⟨x',h1,h2,fr2,H2,h5,h3,h4⟩:=h
    exact⟨x',h1,h2,h5.trans (Sub.weak h4 h3 (.inr (hb x')))⟩
  | _=>exact h
theorem A8.nle {P:Program} {f:FuncId} {args:List Ac} {r':Ac} (h:A8 P f args (fun r=>Wp r r')):A8 P f args (·=r'):=by
  intro A w vs hA hv
  refine(h A w vs hA hv).mono fun e w' ⟨v,r,h1,h2,h3,h4,h5⟩=>?_
  have:=tI h2 h5
  exact⟨v,r',h1,rfl,this.2 h3,h4,this.1⟩
theorem u9 (l:List Int):((l.map An).all fun x=>x.all Ac.f0)=true:=by simp[An,Ac.f0]
attribute [go_sem] rfre Ack Aac Acj u9 ren rens j8 jH fQ X7 swp Yl
end Go.Ab
namespace Go.Ab
open Go Go.RowKit Go.Sort
theorem aJ {w:World} {b off:Nat} {arr:Array Value} {T:TypeId} (h:w.heap[b]? =some (.cells arr T (0,0))):w.frozen? ⟨b,off,none⟩=false:=by
  simp[World.frozen?,h]
theorem Za {w:World} {n blk off:Nat} {d:Array Int} {b:Nat} (hb:b≠blk):(putRow (Value.int .i64) (Sort.ahead w n) blk off d).heap[b]? =w.heap[b]?:=by
  simp only[putRow,mapBlock,heap_ahead,Array.getElem?_modify]
  rw[if_neg (fun e=>hb e.symm)]
theorem iE {w:World} {n blk off:Nat} {d:Array Int} {arr:Array Value} {T:TypeId} (h:w.heap[blk]? =some (.cells arr T (0,0))) :
    (putRow (Value.int .i64) (Sort.ahead w n) blk off d).heap[blk]? =some (.cells (putCells (Value.int .i64) off d arr) T (0,0)):=by
  simp only[putRow,mapBlock,heap_ahead,Array.getElem?_modify,if_true,h];rfl
theorem fA {w:World} {B n blk off:Nat} {d:Array Int} (hb:B≤blk):RowKit.Below B w (putRow (Value.int .i64) (Sort.ahead w n) blk off d):=
  ⟨rfl,rfl,rfl,by simp,fun k hk=>Za (by omega)⟩
theorem uZ {w:World} {os:Array Obj} {B:Nat} (hB:B≤w.heap.size):RowKit.Below B w (grow w os):=
  ⟨rfl,rfl,rfl,by simp,fun k hk=>heap_grow_old w os (by omega)⟩
theorem Ctx.zM (C:Ctx):C.more (fun _=>False)=C:=by
  unfold Ctx.more;simp
theorem Inv.Aga {W0:World} {C:Ctx} {w w':World} (I:Inv W0 C w) (hb:RowKit.Below w.heap.size w w'):Inv W0 C w'∧Fe C w C w':=by
  have:=I.grow (fun _=>False) (fun b h=>h.elim) hb
  rwa [C.zM]at this
theorem x4 {C:Ctx} {w:World} {u:Value} {r v lo len:Nat} (h:A9 C w u (.own r v lo len)):∃ a cap,u= .slice a len cap∧C.known r∧len≤cap∧cap≤maxLen∧
    ∀ v' sz xs,C.H[r]? =some (.row v' sz xs)→v≤v'∧(v=v'→lo+len≤xs.length∧(cap=0∨∃ l,C.ρ r=some l∧a=some ⟨l.b,l.base+lo*sz,none⟩∧l.base+(lo+cap)*sz≤l.cap)):=by
  cases h with
  | own a _ cap _ _ _ hk dm cq hv=>exact ⟨a,cap,rfl,hk,dm,cq,hv⟩
theorem sG {W0:World} {C:Ctx} {w:World} (I:Inv W0 C w) {r v:Nat} {zs:List Int} (hr:C.H[r]? =some (.row v 1 (zs.map An))) {u:Value} {len:Nat} (hu:A9 C w u (.own r v 0 len)) (hlen:len=zs.length) :
    ∃ a cap,u= .slice a zs.length cap∧zs.length≤cap∧((zs=[])∨∃ l arr T,C.ρ r=some l∧a=some ⟨l.b,l.base,none⟩∧w.heap[l.b]? =some (.cells arr T (0,0))∧arr.size=l.cap∧l.base+cap≤l.cap∧
      ∀ (i:Nat) z,zs[i]? =some z→arr[l.base+i]? =some (.int .i64 z)):=by
  subst hlen
  cases hu with
  | own a _ cap _ _ _ hk dm cq hv=>
    refine⟨a,cap,rfl,dm,?_⟩
    obtain⟨_,hv⟩:=hv _ _ _ hr
    obtain⟨_,hv⟩:=hv rfl
    obtain⟨_,_,_,ho⟩:=I.objs r _ hr
    by_cases hz:zs=[]
    ·exact .inl hz
    ·right
     have tu:0<zs.length:=List.length_pos_iff.2 hz
     rcases ho with⟨e,_⟩ | ⟨l',arr,T,e1,e2,e3,e4,e5⟩
     ·exact absurd (List.map_eq_nil_iff.1 e) hz
     ·rcases hv with hv | ⟨l,hl,ha,di⟩
      ·omega
      rw[hl,Aot]at e1
      subst e1
      refine⟨l,arr,T,hl,by rw[ha];simp,e2,e3,by omega,fun i z hi=>?_⟩
      obtain⟨u,hu,bc⟩:=e5 i 0 (An z) (.int .i64 z) (by simp[hi]) rfl
      rw[show l.base+(i*1+0)=l.base+i by omega]at hu
      rw[hu]
      cases u<;>cases bc;rfl
theorem xZ {W0:World} {C:Ctx} {w:World} {r:Nat} {v v':Nat} {zs zs' ws:List Int} {l:Loc} {arr:Array Value} {T:TypeId} (I:Inv W0 C w) (hl:C.ρ r=some l) (hc:w.heap[l.b]? =some (.cells arr T (0,0))) (hs:arr.size=l.cap) (di:l.base+ws.length≤l.cap) (hle:zs'.length≤ws.length)
    (hpre:∀ (i:Nat) z,zs'[i]? =some z→ws[i]? =some z) {n:Nat} {C':Ctx} (hρ:C'.ρ r=some l):Yh C' (putRow (Value.int .i64) (Sort.ahead w n) l.b l.base ws.toArray) r (.row v' 1 (zs'.map An)):=by
  refine⟨Nat.le_refl _,fun x hx=>?_,fun x hx c hc=>?_,.inr ⟨l,_,T,hρ,iE hc,by simp[putCells,hs],by simp;omega,fun i k x c hx hc=>?_⟩⟩
  ·obtain⟨z,_,rfl⟩:=List.mem_map.1 hx;rfl
  ·obtain⟨z,_,rfl⟩:=List.mem_map.1 hx
   simp[An]at hc;subst hc;rfl
  ·simp only[List.getElem?_map,Option.map_eq_some_iff]at hx
   obtain⟨z,hz,rfl⟩:=hx
   have hk:k=0:=by
     have:=(Aoz.1 hc).1
     simp[An]at this;exact this
   subst hk
   simp[An]at hc;subst hc
   have hi:=(Aoz.1 (hpre i z hz)).1
   refine⟨.int .i64 z,?_,.int _ _⟩
   have oa:l.base+(i*1+0)<arr.size:=by omega
   simp only[putCells,Array.getElem?_mapIdx,Array.getElem?_eq_getElem oa,Option.map_some]
   rw[if_pos (by simp;omega)]
   have e:l.base+(i*1+0) - l.base=i:=by omega
   rw[e]
   have:=hpre i z hz
   congr 2
   simp[getElem!_def,this]
section
variable {P:Program}
structure Ada (P:Program) (f:FuncId):Prop where
  some:∀ (blk off cap:Nat) (zs:List Int) (w:World),Holds (Value.int .i64) w blk off zs.toArray→blk<w.heap.size→zs.length<4611686018427387904→
    Calls P f #[.slice (some ⟨blk,off,none⟩) zs.length cap] w fun e w'=>e= .returned (.tuple #[])∧∃ n os,w'=grow (putRow (Value.int .i64) (Sort.ahead w n) blk off (zs.mergeSort fun x y=>decide (x≤y)).toArray) os
  none:∀ (p:Option Addr) (cap:Nat) (w:World),Calls P f #[.slice p 0 cap] w fun e w'=>e= .returned (.tuple #[])∧w'=w
def Dn (zs:List Int):List Int:=zs.mergeSort fun x y=>decide (x≤y)
theorem Cq (zs:List Int):(Dn zs).length=zs.length:=List.length_mergeSort _
theorem mQ {w:World} {l:Loc} {arr:Array Value} {T:TypeId} {zs:List Int} (hc:w.heap[l.b]? =some (.cells arr T (0,0))) (h:∀ (i:Nat) z,zs[i]? =some z→arr[l.base+i]? =some (.int .i64 z)):Holds (Value.int .i64) w l.b l.base zs.toArray:=by
  intro j hj
  have hj':j<zs.length:=by simpa using hj
  refine⟨?_,aJ hc⟩
  rw[show w.cell? ⟨l.b,l.base+j,none⟩=arr[l.base+j]? by simp[World.cell?,hc],h j _ (Aoq hj')]
  simp[getElem!_def,hj']
theorem Ah.Dn {f:FuncId} {r v len:Nat} {zs:List Int} {st:List Fr} {H:List Ak} {K:Ac→List Ak→Prop} (hc:∀ (args:Array Value) (w:World),(callFunc f args).run P w= .ok (.enter f args) w)
    (spec:Ada P f) (hr:H[r]? =some (.row v 1 (zs.map An))) (hlen:len=zs.length) (kg:len≤549755813888) (h:K (.tuple []) (H.set r (.row v 1 ((Go.Ab.Dn zs).map An)))):Ah P (.func f []) [.own r v 0 len] st H K:=by
  intro W0 C w outs fv vs I hH hO hf hl hv
  subst hH
  cases hf with
  | func _ caps _ et _=>
    have:caps=#[]:=Array.eq_empty_of_size_eq_zero (by simpa using et)
    subst this
    refine .inl ⟨f,#[],rfl,hc,?_⟩
    match vs,hl with
    | [u],_=>
      have hu:=hv 0 u _ rfl rfl
      obtain⟨a,cap,rfl,nk,hz⟩:=sG I hr hu hlen
      have ah:r<C.H.length:=(Aoz.1 hr).1
      rcases hz with rfl | ⟨l,arr,T,hl,rfl,au,cn,di,dh⟩
      ·refine(spec.none a cap w).mono fun e w' ⟨he,hw⟩=>?_
       subst hw
       have e0:Go.Ab.Dn []=[]:=by simp[Go.Ab.Dn]
       rw[e0]at h
       have hs:C.H.set r (.row v 1 (([]:List Int).map An))=C.H:=by
         apply List.ext_getElem?
         intro i
         rw[List.getElem?_set]
         split
         ·rename_i e;subst e;first | (rw[hr]) | (rw[if_pos ah,hr])
         ·rfl
       rw[hs]at h
       exact⟨.tuple #[],.tuple [],C,he,h,rfl,.tuple _ _ rfl (by simp),I,hO⟩
      ·have hS:=I.sep r l hl
       refine(spec.some l.b l.base cap zs w (mQ au dh) hS.2.2.1 (by omega)).mono fun e w' ⟨he,n,os,hw⟩=>?_
       subst hw
       have key:=I.put (w':=putRow (Value.int .i64) (Sort.ahead w n) l.b l.base (Go.Ab.Dn zs).toArray) (o':=.row v 1 ((Go.Ab.Dn zs).map An)) hr hl (fun b hb=>Za hb) (by simp) (I.below.trans (fA hS.2.1)) (by
         unfold D3
         simp only[Ctx.set,List.getElem?_set_self ah]
         exact .inl ⟨_,hr,by simp[Cq],by trivial⟩) (fun m=>xZ (zs:=zs) (v:=v) I hl au cn (by rw[Cq];omega) (Nat.le_refl _) (fun i z hi=>hi) (C':=C.set r _) hl)
       have key2:=key.1.Aga (w':=grow (putRow (Value.int .i64) (Sort.ahead w n) l.b l.base (Go.Ab.Dn zs).toArray) os) (uZ (Nat.le_refl _))
       exact⟨.tuple #[],.tuple [],C.set r (.row v 1 ((Go.Ab.Dn zs).map An)),he,h,rfl,.tuple _ _ rfl (by simp),key2.1,(hO.mono key.2).mono key2.2⟩
structure qK (P:Program) (f:FuncId):Prop where
  some:∀ (blk off cap:Nat) (zs:List Int) (w:World),Holds (Value.int .i64) w blk off zs.toArray→zs.length≤9223372036854775807→zs.length≤cap→
    Calls P f #[.slice (some ⟨blk,off,none⟩) zs.length cap] w fun e w'=>e= .returned (.slice (some ⟨blk,off,none⟩) (Lib.compact zs).length cap)∧∃ q,w'=putRow (Value.int .i64) (Sort.ahead w q) blk off (Lib.compact zs++List.replicate (zs.length - (Lib.compact zs).length) 0).toArray
  none:∀ (a:Option Addr) (cap:Nat) (w:World),Calls P f #[.slice a 0 cap] w fun e w'=>e= .returned (.slice a 0 cap)∧w'=w
theorem uU (zs:List Int):(Lib.compact zs).length≤zs.length:=by
  unfold Lib.compact Lib.compactUpTo
  rw[Aow]
  exact Nat.le_trans (List.length_filter_le _ _) (by simp)
def Cz (zs:List Int):List Int:=Lib.compact zs
theorem Ah.Cz {f:FuncId} {r v len:Nat} {zs:List Int} {st:List Fr} {H:List Ak} {K:Ac→List Ak→Prop} (hc:∀ (args:Array Value) (w:World),(callFunc f args).run P w= .ok (.enter f args) w)
    (spec:qK P f) (hr:H[r]? =some (.row v 1 (zs.map An))) (hlen:len=zs.length) (kg:len≤549755813888) (h:K (.own r (v+1) 0 (Go.Ab.Cz zs).length) (H.set r (.row (v+1) 1 ((Go.Ab.Cz zs).map An)))):Ah P (.func f []) [.own r v 0 len] st H K:=by
  unfold Go.Ab.Cz at h
  intro W0 C w outs fv vs I hH hO hf hl hv
  subst hH
  cases hf with
  | func _ caps _ et _=>
    have:caps=#[]:=Array.eq_empty_of_size_eq_zero (by simpa using et)
    subst this
    refine .inl ⟨f,#[],rfl,hc,?_⟩
    match vs,hl with
    | [u],_=>
      have hu:=hv 0 u _ rfl rfl
      obtain⟨a,cap,rfl,nk,hz⟩:=sG I hr hu hlen
      have ah:r<C.H.length:=(Aoz.1 hr).1
      rcases hz with rfl | ⟨l,arr,T,hl,rfl,au,cn,di,dh⟩
      ·refine(spec.none a cap w).mono fun e w' ⟨he,hw⟩=>?_
       subst hw
       have e0:Lib.compact ([]:List Int)=[]:=rfl
       rw[e0]at h
       have hρ:C.reloc r (.row (v+1) 1 (([]:List Int).map An)) (C.ρ r)={C with H:=C.H.set r (.row (v+1) 1 [])}:=by
         unfold Ctx.reloc
         congr 1
         funext r'
         split
         ·rename_i e;rw[e]
         ·rfl
       obtain⟨o1,o2,o3,o4⟩:=I.objs r _ hr
       have key:=I.reloc (w':=w') (v':=v+1) (sz':=1) (xs':=[]) hr (Nat.lt_succ_self v) (C.ρ r) (fun b _ _=>rfl) (Nat.le_refl _) I.below (fun l hl=>⟨(I.sep r l hl).2.1,(I.sep r l hl).2.2.1,(I.sep r l hl).2.2.2,fun r' l' bj lh e=>bj (I.inj _ _ _ _ lh hl e)⟩) (fun m=>by
         refine⟨Nat.le_refl _,by simp,by simp,?_⟩
         rcases o4 with⟨_,o4⟩ | ⟨l,arr,T,o4,o5,o6,o7,o8⟩
         ·exact .inl ⟨rfl,by show(if r=r then C.ρ r else _)=none;rw[if_pos rfl];exact o4⟩
         ·exact .inr ⟨l,arr,T,by show(if r=r then C.ρ r else _)=some l;rw[if_pos rfl];exact o4,o5,o6,by simp at o7 ⊢;omega,by simp⟩)
       refine⟨_,.own r (v+1) 0 0,C.reloc r (.row (v+1) 1 []) (C.ρ r),he,h,rfl,?_,key.1,hO.mono key.2⟩
       cases hu with
       | own _ _ _ _ _ _ hk dm cq lg=>
         have dh:(C.H.set r (.row (v+1) 1 []))[r]? =some (.row (v+1) 1 []):=List.getElem?_set_self ah
         refine .own a 0 cap r (v+1) 0 ⟨_,dh,by simp⟩ (Nat.zero_le _) cq fun v' sz xs h'=>?_
         have h':(C.H.set r (.row (v+1) 1 []))[r]? =some (.row v' sz xs):=h'
         rw[dh]at h'
         simp only[Aot,Ak.row.injEq]at h'
         obtain⟨rfl,rfl,rfl⟩:=h'
         refine⟨Nat.le_refl _,fun _=>⟨Nat.le_refl _,?_⟩⟩
         obtain⟨_,lg⟩:=lg _ _ _ hr
         obtain⟨_,lg⟩:=lg rfl
         rcases lg with h0 | ⟨l,h1,h2,h3⟩
         ·exact .inl h0
         ·exact .inr ⟨l,by show(if r=r then C.ρ r else _)=some l;rw[if_pos rfl];exact h1,h2,h3⟩
      ·have hS:=I.sep r l hl
       refine(spec.some l.b l.base cap zs w (mQ au dh) (by omega) nk).mono fun e w' ⟨he,n,hw⟩=>?_
       subst hw
       have et:=uU zs
       have hwl:(Lib.compact zs++List.replicate (zs.length - (Lib.compact zs).length) (0:Int)).length=zs.length:=by simp;omega
       have key:=I.reloc (w':=putRow (Value.int .i64) (Sort.ahead w n) l.b l.base (Lib.compact zs++List.replicate (zs.length - (Lib.compact zs).length) 0).toArray) (v':=v+1) (sz':=1) (xs':=(Lib.compact zs).map An) hr (Nat.lt_succ_self v) (some l)
         (fun b _ hb=>Za (hb l rfl)) (by simp) (I.below.trans (fA hS.2.1)) (fun l2 jx=>by
           obtain rfl:=Aoy jx
           exact⟨hS.2.1,by simpa using hS.2.2.1,hS.2.2.2,fun r' l' bj lh e=>bj (I.inj _ _ _ _ lh hl e)⟩) (fun m=>
           xZ (zs:=zs) (v:=v) I hl au cn (by rw[hwl];omega) (by rw[hwl];exact et) (fun i z hi=>by
            rw[List.getElem?_append_left (Aoz.1 hi).1];exact hi) (C':=C.reloc r _ _) (by show(if r=r then some l else _)=some l;rw[if_pos rfl]))
       refine⟨_,.own r (v+1) 0 (Lib.compact zs).length,C.reloc r (.row (v+1) 1 ((Lib.compact zs).map An)) (some l),he,h,rfl,?_,key.1,hO.mono key.2⟩
       obtain⟨a2,cap2,e2,hk,dm,cq,_⟩:=x4 hu
       simp only[Value.slice.injEq]at e2
       obtain⟨_,_,rfl⟩:=e2
       have lv:(C.H.set r (.row (v+1) 1 ((Lib.compact zs).map An)))[r]? =some (.row (v+1) 1 ((Lib.compact zs).map An)):=List.getElem?_set_self ah
       refine .own _ _ cap r (v+1) 0 ⟨_,lv,by simp⟩ (by omega) cq fun v' sz xs h'=>?_
       have h':(C.H.set r (.row (v+1) 1 ((Lib.compact zs).map An)))[r]? =some (.row v' sz xs):=h'
       rw[lv]at h'
       simp only[Aot,Ak.row.injEq]at h'
       obtain⟨rfl,rfl,rfl⟩:=h'
       refine⟨Nat.le_refl _,fun _=>⟨by simp,.inr ⟨l,by show(if r=r then some l else _)=some l;rw[if_pos rfl],by simp,by omega⟩⟩⟩
theorem Adq {A:Nat→Prop} {w w':World} {v:Value} {T:TypeId} {sz:Nat} {xs:List (List Ac)} {news:List Value} (hA:∀ b,A b→b<w.heap.size) (hb:RowKit.Below w.heap.size w w') (cn:1≤sz) (hx:∀ x∈xs,x.length=sz) (hg:∀ x∈xs,∀ c∈x,Ac.g0 c=true)
    (ho:w'.ownsRow w.heap.size T sz v xs.length news) (bc:∀ (i k:Nat) (x:List Ac) (c:Ac),xs[i]? =some x→x[k]? =some c→∃ u,news[i*sz+k]? =some u∧A9 (Ctx.imm A) w u c) :
    ∃ C:Ctx,C.H=[.row 0 sz xs]∧C.A0=A∧C.A=A∧Inv w C w'∧A9 C w' v (.own 0 0 0 xs.length):=by
  have gr:∀ (C:Ctx),C.A=A→∀ {u c},A9 (Ctx.imm A) w u c→c.g0=true→A9 C w' u c:=fun C hC u c h hc=>
    A9.ground (C:=Ctx.imm A) (fun b fb=>⟨by rw[hC];exact fb,hb.block b (hA b fb)⟩) h (Ac.H5 hc)
  obtain⟨hl,ho⟩:=ho
  rcases ho with⟨rfl,h0⟩ | ⟨g,cap,cur,rfl,hbase,hgb,hn,nk,jh,hcur⟩
  ·have sw:xs=[]:=List.eq_nil_of_length_eq_zero h0
   subst sw
   refine⟨⟨A,A,fun _=>none,[.row 0 sz []]⟩,rfl,rfl,rfl,⟨hb,fun b fb=>Nat.lt_of_lt_of_le (hA b fb) hb.size,fun b fb _=>fb,by simp,by simp,fun r o h=>?_⟩,?_⟩
   ·match r,h with
    | 0,h=>simp at h;subst h;exact⟨cn,by simp,by simp,.inl ⟨rfl,rfl⟩⟩
   ·refine .own none 0 0 0 0 0 ⟨_,rfl,by simp⟩ (Nat.le_refl _) (Nat.zero_le _) fun v' sz' xs' h=>?_
    simp at h;obtain⟨rfl,rfl,rfl⟩:=h
    exact⟨Nat.le_refl _,fun _=>⟨by simp,.inl rfl⟩⟩
  ·have hgl:g<w'.heap.size:=(Array.getElem?_eq_some_iff.1 hgb).1
   refine⟨⟨A,A,fun r=>if r=0 then some ⟨g,0,cur.size⟩else none,[.row 0 sz xs]⟩,rfl,rfl,rfl,⟨hb,fun b fb=>Nat.lt_of_lt_of_le (hA b fb) hb.size,fun b fb _=>fb,fun r l h=>?_,fun r r' l l' h h' _=>?_,fun r o h=>?_⟩,?_⟩
   ·simp only at h
    split at h
    ·rename_i e
     obtain rfl:=Aoy h
     exact⟨by simp[e],hbase,hgl,fun fb=>by have:=hA _ fb;simp only at this;omega⟩
    ·cases h
   ·simp only at h h'
    split at h
    ·split at h'
     ·omega
     ·cases h'
    ·cases h
   ·match r,h with
    | 0,h=>
      simp at h;subst h
      refine⟨cn,hx,hg,.inr ⟨_,cur,T,rfl,hgb,rfl,?_,fun i k x c hi hk=>?_⟩⟩
      ·have:xs.length*sz≤cap*sz:=Nat.mul_le_mul_right _ hn
       simp only;omega
      ·obtain⟨u,hu,hr⟩:=bc i k x c hi hk
       refine⟨u,?_,gr _ rfl hr (hg x (Aor hi) c (Aor hk))⟩
       rw[← hcur,List.getElem?_take]at hu
       split at hu
       ·simpa using hu
       ·cases hu
   ·refine .own _ _ _ 0 0 0 ⟨_,rfl,by simp⟩ hn nk fun v' sz' xs' h=>?_
    simp at h;obtain⟨rfl,rfl,rfl⟩:=h
    refine⟨Nat.le_refl _,fun _=>⟨by simp,.inr ⟨_,rfl,by simp,?_⟩⟩⟩
    simp only;rw[jh];simp
end
theorem vR (zs:List Int):(Go.Ab.Dn zs).take zs.length=Go.Ab.Dn zs:=List.take_of_length_le (by rw[Cq];exact Nat.le_refl _)
attribute [go_sem] vR
end Go.Ab
namespace Go.Ab
open Go Go.RowKit Go.Maps
section
variable {P:Program}
structure Aeu (P:Program) (f c:FuncId) (T:TypeId):Prop where
  run:∀ (mb:Option Nat) (W:World),Calls P f #[.map mb] W fun e w'=>e= .returned (.func (.func c) #[] #[.pointer (some ⟨W.heap.size,0,none⟩)])∧w'=W.alloc (.cells #[.map mb] T)
structure Z5 (P:Program) (f c:FuncId) (kT:TypeId):Prop where
  key:P.underlying kT=some (.int .i64)
  run:∀ (b Bm nn:Nat) (D0:DataW Unit) (R:Value→Option (DataW Unit×List MemPlace)) (W:World),W.cell? ⟨Bm,0,none⟩=some (.map (some b))→Bm<W.heap.size→W.ownsMap P kT R b nn D0→Maps.size D0≤maxLen→Maps.size D0*8≤140737488355328→
    Calls P f #[.func (.func c) #[] #[.pointer (some ⟨Bm,0,none⟩)]] W fun e w'=>∃ (v:Value) (ss:List Int),e= .returned v∧ss.Perm (intKeys D0)∧w'.ownsRow W.heap.size kT 1 v ss.length ((ss.mergeSort (fun x y=>decide (x≤y))).map encZ)∧Below W.heap.size W w'
theorem Ah.X4 {f c:FuncId} {T:TypeId} {r:Nat} {es:List (Int×Ac)} {st:List Fr} {H:List Ak} {K:Ac→List Ak→Prop} (hc:∀ (args:Array Value) (w:World),(callFunc f args).run P w= .ok (.enter f args) w)
    (spec:Aeu P f c T) (hr:H[r]? =some (.mp es)) (h:K (.func c [.ptr H.length 0]) (H++[.box [.map r]])):Ah P (.func f []) [.map r] st H K:=by
  intro W0 C w outs fv vs I hH hO hf hl hv
  subst hH
  cases hf with
  | func _ caps _ et _=>
    have:caps=#[]:=Array.eq_empty_of_size_eq_zero (by simpa using et)
    subst this
    refine .inl ⟨f,#[],rfl,hc,?_⟩
    match vs,hl with
    | [u],_=>
      have hu:=hv 0 u _ rfl rfl
      cases hu with
      | map b _ hk hh=>
        refine(spec.run (some b) w).mono fun e w' ⟨he,hw⟩=>?_
        subst hw
        have bw:Py C.H C.H.length:=.inl rfl
        have key:=I.alloc C.H.length bw (.box [.map r]) (.cells #[.map (some b)] T) 0 (fun m=>⟨_,#[.map (some b)],T,Ctx.U0 _ _ _ _,Ea _ _,rfl,fun i u c' h1 h2=>by
          match i,h1,h2 with
          | 0,h1,h2=>
            simp at h1 h2;subst h1 h2
            exact(A9.map b r hk hh).mono m
          | i+1,h1,h2=>simp at h2⟩)
        have kh:G9 C.H C.H.length (.box [.map r])=C.H++[.box [.map r]]:=by simp[G9]
        refine⟨_,.func c [.ptr C.H.length 0],C.new C.H.length (.box [.map r]) ⟨w.heap.size,0,0⟩,he,?_,rfl,.func c _ _ rfl fun i u c' h1 h2=>?_,key.1,hO.mono key.2⟩
        ·show K _ (G9 C.H C.H.length (.box [.map r]))
         rw[kh];exact h
        ·match i,h1,h2 with
         | 0,h1,h2=>
           simp at h1 h2;subst h1 h2
           exact .ptr _ _ _ (Ctx.Tb bw ⟨w.heap.size,0,0⟩ (by simp)) fun cs _=>⟨_,Ctx.U0 _ _ _ _,rfl⟩
         | i+1,h1,h2=>simp at h2
theorem Adp {w:World} {b:Nat} {en:Array MapEntry} {cl:Nat} {es:List (Int×Ac)} {kT:TypeId} (hkT:P.underlying kT=some (.int .i64)) (hb:w.heap[b]? =some (.map en cl)) (cy:R5 false en cl es)
    (hk:∀ p∈es,(Lit.int .i64 p.1).wf=true) (hn:es.length≤maxLen) :
    ∃ D0:DataW Unit,w.ownsMap P kT (fun _=>some (.nil,[])) b es.length D0∧(intKeys D0).Perm (es.map (·.1))∧Maps.size D0=es.length:=by
  have hkey:∀ x∈en.toList,∃ p∈es,x.key= .int .i64 p.1:=fun x hx=>by
    obtain⟨i,hi,rfl⟩:=List.getElem_of_mem hx
    have dt:i<en.size:=by simpa using hi
    have h1:en[i]? =some en[i]:=Array.getElem?_eq_getElem dt
    have h2:es[i]? =some (es[i]'(by rw[← cy.size];exact dt)):=Aoq _
    exact⟨_,Aor h2,by simpa using cy.X4 i _ _ h1 h2⟩
  have hmap:en.toList.map (·.key)=es.map fun p=>Value.int .i64 p.1:=by
    apply List.ext_getElem?
    intro i
    simp only[List.getElem?_map,Array.getElem?_toList]
    cases h1:en[i]? with
    | none=>
      have:en.size≤i:=by simpa using h1
      rw[List.getElem?_eq_none (by rw[← cy.size];exact this)];rfl
    | some e=>
      have hi:i<en.size:=(Array.getElem?_eq_some_iff.1 h1).1
      have h2:es[i]? =some (es[i]'(by rw[← cy.size];exact hi)):=Aoq _
      rw[h2];simp only[Option.map_some];rw[cy.X4 i _ _ h1 h2]
  have hrd:∀ x∈en.toList,∃ p∈es,x.key= .int .i64 p.1∧Go.WideElems.rd (H:=Unit) P kT (fun _=>some (.nil,[])) x=some (.int .i64 p.1,.nil):=fun x hx=>by
    obtain⟨p,hp,e⟩:=hkey x hx
    refine⟨p,hp,e,?_⟩
    unfold Go.WideElems.rd
    rw[e,keyOf_int_mk hkT (hk p hp)];rfl
  have di:Go.WideElems.Fit (H:=Unit) P kT (fun _=>some (.nil,[])) en cl:=by
    refine⟨by rw[cy.size];exact hn,⟨cy.born,cy.bnodup,?_⟩,fun x hx=>?_⟩
    ·rw[hmap]
     refine List.pairwise_map.2 ((List.pairwise_map.1 cy.nodup).imp fun {a b} bj e=>bj ?_)
     simpa using e
    ·obtain⟨p,_,_,h⟩:=hrd x hx;exact⟨_,h⟩
  refine⟨.map ((en.toList.map (Go.WideElems.rg P kT (fun _=>some (.nil,[])))).foldr DataW.insert []),⟨en,cl,hb,di,by rw[cy.size];exact Nat.le_refl _,rfl⟩,?_,?_⟩
  ·show(List.map (fun p:Lit×DataW Unit=>intOf p.1) _).Perm _
   refine((Go.WideShapes.sorted_perm _).map _).trans ?_
   rw[List.map_map]
   have:en.toList.map ((fun p:Lit×DataW Unit=>intOf p.1)∘Go.WideElems.rg P kT (fun _=>some (.nil,[])))=es.map (·.1):=by
     have e1:en.toList.map ((fun p:Lit×DataW Unit=>intOf p.1)∘Go.WideElems.rg P kT (fun _=>some (.nil,[])))=(en.toList.map (·.key)).map fun v=>match v with | .int _ n=>n | _=>0:=by
       rw[List.map_map]
       refine List.map_congr_left fun x hx=>?_
       obtain⟨p,_,e,h⟩:=hrd x hx
       simp only[Function.comp_apply,Go.WideElems.rg,h,e,Option.getD_some,intOf]
     rw[e1,hmap,List.map_map];rfl
   rw[this]
  ·simp[Maps.size,length_sorted,cy.size]
theorem Ah.sA {f c:FuncId} {kT:TypeId} {r b:Nat} {es:List (Int×Ac)} {st:List Fr} {H:List Ak} {K:Ac→List Ak→Prop} (hc:∀ (args:Array Value) (w:World),(callFunc f args).run P w= .ok (.enter f args) w)
    (spec:Z5 P f c kT) (hb:H[b]? =some (.box [.map r])) (hr:H[r]? =some (.mp es)) (hk:∀ p∈es, -9223372036854775808≤p.1∧p.1≤9223372036854775807) (hn:es.length≤549755813888)
    (h:K (.own H.length 0 0 es.length) (H++[.row 0 1 ((Go.Ab.Dn (es.map (·.1))).map An)])):Ah P (.func f []) [.func c [.ptr b 0]] st H K:=by
  intro W0 C w outs fv vs I hH hO hf hl hv
  subst hH
  cases hf with
  | func _ caps _ et _=>
    have:caps=#[]:=Array.eq_empty_of_size_eq_zero (by simpa using et)
    subst this
    refine .inl ⟨f,#[],rfl,hc,?_⟩
    match vs,hl with
    | [u],_=>
      have hu:=hv 0 u _ rfl rfl
      cases hu with
      | func _ arr _ hal harr=>
        obtain⟨pv,rfl⟩:∃ pv,arr=#[pv]:=by
          have:arr.size=1:=by simpa using hal
          exact⟨arr[0],by apply Array.ext<;>simp[this];intro i h1;have:i=0:=by omega
                          subst this;rfl⟩
        have hp:=harr 0 pv _ rfl rfl
        cases hp with
        | ptr a _ _ xv hpa=>
          obtain⟨l,hl,rfl⟩:=hpa _ hb
          obtain⟨l',carr,T,e1,e2,e3,e4⟩:=I.objs b _ hb
          rw[hl,Aot]at e1;subst e1
          obtain⟨mv,rfl⟩:∃ mv,carr=#[mv]:=by
            have:carr.size=1:=by simpa using e3
            exact⟨carr[0],by apply Array.ext<;>simp[this];intro i h1;have:i=0:=by omega
                             subst this;rfl⟩
          have hm:=e4 0 mv _ rfl rfl
          cases hm with
          | map bm _ hkm hmm=>
            obtain⟨lm,hlm,rfl⟩:=hmm _ hr rfl
            obtain⟨lm',en,cl,m1,m2,m3,m4,m5⟩:=I.objs r _ hr
            rw[hlm,Aot]at m1;subst m1
            obtain⟨D0,o1,o2,o3⟩:=Adp (P:=P) spec.key m2 m3 (fun p hp=>by
              have:=hk p hp
              exact WalkArith.wf_i64 (by omega)) (by unfold maxLen;omega)
            have au:w.cell? ⟨l.b,0,none⟩=some (.map (some lm.b)):=by simp[World.cell?,e2]
            refine(spec.run lm.b l.b es.length D0 _ w au (I.sep b l hl).2.2.1 o1 (by rw[o3];unfold maxLen;omega) (by rw[o3];omega)).mono fun e w' ⟨v,ss,he,hss,kz,hbel⟩=>?_
            have ve:ss.Perm (es.map (·.1)):=hss.trans o2
            have jf:ss.mergeSort (fun x y=>decide (x≤y))=Go.Ab.Dn (es.map (·.1)):=mergeSort_of_perm_i ve
            have hlen:ss.length=es.length:=by rw[ve.length_eq,Aow]
            have wx:((Go.Ab.Dn (es.map (·.1))).map An).length=es.length:=by rw[Aow,Cq,Aow]
            rw[jf,hlen,← wx]at kz
            obtain⟨C',c1,c2,c3,c4,c5⟩:=Adq (A:=C.A) (sz:=1) (xs:=(Go.Ab.Dn (es.map (·.1))).map An) I.sub hbel (Nat.le_refl _) (fun x hx=>by
              obtain⟨z,_,rfl⟩:=List.mem_map.1 hx;rfl) (fun x hx cc yw=>by
              obtain⟨z,_,rfl⟩:=List.mem_map.1 hx
              simp[An]at yw;subst yw;rfl) kz (fun i k x cc hx yw=>by
              simp only[List.getElem?_map,Option.map_eq_some_iff]at hx
              obtain⟨z,hz,rfl⟩:=hx
              have bb:k=0:=by
                have:=(Aoz.1 yw).1
                simp[An]at this;exact this
              subst bb
              simp[An]at yw;subst yw
              exact⟨.int .i64 z,by simp[hz],.int _ _⟩)
            have bw:Py C.H C.H.length:=.inl rfl
            have key:=I.place c4 (fun b' fb=>by rw[c2]at fb;exact fb) bw c1
            refine⟨v,.own C.H.length 0 0 es.length,C.place C' C.H.length _,he,?_,rfl,?_,key.1,hO.mono key.2.1⟩
            ·show K _ (G9 C.H C.H.length _)
             rw[show G9 C.H C.H.length (Ak.row 0 1 ((Go.Ab.Dn (es.map (·.1))).map An))=C.H++[.row 0 1 ((Go.Ab.Dn (es.map (·.1))).map An)] by simp[G9]]
             exact h
            ·rw[wx]at c5
             exact c5.ren key.2.2
end
end Go.Ab
namespace Go.Ab
open Go Go.RowKit
theorem Ev.mk' {es:List (Int×Ac)} {n:Int} {z:Ac} {K:Ac→Bool→Prop} (h1:∀ v,alook es n=some v→K v true) (h2:alook es n=none→K z false):Ev es n z K:=⟨h1,h2⟩
theorem uR {S T:List Nat}:disj S T=true↔∀ r∈S,r ∉ T:=by
  unfold disj
  rw[List.all_eq_true]
  exact⟨fun h r hr hT=>by have:=h r hr;simp[hT]at this,fun h r hr=>by have:=h r hr;simp[this]⟩
theorem pF {A:List Nat} (σ:Nat→Nat) (n:Nat) (log:Log) (hl:(log.all fun p=>p.2.1.all fun a=>Nat.blt a n)=true) (hσ:∀ a b,a<n→b<n→σ a=σ b→a=b) (h:Sm A log=true) :
    Sm A (log.map fun p=>(p.1,p.2.1.map σ,p.2.2))=true:=by
  unfold Sm at *
  rw[List.all_map,List.all_eq_true]
  rw[List.all_eq_true]at h
  intro p hp
  have h1:=h p hp
  rw[List.all_eq_true]at h1
  simp only[Function.comp_apply]
  rw[List.all_map,List.all_eq_true]
  intro q hq
  have h2:=h1 q hq
  have hd:disj (p.2.1.map σ) (q.2.1.map σ)=disj p.2.1 q.2.1:=by
    have e1:=List.all_eq_true.1 (List.all_eq_true.1 hl p hp)
    have e2:=List.all_eq_true.1 (List.all_eq_true.1 hl q hq)
    rw[Bool.eq_iff_iff,uR,uR]
    constructor
    ·intro h r hr hT
     exact h (σ r) (List.mem_map_of_mem hr) (List.mem_map_of_mem hT)
    ·intro h r hr hT
     obtain⟨a,ha,rfl⟩:=List.mem_map.1 hr
     obtain⟨b,hb,e⟩:=List.mem_map.1 hT
     have:=hσ b a (by simpa using e2 b hb) (by simpa using e1 a ha) e
     subst this
     exact h b ha hb
  simp only[Function.comp_apply,hd]
  exact h2
theorem Ah.r9 {P:Program} {f c:FuncId} {kT:TypeId} {r b:Nat} {β:Type} {fv:β→Ac} {m:List (Int×β)} {st:List Fr} {H:List Ak} {K:Ac→List Ak→Prop} (hc:∀ (args:Array Value) (w:World),(callFunc f args).run P w= .ok (.enter f args) w)
    (spec:Z5 P f c kT) (hb:H[b]? =some (.box [.map r])) (hr:H[r]? =some (.mp (mpE fv m))) (hk:∀ k∈mkeys m, -9223372036854775808≤k∧k≤9223372036854775807) (hn:m.length≤549755813888)
    (h:K (.own H.length 0 0 (Go.Ab.Dn (mkeys m)).length) (H++[.row 0 1 ((Go.Ab.Dn (mkeys m)).map An)])):Ah P (.func f []) [.func c [.ptr b 0]] st H K:=by
  have e:(mpE fv m).map (·.1)=mkeys m:=by simp[mpE,mkeys]
  refine Ah.sA hc spec hb hr (fun p hp=>hk _ ?_) (by rw[qW];exact hn) ?_
  ·rw[← e];exact List.mem_map_of_mem hp
  ·rw[e,qW]
   rw[Cq]at h
   simpa[mkeys]using h
def gE:Nat→List (Int×List Int)→List (Int×Ac)
  | _,[]=>[]
  | n,(k,xs)::r=>(k,.own n (xs.length - 1) 0 xs.length)::gE (n+1) r
def gR (g:List (Int×List Int)):List Ak:=g.map fun p=>.row (p.2.length - 1) 1 (p.2.map An)
def gadd (g:List (Int×List Int)) (k v:Int):List (Int×List Int):=mset g k (mget [] g k++[v])
def E2 (xs:List Int):Ac:=.sl 1 (xs.map An)
theorem apN {α:Type} (A:List α) (b:α) (C:List α):A++[b]++C=A++b::C:=by simp
theorem ga0 {α:Type} (A:List α) (b:α) (B:List α):(A++b::B)[A.length]? =some b:=by simp
theorem ga1 {α:Type} (A:List α) (b c:α) (B:List α):(A++b::c::B)[A.length+1]? =some c:=by simp
theorem ga2 {α:Type} (A:List α) (b c d:α) (B:List α):(A++b::c::d::B)[A.length+2]? =some d:=by simp
theorem sa0 {α:Type} (A:List α) (b x:α) (B:List α):(A++b::B).set A.length x=A++x::B:=by simp[List.set_append]
theorem sa1 {α:Type} (A:List α) (b c x:α) (B:List α):(A++b::c::B).set (A.length+1) x=A++b::x::B:=by simp[List.set_append]
theorem sa2 {α:Type} (A:List α) (b c d x:α) (B:List α):(A++b::c::d::B).set (A.length+2) x=A++b::c::x::B:=by simp[List.set_append]
theorem rE (g:List (Int×List Int)):(gR g).length=g.length:=by simp[gR]
theorem Acg:∀ (g:List (Int×List Int)) (n:Nat) (k:Int) (xs:List Int),gE n (g++[(k,xs)])=gE n g++[(k,.own (g.length+n) (xs.length - 1) 0 xs.length)]
  | [],n,k,xs=>by simp[gE]
  | (k',ys)::r,n,k,xs=>by
    simp only[List.cons_append,gE,Acg r (n+1) k xs,List.length_cons]
    rw[show r.length+1+n=r.length+(n+1) by omega]
theorem u6:∀ (g:List (Int×List Int)) (n:Nat) (k:Int) (v:Ac),alook (gE n g) k=some v→∃ (i:Nat) (xs:List Int),g[i]? =some (k,xs)∧v= .own (i+n) (xs.length - 1) 0 xs.length∧mget [] g k=xs∧
    (∀ ys:List Int,aset (gE n g) k (.own (i+n) (ys.length - 1) 0 ys.length)=gE n (mset g k ys))∧(∀ ys:List Int,(gR g).set i (.row (ys.length - 1) 1 (ys.map An))=gR (mset g k ys))
  | [],n,k,v,h=>by simp[gE,alook]at h
  | (k',xs)::r,n,k,v,h=>by
    simp only[gE,alook]at h
    by_cases e:k'=k
    ·subst e
     rw[if_pos rfl]at h
     obtain rfl:=Aoy h
     exact⟨0,xs,rfl,by rw[Nat.zero_add],by simp[mget],fun ys=>by simp[gE,aset,mset],fun ys=>by simp[gR,mset]⟩
    ·rw[if_neg e]at h
     obtain⟨i,ys,h1,h2,h3,h4,h5⟩:=u6 r (n+1) k v h
     refine⟨i+1,ys,by simpa using h1,by rw[h2,show i+(n+1)=i+1+n by omega],by simp[mget,e,h3],fun zs=>?_,fun zs=>?_⟩
     ·have:=h4 zs
      rw[show i+(n+1)=i+1+n by omega]at this
      simp[gE,aset,mset,e,this]
     ·have:=h5 zs
      simp[gR,mset,e]at this ⊢
      exact this
theorem bS:∀ (g:List (Int×List Int)) (n:Nat) (k:Int),alook (gE n g) k=none→mget [] g k=[]∧(∀ v,aset (gE n g) k v=gE n g++[(k,v)])∧∀ ys,mset g k ys=g++[(k,ys)]
  | [],n,k,h=>⟨by simp[mget],fun v=>by simp[gE,aset],fun ys=>by simp[mset]⟩
  | (k',xs)::r,n,k,h=>by
    simp only[gE,alook]at h
    by_cases e:k'=k
    ·rw[if_pos e]at h;cases h
    ·rw[if_neg e]at h
     obtain⟨h1,h2,h3⟩:=bS r (n+1) k h
     exact⟨by simp[mget,e,h1],fun v=>by simp[gE,aset,e,h2],fun ys=>by simp[mset,e,h3]⟩
theorem x3 {π:Nat→Nat}:∀ (g:List (Int×List Int)) (n:Nat),(∀ i,n≤i→i<n+g.length→π i=i)→Wb π (gE n g)=gE n g
  | [],n,h=>rfl
  | (k,xs)::r,n,h=>by
    simp only[gE,Wb,ren]
    rw[h n (Nat.le_refl _) (by simp),x3 r (n+1) (fun i h1 h2=>h i (by omega) (by simp at h2 ⊢;omega))]
theorem sP (π:Nat→Nat):∀ (a b:List (Int×Ac)),Wb π (a++b)=Wb π a++Wb π b
  | [],b=>rfl
  | (k,v)::a,b=>by simp[Wb,sP π a b]
theorem sM (π:Nat→Nat):∀ (a b:List Ak),X7 π (a++b)=X7 π a++X7 π b
  | [],b=>rfl
  | o::a,b=>by simp[X7,sM π a b]
theorem x1 (π:Nat→Nat):∀ (g:List (Int×List Int)),X7 π (gR g)=gR g
  | []=>rfl
  | p::r=>by
    have:=x1 π r
    simp only[gR,List.map_cons,X7,j8]at this ⊢
    rw[this]
theorem yI {m:Nat}:∀ (g:List (Int×List Int)) (n:Nat),n+g.length≤m→((gE n g).all fun p=>p.2.R2 m)=true
  | [],n,h=>rfl
  | (k,xs)::r,n,h=>by
    simp only[gE,List.all_cons,Bool.and_eq_true]
    refine⟨by simp[Ac.R2,Ac.Zq,Ac.bE,Ac.c9]at h ⊢;omega,yI r (n+1) (by simp at h ⊢;omega)⟩
theorem Aeg {m:Nat} (g:List (Int×List Int)):nG m (gR g)=true:=by
  unfold nG gR;simp[xC]
theorem Afe {m:Nat} (g:List (Int×List Int)) (h:1+g.length≤m):nG m (.mpo false (gE 1 g)::gR g)=true:=by
  have:=Aeg (m:=m) g
  unfold nG at this ⊢
  rw[List.all_cons,this,Bool.and_true]
  exact yI g 1 h
theorem wM:∀ (o:Ak),o≠.resv→Rt o o
  | .box cs,_=>by
    show eY cs cs
    induction cs with
    | nil=>trivial
    | cons c r ih=>exact ⟨by unfold vle;split<;>simp,ih (by simp)⟩
  | .row v sz xs,_=>⟨rfl,rfl,rfl⟩
  | .mp es,_=>rfl
  | .mpo q es,_=>⟨rfl,rfl⟩
  | .it l c,_=>⟨rfl,rfl⟩
  | .lp _ _ _ _ _ _ _ _,_=>⟨rfl,rfl,rfl,rfl,rfl,rfl,rfl,rfl⟩
  | .gone,_=>trivial
  | .resv,h=>absurd rfl h
theorem lO:∀ (A B:List Ak),(∀ o∈A,o≠.resv)→Wz (A++B) A
  | [],B,_=>by simp[Wz]
  | o::A,B,h=>⟨wM o (h o (by simp)),lO A B fun o' fz=>h o' (List.mem_cons_of_mem _ fz)⟩
theorem mV (g:List (Int×List Int)):∀ o∈gR g,o≠.resv:=by
  intro o ho
  obtain⟨p,_,rfl⟩:=List.mem_map.1 ho
  simp
theorem Abc (g:List (Int×List Int)) (B:List Ak):Wz (.mpo false (gE 1 g)::(gR g++B)) (.mpo false (gE 1 g)::gR g):=⟨⟨rfl,rfl⟩,lO _ _ (mV g)⟩
theorem Acf {g:List (Int×List Int)} {n:Nat} (h:∀ p∈g,1≤p.2.length∧p.2.length≤n) (k v:Int):∀ p∈gadd g k v,1≤p.2.length∧p.2.length≤n+1:=by
  have dh:∀ g:List (Int×List Int),(∀ p∈g,1≤p.2.length∧p.2.length≤n)→(mget [] g k).length≤n:=by
    intro g
    induction g with
    | nil=>intro _;simp[mget]
    | cons p r ih=>
      intro h
      obtain⟨k',xs⟩:=p
      simp only[mget]
      split
      ·exact(h (k',xs) (by simp)).2
      ·exact ih fun p hp=>h p (List.mem_cons_of_mem _ hp)
  have hlen:=dh g h
  have ix:∀ (ys:List Int),1≤ys.length→ys.length≤n+1→∀ g:List (Int×List Int),(∀ p∈g,1≤p.2.length∧p.2.length≤n)→∀ p∈mset g k ys,1≤p.2.length∧p.2.length≤n+1:=by
    intro ys h1 h2 g
    induction g with
    | nil=>intro _ p hp;simp[mset]at hp;subst hp;exact⟨h1,h2⟩
    | cons p r ih=>
      intro h p' sy
      obtain⟨k',xs⟩:=p
      simp only[mset]at sy
      split at sy
      ·rcases List.mem_cons.1 sy with e | sy
       ·subst e;exact⟨h1,h2⟩
       ·have:=h p' (List.mem_cons_of_mem _ sy);omega
      ·rcases List.mem_cons.1 sy with e | sy
       ·subst e;have:=h (k',xs) (by simp);simp only at this ⊢;omega
       ·exact ih (fun p hp=>h p (List.mem_cons_of_mem _ hp)) p' sy
  exact ix _ (by simp) (by simp;exact hlen) g h
theorem pP (r v sz:Nat) (xs:List (List Ac)):∀ (a b:List (Int×Ac)),M7 r v sz xs (a++b)=M7 r v sz xs a++M7 r v sz xs b
  | [],b=>rfl
  | (k,x)::a,b=>by simp[M7,pP r v sz xs a b]
theorem pQ (r v sz:Nat) (xs:List (List Ac)):∀ (a b:List Ak),J4 r v sz xs (a++b)=J4 r v sz xs a++J4 r v sz xs b
  | [],b=>rfl
  | o::a,b=>by simp[J4,pQ r v sz xs a b]
theorem mY (r v sz:Nat) (xs:List (List Ac)):∀ (g:List (Int×List Int)),M7 r v sz xs (mpE E2 g)=mpE E2 g
  | []=>rfl
  | (k,x)::g=>by
    have:=mY r v sz xs g
    simp only[mpE,List.map_cons,M7]at this ⊢
    rw[this];rfl
theorem tZ (r v sz:Nat) (xs:List (List Ac)):∀ (g:List (Int×List Int)) (n:Nat),r<n→M7 r v sz xs (gE n g)=gE n g
  | [],n,h=>rfl
  | (k,x)::g,n,h=>by
    simp only[gE,M7]
    rw[tZ r v sz xs g (n+1) (by omega)]
    have:U5 r v sz xs (.own n (x.length - 1) 0 x.length)= .own n (x.length - 1) 0 x.length:=by
      unfold U5 jP
      simp only[]
      rw[if_neg (by omega)]
    rw[this]
theorem uA (r v sz:Nat) (xs:List (List Ac)):∀ (g:List (Int×List Int)),J4 r v sz xs (gR g)=gR g
  | []=>rfl
  | p::g=>by
    have:=uA r v sz xs g
    simp only[gR,List.map_cons,J4,mW]at this ⊢
    rw[this]
theorem m0 (r v sz:Nat) (xs:List (List Ac)):∀ (n:Nat),J4 r v sz xs (List.replicate n .gone)=List.replicate n .gone
  | 0=>rfl
  | n+1=>by simp[List.replicate_succ,J4,mW,m0 r v sz xs n]
theorem Sub.refl' {outer:List Fr} {fr:Fr} {H:List Ak}:Sub outer fr H fr H:=fun _ _ _ _ _ _ _ R=>R
theorem Sub.Aeq {outer:List Fr} {fr:Fr} (yv:∀ r v sz xs,cX r v sz xs fr=fr):∀ (g2 g1:List (Int×List Int)),
    Sub outer fr (.mpo false (mpE E2 g1++gE (g1.length+1) g2)::(List.replicate g1.length .gone++gR g2)) fr (.mpo false (mpE E2 (g1++g2))::List.replicate (g1.length+g2.length) .gone)
  | [],g1=>by
    simp only[gE,gR,List.map_nil,List.append_nil,List.length_nil,Nat.add_zero]
    exact Sub.refl'
  | (k,xs)::g2,g1=>by
    have hr:(Ak.mpo false (mpE E2 g1++gE (g1.length+1) ((k,xs)::g2))::(List.replicate g1.length .gone++gR ((k,xs)::g2)))[g1.length+1]? =some (.row (xs.length - 1) 1 (xs.map An)):=by
      rw[List.getElem?_cons_succ,List.getElem?_append_right (by simp)]
      simp[gR]
    have s:=Sub.D6 (outer:=outer) (fr:=fr) (g1.length+1) hr
    rw[yv]at s
    have e:J4 (g1.length+1) (xs.length - 1) 1 (xs.map An) ((Ak.mpo false (mpE E2 g1++gE (g1.length+1) ((k,xs)::g2))::(List.replicate g1.length .gone++gR ((k,xs)::g2))).set (g1.length+1) .gone) =
     .mpo false (mpE E2 (g1++[(k,xs)])++gE ((g1++[(k,xs)]).length+1) g2)::(List.replicate (g1++[(k,xs)]).length .gone++gR g2):=by
      rw[List.set_cons_succ,List.set_append_right _ _ (by simp),Aov,Nat.sub_self]
      show J4 _ _ _ _ (Ak.mpo false (mpE E2 g1++gE (g1.length+1) ((k,xs)::g2))::(List.replicate g1.length .gone++(Ak.gone::gR g2)))=_
      simp only[J4,mW,pQ,m0,uA,pP,mY,gE,M7]
      rw[tZ _ _ _ _ g2 (g1.length+1+1) (by omega)]
      have h1:U5 (g1.length+1) (xs.length - 1) 1 (xs.map An) (.own (g1.length+1) (xs.length - 1) 0 xs.length)=E2 xs:=by
        unfold U5 jP E2
        simp only[]
        simp
        exact List.take_of_length_le (by simp)
      rw[h1]
      simp[mpE,List.replicate_succ']
    rw[e]at s
    have ih:=Sub.Aeq (outer:=outer) yv g2 (g1++[(k,xs)])
    have:=s.trans ih
    simp only[List.append_assoc,List.cons_append,List.nil_append,Aou,List.length_cons,List.length_nil]at this
    simp only[List.length_cons]
    rw[show g1.length+(g2.length+1)=g1.length+(0+1)+g2.length by omega]
    exact this
theorem tK (g:List (Int×List Int)):∀ p∈mpE E2 g,Ac.g1 p.2=true:=by
  intro p hp
  obtain⟨q,_,rfl⟩:=List.mem_map.1 hp
  rfl
theorem Sub.groups {outer:List Fr} {fr:Fr} (yv:∀ r v sz xs,cX r v sz xs fr=fr) (iw:dM fr fr) (hb:Mc 1 fr=true) (ho:outer.all (Mc 1)=true) (g:List (Int×List Int)) :
    Sub outer fr (.mpo false (gE 1 g)::gR g) fr [.mp (mpE E2 g)]:=by
  have s1:=Sub.Aeq (outer:=outer) yv g []
  simp only[mpE,List.map_nil,List.nil_append,List.length_nil,Nat.zero_add,List.replicate_zero]at s1
  have s2:=Sub.Adt (outer:=outer) (fr:=fr) (H:=.mpo false (mpE E2 g)::List.replicate g.length .gone) 0 rfl (tK g)
  have s3:Sub outer fr (.mp (mpE E2 g)::List.replicate g.length .gone) fr [.mp (mpE E2 g)]:=Sub.weak ⟨rfl,by simp[Wz]⟩ iw (.inr ⟨hb,rfl,ho⟩)
  exact(s1.trans s2).trans s3
theorem yS {α:Type} (l:List α) (n:Nat):(l.take n).take n=l.take n:=by rw[List.take_take,Nat.min_self]
attribute [go_sem] E2 yS
end Go.Ab
namespace Go.Ab
open Go
section
variable {α σ ρ:Type}
theorem Ry {step step':Nat→α→σ→Option (Out σ ρ)}:∀ {l:List α} {k:Nat},(∀ i x s,l[i]? =some x→step (k+i) x s=step' (k+i) x s)→∀ s,Al step k l s=Al step' k l s
  | [],k,h,s=>rfl
  | x::r,k,h,s=>by
    have h0:=h 0 x s rfl
    rw[Nat.add_zero]at h0
    rw[Al,Al,h0]
    have ih:∀ s,Al step (k+1) r s=Al step' (k+1) r s:=Ry (l:=r) (k:=k+1) (fun i y s hy=>by
      have:=h (i+1) y s (by simpa using hy)
      rwa [show k+(i+1)=k+1+i by omega]at this)
    cases step' k x s with
    | none=>rfl
    | some o=>cases o with
      | next s'=>exact ih s'
      | ret r=>rfl
theorem L6 {step step':Nat→α→σ→Option (Out σ ρ)} {l:List α} {s:σ} (h:∀ i x s,l[i]? =some x→step i x s=step' i x s):Al step 0 l s=Al step' 0 l s:=
  Ry (k:=0) (fun i x s hx=>by rw[Nat.zero_add];exact h i x s hx) s
end
theorem Jv {α:Type} [DecidableEq α] {a b:List α} (h:a.Nodup) (hs:∀ x∈a,x∈b):a.length≤b.length:=by
  induction a generalizing b with
  | nil=>exact Nat.zero_le _
  | cons x a ih=>
    rw[List.nodup_cons]at h
    have hx:=hs x (by simp)
    have:=ih (b:=b.erase x) h.2 fun y hy=>(List.mem_erase_of_ne (fun(e:y=x)=>h.1 (e ▸ hy))).2 (hs y (List.mem_cons_of_mem _ hy))
    rw[List.length_erase_of_mem hx]at this
    have:0<b.length:=List.length_pos_of_mem hx
    simp only[List.length_cons];omega
def Inc (l:List Int):Prop:=l.Pairwise (·< ·)
theorem Inc.nodup {l:List Int} (h:Inc l):l.Nodup:=List.Pairwise.imp (fun h e=>by omega) h
theorem S0:∀ {a b:List Int},Inc a→Inc b→(∀ x,x∈a↔x∈b)→a=b
  | [],[],_,_,_=>rfl
  | [],y::b,_,_,h=>by have:=(h y).2 (by simp);simp at this
  | x::a,[],_,_,h=>by have:=(h x).1 (by simp);simp at this
  | x::a,y::b,ha,hb,h=>by
    have ha:=List.pairwise_cons.1 ha
    have hb:=List.pairwise_cons.1 hb
    have e:x=y:=by
      rcases List.mem_cons.1 ((h x).1 (by simp))with h1 | h1
      ·exact h1
      ·rcases List.mem_cons.1 ((h y).2 (by simp))with h2 | h2
       ·exact h2.symm
       ·have:=ha.1 y h2;have:=hb.1 x h1;omega
    subst e
    rw[S0 ha.2 hb.2 fun z=>?_]
    constructor
    ·intro hz
     rcases List.mem_cons.1 ((h z).1 (List.mem_cons_of_mem _ hz))with e | h1
     ·have:=ha.1 z hz;omega
     ·exact h1
    ·intro hz
     rcases List.mem_cons.1 ((h z).2 (List.mem_cons_of_mem _ hz))with e | h1
     ·have:=hb.1 z hz;omega
     ·exact h1
theorem Sv (xs:List Int):(Dn xs).Pairwise (·≤·):=by
  have:=List.pairwise_mergeSort (le:=fun x y:Int=>decide (x≤y)) (fun a b c h1 h2=>by simp at *;omega) (fun a b=>by simp;omega) xs
  exact this.imp (fun h=>by simpa using h)
theorem N0 (xs:List Int) (a:Int):a∈Dn xs↔a∈xs:=(List.mergeSort_perm xs _).mem_iff
theorem yY {xs:List Int} (h:xs.Nodup):Inc (Dn xs):=by
  have h1:(Dn xs).Nodup:=(List.mergeSort_perm xs _).nodup_iff.2 h
  exact((Sv xs).and h1).imp (fun⟨a,b⟩=>by omega)
theorem Fx {zs:List Int} {j:Nat} (h:j<zs.length):zs.toArray[j]! =zs[j]:=by simp[h]
theorem Zm {zs:List Int} (a:Int):a∈Cz zs↔a∈zs:=by
  unfold Cz Lib.compact Lib.compactUpTo
  rw[List.mem_map]
  constructor
  ·rintro⟨j,hj,rfl⟩
   have h1:=List.mem_range.1 (List.mem_filter.1 hj).1
   rw[Fx h1];exact List.getElem_mem h1
  ·intro ha
   obtain⟨i,hi,rfl⟩:=List.getElem_of_mem ha
   induction i with
   | zero=>exact ⟨0,List.mem_filter.2 ⟨List.mem_range.2 hi,by simp[Lib.keeps]⟩,Fx hi⟩
   | succ i ih=>
     by_cases e:zs[i+1]=zs[i]
     ·rw[e];exact ih (by omega) (List.getElem_mem _)
     ·refine⟨i+1,List.mem_filter.2 ⟨List.mem_range.2 hi,?_⟩,Fx hi⟩
      unfold Lib.keeps
      rw[Fx hi,Nat.add_sub_cancel,Fx (show i<zs.length by omega)]
      exact Aoo (.inr e)
theorem Zn {zs:List Int} (h:zs.Pairwise (·≤·)):Inc (Cz zs):=by
  unfold Cz Lib.compact Lib.compactUpTo Inc
  rw[List.pairwise_map]
  refine(List.pairwise_lt_range.filter _).imp_of_mem (fun {i j} hi hj ah=>?_)
  obtain⟨ru,hj2⟩:=List.mem_filter.1 hj
  have ru:=List.mem_range.1 ru
  rw[Fx (show i<zs.length by omega),Fx ru]
  unfold Lib.keeps at hj2
  have bj:=Aon hj2
  rw[Fx ru,Fx (show j - 1<zs.length by omega)]at bj
  rw[List.pairwise_iff_getElem]at h
  have h1:=h (j - 1) j (by omega) ru (by omega)
  rcases Nat.lt_or_ge i (j - 1)with hh | hh
  ·have:=h i (j - 1) (by omega) (by omega) hh;omega
  ·have e:i=j - 1:=by omega
   subst e;omega
def norm (xs:List Int):List Int:=Cz (Dn xs)
theorem Y5 (xs:List Int):Inc (norm xs):=Zn (Sv xs)
theorem Y4 (xs:List Int) (a:Int):a∈norm xs↔a∈xs:=by unfold norm;rw[Zm,N0]
theorem zA {α:Type} [DecidableEq α] {step:Nat→α→Unit→Option (Out Unit Bool)} {a b:List α} (hl:a.length=b.length) (hs:∀ k x y,a[k]? =some x→b[k]? =some y→step k x ()=bif decide (x≠y)then some (.ret false)else some (.next ())) :
    ((Al step 0 a ()).bind fun o=>o.on fun _=>some true)=some (decide (a=b)):=by
  rcases E5 (step:=step) (l:=a) (s:=()) (fun k _=>∀ i x,i<k→a[i]? =some x→b[i]? =some x) (fun r=>r=false∧a≠b) (fun i x h=>by omega) (fun k x u hk hI=>by
    have ah:=(Aoz.1 hk).1
    have hy:b[k]? =some b[k]:=Aoq (by omega)
    rw[hs k x _ hk hy]
    by_cases e:x=b[k]
    ·rw[Aop (by simpa using e)]
     refine .inl ⟨(),rfl,fun i z hi hz=>?_⟩
     by_cases h:i=k
     ·subst h;rw[hk]at hz;obtain rfl:=Aoy hz;rw[hy,← e]
     ·exact hI i z (by omega) hz
    ·rw[Aoo (by simpa using e)]
     refine .inr ⟨false,rfl,rfl,fun h=>e ?_⟩
     subst h
     rw[hk]at hy;exact Aoy hy)with ⟨s',h1,h2⟩ | ⟨r,h1,rfl,h2⟩
  ·rw[h1]
   have:a=b:=by
     apply List.ext_getElem? fun i=>?_
     by_cases hi:i<a.length
     ·rw[h2 i _ hi (Aoq hi),Aoq hi]
     ·rw[List.getElem?_eq_none (by omega),List.getElem?_eq_none (by omega)]
   rw[Aoo this];rfl
  ·rw[h1,Aop h2];rfl
theorem Abg {α:Type} [DecidableEq α] {step:Nat→α→Unit→Option (Out Unit Bool)} {a b:List α} (hs:∀ k x y,a[k]? =some x→b[k]? =some y→step k x ()=bif decide (x≠y)then some (.ret false)else some (.next ())) :
    (bif (decide (((a.length:Nat):Int)≠((b.length:Nat):Int)))then some false else(Al step 0 a ()).bind fun o=>o.on fun _=>some true)=some (decide (a=b)):=by
  by_cases h:a.length=b.length
  ·rw[Aop (by simp[h]),cond_false];exact zA h hs
  ·have h':¬ a=b:=fun e=>h (by rw[e])
   rw[Aoo (show((a.length:Nat):Int)≠((b.length:Nat):Int) by omega),Aop h'];rfl
theorem Zb {α:Type} [DecidableEq α] {step:Nat→α→Unit→Option (Out Unit Bool)} {l:List α} {n:α} (hs:∀ k x,x∈l→step k x ()=bif decide (x=n)then some (.ret true)else some (.next ())) :
    ((Al step 0 l ()).bind fun o=>o.on fun _=>some false)=some (decide (n∈l)):=by
  rw[Fz (step:=step) (fun x=>decide (x=n)) (fun _=>true) (fun k x hx=>hs k x hx)]
  by_cases h:n∈l
  ·obtain⟨x,hx⟩:∃ x,l.find? (fun x=>decide (x=n))=some x:=by
     cases hf:l.find? fun x=>decide (x=n)with
     | some x=>exact ⟨x,rfl⟩
     | none=>have:=List.find?_eq_none.1 hf n h;simp at this
   rw[hx,Aoo h];rfl
  ·have:l.find? (fun x=>decide (x=n))=none:=List.find?_eq_none.2 fun x hx=>by
     simp;rintro rfl;exact h hx
   rw[this,Aop h];rfl
theorem Wx {α:Type} {step:Nat→α→Unit→Option (Out Unit Bool)} {l:List α} (p:α→Bool) (hs:∀ k x,x∈l→step k x ()=bif p x then some (.ret true)else some (.next ())) :
    ((Al step 0 l ()).bind fun o=>o.on fun _=>some false)=some (l.any p):=by
  rw[Fz (step:=step) p (fun _=>true) (fun k x hx=>hs k x hx)]
  cases hf:l.find? p with
  | some x=>rw[List.any_eq_true.2 ⟨x,List.mem_of_find?_eq_some hf,List.find?_some hf⟩];rfl
  | none=>rw[List.any_eq_false.2 fun x hx=>by simpa using List.find?_eq_none.1 hf x hx];rfl
theorem zO (g:List (Int×List Int)) (k v n:Int):mget [] (gadd g k v) n=if k=n then mget [] g n++[v]else mget [] g n:=by
  unfold gadd;rw[aG]
  by_cases h:k=n
  ·subst h;simp
  ·simp[h]
end Go.Ab
namespace Go.Ab
open Go Go.RowKit
attribute [go_sem] singles
def fld (t o:Nat):Field:={name:= "",type:=t,offset:=o,embedded:=false,tag:= "",pkgPath:= "",byteOffset:=0}
section
variable {P:Program} {t:TypeId}
theorem Ca.array {tot n sz:Nat} {e:TypeId} {fl:List Field} {α:Type} {f:α→List Ac} {Pa:α→Prop} (ht:P.underlying t=some (.array n e)) (hc:P.cellsOf t=tot) (he:P.cellsOf e=sz)
    (hl:fl=(List.range n).map fun i=>fld e (i*sz)) (h:Xl P tot 0 fl f Pa):Ca P t f Pa:=by
  constructor
  intro H enc w base spare held fuel cs x hx
  obtain⟨xs,m,rfl,_,hlen,sw,hf⟩:=DataW.trod_array ht hx
  have:=h.op (cs:=cs) (by rw[hlen,hc]) fun i fd hi=>by
    rw[hl,List.getElem?_map]at hi
    have ij:i<n:=by
      cases hr:(List.range n)[i]? with
      | none=>rw[hr]at hi;cases hi
      | some j=>have:=(Aoz.1 hr).1;simpa using this
    rw[List.getElem?_range ij]at hi
    obtain rfl:=Aoy hi
    have:=hf i ij
    rw[Aoq (by omega),he]at this
    refine⟨xs[i],?_⟩
    simp only[fld,he]
    exact this
  simpa using this
theorem qV {w:World} {r:Reach} {base:Nat} {v:Value} {n:Nat} {e:TypeId} (ht:P.underlying t=some (.array n e)) (h:Value.okWide P w r base t v):∃ cs,v= .agg cs:=by
  simp only[Value.okWide,ht]at h
  obtain⟨cs,h1,_⟩:=h
  exact⟨cs,h1⟩
theorem Lg.array {n:Nat} {e:TypeId} {α:Type} {f:α→List Ac} {Pa:α→Prop} (ht:P.underlying t=some (.array n e)) (h:Ca P t f Pa):Lg P t (fun a=>.agg (f a)) Pa:=by
  constructor
  intro H enc w base b0 r spare held v d ps gw ⟨fuel,hf⟩
  obtain⟨cs,rfl⟩:=qV ht gw
  obtain⟨a,h1,h2⟩:=h.op hf
  refine⟨a,h1,.agg cs (f a) (by simpa[Value.cells]using h2.1) fun i u c hu hc=>h2.2 i u c (by simpa[Value.cells]using hu) hc⟩
end
variable {P:Program} {md:Option Nat}
theorem oP {md:Option Nat} {n m:Nat} {c:Code} {Q:Exit→Act→World→Prop} {a:Act} {w:World} (h:c.wpIn (fence md) n P Q a w):c.wpIn (fence md) m P Q a w:=
  fun b k cs h1 h2 _=>h b k cs h1 h2 (fun _ h=>by simp[fence,Fence.wide]at h)
theorem lB {W0:World} {C:Ctx} {w:World} (I:Inv W0 C w) {r D n:Nat} {fr:Fr} {ps:Array Tmp} {asg body:Code} {st:LoopState} {p:Option Code} (hr:C.H[r]? =some (.lp D n fr ps asg body st p)) :
    ∃ rec:Loop,w.heap[D+1]? =some (.loop rec)∧rec.state=st∧rec.pending=p∧rec.params=ps∧rec.assign=asg∧rec.body=body∧rec.tmps.size=n∧Uj C w rec.tmps fr∧
      ∀ st' p',Inv W0 (C.set r (.lp D n fr ps asg body st' p')) (w.putObj (D+1) (.loop {rec with state:=st',pending:=p'}))∧Fe C w (C.set r (.lp D n fr ps asg body st' p')) (w.putObj (D+1) (.loop {rec with state:=st',pending:=p'})):=by
  obtain⟨l,rec,h1,h0,h2,h3,h4,h5,h6,h7,h8,h9,pr,um,qi⟩:=I.objs r _ hr
  rw[h0]at h2
  refine⟨rec,h2,h6,h7,h3,h4,h5,h9,pr,fun st' p'=>?_⟩
  have hs:=I.sep r l h1
  have ah:D+1<w.heap.size:=by have:=hs.2.2.1;omega
  have bj:∀ b,b≠l.b→(w.putObj (D+1) (.loop {rec with state:=st',pending:=p'})).heap[b]? =w.heap[b]?:=fun b hb=>World.putObj_heap_other (by omega)
  refine I.put hr h1 bj World.putObj_size (Uh I.below (by omega) _) ?_ (fun m=>?_)
  ·unfold D3
   simp only[Ctx.set,List.getElem?_set_self hs.1]
   exact⟨⟨_,hr,rfl⟩,trivial⟩
  ·exact⟨l,{rec with state:=st',pending:=p'},h1,h0,by rw[h0];exact World.putObj_heap_same ah,h3,h4,h5,rfl,rfl,h8,h9,fun t=>(pr t).mono m,um,by rw[bj D (by omega)];exact qi⟩
def qT:Fr→List Tmp→List Ac→Fr
  | fr,t::ts,v::vs=>qT ((t,v)::fr) ts vs
  | fr,_,_=>fr
theorem l8 {C:Ctx} {w:World}:∀ (ps:List Tmp) (vs:List Value) (args:List Ac) (tmps:Array Value) (fr:Fr),Uj C w tmps fr→vs.length=args.length→(∀ t∈ps,t<tmps.size)→
    (∀ (i:Nat) (v:Value) (a:Ac),vs[i]? =some v→args[i]? =some a→A9 C w v a)→
    Uj C w ((ps.zip vs).foldl (fun tmps (t,a)=>tmps.setIfInBounds t a) tmps) (qT fr ps args)∧((ps.zip vs).foldl (fun tmps (t,a)=>tmps.setIfInBounds t a) tmps).size=tmps.size
  | [],vs,args,tmps,fr,h,_,_,_=>⟨by cases args<;>exact h,rfl⟩
  | t::ps,[],[],tmps,fr,h,_,_,_=>⟨h,rfl⟩
  | t::ps,v::vs,a::args,tmps,fr,h,hl,hp,hv=>by
    have hs:(tmps.setIfInBounds t v).size=tmps.size:=by simp
    have h':Uj C w (tmps.setIfInBounds t v) ((t,a)::fr):=h.put (a:={tmps:=tmps,defers:=[]}) (hv 0 v a rfl rfl) (some t) (fun k hk=>by simp at hk;subst hk;exact hp t (by simp))
    have:=l8 ps vs args (tmps.setIfInBounds t v) ((t,a)::fr) h' (by simpa using hl) (fun t' ht'=>by rw[hs];exact hp t' (List.mem_cons_of_mem _ ht')) (fun i v' a' h1 h2=>hv (i+1) v' a' (by simpa using h1) (by simpa using h2))
    exact⟨this.1,this.2.trans hs⟩
  | t::ps,[],a::args,tmps,fr,h,hl,_,_=>by simp at hl
  | t::ps,v::vs,[],tmps,fr,h,hl,_,_=>by simp at hl
def qyB (r D n:Nat) (fr:Fr) (ps:Array Tmp) (asg body:Code) (K:Ac→List Ak→Prop):Exit→Fr→List Ak→Prop
  | .normal,_,H=>∃ p,H[r]? =some (.lp D n fr ps asg body .busy p)∧K (.bool true) (H.set r (.lp D n fr ps asg body .ready none))
  | .ret,_,H=>∃ p,H[r]? =some (.lp D n fr ps asg body .busy p)∧K (.bool false) (H.set r (.lp D n fr ps asg body .done (some .ret)))
  | .exit id,_,H=>∃ p,H[r]? =some (.lp D n fr ps asg body .busy p)∧K (.bool false) (H.set r (.lp D n fr ps asg body .done (some (.exit id))))
  | _,_,_=>False
def qyA (md:Option Nat) (P:Program) (st:List Fr) (r D n:Nat) (fr:Fr) (ps:Array Tmp) (asg body bodyc:Code) (K:Ac→List Ak→Prop):Exit→Fr→List Ak→Prop
  | .normal,fr1,H=>∃ p,H[r]? =some (.lp D n fr ps asg body .ready p)∧AWP md P n bodyc (qyB r D n fr ps asg body K) st fr1 (H.set r (.lp D n fr ps asg body .busy p))
  | _,_,_=>False
theorem Ah.yield {r D n:Nat} {fr:Fr} {ps:Array Tmp} {asg body:Code} {p:Option Code} {args:List Ac} {st:List Fr} {H:List Ak} {K:Ac→List Ak→Prop} (hr:H[r]? =some (.lp D n fr ps asg body .ready p))
    (hlen:args.length=ps.size) (hps:(ps.toList.all fun t=>Nat.blt t n)=true) {asgc bodyc:Code} {pl:List Tmp} (hA:asg=asgc) (hB:body=bodyc) (qf:ps.toList=pl) (h:∀ md,AWP md P n asgc (qyA md P st r D n fr ps asg body bodyc K) st (qT fr pl args) H):Ah P (.yld r) args st H K:=by
  subst hA hB qf
  intro W0 C w outs fv vs I hH hO hf hl hv
  subst hH
  obtain⟨rec,e1,e2,e3,rfl,rfl,rfl,e7,e8,e9⟩:=lB I hr
  cases hf with
  | yld b _ hk hh=>
    obtain⟨l,h1,rfl⟩:=hh _ hr rfl
    obtain⟨l',_,qj,yz,_⟩:=I.objs r _ hr
    have hb:l.b=D+1:=by rw[h1]at qj;obtain rfl:=Aoy qj;exact yz
    rw[hb]
    refine .inr ⟨D+1,rec,rfl,e1,by rw[hl,hlen],roundIn_of_wpIn (F:=Fence.wide) trivial ?_⟩
    have hfold:(rec.params.zip vs.toArray).foldl (fun tmps (t,a)=>tmps.setIfInBounds t a) rec.tmps=(rec.params.toList.zip vs).foldl (fun tmps (t,a)=>tmps.setIfInBounds t a) rec.tmps:=by
      rw[← Array.foldl_toList];simp
    rw[hfold]
    have hF:=l8 rec.params.toList vs args rec.tmps fr e8 hl (fun t ht=>by
      have:=List.all_eq_true.1 hps t ht
      rw[e7];simpa using this) hv
    refine oP (md:=some (D+1)) (n:=5) (wpIn_mono (h (some (D+1)) W0 C.A0 [] outs _ w ⟨C,rfl,rfl,I,hF.1,hO,by rw[← e7];exact hF.2,rfl⟩) ?_)
    intro e a1 w1 ⟨fr1,H1,hq,hR1⟩
    cases e with
    | normal=>
      obtain⟨p1,hr1,td⟩:=hq
      obtain⟨C1,rfl,hA1,I1,hF1,db,hn1,hd1⟩:=hR1.ex
      obtain⟨rec1,f1,f2,f3,f4,f5,f6,f7,f8,f9⟩:=lB I1 hr1
      have t1:=f9 .busy p1
      refine⟨_,run_beginRound f1 f2,?_⟩
      rw[show({rec1 with state:=LoopState.busy}:Loop)={rec1 with state:=.busy,pending:=p1} by rw[← f3]]
      refine oP (md:=some (D+1)) (n:=5) (wpIn_mono (td W0 C.A0 [] outs a1 _ ⟨C1.set r (.lp D n fr rec.params rec.assign rec.body .busy p1),rfl,hA1,t1.1,hF1.mono t1.2,db.mono t1.2,hn1,hd1⟩) ?_)
      intro e a2 w2 ⟨fr2,H2,hq2,hR2⟩
      have fin:∀ (jump:Option Code) (p2:Option Code) (b:Bool) (st2:LoopState),b=jump.isNone→st2=(if jump.isNone then LoopState.ready else .done)→H2[r]? =some (.lp D n fr rec.params rec.assign rec.body .busy p2)→K (.bool b) (H2.set r (.lp D n fr rec.params rec.assign rec.body st2 jump))→
       ∃ v w',(Instr.endRound (D+1) jump).run P w2= .ok v w'∧∃ v' r C',Ending.returned v= .returned v'∧K r C'.H∧C'.A0=C.A0∧A9 C' w' v' r∧Inv W0 C' w'∧Em C' w' outs st:=by
        intro jump p2 b st2 hb jt jg hk
        subst hb jt
        obtain⟨C2,rfl,hA2,I2,hF2,dn,vh,hd2⟩:=hR2.ex
        obtain⟨rec2,g1,g2,g3,g4,g5,g6,g7,g8,g9⟩:=lB I2 jg
        have t2:=g9 (if jump.isNone then LoopState.ready else .done) jump
        exact⟨_,_,run_endRound jump g1,_,_,C2.set r (.lp D n fr rec.params rec.assign rec.body (if jump.isNone then LoopState.ready else LoopState.done) jump),rfl,hk,hA2,.bool _,t2.1,dn.mono t2.2⟩
      cases e with
      | normal=>obtain ⟨p2,jg,hk⟩:=hq2;exact fin none p2 true _ rfl rfl jg hk
      | ret=>obtain ⟨p2,jg,hk⟩:=hq2;exact fin (some .ret) p2 false _ rfl rfl jg hk
      | exit id=>obtain ⟨p2,jg,hk⟩:=hq2;exact fin (some (.exit id)) p2 false _ rfl rfl jg hk
      | _=>exact hq2.elim
    | _=>exact hq.elim
def Ad1 (D:Nat) (H:List Ak):Prop:=∃ (r n:Nat) (fr:Fr) (ps:Array Tmp) (asg body:Code) (st:LoopState) (p:Option Code),H[r]? =some (Ak.lp D n fr ps asg body st p)
def oO (P:Program) (n:Nat) (c:Code) (Q:Exit→Fr→List Ak→Prop) (fr:Fr) (H:List Ak):Prop:=
  ∀ (W0:World) (A0:Nat→Prop) (a:Act) (w:World),F5 W0 A0 [] n [] [] fr H a w→
    c.wpIn (fence none) 5 P (fun e a' w'=>∃ fr' H',Q e fr' H'∧(F5 W0 A0 [] n [] [] fr' H' a' w'∨∃ D,W0.heap.size≤D∧Ad1 D H'∧F5 W0 A0 [{target:=.collected D,args:=#[]}] n [] [] fr' H' a' w')) a w
theorem oO.pre {n:Nat} {c d:Code} {Q:Exit→Fr→List Ak→Prop} {fr:Fr} {H:List Ak} (h:AWP none P n c (qthen (oO P n d Q) Q) [] fr H):oO P n (.seq c d) Q fr H:=by
  intro W0 A0 a w R
  refine wpIn_seq (wpIn_mono (h W0 A0 [] [] a w R) ?_)
  intro e a' w' ⟨fr',H',hq,hR⟩
  cases e<;>first | exact hq W0 A0 a' w' hR | exact⟨fr',H',hq,.inl hR⟩
def qmD (D:Nat) (Q:Exit→Fr→List Ak→Prop) (e:Exit) (fr:Fr) (H:List Ak):Prop:=Ad1 D H∧Q e fr H
theorem qmD.mk {D r n:Nat} {Q:Exit→Fr→List Ak→Prop} {e:Exit} {fr:Fr} {H:List Ak} {fr':Fr} {ps:Array Tmp} {asg body:Code} {st:LoopState} {p:Option Code} (hr:H[r]? =some (.lp D n fr' ps asg body st p)) (h:Q e fr H):qmD D Q e fr H:=⟨⟨r,n,fr',ps,asg,body,st,p,hr⟩,h⟩
def vM (P:Program) (n:Nat) (c:Code) (N:Option Nat→Fr→List Ak→Prop) (Q:Exit→Fr→List Ak→Prop) (fr:Fr) (H:List Ak):Prop:=
  ∀ (W0:World) (A0:Nat→Prop) (a:Act) (w:World),F5 W0 A0 [] n [] [] fr H a w→
    c.wpIn (fence none) 5 P (fun e a' w'=>∃ fr' H',(match e with
      | .normal=>(N none fr' H'∧F5 W0 A0 [] n [] [] fr' H' a' w')∨∃ D,W0.heap.size≤D∧N (some D) fr' H'∧F5 W0 A0 [{target:=.collected D,args:=#[]}] n [] [] fr' H' a' w'
      | e=>Q e fr' H'∧(F5 W0 A0 [] n [] [] fr' H' a' w'∨∃ D,W0.heap.size≤D∧Ad1 D H'∧F5 W0 A0 [{target:=.collected D,args:=#[]}] n [] [] fr' H' a' w'))) a w
def nafter (P:Program) (n:Nat) (d:Code) (Q:Exit→Fr→List Ak→Prop):Option Nat→Fr→List Ak→Prop
  | none=>oO P n d Q
  | some D=>AWP none P n d (qmD D Q) []
theorem oO.seqq {n:Nat} {c d:Code} {Q:Exit→Fr→List Ak→Prop} {fr:Fr} {H:List Ak} (h:vM P n c (nafter P n d Q) Q fr H):oO P n (.seq c d) Q fr H:=by
  intro W0 A0 a w R
  refine wpIn_seq (wpIn_mono (h W0 A0 a w R) ?_)
  intro e a' w' ⟨fr',H',hq⟩
  cases e with
  | normal=>
    rcases hq with⟨hn,hR⟩ | ⟨D,xz,hn,hR⟩
    ·exact hn W0 A0 a' w' hR
    ·exact wpIn_mono (hn W0 A0 _ [] a' w' hR) fun e a' w' ⟨fr',H',hq,hR⟩=>⟨fr',H',hq.2,.inr ⟨D,xz,hq.1,hR⟩⟩
  | _=>exact ⟨fr',H',hq.1,hq.2⟩
theorem vM.seq {n:Nat} {c d:Code} {N:Option Nat→Fr→List Ak→Prop} {Q:Exit→Fr→List Ak→Prop} {fr:Fr} {H:List Ak} (h:AWP none P n c (qthen (vM P n d N Q) Q) [] fr H):vM P n (.seq c d) N Q fr H:=by
  intro W0 A0 a w R
  refine wpIn_seq (wpIn_mono (h W0 A0 [] [] a w R) ?_)
  intro e a' w' ⟨fr',H',hq,hR⟩
  cases e<;>first | exact hq W0 A0 a' w' hR | exact⟨fr',H',hq,.inl hR⟩
def qrange (n:Nat) (N:Option Nat→Fr→List Ak→Prop) (Q:Exit→Fr→List Ak→Prop) (id D r:Nat) (fr:Fr) (ps:Array Tmp) (asg body:Code) (_:Ac) (H:List Ak):Prop:=
  ∃ st p,H[r]? =some (.lp D n fr ps asg body st p)∧st≠.busy∧
    match p with
    | none=>N (some D) fr (H.set r (.lp D n fr ps asg body .exhausted p))
    | some .ret=>Q .ret fr (H.set r (.lp D n fr ps asg body .exhausted p))
    | some (.exit i)=>i=id∧N (some D) fr (H.set r (.lp D n fr ps asg body .exhausted p))
    | _=>False
section
variable {n id D r:Nat} {N:Option Nat→Fr→List Ak→Prop} {Q:Exit→Fr→List Ak→Prop} {fr:Fr} {ps:Array Tmp} {asg body d:Code} {v:Ac} {H:List Ak}
theorem qrange.all (hr:H[r]? =some (.lp D n fr ps asg body .ready none)) (h:AWP none P n d (qmD D Q) [] fr (H.set r (.lp D n fr ps asg body .exhausted none))):qrange n (nafter P n d Q) Q id D r fr ps asg body v H:=⟨_,_,hr,by simp,h⟩
theorem qrange.ret (hr:H[r]? =some (.lp D n fr ps asg body .done (some .ret))) (h:Q .ret fr (H.set r (.lp D n fr ps asg body .exhausted (some .ret)))):qrange n N Q id D r fr ps asg body v H:=⟨_,_,hr,by simp,h⟩
end
theorem qyA.mk {md:Option Nat} {st:List Fr} {r D n:Nat} {fr fr1:Fr} {ps:Array Tmp} {asg body bodyc:Code} {K:Ac→List Ak→Prop} {H:List Ak} {p:Option Code} (hr:H[r]? =some (.lp D n fr ps asg body .ready p))
    (h:AWP md P n bodyc (qyB r D n fr ps asg body K) st fr1 (H.set r (.lp D n fr ps asg body .busy p))):qyA md P st r D n fr ps asg body bodyc K .normal fr1 H:=⟨p,hr,h⟩
section
variable {r D n:Nat} {fr fr1:Fr} {ps:Array Tmp} {asg body:Code} {K:Ac→List Ak→Prop} {H:List Ak} {p:Option Code}
theorem qyB.next (hr:H[r]? =some (.lp D n fr ps asg body .busy p)) (h:K (.bool true) (H.set r (.lp D n fr ps asg body .ready none))):qyB r D n fr ps asg body K .normal fr1 H:=⟨p,hr,h⟩
theorem qyB.ret (hr:H[r]? =some (.lp D n fr ps asg body .busy p)) (h:K (.bool false) (H.set r (.lp D n fr ps asg body .done (some .ret)))):qyB r D n fr ps asg body K .ret fr1 H:=⟨p,hr,h⟩
theorem qyB.exit {id:Nat} (hr:H[r]? =some (.lp D n fr ps asg body .busy p)) (h:K (.bool false) (H.set r (.lp D n fr ps asg body .done (some (.exit id))))):qyB r D n fr ps asg body K (.exit id) fr1 H:=⟨p,hr,h⟩
end
theorem vM.range {n id:Nat} {g:Operand} {ps:Array Tmp} {asg body:Code} {N:Option Nat→Fr→List Ak→Prop} {Q:Exit→Fr→List Ak→Prop} {fr0:Fr} {H:List Ak} {f:FuncId} {cs:List Ac} (fr:Fr) (vq:dM fr0 fr) (vp:Wz H H) (hg:ev fr g= .func f cs)
    (h:∀ D asg' body',asg'=asg→body'=body→Ah P (.func f cs) [.yld H.length] [fr] (H++[.lp D n fr ps asg' body' .ready none]) (qrange n N Q id D H.length fr ps asg' body')):vM P n (.block id (.rangeFunc g ps asg body)) N Q fr0 H:=by
  intro W0 A0 a w R0
  have R:=Sub.weak (outer:=[]) vp vq (.inl rfl) _ _ _ _ _ _ _ R0
  clear R0 vq vp
  replace h:=fun D=>h D asg body rfl rfl
  obtain⟨C,rfl,rfl,I,hF,hO,hn,hd⟩:=R.ex
  refine wpIn_block (wpIn_rangeFunc fun fn _=>?_)
  have rz:=run_enterLoop_outer (P:=P) (w:=w) fn a.tmps ps asg body
  have g1:=I.grow (w':=w.alloc (.deferred (some []))) (fun b=>b=w.heap.size) (fun b hb=>by subst hb;simp) (by
    exact((Below.refl w.heap.size w).alloc (Nat.le_refl _) _))
  have hD:(w.alloc (.deferred (some []))).heap[w.heap.size]? =some (.deferred (some [])):=World.alloc_heap_new w _
  have g2:=g1.1.alloc (C.more fun b=>b=w.heap.size).H.length (.inl rfl) (.lp w.heap.size n fr ps asg body .ready none)
    (.loop {state:=.ready,pending:=none,fn,tmps:=a.tmps,params:=ps,assign:=asg,body:=body,defers:=w.heap.size}) 0 (fun m=>by
      refine⟨_,_,Ctx.U0 _ _ _ _,by simp,Ea _ _,rfl,rfl,rfl,rfl,rfl,rfl,hn,fun t=>((hF t).mono g1.2).mono m,.inr rfl,?_⟩
      rw[Below.heap_alloc _ _ _ (by simp)];exact hD)
  have hH:((C.more fun b=>b=w.heap.size).new (C.more fun b=>b=w.heap.size).H.length (.lp w.heap.size n fr ps asg body .ready none) ⟨(w.alloc (.deferred (some []))).heap.size,0,0⟩).H=C.H++[.lp w.heap.size n fr ps asg body .ready none]:=by
    show G9 C.H C.H.length _=_
    unfold G9;rw[if_pos rfl]
  have hm:=g1.2.trans g2.2
  have ma:=h w.heap.size W0 _ _ (a.tmps::[]) (a.eval g) [.func (.yield (w.heap.size+1)) #[] #[]] g2.1 hH (Em.nil.cons (hF.mono hm)) (hg ▸ Sg (hF.mono hm) g) rfl (fun i v x hv hx=>by
    match i with
    | 0=>
      simp at hv hx
      subst hv hx
      refine .yld _ _ (Ctx.Tb (C:=C.more fun b=>b=w.heap.size) (.inl rfl) _ (by simp)) fun o ho hlp=>⟨_,Ctx.U0 (C.more fun b=>b=w.heap.size) _ _ _,by simp⟩
    | i+1=>simp at hv)
  rcases ma with⟨fid,caps,h1,h2,h3⟩ | ⟨l,rec,h1,hl,_⟩
  ·generalize pa:(w.alloc (.deferred (some []))).alloc (.loop {state:=.ready,pending:=none,fn,tmps:=a.tmps,params:=ps,assign:=asg,body:=body,defers:=w.heap.size})=W1 at rz h3 g2 hm
   refine⟨w.heap.size+1,[{target:=.collected w.heap.size,args:=#[]}],W1,{target:=.fn (.func fid) caps,args:=#[.func (.yield (w.heap.size+1)) #[] #[]]},W1,fid,#[.func (.yield (w.heap.size+1)) #[] #[]]++caps,W1,rz,?_,fun _ _=>trivial,?_,U6,?_⟩
   rotate_left 2
   ·refine Zk (h3.mono ?_)
    rintro e w3 ⟨v,r,C3,he,hk,hA,hv,I3,ew⟩
    subst he
    obtain⟨st,p,hr,jt,hk⟩:=hk
    obtain⟨rec,e1,e2,e3,e4,e5,e6,e7,e8,e9⟩:=lB I3 hr
    have t:=e9 .exhausted p
    refine⟨rec.pending,_,run_endLoop e1 (by rw[e2];exact jt),?_⟩
    rw[show({rec with state:=LoopState.exhausted}:Loop)={rec with state:=.exhausted,pending:=p} by rw[← e3]]
    have ah:=(Aoz.1 hr).1
    have hhas:Ad1 w.heap.size (C3.H.set C.H.length (.lp w.heap.size n fr ps asg body .exhausted p)):=⟨C.H.length,_,_,_,_,_,_,_,List.getElem?_set_self ah⟩
    have R3:F5 W0 C.A0 ({target:=.collected w.heap.size,args:=#[]}::[]) n [] [] fr (C3.H.set C.H.length (.lp w.heap.size n fr ps asg body .exhausted p)) {a with defers:=[{target:=.collected w.heap.size,args:=#[]}]++a.defers} (w3.putObj (w.heap.size+1) (.loop {rec with state:=.exhausted,pending:=p})):=
      ⟨C3.set C.H.length (.lp w.heap.size n fr ps asg body .exhausted p),rfl,hA,t.1,ew.head.mono t.2,.nil,hn,by simp[hd]⟩
    rw[e3]
    cases p with
    | none=>exact ⟨fr,_,.inr ⟨_,I.below.size,hk,R3⟩⟩
    | some c=>
      cases c<;>first | exact hk.elim | skip
      ·obtain⟨rfl,hk⟩:=hk
       refine wpIn_exit ?_
       simp only[Exit.inBlock,if_pos]
       exact⟨fr,_,.inr ⟨_,I.below.size,hk,R3⟩⟩
      ·exact wpIn_ret ⟨fr,_,hk,.inr ⟨_,I.below.size,hhas,R3⟩⟩
   ·simp only[resolve,rangeCall,Deferred.ofValue,h1,Sem.run_bind,Sem.run_pure,Result.andThen_ok]
    rw[show(#[]++Array.map a.eval #[Operand.const (Value.func (Fn.yield (w.heap.size+1)) #[] #[])]:Array Value)=#[Value.func (Fn.yield (w.heap.size+1)) #[] #[]] by apply Array.ext';simp[Act.eval]]
   ·simp only[invoke]
    exact h2 _ _
  ·have hv:=Sg hF g
   rw[hg,h1]at hv
   cases hv
def Pj:Ak→Ak
  | .lp _ _ _ _ _ _ _ _=>.gone
  | o=>o
def Ctx.Pj (C:Ctx):Ctx:={C with ρ:=fun r=>match C.H[r]? with | some (.lp _ _ _ _ _ _ _ _)=>none | _=>C.ρ r,H:=C.H.map Go.Ab.Pj}
theorem Ctx.T6 (C:Ctx) (r:Nat):C.Pj.H[r]? =(C.H[r]?).map Go.Ab.Pj:=by simp[Ctx.Pj]
theorem Ctx.W7 {C:Ctx} {r:Nat} {o:Ak} (h:C.Pj.H[r]? =some o) (ho:o≠.gone):C.H[r]? =some o∧C.Pj.ρ r=C.ρ r:=by
  rw[Ctx.T6]at h
  cases hc:C.H[r]? with
  | none=>rw[hc]at h;cases h
  | some o0=>
    rw[hc]at h
    obtain rfl:=Aoy h
    cases o0<;>first | exact absurd rfl ho | exact⟨rfl,by simp only[Ctx.Pj,hc]⟩
theorem Ctx.Qn {C:Ctx} {r:Nat} (h:C.known r):C.Pj.known r:=by
  obtain⟨o,ho,bj⟩:=h
  refine⟨Go.Ab.Pj o,by rw[Ctx.T6,ho];rfl,?_⟩
  cases o<;>first | exact absurd rfl bj | simp[Go.Ab.Pj]
theorem A9.shut {C:Ctx} {w w':World} {D:Nat} {ds:Option (List Deferred)} (hD:w.heap[D]? =some (.deferred ds)) (hw:∀ b,b≠D→w'.heap[b]? =w.heap[b]?) {v:Value} {a:Ac} (h:A9 C w v a):A9 C.Pj w' v a:=by
  have au:∀ (ad:Addr) (u:Value),w.cell? ad=some u→w'.cell? ad=some u:=by
    intro ad u h
    by_cases e:ad.block=D
    ·have:w.cell? ad=none:=by unfold World.cell?;rw[e,hD]
     rw[this]at h;cases h
    ·rw[Hm (hw _ e)];exact h
  induction h with
  | any v=>exact .any v
  | bool b=>exact .bool b
  | int k n=>exact .int k n
  | str s=>exact .str s
  | agg arr cs h _ ih=>exact .agg arr cs h ih
  | tuple arr cs h _ ih=>exact .tuple arr cs h ih
  | nils=>exact .nils
  | z0 a=>exact .z0 a
  | sl0 a cap sz cq=>exact .sl0 a cap sz cq
  | sl a len cap xs sz u de hlen dm cq hA cg cn hg hc bc ih=>exact .sl a len cap xs sz u de hlen dm cq hA cg cn hg (fun j hj=>au _ _ (hc j hj)) ih
  | own a len cap r v lo hr dm cq hv=>
    refine .own a len cap r v lo (Ctx.Qn hr) dm cq fun v' sz xs h=>?_
    have:=Ctx.W7 h (by simp)
    rw[this.2];exact hv _ _ _ this.1
  | eptr a cs u de hA hg hc bc ih=>exact .eptr a cs u de hA hg (fun j hj=>au _ _ (hc j hj)) ih
  | ptr a r k hr h=>
    refine .ptr a r k (Ctx.Qn hr) fun cs h'=>?_
    have:=Ctx.W7 h' (by simp)
    rw[this.2];exact h _ this.1
  | rptr a r v i k hr h=>
    refine .rptr a r v i k (Ctx.Qn hr) fun v' sz xs h'=>?_
    have:=Ctx.W7 h' (by simp)
    rw[this.2];exact h _ _ _ this.1
  | nilm=>exact .nilm
  | map b r hr h=>
    refine .map b r (Ctx.Qn hr) fun o h' hl=>?_
    have:=Ctx.W7 h' (by rintro rfl;cases hl)
    rw[this.2];exact h _ this.1 hl
  | vmap0=>exact .vmap0
  | vmap b es entries clock hA hg hh cy bc ih=>
    refine .vmap b es entries clock hA hg ?_ cy ih
    rw[hw b (fun e=>by rw[e,hD]at hh;cases hh)];exact hh
  | func f arr cs h _ ih=>exact .func f arr cs h ih
  | iter a r hr de h=>
    refine .iter a r (Ctx.Qn hr) de fun left cur h'=>?_
    have:=Ctx.W7 h' (by simp)
    rw[this.2];exact h _ _ this.1
  | yld b r hr h=>
    refine .yld b r (Ctx.Qn hr) fun o h' hl=>?_
    have:=Ctx.W7 h' (by rintro rfl;cases hl)
    rw[this.2];exact h _ this.1 hl
theorem Inv.shut {W0:World} {C:Ctx} {w w':World} (I:Inv W0 C w) {D:Nat} {ds:Option (List Deferred)} (hD:w.heap[D]? =some (.deferred ds)) (hw:∀ b,b≠D→w'.heap[b]? =w.heap[b]?) (cn:w'.heap.size=w.heap.size) (hb:Below W0.heap.size W0 w'):Inv W0 C.Pj w':=by
  have sh:∀ {v a},A9 C w v a→A9 C.Pj w' v a:=fun h=>h.shut hD hw
  have hρ:∀ {r l},C.Pj.ρ r=some l→C.ρ r=some l:=by
    intro r l h
    simp only[Ctx.Pj]at h
    split at h
    ·cases h
    ·exact h
  refine⟨hb,fun b hA=>by rw[cn];exact I.sub b hA,I.old,fun r l h=>?_,fun r r' l l' h h'=>I.inj r r' l l' (hρ h) (hρ h'),fun r o h=>?_⟩
  ·have:=I.sep r l (hρ h)
   exact⟨by simpa[Ctx.Pj]using this.1,this.2.1,by rw[cn];exact this.2.2.1,this.2.2.2⟩
  ·by_cases hg:o= .gone
   ·subst hg
    show C.Pj.ρ r=none
    rw[Ctx.T6]at h
    cases hc:C.H[r]? with
    | none=>rw[hc]at h;cases h
    | some o0=>
      rw[hc]at h
      have h:=Aoy h
      have hR:=I.objs r o0 hc
      cases o0<;>simp only[Go.Ab.Pj]at h<;>first | (cases h;done) | skip
      ·simp only[Ctx.Pj,hc]
      ·simp only[Ctx.Pj,hc];exact hR
   ·obtain⟨h1,h2⟩:=Ctx.W7 h hg
    have hR:=I.objs r o h1
    have bj:∀ {b:Nat} {o':Obj},w.heap[b]? =some o'→(∀ x,o'≠Obj.deferred x)→w'.heap[b]? =some o':=by
      intro b o' hb hx
      rw[hw b (fun e=>by rw[e,hD]at hb;exact hx _ (Aoy hb).symm)];exact hb
    cases o with
    | box cs=>
      obtain⟨l,arr,T,h1,h3,h4,h5⟩:=hR
      exact⟨l,arr,T,by rw[h2];exact h1,bj h3 (by simp),h4,fun i u c a b=>sh (h5 i u c a b)⟩
    | row v sz xs=>
      obtain⟨e1,e2,e3,h⟩:=hR
      refine⟨e1,e2,e3,?_⟩
      rcases h with⟨h1,h3⟩ | ⟨l,arr,T,h1,h3,h4,h5,h6⟩
      ·exact .inl ⟨h1,by rw[h2];exact h3⟩
      ·refine .inr ⟨l,arr,T,by rw[h2];exact h1,bj h3 (by simp),h4,h5,fun i k x c a b=>?_⟩
       obtain⟨u,hu,hr⟩:=h6 i k x c a b
       exact⟨u,hu,sh hr⟩
    | mp es=>
      obtain⟨l,en,cl,h1,h3,h4,hg,h5⟩:=hR
      exact⟨l,en,cl,by rw[h2];exact h1,bj h3 (by simp),h4,hg,fun i e p a b=>sh (h5 i e p a b)⟩
    | mpo q es=>
      obtain⟨l,en,cl,h1,h3,h4,h5⟩:=hR
      exact⟨l,en,cl,by rw[h2];exact h1,bj h3 (by simp),h4,fun i e p a b=>sh (h5 i e p a b)⟩
    | it left cur=>
      obtain⟨l,h1,h⟩:=hR
      refine⟨l,by rw[h2];exact h1,?_⟩
      rcases h with⟨e2,e2',s,n,k,h3⟩ | ⟨bm,seen,en,clock,e2,h3,h4,h5,h6,h7,h8⟩
      ·exact .inl ⟨e2,e2',s,n,k,bj h3 (by simp)⟩
      ·refine .inr ⟨bm,seen,en,clock,bj e2 (by simp),h3,bj h4 (by simp),h5,h6,⟨h7.1,fun i e p a b=>⟨(h7.2 i e p a b).1,(h7.2 i e p a b).2.1,sh (h7.2 i e p a b).2.2⟩⟩,fun p hp=>?_⟩
       obtain⟨e,g1,g2,g3,g4,g5⟩:=h8 p hp
       exact⟨e,g1,g2,g3,g4,sh g5⟩
    | lp D' n fr ps asg body st p=>
      rw[Ctx.T6,h1]at h
      exact absurd (Aoy h).symm hg
    | gone=>exact absurd rfl hg
    | resv=>show C.Pj.ρ r=none;rw[h2];exact hR
theorem rN (fr:Fr) (C:Ctx) (rv:ResultVar) {a:Ac} (h:aresult P fr C.H rv=some a):aresult P fr C.Pj.H rv=some a:=by
  cases rv with
  | tmp t=>exact h
  | cell p T=>
    simp only[aresult]at h ⊢
    split at h
    ·rename_i r k hpk
     rw[Ctx.T6]
     cases hc:C.H[r]? with
     | none=>rw[hc]at h;cases h
     | some o=>
       rw[hc]at h
       cases o<;>first | exact h | (cases h;done)
    ·cases h
theorem bR (fr:Fr) (C:Ctx):∀ (l:List ResultVar) {vs:List Ac},Gz (aresult P fr C.H) l=some vs→Gz (aresult P fr C.Pj.H) l=some vs
  | [],vs,h=>h
  | rv::l,vs,h=>by
    simp only[Gz]at h ⊢
    split at h
    ·rename_i y ys h1 h2
     rw[rN fr C rv h1,bR fr C l h2]
     exact h
    ·cases h
theorem pT (C:Ctx) (a:Ac):Zg C.Pj.H a=Zg C.H a:=by
  unfold Zg
  split
  ·rename_i r _ _ _
   rw[Ctx.T6]
   cases hc:C.H[r]? with
   | none=>rfl
   | some o=>cases o<;>rfl
  ·rename_i r
   rw[Ctx.T6]
   cases hc:C.H[r]? with
   | none=>rfl
   | some o=>cases o<;>rfl
  all_goals rfl
theorem cT {α β:Type} {f g:α→Option β} (h:∀ x,f x=g x):∀ l:List α,Gz f l=Gz g l
  | []=>rfl
  | x::l=>by simp only[Gz,h x,cT h l]
theorem pS (C:Ctx) (a:Ac):Pz C.Pj.H a=Pz C.H a:=by
  unfold Pz
  split
  ·rw[cT (pT C)]
  ·exact pT C _
theorem Aab (C:Ctx) (a:Ac):oF C.Pj.H a=oF C.H a:=by
  unfold oF
  split
  ·rw[cT (pS C)]
  ·exact pS C _
theorem Ad.Ae6 {f:FuncId} {fn:Func} {c:Code} {n:Nat} {args:List Ac} {R:Ac→Prop} (hf:P.funcs[f]? =some fn) (hb:fn.body=some c) (hn:fn.ntmps=n) (hlen:args.length≤n)
    (h:oO P n c (qret P fn (rfrz R)) (Ub args 0) []):Ad P f args R:=by
  intro A w vs hA fc
  have fm:(vs.toArray++Array.replicate (fn.ntmps - vs.toArray.size) undef).size=n:=by
    have:=fc.1
    simp only[Array.size_append,List.size_toArray,Array.size_replicate];omega
  have I0:Inv w (Ctx.imm A) w:=⟨.refl _ _,hA,fun b hb _=>hb,by simp[Ctx.imm],by simp[Ctx.imm],by simp[Ctx.imm]⟩
  refine(callsIn_wide (n:=5)).1 (callsIn_of_wp_marks hf hb trivial (wpIn_mono (h w A _ w ⟨Ctx.imm A,rfl,rfl,I0,Wv fc _,.nil,fm,rfl⟩) ?_))
  intro e a' w' ⟨fr',H',hq,hR⟩
  have key:∀ (C:Ctx) (w2:World),C.A0=A→Inv w C w2→Uj C w2 a'.tmps fr'→(match Gz (aresult P fr' C.H) fn.results.toList with | some vs=>rfrz R (aret vs) C.H | none=>False)→
   LeavesIn Fence.wide 5 P fn a'.tmps (fun e w'=>∃ v r,e= .returned v∧R r∧r.g2=true∧Below w.heap.size w w'∧A9 (Ctx.imm fun b=>A b∨(w.heap.size≤b∧b<w'.heap.size)) w' v r) [] .returning w2:=by
    intro C w2 gq I hF h
    split at h
    ·rename_i rs ri
     obtain⟨v,h1,h2⟩:=Rf (P:=P) I hF ri
     unfold rfrz at h
     split at h
     ·rename_i r hr
      have h3:=Ze I h2 hr
      refine⟨v,h1,v,r,rfl,h,h3.1,I.below,A9.ground' (fun b hb=>?_) h3.2 h3.1⟩
      rcases hb with hb | hb
      ·by_cases ah:b<w.heap.size
       ·exact .inl (gq ▸ I.old b hb ah)
       ·exact .inr ⟨by omega,I.sub b hb⟩
      ·exact .inr hb
     ·exact h.elim
    ·exact h.elim
  have all:(match Gz (aresult P fr' H') fn.results.toList with | some vs=>rfrz R (aret vs) H' | none=>False)→
   LeavesInM Fence.wide 5 P fn a'.tmps (fun e w'=>∃ v r,e= .returned v∧R r∧r.g2=true∧Below w.heap.size w w'∧A9 (Ctx.imm fun b=>A b∨(w.heap.size≤b∧b<w'.heap.size)) w' v r) a'.defers .returning w':=by
    intro h
    rcases hR with hR | ⟨D,hDge,hD,hR⟩
    ·obtain⟨C,rfl,gq,I,hF,_,_,hd⟩:=hR.ex
     rw[hd]
     exact key C w' gq I hF h
    ·obtain⟨C,rfl,gq,I,hF,_,_,hd⟩:=hR.ex
     rw[hd]
     obtain⟨r,n',fr2,ps,asg,body,st,p,hr⟩:=hD
     obtain⟨l,rec,_,_,_,_,_,_,_,_,_,_,_,_,hdD⟩:=I.objs r _ hr
     obtain⟨l',_,lh,yz,_⟩:=I.objs r _ hr
     have hs:=I.sep r l' lh
     have hDlt:D<w'.heap.size:=(Array.getElem?_eq_some_iff.1 hdD).1
     refine⟨by simp,.inl ⟨D,_,rfl,run_takeDeferred hdD,?_⟩⟩
     have hw:∀ b,b≠D→(w'.putObj D (.deferred none)).heap[b]? =w'.heap[b]?:=fun b hb=>World.putObj_heap_other hb
     have I2:=I.shut hdD hw World.putObj_size (Uh I.below hDge _)
     refine key C.Pj _ gq I2 (fun t=>(hF t).shut hdD hw) ?_
     split at h
     ·rename_i rs ri
      rw[bR fr' C _ ri]
      have h':rfrz R (aret rs) C.Pj.H:=by
        unfold rfrz at h ⊢
        rw[Aab C (aret rs)]
        exact h
      exact h'
     ·exact h.elim
  cases e with
  | normal=>exact all hq
  | ret=>exact all hq
  | _=>exact hq.elim
variable {P:Program} {md:Option Nat}
theorem vO {s:Nat}:∀ {t:Nat},s<t→tri s+s<tri t
  | t+1,h=>by
    simp only[tri]
    by_cases e:s=t
    ·subst e;omega
    ·have:=vO (s:=s) (t:=t) (by omega);omega
theorem Aa1 {a b:Int} (h:zz a=zz b):a=b:=by
  unfold zz at h
  split at h<;>split at h<;>omega
theorem Ae1 {a b c d:Int} (h:pk a b=pk c d):a=c∧b=d:=by
  unfold pk at h
  have h:tri (zz a+zz b)+zz b=tri (zz c+zz d)+zz d:=by omega
  rcases Nat.lt_trichotomy (zz a+zz b) (zz c+zz d)with h1 | h1 | h1
  ·have:=vO h1;omega
  ·rw[h1]at h
   have h2:zz b=zz d:=by omega
   exact⟨Aa1 (by omega),Aa1 h2⟩
  ·have:=vO h1;omega
theorem yN.unique {u v:Value} {n:Int} (h:yN true u n) (k:yN true v n):u=v:=by
  obtain⟨a,b,rfl,h1⟩:=h
  obtain⟨c,d,rfl,h2⟩:=k
  obtain⟨rfl,rfl⟩:=Ae1 (h1.symm.trans h2)
  rfl
theorem ALP.op1 {n:Nat} {outer:List Fr} {all rest:List Oper} {Q:Exit→Fr→List Ak→Prop} {fr:Fr} {H:List Ak} {dst:Option Tmp} {op:Op} {type:TypeId} {pos:String} {after:Array Edge} (hd:(match dst with | some d=>Nat.blt d n | none=>true)=true) (hnd:∀ c,op≠.defer c)
    (h:∀ (W0:World) (C:Ctx) (w:World) (ρ:Operand→Value),Inv W0 C w→C.H=H→(∀ x,A9 C w (ρ x) (ev fr x))→Vz W0 C w ((execOp ρ {dst,op,type,pos,after,guard:=none}).run P w) (fun v ef=>ALP md P n outer all rest Q (put fr dst v) (ef.app H))) :
    ALP md P n outer all ({dst,op,type,pos,after,guard:=none}::rest) Q fr H:=by
  intro W0 A0 ds outs a w R
  obtain⟨C,rfl,rfl,I,hF,hO,hn,hdf⟩:=R.ex
  have ah:∀ k,dst=some k→k<a.tmps.size:=by
    intro k hk
    subst hk
    rw[hn]
    simpa using hd
  have srep:∀ (C':Ctx) (w':World) (v:Value) (r:Ac),C'.A0=C.A0→Inv W0 C' w'→Uj C' w' a.tmps fr→Em C' w' outs outer→A9 C' w' v r→F5 W0 C.A0 ds n outs outer (put fr dst r) C'.H (a.put dst v) w':=
    fun C' w' v r e I' yk mw hv=>⟨C',rfl,e,I',yk.put hv dst ah,mw,by rw[l7,hn],by rw[put_defers,hdf]⟩
  unfold wpListIn
  rw[if_pos (by simp[Region.wanted])]
  unfold Oper.wpIn
  refine⟨fun _ _=>trivial,?_⟩
  rw[Oper.semAt_eq _ _ _ hnd]
  obtain⟨r,w',C',ef,ng,hk,hH,I',m⟩:=(h W0 C w a.eval I rfl (Sg hF)).ex
  rw[← hH]at hk
  rcases ng with⟨v,bq,hv⟩ | ⟨bq,rfl⟩
  ·rw[bq,Oper.uponIn_value]
   exact hk W0 C.A0 ds outs _ w' (srep C' w' v r m.A0 I' (hF.mono m) (hO.mono m) hv)
  ·rw[bq,Oper.uponIn_skip]
   exact hk W0 C.A0 ds outs _ w' (srep C' w' undef _ m.A0 I' (hF.mono m) (hO.mono m) (V5 C' w'))
variable {P:Program}
variable {P:Program}
theorem uV {W0:World} {C:Ctx} {w:World} (I:Inv W0 C w) {T e:TypeId} {k:IntKind} {x:Value} {r v lo n:Nat} {xs:List (List Ac)} (hx:A9 C w x (.own r v lo n)) (hT:P.underlying T=some (.slice e))
    (hz:zeroV P e=some (.int k 0)) (hr:C.H[r]? =some (.row v 1 xs)) (yt:lo+n=xs.length) (ty:TypeId) {K:Ac→Eff→Prop} (hk:K (.tuple []) (.set r (.row v 1 (xs.take lo++List.replicate n [.int k 0])))) :
    Yi W0 C w ((Builtin.clear_ #[T] ty #[x]).run P w) K:=by
  cases hx with
  | own a _ cap _ _ _ xv dm cq hv=>
    obtain⟨-,h⟩:=hv _ _ _ hr
    obtain⟨h1,h2⟩:=h rfl
    have ah:r<C.H.length:=(Aoz.1 hr).1
    cases n with
    | zero=>
      have e0:xs.take lo++List.replicate 0 [Ac.int k 0]=xs:=by rw[List.replicate_zero,List.append_nil];exact List.take_of_length_le (by omega)
      rw[e0]at hk
      have bq:(Builtin.clear_ #[T] ty #[.slice a 0 cap]).run P w= .ok (.tuple #[]) w:=by
        cases a<;>simp[Builtin.clear_,Jh hT]
      refine⟨_,_,w,C,_,bq,.tuple _ _ rfl (by simp),hk,?_,I,.refl _ _⟩
      show C.H=C.H.set r _
      apply List.ext_getElem?
      intro i
      by_cases e:r=i
      ·subst e;rw[List.getElem?_set_self ah];exact hr
      ·rw[List.getElem?_set_ne e]
    | succ m=>
      obtain⟨l,hl,ha,nk⟩:=h2.resolve_left (by omega)
      subst ha
      obtain⟨_,cn,hg,ho⟩:=I.objs r _ hr
      rcases ho with⟨_,e1⟩ | ⟨l',arr,T',e1,e2,e3,e4,e5⟩
      ·rw[hl]at e1;cases e1
      rw[hl,Aot]at e1
      subst e1
      have hzc:(Builtin.zeroCells (Value.int k 0).cells (m+1)).toList=List.replicate (m+1) (Value.int k 0):=by
        simp[Builtin.zeroCells,Value.cells]
        apply List.ext_getElem
        ·simp
        ·intro i h1 h2
         simp[Nat.mod_one]
      have ta:l.base+lo*1+(List.replicate (m+1) (Value.int k 0)).length≤arr.size:=by simp;omega
      have jt:=run_storeCells_at P l.b (l.base+lo*1) T' (List.replicate (m+1) (Value.int k 0)) 0 arr w e2 (by simpa using ta) (by intro u hu;rw[List.eq_of_mem_replicate hu];rfl)
      simp only[Nat.add_zero]at jt
      have bq:(Builtin.clear_ #[T] ty #[.slice (some ⟨l.b,l.base+lo*1,none⟩) (m+1) cap]).run P w= .ok (.tuple #[]) (w.setRow l.b (arr.toList.take (l.base+lo*1)++List.replicate (m+1) (Value.int k 0)++arr.toList.drop (l.base+lo*1+(List.replicate (m+1) (Value.int k 0)).length)).toArray):=by
        have hst':=jt
        simp only[Nat.mul_one]at hst' ⊢
        simp only[Builtin.clear_,Sem.run_bind,Sem.run_pure,Result.andThen_ok,Jh hT,V3 hz,hzc,hst',List.getElem?_toArray,List.getElem?_cons_zero,List.size_toArray]
      have hlen:(xs.take lo++List.replicate (m+1) [Ac.int k 0]).length=xs.length:=by simp;omega
      have dh:∀ (i:Nat) (y:List Ac),(xs.take lo++List.replicate (m+1) [Ac.int k 0])[i]? =some y→(i<lo∧xs[i]? =some y)∨(lo≤i∧i<lo+(m+1)∧y=[.int k 0]):=by
        intro i y h
        rw[List.getElem?_append]at h
        have el:(xs.take lo).length=lo:=by simp;omega
        rw[el]at h
        split at h
        ·rename_i hi
         rw[List.getElem?_take,if_pos hi]at h;exact .inl ⟨hi,h⟩
        ·rename_i hi
         have h':=Aoz.1 h
         obtain⟨oa,rfl⟩:=h'
         simp at oa
         exact .inr ⟨by omega,by omega,by simp⟩
      have key:=I.put (o':=.row v 1 (xs.take lo++List.replicate (m+1) [.int k 0])) hr hl (w':=w.setRow l.b (arr.toList.take (l.base+lo*1)++List.replicate (m+1) (Value.int k 0)++arr.toList.drop (l.base+lo*1+(List.replicate (m+1) (Value.int k 0)).length)).toArray)
        (fun b hb=>setRow_other w l.b b _ hb) (by simp[World.setRow]) (I5 I.below (I.sep _ _ hl).2.1 _)
        (by unfold D3;simp only[Ctx.set,List.getElem?_set_self ah];exact .inl ⟨_,hr,by omega,trivial⟩)
        (fun mm=>⟨Nat.le_refl 1,fun x2 h2=>by
         obtain⟨i,hi⟩:=List.getElem?_of_mem h2
         rcases dh i x2 hi with⟨_,h⟩ | ⟨_,_,rfl⟩
         ·exact cn x2 (Aor h)
         ·rfl,fun x2 h2=>by
         obtain⟨i,hi⟩:=List.getElem?_of_mem h2
         rcases dh i x2 hi with⟨_,h⟩ | ⟨_,_,rfl⟩
         ·exact hg x2 (Aor h)
         ·intro c hc;simp at hc;subst hc;rfl,
          .inr ⟨l,_,T',hl,U4 e2,by rw[Io ta,e3],by rw[hlen];exact e4,fun i2 k2 x2 c2 g1 g2=>by
            rw[Hd ta]
            rcases dh i2 x2 g1 with⟨hi,h⟩ | ⟨hi,oa,rfl⟩
            ·obtain⟨u,hu,ea⟩:=e5 i2 k2 _ c2 h g2
             have df:k2<1:=by have:=C9 g2;have:=cn _ (Aor h);omega
             exact⟨u,by rw[if_pos (by omega)];exact hu,ea.mono mm⟩
            ·have df:k2=0:=by have:=(Aoz.1 g2).1;simp at this;exact this
             subst df
             simp at g2;subst g2
             refine⟨.int k 0,?_,.int _ _⟩
             rw[if_neg (by omega),if_pos (by simp;omega)]
             rw[List.getElem?_replicate,if_pos (by omega)]⟩⟩)
      exact⟨_,_,_,_,_,bq,.tuple _ _ rfl (by simp),hk,rfl,key.1,key.2⟩
theorem ALP.clr {md:Option Nat} {n:Nat} {outer:List Fr} {all rest:List Oper} {Q:Exit→Fr→List Ak→Prop} {fr:Fr} {H:List Ak} {dst:Option Tmp} {T e:TypeId} {x:Operand} {type:TypeId} {pos:String} {after:Array Edge}
    {r v lo m:Nat} {l:List Int} (hd:(match dst with | some d=>Nat.blt d n | none=>true)=true) (hx:ev fr x= .own r v lo m) (hT:P.underlying T=some (.slice e))
    (hz:zeroV P e=some (.int .i64 0)) (hr:H[r]? =some (.row v 1 (l.map An))) (yt:lo+m=l.length) (h:ALP md P n outer all rest Q (put fr dst (.tuple [])) (H.set r (.row v 1 ((l.take lo++List.replicate m 0).map An)))) :
    ALP md P n outer all ({dst,op:=.call {callee:=.builtin .clear,args:=#[x],argTypes:=#[T]},type,pos,after,guard:=none}::rest) Q fr H:=by
  refine ALP.op1 hd (by simp) fun W0 C w ρ I hH he=>?_
  subst hH
  have yp:=he x
  rw[hx]at yp
  unfold execOp
  simp only[resolve,Sem.run_bind,Sem.run_pure,Result.andThen_ok,invoke,List.map_toArray,List.map_cons,List.map_nil,builtin]
  have e0:(l.map An).take lo++List.replicate m [Ac.int .i64 0]=(l.take lo++List.replicate m 0).map An:=by simp[List.map_take,An]
  obtain⟨v',a,w',C',ef,h1,h2,h3,h4,h5,h6⟩:=(uV (K:=fun v ef=>ALP md P n outer all rest Q (put fr dst v) (ef.app C.H)) I yp hT hz hr (by simpa using yt) type (by rw[e0];exact h)).ex
  exact⟨a,w',C',ef,.inl ⟨v',by rw[h1];rfl,h2⟩,h3,h4,h5,h6⟩
def Abs:List (List Ac)→List (List Ac)→Prop
  | [],[]=>True
  | x::r,y::r'=>Se x y∧Abs r r'
  | _,_=>False
theorem tG:∀ {xs ys:List (List Ac)},Abs xs ys→xs.length=ys.length∧∀ (i:Nat) y,ys[i]? =some y→∃ x,xs[i]? =some x∧Se x y
  | [],[],_=>⟨rfl,by simp⟩
  | x::r,y::r',h=>by
    have ih:=tG h.2
    refine⟨by simp[ih.1],fun i d hi=>?_⟩
    match i,hi with
    | 0,hi=>simp at hi;subst hi;exact⟨x,rfl,h.1⟩
    | i+1,hi=>exact ih.2 i d (by simpa using hi)
  | [],_::_,h=>h.elim
  | _::_,[],h=>h.elim
theorem Sub.denil {outer:List Fr} {fr:Fr} {H:List Ak} (r:Nat) {v sz:Nat} {xs:List (List Ac)} (ys:List (List Ac)) (hr:H[r]? =some (.row v sz xs)) (h:Abs xs ys):Sub outer fr H fr (H.set r (.row v sz ys)):=by
  intro W0 A0 ds n outs a w R
  obtain⟨C,rfl,rfl,I,hF,hO,hn,hd⟩:=R.ex
  have ah:r<C.H.length:=(Aoz.1 hr).1
  have hg:=tG h
  obtain⟨cg,cn,hg0,ho⟩:=I.objs r _ hr
  have au:∀ (i k:Nat) (y:List Ac) (c':Ac),ys[i]? =some y→y[k]? =some c'→∃ x c,xs[i]? =some x∧x[k]? =some c∧Sf c c':=by
    intro i k y c' h1 h2
    obtain⟨x,h3,h4⟩:=hg.2 i y h1
    obtain⟨c,h5,h6⟩:=(eH h4).2 k c' h2
    exact⟨x,c,h3,h5,h6⟩
  rcases ho with⟨rfl,_⟩ | ⟨l,arr,T',e1,e2,e3,e4,e5⟩
  ·have:ys=[]:=List.eq_nil_of_length_eq_zero (by rw[← hg.1];rfl)
   subst this
   have e:C.H.set r (.row v sz [])=C.H:=by
     apply List.ext_getElem?
     intro i
     by_cases e:r=i
     ·subst e;rw[List.getElem?_set_self ah];exact hr.symm
     ·rw[List.getElem?_set_ne e]
   rw[e]
   exact⟨C,rfl,rfl,I,hF,hO,hn,hd⟩
  have nle0_g:∀ {c c':Ac},Sf c c'→c.g0=true→c'.g0=true:=by
    intro c c' h hc
    unfold Sf at h
    split at h
    ·rcases h with rfl | ⟨rfl,rfl⟩
     ·exact hc
     ·rfl
    ·subst h;exact hc
  have key:=I.put (o':=.row v sz ys) hr e1 (w':=w) (fun _ _=>rfl) rfl I.below
    (by unfold D3;simp only[Ctx.set,List.getElem?_set_self ah];exact .inl ⟨_,hr,by rw[hg.1];exact Nat.le_refl _,trivial⟩)
    (fun mm=>⟨cg,fun y h2=>by
     obtain⟨i,hi⟩:=List.getElem?_of_mem h2
     obtain⟨x,h3,h4⟩:=hg.2 i y hi
     rw[← (eH h4).1];exact cn x (Aor h3),fun y h2 c' h5=>by
     obtain⟨i,hi⟩:=List.getElem?_of_mem h2
     obtain⟨k,hk⟩:=List.getElem?_of_mem h5
     obtain⟨x,c,h6,h7,h8⟩:=au i k y c' hi hk
     exact nle0_g h8 (hg0 x (Aor h6) c (Aor h7)),
      .inr ⟨l,arr,T',e1,e2,e3,by rw[← hg.1];exact e4,fun i k y c' h1 h2=>by
        obtain⟨x,c,h6,h7,h8⟩:=au i k y c' h1 h2
        obtain⟨u,hu,ea⟩:=e5 i k x c h6 h7
        exact⟨u,hu,(mE h8 (ea.mono mm)).1⟩⟩⟩)
  exact⟨C.set r (.row v sz ys),rfl,rfl,key.1,fun t=>(hF t).mono key.2,hO.mono key.2,hn,hd⟩
end Go.Ab
namespace Go.Ab
open Go Go.RowKit
section
variable {P:Program} {md:Option Nat} {n:Nat} {outer:List Fr} {Q:Exit→Fr→List Ak→Prop} {fr:Fr} {H:List Ak}
theorem nS {a b:Prop} (h:b) (e:a=b:=by first | (conv=>lhs;simp +decide -implicitDefEqProofs only[go_sem]) | exact rfl):a:=by rw[e];exact h
theorem nSc {a b p:Prop} (w:p) (h:b) (e:p→a=b:=by intro hw;first | (conv=>lhs;simp +decide -implicitDefEqProofs only[go_sem,hw]) | exact rfl):a:=by rw[e w];exact h
theorem cu {a:Prop} (h:a:=by (simp +decide -implicitDefEqProofs only[go_sem,Et,Ac.int.injEq,Int.natCast_zero,List.replicate_zero,List.length_take,List.length_drop,Ac.own.injEq,reduceCtorEq,Int.reduceAdd]<;>omega)):a:=h
theorem cuw {a p:Prop} (w:p) (h:p→a:=by intro hw;(simp +decide -implicitDefEqProofs only[go_sem,Et,Ac.int.injEq,Int.natCast_zero,List.replicate_zero,List.length_take,List.length_drop,Ac.own.injEq,reduceCtorEq,Int.reduceAdd,hw]<;>omega)):a:=h w
theorem en {a p:Prop} (w:p) (h:p→a:=by intro hw;simp +decide -implicitDefEqProofs only[go_sem,Et,Ac.int.injEq,Int.natCast_zero,List.replicate_zero,List.length_take,List.length_drop,Ac.own.injEq,reduceCtorEq,Int.reduceAdd,Wp,Wq,Sf,Wo,Se,hw]):a:=h w
theorem ar {id:Nat} {ops:List Oper} {fr':Fr} {H':List Ak} (hd:Mb n ops=true) (h:Q .normal fr' H') (e:∀ K:Fr→List Ak→Prop,alist P outer ops ops K fr H=K fr' H':=by intro K;conv=>lhs;simp +decide -implicitDefEqProofs only[go_sem]) :
    AWP md P n (.region id ops.toArray false) Q outer fr H:=AWP.region hd fun K hK=>by rw[e K];exact hK _ _ h
theorem rg {id:Nat} {ops:List Oper} {X:(Fr→List Ak→Prop)→Prop} (hd:Mb n ops=true) (h:∀ K:Fr→List Ak→Prop,(∀ fr H,Q .normal fr H→K fr H)→X K) (e:∀ K:Fr→List Ak→Prop,alist P outer ops ops K fr H=X K:=by intro K;conv=>lhs;simp +decide -implicitDefEqProofs only[go_sem]) :
    AWP md P n (.region id ops.toArray false) Q outer fr H:=AWP.region hd fun K hK=>by rw[e K];exact h K hK
theorem sq {c d:Code} (h:AWP md P n c (qthen (AWP md P n d Q outer) Q) outer fr H):AWP md P n (.seq c d) Q outer fr H:=AWP.seq h
theorem qn {K:Fr→List Ak→Prop} (h:K fr H):qthen K Q .normal fr H:=h
theorem qr {K:Fr→List Ak→Prop} (h:Q .ret fr H):qthen K Q .ret fr H:=h
theorem qe {K:Fr→List Ak→Prop} {i:Nat} (h:Q (.exit i) fr H):qthen K Q (.exit i) fr H:=h
theorem bn {id:Nat} (h:Q .normal fr H):qblock id Q .normal fr H:=h
theorem br {id:Nat} (h:Q .ret fr H):qblock id Q .ret fr H:=h
theorem bs {id:Nat} (h:Q .normal fr H):qblock id Q (.exit id) fr H:=sZ h
theorem bk {id:Nat} {c:Code} (h:AWP md P n c (qblock id Q) outer fr H):AWP md P n (.block id c) Q outer fr H:=AWP.block h
theorem sk (h:Q .normal fr H):AWP md P n .skip Q outer fr H:=AWP.skip h
theorem rt (h:Q .ret fr H):AWP md P n .ret Q outer fr H:=AWP.ret h
theorem xt {id:Nat} (h:Q (.exit id) fr H):AWP md P n (.exit id) Q outer fr H:=AWP.exit h
theorem cs {α:Type} {t:Bool} {A B:Option α} {r:α} {yes no:Prop} (h1:t=true→A=some r→yes) (h2:t=false→B=some r→no) (h:(bif t then A else B)=some r):acond (.bool t) yes no:=by
  cases t with
  | true=>exact nK (h1 rfl h)
  | false=>exact jZ (h2 rfl h)
theorem ca {α:Type} {t:Bool} {A B:Option α} {r:α} {x:Operand} {c d:Code} (hx:ev fr x= .bool t) (h1:t=true→A=some r→AWP md P n c Q outer fr H) (h2:t=false→B=some r→AWP md P n d Q outer fr H) (h:(bif t then A else B)=some r):AWP md P n (.cond x c d) Q outer fr H:=
  AWP.cond (by rw[hx];exact cs h1 h2 h)
theorem gt {α:Type} {c:Bool} {Y N:Fr→List Ak→Prop} {A B:Option α} {r:α} {a b:Prop} (h1:c=true→A=some r→a) (h2:c=false→B=some r→b)
    (e1:c=true→Y fr H=a:=by intro hw;first | (conv=>lhs;simp +decide -implicitDefEqProofs only[go_sem,hw]) | exact rfl) (e2:c=false→N fr H=b:=by intro hw;first | (conv=>lhs;simp +decide -implicitDefEqProofs only[go_sem,hw]) | exact rfl) (h:(bif c then A else B)=some r):El (.bool c) true Y N fr H:=
  bT (fun hc=>by rw[e1 hc];exact h1 hc (Aer h hc)) (fun hc=>by rw[e2 hc];exact h2 hc (Aes h hc))
theorem gf {α:Type} {c:Bool} {Y N:Fr→List Ak→Prop} {A B:Option α} {r:α} {a b:Prop} (h1:c=false→B=some r→a) (h2:c=true→A=some r→b)
    (e1:c=false→Y fr H=a:=by intro hw;first | (conv=>lhs;simp +decide -implicitDefEqProofs only[go_sem,hw]) | exact rfl) (e2:c=true→N fr H=b:=by intro hw;first | (conv=>lhs;simp +decide -implicitDefEqProofs only[go_sem,hw]) | exact rfl) (h:(bif c then A else B)=some r):El (.bool c) false Y N fr H:=
  bT (fun hc=>by rw[e1 hc];exact h1 hc (Aes h hc)) (fun hc=>by rw[e2 hc];exact h2 hc (Aer h hc))
theorem rp {a b:Prop} (k:b) (h:a:=by first | omega | (simp only[List.length_take,List.length_drop,Aou];omega)):a∧b:=⟨h,k⟩
theorem wk {k:Nat} (h:k<9223372036854775807):IntKind.i64.wrap (((k:Nat):Int)+1)=(((k:Nat):Int)+(1:Int)):=by rw[wrap_i64]<;>omega
end
end Go.Ab
namespace Go.Ab
open Go Go.RowKit
theorem Oo {b:Nat} {T:TypeId}:∀ (vs:List Value) (o:Nat) (w:World) (arr:Array Value),w.heap[b]? =some (.cells arr T (0,0))→o+vs.length≤arr.size→
    w.setCells b o vs=w.setRow b (arr.toList.take o++vs++arr.toList.drop (o+vs.length)).toArray
  | [],o,w,arr,h,hl=>by
    simp only[World.setCells,List.append_nil,List.length_nil,Nat.add_zero,List.take_append_drop,Array.toArray_toList]
    rw[setRow_self w b arr T (0,0) h]
  | v::r,o,w,arr,h,hl=>by
    have jt:w.setCell ⟨b,o,none⟩ v=w.setRow b (arr.setIfInBounds o v):=setCell_eq_setRow w b o arr T (0,0) v h
    have ih:=Oo r (o+1) (w.setRow b (arr.setIfInBounds o v)) (arr.setIfInBounds o v) (setRow_heap w b arr _ T _ h) (by simp at hl ⊢;omega)
    rw[World.setCells,jt,ih,setRow_setRow]
    congr 2
    have e:=list_seg_step arr.toList o v r (by simp at hl ⊢;omega)
    simpa[Array.toList_setIfInBounds,Nat.add_assoc]using e
structure nR (P:Program) (f:FuncId) (e:TypeId) (sz bytes:Nat):Prop where
  grow:∀ (b off n c i vb voff vc:Nat) (cs vs:List Value) (w:World),i<n→n≤c→c<n+1→(n+1)*bytes≤140737488355328→cs.length=n*sz→vs.length=sz→
    (∀ j v,cs[j]? =some v→w.cell? ⟨b,off+j,none⟩=some v)→(∀ j v,vs[j]? =some v→w.cell? ⟨vb,voff+j,none⟩=some v)→(∀ v∈cs,v.oneCell'=true)→(∀ v∈vs,v.oneCell'=true)→
    Calls P f #[.slice (some ⟨b,off,none⟩) n c,.int .i64 i,.slice (some ⟨vb,voff,none⟩) 1 vc] w fun ed w'=>∃ (G:Nat) (ROW:Array Value),ed= .returned (.slice (some ⟨w.heap.size,0,none⟩) (n+1) G)∧n+1≤G∧G≤maxLen∧ROW.size=G*sz∧
      (∀ (j:Nat) (u:Value),(cs.take (i*sz))[j]? =some u→ROW[j]? =some u)∧w'=(((w.alloc (.cells ROW e)).drew.setCells w.heap.size (i*sz) vs).drew).setCells w.heap.size ((i+1)*sz) (cs.drop (i*sz))
  shift:∀ (b off n c i vb voff vc:Nat) (cs vs:List Value) (w:World),i<n→n+1≤c→c≤9223372036854775807→vb≠b→cs.length=n*sz→vs.length=sz→
    (∀ j v,cs[j]? =some v→w.cell? ⟨b,off+j,none⟩=some v)→(∀ j,j<(n+1)*sz→(w.cell? ⟨b,off+j,none⟩).isSome=true)→(∀ j,j<(n+1)*sz→w.frozen? ⟨b,off+j,none⟩=false)→
    (∀ j v,vs[j]? =some v→w.cell? ⟨vb,voff+j,none⟩=some v)→(∀ v∈cs,v.oneCell'=true)→(∀ v∈vs,v.oneCell'=true)→
    ∀ (tA tB:TypeId) (kA kB:Nat),w.shape? vb=some (tA,kA)→w.shape? b=some (tB,kB)→kB≠0→w.frozen? ⟨vb,voff,none⟩=false→w.frozen? ⟨vb,kA,none⟩=false→
    Calls P f #[.slice (some ⟨b,off,none⟩) n c,.int .i64 i,.slice (some ⟨vb,voff,none⟩) 1 vc] w fun ed w'=>ed= .returned (.slice (some ⟨b,off,none⟩) (n+1) c)∧
      w'=(w.drew.setCells b (off+(i+1)*sz) (cs.drop (i*sz))).setCells b (off+i*sz) vs
theorem Acn {R:Value→Ac→Prop} {sz i:Nat} {xs:List (List Ac)} {y:List Ac} {cs vs:List Value} (hi:i<xs.length) (hx:∀ x∈xs,x.length=sz) (hy:y.length=sz) (et:cs.length=xs.length*sz) (lf:vs.length=sz)
    (h1:∀ (i k:Nat) (x:List Ac) (c:Ac),xs[i]? =some x→x[k]? =some c→∃ u,cs[i*sz+k]? =some u∧R u c) (h2:∀ (k:Nat) (c:Ac),y[k]? =some c→∃ u,vs[k]? =some u∧R u c) :
    ∀ (i2 k:Nat) (x:List Ac) (c:Ac),(xs.take i++[y]++xs.drop i)[i2]? =some x→x[k]? =some c→∃ u,(cs.take (i*sz)++vs++cs.drop (i*sz))[i2*sz+k]? =some u∧R u c:=by
  intro i2 k x c g1 g2
  have hi3:i*sz≤xs.length*sz:=Nat.mul_le_mul_right _ (by omega)
  have jy:(cs.take (i*sz)).length=i*sz:=by rw[List.length_take];omega
  have jx:(xs.take i).length=i:=by rw[List.length_take];omega
  by_cases c1:i2<i
  ·rw[List.getElem?_append_left (by rw[Aou];omega),List.getElem?_append_left (by omega),List.getElem?_take,if_pos c1]at g1
   have hk:k<sz:=by have:=(Aoz.1 g2).1;have:=hx x (Aor g1);omega
   obtain⟨u,hu,hr⟩:=h1 i2 k x c g1 g2
   have:(i2+1)*sz≤i*sz:=Nat.mul_le_mul_right _ c1
   rw[Nat.add_mul,Nat.one_mul]at this
   exact⟨u,by rw[List.getElem?_append_left (by rw[Aou];omega),List.getElem?_append_left (by omega),List.getElem?_take,if_pos (by omega)];exact hu,hr⟩
  ·by_cases c2:i2=i
   ·subst c2
    rw[List.getElem?_append_left (by rw[Aou,List.length_singleton];omega),List.getElem?_append_right (by omega),jx,Nat.sub_self]at g1
    obtain rfl:y=x:=by simpa using g1
    have hk:k<sz:=by have:=(Aoz.1 g2).1;omega
    obtain⟨u,hu,hr⟩:=h2 k c g2
    exact⟨u,by rw[List.getElem?_append_left (by rw[Aou];omega),List.getElem?_append_right (by omega),jy,Nat.add_sub_cancel_left];exact hu,hr⟩
   ·rw[List.getElem?_append_right (by rw[Aou,List.length_singleton];omega),Aou,List.length_singleton,jx,List.getElem?_drop]at g1
    have e1:i+(i2 - (i+1))=i2 - 1:=by omega
    rw[e1]at g1
    have hk:k<sz:=by have:=(Aoz.1 g2).1;have:=hx x (Aor g1);omega
    obtain⟨u,hu,hr⟩:=h1 (i2 - 1) k x c g1 g2
    have h3:(i+1)*sz≤i2*sz:=Nat.mul_le_mul_right _ (by omega)
    rw[Nat.add_mul,Nat.one_mul]at h3
    have h4:i2*sz=(i2 - 1)*sz+sz:=by rw[← Nat.succ_mul];congr 1;omega
    refine⟨u,?_,hr⟩
    rw[List.getElem?_append_right (by rw[Aou];omega),Aou,jy,lf,List.getElem?_drop]
    rw[← hu];congr 1;omega
section
variable {P:Program}
theorem oV {W0:World} {C:Ctx} {w:World} (I:Inv W0 C w) {r v sz len:Nat} {xs:List (List Ac)} (hr:C.H[r]? =some (.row v sz xs)) {u:Value} (hu:A9 C w u (.own r v 0 len)) (hlen:len=xs.length) (bj:0<len) :
    ∃ (l:Loc) (arr:Array Value) (T:TypeId) (cap:Nat) (cs:List Value),u= .slice (some ⟨l.b,l.base,none⟩) len cap∧len≤cap∧cap≤maxLen∧C.ρ r=some l∧w.heap[l.b]? =some (.cells arr T (0,0))∧arr.size=l.cap∧l.base+cap*sz≤l.cap∧
      cs.length=len*sz∧(∀ j u,cs[j]? =some u→arr[l.base+j]? =some u)∧(∀ u∈cs,u.oneCell'=true)∧(∀ (i k:Nat) (x:List Ac) (c:Ac),xs[i]? =some x→x[k]? =some c→∃ u,cs[i*sz+k]? =some u∧A9 C w u c):=by
  obtain⟨a,cap,rfl,hk,dm,cq,hv⟩:=x4 hu
  obtain⟨_,hv⟩:=hv _ _ _ hr
  obtain⟨_,hv⟩:=hv rfl
  obtain⟨cg,jj,ie,ho⟩:=I.objs r _ hr
  rcases ho with⟨e,_⟩ | ⟨l',arr,T,e1,e2,e3,e4,e5⟩
  ·subst e;simp at hlen;omega
  rcases hv with hv | ⟨l,hl,ha,di⟩
  ·omega
  rw[hl,Aot]at e1
  subst e1
  have hmul:len*sz≤cap*sz:=Nat.mul_le_mul_right _ dm
  rw[Nat.zero_add]at di
  have et:((arr.toList.drop l.base).take (len*sz)).length=len*sz:=by simp;omega
  have dh:∀ j u,((arr.toList.drop l.base).take (len*sz))[j]? =some u→arr[l.base+j]? =some u:=fun j u h=>by
    rw[List.getElem?_take]at h
    split at h
    ·rw[List.getElem?_drop,Array.getElem?_toList]at h;exact h
    ·cases h
  have bc:∀ (i k:Nat) (x:List Ac) (c:Ac),xs[i]? =some x→x[k]? =some c→∃ u,((arr.toList.drop l.base).take (len*sz))[i*sz+k]? =some u∧A9 C w u c:=fun i k x c h1 h2=>by
    obtain⟨u,hu,hr⟩:=e5 i k x c h1 h2
    refine⟨u,?_,hr⟩
    have hi:=(Aoz.1 h1).1
    have hk:k<sz:=by have:=(Aoz.1 h2).1;have:=jj x (Aor h1);omega
    have:(i+1)*sz≤len*sz:=Nat.mul_le_mul_right _ (by omega)
    rw[Nat.add_mul,Nat.one_mul]at this
    rw[List.getElem?_take,if_pos (by omega),List.getElem?_drop,Array.getElem?_toList];exact hu
  exact⟨l,arr,T,cap,_,by rw[ha,Nat.zero_mul,Nat.add_zero],dm,cq,hl,e2,e3,di,et,dh,uF (by rw[et,hlen]) jj ie bc,bc⟩
theorem rJ {w:World} {b:Nat} {arr:Array Value} {T:TypeId} (h:w.heap[b]? =some (.cells arr T (0,0))) (o:Nat):w.cell? ⟨b,o,none⟩=arr[o]?:=by simp[World.cell?,h]
theorem Ah.Adx {f:FuncId} {e:TypeId} {sz bytes r v len r2 v2:Nat} {n:Int} {xs:List (List Ac)} {y:List Ac} {st:List Fr} {H:List Ak} {K:Ac→List Ak→Prop} (hc:∀ (args:Array Value) (w:World),(callFunc f args).run P w= .ok (.enter f args) w)
    (spec:nR P f e sz bytes) (hr:H[r]? =some (.row v sz xs)) (hlen:len=xs.length) (jg:H[r2]? =some (.row v2 sz [y])) (bj:r≠r2) (hn:0≤n∧n<(len:Int)) (kg:(len+1)*bytes≤140737488355328)
    (h:K (.own r (v+1) 0 (len+1)) (H.set r (.row (v+1) sz (xs.take n.toNat++[y]++xs.drop n.toNat)))):Ah P (.func f []) [.own r v 0 len,.int .i64 n,.own r2 v2 0 1] st H K:=by
  intro W0 C w outs fv vs I hH hO hf hl hv
  subst hH
  cases hf with
  | func _ caps _ et _=>
    have:caps=#[]:=Array.eq_empty_of_size_eq_zero (by simpa using et)
    subst this
    refine .inl ⟨f,#[],rfl,hc,?_⟩
    match vs,hl with
    | [u,u1,u2],_=>
      have hu:=hv 0 u _ rfl rfl
      have hu1:=hv 1 u1 _ rfl rfl
      have zx:=hv 2 u2 _ rfl rfl
      cases hu1
      obtain⟨i,rfl⟩:∃ i:Nat,n=(i:Int):=⟨n.toNat,by omega⟩
      rw[Int.toNat_natCast]at h
      have hi:i<len:=by omega
      have ah:r<C.H.length:=(Aoz.1 hr).1
      obtain⟨l,arr,T,cap,cs,rfl,dm,cq,hρ,hb,cn,di,et,dh,ov,bc⟩:=oV I hr hu hlen (by omega)
      obtain⟨l2,arr2,T2,cap2,ws,rfl,hlc2,_,hρ2,oc,hsz2,ob,hcl2,hget2,vg,hrep2⟩:=oV I jg zx rfl (by omega)
      obtain⟨cg,jj,ie,_⟩:=I.objs r _ hr
      obtain⟨_,hall2,ye,_⟩:=I.objs r2 _ jg
      have hS:=I.sep r l hρ
      have hS2:=I.sep r2 l2 hρ2
      have hbb:l2.b≠l.b:=fun e=>bj (I.inj _ _ _ _ hρ hρ2 e.symm)
      have yn:y.length=sz:=hall2 y (by simp)
      have lf:ws.length=sz:=by rw[hcl2,Nat.one_mul]
      have hmul:len*sz≤cap*sz:=Nat.mul_le_mul_right _ dm
      have oa:(i+1)*sz≤len*sz:=Nat.mul_le_mul_right _ hi
      have yg:(i+1)*sz=i*sz+sz:=by rw[Nat.add_mul,Nat.one_mul]
      have ui:(len+1)*sz=len*sz+sz:=by rw[Nat.add_mul,Nat.one_mul]
      have mq:(cs.drop (i*sz)).length=len*sz - i*sz:=by rw[List.length_drop,et]
      have hLl:(cs.take (i*sz)++ws++cs.drop (i*sz)).length=(len+1)*sz:=by
        rw[Aou,Aou,List.length_take,mq,et,lf];omega
      have hxs':∀ x∈xs.take i++[y]++xs.drop i,x.length=sz:=fun x hx=>by
        rw[Aox,Aox,List.mem_singleton]at hx
        rcases hx with(hx | rfl) | hx
        ·exact jj x (List.mem_of_mem_take hx)
        ·exact yn
        ·exact jj x (List.mem_of_mem_drop hx)
      have hxg':∀ x∈xs.take i++[y]++xs.drop i,∀ c∈x,Ac.g0 c=true:=fun x hx=>by
        rw[Aox,Aox,List.mem_singleton]at hx
        rcases hx with(hx | rfl) | hx
        ·exact ie x (List.mem_of_mem_take hx)
        ·exact ye _ (by simp)
        ·exact ie x (List.mem_of_mem_drop hx)
      have zh:(xs.take i++[y]++xs.drop i).length=len+1:=by simp;omega
      have ya:=Acn (R:=A9 C w) (i:=i) (by omega) jj yn (by rw[et,hlen]) lf bc (fun k c hk=>by
        obtain⟨u,hu,hr⟩:=hrep2 0 k y c rfl hk
        exact⟨u,by simpa using hu,hr⟩)
      have lv:(C.H.set r (.row (v+1) sz (xs.take i++[y]++xs.drop i)))[r]? =some (.row (v+1) sz (xs.take i++[y]++xs.drop i)):=List.getElem?_set_self ah
      have fin:∀ (l':Loc) (arr':Array Value) (T':TypeId) (cap':Nat) (w':World),len+1≤cap'→cap'≤maxLen→w'.heap[l'.b]? =some (.cells arr' T' (0,0))→arr'.size=l'.cap→l'.base+cap'*sz≤l'.cap→
       (∀ j u,(cs.take (i*sz)++ws++cs.drop (i*sz))[j]? =some u→arr'[l'.base+j]? =some u)→(∀ b,b<w.heap.size→b≠l'.b→w'.heap[b]? =w.heap[b]?)→w.heap.size≤w'.heap.size→Below W0.heap.size W0 w'→
       (W0.heap.size≤l'.b∧l'.b<w'.heap.size∧¬ C.A l'.b∧∀ r' l'',r'≠r→C.ρ r'=some l''→l''.b≠l'.b)→
       ∃ v' ra C2,Ending.returned (.slice (some ⟨l'.b,l'.base,none⟩) (len+1) cap')= .returned v'∧K ra C2.H∧C2.A0=C.A0∧A9 C2 w' v' ra∧Inv W0 C2 w'∧Em C2 w' outs st:=by
        intro l' arr' T' cap' w' q1 q2 q3 q4 q5 q6 q7 q8 q9 q10
        have hmc:(len+1)*sz≤cap'*sz:=Nat.mul_le_mul_right _ q1
        have key:=I.reloc (w':=w') (v':=v+1) (sz':=sz) (xs':=xs.take i++[y]++xs.drop i) hr (Nat.lt_succ_self v) (some l') (fun b hb h'=>q7 b hb (h' l' rfl)) q8 q9 (fun l3 hl3=>by obtain rfl:=Aoy hl3;exact q10) (fun m=>
          ⟨cg,hxs',hxg',.inr ⟨l',arr',T',by show(if r=r then some l' else _)=some l';rw[if_pos rfl],q3,q4,by rw[zh];omega,fun i2 k x c g1 g2=>by
           obtain⟨u,hu,hr⟩:=ya i2 k x c g1 g2
           exact⟨u,q6 _ u hu,hr.mono m⟩⟩⟩)
        refine⟨_,.own r (v+1) 0 (len+1),C.reloc r (.row (v+1) sz (xs.take i++[y]++xs.drop i)) (some l'),rfl,h,rfl,?_,key.1,hO.mono key.2⟩
        refine .own _ _ cap' r (v+1) 0 ⟨_,lv,by simp⟩ q1 q2 fun v' sz' xs2 h'=>?_
        have h':(C.H.set r (.row (v+1) sz (xs.take i++[y]++xs.drop i)))[r]? =some (.row v' sz' xs2):=h'
        rw[lv]at h'
        simp only[Aot,Ak.row.injEq]at h'
        obtain⟨rfl,rfl,rfl⟩:=h'
        exact⟨Nat.le_refl _,fun _=>⟨by rw[zh];omega,.inr ⟨l',by show(if r=r then some l' else _)=some l';rw[if_pos rfl],by simp,by rw[Nat.zero_add];omega⟩⟩⟩
      have sf:∀ j u,cs[j]? =some u→w.cell? ⟨l.b,l.base+j,none⟩=some u:=fun j u hj=>by rw[rJ hb];exact dh j u hj
      have se:∀ j u,ws[j]? =some u→w.cell? ⟨l2.b,l2.base+j,none⟩=some u:=fun j u hj=>by rw[rJ oc];exact hget2 j u hj
      have hml:=Lx
      by_cases er:len+1≤cap
      ·have hmr:(len+1)*sz≤cap*sz:=Nat.mul_le_mul_right _ er
       refine(spec.shift l.b l.base len cap i l2.b l2.base cap2 cs ws w hi er (by omega) hbb et lf sf (fun j hj=>by rw[rJ hb,Array.getElem?_eq_getElem (by omega)];rfl) (fun j _=>aJ hb) se ov vg T2 T arr2.size arr.size
         (by simp[World.shape?,oc]) (by simp[World.shape?,hb]) (by omega) (aJ oc) (aJ oc)).mono fun ed w' ⟨he,hw⟩=>?_
       have e1:=Oo (b:=l.b) (T:=T) (cs.drop (i*sz)) (l.base+(i+1)*sz) w.drew arr hb (by rw[mq];omega)
       rw[e1]at hw
       have s1:=Io (cur:=arr) (o:=l.base+(i+1)*sz) (vs:=cs.drop (i*sz)) (by rw[mq];omega)
       have e2:=Oo (b:=l.b) (T:=T) ws (l.base+i*sz) (w.drew.setRow l.b (arr.toList.take (l.base+(i+1)*sz)++cs.drop (i*sz)++arr.toList.drop (l.base+(i+1)*sz+(cs.drop (i*sz)).length)).toArray) _ (setRow_heap w.drew l.b arr _ T _ hb) (by rw[s1,lf];omega)
       rw[e2,setRow_setRow]at hw
       subst hw
       subst he
       refine fin l _ T cap _ er cq (setRow_heap w.drew l.b arr _ T _ hb) ?_ di ?_ (fun b _ bj=>setRow_other w.drew l.b b _ bj) (by simp[World.setRow]) (I5 (I.below.drew) hS.2.1 _) ⟨hS.2.1,by simpa[World.setRow]using hS.2.2.1,hS.2.2.2,fun r' l' bj h' eb=>bj (I.inj _ _ _ _ h' hρ eb)⟩
       ·rw[Io (by rw[s1,lf];omega),s1];exact cn
       ·intro j u hj
        have hjl:=(Aoz.1 hj).1
        rw[hLl]at hjl
        rw[Hd (by rw[s1,lf];omega)]
        by_cases j1:j<i*sz
        ·rw[if_pos (by omega),Hd (by rw[mq];omega),if_pos (by omega)]
         rw[List.getElem?_append_left (by rw[Aou,List.length_take];omega),List.getElem?_append_left (by rw[List.length_take];omega),List.getElem?_take,if_pos j1]at hj
         exact dh j u hj
        ·rw[if_neg (by omega)]
         by_cases j2:j<(i+1)*sz
         ·rw[if_pos (by omega)]
          rw[List.getElem?_append_left (by rw[Aou,List.length_take];omega),List.getElem?_append_right (by rw[List.length_take];omega),List.length_take]at hj
          rw[← hj];congr 1;omega
         ·rw[if_neg (by omega),Hd (by rw[mq];omega),if_neg (by omega),if_pos (by rw[mq];omega)]
          rw[List.getElem?_append_right (by rw[Aou,List.length_take];omega),Aou,List.length_take]at hj
          rw[← hj];congr 1;omega
      ·refine(spec.grow l.b l.base len cap i l2.b l2.base cap2 cs ws w hi dm (by omega) kg et lf sf se ov vg).mono fun ed w' ⟨G,ROW,he,g1,g2,g3,g4,hw⟩=>?_
       have hGm:(len+1)*sz≤G*sz:=Nat.mul_le_mul_right _ g1
       have hb0:W0.heap.size≤w.heap.size:=I.below.size
       have hA:((w.alloc (.cells ROW e)).drew).heap[w.heap.size]? =some (.cells ROW e (0,0)):=Ea w _
       have e1:=Oo (b:=w.heap.size) (T:=e) ws (i*sz) (w.alloc (.cells ROW e)).drew ROW hA (by rw[lf,g3];omega)
       rw[e1]at hw
       have s1:=Io (cur:=ROW) (o:=i*sz) (vs:=ws) (by rw[lf,g3];omega)
       have hA2:=setRow_heap (w.alloc (.cells ROW e)).drew w.heap.size ROW (ROW.toList.take (i*sz)++ws++ROW.toList.drop (i*sz+ws.length)).toArray e (0,0) hA
       have e2:=Oo (b:=w.heap.size) (T:=e) (cs.drop (i*sz)) ((i+1)*sz) ((w.alloc (.cells ROW e)).drew.setRow w.heap.size (ROW.toList.take (i*sz)++ws++ROW.toList.drop (i*sz+ws.length)).toArray).drew _ hA2 (by rw[s1,g3,mq];omega)
       rw[e2]at hw
       subst hw
       subst he
       have hA3:(((w.alloc (.cells ROW e)).drew.setRow w.heap.size (ROW.toList.take (i*sz)++ws++ROW.toList.drop (i*sz+ws.length)).toArray).drew).heap[w.heap.size]? =some (.cells _ e (0,0)):=hA2
       refine fin ⟨w.heap.size,0,G*sz⟩ _ e G _ g1 g2 (setRow_heap _ w.heap.size _ _ e _ hA3) ?_ (by simp) ?_ (fun b fb bj=>?_) ?_ ?_ ⟨hb0,by simp[World.setRow],fun hA=>by have:=I.sub _ hA;simp at this,fun r' l' bj h' eb=>by have:=(I.sep _ _ h').2.2.1;simp only at eb;omega⟩
       ·rw[Io (by rw[s1,g3,mq];omega),s1];exact g3
       ·intro j u hj
        have hjl:=(Aoz.1 hj).1
        rw[hLl]at hjl
        rw[Nat.zero_add,Hd (by rw[s1,g3,mq];omega)]
        by_cases j1:j<i*sz
        ·rw[if_pos (by omega),Hd (by rw[lf,g3];omega),if_pos (by omega)]
         rw[List.getElem?_append_left (by rw[Aou,List.length_take];omega),List.getElem?_append_left (by rw[List.length_take];omega)]at hj
         exact g4 j u hj
        ·by_cases j2:j<(i+1)*sz
         ·rw[if_pos (by omega),Hd (by rw[lf,g3];omega),if_neg (by omega),if_pos (by omega)]
          rw[List.getElem?_append_left (by rw[Aou,List.length_take];omega),List.getElem?_append_right (by rw[List.length_take];omega),List.length_take]at hj
          rw[← hj];congr 1;omega
         ·rw[if_neg (by omega),if_pos (by rw[mq];omega)]
          rw[List.getElem?_append_right (by rw[Aou,List.length_take];omega),Aou,List.length_take]at hj
          rw[← hj];congr 1;omega
       ·rw[setRow_other _ _ _ _ bj]
        show((w.alloc (.cells ROW e)).drew.setRow w.heap.size _).heap[b]? =_
        rw[setRow_other _ _ _ _ bj]
        exact(by first | exact heap_alloc_old w _ b fb | exact heap_alloc_old w _ fb)
       ·simp[World.setRow]
       ·exact I5 ((I5 ((Zp I.below _).drew) hb0 _).drew) hb0 _
def iC {α:Type} (l:List α) (n:Nat) (a:α):List α:=l.take n++[a]++l.drop n
theorem Ab8 {α:Type} (l:List α) (n:Nat) (a:α):(iC l n a).length=l.length+1:=by unfold iC;simp;omega
theorem yV {α:Type} (l:List α) (n:Nat) (a:α):(iC l n a).take (l.length+1)=iC l n a:=List.take_of_length_le (by rw[Ab8];exact Nat.le_refl _)
theorem Ah.lC {α:Type} {f:FuncId} {e:TypeId} {sz bytes r v len r2 v2:Nat} {n:Int} (g:α→List Ac) (l:List α) (a:α) {st:List Fr} {H:List Ak} {K:Ac→List Ak→Prop} (hc:∀ (args:Array Value) (w:World),(callFunc f args).run P w= .ok (.enter f args) w)
    (spec:nR P f e sz bytes) (hr:H[r]? =some (.row v sz (l.map g))) (hlen:len=l.length) (jg:H[r2]? =some (.row v2 sz [g a])) (bj:r≠r2) (hn:0≤n∧n<(len:Int)) (kg:(len+1)*bytes≤140737488355328)
    (h:K (.own r (v+1) 0 (len+1)) (H.set r (.row (v+1) sz ((iC l n.toNat a).map g)))):Ah P (.func f []) [.own r v 0 len,.int .i64 n,.own r2 v2 0 1] st H K:=
  Ah.Adx hc spec hr (by rw[Aow];exact hlen) jg bj hn kg (by
   have:(l.map g).take n.toNat++[g a]++(l.map g).drop n.toNat=(iC l n.toNat a).map g:=by unfold iC;simp
   rw[this];exact h)
theorem rL {α:Type} {c:Bool} {a b:Option α} {r:α} (h:(bif c then a else b)=some r):(c=true∧a=some r)∨(c=false∧b=some r):=by
  cases c with
  | true=>exact .inl ⟨rfl,h⟩
  | false=>exact .inr ⟨rfl,h⟩
attribute [go_sem] yV
end
end Go.Ab
namespace Go.Ab
open Go Go.RowKit
section
variable {P:Program} {md:Option Nat} {n:Nat} {outer:List Fr} {Q:Exit→Fr→List Ak→Prop} {fr:Fr} {H:List Ak}
theorem ct {x:Operand} {c d:Code} (hx:ev fr x= .bool true) (h:AWP md P n c Q outer fr H):AWP md P n (.cond x c d) Q outer fr H:=AWP.cond (by rw[hx];exact nK h)
theorem cf {x:Operand} {c d:Code} (hx:ev fr x= .bool false) (h:AWP md P n d Q outer fr H):AWP md P n (.cond x c d) Q outer fr H:=AWP.cond (by rw[hx];exact jZ h)
theorem cA {α:Type} {t:Bool} {A B:Option α} {r:α} {x:Operand} {c d:Code} (h:(bif t then A else B)=some r) (hx:ev fr x= .bool t) (h1:t=true→A=some r→AWP md P n c Q outer fr H) (h2:t=false→B=some r→AWP md P n d Q outer fr H):AWP md P n (.cond x c d) Q outer fr H:=ca hx h1 h2 h
theorem cB {α:Type} {t:Bool} {A B:Option α} {r:α} {x:Operand} {c d:Code} (h:(bif t then A else B)=some r) (hx:ev fr x= .bool t) (h2:t=false→B=some r→AWP md P n d Q outer fr H) (h1:t=true→A=some r→AWP md P n c Q outer fr H):AWP md P n (.cond x c d) Q outer fr H:=ca hx h1 h2 h
theorem cC {t:Bool} {x:Operand} {c d:Code} (hx:ev fr x= .bool t) (h1:t=true→AWP md P n c Q outer fr H) (h2:t=false→AWP md P n d Q outer fr H):AWP md P n (.cond x c d) Q outer fr H:=AWP.cond (by rw[hx];exact jY h1 h2)
theorem cD {t:Bool} {x:Operand} {c d:Code} (hx:ev fr x= .bool t) (h2:t=false→AWP md P n d Q outer fr H) (h1:t=true→AWP md P n c Q outer fr H):AWP md P n (.cond x c d) Q outer fr H:=AWP.cond (by rw[hx];exact jY h1 h2)
theorem gT {α:Type} {c:Bool} {Y N:Fr→List Ak→Prop} {A B:Option α} {r:α} {a b:Prop} (h:(bif c then A else B)=some r) (h1:c=true→A=some r→a) (h2:c=false→B=some r→b)
    (e1:c=true→Y fr H=a:=by intro hw;first | (conv=>lhs;simp +decide -implicitDefEqProofs only[go_sem,hw]) | exact rfl) (e2:c=false→N fr H=b:=by intro hw;first | (conv=>lhs;simp +decide -implicitDefEqProofs only[go_sem,hw]) | exact rfl):El (.bool c) true Y N fr H:=gt h1 h2 e1 e2 h
theorem gT' {α:Type} {c:Bool} {Y N:Fr→List Ak→Prop} {A B:Option α} {r:α} {a b:Prop} (h:(bif c then A else B)=some r) (h2:c=false→B=some r→b) (h1:c=true→A=some r→a)
    (e1:c=true→Y fr H=a:=by intro hw;first | (conv=>lhs;simp +decide -implicitDefEqProofs only[go_sem,hw]) | exact rfl) (e2:c=false→N fr H=b:=by intro hw;first | (conv=>lhs;simp +decide -implicitDefEqProofs only[go_sem,hw]) | exact rfl):El (.bool c) true Y N fr H:=gt h1 h2 e1 e2 h
theorem gF {α:Type} {c:Bool} {Y N:Fr→List Ak→Prop} {A B:Option α} {r:α} {a b:Prop} (h:(bif c then A else B)=some r) (h1:c=false→B=some r→a) (h2:c=true→A=some r→b)
    (e1:c=false→Y fr H=a:=by intro hw;first | (conv=>lhs;simp +decide -implicitDefEqProofs only[go_sem,hw]) | exact rfl) (e2:c=true→N fr H=b:=by intro hw;first | (conv=>lhs;simp +decide -implicitDefEqProofs only[go_sem,hw]) | exact rfl):El (.bool c) false Y N fr H:=gf h1 h2 e1 e2 h
theorem gF' {α:Type} {c:Bool} {Y N:Fr→List Ak→Prop} {A B:Option α} {r:α} {a b:Prop} (h:(bif c then A else B)=some r) (h2:c=true→A=some r→b) (h1:c=false→B=some r→a)
    (e1:c=false→Y fr H=a:=by intro hw;first | (conv=>lhs;simp +decide -implicitDefEqProofs only[go_sem,hw]) | exact rfl) (e2:c=true→N fr H=b:=by intro hw;first | (conv=>lhs;simp +decide -implicitDefEqProofs only[go_sem,hw]) | exact rfl):El (.bool c) false Y N fr H:=gf h1 h2 e1 e2 h
theorem rG {id:Nat} {ops:List Oper} {d:Code} {X:(Fr→List Ak→Prop)→Prop} (hd:Mb n ops=true) (h:∀ K:Fr→List Ak→Prop,(∀ {fr:Fr} {H:List Ak},AWP md P n d Q outer fr H→K fr H)→X K) (e:∀ K:Fr→List Ak→Prop,alist P outer ops ops K fr H=X K:=by intro K;conv=>lhs;simp +decide -implicitDefEqProofs only[go_sem]) :
    AWP md P n (.seq (.region id ops.toArray false) d) Q outer fr H:=sq (rg hd (fun K hK=>h K fun g=>hK _ _ (qn g)) e)
theorem dR {id:Nat} {ops:List Oper} {Q:Exit→Fr→List Ak→Prop} {fr:Fr} {H:List Ak} (hm:P.follows .mixedOrders=true)
    (h:∀ K:Log→Fr→List Ak→Prop,(∀ log fr H,Sm (masks ops []) log=true→Q .normal fr H→K log fr H)→dlist P ops (H++resvs ops).length K ops 0 H.length [] fr (H++resvs ops)) (ld:wY n ops=true:=by kernel_rfl) :
    AWP md P n (.region id ops.toArray true) Q outer fr H:=AWP.draw hm ld h
def LI {α σ ρ ω:Type} (step:Nat→α→σ→Option (Out σ ρ)) (l:List α) (o:Out σ ρ) (F:Nat×σ×ω→Fr) (HH:Nat×σ×ω→List Ak) (k:Nat) (fr:Fr) (H:List Ak):Prop:=
  ∃ s w,k+1≤l.length∧Al step (k+1) (l.drop (k+1)) s=some o∧dM fr (F (k+1,s,w))∧Wz H (HH (k+1,s,w))
theorem AWP.Bh {α σ ρ ω:Type} {c:Code} {step:Nat→α→σ→Option (Out σ ρ)} {l:List α} {o:Out σ ρ} {s0:σ} (h0:Al step 0 l s0=some o) (w0:ω) (F:Nat×σ×ω→Fr) (HH:Nat×σ×ω→List Ak)
    (round:∀ k s w,k≤l.length→Al step k (l.drop k) s=some o→AWP md P n c (qthen (LI step l o F HH k) Q) outer (F (k,s,w)) (HH (k,s,w)))
    (vq:dM fr (F (0,s0,w0)):=by exact cu) (vp:Wz H (HH (0,s0,w0)):=by exact cu)
    (hb:∀ x,Mc (HH x).length (F x)=true∧nG (HH x).length (HH x)=true∧outer.all (Mc (HH x).length)=true:=by exact fun x=>⟨rfl,rfl,rfl⟩):AWP md P n (.loop c) Q outer fr H:=by
  refine AWP.Ma F HH (fun zz=>zz.1≤l.length∧Al step zz.1 (l.drop zz.1) zz.2.1=some o) (fun zz=>l.length - zz.1) (0,s0,w0) ⟨Nat.zero_le _,h0⟩ vq vp hb ?_
  rintro⟨k,s,w⟩ ⟨h1,h2⟩
  refine AWP.mono ?_ (round k s w h1 h2)
  intro e fr' H' h
  cases e with
  | normal=>
    obtain⟨s',w',a,b,c,d⟩:=h
    exact⟨(k+1,s',w'),⟨a,b⟩,by show l.length - (k+1)<l.length - k;omega,c,d⟩
  | _=>exact h
theorem lE {α σ ρ ω:Type} {step:Nat→α→σ→Option (Out σ ρ)} {l:List α} {o b:Out σ ρ} {F:Nat×σ×ω→Fr} {HH:Nat×σ×ω→List Ak} {k:Nat} {s:σ} (hk:k<l.length) (hJ:b.cont (fun s'=>Al step (k+1) (l.drop (k+1)) s')=some o) (h:some (Out.next s)=some b) (w:ω)
    (hF:dM fr (F (k+1,s,w))) (hH:Wz H (HH (k+1,s,w))):LI step l o F HH k fr H:=by
  cases h;exact⟨s,w,hk,hJ,hF,hH⟩
theorem gw1 {id:Nat} {ops:List Oper} {fr':Fr} {H':List Ak} (hd:Mb n ops=true) (h:Q .ret fr' H') (e:∀ K:Fr→List Ak→Prop,alist P outer ops ops K fr H=K fr' H':=by intro K;conv=>lhs;simp +decide -implicitDefEqProofs only[go_sem]):AWP md P n (.seq (.region id ops.toArray false) .ret) Q outer fr H:=sq (ar hd (qn (rt h)) e)
theorem gw2 {K K' K'':Fr→List Ak→Prop} {i i':Nat} (h:Q .ret fr H):(qblock i (qthen K (qthen K' (qblock i' (qthen K'' Q))))) .ret fr H:=br (qr (qr (br (qr h))))
theorem gw3 {id:Nat} {ops:List Oper} {fr':Fr} {H':List Ak} {K:Fr→List Ak→Prop} (hd:Mb n ops=true) (h:K fr' H') (e:∀ K:Fr→List Ak→Prop,alist P outer ops ops K fr H=K fr' H':=by intro K;conv=>lhs;simp +decide -implicitDefEqProofs only[go_sem]):AWP md P n (.region id ops.toArray false) (qthen K Q) outer fr H:=ar hd (qn h) e
theorem gw4 {K K' K'':Fr→List Ak→Prop} {i:Nat} (h:K'' fr H):AWP md P n (.exit i) (qthen K (qthen K' (qblock i (qthen K'' Q)))) outer fr H:=xt (qe (qe (bs (qn h))))
theorem gw5 {id:Nat} {ops:List Oper} {fr':Fr} {H':List Ak} {K:Fr→List Ak→Prop} {i:Nat} {Q':Exit→Fr→List Ak→Prop} (hd:Mb n ops=true) (h:K fr' H') (e:∀ K:Fr→List Ak→Prop,alist P outer ops ops K fr H=K fr' H':=by intro K;conv=>lhs;simp +decide -implicitDefEqProofs only[go_sem]):AWP md P n .skip (qblock i (qthen (AWP md P n (.region id ops.toArray false) (qthen K Q) outer) Q')) outer fr H:=sk (bn (qn (ar hd (qn h) e)))
theorem gw6 {c:Code} {d:Code} {Q':Exit→Fr→List Ak→Prop} (h:AWP md P n c (qthen (AWP md P n d Q outer) Q) outer fr H):AWP md P n .skip (qthen (AWP md P n (.seq c d) Q outer) Q') outer fr H:=sk (qn (sq h))
theorem gw7 {id:Nat} {ops:List Oper} {fr':Fr} {H':List Ak} {c:Code} {d:Code} {Q':Exit→Fr→List Ak→Prop} (hd:Mb n ops=true) (h:AWP md P n c (qthen (AWP md P n d Q outer) Q) outer fr' H') (e:∀ K:Fr→List Ak→Prop,alist P outer ops ops K fr H=K fr' H':=by intro K;conv=>lhs;simp +decide -implicitDefEqProofs only[go_sem]):AWP md P n (.region id ops.toArray false) (qthen (AWP md P n (.seq c d) Q outer) Q') outer fr H:=ar hd (qn (sq h)) e
theorem gw8 {id:Nat} {ops:List Oper} {fr':Fr} {H':List Ak} {K:Fr→List Ak→Prop} (hd:Mb n ops=true) (h:Q .ret fr' H') (e:∀ K:Fr→List Ak→Prop,alist P outer ops ops K fr H=K fr' H':=by intro K;conv=>lhs;simp +decide -implicitDefEqProofs only[go_sem]):AWP md P n (.seq (.region id ops.toArray false) .ret) (qthen K Q) outer fr H:=sq (ar hd (qn (rt (qr h))) e)
theorem gw9 {c:Code} {d:Code} {i:Nat} {Q':Exit→Fr→List Ak→Prop} (h:AWP md P n c (qblock i (qthen (AWP md P n d Q outer) Q)) outer fr H):AWP md P n .skip (qthen (AWP md P n (.seq (.block i c) d) Q outer) Q') outer fr H:=sk (qn (sq (bk h)))
theorem B5 {id:Nat} {ops:List Oper} {fr':Fr} {H':List Ak} {c:Code} {d d':Code} {Q':Exit→Fr→List Ak→Prop} (hd:Mb n ops=true) (h:AWP md P n c (qthen (AWP md P n d (qthen (AWP md P n d' Q outer) Q) outer) (qthen (AWP md P n d' Q outer) Q)) outer fr' H') (e:∀ K:Fr→List Ak→Prop,alist P outer ops ops K fr H=K fr' H':=by intro K;conv=>lhs;simp +decide -implicitDefEqProofs only[go_sem]):AWP md P n (.region id ops.toArray false) (qthen (AWP md P n (.seq (.seq c d) d') Q outer) Q') outer fr H:=ar hd (qn (sq (sq h))) e
theorem B8 {id:Nat} {ops:List Oper} {fr':Fr} {H':List Ak} {d:Code} (hd:Mb n ops=true) (h:AWP md P n d Q outer fr' H') (e:∀ K:Fr→List Ak→Prop,alist P outer ops ops K fr H=K fr' H':=by intro K;conv=>lhs;simp +decide -implicitDefEqProofs only[go_sem]):AWP md P n (.seq (.region id ops.toArray false) d) Q outer fr H:=sq (ar hd (qn h) e)
theorem Cd {id:Nat} {ops:List Oper} {fr':Fr} {H':List Ak} {K K' K'' K''':Fr→List Ak→Prop} {i i':Nat} (hd:Mb n ops=true) (h:Q .ret fr' H') (e:∀ K:Fr→List Ak→Prop,alist P outer ops ops K fr H=K fr' H':=by intro K;conv=>lhs;simp +decide -implicitDefEqProofs only[go_sem]):AWP md P n (.seq (.region id ops.toArray false) .ret) (qthen K (qblock i (qthen K' (qthen K'' (qblock i' (qthen K''' Q)))))) outer fr H:=sq (ar hd (qn (rt (qr (br (qr (qr (br (qr h)))))))) e)
theorem Cr {id:Nat} {ops:List Oper} {fr':Fr} {H':List Ak} {K K':Fr→List Ak→Prop} {i:Nat} {Q':Exit→Fr→List Ak→Prop} (hd:Mb n ops=true) (h:Q .ret fr' H') (e:∀ K:Fr→List Ak→Prop,alist P outer ops ops K fr H=K fr' H':=by intro K;conv=>lhs;simp +decide -implicitDefEqProofs only[go_sem]):AWP md P n (.exit i) (qthen K (qthen K' (qblock i (qthen (AWP md P n (.seq (.region id ops.toArray false) .ret) Q outer) Q')))) outer fr H:=xt (qe (qe (bs (qn (sq (ar hd (qn (rt h)) e))))))
theorem Cs {id:Nat} {ops:List Oper} {fr':Fr} {H':List Ak} {K K' K'':Fr→List Ak→Prop} {i i':Nat} (hd:Mb n ops=true) (h:Q .ret fr' H') (e:∀ K:Fr→List Ak→Prop,alist P outer ops ops K fr H=K fr' H':=by intro K;conv=>lhs;simp +decide -implicitDefEqProofs only[go_sem]):AWP md P n (.seq (.region id ops.toArray false) .ret) (qblock i (qthen K (qthen K' (qblock i' (qthen K'' Q))))) outer fr H:=sq (ar hd (qn (rt (br (qr (qr (br (qr h))))))) e)
theorem Eo {id:Nat} {ops:List Oper} {fr':Fr} {H':List Ak} {K:Fr→List Ak→Prop} {i:Nat} {Q':Exit→Fr→List Ak→Prop} (hd:Mb n ops=true) (h:K fr' H') (e:∀ K:Fr→List Ak→Prop,alist P outer ops ops K fr H=K fr' H':=by intro K;conv=>lhs;simp +decide -implicitDefEqProofs only[go_sem]):(qblock i (qthen (AWP md P n (.region id ops.toArray false) (qthen K Q) outer) Q')) .normal fr H:=bn (qn (ar hd (qn h) e))
theorem Co {K:Fr→List Ak→Prop} (h:K fr H):AWP md P n .skip (qthen K Q) outer fr H:=sk (qn h)
theorem Cy {id:Nat} {ops:List Oper} {fr':Fr} {H':List Ak} {c:Code} {d:Code} (hd:Mb n ops=true) (h:AWP md P n c (qthen (AWP md P n d Q outer) Q) outer fr' H') (e:∀ K:Fr→List Ak→Prop,alist P outer ops ops K fr H=K fr' H':=by intro K;conv=>lhs;simp +decide -implicitDefEqProofs only[go_sem]):AWP md P n (.seq (.region id ops.toArray false) (.seq c d)) Q outer fr H:=sq (ar hd (qn (sq h)) e)
theorem Cu {Q':Exit→Fr→List Ak→Prop} (h:Q .ret fr H):(qthen (AWP md P n .ret Q outer) Q') .normal fr H:=qn (rt h)
end
theorem x0 {σ ρ:Type} {q:ρ} {b:Out σ ρ} {g:σ→Option (Out σ ρ)} {o:Out σ ρ} {f:σ→Option ρ} {r:ρ} (h:some (Out.ret q)=some b) (hJ:b.cont g=some o) (hO:o.on f=some r):some q=some r:=by
  cases h;cases hJ;exact hO
theorem fnD {α σ ρ:Type} {step:Nat→α→σ→Option (Out σ ρ)} {k:Nat} {l:List α} {s:σ} {o:Out σ ρ} (h:Al step k (l.drop k) s=some o) (hc:decide ((k:Int)<(l.length:Int))=false):o= .next s:=J5 h fun hl=>by have:=Aom hc;omega
theorem leD {k m:Nat} (h:k≤m) (hc:decide ((k:Int)<(m:Int))=false):m=k:=by have:=Aom hc;omega
theorem fcD {α σ ρ:Type} {step:Nat→α→σ→Option (Out σ ρ)} {k:Nat} {l:List α} {s:σ} {o:Out σ ρ} (h:Al step k (l.drop k) s=some o) (hc:decide ((k:Int)<(l.length:Int))=true) :
    ∃ x b,k<l.length∧l[k]? =some x∧Da l (k:Int)=some x∧step k x s=some b∧b.cont (fun s'=>Al step (k+1) (l.drop (k+1)) s')=some o:=by
  have hl:k<l.length:=by have:=Aon hc;omega
  obtain⟨x,b,h1,h2,h3⟩:=G6 h hl
  exact⟨x,b,hl,h1,Cm h1,h2,h3⟩
end Go.Ab
