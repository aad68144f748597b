/- Our own texts: a layer of abstract values over the model, the walks of the functions, the plain laws; joined and shortened by a small program of our own (wip/dce2.py, wip/pack.py). -/
import Derived.Calls
import Derived.Tactics2
import Derived.Below
import Derived.Deep.LoopGhost
import Derived.KernelRfl
import Derived.Laws.Shifts
import Derived.Laws.CopyRow
import Derived.Laws.AppendOwn
import Derived.Laws.MakeOwn
import Derived.Laws.StructEq
import Derived.Maps.RangeRun
import Derived.WideKeyRuns
import Derived.Lib.SliceRun
import Derived.TacticsIn
import Derived.OrdersIn
import Derived.Sort.LoopGhostIn
import Derived.RangeFuncRecord
namespace Go
theorem bJ {p : Prop} [Decidable p] (h : decide p = false) : ¬ p := of_decide_eq_false h
theorem bK {p : Prop} [Decidable p] (h : decide p = true) : p := of_decide_eq_true h
theorem bL {p : Prop} [Decidable p] (h : p) : decide p = true := decide_eq_true h
theorem bM {p : Prop} [Decidable p] (h : ¬ p) : decide p = false := decide_eq_false h
theorem bN {α : Type} {l : List α} {i : Nat} (h : i < l.length) : l[i]? = some l[i] := List.getElem?_eq_getElem h
theorem bO {α : Type} {l : List α} {i : Nat} {a : α} (h : l[i]? = some a) : a ∈ l := List.mem_of_getElem? h
theorem bP {α β : Type} {a : α} {f : α → Option β} : (some a).bind f = f a := rfl
theorem bQ {α : Type} {a b : α} : (some a = some b) = (a = b) := Option.some.injEq a b
theorem bR {α : Type} {a b : List α} : (a ++ b).length = a.length + b.length := List.length_append
theorem bS {α : Type} {n : Nat} {a : α} : (List.replicate n a).length = n := List.length_replicate
theorem bT {α β : Type} {l : List α} (f : α → β) : (l.map f).length = l.length := List.length_map f
theorem bU {α : Type} {a : α} {s t : List α} : a ∈ s ++ t ↔ a ∈ s ∨ a ∈ t := List.mem_append
theorem bV {α : Type} {a b : α} (h : some a = some b) : a = b := Option.some.inj h
theorem bW {α : Type} {l : List α} {i : Nat} {a : α} : l[i]? = some a ↔ ∃ h : i < l.length, l[i] = a := List.getElem?_eq_some_iff
end Go
namespace Go.Ab
open Go Go.RowKit
inductive Ac where
  | any
  | bool (b:Bool)
  | int (k:IntKind) (n:Int)
  | str (s:ByteArray)
  | agg (cs:List Ac)
  | tuple (vs:List Ac)
  | nils
  | z0
  | sl (sz:Nat) (xs:List (List Ac))
  | own (r v lo len:Nat)
  | eptr (cs:List Ac)
  | ptr (r k:Nat)
  | rptr (r v i k:Nat)
  | nilm
  | map (r:Nat)
  | vmap (es:List (Int×Ac))
  | func (f:FuncId) (caps:List Ac)
  | iter (r:Nat)
  | yld (r:Nat)
  | pr (φ:(Nat→Prop)→World→Value→Prop)
  deriving Inhabited
abbrev Fr:=List (Nat×Ac)
def get:Fr→Nat→Ac
  | [],_=>.any
  | (k,v)::r,t=>if k=t then v else get r t
def Ac.g0:Ac→Bool
  | .any | .agg _ | .tuple _ | .own _ _ _ _ | .ptr _ _ | .rptr _ _ _ _ | .map _ | .func _ _ | .iter _ | .yld _=>false
  | _=>true
def Ac.g1:Ac→Bool
  | .agg cs=>cs.all Ac.g0
  | v=>v.g0
def Ac.g2:Ac→Bool
  | .tuple vs=>vs.all Ac.g1
  | v=>v.g1
def Ac.f0:Ac→Bool
  | .any | .bool _ | .int _ _ | .str _ | .nils | .z0 | .nilm=>true
  | _=>false
def Ac.f1:Ac→Bool
  | .agg cs=>cs.all Ac.f0
  | v=>v.f0
def Ac.f2:Ac→Bool
  | .tuple vs=>vs.all Ac.f1
  | v=>v.f1
inductive Ap where
  | box (cs:List Ac)
  | row (v sz:Nat) (xs:List (List Ac))
  | mp (es:List (Int×Ac))
  | mpo (q:Bool) (es:List (Int×Ac))
  | it (left:List (Int×Ac)) (cur:Option (Int×Ac))
  | lp (D n:Nat) (fr:Fr) (ps:Array Tmp) (asg body:Code) (st:LoopState) (p:Option Code)
  | gone
  | resv
def Ap.X7:Ap→Bool
  | .mp _ | .mpo _ _=>true
  | _=>false
def Ap.Yj:Ap→Bool
  | .lp _ _ _ _ _ _ _ _=>true
  | _=>false
structure Loc where
  b:Nat
  base:Nat
  cap:Nat
structure Ctx where
  A0:Nat→Prop
  A:Nat→Prop
  ρ:Nat→Option Loc
  H:List Ap
def Ctx.known (C:Ctx) (r:Nat):Prop:=∃ o,C.H[r]? =some o∧o≠.resv
def tri:Nat→Nat
  | 0=>0
  | n+1=>tri n+n+1
def zz (a:Int):Nat:=if 0≤a then 2*a.toNat else 2*(-a).toNat - 1
def pk (a b:Int):Int:=((tri (zz a+zz b)+zz b:Nat):Int)
def Kx:Bool→Value→Int→Prop
  | false,v,n=>v= .int .i64 n
  | true,v,n=>∃ a b,v= .agg #[.int .i64 a,.int .i64 b]∧n=pk a b
structure F7 (q:Bool) (entries:Array MapEntry) (clock:Nat) (es:List (Int×Ac)):Prop where
  size:entries.size=es.length
  keys:∀ (i:Nat) (e:MapEntry) (p:Int×Ac),entries[i]? =some e→es[i]? =some p→Kx q e.key p.1
  nodup:(es.map (·.1)).Nodup
  born:∀ e∈entries.toList,e.born<clock
  bnodup:(entries.toList.map (·.born)).Nodup
theorem F7.Jd {entries:Array MapEntry} {clock:Nat} {es:List (Int×Ac)} (h:F7 false entries clock es):∀ (i:Nat) (e:MapEntry) (p:Int×Ac),entries[i]? =some e→es[i]? =some p→e.key= .int .i64 p.1:=h.keys
def Yp (A:Nat→Prop) (w:World) (A':Nat→Prop) (w':World):Prop:=∀ b,A b→A' b∧(w'.heap[b]? =w.heap[b]?∨∃ ds,w.heap[b]? =some (.deferred ds))
inductive A4 (C:Ctx) (w:World):Value→Ac→Prop
  | any (v:Value):A4 C w v .any
  | bool (b:Bool):A4 C w (.bool b) (.bool b)
  | int (k:IntKind) (n:Int):A4 C w (.int k n) (.int k n)
  | str (s:ByteArray):A4 C w (.string s) (.str s)
  | agg (arr:Array Value) (cs:List Ac) (h:arr.size=cs.length)
      (hc:∀ (i:Nat) (u:Value) (c:Ac),arr[i]? =some u→cs[i]? =some c→A4 C w u c):A4 C w (.agg arr) (.agg cs)
  | tuple (arr:Array Value) (cs:List Ac) (h:arr.size=cs.length)
      (hc:∀ (i:Nat) (u:Value) (c:Ac),arr[i]? =some u→cs[i]? =some c→A4 C w u c):A4 C w (.tuple arr) (.tuple cs)
  | nils:A4 C w (.slice none 0 0) .nils
  | z0 (a:Option Addr):A4 C w (.slice a 0 0) .z0
  | sl0 (a:Option Addr) (cap sz:Nat) (bc:cap≤maxLen):A4 C w (.slice a 0 cap) (.sl sz [])
  | sl (a:Addr) (len cap:Nat) (xs:List (List Ac)) (sz:Nat) (u:Nat→Value)
   (bh:a.spot=none) (hlen:len=xs.length) (bq:len≤cap) (bc:cap≤maxLen)
   (hA:C.A a.block) (au:1≤sz) (bb:∀ x∈xs,x.length=sz) (hg:∀ x∈xs,∀ c∈x,Ac.g0 c=true)
   (af:∀ j,j<xs.length*sz→w.cell? ⟨a.block,a.off+j,none⟩=some (u j))
   (ag:∀ (i k:Nat) (x:List Ac) (c:Ac),xs[i]? =some x→x[k]? =some c→A4 C w (u (i*sz+k)) c) :
   A4 C w (.slice (some a) len cap) (.sl sz xs)
  | own (a:Option Addr) (len cap r v lo:Nat) (hr:C.known r) (bq:len≤cap) (bc:cap≤maxLen)
      (hv:∀ v' sz xs,C.H[r]? =some (.row v' sz xs)→v≤v'∧(v=v'→lo+len≤xs.length∧
        (cap=0∨∃ l,C.ρ r=some l∧a=some ⟨l.b,l.base+lo*sz,none⟩∧l.base+(lo+cap)*sz≤l.cap))) :
      A4 C w (.slice a len cap) (.own r v lo len)
  | eptr (a:Addr) (cs:List Ac) (u:Nat→Value) (bh:a.spot=none) (hA:C.A a.block) (hg:∀ c∈cs,Ac.g0 c=true)
      (af:∀ j,j<cs.length→w.cell? ⟨a.block,a.off+j,none⟩=some (u j))
      (ag:∀ (j:Nat) (c:Ac),cs[j]? =some c→A4 C w (u j) c):A4 C w (.pointer (some a)) (.eptr cs)
  | ptr (a:Addr) (r k:Nat) (hr:C.known r)
      (h:∀ cs,C.H[r]? =some (.box cs)→∃ l,C.ρ r=some l∧a=⟨l.b,k,none⟩):A4 C w (.pointer (some a)) (.ptr r k)
  | rptr (a:Addr) (r v i k:Nat) (hr:C.known r)
      (h:∀ v' sz xs,C.H[r]? =some (.row v' sz xs)→v≤v'∧(v=v'→i<xs.length∧∃ l,C.ρ r=some l∧a=⟨l.b,l.base+i*sz+k,none⟩)) :
      A4 C w (.pointer (some a)) (.rptr r v i k)
  | nilm:A4 C w (.map none) .nilm
  | map (b r:Nat) (hr:C.known r) (h:∀ o,C.H[r]? =some o→o.X7=true→∃ l,C.ρ r=some l∧b=l.b):A4 C w (.map (some b)) (.map r)
  | vmap0:A4 C w (.map none) (.vmap [])
  | vmap (b:Nat) (es:List (Int×Ac)) (entries:Array MapEntry) (clock:Nat)
      (hA:C.A b) (hg:∀ p∈es,Ac.g1 p.2=true) (hh:w.heap[b]? =some (.map entries clock)) (ak:F7 false entries clock es)
      (ag:∀ (i:Nat) (e:MapEntry) (p:Int×Ac),entries[i]? =some e→es[i]? =some p→A4 C w e.val p.2):A4 C w (.map (some b)) (.vmap es)
  | func (f:FuncId) (arr:Array Value) (cs:List Ac) (h:arr.size=cs.length)
      (hc:∀ (i:Nat) (u:Value) (c:Ac),arr[i]? =some u→cs[i]? =some c→A4 C w u c):A4 C w (.func (.func f) #[] arr) (.func f cs)
  | iter (a:Addr) (r:Nat) (hr:C.known r) (bh:a.off=0∧a.spot=none)
      (h:∀ left cur,C.H[r]? =some (.it left cur)→∃ l,C.ρ r=some l∧a.block=l.b):A4 C w (.pointer (some a)) (.iter r)
  | yld (b r:Nat) (hr:C.known r) (h:∀ o,C.H[r]? =some o→o.Yj=true→∃ l,C.ρ r=some l∧b=l.b):A4 C w (.func (.yield b) #[] #[]) (.yld r)
  | pr (φ:(Nat→Prop)→World→Value→Prop) (a:Option Addr) (len cap:Nat) (h:φ C.A w (.slice a len cap)) (hs:∀ A w A' w',Yp A w A' w'→φ A w (.slice a len cap)→φ A' w' (.slice a len cap)):A4 C w (.slice a len cap) (.pr φ)
def Cd (C C':Ctx) (r:Nat):Prop:=
  match C'.H[r]? with
  | some (.box _)=>(∃ cs,C.H[r]? =some (.box cs))∧C'.ρ r=C.ρ r
  | some (.row v sz xs')=>(∃ xs,C.H[r]? =some (.row v sz xs)∧xs.length≤xs'.length∧C'.ρ r=C.ρ r)∨(∃ v0 sz0 xs0,C.H[r]? =some (.row v0 sz0 xs0)∧v0<v)
  | some (.mp _)=>(∃ o,C.H[r]? =some o∧o.X7=true)∧C'.ρ r=C.ρ r
  | some (.mpo _ _)=>(∃ o,C.H[r]? =some o∧o.X7=true)∧C'.ρ r=C.ρ r
  | some (.it _ _)=>(∃ l c,C.H[r]? =some (.it l c))∧C'.ρ r=C.ρ r
  | some (.lp _ _ _ _ _ _ _ _)=>(∃ o,C.H[r]? =some o∧o.Yj=true)∧C'.ρ r=C.ρ r
  | some .gone=>True
  | some .resv=>False
  | none=>False
theorem Cd.known {C C':Ctx} {r:Nat} (h:Cd C C' r):C'.known r:=by
  unfold Cd at h
  split at h
  all_goals first
    | exact h.elim
    | (rename_i h1;exact⟨_,h1,by simp⟩)
    | (rename_i h1 h2;exact⟨_,h1,by simp⟩)
    | (rename_i h1 _;exact⟨_,h1,by simp⟩)
structure Cx (C:Ctx) (w:World) (C':Ctx) (w':World):Prop where
  imm:∀ b,C.A b→C'.A b∧w'.heap[b]? =w.heap[b]?
  len:C.H.length≤C'.H.length
  A0:C'.A0=C.A0
  obj:∀ r,C.known r→Cd C C' r
theorem Eg {w w':World} {a:Addr} (h:w'.heap[a.block]? =w.heap[a.block]?):w'.cell? a=w.cell? a:=by
  unfold World.cell?;rw[h]
theorem A4.mono {C C':Ctx} {w w':World} (m:Cx C w C' w') {v:Value} {a:Ac} (h:A4 C w v a):A4 C' w' v a:=by
  induction h with
  | any v=>exact .any v
  | bool b=>exact .bool b
  | int k n=>exact .int k n
  | str s=>exact .str s
  | agg arr cs h _ ih=>exact .agg arr cs h ih
  | tuple arr cs h _ ih=>exact .tuple arr cs h ih
  | nils=>exact .nils
  | z0 a=>exact .z0 a
  | sl0 a cap sz bc=>exact .sl0 a cap sz bc
  | sl a len cap xs sz u bh hlen bq bc hA au bb hg af ag ih=>
    refine .sl a len cap xs sz u bh hlen bq bc (m.imm _ hA).1 au bb hg (fun j hj=>?_) ih
    rw[Eg (w:=w)];exact af j hj
    exact(m.imm _ hA).2
  | own a len cap r v lo hr bq bc hv=>
    refine .own a len cap r v lo (m.obj r hr).known bq bc (fun v' sz xs h=>?_)
    have:=m.obj r hr
    unfold Cd at this
    rw[h]at this
    rcases this with⟨xs0,h0,hl,hρ⟩ | ⟨v0,sz0,xs0,h0,ab⟩
    ·have h1:=hv _ _ _ h0
     refine⟨h1.1,fun e=>?_⟩
     obtain⟨h2,h3⟩:=h1.2 e
     exact⟨by omega,by rw[hρ];exact h3⟩
    ·have h1:=hv _ _ _ h0
     exact⟨by omega,fun e=>by omega⟩
  | eptr a cs u bh hA hg af ag ih=>
    refine .eptr a cs u bh (m.imm _ hA).1 hg (fun j hj=>?_) ih
    rw[Eg (w:=w)];exact af j hj
    exact(m.imm _ hA).2
  | ptr a r k hr h=>
    refine .ptr a r k (m.obj r hr).known (fun cs h'=>?_)
    have:=m.obj r hr
    unfold Cd at this
    rw[h']at this
    obtain⟨⟨cs0,h0⟩,hρ⟩:=this
    rw[hρ];exact h _ h0
  | rptr a r v i k hr h=>
    refine .rptr a r v i k (m.obj r hr).known (fun v' sz xs h'=>?_)
    have:=m.obj r hr
    unfold Cd at this
    rw[h']at this
    rcases this with⟨xs0,h0,hl,hρ⟩ | ⟨v0,sz0,xs0,h0,ab⟩
    ·have h1:=h _ _ _ h0
     refine⟨h1.1,fun e=>?_⟩
     obtain⟨h2,h3⟩:=h1.2 e
     exact⟨by omega,by rw[hρ];exact h3⟩
    ·have h1:=h _ _ _ h0
     exact⟨by omega,fun e=>by omega⟩
  | nilm=>exact .nilm
  | pr φ a len cap h hs=>exact .pr φ a len cap (hs _ _ _ _ (fun b hb=>⟨(m.imm b hb).1,.inl (m.imm b hb).2⟩) h) hs
  | map b r hr h=>
    refine .map b r (m.obj r hr).known (fun o h' hl=>?_)
    have:=m.obj r hr
    unfold Cd at this
    rw[h']at this
    cases o<;>first | (cases hl;done) | (obtain⟨⟨o0,h0,ez⟩,hρ⟩:=this;rw[hρ];exact h _ h0 ez)
  | vmap0=>exact .vmap0
  | vmap b es entries clock hA hg hh ak ag ih=>
    exact .vmap b es entries clock (m.imm _ hA).1 hg (by rw[(m.imm _ hA).2];exact hh) ak ih
  | func f arr cs h _ ih=>exact .func f arr cs h ih
  | iter a r hr bh h=>
    refine .iter a r (m.obj r hr).known bh (fun left cur h'=>?_)
    have:=m.obj r hr
    unfold Cd at this
    rw[h']at this
    obtain⟨⟨l0,c0,h0⟩,hρ⟩:=this
    rw[hρ];exact h _ _ h0
  | yld b r hr h=>
    refine .yld b r (m.obj r hr).known (fun o h' hl=>?_)
    have:=m.obj r hr
    unfold Cd at this
    cases o<;>first | (cases hl;done) | skip
    rw[h']at this
    obtain⟨⟨o0,h0,ez⟩,hρ⟩:=this
    rw[hρ];exact h _ h0 ez
def Q4 (C:Ctx) (w:World) (es:List MapEntry) (left:List (Int×Ac)):Prop:=
  es.length=left.length∧∀ (i:Nat) (e:MapEntry) (p:Int×Ac),es[i]? =some e→left[i]? =some p→e.key= .int .i64 p.1∧Ac.g1 p.2=true∧A4 C w e.val p.2
theorem Q4.mono {C C':Ctx} {w w':World} (m:Cx C w C' w') {es:List MapEntry} {left:List (Int×Ac)} (h:Q4 C w es left):Q4 C' w' es left:=
  ⟨h.1,fun i e p a b=>⟨(h.2 i e p a b).1,(h.2 i e p a b).2.1,(h.2 i e p a b).2.2.mono m⟩⟩
def J9 (C:Ctx) (w:World) (r:Nat):Ap→Prop
  | .box cs=>∃ l arr T,C.ρ r=some l∧w.heap[l.b]? =some (.cells arr T (0,0))∧arr.size=cs.length∧
      ∀ (i:Nat) (u:Value) (c:Ac),arr[i]? =some u→cs[i]? =some c→A4 C w u c
  | .row _ sz xs=>1≤sz∧(∀ x∈xs,x.length=sz)∧(∀ x∈xs,∀ c∈x,Ac.g0 c=true)∧((xs=[]∧C.ρ r=none)∨∃ l arr T,C.ρ r=some l∧w.heap[l.b]? =some (.cells arr T (0,0))∧
      arr.size=l.cap∧l.base+xs.length*sz≤l.cap∧∀ (i k:Nat) (x:List Ac) (c:Ac),xs[i]? =some x→x[k]? =some c→∃ u,arr[l.base+(i*sz+k)]? =some u∧A4 C w u c)
  | .mp es=>∃ l entries clock,C.ρ r=some l∧w.heap[l.b]? =some (.map entries clock)∧F7 false entries clock es∧(∀ p∈es,Ac.g1 p.2=true)∧
      ∀ (i:Nat) (e:MapEntry) (p:Int×Ac),entries[i]? =some e→es[i]? =some p→A4 C w e.val p.2
  | .mpo q es=>∃ l entries clock,C.ρ r=some l∧w.heap[l.b]? =some (.map entries clock)∧F7 q entries clock es∧
      ∀ (i:Nat) (e:MapEntry) (p:Int×Ac),entries[i]? =some e→es[i]? =some p→A4 C w e.val p.2
  | .it left cur=>∃ l,C.ρ r=some l∧((left=[]∧cur=none∧∃ s n k,w.heap[l.b]? =some (.mapIter none s n k))∨
      ∃ bm seen entries clock,w.heap[l.b]? =some (.mapIter (some bm) clock seen clock)∧C.A bm∧w.heap[bm]? =some (.map entries clock)∧
        (∀ e∈entries.toList,e.born<clock)∧(entries.toList.map (·.born)).Nodup∧
        Q4 C w (entries.toList.filter fun e=>!seen.contains e.born) left∧
        (∀ p,cur=some p→∃ e∈entries.toList,seen.back? =some e.born∧e.key= .int .i64 p.1∧Ac.g1 p.2=true∧A4 C w e.val p.2))
  | .lp D n fr ps asg body st p=>∃ l rec,C.ρ r=some l∧l.b=D+1∧w.heap[l.b]? =some (.loop rec)∧rec.params=ps∧rec.assign=asg∧rec.body=body∧rec.state=st∧rec.pending=p∧rec.defers=D∧rec.tmps.size=n∧
      (∀ t,A4 C w (rec.tmps.getD t undef) (get fr t))∧C.A D∧w.heap[D]? =some (.deferred (some []))
  | .gone=>C.ρ r=none
  | .resv=>C.ρ r=none
theorem J9.mono {C C':Ctx} {w w':World} (m:Cx C w C' w') {r:Nat} {o:Ap} (h:J9 C w r o) (hρ:C'.ρ r=C.ρ r)
    (hh:∀ l,C.ρ r=some l→w'.heap[l.b]? =w.heap[l.b]?):J9 C' w' r o:=by
  cases o with
  | box cs=>
    obtain⟨l,arr,T,h1,h2,h3,h4⟩:=h
    exact⟨l,arr,T,by rw[hρ];exact h1,by rw[hh l h1];exact h2,h3,fun i u c a b=>(h4 i u c a b).mono m⟩
  | row v sz xs=>
    obtain⟨h0,qg,kx,h⟩:=h
    refine⟨h0,qg,kx,?_⟩
    rcases h with⟨h1,h2⟩ | ⟨l,arr,T,h1,h2,h3,h4,h5⟩
    ·exact .inl ⟨h1,by rw[hρ];exact h2⟩
    ·refine .inr ⟨l,arr,T,by rw[hρ];exact h1,by rw[hh l h1];exact h2,h3,h4,fun i k x c a b=>?_⟩
     obtain⟨u,hu,hr⟩:=h5 i k x c a b
     exact⟨u,hu,hr.mono m⟩
  | mp es=>
    obtain⟨l,en,cl,h1,h2,h3,hg,h4⟩:=h
    exact⟨l,en,cl,by rw[hρ];exact h1,by rw[hh l h1];exact h2,h3,hg,fun i e p a b=>(h4 i e p a b).mono m⟩
  | mpo q es=>
    obtain⟨l,en,cl,h1,h2,h3,h4⟩:=h
    exact⟨l,en,cl,by rw[hρ];exact h1,by rw[hh l h1];exact h2,h3,fun i e p a b=>(h4 i e p a b).mono m⟩
  | it left cur=>
    obtain⟨l,h1,h⟩:=h
    refine⟨l,by rw[hρ];exact h1,?_⟩
    rcases h with⟨h2,nj,s,n,k,h3⟩ | ⟨bm,seen,en,clock,h2,h3,h4,h5,h6,h7,h8⟩
    ·exact .inl ⟨h2,nj,s,n,k,by rw[hh l h1];exact h3⟩
    ·refine .inr ⟨bm,seen,en,clock,by rw[hh l h1];exact h2,(m.imm _ h3).1,by rw[(m.imm _ h3).2];exact h4,h5,h6,h7.mono m,fun p hp=>?_⟩
     obtain⟨e,g1,g2,g3,g4,g5⟩:=h8 p hp
     exact⟨e,g1,g2,g3,g4,g5.mono m⟩
  | lp D n fr ps asg body st p=>
    obtain⟨l,rec,h1,h0,h2,h3,h4,h5,h6,h7,h8,h9,ig,gh,jc⟩:=h
    exact⟨l,rec,by rw[hρ];exact h1,h0,by rw[hh l h1];exact h2,h3,h4,h5,h6,h7,h8,h9,fun t=>(ig t).mono m,(m.imm _ gh).1,by rw[(m.imm _ gh).2];exact jc⟩
  | gone=>show C'.ρ r=none;rw[hρ];exact h
  | resv=>show C'.ρ r=none;rw[hρ];exact h
structure Inv (W0:World) (C:Ctx) (w:World):Prop where
  below:Below W0.heap.size W0 w
  sub:∀ b,C.A b→b<w.heap.size
  old:∀ b,C.A b→b<W0.heap.size→C.A0 b
  sep:∀ r l,C.ρ r=some l→r<C.H.length∧W0.heap.size≤l.b∧l.b<w.heap.size∧¬ C.A l.b
  inj:∀ r r' l l',C.ρ r=some l→C.ρ r'=some l'→l.b=l'.b→r=r'
  objs:∀ (r:Nat) o,C.H[r]? =some o→J9 C w r o
theorem Inv.step {W0:World} {C C':Ctx} {w w':World} (I:Inv W0 C w) (m:Cx C w C' w') (hb:Below W0.heap.size W0 w')
    (gp:∀ b,C'.A b→b<w'.heap.size) (hold:∀ b,C'.A b→b<W0.heap.size→C.A0 b) (sc:∀ r l,C'.ρ r=some l→r<C'.H.length∧W0.heap.size≤l.b∧l.b<w'.heap.size∧¬ C'.A l.b)
    (tj:∀ r r' l l',C'.ρ r=some l→C'.ρ r'=some l'→l.b=l'.b→r=r')
    (si:∀ (r:Nat) o,C'.H[r]? =some o→J9 C' w' r o∨(C.H[r]? =some o∧C'.ρ r=C.ρ r∧∀ l,C.ρ r=some l→w'.heap[l.b]? =w.heap[l.b]?)) :
    Inv W0 C' w':=by
  refine⟨hb,gp,by rw[m.A0];exact hold,sc,tj,fun r o h=>?_⟩
  rcases si r o h with h' | ⟨h1,h2,h3⟩
  ·exact h'
  ·exact(I.objs r o h1).mono m h2 h3
theorem Ac.Dx {a:Ac} (h:a.g0=true):a.g2=true:=by
  cases a<;>simp_all [Ac.g0,Ac.g1,Ac.g2]
theorem Ac.Wi {a:Ac} (h:a.g0=true):a.g1=true:=by
  cases a<;>simp_all [Ac.g0,Ac.g1]
theorem Ac.Ee {a:Ac} (h:a.g1=true):a.g2=true:=by
  cases a<;>simp_all [Ac.g0,Ac.g1,Ac.g2]
theorem A4.ground {C C2:Ctx} {w w2:World} (m:∀ b,C.A b→C2.A b∧w2.heap[b]? =w.heap[b]?) {v:Value} {a:Ac} (h:A4 C w v a) :
    a.g2=true→A4 C2 w2 v a:=by
  induction h with
  | any v=>exact fun _=>.any v
  | bool b=>exact fun _=>.bool b
  | int k n=>exact fun _=>.int k n
  | str s=>exact fun _=>.str s
  | agg arr cs h _ ih=>
    intro hg
    simp only[Ac.g2,Ac.g1,List.all_eq_true]at hg
    exact .agg arr cs h fun i u c a b=>ih i u c a b (Ac.Dx (hg c (bO b)))
  | tuple arr cs h _ ih=>
    intro hg
    simp only[Ac.g2,List.all_eq_true]at hg
    exact .tuple arr cs h fun i u c a b=>ih i u c a b (Ac.Ee (hg c (bO b)))
  | nils=>exact fun _=>.nils
  | z0 a=>exact fun _=>.z0 a
  | sl0 a cap sz bc=>exact fun _=>.sl0 a cap sz bc
  | sl a len cap xs sz u bh hlen bq bc hA au bb hg af ag ih=>
    intro _
    refine .sl a len cap xs sz u bh hlen bq bc (m _ hA).1 au bb hg (fun j hj=>?_) fun i k x c a b=>ih i k x c a b (Ac.Dx (hg x (bO a) c (bO b)))
    rw[Eg (w:=w)];exact af j hj
    exact(m _ hA).2
  | own=>intro h;simp[Ac.g2,Ac.g1,Ac.g0]at h
  | eptr a cs u bh hA hg af ag ih=>
    intro _
    refine .eptr a cs u bh (m _ hA).1 hg (fun j hj=>?_) fun j c b=>ih j c b (Ac.Dx (hg c (bO b)))
    rw[Eg (w:=w)];exact af j hj
    exact(m _ hA).2
  | ptr=>intro h;simp[Ac.g2,Ac.g1,Ac.g0]at h
  | rptr=>intro h;simp[Ac.g2,Ac.g1,Ac.g0]at h
  | nilm=>exact fun _=>.nilm
  | pr φ a len cap h hs=>exact fun _=>.pr φ a len cap (hs _ _ _ _ (fun b hb=>⟨(m b hb).1,.inl (m b hb).2⟩) h) hs
  | map=>intro h;simp[Ac.g2,Ac.g1,Ac.g0]at h
  | vmap0=>exact fun _=>.vmap0
  | vmap b es entries clock hA hg hh ak ag ih=>
    intro _
    exact .vmap b es entries clock (m _ hA).1 hg (by rw[(m _ hA).2];exact hh) ak fun i e p a b=>ih i e p a b (Ac.Ee (hg p (bO b)))
  | func=>intro h;simp[Ac.g2,Ac.g1,Ac.g0]at h
  | iter=>intro h;simp[Ac.g2,Ac.g1,Ac.g0]at h
  | yld=>intro h;simp[Ac.g2,Ac.g1,Ac.g0]at h
theorem A4.flat {C C2:Ctx} {w w2:World} {v:Value} {a:Ac} (h:A4 C w v a):a.f2=true→A4 C2 w2 v a:=by
  induction h with
  | any v=>exact fun _=>.any v
  | bool b=>exact fun _=>.bool b
  | int k n=>exact fun _=>.int k n
  | str s=>exact fun _=>.str s
  | agg arr cs h _ ih=>
    intro hg
    simp only[Ac.f2,Ac.f1,List.all_eq_true]at hg
    refine .agg arr cs h fun i u c a b=>ih i u c a b ?_
    have:=hg c (bO b)
    cases c<;>simp_all [Ac.f0,Ac.f1,Ac.f2]
  | tuple arr cs h _ ih=>
    intro hg
    simp only[Ac.f2,List.all_eq_true]at hg
    refine .tuple arr cs h fun i u c a b=>ih i u c a b ?_
    have:=hg c (bO b)
    cases c<;>simp_all [Ac.f0,Ac.f1,Ac.f2]
  | nils=>exact fun _=>.nils
  | z0 a=>exact fun _=>.z0 a
  | nilm=>exact fun _=>.nilm
  | pr φ a len cap h hs=>intro h;simp[Ac.f2,Ac.f1,Ac.f0]at h
  | sl0=>intro h;simp[Ac.f2,Ac.f1,Ac.f0]at h
  | sl=>intro h;simp[Ac.f2,Ac.f1,Ac.f0]at h
  | own=>intro h;simp[Ac.f2,Ac.f1,Ac.f0]at h
  | eptr=>intro h;simp[Ac.f2,Ac.f1,Ac.f0]at h
  | ptr=>intro h;simp[Ac.f2,Ac.f1,Ac.f0]at h
  | rptr=>intro h;simp[Ac.f2,Ac.f1,Ac.f0]at h
  | map=>intro h;simp[Ac.f2,Ac.f1,Ac.f0]at h
  | vmap0=>intro h;simp[Ac.f2,Ac.f1,Ac.f0]at h
  | vmap=>intro h;simp[Ac.f2,Ac.f1,Ac.f0]at h
  | func=>intro h;simp[Ac.f2,Ac.f1,Ac.f0]at h
  | iter=>intro h;simp[Ac.f2,Ac.f1,Ac.f0]at h
  | yld=>intro h;simp[Ac.f2,Ac.f1,Ac.f0]at h
theorem Cd.same {C C':Ctx} {r:Nat} (hk:C.known r) (h:C'.H[r]? =C.H[r]?) (hρ:C'.ρ r=C.ρ r):Cd C C' r:=by
  unfold Cd
  rw[h]
  obtain⟨o,ho,ar⟩:=hk
  rw[ho]
  cases o with
  | box cs=>exact ⟨⟨cs,rfl⟩,hρ⟩
  | row v sz xs=>exact .inl ⟨xs,rfl,Nat.le_refl _,hρ⟩
  | mp es=>exact ⟨⟨_,rfl,rfl⟩,hρ⟩
  | mpo q es=>exact ⟨⟨_,rfl,rfl⟩,hρ⟩
  | it l c=>exact ⟨⟨l,c,rfl⟩,hρ⟩
  | lp=>exact ⟨⟨_,rfl,rfl⟩,hρ⟩
  | gone=>trivial
  | resv=>exact absurd rfl ar
theorem Ctx.known.lt {C:Ctx} {r:Nat} (h:C.known r):r<C.H.length:=by
  obtain⟨o,ho,_⟩:=h
  exact(bW.1 ho).1
theorem Cx.refl (C:Ctx) (w:World):Cx C w C w:=⟨fun _ h=>⟨h,rfl⟩,Nat.le_refl _,rfl,fun _ h=>.same h rfl rfl⟩
theorem Cx.trans {C1 C2 C3:Ctx} {w1 w2 w3:World} (m:Cx C1 w1 C2 w2) (k:Cx C2 w2 C3 w3):Cx C1 w1 C3 w3:=by
  refine⟨fun b h=>⟨(k.imm _ (m.imm _ h).1).1,(k.imm _ (m.imm _ h).1).2.trans (m.imm _ h).2⟩,Nat.le_trans m.len k.len,k.A0.trans m.A0,fun r hr=>?_⟩
  have h1:=m.obj r hr
  have h2:=k.obj r h1.known
  unfold Cd at h1 h2 ⊢
  cases h3:C3.H[r]? with
  | none=>rw[h3]at h2;exact h2.elim
  | some o=>
    rw[h3]at h2
    cases o with
    | box cs=>
      obtain⟨⟨c2,e2⟩,p2⟩:=h2
      rw[e2]at h1
      exact⟨h1.1,p2.trans h1.2⟩
    | row v sz xs=>
      rcases h2 with⟨xs2,e2,l2,p2⟩ | ⟨v0,sz0,xs0,e2,lt⟩
      ·rw[e2]at h1
       rcases h1 with⟨xs1,e1,l1,p1⟩ | ⟨v1,sz1,xs1,e1,lt1⟩
       ·exact .inl ⟨xs1,e1,by omega,p2.trans p1⟩
       ·exact .inr ⟨v1,sz1,xs1,e1,lt1⟩
      ·rw[e2]at h1
       rcases h1 with⟨xs1,e1,l1,p1⟩ | ⟨v1,sz1,xs1,e1,lt1⟩
       ·exact .inr ⟨v0,sz0,xs1,e1,lt⟩
       ·exact .inr ⟨v1,sz1,xs1,e1,by omega⟩
    | mp es=>
      obtain⟨⟨o2,e2,l2⟩,p2⟩:=h2
      rw[e2]at h1
      cases o2<;>first | (cases l2;done) | exact⟨h1.1,p2.trans h1.2⟩
    | mpo q es=>
      obtain⟨⟨o2,e2,l2⟩,p2⟩:=h2
      rw[e2]at h1
      cases o2<;>first | (cases l2;done) | exact⟨h1.1,p2.trans h1.2⟩
    | it l c=>
      obtain⟨⟨c2,d2,e2⟩,p2⟩:=h2
      rw[e2]at h1
      exact⟨h1.1,p2.trans h1.2⟩
    | lp=>
      obtain⟨⟨o2,e2,l2⟩,p2⟩:=h2
      rw[e2]at h1
      cases o2<;>first | (cases l2;done) | skip
      exact⟨h1.1,p2.trans h1.2⟩
    | gone=>trivial
    | resv=>exact h2.elim
def Dy (H:List Ap) (id:Nat) (o:Ap):List Ap:=if id=H.length then H++[o]else H.set id o
def F4 (H:List Ap) (id:Nat):Prop:=id=H.length∨H[id]? =some .resv
theorem Da {H:List Ap} {id:Nat} {o:Ap} (h:F4 H id):(Dy H id o)[id]? =some o:=by
  unfold Dy
  rcases h with h | h
  ·rw[if_pos h,h];simp
  ·have ab:=(bW.1 h).1
   rw[if_neg (by omega),List.getElem?_set_self ab]
theorem Fg {H:List Ap} {id r:Nat} {o:Ap} (_h:F4 H id) (hr:r≠id):(Dy H id o)[r]? =H[r]?:=by
  unfold Dy
  split
  ·rename_i e
   by_cases h1:r<H.length
   ·rw[List.getElem?_append_left h1]
   ·have h2:(H++[o]).length≤r:=by rw[bR];simp;omega
    rw[List.getElem?_eq_none h2,List.getElem?_eq_none (Nat.le_of_not_lt h1)]
  ·rw[List.getElem?_set_ne (fun e=>hr e.symm)]
theorem G5 {H:List Ap} {id:Nat} {o:Ap}:H.length≤(Dy H id o).length:=by
  unfold Dy;split<;>simp
theorem Ss {H:List Ap} {id:Nat} {o:Ap} (h:F4 H id):id<(Dy H id o).length:=(bW.1 (Da h)).1
def Ctx.set (C:Ctx) (r:Nat) (o:Ap):Ctx:={C with H:=C.H.set r o}
def Ctx.new (C:Ctx) (id:Nat) (o:Ap) (l:Loc):Ctx:={C with ρ:=fun r=>if r=id then some l else C.ρ r,H:=Dy C.H id o}
def Ctx.ghost (C:Ctx) (id:Nat) (o:Ap):Ctx:={C with H:=Dy C.H id o}
def Ctx.more (C:Ctx) (S:Nat→Prop):Ctx:={C with A:=fun b=>C.A b∨S b}
theorem Inv.put {W0:World} {C:Ctx} {w w':World} (I:Inv W0 C w) {r:Nat} {o o':Ap} {l:Loc} (hr:C.H[r]? =some o) (hρ:C.ρ r=some l)
    (hw:∀ b,b≠l.b→w'.heap[b]? =w.heap[b]?) (bb:w'.heap.size=w.heap.size) (hb:Below W0.heap.size W0 w')
    (hm:Cd C (C.set r o') r) (ho:Cx C w (C.set r o') w'→J9 (C.set r o') w' r o') :
    Inv W0 (C.set r o') w'∧Cx C w (C.set r o') w':=by
  have ab:r<C.H.length:=(I.sep r l hρ).1
  have m:Cx C w (C.set r o') w':=by
    refine⟨fun b hA=>⟨hA,hw b fun e=>(I.sep r l hρ).2.2.2 (e ▸ hA)⟩,by simp[Ctx.set],rfl,fun r' c6=>?_⟩
    by_cases e:r'=r
    ·subst e;exact hm
    ·exact .same c6 (by simp only[Ctx.set];rw[List.getElem?_set_ne (fun h=>e h.symm)]) rfl
  refine⟨I.step m hb (fun b hA=>by rw[bb];exact I.sub b hA) I.old (fun r' l' h'=>?_) I.inj (fun r' o'' h'=>?_),m⟩
  ·have:=I.sep r' l' h'
   exact⟨by simp only[Ctx.set,List.length_set];exact this.1,this.2.1,by rw[bb];exact this.2.2.1,this.2.2.2⟩
  ·by_cases e:r'=r
   ·subst e
    simp only[Ctx.set,List.getElem?_set_self ab,bQ]at h'
    subst h'
    exact .inl (ho m)
   ·refine .inr ⟨?_,rfl,fun l' ko=>hw _ fun eb=>e (I.inj _ _ _ _ ko hρ eb)⟩
    simp only[Ctx.set]at h'
    rwa [List.getElem?_set_ne (fun h=>e h.symm)]at h'
theorem F4.unknown {C:Ctx} {id:Nat} (h:F4 C.H id):¬ C.known id:=by
  rintro⟨o,ho,ar⟩
  rcases h with h | h
  ·rw[List.getElem?_eq_none (by omega)]at ho;cases ho
  ·rw[h]at ho;exact ar (bV ho).symm
theorem Inv.fresh {W0:World} {C:Ctx} {w w':World} (I:Inv W0 C w) (id:Nat) (aq:F4 C.H id) (o:Ap) (l:Loc) (hl:w.heap.size≤l.b) (ko:l.b<w'.heap.size)
    (hw:∀ b,b<w.heap.size→w'.heap[b]? =w.heap[b]?) (hb:Below W0.heap.size W0 w')
    (ho:Cx C w (C.new id o l) w'→J9 (C.new id o l) w' id o) :
    Inv W0 (C.new id o l) w'∧Cx C w (C.new id o l) w':=by
  have hle:w.heap.size≤w'.heap.size:=by omega
  have m:Cx C w (C.new id o l) w':=by
    refine⟨fun b hA=>⟨hA,hw b (I.sub b hA)⟩,G5,rfl,fun r hr=>?_⟩
    have ar:r≠id:=fun e=>aq.unknown (e ▸ hr)
    exact .same hr (Fg aq ar) (by simp only[Ctx.new];rw[if_neg ar])
  refine⟨I.step m hb (fun b hA=>Nat.lt_of_lt_of_le (I.sub b hA) hle) I.old (fun r l' h'=>?_) (fun r r' l1 l2 h1 h2 e=>?_) (fun r o' h'=>?_),m⟩
  ·simp only[Ctx.new]at h' ⊢
   split at h'
   ·rename_i e
    simp only[bQ]at h'
    subst h'
    have:=I.below.size
    exact⟨by rw[e];exact Ss aq,by omega,ko,fun hA=>by have:=I.sub _ hA;omega⟩
   ·have:=I.sep r l' h'
    exact⟨Nat.lt_of_lt_of_le this.1 G5,this.2.1,by omega,this.2.2.2⟩
  ·simp only[Ctx.new]at h1 h2
   split at h1<;>split at h2
   ·omega
   ·simp only[bQ]at h1;subst h1
    have:=(I.sep _ _ h2).2.2.1;omega
   ·simp only[bQ]at h2;subst h2
    have:=(I.sep _ _ h1).2.2.1;omega
   ·exact I.inj _ _ _ _ h1 h2 e
  ·simp only[Ctx.new]at h' ⊢
   by_cases e:r=id
   ·subst e
    rw[Da aq,bQ]at h'
    subst h'
    exact .inl (ho m)
   ·rw[Fg aq e]at h'
    exact .inr ⟨h',by rw[if_neg e],fun l' s4=>hw _ (I.sep _ _ s4).2.2.1⟩
theorem Inv.V5 {W0:World} {C:Ctx} {w:World} (I:Inv W0 C w) {id:Nat} (aq:F4 C.H id):C.ρ id=none:=by
  rcases aq with h | h
  ·cases hρ:C.ρ id with
   | none=>rfl
   | some l=>have:=(I.sep _ _ hρ).1;omega
  ·exact I.objs _ _ h
theorem Inv.ghost {W0:World} {C:Ctx} {w:World} (I:Inv W0 C w) (id:Nat) (aq:F4 C.H id) (o:Ap) (ho:Cx C w (C.ghost id o) w→J9 (C.ghost id o) w id o) :
    Inv W0 (C.ghost id o) w∧Cx C w (C.ghost id o) w:=by
  have m:Cx C w (C.ghost id o) w:=⟨fun b hA=>⟨hA,rfl⟩,G5,rfl,fun r hr=>
    .same hr (Fg aq fun e=>aq.unknown (e ▸ hr)) rfl⟩
  refine⟨I.step m I.below I.sub I.old (fun r l' h'=>?_) I.inj (fun r o' h'=>?_),m⟩
  ·have:=I.sep r l' h'
   exact⟨Nat.lt_of_lt_of_le this.1 G5,this.2⟩
  ·simp only[Ctx.ghost]at h' ⊢
   by_cases e:r=id
   ·subst e
    rw[Da aq,bQ]at h'
    subst h'
    exact .inl (ho m)
   ·rw[Fg aq e]at h'
    exact .inr ⟨h',by trivial,fun l' _=>by trivial⟩
theorem Inv.grow {W0:World} {C:Ctx} {w w':World} (I:Inv W0 C w) (S:Nat→Prop) (hS:∀ b,S b→w.heap.size≤b∧b<w'.heap.size)
    (hb:Below w.heap.size w w'):Inv W0 (C.more S) w'∧Cx C w (C.more S) w':=by
  have m:Cx C w (C.more S) w':=⟨fun b hA=>⟨.inl hA,hb.block b (I.sub b hA)⟩,Nat.le_refl _,rfl,fun r hr=>.same hr rfl rfl⟩
  refine⟨I.step m (I.below.trans (hb.mono I.below.size)) (fun b hA=>?_) (fun b hA ab=>?_) (fun r l' h'=>?_) I.inj (fun r o h=>.inr ⟨h,rfl,fun l hl=>hb.block _ (I.sep r l hl).2.2.1⟩),m⟩
  ·rcases hA with hA | hA
   ·exact Nat.lt_of_lt_of_le (I.sub b hA) hb.size
   ·exact(hS b hA).2
  ·rcases hA with hA | hA
   ·exact I.old b hA ab
   ·have:=(hS b hA).1;have:=I.below.size;omega
  ·have:=I.sep r l' h'
   refine⟨this.1,this.2.1,Nat.lt_of_lt_of_le this.2.2.1 hb.size,fun hA=>?_⟩
   rcases hA with hA | hA
   ·exact this.2.2.2 hA
   ·have:=(hS _ hA).1;omega
theorem Inv.same {W0:World} {C:Ctx} {w w':World} (I:Inv W0 C w) (hh:w'.heap=w.heap) (hb:Below W0.heap.size W0 w'):Inv W0 C w'∧Cx C w C w':=by
  have m:Cx C w C w':=⟨fun b hA=>⟨hA,by rw[hh]⟩,Nat.le_refl _,rfl,fun r hr=>.same hr rfl rfl⟩
  exact⟨I.step m hb (fun b hA=>by rw[hh];exact I.sub b hA) I.old (fun r l h=>by rw[hh];exact I.sep r l h) I.inj (fun r o h=>.inr ⟨h,rfl,fun l hl=>by rw[hh]⟩),m⟩
def Ctx.reloc (C:Ctx) (r:Nat) (o:Ap) (lx:Option Loc):Ctx:=
  {C with ρ:=fun r'=>if r'=r then lx else C.ρ r',H:=C.H.set r o}
theorem Inv.reloc {W0:World} {C:Ctx} {w w':World} (I:Inv W0 C w) {r v sz v' sz':Nat} {xs xs':List (List Ac)} (hr:C.H[r]? =some (.row v sz xs)) (hv:v<v') (lx:Option Loc)
    (hw:∀ b,b<w.heap.size→(∀ l,lx=some l→b≠l.b)→w'.heap[b]? =w.heap[b]?) (bb:w.heap.size≤w'.heap.size) (hb:Below W0.heap.size W0 w')
    (pw:∀ l,lx=some l→W0.heap.size≤l.b∧l.b<w'.heap.size∧¬ C.A l.b∧∀ r' l',r'≠r→C.ρ r'=some l'→l'.b≠l.b)
    (ho:Cx C w (C.reloc r (.row v' sz' xs') lx) w'→J9 (C.reloc r (.row v' sz' xs') lx) w' r (.row v' sz' xs')) :
    Inv W0 (C.reloc r (.row v' sz' xs') lx) w'∧Cx C w (C.reloc r (.row v' sz' xs') lx) w':=by
  have ab:r<C.H.length:=(bW.1 hr).1
  have m:Cx C w (C.reloc r (.row v' sz' xs') lx) w':=by
    refine⟨fun b hA=>⟨hA,hw b (I.sub b hA) fun l e eb=>(pw l e).2.2.1 (eb ▸ hA)⟩,by simp[Ctx.reloc],rfl,fun r' c6=>?_⟩
    by_cases e:r'=r
    ·subst e
     unfold Cd
     simp only[Ctx.reloc,List.getElem?_set_self ab]
     exact .inr ⟨v,sz,xs,hr,hv⟩
    ·exact .same c6 (by simp only[Ctx.reloc];rw[List.getElem?_set_ne (fun h=>e h.symm)]) (by simp only[Ctx.reloc];rw[if_neg e])
  refine⟨I.step m hb (fun b hA=>Nat.lt_of_lt_of_le (I.sub b hA) bb) I.old (fun r' l' h'=>?_) (fun r1 r2 l1 l2 h1 h2 e=>?_) (fun r' o h'=>?_),m⟩
  ·simp only[Ctx.reloc]at h' ⊢
   split at h'
   ·rename_i e
    have:=pw l' h'
    exact⟨by simp only[List.length_set];omega,this.1,this.2.1,this.2.2.1⟩
   ·have:=I.sep r' l' h'
    exact⟨by simp only[List.length_set];exact this.1,this.2.1,Nat.lt_of_lt_of_le this.2.2.1 bb,this.2.2.2⟩
  ·simp only[Ctx.reloc]at h1 h2
   split at h1<;>split at h2
   ·omega
   ·rename_i e1 e2
    exact absurd e.symm ((pw l1 h1).2.2.2 r2 l2 e2 h2)
   ·rename_i e1 e2
    exact absurd e ((pw l2 h2).2.2.2 r1 l1 e1 h1)
   ·exact I.inj _ _ _ _ h1 h2 e
  ·simp only[Ctx.reloc]at h' ⊢
   by_cases e:r'=r
   ·subst e
    simp only[List.getElem?_set_self ab,bQ]at h'
    subst h'
    exact .inl (ho m)
   ·rw[List.getElem?_set_ne (fun h=>e h.symm)]at h'
    refine .inr ⟨h',by rw[if_neg e],fun l hl=>hw _ (I.sep r' l hl).2.2.1 fun l2 e2=>(pw l2 e2).2.2.2 r' l e hl⟩
def Ctx.freeze (C:Ctx) (r:Nat):Ctx:=
  {C with A:=fun b=>C.A b∨∃ l,C.ρ r=some l∧b=l.b,ρ:=fun r'=>if r'=r then none else C.ρ r',H:=C.H.set r .gone}
theorem Inv.freeze {W0:World} {C:Ctx} {w:World} (I:Inv W0 C w) (r:Nat):Inv W0 (C.freeze r) w∧Cx C w (C.freeze r) w:=by
  have m:Cx C w (C.freeze r) w:=by
    refine⟨fun b hA=>⟨.inl hA,rfl⟩,by simp[Ctx.freeze],rfl,fun r' hr=>?_⟩
    by_cases e:r'=r
    ·subst e
     unfold Cd
     simp only[Ctx.freeze,List.getElem?_set_self hr.lt]
    ·exact .same hr (by simp only[Ctx.freeze];rw[List.getElem?_set_ne (fun h=>e h.symm)]) (by simp only[Ctx.freeze];rw[if_neg e])
  refine⟨I.step m I.below (fun b hA=>?_) (fun b hA ab=>?_) (fun r' l' h'=>?_) (fun r1 r2 l1 l2 h1 h2 e=>?_) (fun r' o h'=>?_),m⟩
  ·rcases hA with hA | ⟨l,hl,rfl⟩
   ·exact I.sub b hA
   ·exact(I.sep r l hl).2.2.1
  ·rcases hA with hA | ⟨l,hl,rfl⟩
   ·exact I.old b hA ab
   ·have:=(I.sep r l hl).2.1;omega
  ·simp only[Ctx.freeze]at h' ⊢
   split at h'
   ·cases h'
   ·rename_i e
    have:=I.sep r' l' h'
    refine⟨by simp;exact this.1,this.2.1,this.2.2.1,fun hA=>?_⟩
    rcases hA with hA | ⟨l,hl,eb⟩
    ·exact this.2.2.2 hA
    ·exact e (I.inj _ _ _ _ h' hl eb)
  ·simp only[Ctx.freeze]at h1 h2
   split at h1
   ·cases h1
   split at h2
   ·cases h2
   exact I.inj _ _ _ _ h1 h2 e
  ·simp only[Ctx.freeze]at h' ⊢
   by_cases e:r'=r
   ·subst e
    have hr:r'< C.H.length:=by
      have:=(bW.1 h').1
      simpa using this
    simp only[List.getElem?_set_self hr,bQ]at h'
    subst h'
    exact .inl (by simp[J9])
   ·rw[List.getElem?_set_ne (fun h=>e h.symm)]at h'
    exact .inr ⟨h',by rw[if_neg e],fun _ _=>by trivial⟩
def put (fr:Fr) (d:Option Tmp) (v:Ac):Fr:=
  match d with
  | some k=>(k,v)::fr
  | none=>fr
def Kj:Value→Ac
  | .bool b=>.bool b
  | .int k n=>.int k n
  | .string s=>.str s
  | .slice none 0 0=>.nils
  | .map none=>.nilm
  | _=>.any
def aconst:Value→Ac
  | .agg cs=>.agg (cs.toList.map Kj)
  | .tuple vs=>if vs.size=0 then .tuple []else .any
  | v=>Kj v
def ev (fr:Fr):Operand→Ac
  | .tmp t=>get fr t
  | .const v=>aconst v
  | .global _=>.any
  | .func f=>.func f []
def acells:Ac→Option (List Ac)
  | .agg cs=>some cs
  | .tuple _ | .any=>none
  | v=>some [v]
def Ac.one:Ac→Bool
  | .any | .agg _ | .tuple _=>false
  | _=>true
def Bl (P:Program) (t:TypeId):Nat:=((P.info? t).map (·.size)).getD 0
def bytesOf (P:Program) (t:TypeId):Nat:=((P.info? t).map (·.bytes)).getD 0
def okT (P:Program) (t:TypeId):Bool:=(P.info? t).isSome&&(P.underlying t).isSome
def Et (P:Program) (t:TypeId):Bool:=match P.underlying t with | some (.struct _) | some (.array _ _)=>true | _=>false
def F2 (P:Program) (t:TypeId):Option TypeId:=match P.underlying t with | some (.slice e)=>some e | _=>none
def W3 (P:Program) (t:TypeId):Option (Nat×TypeId):=match P.underlying t with | some (.array n e)=>some (n,e) | _=>none
def zeroV (P:Program) (t:TypeId):Option Value:=(P.info? t).bind (·.zero)
def B1 (P:Program) (t:TypeId):List Ac:=match zeroV P t with | some v=>v.cells.toList.map Kj | none=>[]
def azero (P:Program) (t:TypeId):Ac:=match zeroV P t with | some v=>aconst v | none=>.any
def Ck (P:Program) (t:TypeId) (f:Nat):Option (Nat×Nat):=
  match P.underlying t with
  | some (.struct fs)=>(fs[f]?).map fun x=>(x.offset,Bl P x.type)
  | _=>none
def placesOf (P:Program) (t:TypeId):Option (List (Nat×Nat)):=
  match P.underlying t with
  | some (.struct fs)=>fs.toList.mapM (fun f=>(P.info? f.type).map fun i=>(f.offset,i.size))
  | _=>none
def splice (cells:List Ac) (off:Nat) (part:List Ac):List Ac:=cells.take off++part++cells.drop (off+part.length)
def chunk (sz:Nat):Nat→List Ac→List (List Ac)
  | 0,_=>[]
  | n+1,l=>l.take sz::chunk sz n (l.drop sz)
def O5 (c a b:Ac) (K:Ac→Prop):Prop:=
  match c with
  | .bool cv=>match a,b with
    | .bool x,.bool y=>K (.bool (bif cv then x else y))
    | _,_=>(cv=true→K a)∧(cv=false→K b)
  | _=>False
def Mj (x y:Int):Int:=x / 2 ^ y.toNat
def Fk (x y:Int):Int:=x*2 ^ y.toNat
def Na (k:IntKind):Int:=(k.bits:Int)
def N1 (k:IntKind) (x y:Int):Int:=k.wrap ((BitVec.ofInt k.bits x&&&BitVec.ofInt k.bits y).toNat:Int)
def orI (k:IntKind) (x y:Int):Int:=k.wrap ((BitVec.ofInt k.bits x|||BitVec.ofInt k.bits y).toNat:Int)
def X3 (k:IntKind) (x y:Int):Int:=k.wrap ((BitVec.ofInt k.bits x ^^^ BitVec.ofInt k.bits y).toNat:Int)
def Cq (k:IntKind) (x y:Int):Int:=k.wrap ((BitVec.ofInt k.bits x&&&~~~(BitVec.ofInt k.bits y)).toNat:Int)
def T9 (o:BinOp) (k k':IntKind):Prop:=
  match o with
  | .shl=>True
  | .shr=>True
  | _=>k=k'
def Mf (o:BinOp) (k:IntKind) (x y:Int) (K:Ac→Prop):Prop:=
  match o with
  | .add=>K (.int k (k.wrap (x+y)))
  | .sub=>K (.int k (k.wrap (x - y)))
  | .mul=>K (.int k (k.wrap (x*y)))
  | .quo=>y≠0∧K (.int k (k.wrap (x.tdiv y)))
  | .rem=>y≠0∧K (.int k (x.tmod y))
  | .eql=>K (.bool (decide (x=y)))
  | .neq=>K (.bool (decide (x≠y)))
  | .lss=>K (.bool (decide (x<y)))
  | .leq=>K (.bool (decide (x≤y)))
  | .gtr=>K (.bool (decide (y<x)))
  | .geq=>K (.bool (decide (y≤x)))
  | .shr=>(0≤y∧y≤Na k)∧K (.int k (Mj x y))
  | .shl=>(0≤y∧y≤Na k)∧K (.int k (k.wrap (Fk x y)))
  | .and=>K (.int k (N1 k x y))
  | .or=>K (.int k (orI k x y))
  | .xor=>K (.int k (X3 k x y))
  | .andNot=>K (.int k (Cq k x y))
def Hh (P:Program) (T:TypeId):Option (List (Nat×Bool)):=
  match P.underlying T with
  | some (.struct fs)=>
    if P.eqGuardType P.depth T=false∧P.stoodInHeld T=false∧fs.toList.all (fun f=>f.name != "_"&&okT P f.type)=true then
     fs.toList.mapM fun f=>match P.underlying f.type with | some (.int _)=>some (f.offset,false) | some .bool=>some (f.offset,true) | _=>none
    else none
  | _=>none
def L7 (P:Program) (g:TypeId→Option (List (Nat×Bool))):List Field→Option (List (Nat×Bool))
  | []=>some []
  | f::fs=>(match P.underlying f.type with
     | some (.int _)=>some [(f.offset,false)]
     | some .bool=>some [(f.offset,true)]
     | some (.struct _)=>(g f.type).bind fun l:List (Nat×Bool)=>if (l.all (fun p=>p.1<Bl P f.type)&&l.any (fun p=>p.1+1 ==Bl P f.type))=true then some (l.map fun p:Nat×Bool=>(p.1+f.offset,p.2))else none
     | _=>none).bind fun a=>(L7 P g fs).map fun b=>a++b
def Kd (P:Program):Nat→TypeId→Option (List (Nat×Bool))
  | 0,_=>none
  | n+1,T=>match P.underlying T with
    | some (.struct fs)=>if P.stoodInHeld T=false∧fs.toList.all (fun f=>f.name != "_"&&okT P f.type)=true then L7 P (Kd P n) fs.toList else none
    | _=>none
def Wp (P:Program) (T:TypeId):Option (List (Nat×Bool)):=if P.eqGuardType P.depth T=false then Kd P 4 T else none
def Cw (xs ys:List Ac):List (Nat×Bool)→Option Bool
  | []=>some true
  | (o,false)::os=>match xs[o]?,ys[o]? with
    | some (.int k a),some (.int k' b)=>if k=k' then(Cw xs ys os).map fun r=>decide (a=b)&&r else none
    | _,_=>none
  | (o,true)::os=>match xs[o]?,ys[o]? with
    | some (.bool a),some (.bool b)=>(Cw xs ys os).map fun r=>(a ==b)&&r
    | _,_=>none
def Sx (P:Program) (o:BinOp) (T:TypeId) (x y:Ac) (K:Ac→Prop):Prop:=
  match x,y with
  | .int k a,.int k' b=>T9 o k k'∧Mf o k a b K
  | .bool a,.bool b=>P.underlying T=some .bool∧match o with
    | .eql=>K (.bool (a ==b))
    | .neq=>K (.bool (a !=b))
    | _=>False
  | .agg cs,.agg ds=>match Hh P T with
    | some offs=>match Cw cs ds offs with
      | some r=>match o with
        | .eql=>K (.bool r)
        | .neq=>K (.bool (!r))
        | _=>False
      | none=>False
    | none=>match Wp P T with
      | some offs=>match Cw cs ds offs with
        | some r=>match o with
          | .eql=>K (.bool r)
          | .neq=>K (.bool (!r))
          | _=>False
        | none=>False
      | none=>False
  | _,_=>False
def aUn (o:UnOp) (x:Ac) (K:Ac→Prop):Prop:=
  match o,x with
  | .not,.bool b=>K (.bool (!b))
  | .neg,.int k n=>K (.int k (k.wrap (-n)))
  | _,_=>False
def Np (P:Program) (s d:TypeId) (x:Ac) (K:Ac→Prop):Prop:=
  match P.underlying s,P.underlying d,x with
  | some (.int _),some (.int k),.int _ n=>K (.int k (k.wrap n))
  | _,_,_=>False
def D7 (agg:Bool) (n:Nat) (cs:List Ac):Ac:=if agg then .agg (cs.take n)else cs.headD .any
def Ca (sz:Nat) (xs:List (List Ac)) (n:Int) (K:List Ac→Prop):Prop:=0≤n∧n<xs.length∧∀ y,xs[n.toNat]? =some y→y.length=sz→K y
def Bt (sz:Nat) (xs:List (List Ac)) (i:Nat) (K:List Ac→Prop):Prop:=∀ y,xs[i]? =some y→y.length=sz→K y
def Yk (K:Ac→Prop) (y:List Ac):Prop:=K (.eptr y)
def Yd (P:Program) (T:TypeId) (k:Nat) (K:Ac→Prop) (y:List Ac):Prop:=K (D7 (Et P T) (Bl P T) (y.drop k))
def J6 (P:Program) (T:TypeId) (p:Ac) (H:List Ap) (K:Ac→Prop):Prop:=
  okT P T=true∧match p with
  | .ptr r k=>match H[r]? with
    | some (.box cs)=>k+(if Et P T then Bl P T else 1)≤cs.length∧K (D7 (Et P T) (Bl P T) (cs.drop k))
    | _=>False
  | .rptr r v i k=>match H[r]? with
    | some (.row v' sz xs)=>v=v'∧k+(if Et P T then Bl P T else 1)≤sz∧Bt sz xs i (Yd P T k K)
    | _=>False
  | .eptr cs=>(if Et P T then Bl P T else 1)≤cs.length∧K (D7 (Et P T) (Bl P T) cs)
  | _=>False
inductive Eff where
  | none
  | new (id:Nat) (o:Ap)
  | set (r:Nat) (o:Ap)
def Eff.app (H:List Ap):Eff→List Ap
  | .none=>H
  | .new id o=>Dy H id o
  | .set r o=>H.set r o
def Yc (r v sz:Nat) (xs:List (List Ac)) (i k:Nat) (vs:List Ac) (K:Ac→Eff→Prop) (y:List Ac):Prop:=K (.tuple []) (.set r (.row v sz (xs.set i (splice y k vs))))
def J3 (P:Program) (T:TypeId) (p v:Ac) (H:List Ap) (K:Ac→Eff→Prop):Prop:=
  match acells v with
  | some vs=>okT P T=true∧vs.length=Bl P T∧vs.all Ac.one=true∧match p with
    | .ptr r k=>match H[r]? with
      | some (.box cs)=>k+vs.length≤cs.length∧K (.tuple []) (.set r (.box (splice cs k vs)))
      | _=>False
    | .rptr r v i k=>match H[r]? with
      | some (.row v' sz xs)=>v=v'∧vs.all Ac.g0=true∧k+vs.length≤sz∧Bt sz xs i (Yc r v' sz xs i k vs K)
      | _=>False
    | _=>False
  | none=>False
def T0 (P:Program) (T:TypeId) (id:Nat) (K:Ac→Eff→Prop):Prop:=
  (zeroV P T).isSome=true∧K (.ptr id 0) (.new id (.box (B1 P T)))
def Vq (x:Ac) (id:Nat) (K:Ac→Eff→Prop):Prop:=
  match acells x with
  | some cs=>K (.ptr id 0) (.new id (.box cs))
  | none=>False
def Eu (P:Program) (T:TypeId) (p:Ac) (f:Nat) (K:Ac→Prop):Prop:=
  match Ck P T f with
  | some (off,n)=>1≤n∧match p with
    | .ptr r k=>K (.ptr r (k+off))
    | .rptr r v i k=>K (.rptr r v i (k+off))
    | .eptr cs=>K (.eptr (cs.drop off))
    | _=>False
  | none=>False
def Li (P:Program) (T:TypeId) (x:Ac) (f:Nat) (K:Ac→Prop):Prop:=
  match P.underlying T,x with
  | some (.struct fs),.agg cs=>match fs[f]? with
    | some g=>okT P g.type=true∧Et P g.type=false∧g.offset<cs.length∧K (cs.getD g.offset .any)
    | none=>False
  | _,_=>False
def singles:List Ac→List (List Ac)
  | []=>[]
  | c::r=>[c]::singles r
theorem Jn:∀ l:List Ac,(singles l).length=l.length
  | []=>rfl
  | c::r=>by rw[singles,List.length_cons,List.length_cons,Jn r]
theorem Hp:∀ (l:List Ac) (i:Nat),(singles l)[i]? =l[i]?.map fun c=>[c]
  | [],i=>by simp[singles]
  | c::r,0=>rfl
  | c::r,i+1=>by simpa[singles]using Hp r i
def D8 (P:Program) (T:TypeId) (x i:Ac) (H:List Ap) (K:Ac→Prop):Prop:=
  match F2 P T,i with
  | some e,.int _ n=>okT P e=true∧match x with
    | .sl sz xs=>sz=Bl P e∧Ca sz xs n (Yk K)
    | .own r v lo len=>match H[r]? with
      | some (.row v' sz _)=>v=v'∧sz=Bl P e∧0≤n∧n<len∧K (.rptr r v (lo+n.toNat) 0)
      | _=>False
    | _=>False
  | none,.int _ n=>match W3 P T,x with
    | some (len,e),.ptr r k=>okT P e=true∧0≤n∧n<len∧K (.ptr r (k+n.toNat*Bl P e))
    | some (len,e),.eptr cs=>okT P e=true∧0≤n∧n<len∧K (.eptr (cs.drop (n.toNat*Bl P e)))
    | _,_=>False
  | _,_=>False
def Kw (place:Nat→Option (Nat×Nat)) (cells:List Ac):List (Nat×Ac)→Option (List Ac)
  | []=>some cells
  | (i,v)::rest=>
    match place i,acells v with
    | some (off,size),some cs=>if cs.length≠size∨off+cs.length > cells.length then none else Kw place (splice cells off cs) rest
    | _,_=>none
def Lk (P:Program) (T:TypeId) (parts:List (Nat×Ac)) (K:Ac→Prop):Prop:=
  (zeroV P T).isSome=true∧match placesOf P T with
  | some pl=>match Kw (fun i=>pl[i]?) (B1 P T) parts with
    | some cs=>K (.agg cs)
    | none=>False
  | none=>False
def reps:Nat→List Ac→List Ac
  | 0,_=>[]
  | n+1,cs=>cs++reps n cs
def Fh (P:Program) (T:TypeId) (len:Nat) (parts:List (Nat×Ac)) (id:Nat) (K:Ac→Eff→Prop):Prop:=
  match F2 P T with
  | some e=>(zeroV P e).isSome=true∧1≤Bl P e∧(B1 P e).length=Bl P e∧len*Bl P e≤16777216∧
    match Kw (fun i=>some (i*Bl P e,Bl P e)) (reps len (B1 P e)) parts with
    | some cs=>cs.all Ac.g0=true∧K (.own id 0 0 len) (.new id (.row 0 (Bl P e) (chunk (Bl P e) len cs)))
    | none=>False
  | none=>False
def Lj (x:Ac) (H:List Ap):Option (Nat×List (List Ac)):=
  match x with
  | .sl sz xs=>some (sz,xs)
  | .own r v lo len=>match H[r]? with
    | some (.row v' sz xs)=>if v=v' then some (sz,(xs.drop lo).take len)else none
    | _=>none
  | _=>none
def Q2 (P:Program) (T:TypeId) (x:Ac) (H:List Ap) (K:Ac→Prop):Prop:=
  match P.underlying T,x with
  | some (.slice _),.sl _ xs=>xs.length≤9223372036854775807→K (.int .i64 xs.length)
  | some (.slice _),.own _ _ _ len=>len≤9223372036854775807→K (.int .i64 len)
  | some (.slice _),.nils | some (.slice _),.z0=>K (.int .i64 0)
  | some .string,.str s=>K (.int .i64 s.size)
  | some (.map _ _),.nilm=>K (.int .i64 0)
  | some (.map _ _),.map r=>match H[r]? with
    | some (.mp es)=>K (.int .i64 es.length)
    | _=>False
  | some (.map _ _),.vmap es=>K (.int .i64 es.length)
  | _,_=>False
def Ev (x:Option Ac) (d:Nat):Option Int:=
  match x with
  | none=>some d
  | some (.int _ n)=>some n
  | _=>none
def Gy (P:Program) (T:TypeId) (x:Ac) (lo hi mx:Option Ac) (H:List Ap) (K:Ac→Prop):Prop:=
  match F2 P T with
  | some e=>okT P e=true∧match x with
    | .sl sz xs=>sz=Bl P e∧(xs.length≤9223372036854775807→match Ev lo 0,Ev hi xs.length,mx with
      | some l,some h,none=>0≤l∧l≤h∧h≤xs.length∧K (.sl sz ((xs.drop l.toNat).take (h.toNat - l.toNat)))
      | some l,some h,some (.int _ m)=>l=0∧h=0∧m=0∧hi.isSome=true∧K .z0
      | _,_,_=>False)
    | .own r v a len=>match H[r]? with
      | some (.row v' sz _)=>v=v'∧sz=Bl P e∧match Ev lo 0,Ev hi len,mx with
        | some l,some h,none=>0≤l∧l≤h∧h≤len∧K (.own r v (a+l.toNat) (h.toNat - l.toNat))
        | some l,some h,some (.int _ m)=>l=0∧h=0∧m=0∧hi.isSome=true∧K .z0
        | _,_,_=>False
      | _=>False
    | .nils=>match Ev lo 0,Ev hi 0,mx with
      | some l,some h,none=>l=0∧h=0∧K .nils
      | some l,some h,some (.int _ m)=>l=0∧h=0∧m=0∧hi.isSome=true∧K .z0
      | _,_,_=>False
    | .z0=>match Ev lo 0,Ev hi 0,mx with
      | some l,some h,none=>l=0∧h=0∧K .z0
      | some l,some h,some (.int _ m)=>l=0∧h=0∧m=0∧hi.isSome=true∧K .z0
      | _,_,_=>False
    | _=>False
  | none=>match W3 P T,x,lo,hi,mx with
    | some (n,e),.eptr cs,none,none,none=>okT P e=true∧Bl P e=1∧cs.length=n∧n≤9223372036854775807∧K (.sl 1 (singles cs))
    | _,_,_,_,_=>False
def Ge (P:Program) (T:TypeId) (len cap:Ac) (id:Nat) (K:Ac→Eff→Prop):Prop:=
  match F2 P T,len,cap with
  | some e,.int _ l,.int _ c=>(zeroV P e).isSome=true∧1≤Bl P e∧(B1 P e).length=Bl P e∧(B1 P e).all Ac.g0=true∧
      0≤l∧l≤c∧(bytesOf P e:Int)*c≤281474976710656∧c≤9223372036854775807∧
      K (.own id 0 0 l.toNat) (.new id (.row 0 (Bl P e) (List.replicate l.toNat (B1 P e))))
  | _,_,_=>False
def H7 (P:Program) (T:TypeId) (s x:Ac) (H:List Ap) (id:Nat) (K:Ac→Eff→Prop):Prop:=
  match F2 P T with
  | some e=>(zeroV P e).isSome=true∧1≤Bl P e∧(B1 P e).length=Bl P e∧
    match Lj x H with
    | some (szx,ys)=>szx=Bl P e∧match s with
      | .nils | .z0=>ys.length*bytesOf P e≤140737488355328∧ys.length≤9223372036854775807∧K (.own id 0 0 ys.length) (.new id (.row 0 (Bl P e) ys))
      | .own r v lo len=>match H[r]? with
        | some (.row v' sz xs)=>v=v'∧sz=Bl P e∧(len+ys.length)*bytesOf P e≤140737488355328∧len+ys.length≤9223372036854775807∧
            K (.own r (v+1) 0 (len+ys.length)) (.set r (.row (v+1) (Bl P e) ((xs.drop lo).take len++ys)))
        | _=>False
      | _=>False
    | none=>False
  | none=>False
theorem Lh {C:Ctx} {w:World} {v:Value} {a:Ac} {cs:List Ac} (h:A4 C w v a) (hc:acells a=some cs) :
    v.cells.size=cs.length∧∀ (i:Nat) (u:Value) (c:Ac),v.cells[i]? =some u→cs[i]? =some c→A4 C w u c:=by
  have one:∀ {v:Value} {a:Ac},A4 C w v a→v.cells=#[v]→some [a]=some cs→v.cells.size=cs.length∧∀ (i:Nat) (u:Value) (c:Ac),v.cells[i]? =some u→cs[i]? =some c→A4 C w u c:=by
    intro v a h e e2
    simp only[bQ]at e2
    subst e2
    rw[e]
    refine⟨rfl,fun i u c h1 h2=>?_⟩
    match i,h1,h2 with
    | 0,h1,h2=>simp at h1 h2;subst h1 h2;exact h
    | i+1,h1,h2=>simp at h2
  cases h with
  | any=>simp[acells]at hc
  | tuple=>simp[acells]at hc
  | agg arr cs' h' hr=>simp only[acells,bQ]at hc;subst hc;exact⟨h',hr⟩
  | _=>exact one (by constructor<;>assumption) rfl hc
theorem one_cell {C:Ctx} {w:World} {v:Value} {a:Ac} (h:A4 C w v a) (h1:a.one=true):v.oneCell'=true:=by
  cases h<;>first | rfl | simp[Ac.one]at h1
theorem J2 (C:Ctx) (w:World) (v:Value):A4 C w v (Kj v):=by
  unfold Kj
  split<;>constructor
theorem O4 (C:Ctx) (w:World) (v:Value):A4 C w v (aconst v):=by
  unfold aconst
  split
  ·refine .agg _ _ (by simp) fun i u c h1 h2=>?_
   rename_i cs
   simp only[List.getElem?_map,Array.getElem?_toList,h1,Option.map_some,bQ]at h2
   subst h2
   exact J2 C w u
  ·rename_i vs
   split
   ·rename_i h
    have:vs=#[]:=Array.eq_empty_of_size_eq_zero h
    subst this
    exact .tuple _ _ rfl fun i u c h1 h2=>by simp at h2
   ·exact .any _
  ·exact J2 C w v
def Hm (C:Ctx) (w:World) (tmps:Array Value) (fr:Fr):Prop:=∀ t,A4 C w (tmps.getD t undef) (get fr t)
theorem Hm.mono {C C':Ctx} {w w':World} (m:Cx C w C' w') {tmps:Array Value} {fr:Fr} (h:Hm C w tmps fr):Hm C' w' tmps fr:=
  fun t=>(h t).mono m
theorem Gw {C:Ctx} {w:World} {a:Act} {fr:Fr} (h:Hm C w a.tmps fr) (x:Operand):A4 C w (a.eval x) (ev fr x):=by
  cases x with
  | tmp t=>exact h t
  | const v=>exact O4 C w v
  | global g=>exact .any _
  | func f=>exact .func f #[] [] rfl fun i u c h1 h2=>by simp at h2
theorem Hm.put {C:Ctx} {w:World} {a:Act} {fr:Fr} (h:Hm C w a.tmps fr) {v:Value} {av:Ac} (hv:A4 C w v av) (d:Option Tmp)
    (hd:∀ k,d=some k→k<a.tmps.size):Hm C w (a.put d v).tmps (put fr d av):=by
  intro t
  cases d with
  | none=>exact h t
  | some k=>
    have hk:=hd k rfl
    simp only[Act.put,Go.Ab.put,get]
    split
    ·rename_i e
     subst e
     simpa[Array.getD,hk]using hv
    ·rename_i e
     have:(a.tmps.setIfInBounds k v).getD t undef=a.tmps.getD t undef:=by
       simp only[Array.getD_eq_getD_getElem?,Array.getElem?_setIfInBounds_ne e]
     rw[this];exact h t
section
variable {P:Program}
theorem Dq {t:TypeId} {d:TypeDesc} (h:P.underlying t=some d) (w:World):(underlying t).run P w= .ok d w:=by
  simp[underlying,h]
theorem Hq {t:TypeId} {i:TypeInfo} (h:P.info? t=some i) (w:World):(sizeOf t).run P w= .ok i.size w:=by
  simp[sizeOf,typeInfo,h]
structure Quiet (C:Ctx) (w:World) (r:Result Value) (K:Ac→Prop):Prop where
  ex:∃ v a,r= .ok v w∧A4 C w v a∧K a
theorem Quiet.mk' {C:Ctx} {w:World} {r:Result Value} {K:Ac→Prop} {v:Value} {a:Ac} (h:r= .ok v w) (hr:A4 C w v a) (hk:K a):Quiet C w r K:=
  ⟨v,a,h,hr,hk⟩
theorem O3 {t:TypeId} {d:TypeDesc} (h:P.underlying t=some d) (w:World):(isAgg t).run P w= .ok (Et P t) w:=by
  simp only[isAgg,Sem.run_bind,Dq h,Result.andThen_ok,Et,h]
  cases d<;>rfl
theorem Ld (x y:Int):(x ==y)=decide (x=y):=by rw[Bool.eq_iff_iff];simp
theorem Qx {C:Ctx} {w:World} {o:BinOp} {T:TypeId} {k k':IntKind} {x y:Int} {K:Ac→Prop} (hk:T9 o k k') (h:Mf o k x y K) :
    Quiet C w ((binOp o T (.int k x) (.int k' y)).run P w) K:=by
  cases o<;>simp only[Mf]at h<;>simp only[T9]at hk<;>try subst hk
  case add=>exact .mk' (by simp[binOp,Op.intArith]) (.int _ _) h
  case sub=>exact .mk' (by simp[binOp,Op.intArith]) (.int _ _) h
  case mul=>exact .mk' (by simp[binOp,Op.intArith]) (.int _ _) h
  case quo=>exact .mk' (by simp[binOp,Op.intDiv,h.1]) (.int _ _) h.2
  case rem=>exact .mk' (by simp[binOp,Op.intDiv,h.1]) (.int _ _) h.2
  case eql=>exact .mk' (a:=.bool (decide (x=y))) (by simp[binOp,Op.intCmp,Ld]) (.bool _) h
  case neq=>
    refine .mk' (a:=.bool (decide (x≠y))) ?_ (.bool _) h
    simp[binOp,Op.intCmp,bne,Ld]
  case lss=>exact .mk' (by simp[binOp,Op.intCmp]) (.bool _) h
  case leq=>exact .mk' (by simp[binOp,Op.intCmp]) (.bool _) h
  case gtr=>exact .mk' (by simp[binOp,Op.intCmp]) (.bool _) h
  case geq=>exact .mk' (by simp[binOp,Op.intCmp]) (.bool _) h
  case and=>exact .mk' (a:=.int k (N1 k x y)) (by simp[binOp,Op.intBits,N1]) (.int _ _) h
  case or=>exact .mk' (a:=.int k (orI k x y)) (by simp[binOp,Op.intBits,orI]) (.int _ _) h
  case xor=>exact .mk' (a:=.int k (X3 k x y)) (by simp[binOp,Op.intBits,X3]) (.int _ _) h
  case andNot=>exact .mk' (a:=.int k (Cq k x y)) (by simp[binOp,Op.intBits,Cq]) (.int _ _) h
  case shr=>
    have hb:min y.toNat k.bits=y.toNat:=by have:=h.1;unfold Na at this;omega
    refine .mk' (a:=.int k (Mj x y)) ?_ (.int _ _) h.2
    simp only[binOp,shift_shr_any k k' x y h.1.1,hb,Mj]
    rfl
  case shl=>
    have hb:min y.toNat k.bits=y.toNat:=by have:=h.1;unfold Na at this;omega
    refine .mk' (a:=.int k (k.wrap (Fk x y))) ?_ (.int _ _) h.2
    simp only[binOp,shift_shl_any k k' x y h.1.1,hb,Fk]
    rfl
  all_goals exact h.elim
theorem R7 {o:BinOp} {T:TypeId} {x y:Operand} {k k':IntKind} {a b:Int} (w:World):(eqGuard o T x y (.int k a) (.int k' b)).run P w= .ok () w:=by
  unfold eqGuard;cases o<;>rfl
theorem Qv {o:BinOp} {T:TypeId} {x y:Operand} {a b:Bool} (w:World):(eqGuard o T x y (.bool a) (.bool b)).run P w= .ok () w:=by
  unfold eqGuard;cases o<;>rfl
theorem Fu {T:TypeId} (h:okT P T=true):∃ i d,P.info? T=some i∧P.underlying T=some d∧Bl P T=i.size:=by
  unfold okT at h
  simp only[Bool.and_eq_true,Option.isSome_iff_exists]at h
  obtain⟨⟨i,hi⟩,⟨d,hd⟩⟩:=h
  exact⟨i,d,hi,hd,by simp[Bl,hi]⟩
theorem E6 {w:World} {t:TypeId} {cs:Array Value} {off:Nat} {v:Value} (ht:okT P t=true) (hA:Et P t=false) (h:cs[off]? =some v) :
    (part t cs off).run P w= .ok v w:=by
  obtain⟨i,d,hi,hd,hs⟩:=Fu ht
  simp only[part,Sem.run_bind,O3 hd,Result.andThen_ok,hA,Bool.false_eq_true,if_false,h]
  rfl
theorem I4 {C:Ctx} {w:World} {xs ys:Array Value} {cs ds:List Ac} (hx:∀ (i:Nat) (u:Value) (c:Ac),xs[i]? =some u→cs[i]? =some c→A4 C w u c) (k7:xs.size=cs.length)
    (hy:∀ (i:Nat) (u:Value) (c:Ac),ys[i]? =some u→ds[i]? =some c→A4 C w u c) (vu:ys.size=ds.length):∀ (fs:List Field) (offs:List (Nat×Bool)) (r:Bool),
    (fs.all (fun f=>f.name != "_"&&okT P f.type)=true)→fs.mapM (fun f=>match P.underlying f.type with | some (.int _)=>some (f.offset,false) | some .bool=>some (f.offset,true) | _=>none)=some offs→
    Cw cs ds offs=some r→(Op.eqFields 9999 xs ys fs).run P w= .ok r w
  | [],offs,r,_,h0,h=>by simp at h0;subst h0;simp[Cw]at h;subst h;rfl
  | f::fs,offs,r,hf,h0,h=>by
    simp only[List.all_cons,Bool.and_eq_true]at hf
    obtain⟨⟨hn,fg⟩,hf⟩:=hf
    have gy:f.name≠ "_":=by simpa using hn
    have ih:=I4 hx k7 hy vu fs
    have getX:∀ c,cs[f.offset]? =some c→∃ u,xs[f.offset]? =some u∧A4 C w u c:=fun c hc=>by
      have ab:f.offset<xs.size:=by have:=(bW.1 hc).1;omega
      exact⟨_,Array.getElem?_eq_getElem ab,hx _ _ c (Array.getElem?_eq_getElem ab) hc⟩
    have getY:∀ c,ds[f.offset]? =some c→∃ u,ys[f.offset]? =some u∧A4 C w u c:=fun c hc=>by
      have ab:f.offset<ys.size:=by have:=(bW.1 hc).1;omega
      exact⟨_,Array.getElem?_eq_getElem ab,hy _ _ c (Array.getElem?_eq_getElem ab) hc⟩
    simp only[List.mapM_cons,Option.bind_eq_bind,Option.pure_def]at h0
    cases dr:fs.mapM (fun f=>match P.underlying f.type with | some (.int _)=>some (f.offset,false) | some .bool=>some (f.offset,true) | _=>(none:Option (Nat×Bool)))with
    | none=>rw[dr]at h0;split at h0<;>simp at h0
    | some os=>
      rw[dr]at h0
      split at h0
      ·rename_i k hU
       have ct:Et P f.type=false:=by simp[Et,hU]
       simp only[bP,bQ]at h0
       subst h0
       simp only[Cw]at h
       split at h
       ·rename_i k1 a k2 b h1 h2
        split at h
        ·rename_i hk
         subst hk
         obtain⟨u,hu,bl⟩:=getX _ h1
         obtain⟨u2,r3,ma⟩:=getY _ h2
         cases bl;cases ma
         cases c6:Cw cs ds os with
         | none=>simp[c6]at h
         | some r'=>
           simp only[c6,Option.map_some,bQ]at h
           have ih:=ih os r' hf dr c6
           have heq:=run_equalIn_int (P:=P) w 9998 f.type k1 k a b hU
           simp only[Op.eqFields,gy,ne_eq,not_false_eq_true,if_true,Sem.run_bind,E6 fg ct hu,E6 fg ct r3,Result.andThen_ok,heq]
           by_cases ks:a=b
           ·subst ks;simp only[decide_true,Bool.true_and]at h;subst h;simp[ih]
           ·have hb:(a ==b)=false:=by simp[ks]
            simp only[ks,decide_false,Bool.false_and]at h;subst h;simp[hb]
        ·cases h
       ·cases h
      ·rename_i hU
       have ct:Et P f.type=false:=by simp[Et,hU]
       simp only[bP,bQ]at h0
       subst h0
       simp only[Cw]at h
       split at h
       ·rename_i a b h1 h2
        obtain⟨u,hu,bl⟩:=getX _ h1
        obtain⟨u2,r3,ma⟩:=getY _ h2
        cases bl;cases ma
        cases c6:Cw cs ds os with
        | none=>simp[c6]at h
        | some r'=>
          simp only[c6,Option.map_some,bQ]at h
          have ih:=ih os r' hf dr c6
          have heq:=run_equalIn_bool (P:=P) w 9998 f.type a b hU
          simp only[Op.eqFields,gy,ne_eq,not_false_eq_true,if_true,Sem.run_bind,E6 fg ct hu,E6 fg ct r3,Result.andThen_ok,heq]
          cases ks:(a ==b)
          ·rw[ks]at h;simp only[Bool.false_and]at h;subst h;simp
          ·rw[ks]at h;simp only[Bool.true_and]at h;subst h;simp[ih]
       ·cases h
      ·simp at h0
theorem M6 {cs ds:List Ac}:∀ {offs:List (Nat×Bool)} {r:Bool},Cw cs ds offs=some r→∀ p∈offs,p.1<cs.length∧p.1<ds.length
  | [],_,_,p,hp=>by cases hp
  | (o,false)::os,r,h,p,hp=>by
    simp only[Cw]at h
    split at h
    ·rename_i k1 a k2 b h1 h2
     split at h
     ·cases c6:Cw cs ds os with
      | none=>simp[c6]at h
      | some r'=>
        rcases List.mem_cons.1 hp with rfl | hp
        ·exact⟨(bW.1 h1).1,(bW.1 h2).1⟩
        ·exact M6 c6 p hp
     ·cases h
    ·cases h
  | (o,true)::os,r,h,p,hp=>by
    simp only[Cw]at h
    split at h
    ·rename_i a b h1 h2
     cases c6:Cw cs ds os with
     | none=>simp[c6]at h
     | some r'=>
       rcases List.mem_cons.1 hp with rfl | hp
       ·exact⟨(bW.1 h1).1,(bW.1 h2).1⟩
       ·exact M6 c6 p hp
    ·cases h
theorem M7 {cs ds:List Ac} {b:List (Nat×Bool)}:∀ {a:List (Nat×Bool)} {r:Bool},Cw cs ds (a++b)=some r→∃ r1 r2,Cw cs ds a=some r1∧Cw cs ds b=some r2∧r=(r1&&r2)
  | [],r,h=>⟨true,r,rfl,h,by simp⟩
  | (o,false)::os,r,h=>by
    simp only[List.cons_append,Cw]at h ⊢
    split at h
    ·rename_i k1 a k2 b' h1 h2
     split at h
     ·rename_i hk
      cases c6:Cw cs ds (os++b)with
      | none=>simp[c6]at h
      | some r'=>
        obtain⟨r1,r2,e1,e2,e3⟩:=M7 c6
        simp only[c6,Option.map_some,bQ]at h
        exact⟨decide (a=b')&&r1,r2,by simp[hk,e1],e2,by rw[← h,e3,Bool.and_assoc]⟩
     ·cases h
    ·cases h
  | (o,true)::os,r,h=>by
    simp only[List.cons_append,Cw]at h ⊢
    split at h
    ·rename_i a b' h1 h2
     cases c6:Cw cs ds (os++b)with
     | none=>simp[c6]at h
     | some r'=>
       obtain⟨r1,r2,e1,e2,e3⟩:=M7 c6
       simp only[c6,Option.map_some,bQ]at h
       exact⟨(a ==b')&&r1,r2,by simp[e1],e2,by rw[← h,e3,Bool.and_assoc]⟩
    ·cases h
theorem J7 {cs ds:List Ac} {k:Nat}:∀ {l:List (Nat×Bool)},Cw cs ds (l.map fun p=>(p.1+k,p.2))=Cw (cs.drop k) (ds.drop k) l
  | []=>rfl
  | (o,false)::os=>by
    have e1:(cs.drop k)[o]? =cs[o+k]?:=by rw[List.getElem?_drop,Nat.add_comm]
    have e2:(ds.drop k)[o]? =ds[o+k]?:=by rw[List.getElem?_drop,Nat.add_comm]
    simp only[List.map_cons,Cw,e1,e2,J7 (l:=os)]
  | (o,true)::os=>by
    have e1:(cs.drop k)[o]? =cs[o+k]?:=by rw[List.getElem?_drop,Nat.add_comm]
    have e2:(ds.drop k)[o]? =ds[o+k]?:=by rw[List.getElem?_drop,Nat.add_comm]
    simp only[List.map_cons,Cw,e1,e2,J7 (l:=os)]
theorem Pz {w:World} {t:TypeId} {cs:Array Value} {off:Nat} (ht:okT P t=true) (hA:Et P t=true) :
    (part t cs off).run P w= .ok (.agg (cs.extract off (off+Bl P t))) w:=by
  obtain⟨i,d,hi,hd,hs⟩:=Fu ht
  simp only[part,Sem.run_bind,O3 hd,Result.andThen_ok,hA,if_true]
  rw[Hq hi,Result.andThen_ok,hs];rfl
theorem Ng {w:World} {n d:Nat} (ih:∀ {C:Ctx} {T:TypeId} {xs ys:Array Value} {cs ds:List Ac} {offs:List (Nat×Bool)} {r:Bool},(∀ (i:Nat) (u:Value) (c:Ac),xs[i]? =some u→cs[i]? =some c→A4 C w u c)→
      (∀ (i:Nat) (u:Value) (c:Ac),ys[i]? =some u→ds[i]? =some c→A4 C w u c)→(∀ p∈offs,p.1<xs.size∧p.1<ys.size)→Kd P n T=some offs→Cw cs ds offs=some r→
      (Op.equalIn (d+n+1) T (.agg xs) (.agg ys)).run P w= .ok r w) {C:Ctx} {xs ys:Array Value} {cs ds:List Ac} (hx:∀ (i:Nat) (u:Value) (c:Ac),xs[i]? =some u→cs[i]? =some c→A4 C w u c)
    (hy:∀ (i:Nat) (u:Value) (c:Ac),ys[i]? =some u→ds[i]? =some c→A4 C w u c):∀ (fs:List Field) (offs:List (Nat×Bool)) (r:Bool),
    (fs.all (fun f=>f.name != "_"&&okT P f.type)=true)→L7 P (Kd P n) fs=some offs→(∀ p∈offs,p.1<xs.size∧p.1<ys.size)→Cw cs ds offs=some r→(Op.eqFields (d+n+1) xs ys fs).run P w= .ok r w
  | [],offs,r,_,h0,_,h=>by simp only[L7,bQ]at h0;subst h0;simp[Cw]at h;subst h;rfl
  | f::fs,offs,r,hf,h0,hb,h=>by
    simp only[List.all_cons,Bool.and_eq_true]at hf
    obtain⟨⟨hn,fg⟩,hf⟩:=hf
    have gy:f.name≠ "_":=by simpa using hn
    unfold L7 at h0
    obtain⟨a,ha,h0⟩:=Option.bind_eq_some_iff.1 h0
    obtain⟨b,c8,rfl⟩:=Option.map_eq_some_iff.1 h0
    obtain⟨r1,r2,e1,e2,rfl⟩:=M7 h
    have rest:=Ng ih hx hy fs b r2 hf c8 (fun p hp=>hb p (List.mem_append_right _ hp)) e2
    have fin:∀ (u v:Value),(part f.type xs f.offset).run P w= .ok u w→(part f.type ys f.offset).run P w= .ok v w→(Op.equalIn (d+n+1) f.type u v).run P w= .ok r1 w→(Op.eqFields (d+n+1) xs ys (f::fs)).run P w= .ok (r1&&r2) w:=by
      intro u v h1 h2 h3
      simp only[Op.eqFields,gy,ne_eq,not_false_eq_true,if_true,Sem.run_bind,h1,h2,h3,Result.andThen_ok]
      cases r1<;>simp[rest]
    split at ha
    ·rename_i k hU
     have ct:Et P f.type=false:=by simp[Et,hU]
     simp only[bQ]at ha
     subst ha
     have gd:=hb (f.offset,false) (by simp)
     simp only[Cw]at e1
     split at e1
     ·rename_i k1 a k2 b h1 h2
      split at e1
      ·rename_i hk
       subst hk
       have g1:=hx _ _ _ (Array.getElem?_eq_getElem gd.1) h1
       have g2:=hy _ _ _ (Array.getElem?_eq_getElem gd.2) h2
       have p1:=E6 (w:=w) fg ct (Array.getElem?_eq_getElem gd.1)
       have p2:=E6 (w:=w) fg ct (Array.getElem?_eq_getElem gd.2)
       generalize xs[f.offset]'gd.1=u at g1 p1
       generalize ys[f.offset]'gd.2=v at g2 p2
       cases g1;cases g2
       refine fin _ _ p1 p2 ?_
       rw[run_equalIn_int (P:=P) w (d+n) f.type k1 k a b hU]
       simp only[Option.map_some,Bool.and_true,bQ]at e1
       rw[← e1,Ld]
      ·cases e1
     ·cases e1
    ·rename_i hU
     have ct:Et P f.type=false:=by simp[Et,hU]
     simp only[bQ]at ha
     subst ha
     have gd:=hb (f.offset,true) (by simp)
     simp only[Cw]at e1
     split at e1
     ·rename_i a b h1 h2
      have g1:=hx _ _ _ (Array.getElem?_eq_getElem gd.1) h1
      have g2:=hy _ _ _ (Array.getElem?_eq_getElem gd.2) h2
      have p1:=E6 (w:=w) fg ct (Array.getElem?_eq_getElem gd.1)
      have p2:=E6 (w:=w) fg ct (Array.getElem?_eq_getElem gd.2)
      generalize xs[f.offset]'gd.1=u at g1 p1
      generalize ys[f.offset]'gd.2=v at g2 p2
      cases g1;cases g2
      refine fin _ _ p1 p2 ?_
      rw[run_equalIn_bool (P:=P) w (d+n) f.type a b hU]
      simp only[Option.map_some,Bool.and_true,bQ]at e1
      rw[← e1]
     ·cases e1
    ·rename_i gs hU
     have ct:Et P f.type=true:=by simp[Et,hU]
     obtain⟨l,hl,ha⟩:=Option.bind_eq_some_iff.1 ha
     split at ha
     ·rename_i hc
      rw[Bool.and_eq_true,List.all_eq_true,List.any_eq_true]at hc
      obtain⟨ua,q,hq,nx⟩:=hc
      simp only[bQ]at ha
      subst ha
      have pf:q.1+1=Bl P f.type:=by simpa using nx
      have gd:=hb (q.1+f.offset,q.2) (List.mem_append_left _ (List.mem_map.2 ⟨q,hq,rfl⟩))
      dsimp only at gd
      rw[J7]at e1
      refine fin _ _ (Pz fg ct) (Pz fg ct) (ih (C:=C) (fun i u c h1 h2=>?_) (fun i u c h1 h2=>?_) (fun p hp=>?_) hl e1)
      ·rw[Array.getElem?_extract]at h1
       split at h1
       ·exact hx _ _ _ h1 (by rw[List.getElem?_drop]at h2;exact h2)
       ·cases h1
      ·rw[Array.getElem?_extract]at h1
       split at h1
       ·exact hy _ _ _ h1 (by rw[List.getElem?_drop]at h2;exact h2)
       ·cases h1
      ·have:=bK (ua p hp)
       simp only[Array.size_extract];omega
     ·cases ha
    ·cases ha
theorem Oy {w:World}:∀ (n d:Nat) {C:Ctx} {T:TypeId} {xs ys:Array Value} {cs ds:List Ac} {offs:List (Nat×Bool)} {r:Bool},(∀ (i:Nat) (u:Value) (c:Ac),xs[i]? =some u→cs[i]? =some c→A4 C w u c)→
      (∀ (i:Nat) (u:Value) (c:Ac),ys[i]? =some u→ds[i]? =some c→A4 C w u c)→(∀ p∈offs,p.1<xs.size∧p.1<ys.size)→Kd P n T=some offs→Cw cs ds offs=some r→
      (Op.equalIn (d+n+1) T (.agg xs) (.agg ys)).run P w= .ok r w
  | 0,d,C,T,xs,ys,cs,ds,offs,r,hx,hy,hb,h,hr=>by cases h
  | n+1,d,C,T,xs,ys,cs,ds,offs,r,hx,hy,hb,h,hr=>by
    unfold Kd at h
    split at h
    ·rename_i fs hU
     split at h
     ·rename_i hc
      have qf:P.underlying T=some (.struct (P.fieldsOf T)):=by simp[Program.fieldsOf,hU]
      have mz:P.fieldsOf T=fs:=by simp[Program.fieldsOf,hU]
      rw[run_equalIn_struct (P:=P) w (d+(n+1)) T xs ys qf hc.1,mz]
      exact Ng (n:=n) (d:=d) (fun {C T xs ys cs ds offs r} a b c e f=>Oy n d a b c e f) hx hy _ _ _ hc.2 h hb hr
     ·cases h
    ·cases h
theorem Vb {C:Ctx} {w:World} {o:BinOp} {T:TypeId} {xo yo:Operand} {u v:Value} {x y:Ac} {K:Ac→Prop} (hx:A4 C w u x) (hy:A4 C w v y) (h:Sx P o T x y K) :
    Quiet C w ((do eqGuard o T xo yo u v;binOp o T u v).run P w) K:=by
  unfold Sx at h
  split at h
  ·cases hx;cases hy
   obtain⟨hk,h⟩:=h
   have:=Qx (P:=P) (C:=C) (w:=w) (T:=T) hk h
   simp only[Sem.run_bind,R7,Result.andThen_ok]
   exact this
  ·cases hx;cases hy
   obtain⟨hT,h⟩:=h
   simp only[Sem.run_bind,Qv,Result.andThen_ok]
   have he:=run_equal_bool (P:=P) w T
   split at h
   ·exact .mk' (by simp[binOp,he _ _ hT]) (.bool _) h
   ·exact .mk' (by simp[binOp,he _ _ hT,bne]) (.bool _) h
   ·exact h.elim
  ·cases hx with
   | agg arr _ hs hc=>cases hy with
     | agg arr2 _ kf nx=>
       split at h
       ·rename_i offs ck
        split at h
        ·rename_i r hr
         unfold Hh at ck
         split at ck
         ·rename_i fs hU
          split at ck
          ·rename_i tx
           obtain⟨c1,c2,c3⟩:=tx
           have qf:P.underlying T=some (.struct (P.fieldsOf T)):=by simp[Program.fieldsOf,hU]
           have mz:P.fieldsOf T=fs:=by simp[Program.fieldsOf,hU]
           have he:=run_equalIn_struct (P:=P) w 9999 T arr arr2 qf c2
           rw[mz,I4 hc hs nx kf _ _ _ c3 ck hr]at he
           have hg:=run_eqGuard_agg (P:=P) w o T xo yo arr arr2 c1
           simp only[Sem.run_bind,hg,Result.andThen_ok]
           split at h
           ·exact .mk' (by rw[run_eql_struct,he];rfl) (.bool _) h
           ·exact .mk' (by rw[run_neq_struct,he];rfl) (.bool _) h
           ·exact h.elim
          ·cases ck
         ·cases ck
        ·exact h.elim
       ·split at h
        ·rename_i offs ck
         split at h
         ·rename_i r hr
          unfold Wp at ck
          split at ck
          ·rename_i c1
           have he:=Oy (P:=P) (w:=w) 4 9995 (fun i u c a b=>hc i u c a b) (fun i u c a b=>nx i u c a b) (fun p hp=>by have:=M6 hr p hp;omega) ck hr
           have hg:=run_eqGuard_agg (P:=P) w o T xo yo arr arr2 c1
           simp only[Sem.run_bind,hg,Result.andThen_ok]
           split at h
           ·exact .mk' (by rw[run_eql_struct,he];rfl) (.bool _) h
           ·exact .mk' (by rw[run_neq_struct,he];rfl) (.bool _) h
           ·exact h.elim
          ·cases ck
         ·exact h.elim
        ·exact h.elim
  ·exact h.elim
theorem Vt {C:Ctx} {w:World} {o:UnOp} {u:Value} {x:Ac} {K:Ac→Prop} (hx:A4 C w u x) (h:aUn o x K) :
    Quiet C w ((Op.unary o u).run P w) K:=by
  unfold aUn at h
  split at h
  ·cases hx;exact .mk' (by simp[Op.unary]) (.bool _) h
  ·cases hx;exact .mk' (by simp[Op.unary,Op.intArith]) (.int _ _) h
  ·exact h.elim
theorem Tl {C:Ctx} {w:World} {s d:TypeId} {u:Value} {x:Ac} {K:Ac→Prop} (hx:A4 C w u x) (h:Np P s d x K) :
    Quiet C w ((convert s d u).run P w) K:=by
  unfold Np at h
  split at h
  ·rename_i h1 h2
   cases hx
   exact .mk' (by simp[convert,Dq h1,Dq h2,Conv.intToInt]) (.int _ _) h
  ·exact h.elim
theorem Cf (a:Addr) (n:Nat) (h:a.spot=none):a.add n=⟨a.block,a.off+n,none⟩:=by
  cases a with
  | mk b o s=>
    simp only at h
    subst h
    unfold Addr.add
    split
    ·rename_i e;subst e;rfl
    ·rfl
theorem K0 {w:World} {T:TypeId} {a:Addr} {u:Nat→Value} (hT:okT P T=true) (hc:∀ j,j<(if Et P T then Bl P T else 1)→w.cell? (a.add j)=some (u j)) :
    (Instr.loadAt T (.pointer (some a))).run P w= .ok (if Et P T then .agg ((List.range (Bl P T)).map u).toArray else u 0) w:=by
  obtain⟨i,d,hi,hd,hs⟩:=Fu hT
  simp only[Instr.loadAt,Instr.sureAddr,Sem.run_bind,Sem.run_pure,Result.andThen_ok,loadVar,O3 hd]
  cases hA:Et P T with
  | true=>
    simp only[hA,if_true]at hc ⊢
    have:=run_loadCells (P:=P) w a (Bl P T) u hc
    simp only[Sem.run_bind,Result.andThen_ok,Hq hi,← hs,this,Sem.run_pure]
  | false=>
    simp only[hA,Bool.false_eq_true,if_false]at hc ⊢
    have h0:=hc 0 (by omega)
    have:a.add 0=a:=by simp[Addr.add]
    rw[this]at h0
    simp[run_load,h0]
theorem Ia {C:Ctx} {w:World} {T:TypeId} {cs:List Ac} {u:Nat→Value} (hn:(if Et P T then Bl P T else 1)≤cs.length)
    (hr:∀ (j:Nat) (c:Ac),cs[j]? =some c→A4 C w (u j) c) :
    A4 C w (if Et P T then .agg ((List.range (Bl P T)).map u).toArray else u 0) (D7 (Et P T) (Bl P T) cs):=by
  unfold D7
  cases hA:Et P T with
  | true=>
    simp only[hA,if_true]at hn ⊢
    refine .agg _ _ (by simp;omega) fun i v c h1 h2=>?_
    simp only[List.getElem?_toArray,List.getElem?_map]at h1
    rw[List.getElem?_take]at h2
    split at h2
    ·rename_i ab
     rw[List.getElem?_range ab]at h1
     simp only[Option.map_some,bQ]at h1
     subst h1
     exact hr i c h2
    ·cases h2
  | false=>
    simp only[hA,Bool.false_eq_true,if_false]at hn ⊢
    match cs,hn with
    | c::r,_=>exact hr 0 c rfl
theorem Bv {α:Type} {l:List α} {i:Nat} {x:α} (h:l[i]? =some x):i<l.length:=(bW.1 h).1
theorem Ol {W0:World} {C:Ctx} {w:World} (I:Inv W0 C w) {T:TypeId} {p:Value} {ap:Ac} {K:Ac→Prop} (hp:A4 C w p ap) (h:J6 P T ap C.H K) :
    Quiet C w ((Instr.loadAt T p).run P w) K:=by
  unfold J6 at h
  obtain⟨hT,h⟩:=h
  split at h
  ·rename_i r k
   split at h
   ·rename_i cs hr
    obtain⟨hn,hk⟩:=h
    cases hp with
    | ptr a _ _ ab hh=>
      obtain⟨l,hl,rfl⟩:=hh _ hr
      obtain⟨l',arr,T',h1,h2,h3,h4⟩:=I.objs r _ hr
      rw[hl,bQ]at h1
      subst h1
      have af:∀ j,k+j<cs.length→w.cell? ⟨l.b,k+j,none⟩=some (arr.getD (k+j) undef):=by
        intro j hj
        simp only[World.cell?,h2]
        have:k+j<arr.size:=by omega
        simp[Array.getD,this]
      refine .mk' (K0 (u:=fun j=>arr.getD (k+j) undef) hT fun j hj=>?_) (Ia (by simp;omega) fun j c hj=>?_) hk
      ·rw[Cf _ _ rfl];exact af j (by omega)
      ·rw[List.getElem?_drop]at hj
       have:=Bv hj
       refine h4 (k+j) _ c ?_ hj
       rw[Array.getElem?_eq_getElem (by omega)]
       simp[Array.getD,show k+j<arr.size by omega]
   ·exact h.elim
  ·rename_i r v i k
   split at h
   ·rename_i v' sz xs hr
    obtain⟨hv,hn,hk⟩:=h
    cases hp with
    | rptr a _ _ _ _ ab hh=>
      obtain⟨_,hh⟩:=hh _ _ _ hr
      obtain⟨hi,l,hl,rfl⟩:=hh hv
      obtain⟨au,bb,hg,ho⟩:=I.objs r _ hr
      rcases ho with⟨_,h1⟩ | ⟨l',arr,T',h1,h2,h3,h4,h5⟩
      ·rw[hl]at h1;cases h1
      rw[hl,bQ]at h1
      subst h1
      have hx:xs[i]? =some xs[i]:=bN hi
      have l5:=bb _ (List.getElem_mem hi)
      have fi:=hk _ hx l5
      have key:∀ j c,xs[i][k+j]? =some c→∃ u,arr[l.base+i*sz+k+j]? =some u∧A4 C w u c:=by
        intro j c hj
        have:=h5 i (k+j) _ c hx hj
        rwa [show l.base+(i*sz+(k+j))=l.base+i*sz+k+j by omega]at this
      refine .mk' (K0 (u:=fun j=>arr.getD (l.base+i*sz+k+j) undef) hT fun j hj=>?_) (Ia (by simp;omega) fun j c hj=>?_) fi
      ·rw[Cf _ _ rfl]
       have ab:k+j<xs[i].length:=by omega
       obtain⟨u,hu,_⟩:=key j _ (bN ab)
       simp only[World.cell?,h2]
       simp[hu,Array.getD_eq_getD_getElem?]
      ·rw[List.getElem?_drop]at hj
       obtain⟨u,hu,bl⟩:=key j c hj
       simpa[Array.getD_eq_getD_getElem?,hu]using bl
   ·exact h.elim
  ·rename_i cs
   obtain⟨hn,hk⟩:=h
   cases hp with
   | eptr a _ u bh hA hg af ag=>
     exact .mk' (K0 (u:=u) hT fun j hj=>by rw[Cf _ _ bh];exact af j (by omega)) (Ia hn ag) hk
  ·exact h.elim
theorem R5 {T:TypeId} {f off n:Nat} (h:Ck P T f=some (off,n)) (hn:1≤n):∃ fs x i,P.underlying T=some (.struct fs)∧fs[f]? =some x∧x.offset=off∧P.info? x.type=some i∧i.size=n:=by
  unfold Ck at h
  split at h
  ·rename_i fs mz
   cases hx:fs[f]? with
   | none=>simp[hx]at h
   | some x=>
     simp only[hx,Option.map_some,bQ,Prod.mk.injEq]at h
     obtain⟨h1,h2⟩:=h
     cases hi:P.info? x.type with
     | none=>simp[Bl,hi]at h2;omega
     | some i=>exact ⟨fs,x,i,mz,hx,h1,hi,by simpa[Bl,hi]using h2⟩
  ·cases h
theorem Jo {w:World} {T:TypeId} {f off n:Nat} {a:Addr} (h:Ck P T f=some (off,n)) (hn:1≤n) :
    (Instr.fieldAt T (.pointer (some a)) f).run P w= .ok (.pointer (some (a.add off))) w:=by
  obtain⟨fs,x,i,h1,h2,h3,h4,h5⟩:=R5 h hn
  have ar:i.size≠0:=by omega
  simp only[Instr.fieldAt,Sem.run_bind,Dq h1,Result.andThen_ok,h2,Instr.sureAddr,Sem.run_pure,fieldPlace,Hq h4,ar,if_false,h3]
theorem Ny {C:Ctx} {w:World} {T:TypeId} {f:Nat} {p:Value} {ap:Ac} {K:Ac→Prop} (hp:A4 C w p ap) (h:Eu P T ap f K) :
    Quiet C w ((Instr.fieldAt T p f).run P w) K:=by
  unfold Eu at h
  split at h
  ·rename_i off n hf
   obtain⟨hn,h⟩:=h
   split at h
   ·cases hp with
    | ptr a r k hr hh=>
      refine .mk' (Jo hf hn) (.ptr _ _ _ hr fun cs hc=>?_) h
      obtain⟨l,hl,rfl⟩:=hh cs hc
      exact⟨l,hl,by rw[Cf _ _ rfl]⟩
   ·cases hp with
    | rptr a r v i k hr hh=>
      refine .mk' (Jo hf hn) (.rptr _ _ _ _ _ hr fun v' sz xs hc=>?_) h
      obtain⟨h1,h2⟩:=hh _ _ _ hc
      refine⟨h1,fun e=>?_⟩
      obtain⟨h3,l,hl,rfl⟩:=h2 e
      exact⟨h3,l,hl,by rw[Cf _ _ rfl];simp;omega⟩
   ·rename_i cs
    cases hp with
    | eptr a _ u bh hA hg af ag=>
      refine .mk' (Jo hf hn) (.eptr _ _ (fun j=>u (off+j)) (by rw[Cf _ _ bh]) (by rw[Cf _ _ bh];exact hA) (fun c hc=>hg c (List.mem_of_mem_drop hc)) (fun j hj=>?_) fun j c hc=>?_) h
      ·rw[Cf _ _ bh]
       rw[List.length_drop]at hj
       simp only[Nat.add_assoc]
       exact af (off+j) (by omega)
      ·rw[List.getElem?_drop]at hc
       exact ag _ _ hc
   ·exact h.elim
  ·exact h.elim
theorem R4 {C:Ctx} {w:World} {T:TypeId} {f:Nat} {x:Value} {ax:Ac} {K:Ac→Prop} (hx:A4 C w x ax) (h:Li P T ax f K) :
    Quiet C w ((Instr.field T x f).run P w) K:=by
  unfold Li at h
  split at h
  ·rename_i fs cs hU
   split at h
   ·rename_i g hg
    obtain⟨h1,h2,h3,hk⟩:=h
    cases hx with
    | agg arr _ hl hc=>
      have ab:g.offset<arr.size:=by omega
      refine .mk' (v:=arr[g.offset]) ?_ (hc g.offset _ _ (Array.getElem?_eq_getElem ab) ?_) hk
      ·simp only[Instr.field,Sem.run_bind,Dq hU,Result.andThen_ok,hg,asAgg,Sem.run_pure]
       exact E6 h1 h2 (Array.getElem?_eq_getElem ab)
      ·simp[List.getD_eq_getElem?_getD,h3]
   ·exact h.elim
  ·exact h.elim
theorem Gb {T e:TypeId} (h:F2 P T=some e):P.underlying T=some (.slice e):=by
  unfold F2 at h
  split at h
  ·simp only[bQ]at h;subst h;assumption
  ·cases h
theorem Nc {w:World} {T e:TypeId} {k:IntKind} {n:Int} {a:Addr} {len cap:Nat} (hT:F2 P T=some e) (he:okT P e=true) (h0:0≤n) (h1:n<len) :
    (Instr.indexAt T (.slice (some a) len cap) (.int k n)).run P w= .ok (.pointer (some (a.add (n.toNat*Bl P e)))) w:=by
  obtain⟨i,d,hi,hd,hs⟩:=Fu he
  have hc:0≤n∧n<(len:Int):=⟨h0,h1⟩
  simp only[Instr.indexAt,asIntOf,Sem.run_bind,Sem.run_pure,Result.andThen_ok,Dq (Gb hT),hc,and_self,if_true,Hq hi,hs]
theorem Nx {C:Ctx} {w:World} {T:TypeId} {x i:Value} {ax ai:Ac} {K:Ac→Prop} (hx:A4 C w x ax) (hi:A4 C w i ai) (h:D8 P T ax ai C.H K) :
    Quiet C w ((Instr.indexAt T x i).run P w) K:=by
  unfold D8 at h
  split at h
  ·rename_i e k n hT
   cases hi
   obtain⟨he,h⟩:=h
   split at h
   ·rename_i sz xs
    obtain⟨hs,h0,h1,hk⟩:=h
    cases hx with
    | sl0=>simp at h1;omega
    | sl a len cap _ _ u bh hlen bq bc hA au bb hg af ag=>
      have ab:n.toNat<xs.length:=by omega
      have hy:xs[n.toNat]? =some xs[n.toNat]:=bN ab
      have vv:=bb _ (List.getElem_mem ab)
      refine .mk' (Nc hT he h0 (by omega)) (.eptr _ _ (fun j=>u (n.toNat*sz+j)) (by rw[Cf _ _ bh]) (by rw[Cf _ _ bh];exact hA) (hg _ (List.getElem_mem ab)) (fun j hj=>?_) fun j c hc=>ag _ _ _ _ hy hc) (hk _ hy vv)
      rw[Cf _ _ bh,← hs]
      simp only[Nat.add_assoc]
      refine af _ ?_
      have:(n.toNat+1)*sz≤xs.length*sz:=Nat.mul_le_mul_right _ ab
      rw[Nat.add_mul,Nat.one_mul]at this
      omega
   ·rename_i r v lo len
    split at h
    ·rename_i v' sz xs hr
     obtain⟨hv,hs,h0,h1,hk⟩:=h
     cases hx with
     | own a _ cap _ _ _ ab bq bc hh=>
       obtain⟨_,hh⟩:=hh _ _ _ hr
       obtain⟨hle,hh⟩:=hh hv
       rcases hh with hh | ⟨l,hl,rfl,bk⟩
       ·omega
       refine .mk' (Nc hT he h0 h1) (.rptr _ _ _ _ _ ab fun v2 sz2 xs2 ej=>?_) hk
       rw[hr,bQ,Ap.row.injEq]at ej
       obtain⟨rfl,rfl,rfl⟩:=ej
       refine⟨by omega,fun _=>⟨by omega,l,hl,?_⟩⟩
       rw[Cf _ _ rfl,← hs]
       simp[Nat.add_mul,Nat.add_assoc]
    ·exact h.elim
   ·exact h.elim
  ·rename_i k n hT
   cases hi
   split at h
   ·rename_i len e r kk hA
    obtain⟨he,h0,h1,hk⟩:=h
    have hu:P.underlying T=some (.array len e):=by
      unfold W3 at hA
      split at hA
      ·rename_i n' e' ke
       simp only[bQ,Prod.mk.injEq]at hA
       rw[ke,hA.1,hA.2]
      ·cases hA
    obtain⟨i,d,bp,hd,hs⟩:=Fu he
    have hc:0≤n∧n<(len:Int):=⟨h0,h1⟩
    cases hx with
    | ptr a _ _ hr hp=>
      refine .mk' (v:=.pointer (some (a.add (n.toNat*Bl P e)))) ?_ (.ptr _ _ _ hr fun cs fj=>?_) hk
      ·simp only[Instr.indexAt,Instr.sureAddr,asIntOf,Sem.run_bind,Sem.run_pure,Result.andThen_ok,Dq hu,hc,and_self,if_true,Hq bp,hs]
      ·obtain⟨l,h2,h3⟩:=hp cs fj
       exact⟨l,h2,by rw[h3,Cf _ _ rfl]⟩
   ·rename_i len e cs hA
    obtain⟨he,h0,h1,hk⟩:=h
    have hu:P.underlying T=some (.array len e):=by
      unfold W3 at hA
      split at hA
      ·rename_i n' e' ke
       simp only[bQ,Prod.mk.injEq]at hA
       rw[ke,hA.1,hA.2]
      ·cases hA
    obtain⟨i,d,bp,hd,hs⟩:=Fu he
    have hc:0≤n∧n<(len:Int):=⟨h0,h1⟩
    cases hx with
    | eptr a _ u bh hA hg af ag=>
      refine .mk' (v:=.pointer (some (a.add (n.toNat*Bl P e)))) ?_ (.eptr _ _ (fun j=>u (n.toNat*Bl P e+j)) (by rw[Cf _ _ bh]) (by rw[Cf _ _ bh];exact hA) (fun c hc=>hg c (List.mem_of_mem_drop hc)) (fun j hj=>?_) fun j c hc=>?_) hk
      ·simp only[Instr.indexAt,Instr.sureAddr,asIntOf,Sem.run_bind,Sem.run_pure,Result.andThen_ok,Dq hu,hc,and_self,if_true,Hq bp,hs]
      ·rw[Cf _ _ bh,Nat.add_assoc]
       exact af _ (by rw[List.length_drop]at hj;omega)
      ·rw[List.getElem?_drop]at hc;exact ag _ _ hc
   ·exact h.elim
  ·exact h.elim
theorem Pl {C:Ctx} {w:World} {i:Nat} {x:Value} {vs:List Ac} {K:Ac→Prop} (hx:A4 C w x (.tuple vs)) (hi:i<vs.length) (h:K (vs.getD i .any)) :
    Quiet C w ((Instr.extract x i).run P w) K:=by
  cases hx with
  | tuple arr _ hl hc=>
    have ab:i<arr.size:=by omega
    refine .mk' (v:=arr[i]) ?_ (hc i _ _ (Array.getElem?_eq_getElem ab) ?_) h
    ·simp only[Instr.extract,Array.getElem?_eq_getElem ab,Sem.run_pure]
    ·simp[List.getD_eq_getElem?_getD,hi]
theorem Ff:maxLen=9223372036854775807:=by decide
theorem Ux {W0:World} {C:Ctx} {w:World} (I:Inv W0 C w) {T ty:TypeId} {x:Value} {ax:Ac} {K:Ac→Prop}
    (hx:A4 C w x ax) (h:Q2 P T ax C.H K) :
    Quiet C w ((Builtin.len_ #[T] ty #[x]).run P w) K:=by
  unfold Q2 at h
  split at h
  ·rename_i e sz xs hT
   cases hx with
   | sl0 a cap _ bc=>exact .mk' (by simp[Builtin.len_,Dq hT];rfl) (.int _ _) (h (by simp))
   | sl a len cap _ _ u bh hlen bq bc hA au bb hg af ag=>
     subst hlen
     exact .mk' (by simp[Builtin.len_,Dq hT];rfl) (.int _ _) (h (by have:=Ff;omega))
  ·rename_i e r v lo len hT
   cases hx with
   | own a _ cap _ _ _ ab bq bc hh=>exact .mk' (by simp[Builtin.len_,Dq hT];rfl) (.int _ _) (h (by have:=Ff;omega))
  ·rename_i e hT
   cases hx;exact .mk' (by simp[Builtin.len_,Dq hT];rfl) (.int _ _) h
  ·rename_i e hT
   cases hx;exact .mk' (by simp[Builtin.len_,Dq hT];rfl) (.int _ _) h
  ·rename_i s hT
   cases hx;exact .mk' (by simp[Builtin.len_,Dq hT];rfl) (.int _ _) h
  ·rename_i k e hT
   cases hx;exact .mk' (by simp[Builtin.len_,Dq hT];rfl) (.int _ _) h
  ·rename_i k e r hT
   split at h
   ·rename_i es hr
    cases hx with
    | map b _ ab hh=>
      obtain⟨l,hl,rfl⟩:=hh _ hr rfl
      obtain⟨l',en,cl,h1,h2,h3,_,_⟩:=I.objs r _ hr
      rw[hl,bQ]at h1
      subst h1
      refine .mk' (v:=.int .i64 en.size) ?_ (by rw[h3.size];exact .int _ _) h
      simp[Builtin.len_,Dq hT,getObj,Sem.run,h2,goInt]
   ·exact h.elim
  ·rename_i k e es hT
   cases hx with
   | vmap0=>exact .mk' (by simp[Builtin.len_,Dq hT];rfl) (.int _ _) h
   | vmap b _ en cl hA hg hh ak ag=>
     refine .mk' (v:=.int .i64 en.size) ?_ (by rw[ak.size];exact .int _ _) h
     simp[Builtin.len_,Dq hT,getObj,Sem.run,hh,goInt]
  ·exact h.elim
theorem Ni {C:Ctx} {w:World} {lo:Option Value} {alo:Option Ac} {d:Nat} {l:Int} (sy:∀ v a,lo=some v→alo=some a→A4 C w v a) (hn:lo.isSome=alo.isSome) (h:Ev alo d=some l) :
    (lo=none∧alo=none∧l=d)∨∃ k,lo=some (.int k l):=by
  unfold Ev at h
  split at h
  ·simp only[bQ]at h
   cases lo<;>simp_all
  ·rename_i k n
   simp only[bQ]at h
   subst h
   cases lo with
   | none=>simp at hn
   | some v=>
     have:=sy v _ rfl rfl
     cases this
     exact .inr ⟨_,rfl⟩
  ·cases h
theorem Nr {w:World} {len cap:Nat} {lo hi:Option Value} {l h:Int} (hl:(lo=none∧l=0)∨∃ k,lo=some (.int k l)) (hh:(hi=none∧h=len)∨∃ k,hi=some (.int k h))
    (h0:0≤l) (h1:l≤h) (h2:h≤cap):(Instr.sliceBounds true len cap lo hi none).run P w= .ok (l.toNat,h.toNat,cap) w:=by
  have bd:∀ (k:IntKind) (n:Int) (y:Nat) (code:BoundsCode),0≤n→n≤y→(Instr.sliceBound (.int k n) y code).run P w= .ok n.toNat w:=by
    intro k n y code a b
    have:0≤n∧n≤(y:Int):=⟨a,b⟩
    simp only[Instr.sliceBound,asIntOf,Sem.run_bind,Sem.run_pure,Result.andThen_ok,this,and_self,if_true]
  have key:∀ hv:Nat,(hv:Int)=h→(Instr.sliceBounds true len cap lo (some (.int .i64 (hv:Int))) none).run P w= .ok (l.toNat,hv,cap) w:=by
    intro hv e
    rcases hl with⟨rfl,rfl⟩ | ⟨k,rfl⟩
    ·simp[Instr.sliceBounds,bd .i64 hv cap _ (by omega) (by omega)]
    ·simp[Instr.sliceBounds,bd .i64 hv cap _ (by omega) (by omega),bd k l hv _ h0 (by omega)]
  rcases hh with⟨rfl,rfl⟩ | ⟨k,rfl⟩
  ·rcases hl with⟨rfl,rfl⟩ | ⟨k,rfl⟩
   ·simp[Instr.sliceBounds]
   ·simp[Instr.sliceBounds,bd k l len _ h0 (by omega)]
  ·have hb:=bd k h cap .sliceAcap (by omega) h2
   rcases hl with⟨rfl,rfl⟩ | ⟨k',rfl⟩
   ·simp[Instr.sliceBounds,hb]
   ·simp[Instr.sliceBounds,hb,bd k' l h.toNat _ h0 (by omega)]
theorem Gi {w:World} {T e:TypeId} {i:TypeInfo} {a:Option Addr} {len cap:Nat} {lo hi:Option Value} {l h:Int} (hT:P.underlying T=some (.slice e)) (bp:P.info? e=some i)
    (hl:(lo=none∧l=0)∨∃ k,lo=some (.int k l)) (hh:(hi=none∧h=len)∨∃ k,hi=some (.int k h))
    (h0:0≤l) (h1:l≤h) (h2:h≤cap) :
    (Instr.sliceAt T (.slice a len cap) lo hi none).run P w= .ok (.slice (if cap=l.toNat then a else a.map (·.add (l.toNat*i.size))) (h.toNat - l.toNat) (cap - l.toNat)) w:=by
  simp only[Instr.sliceAt,Instr.slice,Sem.run_bind,Dq hT,Result.andThen_ok,Nr hl hh h0 h1 h2,Hq bp,Sem.run_pure]
theorem Mk {w:World} {T e:TypeId} {i:TypeInfo} {a:Option Addr} {len cap:Nat} {lo hi:Option Value} {k:IntKind} (hT:P.underlying T=some (.slice e)) (bp:P.info? e=some i)
    (hl:lo=none∨∃ k,lo=some (.int k 0)) (hh:∃ k,hi=some (.int k 0)) :
    (Instr.sliceAt T (.slice a len cap) lo hi (some (.int k 0))).run P w= .ok (.slice a 0 0) w:=by
  have bd:∀ (k:IntKind) (y:Nat) (code:BoundsCode),(Instr.sliceBound (.int k 0) y code).run P w= .ok 0 w:=by
    intro k y code
    simp[Instr.sliceBound,asIntOf]
  have:(Instr.sliceBounds true len cap lo hi (some (.int k 0))).run P w= .ok (0,0,0) w:=by
    obtain⟨k2,rfl⟩:=hh
    rcases hl with rfl | ⟨k1,rfl⟩<;>simp[Instr.sliceBounds,bd]
  simp only[Instr.sliceAt,Instr.slice,Sem.run_bind,Dq hT,Result.andThen_ok,this,Hq bp,Sem.run_pure]
  simp
theorem Rc {C:Ctx} {w:World} {T:TypeId} {x:Value} {ax:Ac} {lo hi mx:Option Value} {alo ahi amx:Option Ac} {K:Ac→Prop}
    (hx:A4 C w x ax) (sy:∀ v a,lo=some v→alo=some a→A4 C w v a) (sx:lo.isSome=alo.isSome)
    (xp:∀ v a,hi=some v→ahi=some a→A4 C w v a) (tm:hi.isSome=ahi.isSome)
    (w8:∀ v a,mx=some v→amx=some a→A4 C w v a) (sm:mx.isSome=amx.isSome) (h:Gy P T ax alo ahi amx C.H K) :
    Quiet C w ((Instr.sliceAt T x lo hi mx).run P w) K:=by
  unfold Gy at h
  split at h
  ·rename_i e hT
   obtain⟨he,h⟩:=h
   obtain⟨i,d,bp,hd,hs⟩:=Fu he
   have hU:=Gb hT
   have none3:amx=none→mx=none:=by intro e;subst e;cases mx<;>simp_all
   have zero3:∀ k (m:Int),amx=some (.int k m)→m=0→∃ k',mx=some (.int k' 0):=by
     intro k m e0 e1;subst e0 e1
     cases mx with
     | none=>simp at sm
     | some v=>have:=w8 v _ rfl rfl;cases this;exact⟨_,rfl⟩
   have B:=fun d l (h:Ev alo d=some l)=>Ni sy sx h
   have B2:=fun d l (h:Ev ahi d=some l)=>Ni xp tm h
   have Z:∀ (a:Option Addr) (len cap:Nat) d l h k m,Ev alo 0=some l→Ev ahi d=some h→amx=some (.int k m)→l=0→h=0→m=0→ahi.isSome=true→K .z0→
    Quiet C w ((Instr.sliceAt T (.slice a len cap) lo hi mx).run P w) K:=by
     intro a len cap d l h k m e1 e2 e3 z1 z2 z3 xm hk
     subst z1 z2
     obtain⟨k',rfl⟩:=zero3 _ _ e3 z3
     refine .mk' (Mk hU bp ?_ ?_) (.z0 _) hk
     ·rcases B _ _ e1 with⟨h1,_⟩ | h1
      ·exact .inl h1
      ·exact .inr h1
     ·rcases B2 _ _ e2 with⟨_,h2,_⟩ | h1
      ·simp[h2]at xm
      ·exact h1
   have L:∀ {l:Int},Ev alo 0=some l→(lo=none∧l=0)∨∃ k,lo=some (.int k l):=by
     intro l e
     rcases B _ _ e with⟨h1,_,h2⟩ | h1
     ·exact .inl ⟨h1,by simpa using h2⟩
     ·exact .inr h1
   have R:∀ {d:Nat} {l:Int},Ev ahi d=some l→(hi=none∧l=d)∨∃ k,hi=some (.int k l):=by
     intro d l e
     rcases B2 _ _ e with⟨h1,_,h2⟩ | h1
     ·exact .inl ⟨h1,h2⟩
     ·exact .inr h1
   split at h
   ·rename_i sz xs
    obtain⟨bb,h⟩:=h
    cases hx with
    | sl0 a cap _ bc=>
      replace h:=h (by simp)
      split at h
      ·rename_i l h' e1 e2
       obtain⟨h0,h1,h2,hk⟩:=h
       obtain rfl:=none3 rfl
       simp only[List.length_nil]at h2
       refine .mk' (Gi hU bp (L e1) (R e2) h0 h1 (by omega)) ?_ hk
       have e0:h'.toNat - l.toNat=0:=by omega
       rw[e0]
       simp only[List.drop_nil,List.take_nil]
       exact .sl0 _ _ _ (by omega)
      ·rename_i l h' k m e1 e2
       exact Z _ _ _ _ _ _ _ _ e1 e2 rfl h.1 h.2.1 h.2.2.1 h.2.2.2.1 h.2.2.2.2
      ·exact h.elim
    | sl a len cap _ _ u bh hlen bq bc hA au r6 hg af ag=>
      replace h:=h (by have:=Ff;omega)
      subst hlen
      split at h
      ·rename_i l h' e1 e2
       obtain⟨h0,h1,h2,hk⟩:=h
       obtain rfl:=none3 rfl
       refine .mk' (Gi hU bp (L e1) (R e2) h0 h1 (by omega)) ?_ hk
       have elen:((xs.drop l.toNat).take (h'.toNat - l.toNat)).length=h'.toNat - l.toNat:=by simp;omega
       by_cases hc:cap=l.toNat
       ·have e0:h'.toNat - l.toNat=0:=by omega
        rw[e0]
        simp only[List.take_zero]
        exact .sl0 _ _ _ (by omega)
       ·rw[if_neg hc]
        simp only[Option.map_some,Cf _ _ bh]
        refine .sl _ _ _ _ _ (fun j=>u (l.toNat*sz+j)) rfl elen.symm (by omega) (by omega) hA au (fun x hx=>r6 x (List.mem_of_mem_drop (List.mem_of_mem_take hx)))
          (fun x hx=>hg x (List.mem_of_mem_drop (List.mem_of_mem_take hx))) (fun j hj=>?_) fun i' k x c hx gb=>?_
        ·rw[elen]at hj
         rw[← hs,← bb]
         simp only[Nat.add_assoc]
         refine af _ ?_
         have h3:h'.toNat*sz≤xs.length*sz:=Nat.mul_le_mul_right _ (by omega)
         have h4:l.toNat*sz+(h'.toNat - l.toNat)*sz=h'.toNat*sz:=by rw[← Nat.add_mul];congr 1;omega
         omega
        ·rw[List.getElem?_take]at hx
         split at hx
         ·rw[List.getElem?_drop]at hx
          have:=ag _ k x c hx gb
          rwa [Nat.add_mul,Nat.add_assoc]at this
         ·cases hx
      ·rename_i l h' k m e1 e2
       exact Z _ _ _ _ _ _ _ _ e1 e2 rfl h.1 h.2.1 h.2.2.1 h.2.2.2.1 h.2.2.2.2
      ·exact h.elim
   ·rename_i r v a len
    split at h
    ·rename_i v' sz xs hr
     obtain⟨hv,bb,h⟩:=h
     cases hx with
     | own ad _ cap _ _ _ ab bq bc hh=>
       obtain⟨_,hh⟩:=hh _ _ _ hr
       obtain⟨hle,hh⟩:=hh hv
       split at h
       ·rename_i l h' e1 e2
        obtain⟨h0,h1,h2,hk⟩:=h
        obtain rfl:=none3 rfl
        refine .mk' (Gi hU bp (L e1) (R e2) h0 h1 (by omega)) (.own _ _ _ _ _ _ ab (by omega) (by omega) fun v2 sz2 xs2 ej=>?_) hk
        rw[hr,bQ,Ap.row.injEq]at ej
        obtain⟨rfl,rfl,rfl⟩:=ej
        refine⟨by omega,fun _=>⟨by omega,?_⟩⟩
        rcases hh with hh | ⟨l2,hl,rfl,bk⟩
        ·exact .inl (by omega)
        ·by_cases hc:cap=l.toNat
         ·exact .inl (by omega)
         ·refine .inr ⟨l2,hl,?_,?_⟩
          ·rw[if_neg hc]
           rw[Option.map_some,Cf _ _ rfl,← hs,← bb,Nat.add_mul]
           simp only[Nat.add_assoc]
          ·rwa [show a+l.toNat+(cap - l.toNat)=a+cap by omega]
       ·rename_i l h' k m e1 e2
        exact Z _ _ _ _ _ _ _ _ e1 e2 rfl h.1 h.2.1 h.2.2.1 h.2.2.2.1 h.2.2.2.2
       ·exact h.elim
    ·exact h.elim
   ·cases hx
    split at h
    ·rename_i l h' e1 e2
     obtain⟨h0,h1,hk⟩:=h
     obtain rfl:=none3 rfl
     subst h0 h1
     refine .mk' (Gi hU bp (L e1) (R (d:=0) e2) (Int.le_refl _) (Int.le_refl _) (by simp)) ?_ hk
     simp
     exact .nils
    ·rename_i l h' k m e1 e2
     exact Z _ _ _ _ _ _ _ _ e1 e2 rfl h.1 h.2.1 h.2.2.1 h.2.2.2.1 h.2.2.2.2
    ·exact h.elim
   ·cases hx
    split at h
    ·rename_i l h' e1 e2
     obtain⟨h0,h1,hk⟩:=h
     obtain rfl:=none3 rfl
     subst h0 h1
     refine .mk' (Gi hU bp (L e1) (R (d:=0) e2) (Int.le_refl _) (Int.le_refl _) (by simp)) ?_ hk
     simp
     exact .z0 _
    ·rename_i l h' k m e1 e2
     exact Z _ _ _ _ _ _ _ _ e1 e2 rfl h.1 h.2.1 h.2.2.1 h.2.2.2.1 h.2.2.2.2
    ·exact h.elim
   ·exact h.elim
  ·split at h
   ·rename_i n e cs hA
    obtain⟨he,bb,hn,iu,hk⟩:=h
    have hu:P.underlying T=some (.array n e):=by
      unfold W3 at hA
      split at hA
      ·rename_i n' e' ke
       simp only[bQ,Prod.mk.injEq]at hA
       rw[ke,hA.1,hA.2]
      ·cases hA
    obtain⟨i,d,bp,hd,hs⟩:=Fu he
    have sw:lo=none:=by cases lo<;>simp_all
    have tl:hi=none:=by cases hi<;>simp_all
    have sk:mx=none:=by cases mx<;>simp_all
    subst sw tl sk
    cases hx with
    | eptr a _ u bh hA hg af ag=>
      have aj:(Instr.sliceAt T (.pointer (some a)) none none none).run P w= .ok (.slice (some (if n=0 then a else a.add (0*i.size))) (n - 0) (n - 0)) w:=by
        simp[Instr.sliceAt,Instr.sureAddr,Instr.sliceBounds,Dq hu,Hq bp]
      refine .mk' aj ?_ hk
      cases cs with
      | nil=>simp only[List.length_nil]at hn;subst hn;exact .sl0 _ _ _ (Nat.zero_le _)
      | cons c cs=>
        rw[if_neg (by simp at hn;omega),Nat.zero_mul,Cf _ _ bh,Nat.sub_zero]
        refine .sl _ _ _ _ _ u rfl (by rw[Jn];exact hn.symm) (Nat.le_refl _) (by have:=Ff;omega) hA (Nat.le_refl _) (fun x hx=>?_) (fun x hx c' gb=>?_) (fun j hj=>?_) fun i' k x c' hx gb=>?_
        ·obtain⟨i',bp⟩:=List.getElem?_of_mem hx
         rw[Hp]at bp
         cases hq:(c::cs)[i']? with
         | none=>rw[hq]at bp;cases bp
         | some q=>rw[hq]at bp;rw[← bV bp];rfl
        ·obtain⟨i',bp⟩:=List.getElem?_of_mem hx
         rw[Hp]at bp
         cases hq:(c::cs)[i']? with
         | none=>rw[hq]at bp;cases bp
         | some q=>
           rw[hq]at bp;rw[← bV bp]at gb
           rw[List.mem_singleton.1 gb];exact hg _ (bO hq)
        ·rw[Jn]at hj
         show w.cell? ⟨a.block,a.off+0+j,none⟩=_
         rw[Nat.add_zero];exact af j (by omega)
        ·rw[Hp]at hx
         cases hq:(c::cs)[i']? with
         | none=>rw[hq]at hx;cases hx
         | some q=>
           rw[hq]at hx;rw[← bV hx]at gb
           cases k with
           | zero=>simp at gb;subst gb;rw[Nat.mul_one,Nat.add_zero];exact ag _ _ hq
           | succ k=>simp at gb
   ·exact h.elim
end
end Go.Ab
namespace Go.Ab
open Go Go.RowKit
section
variable {P:Program}
structure Ka (W0:World) (C:Ctx) (w:World) (r:Result Value) (K:Ac→Eff→Prop):Prop where
  ex:∃ v a w' C' ef,r= .ok v w'∧A4 C' w' v a∧K a ef∧C'.H=ef.app C.H∧Inv W0 C' w'∧Cx C w C' w'
structure Did (W0:World) (C:Ctx) (w:World) (r:Result Unit) (K:Ac→Eff→Prop):Prop where
  ex:∃ w' C' ef,r= .ok () w'∧K (.tuple []) ef∧C'.H=ef.app C.H∧Inv W0 C' w'∧Cx C w C' w'
theorem Quiet.done {W0:World} {C:Ctx} {w:World} (I:Inv W0 C w) {r:Result Value} {K:Ac→Eff→Prop} (h:Quiet C w r (fun a=>K a .none)):Ka W0 C w r K:=by
  obtain⟨v,a,h1,h2,h3⟩:=h.ex
  exact⟨v,a,w,C,.none,h1,h2,h3,rfl,I,.refl _ _⟩
theorem Nj {W0 w:World} (h:Below W0.heap.size W0 w) (o:Obj):Below W0.heap.size W0 (w.alloc o):=h.alloc h.size o
theorem Inv.alloc {W0:World} {C:Ctx} {w:World} (I:Inv W0 C w) (id:Nat) (aq:F4 C.H id) (o:Ap) (X:Obj) (cap:Nat)
    (ho:Cx C w (C.new id o ⟨w.heap.size,0,cap⟩) (w.alloc X)→J9 (C.new id o ⟨w.heap.size,0,cap⟩) (w.alloc X) id o) :
    Inv W0 (C.new id o ⟨w.heap.size,0,cap⟩) (w.alloc X)∧Cx C w (C.new id o ⟨w.heap.size,0,cap⟩) (w.alloc X):=
  I.fresh id aq o _ (Nat.le_refl _) (by simp) (fun b hb=>Below.heap_alloc _ _ _ hb) (Nj I.below X) ho
theorem Cj (w:World) (X:Obj):(w.alloc X).heap[w.heap.size]? =some X:=by
  show(w.heap.push X)[w.heap.size]? =some X
  simp
theorem Ctx.Hz (C:Ctx) (id:Nat) (o:Ap) (l:Loc):(C.new id o l).ρ id=some l:=by simp[Ctx.new]
theorem Ctx.Xj {C:Ctx} {id:Nat} (aq:F4 C.H id) (o:Ap) (l:Loc):(C.new id o l).H[id]? =some o:=Da aq
theorem Ctx.G3 {C:Ctx} {id:Nat} (aq:F4 C.H id) {o:Ap} (l:Loc) (ar:o≠.resv):(C.new id o l).known id:=⟨o,Da aq,ar⟩
theorem Es (C:Ctx) (w:World) {T:TypeId} {z:Value} (hz:zeroV P T=some z):z.cells.size=(B1 P T).length∧
    ∀ (i:Nat) (u:Value) (c:Ac),z.cells[i]? =some u→(B1 P T)[i]? =some c→A4 C w u c:=by
  simp only[B1,hz]
  refine⟨by simp,fun i u c h1 h2=>?_⟩
  simp only[List.getElem?_map,Array.getElem?_toList,h1,Option.map_some,bQ]at h2
  subst h2
  exact J2 C w u
theorem Ig {T:TypeId} {z:Value} (h:zeroV P T=some z) (w:World):(zeroValue T).run P w= .ok z w:=by
  unfold zeroV at h
  cases hi:P.info? T with
  | none=>simp[hi]at h
  | some i=>
    have hz:i.zero=some z:=by simpa[hi]using h
    simp[zeroValue,typeInfo,hi,hz]
theorem V6 {W0:World} {C:Ctx} {w:World} (I:Inv W0 C w) {id:Nat} (aq:F4 C.H id) {T:TypeId} {v:Value} {cs:List Ac} {K:Ac→Eff→Prop}
    (h1:v.cells.size=cs.length) (h2:∀ (i:Nat) (u:Value) (c:Ac),v.cells[i]? =some u→cs[i]? =some c→A4 C w u c)
    (hk:K (.ptr id 0) (.new id (.box cs))):Ka W0 C w (((fun a=>Value.pointer (some a)) <$> newVar T v).run P w) K:=by
  have key:=I.alloc id aq (.box cs) (.cells v.cells T) v.cells.size (fun m=>⟨_,v.cells,T,Ctx.Hz _ _ _ _,Cj _ _,h1,fun i u c a b=>(h2 i u c a b).mono m⟩)
  refine⟨.pointer (some ⟨w.heap.size,0,none⟩),.ptr id 0,_,_,_,?_,?_,hk,rfl,key.1,key.2⟩
  ·simp[newVar,newRow]
  ·refine .ptr _ _ _ (Ctx.G3 aq _ (by simp)) fun cs' _=>⟨_,Ctx.Hz _ _ _ _,rfl⟩
theorem Sk {W0:World} {C:Ctx} {w:World} (I:Inv W0 C w) {id:Nat} (aq:F4 C.H id) {T:TypeId} {K:Ac→Eff→Prop} (h:T0 P T id K) :
    Ka W0 C w ((Instr.alloc T true (.tuple #[])).run P w) K:=by
  obtain⟨hz,hk⟩:=h
  obtain⟨z,hz⟩:=Option.isSome_iff_exists.1 hz
  have hr:=Es (P:=P) C w hz
  have:=V6 (P:=P) (T:=T) I aq hr.1 hr.2 hk
  simpa[Instr.alloc,Ig hz,Sem.run_map,Sem.run_bind]using this
theorem U9 {W0:World} {C:Ctx} {w:World} (I:Inv W0 C w) {id:Nat} (aq:F4 C.H id) {T:TypeId} {x:Value} {ax:Ac} {K:Ac→Eff→Prop} (hx:A4 C w x ax) (h:Vq ax id K) :
    Ka W0 C w ((Instr.box T x).run P w) K:=by
  unfold Vq at h
  split at h
  ·rename_i cs hc
   have hr:=Lh hx hc
   have:=V6 (P:=P) (T:=T) I aq hr.1 hr.2 h
   simpa[Instr.box,Sem.run_map,Sem.run_bind]using this
  ·exact h.elim
theorem Jv {w:World} {g:Nat} {cur c:Array Value} {t:TypeId} (hg:w.heap[g]? =some (.cells cur t (0,0))) :
    (w.setRow g c).heap[g]? =some (.cells c t (0,0)):=setRow_heap w g cur c t _ hg
theorem I6 {W0 w:World} (h:Below W0.heap.size W0 w) {g:Nat} (hg:W0.heap.size≤g) (c:Array Value):Below W0.heap.size W0 (w.setRow g c):=
  h.trans ⟨rfl,rfl,rfl,by simp[World.setRow],fun k hk=>setRow_other w g k _ (by omega)⟩
theorem Nb {w:World} {T:TypeId} {g o:Nat} {cur:Array Value} {t:TypeId} {x:Value} (hT:okT P T=true) (hg:w.heap[g]? =some (.cells cur t (0,0)))
    (hn:x.cells.size=Bl P T) (bk:o+x.cells.size≤cur.size) (h1:∀ v∈x.cells.toList,v.oneCell'=true) :
    (Instr.storeAt T (.pointer (some ⟨g,o,none⟩)) x).run P w= .ok () (w.setRow g (cur.toList.take o++x.cells.toList++cur.toList.drop (o+x.cells.size)).toArray):=by
  obtain⟨i,d,hi,hd,hs⟩:=Fu hT
  have:=run_storeCells_at P g o t x.cells.toList 0 cur w hg (by simpa using bk) h1
  simp only[Nat.add_zero,Array.length_toList]at this
  simp only[Instr.storeAt,Instr.sureAddr,storeVar,Sem.run_bind,Sem.run_pure,Result.andThen_ok,Hq hi,hn,hs,ne_eq,not_true_eq_false,if_false,this]
theorem Jm {cur:Array Value} {o:Nat} {vs:List Value} (h:o+vs.length≤cur.size):(cur.toList.take o++vs++cur.toList.drop (o+vs.length)).toArray.size=cur.size:=by
  simp;omega
theorem Kz {cur:Array Value} {o:Nat} {vs:List Value} (h:o+vs.length≤cur.size) (j:Nat) :
    (cur.toList.take o++vs++cur.toList.drop (o+vs.length)).toArray[j]? =if j<o then cur[j]? else if j<o+vs.length then vs[j - o]? else cur[j]?:=by
  simp only[List.getElem?_toArray,List.getElem?_append,bR,List.length_take,Array.length_toList]
  have e:min o cur.size=o:=by omega
  rw[e]
  by_cases h1:j<o
  ·rw[if_pos (by omega),if_pos h1,if_pos h1,List.getElem?_take,if_pos h1,Array.getElem?_toList]
  ·rw[if_neg h1,if_neg h1]
   by_cases h2:j<o+vs.length
   ·rw[if_pos h2,if_pos h2]
   ·rw[if_neg h2,if_neg h2,List.getElem?_drop,Array.getElem?_toList]
    congr 1;omega
theorem J4 {cs:List Ac} {o:Nat} {vs:List Ac} (h:o+vs.length≤cs.length) (j:Nat) :
    (splice cs o vs)[j]? =if j<o then cs[j]? else if j<o+vs.length then vs[j - o]? else cs[j]?:=by
  unfold splice
  simp only[List.getElem?_append,bR,List.length_take]
  have e:min o cs.length=o:=by omega
  rw[e]
  by_cases h1:j<o
  ·rw[if_pos (by omega),if_pos h1,if_pos h1,List.getElem?_take,if_pos h1]
  ·rw[if_neg h1,if_neg h1]
   by_cases h2:j<o+vs.length
   ·rw[if_pos h2,if_pos h2]
   ·rw[if_neg h2,if_neg h2,List.getElem?_drop]
    congr 1;omega
theorem H5 {cs:List Ac} {o:Nat} {vs:List Ac} (h:o+vs.length≤cs.length):(splice cs o vs).length=cs.length:=by
  unfold splice;simp;omega
theorem Q9 {W0:World} {C:Ctx} {w:World} (I:Inv W0 C w) {T:TypeId} {p x:Value} {ap ax:Ac} {K:Ac→Eff→Prop} (hp:A4 C w p ap) (hx:A4 C w x ax) (h:J3 P T ap ax C.H K) :
    Did W0 C w ((Instr.storeAt T p x).run P w) K:=by
  unfold J3 at h
  split at h
  ·rename_i vs cy
   obtain⟨hT,hn,ml,h⟩:=h
   have hr:=Lh hx cy
   have h1:∀ v∈x.cells.toList,v.oneCell'=true:=by
     intro v hv
     obtain⟨i,hi⟩:=List.getElem?_of_mem hv
     rw[Array.getElem?_toList]at hi
     have ab:i<vs.length:=by have:=(Array.getElem?_eq_some_iff.1 hi).1;omega
     exact one_cell (hr.2 i v _ hi (bN ab)) (List.all_eq_true.1 ml _ (List.getElem_mem ab))
   split at h
   ·rename_i r k
    split at h
    ·rename_i cs hH
     obtain⟨bk,hk⟩:=h
     cases hp with
     | ptr a _ _ ab hh=>
       obtain⟨l,hl,rfl⟩:=hh _ hH
       replace ab:=ab.lt
       obtain⟨l',arr,T',e1,e2,e3,e4⟩:=I.objs r _ hH
       rw[hl,bQ]at e1
       subst e1
       have aj:=Nb (P:=P) (T:=T) (o:=k) hT e2 (by omega) (by omega) h1
       have fh:x.cells.size=x.cells.toList.length:=by simp
       rw[fh]at aj
       have nv:k+x.cells.toList.length≤arr.size:=by simp;omega
       have key:=I.put (o':=.box (splice cs k vs)) hH hl (w':=w.setRow l.b (arr.toList.take k++x.cells.toList++arr.toList.drop (k+x.cells.toList.length)).toArray)
         (fun b hb=>setRow_other w l.b b _ hb) (by simp[World.setRow]) (I6 I.below (I.sep _ _ hl).2.1 _)
         (by unfold Cd;simp only[Ctx.set,List.getElem?_set_self ab];exact⟨⟨_,hH⟩,trivial⟩)
         (fun m=>⟨l,_,T',hl,Jv e2,by rw[Jm nv,H5 bk,e3],fun i u c a b=>by
           rw[Kz nv]at a
           rw[J4 bk]at b
           rw[← fh,hr.1]at a
           split at a
           ·rename_i h'
            rw[if_pos h']at b
            exact(e4 i u c a b).mono m
           ·rename_i h'
            rw[if_neg h']at b
            split at a
            ·rename_i h2
             rw[if_pos h2]at b
             exact(hr.2 _ u c (by simpa using a) b).mono m
            ·rename_i h2
             rw[if_neg h2]at b
             exact(e4 i u c a b).mono m⟩)
       exact⟨_,_,_,aj,hk,rfl,key.1,key.2⟩
    ·exact h.elim
   ·rename_i r v i k
    split at h
    ·rename_i v' sz xs hH
     obtain⟨hv,tq,bk,hk⟩:=h
     cases hp with
     | rptr a _ _ _ _ ab hh=>
       obtain⟨_,hh⟩:=hh _ _ _ hH
       replace ab:=ab.lt
       obtain⟨hi,l,hl,rfl⟩:=hh hv
       obtain⟨au,bb,hg,ho⟩:=I.objs r _ hH
       rcases ho with⟨_,e1⟩ | ⟨l',arr,T',e1,e2,e3,e4,e5⟩
       ·rw[hl]at e1;cases e1
       rw[hl,bQ]at e1
       subst e1
       have nr:xs[i]? =some xs[i]:=bN hi
       have l5:=bb _ (List.getElem_mem hi)
       have fi:=hk _ nr l5
       have hmul:(i+1)*sz≤xs.length*sz:=Nat.mul_le_mul_right _ hi
       rw[Nat.add_mul,Nat.one_mul]at hmul
       have nv:l.base+i*sz+k+x.cells.toList.length≤arr.size:=by simp;omega
       have aj:=Nb (P:=P) (T:=T) (o:=l.base+i*sz+k) hT e2 (by omega) (by simpa using nv) h1
       have fh:x.cells.size=x.cells.toList.length:=by simp
       rw[fh]at aj
       have yp:vs.length=x.cells.toList.length:=by simp;omega
       have vf:k+vs.length≤xs[i].length:=by omega
       have ei:∀ (i2:Nat) (x2:List Ac),(xs.set i (splice xs[i] k vs))[i2]? =some x2→(i2=i∧x2=splice xs[i] k vs)∨(i2≠i∧xs[i2]? =some x2):=by
         intro i2 x2 h2
         by_cases e:i=i2
         ·subst e
          rw[List.getElem?_set_self hi,bQ]at h2
          exact .inl ⟨rfl,h2.symm⟩
         ·rw[List.getElem?_set_ne e]at h2
          exact .inr ⟨fun h=>e h.symm,h2⟩
       have pn:∀ x2∈xs.set i (splice xs[i] k vs),x2=splice xs[i] k vs∨x2∈xs:=by
         intro x2 h2
         rcases List.mem_or_eq_of_mem_set h2 with h2 | h2
         ·exact .inr h2
         ·exact .inl h2
       have key:=I.put (o':=.row v' sz (xs.set i (splice xs[i] k vs))) hH hl (w':=w.setRow l.b (arr.toList.take (l.base+i*sz+k)++x.cells.toList++arr.toList.drop (l.base+i*sz+k+x.cells.toList.length)).toArray)
         (fun b hb=>setRow_other w l.b b _ hb) (by simp[World.setRow]) (I6 I.below (I.sep _ _ hl).2.1 _)
         (by unfold Cd;simp only[Ctx.set,List.getElem?_set_self ab];exact .inl ⟨_,hH,by simp,trivial⟩)
         (fun m=>⟨au,fun x2 h2=>by
          rcases pn x2 h2 with rfl | h2
          ·rw[H5 vf];exact l5
          ·exact bb x2 h2,fun x2 h2=>by
          rcases pn x2 h2 with rfl | h2
          ·intro c hc
           unfold splice at hc
           rw[bU,bU]at hc
           rcases hc with(hc | hc) | hc
           ·exact hg _ (List.getElem_mem hi) c (List.mem_of_mem_take hc)
           ·exact List.all_eq_true.1 tq c hc
           ·exact hg _ (List.getElem_mem hi) c (List.mem_of_mem_drop hc)
          ·exact hg x2 h2,
           .inr ⟨l,_,T',hl,Jv e2,by rw[Jm nv,e3],by simpa using e4,fun i2 k2 x2 c2 g1 g2=>by
             rw[Kz nv]
             rcases ei i2 x2 g1 with⟨rfl,rfl⟩ | ⟨ar,g1⟩
             ·rw[J4 vf]at g2
              by_cases hA:k2<k
              ·rw[if_pos hA]at g2
               obtain⟨u,hu,bl⟩:=e5 i2 k2 _ c2 nr g2
               exact⟨u,by rw[if_pos (by omega)];exact hu,bl.mono m⟩
              ·rw[if_neg hA]at g2
               by_cases hB:k2<k+vs.length
               ·rw[if_pos hB]at g2
                have da:k2 - k<x.cells.size:=by omega
                refine⟨x.cells[k2 - k],?_,(hr.2 (k2 - k) _ c2 (Array.getElem?_eq_getElem da) g2).mono m⟩
                rw[if_neg (by omega),if_pos (by omega)]
                have:l.base+(i2*sz+k2) - (l.base+i2*sz+k)=k2 - k:=by omega
                rw[this,Array.getElem?_toList,Array.getElem?_eq_getElem da]
               ·rw[if_neg hB]at g2
                obtain⟨u,hu,bl⟩:=e5 i2 k2 _ c2 nr g2
                exact⟨u,by rw[if_neg (by omega),if_neg (by omega)];exact hu,bl.mono m⟩
             ·obtain⟨u,hu,bl⟩:=e5 i2 k2 _ c2 g1 g2
              refine⟨u,?_,bl.mono m⟩
              have db:k2<sz:=by have:=Bv g2;have:=bb _ (bO g1);omega
              have yz:k+vs.length≤sz:=by omega
              rcases Nat.lt_or_gt_of_ne ar with ia | tp
              ·have:(i2+1)*sz≤i*sz:=Nat.mul_le_mul_right _ ia
               rw[Nat.add_mul,Nat.one_mul]at this
               rw[if_pos (by omega)];exact hu
              ·have:(i+1)*sz≤i2*sz:=Nat.mul_le_mul_right _ tp
               rw[Nat.add_mul,Nat.one_mul]at this
               rw[if_neg (by omega),if_neg (by omega)];exact hu⟩⟩)
       exact⟨_,_,_,aj,fi,rfl,key.1,key.2⟩
    ·exact h.elim
   ·exact h.elim
  ·exact h.elim
variable {P:Program}
theorem Qb:∀ (l:List Value) (k off:Nat) (arr:Array Value),off+k+l.length≤arr.size→
    ((l.zipIdx k).foldl (fun cs (p:Value×Nat)=>cs.setIfInBounds (off+p.2) p.1) arr).size=arr.size∧
    ∀ j,((l.zipIdx k).foldl (fun cs (p:Value×Nat)=>cs.setIfInBounds (off+p.2) p.1) arr)[j]? =if off+k≤j∧j<off+k+l.length then l[j - (off+k)]? else arr[j]?
  | [],k,off,arr,_=>⟨rfl,fun j=>by simp;omega⟩
  | x::l,k,off,arr,h=>by
    simp only[List.length_cons]at h
    have ih:=Qb l (k+1) off (arr.setIfInBounds (off+k) x) (by simp;omega)
    simp only[List.zipIdx_cons,List.foldl_cons]
    refine⟨by rw[ih.1];simp,fun j=>?_⟩
    rw[ih.2 j]
    simp only[List.length_cons]
    by_cases h1:off+(k+1)≤j∧j<off+(k+1)+l.length
    ·rw[if_pos h1,if_pos (by omega),show j - (off+k)=(j - (off+(k+1)))+1 by omega]
     simp
    ·rw[if_neg h1]
     by_cases h2:j=off+k
     ·subst h2
      rw[if_pos (by omega),Array.getElem?_setIfInBounds_self]
      rw[if_pos (by omega)]
      simp
     ·rw[if_neg (by omega),Array.getElem?_setIfInBounds_ne (by omega)]
theorem Ox {C:Ctx} {w:World} (place:Nat→Option (Nat×Nat)):∀ (parts:List (Nat×Value)) (aparts:List (Nat×Ac)) (arr:Array Value) (cs cs':List Ac),
    parts.length=aparts.length→(∀ (i:Nat) p q,parts[i]? =some p→aparts[i]? =some q→p.1=q.1∧A4 C w p.2 q.2)→
    arr.size=cs.length→(∀ (i:Nat) (u:Value) (c:Ac),arr[i]? =some u→cs[i]? =some c→A4 C w u c)→Kw place cs aparts=some cs'→
    ∃ arr',Instr.fill place arr parts=some arr'∧arr'.size=cs'.length∧∀ (i:Nat) (u:Value) (c:Ac),arr'[i]? =some u→cs'[i]? =some c→A4 C w u c
  | [],[],arr,cs,cs',_,_,hs,hr,h=>by
    simp only[Kw,bQ]at h
    subst h
    exact⟨arr,rfl,hs,hr⟩
  | (i,v)::parts,(i',a)::aparts,arr,cs,cs',hl,hp,hs,hr,h=>by
    obtain⟨h1,h2⟩:=hp 0 (i,v) (i',a) rfl rfl
    simp only at h1 h2
    subst h1
    simp only[Kw]at h
    split at h
    ·rename_i off size vs gx hc
     split at h
     ·cases h
     ·rename_i hn
      have vn:=Lh h2 hc
      have u6:vs.length=size:=by omega
      have ql:off+vs.length≤cs.length:=by omega
      have bk:off+0+v.cells.toList.length≤arr.size:=by simp;omega
      have hf:=Qb v.cells.toList 0 off arr bk
      have ih:=Ox place parts aparts _ (splice cs off vs) cs' (by simpa using hl) (fun j p q a b=>hp (j+1) p q a b)
        (by rw[hf.1,H5 ql,hs]) (fun j u c a b=>by
          rw[hf.2 j]at a
          rw[J4 ql]at b
          simp only[Nat.add_zero,Array.length_toList,vn.1]at a
          split at a
          ·rename_i hj
           rw[if_neg (by omega),if_pos hj.2]at b
           exact vn.2 _ u c (by simpa using a) b
          ·rename_i hj
           by_cases h3:j<off
           ·rw[if_pos h3]at b;exact hr j u c a b
           ·rw[if_neg h3,if_neg (by omega)]at b;exact hr j u c a b) h
      obtain⟨arr',e1,e2,e3⟩:=ih
      refine⟨arr',?_,e2,e3⟩
      simp only[Instr.fill,gx]
      rw[if_neg (by simp;omega)]
      rw[← e1]
      congr 1
      rw[← Array.foldl_toList,Array.toList_zipIdx]
    ·cases h
  | [],_::_,_,_,_,hl,_,_,_,_=>by simp at hl
  | _::_,[],_,_,_,hl,_,_,_,_=>by simp at hl
theorem Si {C:Ctx} {w:World} {T:TypeId} {parts:Array (Nat×Value)} {aparts:List (Nat×Ac)} {K:Ac→Prop} (hl:parts.toList.length=aparts.length)
    (hp:∀ (i:Nat) p q,parts.toList[i]? =some p→aparts[i]? =some q→p.1=q.1∧A4 C w p.2 q.2) (h:Lk P T aparts K):Quiet C w ((Instr.build T parts).run P w) K:=by
  obtain⟨hz,h⟩:=h
  obtain⟨z,hz⟩:=Option.isSome_iff_exists.1 hz
  split at h
  ·rename_i pl gx
   split at h
   ·rename_i cs fj
    have ja:=Es (P:=P) C w hz
    obtain⟨arr',e1,e2,e3⟩:=Ox (C:=C) (w:=w) _ _ _ _ _ _ hl hp ja.1 ja.2 fj
    refine .mk' (run_build w T parts arr' ?_) (.agg arr' cs e2 e3) h
    unfold placesOf at gx
    split at gx
    ·rename_i fs hU
     unfold zeroV at hz
     cases hi:P.info? T with
     | none=>simp[hi]at hz
     | some i=>
       have vt:i.zero=some z:=by simpa[hi]using hz
       simp only[Program.built,hi,hU,vt,gx]
       simpa using e1
    ·cases gx
   ·exact h.elim
  ·exact h.elim
theorem G4 (sz:Nat):∀ (n:Nat) (l:List Ac),(chunk sz n l).length=n
  | 0,_=>rfl
  | n+1,l=>by simp[chunk,G4 sz n]
theorem Ki (sz:Nat):∀ (n:Nat) (l:List Ac) (i:Nat),i<n→(chunk sz n l)[i]? =some ((l.drop (i*sz)).take sz)
  | 0,_,_,h=>absurd h (by omega)
  | n+1,l,0,_=>by simp[chunk]
  | n+1,l,i+1,h=>by
    simp only[chunk,List.getElem?_cons_succ]
    rw[Ki sz n _ i (by omega),List.drop_drop,Nat.add_mul,Nat.one_mul,Nat.add_comm sz]
theorem Td {T e:TypeId} (_h:F2 P T=some e) {z:Value} (hz:zeroV P e=some z):∃ i,P.info? e=some i∧i.zero=some z∧Bl P e=i.size∧bytesOf P e=i.bytes:=by
  unfold zeroV at hz
  cases hi:P.info? e with
  | none=>simp[hi]at hz
  | some i=>exact ⟨i,rfl,by simpa[hi]using hz,by simp[Bl,hi],by simp[bytesOf,hi]⟩
theorem Tm {C:Ctx} {w:World} {arr:Array Value} {cs:List Ac} {sz n:Nat} (hn:cs.length=n*sz) (hr:∀ (i:Nat) (u:Value) (c:Ac),arr[i]? =some u→cs[i]? =some c→A4 C w u c) (hs:arr.size=cs.length) :
    (∀ x∈chunk sz n cs,x.length=sz)∧∀ (i k:Nat) (x:List Ac) (c:Ac),(chunk sz n cs)[i]? =some x→x[k]? =some c→∃ u,arr[0+(i*sz+k)]? =some u∧A4 C w u c:=by
  refine⟨fun x hx=>?_,fun i k x c hx hc=>?_⟩
  ·obtain⟨i,hi⟩:=List.getElem?_of_mem hx
   have ab:i<n:=by have:=Bv hi;rwa [G4]at this
   rw[Ki sz n cs i ab,bQ]at hi
   subst hi
   have:(i+1)*sz≤n*sz:=Nat.mul_le_mul_right _ ab
   rw[Nat.add_mul,Nat.one_mul]at this
   simp;omega
  ·have ab:i<n:=by have:=Bv hx;rwa [G4]at this
   rw[Ki sz n cs i ab,bQ]at hx
   subst hx
   rw[List.getElem?_take]at hc
   split at hc
   ·rw[List.getElem?_drop]at hc
    have da:=Bv hc
    refine⟨arr[i*sz+k],?_,hr _ _ c ?_ hc⟩
    ·rw[Nat.zero_add,Array.getElem?_eq_getElem (by omega)]
    ·rw[Array.getElem?_eq_getElem (by omega)]
   ·cases hc
theorem Tn {sz n:Nat} {cs x:List Ac} {c:Ac} (hx:x∈chunk sz n cs) (hc:c∈x):c∈cs:=by
  obtain⟨i,hi⟩:=List.getElem?_of_mem hx
  have ab:i<n:=by have:=Bv hi;rwa [G4]at this
  rw[Ki sz n cs i ab,bQ]at hi
  subst hi
  exact List.mem_of_mem_drop (List.mem_of_mem_take hc)
theorem Ms {W0:World} {C:Ctx} {w:World} (I:Inv W0 C w) {id:Nat} (aq:F4 C.H id) (T:TypeId) (arr:Array Value) (sz len cap:Nat) (xs:List (List Ac)) (au:1≤sz) (bb:∀ x∈xs,x.length=sz) (hg:∀ x∈xs,∀ c∈x,Ac.g0 c=true)
    (hlen:len=xs.length) (bk:xs.length*sz≤arr.size)
    (hr:∀ (i k:Nat) (x:List Ac) (c:Ac),xs[i]? =some x→x[k]? =some c→∃ u,arr[0+(i*sz+k)]? =some u∧A4 C w u c)
    (bq:len≤cap) (bc:cap≤maxLen) (j7:cap*sz≤arr.size) :
    ∃ C',C'.H=Dy C.H id (.row 0 sz xs)∧A4 C' (w.alloc (.cells arr T)) (.slice (some ⟨w.heap.size,0,none⟩) len cap) (.own id 0 0 len)∧
      Inv W0 C' (w.alloc (.cells arr T))∧Cx C w C' (w.alloc (.cells arr T)):=by
  have key:=I.alloc id aq (.row 0 sz xs) (.cells arr T) arr.size (fun m=>⟨au,bb,hg,.inr ⟨_,arr,T,Ctx.Hz _ _ _ _,Cj _ _,rfl,by simpa using bk,fun i k x c a b=>by
    obtain⟨u,hu,bl⟩:=hr i k x c a b
    exact⟨u,hu,bl.mono m⟩⟩⟩)
  refine⟨_,rfl,.own _ _ _ _ _ _ (Ctx.G3 aq _ (by simp)) bq bc (fun v' sz' xs' h=>?_),key.1,key.2⟩
  rw[Ctx.Xj aq,bQ,Ap.row.injEq]at h
  obtain⟨rfl,rfl,rfl⟩:=h
  exact⟨Nat.le_refl _,fun _=>⟨by omega,.inr ⟨_,Ctx.Hz _ _ _ _,by simp,by simpa using j7⟩⟩⟩
theorem Ln (cs:List Ac):∀ n,(reps n cs).length=n*cs.length
  | 0=>by simp[reps]
  | n+1=>by rw[reps,bR,Ln cs n,Nat.add_mul,Nat.one_mul];omega
theorem Rf (cs:List Ac):∀ (n j:Nat),j<n*cs.length→(reps n cs)[j]? =cs[j % cs.length]?
  | 0,j,h=>by simp at h
  | n+1,j,h=>by
    rw[reps]
    by_cases hj:j<cs.length
    ·rw[List.getElem?_append_left hj,Nat.mod_eq_of_lt hj]
    ·rw[List.getElem?_append_right (by omega),Rf cs n _ (by rw[Nat.add_mul,Nat.one_mul]at h;omega)]
     congr 1
     exact(Nat.mod_eq_sub_mod (by omega)).symm
theorem M3 {W0:World} {C:Ctx} {w:World} (I:Inv W0 C w) {id:Nat} (aq:F4 C.H id) {T:TypeId} {len:Nat} {parts:Array (Nat×Value)} {aparts:List (Nat×Ac)} {K:Ac→Eff→Prop} (hl:parts.toList.length=aparts.length)
    (hp:∀ (i:Nat) p q,parts.toList[i]? =some p→aparts[i]? =some q→p.1=q.1∧A4 C w p.2 q.2) (hm:len≤maxLen) (h:Fh P T len aparts id K):Ka W0 C w ((Instr.buildSlice T len parts).run P w) K:=by
  unfold Fh at h
  split at h
  ·rename_i e hT
   obtain⟨hz,h1,h2,h3,h⟩:=h
   obtain⟨z,hz⟩:=Option.isSome_iff_exists.1 hz
   obtain⟨i,hi,lj,hs,hb⟩:=Td hT hz
   have ja:=Es (P:=P) C w hz
   have nm:z.cells.size=Bl P e:=by omega
   split at h
   ·rename_i cs fj
    obtain⟨hg,hk⟩:=h
    obtain⟨arr',e1,e2,e3⟩:=Ox (C:=C) (w:=w) (fun i=>some (i*Bl P e,Bl P e)) _ _ ((Array.range (len*Bl P e)).map (z.cells[·% z.cells.size]!)) _ _ hl hp (by simp[Ln,h2]) (fun j u c a b=>by
      simp only[Array.getElem?_map]at a
      by_cases hj:j<len*Bl P e
      ·rw[Array.getElem?_range,if_pos hj]at a
       rw[Rf _ _ _ (by rw[h2];exact hj),h2]at b
       simp only[Option.map_some,bQ]at a
       subst a
       have hm:=Nat.mod_lt j (show 0<Bl P e by omega)
       refine ja.2 (j % Bl P e) _ _ ?_ b
       rw[nm,getElem!_pos z.cells (j % Bl P e) (by omega)]
       rw[Array.getElem?_eq_getElem (by omega)]
      ·rw[List.getElem?_eq_none (by rw[Ln,h2];omega)]at b
       cases b) fj
    have c7:cs.length=len*Bl P e:=by
      have:∀ (aparts:List (Nat×Ac)) (place) (cs cs':List Ac),Kw place cs aparts=some cs'→cs'.length=cs.length:=by
        intro aparts place
        induction aparts with
        | nil=>intro cs cs' h;simp only[Kw,bQ]at h;subst h;rfl
        | cons p r ih=>
          intro cs cs' h
          simp only[Kw]at h
          split at h
          ·split at h
           ·cases h
           ·rw[ih _ _ h,H5 (by omega)]
          ·cases h
      rw[this _ _ _ _ fj,Ln,h2]
    have vk:=Tm c7 e3 e2
    have tq:∀ x∈chunk (Bl P e) len cs,∀ c∈x,Ac.g0 c=true:=fun x hx c hc=>List.all_eq_true.1 hg c (Tn hx hc)
    have u9:len*Bl P e≤arr'.size:=by omega
    obtain⟨C',g1,g2,g3,g4⟩:=Ms I aq e arr' (Bl P e) len len (chunk (Bl P e) len cs) h1 vk.1 tq (by rw[G4]) (by rw[G4];exact u9) vk.2 (Nat.le_refl _) hm u9
    refine⟨_,_,_,C',_,?_,g2,hk,g1,g3,g4⟩
    have hle:¬ (len*Bl P e > 2 ^ 24):=by simp;omega
    have ej:(Instr.buildSlice T len parts).run P w= .ok (.slice (some ⟨w.heap.size,0,none⟩) len len) (w.alloc (.cells arr' e)):=by
      by_cases h0:len*Bl P e=0
      ·have ez:len=0:=by
         rcases Nat.mul_eq_zero.1 h0 with h | h
         ·exact h
         ·omega
       subst ez
       have u1:Array.range 0=#[]:=rfl
       have e1':Instr.fill (fun i=>some (i*Bl P e,Bl P e)) #[] parts.toList=some arr':=by simpa[u1]using e1
       simp[Instr.buildSlice,Dq (Gb hT),Hq hi,← hs,e1',newRow,u1]
      ·simp only[Instr.buildSlice,Sem.run_bind,Dq (Gb hT),Result.andThen_ok,Hq hi,← hs,hle,h0,if_false,Ig hz,Sem.run_pure,e1,newRow,run_newObj]
       rfl
    exact ej
   ·exact h.elim
  ·exact h.elim
theorem Nu {W0:World} {C:Ctx} {w:World} (I:Inv W0 C w) {id:Nat} (aq:F4 C.H id) {T:TypeId} {l c:Value} {al ac:Ac} {K:Ac→Eff→Prop} (hl:A4 C w l al) (hc:A4 C w c ac) (h:Ge P T al ac id K) :
    Ka W0 C w ((Instr.makeSlice T l c).run P w) K:=by
  unfold Ge at h
  split at h
  ·rename_i e kl n kc m hT
   obtain⟨hz,h1,h2,hg,h0,h3,h4,h5,hk⟩:=h
   cases hl;cases hc
   obtain⟨z,hz⟩:=Option.isSome_iff_exists.1 hz
   obtain⟨i,hi,lj,hs,hb⟩:=Td hT hz
   have ja:=Es (P:=P) C w hz
   have nm:z.cells.size=Bl P e:=by omega
   have aj:=run_make (P:=P) w T e i z (Gb hT) hi lj kl kc n m h0 h3 (by rw[← hb];exact h4) h5
   have hle:n.toNat*Bl P e≤m.toNat*Bl P e:=Nat.mul_le_mul_right _ (by omega)
   have cz:(madeCells z.cells (m.toNat*i.size)).size=m.toNat*Bl P e:=by rw[size_madeCells,hs]
   obtain⟨C',g1,g2,g3,g4⟩:=Ms I aq e (madeCells z.cells (m.toNat*i.size)) (Bl P e) n.toNat m.toNat (List.replicate n.toNat (B1 P e)) h1
     (fun x hx=>by rw[List.eq_of_mem_replicate hx];exact h2) (fun x hx c hc=>by rw[List.eq_of_mem_replicate hx]at hc;exact List.all_eq_true.1 hg c hc)
     (by simp) (by rw[cz];simpa using hle) (fun j k x c hx hc=>by
       have hj:j<n.toNat:=by have:=Bv hx;simpa using this
       rw[List.getElem?_replicate,if_pos hj,bQ]at hx
       subst hx
       have db:k<Bl P e:=by have:=Bv hc;omega
       have ab:j*Bl P e+k<m.toNat*i.size:=by
         rw[← hs]
         have:(j+1)*Bl P e≤m.toNat*Bl P e:=Nat.mul_le_mul_right _ (by omega)
         rw[Nat.add_mul,Nat.one_mul]at this
         omega
       refine⟨z.cells[k],?_,ja.2 k _ c (Array.getElem?_eq_getElem (by omega)) hc⟩
       have gz:(j*Bl P e+k) % z.cells.size=k:=by rw[nm,Nat.mul_comm,Nat.mul_add_mod];exact Nat.mod_eq_of_lt db
       simp only[madeCells,Nat.zero_add,Array.getElem?_map,Array.getElem?_range,if_pos ab,Option.map_some,gz]
       rw[getElem!_pos z.cells k (by omega)]) (by omega) (by simp only[maxLen];omega) (by rw[cz];exact Nat.le_refl _)
   exact⟨_,_,_,C',_,aj,g2,hk,g1,g3,g4⟩
  ·exact h.elim
theorem U1 {W0:World} {C:Ctx} {w:World} (I:Inv W0 C w) {x:Value} {ax:Ac} {sz:Nat} {ys:List (List Ac)} (hx:A4 C w x ax) (h:Lj ax C.H=some (sz,ys)) :
    ∃ a m c,x= .slice a m c∧m=ys.length∧m≤c∧c≤maxLen∧(∀ y∈ys,y.length=sz)∧(∀ y∈ys,∀ c∈y,Ac.g0 c=true)∧
      (ys≠[]→1≤sz∧∃ ad,a=some ad∧∃ news:List Value,news.length=m*sz∧(∀ j u,news[j]? =some u→w.cell? (ad.add j)=some u)∧
        (∀ (i k:Nat) (x:List Ac) (c:Ac),ys[i]? =some x→x[k]? =some c→∃ u,news[i*sz+k]? =some u∧A4 C w u c)):=by
  unfold Lj at h
  split at h
  ·rename_i sz1 xs1
   simp only[bQ,Prod.mk.injEq]at h
   obtain⟨rfl,rfl⟩:=h
   cases hx with
   | sl0 a cap _ bc=>exact ⟨a,0,cap,rfl,rfl,Nat.zero_le _,bc,by simp,by simp,by simp⟩
   | sl a len cap _ _ u bh hlen bq bc hA au bb hg af ag=>
     refine⟨some a,len,cap,rfl,hlen,bq,bc,bb,hg,fun _=>⟨au,a,rfl,(List.range (len*sz1)).map u,by simp,fun j v hj=>?_,fun i k x c h1 h2=>?_⟩⟩
     ·simp only[List.getElem?_map]at hj
      have ab:j<len*sz1:=by
        rcases Nat.lt_or_ge j (len*sz1)with h | h
        ·exact h
        ·rw[List.getElem?_eq_none (by simpa using h)]at hj;cases hj
      rw[List.getElem?_range ab]at hj
      simp only[Option.map_some,bQ]at hj
      subst hj
      rw[Cf _ _ bh]
      exact af j (by rw[← hlen];exact ab)
     ·refine⟨u (i*sz1+k),?_,ag i k x c h1 h2⟩
      have hi:=Bv h1
      have hk:k<sz1:=by have:=Bv h2;have:=bb _ (bO h1);omega
      have:(i+1)*sz1≤len*sz1:=Nat.mul_le_mul_right _ (by omega)
      rw[Nat.add_mul,Nat.one_mul]at this
      rw[List.getElem?_map,List.getElem?_range (by omega)]
      rfl
  ·rename_i r v lo len
   split at h
   ·rename_i v' sz' xs hr
    split at h
    ·rename_i hv
     simp only[bQ,Prod.mk.injEq]at h
     obtain⟨rfl,rfl⟩:=h
     cases hx with
     | own a _ cap _ _ _ ab bq bc hh=>
       obtain⟨_,hh⟩:=hh _ _ _ hr
       obtain⟨hle,hh⟩:=hh hv
       obtain⟨au,bb,hg,ho⟩:=I.objs r _ hr
       have hlen:((xs.drop lo).take len).length=len:=by simp;omega
       refine⟨a,len,cap,rfl,hlen.symm,bq,bc,fun y hy=>bb y (List.mem_of_mem_drop (List.mem_of_mem_take hy)),fun y hy=>hg y (List.mem_of_mem_drop (List.mem_of_mem_take hy)),fun ar=>⟨au,?_⟩⟩
       have va:len≠0:=fun e=>ar (by subst e;simp)
       rcases hh with hh | ⟨l,hl,rfl,bk⟩
       ·omega
       rcases ho with⟨e1,_⟩ | ⟨l',arr,T',e1,e2,e3,e4,e5⟩
       ·subst e1;simp at hle;omega
       rw[hl,bQ]at e1
       subst e1
       have hmul:(lo+len)*sz'≤xs.length*sz':=Nat.mul_le_mul_right _ hle
       have ek:(lo+len)*sz'=lo*sz'+len*sz':=Nat.add_mul _ _ _
       refine⟨_,rfl,(arr.toList.drop (l.base+lo*sz')).take (len*sz'),by simp;omega,fun j u hj=>?_,fun i k x c h1 h2=>?_⟩
       ·rw[List.getElem?_take]at hj
        split at hj
        ·rw[List.getElem?_drop,Array.getElem?_toList]at hj
         rw[Cf _ _ rfl]
         simp only[World.cell?,e2]
         simpa using hj
        ·cases hj
       ·rw[List.getElem?_take]at h1
        split at h1
        ·rename_i hi
         rw[List.getElem?_drop]at h1
         obtain⟨u,hu,bl⟩:=e5 _ k x c h1 h2
         refine⟨u,?_,bl⟩
         have hk:k<sz':=by have:=Bv h2;have:=bb _ (bO h1);omega
         have:(i+1)*sz'≤len*sz':=Nat.mul_le_mul_right _ hi
         rw[Nat.add_mul,Nat.one_mul]at this
         rw[List.getElem?_take,if_pos (by omega),List.getElem?_drop,Array.getElem?_toList]
         rw[show l.base+lo*sz'+(i*sz'+k)=l.base+((lo+i)*sz'+k) by rw[Nat.add_mul];omega]
         exact hu
        ·cases h1
    ·cases h
   ·cases h
  ·cases h
theorem Wn {C:Ctx} {w:World} {ys:List (List Ac)} {sz:Nat} {news:List Value} (hlen:news.length=ys.length*sz) (bb:∀ y∈ys,y.length=sz) (hg:∀ y∈ys,∀ c∈y,Ac.g0 c=true)
    (hr:∀ (i k:Nat) (x:List Ac) (c:Ac),ys[i]? =some x→x[k]? =some c→∃ u,news[i*sz+k]? =some u∧A4 C w u c):∀ u∈news,u.oneCell'=true:=by
  intro u hu
  obtain⟨j,hj⟩:=List.getElem?_of_mem hu
  have ab:=Bv hj
  rw[hlen]at ab
  have pa:0<sz:=by
    rcases Nat.eq_zero_or_pos sz with h | h
    ·subst h;simp at ab
    ·exact h
  have hi:j / sz<ys.length:=(Nat.div_lt_iff_lt_mul pa).2 ab
  have hk:j % sz<sz:=Nat.mod_lt _ pa
  have h1:ys[j / sz]? =some ys[j / sz]:=bN hi
  have vq:j % sz<ys[j / sz].length:=by rw[bb _ (List.getElem_mem hi)];exact hk
  obtain⟨u',ke,bl⟩:=hr _ _ _ _ h1 (bN vq)
  rw[Nat.mul_comm,Nat.div_add_mod,hj,bQ]at ke
  subst ke
  refine one_cell bl ?_
  have:=hg _ (List.getElem_mem hi) _ (List.getElem_mem vq)
  revert this
  generalize ys[j / sz][j % sz]=c
  cases c<;>simp[Ac.g0,Ac.one]
theorem Ij {w:World} {T e ty:TypeId} {i:TypeInfo} (hT:P.underlying T=some (.slice e)) (hi:P.info? e=some i) (b:Option Addr) (sLen sCap:Nat) (hle:sLen≤sCap) (a:Option Addr) (c:Nat) :
    (Builtin.append_ #[T,T] ty #[.slice b sLen sCap,.slice a 0 c]).run P w= .ok (.slice b sLen sCap) w:=by
  have xy:∀ (a:Option Addr),(Builtin.firstCells i.size 0 (.slice a 0 c)).run P w= .ok #[] w:=by
    intro a
    cases a<;>simp[Builtin.firstCells,loadCells,loadCellsFrom]
  cases b<;>simp[Builtin.append_,Dq hT,Hq hi,Builtin.lenOf,hle,xy,storeCells]
theorem Pd {w:World} {T e ty:TypeId} {i:TypeInfo} (hT:P.underlying T=some (.slice e)) (hi:P.info? e=some i)
    (g o sLen sCap:Nat) (cur:Array Value) (t:TypeId) (hg:w.heap[g]? =some (.cells cur t (0,0)))
    (a:Addr) (m c:Nat) (news:List Value) (hl:news.length=m*i.size) (df:∀ j u,news[j]? =some u→w.cell? (a.add j)=some u) (h1:∀ u∈news,u.oneCell'=true)
    (fu:sLen+m≤sCap) (bk:o+sLen*i.size+news.length≤cur.size) :
    (Builtin.append_ #[T,T] ty #[.slice (some ⟨g,o,none⟩) sLen sCap,.slice (some a) m c]).run P w =
      .ok (.slice (some ⟨g,o,none⟩) (sLen+m) sCap) (w.setRow g (cur.toList.take (o+sLen*i.size)++news++cur.toList.drop (o+sLen*i.size+news.length)).toArray):=by
  have hf:=run_firstCells_some (P:=P) w i.size m a m c news hl df
  have ij:=run_storeCells_at P g (o+sLen*i.size) t news 0 cur w hg (by simpa using bk) h1
  simp only[Nat.add_zero]at ij
  simp[Builtin.append_,Dq hT,Hq hi,typeInfo,hi,Builtin.lenOf,fu,hf,Cf,ij]
variable {P:Program}
theorem Iz {n c b:Nat} (h:c<n) (hb:n*b≤140737488355328):Builtin.nextslicecap n c*b≤281474976710656:=growslice_fits h hb
theorem P5 {C:Ctx} {w:World} {sz:Nat} {olds news:List Value} {xs ys:List (List Ac)}
    (hx:∀ x∈xs++ys,x.length=sz) (qk:olds.length=xs.length*sz) (iu:news.length=ys.length*sz)
    (ho:∀ (i k:Nat) (x:List Ac) (c:Ac),xs[i]? =some x→x[k]? =some c→∃ u,olds[i*sz+k]? =some u∧A4 C w u c)
    (hn:∀ (i k:Nat) (x:List Ac) (c:Ac),ys[i]? =some x→x[k]? =some c→∃ u,news[i*sz+k]? =some u∧A4 C w u c)
    (cap:Nat) (z:Array Value) (hz:z.size=sz) (hc:xs.length+ys.length≤cap) (C1:Ctx) (w1:World) (m:Cx C w C1 w1) :
    (olds.toArray++news.toArray++Builtin.zeroCells z (cap - (xs.length+ys.length))).size=cap*sz∧
    ∀ (i k:Nat) (x:List Ac) (c:Ac),(xs++ys)[i]? =some x→x[k]? =some c→∃ u,(olds.toArray++news.toArray++Builtin.zeroCells z (cap - (xs.length+ys.length)))[0+(i*sz+k)]? =some u∧A4 C1 w1 u c:=by
  refine⟨?_,fun i k x c h1 h2=>?_⟩
  ·simp only[Array.size_append,List.size_toArray,size_zeroCells,hz,qk,iu,← Nat.add_mul]
   congr 1;omega
  ·have hk:k<sz:=by have:=Bv h2;have:=hx _ (bO h1);omega
   have key:∃ u,(olds++news)[i*sz+k]? =some u∧A4 C w u c:=by
     by_cases hi:i<xs.length
     ·rw[List.getElem?_append_left hi]at h1
      obtain⟨u,hu,bl⟩:=ho i k x c h1 h2
      exact⟨u,by rw[List.getElem?_append_left (Bv hu)];exact hu,bl⟩
     ·rw[List.getElem?_append_right (by omega)]at h1
      obtain⟨u,hu,bl⟩:=hn _ k x c h1 h2
      have:xs.length*sz≤i*sz:=Nat.mul_le_mul_right _ (by omega)
      refine⟨u,?_,bl⟩
      rw[List.getElem?_append_right (by omega),qk]
      rwa [Nat.sub_mul,show i*sz - xs.length*sz+k=i*sz+k - xs.length*sz by omega]at hu
   obtain⟨u,hu,bl⟩:=key
   refine⟨u,?_,bl.mono m⟩
   have ab:=Bv hu
   rw[Nat.zero_add,Array.getElem?_append_left (by simpa using ab)]
   rw[← List.getElem?_toArray]at hu
   simpa using hu
theorem Qz {W0:World} {C:Ctx} {w:World} (I:Inv W0 C w) {id:Nat} (aq:F4 C.H id) {T ty:TypeId} {s x:Value} {zq ax:Ac} {K:Ac→Eff→Prop} (hs:A4 C w s zq) (hx:A4 C w x ax) (h:H7 P T zq ax C.H id K) :
    Ka W0 C w ((Builtin.append_ #[T,T] ty #[s,x]).run P w) K:=by
  unfold H7 at h
  split at h
  ·rename_i e hT
   obtain⟨hz,au,ym,h⟩:=h
   obtain⟨z,hz⟩:=Option.isSome_iff_exists.1 hz
   obtain⟨i,hi,lj,jb,uc⟩:=Td hT hz
   have hU:=Gb hT
   have ja:=Es (P:=P) C w hz
   have nm:z.cells.size=Bl P e:=by omega
   split at h
   ·rename_i szx ys j5
    obtain⟨r5,h⟩:=h
    obtain⟨xa,m,xc,rfl,hm,yw,vw,ki,q0,pb⟩:=U1 I hx j5
    subst r5
    have fromZero:∀ (b:Option Addr),ys.length*bytesOf P e≤140737488355328→ys.length≤9223372036854775807→K (.own id 0 0 ys.length) (.new id (.row 0 (Bl P e) ys))→
     Ka W0 C w ((Builtin.append_ #[T,T] ty #[.slice b 0 0,.slice xa m xc]).run P w) K:=by
      intro b uk yl hk
      by_cases hy:ys=[]
      ·subst hy
       subst hm
       have aj:=Ij (P:=P) (w:=w) (ty:=ty) hU hi b 0 0 (Nat.le_refl _) xa xc
       have key:=I.ghost id aq (.row 0 (Bl P e) []) (fun _=>⟨au,by simp,by simp,.inl ⟨rfl,I.V5 aq⟩⟩)
       refine⟨_,_,_,_,_,aj,.own _ _ _ _ _ _ ⟨_,Da aq,by simp⟩ (Nat.le_refl _) (Nat.zero_le _) (fun v' sz' xs' h'=>?_),hk,rfl,key.1,key.2⟩
       simp only[Ctx.ghost]at h'
       rw[Da aq,bQ,Ap.row.injEq]at h'
       obtain⟨rfl,rfl,rfl⟩:=h'
       exact⟨Nat.le_refl _,fun _=>⟨by simp,.inl rfl⟩⟩
      ·obtain⟨_,ad,rfl,news,iu,df,ph⟩:=pb hy
       have gw:0<m:=by rw[hm];exact List.length_pos_iff.2 hy
       have kn:news.length=ys.length*Bl P e:=by rw[iu,hm]
       have ka:((m:Nat):Int)≤9223372036854775807:=by omega
       have xb:=Ff
       have fin:∀ cap,m≤cap→cap≤maxLen→Ka W0 C w (.ok (.slice (some ⟨w.heap.size,0,none⟩) m cap) (w.drew.alloc (.cells (([]:List Value).toArray++news.toArray++Builtin.zeroCells z.cells (cap - (([]:List (List Ac)).length+ys.length))) e))) K:=by
         intro cap ua nx
         have I':=I.same (w':=w.drew) rfl (I.below.drew)
         have hr:=P5 (xs:=[]) (olds:=[]) (by simpa using ki) (by simp) kn (by simp) ph cap z.cells nm (by simp;omega) C w.drew I'.2
         obtain⟨C',g1,g2,g3,g4⟩:=Ms I'.1 aq e _ (Bl P e) m cap ys au ki q0 hm (by rw[hr.1];exact Nat.mul_le_mul_right _ (by omega)) (by simpa using hr.2) ua nx (by rw[hr.1];exact Nat.le_refl _)
         exact⟨_,_,_,C',_,rfl,by rw[hm]at g2 ⊢;exact g2,hk,g1,g3,I'.2.trans g4⟩
       cases b with
       | none=>
         have aj:=run_append_nil (P:=P) w T ty e i z hU hi lj ad m xc news (by rw[iu,jb]) df gw ka (by rw[← uc,hm];omega)
         rw[aj]
         have:=fin (grownCap w m 0 e) (grownCap_ge _ _ _ _) (grownCap_le_maxLen _ _ _ _ (by omega))
         simpa[hm]using this
       | some b=>
         have aj:=run_append_grow (P:=P) w T ty e i z hU hi lj b 0 0 [] (by simp) (by simp) ad m xc news (by rw[iu,jb]) df (by omega) (by simpa using ka) (Iz (by omega) (by rw[← uc,Nat.zero_add,hm];exact uk))
         rw[aj]
         have:=fin (grownCap w (0+m) 0 e) (by have:=grownCap_ge w (0+m) 0 e;omega) (grownCap_le_maxLen _ _ _ _ (by omega))
         simpa[hm]using this
    split at h
    ·cases hs
     exact fromZero none h.1 h.2.1 h.2.2
    ·cases hs
     exact fromZero _ h.1 h.2.1 h.2.2
    ·rename_i r v lo len
     split at h
     ·rename_i v' sz xs hr
      obtain⟨hv,bb,uk,yl,hk⟩:=h
      subst hv
      subst bb
      cases hs with
      | own sa _ cap _ _ _ ab bq bc hh=>
        obtain⟨_,hh⟩:=hh _ _ _ hr
        obtain⟨hle,hh⟩:=hh rfl
        obtain⟨_,bb,hg,ho⟩:=I.objs r _ hr
        have hlen:((xs.drop lo).take len).length=len:=by simp;omega
        have j8:∀ x∈(xs.drop lo).take len++ys,x.length=Bl P e:=fun x hx=>by
          rcases bU.1 hx with hx | hx
          ·exact bb x (List.mem_of_mem_drop (List.mem_of_mem_take hx))
          ·exact ki x hx
        have ik:∀ x∈(xs.drop lo).take len++ys,∀ c∈x,Ac.g0 c=true:=fun x hx=>by
          rcases bU.1 hx with hx | hx
          ·exact hg x (List.mem_of_mem_drop (List.mem_of_mem_take hx))
          ·exact q0 x hx
        have ya:W0.heap.size≤w.heap.size:=I.below.size
        have own':∀ (C':Ctx) (w':World) (a:Option Addr) (cap':Nat) (l:Loc),C'.H=C.H.set r (.row (v+1) (Bl P e) ((xs.drop lo).take len++ys))→len+m≤cap'→cap'≤maxLen→
         (cap'=0∨(C'.ρ r=some l∧a=some ⟨l.b,l.base,none⟩∧l.base+cap'*Bl P e≤l.cap))→A4 C' w' (.slice a (len+m) cap') (.own r (v+1) 0 (len+ys.length)):=by
          intro C' w' a cap' l hH h1 h2 h3
          rw[← hm]
          refine .own _ _ _ _ _ _ ⟨_,by rw[hH];exact List.getElem?_set_self ab.lt,by simp⟩ h1 h2 (fun v2 sz2 xs2 h'=>?_)
          rw[hH,List.getElem?_set_self ab.lt,bQ,Ap.row.injEq]at h'
          obtain⟨rfl,rfl,rfl⟩:=h'
          refine⟨Nat.le_refl _,fun _=>⟨by simp[hlen,hm],?_⟩⟩
          rcases h3 with h3 | ⟨h3,h4,h5⟩
          ·exact .inl h3
          ·exact .inr ⟨l,h3,by simpa using h4,by simpa using h5⟩
        by_cases hy:ys=[]
        ·
         subst hy
         have xd:m=0:=by simpa using hm
         subst xd
         have aj:=Ij (P:=P) (w:=w) (ty:=ty) hU hi sa len cap bq xa xc
         rcases hh with ub | ⟨l,hl,sd,bk⟩
         ·have ez:len=0:=by omega
          subst ez
          have key:=I.reloc (sz':=Bl P e) (xs':=(xs.drop lo).take 0++[]) hr (Nat.lt_succ_self v) none (fun b _ _=>rfl) (Nat.le_refl _) I.below (by simp)
            (fun m=>⟨au,j8,ik,.inl ⟨by simp,by simp[Ctx.reloc]⟩⟩)
          exact⟨_,_,_,_,_,aj,own' _ _ sa cap ⟨0,0,0⟩ rfl (by omega) bc (.inl ub),hk,rfl,key.1,key.2⟩
         ·subst sd
          rcases ho with⟨e1,e2⟩ | ⟨l',arr,T',e1,e2,e3,e4,e5⟩
          ·rw[hl]at e2;cases e2
          rw[hl,bQ]at e1
          subst e1
          have hmul:(lo+len)*Bl P e≤xs.length*Bl P e:=Nat.mul_le_mul_right _ hle
          have ek:(lo+cap)*Bl P e=lo*Bl P e+cap*Bl P e:=Nat.add_mul _ _ _
          have qe:(lo+len)*Bl P e=lo*Bl P e+len*Bl P e:=Nat.add_mul _ _ _
          have key:=I.reloc (sz':=Bl P e) (xs':=(xs.drop lo).take len++[]) hr (Nat.lt_succ_self v) (some ⟨l.b,l.base+lo*Bl P e,l.cap⟩) (fun b _ _=>rfl) (Nat.le_refl _) I.below
            (fun l2 h2=>by
              simp only[bQ]at h2;subst h2
              have:=I.sep r l hl
              exact⟨this.2.1,this.2.2.1,this.2.2.2,fun r' l' ar h' eb=>ar (I.inj _ _ _ _ h' hl eb)⟩)
            (fun m=>⟨au,j8,ik,.inr ⟨⟨l.b,l.base+lo*Bl P e,l.cap⟩,arr,T',by simp[Ctx.reloc],e2,e3,by simp only[List.append_nil,hlen];omega,fun i2 k x c h1 h2=>by
              simp only[List.append_nil]at h1
              rw[List.getElem?_take]at h1
              split at h1
              ·rw[List.getElem?_drop]at h1
               obtain⟨u,hu,bl⟩:=e5 _ k x c h1 h2
               refine⟨u,?_,bl.mono m⟩
               rwa [Nat.add_mul,show l.base+(lo*Bl P e+i2*Bl P e+k)=l.base+lo*Bl P e+(i2*Bl P e+k) by omega]at hu
              ·cases h1⟩⟩)
          exact⟨_,_,_,_,_,aj,own' _ _ _ cap ⟨l.b,l.base+lo*Bl P e,l.cap⟩ rfl (by omega) bc (.inr ⟨by simp[Ctx.reloc],rfl,by simp only[];omega⟩),hk,rfl,key.1,key.2⟩
        ·obtain⟨_,ad,rfl,news,iu,df,ph⟩:=pb hy
         have gw:0<m:=by rw[hm];exact List.length_pos_iff.2 hy
         have kn:news.length=ys.length*Bl P e:=by rw[iu,hm]
         have ml:=Wn kn ki q0 ph
         have ka:((len+m:Nat):Int)≤9223372036854775807:=by omega
         have xb:=Ff
         have grow:∀ (olds:List Value) (old:Nat),olds.length=len*Bl P e→(∀ (i k:Nat) (x:List Ac) (c:Ac),((xs.drop lo).take len)[i]? =some x→x[k]? =some c→∃ u,olds[i*Bl P e+k]? =some u∧A4 C w u c)→
          Ka W0 C w (.ok (.slice (some ⟨w.heap.size,0,none⟩) (len+m) (grownCap w (len+m) old e)) (w.drew.alloc (.cells (olds.toArray++news.toArray++Builtin.zeroCells z.cells (grownCap w (len+m) old e - (len+m))) e))) K:=by
           intro olds old qk w6
           have p8:=grownCap_ge w (len+m) old e
           have tz:=grownCap_le_maxLen w (len+m) old e (by omega)
           have key:=I.reloc (w':=w.drew.alloc (.cells (olds.toArray++news.toArray++Builtin.zeroCells z.cells (grownCap w (len+m) old e - (len+m))) e)) (sz':=Bl P e) (xs':=(xs.drop lo).take len++ys) hr (Nat.lt_succ_self v)
             (some ⟨w.heap.size,0,grownCap w (len+m) old e*Bl P e⟩) (fun b hb _=>by first | exact heap_alloc_old w.drew _ b hb | exact heap_alloc_old w.drew _ hb) (by simp) (Nj I.below.drew _)
             (fun l2 h2=>by
               simp only[bQ]at h2;subst h2
               exact⟨ya,by simp,fun hA=>by have:=I.sub _ hA;simp at this,fun r' l' ar h' eb=>by have:=(I.sep _ _ h').2.2.1;simp only at eb;omega⟩)
             (fun m2=>by
               have ej:=P5 j8 (by rw[hlen];exact qk) kn w6 ph (grownCap w (len+m) old e) z.cells nm (by rw[hlen];omega) _ _ m2
               rw[hlen,← hm]at ej
               refine⟨au,j8,ik,.inr ⟨⟨w.heap.size,0,grownCap w (len+m) old e*Bl P e⟩,_,e,by simp[Ctx.reloc],Cj w.drew _,ej.1,?_,ej.2⟩⟩
               simp only[bR,hlen,Nat.zero_add,← hm]
               exact Nat.mul_le_mul_right _ p8)
           exact⟨_,_,_,_,_,rfl,own' _ _ _ _ ⟨w.heap.size,0,grownCap w (len+m) old e*Bl P e⟩ rfl p8 tz (.inr ⟨by simp[Ctx.reloc],rfl,by simp⟩),hk,rfl,key.1,key.2⟩
         have ni:(len+m)*i.bytes≤140737488355328:=by rw[← uc,hm];exact uk
         rcases hh with ub | ⟨l,hl,sd,bk⟩
         ·have ez:len=0:=by omega
          subst ez
          subst ub
          cases sa with
          | none=>
            have aj:=run_append_nil (P:=P) w T ty e i z hU hi lj ad m xc news (by rw[iu,jb]) df gw (by omega) (by rw[Nat.zero_add]at ni;omega)
            rw[aj]
            have:=grow [] 0 (by simp) (by simp)
            simpa using this
          | some b=>
            have aj:=run_append_grow (P:=P) w T ty e i z hU hi lj b 0 0 [] (by simp) (by simp) ad m xc news (by rw[iu,jb]) df (by omega) ka (Iz (by omega) ni)
            rw[aj]
            exact grow [] 0 (by simp) (by simp)
         ·subst sd
          rcases ho with⟨e1,e2⟩ | ⟨l',arr,T',e1,e2,e3,e4,e5⟩
          ·rw[hl]at e2;cases e2
          rw[hl,bQ]at e1
          subst e1
          have hmul:(lo+len)*Bl P e≤xs.length*Bl P e:=Nat.mul_le_mul_right _ hle
          have ek:(lo+cap)*Bl P e=lo*Bl P e+cap*Bl P e:=Nat.add_mul _ _ _
          have qe:(lo+len)*Bl P e=lo*Bl P e+len*Bl P e:=Nat.add_mul _ _ _
          have olds_get:∀ j,j<len*Bl P e→((arr.toList.drop (l.base+lo*Bl P e)).take (len*Bl P e))[j]? =arr[l.base+lo*Bl P e+j]?:=by
            intro j hj
            rw[List.getElem?_take,if_pos hj,List.getElem?_drop,Array.getElem?_toList]
          have rep_old:∀ (i k:Nat) (x:List Ac) (c:Ac),((xs.drop lo).take len)[i]? =some x→x[k]? =some c→∃ u,arr[l.base+lo*Bl P e+(i*Bl P e+k)]? =some u∧A4 C w u c∧i<len∧k<Bl P e:=by
            intro i2 k x c h1 h2
            rw[List.getElem?_take]at h1
            split at h1
            ·rename_i nu
             rw[List.getElem?_drop]at h1
             obtain⟨u,hu,bl⟩:=e5 _ k x c h1 h2
             have db:k<Bl P e:=by have:=Bv h2;have:=bb _ (bO h1);omega
             refine⟨u,?_,bl,nu,db⟩
             rwa [Nat.add_mul,show l.base+(lo*Bl P e+i2*Bl P e+k)=l.base+lo*Bl P e+(i2*Bl P e+k) by omega]at hu
            ·cases h1
          by_cases fu:len+m≤cap
          ·have u7:(len+m)*Bl P e≤cap*Bl P e:=Nat.mul_le_mul_right _ fu
           have vm:(len+m)*Bl P e=len*Bl P e+m*Bl P e:=Nat.add_mul _ _ _
           have j2:l.base+lo*Bl P e+len*i.size+news.length≤arr.size:=by rw[← jb,iu,e3];omega
           have aj:=Pd (P:=P) (ty:=ty) hU hi l.b (l.base+lo*Bl P e) len cap arr T' e2 ad m xc news (by rw[iu,jb]) df ml fu j2
           have bh:=I.sep r l hl
           have key:=I.reloc (w':=w.setRow l.b (arr.toList.take (l.base+lo*Bl P e+len*i.size)++news++arr.toList.drop (l.base+lo*Bl P e+len*i.size+news.length)).toArray) (sz':=Bl P e) (xs':=(xs.drop lo).take len++ys) hr (Nat.lt_succ_self v)
             (some ⟨l.b,l.base+lo*Bl P e,l.cap⟩) (fun b hb h'=>setRow_other w l.b b _ (h' ⟨l.b,l.base+lo*Bl P e,l.cap⟩ rfl)) (by simp[World.setRow]) (I6 I.below bh.2.1 _)
             (fun l2 h2=>by
               simp only[bQ]at h2;subst h2
               exact⟨bh.2.1,by simpa[World.setRow]using bh.2.2.1,bh.2.2.2,fun r' l' ar h' eb=>ar (I.inj _ _ _ _ h' hl eb)⟩)
             (fun m2=>⟨au,j8,ik,.inr ⟨⟨l.b,l.base+lo*Bl P e,l.cap⟩,_,T',by simp[Ctx.reloc],Jv e2,by rw[Jm j2];exact e3,by
              simp only[bR,hlen,← hm];omega,fun i2 k x c h1 h2=>by
               dsimp only
               rw[Kz j2]
               by_cases nu:i2<len
               ·rw[List.getElem?_append_left (by rw[hlen];exact nu)]at h1
                obtain⟨u,hu,bl,_,db⟩:=rep_old i2 k x c h1 h2
                have:(i2+1)*Bl P e≤len*Bl P e:=Nat.mul_le_mul_right _ nu
                rw[Nat.add_mul,Nat.one_mul]at this
                exact⟨u,by rw[if_pos (by rw[← jb];omega)];exact hu,bl.mono m2⟩
               ·rw[List.getElem?_append_right (by rw[hlen];omega),hlen]at h1
                obtain⟨u,hu,bl⟩:=ph _ k x c h1 h2
                have jx:=Bv hu
                have h5:len*Bl P e≤i2*Bl P e:=Nat.mul_le_mul_right _ (by omega)
                rw[Nat.sub_mul]at hu jx
                refine⟨u,?_,bl.mono m2⟩
                rw[if_neg (by rw[← jb];omega),if_pos (by rw[← jb];omega)]
                rw[← hu]
                congr 1
                rw[← jb]
                omega⟩⟩)
           exact⟨_,_,_,_,_,aj,own' _ _ _ cap ⟨l.b,l.base+lo*Bl P e,l.cap⟩ rfl fu bc (.inr ⟨by simp[Ctx.reloc],rfl,by simp only[];omega⟩),hk,rfl,key.1,key.2⟩
          ·have aj:=run_append_grow (P:=P) w T ty e i z hU hi lj ⟨l.b,l.base+lo*Bl P e,none⟩ len cap ((arr.toList.drop (l.base+lo*Bl P e)).take (len*Bl P e)) (by simp[← jb];omega)
             (fun j u hj=>by
               have jx:j<len*Bl P e:=by have:=Bv hj;simp at this;omega
               rw[olds_get j jx]at hj
               rw[Cf _ _ rfl]
               simp only[World.cell?,e2]
               simpa using hj) ad m xc news (by rw[iu,jb]) df (by omega) ka (Iz (by omega) ni)
           rw[aj]
           exact grow _ cap (by simp;omega) (fun i2 k x c h1 h2=>by
             obtain⟨u,hu,bl,nu,db⟩:=rep_old i2 k x c h1 h2
             have:(i2+1)*Bl P e≤len*Bl P e:=Nat.mul_le_mul_right _ nu
             rw[Nat.add_mul,Nat.one_mul]at this
             exact⟨u,by rw[olds_get _ (by omega)];exact hu,bl⟩)
     ·exact h.elim
    ·exact h.elim
   ·exact h.elim
  ·exact h.elim
end
end Go.Ab
namespace Go.Ab
open Go Go.RowKit
def alook:List (Int×Ac)→Int→Option Ac
  | [],_=>none
  | (k,v)::r,n=>if k=n then some v else alook r n
def aset:List (Int×Ac)→Int→Ac→List (Int×Ac)
  | [],n,v=>[(n,v)]
  | (k,u)::r,n,v=>if k=n then(k,v)::r else(k,u)::aset r n v
def adel:List (Int×Ac)→Int→List (Int×Ac)
  | [],_=>[]
  | (k,u)::r,n=>if k=n then r else(k,u)::adel r n
def Qr (P:Program) (T:TypeId):Option TypeId:=
  match P.underlying T with
  | some (.map k e)=>match P.underlying k with
    | some (.int .i64)=>some e
    | _=>none
  | _=>none
def Hl (x:Ac) (H:List Ap):Option (List (Int×Ac)):=
  match x with
  | .nilm=>some []
  | .vmap es=>some es
  | .map r=>match H[r]? with
    | some (.mp es)=>some es
    | some (.mpo false es)=>some es
    | _=>none
  | _=>none
def O6 (id:Nat) (K:Ac→Eff→Prop):Prop:=K (.map id) (.new id (.mp []))
def Ew (es:List (Int×Ac)) (n:Int) (z:Ac) (K:Ac→Bool→Prop):Prop:=(∀ v,alook es n=some v→K v true)∧(alook es n=none→K z false)
def Ub (ok:Bool) (K:Ac→Prop) (v:Ac) (b:Bool):Prop:=K (if ok then .tuple [v,.bool b]else v)
def P1 (x:Ac) (H:List Ap):Bool:=
  match x with
  | .map r=>match H[r]? with
    | some (.mpo _ _)=>true
    | _=>false
  | _=>false
def Vv (P:Program) (e:TypeId) (z:Ac):Ac:=
  match z with
  | .nils=>match F2 P e with
    | some t=>.sl (Bl P t) []
    | none=>.nils
  | z=>z
def Q5 (P:Program) (e:TypeId) (o:Bool):Ac:=if o=true then azero P e else Vv P e (azero P e)
def G2 (P:Program) (T:TypeId) (x i:Ac) (ok:Bool) (H:List Ap) (K:Ac→Prop):Prop:=
  match Qr P T,i with
  | some e,.int .i64 n=>(zeroV P e).isSome=true∧match Hl x H with
    | some es=>Ew es n (Q5 P e (P1 x H)) (Ub ok K)
    | none=>False
  | _,_=>False
def Th (P:Program) (T:TypeId):Option TypeId:=
  match P.underlying T with
  | some (.map k e)=>if Hh P k=some [(0,false),(1,false)]then some e else none
  | _=>none
def Dm (P:Program) (T:TypeId) (x i v:Ac) (H:List Ap) (K:Ac→Eff→Prop):Prop:=
  match i,x with
  | .int .i64 n,.map r=>match Qr P T,H[r]? with
    | some _,some (.mp es)=>v.g1=true∧K (.tuple []) (.set r (.mp (aset es n v)))
    | some _,some (.mpo false es)=>K (.tuple []) (.set r (.mpo false (aset es n v)))
    | _,_=>False
  | .agg [.int .i64 a,.int .i64 b],.map r=>match Th P T,H[r]? with
    | some _,some (.mpo true es)=>K (.tuple []) (.set r (.mpo true (aset es (pk a b) v)))
    | _,_=>False
  | _,_=>False
def H6 (P:Program) (T:TypeId) (x i:Ac) (H:List Ap) (K:Ac→Eff→Prop):Prop:=
  match Qr P T,i,x with
  | some _,.int .i64 n,.map r=>match H[r]? with
    | some (.mp es)=>K (.tuple []) (.set r (.mp (adel es n)))
    | _=>False
  | _,_,_=>False
def Q1 (P:Program) (T:TypeId) (x:Ac) (id:Nat) (K:Ac→Eff→Prop):Prop:=
  match Qr P T,x with
  | some _,.nilm=>K (.iter id) (.new id (.it [] none))
  | some _,.vmap es=>K (.iter id) (.new id (.it es none))
  | _,_=>False
def Mg (left:List (Int×Ac)) (KE:Unit→Prop) (KS:List (Int×Ac)→Int×Ac→List (Int×Ac)→Prop):Prop:=(left=[]→KE ())∧∀ l1 p l2,left=l1++p::l2→KS l1 p l2
def Yh (K:Ac→Eff→Prop) (_:Unit):Prop:=K (.tuple [.bool false]) .none
def Yg (r:Nat) (K:Ac→Eff→Prop) (l1:List (Int×Ac)) (p:Int×Ac) (l2:List (Int×Ac)):Prop:=K (.tuple [.bool true,.int .i64 p.1,p.2]) (.set r (.it (l1++l2) (some p)))
def Uj (x:Ac) (isString:Bool) (H:List Ap) (K:Ac→Eff→Prop):Prop:=
  match isString,x with
  | false,.iter r=>match H[r]? with
    | some (.it left _)=>Mg left (Yh K) (Yg r K)
    | _=>False
  | _,_=>False
def Q3 (x:Ac) (H:List Ap) (K:Ac→Prop):Prop:=
  match x with
  | .iter r=>match H[r]? with
    | some (.it _ (some p))=>K (.tuple [.int .i64 p.1,p.2])
    | _=>False
  | _=>False
section
variable {P:Program}
theorem Io {T e:TypeId} (h:Qr P T=some e):∃ k,P.underlying T=some (.map k e)∧P.underlying k=some (.int .i64):=by
  unfold Qr at h
  split at h
  ·split at h
   ·simp only[bQ]at h;subst h;exact⟨_,by assumption,by assumption⟩
   ·cases h
  ·cases h
theorem Gg (n:Int):∀ (l:List MapEntry) (es:List (Int×Ac)) (i:Nat),l.length=es.length→(∀ (j:Nat) (e:MapEntry) (p:Int×Ac),l[j]? =some e→es[j]? =some p→e.key= .int .i64 p.1)→
    ∃ r,Instr.findNow (.int .i64) (.int .i64 n) l i=some r∧
      ((alook es n=none∧r=none)∨∃ j e v,alook es n=some v∧r=some (i+j,e.val)∧l[j]? =some e∧es[j]? =some (n,v)∧(∀ u,aset es n u=es.set j (n,u))∧adel es n=es.eraseIdx j)
  | [],[],i,_,_=>⟨none,rfl,.inl ⟨rfl,rfl⟩⟩
  | e::l,(k,v)::es,i,hl,hk=>by
    have h0:=hk 0 e (k,v) rfl rfl
    simp only at h0
    simp only[Instr.findNow,h0,Instr.sameNow,if_true]
    by_cases nt:k=n
    ·subst nt
     refine⟨some (i,e.val),by simp,.inr ⟨0,e,v,by simp[alook],by simp,rfl,rfl,fun u=>by simp[aset],by simp[adel]⟩⟩
    ·have ar:(n ==k)=false:=by simp;omega
     obtain⟨r,h1,h2⟩:=Gg n l es (i+1) (by simpa using hl) (fun j e p a b=>hk (j+1) e p a b)
     refine⟨r,by simp[ar,h1],?_⟩
     rcases h2 with⟨h2,h3⟩ | ⟨j,e',v',h2,h3,h4,h5,h6,h7⟩
     ·exact .inl ⟨by simp[alook,nt,h2],h3⟩
     ·exact .inr ⟨j+1,e',v',by simp[alook,nt,h2],by rw[h3];congr 2;omega,h4,h5,fun u=>by simp[aset,nt,h6],by simp[adel,nt,h7]⟩
  | [],_::_,_,hl,_=>by simp at hl
  | _::_,[],_,hl,_=>by simp at hl
theorem Ir {es:List (Int×Ac)} {n:Int} (h:alook es n=none) (v:Ac):aset es n v=es++[(n,v)]:=by
  induction es with
  | nil=>rfl
  | cons p es ih=>
    obtain⟨k,u⟩:=p
    simp only[alook]at h
    split at h
    ·cases h
    ·rename_i hk
     simp[aset,hk,ih h]
theorem Vl {es:List (Int×Ac)} {n:Int} (h:alook es n=none):adel es n=es:=by
  induction es with
  | nil=>rfl
  | cons p es ih=>
    obtain⟨k,u⟩:=p
    simp only[alook]at h
    split at h
    ·cases h
    ·rename_i hk
     simp[adel,hk,ih h]
theorem Jf {es:List (Int×Ac)} {n:Int} (h:alook es n=none):n ∉ es.map (·.1):=by
  induction es with
  | nil=>simp
  | cons p es ih=>
    obtain⟨k,u⟩:=p
    simp only[alook]at h
    split at h
    ·cases h
    ·rename_i hk
     simp only[List.map_cons,List.mem_cons,not_or]
     exact⟨fun e=>hk e.symm,ih h⟩
theorem Gf {w:World} {k:TypeId} {n:Int} (h:P.underlying k=some (.int .i64)) (em:Bool):(Instr.checkKey em 10000 k (.int .i64 n)).run P w= .ok () w:=by
  unfold Instr.checkKey
  simp[Dq h]
theorem R9 {W0:World} {C:Ctx} {w:World} (I:Inv W0 C w) {x:Value} {ax:Ac} {es:List (Int×Ac)} (hx:A4 C w x ax) (h:Hl ax C.H=some es) :
    (x= .map none∧es=[])∨∃ b entries clock,x= .map (some b)∧w.heap[b]? =some (.map entries clock)∧F7 false entries clock es∧
     ∀ (i:Nat) (e:MapEntry) (p:Int×Ac),entries[i]? =some e→es[i]? =some p→A4 C w e.val p.2:=by
  unfold Hl at h
  split at h
  ·simp only[bQ]at h;subst h;cases hx;exact .inl ⟨rfl,rfl⟩
  ·simp only[bQ]at h;subst h
   cases hx with
   | vmap0=>exact .inl ⟨rfl,rfl⟩
   | vmap b _ en cl hA hg hh ak ag=>exact .inr ⟨b,en,cl,rfl,hh,ak,ag⟩
  ·rename_i r
   split at h
   ·rename_i es' hr
    simp only[bQ]at h;subst h
    cases hx with
    | map b _ ab hh=>
      obtain⟨l,hl,rfl⟩:=hh _ hr rfl
      obtain⟨l',en,cl,h1,h2,h3,h4,h5⟩:=I.objs r _ hr
      rw[hl,bQ]at h1
      subst h1
      exact .inr ⟨_,en,cl,rfl,h2,h3,h5⟩
   ·rename_i es' hr
    simp only[bQ]at h;subst h
    cases hx with
    | map b _ ab hh=>
      obtain⟨l,hl,rfl⟩:=hh _ hr rfl
      obtain⟨l',en,cl,h1,h2,h3,h5⟩:=I.objs r _ hr
      rw[hl,bQ]at h1
      subst h1
      exact .inr ⟨_,en,cl,rfl,h2,h3,h5⟩
   ·cases h
  ·cases h
theorem Vd (C:Ctx) (w:World) {T:TypeId} {z:Value} (hz:zeroV P T=some z):A4 C w z (azero P T):=by
  simp only[azero,hz];exact O4 C w z
theorem Ps (C:Ctx) (w:World) {T:TypeId} {z:Value} (hz:zeroV P T=some z) (o:Bool):A4 C w z (Q5 P T o):=by
  have h:=Vd (P:=P) C w hz
  unfold Q5
  split
  ·exact h
  ·unfold Vv
   split
   ·rename_i e
    rw[e]at h
    split
    ·cases h;exact .sl0 _ _ _ (Nat.zero_le _)
    ·exact h
   ·exact h
theorem G1 {w:World} {k:TypeId} {n:Int} {l:List MapEntry} {r:Option (Nat×Value)} (h:P.underlying k=some (.int .i64)) (hf:Instr.findNow (.int .i64) (.int .i64 n) l 0=some r) :
    (Instr.findKey k (.int .i64 n) l).run P w= .ok r w:=by
  simp[Instr.findKey,Dq h,hf]
theorem Qq {W0:World} {C:Ctx} {w:World} (I:Inv W0 C w) {T:TypeId} {x i:Value} {ax ai:Ac} {ok:Bool} {K:Ac→Prop} (hx:A4 C w x ax) (hi:A4 C w i ai) (h:G2 P T ax ai ok C.H K) :
    Quiet C w ((Instr.lookup T x i ok).run P w) K:=by
  unfold G2 at h
  split at h
  ·rename_i e n hT
   cases hi
   obtain⟨hz,h⟩:=h
   obtain⟨z,hz⟩:=Option.isSome_iff_exists.1 hz
   obtain⟨k,hU,hk⟩:=Io hT
   have ja:=Ps (P:=P) C w hz (P1 ax C.H)
   split at h
   ·rename_i es vg
    have fin:∀ (v:Value) (a:Ac) (b:Bool),A4 C w v a→K (if ok then .tuple [a,.bool b]else a)→Quiet C w (.ok (if ok then .tuple #[v,.bool b]else v) w) K:=by
      intro v a b hv hK
      cases ok with
      | true=>
        refine .mk' rfl (.tuple _ _ rfl fun i u c h1 h2=>?_) hK
        match i,h1,h2 with
        | 0,h1,h2=>simp at h1 h2;subst h1 h2;exact hv
        | 1,h1,h2=>simp at h1 h2;subst h1 h2;exact .bool b
        | i+2,h1,h2=>simp at h2
      | false=>exact .mk' rfl hv hK
    rcases R9 I hx vg with⟨rfl,rfl⟩ | ⟨b,en,cl,rfl,hb,ak,ag⟩
    ·have:=fin z _ false ja (h.2 rfl)
     have hr:(Instr.lookup T (.map none) (.int .i64 n) ok).run P w= .ok (if ok then .tuple #[z,.bool false]else z) w:=by
       have hf:=G1 (P:=P) (w:=w) (k:=k) (n:=n) (l:=[]) (r:=none) hk rfl
       have hc:=Gf (P:=P) (w:=w) (n:=n) hk true
       simp[Instr.lookup,Dq hU,hc,hf,Ig hz]
     rw[hr];exact this
    ·obtain⟨r,hf,dg⟩:=Gg n en.toList es 0 (by simpa using ak.size) (fun j e p a b=>ak.Jd j e p (by simpa using a) b)
     have j3:=G1 (P:=P) (w:=w) (k:=k) (n:=n) hk hf
     have hc:=Gf (P:=P) (w:=w) (n:=n) hk en.isEmpty
     rcases dg with⟨h1,rfl⟩ | ⟨j,e',v,h1,rfl,h2,h3,_,_⟩
     ·have:=fin z _ false ja (h.2 h1)
      have hr:(Instr.lookup T (.map (some b)) (.int .i64 n) ok).run P w= .ok (if ok then .tuple #[z,.bool false]else z) w:=by
        simp[Instr.lookup,Dq hU,getObj,Sem.run,hb,hc,j3,Ig hz]
      rw[hr];exact this
     ·have:=fin e'.val _ true (ag j e' _ (by simpa using h2) h3) (h.1 _ h1)
      have hr:(Instr.lookup T (.map (some b)) (.int .i64 n) ok).run P w= .ok (if ok then .tuple #[e'.val,.bool true]else e'.val) w:=by
        simp[Instr.lookup,Dq hU,getObj,Sem.run,hb,hc,j3]
      rw[hr];exact this
   ·exact h.elim
  ·exact h.elim
theorem Pf {W0:World} {C:Ctx} {w:World} (I:Inv W0 C w) {id:Nat} (aq:F4 C.H id) {T:TypeId} {K:Ac→Eff→Prop} (h:O6 id K):Ka W0 C w ((Instr.makeMap T none).run P w) K:=by
  have key:=I.alloc id aq (.mp []) (.map #[] 0) 0 (fun m=>⟨_,#[],0,Ctx.Hz _ _ _ _,Cj _ _,⟨rfl,by simp,by simp,by simp,by simp⟩,by simp,by simp⟩)
  exact⟨.map (some w.heap.size),.map id,_,_,_,rfl,.map _ _ (Ctx.G3 aq _ (by simp)) fun o _ _=>⟨_,Ctx.Hz _ _ _ _,rfl⟩,h,rfl,key.1,key.2⟩
theorem Hj {W0 w:World} {b:Nat} (h:Below W0.heap.size W0 w) (hb:W0.heap.size≤b) (o:Obj):Below W0.heap.size W0 {w with heap:=w.heap.setIfInBounds b o}:=
  h.trans ⟨rfl,rfl,rfl,by simp,fun k hk=>by
    show(w.heap.setIfInBounds b o)[k]? =_
    rw[Array.getElem?_setIfInBounds_ne (by omega)]⟩
def Us (o:Bool) (es:List (Int×Ac)):Ap:=if o then .mpo false es else .mp es
theorem Ye {C:Ctx} {w:World} {r:Nat} {o:Bool} {es:List (Int×Ac)}:J9 C w r (Us o es)↔∃ l entries clock,C.ρ r=some l∧w.heap[l.b]? =some (.map entries clock)∧F7 false entries clock es∧(o=false→∀ p∈es,Ac.g1 p.2=true)∧
      ∀ (i:Nat) (e:MapEntry) (p:Int×Ac),entries[i]? =some e→es[i]? =some p→A4 C w e.val p.2:=by
  cases o with
  | true=>exact ⟨fun⟨l,en,cl,h1,h2,h3,h5⟩=>⟨l,en,cl,h1,h2,h3,fun h=>(by cases h),h5⟩,fun⟨l,en,cl,h1,h2,h3,_,h5⟩=>⟨l,en,cl,h1,h2,h3,h5⟩⟩
  | false=>exact ⟨fun⟨l,en,cl,h1,h2,h3,h4,h5⟩=>⟨l,en,cl,h1,h2,h3,fun _=>h4,h5⟩,fun⟨l,en,cl,h1,h2,h3,h4,h5⟩=>⟨l,en,cl,h1,h2,h3,h4 rfl,h5⟩⟩
theorem T8 {W0:World} {C:Ctx} {w:World} (I:Inv W0 C w) {r:Nat} (o:Bool) {es es':List (Int×Ac)} {l:Loc} (hr:C.H[r]? =some (Us o es)) (hl:C.ρ r=some l) (en':Array MapEntry) (cl':Nat)
    (ak:F7 false en' cl' es') (hg:o=false→∀ p∈es',Ac.g1 p.2=true) (ag:∀ (i:Nat) (e:MapEntry) (p:Int×Ac),en'[i]? =some e→es'[i]? =some p→A4 C w e.val p.2) :
    Inv W0 (C.set r (Us o es')) {w with heap:=w.heap.setIfInBounds l.b (.map en' cl')}∧Cx C w (C.set r (Us o es')) {w with heap:=w.heap.setIfInBounds l.b (.map en' cl')}:=by
  have hs:=I.sep r l hl
  refine I.put hr hl (fun b hb=>?_) (by simp) (Hj I.below hs.2.1 _) ?_ (fun m=>Ye.2 ⟨l,en',cl',hl,?_,ak,hg,fun i e p a b=>(ag i e p a b).mono m⟩)
  ·show(w.heap.setIfInBounds l.b _)[b]? =_
   rw[Array.getElem?_setIfInBounds_ne (fun h=>hb h.symm)]
  ·unfold Cd
   simp only[Ctx.set,List.getElem?_set_self hs.1]
   cases o with
   | true=>exact ⟨⟨_,hr,rfl⟩,trivial⟩
   | false=>exact ⟨⟨_,hr,rfl⟩,trivial⟩
  ·show(w.heap.setIfInBounds l.b _)[l.b]? =_
   rw[Array.getElem?_setIfInBounds_self,if_pos hs.2.2.1]
theorem Vx {W0:World} {C:Ctx} {w:World} (I:Inv W0 C w) {r:Nat} {es es':List (Int×Ac)} {l:Loc} (hr:C.H[r]? =some (.mp es)) (hl:C.ρ r=some l) (en':Array MapEntry) (cl':Nat)
    (ak:F7 false en' cl' es') (hg:∀ p∈es',Ac.g1 p.2=true) (ag:∀ (i:Nat) (e:MapEntry) (p:Int×Ac),en'[i]? =some e→es'[i]? =some p→A4 C w e.val p.2) :
    Inv W0 (C.set r (.mp es')) {w with heap:=w.heap.setIfInBounds l.b (.map en' cl')}∧Cx C w (C.set r (.mp es')) {w with heap:=w.heap.setIfInBounds l.b (.map en' cl')}:=by
  have hs:=I.sep r l hl
  refine I.put hr hl (fun b hb=>?_) (by simp) (Hj I.below hs.2.1 _) ?_ (fun m=>⟨l,en',cl',hl,?_,ak,hg,fun i e p a b=>(ag i e p a b).mono m⟩)
  ·show(w.heap.setIfInBounds l.b _)[b]? =_
   rw[Array.getElem?_setIfInBounds_ne (fun h=>hb h.symm)]
  ·unfold Cd
   simp only[Ctx.set,List.getElem?_set_self hs.1]
   exact⟨⟨_,hr,rfl⟩,trivial⟩
  ·show(w.heap.setIfInBounds l.b _)[l.b]? =_
   rw[Array.getElem?_setIfInBounds_self,if_pos hs.2.2.1]
theorem Nf {W0:World} {C:Ctx} {w:World} (I:Inv W0 C w) {T:TypeId} {x i v:Value} {r:Nat} {n:Int} {e:TypeId} {av:Ac} {K:Ac→Eff→Prop} (o:Bool) {es:List (Int×Ac)} (hx:A4 C w x (.map r)) (hi:A4 C w i (.int .i64 n)) (hv:A4 C w v av)
    (hT:Qr P T=some e) (hr:C.H[r]? =some (Us o es)) (ve:o=false→av.g1=true) (hk:K (.tuple []) (.set r (Us o (aset es n av)))):Did W0 C w ((Instr.mapUpdate T x i v).run P w) K:=by
  cases hi
  obtain⟨k,hU,fi⟩:=Io hT
  cases hx with
  | map b _ ab hh=>
    obtain⟨l,hl,rfl⟩:=hh _ hr (by cases o<;>rfl)
    obtain⟨l',en,cl,h1,h2,ak,hg,ag⟩:=Ye.1 (I.objs r _ hr)
    rw[hl,bQ]at h1
    subst h1
    obtain⟨rr,hf,dg⟩:=Gg n en.toList es 0 (by simpa using ak.size) (fun j e p a b=>ak.Jd j e p (by simpa using a) b)
    have j3:=G1 (P:=P) (w:=w) (k:=k) (n:=n) fi hf
    have hc:=Gf (P:=P) (w:=w) (n:=n) fi false
    have ei:∀ en' cl',(setObj l.b (.map en' cl')).run P w= .ok () {w with heap:=w.heap.setIfInBounds l.b (.map en' cl')}:=by
      intro en' cl';simp[setObj,Sem.run,h2]
    rcases dg with⟨h3,rfl⟩ | ⟨j,e',v',h3,rfl,h4,h5,h6,_⟩
    ·have key:=T8 I o (es':=aset es n av) hr hl (en.push {key:=.int .i64 n,val:=v,born:=cl}) (cl+1) (by
       rw[Ir h3]
       refine⟨by simp[ak.size],fun i e p a b=>?_,?_,fun e he=>?_,?_⟩
       ·by_cases hi:i<es.length
        ·rw[List.getElem?_append_left hi]at b
         rw[Array.getElem?_push_lt (by rw[ak.size];exact hi)]at a
         refine ak.Jd i e p ?_ b
         rw[Array.getElem?_eq_getElem (by rw[ak.size];exact hi)];exact a
        ·have bp:i=es.length:=by have:=Bv b;simp at this;omega
         subst bp
         simp only[List.getElem?_concat_length,bQ]at b
         rw[← ak.size,Array.getElem?_push_size,bQ]at a
         subst a b;rfl
       ·rw[List.map_append,List.map_cons,List.map_nil]
        refine List.nodup_append.2 ⟨ak.nodup,by simp,fun a ha b hb=>?_⟩
        simp at hb;subst hb
        exact fun e=>Jf h3 (e ▸ ha)
       ·simp only[Array.toList_push,bU,List.mem_singleton]at he
        rcases he with he | rfl
        ·have:=ak.born e he;omega
        ·exact Nat.lt_succ_self _
       ·rw[Array.toList_push,List.map_append,List.map_cons,List.map_nil]
        refine List.nodup_append.2 ⟨ak.bnodup,by simp,fun a ha b hb=>?_⟩
        simp only[List.mem_singleton]at hb;subst hb
        obtain⟨e,he,rfl⟩:=List.mem_map.1 ha
        have:=ak.born e he
        omega)
       (by rw[Ir h3];intro ho p hp;rcases bU.1 hp with hp | hp;exact hg ho p hp;simp at hp;subst hp;exact ve ho)
       (by
         rw[Ir h3]
         intro i e p a b
         by_cases hi:i<es.length
         ·rw[List.getElem?_append_left hi]at b
          rw[Array.getElem?_push_lt (by rw[ak.size];exact hi)]at a
          refine ag i e p ?_ b
          rw[Array.getElem?_eq_getElem (by rw[ak.size];exact hi)];exact a
         ·have bp:i=es.length:=by have:=Bv b;simp at this;omega
          subst bp
          simp only[List.getElem?_concat_length,bQ]at b
          rw[← ak.size,Array.getElem?_push_size,bQ]at a
          subst a b;exact hv)
     refine⟨_,_,_,?_,hk,rfl,key.1,key.2⟩
     rw[← ei]
     simp[Instr.mapUpdate,Dq hU,getObj,Sem.run,h2,hc,j3]
    ·have hj:j<en.size:=by have:=Bv h4;simpa using this
     have mw:j<es.length:=by rw[← ak.size];exact hj
     have e'k:e'.key= .int .i64 n:=ak.Jd j e' _ (by simpa using h4) h5
     have na:en[j]? =some e':=by simpa using h4
     have gz:∀ (i:Nat) (e:MapEntry),(en.modify j fun e=>{e with key:=.int .i64 n,val:=v})[i]? =some e→(i=j∧e={e' with key:=.int .i64 n,val:=v})∨(i≠j∧en[i]? =some e):=by
       intro i e h
       rw[Array.getElem?_modify]at h
       split at h
       ·rename_i kp
        subst kp
        rw[na]at h
        simp only[Option.map_some,bQ]at h
        exact .inl ⟨rfl,h.symm⟩
       ·rename_i kp
        exact .inr ⟨fun h=>kp h.symm,h⟩
     have fy:(en.modify j fun e=>{e with key:=.int .i64 n,val:=v}).toList.map (·.born)=en.toList.map (·.born):=by
       apply List.ext_getElem?
       intro i
       simp only[List.getElem?_map,Array.getElem?_toList,Array.getElem?_modify]
       split
       ·rename_i h;subst h;rw[na];rfl
       ·rfl
     have ca:∀ (i:Nat) (p:Int×Ac),(es.set j (n,av))[i]? =some p→(i=j∧p=(n,av))∨(i≠j∧es[i]? =some p):=by
       intro i p h
       by_cases e:j=i
       ·subst e;rw[List.getElem?_set_self mw,bQ]at h;exact .inl ⟨rfl,h.symm⟩
       ·rw[List.getElem?_set_ne e]at h;exact .inr ⟨fun h=>e h.symm,h⟩
     have key:=T8 I o (es':=aset es n av) hr hl (en.modify j fun e=>{e with key:=.int .i64 n,val:=v}) cl (by
       rw[h6]
       refine⟨by simp[ak.size],fun i e p a b=>?_,?_,fun e he=>?_,by rw[fy];exact ak.bnodup⟩
       ·rcases gz i e a with⟨rfl,rfl⟩ | ⟨ar,a⟩
        ·rcases ca _ _ b with⟨_,rfl⟩ | ⟨hn,_⟩
         ·rfl
         ·exact absurd rfl hn
        ·rcases ca _ _ b with⟨he,_⟩ | ⟨_,b⟩
         ·exact absurd he ar
         ·exact ak.Jd i e p a b
       ·have:(es.set j (n,av)).map (·.1)=es.map (·.1):=by
          apply List.ext_getElem?
          intro i
          simp only[List.getElem?_map]
          by_cases e:j=i
          ·subst e;rw[List.getElem?_set_self mw,h5];rfl
          ·rw[List.getElem?_set_ne e]
        rw[this];exact ak.nodup
       ·have:e.born∈(en.modify j fun e=>{e with key:=.int .i64 n,val:=v}).toList.map (·.born):=List.mem_map.2 ⟨e,he,rfl⟩
        rw[fy]at this
        obtain⟨e2,tt,ix⟩:=List.mem_map.1 this
        rw[← ix];exact ak.born e2 tt)
       (by
         rw[h6];intro ho p hp
         rcases List.mem_or_eq_of_mem_set hp with hp | rfl
         ·exact hg ho p hp
         ·exact ve ho)
       (by
         rw[h6]
         intro i e p a b
         rcases gz i e a with⟨rfl,rfl⟩ | ⟨ar,a⟩
         ·rcases ca _ _ b with⟨_,rfl⟩ | ⟨hn,_⟩
          ·exact hv
          ·exact absurd rfl hn
         ·rcases ca _ _ b with⟨he,_⟩ | ⟨_,b⟩
          ·exact absurd he ar
          ·exact ag i e p a b)
     refine⟨_,_,_,?_,hk,rfl,key.1,key.2⟩
     rw[← ei]
     simp[Instr.mapUpdate,Dq hU,getObj,Sem.run,h2,hc,j3,na,e'k,Instr.keyThatStays,Instr.sameBits]
theorem Qw {W0:World} {C:Ctx} {w:World} (I:Inv W0 C w) {T T2 ty:TypeId} {x i:Value} {ax ai:Ac} {K:Ac→Eff→Prop} (hx:A4 C w x ax) (hi:A4 C w i ai)
    (h:H6 P T ax ai C.H K):Ka W0 C w ((Builtin.delete_ #[T,T2] ty #[x,i]).run P w) K:=by
  unfold H6 at h
  split at h
  ·rename_i e n r hT
   split at h
   ·rename_i es hr
    cases hi
    obtain⟨k,hU,fi⟩:=Io hT
    cases hx with
    | map b _ ab hh=>
      obtain⟨l,hl,rfl⟩:=hh _ hr rfl
      obtain⟨l',en,cl,h1,h2,ak,hg,ag⟩:=I.objs r _ hr
      rw[hl,bQ]at h1
      subst h1
      obtain⟨rr,hf,dg⟩:=Gg n en.toList es 0 (by simpa using ak.size) (fun j e p a b=>ak.Jd j e p (by simpa using a) b)
      have j3:=G1 (P:=P) (w:=w) (k:=k) (n:=n) fi hf
      have hc:=Gf (P:=P) (w:=w) (n:=n) fi en.isEmpty
      have ei:∀ en' cl',(setObj l.b (.map en' cl')).run P w= .ok () {w with heap:=w.heap.setIfInBounds l.b (.map en' cl')}:=by
        intro en' cl';simp[setObj,Sem.run,h2]
      have j9:alook es n=none→adel es n=es:=Vl
      rcases dg with⟨h3,rfl⟩ | ⟨j,e',v',h3,rfl,h4,h5,_,h7⟩
      ·have key:=Vx I (es':=adel es n) hr hl en cl (by rw[j9 h3];exact ak) (by rw[j9 h3];exact hg) (by rw[j9 h3];exact ag)
       refine⟨_,_,_,_,_,?_,.tuple #[] [] rfl (by simp),h,rfl,key.1,key.2⟩
       have:=ei en cl
       simp[Builtin.delete_,Dq hU,getObj,Sem.run,h2,hc,j3,this]
      ·have hj:j<en.size:=by have:=Bv h4;simpa using this
       have fh:(en.eraseIdxIfInBounds j).toList=en.toList.eraseIdx j:=by simp
       have p8:∀ (i:Nat) (e:MapEntry),(en.eraseIdxIfInBounds j)[i]? =some e→en.toList[if i<j then i else i+1]? =some e:=by
         intro i e h
         rw[← Array.getElem?_toList,fh,List.getElem?_eraseIdx]at h
         split<;>rename_i hi<;>simp only[hi,if_true,if_false]at h<;>exact h
       have vd:∀ (i:Nat) (p:Int×Ac),(es.eraseIdx j)[i]? =some p→es[if i<j then i else i+1]? =some p:=by
         intro i p h
         rw[List.getElem?_eraseIdx]at h
         split<;>rename_i hi<;>simp only[hi,if_true,if_false]at h<;>exact h
       have mw:j<es.length:=by rw[← ak.size];exact hj
       have key:=Vx I (es':=adel es n) hr hl (en.eraseIdxIfInBounds j) cl (by
         rw[h7]
         refine⟨?_,fun i e p a b=>ak.Jd _ e p (by simpa using p8 i e a) (vd i p b),?_,fun e he=>?_,?_⟩
         ·rw[← Array.length_toList,fh,List.length_eraseIdx_of_lt (by simpa using hj),List.length_eraseIdx_of_lt mw,Array.length_toList,ak.size]
         ·exact(List.Sublist.map _ (List.eraseIdx_sublist es j)).nodup ak.nodup
         ·rw[fh]at he
          exact ak.born e (List.mem_of_mem_eraseIdx he)
         ·rw[fh]
          exact(List.Sublist.map _ (List.eraseIdx_sublist en.toList j)).nodup ak.bnodup)
         (by rw[h7];exact fun p hp=>hg p (List.mem_of_mem_eraseIdx hp))
         (by rw[h7];exact fun i e p a b=>ag _ e p (by simpa using p8 i e a) (vd i p b))
       refine⟨_,_,_,_,_,?_,.tuple #[] [] rfl (by simp),h,rfl,key.1,key.2⟩
       have:=ei (en.eraseIdxIfInBounds j) cl
       simp[Builtin.delete_,Dq hU,getObj,Sem.run,h2,hc,j3,this]
   ·exact h.elim
  ·exact h.elim
theorem Rl {W0:World} {C:Ctx} {w:World} (I:Inv W0 C w) {id:Nat} (aq:F4 C.H id) {T:TypeId} {x:Value} {ax:Ac} {K:Ac→Eff→Prop} (hx:A4 C w x ax) (h:Q1 P T ax id K) :
    Ka W0 C w ((Instr.range T x).run P w) K:=by
  have fin:∀ (o:Obj) (left:List (Int×Ac)),(Cx C w (C.new id (.it left none) ⟨w.heap.size,0,0⟩) (w.alloc o)→J9 (C.new id (.it left none) ⟨w.heap.size,0,0⟩) (w.alloc o) id (.it left none))→
   K (.iter id) (.new id (.it left none))→Ka W0 C w (.ok (.pointer (some ⟨w.heap.size,0,none⟩)) (w.alloc o)) K:=by
    intro o left ho hk
    have key:=I.alloc id aq (.it left none) o 0 ho
    exact⟨_,.iter id,_,_,_,rfl,.iter _ _ (Ctx.G3 aq _ (by simp)) ⟨rfl,rfl⟩ fun l c _=>⟨_,Ctx.Hz _ _ _ _,rfl⟩,hk,rfl,key.1,key.2⟩
  have pj:∀ (k e:TypeId),P.underlying T=some (.map k e)→(Instr.range T (.map none)).run P w= .ok (.pointer (some ⟨w.heap.size,0,none⟩)) (w.alloc (.mapIter none 0 #[] 0)):=by
    intro k e hU;simp[Instr.range,Dq hU]
  unfold Q1 at h
  split at h
  ·rename_i e hT
   obtain⟨k,hU,_⟩:=Io hT
   cases hx
   rw[pj k e hU]
   exact fin _ _ (fun m=>⟨_,Ctx.Hz _ _ _ _,.inl ⟨rfl,rfl,_,_,_,Cj _ _⟩⟩) h
  ·rename_i e es hT
   obtain⟨k,hU,_⟩:=Io hT
   cases hx with
   | vmap0=>
     rw[pj k e hU]
     exact fin _ _ (fun m=>⟨_,Ctx.Hz _ _ _ _,.inl ⟨rfl,rfl,_,_,_,Cj _ _⟩⟩) h
   | vmap b _ en cl hA hg hh ak ag=>
     have hr:(Instr.range T (.map (some b))).run P w= .ok (.pointer (some ⟨w.heap.size,0,none⟩)) (w.alloc (.mapIter (some b) cl #[] cl)):=by
       simp[Instr.range,Dq hU,getObj,Sem.run,hh]
     rw[hr]
     have kq:en.toList.filter (fun e=>!(#[]:Array Nat).contains e.born)=en.toList:=List.filter_eq_self.2 fun x _=>by simp
     refine fin _ _ (fun m=>⟨_,Ctx.Hz _ _ _ _,.inr ⟨b,#[],en,cl,Cj _ _,hA,?_,ak.born,ak.bnodup,⟨by rw[kq];simpa using ak.size,fun i e p h1 h2=>?_⟩,by simp⟩⟩) h
     ·rw[(m.imm b hA).2];exact hh
     ·rw[kq]at h1
      have jd:en[i]? =some e:=by simpa using h1
      exact⟨ak.Jd i e p jd h2,hg p (bO h2),(ag i e p jd h2).mono m⟩
  ·exact h.elim
theorem La {L1 L2:List MapEntry} {e:MapEntry} (h:((L1++e::L2).map (·.born)).Nodup):(L1++e::L2).filter (fun x=>!(x.born ==e.born))=L1++L2:=by
  rw[List.map_append,List.map_cons,List.nodup_append]at h
  obtain⟨_,h2,h3⟩:=h
  rw[List.nodup_cons]at h2
  rw[List.filter_append,List.filter_cons_of_neg (by simp)]
  congr 1
  ·rw[List.filter_eq_self]
   intro x hx
   have:=h3 x.born (List.mem_map_of_mem hx) e.born (by simp)
   simpa using this
  ·rw[List.filter_eq_self]
   intro x hx
   have:x.born≠e.born:=fun he=>h2.1 (he ▸ List.mem_map_of_mem hx)
   simpa using this
theorem setIter {W0:World} {C:Ctx} {w:World} (I:Inv W0 C w) {r:Nat} {l0:List (Int×Ac)} {c0:Option (Int×Ac)} {l:Loc} (hr:C.H[r]? =some (.it l0 c0)) (hl:C.ρ r=some l) (o:Obj) (l1:List (Int×Ac)) (c1:Option (Int×Ac))
    (ho:Cx C w (C.set r (.it l1 c1)) {w with heap:=w.heap.setIfInBounds l.b o}→{w with heap:=w.heap.setIfInBounds l.b o}.heap[l.b]? =some o→(∀ b,b≠l.b→{w with heap:=w.heap.setIfInBounds l.b o}.heap[b]? =w.heap[b]?)→
      J9 (C.set r (.it l1 c1)) {w with heap:=w.heap.setIfInBounds l.b o} r (.it l1 c1)) :
    Inv W0 (C.set r (.it l1 c1)) {w with heap:=w.heap.setIfInBounds l.b o}∧Cx C w (C.set r (.it l1 c1)) {w with heap:=w.heap.setIfInBounds l.b o}:=by
  have hs:=I.sep r l hl
  have ar:∀ b,b≠l.b→(w.heap.setIfInBounds l.b o)[b]? =w.heap[b]?:=fun b hb=>Array.getElem?_setIfInBounds_ne (fun h=>hb h.symm)
  refine I.put hr hl ar (by simp) (Hj I.below hs.2.1 _) ?_ (fun m=>ho m ?_ ar)
  ·unfold Cd
   simp only[Ctx.set,List.getElem?_set_self hs.1]
   exact⟨⟨l0,c0,hr⟩,trivial⟩
  ·show(w.heap.setIfInBounds l.b _)[l.b]? =_
   rw[Array.getElem?_setIfInBounds_self,if_pos hs.2.2.1]
theorem Tf {W0:World} {C:Ctx} {w:World} (I:Inv W0 C w) {ty:TypeId} {x:Value} {ax:Ac} {st:Bool} {K:Ac→Eff→Prop} (hx:A4 C w x ax) (h:Uj ax st C.H K) :
    Ka W0 C w ((Instr.next x st ty).run P w) K:=by
  unfold Uj at h
  split at h
  ·rename_i r
   split at h
   ·rename_i left cur hr
    obtain⟨h1,h2⟩:=h
    cases hx with
    | iter a _ ab bh hh=>
      obtain⟨l,hl,hb⟩:=hh _ _ hr
      have ha:a=⟨l.b,0,none⟩:=by cases a;simp_all
      subst ha
      obtain⟨l',h3,h⟩:=I.objs r _ hr
      rw[hl,bQ]at h3
      subst h3
      have over:left=[]→(Instr.next (.pointer (some ⟨l.b,0,none⟩)) false ty).run P w= .ok (.tuple #[.bool false]) w→Ka W0 C w ((Instr.next (.pointer (some ⟨l.b,0,none⟩)) false ty).run P w) K:=by
        intro e aj
        refine⟨_,_,_,C,_,aj,.tuple _ [.bool false] rfl fun i u c g1 g2=>?_,h1 e,rfl,I,.refl _ _⟩
        match i,g1,g2 with
        | 0,g1,g2=>simp at g1 g2;subst g1 g2;exact .bool false
        | i+1,g1,g2=>simp at g2
      rcases h with⟨e1,_,s,n,k,h3⟩ | ⟨bm,seen,en,cl,h3,h4,h5,h6,h7,h8,h9⟩
      ·exact over e1 (by simp[Instr.next,getObj,Sem.run,h3])
      ·rcases run_next_at (P:=P) w ty l.b bm cl cl seen en cl h3 h5 (fun x hx=>h6 x hx) (Nat.le_refl _)with ⟨hz,aj⟩ | ⟨e,he,w1,ir,aj⟩
       ·refine over ?_ aj
        have:(leftOf en seen).toList.length=left.length:=by rw[← h8.1];simp[leftOf]
        exact List.eq_nil_of_length_eq_zero (by simpa[hz]using this.symm)
       ·have vh:e∈en.toList.filter (fun e=>!seen.contains e.born):=by simpa[leftOf]using he
        obtain⟨L1,L2,hL⟩:=List.append_of_mem vh
        have hlen:=h8.1
        rw[hL]at hlen
        have hj:L1.length<left.length:=by rw[← hlen];simp
        have mc:left=left.take L1.length++left[L1.length]::left.drop (L1.length+1):=by
          rw[List.getElem_cons_drop,List.take_append_drop]
        have qa:=h8.2 L1.length e left[L1.length] (by rw[hL];simp) (bN hj)
        have sj:((L1++e::L2).map (·.born)).Nodup:=by
          rw[← hL];exact(List.Sublist.map _ List.filter_sublist).nodup h7
        have kq:en.toList.filter (fun x=>!(seen.push e.born).contains x.born)=L1++L2:=by
          rw[← La sj,← hL,List.filter_filter]
          apply List.filter_congr
          intro x _
          simp only[Array.contains_push,Bool.not_or]
          rw[Bool.and_comm]
        have oz:w1.heap=w.heap:=by rcases ir with rfl | rfl<;>rfl
        have I1:=I.same (w':=w1) oz (by rcases ir with rfl | rfl;exact I.below;exact I.below.drew)
        have key:=setIter I1.1 hr hl (.mapIter (some bm) cl (seen.push e.born) cl) (left.take L1.length++left.drop (L1.length+1)) (some left[L1.length]) (fun m g1 g2=>by
          refine⟨l,hl,.inr ⟨bm,seen.push e.born,en,cl,g1,h4,?_,h6,h7,?_,fun p hp=>?_⟩⟩
          ·rw[g2 bm (fun eb=>(I.sep r l hl).2.2.2 (eb ▸ h4)),oz];exact h5
          ·rw[kq]
           refine⟨by simp at hlen ⊢;omega,fun i e' p' q1 q2=>?_⟩
           have ee:∀ i,(left.take L1.length++left.drop (L1.length+1))[i]? =left[if i<L1.length then i else i+1]?:=by
             intro i
             rw[List.getElem?_append]
             have sn:(left.take L1.length).length=L1.length:=by simp;omega
             rw[sn]
             split
             ·rw[List.getElem?_take,if_pos (by assumption)]
             ·rw[List.getElem?_drop];congr 1;omega
           have p7:∀ i,(L1++L2)[i]? =(L1++e::L2)[if i<L1.length then i else i+1]?:=by
             intro i
             rw[List.getElem?_append]
             split
             ·rw[List.getElem?_append_left (by assumption)]
             ·rw[List.getElem?_append_right (by omega),show i+1 - L1.length=(i - L1.length)+1 by omega];rfl
           rw[ee]at q2
           rw[p7,← hL]at q1
           have:=h8.2 _ e' p' q1 q2
           exact⟨this.1,this.2.1,(this.2.2.mono I1.2).mono m⟩
          ·simp only[bQ]at hp
           subst hp
           exact⟨e,(List.mem_filter.1 vh).1,by simp,qa.1,qa.2.1,(qa.2.2.mono I1.2).mono m⟩)
        have hk:=h2 _ _ _ mc
        refine⟨_,_,_,_,_,aj,.tuple _ [.bool true,.int .i64 left[L1.length].1,left[L1.length].2] rfl fun i u c g1 g2=>?_,hk,rfl,key.1,I1.2.trans key.2⟩
        match i,g1,g2 with
        | 0,g1,g2=>simp at g1 g2;subst g1 g2;exact .bool true
        | 1,g1,g2=>simp at g1 g2;subst g1 g2;rw[qa.1];exact .int _ _
        | 2,g1,g2=>simp at g1 g2;subst g1 g2;exact(qa.2.2.mono I1.2).mono key.2
        | i+3,g1,g2=>simp at g2
   ·exact h.elim
  ·exact h.elim
theorem R8 {W0:World} {C:Ctx} {w:World} (I:Inv W0 C w) {x:Value} {ax:Ac} {K:Ac→Prop} (hx:A4 C w x ax) (h:Q3 ax C.H K) :
    Quiet C w ((Instr.entry x).run P w) K:=by
  unfold Q3 at h
  split at h
  ·rename_i r
   split at h
   ·rename_i left p hr
    cases hx with
    | iter a _ ab bh hh=>
      obtain⟨l,hl,hb⟩:=hh _ _ hr
      have ha:a=⟨l.b,0,none⟩:=by cases a;simp_all
      subst ha
      obtain⟨l',h3,h'⟩:=I.objs r _ hr
      rw[hl,bQ]at h3
      subst h3
      rcases h' with⟨_,e1,_⟩ | ⟨bm,seen,en,cl,h3,h4,h5,h6,h7,h8,h9⟩
      ·cases e1
      ·obtain⟨e,g1,g2,g3,g4,g5⟩:=h9 p rfl
       have pc:∃ s0:Array Nat,seen=s0.push e.born:=by
         have ar:seen.size≠0:=fun h0=>by have:seen=#[]:=Array.eq_empty_of_size_eq_zero h0;subst this;simp at g2
         refine⟨seen.pop,?_⟩
         apply Array.ext'
         have hl:seen.toList≠[]:=fun h=>ar (by rw[← Array.length_toList,h];rfl)
         have hg:seen.toList.getLast? =some e.born:=by rw[← g2];simp[Array.back?,List.getLast?_eq_getElem?]
         have xu:seen.toList.getLast hl=e.born:=by rw[List.getLast?_eq_some_getLast hl]at hg;simpa using hg
         rw[Array.toList_push,Array.toList_pop,← xu,List.dropLast_concat_getLast hl]
       obtain⟨s0,rfl⟩:=pc
       refine .mk' (run_entry_at w l.b bm cl s0 en cl e h3 h5 g1 h7) (.tuple _ [.int .i64 p.1,p.2] rfl fun i u c q1 q2=>?_) h
       match i,q1,q2 with
       | 0,q1,q2=>simp at q1 q2;subst q1 q2;rw[g3];exact .int _ _
       | 1,q1,q2=>simp at q1 q2;subst q1 q2;exact g5
       | i+2,q1,q2=>simp at q2
   ·exact h.elim
  ·exact h.elim
end
variable {P:Program}
theorem S1 {s:Nat}:∀ {t:Nat},s<t→tri s+s<tri t
  | t+1,h=>by
    simp only[tri]
    by_cases e:s=t
    ·subst e;omega
    ·have:=S1 (s:=s) (t:=t) (by omega);omega
theorem Vs {a b:Int} (h:zz a=zz b):a=b:=by
  unfold zz at h
  split at h<;>split at h<;>omega
theorem Qk {a b c d:Int} (h:pk a b=pk c d):a=c∧b=d:=by
  unfold pk at h
  have h:tri (zz a+zz b)+zz b=tri (zz c+zz d)+zz d:=by omega
  rcases Nat.lt_trichotomy (zz a+zz b) (zz c+zz d)with h1 | h1 | h1
  ·have:=S1 h1;omega
  ·rw[h1]at h
   have h2:zz b=zz d:=by omega
   exact⟨Vs (by omega),Vs h2⟩
  ·have:=S1 h1;omega
theorem Kx.unique {u v:Value} {n:Int} (h:Kx true u n) (k:Kx true v n):u=v:=by
  obtain⟨a,b,rfl,h1⟩:=h
  obtain⟨c,d,rfl,h2⟩:=k
  obtain⟨rfl,rfl⟩:=Qk (h1.symm.trans h2)
  rfl
theorem P4 {T e:TypeId} (h:Th P T=some e):∃ k,P.underlying T=some (.map k e)∧Hh P k=some [(0,false),(1,false)]:=by
  unfold Th at h
  split at h
  ·split at h
   ·rename_i hk;simp only[bQ]at h;subst h;exact⟨_,by assumption,hk⟩
   ·cases h
  ·cases h
theorem Jz {k:TypeId} {offs:List (Nat×Bool)} (h:Hh P k=some offs):∃ fs,P.underlying k=some (.struct fs)∧P.stoodInHeld k=false∧(fs.toList.all (fun f=>f.name != "_"&&okT P f.type)=true)∧
    fs.toList.mapM (fun f=>match P.underlying f.type with | some (.int _)=>some (f.offset,false) | some .bool=>some (f.offset,true) | _=>none)=some offs:=by
  unfold Hh at h
  split at h
  ·rename_i fs hU
   split at h
   ·rename_i hc;exact⟨fs,hU,hc.2.1,hc.2.2,h⟩
   ·cases h
  ·cases h
theorem Rm {C:Ctx} {w:World} (a b:Int):∀ (i:Nat) (u:Value) (c:Ac),(#[Value.int .i64 a,.int .i64 b])[i]? =some u→[Ac.int .i64 a,.int .i64 b][i]? =some c→A4 C w u c:=by
  intro i u c h1 h2
  match i,h1,h2 with
  | 0,h1,h2=>simp at h1 h2;subst h1 h2;exact .int _ _
  | 1,h1,h2=>simp at h1 h2;subst h1 h2;exact .int _ _
  | i+2,h1,h2=>simp at h2
theorem Xp {w:World} {k:TypeId} (h:Hh P k=some [(0,false),(1,false)]) (a b c d:Int) :
    (Op.equal k (.agg #[.int .i64 a,.int .i64 b]) (.agg #[.int .i64 c,.int .i64 d])).run P w= .ok (decide (a=c)&&(decide (b=d)&&true)) w:=by
  obtain⟨fs,hU,c2,c3,c4⟩:=Jz h
  have qf:P.underlying k=some (.struct (P.fieldsOf k)):=by simp[Program.fieldsOf,hU]
  have mz:P.fieldsOf k=fs:=by simp[Program.fieldsOf,hU]
  have he:=run_equalIn_struct (P:=P) w 9999 k #[.int .i64 a,.int .i64 b] #[.int .i64 c,.int .i64 d] qf c2
  have hr:Cw [.int .i64 a,.int .i64 b] [.int .i64 c,.int .i64 d] [(0,false),(1,false)]=some (decide (a=c)&&(decide (b=d)&&true)):=by simp[Cw]
  rw[mz,I4 (C:=⟨fun _=>False,fun _=>False,fun _=>none,[]⟩) (Rm a b) rfl (Rm c d) rfl _ _ _ c3 c4 hr]at he
  exact he
theorem Xz {w:World} {k:TypeId} (h:Hh P k=some [(0,false),(1,false)]) {kv:Value} {n:Int} (p5:Kx true kv n) (l:List MapEntry) (es:List (Int×Ac)) (hl:l.length=es.length)
    (hk:∀ (j:Nat) (e:MapEntry) (p:Int×Ac),l[j]? =some e→es[j]? =some p→Kx true e.key p.1) :
    ∃ r,(Instr.findKey k kv l).run P w= .ok r w∧
      ((alook es n=none∧r=none)∨∃ j e v,alook es n=some v∧r=some (j,e.val)∧l[j]? =some e∧es[j]? =some (n,v)∧(∀ u,aset es n u=es.set j (n,u))∧adel es n=es.eraseIdx j):=by
  obtain⟨fs,hU,_⟩:=Jz h
  rw[run_findKey_eq w (by rw[hU])]
  have key:∀ (l:List MapEntry) (es:List (Int×Ac)) (i:Nat),l.length=es.length→(∀ (j:Nat) (e:MapEntry) (p:Int×Ac),l[j]? =some e→es[j]? =some p→Kx true e.key p.1)→
   ∃ r,(Instr.findAsking k kv l i).run P w= .ok r w∧
   ((alook es n=none∧r=none)∨∃ j e v,alook es n=some v∧r=some (i+j,e.val)∧l[j]? =some e∧es[j]? =some (n,v)∧(∀ u,aset es n u=es.set j (n,u))∧adel es n=es.eraseIdx j):=by
    intro l
    induction l with
    | nil=>
      intro es i hl _
      match es,hl with
      | [],_=>exact ⟨none,rfl,.inl ⟨rfl,rfl⟩⟩
      | _::_,hl=>simp at hl
    | cons e l ih=>
      intro es i hl hk
      match es,hl,hk with
      | [],hl,_=>simp at hl
      | (m,v)::es,hl,hk=>
        have h0:=hk 0 e (m,v) rfl rfl
        obtain⟨c,d,h1,h2⟩:=h0
        obtain⟨a,b,h3,h4⟩:=p5
        simp only at h2
        have heq:=Xp (w:=w) h a b c d
        rw[Instr.findAsking,h1,h3]
        simp only[Sem.run_bind,heq,Result.andThen_ok]
        by_cases ns:m=n
        ·subst ns
         obtain⟨e1,e2⟩:=Qk (h4.symm.trans h2)
         subst e1 e2
         refine⟨some (i,e.val),by simp,.inr ⟨0,e,v,by simp[alook],by simp,rfl,rfl,fun u=>by simp[aset],by simp[adel]⟩⟩
        ·have ar:(decide (a=c)&&(decide (b=d)&&true))=false:=by
           by_cases e1:a=c<;>by_cases e2:b=d<;>simp[e1,e2]
           exact ns (by rw[h2,h4,e1,e2])
         obtain⟨r,h5,h6⟩:=ih es (i+1) (by simpa using hl) (fun j e p a b=>hk (j+1) e p a b)
         rw[ar,← h3]
         refine⟨r,by simpa using h5,?_⟩
         rcases h6 with⟨h6,h7⟩ | ⟨j,e',v',h6,h7,h8,h9,ig,gh⟩
         ·exact .inl ⟨by simp[alook,ns,h6],h7⟩
         ·exact .inr ⟨j+1,e',v',by simp[alook,ns,h6],by rw[h7];congr 2;omega,h8,h9,fun u=>by simp[aset,ns,ig],by simp[adel,ns,gh]⟩
  obtain⟨r,h1,h2⟩:=key l es 0 hl hk
  simp only[Nat.zero_add]at h2
  exact⟨r,h1,h2⟩
theorem O2 {w:World} {k:TypeId} (h:Hh P k=some [(0,false),(1,false)]) (em:Bool) (a b:Int):(Instr.checkKey em 10000 k (.agg #[.int .i64 a,.int .i64 b])).run P w= .ok () w:=by
  obtain⟨fs,hU,_,c3,c4⟩:=Jz h
  unfold Instr.checkKey
  simp only[Sem.run_bind,Dq hU,Result.andThen_ok]
  rw[← Array.forIn_toList]
  have jv:∀ p∈[((0:Nat),false),(1,false)],p.1<2∧p.2=false:=by simp
  revert c3 c4 jv
  generalize [((0:Nat),false),(1,false)]=offs
  generalize fs.toList=l
  clear hU h
  intro c3 c4 jv
  induction l generalizing offs with
  | nil=>simp
  | cons f l ih=>
    simp only[List.all_cons,Bool.and_eq_true]at c3
    obtain⟨⟨hn,fg⟩,c3⟩:=c3
    have gy:f.name≠ "_":=by simpa using hn
    simp only[List.mapM_cons,Option.bind_eq_bind,Option.pure_def]at c4
    cases dr:l.mapM (fun f=>match P.underlying f.type with | some (.int _)=>some (f.offset,false) | some .bool=>some (f.offset,true) | _=>(none:Option (Nat×Bool)))with
    | none=>rw[dr]at c4;split at c4<;>simp at c4
    | some os=>
      rw[dr]at c4
      split at c4
      ·rename_i k' hU
       simp only[bP,bQ]at c4
       subst c4
       have h0:=(jv (f.offset,false) (by simp)).1
       have ih:=ih os c3 dr fun p hp=>jv p (List.mem_cons_of_mem _ hp)
       have ct:Et P f.type=false:=by simp[Et,hU]
       obtain⟨v,hv,xl⟩:∃ v,(#[Value.int .i64 a,.int .i64 b])[f.offset]? =some v∧∃ x,v= .int .i64 x:=by
         match hf:f.offset,h0 with
         | 0,_=>exact ⟨_,rfl,_,rfl⟩
         | 1,_=>exact ⟨_,rfl,_,rfl⟩
         | m+2,h0=>exact absurd h0 (by omega)
       obtain⟨x,rfl⟩:=xl
       simp only[List.forIn_cons,Sem.run_bind,gy,ne_eq,not_false_eq_true,if_true,E6 fg ct hv,Result.andThen_ok]
       have hc:(Instr.checkKey em 9999 f.type (.int .i64 x)).run P w= .ok () w:=by unfold Instr.checkKey;simp[Dq hU]
       simpa[hc]using ih
      ·rename_i hU
       simp only[bP,bQ]at c4
       subst c4
       have:=(jv (f.offset,true) (by simp)).2
       cases this
      ·simp at c4
theorem Xy {C:Ctx} {w:World} {v:Value} {a b:Int} (h:A4 C w v (.agg [.int .i64 a,.int .i64 b])):v= .agg #[.int .i64 a,.int .i64 b]:=by
  cases h with
  | agg arr _ hs hc=>
    obtain⟨l⟩:=arr
    match l,hs,hc with
    | [x,y],_,hc=>
      have h0:=hc 0 x _ rfl rfl
      have h1:=hc 1 y _ rfl rfl
      cases h0;cases h1;rfl
theorem T7 {W0:World} {C:Ctx} {w:World} (I:Inv W0 C w) {r:Nat} {es es':List (Int×Ac)} {l:Loc} (hr:C.H[r]? =some (.mpo true es)) (hl:C.ρ r=some l) (en':Array MapEntry) (cl':Nat)
    (ak:F7 true en' cl' es') (ag:∀ (i:Nat) (e:MapEntry) (p:Int×Ac),en'[i]? =some e→es'[i]? =some p→A4 C w e.val p.2) :
    Inv W0 (C.set r (.mpo true es')) {w with heap:=w.heap.setIfInBounds l.b (.map en' cl')}∧Cx C w (C.set r (.mpo true es')) {w with heap:=w.heap.setIfInBounds l.b (.map en' cl')}:=by
  have hs:=I.sep r l hl
  refine I.put hr hl (fun b hb=>?_) (by simp) (Hj I.below hs.2.1 _) ?_ (fun m=>⟨l,en',cl',hl,?_,ak,fun i e p a b=>(ag i e p a b).mono m⟩)
  ·show(w.heap.setIfInBounds l.b _)[b]? =_
   rw[Array.getElem?_setIfInBounds_ne (fun h=>hb h.symm)]
  ·unfold Cd
   simp only[Ctx.set,List.getElem?_set_self hs.1]
   exact⟨⟨_,hr,rfl⟩,trivial⟩
  ·show(w.heap.setIfInBounds l.b _)[l.b]? =_
   rw[Array.getElem?_setIfInBounds_self,if_pos hs.2.2.1]
theorem Qp {W0:World} {C:Ctx} {w:World} (I:Inv W0 C w) {T:TypeId} {x i v:Value} {r:Nat} {a0 b0:Int} {e:TypeId} {av:Ac} {K:Ac→Eff→Prop} {es:List (Int×Ac)} (hx:A4 C w x (.map r)) (hi:A4 C w i (.agg [.int .i64 a0,.int .i64 b0])) (hv:A4 C w v av)
    (hT:Th P T=some e) (hr:C.H[r]? =some (.mpo true es)) (hk:K (.tuple []) (.set r (.mpo true (aset es (pk a0 b0) av)))):Did W0 C w ((Instr.mapUpdate T x i v).run P w) K:=by
  obtain rfl:=Xy hi
  generalize p5:Value.agg #[.int .i64 a0,.int .i64 b0]=kv
  generalize hn:pk a0 b0=n at hk
  have qu:Kx true kv n:=⟨a0,b0,p5.symm,hn.symm⟩
  obtain⟨k,hU,fi⟩:=P4 hT
  cases hx with
  | map b _ ab hh=>
    obtain⟨l,hl,rfl⟩:=hh _ hr rfl
    obtain⟨l',en,cl,h1,h2,ak,ag⟩:=I.objs r _ hr
    rw[hl,bQ]at h1
    subst h1
    obtain⟨rr,j3,dg⟩:=Xz (P:=P) (w:=w) fi qu en.toList es (by simpa using ak.size) (fun j e p a b=>ak.keys j e p (by simpa using a) b)
    have hc:(Instr.checkKey false 10000 k kv).run P w= .ok () w:=by subst p5;exact O2 fi false a0 b0
    have ei:∀ en' cl',(setObj l.b (.map en' cl')).run P w= .ok () {w with heap:=w.heap.setIfInBounds l.b (.map en' cl')}:=by
      intro en' cl';simp[setObj,Sem.run,h2]
    rcases dg with⟨h3,rfl⟩ | ⟨j,e',v',h3,rfl,h4,h5,h6,_⟩
    ·have key:=T7 I (es':=aset es n av) hr hl (en.push {key:=kv,val:=v,born:=cl}) (cl+1) (by
       rw[Ir h3]
       refine⟨by simp[ak.size],fun i e p a b=>?_,?_,fun e he=>?_,?_⟩
       ·by_cases hi:i<es.length
        ·rw[List.getElem?_append_left hi]at b
         rw[Array.getElem?_push_lt (by rw[ak.size];exact hi)]at a
         refine ak.keys i e p ?_ b
         rw[Array.getElem?_eq_getElem (by rw[ak.size];exact hi)];exact a
        ·have bp:i=es.length:=by have:=Bv b;simp at this;omega
         subst bp
         simp only[List.getElem?_concat_length,bQ]at b
         rw[← ak.size,Array.getElem?_push_size,bQ]at a
         subst a b;exact qu
       ·rw[List.map_append,List.map_cons,List.map_nil]
        refine List.nodup_append.2 ⟨ak.nodup,by simp,fun a ha b hb=>?_⟩
        simp at hb;subst hb
        exact fun e=>Jf h3 (e ▸ ha)
       ·simp only[Array.toList_push,bU,List.mem_singleton]at he
        rcases he with he | rfl
        ·have:=ak.born e he;omega
        ·exact Nat.lt_succ_self _
       ·rw[Array.toList_push,List.map_append,List.map_cons,List.map_nil]
        refine List.nodup_append.2 ⟨ak.bnodup,by simp,fun a ha b hb=>?_⟩
        simp only[List.mem_singleton]at hb;subst hb
        obtain⟨e,he,rfl⟩:=List.mem_map.1 ha
        have:=ak.born e he
        omega)
       (by
         rw[Ir h3]
         intro i e p a b
         by_cases hi:i<es.length
         ·rw[List.getElem?_append_left hi]at b
          rw[Array.getElem?_push_lt (by rw[ak.size];exact hi)]at a
          refine ag i e p ?_ b
          rw[Array.getElem?_eq_getElem (by rw[ak.size];exact hi)];exact a
         ·have bp:i=es.length:=by have:=Bv b;simp at this;omega
          subst bp
          simp only[List.getElem?_concat_length,bQ]at b
          rw[← ak.size,Array.getElem?_push_size,bQ]at a
          subst a b;exact hv)
     refine⟨_,_,_,?_,hk,rfl,key.1,key.2⟩
     rw[← ei]
     simp[Instr.mapUpdate,Dq hU,getObj,Sem.run,h2,hc,j3]
    ·have hj:j<en.size:=by have:=Bv h4;simpa using this
     have mw:j<es.length:=by rw[← ak.size];exact hj
     have e'k:e'.key=kv:=Kx.unique (ak.keys j e' _ (by simpa using h4) h5) qu
     have na:en[j]? =some e':=by simpa using h4
     have pd:Instr.sameBits 10000 kv kv=true:=by subst p5;simp[Instr.sameBits]
     have gz:∀ (i:Nat) (e:MapEntry),(en.modify j fun e=>{e with key:=kv,val:=v})[i]? =some e→(i=j∧e={e' with key:=kv,val:=v})∨(i≠j∧en[i]? =some e):=by
       intro i e h
       rw[Array.getElem?_modify]at h
       split at h
       ·rename_i kp
        subst kp
        rw[na]at h
        simp only[Option.map_some,bQ]at h
        exact .inl ⟨rfl,h.symm⟩
       ·rename_i kp
        exact .inr ⟨fun h=>kp h.symm,h⟩
     have fy:(en.modify j fun e=>{e with key:=kv,val:=v}).toList.map (·.born)=en.toList.map (·.born):=by
       apply List.ext_getElem?
       intro i
       simp only[List.getElem?_map,Array.getElem?_toList,Array.getElem?_modify]
       split
       ·rename_i h;subst h;rw[na];rfl
       ·rfl
     have ca:∀ (i:Nat) (p:Int×Ac),(es.set j (n,av))[i]? =some p→(i=j∧p=(n,av))∨(i≠j∧es[i]? =some p):=by
       intro i p h
       by_cases e:j=i
       ·subst e;rw[List.getElem?_set_self mw,bQ]at h;exact .inl ⟨rfl,h.symm⟩
       ·rw[List.getElem?_set_ne e]at h;exact .inr ⟨fun h=>e h.symm,h⟩
     have key:=T7 I (es':=aset es n av) hr hl (en.modify j fun e=>{e with key:=kv,val:=v}) cl (by
       rw[h6]
       refine⟨by simp[ak.size],fun i e p a b=>?_,?_,fun e he=>?_,by rw[fy];exact ak.bnodup⟩
       ·rcases gz i e a with⟨rfl,rfl⟩ | ⟨ar,a⟩
        ·rcases ca _ _ b with⟨_,rfl⟩ | ⟨hn,_⟩
         ·exact qu
         ·exact absurd rfl hn
        ·rcases ca _ _ b with⟨he,_⟩ | ⟨_,b⟩
         ·exact absurd he ar
         ·exact ak.keys i e p a b
       ·have:(es.set j (n,av)).map (·.1)=es.map (·.1):=by
          apply List.ext_getElem?
          intro i
          simp only[List.getElem?_map]
          by_cases e:j=i
          ·subst e;rw[List.getElem?_set_self mw,h5];rfl
          ·rw[List.getElem?_set_ne e]
        rw[this];exact ak.nodup
       ·have:e.born∈(en.modify j fun e=>{e with key:=kv,val:=v}).toList.map (·.born):=List.mem_map.2 ⟨e,he,rfl⟩
        rw[fy]at this
        obtain⟨e2,tt,ix⟩:=List.mem_map.1 this
        rw[← ix];exact ak.born e2 tt)
       (by
         rw[h6]
         intro i e p a b
         rcases gz i e a with⟨rfl,rfl⟩ | ⟨ar,a⟩
         ·rcases ca _ _ b with⟨_,rfl⟩ | ⟨hn,_⟩
          ·exact hv
          ·exact absurd rfl hn
         ·rcases ca _ _ b with⟨he,_⟩ | ⟨_,b⟩
          ·exact absurd he ar
          ·exact ag i e p a b)
     refine⟨_,_,_,?_,hk,rfl,key.1,key.2⟩
     rw[← ei]
     simp[Instr.mapUpdate,Dq hU,getObj,Sem.run,h2,hc,j3,na,e'k,Instr.keyThatStays,pd]
theorem Jc {W0:World} {C:Ctx} {w:World} (I:Inv W0 C w) {T:TypeId} {x i v:Value} {ax ai av:Ac} {K:Ac→Eff→Prop} (hx:A4 C w x ax) (hi:A4 C w i ai) (hv:A4 C w v av)
    (h:Dm P T ax ai av C.H K):Did W0 C w ((Instr.mapUpdate T x i v).run P w) K:=by
  unfold Dm at h
  split at h
  ·split at h
   ·rename_i hT hr
    exact Nf I false hx hi hv hT hr (fun _=>h.1) h.2
   ·rename_i hT hr
    exact Nf I true hx hi hv hT hr (fun h=>by cases h) h
   ·exact h.elim
  ·split at h
   ·rename_i hT hr
    exact Qp I hx hi hv hT hr h
   ·exact h.elim
  ·exact h.elim
def Tw (x y:Ac) (K:Ac→Prop):Prop:=
  match x,y with
  | .int k a,.int k' b=>k=k'∧K (.int k (if b<a then b else a))
  | _,_=>False
def Tx (x y:Ac) (K:Ac→Prop):Prop:=
  match x,y with
  | .int k a,.int k' b=>k=k'∧K (.int k (if a<b then b else a))
  | _,_=>False
def D2 (K:Ac→Eff→Prop) (v:Ac):Prop:=K v .none
def Dl (P:Program) (b:Builtin) (args:List Ac) (tys:List TypeId) (H:List Ap) (id:Nat) (K:Ac→Eff→Prop):Prop:=
  match b,args,tys with
  | .len,[x],[T]=>Q2 P T x H (D2 K)
  | .append,[s,x],[T,T2]=>T=T2∧H7 P T s x H id K
  | .delete,[m,k],[T,_]=>H6 P T m k H K
  | .min,[x,y],_=>Tw x y (D2 K)
  | .max,[x,y],_=>Tx x y (D2 K)
  | _,_,_=>False
def Eo (e:Operand→Ac):List (Nat×Operand)→List (Nat×Ac)
  | []=>[]
  | p::r=>(p.1,e p.2)::Eo e r
theorem Py (e:Operand→Ac):∀ l:List (Nat×Operand),Eo e l=l.map fun p=>(p.1,e p.2)
  | []=>rfl
  | p::r=>by rw[Eo,Py e r];rfl
def astep (P:Program) (op:Op) (e:Operand→Ac) (H:List Ap) (id:Nat) (K:Ac→Eff→Prop):Prop:=
  match op with
  | .move x=>K (e x) .none
  | .assign x=>K (e x) .none
  | .pick c a b=>O5 (e c) (e a) (e b) (D2 K)
  | .binOp o T x y _=>Sx P o T (e x) (e y) (D2 K)
  | .unOp o _ x=>aUn o (e x) (D2 K)
  | .convert s d x=>Np P s d (e x) (D2 K)
  | .alloc T=>T0 P T id K
  | .box _ x=>Vq (e x) id K
  | .build T parts=>Lk P T (Eo e parts.toList) (D2 K)
  | .buildSlice T n parts=>n≤9223372036854775807∧Fh P T n (Eo e parts.toList) id K
  | .load T a=>J6 P T (e a) H (D2 K)
  | .store T a x=>J3 P T (e a) (e x) H K
  | .fieldAddr T x f=>Eu P T (e x) f (D2 K)
  | .field T x f=>Li P T (e x) f (D2 K)
  | .indexAddr T x i=>D8 P T (e x) (e i) H (D2 K)
  | .extract t i=>match e t with
    | .tuple vs=>i<vs.length∧K (vs.getD i .any) .none
    | _=>False
  | .slice T x lo hi mx=>Gy P T (e x) (lo.map e) (hi.map e) (mx.map e) H (D2 K)
  | .makeSlice T l c=>Ge P T (e l) (e c) id K
  | .makeMap _ none=>O6 id K
  | .lookup T x i ok=>G2 P T (e x) (e i) ok H (D2 K)
  | .mapUpdate T m k x=>Dm P T (e m) (e k) (e x) H K
  | .insert T m k x=>Dm P T (e m) (e k) (e x) H K
  | .range T x=>Q1 P T (e x) id K
  | .next i s=>Uj (e i) s H K
  | .entry i=>Q3 (e i) H (D2 K)
  | .makeFunc (.func f) first caps=>first=#[]∧K (.func f (caps.toList.map e)) .none
  | .call c=>match c.callee with
    | .builtin b=>Dl P b (c.args.toList.map e) c.argTypes.toList H id K
    | _=>False
  | _=>False
structure Ie (W0:World) (C:Ctx) (w:World) (r:Result Next) (K:Ac→Eff→Prop):Prop where
  ex:∃ a w' C' ef,((∃ v,r= .ok (.value v) w'∧A4 C' w' v a)∨(r= .ok .skip w'∧a= .tuple []))∧K a ef∧C'.H=ef.app C.H∧Inv W0 C' w'∧Cx C w C' w'
section
variable {P:Program}
theorem Ie.Dj {W0:World} {C:Ctx} {w:World} (I:Inv W0 C w) {s:Sem Value} {K:Ac→Eff→Prop} (h:Quiet C w (s.run P w) fun a=>K a .none) :
    Ie W0 C w ((do pure (Next.value (← s)):Sem Next).run P w) K:=by
  obtain⟨v,a,h1,h2,h3⟩:=h.ex
  exact⟨a,w,C,.none,.inl ⟨v,by simp[h1],h2⟩,h3,rfl,I,.refl _ _⟩
theorem Ie.Iw {W0:World} {C:Ctx} {w:World} {s:Sem Value} {K:Ac→Eff→Prop} (h:Ka W0 C w (s.run P w) K) :
    Ie W0 C w ((do pure (Next.value (← s)):Sem Next).run P w) K:=by
  obtain⟨v,a,w',C',ef,h1,h2,h3,h4,h5,h6⟩:=h.ex
  exact⟨a,w',C',ef,.inl ⟨v,by simp[h1],h2⟩,h3,h4,h5,h6⟩
theorem Ie.V3 {W0:World} {C:Ctx} {w:World} {s:Sem Unit} {K:Ac→Eff→Prop} (h:Did W0 C w (s.run P w) K) :
    Ie W0 C w ((do s;pure Next.skip:Sem Next).run P w) K:=by
  obtain⟨w',C',ef,h1,h2,h3,h4,h5⟩:=h.ex
  exact⟨.tuple [],w',C',ef,.inr ⟨by simp[h1],rfl⟩,h2,h3,h4,h5⟩
theorem Ua {C:Ctx} {w:World} {ρ:Operand→Value} {e:Operand→Ac} (he:∀ x,A4 C w (ρ x) (e x)) (parts:Array (Nat×Operand)) :
    (parts.map fun(i,x)=>(i,ρ x)).toList.length=(Eo e parts.toList).length∧
    ∀ (i:Nat) p q,(parts.map fun(i,x)=>(i,ρ x)).toList[i]? =some p→(Eo e parts.toList)[i]? =some q→p.1=q.1∧A4 C w p.2 q.2:=by
  rw[Py];refine⟨by simp,fun i p q h1 h2=>?_⟩
  simp only[Array.toList_map,List.getElem?_map,Array.getElem?_toList]at h1 h2
  cases hx:parts[i]? with
  | none=>simp[hx]at h1
  | some y=>
    simp only[hx,Option.map_some,bQ]at h1 h2
    subst h1 h2
    exact⟨rfl,he _⟩
theorem Kc {C:Ctx} {w:World} {ρ:Operand→Value} {e:Operand→Ac} (he:∀ x,A4 C w (ρ x) (e x)) (o:Option Operand) :
    (∀ v a,o.map ρ=some v→o.map e=some a→A4 C w v a)∧(o.map ρ).isSome=(o.map e).isSome:=by
  cases o with
  | none=>simp
  | some x=>
    refine⟨fun v a h1 h2=>?_,rfl⟩
    simp only[Option.map_some,bQ]at h1 h2
    subst h1 h2;exact he x
theorem Xv {α β:Type} {e:α→β} {args:Array α} {x:β} (h:args.toList.map e=[x]):∃ xo,args=#[xo]∧e xo=x:=by
  match hl:args.toList,h with
  | [xo],h=>exact ⟨xo,Array.ext' hl,by simpa using h⟩
theorem N4 {α β:Type} {e:α→β} {args:Array α} {x y:β} (h:args.toList.map e=[x,y]):∃ so xo,args=#[so,xo]∧e so=x∧e xo=y:=by
  match hl:args.toList,h with
  | [so,xo],h=>exact ⟨so,xo,Array.ext' hl,by simpa using h⟩
theorem Nk {W0:World} {C:Ctx} {w:World} (I:Inv W0 C w) {id:Nat} (aq:F4 C.H id) {o:Oper} {ρ:Operand→Value} {e:Operand→Ac} (he:∀ x,A4 C w (ρ x) (e x)) {K:Ac→Eff→Prop}
    (h:astep P o.op e C.H id K):Ie W0 C w ((execOp ρ o).run P w) K:=by
  unfold astep at h
  unfold execOp
  split at h
  case h_1 x ho=>simp only[ho];exact⟨_,w,C,.none,.inl ⟨_,rfl,he x⟩,h,rfl,I,.refl _ _⟩
  case h_2 x ho=>simp only[ho];exact⟨_,w,C,.none,.inl ⟨_,rfl,he x⟩,h,rfl,I,.refl _ _⟩
  case h_3 c a b ho=>
    simp only[ho]
    have hc:=he c
    have ha:=he a
    have hb:=he b
    unfold O5 at h
    split at h
    ·rename_i cv xz
     rw[xz]at hc
     cases gb:ρ c<;>rw[gb]at hc<;>cases hc
     simp only[asBool,Sem.run_bind,Sem.run_pure,Result.andThen_ok]
     split at h
     ·rename_i x y hx hy
      rw[hx]at ha;rw[hy]at hb
      cases yc:ρ a<;>rw[yc]at ha<;>cases ha
      cases c8:ρ b<;>rw[c8]at hb<;>cases hb
      refine⟨_,w,C,.none,.inl ⟨_,rfl,?_⟩,h,rfl,I,.refl _ _⟩
      cases cv<;>exact .bool _
     ·cases cv with
      | true=>exact ⟨_,w,C,.none,.inl ⟨_,rfl,by simpa using ha⟩,h.1 rfl,rfl,I,.refl _ _⟩
      | false=>exact ⟨_,w,C,.none,.inl ⟨_,rfl,by simpa using hb⟩,h.2 rfl,rfl,I,.refl _ _⟩
    ·exact h.elim
  case h_4 op T x y yT ho=>simp only[ho];exact .Dj I (Vb (he x) (he y) h)
  case h_5 op T x ho=>simp only[ho];exact .Dj I (Vt (he x) h)
  case h_6 s d x ho=>simp only[ho];exact .Dj I (Tl (he x) h)
  case h_7 T ho=>simp only[ho];exact .Iw (Sk I aq h)
  case h_8 T x ho=>simp only[ho];exact .Iw (U9 I aq (he x) h)
  case h_9 T parts ho=>
    simp only[ho]
    have:=Ua he parts
    exact .Dj I (Si this.1 this.2 h)
  case h_10 T n parts ho=>
    simp only[ho]
    have:=Ua he parts
    exact .Iw (M3 I aq this.1 this.2 (by have:=Ff;have:=h.1;omega) h.2)
  case h_11 T a ho=>simp only[ho];exact .Dj I (Ol I (he a) h)
  case h_12 T a x ho=>simp only[ho];exact .V3 (Q9 I (he a) (he x) h)
  case h_13 T x f ho=>simp only[ho];exact .Dj I (Ny (he x) h)
  case h_14 T x f ho=>simp only[ho];exact .Dj I (R4 (he x) h)
  case h_15 T x i ho=>simp only[ho];exact .Dj I (Nx (he x) (he i) h)
  case h_16 t i ho=>
    simp only[ho]
    split at h
    ·rename_i vs cy
     have:=he t
     rw[cy]at this
     exact .Dj I (Pl this h.1 h.2)
    ·exact h.elim
  case h_17 T x lo hi mx ho=>
    simp only[ho]
    exact .Dj I (Rc (he x) (Kc he lo).1 (Kc he lo).2 (Kc he hi).1 (Kc he hi).2 (Kc he mx).1 (Kc he mx).2 h)
  case h_18 T l c ho=>simp only[ho];exact .Iw (Nu I aq (he l) (he c) h)
  case h_19 T ho=>simp only[ho];exact .Iw (Pf I aq h)
  case h_20 T x i ok ho=>simp only[ho];exact .Dj I (Qq I (he x) (he i) h)
  case h_21 T m k x ho=>simp only[ho];exact .V3 (Jc I (he m) (he k) (he x) h)
  case h_22 T m k x ho=>simp only[ho];exact .V3 (Jc I (he m) (he k) (he x) h)
  case h_23 T x ho=>simp only[ho];exact .Iw (Rl I aq (he x) h)
  case h_24 i s ho=>simp only[ho];exact .Iw (Tf I (he i) h)
  case h_25 i ho=>simp only[ho];exact .Dj I (R8 I (he i) h)
  case h_26 f first caps ho=>
    obtain⟨h1,h⟩:=h
    simp only[ho,h1,List.map_toArray,List.map_nil]
    refine⟨_,w,C,.none,.inl ⟨_,rfl,?_⟩,h,rfl,I,.refl _ _⟩
    refine .func f (caps.map ρ) (caps.toList.map e) (by simp) fun i u c h1 h2=>?_
    simp only[Array.getElem?_map,List.getElem?_map,Array.getElem?_toList]at h1 h2
    cases hx:caps[i]? with
    | none=>simp[hx]at h1
    | some y=>
      simp only[hx,Option.map_some,bQ]at h1 h2
      subst h1 h2;exact he y
  case h_27 c ho=>
    rw[ho]
    dsimp only
    split at h
    ·rename_i b hb
     simp only[resolve,hb,Sem.run_bind,Sem.run_pure,Result.andThen_ok,invoke]
     unfold Dl at h
     split at h
     ·rename_i x T dh js
      have ha:=Xv dh
      have ht:c.argTypes=#[T]:=Array.ext' js
      obtain⟨xo,ha,rfl⟩:=ha
      simp only[ha,ht,List.map_toArray,List.map_cons,List.map_nil,builtin]
      exact .Dj I (Ux I (he xo) h)
     ·rename_i s x T T2 dh js
      have ha:=N4 dh
      have ht:c.argTypes=#[T,T2]:=Array.ext' js
      obtain⟨so,xo,ha,rfl,rfl⟩:=ha
      obtain⟨rfl,h⟩:=h
      simp only[ha,ht,List.map_toArray,List.map_cons,List.map_nil,builtin]
      exact .Iw (Qz I aq (he so) (he xo) h)
     ·rename_i m k T T2 dh js
      have ha:=N4 dh
      have ht:c.argTypes=#[T,T2]:=Array.ext' js
      obtain⟨so,xo,ha,rfl,rfl⟩:=ha
      simp only[ha,ht,List.map_toArray,List.map_cons,List.map_nil,builtin]
      exact .Iw (Qw I (he so) (he xo) h)
     ·rename_i x y tys dh
      have ha:=N4 dh
      obtain⟨so,xo,ha,rfl,rfl⟩:=ha
      simp only[ha,List.map_toArray,List.map_cons,List.map_nil,builtin]
      refine .Dj I ?_
      have h1:=he so
      have h2:=he xo
      unfold Tw at h
      split at h
      ·rename_i k1 a k2 b e1 e2
       obtain⟨rfl,h⟩:=h
       rw[e1]at h1;rw[e2]at h2
       cases jd:ρ so<;>rw[jd]at h1<;>cases h1
       cases nj:ρ xo<;>rw[nj]at h2<;>cases h2
       exact .mk' (by simp[Builtin.min_,Builtin.min2]) (.int _ _) h
      ·exact h.elim
     ·rename_i x y tys dh
      have ha:=N4 dh
      obtain⟨so,xo,ha,rfl,rfl⟩:=ha
      simp only[ha,List.map_toArray,List.map_cons,List.map_nil,builtin]
      refine .Dj I ?_
      have h1:=he so
      have h2:=he xo
      unfold Tx at h
      split at h
      ·rename_i k1 a k2 b e1 e2
       obtain⟨rfl,h⟩:=h
       rw[e1]at h1;rw[e2]at h2
       cases jd:ρ so<;>rw[jd]at h1<;>cases h1
       cases nj:ρ xo<;>rw[nj]at h2<;>cases h2
       exact .mk' (by simp[Builtin.max_,Builtin.max2]) (.int _ _) h
      ·exact h.elim
     ·exact h.elim
    ·exact h.elim
  case h_28=>exact h.elim
end
def fence (md:Option Nat):Fence:={Fence.wide with round:=md}
theorem Jy {md:Option Nat} {n:Nat} {P:Program} {f:FuncId} {args:Array Value} {w:World} {R:Ending→World→Prop} (h:Calls P f args w R):CallsIn (fence md) n P f args w R:=
  show CallsIn Fence.wide n P f args w R from callsIn_wide.2 h
theorem H3 {md:Option Nat} {n:Nat}:(fence md).depth.isSome=true→1≤n:=fun h=>by simp[fence,Fence.wide]at h
theorem R6 {md:Option Nat} {n:Nat} {P:Program} {l:Nat} {f:FuncId} {tmps:Array Value} {assign body:Code} {w:World} {R:Ending→World→Prop} (h:RoundIn Fence.wide n P l f tmps assign body w R):RoundIn (fence md) n P l f tmps assign body w R:=h
def Cr (C:Ctx) (w:World) (outs:List (Array Value)) (outer:List Fr):Prop:=
  outs.length=outer.length∧∀ (i:Nat) (t:Array Value) (f:Fr),outs[i]? =some t→outer[i]? =some f→Hm C w t f
theorem Cr.mono {C C':Ctx} {w w':World} (m:Cx C w C' w') {outs:List (Array Value)} {outer:List Fr} (h:Cr C w outs outer):Cr C' w' outs outer:=
  ⟨h.1,fun i t f a b=>(h.2 i t f a b).mono m⟩
theorem Cr.cons {C:Ctx} {w:World} {t:Array Value} {f:Fr} {outs:List (Array Value)} {outer:List Fr} (h1:Hm C w t f) (h:Cr C w outs outer):Cr C w (t::outs) (f::outer):=by
  refine⟨by simp[h.1],fun i t' f' a b=>?_⟩
  match i,a,b with
  | 0,a,b=>simp at a b;subst a b;exact h1
  | i+1,a,b=>exact h.2 i t' f' (by simpa using a) (by simpa using b)
theorem Cr.head {C:Ctx} {w:World} {t:Array Value} {f:Fr} {outs:List (Array Value)} {outer:List Fr} (h:Cr C w (t::outs) (f::outer)):Hm C w t f:=h.2 0 t f rfl rfl
theorem Cr.tail {C:Ctx} {w:World} {t:Array Value} {f:Fr} {outs:List (Array Value)} {outer:List Fr} (h:Cr C w (t::outs) (f::outer)):Cr C w outs outer:=
  ⟨by simpa using h.1,fun i t' f' a b=>h.2 (i+1) t' f' (by simpa using a) (by simpa using b)⟩
theorem Cr.nil {C:Ctx} {w:World}:Cr C w [] []:=⟨rfl,by simp⟩
structure C7 (W0:World) (A0:Nat→Prop) (ds:List Deferred) (n:Nat) (outs:List (Array Value)) (outer:List Fr) (fr:Fr) (H:List Ap) (a:Act) (w:World):Prop where
  ex:∃ C:Ctx,C.H=H∧C.A0=A0∧Inv W0 C w∧Hm C w a.tmps fr∧Cr C w outs outer∧a.tmps.size=n∧a.defers=ds
def Bg (P:Program) (f:Ac) (args:List Ac) (st:List Fr) (H:List Ap) (K:Ac→List Ap→Prop):Prop:=
  ∀ (W0:World) (C:Ctx) (w:World) (outs:List (Array Value)) (fv:Value) (vs:List Value),Inv W0 C w→C.H=H→Cr C w outs st→A4 C w fv f→vs.length=args.length→
    (∀ (i:Nat) (v:Value) (a:Ac),vs[i]? =some v→args[i]? =some a→A4 C w v a)→
    (∃ fid caps,fv= .func (.func fid) #[] caps∧(∀ (args:Array Value) (w:World),(callFunc fid args).run P w= .ok (.enter fid args) w)∧
     Calls P fid (vs.toArray++caps) w fun e w'=>∃ v r C',e= .returned v∧K r C'.H∧C'.A0=C.A0∧A4 C' w' v r∧Inv W0 C' w'∧Cr C' w' outs st)∨
    (∃ l rec,fv= .func (.yield l) #[] #[]∧w.heap[l]? =some (.loop rec)∧vs.length=rec.params.size∧
     RoundIn Fence.wide 4 P l rec.fn ((rec.params.zip vs.toArray).foldl (fun tmps (t,a)=>tmps.setIfInBounds t a) rec.tmps) rec.assign rec.body w fun e w'=>∃ v r C',e= .returned v∧K r C'.H∧C'.A0=C.A0∧A4 C' w' v r∧Inv W0 C' w'∧Cr C' w' outs st)
def Db (v:Ac) (want:Bool) (Y N:Fr→List Ap→Prop) (fr:Fr) (H:List Ap):Prop:=
  match v with
  | .bool c=>(c=want→Y fr H)∧(c≠want→N fr H)
  | .tuple _=>N fr H
  | _=>False
def Gx:Op→Option (Operand×List Operand)
  | .call {callee:=.value f,args:=args,argTypes:=_}=>some (f,args.toList)
  | _=>none
def M5 (fr:Fr) (dst:Option Tmp) (next:Fr→List Ap→Prop) (v:Ac) (H:List Ap):Prop:=next (put fr dst v) H
def Gd (fr:Fr) (dst:Option Tmp) (next:Fr→List Ap→Prop) (H:List Ap) (v:Ac) (ef:Eff):Prop:=next (put fr dst v) (ef.app H)
def askip (dst:Option Tmp) (next:Fr→List Ap→Prop) (fr:Fr) (H:List Ap):Prop:=next (put fr dst (.tuple [])) H
def W5 (P:Program) (op:Op) (e:Operand→Ac):Option (List (List Ac)):=
  match op with
  | .binOp .eql T x y _=>match e x,e y with
    | .sl _ xs,.nils=>if (F2 P T).isSome=true then some xs else none
    | _,_=>none
  | _=>none
def aoper (P:Program) (outer:List Fr) (op:Op) (dst:Option Tmp) (next:Fr→List Ap→Prop) (fr:Fr) (H:List Ap):Prop:=
  match Gx op with
  | some (f,args)=>Bg P (ev fr f) (args.map (ev fr)) (fr::outer) H (M5 fr dst next)
  | none=>match W5 P op (ev fr)with
    | some xs=>∀ b:Bool,(xs≠[]→b=false)→Gd fr dst next H (.bool b) .none
    | none=>astep P op (ev fr) H H.length (Gd fr dst next H)
def alist (P:Program) (outer:List Fr) (all:List Oper):List Oper→(Fr→List Ap→Prop)→Fr→List Ap→Prop
  | [],K=>K
  | o::rest,K=>match o.guard with
    | none=>aoper P outer o.op o.dst (alist P outer all rest K)
    | some (j,want)=>match (all[j]?).bind (·.dst)with
      | some d=>fun fr H=>Db (get fr d) want (aoper P outer o.op o.dst (alist P outer all rest K)) (askip o.dst (alist P outer all rest K)) fr H
      | none=>askip o.dst (alist P outer all rest K)
theorem Vk (P:Program) (outer:List Fr) (all:List Oper) (K:Fr→List Ap→Prop) (fr:Fr) (H:List Ap):alist P outer all [] K fr H=K fr H:=rfl
theorem Sq (P:Program) (outer:List Fr) (all:List Oper) (dst:Option Tmp) (op:Op) (type:TypeId) (pos:String) (after:Array Edge) (rest:List Oper) (K:Fr→List Ap→Prop) (fr:Fr) (H:List Ap) :
    alist P outer all ({dst,op,type,pos,after,guard:=none}::rest) K fr H=aoper P outer op dst (alist P outer all rest K) fr H:=rfl
def Me (d:Option Tmp) (want:Bool) (Y N:Fr→List Ap→Prop) (fr:Fr) (H:List Ap):Prop:=
  match d with
  | some d=>Db (get fr d) want Y N fr H
  | none=>N fr H
theorem Sr (P:Program) (outer:List Fr) (all:List Oper) (dst:Option Tmp) (op:Op) (type:TypeId) (pos:String) (after:Array Edge) (j:Nat) (want:Bool) (rest:List Oper) (K:Fr→List Ap→Prop) (fr:Fr) (H:List Ap) :
    alist P outer all ({dst,op,type,pos,after,guard:=some (j,want)}::rest) K fr H =
      Me ((all[j]?).bind (·.dst)) want (aoper P outer op dst (alist P outer all rest K)) (askip dst (alist P outer all rest K)) fr H:=by
  simp only[alist,Me]
  cases(all[j]?).bind (·.dst)<;>rfl
theorem Tq (Y N:Fr→List Ap→Prop) (fr:Fr) (H:List Ap):Db (.bool true) true Y N fr H=Y fr H:=by simp[Db]
theorem Tt (Y N:Fr→List Ap→Prop) (fr:Fr) (H:List Ap):Db (.bool false) false Y N fr H=Y fr H:=by simp[Db]
theorem Tr (Y N:Fr→List Ap→Prop) (fr:Fr) (H:List Ap):Db (.bool true) false Y N fr H=N fr H:=by simp[Db]
theorem Ts (Y N:Fr→List Ap→Prop) (fr:Fr) (H:List Ap):Db (.bool false) true Y N fr H=N fr H:=by simp[Db]
theorem Po (vs:List Ac) (want:Bool) (Y N:Fr→List Ap→Prop) (fr:Fr) (H:List Ap):Db (.tuple vs) want Y N fr H=N fr H:=rfl
def O0 (n:Nat) (ops:List Oper):Bool:=ops.all fun o=>match o.dst with | some d=>Nat.blt d n | none=>true
section
variable {P:Program} {md:Option Nat}
theorem Ob (a:Act) (d:Option Tmp) (v:Value):(a.put d v).tmps.size=a.tmps.size:=by
  cases d<;>simp[Act.put]
theorem put_defers (a:Act) (d:Option Tmp) (v:Value):(a.put d v).defers=a.defers:=by
  cases d<;>simp[Act.put]
theorem Ih (C:Ctx) (w:World):A4 C w undef (.tuple []):=.tuple #[] [] rfl (by simp)
theorem H4 {o:Op} {f:Operand} {args:List Operand} (h:Gx o=some (f,args)):∃ (zq:Array Operand) (ts:Array TypeId),o= .call {callee:=.value f,args:=zq,argTypes:=ts}∧zq.toList=args:=by
  unfold Gx at h
  split at h
  ·simp only[bQ,Prod.mk.injEq]at h
   obtain⟨rfl,rfl⟩:=h
   exact⟨_,_,rfl,rfl⟩
  ·cases h
theorem Ur {W0:World} {C:Ctx} {w:World} (I:Inv W0 C w) {o:Oper} {ρ:Operand→Value} {e:Operand→Ac} (he:∀ x,A4 C w (ρ x) (e x)) {xs:List (List Ac)} (hx:W5 P o.op e=some xs) {K:Ac→Eff→Prop}
    (h:∀ b:Bool,(xs≠[]→b=false)→K (.bool b) .none):Ie W0 C w ((execOp ρ o).run P w) K:=by
  unfold W5 at hx
  split at hx
  ·rename_i T x y yT ho
   split at hx
   ·rename_i sz ys h1 h2
    split at hx
    ·rename_i hT
     obtain rfl:=bV hx
     have hu:=he x
     have hv:=he y
     rw[h1]at hu;rw[h2]at hv
     cases gn:ρ y<;>rw[gn]at hv<;>cases hv
     have r8:∃ a n c,ρ x= .slice a n c∧(ys≠[]→a.isNone=false):=by
       generalize ρ x=v at hu
       cases hu with
       | sl0 a cap _ _=>exact ⟨a,0,cap,rfl,fun h=>absurd rfl h⟩
       | sl a len cap _ _ _ _ _ _ _ _ _ _ _ _ _=>exact ⟨some a,len,cap,rfl,fun _=>rfl⟩
     obtain⟨a,n,c,r8,ar⟩:=r8
     have r4:∃ te,P.underlying T=some (.slice te):=by
       unfold F2 at hT
       split at hT
       ·exact⟨_,by assumption⟩
       ·cases hT
     obtain⟨te,r4⟩:=r4
     unfold execOp
     simp only[ho,r8,gn]
     refine .Dj I (.mk' ?_ (.bool a.isNone) (h _ ar))
     simp only[eqGuard_at_slice,Sem.run_bind,Sem.run_pure,Result.andThen_ok]
     exact Lib.run_eql_slice_nil w T te a n c 0 0 r4
    ·cases hx
   ·cases hx
  ·cases hx
theorem I8 {W0:World} {A0:Nat→Prop} {ds:List Deferred} {n:Nat} {outs:List (Array Value)} {outer:List Fr} {all l2:List Oper} {Q:Exit→Act→World→Prop} {K:Fr→List Ap→Prop}
    (hQ:∀ fr' H' a' w',K fr' H'→C7 W0 A0 ds n outs outer fr' H' a' w'→wpListIn (fence md) 5 P all.toArray Q l2 a' w'):∀ (l:List Oper) (fr:Fr) (H:List Ap) (a:Act) (w:World),O0 n l=true→
    C7 W0 A0 ds n outs outer fr H a w→alist P outer all l K fr H→wpListIn (fence md) 5 P all.toArray Q (l++l2) a w
  | [],fr,H,a,w,_,R,h=>hQ _ _ _ _ h R
  | o::rest,fr,H,a,w,hd,R,h=>by
    simp only[O0,List.all_cons,Bool.and_eq_true]at hd
    obtain⟨vj,hd⟩:=hd
    have ih:=fun fr H a w=>I8 (all:=all) (l2:=l2) hQ rest fr H a w hd
    obtain⟨C,rfl,rfl,I,hF,hO,hn,qb⟩:=R.ex
    have ab:∀ k,o.dst=some k→k<a.tmps.size:=by
      intro k hk
      rw[hk]at vj
      rw[hn]
      simpa using vj
    have srep:∀ (C':Ctx) (w':World) (v:Value) (r:Ac),C'.A0=C.A0→Inv W0 C' w'→Hm C' w' a.tmps fr→Cr C' w' outs outer→A4 C' w' v r→C7 W0 C.A0 ds n outs outer (put fr o.dst r) C'.H (a.put o.dst v) w':=
      fun C' w' v r e I' nh gg hv=>⟨C',rfl,e,I',nh.put hv o.dst ab,gg,by rw[Ob,hn],by rw[put_defers,qb]⟩
    have skip:askip o.dst (alist P outer all rest K) fr C.H→wpListIn (fence md) 5 P all.toArray Q (rest++l2) (a.put o.dst undef) w:=
      fun h=>ih _ _ _ _ (srep C w undef _ rfl I hF hO (Ih C w)) h
    have run:aoper P outer o.op o.dst (alist P outer all rest K) fr C.H→o.wpIn (fence md) 5 P a w (wpListIn (fence md) 5 P all.toArray Q (rest++l2)) Q:=by
      intro h
      have nd:∀ c,o.op≠.defer c:=fun c hc=>by
        rw[hc]at h;exact h
      unfold aoper at h
      unfold Oper.wpIn
      refine⟨fun _ _=>trivial,?_⟩
      rw[Oper.semAt_eq _ _ _ nd]
      split at h
      ·rename_i f args hc
       obtain⟨zq,ts,ho,rfl⟩:=H4 hc
       rcases h W0 C w (a.tmps::outs) (a.eval f) (zq.toList.map a.eval) I rfl (hO.cons hF) (Gw hF f) (by simp) (fun i v x hv hx=>by
         simp only[List.getElem?_map]at hv hx
         cases hy:zq.toList[i]? with
         | none=>simp[hy]at hv
         | some y=>
           simp only[hy,Option.map_some,bQ]at hv hx
           subst hv hx;exact Gw hF y)with ⟨fid,caps,h1,h2,h3⟩ | ⟨l,rec,h1,hh,hs,h3⟩
       ·have aj:(execOp a.eval o).run P w= .ok (.enter fid ((zq.toList.map a.eval).toArray++caps)) w:=by
          unfold execOp
          rw[ho]
          simp only[resolve,Deferred.ofValue,h1,invoke,Sem.run_bind,Sem.run_pure,Result.andThen_ok]
          have e1:(#[]++Array.map a.eval zq++caps:Array Value)=(zq.toList.map a.eval).toArray++caps:=by
            apply Array.ext';simp
          rw[e1,h2]
        rw[aj,Oper.uponIn_enter]
        refine⟨H3,Jy (h3.mono fun e w' ⟨v,r,C',he,hk,hA,hv,I',gg⟩=>?_)⟩
        subst he
        exact ih _ _ _ _ (srep C' w' v r hA I' gg.head gg.tail hv) hk
       ·have aj:(execOp a.eval o).run P w= .ok (.round l rec.fn ((rec.params.zip (zq.toList.map a.eval).toArray).foldl (fun tmps (t,a)=>tmps.setIfInBounds t a) rec.tmps) rec.assign rec.body) w:=by
          unfold execOp
          rw[ho]
          simp only[resolve,Deferred.ofValue,h1,invoke,Sem.run_bind,Sem.run_pure,Result.andThen_ok]
          have e1:(#[]++Array.map a.eval zq++#[]:Array Value)=(zq.toList.map a.eval).toArray:=by
            apply Array.ext';simp
          have e2:(#[]++Array.map a.eval zq:Array Value)=(zq.toList.map a.eval).toArray:=by
            apply Array.ext';simp
          first | rw[e1] | rw[e2]
          exact run_yield hh (by simpa using hs)
        rw[aj,Oper.uponIn_round]
        refine⟨H3,R6 (h3.mono fun e w' ⟨v,r,C',he,hk,hA,hv,I',gg⟩=>?_)⟩
        subst he
        exact ih _ _ _ _ (srep C' w' v r hA I' gg.head gg.tail hv) hk
      ·have od:Ie W0 C w ((execOp a.eval o).run P w) (Gd fr o.dst (alist P outer all rest K) C.H):=by
         split at h
         ·rename_i xs hx
          exact Ur I (Gw hF) hx h
         ·exact Nk (P:=P) I (.inl rfl) (Gw hF) h
       obtain⟨r,w',C',ef,gu,hk,hH,I',m⟩:=od.ex
       unfold Gd at hk
       rw[← hH]at hk
       rcases gu with⟨v,aj,hv⟩ | ⟨aj,rfl⟩
       ·rw[aj,Oper.uponIn_value]
        exact ih _ _ _ _ (srep C' w' v r m.A0 I' (hF.mono m) (hO.mono m) hv) hk
       ·rw[aj,Oper.uponIn_skip]
        exact ih _ _ _ _ (srep C' w' undef _ m.A0 I' (hF.mono m) (hO.mono m) (Ih C' w')) hk
    rw[List.cons_append]
    unfold wpListIn
    cases hg:o.guard with
    | none=>
      simp only[alist,hg]at h
      rw[if_pos (by simp[Region.wanted,hg])]
      exact run h
    | some jw=>
      obtain⟨j,want⟩:=jw
      have hy:∀ d,(all[j]?).bind (·.dst)=some d→yielded all.toArray a.tmps j=match a.tmps[d]? with | some (.bool b)=>some b | _=>none:=by
        intro d hd
        unfold yielded
        simp only[List.getElem?_toArray,hd,bP]
        rfl
      cases fw:(all[j]?).bind (·.dst)with
      | some d=>
        simp only[alist,hg,fw]at h
        have hv:=hF d
        unfold Db at h
        split at h
        ·rename_i c hc
         rw[hc]at hv
         have ga:a.tmps.getD d undef= .bool c:=by cases gn:a.tmps.getD d undef<;>rw[gn]at hv<;>cases hv;rfl
         have jt:a.tmps[d]? =some (.bool c):=by
           rw[Array.getD_eq_getD_getElem?]at ga
           cases ht:a.tmps[d]? with
           | none=>rw[ht]at ga;cases ga
           | some u=>rw[ht]at ga;simp at ga;rw[ga]
         have hw:Region.wanted o (yielded all.toArray a.tmps)=decide (c=want):=by
           simp only[Region.wanted,hg,hy d fw,jt]
           cases c<;>cases want<;>rfl
         by_cases ie:c=want
         ·rw[if_pos (by rw[hw];simpa using ie)]
          exact run (h.1 ie)
         ·rw[if_neg (by rw[hw];simpa using ie)]
          exact⟨fun _ _=>trivial,skip (h.2 ie)⟩
        ·rename_i vs hc
         rw[hc]at hv
         have hw:Region.wanted o (yielded all.toArray a.tmps)=false:=by
           simp only[Region.wanted,hg,hy d fw]
           cases ht:a.tmps[d]? with
           | none=>rfl
           | some u=>
             have:a.tmps.getD d undef=u:=by rw[Array.getD_eq_getD_getElem?,ht];rfl
             rw[this]at hv
             cases hv;rfl
         rw[if_neg (by rw[hw];simp)]
         exact⟨fun _ _=>trivial,skip h⟩
        ·exact h.elim
      | none=>
        simp only[alist,hg,fw]at h
        have hw:Region.wanted o (yielded all.toArray a.tmps)=false:=by
          simp only[Region.wanted,hg]
          unfold yielded
          simp[fw]
        rw[if_neg (by rw[hw];simp)]
        exact⟨fun _ _=>trivial,skip h⟩
theorem No {W0:World} {A0:Nat→Prop} {ds:List Deferred} {n:Nat} {outs:List (Array Value)} {outer:List Fr} {all:List Oper} {Q:Exit→Act→World→Prop} {K:Fr→List Ap→Prop}
    (hQ:∀ fr' H' a' w',K fr' H'→C7 W0 A0 ds n outs outer fr' H' a' w'→Q .normal a' w') (l:List Oper) (fr:Fr) (H:List Ap) (a:Act) (w:World) (hd:O0 n l=true)
    (R:C7 W0 A0 ds n outs outer fr H a w) (h:alist P outer all l K fr H):wpListIn (fence md) 5 P all.toArray Q l a w:=by
  have:=I8 (md:=md) (l2:=[]) (Q:=Q) hQ l fr H a w hd R h
  rwa [List.append_nil]at this
def ALP (md:Option Nat) (P:Program) (n:Nat) (outer:List Fr) (all l:List Oper) (Q:Exit→Fr→List Ap→Prop) (fr:Fr) (H:List Ap):Prop:=
  ∀ (W0:World) (A0:Nat→Prop) (ds:List Deferred) (outs:List (Array Value)) (a:Act) (w:World),C7 W0 A0 ds n outs outer fr H a w→wpListIn (fence md) 5 P all.toArray (fun e a' w'=>∃ fr' H',Q e fr' H'∧C7 W0 A0 ds n outs outer fr' H' a' w') l a w
theorem ALP.part {n:Nat} {outer:List Fr} {all l1 l2:List Oper} {Q:Exit→Fr→List Ap→Prop} {fr:Fr} {H:List Ap} (hd:O0 n l1=true)
    (h:∀ K:Fr→List Ap→Prop,(∀ fr H,ALP md P n outer all l2 Q fr H→K fr H)→alist P outer all l1 K fr H):ALP md P n outer all (l1++l2) Q fr H:=by
  intro W0 A0 ds outs a w R
  exact I8 (K:=ALP md P n outer all l2 Q) (fun fr' H' a' w' hk hR=>hk W0 A0 ds outs a' w' hR) l1 fr H a w hd R (h _ fun _ _ h=>h)
theorem ALP.last {n:Nat} {outer:List Fr} {all l:List Oper} {Q:Exit→Fr→List Ap→Prop} {fr:Fr} {H:List Ap} (hd:O0 n l=true)
    (h:∀ K:Fr→List Ap→Prop,(∀ fr H,Q .normal fr H→K fr H)→alist P outer all l K fr H):ALP md P n outer all l Q fr H:=by
  intro W0 A0 ds outs a w R
  exact No (K:=Q .normal) (fun fr' H' a' w' hk hR=>⟨fr',H',hk,hR⟩) l fr H a w hd R (h _ fun _ _ h=>h)
def AWP (md:Option Nat) (P:Program) (n:Nat) (c:Code) (Q:Exit→Fr→List Ap→Prop) (outer:List Fr) (fr:Fr) (H:List Ap):Prop:=
  ∀ (W0:World) (A0:Nat→Prop) (ds:List Deferred) (outs:List (Array Value)) (a:Act) (w:World),C7 W0 A0 ds n outs outer fr H a w→
    c.wpIn (fence md) 5 P (fun e a' w'=>∃ fr' H',Q e fr' H'∧C7 W0 A0 ds n outs outer fr' H' a' w') a w
def qthen (K:Fr→List Ap→Prop) (Q:Exit→Fr→List Ap→Prop):Exit→Fr→List Ap→Prop
  | .normal,fr,H=>K fr H
  | e,fr,H=>Q e fr H
def qblock (id:Nat) (Q:Exit→Fr→List Ap→Prop):Exit→Fr→List Ap→Prop
  | .exit i,fr,H=>if i=id then Q .normal fr H else Q (.exit i) fr H
  | e,fr,H=>Q e fr H
theorem AWP.region {n id:Nat} {ops:List Oper} {Q:Exit→Fr→List Ap→Prop} {outer:List Fr} {fr:Fr} {H:List Ap} (hd:O0 n ops=true)
    (h:∀ K:Fr→List Ap→Prop,(∀ fr H,Q .normal fr H→K fr H)→alist P outer ops ops K fr H):AWP md P n (.region id ops.toArray false) Q outer fr H:=by
  intro W0 A0 ds outs a w R
  exact wpIn_region_lit (No (K:=Q .normal) (fun fr' H' a' w' hk hR=>⟨fr',H',hk,hR⟩) ops fr H a w hd R (h _ fun _ _ h=>h))
theorem AWP.Xf {n id:Nat} {ops:List Oper} {Q:Exit→Fr→List Ap→Prop} {outer:List Fr} {fr:Fr} {H:List Ap} (h:ALP md P n outer ops ops Q fr H):AWP md P n (.region id ops.toArray false) Q outer fr H:=
  fun W0 A0 ds outs a w R=>wpIn_region_lit (h W0 A0 ds outs a w R)
theorem ALP.cut {n:Nat} {outer:List Fr} {all l:List Oper} {Q:Exit→Fr→List Ap→Prop} {fr:Fr} {H:List Ap} (k:Nat) (h:ALP md P n outer all (l.take k++l.drop k) Q fr H):ALP md P n outer all l Q fr H:=by
  rwa [List.take_append_drop]at h
theorem AWP.seq {n:Nat} {c d:Code} {Q:Exit→Fr→List Ap→Prop} {outer:List Fr} {fr:Fr} {H:List Ap}
    (h:AWP md P n c (qthen (AWP md P n d Q outer) Q) outer fr H):AWP md P n (.seq c d) Q outer fr H:=by
  intro W0 A0 ds outs a w R
  refine wpIn_seq (wpIn_mono (h W0 A0 ds outs a w R) ?_)
  intro e a' w' ⟨fr',H',hq,hR⟩
  cases e<;>first | exact hq W0 A0 ds outs a' w' hR | exact⟨fr',H',hq,hR⟩
theorem AWP.block {n id:Nat} {c:Code} {Q:Exit→Fr→List Ap→Prop} {outer:List Fr} {fr:Fr} {H:List Ap}
    (h:AWP md P n c (qblock id Q) outer fr H):AWP md P n (.block id c) Q outer fr H:=by
  intro W0 A0 ds outs a w R
  refine wpIn_block (wpIn_mono (h W0 A0 ds outs a w R) ?_)
  intro e a' w' ⟨fr',H',hq,hR⟩
  cases e with
  | exit i=>
    simp only[qblock]at hq
    simp only[Exit.inBlock]
    split at hq
    ·rename_i hi;rw[if_pos hi];exact⟨fr',H',hq,hR⟩
    ·rename_i hi;rw[if_neg hi];exact⟨fr',H',hq,hR⟩
  | _=>exact ⟨fr',H',hq,hR⟩
theorem AWP.skip {n:Nat} {Q:Exit→Fr→List Ap→Prop} {outer:List Fr} {fr:Fr} {H:List Ap} (h:Q .normal fr H):AWP md P n .skip Q outer fr H:=
  fun _ _ _ _ _ _ R=>wpIn_skip ⟨fr,H,h,R⟩
theorem AWP.ret {n:Nat} {Q:Exit→Fr→List Ap→Prop} {outer:List Fr} {fr:Fr} {H:List Ap} (h:Q .ret fr H):AWP md P n .ret Q outer fr H:=
  fun _ _ _ _ _ _ R=>wpIn_ret ⟨fr,H,h,R⟩
theorem AWP.exit {n id:Nat} {Q:Exit→Fr→List Ap→Prop} {outer:List Fr} {fr:Fr} {H:List Ap} (h:Q (.exit id) fr H):AWP md P n (.exit id) Q outer fr H:=
  fun _ _ _ _ _ _ R=>wpIn_exit ⟨fr,H,h,R⟩
def acond (v:Ac) (yes no:Prop):Prop:=
  match v with
  | .bool t=>(t=true→yes)∧(t=false→no)
  | _=>False
theorem AWP.cond {n:Nat} {x:Operand} {c d:Code} {Q:Exit→Fr→List Ap→Prop} {outer:List Fr} {fr:Fr} {H:List Ap}
    (h:acond (ev fr x) (AWP md P n c Q outer fr H) (AWP md P n d Q outer fr H)):AWP md P n (.cond x c d) Q outer fr H:=by
  intro W0 A0 ds outs a w R
  obtain⟨C,rfl,_,I,hF,_⟩:=R.ex
  have hv:=Gw hF x
  unfold acond at h
  split at h
  ·rename_i t ht
   rw[ht]at hv
   have ga:a.eval x= .bool t:=by cases gn:a.eval x<;>rw[gn]at hv<;>cases hv;rfl
   cases t with
   | true=>exact wpIn_cond_true ga (h.1 rfl W0 A0 ds outs a w R)
   | false=>exact wpIn_cond_false ga (h.2 rfl W0 A0 ds outs a w R)
  ·exact h.elim
def Sub (outer:List Fr) (fr:Fr) (H:List Ap) (fr':Fr) (H':List Ap):Prop:=
  ∀ (W0:World) (A0:Nat→Prop) (ds:List Deferred) (n:Nat) (outs:List (Array Value)) (a:Act) (w:World),C7 W0 A0 ds n outs outer fr H a w→C7 W0 A0 ds n outs outer fr' H' a w
theorem Sub.refl {outer:List Fr} {fr:Fr} {H:List Ap}:Sub outer fr H fr H:=fun _ _ _ _ _ _ _ R=>R
theorem Sub.trans {outer:List Fr} {fr fr' fr'':Fr} {H H' H'':List Ap} (h:Sub outer fr H fr' H') (k:Sub outer fr' H' fr'' H''):Sub outer fr H fr'' H'':=
  fun _ _ _ _ _ _ _ R=>k _ _ _ _ _ _ _ (h _ _ _ _ _ _ _ R)
theorem AWP.sub {n:Nat} {c:Code} {Q:Exit→Fr→List Ap→Prop} {outer:List Fr} {fr fr':Fr} {H H':List Ap} (s:Sub outer fr H fr' H') (h:AWP md P n c Q outer fr' H'):AWP md P n c Q outer fr H:=
  fun W0 A0 ds outs a w R=>h W0 A0 ds outs a w (s _ _ _ _ _ _ _ R)
theorem ALP.sub {n:Nat} {outer:List Fr} {all l:List Oper} {Q:Exit→Fr→List Ap→Prop} {fr fr':Fr} {H H':List Ap} (s:Sub outer fr H fr' H') (h:ALP md P n outer all l Q fr' H'):ALP md P n outer all l Q fr H:=
  fun W0 A0 ds outs a w R=>h W0 A0 ds outs a w (s _ _ _ _ _ _ _ R)
theorem AWP.mono {n:Nat} {c:Code} {Q Q':Exit→Fr→List Ap→Prop} {outer:List Fr} {fr:Fr} {H:List Ap} (hq:∀ e fr H,Q e fr H→Q' e fr H) (h:AWP md P n c Q outer fr H):AWP md P n c Q' outer fr H:=
  fun W0 A0 ds outs a w R=>wpIn_mono (h W0 A0 ds outs a w R) fun _ _ _ ⟨fr',H',q,r⟩=>⟨fr',H',hq _ _ _ q,r⟩
theorem AWP.loop {ι:Type} {n:Nat} {c:Code} {Q:Exit→Fr→List Ap→Prop} {outer:List Fr} {fr:Fr} {H:List Ap} (F:ι→Fr) (HH:ι→List Ap) (J:ι→Prop) (μ:ι→Nat) (x0:ι)
    (h0:J x0) (s0:Sub outer fr H (F x0) (HH x0))
    (round:∀ x,J x→AWP md P n c (qthen (fun fr' H'=>∃ x',J x'∧μ x'< μ x∧Sub outer fr' H' (F x') (HH x')) Q) outer (F x) (HH x)):AWP md P n (.loop c) Q outer fr H:=by
  intro W0 A0 ds outs a w R
  refine wpIn_loop_ghost (fun k a w=>∃ x,J x∧μ x=k∧C7 W0 A0 ds n outs outer (F x) (HH x) a w) (μ x0) ⟨x0,h0,rfl,s0 _ _ _ _ _ _ _ R⟩ ?_
  intro k a w ⟨x,hJ,hk,R⟩
  refine wpIn_mono (round x hJ W0 A0 ds outs a w R) ?_
  intro e a' w' ⟨fr',H',hq,hR⟩
  cases e with
  | normal=>
    obtain⟨x',h1,h2,h3⟩:=hq
    exact⟨μ x',by omega,x',h1,rfl,h3 _ _ _ _ _ _ _ hR⟩
  | _=>exact ⟨fr',H',hq,hR⟩
end
def Ctx.imm (A:Nat→Prop):Ctx:=⟨A,A,fun _=>none,[]⟩
def F6 (C:Ctx) (w:World) (vs:List Value) (args:List Ac):Prop:=
  vs.length=args.length∧∀ (i:Nat) (v:Value) (a:Ac),vs[i]? =some v→args[i]? =some a→A4 C w v a
def Aq (P:Program) (f:FuncId) (args:List Ac) (R:Ac→Prop):Prop:=
  ∀ (A:Nat→Prop) (w:World) (vs:List Value),(∀ b,A b→b<w.heap.size)→F6 (Ctx.imm A) w vs args→
    Calls P f vs.toArray w fun e w'=>∃ v r,e= .returned v∧R r∧r.g2=true∧Below w.heap.size w w'∧
      A4 (Ctx.imm fun b=>A b∨(w.heap.size≤b∧b<w'.heap.size)) w' v r
def Ci (P:Program) (f:FuncId) (args:List Ac) (R:Ac→Prop):Prop:=
  ∀ (A:Nat→Prop) (w:World) (vs:List Value),(∀ b,A b→b<w.heap.size)→F6 (Ctx.imm A) w vs args→
    Calls P f vs.toArray w fun e w'=>∃ v r,e= .returned v∧R r∧r.g2=true∧Below w.heap.size w w'∧
      A4 (Ctx.imm fun b=>w.heap.size≤b∧b<w'.heap.size) w' v r
def Wk (H:List Ap) (v:Ac):Bool:=
  match v with
  | .own r _ _ _=>match H[r]? with
    | some (.row _ _ xs)=>xs.all fun x=>x.all Ac.f0
    | _=>false
  | v=>v.f0
def U0 (H:List Ap) (v:Ac):Bool:=
  match v with
  | .agg cs=>cs.all (Wk H)
  | v=>Wk H v
def Wj (H:List Ap) (v:Ac):Bool:=
  match v with
  | .tuple vs=>vs.all (U0 H)
  | v=>U0 H v
def Ez {α β:Type} (f:α→Option β):List α→Option (List β)
  | []=>some []
  | x::r=>match f x,Ez f r with
    | some y,some ys=>some (y::ys)
    | _,_=>none
def L5 (H:List Ap) (v:Ac):Option Ac:=
  match v with
  | .own r v lo len=>match H[r]? with
    | some (.row v' sz xs)=>if v=v' then some (.sl sz ((xs.drop lo).take len))else none
    | _=>none
  | .map r=>match H[r]? with
    | some (.mp es)=>some (.vmap es)
    | _=>none
  | .any | .agg _ | .tuple _ | .ptr _ _ | .rptr _ _ _ _ | .func _ _ | .iter _ | .yld _=>none
  | v=>some v
def Hg (H:List Ap) (v:Ac):Option Ac:=
  match v with
  | .agg cs=>match Ez (L5 H) cs with
    | some ds=>some (.agg ds)
    | none=>none
  | v=>L5 H v
def Tj (H:List Ap) (v:Ac):Option Ac:=
  match v with
  | .tuple vs=>match Ez (Hg H) vs with
    | some ds=>some (.tuple ds)
    | none=>none
  | v=>Hg H v
theorem Ey {α β:Type} {f:α→Option β}:∀ {l:List α} {m:List β},Ez f l=some m→l.length=m.length∧∀ (i:Nat) (x:α) (y:β),l[i]? =some x→m[i]? =some y→f x=some y
  | [],m,h=>by simp only[Ez,bQ]at h;subst h;simp
  | x::r,m,h=>by
    simp only[Ez]at h
    split at h
    ·rename_i y ys h1 h2
     simp only[bQ]at h
     subst h
     have ih:=Ey h2
     refine⟨by simp[ih.1],fun i x' y' a b=>?_⟩
     match i,a,b with
     | 0,a,b=>simp at a b;subst a b;exact h1
     | i+1,a,b=>exact ih.2 i x' y' (by simpa using a) (by simpa using b)
    ·cases h
section
variable {P:Program}
theorem A4.ground' {C C2:Ctx} {w:World} (hA:∀ b,C.A b→C2.A b) {v:Value} {a:Ac} (h:A4 C w v a) (hg:a.g2=true):A4 C2 w v a:=
  A4.ground (fun b hb=>⟨hA b hb,rfl⟩) h hg
theorem Rw {W0:World} {C:Ctx} {w:World} (I:Inv W0 C w) {v:Value} {a a':Ac} (h:A4 C w v a) (hf:L5 C.H a=some a') :
    a'.g0=true∧A4 (Ctx.imm fun b=>C.A b∨(W0.heap.size≤b∧b<w.heap.size)) w v a':=by
  unfold L5 at hf
  split at hf
  ·rename_i r v' lo len
   split at hf
   ·rename_i v2 sz xs hr
    split at hf
    ·rename_i hv
     subst hv
     simp only[bQ]at hf
     subst hf
     refine⟨rfl,?_⟩
     cases h with
     | own ad _ cap _ _ _ ab bq bc hh=>
       obtain⟨_,hh⟩:=hh _ _ _ hr
       obtain⟨hle,hh⟩:=hh rfl
       have hlen:((xs.drop lo).take len).length=len:=by simp;omega
       obtain⟨au,bb,hg,ho⟩:=I.objs r _ hr
       by_cases h0:len=0
       ·subst h0
        simp only[List.take_zero]
        exact .sl0 _ _ _ bc
       ·rcases hh with hh | ⟨l,hl,rfl,bk⟩
        ·omega
        rcases ho with⟨e1,_⟩ | ⟨l',arr,T',e1,e2,e3,e4,e5⟩
        ·subst e1;simp at hle;omega
        rw[hl,bQ]at e1
        subst e1
        have hs:=I.sep r l hl
        have hmul:(lo+len)*sz≤xs.length*sz:=Nat.mul_le_mul_right _ hle
        have ek:(lo+len)*sz=lo*sz+len*sz:=Nat.add_mul _ _ _
        refine .sl _ _ _ _ _ (fun j=>arr.getD (l.base+lo*sz+j) undef) rfl hlen.symm bq bc (.inr ⟨hs.2.1,hs.2.2.1⟩) au
          (fun x hx=>bb x (List.mem_of_mem_drop (List.mem_of_mem_take hx))) (fun x hx=>hg x (List.mem_of_mem_drop (List.mem_of_mem_take hx))) (fun j hj=>?_) fun i k x c hx hc=>?_
        ·rw[hlen]at hj
         simp only[World.cell?,e2]
         have:l.base+lo*sz+j<arr.size:=by omega
         simp[Array.getD,this]
        ·rw[List.getElem?_take]at hx
         split at hx
         ·rename_i hi
          rw[List.getElem?_drop]at hx
          obtain⟨u,hu,bl⟩:=e5 _ k x c hx hc
          have xr:=hg x (bO hx) c (bO hc)
          have e:l.base+((lo+i)*sz+k)=l.base+lo*sz+(i*sz+k):=by rw[Nat.add_mul];omega
          rw[e]at hu
          have:arr.getD (l.base+lo*sz+(i*sz+k)) undef=u:=by rw[Array.getD_eq_getD_getElem?,hu];rfl
          rw[this]
          exact A4.ground' (fun b hb=>Or.inl hb) bl (Ac.Dx xr)
         ·cases hx
    ·cases hf
   ·cases hf
  ·rename_i r
   split at hf
   ·rename_i es hr
    simp only[bQ]at hf
    subst hf
    refine⟨rfl,?_⟩
    cases h with
    | map b _ ab hh=>
      obtain⟨l,hl,rfl⟩:=hh _ hr rfl
      obtain⟨l',en,cl,h1,h2,h3,h4,h5⟩:=I.objs r _ hr
      rw[hl,bQ]at h1
      subst h1
      have hs:=I.sep r l hl
      exact .vmap _ _ en cl (.inr ⟨hs.2.1,hs.2.2.1⟩) h4 h2 h3 fun i e p a b=>A4.ground' (fun b hb=>Or.inl hb) (h5 i e p a b) (Ac.Ee (h4 p (bO b)))
   ·cases hf
  ·cases hf
  ·cases hf
  ·cases hf
  ·cases hf
  ·cases hf
  ·cases hf
  ·cases hf
  ·cases hf
  ·rename_i n1 n2 n3 n4 n5 n6 n7 n8 n9 n10
   have hg:a.g0=true:=by
     cases a
     case own=>exact absurd rfl (n1 _ _ _ _)
     case map=>exact absurd rfl (n2 _)
     case any=>exact absurd rfl n3
     case agg=>exact absurd rfl (n4 _)
     case tuple=>exact absurd rfl (n5 _)
     case ptr=>exact absurd rfl (n6 _ _)
     case rptr=>exact absurd rfl (n7 _ _ _ _)
     case func=>exact absurd rfl (n8 _ _)
     case iter=>exact absurd rfl (n9 _)
     case yld=>exact absurd rfl (n10 _)
     all_goals rfl
   simp only[bQ]at hf
   subst hf
   exact⟨hg,A4.ground' (fun b hb=>Or.inl hb) h (Ac.Dx hg)⟩
theorem Nn {H:List Ap} {f:List Ap→Ac→Option Ac} {g:Ac→Bool} {l m:List Ac} (h:Ez (f H) l=some m) (hg:∀ (i:Nat) x y,l[i]? =some x→m[i]? =some y→g y=true):m.all g=true:=by
  rw[List.all_eq_true]
  intro y hy
  obtain⟨i,hi⟩:=List.getElem?_of_mem hy
  have ab:i<l.length:=by rw[(Ey h).1];exact Bv hi
  exact hg i _ y (bN ab) hi
theorem Jw {W0:World} {C:Ctx} {w:World} (I:Inv W0 C w) {v:Value} {a a':Ac} (h:A4 C w v a) (hf:Hg C.H a=some a') :
    a'.g1=true∧A4 (Ctx.imm fun b=>C.A b∨(W0.heap.size≤b∧b<w.heap.size)) w v a':=by
  unfold Hg at hf
  split at hf
  ·rename_i cs
   split at hf
   ·rename_i ds iw
    simp only[bQ]at hf
    subst hf
    have hm:=Ey iw
    cases h with
    | agg arr _ hl hc=>
      have get:∀ (i:Nat) (u:Value) (d:Ac),arr[i]? =some u→ds[i]? =some d→d.g0=true∧A4 (Ctx.imm fun b=>C.A b∨(W0.heap.size≤b∧b<w.heap.size)) w u d:=by
        intro i u d h1 h2
        have ab:i<cs.length:=by rw[hm.1];exact Bv h2
        have h3:cs[i]? =some cs[i]:=bN ab
        exact Rw I (hc i u _ h1 h3) (hm.2 i _ d h3 h2)
      refine⟨?_,.agg arr ds (by rw[hl,hm.1]) fun i u d h1 h2=>(get i u d h1 h2).2⟩
      refine Nn (f:=L5) iw fun i x y h1 h2=>?_
      have ab:i<arr.size:=by rw[hl];exact Bv h1
      exact(get i _ y (Array.getElem?_eq_getElem ab) h2).1
   ·cases hf
  ·have:=Rw I h hf
   exact⟨Ac.Wi this.1,this.2⟩
theorem L4 {W0:World} {C:Ctx} {w:World} (I:Inv W0 C w) {v:Value} {a a':Ac} (h:A4 C w v a) (hf:Tj C.H a=some a') :
    a'.g2=true∧A4 (Ctx.imm fun b=>C.A b∨(W0.heap.size≤b∧b<w.heap.size)) w v a':=by
  unfold Tj at hf
  split at hf
  ·rename_i cs
   split at hf
   ·rename_i ds iw
    simp only[bQ]at hf
    subst hf
    have hm:=Ey iw
    cases h with
    | tuple arr _ hl hc=>
      have get:∀ (i:Nat) (u:Value) (d:Ac),arr[i]? =some u→ds[i]? =some d→d.g1=true∧A4 (Ctx.imm fun b=>C.A b∨(W0.heap.size≤b∧b<w.heap.size)) w u d:=by
        intro i u d h1 h2
        have ab:i<cs.length:=by rw[hm.1];exact Bv h2
        have h3:cs[i]? =some cs[i]:=bN ab
        exact Jw I (hc i u _ h1 h3) (hm.2 i _ d h3 h2)
      refine⟨?_,.tuple arr ds (by rw[hl,hm.1]) fun i u d h1 h2=>(get i u d h1 h2).2⟩
      refine Nn (f:=Hg) iw fun i x y h1 h2=>?_
      have ab:i<arr.size:=by rw[hl];exact Bv h1
      exact(get i _ y (Array.getElem?_eq_getElem ab) h2).1
   ·cases hf
  ·have:=Jw I h hf
   exact⟨Ac.Ee this.1,this.2⟩
theorem Rz {W0:World} {C:Ctx} {w:World} (I:Inv W0 C w) {v:Value} {a a':Ac} (h:A4 C w v a) (hf:L5 C.H a=some a') (hr:Wk C.H a=true) :
    A4 (Ctx.imm fun b=>W0.heap.size≤b∧b<w.heap.size) w v a':=by
  unfold Wk at hr
  split at hr
  ·rename_i r v' lo len
   simp only[L5]at hf
   cases gq:C.H[r]? with
   | none=>rw[gq]at hr;cases hr
   | some o=>
     rw[gq]at hr hf
     cases o with
     | row v2 sz xs=>
       simp only at hr hf
       split at hf
       ·rename_i hv
        subst hv
        simp only[bQ]at hf
        subst hf
        cases h with
        | own ad _ cap _ _ _ ab bq bc hh=>
          obtain⟨_,hh⟩:=hh _ _ _ gq
          obtain⟨hle,hh⟩:=hh rfl
          have hlen:((xs.drop lo).take len).length=len:=by simp;omega
          obtain⟨au,bb,hg,ho⟩:=I.objs r _ gq
          by_cases h0:len=0
          ·subst h0
           simp only[List.take_zero]
           exact .sl0 _ _ _ bc
          ·rcases hh with hh | ⟨l,hl,rfl,bk⟩
           ·omega
           rcases ho with⟨e1,_⟩ | ⟨l',arr,T',e1,e2,e3,e4,e5⟩
           ·subst e1;simp at hle;omega
           rw[hl,bQ]at e1
           subst e1
           have hs:=I.sep r l hl
           have hmul:(lo+len)*sz≤xs.length*sz:=Nat.mul_le_mul_right _ hle
           have ek:(lo+len)*sz=lo*sz+len*sz:=Nat.add_mul _ _ _
           refine .sl _ _ _ _ _ (fun j=>arr.getD (l.base+lo*sz+j) undef) rfl hlen.symm bq bc ⟨hs.2.1,hs.2.2.1⟩ au
             (fun x hx=>bb x (List.mem_of_mem_drop (List.mem_of_mem_take hx))) (fun x hx=>hg x (List.mem_of_mem_drop (List.mem_of_mem_take hx))) (fun j hj=>?_) fun i k x c hx hc=>?_
           ·rw[hlen]at hj
            simp only[World.cell?,e2]
            have:l.base+lo*sz+j<arr.size:=by omega
            simp[Array.getD,this]
           ·rw[List.getElem?_take]at hx
            split at hx
            ·rename_i hi
             rw[List.getElem?_drop]at hx
             obtain⟨u,hu,bl⟩:=e5 _ k x c hx hc
             have tr:c.f2=true:=by
               have h1:=List.all_eq_true.1 hr x (bO hx)
               have h2:=List.all_eq_true.1 h1 c (bO hc)
               cases c<;>simp_all [Ac.f0,Ac.f1,Ac.f2]
             have e:l.base+((lo+i)*sz+k)=l.base+lo*sz+(i*sz+k):=by rw[Nat.add_mul];omega
             rw[e]at hu
             have:arr.getD (l.base+lo*sz+(i*sz+k)) undef=u:=by rw[Array.getD_eq_getD_getElem?,hu];rfl
             rw[this]
             exact bl.flat tr
            ·cases hx
       ·cases hf
     | _=>cases hr
  ·have:a'=a:=by cases a<;>simp_all [L5,Ac.f0]
   subst this
   exact h.flat (by cases a'<;>simp_all [Ac.f0,Ac.f1,Ac.f2])
theorem Ry {W0:World} {C:Ctx} {w:World} (I:Inv W0 C w) {v:Value} {a a':Ac} (h:A4 C w v a) (hf:Hg C.H a=some a') (hr:U0 C.H a=true) :
    A4 (Ctx.imm fun b=>W0.heap.size≤b∧b<w.heap.size) w v a':=by
  unfold Hg at hf
  split at hf
  ·rename_i cs
   split at hf
   ·rename_i ds iw
    simp only[bQ]at hf
    subst hf
    have hm:=Ey iw
    simp only[U0]at hr
    cases h with
    | agg arr _ hl hc=>
      refine .agg arr ds (by rw[hl,hm.1]) fun i u d h1 h2=>?_
      have ab:i<cs.length:=by rw[hm.1];exact Bv h2
      have h3:cs[i]? =some cs[i]:=bN ab
      exact Rz I (hc i u _ h1 h3) (hm.2 i _ d h3 h2) (List.all_eq_true.1 hr _ (bO h3))
   ·cases hf
  ·rename_i ar
   refine Rz I h hf ?_
   unfold U0 at hr
   split at hr
   ·rename_i cs;exact absurd rfl (ar cs)
   ·exact hr
theorem Rx {W0:World} {C:Ctx} {w:World} (I:Inv W0 C w) {v:Value} {a a':Ac} (h:A4 C w v a) (hf:Tj C.H a=some a') (hr:Wj C.H a=true) :
    A4 (Ctx.imm fun b=>W0.heap.size≤b∧b<w.heap.size) w v a':=by
  unfold Tj at hf
  split at hf
  ·rename_i cs
   split at hf
   ·rename_i ds iw
    simp only[bQ]at hf
    subst hf
    have hm:=Ey iw
    simp only[Wj]at hr
    cases h with
    | tuple arr _ hl hc=>
      refine .tuple arr ds (by rw[hl,hm.1]) fun i u d h1 h2=>?_
      have ab:i<cs.length:=by rw[hm.1];exact Bv h2
      have h3:cs[i]? =some cs[i]:=bN ab
      exact Ry I (hc i u _ h1 h3) (hm.2 i _ d h3 h2) (List.all_eq_true.1 hr _ (bO h3))
   ·cases hf
  ·rename_i ar
   refine Ry I h hf ?_
   unfold Wj at hr
   split at hr
   ·rename_i cs;exact absurd rfl (ar cs)
   ·exact hr
def aresult (P:Program) (fr:Fr) (H:List Ap):ResultVar→Option Ac
  | .tmp t=>some (get fr t)
  | .cell a T=>match get fr a with
    | .ptr r k=>match H[r]? with
      | some (.box cs)=>if okT P T=true∧k+(if Et P T then Bl P T else 1)≤cs.length then some (D7 (Et P T) (Bl P T) (cs.drop k))else none
      | _=>none
    | _=>none
def aret:List Ac→Ac
  | [v]=>v
  | vs=>.tuple vs
def qret (P:Program) (fn:Func) (R:Ac→List Ap→Prop):Exit→Fr→List Ap→Prop
  | .normal,fr,H | .ret,fr,H=>match Ez (aresult P fr H) fn.results.toList with
    | some vs=>R (aret vs) H
    | none=>False
  | _,_,_=>False
def rfrz (R:Ac→Prop) (r:Ac) (H:List Ap):Prop:=
  match Tj H r with
  | some r'=>R r'
  | none=>False
def Ib:List Ac→Nat→Fr
  | [],_=>[]
  | a::r,i=>(i,a)::Ib r (i+1)
theorem Oo:∀ (args:List Ac) (i t:Nat),get (Ib args i) t=if i≤t then args.getD (t - i) .any else .any
  | [],i,t=>by simp[Ib,get]
  | a::r,i,t=>by
    simp only[Ib,get]
    by_cases h:i=t
    ·subst h;simp
    ·rw[if_neg h,Oo r (i+1) t]
     by_cases h2:i≤t
     ·rw[if_pos h2,if_pos (by omega),show t - i=(t - (i+1))+1 by omega];simp
     ·rw[if_neg h2,if_neg (by omega)]
theorem Ke {C:Ctx} {w:World} {vs:List Value} {args:List Ac} (h:F6 C w vs args) (k:Nat):Hm C w (vs.toArray++Array.replicate k undef) (Ib args 0):=by
  intro t
  rw[Oo]
  simp only[Nat.zero_le,if_true,Nat.sub_zero]
  by_cases ht:t<args.length
  ·have hv:t<vs.length:=by rw[h.1];exact ht
   have e1:(vs.toArray++Array.replicate k undef).getD t undef=vs[t]:=by
     rw[Array.getD_eq_getD_getElem?,Array.getElem?_append_left (by simpa using hv)]
     simp[hv]
   have e2:args.getD t .any=args[t]:=by simp[List.getD_eq_getElem?_getD,ht]
   rw[e1,e2]
   exact h.2 t _ _ (bN hv) (bN ht)
  ·have e2:args.getD t .any= .any:=by simp[List.getD_eq_getElem?_getD,Nat.le_of_not_lt ht]
   rw[e2];exact .any _
def Qi (tmps:Array Value):ResultVar→Sem Value
  | .tmp t=>pure (tmps.getD t undef)
  | .cell a t=>do loadVar t (← asAddr (tmps.getD a undef))
theorem S4 (fn:Func) (tmps:Array Value):results fn tmps=(do let vs ← fn.results.mapM (Qi tmps);pure (if h:vs.size=1 then vs[0]else .tuple vs)):=rfl
theorem S5 {W0:World} {C:Ctx} {w:World} (I:Inv W0 C w) {fr:Fr} {tmps:Array Value} (hF:Hm C w tmps fr) (rv:ResultVar) (a:Ac) (ha:aresult P fr C.H rv=some a) :
    ∃ v,(Qi tmps rv).run P w= .ok v w∧A4 C w v a:=by
  cases rv with
  | tmp t=>
    simp only[aresult,bQ]at ha
    subst ha
    exact⟨_,rfl,hF t⟩
  | cell p T=>
    simp only[aresult]at ha
    have hp:=hF p
    split at ha
    ·rename_i r k wy
     split at ha
     ·rename_i cs fj
      by_cases hc:okT P T=true∧k+(if Et P T then Bl P T else 1)≤cs.length
      ·rw[if_pos hc,bQ]at ha
       subst ha
       rw[wy]at hp
       have hl:J6 P T (.ptr r k) C.H (fun v=>v=D7 (Et P T) (Bl P T) (cs.drop k)):=by
         unfold J6
         simp only[fj]
         exact⟨hc.1,hc.2,trivial⟩
       obtain⟨v,a',h1,h2,h3⟩:=(Ol (P:=P) I hp hl).ex
       subst h3
       refine⟨v,?_,h2⟩
       cases hv:tmps.getD p undef with
       | pointer o=>
         cases o with
         | none=>rw[hv]at hp;cases hp
         | some ad=>
           rw[hv]at h1
           simpa[Instr.loadAt,Instr.sureAddr,Qi,hv,asAddr]using h1
       | _=>rw[hv]at hp;cases hp
      ·rw[if_neg hc]at ha;cases ha
     ·cases ha
    ·cases ha
theorem Nd {W0:World} {C:Ctx} {w:World} (I:Inv W0 C w) {fr:Fr} {tmps:Array Value} (hF:Hm C w tmps fr):∀ (l:List ResultVar) (vs:List Ac),Ez (aresult P fr C.H) l=some vs→
    ∃ us:List Value,(l.mapM (Qi tmps)).run P w= .ok us w∧F6 C w us vs
  | [],vs,h=>by simp only[Ez,bQ]at h;subst h;exact⟨[],by simp,rfl,by simp⟩
  | rv::l,vs,h=>by
    simp only[Ez]at h
    split at h
    ·rename_i y ys h1 h2
     simp only[bQ]at h
     subst h
     obtain⟨v,e1,e2⟩:=S5 (P:=P) I hF rv y h1
     obtain⟨us,e3,e4⟩:=Nd I hF l ys h2
     refine⟨v::us,?_,by simp[e4.1],fun i u a ha hb=>?_⟩
     ·rw[List.mapM_cons]
      simp only[Sem.run_bind,e1,Result.andThen_ok,e3,Sem.run_pure]
     ·match i,ha,hb with
      | 0,ha,hb=>simp at ha hb;subst ha hb;exact e2
      | i+1,ha,hb=>exact e4.2 i u a (by simpa using ha) (by simpa using hb)
    ·cases h
theorem Hs {W0:World} {C:Ctx} {w:World} (I:Inv W0 C w) {fn:Func} {fr:Fr} {tmps:Array Value} (hF:Hm C w tmps fr) {vs:List Ac} (h:Ez (aresult P fr C.H) fn.results.toList=some vs) :
    ∃ v,(results fn tmps).run P w= .ok v w∧A4 C w v (aret vs):=by
  obtain⟨us,h1,h2⟩:=Nd (P:=P) I hF _ _ h
  have aj:(results fn tmps).run P w= .ok (if h:us.toArray.size=1 then us.toArray[0]else .tuple us.toArray) w:=by
    rw[S4,Array.mapM_eq_mapM_toList]
    simp only[Sem.run_bind,Sem.run_map,h1,Result.andThen_ok,Sem.run_pure]
  refine⟨_,aj,?_⟩
  match us,vs,h2 with
  | [],[],h2=>exact .tuple #[] [] rfl (by simp)
  | [u],[v],h2=>exact h2.2 0 u v rfl rfl
  | u::u2::us,v::v2::vs,h2=>
    have:¬ ((u::u2::us).toArray.size=1):=by simp
    rw[dif_neg this]
    exact .tuple _ _ (by simpa using h2.1) fun i x c a b=>h2.2 i x c (by simpa using a) b
  | [],_::_,h2=>simp[F6]at h2
  | _::_,[],h2=>simp[F6]at h2
  | [_],_::_::_,h2=>simp[F6]at h2
  | _::_::_,[_],h2=>simp[F6]at h2
theorem Aq.intro {f:FuncId} {fn:Func} {c:Code} {n:Nat} {args:List Ac} {R:Ac→Prop} (hf:P.funcs[f]? =some fn) (hb:fn.body=some c) (hn:fn.ntmps=n) (hlen:args.length≤n)
    (h:AWP none P n c (qret P fn (rfrz R)) [] (Ib args 0) []):Aq P f args R:=by
  intro A w vs hA cy
  refine calls_of_wp hf hb ?_
  have cz:(vs.toArray++Array.replicate (fn.ntmps - vs.toArray.size) undef).size=n:=by
    have:=cy.1
    simp only[Array.size_append,List.size_toArray,Array.size_replicate];omega
  have I0:Inv w (Ctx.imm A) w:=⟨.refl _ _,hA,fun b hb _=>hb,by simp[Ctx.imm],by simp[Ctx.imm],by simp[Ctx.imm]⟩
  refine wp_mono (wpIn_wide.1 <| h w A [] [] _ w ⟨Ctx.imm A,rfl,rfl,I0,Ke cy _,.nil,cz,rfl⟩) ?_
  intro e a' w' ⟨fr',H',hq,hR⟩
  obtain⟨C,rfl,dw,I,hF,_,_,hd⟩:=hR.ex
  have key:∀ (h:match Ez (aresult P fr' C.H) fn.results.toList with | some vs=>rfrz R (aret vs) C.H | none=>False),a'.defers=[]∧∃ v,(results fn a'.tmps).run P w'= .ok v w'∧∃ v' r,Ending.returned v= .returned v'∧R r∧r.g2=true∧Below w.heap.size w w'∧
   A4 (Ctx.imm fun b=>A b∨(w.heap.size≤b∧b<w'.heap.size)) w' v' r:=by
    intro h
    split at h
    ·rename_i rs mh
     obtain⟨v,h1,h2⟩:=Hs (P:=P) I hF mh
     unfold rfrz at h
     split at h
     ·rename_i r hr
      have h3:=L4 I h2 hr
      refine⟨hd,v,h1,v,r,rfl,h,h3.1,I.below,A4.ground' (fun b hb=>?_) h3.2 h3.1⟩
      rcases hb with hb | hb
      ·by_cases ab:b<w.heap.size
       ·exact .inl (dw ▸ I.old b hb ab)
       ·exact .inr ⟨by omega,I.sub b hb⟩
      ·exact .inr hb
     ·exact h.elim
    ·exact h.elim
  cases e with
  | normal=>exact key hq
  | ret=>exact key hq
  | _=>exact hq.elim
def rfre (R:Ac→Prop) (r:Ac) (H:List Ap):Prop:=
  match Tj H r with
  | some r'=>R r'∧Wj H r=true
  | none=>False
theorem Ci.intro {f:FuncId} {fn:Func} {c:Code} {n:Nat} {args:List Ac} {R:Ac→Prop} (hf:P.funcs[f]? =some fn) (hb:fn.body=some c) (hn:fn.ntmps=n) (hlen:args.length≤n)
    (h:AWP none P n c (qret P fn (rfre R)) [] (Ib args 0) []):Ci P f args R:=by
  intro A w vs hA cy
  refine calls_of_wp hf hb ?_
  have cz:(vs.toArray++Array.replicate (fn.ntmps - vs.toArray.size) undef).size=n:=by
    have:=cy.1
    simp only[Array.size_append,List.size_toArray,Array.size_replicate];omega
  have I0:Inv w (Ctx.imm A) w:=⟨.refl _ _,hA,fun b hb _=>hb,by simp[Ctx.imm],by simp[Ctx.imm],by simp[Ctx.imm]⟩
  refine wp_mono (wpIn_wide.1 <| h w A [] [] _ w ⟨Ctx.imm A,rfl,rfl,I0,Ke cy _,.nil,cz,rfl⟩) ?_
  intro e a' w' ⟨fr',H',hq,hR⟩
  obtain⟨C,rfl,dw,I,hF,_,_,hd⟩:=hR.ex
  have key:∀ (h:match Ez (aresult P fr' C.H) fn.results.toList with | some vs=>rfre R (aret vs) C.H | none=>False),a'.defers=[]∧∃ v,(results fn a'.tmps).run P w'= .ok v w'∧∃ v' r,Ending.returned v= .returned v'∧R r∧r.g2=true∧Below w.heap.size w w'∧
   A4 (Ctx.imm fun b=>w.heap.size≤b∧b<w'.heap.size) w' v' r:=by
    intro h
    split at h
    ·rename_i rs mh
     obtain⟨v,h1,h2⟩:=Hs (P:=P) I hF mh
     unfold rfre at h
     split at h
     ·rename_i r hr
      exact⟨hd,v,h1,v,r,rfl,h.1,(L4 I h2 hr).1,I.below,Rx I h2 hr h.2⟩
     ·exact h.elim
    ·exact h.elim
  cases e with
  | normal=>exact key hq
  | ret=>exact key hq
  | _=>exact hq.elim
theorem Ci.pure {f:FuncId} {args:List Ac} {R:Ac→Prop} (h:Ci P f args R):Aq P f args R:=by
  intro A w vs hA hv
  exact(h A w vs hA hv).mono fun e w' ⟨v,r,h1,h2,h3,h4,h5⟩=>⟨v,r,h1,h2,h3,h4,A4.ground' (C:=Ctx.imm fun b=>w.heap.size≤b∧b<w'.heap.size) (C2:=Ctx.imm fun b=>A b∨(w.heap.size≤b∧b<w'.heap.size)) (fun b hb=>Or.inr hb) h5 h3⟩
theorem Bg.Vu {f:FuncId} {args args':List Ac} {st:List Fr} {H:List Ap} {K:Ac→List Ap→Prop} {R:Ac→Prop} (hc:∀ (args:Array Value) (w:World),(callFunc f args).run P w= .ok (.enter f args) w)
    (spec:Ci P f args' R) (ha:Ez (Hg H) args=some args') (h:∀ r,R r→K r H):Bg P (.func f []) args st H K:=by
  intro W0 C w outs fv vs I hH hO hf hl hv
  subst hH
  cases hf with
  | func _ caps _ c7 _=>
    have:caps=#[]:=Array.eq_empty_of_size_eq_zero (by simpa using c7)
    subst this
    refine .inl ⟨f,#[],rfl,hc,?_⟩
    have hm:=Ey ha
    have cy:F6 (Ctx.imm fun b=>C.A b∨(W0.heap.size≤b∧b<w.heap.size)) w vs args':=by
      refine⟨by rw[hl,hm.1],fun i v a h1 h2=>?_⟩
      have ab:i<args.length:=by rw[hm.1];exact Bv h2
      exact(Jw I (hv i v _ h1 (bN ab)) (hm.2 i _ a (bN ab) h2)).2
    rw[show vs.toArray++#[]=vs.toArray by simp]
    refine(spec _ w vs (fun b hb=>?_) cy).mono fun e w' ⟨v,r,he,hR,hg,hb,hr⟩=>?_
    ·rcases hb with hb | hb
     ·exact I.sub b hb
     ·exact hb.2
    ·have key:=I.grow (fun b=>w.heap.size≤b∧b<w'.heap.size) (fun b hb=>hb) hb
     exact⟨v,r,C.more fun b=>w.heap.size≤b∧b<w'.heap.size,he,h r hR,rfl,A4.ground' (C:=Ctx.imm fun b=>w.heap.size≤b∧b<w'.heap.size) (C2:=C.more fun b=>w.heap.size≤b∧b<w'.heap.size) (fun b hb=>Or.inr hb) hr hg,key.1,hO.mono key.2⟩
theorem Bg.snap {f:FuncId} {args args':List Ac} {st:List Fr} {H:List Ap} {K:Ac→List Ap→Prop} {R:Ac→Prop} (hc:∀ (args:Array Value) (w:World),(callFunc f args).run P w= .ok (.enter f args) w)
    (spec:Aq P f args' R) (ha:Ez (Hg H) args=some args') (j1:∀ r,R r→r.f2=true) (h:∀ r,R r→K r H):Bg P (.func f []) args st H K:=by
  intro W0 C w outs fv vs I hH hO hf hl hv
  subst hH
  cases hf with
  | func _ caps _ c7 _=>
    have:caps=#[]:=Array.eq_empty_of_size_eq_zero (by simpa using c7)
    subst this
    refine .inl ⟨f,#[],rfl,hc,?_⟩
    have hm:=Ey ha
    have cy:F6 (Ctx.imm fun b=>C.A b∨(W0.heap.size≤b∧b<w.heap.size)) w vs args':=by
      refine⟨by rw[hl,hm.1],fun i v a h1 h2=>?_⟩
      have ab:i<args.length:=by rw[hm.1];exact Bv h2
      exact(Jw I (hv i v _ h1 (bN ab)) (hm.2 i _ a (bN ab) h2)).2
    rw[show vs.toArray++#[]=vs.toArray by simp]
    refine(spec _ w vs (fun b hb=>?_) cy).mono fun e w' ⟨v,r,he,hR,hg,hb,hr⟩=>?_
    ·rcases hb with hb | hb
     ·exact I.sub b hb
     ·exact hb.2
    ·have key:=I.grow (fun b=>w.heap.size≤b∧b<w'.heap.size) (fun b hb=>hb) hb
     exact⟨v,r,C.more fun b=>w.heap.size≤b∧b<w'.heap.size,he,h r hR,rfl,hr.flat (j1 r hR),key.1,hO.mono key.2⟩
theorem Bg.pure {f:FuncId} {args:List Ac} {st:List Fr} {H:List Ap} {K:Ac→List Ap→Prop} {R:Ac→Prop} (hc:∀ (args:Array Value) (w:World),(callFunc f args).run P w= .ok (.enter f args) w)
    (spec:Aq P f args R) (hg:args.all Ac.g2=true) (h:∀ r,R r→K r H):Bg P (.func f []) args st H K:=by
  intro W0 C w outs fv vs I hH hO hf hl hv
  subst hH
  cases hf with
  | func _ caps _ c7 _=>
    have:caps=#[]:=Array.eq_empty_of_size_eq_zero (by simpa using c7)
    subst this
    refine .inl ⟨f,#[],rfl,hc,?_⟩
    have cy:F6 (Ctx.imm C.A) w vs args:=
      ⟨hl,fun i v a h1 h2=>A4.ground' (C:=C) (C2:=Ctx.imm C.A) (fun b hb=>hb) (hv i v a h1 h2) (List.all_eq_true.1 hg a (bO h2))⟩
    rw[show vs.toArray++#[]=vs.toArray by simp]
    refine(spec _ w vs I.sub cy).mono fun e w' ⟨v,r,he,hR,hg,hb,hr⟩=>?_
    have key:=I.grow (fun b=>w.heap.size≤b∧b<w'.heap.size) (fun b hb=>hb) hb
    exact⟨v,r,C.more fun b=>w.heap.size≤b∧b<w'.heap.size,he,h r hR,rfl,A4.ground' (C:=Ctx.imm fun b=>C.A b∨(w.heap.size≤b∧b<w'.heap.size)) (C2:=C.more fun b=>w.heap.size≤b∧b<w'.heap.size) (fun b hb=>hb) hr hg,key.1,hO.mono key.2⟩
theorem Bg.inline {f:FuncId} {fn:Func} {c:Code} {n:Nat} {args caps:List Ac} {st:List Fr} {H:List Ap} {K:Ac→List Ap→Prop} (hc:∀ (args:Array Value) (w:World),(callFunc f args).run P w= .ok (.enter f args) w)
    (hf:P.funcs[f]? =some fn) (hb:fn.body=some c) (hn:fn.ntmps=n) (hlen:(args++caps).length≤n)
    (h:AWP none P n c (qret P fn K) st (Ib (args++caps) 0) H):Bg P (.func f caps) args st H K:=by
  intro W0 C w outs fv vs I hH hO qn hl hv
  subst hH
  cases qn with
  | func _ carr _ c7 tw=>
    refine .inl ⟨f,carr,rfl,hc,calls_of_wp hf hb ?_⟩
    have cy:F6 C w (vs++carr.toList) (args++caps):=by
      refine⟨by simp[hl,c7],fun i v a h1 h2=>?_⟩
      by_cases hi:i<vs.length
      ·rw[List.getElem?_append_left hi]at h1
       rw[List.getElem?_append_left (by omega)]at h2
       exact hv i v a h1 h2
      ·rw[List.getElem?_append_right (by omega)]at h1
       rw[List.getElem?_append_right (by omega),← hl]at h2
       exact tw _ v a (by simpa using h1) h2
    have e1:vs.toArray++carr=(vs++carr.toList).toArray:=by apply Array.ext';simp
    rw[e1]
    have cz:((vs++carr.toList).toArray++Array.replicate (fn.ntmps - (vs++carr.toList).toArray.size) undef).size=n:=by
      have:=cy.1
      simp only[Array.size_append,List.size_toArray,Array.size_replicate];omega
    refine wp_mono (wpIn_wide.1 <| h W0 C.A0 [] outs _ w ⟨C,rfl,rfl,I,Ke cy _,hO,cz,rfl⟩) ?_
    intro e a' w' ⟨fr',H',hq,hR⟩
    obtain⟨C',rfl,dw,I',hF,gg,_,hd⟩:=hR.ex
    have key:∀ (h:match Ez (aresult P fr' C'.H) fn.results.toList with | some vs=>K (aret vs) C'.H | none=>False),a'.defers=[]∧∃ v,(results fn a'.tmps).run P w'= .ok v w'∧
     ∃ v' r C2,Ending.returned v= .returned v'∧K r C2.H∧C2.A0=C.A0∧A4 C2 w' v' r∧Inv W0 C2 w'∧Cr C2 w' outs st:=by
      intro h
      split at h
      ·rename_i rs mh
       obtain⟨v,h1,h2⟩:=Hs (P:=P) I' hF mh
       exact⟨hd,v,h1,v,_,C',rfl,h,dw,h2,I',gg⟩
      ·exact h.elim
    cases e with
    | normal=>exact key hq
    | ret=>exact key hq
    | _=>exact hq.elim
end
def vle (v v':Ac):Prop:=match v' with | .any=>True | .sl _ xs=>v=v'∨(v= .nils∧xs=[]) | _=>v=v'
def N3:List Ac→List Ac→Prop
  | [],[]=>True
  | c::r,c'::r'=>vle c c'∧N3 r r'
  | _,_=>False
def G0 (o o':Ap):Prop:=
  match o',o with
  | .gone,_=>True
  | .box cs',.box cs=>N3 cs cs'
  | .row v' sz' xs',.row v sz xs=>v=v'∧sz=sz'∧xs=xs'
  | .mp es',.mp es=>es=es'
  | .mpo q' es',.mpo q es=>q=q'∧es=es'
  | .mpo q' es',.mp es=>q'=false∧es=es'
  | .it l' c',.it l c=>l=l'∧c=c'
  | .lp D' n' fr' ps' a' b' s' p',.lp D n fr ps a b s p=>D=D'∧n=n'∧fr=fr'∧ps=ps'∧a=a'∧b=b'∧s=s'∧p=p'
  | _,_=>False
def Pc:List Ap→List Ap→Prop
  | _,[]=>True
  | o::r,o'::r'=>G0 o o'∧Pc r r'
  | [],_::_=>False
def Q8 (fr:Fr):Fr→Prop
  | []=>True
  | (k,v)::r=>vle (get fr k) v∧Q8 fr r
def Ac.J0 (m:Nat):Ac→Bool
  | .own r _ _ _ | .ptr r _ | .rptr r _ _ _ | .map r | .iter r | .yld r=>Nat.blt r m
  | .agg _ | .tuple _ | .func _ _=>false
  | _=>true
def Ac.Ji (m:Nat):Ac→Bool
  | .func _ cs=>cs.all (Ac.J0 m)
  | v=>v.J0 m
def Ac.I7 (m:Nat):Ac→Bool
  | .agg cs=>cs.all (Ac.Ji m)
  | v=>v.Ji m
def Ac.Gc (m:Nat):Ac→Bool
  | .tuple vs=>vs.all (Ac.I7 m)
  | v=>v.I7 m
def Hk (m:Nat) (fr:Fr):Bool:=fr.all fun p=>p.2.Gc m
def M4 (m:Nat):Ap→Bool
  | .box cs=>cs.all (Ac.Gc m)
  | .mpo _ es=>es.all fun p=>p.2.Gc m
  | .lp _ _ fr _ _ _ _ _=>Hk m fr
  | _=>true
def Qy (m:Nat) (H:List Ap):Bool:=H.all (M4 m)
theorem Wy {m:Nat} {a:Ac} (h:a.J0 m=true):a.Gc m=true:=by
  cases a<;>simp_all [Ac.J0,Ac.Ji,Ac.I7,Ac.Gc]
theorem Ww {m:Nat} {a:Ac} (h:a.Ji m=true):a.Gc m=true:=by
  cases a<;>simp_all [Ac.J0,Ac.Ji,Ac.I7,Ac.Gc]
theorem Wx {m:Nat} {a:Ac} (h:a.I7 m=true):a.Gc m=true:=by
  cases a<;>simp_all [Ac.J0,Ac.Ji,Ac.I7,Ac.Gc]
theorem Fj:∀ {H H':List Ap},Pc H H'→∀ (r:Nat) o',H'[r]? =some o'→∃ o,H[r]? =some o∧G0 o o'
  | _,[],_,r,o',h=>by simp at h
  | o::H,o1::H',h,0,o',h'=>by simp at h';subst h';exact⟨o,rfl,h.1⟩
  | o::H,o1::H',h,r+1,o',h'=>by
    have:=Fj h.2 r o' (by simpa using h')
    simpa using this
  | [],_::_,h,_,_,_=>h.elim
theorem Kt {o o':Ap} (h:G0 o o'):o'≠.resv:=by
  rintro rfl
  cases o<;>simp[G0]at h
def Ctx.less (C:Ctx) (H':List Ap):Ctx:=
  {C with ρ:=fun r=>match H'[r]? with | none=>none | some .gone=>none | _=>C.ρ r,H:=H'}
theorem A4.less {C:Ctx} {w:World} {H':List Ap} (hs:Pc C.H H') {v:Value} {a:Ac} (h:A4 C w v a) :
    (H'.length=C.H.length∨a.Gc H'.length=true)→A4 (C.less H') w v a:=by
  have known:∀ r,C.known r→(H'.length=C.H.length∨r<H'.length)→(C.less H').known r:=by
    intro r hr ab
    have ab:r<H'.length:=by
      rcases ab with ab | ab
      ·rw[ab];exact hr.lt
      ·exact ab
    obtain⟨o,ho,hle⟩:=Fj hs r _ (bN ab)
    exact⟨_,bN ab,Kt hle⟩
  have lt:∀ {r:Nat} {b:Bool},(H'.length=C.H.length∨b=true)→(b=true→r<H'.length)→(H'.length=C.H.length∨r<H'.length):=by
    intro r b h1 h2
    rcases h1 with h1 | h1
    ·exact .inl h1
    ·exact .inr (h2 h1)
  induction h with
  | any v=>exact fun _=>.any v
  | bool b=>exact fun _=>.bool b
  | int k n=>exact fun _=>.int k n
  | str s=>exact fun _=>.str s
  | agg arr cs h _ ih=>
    intro hb
    refine .agg arr cs h fun i u c a b=>ih i u c a b ?_
    rcases hb with hb | hb
    ·exact .inl hb
    ·simp only[Ac.Gc,Ac.I7,List.all_eq_true]at hb
     exact .inr (Ww (hb c (bO b)))
  | tuple arr cs h _ ih=>
    intro hb
    refine .tuple arr cs h fun i u c a b=>ih i u c a b ?_
    rcases hb with hb | hb
    ·exact .inl hb
    ·simp only[Ac.Gc,List.all_eq_true]at hb
     exact .inr (Wx (hb c (bO b)))
  | nils=>exact fun _=>.nils
  | z0 a=>exact fun _=>.z0 a
  | sl0 a cap sz bc=>exact fun _=>.sl0 a cap sz bc
  | sl a len cap xs sz u bh hlen bq bc hA au bb hg af ag ih=>
    exact fun _=>.sl a len cap xs sz u bh hlen bq bc hA au bb hg af fun i k x c a b=>
      A4.ground (C:=C) (C2:=C.less H') (fun b hb=>⟨hb,rfl⟩) (ag i k x c a b) (Ac.Dx (hg x (bO a) c (bO b)))
  | own a len cap r v lo hr bq bc hv=>
    intro hb
    refine .own a len cap r v lo (known r hr (lt hb fun h=>by simpa[Ac.Gc,Ac.I7,Ac.Ji,Ac.J0]using h)) bq bc fun v' sz xs h'=>?_
    obtain⟨o,ho,hle⟩:=Fj hs r _ h'
    cases o<;>simp only[G0]at hle
    obtain⟨rfl,rfl,rfl⟩:=hle
    have hρ:(C.less H').ρ r=C.ρ r:=by
      simp only[Ctx.less]at h' ⊢;rw[h']
    rw[hρ]
    exact hv _ _ _ ho
  | eptr a cs u bh hA hg af ag ih=>
    exact fun _=>.eptr a cs u bh hA hg af fun j c b=>A4.ground (C:=C) (C2:=C.less H') (fun b hb=>⟨hb,rfl⟩) (ag j c b) (Ac.Dx (hg c (bO b)))
  | ptr a r k hr h=>
    intro hb
    refine .ptr a r k (known r hr (lt hb fun h=>by simpa[Ac.Gc,Ac.I7,Ac.Ji,Ac.J0]using h)) fun cs h'=>?_
    obtain⟨o,ho,hle⟩:=Fj hs r _ h'
    cases o<;>simp only[G0]at hle
    have hρ:(C.less H').ρ r=C.ρ r:=by
      simp only[Ctx.less]at h' ⊢;rw[h']
    rw[hρ]
    exact h _ ho
  | rptr a r v i k hr h=>
    intro hb
    refine .rptr a r v i k (known r hr (lt hb fun h=>by simpa[Ac.Gc,Ac.I7,Ac.Ji,Ac.J0]using h)) fun v' sz xs h'=>?_
    obtain⟨o,ho,hle⟩:=Fj hs r _ h'
    cases o<;>simp only[G0]at hle
    obtain⟨rfl,rfl,rfl⟩:=hle
    have hρ:(C.less H').ρ r=C.ρ r:=by
      simp only[Ctx.less]at h' ⊢;rw[h']
    rw[hρ]
    exact h _ _ _ ho
  | nilm=>exact fun _=>.nilm
  | pr φ a len cap h hs=>exact fun _=>.pr φ a len cap h hs
  | map b r hr h=>
    intro hb
    refine .map b r (known r hr (lt hb fun h=>by simpa[Ac.Gc,Ac.I7,Ac.Ji,Ac.J0]using h)) fun o' h' hl=>?_
    obtain⟨o,ho,hle⟩:=Fj hs r _ h'
    have hρ:(C.less H').ρ r=C.ρ r:=by
      cases o'<;>first | (cases hl;done) | (simp only[Ctx.less]at h' ⊢;rw[h'])
    rw[hρ]
    exact h _ ho (by cases o'<;>first | (cases hl;done) | (cases o<;>first | rfl | exact hle.elim))
  | vmap0=>exact fun _=>.vmap0
  | vmap b es entries clock hA hg hh ak ag ih=>
    exact fun _=>.vmap b es entries clock hA hg hh ak fun i e p a b=>A4.ground (C:=C) (C2:=C.less H') (fun b hb=>⟨hb,rfl⟩) (ag i e p a b) (Ac.Ee (hg p (bO b)))
  | func f arr cs h _ ih=>
    intro hb
    refine .func f arr cs h fun i u c a b=>ih i u c a b ?_
    rcases hb with hb | hb
    ·exact .inl hb
    ·simp only[Ac.Gc,Ac.I7,Ac.Ji,List.all_eq_true]at hb
     exact .inr (Wy (hb c (bO b)))
  | iter a r hr bh h=>
    intro hb
    refine .iter a r (known r hr (lt hb fun h=>by simpa[Ac.Gc,Ac.I7,Ac.Ji,Ac.J0]using h)) bh fun left cur h'=>?_
    obtain⟨o,ho,hle⟩:=Fj hs r _ h'
    cases o<;>simp only[G0]at hle
    have hρ:(C.less H').ρ r=C.ρ r:=by
      simp only[Ctx.less]at h' ⊢;rw[h']
    rw[hρ]
    exact h _ _ ho
  | yld b r hr h=>
    intro hb
    refine .yld b r (known r hr (lt hb fun h=>by simpa[Ac.Gc,Ac.I7,Ac.Ji,Ac.J0]using h)) fun o' h' hl=>?_
    obtain⟨o,ho,hle⟩:=Fj hs r _ h'
    cases o'<;>first | (cases hl;done) | skip
    cases o<;>simp only[G0]at hle
    have hρ:(C.less H').ρ r=C.ρ r:=by
      simp only[Ctx.less]at h' ⊢;rw[h']
    rw[hρ]
    exact h _ ho rfl
theorem Xu {m:Nat} {f:Fr} (h:Hk m f=true) (t:Nat):(get f t).Gc m=true:=by
  induction f with
  | nil=>rfl
  | cons p f ih=>
    obtain⟨j,v⟩:=p
    simp only[Hk,List.all_cons,Bool.and_eq_true]at h
    simp only[get]
    split
    ·exact h.1
    ·exact ih h.2
theorem Nh:∀ {cs cs':List Ac},N3 cs cs'→cs.length=cs'.length∧∀ (i:Nat) c',cs'[i]? =some c'→∃ c,cs[i]? =some c∧vle c c'
  | [],[],_=>⟨rfl,by simp⟩
  | c::r,c1::r',h=>by
    have ih:=Nh h.2
    refine⟨by simp[ih.1],fun i c' hi=>?_⟩
    match i,hi with
    | 0,hi=>simp at hi;subst hi;exact⟨c,rfl,h.1⟩
    | i+1,hi=>simpa using ih.2 i c' (by simpa using hi)
  | [],_::_,h=>h.elim
  | _::_,[],h=>h.elim
theorem T4 {C:Ctx} {w:World} {v:Value} {a a':Ac} (hl:vle a a') (h:A4 C w v a):A4 C w v a':=by
  unfold vle at hl
  split at hl
  ·exact .any v
  ·rcases hl with hl | ⟨rfl,rfl⟩
   ·subst hl;exact h
   ·cases h;exact .sl0 _ _ _ (Nat.zero_le _)
  ·subst hl;exact h
theorem Sub.weak {outer:List Fr} {fr fr':Fr} {H H':List Ap} (hH:Pc H H') (hF:Q8 fr fr')
    (hb:H'.length=H.length∨(Hk H'.length fr'=true∧Qy H'.length H'=true∧outer.all (Hk H'.length)=true)):Sub outer fr H fr' H':=by
  intro W0 A0 ds n outs a w R
  obtain⟨C,rfl,rfl,I,nh,hO,hn,hd⟩:=R.ex
  have gr:∀ {v:Value} {x:Ac},A4 C w v x→x.g2=true→A4 (C.less H') w v x:=fun h hg=>A4.ground (C:=C) (C2:=C.less H') (fun b hb=>⟨hb,rfl⟩) h hg
  refine⟨C.less H',rfl,rfl,⟨I.below,I.sub,I.old,fun r l hl=>?_,fun r r' l l' h1 h2 e=>?_,fun r o' dc=>?_⟩,fun t=>?_,⟨hO.1,fun i t f h1 h2 k=>?_⟩,hn,hd⟩
  ·simp only[Ctx.less]at hl ⊢
   split at hl
   ·cases hl
   ·cases hl
   ·rename_i h1 h2
    have ab:r<H'.length:=by
      rcases Nat.lt_or_ge r H'.length with h | h
      ·exact h
      ·exact absurd (List.getElem?_eq_none h) h1
    have:=I.sep r l hl
    exact⟨ab,this.2⟩
  ·have g:∀ {r l},(C.less H').ρ r=some l→C.ρ r=some l:=by
     intro r l h
     simp only[Ctx.less]at h
     split at h
     ·cases h
     ·cases h
     ·exact h
   exact I.inj _ _ _ _ (g h1) (g h2) e
  ·obtain⟨o,ho,hle⟩:=Fj hH r o' dc
   have hR:=I.objs r o ho
   simp only[Ctx.less]at dc
   cases o' with
   | resv=>exact absurd rfl (Kt hle)
   | gone=>show (C.less H').ρ r=none;simp only[Ctx.less,dc]
   | box cs'=>
     have hρ:(C.less H').ρ r=C.ρ r:=by simp only[Ctx.less,dc]
     cases o<;>simp only[G0]at hle
     rename_i cs
     obtain⟨l,arr,T,e1,e2,e3,e4⟩:=hR
     have hc:=Nh hle
     refine⟨l,arr,T,by rw[hρ];exact e1,e2,by rw[e3,hc.1],fun i u c' h1 h2=>?_⟩
     obtain⟨c,h3,h4⟩:=hc.2 i c' h2
     refine(T4 h4 (e4 i u c h1 h3)).less hH ?_
     rcases hb with hb | ⟨_,hb,_⟩
     ·exact .inl hb
     ·have:=List.all_eq_true.1 hb _ (bO dc)
      exact .inr (List.all_eq_true.1 this c' (bO h2))
   | row v' sz' xs'=>
     have hρ:(C.less H').ρ r=C.ρ r:=by simp only[Ctx.less,dc]
     cases o<;>simp only[G0]at hle
     obtain⟨rfl,rfl,rfl⟩:=hle
     obtain⟨e1,e2,e3,e4⟩:=hR
     refine⟨e1,e2,e3,?_⟩
     rcases e4 with⟨e4,e5⟩ | ⟨l,arr,T,e4,e5,e6,e7,e8⟩
     ·exact .inl ⟨e4,by rw[hρ];exact e5⟩
     ·refine .inr ⟨l,arr,T,by rw[hρ];exact e4,e5,e6,e7,fun i k x c h1 h2=>?_⟩
      obtain⟨u,hu,bl⟩:=e8 i k x c h1 h2
      exact⟨u,hu,gr bl (Ac.Dx (e3 x (bO h1) c (bO h2)))⟩
   | mp es'=>
     have hρ:(C.less H').ρ r=C.ρ r:=by simp only[Ctx.less,dc]
     cases o<;>simp only[G0]at hle
     subst hle
     obtain⟨l,en,cl,e1,e2,e3,e4,e5⟩:=hR
     exact⟨l,en,cl,by rw[hρ];exact e1,e2,e3,e4,fun i e p h1 h2=>gr (e5 i e p h1 h2) (Ac.Ee (e4 p (bO h2)))⟩
   | mpo q' es'=>
     have hρ:(C.less H').ρ r=C.ρ r:=by simp only[Ctx.less,dc]
     have x8:∀ p∈es',H'.length=C.H.length∨p.2.Gc H'.length=true:=fun p hp=>by
       rcases hb with hb | ⟨_,hb,_⟩
       ·exact .inl hb
       ·exact .inr (List.all_eq_true.1 (List.all_eq_true.1 hb _ (bO dc)) p hp)
     have key:∃ l en cl,C.ρ r=some l∧w.heap[l.b]? =some (.map en cl)∧F7 q' en cl es'∧∀ (i:Nat) (e:MapEntry) (p:Int×Ac),en[i]? =some e→es'[i]? =some p→A4 C w e.val p.2:=by
       cases o<;>simp only[G0]at hle
       ·obtain⟨rfl,rfl⟩:=hle;obtain⟨l,en,cl,e1,e2,e3,e4,e5⟩:=hR;exact⟨l,en,cl,e1,e2,e3,e5⟩
       ·obtain⟨rfl,rfl⟩:=hle;exact hR
     obtain⟨l,en,cl,e1,e2,e3,e5⟩:=key
     exact⟨l,en,cl,by rw[hρ];exact e1,e2,e3,fun i e p h1 h2=>(e5 i e p h1 h2).less hH (x8 p (bO h2))⟩
   | it l' c'=>
     have hρ:(C.less H').ρ r=C.ρ r:=by simp only[Ctx.less,dc]
     cases o<;>simp only[G0]at hle
     obtain⟨rfl,rfl⟩:=hle
     obtain⟨l,e1,e2⟩:=hR
     refine⟨l,by rw[hρ];exact e1,?_⟩
     rcases e2 with e2 | ⟨bm,seen,en,cl,e2,e3,e4,e5,e6,e7,e8⟩
     ·exact .inl e2
     ·refine .inr ⟨bm,seen,en,cl,e2,e3,e4,e5,e6,⟨e7.1,fun i e p h1 h2=>?_⟩,fun p hp=>?_⟩
      ·have:=e7.2 i e p h1 h2
       exact⟨this.1,this.2.1,gr this.2.2 (Ac.Ee this.2.1)⟩
      ·obtain⟨e,g1,g2,g3,g4,g5⟩:=e8 p hp
       exact⟨e,g1,g2,g3,g4,gr g5 (Ac.Ee g4)⟩
   | lp D' n' f' ps' a' b' s' p'=>
     have hρ:(C.less H').ρ r=C.ρ r:=by simp only[Ctx.less,dc]
     cases o<;>simp only[G0]at hle
     obtain⟨rfl,rfl,rfl,rfl,rfl,rfl,rfl,rfl⟩:=hle
     obtain⟨l,rec,h1,h0,h2,h3,h4,h5,h6,h7,h8,h9,ig,gh,jc⟩:=hR
     refine⟨l,rec,by rw[hρ];exact h1,h0,h2,h3,h4,h5,h6,h7,h8,h9,fun t=>(ig t).less hH ?_,gh,jc⟩
     rcases hb with hb | ⟨_,hb,_⟩
     ·exact .inl hb
     ·exact .inr (Xu (List.all_eq_true.1 hb _ (bO dc)) t)
  ·have c8:H'.length=C.H.length∨Hk H'.length fr'=true:=by
     rcases hb with hb | hb
     ·exact .inl hb
     ·exact .inr hb.1
   clear hb
   induction fr' with
   | nil=>exact .any _
   | cons p fr' ih=>
     obtain⟨k,v⟩:=p
     obtain⟨h1,h2⟩:=hF
     simp only[get]
     split
     ·rename_i e
      subst e
      refine(T4 h1 (nh k)).less hH ?_
      rcases c8 with c8 | c8
      ·exact .inl c8
      ·simp only[Hk,List.all_cons,Bool.and_eq_true]at c8
       exact .inr c8.1
     ·refine ih h2 ?_
      rcases c8 with c8 | c8
      ·exact .inl c8
      ·simp only[Hk,List.all_cons,Bool.and_eq_true]at c8
       exact .inr c8.2
  ·have hv:=hO.2 i t f h1 h2 k
   refine hv.less hH ?_
   rcases hb with hb | ⟨_,_,hb⟩
   ·exact .inl hb
   ·have:=List.all_eq_true.1 hb f (bO h2)
    refine .inr ?_
    clear hv h1 h2
    induction f with
    | nil=>rfl
    | cons p f ih=>
      obtain⟨j,v⟩:=p
      simp only[Hk,List.all_cons,Bool.and_eq_true]at this
      simp only[get]
      split
      ·exact this.1
      ·exact ih this.2
theorem Sub.ghost {outer:List Fr} {fr:Fr} {H:List Ap} (k sz:Nat) (hk:get fr k= .nils) (bb:1≤sz):Sub outer fr H ((k,.own H.length 0 0 0)::fr) (H++[.row 0 sz []]):=by
  intro W0 A0 ds n outs a w R
  obtain⟨C,rfl,rfl,I,hF,hO,hn,hd⟩:=R.ex
  have aq:F4 C.H C.H.length:=.inl rfl
  have key:=I.ghost _ aq (.row 0 sz []) (fun _=>⟨bb,by simp,by simp,.inl ⟨rfl,I.V5 aq⟩⟩)
  have hH:(C.ghost C.H.length (.row 0 sz [])).H=C.H++[.row 0 sz []]:=by simp[Ctx.ghost,Dy]
  refine⟨_,hH,rfl,key.1,fun t=>?_,hO.mono key.2,hn,hd⟩
  simp only[get]
  split
  ·rename_i e
   subst e
   have hv:=hF k
   rw[hk]at hv
   cases gn:a.tmps.getD k undef<;>rw[gn]at hv<;>cases hv
   refine .own _ _ _ _ _ _ ⟨_,Da aq,by simp⟩ (Nat.le_refl _) (Nat.zero_le _) fun v' sz' xs' h'=>?_
   simp only[Ctx.ghost]at h'
   rw[Da aq,bQ,Ap.row.injEq]at h'
   obtain⟨rfl,rfl,rfl⟩:=h'
   exact⟨Nat.le_refl _,fun _=>⟨by simp,.inl rfl⟩⟩
  ·exact(hF t).mono key.2
end Go.Ab
