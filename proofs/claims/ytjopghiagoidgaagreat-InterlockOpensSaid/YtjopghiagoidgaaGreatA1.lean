/- Our own texts: a layer of abstract values over the model, the walks of the functions, the plain laws; joined and shortened by a small program of our own (wip/dce2.py, wip/pack.py). -/
import Derived.Calls
import Derived.Tactics2
import Derived.Below
import Derived.Deep.LoopGhost
import Derived.KernelRfl
import Derived.Laws.Shifts
import Derived.Laws.CopyRow
import Derived.Laws.AppendOwn
import Derived.Laws.MakeOwn
import Derived.Laws.StructEq
import Derived.Maps.RangeRun
import Derived.Lib.SliceRun
import Derived.TacticsIn
import Derived.OrdersIn
import Derived.Sort.LoopGhostIn
import Derived.RangeFuncRecord
namespace Go
theorem Aom {p : Prop} [Decidable p] (h : decide p = false) : ¬ p := of_decide_eq_false h
theorem Aon {p : Prop} [Decidable p] (h : decide p = true) : p := of_decide_eq_true h
theorem Aoo {p : Prop} [Decidable p] (h : p) : decide p = true := decide_eq_true h
theorem Aop {p : Prop} [Decidable p] (h : ¬ p) : decide p = false := decide_eq_false h
theorem Aoq {α : Type} {l : List α} {i : Nat} (h : i < l.length) : l[i]? = some l[i] := List.getElem?_eq_getElem h
theorem Aor {α : Type} {l : List α} {i : Nat} {a : α} (h : l[i]? = some a) : a ∈ l := List.mem_of_getElem? h
theorem Aos {α β : Type} {a : α} {f : α → Option β} : (some a).bind f = f a := rfl
theorem Aot {α : Type} {a b : α} : (some a = some b) = (a = b) := Option.some.injEq a b
theorem Aou {α : Type} {a b : List α} : (a ++ b).length = a.length + b.length := List.length_append
theorem Aov {α : Type} {n : Nat} {a : α} : (List.replicate n a).length = n := List.length_replicate
theorem Aow {α β : Type} {l : List α} (f : α → β) : (l.map f).length = l.length := List.length_map f
theorem Aox {α : Type} {a : α} {s t : List α} : a ∈ s ++ t ↔ a ∈ s ∨ a ∈ t := List.mem_append
theorem Aoy {α : Type} {a b : α} (h : some a = some b) : a = b := Option.some.inj h
theorem Aoz {α : Type} {l : List α} {i : Nat} {a : α} : l[i]? = some a ↔ ∃ h : i < l.length, l[i] = a := List.getElem?_eq_some_iff
end Go
namespace Go.Ab
open Go Go.RowKit
inductive Ac where
  | any
  | bool (b:Bool)
  | int (k:IntKind) (n:Int)
  | str (s:ByteArray)
  | agg (cs:List Ac)
  | tuple (vs:List Ac)
  | nils
  | z0
  | sl (sz:Nat) (xs:List (List Ac))
  | own (r v lo len:Nat)
  | eptr (cs:List Ac)
  | ptr (r k:Nat)
  | rptr (r v i k:Nat)
  | nilm
  | map (r:Nat)
  | vmap (es:List (Int×Ac))
  | func (f:FuncId) (caps:List Ac)
  | iter (r:Nat)
  | yld (r:Nat)
  deriving Inhabited
abbrev Fr:=List (Nat×Ac)
def get:Fr→Nat→Ac
  | [],_=>.any
  | (k,v)::r,t=>if k=t then v else get r t
def Ac.g0:Ac→Bool
  | .any | .agg _ | .tuple _ | .own _ _ _ _ | .ptr _ _ | .rptr _ _ _ _ | .map _ | .func _ _ | .iter _ | .yld _=>false
  | _=>true
def Ac.g1:Ac→Bool
  | .agg cs=>cs.all Ac.g0
  | v=>v.g0
def Ac.g2:Ac→Bool
  | .tuple vs=>vs.all Ac.g1
  | v=>v.g1
def Ac.f0:Ac→Bool
  | .any | .bool _ | .int _ _ | .str _ | .nils | .z0 | .nilm=>true
  | _=>false
def Ac.f1:Ac→Bool
  | .agg cs=>cs.all Ac.f0
  | v=>v.f0
def Ac.f2:Ac→Bool
  | .tuple vs=>vs.all Ac.f1
  | v=>v.f1
inductive Ak where
  | box (cs:List Ac)
  | row (v sz:Nat) (xs:List (List Ac))
  | mp (es:List (Int×Ac))
  | mpo (q:Bool) (es:List (Int×Ac))
  | it (left:List (Int×Ac)) (cur:Option (Int×Ac))
  | lp (D n:Nat) (fr:Fr) (ps:Array Tmp) (asg body:Code) (st:LoopState) (p:Option Code)
  | gone
  | resv
def Ak.Ae5:Ak→Bool
  | .mp _ | .mpo _ _=>true
  | _=>false
def Ak.Af8:Ak→Bool
  | .lp _ _ _ _ _ _ _ _=>true
  | _=>false
structure Loc where
  b:Nat
  base:Nat
  cap:Nat
structure Ctx where
  A0:Nat→Prop
  A:Nat→Prop
  ρ:Nat→Option Loc
  H:List Ak
def Ctx.known (C:Ctx) (r:Nat):Prop:=∃ o,C.H[r]? =some o∧o≠.resv
def tri:Nat→Nat
  | 0=>0
  | n+1=>tri n+n+1
def zz (a:Int):Nat:=if 0≤a then 2*a.toNat else 2*(-a).toNat - 1
def pk (a b:Int):Int:=((tri (zz a+zz b)+zz b:Nat):Int)
def yN:Bool→Value→Int→Prop
  | false,v,n=>v= .int .i64 n
  | true,v,n=>∃ a b,v= .agg #[.int .i64 a,.int .i64 b]∧n=pk a b
structure R5 (q:Bool) (entries:Array MapEntry) (clock:Nat) (es:List (Int×Ac)):Prop where
  size:entries.size=es.length
  keys:∀ (i:Nat) (e:MapEntry) (p:Int×Ac),entries[i]? =some e→es[i]? =some p→yN q e.key p.1
  nodup:(es.map (·.1)).Nodup
  born:∀ e∈entries.toList,e.born<clock
  bnodup:(entries.toList.map (·.born)).Nodup
theorem R5.X4 {entries:Array MapEntry} {clock:Nat} {es:List (Int×Ac)} (h:R5 false entries clock es):∀ (i:Nat) (e:MapEntry) (p:Int×Ac),entries[i]? =some e→es[i]? =some p→e.key= .int .i64 p.1:=h.keys
inductive A9 (C:Ctx) (w:World):Value→Ac→Prop
  | any (v:Value):A9 C w v .any
  | bool (b:Bool):A9 C w (.bool b) (.bool b)
  | int (k:IntKind) (n:Int):A9 C w (.int k n) (.int k n)
  | str (s:ByteArray):A9 C w (.string s) (.str s)
  | agg (arr:Array Value) (cs:List Ac) (h:arr.size=cs.length)
      (hc:∀ (i:Nat) (u:Value) (c:Ac),arr[i]? =some u→cs[i]? =some c→A9 C w u c):A9 C w (.agg arr) (.agg cs)
  | tuple (arr:Array Value) (cs:List Ac) (h:arr.size=cs.length)
      (hc:∀ (i:Nat) (u:Value) (c:Ac),arr[i]? =some u→cs[i]? =some c→A9 C w u c):A9 C w (.tuple arr) (.tuple cs)
  | nils:A9 C w (.slice none 0 0) .nils
  | z0 (a:Option Addr):A9 C w (.slice a 0 0) .z0
  | sl0 (a:Option Addr) (cap sz:Nat) (cq:cap≤maxLen):A9 C w (.slice a 0 cap) (.sl sz [])
  | sl (a:Addr) (len cap:Nat) (xs:List (List Ac)) (sz:Nat) (u:Nat→Value)
   (de:a.spot=none) (hlen:len=xs.length) (dm:len≤cap) (cq:cap≤maxLen)
   (hA:C.A a.block) (cg:1≤sz) (cn:∀ x∈xs,x.length=sz) (hg:∀ x∈xs,∀ c∈x,Ac.g0 c=true)
   (au:∀ j,j<xs.length*sz→w.cell? ⟨a.block,a.off+j,none⟩=some (u j))
   (bc:∀ (i k:Nat) (x:List Ac) (c:Ac),xs[i]? =some x→x[k]? =some c→A9 C w (u (i*sz+k)) c) :
   A9 C w (.slice (some a) len cap) (.sl sz xs)
  | own (a:Option Addr) (len cap r v lo:Nat) (hr:C.known r) (dm:len≤cap) (cq:cap≤maxLen)
      (hv:∀ v' sz xs,C.H[r]? =some (.row v' sz xs)→v≤v'∧(v=v'→lo+len≤xs.length∧
        (cap=0∨∃ l,C.ρ r=some l∧a=some ⟨l.b,l.base+lo*sz,none⟩∧l.base+(lo+cap)*sz≤l.cap))) :
      A9 C w (.slice a len cap) (.own r v lo len)
  | eptr (a:Addr) (cs:List Ac) (u:Nat→Value) (de:a.spot=none) (hA:C.A a.block) (hg:∀ c∈cs,Ac.g0 c=true)
      (au:∀ j,j<cs.length→w.cell? ⟨a.block,a.off+j,none⟩=some (u j))
      (bc:∀ (j:Nat) (c:Ac),cs[j]? =some c→A9 C w (u j) c):A9 C w (.pointer (some a)) (.eptr cs)
  | ptr (a:Addr) (r k:Nat) (hr:C.known r)
      (h:∀ cs,C.H[r]? =some (.box cs)→∃ l,C.ρ r=some l∧a=⟨l.b,k,none⟩):A9 C w (.pointer (some a)) (.ptr r k)
  | rptr (a:Addr) (r v i k:Nat) (hr:C.known r)
      (h:∀ v' sz xs,C.H[r]? =some (.row v' sz xs)→v≤v'∧(v=v'→i<xs.length∧∃ l,C.ρ r=some l∧a=⟨l.b,l.base+i*sz+k,none⟩)) :
      A9 C w (.pointer (some a)) (.rptr r v i k)
  | nilm:A9 C w (.map none) .nilm
  | map (b r:Nat) (hr:C.known r) (h:∀ o,C.H[r]? =some o→o.Ae5=true→∃ l,C.ρ r=some l∧b=l.b):A9 C w (.map (some b)) (.map r)
  | vmap0:A9 C w (.map none) (.vmap [])
  | vmap (b:Nat) (es:List (Int×Ac)) (entries:Array MapEntry) (clock:Nat)
      (hA:C.A b) (hg:∀ p∈es,Ac.g1 p.2=true) (hh:w.heap[b]? =some (.map entries clock)) (cy:R5 false entries clock es)
      (bc:∀ (i:Nat) (e:MapEntry) (p:Int×Ac),entries[i]? =some e→es[i]? =some p→A9 C w e.val p.2):A9 C w (.map (some b)) (.vmap es)
  | func (f:FuncId) (arr:Array Value) (cs:List Ac) (h:arr.size=cs.length)
      (hc:∀ (i:Nat) (u:Value) (c:Ac),arr[i]? =some u→cs[i]? =some c→A9 C w u c):A9 C w (.func (.func f) #[] arr) (.func f cs)
  | iter (a:Addr) (r:Nat) (hr:C.known r) (de:a.off=0∧a.spot=none)
      (h:∀ left cur,C.H[r]? =some (.it left cur)→∃ l,C.ρ r=some l∧a.block=l.b):A9 C w (.pointer (some a)) (.iter r)
  | yld (b r:Nat) (hr:C.known r) (h:∀ o,C.H[r]? =some o→o.Af8=true→∃ l,C.ρ r=some l∧b=l.b):A9 C w (.func (.yield b) #[] #[]) (.yld r)
def D3 (C C':Ctx) (r:Nat):Prop:=
  match C'.H[r]? with
  | some (.box _)=>(∃ cs,C.H[r]? =some (.box cs))∧C'.ρ r=C.ρ r
  | some (.row v sz xs')=>(∃ xs,C.H[r]? =some (.row v sz xs)∧xs.length≤xs'.length∧C'.ρ r=C.ρ r)∨(∃ v0 sz0 xs0,C.H[r]? =some (.row v0 sz0 xs0)∧v0<v)
  | some (.mp _)=>(∃ o,C.H[r]? =some o∧o.Ae5=true)∧C'.ρ r=C.ρ r
  | some (.mpo _ _)=>(∃ o,C.H[r]? =some o∧o.Ae5=true)∧C'.ρ r=C.ρ r
  | some (.it _ _)=>(∃ l c,C.H[r]? =some (.it l c))∧C'.ρ r=C.ρ r
  | some (.lp _ _ _ _ _ _ _ _)=>(∃ o,C.H[r]? =some o∧o.Af8=true)∧C'.ρ r=C.ρ r
  | some .gone=>True
  | some .resv=>False
  | none=>False
theorem D3.known {C C':Ctx} {r:Nat} (h:D3 C C' r):C'.known r:=by
  unfold D3 at h
  split at h
  all_goals first
    | exact h.elim
    | (rename_i h1;exact⟨_,h1,by simp⟩)
    | (rename_i h1 h2;exact⟨_,h1,by simp⟩)
    | (rename_i h1 _;exact⟨_,h1,by simp⟩)
structure Fe (C:Ctx) (w:World) (C':Ctx) (w':World):Prop where
  imm:∀ b,C.A b→C'.A b∧w'.heap[b]? =w.heap[b]?
  len:C.H.length≤C'.H.length
  A0:C'.A0=C.A0
  obj:∀ r,C.known r→D3 C C' r
theorem Hm {w w':World} {a:Addr} (h:w'.heap[a.block]? =w.heap[a.block]?):w'.cell? a=w.cell? a:=by
  unfold World.cell?;rw[h]
theorem A9.mono {C C':Ctx} {w w':World} (m:Fe C w C' w') {v:Value} {a:Ac} (h:A9 C w v a):A9 C' w' v a:=by
  induction h with
  | any v=>exact .any v
  | bool b=>exact .bool b
  | int k n=>exact .int k n
  | str s=>exact .str s
  | agg arr cs h _ ih=>exact .agg arr cs h ih
  | tuple arr cs h _ ih=>exact .tuple arr cs h ih
  | nils=>exact .nils
  | z0 a=>exact .z0 a
  | sl0 a cap sz cq=>exact .sl0 a cap sz cq
  | sl a len cap xs sz u de hlen dm cq hA cg cn hg au bc ih=>
    refine .sl a len cap xs sz u de hlen dm cq (m.imm _ hA).1 cg cn hg (fun j hj=>?_) ih
    rw[Hm (w:=w)];exact au j hj
    exact(m.imm _ hA).2
  | own a len cap r v lo hr dm cq hv=>
    refine .own a len cap r v lo (m.obj r hr).known dm cq (fun v' sz xs h=>?_)
    have:=m.obj r hr
    unfold D3 at this
    rw[h]at this
    rcases this with⟨xs0,h0,hl,hρ⟩ | ⟨v0,sz0,xs0,h0,ah⟩
    ·have h1:=hv _ _ _ h0
     refine⟨h1.1,fun e=>?_⟩
     obtain⟨h2,h3⟩:=h1.2 e
     exact⟨by omega,by rw[hρ];exact h3⟩
    ·have h1:=hv _ _ _ h0
     exact⟨by omega,fun e=>by omega⟩
  | eptr a cs u de hA hg au bc ih=>
    refine .eptr a cs u de (m.imm _ hA).1 hg (fun j hj=>?_) ih
    rw[Hm (w:=w)];exact au j hj
    exact(m.imm _ hA).2
  | ptr a r k hr h=>
    refine .ptr a r k (m.obj r hr).known (fun cs h'=>?_)
    have:=m.obj r hr
    unfold D3 at this
    rw[h']at this
    obtain⟨⟨cs0,h0⟩,hρ⟩:=this
    rw[hρ];exact h _ h0
  | rptr a r v i k hr h=>
    refine .rptr a r v i k (m.obj r hr).known (fun v' sz xs h'=>?_)
    have:=m.obj r hr
    unfold D3 at this
    rw[h']at this
    rcases this with⟨xs0,h0,hl,hρ⟩ | ⟨v0,sz0,xs0,h0,ah⟩
    ·have h1:=h _ _ _ h0
     refine⟨h1.1,fun e=>?_⟩
     obtain⟨h2,h3⟩:=h1.2 e
     exact⟨by omega,by rw[hρ];exact h3⟩
    ·have h1:=h _ _ _ h0
     exact⟨by omega,fun e=>by omega⟩
  | nilm=>exact .nilm
  | map b r hr h=>
    refine .map b r (m.obj r hr).known (fun o h' hl=>?_)
    have:=m.obj r hr
    unfold D3 at this
    rw[h']at this
    cases o<;>first | (cases hl;done) | (obtain⟨⟨o0,h0,ub⟩,hρ⟩:=this;rw[hρ];exact h _ h0 ub)
  | vmap0=>exact .vmap0
  | vmap b es entries clock hA hg hh cy bc ih=>
    exact .vmap b es entries clock (m.imm _ hA).1 hg (by rw[(m.imm _ hA).2];exact hh) cy ih
  | func f arr cs h _ ih=>exact .func f arr cs h ih
  | iter a r hr de h=>
    refine .iter a r (m.obj r hr).known de (fun left cur h'=>?_)
    have:=m.obj r hr
    unfold D3 at this
    rw[h']at this
    obtain⟨⟨l0,c0,h0⟩,hρ⟩:=this
    rw[hρ];exact h _ _ h0
  | yld b r hr h=>
    refine .yld b r (m.obj r hr).known (fun o h' hl=>?_)
    have:=m.obj r hr
    unfold D3 at this
    cases o<;>first | (cases hl;done) | skip
    rw[h']at this
    obtain⟨⟨o0,h0,ub⟩,hρ⟩:=this
    rw[hρ];exact h _ h0 ub
def rU (C:Ctx) (w:World) (es:List MapEntry) (left:List (Int×Ac)):Prop:=
  es.length=left.length∧∀ (i:Nat) (e:MapEntry) (p:Int×Ac),es[i]? =some e→left[i]? =some p→e.key= .int .i64 p.1∧Ac.g1 p.2=true∧A9 C w e.val p.2
theorem rU.mono {C C':Ctx} {w w':World} (m:Fe C w C' w') {es:List MapEntry} {left:List (Int×Ac)} (h:rU C w es left):rU C' w' es left:=
  ⟨h.1,fun i e p a b=>⟨(h.2 i e p a b).1,(h.2 i e p a b).2.1,(h.2 i e p a b).2.2.mono m⟩⟩
def Yh (C:Ctx) (w:World) (r:Nat):Ak→Prop
  | .box cs=>∃ l arr T,C.ρ r=some l∧w.heap[l.b]? =some (.cells arr T (0,0))∧arr.size=cs.length∧
      ∀ (i:Nat) (u:Value) (c:Ac),arr[i]? =some u→cs[i]? =some c→A9 C w u c
  | .row _ sz xs=>1≤sz∧(∀ x∈xs,x.length=sz)∧(∀ x∈xs,∀ c∈x,Ac.g0 c=true)∧((xs=[]∧C.ρ r=none)∨∃ l arr T,C.ρ r=some l∧w.heap[l.b]? =some (.cells arr T (0,0))∧
      arr.size=l.cap∧l.base+xs.length*sz≤l.cap∧∀ (i k:Nat) (x:List Ac) (c:Ac),xs[i]? =some x→x[k]? =some c→∃ u,arr[l.base+(i*sz+k)]? =some u∧A9 C w u c)
  | .mp es=>∃ l entries clock,C.ρ r=some l∧w.heap[l.b]? =some (.map entries clock)∧R5 false entries clock es∧(∀ p∈es,Ac.g1 p.2=true)∧
      ∀ (i:Nat) (e:MapEntry) (p:Int×Ac),entries[i]? =some e→es[i]? =some p→A9 C w e.val p.2
  | .mpo q es=>∃ l entries clock,C.ρ r=some l∧w.heap[l.b]? =some (.map entries clock)∧R5 q entries clock es∧
      ∀ (i:Nat) (e:MapEntry) (p:Int×Ac),entries[i]? =some e→es[i]? =some p→A9 C w e.val p.2
  | .it left cur=>∃ l,C.ρ r=some l∧((left=[]∧cur=none∧∃ s n k,w.heap[l.b]? =some (.mapIter none s n k))∨
      ∃ bm seen entries clock,w.heap[l.b]? =some (.mapIter (some bm) clock seen clock)∧C.A bm∧w.heap[bm]? =some (.map entries clock)∧
        (∀ e∈entries.toList,e.born<clock)∧(entries.toList.map (·.born)).Nodup∧
        rU C w (entries.toList.filter fun e=>!seen.contains e.born) left∧
        (∀ p,cur=some p→∃ e∈entries.toList,seen.back? =some e.born∧e.key= .int .i64 p.1∧Ac.g1 p.2=true∧A9 C w e.val p.2))
  | .lp D n fr ps asg body st p=>∃ l rec,C.ρ r=some l∧l.b=D+1∧w.heap[l.b]? =some (.loop rec)∧rec.params=ps∧rec.assign=asg∧rec.body=body∧rec.state=st∧rec.pending=p∧rec.defers=D∧rec.tmps.size=n∧
      (∀ t,A9 C w (rec.tmps.getD t undef) (get fr t))∧C.A D∧w.heap[D]? =some (.deferred (some []))
  | .gone=>C.ρ r=none
  | .resv=>C.ρ r=none
theorem Yh.mono {C C':Ctx} {w w':World} (m:Fe C w C' w') {r:Nat} {o:Ak} (h:Yh C w r o) (hρ:C'.ρ r=C.ρ r)
    (hh:∀ l,C.ρ r=some l→w'.heap[l.b]? =w.heap[l.b]?):Yh C' w' r o:=by
  cases o with
  | box cs=>
    obtain⟨l,arr,T,h1,h2,h3,h4⟩:=h
    exact⟨l,arr,T,by rw[hρ];exact h1,by rw[hh l h1];exact h2,h3,fun i u c a b=>(h4 i u c a b).mono m⟩
  | row v sz xs=>
    obtain⟨h0,yz,uo,h⟩:=h
    refine⟨h0,yz,uo,?_⟩
    rcases h with⟨h1,h2⟩ | ⟨l,arr,T,h1,h2,h3,h4,h5⟩
    ·exact .inl ⟨h1,by rw[hρ];exact h2⟩
    ·refine .inr ⟨l,arr,T,by rw[hρ];exact h1,by rw[hh l h1];exact h2,h3,h4,fun i k x c a b=>?_⟩
     obtain⟨u,hu,hr⟩:=h5 i k x c a b
     exact⟨u,hu,hr.mono m⟩
  | mp es=>
    obtain⟨l,en,cl,h1,h2,h3,hg,h4⟩:=h
    exact⟨l,en,cl,by rw[hρ];exact h1,by rw[hh l h1];exact h2,h3,hg,fun i e p a b=>(h4 i e p a b).mono m⟩
  | mpo q es=>
    obtain⟨l,en,cl,h1,h2,h3,h4⟩:=h
    exact⟨l,en,cl,by rw[hρ];exact h1,by rw[hh l h1];exact h2,h3,fun i e p a b=>(h4 i e p a b).mono m⟩
  | it left cur=>
    obtain⟨l,h1,h⟩:=h
    refine⟨l,by rw[hρ];exact h1,?_⟩
    rcases h with⟨h2,ym,s,n,k,h3⟩ | ⟨bm,seen,en,clock,h2,h3,h4,h5,h6,h7,h8⟩
    ·exact .inl ⟨h2,ym,s,n,k,by rw[hh l h1];exact h3⟩
    ·refine .inr ⟨bm,seen,en,clock,by rw[hh l h1];exact h2,(m.imm _ h3).1,by rw[(m.imm _ h3).2];exact h4,h5,h6,h7.mono m,fun p hp=>?_⟩
     obtain⟨e,g1,g2,g3,g4,g5⟩:=h8 p hp
     exact⟨e,g1,g2,g3,g4,g5.mono m⟩
  | lp D n fr ps asg body st p=>
    obtain⟨l,rec,h1,h0,h2,h3,h4,h5,h6,h7,h8,h9,pr,um,qi⟩:=h
    exact⟨l,rec,by rw[hρ];exact h1,h0,by rw[hh l h1];exact h2,h3,h4,h5,h6,h7,h8,h9,fun t=>(pr t).mono m,(m.imm _ um).1,by rw[(m.imm _ um).2];exact qi⟩
  | gone=>show C'.ρ r=none;rw[hρ];exact h
  | resv=>show C'.ρ r=none;rw[hρ];exact h
structure Inv (W0:World) (C:Ctx) (w:World):Prop where
  below:Below W0.heap.size W0 w
  sub:∀ b,C.A b→b<w.heap.size
  old:∀ b,C.A b→b<W0.heap.size→C.A0 b
  sep:∀ r l,C.ρ r=some l→r<C.H.length∧W0.heap.size≤l.b∧l.b<w.heap.size∧¬ C.A l.b
  inj:∀ r r' l l',C.ρ r=some l→C.ρ r'=some l'→l.b=l'.b→r=r'
  objs:∀ (r:Nat) o,C.H[r]? =some o→Yh C w r o
theorem Inv.step {W0:World} {C C':Ctx} {w w':World} (I:Inv W0 C w) (m:Fe C w C' w') (hb:Below W0.heap.size W0 w')
    (iw:∀ b,C'.A b→b<w'.heap.size) (hold:∀ b,C'.A b→b<W0.heap.size→C.A0 b) (hsep:∀ r l,C'.ρ r=some l→r<C'.H.length∧W0.heap.size≤l.b∧l.b<w'.heap.size∧¬ C'.A l.b)
    (hinj:∀ r r' l l',C'.ρ r=some l→C'.ρ r'=some l'→l.b=l'.b→r=r')
    (hobj:∀ (r:Nat) o,C'.H[r]? =some o→Yh C' w' r o∨(C.H[r]? =some o∧C'.ρ r=C.ρ r∧∀ l,C.ρ r=some l→w'.heap[l.b]? =w.heap[l.b]?)) :
    Inv W0 C' w':=by
  refine⟨hb,iw,by rw[m.A0];exact hold,hsep,hinj,fun r o h=>?_⟩
  rcases hobj r o h with h' | ⟨h1,h2,h3⟩
  ·exact h'
  ·exact(I.objs r o h1).mono m h2 h3
theorem Ac.H5 {a:Ac} (h:a.g0=true):a.g2=true:=by
  cases a<;>simp_all [Ac.g0,Ac.g1,Ac.g2]
theorem Ac.Ach {a:Ac} (h:a.g0=true):a.g1=true:=by
  cases a<;>simp_all [Ac.g0,Ac.g1]
theorem Ac.Jp {a:Ac} (h:a.g1=true):a.g2=true:=by
  cases a<;>simp_all [Ac.g0,Ac.g1,Ac.g2]
theorem A9.ground {C C2:Ctx} {w w2:World} (m:∀ b,C.A b→C2.A b∧w2.heap[b]? =w.heap[b]?) {v:Value} {a:Ac} (h:A9 C w v a) :
    a.g2=true→A9 C2 w2 v a:=by
  induction h with
  | any v=>exact fun _=>.any v
  | bool b=>exact fun _=>.bool b
  | int k n=>exact fun _=>.int k n
  | str s=>exact fun _=>.str s
  | agg arr cs h _ ih=>
    intro hg
    simp only[Ac.g2,Ac.g1,List.all_eq_true]at hg
    exact .agg arr cs h fun i u c a b=>ih i u c a b (Ac.H5 (hg c (Aor b)))
  | tuple arr cs h _ ih=>
    intro hg
    simp only[Ac.g2,List.all_eq_true]at hg
    exact .tuple arr cs h fun i u c a b=>ih i u c a b (Ac.Jp (hg c (Aor b)))
  | nils=>exact fun _=>.nils
  | z0 a=>exact fun _=>.z0 a
  | sl0 a cap sz cq=>exact fun _=>.sl0 a cap sz cq
  | sl a len cap xs sz u de hlen dm cq hA cg cn hg au bc ih=>
    intro _
    refine .sl a len cap xs sz u de hlen dm cq (m _ hA).1 cg cn hg (fun j hj=>?_) fun i k x c a b=>ih i k x c a b (Ac.H5 (hg x (Aor a) c (Aor b)))
    rw[Hm (w:=w)];exact au j hj
    exact(m _ hA).2
  | own=>intro h;simp[Ac.g2,Ac.g1,Ac.g0]at h
  | eptr a cs u de hA hg au bc ih=>
    intro _
    refine .eptr a cs u de (m _ hA).1 hg (fun j hj=>?_) fun j c b=>ih j c b (Ac.H5 (hg c (Aor b)))
    rw[Hm (w:=w)];exact au j hj
    exact(m _ hA).2
  | ptr=>intro h;simp[Ac.g2,Ac.g1,Ac.g0]at h
  | rptr=>intro h;simp[Ac.g2,Ac.g1,Ac.g0]at h
  | nilm=>exact fun _=>.nilm
  | map=>intro h;simp[Ac.g2,Ac.g1,Ac.g0]at h
  | vmap0=>exact fun _=>.vmap0
  | vmap b es entries clock hA hg hh cy bc ih=>
    intro _
    exact .vmap b es entries clock (m _ hA).1 hg (by rw[(m _ hA).2];exact hh) cy fun i e p a b=>ih i e p a b (Ac.Jp (hg p (Aor b)))
  | func=>intro h;simp[Ac.g2,Ac.g1,Ac.g0]at h
  | iter=>intro h;simp[Ac.g2,Ac.g1,Ac.g0]at h
  | yld=>intro h;simp[Ac.g2,Ac.g1,Ac.g0]at h
theorem A9.flat {C C2:Ctx} {w w2:World} {v:Value} {a:Ac} (h:A9 C w v a):a.f2=true→A9 C2 w2 v a:=by
  induction h with
  | any v=>exact fun _=>.any v
  | bool b=>exact fun _=>.bool b
  | int k n=>exact fun _=>.int k n
  | str s=>exact fun _=>.str s
  | agg arr cs h _ ih=>
    intro hg
    simp only[Ac.f2,Ac.f1,List.all_eq_true]at hg
    refine .agg arr cs h fun i u c a b=>ih i u c a b ?_
    have:=hg c (Aor b)
    cases c<;>simp_all [Ac.f0,Ac.f1,Ac.f2]
  | tuple arr cs h _ ih=>
    intro hg
    simp only[Ac.f2,List.all_eq_true]at hg
    refine .tuple arr cs h fun i u c a b=>ih i u c a b ?_
    have:=hg c (Aor b)
    cases c<;>simp_all [Ac.f0,Ac.f1,Ac.f2]
  | nils=>exact fun _=>.nils
  | z0 a=>exact fun _=>.z0 a
  | nilm=>exact fun _=>.nilm
  | sl0=>intro h;simp[Ac.f2,Ac.f1,Ac.f0]at h
  | sl=>intro h;simp[Ac.f2,Ac.f1,Ac.f0]at h
  | own=>intro h;simp[Ac.f2,Ac.f1,Ac.f0]at h
  | eptr=>intro h;simp[Ac.f2,Ac.f1,Ac.f0]at h
  | ptr=>intro h;simp[Ac.f2,Ac.f1,Ac.f0]at h
  | rptr=>intro h;simp[Ac.f2,Ac.f1,Ac.f0]at h
  | map=>intro h;simp[Ac.f2,Ac.f1,Ac.f0]at h
  | vmap0=>intro h;simp[Ac.f2,Ac.f1,Ac.f0]at h
  | vmap=>intro h;simp[Ac.f2,Ac.f1,Ac.f0]at h
  | func=>intro h;simp[Ac.f2,Ac.f1,Ac.f0]at h
  | iter=>intro h;simp[Ac.f2,Ac.f1,Ac.f0]at h
  | yld=>intro h;simp[Ac.f2,Ac.f1,Ac.f0]at h
theorem D3.same {C C':Ctx} {r:Nat} (hk:C.known r) (h:C'.H[r]? =C.H[r]?) (hρ:C'.ρ r=C.ρ r):D3 C C' r:=by
  unfold D3
  rw[h]
  obtain⟨o,ho,bj⟩:=hk
  rw[ho]
  cases o with
  | box cs=>exact ⟨⟨cs,rfl⟩,hρ⟩
  | row v sz xs=>exact .inl ⟨xs,rfl,Nat.le_refl _,hρ⟩
  | mp es=>exact ⟨⟨_,rfl,rfl⟩,hρ⟩
  | mpo q es=>exact ⟨⟨_,rfl,rfl⟩,hρ⟩
  | it l c=>exact ⟨⟨l,c,rfl⟩,hρ⟩
  | lp=>exact ⟨⟨_,rfl,rfl⟩,hρ⟩
  | gone=>trivial
  | resv=>exact absurd rfl bj
theorem Ctx.known.lt {C:Ctx} {r:Nat} (h:C.known r):r<C.H.length:=by
  obtain⟨o,ho,_⟩:=h
  exact(Aoz.1 ho).1
theorem Fe.refl (C:Ctx) (w:World):Fe C w C w:=⟨fun _ h=>⟨h,rfl⟩,Nat.le_refl _,rfl,fun _ h=>.same h rfl rfl⟩
theorem Fe.trans {C1 C2 C3:Ctx} {w1 w2 w3:World} (m:Fe C1 w1 C2 w2) (k:Fe C2 w2 C3 w3):Fe C1 w1 C3 w3:=by
  refine⟨fun b h=>⟨(k.imm _ (m.imm _ h).1).1,(k.imm _ (m.imm _ h).1).2.trans (m.imm _ h).2⟩,Nat.le_trans m.len k.len,k.A0.trans m.A0,fun r hr=>?_⟩
  have h1:=m.obj r hr
  have h2:=k.obj r h1.known
  unfold D3 at h1 h2 ⊢
  cases h3:C3.H[r]? with
  | none=>rw[h3]at h2;exact h2.elim
  | some o=>
    rw[h3]at h2
    cases o with
    | box cs=>
      obtain⟨⟨c2,e2⟩,p2⟩:=h2
      rw[e2]at h1
      exact⟨h1.1,p2.trans h1.2⟩
    | row v sz xs=>
      rcases h2 with⟨xs2,e2,l2,p2⟩ | ⟨v0,sz0,xs0,e2,lt⟩
      ·rw[e2]at h1
       rcases h1 with⟨xs1,e1,l1,p1⟩ | ⟨v1,sz1,xs1,e1,lt1⟩
       ·exact .inl ⟨xs1,e1,by omega,p2.trans p1⟩
       ·exact .inr ⟨v1,sz1,xs1,e1,lt1⟩
      ·rw[e2]at h1
       rcases h1 with⟨xs1,e1,l1,p1⟩ | ⟨v1,sz1,xs1,e1,lt1⟩
       ·exact .inr ⟨v0,sz0,xs1,e1,lt⟩
       ·exact .inr ⟨v1,sz1,xs1,e1,by omega⟩
    | mp es=>
      obtain⟨⟨o2,e2,l2⟩,p2⟩:=h2
      rw[e2]at h1
      cases o2<;>first | (cases l2;done) | exact⟨h1.1,p2.trans h1.2⟩
    | mpo q es=>
      obtain⟨⟨o2,e2,l2⟩,p2⟩:=h2
      rw[e2]at h1
      cases o2<;>first | (cases l2;done) | exact⟨h1.1,p2.trans h1.2⟩
    | it l c=>
      obtain⟨⟨c2,d2,e2⟩,p2⟩:=h2
      rw[e2]at h1
      exact⟨h1.1,p2.trans h1.2⟩
    | lp=>
      obtain⟨⟨o2,e2,l2⟩,p2⟩:=h2
      rw[e2]at h1
      cases o2<;>first | (cases l2;done) | skip
      exact⟨h1.1,p2.trans h1.2⟩
    | gone=>trivial
    | resv=>exact h2.elim
def G9 (H:List Ak) (id:Nat) (o:Ak):List Ak:=if id=H.length then H++[o]else H.set id o
def Py (H:List Ak) (id:Nat):Prop:=id=H.length∨H[id]? =some .resv
theorem Gk {H:List Ak} {id:Nat} {o:Ak} (h:Py H id):(G9 H id o)[id]? =some o:=by
  unfold G9
  rcases h with h | h
  ·rw[if_pos h,h];simp
  ·have ah:=(Aoz.1 h).1
   rw[if_neg (by omega),List.getElem?_set_self ah]
theorem Ob {H:List Ak} {id r:Nat} {o:Ak} (_h:Py H id) (hr:r≠id):(G9 H id o)[r]? =H[r]?:=by
  unfold G9
  split
  ·rename_i e
   by_cases h1:r<H.length
   ·rw[List.getElem?_append_left h1]
   ·have h2:(H++[o]).length≤r:=by rw[Aou];simp;omega
    rw[List.getElem?_eq_none h2,List.getElem?_eq_none (Nat.le_of_not_lt h1)]
  ·rw[List.getElem?_set_ne (fun e=>hr e.symm)]
theorem Td {H:List Ak} {id:Nat} {o:Ak}:H.length≤(G9 H id o).length:=by
  unfold G9;split<;>simp
theorem vC {H:List Ak} {id:Nat} {o:Ak} (h:Py H id):id<(G9 H id o).length:=(Aoz.1 (Gk h)).1
def Ctx.set (C:Ctx) (r:Nat) (o:Ak):Ctx:={C with H:=C.H.set r o}
def Ctx.new (C:Ctx) (id:Nat) (o:Ak) (l:Loc):Ctx:={C with ρ:=fun r=>if r=id then some l else C.ρ r,H:=G9 C.H id o}
def Ctx.ghost (C:Ctx) (id:Nat) (o:Ak):Ctx:={C with H:=G9 C.H id o}
def Ctx.more (C:Ctx) (S:Nat→Prop):Ctx:={C with A:=fun b=>C.A b∨S b}
theorem Inv.put {W0:World} {C:Ctx} {w w':World} (I:Inv W0 C w) {r:Nat} {o o':Ak} {l:Loc} (hr:C.H[r]? =some o) (hρ:C.ρ r=some l)
    (hw:∀ b,b≠l.b→w'.heap[b]? =w.heap[b]?) (cn:w'.heap.size=w.heap.size) (hb:Below W0.heap.size W0 w')
    (hm:D3 C (C.set r o') r) (ho:Fe C w (C.set r o') w'→Yh (C.set r o') w' r o') :
    Inv W0 (C.set r o') w'∧Fe C w (C.set r o') w':=by
  have ah:r<C.H.length:=(I.sep r l hρ).1
  have m:Fe C w (C.set r o') w':=by
    refine⟨fun b hA=>⟨hA,hw b fun e=>(I.sep r l hρ).2.2.2 (e ▸ hA)⟩,by simp[Ctx.set],rfl,fun r' gg=>?_⟩
    by_cases e:r'=r
    ·subst e;exact hm
    ·exact .same gg (by simp only[Ctx.set];rw[List.getElem?_set_ne (fun h=>e h.symm)]) rfl
  refine⟨I.step m hb (fun b hA=>by rw[cn];exact I.sub b hA) I.old (fun r' l' h'=>?_) I.inj (fun r' o'' h'=>?_),m⟩
  ·have:=I.sep r' l' h'
   exact⟨by simp only[Ctx.set,List.length_set];exact this.1,this.2.1,by rw[cn];exact this.2.2.1,this.2.2.2⟩
  ·by_cases e:r'=r
   ·subst e
    simp only[Ctx.set,List.getElem?_set_self ah,Aot]at h'
    subst h'
    exact .inl (ho m)
   ·refine .inr ⟨?_,rfl,fun l' lh=>hw _ fun eb=>e (I.inj _ _ _ _ lh hρ eb)⟩
    simp only[Ctx.set]at h'
    rwa [List.getElem?_set_ne (fun h=>e h.symm)]at h'
theorem Py.unknown {C:Ctx} {id:Nat} (h:Py C.H id):¬ C.known id:=by
  rintro⟨o,ho,bj⟩
  rcases h with h | h
  ·rw[List.getElem?_eq_none (by omega)]at ho;cases ho
  ·rw[h]at ho;exact bj (Aoy ho).symm
theorem Inv.fresh {W0:World} {C:Ctx} {w w':World} (I:Inv W0 C w) (id:Nat) (bw:Py C.H id) (o:Ak) (l:Loc) (hl:w.heap.size≤l.b) (lh:l.b<w'.heap.size)
    (hw:∀ b,b<w.heap.size→w'.heap[b]? =w.heap[b]?) (hb:Below W0.heap.size W0 w')
    (ho:Fe C w (C.new id o l) w'→Yh (C.new id o l) w' id o) :
    Inv W0 (C.new id o l) w'∧Fe C w (C.new id o l) w':=by
  have hle:w.heap.size≤w'.heap.size:=by omega
  have m:Fe C w (C.new id o l) w':=by
    refine⟨fun b hA=>⟨hA,hw b (I.sub b hA)⟩,Td,rfl,fun r hr=>?_⟩
    have bj:r≠id:=fun e=>bw.unknown (e ▸ hr)
    exact .same hr (Ob bw bj) (by simp only[Ctx.new];rw[if_neg bj])
  refine⟨I.step m hb (fun b hA=>Nat.lt_of_lt_of_le (I.sub b hA) hle) I.old (fun r l' h'=>?_) (fun r r' l1 l2 h1 h2 e=>?_) (fun r o' h'=>?_),m⟩
  ·simp only[Ctx.new]at h' ⊢
   split at h'
   ·rename_i e
    simp only[Aot]at h'
    subst h'
    have:=I.below.size
    exact⟨by rw[e];exact vC bw,by omega,lh,fun hA=>by have:=I.sub _ hA;omega⟩
   ·have:=I.sep r l' h'
    exact⟨Nat.lt_of_lt_of_le this.1 Td,this.2.1,by omega,this.2.2.2⟩
  ·simp only[Ctx.new]at h1 h2
   split at h1<;>split at h2
   ·omega
   ·simp only[Aot]at h1;subst h1
    have:=(I.sep _ _ h2).2.2.1;omega
   ·simp only[Aot]at h2;subst h2
    have:=(I.sep _ _ h1).2.2.1;omega
   ·exact I.inj _ _ _ _ h1 h2 e
  ·simp only[Ctx.new]at h' ⊢
   by_cases e:r=id
   ·subst e
    rw[Gk bw,Aot]at h'
    subst h'
    exact .inl (ho m)
   ·rw[Ob bw e]at h'
    exact .inr ⟨h',by rw[if_neg e],fun l' hl''=>hw _ (I.sep _ _ hl'').2.2.1⟩
theorem Inv.x5 {W0:World} {C:Ctx} {w:World} (I:Inv W0 C w) {id:Nat} (bw:Py C.H id):C.ρ id=none:=by
  rcases bw with h | h
  ·cases hρ:C.ρ id with
   | none=>rfl
   | some l=>have:=(I.sep _ _ hρ).1;omega
  ·exact I.objs _ _ h
theorem Inv.ghost {W0:World} {C:Ctx} {w:World} (I:Inv W0 C w) (id:Nat) (bw:Py C.H id) (o:Ak) (ho:Fe C w (C.ghost id o) w→Yh (C.ghost id o) w id o) :
    Inv W0 (C.ghost id o) w∧Fe C w (C.ghost id o) w:=by
  have m:Fe C w (C.ghost id o) w:=⟨fun b hA=>⟨hA,rfl⟩,Td,rfl,fun r hr=>
    .same hr (Ob bw fun e=>bw.unknown (e ▸ hr)) rfl⟩
  refine⟨I.step m I.below I.sub I.old (fun r l' h'=>?_) I.inj (fun r o' h'=>?_),m⟩
  ·have:=I.sep r l' h'
   exact⟨Nat.lt_of_lt_of_le this.1 Td,this.2⟩
  ·simp only[Ctx.ghost]at h' ⊢
   by_cases e:r=id
   ·subst e
    rw[Gk bw,Aot]at h'
    subst h'
    exact .inl (ho m)
   ·rw[Ob bw e]at h'
    exact .inr ⟨h',by trivial,fun l' _=>by trivial⟩
theorem Inv.grow {W0:World} {C:Ctx} {w w':World} (I:Inv W0 C w) (S:Nat→Prop) (hS:∀ b,S b→w.heap.size≤b∧b<w'.heap.size)
    (hb:Below w.heap.size w w'):Inv W0 (C.more S) w'∧Fe C w (C.more S) w':=by
  have m:Fe C w (C.more S) w':=⟨fun b hA=>⟨.inl hA,hb.block b (I.sub b hA)⟩,Nat.le_refl _,rfl,fun r hr=>.same hr rfl rfl⟩
  refine⟨I.step m (I.below.trans (hb.mono I.below.size)) (fun b hA=>?_) (fun b hA ah=>?_) (fun r l' h'=>?_) I.inj (fun r o h=>.inr ⟨h,rfl,fun l hl=>hb.block _ (I.sep r l hl).2.2.1⟩),m⟩
  ·rcases hA with hA | hA
   ·exact Nat.lt_of_lt_of_le (I.sub b hA) hb.size
   ·exact(hS b hA).2
  ·rcases hA with hA | hA
   ·exact I.old b hA ah
   ·have:=(hS b hA).1;have:=I.below.size;omega
  ·have:=I.sep r l' h'
   refine⟨this.1,this.2.1,Nat.lt_of_lt_of_le this.2.2.1 hb.size,fun hA=>?_⟩
   rcases hA with hA | hA
   ·exact this.2.2.2 hA
   ·have:=(hS _ hA).1;omega
theorem Inv.same {W0:World} {C:Ctx} {w w':World} (I:Inv W0 C w) (hh:w'.heap=w.heap) (hb:Below W0.heap.size W0 w'):Inv W0 C w'∧Fe C w C w':=by
  have m:Fe C w C w':=⟨fun b hA=>⟨hA,by rw[hh]⟩,Nat.le_refl _,rfl,fun r hr=>.same hr rfl rfl⟩
  exact⟨I.step m hb (fun b hA=>by rw[hh];exact I.sub b hA) I.old (fun r l h=>by rw[hh];exact I.sep r l h) I.inj (fun r o h=>.inr ⟨h,rfl,fun l hl=>by rw[hh]⟩),m⟩
def Ctx.reloc (C:Ctx) (r:Nat) (o:Ak) (lx:Option Loc):Ctx:=
  {C with ρ:=fun r'=>if r'=r then lx else C.ρ r',H:=C.H.set r o}
theorem Inv.reloc {W0:World} {C:Ctx} {w w':World} (I:Inv W0 C w) {r v sz v' sz':Nat} {xs xs':List (List Ac)} (hr:C.H[r]? =some (.row v sz xs)) (hv:v<v') (lx:Option Loc)
    (hw:∀ b,b<w.heap.size→(∀ l,lx=some l→b≠l.b)→w'.heap[b]? =w.heap[b]?) (cn:w.heap.size≤w'.heap.size) (hb:Below W0.heap.size W0 w')
    (tx:∀ l,lx=some l→W0.heap.size≤l.b∧l.b<w'.heap.size∧¬ C.A l.b∧∀ r' l',r'≠r→C.ρ r'=some l'→l'.b≠l.b)
    (ho:Fe C w (C.reloc r (.row v' sz' xs') lx) w'→Yh (C.reloc r (.row v' sz' xs') lx) w' r (.row v' sz' xs')) :
    Inv W0 (C.reloc r (.row v' sz' xs') lx) w'∧Fe C w (C.reloc r (.row v' sz' xs') lx) w':=by
  have ah:r<C.H.length:=(Aoz.1 hr).1
  have m:Fe C w (C.reloc r (.row v' sz' xs') lx) w':=by
    refine⟨fun b hA=>⟨hA,hw b (I.sub b hA) fun l e eb=>(tx l e).2.2.1 (eb ▸ hA)⟩,by simp[Ctx.reloc],rfl,fun r' gg=>?_⟩
    by_cases e:r'=r
    ·subst e
     unfold D3
     simp only[Ctx.reloc,List.getElem?_set_self ah]
     exact .inr ⟨v,sz,xs,hr,hv⟩
    ·exact .same gg (by simp only[Ctx.reloc];rw[List.getElem?_set_ne (fun h=>e h.symm)]) (by simp only[Ctx.reloc];rw[if_neg e])
  refine⟨I.step m hb (fun b hA=>Nat.lt_of_lt_of_le (I.sub b hA) cn) I.old (fun r' l' h'=>?_) (fun r1 r2 l1 l2 h1 h2 e=>?_) (fun r' o h'=>?_),m⟩
  ·simp only[Ctx.reloc]at h' ⊢
   split at h'
   ·rename_i e
    have:=tx l' h'
    exact⟨by simp only[List.length_set];omega,this.1,this.2.1,this.2.2.1⟩
   ·have:=I.sep r' l' h'
    exact⟨by simp only[List.length_set];exact this.1,this.2.1,Nat.lt_of_lt_of_le this.2.2.1 cn,this.2.2.2⟩
  ·simp only[Ctx.reloc]at h1 h2
   split at h1<;>split at h2
   ·omega
   ·rename_i e1 e2
    exact absurd e.symm ((tx l1 h1).2.2.2 r2 l2 e2 h2)
   ·rename_i e1 e2
    exact absurd e ((tx l2 h2).2.2.2 r1 l1 e1 h1)
   ·exact I.inj _ _ _ _ h1 h2 e
  ·simp only[Ctx.reloc]at h' ⊢
   by_cases e:r'=r
   ·subst e
    simp only[List.getElem?_set_self ah,Aot]at h'
    subst h'
    exact .inl (ho m)
   ·rw[List.getElem?_set_ne (fun h=>e h.symm)]at h'
    refine .inr ⟨h',by rw[if_neg e],fun l hl=>hw _ (I.sep r' l hl).2.2.1 fun l2 e2=>(tx l2 e2).2.2.2 r' l e hl⟩
def Ctx.freeze (C:Ctx) (r:Nat):Ctx:=
  {C with A:=fun b=>C.A b∨∃ l,C.ρ r=some l∧b=l.b,ρ:=fun r'=>if r'=r then none else C.ρ r',H:=C.H.set r .gone}
theorem Inv.freeze {W0:World} {C:Ctx} {w:World} (I:Inv W0 C w) (r:Nat):Inv W0 (C.freeze r) w∧Fe C w (C.freeze r) w:=by
  have m:Fe C w (C.freeze r) w:=by
    refine⟨fun b hA=>⟨.inl hA,rfl⟩,by simp[Ctx.freeze],rfl,fun r' hr=>?_⟩
    by_cases e:r'=r
    ·subst e
     unfold D3
     simp only[Ctx.freeze,List.getElem?_set_self hr.lt]
    ·exact .same hr (by simp only[Ctx.freeze];rw[List.getElem?_set_ne (fun h=>e h.symm)]) (by simp only[Ctx.freeze];rw[if_neg e])
  refine⟨I.step m I.below (fun b hA=>?_) (fun b hA ah=>?_) (fun r' l' h'=>?_) (fun r1 r2 l1 l2 h1 h2 e=>?_) (fun r' o h'=>?_),m⟩
  ·rcases hA with hA | ⟨l,hl,rfl⟩
   ·exact I.sub b hA
   ·exact(I.sep r l hl).2.2.1
  ·rcases hA with hA | ⟨l,hl,rfl⟩
   ·exact I.old b hA ah
   ·have:=(I.sep r l hl).2.1;omega
  ·simp only[Ctx.freeze]at h' ⊢
   split at h'
   ·cases h'
   ·rename_i e
    have:=I.sep r' l' h'
    refine⟨by simp;exact this.1,this.2.1,this.2.2.1,fun hA=>?_⟩
    rcases hA with hA | ⟨l,hl,eb⟩
    ·exact this.2.2.2 hA
    ·exact e (I.inj _ _ _ _ h' hl eb)
  ·simp only[Ctx.freeze]at h1 h2
   split at h1
   ·cases h1
   split at h2
   ·cases h2
   exact I.inj _ _ _ _ h1 h2 e
  ·simp only[Ctx.freeze]at h' ⊢
   by_cases e:r'=r
   ·subst e
    have hr:r'< C.H.length:=by
      have:=(Aoz.1 h').1
      simpa using this
    simp only[List.getElem?_set_self hr,Aot]at h'
    subst h'
    exact .inl (by simp[Yh])
   ·rw[List.getElem?_set_ne (fun h=>e h.symm)]at h'
    exact .inr ⟨h',by rw[if_neg e],fun _ _=>by trivial⟩
def put (fr:Fr) (d:Option Tmp) (v:Ac):Fr:=
  match d with
  | some k=>(k,v)::fr
  | none=>fr
def aS:Value→Ac
  | .bool b=>.bool b
  | .int k n=>.int k n
  | .string s=>.str s
  | .slice none 0 0=>.nils
  | .map none=>.nilm
  | _=>.any
def aconst:Value→Ac
  | .agg cs=>.agg (cs.toList.map aS)
  | .tuple vs=>if vs.size=0 then .tuple []else .any
  | v=>aS v
def ev (fr:Fr):Operand→Ac
  | .tmp t=>get fr t
  | .const v=>aconst v
  | .global _=>.any
  | .func f=>.func f []
def acells:Ac→Option (List Ac)
  | .agg cs=>some cs
  | .tuple _ | .any=>none
  | v=>some [v]
def Ac.one:Ac→Bool
  | .any | .agg _ | .tuple _=>false
  | _=>true
def Bp (P:Program) (t:TypeId):Nat:=((P.info? t).map (·.size)).getD 0
def bytesOf (P:Program) (t:TypeId):Nat:=((P.info? t).map (·.bytes)).getD 0
def okT (P:Program) (t:TypeId):Bool:=(P.info? t).isSome&&(P.underlying t).isSome
def Mp (P:Program) (t:TypeId):Bool:=match P.underlying t with | some (.struct _) | some (.array _ _)=>true | _=>false
def F1 (P:Program) (t:TypeId):Option TypeId:=match P.underlying t with | some (.slice e)=>some e | _=>none
def Ac3 (P:Program) (t:TypeId):Option (Nat×TypeId):=match P.underlying t with | some (.array n e)=>some (n,e) | _=>none
def zeroV (P:Program) (t:TypeId):Option Value:=(P.info? t).bind (·.zero)
def B7 (P:Program) (t:TypeId):List Ac:=match zeroV P t with | some v=>v.cells.toList.map aS | none=>[]
def azero (P:Program) (t:TypeId):Ac:=match zeroV P t with | some v=>aconst v | none=>.any
def Bn (P:Program) (t:TypeId) (f:Nat):Option (Nat×Nat):=
  match P.underlying t with
  | some (.struct fs)=>(fs[f]?).map fun x=>(x.offset,Bp P x.type)
  | _=>none
def placesOf (P:Program) (t:TypeId):Option (List (Nat×Nat)):=
  match P.underlying t with
  | some (.struct fs)=>fs.toList.mapM (fun f=>(P.info? f.type).map fun i=>(f.offset,i.size))
  | _=>none
def splice (cells:List Ac) (off:Nat) (part:List Ac):List Ac:=cells.take off++part++cells.drop (off+part.length)
def chunk (sz:Nat):Nat→List Ac→List (List Ac)
  | 0,_=>[]
  | n+1,l=>l.take sz::chunk sz n (l.drop sz)
def nL (c a b:Ac) (K:Ac→Prop):Prop:=
  match c with
  | .bool cv=>match a,b with
    | .bool x,.bool y=>K (.bool (bif cv then x else y))
    | _,_=>(cv=true→K a)∧(cv=false→K b)
  | _=>False
def lP (x y:Int):Int:=x / 2 ^ y.toNat
def Aez (x y:Int):Int:=x*2 ^ y.toNat
def xX (o:BinOp) (k k':IntKind):Prop:=
  match o with
  | .shl=>True
  | .shr=>True
  | _=>k=k'
def fG (o:BinOp) (k:IntKind) (x y:Int) (K:Ac→Prop):Prop:=
  match o with
  | .add=>K (.int k (k.wrap (x+y)))
  | .sub=>K (.int k (k.wrap (x - y)))
  | .mul=>K (.int k (k.wrap (x*y)))
  | .quo=>y≠0∧K (.int k (k.wrap (x.tdiv y)))
  | .rem=>y≠0∧K (.int k (x.tmod y))
  | .eql=>K (.bool (decide (x=y)))
  | .neq=>K (.bool (decide (x≠y)))
  | .lss=>K (.bool (decide (x<y)))
  | .leq=>K (.bool (decide (x≤y)))
  | .gtr=>K (.bool (decide (y<x)))
  | .geq=>K (.bool (decide (y≤x)))
  | .shr=>(0≤y∧y≤8)∧K (.int k (lP x y))
  | .shl=>(0≤y∧y≤8)∧K (.int k (k.wrap (Aez x y)))
  | _=>False
def Mn (P:Program) (T:TypeId):Option (List (Nat×Bool)):=
  match P.underlying T with
  | some (.struct fs)=>
    if P.eqGuardType P.depth T=false∧P.stoodInHeld T=false∧fs.toList.all (fun f=>f.name != "_"&&okT P f.type)=true then
     fs.toList.mapM fun f=>match P.underlying f.type with | some (.int _)=>some (f.offset,false) | some .bool=>some (f.offset,true) | _=>none
    else none
  | _=>none
def eR (P:Program) (g:TypeId→Option (List (Nat×Bool))):List Field→Option (List (Nat×Bool))
  | []=>some []
  | f::fs=>(match P.underlying f.type with
     | some (.int _)=>some [(f.offset,false)]
     | some .bool=>some [(f.offset,true)]
     | some (.struct _)=>(g f.type).bind fun l:List (Nat×Bool)=>if (l.all (fun p=>p.1<Bp P f.type)&&l.any (fun p=>p.1+1 ==Bp P f.type))=true then some (l.map fun p:Nat×Bool=>(p.1+f.offset,p.2))else none
     | _=>none).bind fun a=>(eR P g fs).map fun b=>a++b
def aL (P:Program):Nat→TypeId→Option (List (Nat×Bool))
  | 0,_=>none
  | n+1,T=>match P.underlying T with
    | some (.struct fs)=>if P.stoodInHeld T=false∧fs.toList.all (fun f=>f.name != "_"&&okT P f.type)=true then eR P (aL P n) fs.toList else none
    | _=>none
def rH (P:Program) (T:TypeId):Option (List (Nat×Bool)):=if P.eqGuardType P.depth T=false then aL P 4 T else none
def Fu (xs ys:List Ac):List (Nat×Bool)→Option Bool
  | []=>some true
  | (o,false)::os=>match xs[o]?,ys[o]? with
    | some (.int k a),some (.int k' b)=>if k=k' then(Fu xs ys os).map fun r=>decide (a=b)&&r else none
    | _,_=>none
  | (o,true)::os=>match xs[o]?,ys[o]? with
    | some (.bool a),some (.bool b)=>(Fu xs ys os).map fun r=>(a ==b)&&r
    | _,_=>none
def vG (P:Program) (o:BinOp) (T:TypeId) (x y:Ac) (K:Ac→Prop):Prop:=
  match x,y with
  | .int k a,.int k' b=>xX o k k'∧fG o k a b K
  | .bool a,.bool b=>P.underlying T=some .bool∧match o with
    | .eql=>K (.bool (a ==b))
    | .neq=>K (.bool (a !=b))
    | _=>False
  | .agg cs,.agg ds=>match Mn P T with
    | some offs=>match Fu cs ds offs with
      | some r=>match o with
        | .eql=>K (.bool r)
        | .neq=>K (.bool (!r))
        | _=>False
      | none=>False
    | none=>match rH P T with
      | some offs=>match Fu cs ds offs with
        | some r=>match o with
          | .eql=>K (.bool r)
          | .neq=>K (.bool (!r))
          | _=>False
        | none=>False
      | none=>False
  | _,_=>False
def aUn (o:UnOp) (x:Ac) (K:Ac→Prop):Prop:=
  match o,x with
  | .not,.bool b=>K (.bool (!b))
  | .neg,.int k n=>K (.int k (k.wrap (-n)))
  | _,_=>False
def j0 (P:Program) (s d:TypeId) (x:Ac) (K:Ac→Prop):Prop:=
  match P.underlying s,P.underlying d,x with
  | some (.int _),some (.int k),.int _ n=>K (.int k (k.wrap n))
  | _,_,_=>False
def I7 (agg:Bool) (n:Nat) (cs:List Ac):Ac:=if agg then .agg (cs.take n)else cs.headD .any
def A1 (sz:Nat) (xs:List (List Ac)) (n:Int) (K:List Ac→Prop):Prop:=0≤n∧n<xs.length∧∀ y,xs[n.toNat]? =some y→y.length=sz→K y
def Dg (sz:Nat) (xs:List (List Ac)) (i:Nat) (K:List Ac→Prop):Prop:=∀ y,xs[i]? =some y→y.length=sz→K y
def Af9 (K:Ac→Prop) (y:List Ac):Prop:=K (.eptr y)
def Afr (P:Program) (T:TypeId) (k:Nat) (K:Ac→Prop) (y:List Ac):Prop:=K (I7 (Mp P T) (Bp P T) (y.drop k))
def Z3 (P:Program) (T:TypeId) (p:Ac) (H:List Ak) (K:Ac→Prop):Prop:=
  okT P T=true∧match p with
  | .ptr r k=>match H[r]? with
    | some (.box cs)=>k+(if Mp P T then Bp P T else 1)≤cs.length∧K (I7 (Mp P T) (Bp P T) (cs.drop k))
    | _=>False
  | .rptr r v i k=>match H[r]? with
    | some (.row v' sz xs)=>v=v'∧k+(if Mp P T then Bp P T else 1)≤sz∧Dg sz xs i (Afr P T k K)
    | _=>False
  | .eptr cs=>(if Mp P T then Bp P T else 1)≤cs.length∧K (I7 (Mp P T) (Bp P T) cs)
  | _=>False
inductive Eff where
  | none
  | new (id:Nat) (o:Ak)
  | set (r:Nat) (o:Ak)
def Eff.app (H:List Ak):Eff→List Ak
  | .none=>H
  | .new id o=>G9 H id o
  | .set r o=>H.set r o
def Adi (r v sz:Nat) (xs:List (List Ac)) (i k:Nat) (vs:List Ac) (K:Ac→Eff→Prop) (y:List Ac):Prop:=K (.tuple []) (.set r (.row v sz (xs.set i (splice y k vs))))
def Z0 (P:Program) (T:TypeId) (p v:Ac) (H:List Ak) (K:Ac→Eff→Prop):Prop:=
  match acells v with
  | some vs=>okT P T=true∧vs.length=Bp P T∧vs.all Ac.one=true∧match p with
    | .ptr r k=>match H[r]? with
      | some (.box cs)=>k+vs.length≤cs.length∧K (.tuple []) (.set r (.box (splice cs k vs)))
      | _=>False
    | .rptr r v i k=>match H[r]? with
      | some (.row v' sz xs)=>v=v'∧vs.all Ac.g0=true∧k+vs.length≤sz∧Dg sz xs i (Adi r v' sz xs i k vs K)
      | _=>False
    | _=>False
  | none=>False
def xP (P:Program) (T:TypeId) (id:Nat) (K:Ac→Eff→Prop):Prop:=
  (zeroV P T).isSome=true∧K (.ptr id 0) (.new id (.box (B7 P T)))
def Aay (x:Ac) (id:Nat) (K:Ac→Eff→Prop):Prop:=
  match acells x with
  | some cs=>K (.ptr id 0) (.new id (.box cs))
  | none=>False
def Le (P:Program) (T:TypeId) (p:Ac) (f:Nat) (K:Ac→Prop):Prop:=
  match Bn P T f with
  | some (off,n)=>1≤n∧match p with
    | .ptr r k=>K (.ptr r (k+off))
    | .rptr r v i k=>K (.rptr r v i (k+off))
    | .eptr cs=>K (.eptr (cs.drop off))
    | _=>False
  | none=>False
def dB (P:Program) (T:TypeId) (x:Ac) (f:Nat) (K:Ac→Prop):Prop:=
  match P.underlying T,x with
  | some (.struct fs),.agg cs=>match fs[f]? with
    | some g=>okT P g.type=true∧Mp P g.type=false∧g.offset<cs.length∧K (cs.getD g.offset .any)
    | none=>False
  | _,_=>False
def singles:List Ac→List (List Ac)
  | []=>[]
  | c::r=>[c]::singles r
theorem Ym:∀ l:List Ac,(singles l).length=l.length
  | []=>rfl
  | c::r=>by rw[singles,List.length_cons,List.length_cons,Ym r]
theorem Ut:∀ (l:List Ac) (i:Nat),(singles l)[i]? =l[i]?.map fun c=>[c]
  | [],i=>by simp[singles]
  | c::r,0=>rfl
  | c::r,i+1=>by simpa[singles]using Ut r i
def I8 (P:Program) (T:TypeId) (x i:Ac) (H:List Ak) (K:Ac→Prop):Prop:=
  match F1 P T,i with
  | some e,.int _ n=>okT P e=true∧match x with
    | .sl sz xs=>sz=Bp P e∧A1 sz xs n (Af9 K)
    | .own r v lo len=>match H[r]? with
      | some (.row v' sz _)=>v=v'∧sz=Bp P e∧0≤n∧n<len∧K (.rptr r v (lo+n.toNat) 0)
      | _=>False
    | _=>False
  | none,.int _ n=>match Ac3 P T,x with
    | some (len,e),.ptr r k=>okT P e=true∧0≤n∧n<len∧K (.ptr r (k+n.toNat*Bp P e))
    | some (len,e),.eptr cs=>okT P e=true∧0≤n∧n<len∧K (.eptr (cs.drop (n.toNat*Bp P e)))
    | _,_=>False
  | _,_=>False
def bU (place:Nat→Option (Nat×Nat)) (cells:List Ac):List (Nat×Ac)→Option (List Ac)
  | []=>some cells
  | (i,v)::rest=>
    match place i,acells v with
    | some (off,size),some cs=>if cs.length≠size∨off+cs.length > cells.length then none else bU place (splice cells off cs) rest
    | _,_=>none
def dD (P:Program) (T:TypeId) (parts:List (Nat×Ac)) (K:Ac→Prop):Prop:=
  (zeroV P T).isSome=true∧match placesOf P T with
  | some pl=>match bU (fun i=>pl[i]?) (B7 P T) parts with
    | some cs=>K (.agg cs)
    | none=>False
  | none=>False
def reps:Nat→List Ac→List Ac
  | 0,_=>[]
  | n+1,cs=>cs++reps n cs
def Oc (P:Program) (T:TypeId) (len:Nat) (parts:List (Nat×Ac)) (id:Nat) (K:Ac→Eff→Prop):Prop:=
  match F1 P T with
  | some e=>(zeroV P e).isSome=true∧1≤Bp P e∧(B7 P e).length=Bp P e∧len*Bp P e≤16777216∧
    match bU (fun i=>some (i*Bp P e,Bp P e)) (reps len (B7 P e)) parts with
    | some cs=>cs.all Ac.g0=true∧K (.own id 0 0 len) (.new id (.row 0 (Bp P e) (chunk (Bp P e) len cs)))
    | none=>False
  | none=>False
def dC (x:Ac) (H:List Ak):Option (Nat×List (List Ac)):=
  match x with
  | .sl sz xs=>some (sz,xs)
  | .own r v lo len=>match H[r]? with
    | some (.row v' sz xs)=>if v=v' then some (sz,(xs.drop lo).take len)else none
    | _=>none
  | _=>none
def rS (P:Program) (T:TypeId) (x:Ac) (H:List Ak) (K:Ac→Prop):Prop:=
  match P.underlying T,x with
  | some (.slice _),.sl _ xs=>xs.length≤9223372036854775807→K (.int .i64 xs.length)
  | some (.slice _),.own _ _ _ len=>len≤9223372036854775807→K (.int .i64 len)
  | some (.slice _),.nils | some (.slice _),.z0=>K (.int .i64 0)
  | some .string,.str s=>K (.int .i64 s.size)
  | some (.map _ _),.nilm=>K (.int .i64 0)
  | some (.map _ _),.map r=>match H[r]? with
    | some (.mp es)=>K (.int .i64 es.length)
    | _=>False
  | some (.map _ _),.vmap es=>K (.int .i64 es.length)
  | _,_=>False
def Lf (x:Option Ac) (d:Nat):Option Int:=
  match x with
  | none=>some d
  | some (.int _ n)=>some n
  | _=>none
def Sj (P:Program) (T:TypeId) (x:Ac) (lo hi mx:Option Ac) (H:List Ak) (K:Ac→Prop):Prop:=
  match F1 P T with
  | some e=>okT P e=true∧match x with
    | .sl sz xs=>sz=Bp P e∧(xs.length≤9223372036854775807→match Lf lo 0,Lf hi xs.length,mx with
      | some l,some h,none=>0≤l∧l≤h∧h≤xs.length∧K (.sl sz ((xs.drop l.toNat).take (h.toNat - l.toNat)))
      | some l,some h,some (.int _ m)=>l=0∧h=0∧m=0∧hi.isSome=true∧K .z0
      | _,_,_=>False)
    | .own r v a len=>match H[r]? with
      | some (.row v' sz _)=>v=v'∧sz=Bp P e∧match Lf lo 0,Lf hi len,mx with
        | some l,some h,none=>0≤l∧l≤h∧h≤len∧K (.own r v (a+l.toNat) (h.toNat - l.toNat))
        | some l,some h,some (.int _ m)=>l=0∧h=0∧m=0∧hi.isSome=true∧K .z0
        | _,_,_=>False
      | _=>False
    | .nils=>match Lf lo 0,Lf hi 0,mx with
      | some l,some h,none=>l=0∧h=0∧K .nils
      | some l,some h,some (.int _ m)=>l=0∧h=0∧m=0∧hi.isSome=true∧K .z0
      | _,_,_=>False
    | .z0=>match Lf lo 0,Lf hi 0,mx with
      | some l,some h,none=>l=0∧h=0∧K .z0
      | some l,some h,some (.int _ m)=>l=0∧h=0∧m=0∧hi.isSome=true∧K .z0
      | _,_,_=>False
    | _=>False
  | none=>match Ac3 P T,x,lo,hi,mx with
    | some (n,e),.eptr cs,none,none,none=>okT P e=true∧Bp P e=1∧cs.length=n∧n≤9223372036854775807∧K (.sl 1 (singles cs))
    | _,_,_,_,_=>False
def Qv (P:Program) (T:TypeId) (len cap:Ac) (id:Nat) (K:Ac→Eff→Prop):Prop:=
  match F1 P T,len,cap with
  | some e,.int _ l,.int _ c=>(zeroV P e).isSome=true∧1≤Bp P e∧(B7 P e).length=Bp P e∧(B7 P e).all Ac.g0=true∧
      0≤l∧l≤c∧(bytesOf P e:Int)*c≤281474976710656∧c≤9223372036854775807∧
      K (.own id 0 0 l.toNat) (.new id (.row 0 (Bp P e) (List.replicate l.toNat (B7 P e))))
  | _,_,_=>False
def Vd (P:Program) (T:TypeId) (s x:Ac) (H:List Ak) (id:Nat) (K:Ac→Eff→Prop):Prop:=
  match F1 P T with
  | some e=>(zeroV P e).isSome=true∧1≤Bp P e∧(B7 P e).length=Bp P e∧
    match dC x H with
    | some (szx,ys)=>szx=Bp P e∧match s with
      | .nils | .z0=>ys.length*bytesOf P e≤140737488355328∧ys.length≤9223372036854775807∧K (.own id 0 0 ys.length) (.new id (.row 0 (Bp P e) ys))
      | .own r v lo len=>match H[r]? with
        | some (.row v' sz xs)=>v=v'∧sz=Bp P e∧(len+ys.length)*bytesOf P e≤140737488355328∧len+ys.length≤9223372036854775807∧
            K (.own r (v+1) 0 (len+ys.length)) (.set r (.row (v+1) (Bp P e) ((xs.drop lo).take len++ys)))
        | _=>False
      | _=>False
    | none=>False
  | none=>False
theorem dA {C:Ctx} {w:World} {v:Value} {a:Ac} {cs:List Ac} (h:A9 C w v a) (hc:acells a=some cs) :
    v.cells.size=cs.length∧∀ (i:Nat) (u:Value) (c:Ac),v.cells[i]? =some u→cs[i]? =some c→A9 C w u c:=by
  have one:∀ {v:Value} {a:Ac},A9 C w v a→v.cells=#[v]→some [a]=some cs→v.cells.size=cs.length∧∀ (i:Nat) (u:Value) (c:Ac),v.cells[i]? =some u→cs[i]? =some c→A9 C w u c:=by
    intro v a h e e2
    simp only[Aot]at e2
    subst e2
    rw[e]
    refine⟨rfl,fun i u c h1 h2=>?_⟩
    match i,h1,h2 with
    | 0,h1,h2=>simp at h1 h2;subst h1 h2;exact h
    | i+1,h1,h2=>simp at h2
  cases h with
  | any=>simp[acells]at hc
  | tuple=>simp[acells]at hc
  | agg arr cs' h' hr=>simp only[acells,Aot]at hc;subst hc;exact⟨h',hr⟩
  | _=>exact one (by constructor<;>assumption) rfl hc
theorem one_cell {C:Ctx} {w:World} {v:Value} {a:Ac} (h:A9 C w v a) (h1:a.one=true):v.oneCell'=true:=by
  cases h<;>first | rfl | simp[Ac.one]at h1
theorem Zz (C:Ctx) (w:World) (v:Value):A9 C w v (aS v):=by
  unfold aS
  split<;>constructor
theorem nJ (C:Ctx) (w:World) (v:Value):A9 C w v (aconst v):=by
  unfold aconst
  split
  ·refine .agg _ _ (by simp) fun i u c h1 h2=>?_
   rename_i cs
   simp only[List.getElem?_map,Array.getElem?_toList,h1,Option.map_some,Aot]at h2
   subst h2
   exact Zz C w u
  ·rename_i vs
   split
   ·rename_i h
    have:vs=#[]:=Array.eq_empty_of_size_eq_zero h
    subst this
    exact .tuple _ _ rfl fun i u c h1 h2=>by simp at h2
   ·exact .any _
  ·exact Zz C w v
def Uj (C:Ctx) (w:World) (tmps:Array Value) (fr:Fr):Prop:=∀ t,A9 C w (tmps.getD t undef) (get fr t)
theorem Uj.mono {C C':Ctx} {w w':World} (m:Fe C w C' w') {tmps:Array Value} {fr:Fr} (h:Uj C w tmps fr):Uj C' w' tmps fr:=
  fun t=>(h t).mono m
theorem Sg {C:Ctx} {w:World} {a:Act} {fr:Fr} (h:Uj C w a.tmps fr) (x:Operand):A9 C w (a.eval x) (ev fr x):=by
  cases x with
  | tmp t=>exact h t
  | const v=>exact nJ C w v
  | global g=>exact .any _
  | func f=>exact .func f #[] [] rfl fun i u c h1 h2=>by simp at h2
theorem Uj.put {C:Ctx} {w:World} {a:Act} {fr:Fr} (h:Uj C w a.tmps fr) {v:Value} {av:Ac} (hv:A9 C w v av) (d:Option Tmp)
    (hd:∀ k,d=some k→k<a.tmps.size):Uj C w (a.put d v).tmps (put fr d av):=by
  intro t
  cases d with
  | none=>exact h t
  | some k=>
    have hk:=hd k rfl
    simp only[Act.put,Go.Ab.put,get]
    split
    ·rename_i e
     subst e
     simpa[Array.getD,hk]using hv
    ·rename_i e
     have:(a.tmps.setIfInBounds k v).getD t undef=a.tmps.getD t undef:=by
       simp only[Array.getD_eq_getD_getElem?,Array.getElem?_setIfInBounds_ne e]
     rw[this];exact h t
section
variable {P:Program}
theorem Jh {t:TypeId} {d:TypeDesc} (h:P.underlying t=some d) (w:World):(underlying t).run P w= .ok d w:=by
  simp[underlying,h]
theorem Uu {t:TypeId} {i:TypeInfo} (h:P.info? t=some i) (w:World):(sizeOf t).run P w= .ok i.size w:=by
  simp[sizeOf,typeInfo,h]
structure Quiet (C:Ctx) (w:World) (r:Result Value) (K:Ac→Prop):Prop where
  ex:∃ v a,r= .ok v w∧A9 C w v a∧K a
theorem Quiet.mk' {C:Ctx} {w:World} {r:Result Value} {K:Ac→Prop} {v:Value} {a:Ac} (h:r= .ok v w) (hr:A9 C w v a) (hk:K a):Quiet C w r K:=
  ⟨v,a,h,hr,hk⟩
theorem nI {t:TypeId} {d:TypeDesc} (h:P.underlying t=some d) (w:World):(isAgg t).run P w= .ok (Mp P t) w:=by
  simp only[isAgg,Sem.run_bind,Jh h,Result.andThen_ok,Mp,h]
  cases d<;>rfl
theorem cZ (x y:Int):(x ==y)=decide (x=y):=by rw[Bool.eq_iff_iff];simp
theorem rK {C:Ctx} {w:World} {o:BinOp} {T:TypeId} {k k':IntKind} {x y:Int} {K:Ac→Prop} (hk:xX o k k') (h:fG o k x y K) :
    Quiet C w ((binOp o T (.int k x) (.int k' y)).run P w) K:=by
  cases o<;>simp only[fG]at h<;>simp only[xX]at hk<;>try subst hk
  case add=>exact .mk' (by simp[binOp,Op.intArith]) (.int _ _) h
  case sub=>exact .mk' (by simp[binOp,Op.intArith]) (.int _ _) h
  case mul=>exact .mk' (by simp[binOp,Op.intArith]) (.int _ _) h
  case quo=>exact .mk' (by simp[binOp,Op.intDiv,h.1]) (.int _ _) h.2
  case rem=>exact .mk' (by simp[binOp,Op.intDiv,h.1]) (.int _ _) h.2
  case eql=>exact .mk' (a:=.bool (decide (x=y))) (by simp[binOp,Op.intCmp,cZ]) (.bool _) h
  case neq=>
    refine .mk' (a:=.bool (decide (x≠y))) ?_ (.bool _) h
    simp[binOp,Op.intCmp,bne,cZ]
  case lss=>exact .mk' (by simp[binOp,Op.intCmp]) (.bool _) h
  case leq=>exact .mk' (by simp[binOp,Op.intCmp]) (.bool _) h
  case gtr=>exact .mk' (by simp[binOp,Op.intCmp]) (.bool _) h
  case geq=>exact .mk' (by simp[binOp,Op.intCmp]) (.bool _) h
  case shr=>
    have hb:min y.toNat k.bits=y.toNat:=by have:=h.1;cases k<;>simp only[IntKind.bits]<;>omega
    refine .mk' (a:=.int k (lP x y)) ?_ (.int _ _) h.2
    simp only[binOp,shift_shr_any k k' x y h.1.1,hb,lP]
    rfl
  case shl=>
    have hb:min y.toNat k.bits=y.toNat:=by have:=h.1;cases k<;>simp only[IntKind.bits]<;>omega
    refine .mk' (a:=.int k (k.wrap (Aez x y))) ?_ (.int _ _) h.2
    simp only[binOp,shift_shl_any k k' x y h.1.1,hb,Aez]
    rfl
  all_goals exact h.elim
theorem uJ {o:BinOp} {T:TypeId} {x y:Operand} {k k':IntKind} {a b:Int} (w:World):(eqGuard o T x y (.int k a) (.int k' b)).run P w= .ok () w:=by
  unfold eqGuard;cases o<;>rfl
theorem rF {o:BinOp} {T:TypeId} {x y:Operand} {a b:Bool} (w:World):(eqGuard o T x y (.bool a) (.bool b)).run P w= .ok () w:=by
  unfold eqGuard;cases o<;>rfl
theorem Ph {T:TypeId} (h:okT P T=true):∃ i d,P.info? T=some i∧P.underlying T=some d∧Bp P T=i.size:=by
  unfold okT at h
  simp only[Bool.and_eq_true,Option.isSome_iff_exists]at h
  obtain⟨⟨i,hi⟩,⟨d,hd⟩⟩:=h
  exact⟨i,d,hi,hd,by simp[Bp,hi]⟩
theorem Pf {w:World} {t:TypeId} {cs:Array Value} {off:Nat} {v:Value} (ht:okT P t=true) (hA:Mp P t=false) (h:cs[off]? =some v) :
    (part t cs off).run P w= .ok v w:=by
  obtain⟨i,d,hi,hd,hs⟩:=Ph ht
  simp only[part,Sem.run_bind,nI hd,Result.andThen_ok,hA,Bool.false_eq_true,if_false,h]
  rfl
theorem eS {C:Ctx} {w:World} {xs ys:Array Value} {cs ds:List Ac} (hx:∀ (i:Nat) (u:Value) (c:Ac),xs[i]? =some u→cs[i]? =some c→A9 C w u c) (sw:xs.size=cs.length)
    (hy:∀ (i:Nat) (u:Value) (c:Ac),ys[i]? =some u→ds[i]? =some c→A9 C w u c) (yn:ys.size=ds.length):∀ (fs:List Field) (offs:List (Nat×Bool)) (r:Bool),
    (fs.all (fun f=>f.name != "_"&&okT P f.type)=true)→fs.mapM (fun f=>match P.underlying f.type with | some (.int _)=>some (f.offset,false) | some .bool=>some (f.offset,true) | _=>none)=some offs→
    Fu cs ds offs=some r→(Op.eqFields 9999 xs ys fs).run P w= .ok r w
  | [],offs,r,_,h0,h=>by simp at h0;subst h0;simp[Fu]at h;subst h;rfl
  | f::fs,offs,r,hf,h0,h=>by
    simp only[List.all_cons,Bool.and_eq_true]at hf
    obtain⟨⟨hn,ld⟩,hf⟩:=hf
    have ny:f.name≠ "_":=by simpa using hn
    have ih:=eS hx sw hy yn fs
    have getX:∀ c,cs[f.offset]? =some c→∃ u,xs[f.offset]? =some u∧A9 C w u c:=fun c hc=>by
      have ah:f.offset<xs.size:=by have:=(Aoz.1 hc).1;omega
      exact⟨_,Array.getElem?_eq_getElem ah,hx _ _ c (Array.getElem?_eq_getElem ah) hc⟩
    have getY:∀ c,ds[f.offset]? =some c→∃ u,ys[f.offset]? =some u∧A9 C w u c:=fun c hc=>by
      have ah:f.offset<ys.size:=by have:=(Aoz.1 hc).1;omega
      exact⟨_,Array.getElem?_eq_getElem ah,hy _ _ c (Array.getElem?_eq_getElem ah) hc⟩
    simp only[List.mapM_cons,Option.bind_eq_bind,Option.pure_def]at h0
    cases nx:fs.mapM (fun f=>match P.underlying f.type with | some (.int _)=>some (f.offset,false) | some .bool=>some (f.offset,true) | _=>(none:Option (Nat×Bool)))with
    | none=>rw[nx]at h0;split at h0<;>simp at h0
    | some os=>
      rw[nx]at h0
      split at h0
      ·rename_i k hU
       have ig:Mp P f.type=false:=by simp[Mp,hU]
       simp only[Aos,Aot]at h0
       subst h0
       simp only[Fu]at h
       split at h
       ·rename_i k1 a k2 b h1 h2
        split at h
        ·rename_i hk
         subst hk
         obtain⟨u,hu,ea⟩:=getX _ h1
         obtain⟨u2,zx,xj⟩:=getY _ h2
         cases ea;cases xj
         cases gg:Fu cs ds os with
         | none=>simp[gg]at h
         | some r'=>
           simp only[gg,Option.map_some,Aot]at h
           have ih:=ih os r' hf nx gg
           have heq:=run_equalIn_int (P:=P) w 9998 f.type k1 k a b hU
           simp only[Op.eqFields,ny,ne_eq,not_false_eq_true,if_true,Sem.run_bind,Pf ld ig hu,Pf ld ig zx,Result.andThen_ok,heq]
           by_cases tf:a=b
           ·subst tf;simp only[decide_true,Bool.true_and]at h;subst h;simp[ih]
           ·have hb:(a ==b)=false:=by simp[tf]
            simp only[tf,decide_false,Bool.false_and]at h;subst h;simp[hb]
        ·cases h
       ·cases h
      ·rename_i hU
       have ig:Mp P f.type=false:=by simp[Mp,hU]
       simp only[Aos,Aot]at h0
       subst h0
       simp only[Fu]at h
       split at h
       ·rename_i a b h1 h2
        obtain⟨u,hu,ea⟩:=getX _ h1
        obtain⟨u2,zx,xj⟩:=getY _ h2
        cases ea;cases xj
        cases gg:Fu cs ds os with
        | none=>simp[gg]at h
        | some r'=>
          simp only[gg,Option.map_some,Aot]at h
          have ih:=ih os r' hf nx gg
          have heq:=run_equalIn_bool (P:=P) w 9998 f.type a b hU
          simp only[Op.eqFields,ny,ne_eq,not_false_eq_true,if_true,Sem.run_bind,Pf ld ig hu,Pf ld ig zx,Result.andThen_ok,heq]
          cases tf:(a ==b)
          ·rw[tf]at h;simp only[Bool.false_and]at h;subst h;simp
          ·rw[tf]at h;simp only[Bool.true_and]at h;subst h;simp[ih]
       ·cases h
      ·simp at h0
theorem iV {cs ds:List Ac}:∀ {offs:List (Nat×Bool)} {r:Bool},Fu cs ds offs=some r→∀ p∈offs,p.1<cs.length∧p.1<ds.length
  | [],_,_,p,hp=>by cases hp
  | (o,false)::os,r,h,p,hp=>by
    simp only[Fu]at h
    split at h
    ·rename_i k1 a k2 b h1 h2
     split at h
     ·cases gg:Fu cs ds os with
      | none=>simp[gg]at h
      | some r'=>
        rcases List.mem_cons.1 hp with rfl | hp
        ·exact⟨(Aoz.1 h1).1,(Aoz.1 h2).1⟩
        ·exact iV gg p hp
     ·cases h
    ·cases h
  | (o,true)::os,r,h,p,hp=>by
    simp only[Fu]at h
    split at h
    ·rename_i a b h1 h2
     cases gg:Fu cs ds os with
     | none=>simp[gg]at h
     | some r'=>
       rcases List.mem_cons.1 hp with rfl | hp
       ·exact⟨(Aoz.1 h1).1,(Aoz.1 h2).1⟩
       ·exact iV gg p hp
    ·cases h
theorem iW {cs ds:List Ac} {b:List (Nat×Bool)}:∀ {a:List (Nat×Bool)} {r:Bool},Fu cs ds (a++b)=some r→∃ r1 r2,Fu cs ds a=some r1∧Fu cs ds b=some r2∧r=(r1&&r2)
  | [],r,h=>⟨true,r,rfl,h,by simp⟩
  | (o,false)::os,r,h=>by
    simp only[List.cons_append,Fu]at h ⊢
    split at h
    ·rename_i k1 a k2 b' h1 h2
     split at h
     ·rename_i hk
      cases gg:Fu cs ds (os++b)with
      | none=>simp[gg]at h
      | some r'=>
        obtain⟨r1,r2,e1,e2,e3⟩:=iW gg
        simp only[gg,Option.map_some,Aot]at h
        exact⟨decide (a=b')&&r1,r2,by simp[hk,e1],e2,by rw[← h,e3,Bool.and_assoc]⟩
     ·cases h
    ·cases h
  | (o,true)::os,r,h=>by
    simp only[List.cons_append,Fu]at h ⊢
    split at h
    ·rename_i a b' h1 h2
     cases gg:Fu cs ds (os++b)with
     | none=>simp[gg]at h
     | some r'=>
       obtain⟨r1,r2,e1,e2,e3⟩:=iW gg
       simp only[gg,Option.map_some,Aot]at h
       exact⟨(a ==b')&&r1,r2,by simp[e1],e2,by rw[← h,e3,Bool.and_assoc]⟩
    ·cases h
theorem Z4 {cs ds:List Ac} {k:Nat}:∀ {l:List (Nat×Bool)},Fu cs ds (l.map fun p=>(p.1+k,p.2))=Fu (cs.drop k) (ds.drop k) l
  | []=>rfl
  | (o,false)::os=>by
    have e1:(cs.drop k)[o]? =cs[o+k]?:=by rw[List.getElem?_drop,Nat.add_comm]
    have e2:(ds.drop k)[o]? =ds[o+k]?:=by rw[List.getElem?_drop,Nat.add_comm]
    simp only[List.map_cons,Fu,e1,e2,Z4 (l:=os)]
  | (o,true)::os=>by
    have e1:(cs.drop k)[o]? =cs[o+k]?:=by rw[List.getElem?_drop,Nat.add_comm]
    have e2:(ds.drop k)[o]? =ds[o+k]?:=by rw[List.getElem?_drop,Nat.add_comm]
    simp only[List.map_cons,Fu,e1,e2,Z4 (l:=os)]
theorem pC {w:World} {t:TypeId} {cs:Array Value} {off:Nat} (ht:okT P t=true) (hA:Mp P t=true) :
    (part t cs off).run P w= .ok (.agg (cs.extract off (off+Bp P t))) w:=by
  obtain⟨i,d,hi,hd,hs⟩:=Ph ht
  simp only[part,Sem.run_bind,nI hd,Result.andThen_ok,hA,if_true]
  rw[Uu hi,Result.andThen_ok,hs];rfl
theorem jQ {w:World} {n d:Nat} (ih:∀ {C:Ctx} {T:TypeId} {xs ys:Array Value} {cs ds:List Ac} {offs:List (Nat×Bool)} {r:Bool},(∀ (i:Nat) (u:Value) (c:Ac),xs[i]? =some u→cs[i]? =some c→A9 C w u c)→
      (∀ (i:Nat) (u:Value) (c:Ac),ys[i]? =some u→ds[i]? =some c→A9 C w u c)→(∀ p∈offs,p.1<xs.size∧p.1<ys.size)→aL P n T=some offs→Fu cs ds offs=some r→
      (Op.equalIn (d+n+1) T (.agg xs) (.agg ys)).run P w= .ok r w) {C:Ctx} {xs ys:Array Value} {cs ds:List Ac} (hx:∀ (i:Nat) (u:Value) (c:Ac),xs[i]? =some u→cs[i]? =some c→A9 C w u c)
    (hy:∀ (i:Nat) (u:Value) (c:Ac),ys[i]? =some u→ds[i]? =some c→A9 C w u c):∀ (fs:List Field) (offs:List (Nat×Bool)) (r:Bool),
    (fs.all (fun f=>f.name != "_"&&okT P f.type)=true)→eR P (aL P n) fs=some offs→(∀ p∈offs,p.1<xs.size∧p.1<ys.size)→Fu cs ds offs=some r→(Op.eqFields (d+n+1) xs ys fs).run P w= .ok r w
  | [],offs,r,_,h0,_,h=>by simp only[eR,Aot]at h0;subst h0;simp[Fu]at h;subst h;rfl
  | f::fs,offs,r,hf,h0,hb,h=>by
    simp only[List.all_cons,Bool.and_eq_true]at hf
    obtain⟨⟨hn,ld⟩,hf⟩:=hf
    have ny:f.name≠ "_":=by simpa using hn
    unfold eR at h0
    obtain⟨a,ha,h0⟩:=Option.bind_eq_some_iff.1 h0
    obtain⟨b,fb,rfl⟩:=Option.map_eq_some_iff.1 h0
    obtain⟨r1,r2,e1,e2,rfl⟩:=iW h
    have rest:=jQ ih hx hy fs b r2 hf fb (fun p hp=>hb p (List.mem_append_right _ hp)) e2
    have fin:∀ (u v:Value),(part f.type xs f.offset).run P w= .ok u w→(part f.type ys f.offset).run P w= .ok v w→(Op.equalIn (d+n+1) f.type u v).run P w= .ok r1 w→(Op.eqFields (d+n+1) xs ys (f::fs)).run P w= .ok (r1&&r2) w:=by
      intro u v h1 h2 h3
      simp only[Op.eqFields,ny,ne_eq,not_false_eq_true,if_true,Sem.run_bind,h1,h2,h3,Result.andThen_ok]
      cases r1<;>simp[rest]
    split at ha
    ·rename_i k hU
     have ig:Mp P f.type=false:=by simp[Mp,hU]
     simp only[Aot]at ha
     subst ha
     have kg:=hb (f.offset,false) (by simp)
     simp only[Fu]at e1
     split at e1
     ·rename_i k1 a k2 b h1 h2
      split at e1
      ·rename_i hk
       subst hk
       have g1:=hx _ _ _ (Array.getElem?_eq_getElem kg.1) h1
       have g2:=hy _ _ _ (Array.getElem?_eq_getElem kg.2) h2
       have p1:=Pf (w:=w) ld ig (Array.getElem?_eq_getElem kg.1)
       have p2:=Pf (w:=w) ld ig (Array.getElem?_eq_getElem kg.2)
       generalize xs[f.offset]'kg.1=u at g1 p1
       generalize ys[f.offset]'kg.2=v at g2 p2
       cases g1;cases g2
       refine fin _ _ p1 p2 ?_
       rw[run_equalIn_int (P:=P) w (d+n) f.type k1 k a b hU]
       simp only[Option.map_some,Bool.and_true,Aot]at e1
       rw[← e1,cZ]
      ·cases e1
     ·cases e1
    ·rename_i hU
     have ig:Mp P f.type=false:=by simp[Mp,hU]
     simp only[Aot]at ha
     subst ha
     have kg:=hb (f.offset,true) (by simp)
     simp only[Fu]at e1
     split at e1
     ·rename_i a b h1 h2
      have g1:=hx _ _ _ (Array.getElem?_eq_getElem kg.1) h1
      have g2:=hy _ _ _ (Array.getElem?_eq_getElem kg.2) h2
      have p1:=Pf (w:=w) ld ig (Array.getElem?_eq_getElem kg.1)
      have p2:=Pf (w:=w) ld ig (Array.getElem?_eq_getElem kg.2)
      generalize xs[f.offset]'kg.1=u at g1 p1
      generalize ys[f.offset]'kg.2=v at g2 p2
      cases g1;cases g2
      refine fin _ _ p1 p2 ?_
      rw[run_equalIn_bool (P:=P) w (d+n) f.type a b hU]
      simp only[Option.map_some,Bool.and_true,Aot]at e1
      rw[← e1]
     ·cases e1
    ·rename_i gs hU
     have ig:Mp P f.type=true:=by simp[Mp,hU]
     obtain⟨l,hl,ha⟩:=Option.bind_eq_some_iff.1 ha
     split at ha
     ·rename_i hc
      rw[Bool.and_eq_true,List.all_eq_true,List.any_eq_true]at hc
      obtain⟨hc1,q,hq,yx⟩:=hc
      simp only[Aot]at ha
      subst ha
      have hq2:q.1+1=Bp P f.type:=by simpa using yx
      have kg:=hb (q.1+f.offset,q.2) (List.mem_append_left _ (List.mem_map.2 ⟨q,hq,rfl⟩))
      dsimp only at kg
      rw[Z4]at e1
      refine fin _ _ (pC ld ig) (pC ld ig) (ih (C:=C) (fun i u c h1 h2=>?_) (fun i u c h1 h2=>?_) (fun p hp=>?_) hl e1)
      ·rw[Array.getElem?_extract]at h1
       split at h1
       ·exact hx _ _ _ h1 (by rw[List.getElem?_drop]at h2;exact h2)
       ·cases h1
      ·rw[Array.getElem?_extract]at h1
       split at h1
       ·exact hy _ _ _ h1 (by rw[List.getElem?_drop]at h2;exact h2)
       ·cases h1
      ·have:=Aon (hc1 p hp)
       simp only[Array.size_extract];omega
     ·cases ha
    ·cases ha
theorem nC {w:World}:∀ (n d:Nat) {C:Ctx} {T:TypeId} {xs ys:Array Value} {cs ds:List Ac} {offs:List (Nat×Bool)} {r:Bool},(∀ (i:Nat) (u:Value) (c:Ac),xs[i]? =some u→cs[i]? =some c→A9 C w u c)→
      (∀ (i:Nat) (u:Value) (c:Ac),ys[i]? =some u→ds[i]? =some c→A9 C w u c)→(∀ p∈offs,p.1<xs.size∧p.1<ys.size)→aL P n T=some offs→Fu cs ds offs=some r→
      (Op.equalIn (d+n+1) T (.agg xs) (.agg ys)).run P w= .ok r w
  | 0,d,C,T,xs,ys,cs,ds,offs,r,hx,hy,hb,h,hr=>by cases h
  | n+1,d,C,T,xs,ys,cs,ds,offs,r,hx,hy,hb,h,hr=>by
    unfold aL at h
    split at h
    ·rename_i fs hU
     split at h
     ·rename_i hc
      have hU':P.underlying T=some (.struct (P.fieldsOf T)):=by simp[Program.fieldsOf,hU]
      have hfs:P.fieldsOf T=fs:=by simp[Program.fieldsOf,hU]
      rw[run_equalIn_struct (P:=P) w (d+(n+1)) T xs ys hU' hc.1,hfs]
      exact jQ (n:=n) (d:=d) (fun {C T xs ys cs ds offs r} a b c e f=>nC n d a b c e f) hx hy _ _ _ hc.2 h hb hr
     ·cases h
    ·cases h
theorem Aam {C:Ctx} {w:World} {o:BinOp} {T:TypeId} {xo yo:Operand} {u v:Value} {x y:Ac} {K:Ac→Prop} (hx:A9 C w u x) (hy:A9 C w v y) (h:vG P o T x y K) :
    Quiet C w ((do eqGuard o T xo yo u v;binOp o T u v).run P w) K:=by
  unfold vG at h
  split at h
  ·cases hx;cases hy
   obtain⟨hk,h⟩:=h
   have:=rK (P:=P) (C:=C) (w:=w) (T:=T) hk h
   simp only[Sem.run_bind,uJ,Result.andThen_ok]
   exact this
  ·cases hx;cases hy
   obtain⟨hT,h⟩:=h
   simp only[Sem.run_bind,rF,Result.andThen_ok]
   have he:=run_equal_bool (P:=P) w T
   split at h
   ·exact .mk' (by simp[binOp,he _ _ hT]) (.bool _) h
   ·exact .mk' (by simp[binOp,he _ _ hT,bne]) (.bool _) h
   ·exact h.elim
  ·cases hx with
   | agg arr _ hs hc=>cases hy with
     | agg arr2 _ qd yx=>
       split at h
       ·rename_i offs fy
        split at h
        ·rename_i r hr
         unfold Mn at fy
         split at fy
         ·rename_i fs hU
          split at fy
          ·rename_i hcnd
           obtain⟨c1,c2,c3⟩:=hcnd
           have hU':P.underlying T=some (.struct (P.fieldsOf T)):=by simp[Program.fieldsOf,hU]
           have hfs:P.fieldsOf T=fs:=by simp[Program.fieldsOf,hU]
           have he:=run_equalIn_struct (P:=P) w 9999 T arr arr2 hU' c2
           rw[hfs,eS hc hs yx qd _ _ _ c3 fy hr]at he
           have hg:=run_eqGuard_agg (P:=P) w o T xo yo arr arr2 c1
           simp only[Sem.run_bind,hg,Result.andThen_ok]
           split at h
           ·exact .mk' (by rw[run_eql_struct,he];rfl) (.bool _) h
           ·exact .mk' (by rw[run_neq_struct,he];rfl) (.bool _) h
           ·exact h.elim
          ·cases fy
         ·cases fy
        ·exact h.elim
       ·split at h
        ·rename_i offs fy
         split at h
         ·rename_i r hr
          unfold rH at fy
          split at fy
          ·rename_i c1
           have he:=nC (P:=P) (w:=w) 4 9995 (fun i u c a b=>hc i u c a b) (fun i u c a b=>yx i u c a b) (fun p hp=>by have:=iV hr p hp;omega) fy hr
           have hg:=run_eqGuard_agg (P:=P) w o T xo yo arr arr2 c1
           simp only[Sem.run_bind,hg,Result.andThen_ok]
           split at h
           ·exact .mk' (by rw[run_eql_struct,he];rfl) (.bool _) h
           ·exact .mk' (by rw[run_neq_struct,he];rfl) (.bool _) h
           ·exact h.elim
          ·cases fy
         ·exact h.elim
        ·exact h.elim
  ·exact h.elim
theorem Aa5 {C:Ctx} {w:World} {o:UnOp} {u:Value} {x:Ac} {K:Ac→Prop} (hx:A9 C w u x) (h:aUn o x K) :
    Quiet C w ((Op.unary o u).run P w) K:=by
  unfold aUn at h
  split at h
  ·cases hx;exact .mk' (by simp[Op.unary]) (.bool _) h
  ·cases hx;exact .mk' (by simp[Op.unary,Op.intArith]) (.int _ _) h
  ·exact h.elim
theorem w5 {C:Ctx} {w:World} {s d:TypeId} {u:Value} {x:Ac} {K:Ac→Prop} (hx:A9 C w u x) (h:j0 P s d x K) :
    Quiet C w ((convert s d u).run P w) K:=by
  unfold j0 at h
  split at h
  ·rename_i h1 h2
   cases hx
   exact .mk' (by simp[convert,Jh h1,Jh h2,Conv.intToInt]) (.int _ _) h
  ·exact h.elim
theorem D8 (a:Addr) (n:Nat) (h:a.spot=none):a.add n=⟨a.block,a.off+n,none⟩:=by
  cases a with
  | mk b o s=>
    simp only at h
    subst h
    unfold Addr.add
    split
    ·rename_i e;subst e;rfl
    ·rfl
theorem bZ {w:World} {T:TypeId} {a:Addr} {u:Nat→Value} (hT:okT P T=true) (hc:∀ j,j<(if Mp P T then Bp P T else 1)→w.cell? (a.add j)=some (u j)) :
    (Instr.loadAt T (.pointer (some a))).run P w= .ok (if Mp P T then .agg ((List.range (Bp P T)).map u).toArray else u 0) w:=by
  obtain⟨i,d,hi,hd,hs⟩:=Ph hT
  simp only[Instr.loadAt,Instr.sureAddr,Sem.run_bind,Sem.run_pure,Result.andThen_ok,loadVar,nI hd]
  cases hA:Mp P T with
  | true=>
    simp only[hA,if_true]at hc ⊢
    have:=run_loadCells (P:=P) w a (Bp P T) u hc
    simp only[Sem.run_bind,Result.andThen_ok,Uu hi,← hs,this,Sem.run_pure]
  | false=>
    simp only[hA,Bool.false_eq_true,if_false]at hc ⊢
    have h0:=hc 0 (by omega)
    have:a.add 0=a:=by simp[Addr.add]
    rw[this]at h0
    simp[run_load,h0]
theorem Vs {C:Ctx} {w:World} {T:TypeId} {cs:List Ac} {u:Nat→Value} (hn:(if Mp P T then Bp P T else 1)≤cs.length)
    (hr:∀ (j:Nat) (c:Ac),cs[j]? =some c→A9 C w (u j) c) :
    A9 C w (if Mp P T then .agg ((List.range (Bp P T)).map u).toArray else u 0) (I7 (Mp P T) (Bp P T) cs):=by
  unfold I7
  cases hA:Mp P T with
  | true=>
    simp only[hA,if_true]at hn ⊢
    refine .agg _ _ (by simp;omega) fun i v c h1 h2=>?_
    simp only[List.getElem?_toArray,List.getElem?_map]at h1
    rw[List.getElem?_take]at h2
    split at h2
    ·rename_i ah
     rw[List.getElem?_range ah]at h1
     simp only[Option.map_some,Aot]at h1
     subst h1
     exact hr i c h2
    ·cases h2
  | false=>
    simp only[hA,Bool.false_eq_true,if_false]at hn ⊢
    match cs,hn with
    | c::r,_=>exact hr 0 c rfl
theorem C9 {α:Type} {l:List α} {i:Nat} {x:α} (h:l[i]? =some x):i<l.length:=(Aoz.1 h).1
theorem mK {W0:World} {C:Ctx} {w:World} (I:Inv W0 C w) {T:TypeId} {p:Value} {ap:Ac} {K:Ac→Prop} (hp:A9 C w p ap) (h:Z3 P T ap C.H K) :
    Quiet C w ((Instr.loadAt T p).run P w) K:=by
  unfold Z3 at h
  obtain⟨hT,h⟩:=h
  split at h
  ·rename_i r k
   split at h
   ·rename_i cs hr
    obtain⟨hn,hk⟩:=h
    cases hp with
    | ptr a _ _ ah hh=>
      obtain⟨l,hl,rfl⟩:=hh _ hr
      obtain⟨l',arr,T',h1,h2,h3,h4⟩:=I.objs r _ hr
      rw[hl,Aot]at h1
      subst h1
      have au:∀ j,k+j<cs.length→w.cell? ⟨l.b,k+j,none⟩=some (arr.getD (k+j) undef):=by
        intro j hj
        simp only[World.cell?,h2]
        have:k+j<arr.size:=by omega
        simp[Array.getD,this]
      refine .mk' (bZ (u:=fun j=>arr.getD (k+j) undef) hT fun j hj=>?_) (Vs (by simp;omega) fun j c hj=>?_) hk
      ·rw[D8 _ _ rfl];exact au j (by omega)
      ·rw[List.getElem?_drop]at hj
       have:=C9 hj
       refine h4 (k+j) _ c ?_ hj
       rw[Array.getElem?_eq_getElem (by omega)]
       simp[Array.getD,show k+j<arr.size by omega]
   ·exact h.elim
  ·rename_i r v i k
   split at h
   ·rename_i v' sz xs hr
    obtain⟨hv,hn,hk⟩:=h
    cases hp with
    | rptr a _ _ _ _ ah hh=>
      obtain⟨_,hh⟩:=hh _ _ _ hr
      obtain⟨hi,l,hl,rfl⟩:=hh hv
      obtain⟨cg,cn,hg,ho⟩:=I.objs r _ hr
      rcases ho with⟨_,h1⟩ | ⟨l',arr,T',h1,h2,h3,h4,h5⟩
      ·rw[hl]at h1;cases h1
      rw[hl,Aot]at h1
      subst h1
      have hx:xs[i]? =some xs[i]:=Aoq hi
      have wx:=cn _ (List.getElem_mem hi)
      have oz:=hk _ hx wx
      have key:∀ j c,xs[i][k+j]? =some c→∃ u,arr[l.base+i*sz+k+j]? =some u∧A9 C w u c:=by
        intro j c hj
        have:=h5 i (k+j) _ c hx hj
        rwa [show l.base+(i*sz+(k+j))=l.base+i*sz+k+j by omega]at this
      refine .mk' (bZ (u:=fun j=>arr.getD (l.base+i*sz+k+j) undef) hT fun j hj=>?_) (Vs (by simp;omega) fun j c hj=>?_) oz
      ·rw[D8 _ _ rfl]
       have ah:k+j<xs[i].length:=by omega
       obtain⟨u,hu,_⟩:=key j _ (Aoq ah)
       simp only[World.cell?,h2]
       simp[hu,Array.getD_eq_getD_getElem?]
      ·rw[List.getElem?_drop]at hj
       obtain⟨u,hu,ea⟩:=key j c hj
       simpa[Array.getD_eq_getD_getElem?,hu]using ea
   ·exact h.elim
  ·rename_i cs
   obtain⟨hn,hk⟩:=h
   cases hp with
   | eptr a _ u de hA hg au bc=>
     exact .mk' (bZ (u:=u) hT fun j hj=>by rw[D8 _ _ de];exact au j (by omega)) (Vs hn bc) hk
  ·exact h.elim
theorem uH {T:TypeId} {f off n:Nat} (h:Bn P T f=some (off,n)) (hn:1≤n):∃ fs x i,P.underlying T=some (.struct fs)∧fs[f]? =some x∧x.offset=off∧P.info? x.type=some i∧i.size=n:=by
  unfold Bn at h
  split at h
  ·rename_i fs hfs
   cases hx:fs[f]? with
   | none=>simp[hx]at h
   | some x=>
     simp only[hx,Option.map_some,Aot,Prod.mk.injEq]at h
     obtain⟨h1,h2⟩:=h
     cases hi:P.info? x.type with
     | none=>simp[Bp,hi]at h2;omega
     | some i=>exact ⟨fs,x,i,hfs,hx,h1,hi,by simpa[Bp,hi]using h2⟩
  ·cases h
theorem Yn {w:World} {T:TypeId} {f off n:Nat} {a:Addr} (h:Bn P T f=some (off,n)) (hn:1≤n) :
    (Instr.fieldAt T (.pointer (some a)) f).run P w= .ok (.pointer (some (a.add off))) w:=by
  obtain⟨fs,x,i,h1,h2,h3,h4,h5⟩:=uH h hn
  have bj:i.size≠0:=by omega
  simp only[Instr.fieldAt,Sem.run_bind,Jh h1,Result.andThen_ok,h2,Instr.sureAddr,Sem.run_pure,fieldPlace,Uu h4,bj,if_false,h3]
theorem kS {C:Ctx} {w:World} {T:TypeId} {f:Nat} {p:Value} {ap:Ac} {K:Ac→Prop} (hp:A9 C w p ap) (h:Le P T ap f K) :
    Quiet C w ((Instr.fieldAt T p f).run P w) K:=by
  unfold Le at h
  split at h
  ·rename_i off n hf
   obtain⟨hn,h⟩:=h
   split at h
   ·cases hp with
    | ptr a r k hr hh=>
      refine .mk' (Yn hf hn) (.ptr _ _ _ hr fun cs hc=>?_) h
      obtain⟨l,hl,rfl⟩:=hh cs hc
      exact⟨l,hl,by rw[D8 _ _ rfl]⟩
   ·cases hp with
    | rptr a r v i k hr hh=>
      refine .mk' (Yn hf hn) (.rptr _ _ _ _ _ hr fun v' sz xs hc=>?_) h
      obtain⟨h1,h2⟩:=hh _ _ _ hc
      refine⟨h1,fun e=>?_⟩
      obtain⟨h3,l,hl,rfl⟩:=h2 e
      exact⟨h3,l,hl,by rw[D8 _ _ rfl];simp;omega⟩
   ·rename_i cs
    cases hp with
    | eptr a _ u de hA hg au bc=>
      refine .mk' (Yn hf hn) (.eptr _ _ (fun j=>u (off+j)) (by rw[D8 _ _ de]) (by rw[D8 _ _ de];exact hA) (fun c hc=>hg c (List.mem_of_mem_drop hc)) (fun j hj=>?_) fun j c hc=>?_) h
      ·rw[D8 _ _ de]
       rw[List.length_drop]at hj
       simp only[Nat.add_assoc]
       exact au (off+j) (by omega)
      ·rw[List.getElem?_drop]at hc
       exact bc _ _ hc
   ·exact h.elim
  ·exact h.elim
theorem uG {C:Ctx} {w:World} {T:TypeId} {f:Nat} {x:Value} {ax:Ac} {K:Ac→Prop} (hx:A9 C w x ax) (h:dB P T ax f K) :
    Quiet C w ((Instr.field T x f).run P w) K:=by
  unfold dB at h
  split at h
  ·rename_i fs cs hU
   split at h
   ·rename_i g hg
    obtain⟨h1,h2,h3,hk⟩:=h
    cases hx with
    | agg arr _ hl hc=>
      have ah:g.offset<arr.size:=by omega
      refine .mk' (v:=arr[g.offset]) ?_ (hc g.offset _ _ (Array.getElem?_eq_getElem ah) ?_) hk
      ·simp only[Instr.field,Sem.run_bind,Jh hU,Result.andThen_ok,hg,asAgg,Sem.run_pure]
       exact Pf h1 h2 (Array.getElem?_eq_getElem ah)
      ·simp[List.getD_eq_getElem?_getD,h3]
   ·exact h.elim
  ·exact h.elim
theorem Qq {T e:TypeId} (h:F1 P T=some e):P.underlying T=some (.slice e):=by
  unfold F1 at h
  split at h
  ·simp only[Aot]at h;subst h;assumption
  ·cases h
theorem jE {w:World} {T e:TypeId} {k:IntKind} {n:Int} {a:Addr} {len cap:Nat} (hT:F1 P T=some e) (he:okT P e=true) (h0:0≤n) (h1:n<len) :
    (Instr.indexAt T (.slice (some a) len cap) (.int k n)).run P w= .ok (.pointer (some (a.add (n.toNat*Bp P e)))) w:=by
  obtain⟨i,d,hi,hd,hs⟩:=Ph he
  have hc:0≤n∧n<(len:Int):=⟨h0,h1⟩
  simp only[Instr.indexAt,asIntOf,Sem.run_bind,Sem.run_pure,Result.andThen_ok,Jh (Qq hT),hc,and_self,if_true,Uu hi,hs]
theorem kQ {C:Ctx} {w:World} {T:TypeId} {x i:Value} {ax ai:Ac} {K:Ac→Prop} (hx:A9 C w x ax) (hi:A9 C w i ai) (h:I8 P T ax ai C.H K) :
    Quiet C w ((Instr.indexAt T x i).run P w) K:=by
  unfold I8 at h
  split at h
  ·rename_i e k n hT
   cases hi
   obtain⟨he,h⟩:=h
   split at h
   ·rename_i sz xs
    obtain⟨hs,h0,h1,hk⟩:=h
    cases hx with
    | sl0=>simp at h1;omega
    | sl a len cap _ _ u de hlen dm cq hA cg cn hg au bc=>
      have ah:n.toNat<xs.length:=by omega
      have hy:xs[n.toNat]? =some xs[n.toNat]:=Aoq ah
      have hyl:=cn _ (List.getElem_mem ah)
      refine .mk' (jE hT he h0 (by omega)) (.eptr _ _ (fun j=>u (n.toNat*sz+j)) (by rw[D8 _ _ de]) (by rw[D8 _ _ de];exact hA) (hg _ (List.getElem_mem ah)) (fun j hj=>?_) fun j c hc=>bc _ _ _ _ hy hc) (hk _ hy hyl)
      rw[D8 _ _ de,← hs]
      simp only[Nat.add_assoc]
      refine au _ ?_
      have:(n.toNat+1)*sz≤xs.length*sz:=Nat.mul_le_mul_right _ ah
      rw[Nat.add_mul,Nat.one_mul]at this
      omega
   ·rename_i r v lo len
    split at h
    ·rename_i v' sz xs hr
     obtain⟨hv,hs,h0,h1,hk⟩:=h
     cases hx with
     | own a _ cap _ _ _ ah dm cq hh=>
       obtain⟨_,hh⟩:=hh _ _ _ hr
       obtain⟨hle,hh⟩:=hh hv
       rcases hh with hh | ⟨l,hl,rfl,di⟩
       ·omega
       refine .mk' (jE hT he h0 h1) (.rptr _ _ _ _ _ ah fun v2 sz2 xs2 jg=>?_) hk
       rw[hr,Aot,Ak.row.injEq]at jg
       obtain⟨rfl,rfl,rfl⟩:=jg
       refine⟨by omega,fun _=>⟨by omega,l,hl,?_⟩⟩
       rw[D8 _ _ rfl,← hs]
       simp[Nat.add_mul,Nat.add_assoc]
    ·exact h.elim
   ·exact h.elim
  ·rename_i k n hT
   cases hi
   split at h
   ·rename_i len e r kk hA
    obtain⟨he,h0,h1,hk⟩:=h
    have hu:P.underlying T=some (.array len e):=by
      unfold Ac3 at hA
      split at hA
      ·rename_i n' e' sx
       simp only[Aot,Prod.mk.injEq]at hA
       rw[sx,hA.1,hA.2]
      ·cases hA
    obtain⟨i,d,dt,hd,hs⟩:=Ph he
    have hc:0≤n∧n<(len:Int):=⟨h0,h1⟩
    cases hx with
    | ptr a _ _ hr hp=>
      refine .mk' (v:=.pointer (some (a.add (n.toNat*Bp P e)))) ?_ (.ptr _ _ _ hr fun cs jh=>?_) hk
      ·simp only[Instr.indexAt,Instr.sureAddr,asIntOf,Sem.run_bind,Sem.run_pure,Result.andThen_ok,Jh hu,hc,and_self,if_true,Uu dt,hs]
      ·obtain⟨l,h2,h3⟩:=hp cs jh
       exact⟨l,h2,by rw[h3,D8 _ _ rfl]⟩
   ·rename_i len e cs hA
    obtain⟨he,h0,h1,hk⟩:=h
    have hu:P.underlying T=some (.array len e):=by
      unfold Ac3 at hA
      split at hA
      ·rename_i n' e' sx
       simp only[Aot,Prod.mk.injEq]at hA
       rw[sx,hA.1,hA.2]
      ·cases hA
    obtain⟨i,d,dt,hd,hs⟩:=Ph he
    have hc:0≤n∧n<(len:Int):=⟨h0,h1⟩
    cases hx with
    | eptr a _ u de hA hg au bc=>
      refine .mk' (v:=.pointer (some (a.add (n.toNat*Bp P e)))) ?_ (.eptr _ _ (fun j=>u (n.toNat*Bp P e+j)) (by rw[D8 _ _ de]) (by rw[D8 _ _ de];exact hA) (fun c hc=>hg c (List.mem_of_mem_drop hc)) (fun j hj=>?_) fun j c hc=>?_) hk
      ·simp only[Instr.indexAt,Instr.sureAddr,asIntOf,Sem.run_bind,Sem.run_pure,Result.andThen_ok,Jh hu,hc,and_self,if_true,Uu dt,hs]
      ·rw[D8 _ _ de,Nat.add_assoc]
       exact au _ (by rw[List.length_drop]at hj;omega)
      ·rw[List.getElem?_drop]at hc;exact bc _ _ hc
   ·exact h.elim
  ·exact h.elim
theorem oG {C:Ctx} {w:World} {i:Nat} {x:Value} {vs:List Ac} {K:Ac→Prop} (hx:A9 C w x (.tuple vs)) (hi:i<vs.length) (h:K (vs.getD i .any)) :
    Quiet C w ((Instr.extract x i).run P w) K:=by
  cases hx with
  | tuple arr _ hl hc=>
    have ah:i<arr.size:=by omega
    refine .mk' (v:=arr[i]) ?_ (hc i _ _ (Array.getElem?_eq_getElem ah) ?_) h
    ·simp only[Instr.extract,Array.getElem?_eq_getElem ah,Sem.run_pure]
    ·simp[List.getD_eq_getElem?_getD,hi]
theorem Lx:maxLen=9223372036854775807:=by decide
theorem zV {W0:World} {C:Ctx} {w:World} (I:Inv W0 C w) {T ty:TypeId} {x:Value} {ax:Ac} {K:Ac→Prop}
    (hx:A9 C w x ax) (h:rS P T ax C.H K) :
    Quiet C w ((Builtin.len_ #[T] ty #[x]).run P w) K:=by
  unfold rS at h
  split at h
  ·rename_i e sz xs hT
   cases hx with
   | sl0 a cap _ cq=>exact .mk' (by simp[Builtin.len_,Jh hT];rfl) (.int _ _) (h (by simp))
   | sl a len cap _ _ u de hlen dm cq hA cg cn hg au bc=>
     subst hlen
     exact .mk' (by simp[Builtin.len_,Jh hT];rfl) (.int _ _) (h (by have:=Lx;omega))
  ·rename_i e r v lo len hT
   cases hx with
   | own a _ cap _ _ _ ah dm cq hh=>exact .mk' (by simp[Builtin.len_,Jh hT];rfl) (.int _ _) (h (by have:=Lx;omega))
  ·rename_i e hT
   cases hx;exact .mk' (by simp[Builtin.len_,Jh hT];rfl) (.int _ _) h
  ·rename_i e hT
   cases hx;exact .mk' (by simp[Builtin.len_,Jh hT];rfl) (.int _ _) h
  ·rename_i s hT
   cases hx;exact .mk' (by simp[Builtin.len_,Jh hT];rfl) (.int _ _) h
  ·rename_i k e hT
   cases hx;exact .mk' (by simp[Builtin.len_,Jh hT];rfl) (.int _ _) h
  ·rename_i k e r hT
   split at h
   ·rename_i es hr
    cases hx with
    | map b _ ah hh=>
      obtain⟨l,hl,rfl⟩:=hh _ hr rfl
      obtain⟨l',en,cl,h1,h2,h3,_,_⟩:=I.objs r _ hr
      rw[hl,Aot]at h1
      subst h1
      refine .mk' (v:=.int .i64 en.size) ?_ (by rw[h3.size];exact .int _ _) h
      simp[Builtin.len_,Jh hT,getObj,Sem.run,h2,goInt]
   ·exact h.elim
  ·rename_i k e es hT
   cases hx with
   | vmap0=>exact .mk' (by simp[Builtin.len_,Jh hT];rfl) (.int _ _) h
   | vmap b _ en cl hA hg hh cy bc=>
     refine .mk' (v:=.int .i64 en.size) ?_ (by rw[cy.size];exact .int _ _) h
     simp[Builtin.len_,Jh hT,getObj,Sem.run,hh,goInt]
  ·exact h.elim
theorem jS {C:Ctx} {w:World} {lo:Option Value} {alo:Option Ac} {d:Nat} {l:Int} (yt:∀ v a,lo=some v→alo=some a→A9 C w v a) (hn:lo.isSome=alo.isSome) (h:Lf alo d=some l) :
    (lo=none∧alo=none∧l=d)∨∃ k,lo=some (.int k l):=by
  unfold Lf at h
  split at h
  ·simp only[Aot]at h
   cases lo<;>simp_all
  ·rename_i k n
   simp only[Aot]at h
   subst h
   cases lo with
   | none=>simp at hn
   | some v=>
     have:=yt v _ rfl rfl
     cases this
     exact .inr ⟨_,rfl⟩
  ·cases h
theorem j7 {w:World} {len cap:Nat} {lo hi:Option Value} {l h:Int} (hl:(lo=none∧l=0)∨∃ k,lo=some (.int k l)) (hh:(hi=none∧h=len)∨∃ k,hi=some (.int k h))
    (h0:0≤l) (h1:l≤h) (h2:h≤cap):(Instr.sliceBounds true len cap lo hi none).run P w= .ok (l.toNat,h.toNat,cap) w:=by
  have bd:∀ (k:IntKind) (n:Int) (y:Nat) (code:BoundsCode),0≤n→n≤y→(Instr.sliceBound (.int k n) y code).run P w= .ok n.toNat w:=by
    intro k n y code a b
    have:0≤n∧n≤(y:Int):=⟨a,b⟩
    simp only[Instr.sliceBound,asIntOf,Sem.run_bind,Sem.run_pure,Result.andThen_ok,this,and_self,if_true]
  have key:∀ hv:Nat,(hv:Int)=h→(Instr.sliceBounds true len cap lo (some (.int .i64 (hv:Int))) none).run P w= .ok (l.toNat,hv,cap) w:=by
    intro hv e
    rcases hl with⟨rfl,rfl⟩ | ⟨k,rfl⟩
    ·simp[Instr.sliceBounds,bd .i64 hv cap _ (by omega) (by omega)]
    ·simp[Instr.sliceBounds,bd .i64 hv cap _ (by omega) (by omega),bd k l hv _ h0 (by omega)]
  rcases hh with⟨rfl,rfl⟩ | ⟨k,rfl⟩
  ·rcases hl with⟨rfl,rfl⟩ | ⟨k,rfl⟩
   ·simp[Instr.sliceBounds]
   ·simp[Instr.sliceBounds,bd k l len _ h0 (by omega)]
  ·have hb:=bd k h cap .sliceAcap (by omega) h2
   rcases hl with⟨rfl,rfl⟩ | ⟨k',rfl⟩
   ·simp[Instr.sliceBounds,hb]
   ·simp[Instr.sliceBounds,hb,bd k' l h.toNat _ h0 (by omega)]
theorem Re {w:World} {T e:TypeId} {i:TypeInfo} {a:Option Addr} {len cap:Nat} {lo hi:Option Value} {l h:Int} (hT:P.underlying T=some (.slice e)) (dt:P.info? e=some i)
    (hl:(lo=none∧l=0)∨∃ k,lo=some (.int k l)) (hh:(hi=none∧h=len)∨∃ k,hi=some (.int k h))
    (h0:0≤l) (h1:l≤h) (h2:h≤cap) :
    (Instr.sliceAt T (.slice a len cap) lo hi none).run P w= .ok (.slice (if cap=l.toNat then a else a.map (·.add (l.toNat*i.size))) (h.toNat - l.toNat) (cap - l.toNat)) w:=by
  simp only[Instr.sliceAt,Instr.slice,Sem.run_bind,Jh hT,Result.andThen_ok,j7 hl hh h0 h1 h2,Uu dt,Sem.run_pure]
theorem fO {w:World} {T e:TypeId} {i:TypeInfo} {a:Option Addr} {len cap:Nat} {lo hi:Option Value} {k:IntKind} (hT:P.underlying T=some (.slice e)) (dt:P.info? e=some i)
    (hl:lo=none∨∃ k,lo=some (.int k 0)) (hh:∃ k,hi=some (.int k 0)) :
    (Instr.sliceAt T (.slice a len cap) lo hi (some (.int k 0))).run P w= .ok (.slice a 0 0) w:=by
  have bd:∀ (k:IntKind) (y:Nat) (code:BoundsCode),(Instr.sliceBound (.int k 0) y code).run P w= .ok 0 w:=by
    intro k y code
    simp[Instr.sliceBound,asIntOf]
  have:(Instr.sliceBounds true len cap lo hi (some (.int k 0))).run P w= .ok (0,0,0) w:=by
    obtain⟨k2,rfl⟩:=hh
    rcases hl with rfl | ⟨k1,rfl⟩<;>simp[Instr.sliceBounds,bd]
  simp only[Instr.sliceAt,Instr.slice,Sem.run_bind,Jh hT,Result.andThen_ok,this,Uu dt,Sem.run_pure]
  simp
theorem sC {C:Ctx} {w:World} {T:TypeId} {x:Value} {ax:Ac} {lo hi mx:Option Value} {alo ahi amx:Option Ac} {K:Ac→Prop}
    (hx:A9 C w x ax) (yt:∀ v a,lo=some v→alo=some a→A9 C w v a) (hlo':lo.isSome=alo.isSome)
    (hhi:∀ v a,hi=some v→ahi=some a→A9 C w v a) (hhi':hi.isSome=ahi.isSome)
    (hmx:∀ v a,mx=some v→amx=some a→A9 C w v a) (hmx':mx.isSome=amx.isSome) (h:Sj P T ax alo ahi amx C.H K) :
    Quiet C w ((Instr.sliceAt T x lo hi mx).run P w) K:=by
  unfold Sj at h
  split at h
  ·rename_i e hT
   obtain⟨he,h⟩:=h
   obtain⟨i,d,dt,hd,hs⟩:=Ph he
   have hU:=Qq hT
   have none3:amx=none→mx=none:=by intro e;subst e;cases mx<;>simp_all
   have zero3:∀ k (m:Int),amx=some (.int k m)→m=0→∃ k',mx=some (.int k' 0):=by
     intro k m e0 e1;subst e0 e1
     cases mx with
     | none=>simp at hmx'
     | some v=>have:=hmx v _ rfl rfl;cases this;exact⟨_,rfl⟩
   have B:=fun d l (h:Lf alo d=some l)=>jS yt hlo' h
   have B2:=fun d l (h:Lf ahi d=some l)=>jS hhi hhi' h
   have Z:∀ (a:Option Addr) (len cap:Nat) d l h k m,Lf alo 0=some l→Lf ahi d=some h→amx=some (.int k m)→l=0→h=0→m=0→ahi.isSome=true→K .z0→
    Quiet C w ((Instr.sliceAt T (.slice a len cap) lo hi mx).run P w) K:=by
     intro a len cap d l h k m e1 e2 e3 z1 z2 z3 his hk
     subst z1 z2
     obtain⟨k',rfl⟩:=zero3 _ _ e3 z3
     refine .mk' (fO hU dt ?_ ?_) (.z0 _) hk
     ·rcases B _ _ e1 with⟨h1,_⟩ | h1
      ·exact .inl h1
      ·exact .inr h1
     ·rcases B2 _ _ e2 with⟨_,h2,_⟩ | h1
      ·simp[h2]at his
      ·exact h1
   have L:∀ {l:Int},Lf alo 0=some l→(lo=none∧l=0)∨∃ k,lo=some (.int k l):=by
     intro l e
     rcases B _ _ e with⟨h1,_,h2⟩ | h1
     ·exact .inl ⟨h1,by simpa using h2⟩
     ·exact .inr h1
   have R:∀ {d:Nat} {l:Int},Lf ahi d=some l→(hi=none∧l=d)∨∃ k,hi=some (.int k l):=by
     intro d l e
     rcases B2 _ _ e with⟨h1,_,h2⟩ | h1
     ·exact .inl ⟨h1,h2⟩
     ·exact .inr h1
   split at h
   ·rename_i sz xs
    obtain⟨cn,h⟩:=h
    cases hx with
    | sl0 a cap _ cq=>
      replace h:=h (by simp)
      split at h
      ·rename_i l h' e1 e2
       obtain⟨h0,h1,h2,hk⟩:=h
       obtain rfl:=none3 rfl
       simp only[List.length_nil]at h2
       refine .mk' (Re hU dt (L e1) (R e2) h0 h1 (by omega)) ?_ hk
       have e0:h'.toNat - l.toNat=0:=by omega
       rw[e0]
       simp only[List.drop_nil,List.take_nil]
       exact .sl0 _ _ _ (by omega)
      ·rename_i l h' k m e1 e2
       exact Z _ _ _ _ _ _ _ _ e1 e2 rfl h.1 h.2.1 h.2.2.1 h.2.2.2.1 h.2.2.2.2
      ·exact h.elim
    | sl a len cap _ _ u de hlen dm cq hA cg hsz' hg au bc=>
      replace h:=h (by have:=Lx;omega)
      subst hlen
      split at h
      ·rename_i l h' e1 e2
       obtain⟨h0,h1,h2,hk⟩:=h
       obtain rfl:=none3 rfl
       refine .mk' (Re hU dt (L e1) (R e2) h0 h1 (by omega)) ?_ hk
       have elen:((xs.drop l.toNat).take (h'.toNat - l.toNat)).length=h'.toNat - l.toNat:=by simp;omega
       by_cases hc:cap=l.toNat
       ·have e0:h'.toNat - l.toNat=0:=by omega
        rw[e0]
        simp only[List.take_zero]
        exact .sl0 _ _ _ (by omega)
       ·rw[if_neg hc]
        simp only[Option.map_some,D8 _ _ de]
        refine .sl _ _ _ _ _ (fun j=>u (l.toNat*sz+j)) rfl elen.symm (by omega) (by omega) hA cg (fun x hx=>hsz' x (List.mem_of_mem_drop (List.mem_of_mem_take hx)))
          (fun x hx=>hg x (List.mem_of_mem_drop (List.mem_of_mem_take hx))) (fun j hj=>?_) fun i' k x c hx mu=>?_
        ·rw[elen]at hj
         rw[← hs,← cn]
         simp only[Nat.add_assoc]
         refine au _ ?_
         have h3:h'.toNat*sz≤xs.length*sz:=Nat.mul_le_mul_right _ (by omega)
         have h4:l.toNat*sz+(h'.toNat - l.toNat)*sz=h'.toNat*sz:=by rw[← Nat.add_mul];congr 1;omega
         omega
        ·rw[List.getElem?_take]at hx
         split at hx
         ·rw[List.getElem?_drop]at hx
          have:=bc _ k x c hx mu
          rwa [Nat.add_mul,Nat.add_assoc]at this
         ·cases hx
      ·rename_i l h' k m e1 e2
       exact Z _ _ _ _ _ _ _ _ e1 e2 rfl h.1 h.2.1 h.2.2.1 h.2.2.2.1 h.2.2.2.2
      ·exact h.elim
   ·rename_i r v a len
    split at h
    ·rename_i v' sz xs hr
     obtain⟨hv,cn,h⟩:=h
     cases hx with
     | own ad _ cap _ _ _ ah dm cq hh=>
       obtain⟨_,hh⟩:=hh _ _ _ hr
       obtain⟨hle,hh⟩:=hh hv
       split at h
       ·rename_i l h' e1 e2
        obtain⟨h0,h1,h2,hk⟩:=h
        obtain rfl:=none3 rfl
        refine .mk' (Re hU dt (L e1) (R e2) h0 h1 (by omega)) (.own _ _ _ _ _ _ ah (by omega) (by omega) fun v2 sz2 xs2 jg=>?_) hk
        rw[hr,Aot,Ak.row.injEq]at jg
        obtain⟨rfl,rfl,rfl⟩:=jg
        refine⟨by omega,fun _=>⟨by omega,?_⟩⟩
        rcases hh with hh | ⟨l2,hl,rfl,di⟩
        ·exact .inl (by omega)
        ·by_cases hc:cap=l.toNat
         ·exact .inl (by omega)
         ·refine .inr ⟨l2,hl,?_,?_⟩
          ·rw[if_neg hc]
           rw[Option.map_some,D8 _ _ rfl,← hs,← cn,Nat.add_mul]
           simp only[Nat.add_assoc]
          ·rwa [show a+l.toNat+(cap - l.toNat)=a+cap by omega]
       ·rename_i l h' k m e1 e2
        exact Z _ _ _ _ _ _ _ _ e1 e2 rfl h.1 h.2.1 h.2.2.1 h.2.2.2.1 h.2.2.2.2
       ·exact h.elim
    ·exact h.elim
   ·cases hx
    split at h
    ·rename_i l h' e1 e2
     obtain⟨h0,h1,hk⟩:=h
     obtain rfl:=none3 rfl
     subst h0 h1
     refine .mk' (Re hU dt (L e1) (R (d:=0) e2) (Int.le_refl _) (Int.le_refl _) (by simp)) ?_ hk
     simp
     exact .nils
    ·rename_i l h' k m e1 e2
     exact Z _ _ _ _ _ _ _ _ e1 e2 rfl h.1 h.2.1 h.2.2.1 h.2.2.2.1 h.2.2.2.2
    ·exact h.elim
   ·cases hx
    split at h
    ·rename_i l h' e1 e2
     obtain⟨h0,h1,hk⟩:=h
     obtain rfl:=none3 rfl
     subst h0 h1
     refine .mk' (Re hU dt (L e1) (R (d:=0) e2) (Int.le_refl _) (Int.le_refl _) (by simp)) ?_ hk
     simp
     exact .z0 _
    ·rename_i l h' k m e1 e2
     exact Z _ _ _ _ _ _ _ _ e1 e2 rfl h.1 h.2.1 h.2.2.1 h.2.2.2.1 h.2.2.2.2
    ·exact h.elim
   ·exact h.elim
  ·split at h
   ·rename_i n e cs hA
    obtain⟨he,cn,hn,ow,hk⟩:=h
    have hu:P.underlying T=some (.array n e):=by
      unfold Ac3 at hA
      split at hA
      ·rename_i n' e' sx
       simp only[Aot,Prod.mk.injEq]at hA
       rw[sx,hA.1,hA.2]
      ·cases hA
    obtain⟨i,d,dt,hd,hs⟩:=Ph he
    have hlo0:lo=none:=by cases lo<;>simp_all
    have hhi0:hi=none:=by cases hi<;>simp_all
    have hmx0:mx=none:=by cases mx<;>simp_all
    subst hlo0 hhi0 hmx0
    cases hx with
    | eptr a _ u de hA hg au bc=>
      have bq:(Instr.sliceAt T (.pointer (some a)) none none none).run P w= .ok (.slice (some (if n=0 then a else a.add (0*i.size))) (n - 0) (n - 0)) w:=by
        simp[Instr.sliceAt,Instr.sureAddr,Instr.sliceBounds,Jh hu,Uu dt]
      refine .mk' bq ?_ hk
      cases cs with
      | nil=>simp only[List.length_nil]at hn;subst hn;exact .sl0 _ _ _ (Nat.zero_le _)
      | cons c cs=>
        rw[if_neg (by simp at hn;omega),Nat.zero_mul,D8 _ _ de,Nat.sub_zero]
        refine .sl _ _ _ _ _ u rfl (by rw[Ym];exact hn.symm) (Nat.le_refl _) (by have:=Lx;omega) hA (Nat.le_refl _) (fun x hx=>?_) (fun x hx c' mu=>?_) (fun j hj=>?_) fun i' k x c' hx mu=>?_
        ·obtain⟨i',dt⟩:=List.getElem?_of_mem hx
         rw[Ut]at dt
         cases hq:(c::cs)[i']? with
         | none=>rw[hq]at dt;cases dt
         | some q=>rw[hq]at dt;rw[← Aoy dt];rfl
        ·obtain⟨i',dt⟩:=List.getElem?_of_mem hx
         rw[Ut]at dt
         cases hq:(c::cs)[i']? with
         | none=>rw[hq]at dt;cases dt
         | some q=>
           rw[hq]at dt;rw[← Aoy dt]at mu
           rw[List.mem_singleton.1 mu];exact hg _ (Aor hq)
        ·rw[Ym]at hj
         show w.cell? ⟨a.block,a.off+0+j,none⟩=_
         rw[Nat.add_zero];exact au j (by omega)
        ·rw[Ut]at hx
         cases hq:(c::cs)[i']? with
         | none=>rw[hq]at hx;cases hx
         | some q=>
           rw[hq]at hx;rw[← Aoy hx]at mu
           cases k with
           | zero=>simp at mu;subst mu;rw[Nat.mul_one,Nat.add_zero];exact bc _ _ hq
           | succ k=>simp at mu
   ·exact h.elim
end
end Go.Ab
namespace Go.Ab
open Go Go.RowKit
section
variable {P:Program}
structure Yi (W0:World) (C:Ctx) (w:World) (r:Result Value) (K:Ac→Eff→Prop):Prop where
  ex:∃ v a w' C' ef,r= .ok v w'∧A9 C' w' v a∧K a ef∧C'.H=ef.app C.H∧Inv W0 C' w'∧Fe C w C' w'
structure Did (W0:World) (C:Ctx) (w:World) (r:Result Unit) (K:Ac→Eff→Prop):Prop where
  ex:∃ w' C' ef,r= .ok () w'∧K (.tuple []) ef∧C'.H=ef.app C.H∧Inv W0 C' w'∧Fe C w C' w'
theorem Quiet.done {W0:World} {C:Ctx} {w:World} (I:Inv W0 C w) {r:Result Value} {K:Ac→Eff→Prop} (h:Quiet C w r (fun a=>K a .none)):Yi W0 C w r K:=by
  obtain⟨v,a,h1,h2,h3⟩:=h.ex
  exact⟨v,a,w,C,.none,h1,h2,h3,rfl,I,.refl _ _⟩
theorem Zp {W0 w:World} (h:Below W0.heap.size W0 w) (o:Obj):Below W0.heap.size W0 (w.alloc o):=h.alloc h.size o
theorem Inv.alloc {W0:World} {C:Ctx} {w:World} (I:Inv W0 C w) (id:Nat) (bw:Py C.H id) (o:Ak) (X:Obj) (cap:Nat)
    (ho:Fe C w (C.new id o ⟨w.heap.size,0,cap⟩) (w.alloc X)→Yh (C.new id o ⟨w.heap.size,0,cap⟩) (w.alloc X) id o) :
    Inv W0 (C.new id o ⟨w.heap.size,0,cap⟩) (w.alloc X)∧Fe C w (C.new id o ⟨w.heap.size,0,cap⟩) (w.alloc X):=
  I.fresh id bw o _ (Nat.le_refl _) (by simp) (fun b hb=>Below.heap_alloc _ _ _ hb) (Zp I.below X) ho
theorem Ea (w:World) (X:Obj):(w.alloc X).heap[w.heap.size]? =some X:=by
  show(w.heap.push X)[w.heap.size]? =some X
  simp
theorem Ctx.U0 (C:Ctx) (id:Nat) (o:Ak) (l:Loc):(C.new id o l).ρ id=some l:=by simp[Ctx.new]
theorem Ctx.Ads {C:Ctx} {id:Nat} (bw:Py C.H id) (o:Ak) (l:Loc):(C.new id o l).H[id]? =some o:=Gk bw
theorem Ctx.Tb {C:Ctx} {id:Nat} (bw:Py C.H id) {o:Ak} (l:Loc) (bj:o≠.resv):(C.new id o l).known id:=⟨o,Gk bw,bj⟩
theorem Lc (C:Ctx) (w:World) {T:TypeId} {z:Value} (hz:zeroV P T=some z):z.cells.size=(B7 P T).length∧
    ∀ (i:Nat) (u:Value) (c:Ac),z.cells[i]? =some u→(B7 P T)[i]? =some c→A9 C w u c:=by
  simp only[B7,hz]
  refine⟨by simp,fun i u c h1 h2=>?_⟩
  simp only[List.getElem?_map,Array.getElem?_toList,h1,Option.map_some,Aot]at h2
  subst h2
  exact Zz C w u
theorem V3 {T:TypeId} {z:Value} (h:zeroV P T=some z) (w:World):(zeroValue T).run P w= .ok z w:=by
  unfold zeroV at h
  cases hi:P.info? T with
  | none=>simp[hi]at h
  | some i=>
    have hz:i.zero=some z:=by simpa[hi]using h
    simp[zeroValue,typeInfo,hi,hz]
theorem Abt {W0:World} {C:Ctx} {w:World} (I:Inv W0 C w) {id:Nat} (bw:Py C.H id) {T:TypeId} {v:Value} {cs:List Ac} {K:Ac→Eff→Prop}
    (h1:v.cells.size=cs.length) (h2:∀ (i:Nat) (u:Value) (c:Ac),v.cells[i]? =some u→cs[i]? =some c→A9 C w u c)
    (hk:K (.ptr id 0) (.new id (.box cs))):Yi W0 C w (((fun a=>Value.pointer (some a)) <$> newVar T v).run P w) K:=by
  have key:=I.alloc id bw (.box cs) (.cells v.cells T) v.cells.size (fun m=>⟨_,v.cells,T,Ctx.U0 _ _ _ _,Ea _ _,h1,fun i u c a b=>(h2 i u c a b).mono m⟩)
  refine⟨.pointer (some ⟨w.heap.size,0,none⟩),.ptr id 0,_,_,_,?_,?_,hk,rfl,key.1,key.2⟩
  ·simp[newVar,newRow]
  ·refine .ptr _ _ _ (Ctx.Tb bw _ (by simp)) fun cs' _=>⟨_,Ctx.U0 _ _ _ _,rfl⟩
theorem u7 {W0:World} {C:Ctx} {w:World} (I:Inv W0 C w) {id:Nat} (bw:Py C.H id) {T:TypeId} {K:Ac→Eff→Prop} (h:xP P T id K) :
    Yi W0 C w ((Instr.alloc T true (.tuple #[])).run P w) K:=by
  obtain⟨hz,hk⟩:=h
  obtain⟨z,hz⟩:=Option.isSome_iff_exists.1 hz
  have hr:=Lc (P:=P) C w hz
  have:=Abt (P:=P) (T:=T) I bw hr.1 hr.2 hk
  simpa[Instr.alloc,V3 hz,Sem.run_map,Sem.run_bind]using this
theorem Aak {W0:World} {C:Ctx} {w:World} (I:Inv W0 C w) {id:Nat} (bw:Py C.H id) {T:TypeId} {x:Value} {ax:Ac} {K:Ac→Eff→Prop} (hx:A9 C w x ax) (h:Aay ax id K) :
    Yi W0 C w ((Instr.box T x).run P w) K:=by
  unfold Aay at h
  split at h
  ·rename_i cs hc
   have hr:=dA hx hc
   have:=Abt (P:=P) (T:=T) I bw hr.1 hr.2 h
   simpa[Instr.box,Sem.run_map,Sem.run_bind]using this
  ·exact h.elim
theorem U4 {w:World} {g:Nat} {cur c:Array Value} {t:TypeId} (hg:w.heap[g]? =some (.cells cur t (0,0))) :
    (w.setRow g c).heap[g]? =some (.cells c t (0,0)):=setRow_heap w g cur c t _ hg
theorem I5 {W0 w:World} (h:Below W0.heap.size W0 w) {g:Nat} (hg:W0.heap.size≤g) (c:Array Value):Below W0.heap.size W0 (w.setRow g c):=
  h.trans ⟨rfl,rfl,rfl,by simp[World.setRow],fun k hk=>setRow_other w g k _ (by omega)⟩
theorem jD {w:World} {T:TypeId} {g o:Nat} {cur:Array Value} {t:TypeId} {x:Value} (hT:okT P T=true) (hg:w.heap[g]? =some (.cells cur t (0,0)))
    (hn:x.cells.size=Bp P T) (di:o+x.cells.size≤cur.size) (h1:∀ v∈x.cells.toList,v.oneCell'=true) :
    (Instr.storeAt T (.pointer (some ⟨g,o,none⟩)) x).run P w= .ok () (w.setRow g (cur.toList.take o++x.cells.toList++cur.toList.drop (o+x.cells.size)).toArray):=by
  obtain⟨i,d,hi,hd,hs⟩:=Ph hT
  have:=run_storeCells_at P g o t x.cells.toList 0 cur w hg (by simpa using di) h1
  simp only[Nat.add_zero,Array.length_toList]at this
  simp only[Instr.storeAt,Instr.sureAddr,storeVar,Sem.run_bind,Sem.run_pure,Result.andThen_ok,Uu hi,hn,hs,ne_eq,not_true_eq_false,if_false,this]
theorem Io {cur:Array Value} {o:Nat} {vs:List Value} (h:o+vs.length≤cur.size):(cur.toList.take o++vs++cur.toList.drop (o+vs.length)).toArray.size=cur.size:=by
  simp;omega
theorem Hd {cur:Array Value} {o:Nat} {vs:List Value} (h:o+vs.length≤cur.size) (j:Nat) :
    (cur.toList.take o++vs++cur.toList.drop (o+vs.length)).toArray[j]? =if j<o then cur[j]? else if j<o+vs.length then vs[j - o]? else cur[j]?:=by
  simp only[List.getElem?_toArray,List.getElem?_append,Aou,List.length_take,Array.length_toList]
  have e:min o cur.size=o:=by omega
  rw[e]
  by_cases h1:j<o
  ·rw[if_pos (by omega),if_pos h1,if_pos h1,List.getElem?_take,if_pos h1,Array.getElem?_toList]
  ·rw[if_neg h1,if_neg h1]
   by_cases h2:j<o+vs.length
   ·rw[if_pos h2,if_pos h2]
   ·rw[if_neg h2,if_neg h2,List.getElem?_drop,Array.getElem?_toList]
    congr 1;omega
theorem Z1 {cs:List Ac} {o:Nat} {vs:List Ac} (h:o+vs.length≤cs.length) (j:Nat) :
    (splice cs o vs)[j]? =if j<o then cs[j]? else if j<o+vs.length then vs[j - o]? else cs[j]?:=by
  unfold splice
  simp only[List.getElem?_append,Aou,List.length_take]
  have e:min o cs.length=o:=by omega
  rw[e]
  by_cases h1:j<o
  ·rw[if_pos (by omega),if_pos h1,if_pos h1,List.getElem?_take,if_pos h1]
  ·rw[if_neg h1,if_neg h1]
   by_cases h2:j<o+vs.length
   ·rw[if_pos h2,if_pos h2]
   ·rw[if_neg h2,if_neg h2,List.getElem?_drop]
    congr 1;omega
theorem Vb {cs:List Ac} {o:Nat} {vs:List Ac} (h:o+vs.length≤cs.length):(splice cs o vs).length=cs.length:=by
  unfold splice;simp;omega
theorem r6 {W0:World} {C:Ctx} {w:World} (I:Inv W0 C w) {T:TypeId} {p x:Value} {ap ax:Ac} {K:Ac→Eff→Prop} (hp:A9 C w p ap) (hx:A9 C w x ax) (h:Z0 P T ap ax C.H K) :
    Did W0 C w ((Instr.storeAt T p x).run P w) K:=by
  unfold Z0 at h
  split at h
  ·rename_i vs fc
   obtain⟨hT,hn,ov,h⟩:=h
   have hr:=dA hx fc
   have h1:∀ v∈x.cells.toList,v.oneCell'=true:=by
     intro v hv
     obtain⟨i,hi⟩:=List.getElem?_of_mem hv
     rw[Array.getElem?_toList]at hi
     have ah:i<vs.length:=by have:=(Array.getElem?_eq_some_iff.1 hi).1;omega
     exact one_cell (hr.2 i v _ hi (Aoq ah)) (List.all_eq_true.1 ov _ (List.getElem_mem ah))
   split at h
   ·rename_i r k
    split at h
    ·rename_i cs hH
     obtain⟨di,hk⟩:=h
     cases hp with
     | ptr a _ _ ah hh=>
       obtain⟨l,hl,rfl⟩:=hh _ hH
       replace ah:=ah.lt
       obtain⟨l',arr,T',e1,e2,e3,e4⟩:=I.objs r _ hH
       rw[hl,Aot]at e1
       subst e1
       have bq:=jD (P:=P) (T:=T) (o:=k) hT e2 (by omega) (by omega) h1
       have jx:x.cells.size=x.cells.toList.length:=by simp
       rw[jx]at bq
       have ta:k+x.cells.toList.length≤arr.size:=by simp;omega
       have key:=I.put (o':=.box (splice cs k vs)) hH hl (w':=w.setRow l.b (arr.toList.take k++x.cells.toList++arr.toList.drop (k+x.cells.toList.length)).toArray)
         (fun b hb=>setRow_other w l.b b _ hb) (by simp[World.setRow]) (I5 I.below (I.sep _ _ hl).2.1 _)
         (by unfold D3;simp only[Ctx.set,List.getElem?_set_self ah];exact⟨⟨_,hH⟩,trivial⟩)
         (fun m=>⟨l,_,T',hl,U4 e2,by rw[Io ta,Vb di,e3],fun i u c a b=>by
           rw[Hd ta]at a
           rw[Z1 di]at b
           rw[← jx,hr.1]at a
           split at a
           ·rename_i h'
            rw[if_pos h']at b
            exact(e4 i u c a b).mono m
           ·rename_i h'
            rw[if_neg h']at b
            split at a
            ·rename_i h2
             rw[if_pos h2]at b
             exact(hr.2 _ u c (by simpa using a) b).mono m
            ·rename_i h2
             rw[if_neg h2]at b
             exact(e4 i u c a b).mono m⟩)
       exact⟨_,_,_,bq,hk,rfl,key.1,key.2⟩
    ·exact h.elim
   ·rename_i r v i k
    split at h
    ·rename_i v' sz xs hH
     obtain⟨hv,hgr,di,hk⟩:=h
     cases hp with
     | rptr a _ _ _ _ ah hh=>
       obtain⟨_,hh⟩:=hh _ _ _ hH
       replace ah:=ah.lt
       obtain⟨hi,l,hl,rfl⟩:=hh hv
       obtain⟨cg,cn,hg,ho⟩:=I.objs r _ hH
       rcases ho with⟨_,e1⟩ | ⟨l',arr,T',e1,e2,e3,e4,e5⟩
       ·rw[hl]at e1;cases e1
       rw[hl,Aot]at e1
       subst e1
       have yp:xs[i]? =some xs[i]:=Aoq hi
       have wx:=cn _ (List.getElem_mem hi)
       have oz:=hk _ yp wx
       have hmul:(i+1)*sz≤xs.length*sz:=Nat.mul_le_mul_right _ hi
       rw[Nat.add_mul,Nat.one_mul]at hmul
       have ta:l.base+i*sz+k+x.cells.toList.length≤arr.size:=by simp;omega
       have bq:=jD (P:=P) (T:=T) (o:=l.base+i*sz+k) hT e2 (by omega) (by simpa using ta) h1
       have jx:x.cells.size=x.cells.toList.length:=by simp
       rw[jx]at bq
       have lf:vs.length=x.cells.toList.length:=by simp;omega
       have hfa:k+vs.length≤xs[i].length:=by omega
       have ix:∀ (i2:Nat) (x2:List Ac),(xs.set i (splice xs[i] k vs))[i2]? =some x2→(i2=i∧x2=splice xs[i] k vs)∨(i2≠i∧xs[i2]? =some x2):=by
         intro i2 x2 h2
         by_cases e:i=i2
         ·subst e
          rw[List.getElem?_set_self hi,Aot]at h2
          exact .inl ⟨rfl,h2.symm⟩
         ·rw[List.getElem?_set_ne e]at h2
          exact .inr ⟨fun h=>e h.symm,h2⟩
       have iy:∀ x2∈xs.set i (splice xs[i] k vs),x2=splice xs[i] k vs∨x2∈xs:=by
         intro x2 h2
         rcases List.mem_or_eq_of_mem_set h2 with h2 | h2
         ·exact .inr h2
         ·exact .inl h2
       have key:=I.put (o':=.row v' sz (xs.set i (splice xs[i] k vs))) hH hl (w':=w.setRow l.b (arr.toList.take (l.base+i*sz+k)++x.cells.toList++arr.toList.drop (l.base+i*sz+k+x.cells.toList.length)).toArray)
         (fun b hb=>setRow_other w l.b b _ hb) (by simp[World.setRow]) (I5 I.below (I.sep _ _ hl).2.1 _)
         (by unfold D3;simp only[Ctx.set,List.getElem?_set_self ah];exact .inl ⟨_,hH,by simp,trivial⟩)
         (fun m=>⟨cg,fun x2 h2=>by
          rcases iy x2 h2 with rfl | h2
          ·rw[Vb hfa];exact wx
          ·exact cn x2 h2,fun x2 h2=>by
          rcases iy x2 h2 with rfl | h2
          ·intro c hc
           unfold splice at hc
           rw[Aox,Aox]at hc
           rcases hc with(hc | hc) | hc
           ·exact hg _ (List.getElem_mem hi) c (List.mem_of_mem_take hc)
           ·exact List.all_eq_true.1 hgr c hc
           ·exact hg _ (List.getElem_mem hi) c (List.mem_of_mem_drop hc)
          ·exact hg x2 h2,
           .inr ⟨l,_,T',hl,U4 e2,by rw[Io ta,e3],by simpa using e4,fun i2 k2 x2 c2 g1 g2=>by
             rw[Hd ta]
             rcases ix i2 x2 g1 with⟨rfl,rfl⟩ | ⟨bj,g1⟩
             ·rw[Z1 hfa]at g2
              by_cases hA:k2<k
              ·rw[if_pos hA]at g2
               obtain⟨u,hu,ea⟩:=e5 i2 k2 _ c2 yp g2
               exact⟨u,by rw[if_pos (by omega)];exact hu,ea.mono m⟩
              ·rw[if_neg hA]at g2
               by_cases hB:k2<k+vs.length
               ·rw[if_pos hB]at g2
                have az:k2 - k<x.cells.size:=by omega
                refine⟨x.cells[k2 - k],?_,(hr.2 (k2 - k) _ c2 (Array.getElem?_eq_getElem az) g2).mono m⟩
                rw[if_neg (by omega),if_pos (by omega)]
                have:l.base+(i2*sz+k2) - (l.base+i2*sz+k)=k2 - k:=by omega
                rw[this,Array.getElem?_toList,Array.getElem?_eq_getElem az]
               ·rw[if_neg hB]at g2
                obtain⟨u,hu,ea⟩:=e5 i2 k2 _ c2 yp g2
                exact⟨u,by rw[if_neg (by omega),if_neg (by omega)];exact hu,ea.mono m⟩
             ·obtain⟨u,hu,ea⟩:=e5 i2 k2 _ c2 g1 g2
              refine⟨u,?_,ea.mono m⟩
              have df:k2<sz:=by have:=C9 g2;have:=cn _ (Aor g1);omega
              have hkk:k+vs.length≤sz:=by omega
              rcases Nat.lt_or_gt_of_ne bj with nh | hgt'
              ·have:(i2+1)*sz≤i*sz:=Nat.mul_le_mul_right _ nh
               rw[Nat.add_mul,Nat.one_mul]at this
               rw[if_pos (by omega)];exact hu
              ·have:(i+1)*sz≤i2*sz:=Nat.mul_le_mul_right _ hgt'
               rw[Nat.add_mul,Nat.one_mul]at this
               rw[if_neg (by omega),if_neg (by omega)];exact hu⟩⟩)
       exact⟨_,_,_,bq,oz,rfl,key.1,key.2⟩
    ·exact h.elim
   ·exact h.elim
  ·exact h.elim
variable {P:Program}
theorem pX:∀ (l:List Value) (k off:Nat) (arr:Array Value),off+k+l.length≤arr.size→
    ((l.zipIdx k).foldl (fun cs (p:Value×Nat)=>cs.setIfInBounds (off+p.2) p.1) arr).size=arr.size∧
    ∀ j,((l.zipIdx k).foldl (fun cs (p:Value×Nat)=>cs.setIfInBounds (off+p.2) p.1) arr)[j]? =if off+k≤j∧j<off+k+l.length then l[j - (off+k)]? else arr[j]?
  | [],k,off,arr,_=>⟨rfl,fun j=>by simp;omega⟩
  | x::l,k,off,arr,h=>by
    simp only[List.length_cons]at h
    have ih:=pX l (k+1) off (arr.setIfInBounds (off+k) x) (by simp;omega)
    simp only[List.zipIdx_cons,List.foldl_cons]
    refine⟨by rw[ih.1];simp,fun j=>?_⟩
    rw[ih.2 j]
    simp only[List.length_cons]
    by_cases h1:off+(k+1)≤j∧j<off+(k+1)+l.length
    ·rw[if_pos h1,if_pos (by omega),show j - (off+k)=(j - (off+(k+1)))+1 by omega]
     simp
    ·rw[if_neg h1]
     by_cases h2:j=off+k
     ·subst h2
      rw[if_pos (by omega),Array.getElem?_setIfInBounds_self]
      rw[if_pos (by omega)]
      simp
     ·rw[if_neg (by omega),Array.getElem?_setIfInBounds_ne (by omega)]
theorem nA {C:Ctx} {w:World} (place:Nat→Option (Nat×Nat)):∀ (parts:List (Nat×Value)) (aparts:List (Nat×Ac)) (arr:Array Value) (cs cs':List Ac),
    parts.length=aparts.length→(∀ (i:Nat) p q,parts[i]? =some p→aparts[i]? =some q→p.1=q.1∧A9 C w p.2 q.2)→
    arr.size=cs.length→(∀ (i:Nat) (u:Value) (c:Ac),arr[i]? =some u→cs[i]? =some c→A9 C w u c)→bU place cs aparts=some cs'→
    ∃ arr',Instr.fill place arr parts=some arr'∧arr'.size=cs'.length∧∀ (i:Nat) (u:Value) (c:Ac),arr'[i]? =some u→cs'[i]? =some c→A9 C w u c
  | [],[],arr,cs,cs',_,_,hs,hr,h=>by
    simp only[bU,Aot]at h
    subst h
    exact⟨arr,rfl,hs,hr⟩
  | (i,v)::parts,(i',a)::aparts,arr,cs,cs',hl,hp,hs,hr,h=>by
    obtain⟨h1,h2⟩:=hp 0 (i,v) (i',a) rfl rfl
    simp only at h1 h2
    subst h1
    simp only[bU]at h
    split at h
    ·rename_i off size vs qf hc
     split at h
     ·cases h
     ·rename_i hn
      have hac:=dA h2 hc
      have hn1:vs.length=size:=by omega
      have vh:off+vs.length≤cs.length:=by omega
      have di:off+0+v.cells.toList.length≤arr.size:=by simp;omega
      have hf:=pX v.cells.toList 0 off arr di
      have ih:=nA place parts aparts _ (splice cs off vs) cs' (by simpa using hl) (fun j p q a b=>hp (j+1) p q a b)
        (by rw[hf.1,Vb vh,hs]) (fun j u c a b=>by
          rw[hf.2 j]at a
          rw[Z1 vh]at b
          simp only[Nat.add_zero,Array.length_toList,hac.1]at a
          split at a
          ·rename_i hj
           rw[if_neg (by omega),if_pos hj.2]at b
           exact hac.2 _ u c (by simpa using a) b
          ·rename_i hj
           by_cases h3:j<off
           ·rw[if_pos h3]at b;exact hr j u c a b
           ·rw[if_neg h3,if_neg (by omega)]at b;exact hr j u c a b) h
      obtain⟨arr',e1,e2,e3⟩:=ih
      refine⟨arr',?_,e2,e3⟩
      simp only[Instr.fill,qf]
      rw[if_neg (by simp;omega)]
      rw[← e1]
      congr 1
      rw[← Array.foldl_toList,Array.toList_zipIdx]
    ·cases h
  | [],_::_,_,_,_,hl,_,_,_,_=>by simp at hl
  | _::_,[],_,_,_,hl,_,_,_,_=>by simp at hl
theorem uX {C:Ctx} {w:World} {T:TypeId} {parts:Array (Nat×Value)} {aparts:List (Nat×Ac)} {K:Ac→Prop} (hl:parts.toList.length=aparts.length)
    (hp:∀ (i:Nat) p q,parts.toList[i]? =some p→aparts[i]? =some q→p.1=q.1∧A9 C w p.2 q.2) (h:dD P T aparts K):Quiet C w ((Instr.build T parts).run P w) K:=by
  obtain⟨hz,h⟩:=h
  obtain⟨z,hz⟩:=Option.isSome_iff_exists.1 hz
  split at h
  ·rename_i pl qf
   split at h
   ·rename_i cs jh
    have su:=Lc (P:=P) C w hz
    obtain⟨arr',e1,e2,e3⟩:=nA (C:=C) (w:=w) _ _ _ _ _ _ hl hp su.1 su.2 jh
    refine .mk' (run_build w T parts arr' ?_) (.agg arr' cs e2 e3) h
    unfold placesOf at qf
    split at qf
    ·rename_i fs hU
     unfold zeroV at hz
     cases hi:P.info? T with
     | none=>simp[hi]at hz
     | some i=>
       have hz':i.zero=some z:=by simpa[hi]using hz
       simp only[Program.built,hi,hU,hz',qf]
       simpa using e1
    ·cases qf
   ·exact h.elim
  ·exact h.elim
theorem Tc (sz:Nat):∀ (n:Nat) (l:List Ac),(chunk sz n l).length=n
  | 0,_=>rfl
  | n+1,l=>by simp[chunk,Tc sz n]
theorem aP (sz:Nat):∀ (n:Nat) (l:List Ac) (i:Nat),i<n→(chunk sz n l)[i]? =some ((l.drop (i*sz)).take sz)
  | 0,_,_,h=>absurd h (by omega)
  | n+1,l,0,_=>by simp[chunk]
  | n+1,l,i+1,h=>by
    simp only[chunk,List.getElem?_cons_succ]
    rw[aP sz n _ i (by omega),List.drop_drop,Nat.add_mul,Nat.one_mul,Nat.add_comm sz]
theorem wL {T e:TypeId} (_h:F1 P T=some e) {z:Value} (hz:zeroV P e=some z):∃ i,P.info? e=some i∧i.zero=some z∧Bp P e=i.size∧bytesOf P e=i.bytes:=by
  unfold zeroV at hz
  cases hi:P.info? e with
  | none=>simp[hi]at hz
  | some i=>exact ⟨i,rfl,by simpa[hi]using hz,by simp[Bp,hi],by simp[bytesOf,hi]⟩
theorem w7 {C:Ctx} {w:World} {arr:Array Value} {cs:List Ac} {sz n:Nat} (hn:cs.length=n*sz) (hr:∀ (i:Nat) (u:Value) (c:Ac),arr[i]? =some u→cs[i]? =some c→A9 C w u c) (hs:arr.size=cs.length) :
    (∀ x∈chunk sz n cs,x.length=sz)∧∀ (i k:Nat) (x:List Ac) (c:Ac),(chunk sz n cs)[i]? =some x→x[k]? =some c→∃ u,arr[0+(i*sz+k)]? =some u∧A9 C w u c:=by
  refine⟨fun x hx=>?_,fun i k x c hx hc=>?_⟩
  ·obtain⟨i,hi⟩:=List.getElem?_of_mem hx
   have ah:i<n:=by have:=C9 hi;rwa [Tc]at this
   rw[aP sz n cs i ah,Aot]at hi
   subst hi
   have:(i+1)*sz≤n*sz:=Nat.mul_le_mul_right _ ah
   rw[Nat.add_mul,Nat.one_mul]at this
   simp;omega
  ·have ah:i<n:=by have:=C9 hx;rwa [Tc]at this
   rw[aP sz n cs i ah,Aot]at hx
   subst hx
   rw[List.getElem?_take]at hc
   split at hc
   ·rw[List.getElem?_drop]at hc
    have az:=C9 hc
    refine⟨arr[i*sz+k],?_,hr _ _ c ?_ hc⟩
    ·rw[Nat.zero_add,Array.getElem?_eq_getElem (by omega)]
    ·rw[Array.getElem?_eq_getElem (by omega)]
   ·cases hc
theorem w8 {sz n:Nat} {cs x:List Ac} {c:Ac} (hx:x∈chunk sz n cs) (hc:c∈x):c∈cs:=by
  obtain⟨i,hi⟩:=List.getElem?_of_mem hx
  have ah:i<n:=by have:=C9 hi;rwa [Tc]at this
  rw[aP sz n cs i ah,Aot]at hi
  subst hi
  exact List.mem_of_mem_drop (List.mem_of_mem_take hc)
theorem hX {W0:World} {C:Ctx} {w:World} (I:Inv W0 C w) {id:Nat} (bw:Py C.H id) (T:TypeId) (arr:Array Value) (sz len cap:Nat) (xs:List (List Ac)) (cg:1≤sz) (cn:∀ x∈xs,x.length=sz) (hg:∀ x∈xs,∀ c∈x,Ac.g0 c=true)
    (hlen:len=xs.length) (di:xs.length*sz≤arr.size)
    (hr:∀ (i k:Nat) (x:List Ac) (c:Ac),xs[i]? =some x→x[k]? =some c→∃ u,arr[0+(i*sz+k)]? =some u∧A9 C w u c)
    (dm:len≤cap) (cq:cap≤maxLen) (nk:cap*sz≤arr.size) :
    ∃ C',C'.H=G9 C.H id (.row 0 sz xs)∧A9 C' (w.alloc (.cells arr T)) (.slice (some ⟨w.heap.size,0,none⟩) len cap) (.own id 0 0 len)∧
      Inv W0 C' (w.alloc (.cells arr T))∧Fe C w C' (w.alloc (.cells arr T)):=by
  have key:=I.alloc id bw (.row 0 sz xs) (.cells arr T) arr.size (fun m=>⟨cg,cn,hg,.inr ⟨_,arr,T,Ctx.U0 _ _ _ _,Ea _ _,rfl,by simpa using di,fun i k x c a b=>by
    obtain⟨u,hu,ea⟩:=hr i k x c a b
    exact⟨u,hu,ea.mono m⟩⟩⟩)
  refine⟨_,rfl,.own _ _ _ _ _ _ (Ctx.Tb bw _ (by simp)) dm cq (fun v' sz' xs' h=>?_),key.1,key.2⟩
  rw[Ctx.Ads bw,Aot,Ak.row.injEq]at h
  obtain⟨rfl,rfl,rfl⟩:=h
  exact⟨Nat.le_refl _,fun _=>⟨by omega,.inr ⟨_,Ctx.U0 _ _ _ _,by simp,by simpa using nk⟩⟩⟩
theorem dN (cs:List Ac):∀ n,(reps n cs).length=n*cs.length
  | 0=>by simp[reps]
  | n+1=>by rw[reps,Aou,dN cs n,Nat.add_mul,Nat.one_mul];omega
theorem sK (cs:List Ac):∀ (n j:Nat),j<n*cs.length→(reps n cs)[j]? =cs[j % cs.length]?
  | 0,j,h=>by simp at h
  | n+1,j,h=>by
    rw[reps]
    by_cases hj:j<cs.length
    ·rw[List.getElem?_append_left hj,Nat.mod_eq_of_lt hj]
    ·rw[List.getElem?_append_right (by omega),sK cs n _ (by rw[Nat.add_mul,Nat.one_mul]at h;omega)]
     congr 1
     exact(Nat.mod_eq_sub_mod (by omega)).symm
theorem iP {W0:World} {C:Ctx} {w:World} (I:Inv W0 C w) {id:Nat} (bw:Py C.H id) {T:TypeId} {len:Nat} {parts:Array (Nat×Value)} {aparts:List (Nat×Ac)} {K:Ac→Eff→Prop} (hl:parts.toList.length=aparts.length)
    (hp:∀ (i:Nat) p q,parts.toList[i]? =some p→aparts[i]? =some q→p.1=q.1∧A9 C w p.2 q.2) (hm:len≤maxLen) (h:Oc P T len aparts id K):Yi W0 C w ((Instr.buildSlice T len parts).run P w) K:=by
  unfold Oc at h
  split at h
  ·rename_i e hT
   obtain⟨hz,h1,h2,h3,h⟩:=h
   obtain⟨z,hz⟩:=Option.isSome_iff_exists.1 hz
   obtain⟨i,hi,vk,hs,hb⟩:=wL hT hz
   have su:=Lc (P:=P) C w hz
   have ur:z.cells.size=Bp P e:=by omega
   split at h
   ·rename_i cs jh
    obtain⟨hg,hk⟩:=h
    obtain⟨arr',e1,e2,e3⟩:=nA (C:=C) (w:=w) (fun i=>some (i*Bp P e,Bp P e)) _ _ ((Array.range (len*Bp P e)).map (z.cells[·% z.cells.size]!)) _ _ hl hp (by simp[dN,h2]) (fun j u c a b=>by
      simp only[Array.getElem?_map]at a
      by_cases hj:j<len*Bp P e
      ·rw[Array.getElem?_range,if_pos hj]at a
       rw[sK _ _ _ (by rw[h2];exact hj),h2]at b
       simp only[Option.map_some,Aot]at a
       subst a
       have hm:=Nat.mod_lt j (show 0<Bp P e by omega)
       refine su.2 (j % Bp P e) _ _ ?_ b
       rw[ur,getElem!_pos z.cells (j % Bp P e) (by omega)]
       rw[Array.getElem?_eq_getElem (by omega)]
      ·rw[List.getElem?_eq_none (by rw[dN,h2];omega)]at b
       cases b) jh
    have et:cs.length=len*Bp P e:=by
      have:∀ (aparts:List (Nat×Ac)) (place) (cs cs':List Ac),bU place cs aparts=some cs'→cs'.length=cs.length:=by
        intro aparts place
        induction aparts with
        | nil=>intro cs cs' h;simp only[bU,Aot]at h;subst h;rfl
        | cons p r ih=>
          intro cs cs' h
          simp only[bU]at h
          split at h
          ·split at h
           ·cases h
           ·rw[ih _ _ h,Vb (by omega)]
          ·cases h
      rw[this _ _ _ _ jh,dN,h2]
    have hch:=w7 et e3 e2
    have hgr:∀ x∈chunk (Bp P e) len cs,∀ c∈x,Ac.g0 c=true:=fun x hx c hc=>List.all_eq_true.1 hg c (w8 hx hc)
    have hlr:len*Bp P e≤arr'.size:=by omega
    obtain⟨C',g1,g2,g3,g4⟩:=hX I bw e arr' (Bp P e) len len (chunk (Bp P e) len cs) h1 hch.1 hgr (by rw[Tc]) (by rw[Tc];exact hlr) hch.2 (Nat.le_refl _) hm hlr
    refine⟨_,_,_,C',_,?_,g2,hk,g1,g3,g4⟩
    have hle:¬ (len*Bp P e > 2 ^ 24):=by simp;omega
    have jg:(Instr.buildSlice T len parts).run P w= .ok (.slice (some ⟨w.heap.size,0,none⟩) len len) (w.alloc (.cells arr' e)):=by
      by_cases h0:len*Bp P e=0
      ·have ub:len=0:=by
         rcases Nat.mul_eq_zero.1 h0 with h | h
         ·exact h
         ·omega
       subst ub
       have hrg:Array.range 0=#[]:=rfl
       have e1':Instr.fill (fun i=>some (i*Bp P e,Bp P e)) #[] parts.toList=some arr':=by simpa[hrg]using e1
       simp[Instr.buildSlice,Jh (Qq hT),Uu hi,← hs,e1',newRow,hrg]
      ·simp only[Instr.buildSlice,Sem.run_bind,Jh (Qq hT),Result.andThen_ok,Uu hi,← hs,hle,h0,if_false,V3 hz,Sem.run_pure,e1,newRow,run_newObj]
       rfl
    exact jg
   ·exact h.elim
  ·exact h.elim
theorem kP {W0:World} {C:Ctx} {w:World} (I:Inv W0 C w) {id:Nat} (bw:Py C.H id) {T:TypeId} {l c:Value} {al ac:Ac} {K:Ac→Eff→Prop} (hl:A9 C w l al) (hc:A9 C w c ac) (h:Qv P T al ac id K) :
    Yi W0 C w ((Instr.makeSlice T l c).run P w) K:=by
  unfold Qv at h
  split at h
  ·rename_i e kl n kc m hT
   obtain⟨hz,h1,h2,hg,h0,h3,h4,h5,hk⟩:=h
   cases hl;cases hc
   obtain⟨z,hz⟩:=Option.isSome_iff_exists.1 hz
   obtain⟨i,hi,vk,hs,hb⟩:=wL hT hz
   have su:=Lc (P:=P) C w hz
   have ur:z.cells.size=Bp P e:=by omega
   have bq:=run_make (P:=P) w T e i z (Qq hT) hi vk kl kc n m h0 h3 (by rw[← hb];exact h4) h5
   have hle:n.toNat*Bp P e≤m.toNat*Bp P e:=Nat.mul_le_mul_right _ (by omega)
   have fm:(madeCells z.cells (m.toNat*i.size)).size=m.toNat*Bp P e:=by rw[size_madeCells,hs]
   obtain⟨C',g1,g2,g3,g4⟩:=hX I bw e (madeCells z.cells (m.toNat*i.size)) (Bp P e) n.toNat m.toNat (List.replicate n.toNat (B7 P e)) h1
     (fun x hx=>by rw[List.eq_of_mem_replicate hx];exact h2) (fun x hx c hc=>by rw[List.eq_of_mem_replicate hx]at hc;exact List.all_eq_true.1 hg c hc)
     (by simp) (by rw[fm];simpa using hle) (fun j k x c hx hc=>by
       have hj:j<n.toNat:=by have:=C9 hx;simpa using this
       rw[List.getElem?_replicate,if_pos hj,Aot]at hx
       subst hx
       have df:k<Bp P e:=by have:=C9 hc;omega
       have ah:j*Bp P e+k<m.toNat*i.size:=by
         rw[← hs]
         have:(j+1)*Bp P e≤m.toNat*Bp P e:=Nat.mul_le_mul_right _ (by omega)
         rw[Nat.add_mul,Nat.one_mul]at this
         omega
       refine⟨z.cells[k],?_,su.2 k _ c (Array.getElem?_eq_getElem (by omega)) hc⟩
       have tw:(j*Bp P e+k) % z.cells.size=k:=by rw[ur,Nat.mul_comm,Nat.mul_add_mod];exact Nat.mod_eq_of_lt df
       simp only[madeCells,Nat.zero_add,Array.getElem?_map,Array.getElem?_range,if_pos ah,Option.map_some,tw]
       rw[getElem!_pos z.cells k (by omega)]) (by omega) (by simp only[maxLen];omega) (by rw[fm];exact Nat.le_refl _)
   exact⟨_,_,_,C',_,bq,g2,hk,g1,g3,g4⟩
  ·exact h.elim
theorem Aaf {W0:World} {C:Ctx} {w:World} (I:Inv W0 C w) {x:Value} {ax:Ac} {sz:Nat} {ys:List (List Ac)} (hx:A9 C w x ax) (h:dC ax C.H=some (sz,ys)) :
    ∃ a m c,x= .slice a m c∧m=ys.length∧m≤c∧c≤maxLen∧(∀ y∈ys,y.length=sz)∧(∀ y∈ys,∀ c∈y,Ac.g0 c=true)∧
      (ys≠[]→1≤sz∧∃ ad,a=some ad∧∃ news:List Value,news.length=m*sz∧(∀ j u,news[j]? =some u→w.cell? (ad.add j)=some u)∧
        (∀ (i k:Nat) (x:List Ac) (c:Ac),ys[i]? =some x→x[k]? =some c→∃ u,news[i*sz+k]? =some u∧A9 C w u c)):=by
  unfold dC at h
  split at h
  ·rename_i sz1 xs1
   simp only[Aot,Prod.mk.injEq]at h
   obtain⟨rfl,rfl⟩:=h
   cases hx with
   | sl0 a cap _ cq=>exact ⟨a,0,cap,rfl,rfl,Nat.zero_le _,cq,by simp,by simp,by simp⟩
   | sl a len cap _ _ u de hlen dm cq hA cg cn hg au bc=>
     refine⟨some a,len,cap,rfl,hlen,dm,cq,cn,hg,fun _=>⟨cg,a,rfl,(List.range (len*sz1)).map u,by simp,fun j v hj=>?_,fun i k x c h1 h2=>?_⟩⟩
     ·simp only[List.getElem?_map]at hj
      have ah:j<len*sz1:=by
        rcases Nat.lt_or_ge j (len*sz1)with h | h
        ·exact h
        ·rw[List.getElem?_eq_none (by simpa using h)]at hj;cases hj
      rw[List.getElem?_range ah]at hj
      simp only[Option.map_some,Aot]at hj
      subst hj
      rw[D8 _ _ de]
      exact au j (by rw[← hlen];exact ah)
     ·refine⟨u (i*sz1+k),?_,bc i k x c h1 h2⟩
      have hi:=C9 h1
      have hk:k<sz1:=by have:=C9 h2;have:=cn _ (Aor h1);omega
      have:(i+1)*sz1≤len*sz1:=Nat.mul_le_mul_right _ (by omega)
      rw[Nat.add_mul,Nat.one_mul]at this
      rw[List.getElem?_map,List.getElem?_range (by omega)]
      rfl
  ·rename_i r v lo len
   split at h
   ·rename_i v' sz' xs hr
    split at h
    ·rename_i hv
     simp only[Aot,Prod.mk.injEq]at h
     obtain⟨rfl,rfl⟩:=h
     cases hx with
     | own a _ cap _ _ _ ah dm cq hh=>
       obtain⟨_,hh⟩:=hh _ _ _ hr
       obtain⟨hle,hh⟩:=hh hv
       obtain⟨cg,cn,hg,ho⟩:=I.objs r _ hr
       have hlen:((xs.drop lo).take len).length=len:=by simp;omega
       refine⟨a,len,cap,rfl,hlen.symm,dm,cq,fun y hy=>cn y (List.mem_of_mem_drop (List.mem_of_mem_take hy)),fun y hy=>hg y (List.mem_of_mem_drop (List.mem_of_mem_take hy)),fun bj=>⟨cg,?_⟩⟩
       have hlen0:len≠0:=fun e=>bj (by subst e;simp)
       rcases hh with hh | ⟨l,hl,rfl,di⟩
       ·omega
       rcases ho with⟨e1,_⟩ | ⟨l',arr,T',e1,e2,e3,e4,e5⟩
       ·subst e1;simp at hle;omega
       rw[hl,Aot]at e1
       subst e1
       have hmul:(lo+len)*sz'≤xs.length*sz':=Nat.mul_le_mul_right _ hle
       have kh:(lo+len)*sz'=lo*sz'+len*sz':=Nat.add_mul _ _ _
       refine⟨_,rfl,(arr.toList.drop (l.base+lo*sz')).take (len*sz'),by simp;omega,fun j u hj=>?_,fun i k x c h1 h2=>?_⟩
       ·rw[List.getElem?_take]at hj
        split at hj
        ·rw[List.getElem?_drop,Array.getElem?_toList]at hj
         rw[D8 _ _ rfl]
         simp only[World.cell?,e2]
         simpa using hj
        ·cases hj
       ·rw[List.getElem?_take]at h1
        split at h1
        ·rename_i hi
         rw[List.getElem?_drop]at h1
         obtain⟨u,hu,ea⟩:=e5 _ k x c h1 h2
         refine⟨u,?_,ea⟩
         have hk:k<sz':=by have:=C9 h2;have:=cn _ (Aor h1);omega
         have:(i+1)*sz'≤len*sz':=Nat.mul_le_mul_right _ hi
         rw[Nat.add_mul,Nat.one_mul]at this
         rw[List.getElem?_take,if_pos (by omega),List.getElem?_drop,Array.getElem?_toList]
         rw[show l.base+lo*sz'+(i*sz'+k)=l.base+((lo+i)*sz'+k) by rw[Nat.add_mul];omega]
         exact hu
        ·cases h1
    ·cases h
   ·cases h
  ·cases h
theorem uF {C:Ctx} {w:World} {ys:List (List Ac)} {sz:Nat} {news:List Value} (hlen:news.length=ys.length*sz) (cn:∀ y∈ys,y.length=sz) (hg:∀ y∈ys,∀ c∈y,Ac.g0 c=true)
    (hr:∀ (i k:Nat) (x:List Ac) (c:Ac),ys[i]? =some x→x[k]? =some c→∃ u,news[i*sz+k]? =some u∧A9 C w u c):∀ u∈news,u.oneCell'=true:=by
  intro u hu
  obtain⟨j,hj⟩:=List.getElem?_of_mem hu
  have ah:=C9 hj
  rw[hlen]at ah
  have zy:0<sz:=by
    rcases Nat.eq_zero_or_pos sz with h | h
    ·subst h;simp at ah
    ·exact h
  have hi:j / sz<ys.length:=(Nat.div_lt_iff_lt_mul zy).2 ah
  have hk:j % sz<sz:=Nat.mod_lt _ zy
  have h1:ys[j / sz]? =some ys[j / sz]:=Aoq hi
  have h2l:j % sz<ys[j / sz].length:=by rw[cn _ (List.getElem_mem hi)];exact hk
  obtain⟨u',sx,ea⟩:=hr _ _ _ _ h1 (Aoq h2l)
  rw[Nat.mul_comm,Nat.div_add_mod,hj,Aot]at sx
  subst sx
  refine one_cell ea ?_
  have:=hg _ (List.getElem_mem hi) _ (List.getElem_mem h2l)
  revert this
  generalize ys[j / sz][j % sz]=c
  cases c<;>simp[Ac.g0,Ac.one]
theorem V9 {w:World} {T e ty:TypeId} {i:TypeInfo} (hT:P.underlying T=some (.slice e)) (hi:P.info? e=some i) (b:Option Addr) (sLen sCap:Nat) (hle:sLen≤sCap) (a:Option Addr) (c:Nat) :
    (Builtin.append_ #[T,T] ty #[.slice b sLen sCap,.slice a 0 c]).run P w= .ok (.slice b sLen sCap) w:=by
  have hfc:∀ (a:Option Addr),(Builtin.firstCells i.size 0 (.slice a 0 c)).run P w= .ok #[] w:=by
    intro a
    cases a<;>simp[Builtin.firstCells,loadCells,loadCellsFrom]
  cases b<;>simp[Builtin.append_,Jh hT,Uu hi,Builtin.lenOf,hle,hfc,storeCells]
theorem nU {w:World} {T e ty:TypeId} {i:TypeInfo} (hT:P.underlying T=some (.slice e)) (hi:P.info? e=some i)
    (g o sLen sCap:Nat) (cur:Array Value) (t:TypeId) (hg:w.heap[g]? =some (.cells cur t (0,0)))
    (a:Addr) (m c:Nat) (news:List Value) (hl:news.length=m*i.size) (ia:∀ j u,news[j]? =some u→w.cell? (a.add j)=some u) (h1:∀ u∈news,u.oneCell'=true)
    (er:sLen+m≤sCap) (di:o+sLen*i.size+news.length≤cur.size) :
    (Builtin.append_ #[T,T] ty #[.slice (some ⟨g,o,none⟩) sLen sCap,.slice (some a) m c]).run P w =
      .ok (.slice (some ⟨g,o,none⟩) (sLen+m) sCap) (w.setRow g (cur.toList.take (o+sLen*i.size)++news++cur.toList.drop (o+sLen*i.size+news.length)).toArray):=by
  have hf:=run_firstCells_some (P:=P) w i.size m a m c news hl ia
  have jt:=run_storeCells_at P g (o+sLen*i.size) t news 0 cur w hg (by simpa using di) h1
  simp only[Nat.add_zero]at jt
  simp[Builtin.append_,Jh hT,Uu hi,typeInfo,hi,Builtin.lenOf,er,hf,D8,jt]
variable {P:Program}
theorem Xf {n c b:Nat} (h:c<n) (hb:n*b≤140737488355328):Builtin.nextslicecap n c*b≤281474976710656:=growslice_fits h hb
theorem pM {C:Ctx} {w:World} {sz:Nat} {olds news:List Value} {xs ys:List (List Ac)}
    (hx:∀ x∈xs++ys,x.length=sz) (hol:olds.length=xs.length*sz) (ow:news.length=ys.length*sz)
    (ho:∀ (i k:Nat) (x:List Ac) (c:Ac),xs[i]? =some x→x[k]? =some c→∃ u,olds[i*sz+k]? =some u∧A9 C w u c)
    (hn:∀ (i k:Nat) (x:List Ac) (c:Ac),ys[i]? =some x→x[k]? =some c→∃ u,news[i*sz+k]? =some u∧A9 C w u c)
    (cap:Nat) (z:Array Value) (hz:z.size=sz) (hc:xs.length+ys.length≤cap) (C1:Ctx) (w1:World) (m:Fe C w C1 w1) :
    (olds.toArray++news.toArray++Builtin.zeroCells z (cap - (xs.length+ys.length))).size=cap*sz∧
    ∀ (i k:Nat) (x:List Ac) (c:Ac),(xs++ys)[i]? =some x→x[k]? =some c→∃ u,(olds.toArray++news.toArray++Builtin.zeroCells z (cap - (xs.length+ys.length)))[0+(i*sz+k)]? =some u∧A9 C1 w1 u c:=by
  refine⟨?_,fun i k x c h1 h2=>?_⟩
  ·simp only[Array.size_append,List.size_toArray,size_zeroCells,hz,hol,ow,← Nat.add_mul]
   congr 1;omega
  ·have hk:k<sz:=by have:=C9 h2;have:=hx _ (Aor h1);omega
   have key:∃ u,(olds++news)[i*sz+k]? =some u∧A9 C w u c:=by
     by_cases hi:i<xs.length
     ·rw[List.getElem?_append_left hi]at h1
      obtain⟨u,hu,ea⟩:=ho i k x c h1 h2
      exact⟨u,by rw[List.getElem?_append_left (C9 hu)];exact hu,ea⟩
     ·rw[List.getElem?_append_right (by omega)]at h1
      obtain⟨u,hu,ea⟩:=hn _ k x c h1 h2
      have:xs.length*sz≤i*sz:=Nat.mul_le_mul_right _ (by omega)
      refine⟨u,?_,ea⟩
      rw[List.getElem?_append_right (by omega),hol]
      rwa [Nat.sub_mul,show i*sz - xs.length*sz+k=i*sz+k - xs.length*sz by omega]at hu
   obtain⟨u,hu,ea⟩:=key
   refine⟨u,?_,ea.mono m⟩
   have ah:=C9 hu
   rw[Nat.zero_add,Array.getElem?_append_left (by simpa using ah)]
   rw[← List.getElem?_toArray]at hu
   simpa using hu
theorem rO {W0:World} {C:Ctx} {w:World} (I:Inv W0 C w) {id:Nat} (bw:Py C.H id) {T ty:TypeId} {s x:Value} {zq ax:Ac} {K:Ac→Eff→Prop} (hs:A9 C w s zq) (hx:A9 C w x ax) (h:Vd P T zq ax C.H id K) :
    Yi W0 C w ((Builtin.append_ #[T,T] ty #[s,x]).run P w) K:=by
  unfold Vd at h
  split at h
  ·rename_i e hT
   obtain⟨hz,cg,hzl,h⟩:=h
   obtain⟨z,hz⟩:=Option.isSome_iff_exists.1 hz
   obtain⟨i,hi,vk,qc,hby⟩:=wL hT hz
   have hU:=Qq hT
   have su:=Lc (P:=P) C w hz
   have ur:z.cells.size=Bp P e:=by omega
   split at h
   ·rename_i szx ys sb
    obtain⟨hszx,h⟩:=h
    obtain⟨xa,m,xc,rfl,hm,hmc,hxcm,tn,hyg,tt⟩:=Aaf I hx sb
    subst hszx
    have fromZero:∀ (b:Option Addr),ys.length*bytesOf P e≤140737488355328→ys.length≤9223372036854775807→K (.own id 0 0 ys.length) (.new id (.row 0 (Bp P e) ys))→
     Yi W0 C w ((Builtin.append_ #[T,T] ty #[.slice b 0 0,.slice xa m xc]).run P w) K:=by
      intro b h48 h63 hk
      by_cases hy:ys=[]
      ·subst hy
       subst hm
       have bq:=V9 (P:=P) (w:=w) (ty:=ty) hU hi b 0 0 (Nat.le_refl _) xa xc
       have key:=I.ghost id bw (.row 0 (Bp P e) []) (fun _=>⟨cg,by simp,by simp,.inl ⟨rfl,I.x5 bw⟩⟩)
       refine⟨_,_,_,_,_,bq,.own _ _ _ _ _ _ ⟨_,Gk bw,by simp⟩ (Nat.le_refl _) (Nat.zero_le _) (fun v' sz' xs' h'=>?_),hk,rfl,key.1,key.2⟩
       simp only[Ctx.ghost]at h'
       rw[Gk bw,Aot,Ak.row.injEq]at h'
       obtain⟨rfl,rfl,rfl⟩:=h'
       exact⟨Nat.le_refl _,fun _=>⟨by simp,.inl rfl⟩⟩
      ·obtain⟨_,ad,rfl,news,ow,ia,hnr⟩:=tt hy
       have tu:0<m:=by rw[hm];exact List.length_pos_iff.2 hy
       have tv:news.length=ys.length*Bp P e:=by rw[ow,hm]
       have sm:((m:Nat):Int)≤9223372036854775807:=by omega
       have hml:=Lx
       have fin:∀ cap,m≤cap→cap≤maxLen→Yi W0 C w (.ok (.slice (some ⟨w.heap.size,0,none⟩) m cap) (w.drew.alloc (.cells (([]:List Value).toArray++news.toArray++Builtin.zeroCells z.cells (cap - (([]:List (List Ac)).length+ys.length))) e))) K:=by
         intro cap hc1 yx
         have I':=I.same (w':=w.drew) rfl (I.below.drew)
         have hr:=pM (xs:=[]) (olds:=[]) (by simpa using tn) (by simp) tv (by simp) hnr cap z.cells ur (by simp;omega) C w.drew I'.2
         obtain⟨C',g1,g2,g3,g4⟩:=hX I'.1 bw e _ (Bp P e) m cap ys cg tn hyg hm (by rw[hr.1];exact Nat.mul_le_mul_right _ (by omega)) (by simpa using hr.2) hc1 yx (by rw[hr.1];exact Nat.le_refl _)
         exact⟨_,_,_,C',_,rfl,by rw[hm]at g2 ⊢;exact g2,hk,g1,g3,I'.2.trans g4⟩
       cases b with
       | none=>
         have bq:=run_append_nil (P:=P) w T ty e i z hU hi vk ad m xc news (by rw[ow,qc]) ia tu sm (by rw[← hby,hm];omega)
         rw[bq]
         have:=fin (grownCap w m 0 e) (grownCap_ge _ _ _ _) (grownCap_le_maxLen _ _ _ _ (by omega))
         simpa[hm]using this
       | some b=>
         have bq:=run_append_grow (P:=P) w T ty e i z hU hi vk b 0 0 [] (by simp) (by simp) ad m xc news (by rw[ow,qc]) ia (by omega) (by simpa using sm) (Xf (by omega) (by rw[← hby,Nat.zero_add,hm];exact h48))
         rw[bq]
         have:=fin (grownCap w (0+m) 0 e) (by have:=grownCap_ge w (0+m) 0 e;omega) (grownCap_le_maxLen _ _ _ _ (by omega))
         simpa[hm]using this
    split at h
    ·cases hs
     exact fromZero none h.1 h.2.1 h.2.2
    ·cases hs
     exact fromZero _ h.1 h.2.1 h.2.2
    ·rename_i r v lo len
     split at h
     ·rename_i v' sz xs hr
      obtain⟨hv,cn,h48,h63,hk⟩:=h
      subst hv
      subst cn
      cases hs with
      | own sa _ cap _ _ _ ah dm cq hh=>
        obtain⟨_,hh⟩:=hh _ _ _ hr
        obtain⟨hle,hh⟩:=hh rfl
        obtain⟨_,cn,hg,ho⟩:=I.objs r _ hr
        have hlen:((xs.drop lo).take len).length=len:=by simp;omega
        have jj:∀ x∈(xs.drop lo).take len++ys,x.length=Bp P e:=fun x hx=>by
          rcases Aox.1 hx with hx | hx
          ·exact cn x (List.mem_of_mem_drop (List.mem_of_mem_take hx))
          ·exact tn x hx
        have ie:∀ x∈(xs.drop lo).take len++ys,∀ c∈x,Ac.g0 c=true:=fun x hx=>by
          rcases Aox.1 hx with hx | hx
          ·exact hg x (List.mem_of_mem_drop (List.mem_of_mem_take hx))
          ·exact hyg x hx
        have hb0:W0.heap.size≤w.heap.size:=I.below.size
        have own':∀ (C':Ctx) (w':World) (a:Option Addr) (cap':Nat) (l:Loc),C'.H=C.H.set r (.row (v+1) (Bp P e) ((xs.drop lo).take len++ys))→len+m≤cap'→cap'≤maxLen→
         (cap'=0∨(C'.ρ r=some l∧a=some ⟨l.b,l.base,none⟩∧l.base+cap'*Bp P e≤l.cap))→A9 C' w' (.slice a (len+m) cap') (.own r (v+1) 0 (len+ys.length)):=by
          intro C' w' a cap' l hH h1 h2 h3
          rw[← hm]
          refine .own _ _ _ _ _ _ ⟨_,by rw[hH];exact List.getElem?_set_self ah.lt,by simp⟩ h1 h2 (fun v2 sz2 xs2 h'=>?_)
          rw[hH,List.getElem?_set_self ah.lt,Aot,Ak.row.injEq]at h'
          obtain⟨rfl,rfl,rfl⟩:=h'
          refine⟨Nat.le_refl _,fun _=>⟨by simp[hlen,hm],?_⟩⟩
          rcases h3 with h3 | ⟨h3,h4,h5⟩
          ·exact .inl h3
          ·exact .inr ⟨l,h3,by simpa using h4,by simpa using h5⟩
        by_cases hy:ys=[]
        ·
         subst hy
         have hm0:m=0:=by simpa using hm
         subst hm0
         have bq:=V9 (P:=P) (w:=w) (ty:=ty) hU hi sa len cap dm xa xc
         rcases hh with hc0 | ⟨l,hl,hsa,di⟩
         ·have ub:len=0:=by omega
          subst ub
          have key:=I.reloc (sz':=Bp P e) (xs':=(xs.drop lo).take 0++[]) hr (Nat.lt_succ_self v) none (fun b _ _=>rfl) (Nat.le_refl _) I.below (by simp)
            (fun m=>⟨cg,jj,ie,.inl ⟨by simp,by simp[Ctx.reloc]⟩⟩)
          exact⟨_,_,_,_,_,bq,own' _ _ sa cap ⟨0,0,0⟩ rfl (by omega) cq (.inl hc0),hk,rfl,key.1,key.2⟩
         ·subst hsa
          rcases ho with⟨e1,e2⟩ | ⟨l',arr,T',e1,e2,e3,e4,e5⟩
          ·rw[hl]at e2;cases e2
          rw[hl,Aot]at e1
          subst e1
          have hmul:(lo+len)*Bp P e≤xs.length*Bp P e:=Nat.mul_le_mul_right _ hle
          have kh:(lo+cap)*Bp P e=lo*Bp P e+cap*Bp P e:=Nat.add_mul _ _ _
          have hadd2:(lo+len)*Bp P e=lo*Bp P e+len*Bp P e:=Nat.add_mul _ _ _
          have key:=I.reloc (sz':=Bp P e) (xs':=(xs.drop lo).take len++[]) hr (Nat.lt_succ_self v) (some ⟨l.b,l.base+lo*Bp P e,l.cap⟩) (fun b _ _=>rfl) (Nat.le_refl _) I.below
            (fun l2 h2=>by
              simp only[Aot]at h2;subst h2
              have:=I.sep r l hl
              exact⟨this.2.1,this.2.2.1,this.2.2.2,fun r' l' bj h' eb=>bj (I.inj _ _ _ _ h' hl eb)⟩)
            (fun m=>⟨cg,jj,ie,.inr ⟨⟨l.b,l.base+lo*Bp P e,l.cap⟩,arr,T',by simp[Ctx.reloc],e2,e3,by simp only[List.append_nil,hlen];omega,fun i2 k x c h1 h2=>by
              simp only[List.append_nil]at h1
              rw[List.getElem?_take]at h1
              split at h1
              ·rw[List.getElem?_drop]at h1
               obtain⟨u,hu,ea⟩:=e5 _ k x c h1 h2
               refine⟨u,?_,ea.mono m⟩
               rwa [Nat.add_mul,show l.base+(lo*Bp P e+i2*Bp P e+k)=l.base+lo*Bp P e+(i2*Bp P e+k) by omega]at hu
              ·cases h1⟩⟩)
          exact⟨_,_,_,_,_,bq,own' _ _ _ cap ⟨l.b,l.base+lo*Bp P e,l.cap⟩ rfl (by omega) cq (.inr ⟨by simp[Ctx.reloc],rfl,by simp only[];omega⟩),hk,rfl,key.1,key.2⟩
        ·obtain⟨_,ad,rfl,news,ow,ia,hnr⟩:=tt hy
         have tu:0<m:=by rw[hm];exact List.length_pos_iff.2 hy
         have tv:news.length=ys.length*Bp P e:=by rw[ow,hm]
         have ov:=uF tv tn hyg hnr
         have sm:((len+m:Nat):Int)≤9223372036854775807:=by omega
         have hml:=Lx
         have grow:∀ (olds:List Value) (old:Nat),olds.length=len*Bp P e→(∀ (i k:Nat) (x:List Ac) (c:Ac),((xs.drop lo).take len)[i]? =some x→x[k]? =some c→∃ u,olds[i*Bp P e+k]? =some u∧A9 C w u c)→
          Yi W0 C w (.ok (.slice (some ⟨w.heap.size,0,none⟩) (len+m) (grownCap w (len+m) old e)) (w.drew.alloc (.cells (olds.toArray++news.toArray++Builtin.zeroCells z.cells (grownCap w (len+m) old e - (len+m))) e))) K:=by
           intro olds old hol hor
           have xz:=grownCap_ge w (len+m) old e
           have hcm2:=grownCap_le_maxLen w (len+m) old e (by omega)
           have key:=I.reloc (w':=w.drew.alloc (.cells (olds.toArray++news.toArray++Builtin.zeroCells z.cells (grownCap w (len+m) old e - (len+m))) e)) (sz':=Bp P e) (xs':=(xs.drop lo).take len++ys) hr (Nat.lt_succ_self v)
             (some ⟨w.heap.size,0,grownCap w (len+m) old e*Bp P e⟩) (fun b hb _=>by first | exact heap_alloc_old w.drew _ b hb | exact heap_alloc_old w.drew _ hb) (by simp) (Zp I.below.drew _)
             (fun l2 h2=>by
               simp only[Aot]at h2;subst h2
               exact⟨hb0,by simp,fun hA=>by have:=I.sub _ hA;simp at this,fun r' l' bj h' eb=>by have:=(I.sep _ _ h').2.2.1;simp only at eb;omega⟩)
             (fun m2=>by
               have jg:=pM jj (by rw[hlen];exact hol) tv hor hnr (grownCap w (len+m) old e) z.cells ur (by rw[hlen];omega) _ _ m2
               rw[hlen,← hm]at jg
               refine⟨cg,jj,ie,.inr ⟨⟨w.heap.size,0,grownCap w (len+m) old e*Bp P e⟩,_,e,by simp[Ctx.reloc],Ea w.drew _,jg.1,?_,jg.2⟩⟩
               simp only[Aou,hlen,Nat.zero_add,← hm]
               exact Nat.mul_le_mul_right _ xz)
           exact⟨_,_,_,_,_,rfl,own' _ _ _ _ ⟨w.heap.size,0,grownCap w (len+m) old e*Bp P e⟩ rfl xz hcm2 (.inr ⟨by simp[Ctx.reloc],rfl,by simp⟩),hk,rfl,key.1,key.2⟩
         have yl:(len+m)*i.bytes≤140737488355328:=by rw[← hby,hm];exact h48
         rcases hh with hc0 | ⟨l,hl,hsa,di⟩
         ·have ub:len=0:=by omega
          subst ub
          subst hc0
          cases sa with
          | none=>
            have bq:=run_append_nil (P:=P) w T ty e i z hU hi vk ad m xc news (by rw[ow,qc]) ia tu (by omega) (by rw[Nat.zero_add]at yl;omega)
            rw[bq]
            have:=grow [] 0 (by simp) (by simp)
            simpa using this
          | some b=>
            have bq:=run_append_grow (P:=P) w T ty e i z hU hi vk b 0 0 [] (by simp) (by simp) ad m xc news (by rw[ow,qc]) ia (by omega) sm (Xf (by omega) yl)
            rw[bq]
            exact grow [] 0 (by simp) (by simp)
         ·subst hsa
          rcases ho with⟨e1,e2⟩ | ⟨l',arr,T',e1,e2,e3,e4,e5⟩
          ·rw[hl]at e2;cases e2
          rw[hl,Aot]at e1
          subst e1
          have hmul:(lo+len)*Bp P e≤xs.length*Bp P e:=Nat.mul_le_mul_right _ hle
          have kh:(lo+cap)*Bp P e=lo*Bp P e+cap*Bp P e:=Nat.add_mul _ _ _
          have hadd2:(lo+len)*Bp P e=lo*Bp P e+len*Bp P e:=Nat.add_mul _ _ _
          have olds_get:∀ j,j<len*Bp P e→((arr.toList.drop (l.base+lo*Bp P e)).take (len*Bp P e))[j]? =arr[l.base+lo*Bp P e+j]?:=by
            intro j hj
            rw[List.getElem?_take,if_pos hj,List.getElem?_drop,Array.getElem?_toList]
          have rep_old:∀ (i k:Nat) (x:List Ac) (c:Ac),((xs.drop lo).take len)[i]? =some x→x[k]? =some c→∃ u,arr[l.base+lo*Bp P e+(i*Bp P e+k)]? =some u∧A9 C w u c∧i<len∧k<Bp P e:=by
            intro i2 k x c h1 h2
            rw[List.getElem?_take]at h1
            split at h1
            ·rename_i oa
             rw[List.getElem?_drop]at h1
             obtain⟨u,hu,ea⟩:=e5 _ k x c h1 h2
             have df:k<Bp P e:=by have:=C9 h2;have:=cn _ (Aor h1);omega
             refine⟨u,?_,ea,oa,df⟩
             rwa [Nat.add_mul,show l.base+(lo*Bp P e+i2*Bp P e+k)=l.base+lo*Bp P e+(i2*Bp P e+k) by omega]at hu
            ·cases h1
          by_cases er:len+m≤cap
          ·have hmul2:(len+m)*Bp P e≤cap*Bp P e:=Nat.mul_le_mul_right _ er
           have hadd3:(len+m)*Bp P e=len*Bp P e+m*Bp P e:=Nat.add_mul _ _ _
           have ob:l.base+lo*Bp P e+len*i.size+news.length≤arr.size:=by rw[← qc,ow,e3];omega
           have bq:=nU (P:=P) (ty:=ty) hU hi l.b (l.base+lo*Bp P e) len cap arr T' e2 ad m xc news (by rw[ow,qc]) ia ov er ob
           have de:=I.sep r l hl
           have key:=I.reloc (w':=w.setRow l.b (arr.toList.take (l.base+lo*Bp P e+len*i.size)++news++arr.toList.drop (l.base+lo*Bp P e+len*i.size+news.length)).toArray) (sz':=Bp P e) (xs':=(xs.drop lo).take len++ys) hr (Nat.lt_succ_self v)
             (some ⟨l.b,l.base+lo*Bp P e,l.cap⟩) (fun b hb h'=>setRow_other w l.b b _ (h' ⟨l.b,l.base+lo*Bp P e,l.cap⟩ rfl)) (by simp[World.setRow]) (I5 I.below de.2.1 _)
             (fun l2 h2=>by
               simp only[Aot]at h2;subst h2
               exact⟨de.2.1,by simpa[World.setRow]using de.2.2.1,de.2.2.2,fun r' l' bj h' eb=>bj (I.inj _ _ _ _ h' hl eb)⟩)
             (fun m2=>⟨cg,jj,ie,.inr ⟨⟨l.b,l.base+lo*Bp P e,l.cap⟩,_,T',by simp[Ctx.reloc],U4 e2,by rw[Io ob];exact e3,by
              simp only[Aou,hlen,← hm];omega,fun i2 k x c h1 h2=>by
               dsimp only
               rw[Hd ob]
               by_cases oa:i2<len
               ·rw[List.getElem?_append_left (by rw[hlen];exact oa)]at h1
                obtain⟨u,hu,ea,_,df⟩:=rep_old i2 k x c h1 h2
                have:(i2+1)*Bp P e≤len*Bp P e:=Nat.mul_le_mul_right _ oa
                rw[Nat.add_mul,Nat.one_mul]at this
                exact⟨u,by rw[if_pos (by rw[← qc];omega)];exact hu,ea.mono m2⟩
               ·rw[List.getElem?_append_right (by rw[hlen];omega),hlen]at h1
                obtain⟨u,hu,ea⟩:=hnr _ k x c h1 h2
                have da:=C9 hu
                have h5:len*Bp P e≤i2*Bp P e:=Nat.mul_le_mul_right _ (by omega)
                rw[Nat.sub_mul]at hu da
                refine⟨u,?_,ea.mono m2⟩
                rw[if_neg (by rw[← qc];omega),if_pos (by rw[← qc];omega)]
                rw[← hu]
                congr 1
                rw[← qc]
                omega⟩⟩)
           exact⟨_,_,_,_,_,bq,own' _ _ _ cap ⟨l.b,l.base+lo*Bp P e,l.cap⟩ rfl er cq (.inr ⟨by simp[Ctx.reloc],rfl,by simp only[];omega⟩),hk,rfl,key.1,key.2⟩
          ·have bq:=run_append_grow (P:=P) w T ty e i z hU hi vk ⟨l.b,l.base+lo*Bp P e,none⟩ len cap ((arr.toList.drop (l.base+lo*Bp P e)).take (len*Bp P e)) (by simp[← qc];omega)
             (fun j u hj=>by
               have da:j<len*Bp P e:=by have:=C9 hj;simp at this;omega
               rw[olds_get j da]at hj
               rw[D8 _ _ rfl]
               simp only[World.cell?,e2]
               simpa using hj) ad m xc news (by rw[ow,qc]) ia (by omega) sm (Xf (by omega) yl)
           rw[bq]
           exact grow _ cap (by simp;omega) (fun i2 k x c h1 h2=>by
             obtain⟨u,hu,ea,oa,df⟩:=rep_old i2 k x c h1 h2
             have:(i2+1)*Bp P e≤len*Bp P e:=Nat.mul_le_mul_right _ oa
             rw[Nat.add_mul,Nat.one_mul]at this
             exact⟨u,by rw[olds_get _ (by omega)];exact hu,ea⟩)
     ·exact h.elim
    ·exact h.elim
   ·exact h.elim
  ·exact h.elim
end
end Go.Ab
namespace Go.Ab
open Go Go.RowKit
def alook:List (Int×Ac)→Int→Option Ac
  | [],_=>none
  | (k,v)::r,n=>if k=n then some v else alook r n
def aset:List (Int×Ac)→Int→Ac→List (Int×Ac)
  | [],n,v=>[(n,v)]
  | (k,u)::r,n,v=>if k=n then(k,v)::r else(k,u)::aset r n v
def adel:List (Int×Ac)→Int→List (Int×Ac)
  | [],_=>[]
  | (k,u)::r,n=>if k=n then r else(k,u)::adel r n
def rA (P:Program) (T:TypeId):Option TypeId:=
  match P.underlying T with
  | some (.map k e)=>match P.underlying k with
    | some (.int .i64)=>some e
    | _=>none
  | _=>none
def Ui (x:Ac) (H:List Ak):Option (List (Int×Ac)):=
  match x with
  | .nilm=>some []
  | .vmap es=>some es
  | .map r=>match H[r]? with
    | some (.mp es)=>some es
    | some (.mpo false es)=>some es
    | _=>none
  | _=>none
def nM (id:Nat) (K:Ac→Eff→Prop):Prop:=K (.map id) (.new id (.mp []))
def Ev (es:List (Int×Ac)) (n:Int) (z:Ac) (K:Ac→Bool→Prop):Prop:=(∀ v,alook es n=some v→K v true)∧(alook es n=none→K z false)
def Aep (ok:Bool) (K:Ac→Prop) (v:Ac) (b:Bool):Prop:=K (if ok then .tuple [v,.bool b]else v)
def pH (x:Ac) (H:List Ak):Bool:=
  match x with
  | .map r=>match H[r]? with
    | some (.mpo _ _)=>true
    | _=>false
  | _=>false
def Abe (P:Program) (e:TypeId) (z:Ac):Ac:=
  match z with
  | .nils=>match F1 P e with
    | some t=>.sl (Bp P t) []
    | none=>.nils
  | z=>z
def xS (P:Program) (e:TypeId) (o:Bool):Ac:=if o=true then azero P e else Abe P e (azero P e)
def S2 (P:Program) (T:TypeId) (x i:Ac) (ok:Bool) (H:List Ak) (K:Ac→Prop):Prop:=
  match rA P T,i with
  | some e,.int .i64 n=>(zeroV P e).isSome=true∧match Ui x H with
    | some es=>Ev es n (xS P e (pH x H)) (Aep ok K)
    | none=>False
  | _,_=>False
def Hn (P:Program) (T:TypeId) (x i v:Ac) (H:List Ak) (K:Ac→Eff→Prop):Prop:=
  match rA P T,i,x with
  | some _,.int .i64 n,.map r=>match H[r]? with
    | some (.mp es)=>v.g1=true∧K (.tuple []) (.set r (.mp (aset es n v)))
    | some (.mpo false es)=>K (.tuple []) (.set r (.mpo false (aset es n v)))
    | _=>False
  | _,_,_=>False
def Vc (P:Program) (T:TypeId) (x i:Ac) (H:List Ak) (K:Ac→Eff→Prop):Prop:=
  match rA P T,i,x with
  | some _,.int .i64 n,.map r=>match H[r]? with
    | some (.mp es)=>K (.tuple []) (.set r (.mp (adel es n)))
    | _=>False
  | _,_,_=>False
def rR (P:Program) (T:TypeId) (x:Ac) (id:Nat) (K:Ac→Eff→Prop):Prop:=
  match rA P T,x with
  | some _,.nilm=>K (.iter id) (.new id (.it [] none))
  | some _,.vmap es=>K (.iter id) (.new id (.it es none))
  | _,_=>False
def Ho (left:List (Int×Ac)) (KE:Unit→Prop) (KS:List (Int×Ac)→Int×Ac→List (Int×Ac)→Prop):Prop:=(left=[]→KE ())∧∀ l1 p l2,left=l1++p::l2→KS l1 p l2
def Af4 (K:Ac→Eff→Prop) (_:Unit):Prop:=K (.tuple [.bool false]) .none
def Af3 (r:Nat) (K:Ac→Eff→Prop) (l1:List (Int×Ac)) (p:Int×Ac) (l2:List (Int×Ac)):Prop:=K (.tuple [.bool true,.int .i64 p.1,p.2]) (.set r (.it (l1++l2) (some p)))
def yM (x:Ac) (isString:Bool) (H:List Ak) (K:Ac→Eff→Prop):Prop:=
  match isString,x with
  | false,.iter r=>match H[r]? with
    | some (.it left _)=>Ho left (Af4 K) (Af3 r K)
    | _=>False
  | _,_=>False
def rT (x:Ac) (H:List Ak) (K:Ac→Prop):Prop:=
  match x with
  | .iter r=>match H[r]? with
    | some (.it _ (some p))=>K (.tuple [.int .i64 p.1,p.2])
    | _=>False
  | _=>False
section
variable {P:Program}
theorem Ws {T e:TypeId} (h:rA P T=some e):∃ k,P.underlying T=some (.map k e)∧P.underlying k=some (.int .i64):=by
  unfold rA at h
  split at h
  ·split at h
   ·simp only[Aot]at h;subst h;exact⟨_,by assumption,by assumption⟩
   ·cases h
  ·cases h
theorem Q7 (n:Int):∀ (l:List MapEntry) (es:List (Int×Ac)) (i:Nat),l.length=es.length→(∀ (j:Nat) (e:MapEntry) (p:Int×Ac),l[j]? =some e→es[j]? =some p→e.key= .int .i64 p.1)→
    ∃ r,Instr.findNow (.int .i64) (.int .i64 n) l i=some r∧
      ((alook es n=none∧r=none)∨∃ j e v,alook es n=some v∧r=some (i+j,e.val)∧l[j]? =some e∧es[j]? =some (n,v)∧(∀ u,aset es n u=es.set j (n,u))∧adel es n=es.eraseIdx j)
  | [],[],i,_,_=>⟨none,rfl,.inl ⟨rfl,rfl⟩⟩
  | e::l,(k,v)::es,i,hl,hk=>by
    have h0:=hk 0 e (k,v) rfl rfl
    simp only at h0
    simp only[Instr.findNow,h0,Instr.sameNow,if_true]
    by_cases xv:k=n
    ·subst xv
     refine⟨some (i,e.val),by simp,.inr ⟨0,e,v,by simp[alook],by simp,rfl,rfl,fun u=>by simp[aset],by simp[adel]⟩⟩
    ·have bj:(n ==k)=false:=by simp;omega
     obtain⟨r,h1,h2⟩:=Q7 n l es (i+1) (by simpa using hl) (fun j e p a b=>hk (j+1) e p a b)
     refine⟨r,by simp[bj,h1],?_⟩
     rcases h2 with⟨h2,h3⟩ | ⟨j,e',v',h2,h3,h4,h5,h6,h7⟩
     ·exact .inl ⟨by simp[alook,xv,h2],h3⟩
     ·exact .inr ⟨j+1,e',v',by simp[alook,xv,h2],by rw[h3];congr 2;omega,h4,h5,fun u=>by simp[aset,xv,h6],by simp[adel,xv,h7]⟩
  | [],_::_,_,hl,_=>by simp at hl
  | _::_,[],_,hl,_=>by simp at hl
theorem iS {es:List (Int×Ac)} {n:Int} (h:alook es n=none) (v:Ac):aset es n v=es++[(n,v)]:=by
  induction es with
  | nil=>rfl
  | cons p es ih=>
    obtain⟨k,u⟩:=p
    simp only[alook]at h
    split at h
    ·cases h
    ·rename_i hk
     simp[aset,hk,ih h]
theorem Aat {es:List (Int×Ac)} {n:Int} (h:alook es n=none):adel es n=es:=by
  induction es with
  | nil=>rfl
  | cons p es ih=>
    obtain⟨k,u⟩:=p
    simp only[alook]at h
    split at h
    ·cases h
    ·rename_i hk
     simp[adel,hk,ih h]
theorem kW {es:List (Int×Ac)} {n:Int} (h:alook es n=none):n ∉ es.map (·.1):=by
  induction es with
  | nil=>simp
  | cons p es ih=>
    obtain⟨k,u⟩:=p
    simp only[alook]at h
    split at h
    ·cases h
    ·rename_i hk
     simp only[List.map_cons,List.mem_cons,not_or]
     exact⟨fun e=>hk e.symm,ih h⟩
theorem Qx {w:World} {k:TypeId} {n:Int} (h:P.underlying k=some (.int .i64)) (em:Bool):(Instr.checkKey em 10000 k (.int .i64 n)).run P w= .ok () w:=by
  unfold Instr.checkKey
  simp[Jh h]
theorem uL {W0:World} {C:Ctx} {w:World} (I:Inv W0 C w) {x:Value} {ax:Ac} {es:List (Int×Ac)} (hx:A9 C w x ax) (h:Ui ax C.H=some es) :
    (x= .map none∧es=[])∨∃ b entries clock,x= .map (some b)∧w.heap[b]? =some (.map entries clock)∧R5 false entries clock es∧
     ∀ (i:Nat) (e:MapEntry) (p:Int×Ac),entries[i]? =some e→es[i]? =some p→A9 C w e.val p.2:=by
  unfold Ui at h
  split at h
  ·simp only[Aot]at h;subst h;cases hx;exact .inl ⟨rfl,rfl⟩
  ·simp only[Aot]at h;subst h
   cases hx with
   | vmap0=>exact .inl ⟨rfl,rfl⟩
   | vmap b _ en cl hA hg hh cy bc=>exact .inr ⟨b,en,cl,rfl,hh,cy,bc⟩
  ·rename_i r
   split at h
   ·rename_i es' hr
    simp only[Aot]at h;subst h
    cases hx with
    | map b _ ah hh=>
      obtain⟨l,hl,rfl⟩:=hh _ hr rfl
      obtain⟨l',en,cl,h1,h2,h3,h4,h5⟩:=I.objs r _ hr
      rw[hl,Aot]at h1
      subst h1
      exact .inr ⟨_,en,cl,rfl,h2,h3,h5⟩
   ·rename_i es' hr
    simp only[Aot]at h;subst h
    cases hx with
    | map b _ ah hh=>
      obtain⟨l,hl,rfl⟩:=hh _ hr rfl
      obtain⟨l',en,cl,h1,h2,h3,h5⟩:=I.objs r _ hr
      rw[hl,Aot]at h1
      subst h1
      exact .inr ⟨_,en,cl,rfl,h2,h3,h5⟩
   ·cases h
  ·cases h
theorem Aan (C:Ctx) (w:World) {T:TypeId} {z:Value} (hz:zeroV P T=some z):A9 C w z (azero P T):=by
  simp only[azero,hz];exact nJ C w z
theorem yP (C:Ctx) (w:World) {T:TypeId} {z:Value} (hz:zeroV P T=some z) (o:Bool):A9 C w z (xS P T o):=by
  have h:=Aan (P:=P) C w hz
  unfold xS
  split
  ·exact h
  ·unfold Abe
   split
   ·rename_i e
    rw[e]at h
    split
    ·cases h;exact .sl0 _ _ _ (Nat.zero_le _)
    ·exact h
   ·exact h
theorem Sx {w:World} {k:TypeId} {n:Int} {l:List MapEntry} {r:Option (Nat×Value)} (h:P.underlying k=some (.int .i64)) (hf:Instr.findNow (.int .i64) (.int .i64 n) l 0=some r) :
    (Instr.findKey k (.int .i64 n) l).run P w= .ok r w:=by
  simp[Instr.findKey,Jh h,hf]
theorem q0 {W0:World} {C:Ctx} {w:World} (I:Inv W0 C w) {T:TypeId} {x i:Value} {ax ai:Ac} {ok:Bool} {K:Ac→Prop} (hx:A9 C w x ax) (hi:A9 C w i ai) (h:S2 P T ax ai ok C.H K) :
    Quiet C w ((Instr.lookup T x i ok).run P w) K:=by
  unfold S2 at h
  split at h
  ·rename_i e n hT
   cases hi
   obtain⟨hz,h⟩:=h
   obtain⟨z,hz⟩:=Option.isSome_iff_exists.1 hz
   obtain⟨k,hU,hk⟩:=Ws hT
   have su:=yP (P:=P) C w hz (pH ax C.H)
   split at h
   ·rename_i es hes
    have fin:∀ (v:Value) (a:Ac) (b:Bool),A9 C w v a→K (if ok then .tuple [a,.bool b]else a)→Quiet C w (.ok (if ok then .tuple #[v,.bool b]else v) w) K:=by
      intro v a b hv hK
      cases ok with
      | true=>
        refine .mk' rfl (.tuple _ _ rfl fun i u c h1 h2=>?_) hK
        match i,h1,h2 with
        | 0,h1,h2=>simp at h1 h2;subst h1 h2;exact hv
        | 1,h1,h2=>simp at h1 h2;subst h1 h2;exact .bool b
        | i+2,h1,h2=>simp at h2
      | false=>exact .mk' rfl hv hK
    rcases uL I hx hes with⟨rfl,rfl⟩ | ⟨b,en,cl,rfl,hb,cy,bc⟩
    ·have:=fin z _ false su (h.2 rfl)
     have hr:(Instr.lookup T (.map none) (.int .i64 n) ok).run P w= .ok (if ok then .tuple #[z,.bool false]else z) w:=by
       have hf:=Sx (P:=P) (w:=w) (k:=k) (n:=n) (l:=[]) (r:=none) hk rfl
       have hc:=Qx (P:=P) (w:=w) (n:=n) hk true
       simp[Instr.lookup,Jh hU,hc,hf,V3 hz]
     rw[hr];exact this
    ·obtain⟨r,hf,lz⟩:=Q7 n en.toList es 0 (by simpa using cy.size) (fun j e p a b=>cy.X4 j e p (by simpa using a) b)
     have tc:=Sx (P:=P) (w:=w) (k:=k) (n:=n) hk hf
     have hc:=Qx (P:=P) (w:=w) (n:=n) hk en.isEmpty
     rcases lz with⟨h1,rfl⟩ | ⟨j,e',v,h1,rfl,h2,h3,_,_⟩
     ·have:=fin z _ false su (h.2 h1)
      have hr:(Instr.lookup T (.map (some b)) (.int .i64 n) ok).run P w= .ok (if ok then .tuple #[z,.bool false]else z) w:=by
        simp[Instr.lookup,Jh hU,getObj,Sem.run,hb,hc,tc,V3 hz]
      rw[hr];exact this
     ·have:=fin e'.val _ true (bc j e' _ (by simpa using h2) h3) (h.1 _ h1)
      have hr:(Instr.lookup T (.map (some b)) (.int .i64 n) ok).run P w= .ok (if ok then .tuple #[e'.val,.bool true]else e'.val) w:=by
        simp[Instr.lookup,Jh hU,getObj,Sem.run,hb,hc,tc]
      rw[hr];exact this
   ·exact h.elim
  ·exact h.elim
theorem oE {W0:World} {C:Ctx} {w:World} (I:Inv W0 C w) {id:Nat} (bw:Py C.H id) {T:TypeId} {K:Ac→Eff→Prop} (h:nM id K):Yi W0 C w ((Instr.makeMap T none).run P w) K:=by
  have key:=I.alloc id bw (.mp []) (.map #[] 0) 0 (fun m=>⟨_,#[],0,Ctx.U0 _ _ _ _,Ea _ _,⟨rfl,by simp,by simp,by simp,by simp⟩,by simp,by simp⟩)
  exact⟨.map (some w.heap.size),.map id,_,_,_,rfl,.map _ _ (Ctx.Tb bw _ (by simp)) fun o _ _=>⟨_,Ctx.U0 _ _ _ _,rfl⟩,h,rfl,key.1,key.2⟩
theorem Uh {W0 w:World} {b:Nat} (h:Below W0.heap.size W0 w) (hb:W0.heap.size≤b) (o:Obj):Below W0.heap.size W0 {w with heap:=w.heap.setIfInBounds b o}:=
  h.trans ⟨rfl,rfl,rfl,by simp,fun k hk=>by
    show(w.heap.setIfInBounds b o)[k]? =_
    rw[Array.getElem?_setIfInBounds_ne (by omega)]⟩
def zL (o:Bool) (es:List (Int×Ac)):Ak:=if o then .mpo false es else .mp es
theorem Afs {C:Ctx} {w:World} {r:Nat} {o:Bool} {es:List (Int×Ac)}:Yh C w r (zL o es)↔∃ l entries clock,C.ρ r=some l∧w.heap[l.b]? =some (.map entries clock)∧R5 false entries clock es∧(o=false→∀ p∈es,Ac.g1 p.2=true)∧
      ∀ (i:Nat) (e:MapEntry) (p:Int×Ac),entries[i]? =some e→es[i]? =some p→A9 C w e.val p.2:=by
  cases o with
  | true=>exact ⟨fun⟨l,en,cl,h1,h2,h3,h5⟩=>⟨l,en,cl,h1,h2,h3,fun h=>(by cases h),h5⟩,fun⟨l,en,cl,h1,h2,h3,_,h5⟩=>⟨l,en,cl,h1,h2,h3,h5⟩⟩
  | false=>exact ⟨fun⟨l,en,cl,h1,h2,h3,h4,h5⟩=>⟨l,en,cl,h1,h2,h3,fun _=>h4,h5⟩,fun⟨l,en,cl,h1,h2,h3,h4,h5⟩=>⟨l,en,cl,h1,h2,h3,h4 rfl,h5⟩⟩
theorem xW {W0:World} {C:Ctx} {w:World} (I:Inv W0 C w) {r:Nat} (o:Bool) {es es':List (Int×Ac)} {l:Loc} (hr:C.H[r]? =some (zL o es)) (hl:C.ρ r=some l) (en':Array MapEntry) (cl':Nat)
    (cy:R5 false en' cl' es') (hg:o=false→∀ p∈es',Ac.g1 p.2=true) (bc:∀ (i:Nat) (e:MapEntry) (p:Int×Ac),en'[i]? =some e→es'[i]? =some p→A9 C w e.val p.2) :
    Inv W0 (C.set r (zL o es')) {w with heap:=w.heap.setIfInBounds l.b (.map en' cl')}∧Fe C w (C.set r (zL o es')) {w with heap:=w.heap.setIfInBounds l.b (.map en' cl')}:=by
  have hs:=I.sep r l hl
  refine I.put hr hl (fun b hb=>?_) (by simp) (Uh I.below hs.2.1 _) ?_ (fun m=>Afs.2 ⟨l,en',cl',hl,?_,cy,hg,fun i e p a b=>(bc i e p a b).mono m⟩)
  ·show(w.heap.setIfInBounds l.b _)[b]? =_
   rw[Array.getElem?_setIfInBounds_ne (fun h=>hb h.symm)]
  ·unfold D3
   simp only[Ctx.set,List.getElem?_set_self hs.1]
   cases o with
   | true=>exact ⟨⟨_,hr,rfl⟩,trivial⟩
   | false=>exact ⟨⟨_,hr,rfl⟩,trivial⟩
  ·show(w.heap.setIfInBounds l.b _)[l.b]? =_
   rw[Array.getElem?_setIfInBounds_self,if_pos hs.2.2.1]
theorem Abf {W0:World} {C:Ctx} {w:World} (I:Inv W0 C w) {r:Nat} {es es':List (Int×Ac)} {l:Loc} (hr:C.H[r]? =some (.mp es)) (hl:C.ρ r=some l) (en':Array MapEntry) (cl':Nat)
    (cy:R5 false en' cl' es') (hg:∀ p∈es',Ac.g1 p.2=true) (bc:∀ (i:Nat) (e:MapEntry) (p:Int×Ac),en'[i]? =some e→es'[i]? =some p→A9 C w e.val p.2) :
    Inv W0 (C.set r (.mp es')) {w with heap:=w.heap.setIfInBounds l.b (.map en' cl')}∧Fe C w (C.set r (.mp es')) {w with heap:=w.heap.setIfInBounds l.b (.map en' cl')}:=by
  have hs:=I.sep r l hl
  refine I.put hr hl (fun b hb=>?_) (by simp) (Uh I.below hs.2.1 _) ?_ (fun m=>⟨l,en',cl',hl,?_,cy,hg,fun i e p a b=>(bc i e p a b).mono m⟩)
  ·show(w.heap.setIfInBounds l.b _)[b]? =_
   rw[Array.getElem?_setIfInBounds_ne (fun h=>hb h.symm)]
  ·unfold D3
   simp only[Ctx.set,List.getElem?_set_self hs.1]
   exact⟨⟨_,hr,rfl⟩,trivial⟩
  ·show(w.heap.setIfInBounds l.b _)[l.b]? =_
   rw[Array.getElem?_setIfInBounds_self,if_pos hs.2.2.1]
theorem jM {W0:World} {C:Ctx} {w:World} (I:Inv W0 C w) {T:TypeId} {x i v:Value} {r:Nat} {n:Int} {e:TypeId} {av:Ac} {K:Ac→Eff→Prop} (o:Bool) {es:List (Int×Ac)} (hx:A9 C w x (.map r)) (hi:A9 C w i (.int .i64 n)) (hv:A9 C w v av)
    (hT:rA P T=some e) (hr:C.H[r]? =some (zL o es)) (hg1:o=false→av.g1=true) (hk:K (.tuple []) (.set r (zL o (aset es n av)))):Did W0 C w ((Instr.mapUpdate T x i v).run P w) K:=by
  cases hi
  obtain⟨k,hU,oz⟩:=Ws hT
  cases hx with
  | map b _ ah hh=>
    obtain⟨l,hl,rfl⟩:=hh _ hr (by cases o<;>rfl)
    obtain⟨l',en,cl,h1,h2,cy,hg,bc⟩:=Afs.1 (I.objs r _ hr)
    rw[hl,Aot]at h1
    subst h1
    obtain⟨rr,hf,lz⟩:=Q7 n en.toList es 0 (by simpa using cy.size) (fun j e p a b=>cy.X4 j e p (by simpa using a) b)
    have tc:=Sx (P:=P) (w:=w) (k:=k) (n:=n) oz hf
    have hc:=Qx (P:=P) (w:=w) (n:=n) oz false
    have ix:∀ en' cl',(setObj l.b (.map en' cl')).run P w= .ok () {w with heap:=w.heap.setIfInBounds l.b (.map en' cl')}:=by
      intro en' cl';simp[setObj,Sem.run,h2]
    rcases lz with⟨h3,rfl⟩ | ⟨j,e',v',h3,rfl,h4,h5,h6,_⟩
    ·have key:=xW I o (es':=aset es n av) hr hl (en.push {key:=.int .i64 n,val:=v,born:=cl}) (cl+1) (by
       rw[iS h3]
       refine⟨by simp[cy.size],fun i e p a b=>?_,?_,fun e he=>?_,?_⟩
       ·by_cases hi:i<es.length
        ·rw[List.getElem?_append_left hi]at b
         rw[Array.getElem?_push_lt (by rw[cy.size];exact hi)]at a
         refine cy.X4 i e p ?_ b
         rw[Array.getElem?_eq_getElem (by rw[cy.size];exact hi)];exact a
        ·have dt:i=es.length:=by have:=C9 b;simp at this;omega
         subst dt
         simp only[List.getElem?_concat_length,Aot]at b
         rw[← cy.size,Array.getElem?_push_size,Aot]at a
         subst a b;rfl
       ·rw[List.map_append,List.map_cons,List.map_nil]
        refine List.nodup_append.2 ⟨cy.nodup,by simp,fun a ha b hb=>?_⟩
        simp at hb;subst hb
        exact fun e=>kW h3 (e ▸ ha)
       ·simp only[Array.toList_push,Aox,List.mem_singleton]at he
        rcases he with he | rfl
        ·have:=cy.born e he;omega
        ·exact Nat.lt_succ_self _
       ·rw[Array.toList_push,List.map_append,List.map_cons,List.map_nil]
        refine List.nodup_append.2 ⟨cy.bnodup,by simp,fun a ha b hb=>?_⟩
        simp only[List.mem_singleton]at hb;subst hb
        obtain⟨e,he,rfl⟩:=List.mem_map.1 ha
        have:=cy.born e he
        omega)
       (by rw[iS h3];intro ho p hp;rcases Aox.1 hp with hp | hp;exact hg ho p hp;simp at hp;subst hp;exact hg1 ho)
       (by
         rw[iS h3]
         intro i e p a b
         by_cases hi:i<es.length
         ·rw[List.getElem?_append_left hi]at b
          rw[Array.getElem?_push_lt (by rw[cy.size];exact hi)]at a
          refine bc i e p ?_ b
          rw[Array.getElem?_eq_getElem (by rw[cy.size];exact hi)];exact a
         ·have dt:i=es.length:=by have:=C9 b;simp at this;omega
          subst dt
          simp only[List.getElem?_concat_length,Aot]at b
          rw[← cy.size,Array.getElem?_push_size,Aot]at a
          subst a b;exact hv)
     refine⟨_,_,_,?_,hk,rfl,key.1,key.2⟩
     rw[← ix]
     simp[Instr.mapUpdate,Jh hU,getObj,Sem.run,h2,hc,tc]
    ·have hj:j<en.size:=by have:=C9 h4;simpa using this
     have hjs:j<es.length:=by rw[← cy.size];exact hj
     have e'k:e'.key= .int .i64 n:=cy.X4 j e' _ (by simpa using h4) h5
     have hen:en[j]? =some e':=by simpa using h4
     have tw:∀ (i:Nat) (e:MapEntry),(en.modify j fun e=>{e with key:=.int .i64 n,val:=v})[i]? =some e→(i=j∧e={e' with key:=.int .i64 n,val:=v})∨(i≠j∧en[i]? =some e):=by
       intro i e h
       rw[Array.getElem?_modify]at h
       split at h
       ·rename_i qg
        subst qg
        rw[hen]at h
        simp only[Option.map_some,Aot]at h
        exact .inl ⟨rfl,h.symm⟩
       ·rename_i qg
        exact .inr ⟨fun h=>qg h.symm,h⟩
     have vm:(en.modify j fun e=>{e with key:=.int .i64 n,val:=v}).toList.map (·.born)=en.toList.map (·.born):=by
       apply List.ext_getElem?
       intro i
       simp only[List.getElem?_map,Array.getElem?_toList,Array.getElem?_modify]
       split
       ·rename_i h;subst h;rw[hen];rfl
       ·rfl
     have la:∀ (i:Nat) (p:Int×Ac),(es.set j (n,av))[i]? =some p→(i=j∧p=(n,av))∨(i≠j∧es[i]? =some p):=by
       intro i p h
       by_cases e:j=i
       ·subst e;rw[List.getElem?_set_self hjs,Aot]at h;exact .inl ⟨rfl,h.symm⟩
       ·rw[List.getElem?_set_ne e]at h;exact .inr ⟨fun h=>e h.symm,h⟩
     have key:=xW I o (es':=aset es n av) hr hl (en.modify j fun e=>{e with key:=.int .i64 n,val:=v}) cl (by
       rw[h6]
       refine⟨by simp[cy.size],fun i e p a b=>?_,?_,fun e he=>?_,by rw[vm];exact cy.bnodup⟩
       ·rcases tw i e a with⟨rfl,rfl⟩ | ⟨bj,a⟩
        ·rcases la _ _ b with⟨_,rfl⟩ | ⟨hn,_⟩
         ·rfl
         ·exact absurd rfl hn
        ·rcases la _ _ b with⟨he,_⟩ | ⟨_,b⟩
         ·exact absurd he bj
         ·exact cy.X4 i e p a b
       ·have:(es.set j (n,av)).map (·.1)=es.map (·.1):=by
          apply List.ext_getElem?
          intro i
          simp only[List.getElem?_map]
          by_cases e:j=i
          ·subst e;rw[List.getElem?_set_self hjs,h5];rfl
          ·rw[List.getElem?_set_ne e]
        rw[this];exact cy.nodup
       ·have:e.born∈(en.modify j fun e=>{e with key:=.int .i64 n,val:=v}).toList.map (·.born):=List.mem_map.2 ⟨e,he,rfl⟩
        rw[vm]at this
        obtain⟨e2,he2,oc⟩:=List.mem_map.1 this
        rw[← oc];exact cy.born e2 he2)
       (by
         rw[h6];intro ho p hp
         rcases List.mem_or_eq_of_mem_set hp with hp | rfl
         ·exact hg ho p hp
         ·exact hg1 ho)
       (by
         rw[h6]
         intro i e p a b
         rcases tw i e a with⟨rfl,rfl⟩ | ⟨bj,a⟩
         ·rcases la _ _ b with⟨_,rfl⟩ | ⟨hn,_⟩
          ·exact hv
          ·exact absurd rfl hn
         ·rcases la _ _ b with⟨he,_⟩ | ⟨_,b⟩
          ·exact absurd he bj
          ·exact bc i e p a b)
     refine⟨_,_,_,?_,hk,rfl,key.1,key.2⟩
     rw[← ix]
     simp[Instr.mapUpdate,Jh hU,getObj,Sem.run,h2,hc,tc,hen,e'k,Instr.keyThatStays,Instr.sameBits]
theorem X3 {W0:World} {C:Ctx} {w:World} (I:Inv W0 C w) {T:TypeId} {x i v:Value} {ax ai av:Ac} {K:Ac→Eff→Prop} (hx:A9 C w x ax) (hi:A9 C w i ai) (hv:A9 C w v av)
    (h:Hn P T ax ai av C.H K):Did W0 C w ((Instr.mapUpdate T x i v).run P w) K:=by
  unfold Hn at h
  split at h
  ·rename_i e n r hT
   split at h
   ·rename_i es hr
    exact jM I false hx hi hv hT hr (fun _=>h.1) h.2
   ·rename_i es hr
    exact jM I true hx hi hv hT hr (fun h=>by cases h) h
   ·exact h.elim
  ·exact h.elim
theorem rI {W0:World} {C:Ctx} {w:World} (I:Inv W0 C w) {T T2 ty:TypeId} {x i:Value} {ax ai:Ac} {K:Ac→Eff→Prop} (hx:A9 C w x ax) (hi:A9 C w i ai)
    (h:Vc P T ax ai C.H K):Yi W0 C w ((Builtin.delete_ #[T,T2] ty #[x,i]).run P w) K:=by
  unfold Vc at h
  split at h
  ·rename_i e n r hT
   split at h
   ·rename_i es hr
    cases hi
    obtain⟨k,hU,oz⟩:=Ws hT
    cases hx with
    | map b _ ah hh=>
      obtain⟨l,hl,rfl⟩:=hh _ hr rfl
      obtain⟨l',en,cl,h1,h2,cy,hg,bc⟩:=I.objs r _ hr
      rw[hl,Aot]at h1
      subst h1
      obtain⟨rr,hf,lz⟩:=Q7 n en.toList es 0 (by simpa using cy.size) (fun j e p a b=>cy.X4 j e p (by simpa using a) b)
      have tc:=Sx (P:=P) (w:=w) (k:=k) (n:=n) oz hf
      have hc:=Qx (P:=P) (w:=w) (n:=n) oz en.isEmpty
      have ix:∀ en' cl',(setObj l.b (.map en' cl')).run P w= .ok () {w with heap:=w.heap.setIfInBounds l.b (.map en' cl')}:=by
        intro en' cl';simp[setObj,Sem.run,h2]
      have sj:alook es n=none→adel es n=es:=Aat
      rcases lz with⟨h3,rfl⟩ | ⟨j,e',v',h3,rfl,h4,h5,_,h7⟩
      ·have key:=Abf I (es':=adel es n) hr hl en cl (by rw[sj h3];exact cy) (by rw[sj h3];exact hg) (by rw[sj h3];exact bc)
       refine⟨_,_,_,_,_,?_,.tuple #[] [] rfl (by simp),h,rfl,key.1,key.2⟩
       have:=ix en cl
       simp[Builtin.delete_,Jh hU,getObj,Sem.run,h2,hc,tc,this]
      ·have hj:j<en.size:=by have:=C9 h4;simpa using this
       have jx:(en.eraseIdxIfInBounds j).toList=en.toList.eraseIdx j:=by simp
       have xz:∀ (i:Nat) (e:MapEntry),(en.eraseIdxIfInBounds j)[i]? =some e→en.toList[if i<j then i else i+1]? =some e:=by
         intro i e h
         rw[← Array.getElem?_toList,jx,List.getElem?_eraseIdx]at h
         split<;>rename_i hi<;>simp only[hi,if_true,if_false]at h<;>exact h
       have hga:∀ (i:Nat) (p:Int×Ac),(es.eraseIdx j)[i]? =some p→es[if i<j then i else i+1]? =some p:=by
         intro i p h
         rw[List.getElem?_eraseIdx]at h
         split<;>rename_i hi<;>simp only[hi,if_true,if_false]at h<;>exact h
       have hjs:j<es.length:=by rw[← cy.size];exact hj
       have key:=Abf I (es':=adel es n) hr hl (en.eraseIdxIfInBounds j) cl (by
         rw[h7]
         refine⟨?_,fun i e p a b=>cy.X4 _ e p (by simpa using xz i e a) (hga i p b),?_,fun e he=>?_,?_⟩
         ·rw[← Array.length_toList,jx,List.length_eraseIdx_of_lt (by simpa using hj),List.length_eraseIdx_of_lt hjs,Array.length_toList,cy.size]
         ·exact(List.Sublist.map _ (List.eraseIdx_sublist es j)).nodup cy.nodup
         ·rw[jx]at he
          exact cy.born e (List.mem_of_mem_eraseIdx he)
         ·rw[jx]
          exact(List.Sublist.map _ (List.eraseIdx_sublist en.toList j)).nodup cy.bnodup)
         (by rw[h7];exact fun p hp=>hg p (List.mem_of_mem_eraseIdx hp))
         (by rw[h7];exact fun i e p a b=>bc _ e p (by simpa using xz i e a) (hga i p b))
       refine⟨_,_,_,_,_,?_,.tuple #[] [] rfl (by simp),h,rfl,key.1,key.2⟩
       have:=ix (en.eraseIdxIfInBounds j) cl
       simp[Builtin.delete_,Jh hU,getObj,Sem.run,h2,hc,tc,this]
   ·exact h.elim
  ·exact h.elim
theorem sX {W0:World} {C:Ctx} {w:World} (I:Inv W0 C w) {id:Nat} (bw:Py C.H id) {T:TypeId} {x:Value} {ax:Ac} {K:Ac→Eff→Prop} (hx:A9 C w x ax) (h:rR P T ax id K) :
    Yi W0 C w ((Instr.range T x).run P w) K:=by
  have fin:∀ (o:Obj) (left:List (Int×Ac)),(Fe C w (C.new id (.it left none) ⟨w.heap.size,0,0⟩) (w.alloc o)→Yh (C.new id (.it left none) ⟨w.heap.size,0,0⟩) (w.alloc o) id (.it left none))→
   K (.iter id) (.new id (.it left none))→Yi W0 C w (.ok (.pointer (some ⟨w.heap.size,0,none⟩)) (w.alloc o)) K:=by
    intro o left ho hk
    have key:=I.alloc id bw (.it left none) o 0 ho
    exact⟨_,.iter id,_,_,_,rfl,.iter _ _ (Ctx.Tb bw _ (by simp)) ⟨rfl,rfl⟩ fun l c _=>⟨_,Ctx.U0 _ _ _ _,rfl⟩,hk,rfl,key.1,key.2⟩
  have hnil:∀ (k e:TypeId),P.underlying T=some (.map k e)→(Instr.range T (.map none)).run P w= .ok (.pointer (some ⟨w.heap.size,0,none⟩)) (w.alloc (.mapIter none 0 #[] 0)):=by
    intro k e hU;simp[Instr.range,Jh hU]
  unfold rR at h
  split at h
  ·rename_i e hT
   obtain⟨k,hU,_⟩:=Ws hT
   cases hx
   rw[hnil k e hU]
   exact fin _ _ (fun m=>⟨_,Ctx.U0 _ _ _ _,.inl ⟨rfl,rfl,_,_,_,Ea _ _⟩⟩) h
  ·rename_i e es hT
   obtain⟨k,hU,_⟩:=Ws hT
   cases hx with
   | vmap0=>
     rw[hnil k e hU]
     exact fin _ _ (fun m=>⟨_,Ctx.U0 _ _ _ _,.inl ⟨rfl,rfl,_,_,_,Ea _ _⟩⟩) h
   | vmap b _ en cl hA hg hh cy bc=>
     have hr:(Instr.range T (.map (some b))).run P w= .ok (.pointer (some ⟨w.heap.size,0,none⟩)) (w.alloc (.mapIter (some b) cl #[] cl)):=by
       simp[Instr.range,Jh hU,getObj,Sem.run,hh]
     rw[hr]
     have ue:en.toList.filter (fun e=>!(#[]:Array Nat).contains e.born)=en.toList:=List.filter_eq_self.2 fun x _=>by simp
     refine fin _ _ (fun m=>⟨_,Ctx.U0 _ _ _ _,.inr ⟨b,#[],en,cl,Ea _ _,hA,?_,cy.born,cy.bnodup,⟨by rw[ue];simpa using cy.size,fun i e p h1 h2=>?_⟩,by simp⟩⟩) h
     ·rw[(m.imm b hA).2];exact hh
     ·rw[ue]at h1
      have qj:en[i]? =some e:=by simpa using h1
      exact⟨cy.X4 i e p qj h2,hg p (Aor h2),(bc i e p qj h2).mono m⟩
  ·exact h.elim
theorem cQ {L1 L2:List MapEntry} {e:MapEntry} (h:((L1++e::L2).map (·.born)).Nodup):(L1++e::L2).filter (fun x=>!(x.born ==e.born))=L1++L2:=by
  rw[List.map_append,List.map_cons,List.nodup_append]at h
  obtain⟨_,h2,h3⟩:=h
  rw[List.nodup_cons]at h2
  rw[List.filter_append,List.filter_cons_of_neg (by simp)]
  congr 1
  ·rw[List.filter_eq_self]
   intro x hx
   have:=h3 x.born (List.mem_map_of_mem hx) e.born (by simp)
   simpa using this
  ·rw[List.filter_eq_self]
   intro x hx
   have:x.born≠e.born:=fun he=>h2.1 (he ▸ List.mem_map_of_mem hx)
   simpa using this
theorem setIter {W0:World} {C:Ctx} {w:World} (I:Inv W0 C w) {r:Nat} {l0:List (Int×Ac)} {c0:Option (Int×Ac)} {l:Loc} (hr:C.H[r]? =some (.it l0 c0)) (hl:C.ρ r=some l) (o:Obj) (l1:List (Int×Ac)) (c1:Option (Int×Ac))
    (ho:Fe C w (C.set r (.it l1 c1)) {w with heap:=w.heap.setIfInBounds l.b o}→{w with heap:=w.heap.setIfInBounds l.b o}.heap[l.b]? =some o→(∀ b,b≠l.b→{w with heap:=w.heap.setIfInBounds l.b o}.heap[b]? =w.heap[b]?)→
      Yh (C.set r (.it l1 c1)) {w with heap:=w.heap.setIfInBounds l.b o} r (.it l1 c1)) :
    Inv W0 (C.set r (.it l1 c1)) {w with heap:=w.heap.setIfInBounds l.b o}∧Fe C w (C.set r (.it l1 c1)) {w with heap:=w.heap.setIfInBounds l.b o}:=by
  have hs:=I.sep r l hl
  have bj:∀ b,b≠l.b→(w.heap.setIfInBounds l.b o)[b]? =w.heap[b]?:=fun b hb=>Array.getElem?_setIfInBounds_ne (fun h=>hb h.symm)
  refine I.put hr hl bj (by simp) (Uh I.below hs.2.1 _) ?_ (fun m=>ho m ?_ bj)
  ·unfold D3
   simp only[Ctx.set,List.getElem?_set_self hs.1]
   exact⟨⟨l0,c0,hr⟩,trivial⟩
  ·show(w.heap.setIfInBounds l.b _)[l.b]? =_
   rw[Array.getElem?_setIfInBounds_self,if_pos hs.2.2.1]
theorem wN {W0:World} {C:Ctx} {w:World} (I:Inv W0 C w) {ty:TypeId} {x:Value} {ax:Ac} {st:Bool} {K:Ac→Eff→Prop} (hx:A9 C w x ax) (h:yM ax st C.H K) :
    Yi W0 C w ((Instr.next x st ty).run P w) K:=by
  unfold yM at h
  split at h
  ·rename_i r
   split at h
   ·rename_i left cur hr
    obtain⟨h1,h2⟩:=h
    cases hx with
    | iter a _ ah de hh=>
      obtain⟨l,hl,hb⟩:=hh _ _ hr
      have ha:a=⟨l.b,0,none⟩:=by cases a;simp_all
      subst ha
      obtain⟨l',h3,h⟩:=I.objs r _ hr
      rw[hl,Aot]at h3
      subst h3
      have over:left=[]→(Instr.next (.pointer (some ⟨l.b,0,none⟩)) false ty).run P w= .ok (.tuple #[.bool false]) w→Yi W0 C w ((Instr.next (.pointer (some ⟨l.b,0,none⟩)) false ty).run P w) K:=by
        intro e bq
        refine⟨_,_,_,C,_,bq,.tuple _ [.bool false] rfl fun i u c g1 g2=>?_,h1 e,rfl,I,.refl _ _⟩
        match i,g1,g2 with
        | 0,g1,g2=>simp at g1 g2;subst g1 g2;exact .bool false
        | i+1,g1,g2=>simp at g2
      rcases h with⟨e1,_,s,n,k,h3⟩ | ⟨bm,seen,en,cl,h3,h4,h5,h6,h7,h8,h9⟩
      ·exact over e1 (by simp[Instr.next,getObj,Sem.run,h3])
      ·rcases run_next_at (P:=P) w ty l.b bm cl cl seen en cl h3 h5 (fun x hx=>h6 x hx) (Nat.le_refl _)with ⟨hz,bq⟩ | ⟨e,he,w1,cz,bq⟩
       ·refine over ?_ bq
        have:(leftOf en seen).toList.length=left.length:=by rw[← h8.1];simp[leftOf]
        exact List.eq_nil_of_length_eq_zero (by simpa[hz]using this.symm)
       ·have heL:e∈en.toList.filter (fun e=>!seen.contains e.born):=by simpa[leftOf]using he
        obtain⟨L1,L2,hL⟩:=List.append_of_mem heL
        have hlen:=h8.1
        rw[hL]at hlen
        have hj:L1.length<left.length:=by rw[← hlen];simp
        have xk:left=left.take L1.length++left[L1.length]::left.drop (L1.length+1):=by
          rw[List.getElem_cons_drop,List.take_append_drop]
        have hep:=h8.2 L1.length e left[L1.length] (by rw[hL];simp) (Aoq hj)
        have hnd:((L1++e::L2).map (·.born)).Nodup:=by
          rw[← hL];exact(List.Sublist.map _ List.filter_sublist).nodup h7
        have ue:en.toList.filter (fun x=>!(seen.push e.born).contains x.born)=L1++L2:=by
          rw[← cQ hnd,← hL,List.filter_filter]
          apply List.filter_congr
          intro x _
          simp only[Array.contains_push,Bool.not_or]
          rw[Bool.and_comm]
        have zv:w1.heap=w.heap:=by rcases cz with rfl | rfl<;>rfl
        have I1:=I.same (w':=w1) zv (by rcases cz with rfl | rfl;exact I.below;exact I.below.drew)
        have key:=setIter I1.1 hr hl (.mapIter (some bm) cl (seen.push e.born) cl) (left.take L1.length++left.drop (L1.length+1)) (some left[L1.length]) (fun m g1 g2=>by
          refine⟨l,hl,.inr ⟨bm,seen.push e.born,en,cl,g1,h4,?_,h6,h7,?_,fun p hp=>?_⟩⟩
          ·rw[g2 bm (fun eb=>(I.sep r l hl).2.2.2 (eb ▸ h4)),zv];exact h5
          ·rw[ue]
           refine⟨by simp at hlen ⊢;omega,fun i e' p' q1 q2=>?_⟩
           have dh:∀ i,(left.take L1.length++left.drop (L1.length+1))[i]? =left[if i<L1.length then i else i+1]?:=by
             intro i
             rw[List.getElem?_append]
             have hmin:(left.take L1.length).length=L1.length:=by simp;omega
             rw[hmin]
             split
             ·rw[List.getElem?_take,if_pos (by assumption)]
             ·rw[List.getElem?_drop];congr 1;omega
           have hgetL:∀ i,(L1++L2)[i]? =(L1++e::L2)[if i<L1.length then i else i+1]?:=by
             intro i
             rw[List.getElem?_append]
             split
             ·rw[List.getElem?_append_left (by assumption)]
             ·rw[List.getElem?_append_right (by omega),show i+1 - L1.length=(i - L1.length)+1 by omega];rfl
           rw[dh]at q2
           rw[hgetL,← hL]at q1
           have:=h8.2 _ e' p' q1 q2
           exact⟨this.1,this.2.1,(this.2.2.mono I1.2).mono m⟩
          ·simp only[Aot]at hp
           subst hp
           exact⟨e,(List.mem_filter.1 heL).1,by simp,hep.1,hep.2.1,(hep.2.2.mono I1.2).mono m⟩)
        have hk:=h2 _ _ _ xk
        refine⟨_,_,_,_,_,bq,.tuple _ [.bool true,.int .i64 left[L1.length].1,left[L1.length].2] rfl fun i u c g1 g2=>?_,hk,rfl,key.1,I1.2.trans key.2⟩
        match i,g1,g2 with
        | 0,g1,g2=>simp at g1 g2;subst g1 g2;exact .bool true
        | 1,g1,g2=>simp at g1 g2;subst g1 g2;rw[hep.1];exact .int _ _
        | 2,g1,g2=>simp at g1 g2;subst g1 g2;exact(hep.2.2.mono I1.2).mono key.2
        | i+3,g1,g2=>simp at g2
   ·exact h.elim
  ·exact h.elim
theorem uK {W0:World} {C:Ctx} {w:World} (I:Inv W0 C w) {x:Value} {ax:Ac} {K:Ac→Prop} (hx:A9 C w x ax) (h:rT ax C.H K) :
    Quiet C w ((Instr.entry x).run P w) K:=by
  unfold rT at h
  split at h
  ·rename_i r
   split at h
   ·rename_i left p hr
    cases hx with
    | iter a _ ah de hh=>
      obtain⟨l,hl,hb⟩:=hh _ _ hr
      have ha:a=⟨l.b,0,none⟩:=by cases a;simp_all
      subst ha
      obtain⟨l',h3,h'⟩:=I.objs r _ hr
      rw[hl,Aot]at h3
      subst h3
      rcases h' with⟨_,e1,_⟩ | ⟨bm,seen,en,cl,h3,h4,h5,h6,h7,h8,h9⟩
      ·cases e1
      ·obtain⟨e,g1,g2,g3,g4,g5⟩:=h9 p rfl
       have hseen:∃ s0:Array Nat,seen=s0.push e.born:=by
         have bj:seen.size≠0:=fun h0=>by have:seen=#[]:=Array.eq_empty_of_size_eq_zero h0;subst this;simp at g2
         refine⟨seen.pop,?_⟩
         apply Array.ext'
         have hl:seen.toList≠[]:=fun h=>bj (by rw[← Array.length_toList,h];rfl)
         have hg:seen.toList.getLast? =some e.born:=by rw[← g2];simp[Array.back?,List.getLast?_eq_getElem?]
         have hg2:seen.toList.getLast hl=e.born:=by rw[List.getLast?_eq_some_getLast hl]at hg;simpa using hg
         rw[Array.toList_push,Array.toList_pop,← hg2,List.dropLast_concat_getLast hl]
       obtain⟨s0,rfl⟩:=hseen
       refine .mk' (run_entry_at w l.b bm cl s0 en cl e h3 h5 g1 h7) (.tuple _ [.int .i64 p.1,p.2] rfl fun i u c q1 q2=>?_) h
       match i,q1,q2 with
       | 0,q1,q2=>simp at q1 q2;subst q1 q2;rw[g3];exact .int _ _
       | 1,q1,q2=>simp at q1 q2;subst q1 q2;exact g5
       | i+2,q1,q2=>simp at q2
   ·exact h.elim
  ·exact h.elim
end
def xL (x y:Ac) (K:Ac→Prop):Prop:=
  match x,y with
  | .int k a,.int k' b=>k=k'∧K (.int k (if b<a then b else a))
  | _,_=>False
def xM (x y:Ac) (K:Ac→Prop):Prop:=
  match x,y with
  | .int k a,.int k' b=>k=k'∧K (.int k (if a<b then b else a))
  | _,_=>False
def Iz (K:Ac→Eff→Prop) (v:Ac):Prop:=K v .none
def Ha (P:Program) (b:Builtin) (args:List Ac) (tys:List TypeId) (H:List Ak) (id:Nat) (K:Ac→Eff→Prop):Prop:=
  match b,args,tys with
  | .len,[x],[T]=>rS P T x H (Iz K)
  | .append,[s,x],[T,T2]=>T=T2∧Vd P T s x H id K
  | .delete,[m,k],[T,_]=>Vc P T m k H K
  | .min,[x,y],_=>xL x y (Iz K)
  | .max,[x,y],_=>xM x y (Iz K)
  | _,_,_=>False
def K8 (e:Operand→Ac):List (Nat×Operand)→List (Nat×Ac)
  | []=>[]
  | p::r=>(p.1,e p.2)::K8 e r
theorem pB (e:Operand→Ac):∀ l:List (Nat×Operand),K8 e l=l.map fun p=>(p.1,e p.2)
  | []=>rfl
  | p::r=>by rw[K8,pB e r];rfl
def astep (P:Program) (op:Op) (e:Operand→Ac) (H:List Ak) (id:Nat) (K:Ac→Eff→Prop):Prop:=
  match op with
  | .move x=>K (e x) .none
  | .assign x=>K (e x) .none
  | .pick c a b=>nL (e c) (e a) (e b) (Iz K)
  | .binOp o T x y _=>vG P o T (e x) (e y) (Iz K)
  | .unOp o _ x=>aUn o (e x) (Iz K)
  | .convert s d x=>j0 P s d (e x) (Iz K)
  | .alloc T=>xP P T id K
  | .box _ x=>Aay (e x) id K
  | .build T parts=>dD P T (K8 e parts.toList) (Iz K)
  | .buildSlice T n parts=>n≤9223372036854775807∧Oc P T n (K8 e parts.toList) id K
  | .load T a=>Z3 P T (e a) H (Iz K)
  | .store T a x=>Z0 P T (e a) (e x) H K
  | .fieldAddr T x f=>Le P T (e x) f (Iz K)
  | .field T x f=>dB P T (e x) f (Iz K)
  | .indexAddr T x i=>I8 P T (e x) (e i) H (Iz K)
  | .extract t i=>match e t with
    | .tuple vs=>i<vs.length∧K (vs.getD i .any) .none
    | _=>False
  | .slice T x lo hi mx=>Sj P T (e x) (lo.map e) (hi.map e) (mx.map e) H (Iz K)
  | .makeSlice T l c=>Qv P T (e l) (e c) id K
  | .makeMap _ none=>nM id K
  | .lookup T x i ok=>S2 P T (e x) (e i) ok H (Iz K)
  | .mapUpdate T m k x=>Hn P T (e m) (e k) (e x) H K
  | .insert T m k x=>Hn P T (e m) (e k) (e x) H K
  | .range T x=>rR P T (e x) id K
  | .next i s=>yM (e i) s H K
  | .entry i=>rT (e i) H (Iz K)
  | .makeFunc (.func f) first caps=>first=#[]∧K (.func f (caps.toList.map e)) .none
  | .call c=>match c.callee with
    | .builtin b=>Ha P b (c.args.toList.map e) c.argTypes.toList H id K
    | _=>False
  | _=>False
structure Vz (W0:World) (C:Ctx) (w:World) (r:Result Next) (K:Ac→Eff→Prop):Prop where
  ex:∃ a w' C' ef,((∃ v,r= .ok (.value v) w'∧A9 C' w' v a)∨(r= .ok .skip w'∧a= .tuple []))∧K a ef∧C'.H=ef.app C.H∧Inv W0 C' w'∧Fe C w C' w'
section
variable {P:Program}
theorem Vz.Hq {W0:World} {C:Ctx} {w:World} (I:Inv W0 C w) {s:Sem Value} {K:Ac→Eff→Prop} (h:Quiet C w (s.run P w) fun a=>K a .none) :
    Vz W0 C w ((do pure (Next.value (← s)):Sem Next).run P w) K:=by
  obtain⟨v,a,h1,h2,h3⟩:=h.ex
  exact⟨a,w,C,.none,.inl ⟨v,by simp[h1],h2⟩,h3,rfl,I,.refl _ _⟩
theorem Vz.W6 {W0:World} {C:Ctx} {w:World} {s:Sem Value} {K:Ac→Eff→Prop} (h:Yi W0 C w (s.run P w) K) :
    Vz W0 C w ((do pure (Next.value (← s)):Sem Next).run P w) K:=by
  obtain⟨v,a,w',C',ef,h1,h2,h3,h4,h5,h6⟩:=h.ex
  exact⟨a,w',C',ef,.inl ⟨v,by simp[h1],h2⟩,h3,h4,h5,h6⟩
theorem Vz.Abq {W0:World} {C:Ctx} {w:World} {s:Sem Unit} {K:Ac→Eff→Prop} (h:Did W0 C w (s.run P w) K) :
    Vz W0 C w ((do s;pure Next.skip:Sem Next).run P w) K:=by
  obtain⟨w',C',ef,h1,h2,h3,h4,h5⟩:=h.ex
  exact⟨.tuple [],w',C',ef,.inr ⟨by simp[h1],rfl⟩,h2,h3,h4,h5⟩
theorem x6 {C:Ctx} {w:World} {ρ:Operand→Value} {e:Operand→Ac} (he:∀ x,A9 C w (ρ x) (e x)) (parts:Array (Nat×Operand)) :
    (parts.map fun(i,x)=>(i,ρ x)).toList.length=(K8 e parts.toList).length∧
    ∀ (i:Nat) p q,(parts.map fun(i,x)=>(i,ρ x)).toList[i]? =some p→(K8 e parts.toList)[i]? =some q→p.1=q.1∧A9 C w p.2 q.2:=by
  rw[pB];refine⟨by simp,fun i p q h1 h2=>?_⟩
  simp only[Array.toList_map,List.getElem?_map,Array.getElem?_toList]at h1 h2
  cases hx:parts[i]? with
  | none=>simp[hx]at h1
  | some y=>
    simp only[hx,Option.map_some,Aot]at h1 h2
    subst h1 h2
    exact⟨rfl,he _⟩
theorem aE {C:Ctx} {w:World} {ρ:Operand→Value} {e:Operand→Ac} (he:∀ x,A9 C w (ρ x) (e x)) (o:Option Operand) :
    (∀ v a,o.map ρ=some v→o.map e=some a→A9 C w v a)∧(o.map ρ).isSome=(o.map e).isSome:=by
  cases o with
  | none=>simp
  | some x=>
    refine⟨fun v a h1 h2=>?_,rfl⟩
    simp only[Option.map_some,Aot]at h1 h2
    subst h1 h2;exact he x
theorem Aeh {α β:Type} {e:α→β} {args:Array α} {x:β} (h:args.toList.map e=[x]):∃ xo,args=#[xo]∧e xo=x:=by
  match hl:args.toList,h with
  | [xo],h=>exact ⟨xo,Array.ext' hl,by simpa using h⟩
theorem lI {α β:Type} {e:α→β} {args:Array α} {x y:β} (h:args.toList.map e=[x,y]):∃ so xo,args=#[so,xo]∧e so=x∧e xo=y:=by
  match hl:args.toList,h with
  | [so,xo],h=>exact ⟨so,xo,Array.ext' hl,by simpa using h⟩
theorem jU {W0:World} {C:Ctx} {w:World} (I:Inv W0 C w) {id:Nat} (bw:Py C.H id) {o:Oper} {ρ:Operand→Value} {e:Operand→Ac} (he:∀ x,A9 C w (ρ x) (e x)) {K:Ac→Eff→Prop}
    (h:astep P o.op e C.H id K):Vz W0 C w ((execOp ρ o).run P w) K:=by
  unfold astep at h
  unfold execOp
  split at h
  case h_1 x ho=>simp only[ho];exact⟨_,w,C,.none,.inl ⟨_,rfl,he x⟩,h,rfl,I,.refl _ _⟩
  case h_2 x ho=>simp only[ho];exact⟨_,w,C,.none,.inl ⟨_,rfl,he x⟩,h,rfl,I,.refl _ _⟩
  case h_3 c a b ho=>
    simp only[ho]
    have hc:=he c
    have ha:=he a
    have hb:=he b
    unfold nL at h
    split at h
    ·rename_i cv hcv
     rw[hcv]at hc
     cases mu:ρ c<;>rw[mu]at hc<;>cases hc
     simp only[asBool,Sem.run_bind,Sem.run_pure,Result.andThen_ok]
     split at h
     ·rename_i x y hx hy
      rw[hx]at ha;rw[hy]at hb
      cases ha':ρ a<;>rw[ha']at ha<;>cases ha
      cases fb:ρ b<;>rw[fb]at hb<;>cases hb
      refine⟨_,w,C,.none,.inl ⟨_,rfl,?_⟩,h,rfl,I,.refl _ _⟩
      cases cv<;>exact .bool _
     ·cases cv with
      | true=>exact ⟨_,w,C,.none,.inl ⟨_,rfl,by simpa using ha⟩,h.1 rfl,rfl,I,.refl _ _⟩
      | false=>exact ⟨_,w,C,.none,.inl ⟨_,rfl,by simpa using hb⟩,h.2 rfl,rfl,I,.refl _ _⟩
    ·exact h.elim
  case h_4 op T x y yT ho=>simp only[ho];exact .Hq I (Aam (he x) (he y) h)
  case h_5 op T x ho=>simp only[ho];exact .Hq I (Aa5 (he x) h)
  case h_6 s d x ho=>simp only[ho];exact .Hq I (w5 (he x) h)
  case h_7 T ho=>simp only[ho];exact .W6 (u7 I bw h)
  case h_8 T x ho=>simp only[ho];exact .W6 (Aak I bw (he x) h)
  case h_9 T parts ho=>
    simp only[ho]
    have:=x6 he parts
    exact .Hq I (uX this.1 this.2 h)
  case h_10 T n parts ho=>
    simp only[ho]
    have:=x6 he parts
    exact .W6 (iP I bw this.1 this.2 (by have:=Lx;have:=h.1;omega) h.2)
  case h_11 T a ho=>simp only[ho];exact .Hq I (mK I (he a) h)
  case h_12 T a x ho=>simp only[ho];exact .Abq (r6 I (he a) (he x) h)
  case h_13 T x f ho=>simp only[ho];exact .Hq I (kS (he x) h)
  case h_14 T x f ho=>simp only[ho];exact .Hq I (uG (he x) h)
  case h_15 T x i ho=>simp only[ho];exact .Hq I (kQ (he x) (he i) h)
  case h_16 t i ho=>
    simp only[ho]
    split at h
    ·rename_i vs fc
     have:=he t
     rw[fc]at this
     exact .Hq I (oG this h.1 h.2)
    ·exact h.elim
  case h_17 T x lo hi mx ho=>
    simp only[ho]
    exact .Hq I (sC (he x) (aE he lo).1 (aE he lo).2 (aE he hi).1 (aE he hi).2 (aE he mx).1 (aE he mx).2 h)
  case h_18 T l c ho=>simp only[ho];exact .W6 (kP I bw (he l) (he c) h)
  case h_19 T ho=>simp only[ho];exact .W6 (oE I bw h)
  case h_20 T x i ok ho=>simp only[ho];exact .Hq I (q0 I (he x) (he i) h)
  case h_21 T m k x ho=>simp only[ho];exact .Abq (X3 I (he m) (he k) (he x) h)
  case h_22 T m k x ho=>simp only[ho];exact .Abq (X3 I (he m) (he k) (he x) h)
  case h_23 T x ho=>simp only[ho];exact .W6 (sX I bw (he x) h)
  case h_24 i s ho=>simp only[ho];exact .W6 (wN I (he i) h)
  case h_25 i ho=>simp only[ho];exact .Hq I (uK I (he i) h)
  case h_26 f first caps ho=>
    obtain⟨h1,h⟩:=h
    simp only[ho,h1,List.map_toArray,List.map_nil]
    refine⟨_,w,C,.none,.inl ⟨_,rfl,?_⟩,h,rfl,I,.refl _ _⟩
    refine .func f (caps.map ρ) (caps.toList.map e) (by simp) fun i u c h1 h2=>?_
    simp only[Array.getElem?_map,List.getElem?_map,Array.getElem?_toList]at h1 h2
    cases hx:caps[i]? with
    | none=>simp[hx]at h1
    | some y=>
      simp only[hx,Option.map_some,Aot]at h1 h2
      subst h1 h2;exact he y
  case h_27 c ho=>
    rw[ho]
    dsimp only
    split at h
    ·rename_i b hb
     simp only[resolve,hb,Sem.run_bind,Sem.run_pure,Result.andThen_ok,invoke]
     unfold Ha at h
     split at h
     ·rename_i x T ic rf
      have ha:=Aeh ic
      have ht:c.argTypes=#[T]:=Array.ext' rf
      obtain⟨xo,ha,rfl⟩:=ha
      simp only[ha,ht,List.map_toArray,List.map_cons,List.map_nil,builtin]
      exact .Hq I (zV I (he xo) h)
     ·rename_i s x T T2 ic rf
      have ha:=lI ic
      have ht:c.argTypes=#[T,T2]:=Array.ext' rf
      obtain⟨so,xo,ha,rfl,rfl⟩:=ha
      obtain⟨rfl,h⟩:=h
      simp only[ha,ht,List.map_toArray,List.map_cons,List.map_nil,builtin]
      exact .W6 (rO I bw (he so) (he xo) h)
     ·rename_i m k T T2 ic rf
      have ha:=lI ic
      have ht:c.argTypes=#[T,T2]:=Array.ext' rf
      obtain⟨so,xo,ha,rfl,rfl⟩:=ha
      simp only[ha,ht,List.map_toArray,List.map_cons,List.map_nil,builtin]
      exact .W6 (rI I (he so) (he xo) h)
     ·rename_i x y tys ic
      have ha:=lI ic
      obtain⟨so,xo,ha,rfl,rfl⟩:=ha
      simp only[ha,List.map_toArray,List.map_cons,List.map_nil,builtin]
      refine .Hq I ?_
      have h1:=he so
      have h2:=he xo
      unfold xL at h
      split at h
      ·rename_i k1 a k2 b e1 e2
       obtain⟨rfl,h⟩:=h
       rw[e1]at h1;rw[e2]at h2
       cases qj:ρ so<;>rw[qj]at h1<;>cases h1
       cases ym:ρ xo<;>rw[ym]at h2<;>cases h2
       exact .mk' (by simp[Builtin.min_,Builtin.min2]) (.int _ _) h
      ·exact h.elim
     ·rename_i x y tys ic
      have ha:=lI ic
      obtain⟨so,xo,ha,rfl,rfl⟩:=ha
      simp only[ha,List.map_toArray,List.map_cons,List.map_nil,builtin]
      refine .Hq I ?_
      have h1:=he so
      have h2:=he xo
      unfold xM at h
      split at h
      ·rename_i k1 a k2 b e1 e2
       obtain⟨rfl,h⟩:=h
       rw[e1]at h1;rw[e2]at h2
       cases qj:ρ so<;>rw[qj]at h1<;>cases h1
       cases ym:ρ xo<;>rw[ym]at h2<;>cases h2
       exact .mk' (by simp[Builtin.max_,Builtin.max2]) (.int _ _) h
      ·exact h.elim
     ·exact h.elim
    ·exact h.elim
  case h_28=>exact h.elim
end
def fence (md:Option Nat):Fence:={Fence.wide with round:=md}
theorem Zk {md:Option Nat} {n:Nat} {P:Program} {f:FuncId} {args:Array Value} {w:World} {R:Ending→World→Prop} (h:Calls P f args w R):CallsIn (fence md) n P f args w R:=
  show CallsIn Fence.wide n P f args w R from callsIn_wide.2 h
theorem U6 {md:Option Nat} {n:Nat}:(fence md).depth.isSome=true→1≤n:=fun h=>by simp[fence,Fence.wide]at h
theorem uI {md:Option Nat} {n:Nat} {P:Program} {l:Nat} {f:FuncId} {tmps:Array Value} {assign body:Code} {w:World} {R:Ending→World→Prop} (h:RoundIn Fence.wide n P l f tmps assign body w R):RoundIn (fence md) n P l f tmps assign body w R:=h
def Em (C:Ctx) (w:World) (outs:List (Array Value)) (outer:List Fr):Prop:=
  outs.length=outer.length∧∀ (i:Nat) (t:Array Value) (f:Fr),outs[i]? =some t→outer[i]? =some f→Uj C w t f
theorem Em.mono {C C':Ctx} {w w':World} (m:Fe C w C' w') {outs:List (Array Value)} {outer:List Fr} (h:Em C w outs outer):Em C' w' outs outer:=
  ⟨h.1,fun i t f a b=>(h.2 i t f a b).mono m⟩
theorem Em.cons {C:Ctx} {w:World} {t:Array Value} {f:Fr} {outs:List (Array Value)} {outer:List Fr} (h1:Uj C w t f) (h:Em C w outs outer):Em C w (t::outs) (f::outer):=by
  refine⟨by simp[h.1],fun i t' f' a b=>?_⟩
  match i,a,b with
  | 0,a,b=>simp at a b;subst a b;exact h1
  | i+1,a,b=>exact h.2 i t' f' (by simpa using a) (by simpa using b)
theorem Em.head {C:Ctx} {w:World} {t:Array Value} {f:Fr} {outs:List (Array Value)} {outer:List Fr} (h:Em C w (t::outs) (f::outer)):Uj C w t f:=h.2 0 t f rfl rfl
theorem Em.tail {C:Ctx} {w:World} {t:Array Value} {f:Fr} {outs:List (Array Value)} {outer:List Fr} (h:Em C w (t::outs) (f::outer)):Em C w outs outer:=
  ⟨by simpa using h.1,fun i t' f' a b=>h.2 (i+1) t' f' (by simpa using a) (by simpa using b)⟩
theorem Em.nil {C:Ctx} {w:World}:Em C w [] []:=⟨rfl,by simp⟩
structure F5 (W0:World) (A0:Nat→Prop) (ds:List Deferred) (n:Nat) (outs:List (Array Value)) (outer:List Fr) (fr:Fr) (H:List Ak) (a:Act) (w:World):Prop where
  ex:∃ C:Ctx,C.H=H∧C.A0=A0∧Inv W0 C w∧Uj C w a.tmps fr∧Em C w outs outer∧a.tmps.size=n∧a.defers=ds
def Ah (P:Program) (f:Ac) (args:List Ac) (st:List Fr) (H:List Ak) (K:Ac→List Ak→Prop):Prop:=
  ∀ (W0:World) (C:Ctx) (w:World) (outs:List (Array Value)) (fv:Value) (vs:List Value),Inv W0 C w→C.H=H→Em C w outs st→A9 C w fv f→vs.length=args.length→
    (∀ (i:Nat) (v:Value) (a:Ac),vs[i]? =some v→args[i]? =some a→A9 C w v a)→
    (∃ fid caps,fv= .func (.func fid) #[] caps∧(∀ (args:Array Value) (w:World),(callFunc fid args).run P w= .ok (.enter fid args) w)∧
     Calls P fid (vs.toArray++caps) w fun e w'=>∃ v r C',e= .returned v∧K r C'.H∧C'.A0=C.A0∧A9 C' w' v r∧Inv W0 C' w'∧Em C' w' outs st)∨
    (∃ l rec,fv= .func (.yield l) #[] #[]∧w.heap[l]? =some (.loop rec)∧vs.length=rec.params.size∧
     RoundIn Fence.wide 4 P l rec.fn ((rec.params.zip vs.toArray).foldl (fun tmps (t,a)=>tmps.setIfInBounds t a) rec.tmps) rec.assign rec.body w fun e w'=>∃ v r C',e= .returned v∧K r C'.H∧C'.A0=C.A0∧A9 C' w' v r∧Inv W0 C' w'∧Em C' w' outs st)
def El (v:Ac) (want:Bool) (Y N:Fr→List Ak→Prop) (fr:Fr) (H:List Ak):Prop:=
  match v with
  | .bool c=>(c=want→Y fr H)∧(c≠want→N fr H)
  | .tuple _=>N fr H
  | _=>False
def Sh:Op→Option (Operand×List Operand)
  | .call {callee:=.value f,args:=args,argTypes:=_}=>some (f,args.toList)
  | _=>none
def iU (fr:Fr) (dst:Option Tmp) (next:Fr→List Ak→Prop) (v:Ac) (H:List Ak):Prop:=next (put fr dst v) H
def Qu (fr:Fr) (dst:Option Tmp) (next:Fr→List Ak→Prop) (H:List Ak) (v:Ac) (ef:Eff):Prop:=next (put fr dst v) (ef.app H)
def askip (dst:Option Tmp) (next:Fr→List Ak→Prop) (fr:Fr) (H:List Ak):Prop:=next (put fr dst (.tuple [])) H
def Ac5 (P:Program) (op:Op) (e:Operand→Ac):Option (List (List Ac)):=
  match op with
  | .binOp .eql T x y _=>match e x,e y with
    | .sl _ xs,.nils=>if (F1 P T).isSome=true then some xs else none
    | _,_=>none
  | _=>none
def aoper (P:Program) (outer:List Fr) (op:Op) (dst:Option Tmp) (next:Fr→List Ak→Prop) (fr:Fr) (H:List Ak):Prop:=
  match Sh op with
  | some (f,args)=>Ah P (ev fr f) (args.map (ev fr)) (fr::outer) H (iU fr dst next)
  | none=>match Ac5 P op (ev fr)with
    | some xs=>∀ b:Bool,(xs≠[]→b=false)→Qu fr dst next H (.bool b) .none
    | none=>astep P op (ev fr) H H.length (Qu fr dst next H)
def alist (P:Program) (outer:List Fr) (all:List Oper):List Oper→(Fr→List Ak→Prop)→Fr→List Ak→Prop
  | [],K=>K
  | o::rest,K=>match o.guard with
    | none=>aoper P outer o.op o.dst (alist P outer all rest K)
    | some (j,want)=>match (all[j]?).bind (·.dst)with
      | some d=>fun fr H=>El (get fr d) want (aoper P outer o.op o.dst (alist P outer all rest K)) (askip o.dst (alist P outer all rest K)) fr H
      | none=>askip o.dst (alist P outer all rest K)
theorem Aas (P:Program) (outer:List Fr) (all:List Oper) (K:Fr→List Ak→Prop) (fr:Fr) (H:List Ak):alist P outer all [] K fr H=K fr H:=rfl
theorem vA (P:Program) (outer:List Fr) (all:List Oper) (dst:Option Tmp) (op:Op) (type:TypeId) (pos:String) (after:Array Edge) (rest:List Oper) (K:Fr→List Ak→Prop) (fr:Fr) (H:List Ak) :
    alist P outer all ({dst,op,type,pos,after,guard:=none}::rest) K fr H=aoper P outer op dst (alist P outer all rest K) fr H:=rfl
def fF (d:Option Tmp) (want:Bool) (Y N:Fr→List Ak→Prop) (fr:Fr) (H:List Ak):Prop:=
  match d with
  | some d=>El (get fr d) want Y N fr H
  | none=>N fr H
theorem vB (P:Program) (outer:List Fr) (all:List Oper) (dst:Option Tmp) (op:Op) (type:TypeId) (pos:String) (after:Array Edge) (j:Nat) (want:Bool) (rest:List Oper) (K:Fr→List Ak→Prop) (fr:Fr) (H:List Ak) :
    alist P outer all ({dst,op,type,pos,after,guard:=some (j,want)}::rest) K fr H =
      fF ((all[j]?).bind (·.dst)) want (aoper P outer op dst (alist P outer all rest K)) (askip dst (alist P outer all rest K)) fr H:=by
  simp only[alist,fF]
  cases(all[j]?).bind (·.dst)<;>rfl
theorem xF (Y N:Fr→List Ak→Prop) (fr:Fr) (H:List Ak):El (.bool true) true Y N fr H=Y fr H:=by simp[El]
theorem xI (Y N:Fr→List Ak→Prop) (fr:Fr) (H:List Ak):El (.bool false) false Y N fr H=Y fr H:=by simp[El]
theorem xG (Y N:Fr→List Ak→Prop) (fr:Fr) (H:List Ak):El (.bool true) false Y N fr H=N fr H:=by simp[El]
theorem xH (Y N:Fr→List Ak→Prop) (fr:Fr) (H:List Ak):El (.bool false) true Y N fr H=N fr H:=by simp[El]
theorem oK (vs:List Ac) (want:Bool) (Y N:Fr→List Ak→Prop) (fr:Fr) (H:List Ak):El (.tuple vs) want Y N fr H=N fr H:=rfl
def Mb (n:Nat) (ops:List Oper):Bool:=ops.all fun o=>match o.dst with | some d=>Nat.blt d n | none=>true
section
variable {P:Program} {md:Option Nat}
theorem l7 (a:Act) (d:Option Tmp) (v:Value):(a.put d v).tmps.size=a.tmps.size:=by
  cases d<;>simp[Act.put]
theorem put_defers (a:Act) (d:Option Tmp) (v:Value):(a.put d v).defers=a.defers:=by
  cases d<;>simp[Act.put]
theorem V5 (C:Ctx) (w:World):A9 C w undef (.tuple []):=.tuple #[] [] rfl (by simp)
theorem U7 {o:Op} {f:Operand} {args:List Operand} (h:Sh o=some (f,args)):∃ (zq:Array Operand) (ts:Array TypeId),o= .call {callee:=.value f,args:=zq,argTypes:=ts}∧zq.toList=args:=by
  unfold Sh at h
  split at h
  ·simp only[Aot,Prod.mk.injEq]at h
   obtain⟨rfl,rfl⟩:=h
   exact⟨_,_,rfl,rfl⟩
  ·cases h
theorem zK {W0:World} {C:Ctx} {w:World} (I:Inv W0 C w) {o:Oper} {ρ:Operand→Value} {e:Operand→Ac} (he:∀ x,A9 C w (ρ x) (e x)) {xs:List (List Ac)} (hx:Ac5 P o.op e=some xs) {K:Ac→Eff→Prop}
    (h:∀ b:Bool,(xs≠[]→b=false)→K (.bool b) .none):Vz W0 C w ((execOp ρ o).run P w) K:=by
  unfold Ac5 at hx
  split at hx
  ·rename_i T x y yT ho
   split at hx
   ·rename_i sz ys h1 h2
    split at hx
    ·rename_i hT
     obtain rfl:=Aoy hx
     have hu:=he x
     have hv:=he y
     rw[h1]at hu;rw[h2]at hv
     cases lg:ρ y<;>rw[lg]at hv<;>cases hv
     have hsl:∃ a n c,ρ x= .slice a n c∧(ys≠[]→a.isNone=false):=by
       generalize ρ x=v at hu
       cases hu with
       | sl0 a cap _ _=>exact ⟨a,0,cap,rfl,fun h=>absurd rfl h⟩
       | sl a len cap _ _ _ _ _ _ _ _ _ _ _ _ _=>exact ⟨some a,len,cap,rfl,fun _=>rfl⟩
     obtain⟨a,n,c,hsl,bj⟩:=hsl
     have hte:∃ te,P.underlying T=some (.slice te):=by
       unfold F1 at hT
       split at hT
       ·exact⟨_,by assumption⟩
       ·cases hT
     obtain⟨te,hte⟩:=hte
     unfold execOp
     simp only[ho,hsl,lg]
     refine .Hq I (.mk' ?_ (.bool a.isNone) (h _ bj))
     simp only[eqGuard_at_slice,Sem.run_bind,Sem.run_pure,Result.andThen_ok]
     exact Lib.run_eql_slice_nil w T te a n c 0 0 hte
    ·cases hx
   ·cases hx
  ·cases hx
theorem Xk {W0:World} {A0:Nat→Prop} {ds:List Deferred} {n:Nat} {outs:List (Array Value)} {outer:List Fr} {all l2:List Oper} {Q:Exit→Act→World→Prop} {K:Fr→List Ak→Prop}
    (hQ:∀ fr' H' a' w',K fr' H'→F5 W0 A0 ds n outs outer fr' H' a' w'→wpListIn (fence md) 5 P all.toArray Q l2 a' w'):∀ (l:List Oper) (fr:Fr) (H:List Ak) (a:Act) (w:World),Mb n l=true→
    F5 W0 A0 ds n outs outer fr H a w→alist P outer all l K fr H→wpListIn (fence md) 5 P all.toArray Q (l++l2) a w
  | [],fr,H,a,w,_,R,h=>hQ _ _ _ _ h R
  | o::rest,fr,H,a,w,hd,R,h=>by
    simp only[Mb,List.all_cons,Bool.and_eq_true]at hd
    obtain⟨hd0,hd⟩:=hd
    have ih:=fun fr H a w=>Xk (all:=all) (l2:=l2) hQ rest fr H a w hd
    obtain⟨C,rfl,rfl,I,hF,hO,hn,hdf⟩:=R.ex
    have ah:∀ k,o.dst=some k→k<a.tmps.size:=by
      intro k hk
      rw[hk]at hd0
      rw[hn]
      simpa using hd0
    have srep:∀ (C':Ctx) (w':World) (v:Value) (r:Ac),C'.A0=C.A0→Inv W0 C' w'→Uj C' w' a.tmps fr→Em C' w' outs outer→A9 C' w' v r→F5 W0 C.A0 ds n outs outer (put fr o.dst r) C'.H (a.put o.dst v) w':=
      fun C' w' v r e I' yk mw hv=>⟨C',rfl,e,I',yk.put hv o.dst ah,mw,by rw[l7,hn],by rw[put_defers,hdf]⟩
    have skip:askip o.dst (alist P outer all rest K) fr C.H→wpListIn (fence md) 5 P all.toArray Q (rest++l2) (a.put o.dst undef) w:=
      fun h=>ih _ _ _ _ (srep C w undef _ rfl I hF hO (V5 C w)) h
    have run:aoper P outer o.op o.dst (alist P outer all rest K) fr C.H→o.wpIn (fence md) 5 P a w (wpListIn (fence md) 5 P all.toArray Q (rest++l2)) Q:=by
      intro h
      have nd:∀ c,o.op≠.defer c:=fun c hc=>by
        rw[hc]at h;exact h
      unfold aoper at h
      unfold Oper.wpIn
      refine⟨fun _ _=>trivial,?_⟩
      rw[Oper.semAt_eq _ _ _ nd]
      split at h
      ·rename_i f args hc
       obtain⟨zq,ts,ho,rfl⟩:=U7 hc
       rcases h W0 C w (a.tmps::outs) (a.eval f) (zq.toList.map a.eval) I rfl (hO.cons hF) (Sg hF f) (by simp) (fun i v x hv hx=>by
         simp only[List.getElem?_map]at hv hx
         cases hy:zq.toList[i]? with
         | none=>simp[hy]at hv
         | some y=>
           simp only[hy,Option.map_some,Aot]at hv hx
           subst hv hx;exact Sg hF y)with ⟨fid,caps,h1,h2,h3⟩ | ⟨l,rec,h1,hh,hs,h3⟩
       ·have bq:(execOp a.eval o).run P w= .ok (.enter fid ((zq.toList.map a.eval).toArray++caps)) w:=by
          unfold execOp
          rw[ho]
          simp only[resolve,Deferred.ofValue,h1,invoke,Sem.run_bind,Sem.run_pure,Result.andThen_ok]
          have e1:(#[]++Array.map a.eval zq++caps:Array Value)=(zq.toList.map a.eval).toArray++caps:=by
            apply Array.ext';simp
          rw[e1,h2]
        rw[bq,Oper.uponIn_enter]
        refine⟨U6,Zk (h3.mono fun e w' ⟨v,r,C',he,hk,hA,hv,I',mw⟩=>?_)⟩
        subst he
        exact ih _ _ _ _ (srep C' w' v r hA I' mw.head mw.tail hv) hk
       ·have bq:(execOp a.eval o).run P w= .ok (.round l rec.fn ((rec.params.zip (zq.toList.map a.eval).toArray).foldl (fun tmps (t,a)=>tmps.setIfInBounds t a) rec.tmps) rec.assign rec.body) w:=by
          unfold execOp
          rw[ho]
          simp only[resolve,Deferred.ofValue,h1,invoke,Sem.run_bind,Sem.run_pure,Result.andThen_ok]
          have e1:(#[]++Array.map a.eval zq++#[]:Array Value)=(zq.toList.map a.eval).toArray:=by
            apply Array.ext';simp
          have e2:(#[]++Array.map a.eval zq:Array Value)=(zq.toList.map a.eval).toArray:=by
            apply Array.ext';simp
          first | rw[e1] | rw[e2]
          exact run_yield hh (by simpa using hs)
        rw[bq,Oper.uponIn_round]
        refine⟨U6,uI (h3.mono fun e w' ⟨v,r,C',he,hk,hA,hv,I',mw⟩=>?_)⟩
        subst he
        exact ih _ _ _ _ (srep C' w' v r hA I' mw.head mw.tail hv) hk
      ·have od:Vz W0 C w ((execOp a.eval o).run P w) (Qu fr o.dst (alist P outer all rest K) C.H):=by
         split at h
         ·rename_i xs hx
          exact zK I (Sg hF) hx h
         ·exact jU (P:=P) I (.inl rfl) (Sg hF) h
       obtain⟨r,w',C',ef,ng,hk,hH,I',m⟩:=od.ex
       unfold Qu at hk
       rw[← hH]at hk
       rcases ng with⟨v,bq,hv⟩ | ⟨bq,rfl⟩
       ·rw[bq,Oper.uponIn_value]
        exact ih _ _ _ _ (srep C' w' v r m.A0 I' (hF.mono m) (hO.mono m) hv) hk
       ·rw[bq,Oper.uponIn_skip]
        exact ih _ _ _ _ (srep C' w' undef _ m.A0 I' (hF.mono m) (hO.mono m) (V5 C' w')) hk
    rw[List.cons_append]
    unfold wpListIn
    cases hg:o.guard with
    | none=>
      simp only[alist,hg]at h
      rw[if_pos (by simp[Region.wanted,hg])]
      exact run h
    | some jw=>
      obtain⟨j,want⟩:=jw
      have hy:∀ d,(all[j]?).bind (·.dst)=some d→yielded all.toArray a.tmps j=match a.tmps[d]? with | some (.bool b)=>some b | _=>none:=by
        intro d hd
        unfold yielded
        simp only[List.getElem?_toArray,hd,Aos]
        rfl
      cases ly:(all[j]?).bind (·.dst)with
      | some d=>
        simp only[alist,hg,ly]at h
        have hv:=hF d
        unfold El at h
        split at h
        ·rename_i c hc
         rw[hc]at hv
         have mo:a.tmps.getD d undef= .bool c:=by cases lg:a.tmps.getD d undef<;>rw[lg]at hv<;>cases hv;rfl
         have rh:a.tmps[d]? =some (.bool c):=by
           rw[Array.getD_eq_getD_getElem?]at mo
           cases ht:a.tmps[d]? with
           | none=>rw[ht]at mo;cases mo
           | some u=>rw[ht]at mo;simp at mo;rw[mo]
         have hw:Region.wanted o (yielded all.toArray a.tmps)=decide (c=want):=by
           simp only[Region.wanted,hg,hy d ly,rh]
           cases c<;>cases want<;>rfl
         by_cases nj:c=want
         ·rw[if_pos (by rw[hw];simpa using nj)]
          exact run (h.1 nj)
         ·rw[if_neg (by rw[hw];simpa using nj)]
          exact⟨fun _ _=>trivial,skip (h.2 nj)⟩
        ·rename_i vs hc
         rw[hc]at hv
         have hw:Region.wanted o (yielded all.toArray a.tmps)=false:=by
           simp only[Region.wanted,hg,hy d ly]
           cases ht:a.tmps[d]? with
           | none=>rfl
           | some u=>
             have:a.tmps.getD d undef=u:=by rw[Array.getD_eq_getD_getElem?,ht];rfl
             rw[this]at hv
             cases hv;rfl
         rw[if_neg (by rw[hw];simp)]
         exact⟨fun _ _=>trivial,skip h⟩
        ·exact h.elim
      | none=>
        simp only[alist,hg,ly]at h
        have hw:Region.wanted o (yielded all.toArray a.tmps)=false:=by
          simp only[Region.wanted,hg]
          unfold yielded
          simp[ly]
        rw[if_neg (by rw[hw];simp)]
        exact⟨fun _ _=>trivial,skip h⟩
theorem jX {W0:World} {A0:Nat→Prop} {ds:List Deferred} {n:Nat} {outs:List (Array Value)} {outer:List Fr} {all:List Oper} {Q:Exit→Act→World→Prop} {K:Fr→List Ak→Prop}
    (hQ:∀ fr' H' a' w',K fr' H'→F5 W0 A0 ds n outs outer fr' H' a' w'→Q .normal a' w') (l:List Oper) (fr:Fr) (H:List Ak) (a:Act) (w:World) (hd:Mb n l=true)
    (R:F5 W0 A0 ds n outs outer fr H a w) (h:alist P outer all l K fr H):wpListIn (fence md) 5 P all.toArray Q l a w:=by
  have:=Xk (md:=md) (l2:=[]) (Q:=Q) hQ l fr H a w hd R h
  rwa [List.append_nil]at this
def ALP (md:Option Nat) (P:Program) (n:Nat) (outer:List Fr) (all l:List Oper) (Q:Exit→Fr→List Ak→Prop) (fr:Fr) (H:List Ak):Prop:=
  ∀ (W0:World) (A0:Nat→Prop) (ds:List Deferred) (outs:List (Array Value)) (a:Act) (w:World),F5 W0 A0 ds n outs outer fr H a w→wpListIn (fence md) 5 P all.toArray (fun e a' w'=>∃ fr' H',Q e fr' H'∧F5 W0 A0 ds n outs outer fr' H' a' w') l a w
theorem ALP.part {n:Nat} {outer:List Fr} {all l1 l2:List Oper} {Q:Exit→Fr→List Ak→Prop} {fr:Fr} {H:List Ak} (hd:Mb n l1=true)
    (h:∀ K:Fr→List Ak→Prop,(∀ fr H,ALP md P n outer all l2 Q fr H→K fr H)→alist P outer all l1 K fr H):ALP md P n outer all (l1++l2) Q fr H:=by
  intro W0 A0 ds outs a w R
  exact Xk (K:=ALP md P n outer all l2 Q) (fun fr' H' a' w' hk hR=>hk W0 A0 ds outs a' w' hR) l1 fr H a w hd R (h _ fun _ _ h=>h)
theorem ALP.last {n:Nat} {outer:List Fr} {all l:List Oper} {Q:Exit→Fr→List Ak→Prop} {fr:Fr} {H:List Ak} (hd:Mb n l=true)
    (h:∀ K:Fr→List Ak→Prop,(∀ fr H,Q .normal fr H→K fr H)→alist P outer all l K fr H):ALP md P n outer all l Q fr H:=by
  intro W0 A0 ds outs a w R
  exact jX (K:=Q .normal) (fun fr' H' a' w' hk hR=>⟨fr',H',hk,hR⟩) l fr H a w hd R (h _ fun _ _ h=>h)
def AWP (md:Option Nat) (P:Program) (n:Nat) (c:Code) (Q:Exit→Fr→List Ak→Prop) (outer:List Fr) (fr:Fr) (H:List Ak):Prop:=
  ∀ (W0:World) (A0:Nat→Prop) (ds:List Deferred) (outs:List (Array Value)) (a:Act) (w:World),F5 W0 A0 ds n outs outer fr H a w→
    c.wpIn (fence md) 5 P (fun e a' w'=>∃ fr' H',Q e fr' H'∧F5 W0 A0 ds n outs outer fr' H' a' w') a w
def qthen (K:Fr→List Ak→Prop) (Q:Exit→Fr→List Ak→Prop):Exit→Fr→List Ak→Prop
  | .normal,fr,H=>K fr H
  | e,fr,H=>Q e fr H
def qblock (id:Nat) (Q:Exit→Fr→List Ak→Prop):Exit→Fr→List Ak→Prop
  | .exit i,fr,H=>if i=id then Q .normal fr H else Q (.exit i) fr H
  | e,fr,H=>Q e fr H
theorem AWP.region {n id:Nat} {ops:List Oper} {Q:Exit→Fr→List Ak→Prop} {outer:List Fr} {fr:Fr} {H:List Ak} (hd:Mb n ops=true)
    (h:∀ K:Fr→List Ak→Prop,(∀ fr H,Q .normal fr H→K fr H)→alist P outer ops ops K fr H):AWP md P n (.region id ops.toArray false) Q outer fr H:=by
  intro W0 A0 ds outs a w R
  exact wpIn_region_lit (jX (K:=Q .normal) (fun fr' H' a' w' hk hR=>⟨fr',H',hk,hR⟩) ops fr H a w hd R (h _ fun _ _ h=>h))
theorem AWP.kY {n id:Nat} {ops:List Oper} {Q:Exit→Fr→List Ak→Prop} {outer:List Fr} {fr:Fr} {H:List Ak} (h:ALP md P n outer ops ops Q fr H):AWP md P n (.region id ops.toArray false) Q outer fr H:=
  fun W0 A0 ds outs a w R=>wpIn_region_lit (h W0 A0 ds outs a w R)
theorem ALP.cut {n:Nat} {outer:List Fr} {all l:List Oper} {Q:Exit→Fr→List Ak→Prop} {fr:Fr} {H:List Ak} (k:Nat) (h:ALP md P n outer all (l.take k++l.drop k) Q fr H):ALP md P n outer all l Q fr H:=by
  rwa [List.take_append_drop]at h
theorem AWP.seq {n:Nat} {c d:Code} {Q:Exit→Fr→List Ak→Prop} {outer:List Fr} {fr:Fr} {H:List Ak}
    (h:AWP md P n c (qthen (AWP md P n d Q outer) Q) outer fr H):AWP md P n (.seq c d) Q outer fr H:=by
  intro W0 A0 ds outs a w R
  refine wpIn_seq (wpIn_mono (h W0 A0 ds outs a w R) ?_)
  intro e a' w' ⟨fr',H',hq,hR⟩
  cases e<;>first | exact hq W0 A0 ds outs a' w' hR | exact⟨fr',H',hq,hR⟩
theorem AWP.block {n id:Nat} {c:Code} {Q:Exit→Fr→List Ak→Prop} {outer:List Fr} {fr:Fr} {H:List Ak}
    (h:AWP md P n c (qblock id Q) outer fr H):AWP md P n (.block id c) Q outer fr H:=by
  intro W0 A0 ds outs a w R
  refine wpIn_block (wpIn_mono (h W0 A0 ds outs a w R) ?_)
  intro e a' w' ⟨fr',H',hq,hR⟩
  cases e with
  | exit i=>
    simp only[qblock]at hq
    simp only[Exit.inBlock]
    split at hq
    ·rename_i hi;rw[if_pos hi];exact⟨fr',H',hq,hR⟩
    ·rename_i hi;rw[if_neg hi];exact⟨fr',H',hq,hR⟩
  | _=>exact ⟨fr',H',hq,hR⟩
theorem AWP.skip {n:Nat} {Q:Exit→Fr→List Ak→Prop} {outer:List Fr} {fr:Fr} {H:List Ak} (h:Q .normal fr H):AWP md P n .skip Q outer fr H:=
  fun _ _ _ _ _ _ R=>wpIn_skip ⟨fr,H,h,R⟩
theorem AWP.ret {n:Nat} {Q:Exit→Fr→List Ak→Prop} {outer:List Fr} {fr:Fr} {H:List Ak} (h:Q .ret fr H):AWP md P n .ret Q outer fr H:=
  fun _ _ _ _ _ _ R=>wpIn_ret ⟨fr,H,h,R⟩
theorem AWP.exit {n id:Nat} {Q:Exit→Fr→List Ak→Prop} {outer:List Fr} {fr:Fr} {H:List Ak} (h:Q (.exit id) fr H):AWP md P n (.exit id) Q outer fr H:=
  fun _ _ _ _ _ _ R=>wpIn_exit ⟨fr,H,h,R⟩
def acond (v:Ac) (yes no:Prop):Prop:=
  match v with
  | .bool t=>(t=true→yes)∧(t=false→no)
  | _=>False
theorem AWP.cond {n:Nat} {x:Operand} {c d:Code} {Q:Exit→Fr→List Ak→Prop} {outer:List Fr} {fr:Fr} {H:List Ak}
    (h:acond (ev fr x) (AWP md P n c Q outer fr H) (AWP md P n d Q outer fr H)):AWP md P n (.cond x c d) Q outer fr H:=by
  intro W0 A0 ds outs a w R
  obtain⟨C,rfl,_,I,hF,_⟩:=R.ex
  have hv:=Sg hF x
  unfold acond at h
  split at h
  ·rename_i t ht
   rw[ht]at hv
   have mo:a.eval x= .bool t:=by cases lg:a.eval x<;>rw[lg]at hv<;>cases hv;rfl
   cases t with
   | true=>exact wpIn_cond_true mo (h.1 rfl W0 A0 ds outs a w R)
   | false=>exact wpIn_cond_false mo (h.2 rfl W0 A0 ds outs a w R)
  ·exact h.elim
def Sub (outer:List Fr) (fr:Fr) (H:List Ak) (fr':Fr) (H':List Ak):Prop:=
  ∀ (W0:World) (A0:Nat→Prop) (ds:List Deferred) (n:Nat) (outs:List (Array Value)) (a:Act) (w:World),F5 W0 A0 ds n outs outer fr H a w→F5 W0 A0 ds n outs outer fr' H' a w
theorem Sub.refl {outer:List Fr} {fr:Fr} {H:List Ak}:Sub outer fr H fr H:=fun _ _ _ _ _ _ _ R=>R
theorem Sub.trans {outer:List Fr} {fr fr' fr'':Fr} {H H' H'':List Ak} (h:Sub outer fr H fr' H') (k:Sub outer fr' H' fr'' H''):Sub outer fr H fr'' H'':=
  fun _ _ _ _ _ _ _ R=>k _ _ _ _ _ _ _ (h _ _ _ _ _ _ _ R)
theorem AWP.sub {n:Nat} {c:Code} {Q:Exit→Fr→List Ak→Prop} {outer:List Fr} {fr fr':Fr} {H H':List Ak} (s:Sub outer fr H fr' H') (h:AWP md P n c Q outer fr' H'):AWP md P n c Q outer fr H:=
  fun W0 A0 ds outs a w R=>h W0 A0 ds outs a w (s _ _ _ _ _ _ _ R)
theorem ALP.sub {n:Nat} {outer:List Fr} {all l:List Oper} {Q:Exit→Fr→List Ak→Prop} {fr fr':Fr} {H H':List Ak} (s:Sub outer fr H fr' H') (h:ALP md P n outer all l Q fr' H'):ALP md P n outer all l Q fr H:=
  fun W0 A0 ds outs a w R=>h W0 A0 ds outs a w (s _ _ _ _ _ _ _ R)
theorem AWP.mono {n:Nat} {c:Code} {Q Q':Exit→Fr→List Ak→Prop} {outer:List Fr} {fr:Fr} {H:List Ak} (hq:∀ e fr H,Q e fr H→Q' e fr H) (h:AWP md P n c Q outer fr H):AWP md P n c Q' outer fr H:=
  fun W0 A0 ds outs a w R=>wpIn_mono (h W0 A0 ds outs a w R) fun _ _ _ ⟨fr',H',q,r⟩=>⟨fr',H',hq _ _ _ q,r⟩
theorem AWP.loop {ι:Type} {n:Nat} {c:Code} {Q:Exit→Fr→List Ak→Prop} {outer:List Fr} {fr:Fr} {H:List Ak} (F:ι→Fr) (HH:ι→List Ak) (J:ι→Prop) (μ:ι→Nat) (x0:ι)
    (h0:J x0) (s0:Sub outer fr H (F x0) (HH x0))
    (round:∀ x,J x→AWP md P n c (qthen (fun fr' H'=>∃ x',J x'∧μ x'< μ x∧Sub outer fr' H' (F x') (HH x')) Q) outer (F x) (HH x)):AWP md P n (.loop c) Q outer fr H:=by
  intro W0 A0 ds outs a w R
  refine wpIn_loop_ghost (fun k a w=>∃ x,J x∧μ x=k∧F5 W0 A0 ds n outs outer (F x) (HH x) a w) (μ x0) ⟨x0,h0,rfl,s0 _ _ _ _ _ _ _ R⟩ ?_
  intro k a w ⟨x,hJ,hk,R⟩
  refine wpIn_mono (round x hJ W0 A0 ds outs a w R) ?_
  intro e a' w' ⟨fr',H',hq,hR⟩
  cases e with
  | normal=>
    obtain⟨x',h1,h2,h3⟩:=hq
    exact⟨μ x',by omega,x',h1,rfl,h3 _ _ _ _ _ _ _ hR⟩
  | _=>exact ⟨fr',H',hq,hR⟩
end
def Ctx.imm (A:Nat→Prop):Ctx:=⟨A,A,fun _=>none,[]⟩
def R4 (C:Ctx) (w:World) (vs:List Value) (args:List Ac):Prop:=
  vs.length=args.length∧∀ (i:Nat) (v:Value) (a:Ac),vs[i]? =some v→args[i]? =some a→A9 C w v a
def Ad (P:Program) (f:FuncId) (args:List Ac) (R:Ac→Prop):Prop:=
  ∀ (A:Nat→Prop) (w:World) (vs:List Value),(∀ b,A b→b<w.heap.size)→R4 (Ctx.imm A) w vs args→
    Calls P f vs.toArray w fun e w'=>∃ v r,e= .returned v∧R r∧r.g2=true∧Below w.heap.size w w'∧
      A9 (Ctx.imm fun b=>A b∨(w.heap.size≤b∧b<w'.heap.size)) w' v r
def A8 (P:Program) (f:FuncId) (args:List Ac) (R:Ac→Prop):Prop:=
  ∀ (A:Nat→Prop) (w:World) (vs:List Value),(∀ b,A b→b<w.heap.size)→R4 (Ctx.imm A) w vs args→
    Calls P f vs.toArray w fun e w'=>∃ v r,e= .returned v∧R r∧r.g2=true∧Below w.heap.size w w'∧
      A9 (Ctx.imm fun b=>w.heap.size≤b∧b<w'.heap.size) w' v r
def Ack (H:List Ak) (v:Ac):Bool:=
  match v with
  | .own r _ _ _=>match H[r]? with
    | some (.row _ _ xs)=>xs.all fun x=>x.all Ac.f0
    | _=>false
  | v=>v.f0
def Aac (H:List Ak) (v:Ac):Bool:=
  match v with
  | .agg cs=>cs.all (Ack H)
  | v=>Ack H v
def Acj (H:List Ak) (v:Ac):Bool:=
  match v with
  | .tuple vs=>vs.all (Aac H)
  | v=>Aac H v
def Gz {α β:Type} (f:α→Option β):List α→Option (List β)
  | []=>some []
  | x::r=>match f x,Gz f r with
    | some y,some ys=>some (y::ys)
    | _,_=>none
def Zg (H:List Ak) (v:Ac):Option Ac:=
  match v with
  | .own r v lo len=>match H[r]? with
    | some (.row v' sz xs)=>if v=v' then some (.sl sz ((xs.drop lo).take len))else none
    | _=>none
  | .map r=>match H[r]? with
    | some (.mp es)=>some (.vmap es)
    | _=>none
  | .any | .agg _ | .tuple _ | .ptr _ _ | .rptr _ _ _ _ | .func _ _ | .iter _ | .yld _=>none
  | v=>some v
def Pz (H:List Ak) (v:Ac):Option Ac:=
  match v with
  | .agg cs=>match Gz (Zg H) cs with
    | some ds=>some (.agg ds)
    | none=>none
  | v=>Zg H v
def oF (H:List Ak) (v:Ac):Option Ac:=
  match v with
  | .tuple vs=>match Gz (Pz H) vs with
    | some ds=>some (.tuple ds)
    | none=>none
  | v=>Pz H v
theorem Ly {α β:Type} {f:α→Option β}:∀ {l:List α} {m:List β},Gz f l=some m→l.length=m.length∧∀ (i:Nat) (x:α) (y:β),l[i]? =some x→m[i]? =some y→f x=some y
  | [],m,h=>by simp only[Gz,Aot]at h;subst h;simp
  | x::r,m,h=>by
    simp only[Gz]at h
    split at h
    ·rename_i y ys h1 h2
     simp only[Aot]at h
     subst h
     have ih:=Ly h2
     refine⟨by simp[ih.1],fun i x' y' a b=>?_⟩
     match i,a,b with
     | 0,a,b=>simp at a b;subst a b;exact h1
     | i+1,a,b=>exact ih.2 i x' y' (by simpa using a) (by simpa using b)
    ·cases h
section
variable {P:Program}
theorem A9.ground' {C C2:Ctx} {w:World} (hA:∀ b,C.A b→C2.A b) {v:Value} {a:Ac} (h:A9 C w v a) (hg:a.g2=true):A9 C2 w v a:=
  A9.ground (fun b hb=>⟨hA b hb,rfl⟩) h hg
theorem uB {W0:World} {C:Ctx} {w:World} (I:Inv W0 C w) {v:Value} {a a':Ac} (h:A9 C w v a) (hf:Zg C.H a=some a') :
    a'.g0=true∧A9 (Ctx.imm fun b=>C.A b∨(W0.heap.size≤b∧b<w.heap.size)) w v a':=by
  unfold Zg at hf
  split at hf
  ·rename_i r v' lo len
   split at hf
   ·rename_i v2 sz xs hr
    split at hf
    ·rename_i hv
     subst hv
     simp only[Aot]at hf
     subst hf
     refine⟨rfl,?_⟩
     cases h with
     | own ad _ cap _ _ _ ah dm cq hh=>
       obtain⟨_,hh⟩:=hh _ _ _ hr
       obtain⟨hle,hh⟩:=hh rfl
       have hlen:((xs.drop lo).take len).length=len:=by simp;omega
       obtain⟨cg,cn,hg,ho⟩:=I.objs r _ hr
       by_cases h0:len=0
       ·subst h0
        simp only[List.take_zero]
        exact .sl0 _ _ _ cq
       ·rcases hh with hh | ⟨l,hl,rfl,di⟩
        ·omega
        rcases ho with⟨e1,_⟩ | ⟨l',arr,T',e1,e2,e3,e4,e5⟩
        ·subst e1;simp at hle;omega
        rw[hl,Aot]at e1
        subst e1
        have hs:=I.sep r l hl
        have hmul:(lo+len)*sz≤xs.length*sz:=Nat.mul_le_mul_right _ hle
        have kh:(lo+len)*sz=lo*sz+len*sz:=Nat.add_mul _ _ _
        refine .sl _ _ _ _ _ (fun j=>arr.getD (l.base+lo*sz+j) undef) rfl hlen.symm dm cq (.inr ⟨hs.2.1,hs.2.2.1⟩) cg
          (fun x hx=>cn x (List.mem_of_mem_drop (List.mem_of_mem_take hx))) (fun x hx=>hg x (List.mem_of_mem_drop (List.mem_of_mem_take hx))) (fun j hj=>?_) fun i k x c hx hc=>?_
        ·rw[hlen]at hj
         simp only[World.cell?,e2]
         have:l.base+lo*sz+j<arr.size:=by omega
         simp[Array.getD,this]
        ·rw[List.getElem?_take]at hx
         split at hx
         ·rename_i hi
          rw[List.getElem?_drop]at hx
          obtain⟨u,hu,ea⟩:=e5 _ k x c hx hc
          have hgc:=hg x (Aor hx) c (Aor hc)
          have e:l.base+((lo+i)*sz+k)=l.base+lo*sz+(i*sz+k):=by rw[Nat.add_mul];omega
          rw[e]at hu
          have:arr.getD (l.base+lo*sz+(i*sz+k)) undef=u:=by rw[Array.getD_eq_getD_getElem?,hu];rfl
          rw[this]
          exact A9.ground' (fun b hb=>Or.inl hb) ea (Ac.H5 hgc)
         ·cases hx
    ·cases hf
   ·cases hf
  ·rename_i r
   split at hf
   ·rename_i es hr
    simp only[Aot]at hf
    subst hf
    refine⟨rfl,?_⟩
    cases h with
    | map b _ ah hh=>
      obtain⟨l,hl,rfl⟩:=hh _ hr rfl
      obtain⟨l',en,cl,h1,h2,h3,h4,h5⟩:=I.objs r _ hr
      rw[hl,Aot]at h1
      subst h1
      have hs:=I.sep r l hl
      exact .vmap _ _ en cl (.inr ⟨hs.2.1,hs.2.2.1⟩) h4 h2 h3 fun i e p a b=>A9.ground' (fun b hb=>Or.inl hb) (h5 i e p a b) (Ac.Jp (h4 p (Aor b)))
   ·cases hf
  ·cases hf
  ·cases hf
  ·cases hf
  ·cases hf
  ·cases hf
  ·cases hf
  ·cases hf
  ·cases hf
  ·rename_i n1 n2 n3 n4 n5 n6 n7 n8 n9 n10
   have hg:a.g0=true:=by
     cases a
     case own=>exact absurd rfl (n1 _ _ _ _)
     case map=>exact absurd rfl (n2 _)
     case any=>exact absurd rfl n3
     case agg=>exact absurd rfl (n4 _)
     case tuple=>exact absurd rfl (n5 _)
     case ptr=>exact absurd rfl (n6 _ _)
     case rptr=>exact absurd rfl (n7 _ _ _ _)
     case func=>exact absurd rfl (n8 _ _)
     case iter=>exact absurd rfl (n9 _)
     case yld=>exact absurd rfl (n10 _)
     all_goals rfl
   simp only[Aot]at hf
   subst hf
   exact⟨hg,A9.ground' (fun b hb=>Or.inl hb) h (Ac.H5 hg)⟩
theorem jW {H:List Ak} {f:List Ak→Ac→Option Ac} {g:Ac→Bool} {l m:List Ac} (h:Gz (f H) l=some m) (hg:∀ (i:Nat) x y,l[i]? =some x→m[i]? =some y→g y=true):m.all g=true:=by
  rw[List.all_eq_true]
  intro y hy
  obtain⟨i,hi⟩:=List.getElem?_of_mem hy
  have ah:i<l.length:=by rw[(Ly h).1];exact C9 hi
  exact hg i _ y (Aoq ah) hi
theorem Zf {W0:World} {C:Ctx} {w:World} (I:Inv W0 C w) {v:Value} {a a':Ac} (h:A9 C w v a) (hf:Pz C.H a=some a') :
    a'.g1=true∧A9 (Ctx.imm fun b=>C.A b∨(W0.heap.size≤b∧b<w.heap.size)) w v a':=by
  unfold Pz at hf
  split at hf
  ·rename_i cs
   split at hf
   ·rename_i ds ug
    simp only[Aot]at hf
    subst hf
    have hm:=Ly ug
    cases h with
    | agg arr _ hl hc=>
      have get:∀ (i:Nat) (u:Value) (d:Ac),arr[i]? =some u→ds[i]? =some d→d.g0=true∧A9 (Ctx.imm fun b=>C.A b∨(W0.heap.size≤b∧b<w.heap.size)) w u d:=by
        intro i u d h1 h2
        have ah:i<cs.length:=by rw[hm.1];exact C9 h2
        have h3:cs[i]? =some cs[i]:=Aoq ah
        exact uB I (hc i u _ h1 h3) (hm.2 i _ d h3 h2)
      refine⟨?_,.agg arr ds (by rw[hl,hm.1]) fun i u d h1 h2=>(get i u d h1 h2).2⟩
      refine jW (f:=Zg) ug fun i x y h1 h2=>?_
      have ah:i<arr.size:=by rw[hl];exact C9 h1
      exact(get i _ y (Array.getElem?_eq_getElem ah) h2).1
   ·cases hf
  ·have:=uB I h hf
   exact⟨Ac.Ach this.1,this.2⟩
theorem Ze {W0:World} {C:Ctx} {w:World} (I:Inv W0 C w) {v:Value} {a a':Ac} (h:A9 C w v a) (hf:oF C.H a=some a') :
    a'.g2=true∧A9 (Ctx.imm fun b=>C.A b∨(W0.heap.size≤b∧b<w.heap.size)) w v a':=by
  unfold oF at hf
  split at hf
  ·rename_i cs
   split at hf
   ·rename_i ds ug
    simp only[Aot]at hf
    subst hf
    have hm:=Ly ug
    cases h with
    | tuple arr _ hl hc=>
      have get:∀ (i:Nat) (u:Value) (d:Ac),arr[i]? =some u→ds[i]? =some d→d.g1=true∧A9 (Ctx.imm fun b=>C.A b∨(W0.heap.size≤b∧b<w.heap.size)) w u d:=by
        intro i u d h1 h2
        have ah:i<cs.length:=by rw[hm.1];exact C9 h2
        have h3:cs[i]? =some cs[i]:=Aoq ah
        exact Zf I (hc i u _ h1 h3) (hm.2 i _ d h3 h2)
      refine⟨?_,.tuple arr ds (by rw[hl,hm.1]) fun i u d h1 h2=>(get i u d h1 h2).2⟩
      refine jW (f:=Pz) ug fun i x y h1 h2=>?_
      have ah:i<arr.size:=by rw[hl];exact C9 h1
      exact(get i _ y (Array.getElem?_eq_getElem ah) h2).1
   ·cases hf
  ·have:=Zf I h hf
   exact⟨Ac.Jp this.1,this.2⟩
theorem uE {W0:World} {C:Ctx} {w:World} (I:Inv W0 C w) {v:Value} {a a':Ac} (h:A9 C w v a) (hf:Zg C.H a=some a') (hr:Ack C.H a=true) :
    A9 (Ctx.imm fun b=>W0.heap.size≤b∧b<w.heap.size) w v a':=by
  unfold Ack at hr
  split at hr
  ·rename_i r v' lo len
   simp only[Zg]at hf
   cases kz:C.H[r]? with
   | none=>rw[kz]at hr;cases hr
   | some o=>
     rw[kz]at hr hf
     cases o with
     | row v2 sz xs=>
       simp only at hr hf
       split at hf
       ·rename_i hv
        subst hv
        simp only[Aot]at hf
        subst hf
        cases h with
        | own ad _ cap _ _ _ ah dm cq hh=>
          obtain⟨_,hh⟩:=hh _ _ _ kz
          obtain⟨hle,hh⟩:=hh rfl
          have hlen:((xs.drop lo).take len).length=len:=by simp;omega
          obtain⟨cg,cn,hg,ho⟩:=I.objs r _ kz
          by_cases h0:len=0
          ·subst h0
           simp only[List.take_zero]
           exact .sl0 _ _ _ cq
          ·rcases hh with hh | ⟨l,hl,rfl,di⟩
           ·omega
           rcases ho with⟨e1,_⟩ | ⟨l',arr,T',e1,e2,e3,e4,e5⟩
           ·subst e1;simp at hle;omega
           rw[hl,Aot]at e1
           subst e1
           have hs:=I.sep r l hl
           have hmul:(lo+len)*sz≤xs.length*sz:=Nat.mul_le_mul_right _ hle
           have kh:(lo+len)*sz=lo*sz+len*sz:=Nat.add_mul _ _ _
           refine .sl _ _ _ _ _ (fun j=>arr.getD (l.base+lo*sz+j) undef) rfl hlen.symm dm cq ⟨hs.2.1,hs.2.2.1⟩ cg
             (fun x hx=>cn x (List.mem_of_mem_drop (List.mem_of_mem_take hx))) (fun x hx=>hg x (List.mem_of_mem_drop (List.mem_of_mem_take hx))) (fun j hj=>?_) fun i k x c hx hc=>?_
           ·rw[hlen]at hj
            simp only[World.cell?,e2]
            have:l.base+lo*sz+j<arr.size:=by omega
            simp[Array.getD,this]
           ·rw[List.getElem?_take]at hx
            split at hx
            ·rename_i hi
             rw[List.getElem?_drop]at hx
             obtain⟨u,hu,ea⟩:=e5 _ k x c hx hc
             have ya:c.f2=true:=by
               have h1:=List.all_eq_true.1 hr x (Aor hx)
               have h2:=List.all_eq_true.1 h1 c (Aor hc)
               cases c<;>simp_all [Ac.f0,Ac.f1,Ac.f2]
             have e:l.base+((lo+i)*sz+k)=l.base+lo*sz+(i*sz+k):=by rw[Nat.add_mul];omega
             rw[e]at hu
             have:arr.getD (l.base+lo*sz+(i*sz+k)) undef=u:=by rw[Array.getD_eq_getD_getElem?,hu];rfl
             rw[this]
             exact ea.flat ya
            ·cases hx
       ·cases hf
     | _=>cases hr
  ·have:a'=a:=by cases a<;>simp_all [Zg,Ac.f0]
   subst this
   exact h.flat (by cases a'<;>simp_all [Ac.f0,Ac.f1,Ac.f2])
theorem uD {W0:World} {C:Ctx} {w:World} (I:Inv W0 C w) {v:Value} {a a':Ac} (h:A9 C w v a) (hf:Pz C.H a=some a') (hr:Aac C.H a=true) :
    A9 (Ctx.imm fun b=>W0.heap.size≤b∧b<w.heap.size) w v a':=by
  unfold Pz at hf
  split at hf
  ·rename_i cs
   split at hf
   ·rename_i ds ug
    simp only[Aot]at hf
    subst hf
    have hm:=Ly ug
    simp only[Aac]at hr
    cases h with
    | agg arr _ hl hc=>
      refine .agg arr ds (by rw[hl,hm.1]) fun i u d h1 h2=>?_
      have ah:i<cs.length:=by rw[hm.1];exact C9 h2
      have h3:cs[i]? =some cs[i]:=Aoq ah
      exact uE I (hc i u _ h1 h3) (hm.2 i _ d h3 h2) (List.all_eq_true.1 hr _ (Aor h3))
   ·cases hf
  ·rename_i bj
   refine uE I h hf ?_
   unfold Aac at hr
   split at hr
   ·rename_i cs;exact absurd rfl (bj cs)
   ·exact hr
theorem uC {W0:World} {C:Ctx} {w:World} (I:Inv W0 C w) {v:Value} {a a':Ac} (h:A9 C w v a) (hf:oF C.H a=some a') (hr:Acj C.H a=true) :
    A9 (Ctx.imm fun b=>W0.heap.size≤b∧b<w.heap.size) w v a':=by
  unfold oF at hf
  split at hf
  ·rename_i cs
   split at hf
   ·rename_i ds ug
    simp only[Aot]at hf
    subst hf
    have hm:=Ly ug
    simp only[Acj]at hr
    cases h with
    | tuple arr _ hl hc=>
      refine .tuple arr ds (by rw[hl,hm.1]) fun i u d h1 h2=>?_
      have ah:i<cs.length:=by rw[hm.1];exact C9 h2
      have h3:cs[i]? =some cs[i]:=Aoq ah
      exact uD I (hc i u _ h1 h3) (hm.2 i _ d h3 h2) (List.all_eq_true.1 hr _ (Aor h3))
   ·cases hf
  ·rename_i bj
   refine uD I h hf ?_
   unfold Acj at hr
   split at hr
   ·rename_i cs;exact absurd rfl (bj cs)
   ·exact hr
def aresult (P:Program) (fr:Fr) (H:List Ak):ResultVar→Option Ac
  | .tmp t=>some (get fr t)
  | .cell a T=>match get fr a with
    | .ptr r k=>match H[r]? with
      | some (.box cs)=>if okT P T=true∧k+(if Mp P T then Bp P T else 1)≤cs.length then some (I7 (Mp P T) (Bp P T) (cs.drop k))else none
      | _=>none
    | _=>none
def aret:List Ac→Ac
  | [v]=>v
  | vs=>.tuple vs
def qret (P:Program) (fn:Func) (R:Ac→List Ak→Prop):Exit→Fr→List Ak→Prop
  | .normal,fr,H | .ret,fr,H=>match Gz (aresult P fr H) fn.results.toList with
    | some vs=>R (aret vs) H
    | none=>False
  | _,_,_=>False
def rfrz (R:Ac→Prop) (r:Ac) (H:List Ak):Prop:=
  match oF H r with
  | some r'=>R r'
  | none=>False
def Ub:List Ac→Nat→Fr
  | [],_=>[]
  | a::r,i=>(i,a)::Ub r (i+1)
theorem mU:∀ (args:List Ac) (i t:Nat),get (Ub args i) t=if i≤t then args.getD (t - i) .any else .any
  | [],i,t=>by simp[Ub,get]
  | a::r,i,t=>by
    simp only[Ub,get]
    by_cases h:i=t
    ·subst h;simp
    ·rw[if_neg h,mU r (i+1) t]
     by_cases h2:i≤t
     ·rw[if_pos h2,if_pos (by omega),show t - i=(t - (i+1))+1 by omega];simp
     ·rw[if_neg h2,if_neg (by omega)]
theorem Wv {C:Ctx} {w:World} {vs:List Value} {args:List Ac} (h:R4 C w vs args) (k:Nat):Uj C w (vs.toArray++Array.replicate k undef) (Ub args 0):=by
  intro t
  rw[mU]
  simp only[Nat.zero_le,if_true,Nat.sub_zero]
  by_cases ht:t<args.length
  ·have hv:t<vs.length:=by rw[h.1];exact ht
   have e1:(vs.toArray++Array.replicate k undef).getD t undef=vs[t]:=by
     rw[Array.getD_eq_getD_getElem?,Array.getElem?_append_left (by simpa using hv)]
     simp[hv]
   have e2:args.getD t .any=args[t]:=by simp[List.getD_eq_getElem?_getD,ht]
   rw[e1,e2]
   exact h.2 t _ _ (Aoq hv) (Aoq ht)
  ·have e2:args.getD t .any= .any:=by simp[List.getD_eq_getElem?_getD,Nat.le_of_not_lt ht]
   rw[e2];exact .any _
def qP (tmps:Array Value):ResultVar→Sem Value
  | .tmp t=>pure (tmps.getD t undef)
  | .cell a t=>do loadVar t (← asAddr (tmps.getD a undef))
theorem wA (fn:Func) (tmps:Array Value):results fn tmps=(do let vs ← fn.results.mapM (qP tmps);pure (if h:vs.size=1 then vs[0]else .tuple vs)):=rfl
theorem wB {W0:World} {C:Ctx} {w:World} (I:Inv W0 C w) {fr:Fr} {tmps:Array Value} (hF:Uj C w tmps fr) (rv:ResultVar) (a:Ac) (ha:aresult P fr C.H rv=some a) :
    ∃ v,(qP tmps rv).run P w= .ok v w∧A9 C w v a:=by
  cases rv with
  | tmp t=>
    simp only[aresult,Aot]at ha
    subst ha
    exact⟨_,rfl,hF t⟩
  | cell p T=>
    simp only[aresult]at ha
    have hp:=hF p
    split at ha
    ·rename_i r k hpk
     split at ha
     ·rename_i cs jh
      by_cases hc:okT P T=true∧k+(if Mp P T then Bp P T else 1)≤cs.length
      ·rw[if_pos hc,Aot]at ha
       subst ha
       rw[hpk]at hp
       have hl:Z3 P T (.ptr r k) C.H (fun v=>v=I7 (Mp P T) (Bp P T) (cs.drop k)):=by
         unfold Z3
         simp only[jh]
         exact⟨hc.1,hc.2,trivial⟩
       obtain⟨v,a',h1,h2,h3⟩:=(mK (P:=P) I hp hl).ex
       subst h3
       refine⟨v,?_,h2⟩
       cases hv:tmps.getD p undef with
       | pointer o=>
         cases o with
         | none=>rw[hv]at hp;cases hp
         | some ad=>
           rw[hv]at h1
           simpa[Instr.loadAt,Instr.sureAddr,qP,hv,asAddr]using h1
       | _=>rw[hv]at hp;cases hp
      ·rw[if_neg hc]at ha;cases ha
     ·cases ha
    ·cases ha
theorem jG {W0:World} {C:Ctx} {w:World} (I:Inv W0 C w) {fr:Fr} {tmps:Array Value} (hF:Uj C w tmps fr):∀ (l:List ResultVar) (vs:List Ac),Gz (aresult P fr C.H) l=some vs→
    ∃ us:List Value,(l.mapM (qP tmps)).run P w= .ok us w∧R4 C w us vs
  | [],vs,h=>by simp only[Gz,Aot]at h;subst h;exact⟨[],by simp,rfl,by simp⟩
  | rv::l,vs,h=>by
    simp only[Gz]at h
    split at h
    ·rename_i y ys h1 h2
     simp only[Aot]at h
     subst h
     obtain⟨v,e1,e2⟩:=wB (P:=P) I hF rv y h1
     obtain⟨us,e3,e4⟩:=jG I hF l ys h2
     refine⟨v::us,?_,by simp[e4.1],fun i u a ha hb=>?_⟩
     ·rw[List.mapM_cons]
      simp only[Sem.run_bind,e1,Result.andThen_ok,e3,Sem.run_pure]
     ·match i,ha,hb with
      | 0,ha,hb=>simp at ha hb;subst ha hb;exact e2
      | i+1,ha,hb=>exact e4.2 i u a (by simpa using ha) (by simpa using hb)
    ·cases h
theorem Rf {W0:World} {C:Ctx} {w:World} (I:Inv W0 C w) {fn:Func} {fr:Fr} {tmps:Array Value} (hF:Uj C w tmps fr) {vs:List Ac} (h:Gz (aresult P fr C.H) fn.results.toList=some vs) :
    ∃ v,(results fn tmps).run P w= .ok v w∧A9 C w v (aret vs):=by
  obtain⟨us,h1,h2⟩:=jG (P:=P) I hF _ _ h
  have bq:(results fn tmps).run P w= .ok (if h:us.toArray.size=1 then us.toArray[0]else .tuple us.toArray) w:=by
    rw[wA,Array.mapM_eq_mapM_toList]
    simp only[Sem.run_bind,Sem.run_map,h1,Result.andThen_ok,Sem.run_pure]
  refine⟨_,bq,?_⟩
  match us,vs,h2 with
  | [],[],h2=>exact .tuple #[] [] rfl (by simp)
  | [u],[v],h2=>exact h2.2 0 u v rfl rfl
  | u::u2::us,v::v2::vs,h2=>
    have:¬ ((u::u2::us).toArray.size=1):=by simp
    rw[dif_neg this]
    exact .tuple _ _ (by simpa using h2.1) fun i x c a b=>h2.2 i x c (by simpa using a) b
  | [],_::_,h2=>simp[R4]at h2
  | _::_,[],h2=>simp[R4]at h2
  | [_],_::_::_,h2=>simp[R4]at h2
  | _::_::_,[_],h2=>simp[R4]at h2
theorem Ad.intro {f:FuncId} {fn:Func} {c:Code} {n:Nat} {args:List Ac} {R:Ac→Prop} (hf:P.funcs[f]? =some fn) (hb:fn.body=some c) (hn:fn.ntmps=n) (hlen:args.length≤n)
    (h:AWP none P n c (qret P fn (rfrz R)) [] (Ub args 0) []):Ad P f args R:=by
  intro A w vs hA fc
  refine calls_of_wp hf hb ?_
  have fm:(vs.toArray++Array.replicate (fn.ntmps - vs.toArray.size) undef).size=n:=by
    have:=fc.1
    simp only[Array.size_append,List.size_toArray,Array.size_replicate];omega
  have I0:Inv w (Ctx.imm A) w:=⟨.refl _ _,hA,fun b hb _=>hb,by simp[Ctx.imm],by simp[Ctx.imm],by simp[Ctx.imm]⟩
  refine wp_mono (wpIn_wide.1 <| h w A [] [] _ w ⟨Ctx.imm A,rfl,rfl,I0,Wv fc _,.nil,fm,rfl⟩) ?_
  intro e a' w' ⟨fr',H',hq,hR⟩
  obtain⟨C,rfl,gq,I,hF,_,_,hd⟩:=hR.ex
  have key:∀ (h:match Gz (aresult P fr' C.H) fn.results.toList with | some vs=>rfrz R (aret vs) C.H | none=>False),a'.defers=[]∧∃ v,(results fn a'.tmps).run P w'= .ok v w'∧∃ v' r,Ending.returned v= .returned v'∧R r∧r.g2=true∧Below w.heap.size w w'∧
   A9 (Ctx.imm fun b=>A b∨(w.heap.size≤b∧b<w'.heap.size)) w' v' r:=by
    intro h
    split at h
    ·rename_i rs ri
     obtain⟨v,h1,h2⟩:=Rf (P:=P) I hF ri
     unfold rfrz at h
     split at h
     ·rename_i r hr
      have h3:=Ze I h2 hr
      refine⟨hd,v,h1,v,r,rfl,h,h3.1,I.below,A9.ground' (fun b hb=>?_) h3.2 h3.1⟩
      rcases hb with hb | hb
      ·by_cases ah:b<w.heap.size
       ·exact .inl (gq ▸ I.old b hb ah)
       ·exact .inr ⟨by omega,I.sub b hb⟩
      ·exact .inr hb
     ·exact h.elim
    ·exact h.elim
  cases e with
  | normal=>exact key hq
  | ret=>exact key hq
  | _=>exact hq.elim
def rfre (R:Ac→Prop) (r:Ac) (H:List Ak):Prop:=
  match oF H r with
  | some r'=>R r'∧Acj H r=true
  | none=>False
theorem A8.intro {f:FuncId} {fn:Func} {c:Code} {n:Nat} {args:List Ac} {R:Ac→Prop} (hf:P.funcs[f]? =some fn) (hb:fn.body=some c) (hn:fn.ntmps=n) (hlen:args.length≤n)
    (h:AWP none P n c (qret P fn (rfre R)) [] (Ub args 0) []):A8 P f args R:=by
  intro A w vs hA fc
  refine calls_of_wp hf hb ?_
  have fm:(vs.toArray++Array.replicate (fn.ntmps - vs.toArray.size) undef).size=n:=by
    have:=fc.1
    simp only[Array.size_append,List.size_toArray,Array.size_replicate];omega
  have I0:Inv w (Ctx.imm A) w:=⟨.refl _ _,hA,fun b hb _=>hb,by simp[Ctx.imm],by simp[Ctx.imm],by simp[Ctx.imm]⟩
  refine wp_mono (wpIn_wide.1 <| h w A [] [] _ w ⟨Ctx.imm A,rfl,rfl,I0,Wv fc _,.nil,fm,rfl⟩) ?_
  intro e a' w' ⟨fr',H',hq,hR⟩
  obtain⟨C,rfl,gq,I,hF,_,_,hd⟩:=hR.ex
  have key:∀ (h:match Gz (aresult P fr' C.H) fn.results.toList with | some vs=>rfre R (aret vs) C.H | none=>False),a'.defers=[]∧∃ v,(results fn a'.tmps).run P w'= .ok v w'∧∃ v' r,Ending.returned v= .returned v'∧R r∧r.g2=true∧Below w.heap.size w w'∧
   A9 (Ctx.imm fun b=>w.heap.size≤b∧b<w'.heap.size) w' v' r:=by
    intro h
    split at h
    ·rename_i rs ri
     obtain⟨v,h1,h2⟩:=Rf (P:=P) I hF ri
     unfold rfre at h
     split at h
     ·rename_i r hr
      exact⟨hd,v,h1,v,r,rfl,h.1,(Ze I h2 hr).1,I.below,uC I h2 hr h.2⟩
     ·exact h.elim
    ·exact h.elim
  cases e with
  | normal=>exact key hq
  | ret=>exact key hq
  | _=>exact hq.elim
theorem A8.pure {f:FuncId} {args:List Ac} {R:Ac→Prop} (h:A8 P f args R):Ad P f args R:=by
  intro A w vs hA hv
  exact(h A w vs hA hv).mono fun e w' ⟨v,r,h1,h2,h3,h4,h5⟩=>⟨v,r,h1,h2,h3,h4,A9.ground' (C:=Ctx.imm fun b=>w.heap.size≤b∧b<w'.heap.size) (C2:=Ctx.imm fun b=>A b∨(w.heap.size≤b∧b<w'.heap.size)) (fun b hb=>Or.inr hb) h5 h3⟩
theorem Ah.oT {f:FuncId} {args args':List Ac} {st:List Fr} {H:List Ak} {K:Ac→List Ak→Prop} {R:Ac→Prop} (hc:∀ (args:Array Value) (w:World),(callFunc f args).run P w= .ok (.enter f args) w)
    (spec:A8 P f args' R) (ha:Gz (Pz H) args=some args') (h:∀ r,R r→K r H):Ah P (.func f []) args st H K:=by
  intro W0 C w outs fv vs I hH hO hf hl hv
  subst hH
  cases hf with
  | func _ caps _ et _=>
    have:caps=#[]:=Array.eq_empty_of_size_eq_zero (by simpa using et)
    subst this
    refine .inl ⟨f,#[],rfl,hc,?_⟩
    have hm:=Ly ha
    have fc:R4 (Ctx.imm fun b=>C.A b∨(W0.heap.size≤b∧b<w.heap.size)) w vs args':=by
      refine⟨by rw[hl,hm.1],fun i v a h1 h2=>?_⟩
      have ah:i<args.length:=by rw[hm.1];exact C9 h2
      exact(Zf I (hv i v _ h1 (Aoq ah)) (hm.2 i _ a (Aoq ah) h2)).2
    rw[show vs.toArray++#[]=vs.toArray by simp]
    refine(spec _ w vs (fun b hb=>?_) fc).mono fun e w' ⟨v,r,he,hR,hg,hb,hr⟩=>?_
    ·rcases hb with hb | hb
     ·exact I.sub b hb
     ·exact hb.2
    ·have key:=I.grow (fun b=>w.heap.size≤b∧b<w'.heap.size) (fun b hb=>hb) hb
     exact⟨v,r,C.more fun b=>w.heap.size≤b∧b<w'.heap.size,he,h r hR,rfl,A9.ground' (C:=Ctx.imm fun b=>w.heap.size≤b∧b<w'.heap.size) (C2:=C.more fun b=>w.heap.size≤b∧b<w'.heap.size) (fun b hb=>Or.inr hb) hr hg,key.1,hO.mono key.2⟩
theorem Ah.snap {f:FuncId} {args args':List Ac} {st:List Fr} {H:List Ak} {K:Ac→List Ak→Prop} {R:Ac→Prop} (hc:∀ (args:Array Value) (w:World),(callFunc f args).run P w= .ok (.enter f args) w)
    (spec:Ad P f args' R) (ha:Gz (Pz H) args=some args') (ry:∀ r,R r→r.f2=true) (h:∀ r,R r→K r H):Ah P (.func f []) args st H K:=by
  intro W0 C w outs fv vs I hH hO hf hl hv
  subst hH
  cases hf with
  | func _ caps _ et _=>
    have:caps=#[]:=Array.eq_empty_of_size_eq_zero (by simpa using et)
    subst this
    refine .inl ⟨f,#[],rfl,hc,?_⟩
    have hm:=Ly ha
    have fc:R4 (Ctx.imm fun b=>C.A b∨(W0.heap.size≤b∧b<w.heap.size)) w vs args':=by
      refine⟨by rw[hl,hm.1],fun i v a h1 h2=>?_⟩
      have ah:i<args.length:=by rw[hm.1];exact C9 h2
      exact(Zf I (hv i v _ h1 (Aoq ah)) (hm.2 i _ a (Aoq ah) h2)).2
    rw[show vs.toArray++#[]=vs.toArray by simp]
    refine(spec _ w vs (fun b hb=>?_) fc).mono fun e w' ⟨v,r,he,hR,hg,hb,hr⟩=>?_
    ·rcases hb with hb | hb
     ·exact I.sub b hb
     ·exact hb.2
    ·have key:=I.grow (fun b=>w.heap.size≤b∧b<w'.heap.size) (fun b hb=>hb) hb
     exact⟨v,r,C.more fun b=>w.heap.size≤b∧b<w'.heap.size,he,h r hR,rfl,hr.flat (ry r hR),key.1,hO.mono key.2⟩
theorem Ah.pure {f:FuncId} {args:List Ac} {st:List Fr} {H:List Ak} {K:Ac→List Ak→Prop} {R:Ac→Prop} (hc:∀ (args:Array Value) (w:World),(callFunc f args).run P w= .ok (.enter f args) w)
    (spec:Ad P f args R) (hg:args.all Ac.g2=true) (h:∀ r,R r→K r H):Ah P (.func f []) args st H K:=by
  intro W0 C w outs fv vs I hH hO hf hl hv
  subst hH
  cases hf with
  | func _ caps _ et _=>
    have:caps=#[]:=Array.eq_empty_of_size_eq_zero (by simpa using et)
    subst this
    refine .inl ⟨f,#[],rfl,hc,?_⟩
    have fc:R4 (Ctx.imm C.A) w vs args:=
      ⟨hl,fun i v a h1 h2=>A9.ground' (C:=C) (C2:=Ctx.imm C.A) (fun b hb=>hb) (hv i v a h1 h2) (List.all_eq_true.1 hg a (Aor h2))⟩
    rw[show vs.toArray++#[]=vs.toArray by simp]
    refine(spec _ w vs I.sub fc).mono fun e w' ⟨v,r,he,hR,hg,hb,hr⟩=>?_
    have key:=I.grow (fun b=>w.heap.size≤b∧b<w'.heap.size) (fun b hb=>hb) hb
    exact⟨v,r,C.more fun b=>w.heap.size≤b∧b<w'.heap.size,he,h r hR,rfl,A9.ground' (C:=Ctx.imm fun b=>C.A b∨(w.heap.size≤b∧b<w'.heap.size)) (C2:=C.more fun b=>w.heap.size≤b∧b<w'.heap.size) (fun b hb=>hb) hr hg,key.1,hO.mono key.2⟩
theorem Ah.inline {f:FuncId} {fn:Func} {c:Code} {n:Nat} {args caps:List Ac} {st:List Fr} {H:List Ak} {K:Ac→List Ak→Prop} (hc:∀ (args:Array Value) (w:World),(callFunc f args).run P w= .ok (.enter f args) w)
    (hf:P.funcs[f]? =some fn) (hb:fn.body=some c) (hn:fn.ntmps=n) (hlen:(args++caps).length≤n)
    (h:AWP none P n c (qret P fn K) st (Ub (args++caps) 0) H):Ah P (.func f caps) args st H K:=by
  intro W0 C w outs fv vs I hH hO hfv hl hv
  subst hH
  cases hfv with
  | func _ carr _ et hcr=>
    refine .inl ⟨f,carr,rfl,hc,calls_of_wp hf hb ?_⟩
    have fc:R4 C w (vs++carr.toList) (args++caps):=by
      refine⟨by simp[hl,et],fun i v a h1 h2=>?_⟩
      by_cases hi:i<vs.length
      ·rw[List.getElem?_append_left hi]at h1
       rw[List.getElem?_append_left (by omega)]at h2
       exact hv i v a h1 h2
      ·rw[List.getElem?_append_right (by omega)]at h1
       rw[List.getElem?_append_right (by omega),← hl]at h2
       exact hcr _ v a (by simpa using h1) h2
    have e1:vs.toArray++carr=(vs++carr.toList).toArray:=by apply Array.ext';simp
    rw[e1]
    have fm:((vs++carr.toList).toArray++Array.replicate (fn.ntmps - (vs++carr.toList).toArray.size) undef).size=n:=by
      have:=fc.1
      simp only[Array.size_append,List.size_toArray,Array.size_replicate];omega
    refine wp_mono (wpIn_wide.1 <| h W0 C.A0 [] outs _ w ⟨C,rfl,rfl,I,Wv fc _,hO,fm,rfl⟩) ?_
    intro e a' w' ⟨fr',H',hq,hR⟩
    obtain⟨C',rfl,gq,I',hF,mw,_,hd⟩:=hR.ex
    have key:∀ (h:match Gz (aresult P fr' C'.H) fn.results.toList with | some vs=>K (aret vs) C'.H | none=>False),a'.defers=[]∧∃ v,(results fn a'.tmps).run P w'= .ok v w'∧
     ∃ v' r C2,Ending.returned v= .returned v'∧K r C2.H∧C2.A0=C.A0∧A9 C2 w' v' r∧Inv W0 C2 w'∧Em C2 w' outs st:=by
      intro h
      split at h
      ·rename_i rs ri
       obtain⟨v,h1,h2⟩:=Rf (P:=P) I' hF ri
       exact⟨hd,v,h1,v,_,C',rfl,h,gq,h2,I',mw⟩
      ·exact h.elim
    cases e with
    | normal=>exact key hq
    | ret=>exact key hq
    | _=>exact hq.elim
end
def vle (v v':Ac):Prop:=match v' with | .any=>True | .sl _ xs=>v=v'∨(v= .nils∧xs=[]) | _=>v=v'
def eY:List Ac→List Ac→Prop
  | [],[]=>True
  | c::r,c'::r'=>vle c c'∧eY r r'
  | _,_=>False
def Rt (o o':Ak):Prop:=
  match o',o with
  | .gone,_=>True
  | .box cs',.box cs=>eY cs cs'
  | .row v' sz' xs',.row v sz xs=>v=v'∧sz=sz'∧xs=xs'
  | .mp es',.mp es=>es=es'
  | .mpo q' es',.mpo q es=>q=q'∧es=es'
  | .mpo q' es',.mp es=>q'=false∧es=es'
  | .it l' c',.it l c=>l=l'∧c=c'
  | .lp D' n' fr' ps' a' b' s' p',.lp D n fr ps a b s p=>D=D'∧n=n'∧fr=fr'∧ps=ps'∧a=a'∧b=b'∧s=s'∧p=p'
  | _,_=>False
def Wz:List Ak→List Ak→Prop
  | _,[]=>True
  | o::r,o'::r'=>Rt o o'∧Wz r r'
  | [],_::_=>False
def dM (fr:Fr):Fr→Prop
  | []=>True
  | (k,v)::r=>vle (get fr k) v∧dM fr r
def Ac.c9 (m:Nat):Ac→Bool
  | .own r _ _ _ | .ptr r _ | .rptr r _ _ _ | .map r | .iter r | .yld r=>Nat.blt r m
  | .agg _ | .tuple _ | .func _ _=>false
  | _=>true
def Ac.bE (m:Nat):Ac→Bool
  | .func _ cs=>cs.all (Ac.c9 m)
  | v=>v.c9 m
def Ac.Zq (m:Nat):Ac→Bool
  | .agg cs=>cs.all (Ac.bE m)
  | v=>v.bE m
def Ac.R2 (m:Nat):Ac→Bool
  | .tuple vs=>vs.all (Ac.Zq m)
  | v=>v.Zq m
def Mc (m:Nat) (fr:Fr):Bool:=fr.all fun p=>p.2.R2 m
def xC (m:Nat):Ak→Bool
  | .box cs=>cs.all (Ac.R2 m)
  | .mpo _ es=>es.all fun p=>p.2.R2 m
  | .lp _ _ fr _ _ _ _ _=>Mc m fr
  | _=>true
def nG (m:Nat) (H:List Ak):Bool:=H.all (xC m)
theorem Ac2 {m:Nat} {a:Ac} (h:a.c9 m=true):a.R2 m=true:=by
  cases a<;>simp_all [Ac.c9,Ac.bE,Ac.Zq,Ac.R2]
theorem Ac0 {m:Nat} {a:Ac} (h:a.bE m=true):a.R2 m=true:=by
  cases a<;>simp_all [Ac.c9,Ac.bE,Ac.Zq,Ac.R2]
theorem Ac1 {m:Nat} {a:Ac} (h:a.Zq m=true):a.R2 m=true:=by
  cases a<;>simp_all [Ac.c9,Ac.bE,Ac.Zq,Ac.R2]
theorem Om:∀ {H H':List Ak},Wz H H'→∀ (r:Nat) o',H'[r]? =some o'→∃ o,H[r]? =some o∧Rt o o'
  | _,[],_,r,o',h=>by simp at h
  | o::H,o1::H',h,0,o',h'=>by simp at h';subst h';exact⟨o,rfl,h.1⟩
  | o::H,o1::H',h,r+1,o',h'=>by
    have:=Om h.2 r o' (by simpa using h')
    simpa using this
  | [],_::_,h,_,_,_=>h.elim
theorem bO {o o':Ak} (h:Rt o o'):o'≠.resv:=by
  rintro rfl
  cases o<;>simp[Rt]at h
def Ctx.less (C:Ctx) (H':List Ak):Ctx:=
  {C with ρ:=fun r=>match H'[r]? with | none=>none | some .gone=>none | _=>C.ρ r,H:=H'}
theorem A9.less {C:Ctx} {w:World} {H':List Ak} (hs:Wz C.H H') {v:Value} {a:Ac} (h:A9 C w v a) :
    (H'.length=C.H.length∨a.R2 H'.length=true)→A9 (C.less H') w v a:=by
  have known:∀ r,C.known r→(H'.length=C.H.length∨r<H'.length)→(C.less H').known r:=by
    intro r hr ah
    have ah:r<H'.length:=by
      rcases ah with ah | ah
      ·rw[ah];exact hr.lt
      ·exact ah
    obtain⟨o,ho,hle⟩:=Om hs r _ (Aoq ah)
    exact⟨_,Aoq ah,bO hle⟩
  have lt:∀ {r:Nat} {b:Bool},(H'.length=C.H.length∨b=true)→(b=true→r<H'.length)→(H'.length=C.H.length∨r<H'.length):=by
    intro r b h1 h2
    rcases h1 with h1 | h1
    ·exact .inl h1
    ·exact .inr (h2 h1)
  induction h with
  | any v=>exact fun _=>.any v
  | bool b=>exact fun _=>.bool b
  | int k n=>exact fun _=>.int k n
  | str s=>exact fun _=>.str s
  | agg arr cs h _ ih=>
    intro hb
    refine .agg arr cs h fun i u c a b=>ih i u c a b ?_
    rcases hb with hb | hb
    ·exact .inl hb
    ·simp only[Ac.R2,Ac.Zq,List.all_eq_true]at hb
     exact .inr (Ac0 (hb c (Aor b)))
  | tuple arr cs h _ ih=>
    intro hb
    refine .tuple arr cs h fun i u c a b=>ih i u c a b ?_
    rcases hb with hb | hb
    ·exact .inl hb
    ·simp only[Ac.R2,List.all_eq_true]at hb
     exact .inr (Ac1 (hb c (Aor b)))
  | nils=>exact fun _=>.nils
  | z0 a=>exact fun _=>.z0 a
  | sl0 a cap sz cq=>exact fun _=>.sl0 a cap sz cq
  | sl a len cap xs sz u de hlen dm cq hA cg cn hg au bc ih=>
    exact fun _=>.sl a len cap xs sz u de hlen dm cq hA cg cn hg au fun i k x c a b=>
      A9.ground (C:=C) (C2:=C.less H') (fun b hb=>⟨hb,rfl⟩) (bc i k x c a b) (Ac.H5 (hg x (Aor a) c (Aor b)))
  | own a len cap r v lo hr dm cq hv=>
    intro hb
    refine .own a len cap r v lo (known r hr (lt hb fun h=>by simpa[Ac.R2,Ac.Zq,Ac.bE,Ac.c9]using h)) dm cq fun v' sz xs h'=>?_
    obtain⟨o,ho,hle⟩:=Om hs r _ h'
    cases o<;>simp only[Rt]at hle
    obtain⟨rfl,rfl,rfl⟩:=hle
    have hρ:(C.less H').ρ r=C.ρ r:=by
      simp only[Ctx.less]at h' ⊢;rw[h']
    rw[hρ]
    exact hv _ _ _ ho
  | eptr a cs u de hA hg au bc ih=>
    exact fun _=>.eptr a cs u de hA hg au fun j c b=>A9.ground (C:=C) (C2:=C.less H') (fun b hb=>⟨hb,rfl⟩) (bc j c b) (Ac.H5 (hg c (Aor b)))
  | ptr a r k hr h=>
    intro hb
    refine .ptr a r k (known r hr (lt hb fun h=>by simpa[Ac.R2,Ac.Zq,Ac.bE,Ac.c9]using h)) fun cs h'=>?_
    obtain⟨o,ho,hle⟩:=Om hs r _ h'
    cases o<;>simp only[Rt]at hle
    have hρ:(C.less H').ρ r=C.ρ r:=by
      simp only[Ctx.less]at h' ⊢;rw[h']
    rw[hρ]
    exact h _ ho
  | rptr a r v i k hr h=>
    intro hb
    refine .rptr a r v i k (known r hr (lt hb fun h=>by simpa[Ac.R2,Ac.Zq,Ac.bE,Ac.c9]using h)) fun v' sz xs h'=>?_
    obtain⟨o,ho,hle⟩:=Om hs r _ h'
    cases o<;>simp only[Rt]at hle
    obtain⟨rfl,rfl,rfl⟩:=hle
    have hρ:(C.less H').ρ r=C.ρ r:=by
      simp only[Ctx.less]at h' ⊢;rw[h']
    rw[hρ]
    exact h _ _ _ ho
  | nilm=>exact fun _=>.nilm
  | map b r hr h=>
    intro hb
    refine .map b r (known r hr (lt hb fun h=>by simpa[Ac.R2,Ac.Zq,Ac.bE,Ac.c9]using h)) fun o' h' hl=>?_
    obtain⟨o,ho,hle⟩:=Om hs r _ h'
    have hρ:(C.less H').ρ r=C.ρ r:=by
      cases o'<;>first | (cases hl;done) | (simp only[Ctx.less]at h' ⊢;rw[h'])
    rw[hρ]
    exact h _ ho (by cases o'<;>first | (cases hl;done) | (cases o<;>first | rfl | exact hle.elim))
  | vmap0=>exact fun _=>.vmap0
  | vmap b es entries clock hA hg hh cy bc ih=>
    exact fun _=>.vmap b es entries clock hA hg hh cy fun i e p a b=>A9.ground (C:=C) (C2:=C.less H') (fun b hb=>⟨hb,rfl⟩) (bc i e p a b) (Ac.Jp (hg p (Aor b)))
  | func f arr cs h _ ih=>
    intro hb
    refine .func f arr cs h fun i u c a b=>ih i u c a b ?_
    rcases hb with hb | hb
    ·exact .inl hb
    ·simp only[Ac.R2,Ac.Zq,Ac.bE,List.all_eq_true]at hb
     exact .inr (Ac2 (hb c (Aor b)))
  | iter a r hr de h=>
    intro hb
    refine .iter a r (known r hr (lt hb fun h=>by simpa[Ac.R2,Ac.Zq,Ac.bE,Ac.c9]using h)) de fun left cur h'=>?_
    obtain⟨o,ho,hle⟩:=Om hs r _ h'
    cases o<;>simp only[Rt]at hle
    have hρ:(C.less H').ρ r=C.ρ r:=by
      simp only[Ctx.less]at h' ⊢;rw[h']
    rw[hρ]
    exact h _ _ ho
  | yld b r hr h=>
    intro hb
    refine .yld b r (known r hr (lt hb fun h=>by simpa[Ac.R2,Ac.Zq,Ac.bE,Ac.c9]using h)) fun o' h' hl=>?_
    obtain⟨o,ho,hle⟩:=Om hs r _ h'
    cases o'<;>first | (cases hl;done) | skip
    cases o<;>simp only[Rt]at hle
    have hρ:(C.less H').ρ r=C.ρ r:=by
      simp only[Ctx.less]at h' ⊢;rw[h']
    rw[hρ]
    exact h _ ho rfl
theorem Aef {m:Nat} {f:Fr} (h:Mc m f=true) (t:Nat):(get f t).R2 m=true:=by
  induction f with
  | nil=>rfl
  | cons p f ih=>
    obtain⟨j,v⟩:=p
    simp only[Mc,List.all_cons,Bool.and_eq_true]at h
    simp only[get]
    split
    ·exact h.1
    ·exact ih h.2
theorem jR:∀ {cs cs':List Ac},eY cs cs'→cs.length=cs'.length∧∀ (i:Nat) c',cs'[i]? =some c'→∃ c,cs[i]? =some c∧vle c c'
  | [],[],_=>⟨rfl,by simp⟩
  | c::r,c1::r',h=>by
    have ih:=jR h.2
    refine⟨by simp[ih.1],fun i c' hi=>?_⟩
    match i,hi with
    | 0,hi=>simp at hi;subst hi;exact⟨c,rfl,h.1⟩
    | i+1,hi=>simpa using ih.2 i c' (by simpa using hi)
  | [],_::_,h=>h.elim
  | _::_,[],h=>h.elim
theorem xT {C:Ctx} {w:World} {v:Value} {a a':Ac} (hl:vle a a') (h:A9 C w v a):A9 C w v a':=by
  unfold vle at hl
  split at hl
  ·exact .any v
  ·rcases hl with hl | ⟨rfl,rfl⟩
   ·subst hl;exact h
   ·cases h;exact .sl0 _ _ _ (Nat.zero_le _)
  ·subst hl;exact h
theorem Sub.weak {outer:List Fr} {fr fr':Fr} {H H':List Ak} (hH:Wz H H') (hF:dM fr fr')
    (hb:H'.length=H.length∨(Mc H'.length fr'=true∧nG H'.length H'=true∧outer.all (Mc H'.length)=true)):Sub outer fr H fr' H':=by
  intro W0 A0 ds n outs a w R
  obtain⟨C,rfl,rfl,I,yk,hO,hn,hd⟩:=R.ex
  have gr:∀ {v:Value} {x:Ac},A9 C w v x→x.g2=true→A9 (C.less H') w v x:=fun h hg=>A9.ground (C:=C) (C2:=C.less H') (fun b hb=>⟨hb,rfl⟩) h hg
  refine⟨C.less H',rfl,rfl,⟨I.below,I.sub,I.old,fun r l hl=>?_,fun r r' l l' h1 h2 e=>?_,fun r o' fz=>?_⟩,fun t=>?_,⟨hO.1,fun i t f h1 h2 k=>?_⟩,hn,hd⟩
  ·simp only[Ctx.less]at hl ⊢
   split at hl
   ·cases hl
   ·cases hl
   ·rename_i h1 h2
    have ah:r<H'.length:=by
      rcases Nat.lt_or_ge r H'.length with h | h
      ·exact h
      ·exact absurd (List.getElem?_eq_none h) h1
    have:=I.sep r l hl
    exact⟨ah,this.2⟩
  ·have g:∀ {r l},(C.less H').ρ r=some l→C.ρ r=some l:=by
     intro r l h
     simp only[Ctx.less]at h
     split at h
     ·cases h
     ·cases h
     ·exact h
   exact I.inj _ _ _ _ (g h1) (g h2) e
  ·obtain⟨o,ho,hle⟩:=Om hH r o' fz
   have hR:=I.objs r o ho
   simp only[Ctx.less]at fz
   cases o' with
   | resv=>exact absurd rfl (bO hle)
   | gone=>show (C.less H').ρ r=none;simp only[Ctx.less,fz]
   | box cs'=>
     have hρ:(C.less H').ρ r=C.ρ r:=by simp only[Ctx.less,fz]
     cases o<;>simp only[Rt]at hle
     rename_i cs
     obtain⟨l,arr,T,e1,e2,e3,e4⟩:=hR
     have hc:=jR hle
     refine⟨l,arr,T,by rw[hρ];exact e1,e2,by rw[e3,hc.1],fun i u c' h1 h2=>?_⟩
     obtain⟨c,h3,h4⟩:=hc.2 i c' h2
     refine(xT h4 (e4 i u c h1 h3)).less hH ?_
     rcases hb with hb | ⟨_,hb,_⟩
     ·exact .inl hb
     ·have:=List.all_eq_true.1 hb _ (Aor fz)
      exact .inr (List.all_eq_true.1 this c' (Aor h2))
   | row v' sz' xs'=>
     have hρ:(C.less H').ρ r=C.ρ r:=by simp only[Ctx.less,fz]
     cases o<;>simp only[Rt]at hle
     obtain⟨rfl,rfl,rfl⟩:=hle
     obtain⟨e1,e2,e3,e4⟩:=hR
     refine⟨e1,e2,e3,?_⟩
     rcases e4 with⟨e4,e5⟩ | ⟨l,arr,T,e4,e5,e6,e7,e8⟩
     ·exact .inl ⟨e4,by rw[hρ];exact e5⟩
     ·refine .inr ⟨l,arr,T,by rw[hρ];exact e4,e5,e6,e7,fun i k x c h1 h2=>?_⟩
      obtain⟨u,hu,ea⟩:=e8 i k x c h1 h2
      exact⟨u,hu,gr ea (Ac.H5 (e3 x (Aor h1) c (Aor h2)))⟩
   | mp es'=>
     have hρ:(C.less H').ρ r=C.ρ r:=by simp only[Ctx.less,fz]
     cases o<;>simp only[Rt]at hle
     subst hle
     obtain⟨l,en,cl,e1,e2,e3,e4,e5⟩:=hR
     exact⟨l,en,cl,by rw[hρ];exact e1,e2,e3,e4,fun i e p h1 h2=>gr (e5 i e p h1 h2) (Ac.Jp (e4 p (Aor h2)))⟩
   | mpo q' es'=>
     have hρ:(C.less H').ρ r=C.ρ r:=by simp only[Ctx.less,fz]
     have hbv:∀ p∈es',H'.length=C.H.length∨p.2.R2 H'.length=true:=fun p hp=>by
       rcases hb with hb | ⟨_,hb,_⟩
       ·exact .inl hb
       ·exact .inr (List.all_eq_true.1 (List.all_eq_true.1 hb _ (Aor fz)) p hp)
     have key:∃ l en cl,C.ρ r=some l∧w.heap[l.b]? =some (.map en cl)∧R5 q' en cl es'∧∀ (i:Nat) (e:MapEntry) (p:Int×Ac),en[i]? =some e→es'[i]? =some p→A9 C w e.val p.2:=by
       cases o<;>simp only[Rt]at hle
       ·obtain⟨rfl,rfl⟩:=hle;obtain⟨l,en,cl,e1,e2,e3,e4,e5⟩:=hR;exact⟨l,en,cl,e1,e2,e3,e5⟩
       ·obtain⟨rfl,rfl⟩:=hle;exact hR
     obtain⟨l,en,cl,e1,e2,e3,e5⟩:=key
     exact⟨l,en,cl,by rw[hρ];exact e1,e2,e3,fun i e p h1 h2=>(e5 i e p h1 h2).less hH (hbv p (Aor h2))⟩
   | it l' c'=>
     have hρ:(C.less H').ρ r=C.ρ r:=by simp only[Ctx.less,fz]
     cases o<;>simp only[Rt]at hle
     obtain⟨rfl,rfl⟩:=hle
     obtain⟨l,e1,e2⟩:=hR
     refine⟨l,by rw[hρ];exact e1,?_⟩
     rcases e2 with e2 | ⟨bm,seen,en,cl,e2,e3,e4,e5,e6,e7,e8⟩
     ·exact .inl e2
     ·refine .inr ⟨bm,seen,en,cl,e2,e3,e4,e5,e6,⟨e7.1,fun i e p h1 h2=>?_⟩,fun p hp=>?_⟩
      ·have:=e7.2 i e p h1 h2
       exact⟨this.1,this.2.1,gr this.2.2 (Ac.Jp this.2.1)⟩
      ·obtain⟨e,g1,g2,g3,g4,g5⟩:=e8 p hp
       exact⟨e,g1,g2,g3,g4,gr g5 (Ac.Jp g4)⟩
   | lp D' n' f' ps' a' b' s' p'=>
     have hρ:(C.less H').ρ r=C.ρ r:=by simp only[Ctx.less,fz]
     cases o<;>simp only[Rt]at hle
     obtain⟨rfl,rfl,rfl,rfl,rfl,rfl,rfl,rfl⟩:=hle
     obtain⟨l,rec,h1,h0,h2,h3,h4,h5,h6,h7,h8,h9,pr,um,qi⟩:=hR
     refine⟨l,rec,by rw[hρ];exact h1,h0,h2,h3,h4,h5,h6,h7,h8,h9,fun t=>(pr t).less hH ?_,um,qi⟩
     rcases hb with hb | ⟨_,hb,_⟩
     ·exact .inl hb
     ·exact .inr (Aef (List.all_eq_true.1 hb _ (Aor fz)) t)
  ·have fb:H'.length=C.H.length∨Mc H'.length fr'=true:=by
     rcases hb with hb | hb
     ·exact .inl hb
     ·exact .inr hb.1
   clear hb
   induction fr' with
   | nil=>exact .any _
   | cons p fr' ih=>
     obtain⟨k,v⟩:=p
     obtain⟨h1,h2⟩:=hF
     simp only[get]
     split
     ·rename_i e
      subst e
      refine(xT h1 (yk k)).less hH ?_
      rcases fb with fb | fb
      ·exact .inl fb
      ·simp only[Mc,List.all_cons,Bool.and_eq_true]at fb
       exact .inr fb.1
     ·refine ih h2 ?_
      rcases fb with fb | fb
      ·exact .inl fb
      ·simp only[Mc,List.all_cons,Bool.and_eq_true]at fb
       exact .inr fb.2
  ·have hv:=hO.2 i t f h1 h2 k
   refine hv.less hH ?_
   rcases hb with hb | ⟨_,_,hb⟩
   ·exact .inl hb
   ·have:=List.all_eq_true.1 hb f (Aor h2)
    refine .inr ?_
    clear hv h1 h2
    induction f with
    | nil=>rfl
    | cons p f ih=>
      obtain⟨j,v⟩:=p
      simp only[Mc,List.all_cons,Bool.and_eq_true]at this
      simp only[get]
      split
      ·exact this.1
      ·exact ih this.2
theorem Sub.ghost {outer:List Fr} {fr:Fr} {H:List Ak} (k sz:Nat) (hk:get fr k= .nils) (cn:1≤sz):Sub outer fr H ((k,.own H.length 0 0 0)::fr) (H++[.row 0 sz []]):=by
  intro W0 A0 ds n outs a w R
  obtain⟨C,rfl,rfl,I,hF,hO,hn,hd⟩:=R.ex
  have bw:Py C.H C.H.length:=.inl rfl
  have key:=I.ghost _ bw (.row 0 sz []) (fun _=>⟨cn,by simp,by simp,.inl ⟨rfl,I.x5 bw⟩⟩)
  have hH:(C.ghost C.H.length (.row 0 sz [])).H=C.H++[.row 0 sz []]:=by simp[Ctx.ghost,G9]
  refine⟨_,hH,rfl,key.1,fun t=>?_,hO.mono key.2,hn,hd⟩
  simp only[get]
  split
  ·rename_i e
   subst e
   have hv:=hF k
   rw[hk]at hv
   cases lg:a.tmps.getD k undef<;>rw[lg]at hv<;>cases hv
   refine .own _ _ _ _ _ _ ⟨_,Gk bw,by simp⟩ (Nat.le_refl _) (Nat.zero_le _) fun v' sz' xs' h'=>?_
   simp only[Ctx.ghost]at h'
   rw[Gk bw,Aot,Ak.row.injEq]at h'
   obtain⟨rfl,rfl,rfl⟩:=h'
   exact⟨Nat.le_refl _,fun _=>⟨by simp,.inl rfl⟩⟩
  ·exact(hF t).mono key.2
mutual
def ren (π:Nat→Nat):Ac→Ac
  | .agg cs=>.agg (rens π cs)
  | .tuple cs=>.tuple (rens π cs)
  | .own r v lo len=>.own (π r) v lo len
  | .ptr r k=>.ptr (π r) k
  | .rptr r v i k=>.rptr (π r) v i k
  | .map r=>.map (π r)
  | .iter r=>.iter (π r)
  | .yld r=>.yld (π r)
  | .func f cs=>.func f (rens π cs)
  | .any=>.any
  | .bool b=>.bool b
  | .int k n=>.int k n
  | .str s=>.str s
  | .nils=>.nils
  | .z0=>.z0
  | .sl sz xs=>.sl sz xs
  | .eptr cs=>.eptr cs
  | .nilm=>.nilm
  | .vmap es=>.vmap es
def rens (π:Nat→Nat):List Ac→List Ac
  | []=>[]
  | c::r=>ren π c::rens π r
end
def Wb (π:Nat→Nat):List (Int×Ac)→List (Int×Ac)
  | []=>[]
  | (k,a)::r=>(k,ren π a)::Wb π r
def jH (π:Nat→Nat):Fr→Fr
  | []=>[]
  | (k,a)::fr=>(k,ren π a)::jH π fr
def j8 (π:Nat→Nat):Ak→Ak
  | .box cs=>.box (rens π cs)
  | .row v sz xs=>.row v sz xs
  | .mp es=>.mp es
  | .mpo q es=>.mpo q (Wb π es)
  | .it l c=>.it l c
  | .lp D n fr ps a b s p=>.lp D n (jH π fr) ps a b s p
  | .gone=>.gone
  | .resv=>.resv
def fQ (π:Nat→Nat):List Fr→List Fr
  | []=>[]
  | f::l=>jH π f::fQ π l
def X7 (π:Nat→Nat):List Ak→List Ak
  | []=>[]
  | o::H=>j8 π o::X7 π H
theorem Yq (π:Nat→Nat):∀ l:List Ac,(rens π l).length=l.length
  | []=>rfl
  | c::r=>by simp[rens,Yq π r]
theorem sL (π:Nat→Nat):∀ (l:List Ac) (i:Nat),(rens π l)[i]? =(l[i]?).map (ren π)
  | [],i=>by simp[rens]
  | c::r,0=>by simp[rens]
  | c::r,i+1=>by simp[rens,sL π r i]
theorem aC {π:Nat→Nat} {l:List Ac} {i:Nat} {c:Ac} (h:(rens π l)[i]? =some c):∃ c0,l[i]? =some c0∧c=ren π c0:=by
  rw[sL]at h
  cases hc:l[i]? with
  | none=>rw[hc]at h;cases h
  | some c0=>rw[hc]at h;exact⟨c0,rfl,(Aoy h).symm⟩
theorem sO (π:Nat→Nat):∀ (l:List (Int×Ac)) (i:Nat),(Wb π l)[i]? =(l[i]?).map fun p=>(p.1,ren π p.2)
  | [],i=>by simp[Wb]
  | (k,a)::r,0=>by simp[Wb]
  | (k,a)::r,i+1=>by simp[Wb,sO π r i]
theorem oX {π:Nat→Nat} {l:List (Int×Ac)} {i:Nat} {p:Int×Ac} (h:(Wb π l)[i]? =some p):∃ p0,l[i]? =some p0∧p=(p0.1,ren π p0.2):=by
  rw[sO]at h
  cases hc:l[i]? with
  | none=>rw[hc]at h;cases h
  | some c0=>rw[hc]at h;exact⟨c0,rfl,(Aoy h).symm⟩
theorem oY (π:Nat→Nat):∀ l:List (Int×Ac),(Wb π l).map (·.1)=l.map (·.1)
  | []=>rfl
  | (k,a)::r=>by simp[Wb,oY π r]
theorem sN (π:Nat→Nat):∀ l:List (Int×Ac),(Wb π l).length=l.length
  | []=>rfl
  | (k,a)::r=>by simp[Wb,sN π r]
theorem R5.ren {q:Bool} {π:Nat→Nat} {en:Array MapEntry} {cl:Nat} {es:List (Int×Ac)} (h:R5 q en cl es):R5 q en cl (Wb π es):=
  ⟨by rw[sN];exact h.size,fun i e p a b=>by
    obtain⟨p0,h1,rfl⟩:=oX b
    exact h.keys i e p0 a h1,by rw[oY];exact h.nodup,h.born,h.bnodup⟩
theorem dO (π:Nat→Nat):∀ (l:List Ak) (i:Nat),(X7 π l)[i]? =(l[i]?).map (j8 π)
  | [],i=>by simp[X7]
  | c::r,0=>by simp[X7]
  | c::r,i+1=>by simp[X7,dO π r i]
theorem Yr (π:Nat→Nat):∀ l:List Ak,(X7 π l).length=l.length
  | []=>rfl
  | c::r=>by simp[X7,Yr π r]
theorem aI (π:Nat→Nat):∀ (fr:Fr) (t:Nat),get (jH π fr) t=ren π (get fr t)
  | [],t=>rfl
  | (k,a)::fr,t=>by
    have ih:=aI π fr t
    simp only[jH,get]at ih ⊢
    split
    ·rfl
    ·exact ih
theorem zC {π:Nat→Nat} {o:Ak} (h:j8 π o= .resv):o= .resv:=by cases o<;>first | rfl | cases h
structure Nk (π:Nat→Nat) (C C':Ctx) (w w':World):Prop where
  imm:∀ b,C.A b→C'.A b∧w'.heap[b]? =w.heap[b]?
  obj:∀ (r:Nat) o,C.H[r]? =some o→C'.H[π r]? =some (j8 π o)∧C'.ρ (π r)=C.ρ r
theorem Nk.known {π:Nat→Nat} {C C':Ctx} {w w':World} (m:Nk π C C' w w') {r:Nat} (h:C.known r):C'.known (π r):=by
  obtain⟨o,ho,bj⟩:=h
  exact⟨_,(m.obj r o ho).1,fun e=>bj (zC e)⟩
theorem Nk.back {π:Nat→Nat} {C C':Ctx} {w w':World} (m:Nk π C C' w w') {r:Nat} (h:C.known r) {o':Ak} (fz:C'.H[π r]? =some o'):∃ o,C.H[r]? =some o∧o'=j8 π o∧C'.ρ (π r)=C.ρ r:=by
  obtain⟨o,ho,_⟩:=h
  have:=m.obj r o ho
  rw[this.1]at fz
  exact⟨o,ho,(Aoy fz).symm,this.2⟩
theorem A9.ren {π:Nat→Nat} {C C':Ctx} {w w':World} (m:Nk π C C' w w') {v:Value} {a:Ac} (h:A9 C w v a):A9 C' w' v (ren π a):=by
  have gr:∀ {v a},A9 C w v a→a.g2=true→A9 C' w' v a:=fun h hg=>A9.ground m.imm h hg
  induction h with
  | any v=>exact .any v
  | bool b=>exact .bool b
  | int k n=>exact .int k n
  | str s=>exact .str s
  | agg arr cs h _ ih=>
    refine .agg arr _ (by rw[Yq,h]) fun i u c a b=>?_
    obtain⟨c0,h1,rfl⟩:=aC b
    exact ih i u c0 a h1
  | tuple arr cs h _ ih=>
    refine .tuple arr _ (by rw[Yq,h]) fun i u c a b=>?_
    obtain⟨c0,h1,rfl⟩:=aC b
    exact ih i u c0 a h1
  | nils=>exact .nils
  | z0 a=>exact .z0 a
  | sl0 a cap sz cq=>exact .sl0 a cap sz cq
  | sl a len cap xs sz u de hlen dm cq hA cg cn hg au bc ih=>
    refine .sl a len cap xs sz u de hlen dm cq (m.imm _ hA).1 cg cn hg (fun j hj=>?_) fun i k x c h1 h2=>gr (bc i k x c h1 h2) (Ac.H5 (hg x (Aor h1) c (Aor h2)))
    rw[Hm (w:=w)];exact au j hj
    exact(m.imm _ hA).2
  | own a len cap r v lo hr dm cq hv=>
    refine .own a len cap (π r) v lo (m.known hr) dm cq fun v' sz xs h'=>?_
    obtain⟨o,h1,h2,h3⟩:=m.back hr h'
    cases o<;>cases h2
    rw[h3];exact hv _ _ _ h1
  | eptr a cs u de hA hg au bc ih=>
    refine .eptr a cs u de (m.imm _ hA).1 hg (fun j hj=>?_) fun j c b=>gr (bc j c b) (Ac.H5 (hg c (Aor b)))
    rw[Hm (w:=w)];exact au j hj
    exact(m.imm _ hA).2
  | ptr a r k hr h=>
    refine .ptr a (π r) k (m.known hr) fun cs h'=>?_
    obtain⟨o,h1,h2,h3⟩:=m.back hr h'
    cases o<;>cases h2
    rw[h3];exact h _ h1
  | rptr a r v i k hr h=>
    refine .rptr a (π r) v i k (m.known hr) fun v' sz xs h'=>?_
    obtain⟨o,h1,h2,h3⟩:=m.back hr h'
    cases o<;>cases h2
    rw[h3];exact h _ _ _ h1
  | nilm=>exact .nilm
  | map b r hr h=>
    refine .map b (π r) (m.known hr) fun o' h' hl=>?_
    obtain⟨o,h1,h2,h3⟩:=m.back hr h'
    rw[h3];exact h _ h1 (by subst h2;cases o<;>first | rfl | exact hl)
  | vmap0=>exact .vmap0
  | vmap b es entries clock hA hg hh cy bc ih=>
    exact .vmap b es entries clock (m.imm _ hA).1 hg (by rw[(m.imm _ hA).2];exact hh) cy fun i e p a b=>gr (bc i e p a b) (Ac.Jp (hg p (Aor b)))
  | func f arr cs h _ ih=>
    refine .func f arr _ (by rw[Yq,h]) fun i u c a b=>?_
    obtain⟨c0,h1,rfl⟩:=aC b
    exact ih i u c0 a h1
  | iter a r hr de h=>
    refine .iter a (π r) (m.known hr) de fun l c h'=>?_
    obtain⟨o,h1,h2,h3⟩:=m.back hr h'
    cases o<;>cases h2
    rw[h3];exact h _ _ h1
  | yld b r hr h=>
    refine .yld b (π r) (m.known hr) fun o' h' hl=>?_
    obtain⟨o,h1,h2,h3⟩:=m.back hr h'
    cases o'<;>first | (cases hl;done) | skip
    cases o<;>cases h2
    rw[h3];exact h _ h1 rfl
theorem Yh.ren {π:Nat→Nat} {C C':Ctx} {w w':World} (m:Nk π C C' w w') {r:Nat} {o:Ak} (hr:C.H[r]? =some o) (hh:∀ l,C.ρ r=some l→w'.heap[l.b]? =w.heap[l.b]?) (h:Yh C w r o):Yh C' w' (π r) (j8 π o):=by
  have hρ:=(m.obj r o hr).2
  have gr:∀ {v a},A9 C w v a→a.g2=true→A9 C' w' v a:=fun h hg=>A9.ground m.imm h hg
  cases o with
  | box cs=>
    obtain⟨l,arr,T,h1,h2,h3,h4⟩:=h
    refine⟨l,arr,T,by rw[hρ];exact h1,by rw[hh l h1];exact h2,by rw[Yq,h3],fun i u c a b=>?_⟩
    obtain⟨c0,e1,rfl⟩:=aC b
    exact(h4 i u c0 a e1).ren m
  | row v sz xs=>
    obtain⟨h0,yz,uo,h⟩:=h
    refine⟨h0,yz,uo,?_⟩
    rcases h with⟨h1,h2⟩ | ⟨l,arr,T,h1,h2,h3,h4,h5⟩
    ·exact .inl ⟨h1,by rw[hρ];exact h2⟩
    ·refine .inr ⟨l,arr,T,by rw[hρ];exact h1,by rw[hh l h1];exact h2,h3,h4,fun i k x c a b=>?_⟩
     obtain⟨u,hu,hr⟩:=h5 i k x c a b
     exact⟨u,hu,gr hr (Ac.H5 (uo x (Aor a) c (Aor b)))⟩
  | mp es=>
    obtain⟨l,en,cl,h1,h2,h3,hg,h4⟩:=h
    exact⟨l,en,cl,by rw[hρ];exact h1,by rw[hh l h1];exact h2,h3,hg,fun i e p a b=>gr (h4 i e p a b) (Ac.Jp (hg p (Aor b)))⟩
  | mpo q es=>
    obtain⟨l,en,cl,h1,h2,h3,h4⟩:=h
    refine⟨l,en,cl,by rw[hρ];exact h1,by rw[hh l h1];exact h2,h3.ren,fun i e p a b=>?_⟩
    obtain⟨p0,e1,rfl⟩:=oX b
    exact(h4 i e p0 a e1).ren m
  | it left cur=>
    obtain⟨l,h1,h⟩:=h
    refine⟨l,by rw[hρ];exact h1,?_⟩
    rcases h with⟨h2,ym,s,n,k,h3⟩ | ⟨bm,seen,en,clock,h2,h3,h4,h5,h6,h7,h8⟩
    ·exact .inl ⟨h2,ym,s,n,k,by rw[hh l h1];exact h3⟩
    ·refine .inr ⟨bm,seen,en,clock,by rw[hh l h1];exact h2,(m.imm _ h3).1,by rw[(m.imm _ h3).2];exact h4,h5,h6,
       ⟨h7.1,fun i e p a b=>⟨(h7.2 i e p a b).1,(h7.2 i e p a b).2.1,gr (h7.2 i e p a b).2.2 (Ac.Jp (h7.2 i e p a b).2.1)⟩⟩,fun p hp=>?_⟩
     obtain⟨e,g1,g2,g3,g4,g5⟩:=h8 p hp
     exact⟨e,g1,g2,g3,g4,gr g5 (Ac.Jp g4)⟩
  | lp D n fr ps asg body st p=>
    obtain⟨l,rec,h1,h0,h2,h3,h4,h5,h6,h7,h8,h9,pr,um,qi⟩:=h
    exact⟨l,rec,by rw[hρ];exact h1,h0,by rw[hh l h1];exact h2,h3,h4,h5,h6,h7,h8,h9,fun t=>by rw[aI];exact(pr t).ren m,(m.imm _ um).1,by rw[(m.imm _ um).2];exact qi⟩
  | gone=>show C'.ρ (π r)=none;rw[hρ];exact h
  | resv=>show C'.ρ (π r)=none;rw[hρ];exact h
def swp (i j r:Nat):Nat:=if r=i then j else if r=j then i else r
theorem dL (i j r:Nat):swp i j (swp i j r)=r:=by
  unfold swp;repeat' split
  all_goals omega
def Yl (i j:Nat) (oi oj:Ak) (H:List Ak):List Ak:=((X7 (swp i j) H).set i (j8 (swp i j) oj)).set j (j8 (swp i j) oi)
theorem oR {i j:Nat} {oi oj:Ak} {H:List Ak} (hi:H[i]? =some oi) (hj:H[j]? =some oj) (r:Nat):(Yl i j oi oj H)[swp i j r]? =(H[r]?).map (j8 (swp i j)):=by
  have h1:=(Aoz.1 hi).1
  have h2:=(Aoz.1 hj).1
  unfold Yl
  by_cases e1:r=i
  ·subst e1
   rw[show swp r j r=j by simp[swp],List.getElem?_set_self (by simpa[Yr]using h2),hi];rfl
  by_cases e2:r=j
  ·subst e2
   rw[show swp i r r=i by unfold swp;rw[if_neg e1,if_pos rfl],List.getElem?_set_ne (fun h=>e1 h),List.getElem?_set_self (by simpa[Yr]using h1),hj];rfl
  ·rw[show swp i j r=r by unfold swp;rw[if_neg e1,if_neg e2],List.getElem?_set_ne (fun h=>e2 h.symm),List.getElem?_set_ne (fun h=>e1 h.symm),dO]
theorem yX {i j:Nat} {oi oj:Ak} {H:List Ak}:(Yl i j oi oj H).length=H.length:=by simp[Yl,Yr]
def Ctx.swap (C:Ctx) (i j:Nat) (oi oj:Ak):Ctx:={C with ρ:=fun r=>C.ρ (swp i j r),H:=Yl i j oi oj C.H}
theorem Inv.swap {W0:World} {C:Ctx} {w:World} (I:Inv W0 C w) {i j:Nat} {oi oj:Ak} (hi:C.H[i]? =some oi) (hj:C.H[j]? =some oj):Inv W0 (C.swap i j oi oj) w∧Nk (swp i j) C (C.swap i j oi oj) w w:=by
  have m:Nk (swp i j) C (C.swap i j oi oj) w w:=by
    refine⟨fun b hb=>⟨hb,rfl⟩,fun r o ho=>⟨?_,?_⟩⟩
    ·show(Yl i j oi oj C.H)[swp i j r]? =_
     rw[oR hi hj,ho];rfl
    ·show C.ρ (swp i j (swp i j r))=_
     rw[dL]
  refine⟨⟨I.below,I.sub,I.old,fun r l h=>?_,fun r r' l l' h h' e=>?_,fun r o h=>?_⟩,m⟩
  ·have h1:=(Aoz.1 hi).1
   have h2:=(Aoz.1 hj).1
   have:=I.sep _ _ h
   refine⟨?_,this.2⟩
   show r<(Yl i j oi oj C.H).length
   rw[yX]
   have h3:=this.1
   unfold swp at h3
   split at h3
   ·omega
   ·split at h3<;>omega
  ·have:=I.inj _ _ _ _ h h' e
   have:=congrArg (swp i j) this
   rwa [dL,dL]at this
  ·have h':(Yl i j oi oj C.H)[swp i j (swp i j r)]? =some o:=by rw[dL];exact h
   rw[oR hi hj]at h'
   cases ho:C.H[swp i j r]? with
   | none=>rw[ho]at h';cases h'
   | some o0=>
     rw[ho]at h'
     obtain rfl:=Aoy h'
     have:=(I.objs _ _ ho).ren m ho (fun _ _=>rfl)
     rwa [dL]at this
theorem Sub.swap {outer:List Fr} {fr:Fr} {H:List Ak} (i j:Nat) {oi oj:Ak} (hi:H[i]? =some oi) (hj:H[j]? =some oj) (ho:fQ (swp i j) outer=outer):Sub outer fr H (jH (swp i j) fr) (Yl i j oi oj H):=by
  intro W0 A0 ds n outs a w R
  obtain⟨C,rfl,rfl,I,hF,hO,hn,hd⟩:=R.ex
  have key:=I.swap hi hj
  have hren:∀ (outer:List Fr) (i':Nat) f,outer[i']? =some f→(fQ (swp i j) outer)[i']? =some (jH (swp i j) f):=by
    intro outer
    induction outer with
    | nil=>simp
    | cons g l ih=>
      intro i' f h
      match i',h with
      | 0,h=>simp at h;subst h;simp[fQ]
      | i'+1,h=>simpa[fQ]using ih i' f (by simpa using h)
  refine⟨C.swap i j oi oj,rfl,rfl,key.1,fun t=>?_,⟨hO.1,fun i' t f h1 h2=>?_⟩,hn,hd⟩
  ·rw[aI];exact(hF t).ren key.2
  ·have h3:=hren outer i' f h2
   rw[ho,h2]at h3
   have e:=Aoy h3
   rw[e]
   intro t'
   rw[aI]
   exact(hO.2 i' t f h1 h2 t').ren key.2
def C0 (P:Program) (f:FuncId) (args:List Ac) (R:Ac→List Ak→Prop):Prop:=
  ∀ (A:Nat→Prop) (w:World) (vs:List Value),(∀ b,A b→b<w.heap.size)→R4 (Ctx.imm A) w vs args→
    Calls P f vs.toArray w fun e w'=>∃ v r C',e= .returned v∧R r C'.H∧C'.A0=A∧Inv w C' w'∧A9 C' w' v r
section
variable {P:Program}
theorem C0.intro {f:FuncId} {fn:Func} {c:Code} {n:Nat} {args:List Ac} {R:Ac→List Ak→Prop} (hf:P.funcs[f]? =some fn) (hb:fn.body=some c) (hn:fn.ntmps=n) (hlen:args.length≤n)
    (h:AWP none P n c (qret P fn R) [] (Ub args 0) []):C0 P f args R:=by
  intro A w vs hA fc
  refine calls_of_wp hf hb ?_
  have fm:(vs.toArray++Array.replicate (fn.ntmps - vs.toArray.size) undef).size=n:=by
    have:=fc.1
    simp only[Array.size_append,List.size_toArray,Array.size_replicate];omega
  have I0:Inv w (Ctx.imm A) w:=⟨.refl _ _,hA,fun b hb _=>hb,by simp[Ctx.imm],by simp[Ctx.imm],by simp[Ctx.imm]⟩
  refine wp_mono (wpIn_wide.1 <| h w A [] [] _ w ⟨Ctx.imm A,rfl,rfl,I0,Wv fc _,.nil,fm,rfl⟩) ?_
  intro e a' w' ⟨fr',H',hq,hR⟩
  obtain⟨C,rfl,gq,I,hF,_,_,hd⟩:=hR.ex
  have key:∀ (h:match Gz (aresult P fr' C.H) fn.results.toList with | some vs=>R (aret vs) C.H | none=>False),a'.defers=[]∧∃ v,(results fn a'.tmps).run P w'= .ok v w'∧
   ∃ v' r C',Ending.returned v= .returned v'∧R r C'.H∧C'.A0=A∧Inv w C' w'∧A9 C' w' v' r:=by
    intro h
    split at h
    ·rename_i rs ri
     obtain⟨v,h1,h2⟩:=Rf (P:=P) I hF ri
     exact⟨hd,v,h1,v,_,C,rfl,h,gq,I,h2⟩
    ·exact h.elim
  cases e with
  | normal=>exact key hq
  | ret=>exact key hq
  | _=>exact hq.elim
theorem C0.mono {f:FuncId} {args:List Ac} {R R':Ac→List Ak→Prop} (h:C0 P f args R) (hR:∀ r H,R r H→R' r H):C0 P f args R':=by
  intro A w vs hA hv
  exact(h A w vs hA hv).mono fun e w' ⟨v,r,C',h1,h2,h3⟩=>⟨v,r,C',h1,hR _ _ h2,h3⟩
theorem C0.pure {f:FuncId} {args:List Ac} {R:Ac→Prop} (h:C0 P f args (rfrz R)):Ad P f args R:=by
  intro A w vs hA hv
  refine(h A w vs hA hv).mono fun e w' ⟨v,r,C,he,hR,gq,I,hr⟩=>?_
  unfold rfrz at hR
  split at hR
  ·rename_i r' gg
   have h3:=Ze I hr gg
   refine⟨v,r',he,hR,h3.1,I.below,A9.ground' (fun b hb=>?_) h3.2 h3.1⟩
   rcases hb with hb | hb
   ·by_cases ah:b<w.heap.size
    ·exact .inl (gq ▸ I.old b hb ah)
    ·exact .inr ⟨by omega,I.sub b hb⟩
   ·exact .inr hb
  ·exact hR.elim
theorem C0.fresh {f:FuncId} {args:List Ac} {R:Ac→Prop} (h:C0 P f args (rfre R)):A8 P f args R:=by
  intro A w vs hA hv
  refine(h A w vs hA hv).mono fun e w' ⟨v,r,C,he,hR,gq,I,hr⟩=>?_
  unfold rfre at hR
  split at hR
  ·rename_i r' gg
   exact⟨v,r',he,hR.1,(Ze I hr gg).1,I.below,uC I hr gg hR.2⟩
  ·exact hR.elim
theorem C0.weak {f:FuncId} {args:List Ac} {R R':Ac→List Ak→Prop} (h:C0 P f args R) (hR:∀ r H,R r H→∃ H',Wz H H'∧r.R2 H'.length=true∧nG H'.length H'=true∧R' r H'):C0 P f args R':=by
  intro A w vs hA hv
  refine(h A w vs hA hv).mono fun e w' ⟨v,r,C,he,hr,gq,I,bc⟩=>?_
  obtain⟨H',h1,h2,h3,h4⟩:=hR r _ hr
  have S:F5 w A [] 1 [] [] [(0,r)] C.H {tmps:=#[v],defers:=[]} w':=by
    refine⟨C,rfl,gq,I,fun t=>?_,.nil,rfl,rfl⟩
    cases t with
    | zero=>exact bc
    | succ t=>exact .any _
  have S':=Sub.weak (outer:=[]) (fr:=[(0,r)]) (fr':=[(0,r)]) h1 (show dM [(0,r)] [(0,r)] from⟨by unfold vle;simp only[get,if_true];split<;>simp,trivial⟩)
    (.inr ⟨by simp[Mc,h2],h3,rfl⟩) w A [] 1 [] _ w' S
  obtain⟨C',e1,e2,I',hF,_⟩:=S'.ex
  exact⟨v,r,C',he,e1 ▸ h4,e2,I',hF 0⟩
def Dm (P:Program) (f:FuncId) (args:List Ac) (sz:Nat) (xs:List (List Ac)):Prop:=C0 P f args fun q H=>q= .own 0 0 0 xs.length∧H=[.row 0 sz xs]
theorem Dm.of {f:FuncId} {args:List Ac} {sz:Nat} {xs:List (List Ac)} (h:C0 P f args fun q H=>∃ v,q= .own 0 v 0 xs.length∧H=[.row v sz xs]):Dm P f args sz xs:=by
  intro A w vs hA hv
  refine(h A w vs hA hv).mono fun e w' ⟨v,r,C,he,⟨ver,hr,hH⟩,gq,I,bc⟩=>?_
  subst hr
  have dh:C.H[0]? =some (.row ver sz xs):=by rw[hH];rfl
  have m:∀ b,C.A b→C.A b∧w'.heap[b]? =w'.heap[b]?:=fun b hb=>⟨hb,rfl⟩
  refine⟨v,.own 0 0 0 xs.length,{C with H:=[.row 0 sz xs]},he,⟨rfl,rfl⟩,gq,⟨I.below,I.sub,I.old,fun r l hl=>?_,I.inj,fun r o ho=>?_⟩,?_⟩
  ·have:=I.sep r l hl
   rw[hH]at this;exact this
  ·match r,ho with
   | 0,ho=>
     simp at ho;subst ho
     obtain⟨e1,e2,e3,e4⟩:=I.objs 0 _ dh
     refine⟨e1,e2,e3,?_⟩
     rcases e4 with⟨e4,e5⟩ | ⟨l,arr,T,e4,e5,e6,e7,e8⟩
     ·exact .inl ⟨e4,e5⟩
     ·refine .inr ⟨l,arr,T,e4,e5,e6,e7,fun i k x c h1 h2=>?_⟩
      obtain⟨u,hu,ea⟩:=e8 i k x c h1 h2
      exact⟨u,hu,A9.ground (C:=C) (C2:={C with H:=[.row 0 sz xs]}) m ea (Ac.H5 (e3 x (Aor h1) c (Aor h2)))⟩
  ·cases bc with
   | own a _ cap _ _ _ hk dm cq hv=>
     refine .own a _ cap 0 0 0 ⟨_,rfl,by simp⟩ dm cq fun v' sz' xs' h'=>?_
     simp at h';obtain⟨rfl,rfl,rfl⟩:=h'
     obtain⟨_,hv⟩:=hv _ _ _ dh
     exact⟨Nat.le_refl _,fun _=>hv rfl⟩
def Ctx.join (C C':Ctx):Ctx:={A0:=C.A0,A:=fun b=>C.A b∨C'.A b,ρ:=fun r=>if r<C.H.length then C.ρ r else C'.ρ (r - C.H.length),H:=C.H++X7 (·+C.H.length) C'.H}
theorem Inv.join {W0:World} {C C':Ctx} {w w':World} (I:Inv W0 C w) (I':Inv w C' w') (gq:∀ b,C'.A0 b→C.A b):Inv W0 (C.join C') w'∧Fe C w (C.join C') w'∧Nk (·+C.H.length) C' (C.join C') w' w':=by
  have ah:∀ {r:Nat} {o:Ak},C.H[r]? =some o→r<C.H.length:=fun h=>(Aoz.1 h).1
  have m:Fe C w (C.join C') w':=by
    refine⟨fun b hb=>⟨.inl hb,I'.below.block b (I.sub b hb)⟩,by simp[Ctx.join],rfl,fun r hr=>?_⟩
    exact .same hr (by simp only[Ctx.join];rw[List.getElem?_append_left hr.lt]) (by simp only[Ctx.join];rw[if_pos hr.lt])
  have mr:Nk (·+C.H.length) C' (C.join C') w' w':=by
    refine⟨fun b hb=>⟨.inr hb,rfl⟩,fun r o ho=>⟨?_,?_⟩⟩
    ·simp only[Ctx.join]
     rw[List.getElem?_append_right (by omega),show r+C.H.length - C.H.length=r by omega,dO,ho];rfl
    ·simp only[Ctx.join]
     rw[if_neg (by omega),show r+C.H.length - C.H.length=r by omega]
  refine⟨⟨I.below.trans (I'.below.mono I.below.size),fun b hb=>?_,fun b hb nh=>?_,fun r l h=>?_,fun r r' l l' h h' e=>?_,fun r o h=>?_⟩,m,mr⟩
  ·rcases hb with hb | hb
   ·exact Nat.lt_of_lt_of_le (I.sub b hb) I'.below.size
   ·exact I'.sub b hb
  ·rcases hb with hb | hb
   ·exact I.old b hb nh
   ·have:=I.below.size
    exact I.old b (gq b (I'.old b hb (by omega))) nh
  ·simp only[Ctx.join]at h ⊢
   rw[Aou,Yr]
   split at h
   ·have:=I.sep r l h
    refine⟨by omega,this.2.1,Nat.lt_of_lt_of_le this.2.2.1 I'.below.size,fun hb=>?_⟩
    rcases hb with hb | hb
    ·exact this.2.2.2 hb
    ·exact this.2.2.2 (gq _ (I'.old _ hb this.2.2.1))
   ·have:=I'.sep _ l h
    have hs:=I.below.size
    refine⟨by omega,by omega,this.2.2.1,fun hb=>?_⟩
    rcases hb with hb | hb
    ·have:=I.sub _ hb;omega
    ·exact this.2.2.2 hb
  ·simp only[Ctx.join]at h h'
   split at h<;>split at h'
   ·exact I.inj _ _ _ _ h h' e
   ·have:=(I.sep _ _ h).2.2.1;have:=(I'.sep _ _ h').2.1;omega
   ·have:=(I.sep _ _ h').2.2.1;have:=(I'.sep _ _ h).2.1;omega
   ·have:=I'.inj _ _ _ _ h h' e;omega
  ·by_cases hr:r<C.H.length
   ·have h':=h
    simp only[Ctx.join]at h'
    rw[List.getElem?_append_left hr]at h'
    exact(I.objs r o h').mono m (by simp only[Ctx.join];rw[if_pos hr]) fun l hl=>I'.below.block _ (I.sep r l hl).2.2.1
   ·have h':=h
    simp only[Ctx.join]at h'
    rw[List.getElem?_append_right (by omega),dO]at h'
    cases ho:C'.H[r - C.H.length]? with
    | none=>rw[ho]at h';cases h'
    | some o0=>
      rw[ho]at h'
      obtain rfl:=Aoy h'
      have:=(I'.objs _ _ ho).ren mr ho (fun _ _=>rfl)
      rwa [show r - C.H.length+C.H.length=r by omega]at this
theorem Ah.own {f:FuncId} {args:List Ac} {st:List Fr} {H:List Ak} {K:Ac→List Ak→Prop} {R:Ac→List Ak→Prop} (hc:∀ (args:Array Value) (w:World),(callFunc f args).run P w= .ok (.enter f args) w)
    (spec:C0 P f args R) (hg:args.all Ac.g2=true) (n:Nat) (hn:H.length=n) (h:∀ r H',R r H'→K (ren (·+n) r) (H++X7 (·+n) H')):Ah P (.func f []) args st H K:=by
  subst hn
  intro W0 C w outs fv vs I hH hO hf hl hv
  subst hH
  cases hf with
  | func _ caps _ et _=>
    have:caps=#[]:=Array.eq_empty_of_size_eq_zero (by simpa using et)
    subst this
    refine .inl ⟨f,#[],rfl,hc,?_⟩
    have fc:R4 (Ctx.imm C.A) w vs args:=
      ⟨hl,fun i v a h1 h2=>A9.ground' (C:=C) (C2:=Ctx.imm C.A) (fun b hb=>hb) (hv i v a h1 h2) (List.all_eq_true.1 hg a (Aor h2))⟩
    rw[show vs.toArray++#[]=vs.toArray by simp]
    refine(spec _ w vs I.sub fc).mono fun e w' ⟨v,r,C',he,hR,gq,I',hr⟩=>?_
    have key:=I.join I' (fun b hb=>gq ▸ hb)
    exact⟨v,_,C.join C',he,h r _ hR,rfl,hr.ren key.2.2,key.1,hO.mono key.2.1⟩
def Ctx.place (C C':Ctx) (id:Nat) (o:Ak):Ctx:={A0:=C.A0,A:=fun b=>C.A b∨C'.A b,ρ:=fun r=>if r=id then C'.ρ 0 else C.ρ r,H:=G9 C.H id o}
theorem Inv.place {W0:World} {C C':Ctx} {w w':World} (I:Inv W0 C w) (I':Inv w C' w') (gq:∀ b,C'.A0 b→C.A b) {id:Nat} (bw:Py C.H id) {v sz:Nat} {xs:List (List Ac)} (hH:C'.H=[.row v sz xs]) :
    Inv W0 (C.place C' id (.row v sz xs)) w'∧Fe C w (C.place C' id (.row v sz xs)) w'∧Nk (fun _=>id) C' (C.place C' id (.row v sz xs)) w' w':=by
  have m:Fe C w (C.place C' id (.row v sz xs)) w':=by
    refine⟨fun b hb=>⟨.inl hb,I'.below.block b (I.sub b hb)⟩,Td,rfl,fun r hr=>?_⟩
    have bj:r≠id:=fun e=>bw.unknown (e ▸ hr)
    exact .same hr (Ob bw bj) (by simp only[Ctx.place];rw[if_neg bj])
  have mr:Nk (fun _=>id) C' (C.place C' id (.row v sz xs)) w' w':=by
    refine⟨fun b hb=>⟨.inr hb,rfl⟩,fun r o ho=>?_⟩
    rw[hH]at ho
    match r,ho with
    | 0,ho=>
      simp at ho;subst ho
      exact⟨Gk bw,by simp[Ctx.place]⟩
  have dh:C'.H[0]? =some (.row v sz xs):=by rw[hH];rfl
  refine⟨⟨I.below.trans (I'.below.mono I.below.size),fun b hb=>?_,fun b hb nh=>?_,fun r l h=>?_,fun r r' l l' h h' e=>?_,fun r o h=>?_⟩,m,mr⟩
  ·rcases hb with hb | hb
   ·exact Nat.lt_of_lt_of_le (I.sub b hb) I'.below.size
   ·exact I'.sub b hb
  ·rcases hb with hb | hb
   ·exact I.old b hb nh
   ·have:=I.below.size
    exact I.old b (gq b (I'.old b hb (by omega))) nh
  ·simp only[Ctx.place]at h ⊢
   split at h
   ·rename_i e
    have:=I'.sep _ l h
    have hs:=I.below.size
    refine⟨by rw[e];exact vC bw,by omega,this.2.2.1,fun hb=>?_⟩
    rcases hb with hb | hb
    ·have:=I.sub _ hb;omega
    ·exact this.2.2.2 hb
   ·have:=I.sep r l h
    refine⟨Nat.lt_of_lt_of_le this.1 Td,this.2.1,Nat.lt_of_lt_of_le this.2.2.1 I'.below.size,fun hb=>?_⟩
    rcases hb with hb | hb
    ·exact this.2.2.2 hb
    ·exact this.2.2.2 (gq _ (I'.old _ hb this.2.2.1))
  ·simp only[Ctx.place]at h h'
   split at h<;>split at h'
   ·omega
   ·have:=(I.sep _ _ h').2.2.1;have:=(I'.sep _ _ h).2.1;omega
   ·have:=(I.sep _ _ h).2.2.1;have:=(I'.sep _ _ h').2.1;omega
   ·exact I.inj _ _ _ _ h h' e
  ·by_cases e:r=id
   ·subst e
    have h':=h
    simp only[Ctx.place]at h'
    rw[Gk bw,Aot]at h'
    subst h'
    have:=(I'.objs 0 _ dh).ren mr dh (fun _ _=>rfl)
    exact this
   ·have h':=h
    simp only[Ctx.place]at h'
    rw[Ob bw e]at h'
    exact(I.objs r o h').mono m (by simp only[Ctx.place];rw[if_neg e]) fun l hl=>I'.below.block _ (I.sep r l hl).2.2.1
theorem Ah.rowAt {f:FuncId} {args args':List Ac} {st:List Fr} {H:List Ak} {K:Ac→List Ak→Prop} {sz:Nat} {xs:List (List Ac)} (hc:∀ (args:Array Value) (w:World),(callFunc f args).run P w= .ok (.enter f args) w)
    (spec:Dm P f args' sz xs) (ha:(args.all Ac.g2=true∧args'=args)∨(Gz (Pz H) args=some args'∧(xs.all fun x=>x.all Ac.f0)=true)) (id:Nat) (bw:Py H id) (h:K (.own id 0 0 xs.length) (G9 H id (.row 0 sz xs))):Ah P (.func f []) args st H K:=by
  intro W0 C w outs fv vs I hH hO hf hl hv
  subst hH
  cases hf with
  | func _ caps _ et _=>
    have:caps=#[]:=Array.eq_empty_of_size_eq_zero (by simpa using et)
    subst this
    refine .inl ⟨f,#[],rfl,hc,?_⟩
    rw[show vs.toArray++#[]=vs.toArray by simp]
    rcases ha with⟨hg,rfl⟩ | ⟨ha,ya⟩
    ·have fc:R4 (Ctx.imm C.A) w vs args':=
       ⟨hl,fun i v a h1 h2=>A9.ground' (C:=C) (C2:=Ctx.imm C.A) (fun b hb=>hb) (hv i v a h1 h2) (List.all_eq_true.1 hg a (Aor h2))⟩
     refine(spec _ w vs I.sub fc).mono fun e w' ⟨v,r,C',he,⟨hq,gk⟩,gq,I',hr⟩=>?_
     subst hq
     have key:=I.place I' (fun b hb=>gq ▸ hb) bw gk
     exact⟨v,_,C.place C' id _,he,h,rfl,hr.ren key.2.2,key.1,hO.mono key.2.1⟩
    ·have hm:=Ly ha
     have fc:R4 (Ctx.imm fun b=>C.A b∨(W0.heap.size≤b∧b<w.heap.size)) w vs args':=by
       refine⟨by rw[hl,hm.1],fun i v a h1 h2=>?_⟩
       have ah:i<args.length:=by rw[hm.1];exact C9 h2
       exact(Zf I (hv i v _ h1 (Aoq ah)) (hm.2 i _ a (Aoq ah) h2)).2
     refine(spec _ w vs (fun b hb=>?_) fc).mono fun e w' ⟨v,r,C',he,⟨hq,gk⟩,gq,I',hr⟩=>?_
     ·rcases hb with hb | hb
      ·exact I.sub b hb
      ·exact hb.2
     subst hq
     have dh:C'.H[0]? =some (.row 0 sz xs):=by rw[gk];rfl
     have I2:Inv w {C' with A0:=fun _=>False,A:=fun _=>False} w':=by
       refine⟨I'.below,fun b hb=>hb.elim,fun b hb=>hb.elim,fun r l hl=>?_,I'.inj,fun r o ho=>?_⟩
       ·have:=I'.sep r l hl;exact⟨this.1,this.2.1,this.2.2.1,fun hb=>hb⟩
       ·rw[gk]at ho
        match r,ho with
        | 0,ho=>
          simp at ho;subst ho
          obtain⟨e1,e2,e3,e4⟩:=I'.objs 0 _ dh
          refine⟨e1,e2,e3,?_⟩
          rcases e4 with⟨e4,e5⟩ | ⟨l,arr,T,e4,e5,e6,e7,e8⟩
          ·exact .inl ⟨e4,e5⟩
          ·refine .inr ⟨l,arr,T,e4,e5,e6,e7,fun i k x c h1 h2=>?_⟩
           obtain⟨u,hu,ea⟩:=e8 i k x c h1 h2
           refine⟨u,hu,ea.flat ?_⟩
           have h3:=List.all_eq_true.1 ya x (Aor h1)
           have h4:=List.all_eq_true.1 h3 c (Aor h2)
           cases c<;>simp_all [Ac.f0,Ac.f1,Ac.f2]
     have jg:A9 {C' with A0:=fun _=>False,A:=fun _=>False} w' v (.own 0 0 0 xs.length):=by
       cases hr with
       | own a _ cap _ _ _ hk dm cq hv=>exact .own a _ cap 0 0 0 hk dm cq hv
     have key:=I.place I2 (fun b hb=>hb.elim) bw gk
     exact⟨v,_,C.place _ id _,he,h,rfl,jg.ren key.2.2,key.1,hO.mono key.2.1⟩
end
end Go.Ab
