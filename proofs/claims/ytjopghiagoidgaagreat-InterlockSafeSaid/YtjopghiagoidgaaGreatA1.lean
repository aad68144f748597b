/- Our own texts: a layer of abstract values over the model, the walks of the functions, the plain laws; joined and shortened by a small program of our own (wip/dce2.py, wip/pack.py). -/
import Derived.Calls
import Derived.Tactics2
import Derived.Below
import Derived.Deep.LoopGhost
import Derived.KernelRfl
import Derived.Laws.Shifts
import Derived.Laws.CopyRow
import Derived.Laws.AppendOwn
import Derived.Laws.MakeOwn
import Derived.Laws.StructEq
import Derived.Maps.RangeRun
import Derived.Lib.SliceRun
import Derived.TacticsIn
import Derived.OrdersIn
import Derived.Sort.LoopGhostIn
import Derived.RangeFuncRecord
namespace Go
theorem Ako {p : Prop} [Decidable p] (h : decide p = false) : ¬ p := of_decide_eq_false h
theorem Akp {p : Prop} [Decidable p] (h : decide p = true) : p := of_decide_eq_true h
theorem Akq {p : Prop} [Decidable p] (h : p) : decide p = true := decide_eq_true h
theorem Akr {p : Prop} [Decidable p] (h : ¬ p) : decide p = false := decide_eq_false h
theorem Aks {α : Type} {l : List α} {i : Nat} (h : i < l.length) : l[i]? = some l[i] := List.getElem?_eq_getElem h
theorem Akt {α : Type} {l : List α} {i : Nat} {a : α} (h : l[i]? = some a) : a ∈ l := List.mem_of_getElem? h
theorem Aku {α β : Type} {a : α} {f : α → Option β} : (some a).bind f = f a := rfl
theorem Akv {α : Type} {a b : α} : (some a = some b) = (a = b) := Option.some.injEq a b
theorem Akw {α : Type} {a b : List α} : (a ++ b).length = a.length + b.length := List.length_append
theorem Akx {α : Type} {n : Nat} {a : α} : (List.replicate n a).length = n := List.length_replicate
theorem Aky {α β : Type} {l : List α} (f : α → β) : (l.map f).length = l.length := List.length_map f
theorem Akz {α : Type} {a : α} {s t : List α} : a ∈ s ++ t ↔ a ∈ s ∨ a ∈ t := List.mem_append
theorem Ak0 {α : Type} {a b : α} (h : some a = some b) : a = b := Option.some.inj h
theorem Ak1 {α : Type} {l : List α} {i : Nat} {a : α} : l[i]? = some a ↔ ∃ h : i < l.length, l[i] = a := List.getElem?_eq_some_iff
end Go
namespace Go.Ab
open Go Go.RowKit
inductive Ac where
  | any
  | bool (b:Bool)
  | int (k:IntKind) (n:Int)
  | str (s:ByteArray)
  | agg (cs:List Ac)
  | tuple (vs:List Ac)
  | nils
  | z0
  | sl (sz:Nat) (xs:List (List Ac))
  | own (r v lo len:Nat)
  | eptr (cs:List Ac)
  | ptr (r k:Nat)
  | rptr (r v i k:Nat)
  | nilm
  | map (r:Nat)
  | vmap (es:List (Int×Ac))
  | func (f:FuncId) (caps:List Ac)
  | iter (r:Nat)
  | yld (r:Nat)
  deriving Inhabited
abbrev Fr:=List (Nat×Ac)
def get:Fr→Nat→Ac
  | [],_=>.any
  | (k,v)::r,t=>if k=t then v else get r t
def Ac.g0:Ac→Bool
  | .any | .agg _ | .tuple _ | .own _ _ _ _ | .ptr _ _ | .rptr _ _ _ _ | .map _ | .func _ _ | .iter _ | .yld _=>false
  | _=>true
def Ac.g1:Ac→Bool
  | .agg cs=>cs.all Ac.g0
  | v=>v.g0
def Ac.g2:Ac→Bool
  | .tuple vs=>vs.all Ac.g1
  | v=>v.g1
def Ac.f0:Ac→Bool
  | .any | .bool _ | .int _ _ | .str _ | .nils | .z0 | .nilm=>true
  | _=>false
def Ac.f1:Ac→Bool
  | .agg cs=>cs.all Ac.f0
  | v=>v.f0
def Ac.f2:Ac→Bool
  | .tuple vs=>vs.all Ac.f1
  | v=>v.f1
inductive A2 where
  | box (cs:List Ac)
  | row (v sz:Nat) (xs:List (List Ac))
  | mp (es:List (Int×Ac))
  | mpo (q:Bool) (es:List (Int×Ac))
  | it (left:List (Int×Ac)) (cur:Option (Int×Ac))
  | lp (D n:Nat) (fr:Fr) (ps:Array Tmp) (asg body:Code) (st:LoopState) (p:Option Code)
  | gone
  | resv
def A2.Abp:A2→Bool
  | .mp _ | .mpo _ _=>true
  | _=>false
def A2.Acu:A2→Bool
  | .lp _ _ _ _ _ _ _ _=>true
  | _=>false
structure Loc where
  b:Nat
  base:Nat
  cap:Nat
structure Ctx where
  A0:Nat→Prop
  A:Nat→Prop
  ρ:Nat→Option Loc
  H:List A2
def Ctx.known (C:Ctx) (r:Nat):Prop:=∃ o,C.H[r]? =some o∧o≠.resv
def tri:Nat→Nat
  | 0=>0
  | n+1=>tri n+n+1
def zz (a:Int):Nat:=if 0≤a then 2*a.toNat else 2*(-a).toNat - 1
def pk (a b:Int):Int:=((tri (zz a+zz b)+zz b:Nat):Int)
def uJ:Bool→Value→Int→Prop
  | false,v,n=>v= .int .i64 n
  | true,v,n=>∃ a b,v= .agg #[.int .i64 a,.int .i64 b]∧n=pk a b
structure Qg (q:Bool) (entries:Array MapEntry) (clock:Nat) (es:List (Int×Ac)):Prop where
  size:entries.size=es.length
  keys:∀ (i:Nat) (e:MapEntry) (p:Int×Ac),entries[i]? =some e→es[i]? =some p→uJ q e.key p.1
  nodup:(es.map (·.1)).Nodup
  born:∀ e∈entries.toList,e.born<clock
  bnodup:(entries.toList.map (·.born)).Nodup
theorem Qg.V4 {entries:Array MapEntry} {clock:Nat} {es:List (Int×Ac)} (h:Qg false entries clock es):∀ (i:Nat) (e:MapEntry) (p:Int×Ac),entries[i]? =some e→es[i]? =some p→e.key= .int .i64 p.1:=h.keys
inductive Bk (C:Ctx) (w:World):Value→Ac→Prop
  | any (v:Value):Bk C w v .any
  | bool (b:Bool):Bk C w (.bool b) (.bool b)
  | int (k:IntKind) (n:Int):Bk C w (.int k n) (.int k n)
  | str (s:ByteArray):Bk C w (.string s) (.str s)
  | agg (arr:Array Value) (cs:List Ac) (h:arr.size=cs.length)
      (hc:∀ (i:Nat) (u:Value) (c:Ac),arr[i]? =some u→cs[i]? =some c→Bk C w u c):Bk C w (.agg arr) (.agg cs)
  | tuple (arr:Array Value) (cs:List Ac) (h:arr.size=cs.length)
      (hc:∀ (i:Nat) (u:Value) (c:Ac),arr[i]? =some u→cs[i]? =some c→Bk C w u c):Bk C w (.tuple arr) (.tuple cs)
  | nils:Bk C w (.slice none 0 0) .nils
  | z0 (a:Option Addr):Bk C w (.slice a 0 0) .z0
  | sl0 (a:Option Addr) (cap sz:Nat) (cd:cap≤maxLen):Bk C w (.slice a 0 cap) (.sl sz [])
  | sl (a:Addr) (len cap:Nat) (xs:List (List Ac)) (sz:Nat) (u:Nat→Value)
   (cm:a.spot=none) (hlen:len=xs.length) (cw:len≤cap) (cd:cap≤maxLen)
   (hA:C.A a.block) (bl:1≤sz) (bu:∀ x∈xs,x.length=sz) (hg:∀ x∈xs,∀ c∈x,Ac.g0 c=true)
   (aq:∀ j,j<xs.length*sz→w.cell? ⟨a.block,a.off+j,none⟩=some (u j))
   (ay:∀ (i k:Nat) (x:List Ac) (c:Ac),xs[i]? =some x→x[k]? =some c→Bk C w (u (i*sz+k)) c) :
   Bk C w (.slice (some a) len cap) (.sl sz xs)
  | own (a:Option Addr) (len cap r v lo:Nat) (hr:C.known r) (cw:len≤cap) (cd:cap≤maxLen)
      (hv:∀ v' sz xs,C.H[r]? =some (.row v' sz xs)→v≤v'∧(v=v'→lo+len≤xs.length∧
        (cap=0∨∃ l,C.ρ r=some l∧a=some ⟨l.b,l.base+lo*sz,none⟩∧l.base+(lo+cap)*sz≤l.cap))) :
      Bk C w (.slice a len cap) (.own r v lo len)
  | eptr (a:Addr) (cs:List Ac) (u:Nat→Value) (cm:a.spot=none) (hA:C.A a.block) (hg:∀ c∈cs,Ac.g0 c=true)
      (aq:∀ j,j<cs.length→w.cell? ⟨a.block,a.off+j,none⟩=some (u j))
      (ay:∀ (j:Nat) (c:Ac),cs[j]? =some c→Bk C w (u j) c):Bk C w (.pointer (some a)) (.eptr cs)
  | ptr (a:Addr) (r k:Nat) (hr:C.known r)
      (h:∀ cs,C.H[r]? =some (.box cs)→∃ l,C.ρ r=some l∧a=⟨l.b,k,none⟩):Bk C w (.pointer (some a)) (.ptr r k)
  | rptr (a:Addr) (r v i k:Nat) (hr:C.known r)
      (h:∀ v' sz xs,C.H[r]? =some (.row v' sz xs)→v≤v'∧(v=v'→i<xs.length∧∃ l,C.ρ r=some l∧a=⟨l.b,l.base+i*sz+k,none⟩)) :
      Bk C w (.pointer (some a)) (.rptr r v i k)
  | nilm:Bk C w (.map none) .nilm
  | map (b r:Nat) (hr:C.known r) (h:∀ o,C.H[r]? =some o→o.Abp=true→∃ l,C.ρ r=some l∧b=l.b):Bk C w (.map (some b)) (.map r)
  | vmap0:Bk C w (.map none) (.vmap [])
  | vmap (b:Nat) (es:List (Int×Ac)) (entries:Array MapEntry) (clock:Nat)
      (hA:C.A b) (hg:∀ p∈es,Ac.g1 p.2=true) (hh:w.heap[b]? =some (.map entries clock)) (cj:Qg false entries clock es)
      (ay:∀ (i:Nat) (e:MapEntry) (p:Int×Ac),entries[i]? =some e→es[i]? =some p→Bk C w e.val p.2):Bk C w (.map (some b)) (.vmap es)
  | func (f:FuncId) (arr:Array Value) (cs:List Ac) (h:arr.size=cs.length)
      (hc:∀ (i:Nat) (u:Value) (c:Ac),arr[i]? =some u→cs[i]? =some c→Bk C w u c):Bk C w (.func (.func f) #[] arr) (.func f cs)
  | iter (a:Addr) (r:Nat) (hr:C.known r) (cm:a.off=0∧a.spot=none)
      (h:∀ left cur,C.H[r]? =some (.it left cur)→∃ l,C.ρ r=some l∧a.block=l.b):Bk C w (.pointer (some a)) (.iter r)
  | yld (b r:Nat) (hr:C.known r) (h:∀ o,C.H[r]? =some o→o.Acu=true→∃ l,C.ρ r=some l∧b=l.b):Bk C w (.func (.yield b) #[] #[]) (.yld r)
def D2 (C C':Ctx) (r:Nat):Prop:=
  match C'.H[r]? with
  | some (.box _)=>(∃ cs,C.H[r]? =some (.box cs))∧C'.ρ r=C.ρ r
  | some (.row v sz xs')=>(∃ xs,C.H[r]? =some (.row v sz xs)∧xs.length≤xs'.length∧C'.ρ r=C.ρ r)∨(∃ v0 sz0 xs0,C.H[r]? =some (.row v0 sz0 xs0)∧v0<v)
  | some (.mp _)=>(∃ o,C.H[r]? =some o∧o.Abp=true)∧C'.ρ r=C.ρ r
  | some (.mpo _ _)=>(∃ o,C.H[r]? =some o∧o.Abp=true)∧C'.ρ r=C.ρ r
  | some (.it _ _)=>(∃ l c,C.H[r]? =some (.it l c))∧C'.ρ r=C.ρ r
  | some (.lp _ _ _ _ _ _ _ _)=>(∃ o,C.H[r]? =some o∧o.Acu=true)∧C'.ρ r=C.ρ r
  | some .gone=>True
  | some .resv=>False
  | none=>False
theorem D2.known {C C':Ctx} {r:Nat} (h:D2 C C' r):C'.known r:=by
  unfold D2 at h
  split at h
  all_goals first
    | exact h.elim
    | (rename_i h1;exact⟨_,h1,by simp⟩)
    | (rename_i h1 h2;exact⟨_,h1,by simp⟩)
    | (rename_i h1 _;exact⟨_,h1,by simp⟩)
structure Fl (C:Ctx) (w:World) (C':Ctx) (w':World):Prop where
  imm:∀ b,C.A b→C'.A b∧w'.heap[b]? =w.heap[b]?
  len:C.H.length≤C'.H.length
  A0:C'.A0=C.A0
  obj:∀ r,C.known r→D2 C C' r
theorem Hl {w w':World} {a:Addr} (h:w'.heap[a.block]? =w.heap[a.block]?):w'.cell? a=w.cell? a:=by
  unfold World.cell?;rw[h]
theorem Bk.mono {C C':Ctx} {w w':World} (m:Fl C w C' w') {v:Value} {a:Ac} (h:Bk C w v a):Bk C' w' v a:=by
  induction h with
  | any v=>exact .any v
  | bool b=>exact .bool b
  | int k n=>exact .int k n
  | str s=>exact .str s
  | agg arr cs h _ ih=>exact .agg arr cs h ih
  | tuple arr cs h _ ih=>exact .tuple arr cs h ih
  | nils=>exact .nils
  | z0 a=>exact .z0 a
  | sl0 a cap sz cd=>exact .sl0 a cap sz cd
  | sl a len cap xs sz u cm hlen cw cd hA bl bu hg aq ay ih=>
    refine .sl a len cap xs sz u cm hlen cw cd (m.imm _ hA).1 bl bu hg (fun j hj=>?_) ih
    rw[Hl (w:=w)];exact aq j hj
    exact(m.imm _ hA).2
  | own a len cap r v lo hr cw cd hv=>
    refine .own a len cap r v lo (m.obj r hr).known cw cd (fun v' sz xs h=>?_)
    have:=m.obj r hr
    unfold D2 at this
    rw[h]at this
    rcases this with⟨xs0,h0,hl,hρ⟩ | ⟨v0,sz0,xs0,h0,af⟩
    ·have h1:=hv _ _ _ h0
     refine⟨h1.1,fun e=>?_⟩
     obtain⟨h2,h3⟩:=h1.2 e
     exact⟨by omega,by rw[hρ];exact h3⟩
    ·have h1:=hv _ _ _ h0
     exact⟨by omega,fun e=>by omega⟩
  | eptr a cs u cm hA hg aq ay ih=>
    refine .eptr a cs u cm (m.imm _ hA).1 hg (fun j hj=>?_) ih
    rw[Hl (w:=w)];exact aq j hj
    exact(m.imm _ hA).2
  | ptr a r k hr h=>
    refine .ptr a r k (m.obj r hr).known (fun cs h'=>?_)
    have:=m.obj r hr
    unfold D2 at this
    rw[h']at this
    obtain⟨⟨cs0,h0⟩,hρ⟩:=this
    rw[hρ];exact h _ h0
  | rptr a r v i k hr h=>
    refine .rptr a r v i k (m.obj r hr).known (fun v' sz xs h'=>?_)
    have:=m.obj r hr
    unfold D2 at this
    rw[h']at this
    rcases this with⟨xs0,h0,hl,hρ⟩ | ⟨v0,sz0,xs0,h0,af⟩
    ·have h1:=h _ _ _ h0
     refine⟨h1.1,fun e=>?_⟩
     obtain⟨h2,h3⟩:=h1.2 e
     exact⟨by omega,by rw[hρ];exact h3⟩
    ·have h1:=h _ _ _ h0
     exact⟨by omega,fun e=>by omega⟩
  | nilm=>exact .nilm
  | map b r hr h=>
    refine .map b r (m.obj r hr).known (fun o h' hl=>?_)
    have:=m.obj r hr
    unfold D2 at this
    rw[h']at this
    cases o<;>first | (cases hl;done) | (obtain⟨⟨o0,h0,sg⟩,hρ⟩:=this;rw[hρ];exact h _ h0 sg)
  | vmap0=>exact .vmap0
  | vmap b es entries clock hA hg hh cj ay ih=>
    exact .vmap b es entries clock (m.imm _ hA).1 hg (by rw[(m.imm _ hA).2];exact hh) cj ih
  | func f arr cs h _ ih=>exact .func f arr cs h ih
  | iter a r hr cm h=>
    refine .iter a r (m.obj r hr).known cm (fun left cur h'=>?_)
    have:=m.obj r hr
    unfold D2 at this
    rw[h']at this
    obtain⟨⟨l0,c0,h0⟩,hρ⟩:=this
    rw[hρ];exact h _ _ h0
  | yld b r hr h=>
    refine .yld b r (m.obj r hr).known (fun o h' hl=>?_)
    have:=m.obj r hr
    unfold D2 at this
    cases o<;>first | (cases hl;done) | skip
    rw[h']at this
    obtain⟨⟨o0,h0,sg⟩,hρ⟩:=this
    rw[hρ];exact h _ h0 sg
def m8 (C:Ctx) (w:World) (es:List MapEntry) (left:List (Int×Ac)):Prop:=
  es.length=left.length∧∀ (i:Nat) (e:MapEntry) (p:Int×Ac),es[i]? =some e→left[i]? =some p→e.key= .int .i64 p.1∧Ac.g1 p.2=true∧Bk C w e.val p.2
theorem m8.mono {C C':Ctx} {w w':World} (m:Fl C w C' w') {es:List MapEntry} {left:List (Int×Ac)} (h:m8 C w es left):m8 C' w' es left:=
  ⟨h.1,fun i e p a b=>⟨(h.2 i e p a b).1,(h.2 i e p a b).2.1,(h.2 i e p a b).2.2.mono m⟩⟩
def Wf (C:Ctx) (w:World) (r:Nat):A2→Prop
  | .box cs=>∃ l arr T,C.ρ r=some l∧w.heap[l.b]? =some (.cells arr T (0,0))∧arr.size=cs.length∧
      ∀ (i:Nat) (u:Value) (c:Ac),arr[i]? =some u→cs[i]? =some c→Bk C w u c
  | .row _ sz xs=>1≤sz∧(∀ x∈xs,x.length=sz)∧(∀ x∈xs,∀ c∈x,Ac.g0 c=true)∧((xs=[]∧C.ρ r=none)∨∃ l arr T,C.ρ r=some l∧w.heap[l.b]? =some (.cells arr T (0,0))∧
      arr.size=l.cap∧l.base+xs.length*sz≤l.cap∧∀ (i k:Nat) (x:List Ac) (c:Ac),xs[i]? =some x→x[k]? =some c→∃ u,arr[l.base+(i*sz+k)]? =some u∧Bk C w u c)
  | .mp es=>∃ l entries clock,C.ρ r=some l∧w.heap[l.b]? =some (.map entries clock)∧Qg false entries clock es∧(∀ p∈es,Ac.g1 p.2=true)∧
      ∀ (i:Nat) (e:MapEntry) (p:Int×Ac),entries[i]? =some e→es[i]? =some p→Bk C w e.val p.2
  | .mpo q es=>∃ l entries clock,C.ρ r=some l∧w.heap[l.b]? =some (.map entries clock)∧Qg q entries clock es∧
      ∀ (i:Nat) (e:MapEntry) (p:Int×Ac),entries[i]? =some e→es[i]? =some p→Bk C w e.val p.2
  | .it left cur=>∃ l,C.ρ r=some l∧((left=[]∧cur=none∧∃ s n k,w.heap[l.b]? =some (.mapIter none s n k))∨
      ∃ bm seen entries clock,w.heap[l.b]? =some (.mapIter (some bm) clock seen clock)∧C.A bm∧w.heap[bm]? =some (.map entries clock)∧
        (∀ e∈entries.toList,e.born<clock)∧(entries.toList.map (·.born)).Nodup∧
        m8 C w (entries.toList.filter fun e=>!seen.contains e.born) left∧
        (∀ p,cur=some p→∃ e∈entries.toList,seen.back? =some e.born∧e.key= .int .i64 p.1∧Ac.g1 p.2=true∧Bk C w e.val p.2))
  | .lp D n fr ps asg body st p=>∃ l rec,C.ρ r=some l∧l.b=D+1∧w.heap[l.b]? =some (.loop rec)∧rec.params=ps∧rec.assign=asg∧rec.body=body∧rec.state=st∧rec.pending=p∧rec.defers=D∧rec.tmps.size=n∧
      (∀ t,Bk C w (rec.tmps.getD t undef) (get fr t))∧C.A D∧w.heap[D]? =some (.deferred (some []))
  | .gone=>C.ρ r=none
  | .resv=>C.ρ r=none
theorem Wf.mono {C C':Ctx} {w w':World} (m:Fl C w C' w') {r:Nat} {o:A2} (h:Wf C w r o) (hρ:C'.ρ r=C.ρ r)
    (hh:∀ l,C.ρ r=some l→w'.heap[l.b]? =w.heap[l.b]?):Wf C' w' r o:=by
  cases o with
  | box cs=>
    obtain⟨l,arr,T,h1,h2,h3,h4⟩:=h
    exact⟨l,arr,T,by rw[hρ];exact h1,by rw[hh l h1];exact h2,h3,fun i u c a b=>(h4 i u c a b).mono m⟩
  | row v sz xs=>
    obtain⟨h0,xv,sy,h⟩:=h
    refine⟨h0,xv,sy,?_⟩
    rcases h with⟨h1,h2⟩ | ⟨l,arr,T,h1,h2,h3,h4,h5⟩
    ·exact .inl ⟨h1,by rw[hρ];exact h2⟩
    ·refine .inr ⟨l,arr,T,by rw[hρ];exact h1,by rw[hh l h1];exact h2,h3,h4,fun i k x c a b=>?_⟩
     obtain⟨u,hu,hr⟩:=h5 i k x c a b
     exact⟨u,hu,hr.mono m⟩
  | mp es=>
    obtain⟨l,en,cl,h1,h2,h3,hg,h4⟩:=h
    exact⟨l,en,cl,by rw[hρ];exact h1,by rw[hh l h1];exact h2,h3,hg,fun i e p a b=>(h4 i e p a b).mono m⟩
  | mpo q es=>
    obtain⟨l,en,cl,h1,h2,h3,h4⟩:=h
    exact⟨l,en,cl,by rw[hρ];exact h1,by rw[hh l h1];exact h2,h3,fun i e p a b=>(h4 i e p a b).mono m⟩
  | it left cur=>
    obtain⟨l,h1,h⟩:=h
    refine⟨l,by rw[hρ];exact h1,?_⟩
    rcases h with⟨h2,xb,s,n,k,h3⟩ | ⟨bm,seen,en,clock,h2,h3,h4,h5,h6,h7,h8⟩
    ·exact .inl ⟨h2,xb,s,n,k,by rw[hh l h1];exact h3⟩
    ·refine .inr ⟨bm,seen,en,clock,by rw[hh l h1];exact h2,(m.imm _ h3).1,by rw[(m.imm _ h3).2];exact h4,h5,h6,h7.mono m,fun p hp=>?_⟩
     obtain⟨e,g1,g2,g3,g4,g5⟩:=h8 p hp
     exact⟨e,g1,g2,g3,g4,g5.mono m⟩
  | lp D n fr ps asg body st p=>
    obtain⟨l,rec,h1,h0,h2,h3,h4,h5,h6,h7,h8,h9,ob,sx,qu⟩:=h
    exact⟨l,rec,by rw[hρ];exact h1,h0,by rw[hh l h1];exact h2,h3,h4,h5,h6,h7,h8,h9,fun t=>(ob t).mono m,(m.imm _ sx).1,by rw[(m.imm _ sx).2];exact qu⟩
  | gone=>show C'.ρ r=none;rw[hρ];exact h
  | resv=>show C'.ρ r=none;rw[hρ];exact h
structure Inv (W0:World) (C:Ctx) (w:World):Prop where
  below:Below W0.heap.size W0 w
  sub:∀ b,C.A b→b<w.heap.size
  old:∀ b,C.A b→b<W0.heap.size→C.A0 b
  sep:∀ r l,C.ρ r=some l→r<C.H.length∧W0.heap.size≤l.b∧l.b<w.heap.size∧¬ C.A l.b
  inj:∀ r r' l l',C.ρ r=some l→C.ρ r'=some l'→l.b=l'.b→r=r'
  objs:∀ (r:Nat) o,C.H[r]? =some o→Wf C w r o
theorem Inv.step {W0:World} {C C':Ctx} {w w':World} (I:Inv W0 C w) (m:Fl C w C' w') (hb:Below W0.heap.size W0 w')
    (gq:∀ b,C'.A b→b<w'.heap.size) (hold:∀ b,C'.A b→b<W0.heap.size→C.A0 b) (hsep:∀ r l,C'.ρ r=some l→r<C'.H.length∧W0.heap.size≤l.b∧l.b<w'.heap.size∧¬ C'.A l.b)
    (hinj:∀ r r' l l',C'.ρ r=some l→C'.ρ r'=some l'→l.b=l'.b→r=r')
    (hobj:∀ (r:Nat) o,C'.H[r]? =some o→Wf C' w' r o∨(C.H[r]? =some o∧C'.ρ r=C.ρ r∧∀ l,C.ρ r=some l→w'.heap[l.b]? =w.heap[l.b]?)) :
    Inv W0 C' w':=by
  refine⟨hb,gq,by rw[m.A0];exact hold,hsep,hinj,fun r o h=>?_⟩
  rcases hobj r o h with h' | ⟨h1,h2,h3⟩
  ·exact h'
  ·exact(I.objs r o h1).mono m h2 h3
theorem Ac.Ib {a:Ac} (h:a.g0=true):a.g2=true:=by
  cases a<;>simp_all [Ac.g0,Ac.g1,Ac.g2]
theorem Ac.yH {a:Ac} (h:a.g0=true):a.g1=true:=by
  cases a<;>simp_all [Ac.g0,Ac.g1]
theorem Ac.Jt {a:Ac} (h:a.g1=true):a.g2=true:=by
  cases a<;>simp_all [Ac.g0,Ac.g1,Ac.g2]
theorem Bk.ground {C C2:Ctx} {w w2:World} (m:∀ b,C.A b→C2.A b∧w2.heap[b]? =w.heap[b]?) {v:Value} {a:Ac} (h:Bk C w v a) :
    a.g2=true→Bk C2 w2 v a:=by
  induction h with
  | any v=>exact fun _=>.any v
  | bool b=>exact fun _=>.bool b
  | int k n=>exact fun _=>.int k n
  | str s=>exact fun _=>.str s
  | agg arr cs h _ ih=>
    intro hg
    simp only[Ac.g2,Ac.g1,List.all_eq_true]at hg
    exact .agg arr cs h fun i u c a b=>ih i u c a b (Ac.Ib (hg c (Akt b)))
  | tuple arr cs h _ ih=>
    intro hg
    simp only[Ac.g2,List.all_eq_true]at hg
    exact .tuple arr cs h fun i u c a b=>ih i u c a b (Ac.Jt (hg c (Akt b)))
  | nils=>exact fun _=>.nils
  | z0 a=>exact fun _=>.z0 a
  | sl0 a cap sz cd=>exact fun _=>.sl0 a cap sz cd
  | sl a len cap xs sz u cm hlen cw cd hA bl bu hg aq ay ih=>
    intro _
    refine .sl a len cap xs sz u cm hlen cw cd (m _ hA).1 bl bu hg (fun j hj=>?_) fun i k x c a b=>ih i k x c a b (Ac.Ib (hg x (Akt a) c (Akt b)))
    rw[Hl (w:=w)];exact aq j hj
    exact(m _ hA).2
  | own=>intro h;simp[Ac.g2,Ac.g1,Ac.g0]at h
  | eptr a cs u cm hA hg aq ay ih=>
    intro _
    refine .eptr a cs u cm (m _ hA).1 hg (fun j hj=>?_) fun j c b=>ih j c b (Ac.Ib (hg c (Akt b)))
    rw[Hl (w:=w)];exact aq j hj
    exact(m _ hA).2
  | ptr=>intro h;simp[Ac.g2,Ac.g1,Ac.g0]at h
  | rptr=>intro h;simp[Ac.g2,Ac.g1,Ac.g0]at h
  | nilm=>exact fun _=>.nilm
  | map=>intro h;simp[Ac.g2,Ac.g1,Ac.g0]at h
  | vmap0=>exact fun _=>.vmap0
  | vmap b es entries clock hA hg hh cj ay ih=>
    intro _
    exact .vmap b es entries clock (m _ hA).1 hg (by rw[(m _ hA).2];exact hh) cj fun i e p a b=>ih i e p a b (Ac.Jt (hg p (Akt b)))
  | func=>intro h;simp[Ac.g2,Ac.g1,Ac.g0]at h
  | iter=>intro h;simp[Ac.g2,Ac.g1,Ac.g0]at h
  | yld=>intro h;simp[Ac.g2,Ac.g1,Ac.g0]at h
theorem Bk.flat {C C2:Ctx} {w w2:World} {v:Value} {a:Ac} (h:Bk C w v a):a.f2=true→Bk C2 w2 v a:=by
  induction h with
  | any v=>exact fun _=>.any v
  | bool b=>exact fun _=>.bool b
  | int k n=>exact fun _=>.int k n
  | str s=>exact fun _=>.str s
  | agg arr cs h _ ih=>
    intro hg
    simp only[Ac.f2,Ac.f1,List.all_eq_true]at hg
    refine .agg arr cs h fun i u c a b=>ih i u c a b ?_
    have:=hg c (Akt b)
    cases c<;>simp_all [Ac.f0,Ac.f1,Ac.f2]
  | tuple arr cs h _ ih=>
    intro hg
    simp only[Ac.f2,List.all_eq_true]at hg
    refine .tuple arr cs h fun i u c a b=>ih i u c a b ?_
    have:=hg c (Akt b)
    cases c<;>simp_all [Ac.f0,Ac.f1,Ac.f2]
  | nils=>exact fun _=>.nils
  | z0 a=>exact fun _=>.z0 a
  | nilm=>exact fun _=>.nilm
  | sl0=>intro h;simp[Ac.f2,Ac.f1,Ac.f0]at h
  | sl=>intro h;simp[Ac.f2,Ac.f1,Ac.f0]at h
  | own=>intro h;simp[Ac.f2,Ac.f1,Ac.f0]at h
  | eptr=>intro h;simp[Ac.f2,Ac.f1,Ac.f0]at h
  | ptr=>intro h;simp[Ac.f2,Ac.f1,Ac.f0]at h
  | rptr=>intro h;simp[Ac.f2,Ac.f1,Ac.f0]at h
  | map=>intro h;simp[Ac.f2,Ac.f1,Ac.f0]at h
  | vmap0=>intro h;simp[Ac.f2,Ac.f1,Ac.f0]at h
  | vmap=>intro h;simp[Ac.f2,Ac.f1,Ac.f0]at h
  | func=>intro h;simp[Ac.f2,Ac.f1,Ac.f0]at h
  | iter=>intro h;simp[Ac.f2,Ac.f1,Ac.f0]at h
  | yld=>intro h;simp[Ac.f2,Ac.f1,Ac.f0]at h
theorem D2.same {C C':Ctx} {r:Nat} (hk:C.known r) (h:C'.H[r]? =C.H[r]?) (hρ:C'.ρ r=C.ρ r):D2 C C' r:=by
  unfold D2
  rw[h]
  obtain⟨o,ho,bc⟩:=hk
  rw[ho]
  cases o with
  | box cs=>exact ⟨⟨cs,rfl⟩,hρ⟩
  | row v sz xs=>exact .inl ⟨xs,rfl,Nat.le_refl _,hρ⟩
  | mp es=>exact ⟨⟨_,rfl,rfl⟩,hρ⟩
  | mpo q es=>exact ⟨⟨_,rfl,rfl⟩,hρ⟩
  | it l c=>exact ⟨⟨l,c,rfl⟩,hρ⟩
  | lp=>exact ⟨⟨_,rfl,rfl⟩,hρ⟩
  | gone=>trivial
  | resv=>exact absurd rfl bc
theorem Ctx.known.lt {C:Ctx} {r:Nat} (h:C.known r):r<C.H.length:=by
  obtain⟨o,ho,_⟩:=h
  exact(Ak1.1 ho).1
theorem Fl.refl (C:Ctx) (w:World):Fl C w C w:=⟨fun _ h=>⟨h,rfl⟩,Nat.le_refl _,rfl,fun _ h=>.same h rfl rfl⟩
theorem Fl.trans {C1 C2 C3:Ctx} {w1 w2 w3:World} (m:Fl C1 w1 C2 w2) (k:Fl C2 w2 C3 w3):Fl C1 w1 C3 w3:=by
  refine⟨fun b h=>⟨(k.imm _ (m.imm _ h).1).1,(k.imm _ (m.imm _ h).1).2.trans (m.imm _ h).2⟩,Nat.le_trans m.len k.len,k.A0.trans m.A0,fun r hr=>?_⟩
  have h1:=m.obj r hr
  have h2:=k.obj r h1.known
  unfold D2 at h1 h2 ⊢
  cases h3:C3.H[r]? with
  | none=>rw[h3]at h2;exact h2.elim
  | some o=>
    rw[h3]at h2
    cases o with
    | box cs=>
      obtain⟨⟨c2,e2⟩,p2⟩:=h2
      rw[e2]at h1
      exact⟨h1.1,p2.trans h1.2⟩
    | row v sz xs=>
      rcases h2 with⟨xs2,e2,l2,p2⟩ | ⟨v0,sz0,xs0,e2,lt⟩
      ·rw[e2]at h1
       rcases h1 with⟨xs1,e1,l1,p1⟩ | ⟨v1,sz1,xs1,e1,lt1⟩
       ·exact .inl ⟨xs1,e1,by omega,p2.trans p1⟩
       ·exact .inr ⟨v1,sz1,xs1,e1,lt1⟩
      ·rw[e2]at h1
       rcases h1 with⟨xs1,e1,l1,p1⟩ | ⟨v1,sz1,xs1,e1,lt1⟩
       ·exact .inr ⟨v0,sz0,xs1,e1,lt⟩
       ·exact .inr ⟨v1,sz1,xs1,e1,by omega⟩
    | mp es=>
      obtain⟨⟨o2,e2,l2⟩,p2⟩:=h2
      rw[e2]at h1
      cases o2<;>first | (cases l2;done) | exact⟨h1.1,p2.trans h1.2⟩
    | mpo q es=>
      obtain⟨⟨o2,e2,l2⟩,p2⟩:=h2
      rw[e2]at h1
      cases o2<;>first | (cases l2;done) | exact⟨h1.1,p2.trans h1.2⟩
    | it l c=>
      obtain⟨⟨c2,d2,e2⟩,p2⟩:=h2
      rw[e2]at h1
      exact⟨h1.1,p2.trans h1.2⟩
    | lp=>
      obtain⟨⟨o2,e2,l2⟩,p2⟩:=h2
      rw[e2]at h1
      cases o2<;>first | (cases l2;done) | skip
      exact⟨h1.1,p2.trans h1.2⟩
    | gone=>trivial
    | resv=>exact h2.elim
def Ha (H:List A2) (id:Nat) (o:A2):List A2:=if id=H.length then H++[o]else H.set id o
def Oz (H:List A2) (id:Nat):Prop:=id=H.length∨H[id]? =some .resv
theorem Gi {H:List A2} {id:Nat} {o:A2} (h:Oz H id):(Ha H id o)[id]? =some o:=by
  unfold Ha
  rcases h with h | h
  ·rw[if_pos h,h];simp
  ·have af:=(Ak1.1 h).1
   rw[if_neg (by omega),List.getElem?_set_self af]
theorem Nu {H:List A2} {id r:Nat} {o:A2} (_h:Oz H id) (hr:r≠id):(Ha H id o)[r]? =H[r]?:=by
  unfold Ha
  split
  ·rename_i e
   by_cases h1:r<H.length
   ·rw[List.getElem?_append_left h1]
   ·have h2:(H++[o]).length≤r:=by rw[Akw];simp;omega
    rw[List.getElem?_eq_none h2,List.getElem?_eq_none (Nat.le_of_not_lt h1)]
  ·rw[List.getElem?_set_ne (fun e=>hr e.symm)]
theorem Rj {H:List A2} {id:Nat} {o:A2}:H.length≤(Ha H id o).length:=by
  unfold Ha;split<;>simp
theorem qM {H:List A2} {id:Nat} {o:A2} (h:Oz H id):id<(Ha H id o).length:=(Ak1.1 (Gi h)).1
def Ctx.set (C:Ctx) (r:Nat) (o:A2):Ctx:={C with H:=C.H.set r o}
def Ctx.new (C:Ctx) (id:Nat) (o:A2) (l:Loc):Ctx:={C with ρ:=fun r=>if r=id then some l else C.ρ r,H:=Ha C.H id o}
def Ctx.ghost (C:Ctx) (id:Nat) (o:A2):Ctx:={C with H:=Ha C.H id o}
def Ctx.more (C:Ctx) (S:Nat→Prop):Ctx:={C with A:=fun b=>C.A b∨S b}
theorem Inv.put {W0:World} {C:Ctx} {w w':World} (I:Inv W0 C w) {r:Nat} {o o':A2} {l:Loc} (hr:C.H[r]? =some o) (hρ:C.ρ r=some l)
    (hw:∀ b,b≠l.b→w'.heap[b]? =w.heap[b]?) (bu:w'.heap.size=w.heap.size) (hb:Below W0.heap.size W0 w')
    (hm:D2 C (C.set r o') r) (ho:Fl C w (C.set r o') w'→Wf (C.set r o') w' r o') :
    Inv W0 (C.set r o') w'∧Fl C w (C.set r o') w':=by
  have af:r<C.H.length:=(I.sep r l hρ).1
  have m:Fl C w (C.set r o') w':=by
    refine⟨fun b hA=>⟨hA,hw b fun e=>(I.sep r l hρ).2.2.2 (e ▸ hA)⟩,by simp[Ctx.set],rfl,fun r' ff=>?_⟩
    by_cases e:r'=r
    ·subst e;exact hm
    ·exact .same ff (by simp only[Ctx.set];rw[List.getElem?_set_ne (fun h=>e h.symm)]) rfl
  refine⟨I.step m hb (fun b hA=>by rw[bu];exact I.sub b hA) I.old (fun r' l' h'=>?_) I.inj (fun r' o'' h'=>?_),m⟩
  ·have:=I.sep r' l' h'
   exact⟨by simp only[Ctx.set,List.length_set];exact this.1,this.2.1,by rw[bu];exact this.2.2.1,this.2.2.2⟩
  ·by_cases e:r'=r
   ·subst e
    simp only[Ctx.set,List.getElem?_set_self af,Akv]at h'
    subst h'
    exact .inl (ho m)
   ·refine .inr ⟨?_,rfl,fun l' kd=>hw _ fun eb=>e (I.inj _ _ _ _ kd hρ eb)⟩
    simp only[Ctx.set]at h'
    rwa [List.getElem?_set_ne (fun h=>e h.symm)]at h'
theorem Oz.unknown {C:Ctx} {id:Nat} (h:Oz C.H id):¬ C.known id:=by
  rintro⟨o,ho,bc⟩
  rcases h with h | h
  ·rw[List.getElem?_eq_none (by omega)]at ho;cases ho
  ·rw[h]at ho;exact bc (Ak0 ho).symm
theorem Inv.fresh {W0:World} {C:Ctx} {w w':World} (I:Inv W0 C w) (id:Nat) (bj:Oz C.H id) (o:A2) (l:Loc) (hl:w.heap.size≤l.b) (kd:l.b<w'.heap.size)
    (hw:∀ b,b<w.heap.size→w'.heap[b]? =w.heap[b]?) (hb:Below W0.heap.size W0 w')
    (ho:Fl C w (C.new id o l) w'→Wf (C.new id o l) w' id o) :
    Inv W0 (C.new id o l) w'∧Fl C w (C.new id o l) w':=by
  have hle:w.heap.size≤w'.heap.size:=by omega
  have m:Fl C w (C.new id o l) w':=by
    refine⟨fun b hA=>⟨hA,hw b (I.sub b hA)⟩,Rj,rfl,fun r hr=>?_⟩
    have bc:r≠id:=fun e=>bj.unknown (e ▸ hr)
    exact .same hr (Nu bj bc) (by simp only[Ctx.new];rw[if_neg bc])
  refine⟨I.step m hb (fun b hA=>Nat.lt_of_lt_of_le (I.sub b hA) hle) I.old (fun r l' h'=>?_) (fun r r' l1 l2 h1 h2 e=>?_) (fun r o' h'=>?_),m⟩
  ·simp only[Ctx.new]at h' ⊢
   split at h'
   ·rename_i e
    simp only[Akv]at h'
    subst h'
    have:=I.below.size
    exact⟨by rw[e];exact qM bj,by omega,kd,fun hA=>by have:=I.sub _ hA;omega⟩
   ·have:=I.sep r l' h'
    exact⟨Nat.lt_of_lt_of_le this.1 Rj,this.2.1,by omega,this.2.2.2⟩
  ·simp only[Ctx.new]at h1 h2
   split at h1<;>split at h2
   ·omega
   ·simp only[Akv]at h1;subst h1
    have:=(I.sep _ _ h2).2.2.1;omega
   ·simp only[Akv]at h2;subst h2
    have:=(I.sep _ _ h1).2.2.1;omega
   ·exact I.inj _ _ _ _ h1 h2 e
  ·simp only[Ctx.new]at h' ⊢
   by_cases e:r=id
   ·subst e
    rw[Gi bj,Akv]at h'
    subst h'
    exact .inl (ho m)
   ·rw[Nu bj e]at h'
    exact .inr ⟨h',by rw[if_neg e],fun l' hl''=>hw _ (I.sep _ _ hl'').2.2.1⟩
theorem Inv.tP {W0:World} {C:Ctx} {w:World} (I:Inv W0 C w) {id:Nat} (bj:Oz C.H id):C.ρ id=none:=by
  rcases bj with h | h
  ·cases hρ:C.ρ id with
   | none=>rfl
   | some l=>have:=(I.sep _ _ hρ).1;omega
  ·exact I.objs _ _ h
theorem Inv.ghost {W0:World} {C:Ctx} {w:World} (I:Inv W0 C w) (id:Nat) (bj:Oz C.H id) (o:A2) (ho:Fl C w (C.ghost id o) w→Wf (C.ghost id o) w id o) :
    Inv W0 (C.ghost id o) w∧Fl C w (C.ghost id o) w:=by
  have m:Fl C w (C.ghost id o) w:=⟨fun b hA=>⟨hA,rfl⟩,Rj,rfl,fun r hr=>
    .same hr (Nu bj fun e=>bj.unknown (e ▸ hr)) rfl⟩
  refine⟨I.step m I.below I.sub I.old (fun r l' h'=>?_) I.inj (fun r o' h'=>?_),m⟩
  ·have:=I.sep r l' h'
   exact⟨Nat.lt_of_lt_of_le this.1 Rj,this.2⟩
  ·simp only[Ctx.ghost]at h' ⊢
   by_cases e:r=id
   ·subst e
    rw[Gi bj,Akv]at h'
    subst h'
    exact .inl (ho m)
   ·rw[Nu bj e]at h'
    exact .inr ⟨h',by trivial,fun l' _=>by trivial⟩
theorem Inv.grow {W0:World} {C:Ctx} {w w':World} (I:Inv W0 C w) (S:Nat→Prop) (hS:∀ b,S b→w.heap.size≤b∧b<w'.heap.size)
    (hb:Below w.heap.size w w'):Inv W0 (C.more S) w'∧Fl C w (C.more S) w':=by
  have m:Fl C w (C.more S) w':=⟨fun b hA=>⟨.inl hA,hb.block b (I.sub b hA)⟩,Nat.le_refl _,rfl,fun r hr=>.same hr rfl rfl⟩
  refine⟨I.step m (I.below.trans (hb.mono I.below.size)) (fun b hA=>?_) (fun b hA af=>?_) (fun r l' h'=>?_) I.inj (fun r o h=>.inr ⟨h,rfl,fun l hl=>hb.block _ (I.sep r l hl).2.2.1⟩),m⟩
  ·rcases hA with hA | hA
   ·exact Nat.lt_of_lt_of_le (I.sub b hA) hb.size
   ·exact(hS b hA).2
  ·rcases hA with hA | hA
   ·exact I.old b hA af
   ·have:=(hS b hA).1;have:=I.below.size;omega
  ·have:=I.sep r l' h'
   refine⟨this.1,this.2.1,Nat.lt_of_lt_of_le this.2.2.1 hb.size,fun hA=>?_⟩
   rcases hA with hA | hA
   ·exact this.2.2.2 hA
   ·have:=(hS _ hA).1;omega
theorem Inv.same {W0:World} {C:Ctx} {w w':World} (I:Inv W0 C w) (hh:w'.heap=w.heap) (hb:Below W0.heap.size W0 w'):Inv W0 C w'∧Fl C w C w':=by
  have m:Fl C w C w':=⟨fun b hA=>⟨hA,by rw[hh]⟩,Nat.le_refl _,rfl,fun r hr=>.same hr rfl rfl⟩
  exact⟨I.step m hb (fun b hA=>by rw[hh];exact I.sub b hA) I.old (fun r l h=>by rw[hh];exact I.sep r l h) I.inj (fun r o h=>.inr ⟨h,rfl,fun l hl=>by rw[hh]⟩),m⟩
def Ctx.reloc (C:Ctx) (r:Nat) (o:A2) (lx:Option Loc):Ctx:=
  {C with ρ:=fun r'=>if r'=r then lx else C.ρ r',H:=C.H.set r o}
theorem Inv.reloc {W0:World} {C:Ctx} {w w':World} (I:Inv W0 C w) {r v sz v' sz':Nat} {xs xs':List (List Ac)} (hr:C.H[r]? =some (.row v sz xs)) (hv:v<v') (lx:Option Loc)
    (hw:∀ b,b<w.heap.size→(∀ l,lx=some l→b≠l.b)→w'.heap[b]? =w.heap[b]?) (bu:w.heap.size≤w'.heap.size) (hb:Below W0.heap.size W0 w')
    (tp:∀ l,lx=some l→W0.heap.size≤l.b∧l.b<w'.heap.size∧¬ C.A l.b∧∀ r' l',r'≠r→C.ρ r'=some l'→l'.b≠l.b)
    (ho:Fl C w (C.reloc r (.row v' sz' xs') lx) w'→Wf (C.reloc r (.row v' sz' xs') lx) w' r (.row v' sz' xs')) :
    Inv W0 (C.reloc r (.row v' sz' xs') lx) w'∧Fl C w (C.reloc r (.row v' sz' xs') lx) w':=by
  have af:r<C.H.length:=(Ak1.1 hr).1
  have m:Fl C w (C.reloc r (.row v' sz' xs') lx) w':=by
    refine⟨fun b hA=>⟨hA,hw b (I.sub b hA) fun l e eb=>(tp l e).2.2.1 (eb ▸ hA)⟩,by simp[Ctx.reloc],rfl,fun r' ff=>?_⟩
    by_cases e:r'=r
    ·subst e
     unfold D2
     simp only[Ctx.reloc,List.getElem?_set_self af]
     exact .inr ⟨v,sz,xs,hr,hv⟩
    ·exact .same ff (by simp only[Ctx.reloc];rw[List.getElem?_set_ne (fun h=>e h.symm)]) (by simp only[Ctx.reloc];rw[if_neg e])
  refine⟨I.step m hb (fun b hA=>Nat.lt_of_lt_of_le (I.sub b hA) bu) I.old (fun r' l' h'=>?_) (fun r1 r2 l1 l2 h1 h2 e=>?_) (fun r' o h'=>?_),m⟩
  ·simp only[Ctx.reloc]at h' ⊢
   split at h'
   ·rename_i e
    have:=tp l' h'
    exact⟨by simp only[List.length_set];omega,this.1,this.2.1,this.2.2.1⟩
   ·have:=I.sep r' l' h'
    exact⟨by simp only[List.length_set];exact this.1,this.2.1,Nat.lt_of_lt_of_le this.2.2.1 bu,this.2.2.2⟩
  ·simp only[Ctx.reloc]at h1 h2
   split at h1<;>split at h2
   ·omega
   ·rename_i e1 e2
    exact absurd e.symm ((tp l1 h1).2.2.2 r2 l2 e2 h2)
   ·rename_i e1 e2
    exact absurd e ((tp l2 h2).2.2.2 r1 l1 e1 h1)
   ·exact I.inj _ _ _ _ h1 h2 e
  ·simp only[Ctx.reloc]at h' ⊢
   by_cases e:r'=r
   ·subst e
    simp only[List.getElem?_set_self af,Akv]at h'
    subst h'
    exact .inl (ho m)
   ·rw[List.getElem?_set_ne (fun h=>e h.symm)]at h'
    refine .inr ⟨h',by rw[if_neg e],fun l hl=>hw _ (I.sep r' l hl).2.2.1 fun l2 e2=>(tp l2 e2).2.2.2 r' l e hl⟩
def Ctx.freeze (C:Ctx) (r:Nat):Ctx:=
  {C with A:=fun b=>C.A b∨∃ l,C.ρ r=some l∧b=l.b,ρ:=fun r'=>if r'=r then none else C.ρ r',H:=C.H.set r .gone}
theorem Inv.freeze {W0:World} {C:Ctx} {w:World} (I:Inv W0 C w) (r:Nat):Inv W0 (C.freeze r) w∧Fl C w (C.freeze r) w:=by
  have m:Fl C w (C.freeze r) w:=by
    refine⟨fun b hA=>⟨.inl hA,rfl⟩,by simp[Ctx.freeze],rfl,fun r' hr=>?_⟩
    by_cases e:r'=r
    ·subst e
     unfold D2
     simp only[Ctx.freeze,List.getElem?_set_self hr.lt]
    ·exact .same hr (by simp only[Ctx.freeze];rw[List.getElem?_set_ne (fun h=>e h.symm)]) (by simp only[Ctx.freeze];rw[if_neg e])
  refine⟨I.step m I.below (fun b hA=>?_) (fun b hA af=>?_) (fun r' l' h'=>?_) (fun r1 r2 l1 l2 h1 h2 e=>?_) (fun r' o h'=>?_),m⟩
  ·rcases hA with hA | ⟨l,hl,rfl⟩
   ·exact I.sub b hA
   ·exact(I.sep r l hl).2.2.1
  ·rcases hA with hA | ⟨l,hl,rfl⟩
   ·exact I.old b hA af
   ·have:=(I.sep r l hl).2.1;omega
  ·simp only[Ctx.freeze]at h' ⊢
   split at h'
   ·cases h'
   ·rename_i e
    have:=I.sep r' l' h'
    refine⟨by simp;exact this.1,this.2.1,this.2.2.1,fun hA=>?_⟩
    rcases hA with hA | ⟨l,hl,eb⟩
    ·exact this.2.2.2 hA
    ·exact e (I.inj _ _ _ _ h' hl eb)
  ·simp only[Ctx.freeze]at h1 h2
   split at h1
   ·cases h1
   split at h2
   ·cases h2
   exact I.inj _ _ _ _ h1 h2 e
  ·simp only[Ctx.freeze]at h' ⊢
   by_cases e:r'=r
   ·subst e
    have hr:r'< C.H.length:=by
      have:=(Ak1.1 h').1
      simpa using this
    simp only[List.getElem?_set_self hr,Akv]at h'
    subst h'
    exact .inl (by simp[Wf])
   ·rw[List.getElem?_set_ne (fun h=>e h.symm)]at h'
    exact .inr ⟨h',by rw[if_neg e],fun _ _=>by trivial⟩
def put (fr:Fr) (d:Option Tmp) (v:Ac):Fr:=
  match d with
  | some k=>(k,v)::fr
  | none=>fr
def Ym:Value→Ac
  | .bool b=>.bool b
  | .int k n=>.int k n
  | .string s=>.str s
  | .slice none 0 0=>.nils
  | .map none=>.nilm
  | _=>.any
def aconst:Value→Ac
  | .agg cs=>.agg (cs.toList.map Ym)
  | .tuple vs=>if vs.size=0 then .tuple []else .any
  | v=>Ym v
def ev (fr:Fr):Operand→Ac
  | .tmp t=>get fr t
  | .const v=>aconst v
  | .global _=>.any
  | .func f=>.func f []
def acells:Ac→Option (List Ac)
  | .agg cs=>some cs
  | .tuple _ | .any=>none
  | v=>some [v]
def Ac.one:Ac→Bool
  | .any | .agg _ | .tuple _=>false
  | _=>true
def Bs (P:Program) (t:TypeId):Nat:=((P.info? t).map (·.size)).getD 0
def bytesOf (P:Program) (t:TypeId):Nat:=((P.info? t).map (·.bytes)).getD 0
def okT (P:Program) (t:TypeId):Bool:=(P.info? t).isSome&&(P.underlying t).isSome
def Me (P:Program) (t:TypeId):Bool:=match P.underlying t with | some (.struct _) | some (.array _ _)=>true | _=>false
def F5 (P:Program) (t:TypeId):Option TypeId:=match P.underlying t with | some (.slice e)=>some e | _=>none
def zF (P:Program) (t:TypeId):Option (Nat×TypeId):=match P.underlying t with | some (.array n e)=>some (n,e) | _=>none
def zeroV (P:Program) (t:TypeId):Option Value:=(P.info? t).bind (·.zero)
def Ca (P:Program) (t:TypeId):List Ac:=match zeroV P t with | some v=>v.cells.toList.map Ym | none=>[]
def azero (P:Program) (t:TypeId):Ac:=match zeroV P t with | some v=>aconst v | none=>.any
def Bp (P:Program) (t:TypeId) (f:Nat):Option (Nat×Nat):=
  match P.underlying t with
  | some (.struct fs)=>(fs[f]?).map fun x=>(x.offset,Bs P x.type)
  | _=>none
def placesOf (P:Program) (t:TypeId):Option (List (Nat×Nat)):=
  match P.underlying t with
  | some (.struct fs)=>fs.toList.mapM (fun f=>(P.info? f.type).map fun i=>(f.offset,i.size))
  | _=>none
def splice (cells:List Ac) (off:Nat) (part:List Ac):List Ac:=cells.take off++part++cells.drop (off+part.length)
def chunk (sz:Nat):Nat→List Ac→List (List Ac)
  | 0,_=>[]
  | n+1,l=>l.take sz::chunk sz n (l.drop sz)
def iZ (c a b:Ac) (K:Ac→Prop):Prop:=
  match c with
  | .bool cv=>match a,b with
    | .bool x,.bool y=>K (.bool (bif cv then x else y))
    | _,_=>(cv=true→K a)∧(cv=false→K b)
  | _=>False
def fY (x y:Int):Int:=x / 2 ^ y.toNat
def Abj (x y:Int):Int:=x*2 ^ y.toNat
def tI (o:BinOp) (k k':IntKind):Prop:=
  match o with
  | .shl=>True
  | .shr=>True
  | _=>k=k'
def bH (o:BinOp) (k:IntKind) (x y:Int) (K:Ac→Prop):Prop:=
  match o with
  | .add=>K (.int k (k.wrap (x+y)))
  | .sub=>K (.int k (k.wrap (x - y)))
  | .mul=>K (.int k (k.wrap (x*y)))
  | .quo=>y≠0∧K (.int k (k.wrap (x.tdiv y)))
  | .rem=>y≠0∧K (.int k (x.tmod y))
  | .eql=>K (.bool (decide (x=y)))
  | .neq=>K (.bool (decide (x≠y)))
  | .lss=>K (.bool (decide (x<y)))
  | .leq=>K (.bool (decide (x≤y)))
  | .gtr=>K (.bool (decide (y<x)))
  | .geq=>K (.bool (decide (y≤x)))
  | .shr=>(0≤y∧y≤8)∧K (.int k (fY x y))
  | .shl=>(0≤y∧y≤8)∧K (.int k (k.wrap (Abj x y)))
  | _=>False
def sA (P:Program) (T:TypeId):Option (List (Nat×Bool)):=
  match P.underlying T with
  | some (.struct fs)=>
    if P.eqGuardType P.depth T=false∧P.stoodInHeld T=false∧fs.toList.all (fun f=>f.name != "_"&&okT P f.type)=true then
     fs.toList.mapM fun f=>match P.underlying f.type with | some (.int _)=>some (f.offset,false) | some .bool=>some (f.offset,true) | _=>none
    else none
  | _=>none
def aR (P:Program) (g:TypeId→Option (List (Nat×Bool))):List Field→Option (List (Nat×Bool))
  | []=>some []
  | f::fs=>(match P.underlying f.type with
     | some (.int _)=>some [(f.offset,false)]
     | some .bool=>some [(f.offset,true)]
     | some (.struct _)=>(g f.type).bind fun l:List (Nat×Bool)=>if (l.all (fun p=>p.1<Bs P f.type)&&l.any (fun p=>p.1+1 ==Bs P f.type))=true then some (l.map fun p:Nat×Bool=>(p.1+f.offset,p.2))else none
     | _=>none).bind fun a=>(aR P g fs).map fun b=>a++b
def Yf (P:Program):Nat→TypeId→Option (List (Nat×Bool))
  | 0,_=>none
  | n+1,T=>match P.underlying T with
    | some (.struct fs)=>if P.stoodInHeld T=false∧fs.toList.all (fun f=>f.name != "_"&&okT P f.type)=true then aR P (Yf P n) fs.toList else none
    | _=>none
def yQ (P:Program) (T:TypeId):Option (List (Nat×Bool)):=if P.eqGuardType P.depth T=false then Yf P 4 T else none
def Fy (xs ys:List Ac):List (Nat×Bool)→Option Bool
  | []=>some true
  | (o,false)::os=>match xs[o]?,ys[o]? with
    | some (.int k a),some (.int k' b)=>if k=k' then(Fy xs ys os).map fun r=>decide (a=b)&&r else none
    | _,_=>none
  | (o,true)::os=>match xs[o]?,ys[o]? with
    | some (.bool a),some (.bool b)=>(Fy xs ys os).map fun r=>(a ==b)&&r
    | _,_=>none
def qQ (P:Program) (o:BinOp) (T:TypeId) (x y:Ac) (K:Ac→Prop):Prop:=
  match x,y with
  | .int k a,.int k' b=>tI o k k'∧bH o k a b K
  | .bool a,.bool b=>P.underlying T=some .bool∧match o with
    | .eql=>K (.bool (a ==b))
    | .neq=>K (.bool (a !=b))
    | _=>False
  | .agg cs,.agg ds=>match sA P T with
    | some offs=>match Fy cs ds offs with
      | some r=>match o with
        | .eql=>K (.bool r)
        | .neq=>K (.bool (!r))
        | _=>False
      | none=>False
    | none=>match yQ P T with
      | some offs=>match Fy cs ds offs with
        | some r=>match o with
          | .eql=>K (.bool r)
          | .neq=>K (.bool (!r))
          | _=>False
        | none=>False
      | none=>False
  | _,_=>False
def aUn (o:UnOp) (x:Ac) (K:Ac→Prop):Prop:=
  match o,x with
  | .not,.bool b=>K (.bool (!b))
  | .neg,.int k n=>K (.int k (k.wrap (-n)))
  | _,_=>False
def eS (P:Program) (s d:TypeId) (x:Ac) (K:Ac→Prop):Prop:=
  match P.underlying s,P.underlying d,x with
  | some (.int _),some (.int k),.int _ n=>K (.int k (k.wrap n))
  | _,_,_=>False
def Je (agg:Bool) (n:Nat) (cs:List Ac):Ac:=if agg then .agg (cs.take n)else cs.headD .any
def Bo (sz:Nat) (xs:List (List Ac)) (n:Int) (K:List Ac→Prop):Prop:=0≤n∧n<xs.length∧∀ y,xs[n.toNat]? =some y→y.length=sz→K y
def Dm (sz:Nat) (xs:List (List Ac)) (i:Nat) (K:List Ac→Prop):Prop:=∀ y,xs[i]? =some y→y.length=sz→K y
def Acv (K:Ac→Prop) (y:List Ac):Prop:=K (.eptr y)
def Acb (P:Program) (T:TypeId) (k:Nat) (K:Ac→Prop) (y:List Ac):Prop:=K (Je (Me P T) (Bs P T) (y.drop k))
def X0 (P:Program) (T:TypeId) (p:Ac) (H:List A2) (K:Ac→Prop):Prop:=
  okT P T=true∧match p with
  | .ptr r k=>match H[r]? with
    | some (.box cs)=>k+(if Me P T then Bs P T else 1)≤cs.length∧K (Je (Me P T) (Bs P T) (cs.drop k))
    | _=>False
  | .rptr r v i k=>match H[r]? with
    | some (.row v' sz xs)=>v=v'∧k+(if Me P T then Bs P T else 1)≤sz∧Dm sz xs i (Acb P T k K)
    | _=>False
  | .eptr cs=>(if Me P T then Bs P T else 1)≤cs.length∧K (Je (Me P T) (Bs P T) cs)
  | _=>False
inductive Eff where
  | none
  | new (id:Nat) (o:A2)
  | set (r:Nat) (o:A2)
def Eff.app (H:List A2):Eff→List A2
  | .none=>H
  | .new id o=>Ha H id o
  | .set r o=>H.set r o
def zU (r v sz:Nat) (xs:List (List Ac)) (i k:Nat) (vs:List Ac) (K:Ac→Eff→Prop) (y:List Ac):Prop:=K (.tuple []) (.set r (.row v sz (xs.set i (splice y k vs))))
def Xx (P:Program) (T:TypeId) (p v:Ac) (H:List A2) (K:Ac→Eff→Prop):Prop:=
  match acells v with
  | some vs=>okT P T=true∧vs.length=Bs P T∧vs.all Ac.one=true∧match p with
    | .ptr r k=>match H[r]? with
      | some (.box cs)=>k+vs.length≤cs.length∧K (.tuple []) (.set r (.box (splice cs k vs)))
      | _=>False
    | .rptr r v i k=>match H[r]? with
      | some (.row v' sz xs)=>v=v'∧vs.all Ac.g0=true∧k+vs.length≤sz∧Dm sz xs i (zU r v' sz xs i k vs K)
      | _=>False
    | _=>False
  | none=>False
def sY (P:Program) (T:TypeId) (id:Nat) (K:Ac→Eff→Prop):Prop:=
  (zeroV P T).isSome=true∧K (.ptr id 0) (.new id (.box (Ca P T)))
def wQ (x:Ac) (id:Nat) (K:Ac→Eff→Prop):Prop:=
  match acells x with
  | some cs=>K (.ptr id 0) (.new id (.box cs))
  | none=>False
def Lf (P:Program) (T:TypeId) (p:Ac) (f:Nat) (K:Ac→Prop):Prop:=
  match Bp P T f with
  | some (off,n)=>1≤n∧match p with
    | .ptr r k=>K (.ptr r (k+off))
    | .rptr r v i k=>K (.rptr r v i (k+off))
    | .eptr cs=>K (.eptr (cs.drop off))
    | _=>False
  | none=>False
def Z1 (P:Program) (T:TypeId) (x:Ac) (f:Nat) (K:Ac→Prop):Prop:=
  match P.underlying T,x with
  | some (.struct fs),.agg cs=>match fs[f]? with
    | some g=>okT P g.type=true∧Me P g.type=false∧g.offset<cs.length∧K (cs.getD g.offset .any)
    | none=>False
  | _,_=>False
def singles:List Ac→List (List Ac)
  | []=>[]
  | c::r=>[c]::singles r
theorem Wj:∀ l:List Ac,(singles l).length=l.length
  | []=>rfl
  | c::r=>by rw[singles,List.length_cons,List.length_cons,Wj r]
theorem St:∀ (l:List Ac) (i:Nat),(singles l)[i]? =l[i]?.map fun c=>[c]
  | [],i=>by simp[singles]
  | c::r,0=>rfl
  | c::r,i+1=>by simpa[singles]using St r i
def Jf (P:Program) (T:TypeId) (x i:Ac) (H:List A2) (K:Ac→Prop):Prop:=
  match F5 P T,i with
  | some e,.int _ n=>okT P e=true∧match x with
    | .sl sz xs=>sz=Bs P e∧Bo sz xs n (Acv K)
    | .own r v lo len=>match H[r]? with
      | some (.row v' sz _)=>v=v'∧sz=Bs P e∧0≤n∧n<len∧K (.rptr r v (lo+n.toNat) 0)
      | _=>False
    | _=>False
  | none,.int _ n=>match zF P T,x with
    | some (len,e),.ptr r k=>okT P e=true∧0≤n∧n<len∧K (.ptr r (k+n.toNat*Bs P e))
    | some (len,e),.eptr cs=>okT P e=true∧0≤n∧n<len∧K (.eptr (cs.drop (n.toNat*Bs P e)))
    | _,_=>False
  | _,_=>False
def Za (place:Nat→Option (Nat×Nat)) (cells:List Ac):List (Nat×Ac)→Option (List Ac)
  | []=>some cells
  | (i,v)::rest=>
    match place i,acells v with
    | some (off,size),some cs=>if cs.length≠size∨off+cs.length > cells.length then none else Za place (splice cells off cs) rest
    | _,_=>none
def Z3 (P:Program) (T:TypeId) (parts:List (Nat×Ac)) (K:Ac→Prop):Prop:=
  (zeroV P T).isSome=true∧match placesOf P T with
  | some pl=>match Za (fun i=>pl[i]?) (Ca P T) parts with
    | some cs=>K (.agg cs)
    | none=>False
  | none=>False
def reps:Nat→List Ac→List Ac
  | 0,_=>[]
  | n+1,cs=>cs++reps n cs
def Nv (P:Program) (T:TypeId) (len:Nat) (parts:List (Nat×Ac)) (id:Nat) (K:Ac→Eff→Prop):Prop:=
  match F5 P T with
  | some e=>(zeroV P e).isSome=true∧1≤Bs P e∧(Ca P e).length=Bs P e∧len*Bs P e≤16777216∧
    match Za (fun i=>some (i*Bs P e,Bs P e)) (reps len (Ca P e)) parts with
    | some cs=>cs.all Ac.g0=true∧K (.own id 0 0 len) (.new id (.row 0 (Bs P e) (chunk (Bs P e) len cs)))
    | none=>False
  | none=>False
def Z2 (x:Ac) (H:List A2):Option (Nat×List (List Ac)):=
  match x with
  | .sl sz xs=>some (sz,xs)
  | .own r v lo len=>match H[r]? with
    | some (.row v' sz xs)=>if v=v' then some (sz,(xs.drop lo).take len)else none
    | _=>none
  | _=>none
def m0 (P:Program) (T:TypeId) (x:Ac) (H:List A2) (K:Ac→Prop):Prop:=
  match P.underlying T,x with
  | some (.slice _),.sl _ xs=>xs.length≤9223372036854775807→K (.int .i64 xs.length)
  | some (.slice _),.own _ _ _ len=>len≤9223372036854775807→K (.int .i64 len)
  | some (.slice _),.nils | some (.slice _),.z0=>K (.int .i64 0)
  | some .string,.str s=>K (.int .i64 s.size)
  | some (.map _ _),.nilm=>K (.int .i64 0)
  | some (.map _ _),.map r=>match H[r]? with
    | some (.mp es)=>K (.int .i64 es.length)
    | _=>False
  | some (.map _ _),.vmap es=>K (.int .i64 es.length)
  | _,_=>False
def Lg (x:Option Ac) (d:Nat):Option Int:=
  match x with
  | none=>some d
  | some (.int _ n)=>some n
  | _=>none
def Qs (P:Program) (T:TypeId) (x:Ac) (lo hi mx:Option Ac) (H:List A2) (K:Ac→Prop):Prop:=
  match F5 P T with
  | some e=>okT P e=true∧match x with
    | .sl sz xs=>sz=Bs P e∧(xs.length≤9223372036854775807→match Lg lo 0,Lg hi xs.length,mx with
      | some l,some h,none=>0≤l∧l≤h∧h≤xs.length∧K (.sl sz ((xs.drop l.toNat).take (h.toNat - l.toNat)))
      | some l,some h,some (.int _ m)=>l=0∧h=0∧m=0∧hi.isSome=true∧K .z0
      | _,_,_=>False)
    | .own r v a len=>match H[r]? with
      | some (.row v' sz _)=>v=v'∧sz=Bs P e∧match Lg lo 0,Lg hi len,mx with
        | some l,some h,none=>0≤l∧l≤h∧h≤len∧K (.own r v (a+l.toNat) (h.toNat - l.toNat))
        | some l,some h,some (.int _ m)=>l=0∧h=0∧m=0∧hi.isSome=true∧K .z0
        | _,_,_=>False
      | _=>False
    | .nils=>match Lg lo 0,Lg hi 0,mx with
      | some l,some h,none=>l=0∧h=0∧K .nils
      | some l,some h,some (.int _ m)=>l=0∧h=0∧m=0∧hi.isSome=true∧K .z0
      | _,_,_=>False
    | .z0=>match Lg lo 0,Lg hi 0,mx with
      | some l,some h,none=>l=0∧h=0∧K .z0
      | some l,some h,some (.int _ m)=>l=0∧h=0∧m=0∧hi.isSome=true∧K .z0
      | _,_,_=>False
    | _=>False
  | none=>match zF P T,x,lo,hi,mx with
    | some (n,e),.eptr cs,none,none,none=>okT P e=true∧Bs P e=1∧cs.length=n∧n≤9223372036854775807∧K (.sl 1 (singles cs))
    | _,_,_,_,_=>False
def Pk (P:Program) (T:TypeId) (len cap:Ac) (id:Nat) (K:Ac→Eff→Prop):Prop:=
  match F5 P T,len,cap with
  | some e,.int _ l,.int _ c=>(zeroV P e).isSome=true∧1≤Bs P e∧(Ca P e).length=Bs P e∧(Ca P e).all Ac.g0=true∧
      0≤l∧l≤c∧(bytesOf P e:Int)*c≤281474976710656∧c≤9223372036854775807∧
      K (.own id 0 0 l.toNat) (.new id (.row 0 (Bs P e) (List.replicate l.toNat (Ca P e))))
  | _,_,_=>False
def Tb (P:Program) (T:TypeId) (s x:Ac) (H:List A2) (id:Nat) (K:Ac→Eff→Prop):Prop:=
  match F5 P T with
  | some e=>(zeroV P e).isSome=true∧1≤Bs P e∧(Ca P e).length=Bs P e∧
    match Z2 x H with
    | some (szx,ys)=>szx=Bs P e∧match s with
      | .nils | .z0=>ys.length*bytesOf P e≤140737488355328∧ys.length≤9223372036854775807∧K (.own id 0 0 ys.length) (.new id (.row 0 (Bs P e) ys))
      | .own r v lo len=>match H[r]? with
        | some (.row v' sz xs)=>v=v'∧sz=Bs P e∧(len+ys.length)*bytesOf P e≤140737488355328∧len+ys.length≤9223372036854775807∧
            K (.own r (v+1) 0 (len+ys.length)) (.set r (.row (v+1) (Bs P e) ((xs.drop lo).take len++ys)))
        | _=>False
      | _=>False
    | none=>False
  | none=>False
theorem Z0 {C:Ctx} {w:World} {v:Value} {a:Ac} {cs:List Ac} (h:Bk C w v a) (hc:acells a=some cs) :
    v.cells.size=cs.length∧∀ (i:Nat) (u:Value) (c:Ac),v.cells[i]? =some u→cs[i]? =some c→Bk C w u c:=by
  have one:∀ {v:Value} {a:Ac},Bk C w v a→v.cells=#[v]→some [a]=some cs→v.cells.size=cs.length∧∀ (i:Nat) (u:Value) (c:Ac),v.cells[i]? =some u→cs[i]? =some c→Bk C w u c:=by
    intro v a h e e2
    simp only[Akv]at e2
    subst e2
    rw[e]
    refine⟨rfl,fun i u c h1 h2=>?_⟩
    match i,h1,h2 with
    | 0,h1,h2=>simp at h1 h2;subst h1 h2;exact h
    | i+1,h1,h2=>simp at h2
  cases h with
  | any=>simp[acells]at hc
  | tuple=>simp[acells]at hc
  | agg arr cs' h' hr=>simp only[acells,Akv]at hc;subst hc;exact⟨h',hr⟩
  | _=>exact one (by constructor<;>assumption) rfl hc
theorem one_cell {C:Ctx} {w:World} {v:Value} {a:Ac} (h:Bk C w v a) (h1:a.one=true):v.oneCell'=true:=by
  cases h<;>first | rfl | simp[Ac.one]at h1
theorem Xw (C:Ctx) (w:World) (v:Value):Bk C w v (Ym v):=by
  unfold Ym
  split<;>constructor
theorem iY (C:Ctx) (w:World) (v:Value):Bk C w v (aconst v):=by
  unfold aconst
  split
  ·refine .agg _ _ (by simp) fun i u c h1 h2=>?_
   rename_i cs
   simp only[List.getElem?_map,Array.getElem?_toList,h1,Option.map_some,Akv]at h2
   subst h2
   exact Xw C w u
  ·rename_i vs
   split
   ·rename_i h
    have:vs=#[]:=Array.eq_empty_of_size_eq_zero h
    subst this
    exact .tuple _ _ rfl fun i u c h1 h2=>by simp at h2
   ·exact .any _
  ·exact Xw C w v
def Sh (C:Ctx) (w:World) (tmps:Array Value) (fr:Fr):Prop:=∀ t,Bk C w (tmps.getD t undef) (get fr t)
theorem Sh.mono {C C':Ctx} {w w':World} (m:Fl C w C' w') {tmps:Array Value} {fr:Fr} (h:Sh C w tmps fr):Sh C' w' tmps fr:=
  fun t=>(h t).mono m
theorem Qq {C:Ctx} {w:World} {a:Act} {fr:Fr} (h:Sh C w a.tmps fr) (x:Operand):Bk C w (a.eval x) (ev fr x):=by
  cases x with
  | tmp t=>exact h t
  | const v=>exact iY C w v
  | global g=>exact .any _
  | func f=>exact .func f #[] [] rfl fun i u c h1 h2=>by simp at h2
theorem Sh.put {C:Ctx} {w:World} {a:Act} {fr:Fr} (h:Sh C w a.tmps fr) {v:Value} {av:Ac} (hv:Bk C w v av) (d:Option Tmp)
    (hd:∀ k,d=some k→k<a.tmps.size):Sh C w (a.put d v).tmps (put fr d av):=by
  intro t
  cases d with
  | none=>exact h t
  | some k=>
    have hk:=hd k rfl
    simp only[Act.put,Go.Ab.put,get]
    split
    ·rename_i e
     subst e
     simpa[Array.getD,hk]using hv
    ·rename_i e
     have:(a.tmps.setIfInBounds k v).getD t undef=a.tmps.getD t undef:=by
       simp only[Array.getD_eq_getD_getElem?,Array.getElem?_setIfInBounds_ne e]
     rw[this];exact h t
section
variable {P:Program}
theorem Jp {t:TypeId} {d:TypeDesc} (h:P.underlying t=some d) (w:World):(underlying t).run P w= .ok d w:=by
  simp[underlying,h]
theorem Su {t:TypeId} {i:TypeInfo} (h:P.info? t=some i) (w:World):(sizeOf t).run P w= .ok i.size w:=by
  simp[sizeOf,typeInfo,h]
structure Quiet (C:Ctx) (w:World) (r:Result Value) (K:Ac→Prop):Prop where
  ex:∃ v a,r= .ok v w∧Bk C w v a∧K a
theorem Quiet.mk' {C:Ctx} {w:World} {r:Result Value} {K:Ac→Prop} {v:Value} {a:Ac} (h:r= .ok v w) (hr:Bk C w v a) (hk:K a):Quiet C w r K:=
  ⟨v,a,h,hr,hk⟩
theorem iX {t:TypeId} {d:TypeDesc} (h:P.underlying t=some d) (w:World):(isAgg t).run P w= .ok (Me P t) w:=by
  simp only[isAgg,Sem.run_bind,Jp h,Result.andThen_ok,Me,h]
  cases d<;>rfl
theorem Zv (x y:Int):(x ==y)=decide (x=y):=by rw[Bool.eq_iff_iff];simp
theorem mS {C:Ctx} {w:World} {o:BinOp} {T:TypeId} {k k':IntKind} {x y:Int} {K:Ac→Prop} (hk:tI o k k') (h:bH o k x y K) :
    Quiet C w ((binOp o T (.int k x) (.int k' y)).run P w) K:=by
  cases o<;>simp only[bH]at h<;>simp only[tI]at hk<;>try subst hk
  case add=>exact .mk' (by simp[binOp,Op.intArith]) (.int _ _) h
  case sub=>exact .mk' (by simp[binOp,Op.intArith]) (.int _ _) h
  case mul=>exact .mk' (by simp[binOp,Op.intArith]) (.int _ _) h
  case quo=>exact .mk' (by simp[binOp,Op.intDiv,h.1]) (.int _ _) h.2
  case rem=>exact .mk' (by simp[binOp,Op.intDiv,h.1]) (.int _ _) h.2
  case eql=>exact .mk' (a:=.bool (decide (x=y))) (by simp[binOp,Op.intCmp,Zv]) (.bool _) h
  case neq=>
    refine .mk' (a:=.bool (decide (x≠y))) ?_ (.bool _) h
    simp[binOp,Op.intCmp,bne,Zv]
  case lss=>exact .mk' (by simp[binOp,Op.intCmp]) (.bool _) h
  case leq=>exact .mk' (by simp[binOp,Op.intCmp]) (.bool _) h
  case gtr=>exact .mk' (by simp[binOp,Op.intCmp]) (.bool _) h
  case geq=>exact .mk' (by simp[binOp,Op.intCmp]) (.bool _) h
  case shr=>
    have hb:min y.toNat k.bits=y.toNat:=by have:=h.1;cases k<;>simp only[IntKind.bits]<;>omega
    refine .mk' (a:=.int k (fY x y)) ?_ (.int _ _) h.2
    simp only[binOp,shift_shr_any k k' x y h.1.1,hb,fY]
    rfl
  case shl=>
    have hb:min y.toNat k.bits=y.toNat:=by have:=h.1;cases k<;>simp only[IntKind.bits]<;>omega
    refine .mk' (a:=.int k (k.wrap (Abj x y))) ?_ (.int _ _) h.2
    simp only[binOp,shift_shl_any k k' x y h.1.1,hb,Abj]
    rfl
  all_goals exact h.elim
theorem pP {o:BinOp} {T:TypeId} {x y:Operand} {k k':IntKind} {a b:Int} (w:World):(eqGuard o T x y (.int k a) (.int k' b)).run P w= .ok () w:=by
  unfold eqGuard;cases o<;>rfl
theorem mP {o:BinOp} {T:TypeId} {x y:Operand} {a b:Bool} (w:World):(eqGuard o T x y (.bool a) (.bool b)).run P w= .ok () w:=by
  unfold eqGuard;cases o<;>rfl
theorem On {T:TypeId} (h:okT P T=true):∃ i d,P.info? T=some i∧P.underlying T=some d∧Bs P T=i.size:=by
  unfold okT at h
  simp only[Bool.and_eq_true,Option.isSome_iff_exists]at h
  obtain⟨⟨i,hi⟩,⟨d,hd⟩⟩:=h
  exact⟨i,d,hi,hd,by simp[Bs,hi]⟩
theorem Om {w:World} {t:TypeId} {cs:Array Value} {off:Nat} {v:Value} (ht:okT P t=true) (hA:Me P t=false) (h:cs[off]? =some v) :
    (part t cs off).run P w= .ok v w:=by
  obtain⟨i,d,hi,hd,hs⟩:=On ht
  simp only[part,Sem.run_bind,iX hd,Result.andThen_ok,hA,Bool.false_eq_true,if_false,h]
  rfl
theorem aS {C:Ctx} {w:World} {xs ys:Array Value} {cs ds:List Ac} (hx:∀ (i:Nat) (u:Value) (c:Ac),xs[i]? =some u→cs[i]? =some c→Bk C w u c) (qz:xs.size=cs.length)
    (hy:∀ (i:Nat) (u:Value) (c:Ac),ys[i]? =some u→ds[i]? =some c→Bk C w u c) (xf:ys.size=ds.length):∀ (fs:List Field) (offs:List (Nat×Bool)) (r:Bool),
    (fs.all (fun f=>f.name != "_"&&okT P f.type)=true)→fs.mapM (fun f=>match P.underlying f.type with | some (.int _)=>some (f.offset,false) | some .bool=>some (f.offset,true) | _=>none)=some offs→
    Fy cs ds offs=some r→(Op.eqFields 9999 xs ys fs).run P w= .ok r w
  | [],offs,r,_,h0,h=>by simp at h0;subst h0;simp[Fy]at h;subst h;rfl
  | f::fs,offs,r,hf,h0,h=>by
    simp only[List.all_cons,Bool.and_eq_true]at hf
    obtain⟨⟨hn,km⟩,hf⟩:=hf
    have mw:f.name≠ "_":=by simpa using hn
    have ih:=aS hx qz hy xf fs
    have getX:∀ c,cs[f.offset]? =some c→∃ u,xs[f.offset]? =some u∧Bk C w u c:=fun c hc=>by
      have af:f.offset<xs.size:=by have:=(Ak1.1 hc).1;omega
      exact⟨_,Array.getElem?_eq_getElem af,hx _ _ c (Array.getElem?_eq_getElem af) hc⟩
    have getY:∀ c,ds[f.offset]? =some c→∃ u,ys[f.offset]? =some u∧Bk C w u c:=fun c hc=>by
      have af:f.offset<ys.size:=by have:=(Ak1.1 hc).1;omega
      exact⟨_,Array.getElem?_eq_getElem af,hy _ _ c (Array.getElem?_eq_getElem af) hc⟩
    simp only[List.mapM_cons,Option.bind_eq_bind,Option.pure_def]at h0
    cases mu:fs.mapM (fun f=>match P.underlying f.type with | some (.int _)=>some (f.offset,false) | some .bool=>some (f.offset,true) | _=>(none:Option (Nat×Bool)))with
    | none=>rw[mu]at h0;split at h0<;>simp at h0
    | some os=>
      rw[mu]at h0
      split at h0
      ·rename_i k hU
       have gk:Me P f.type=false:=by simp[Me,hU]
       simp only[Aku,Akv]at h0
       subst h0
       simp only[Fy]at h
       split at h
       ·rename_i k1 a k2 b h1 h2
        split at h
        ·rename_i hk
         subst hk
         obtain⟨u,hu,di⟩:=getX _ h1
         obtain⟨u2,zv,vn⟩:=getY _ h2
         cases di;cases vn
         cases ff:Fy cs ds os with
         | none=>simp[ff]at h
         | some r'=>
           simp only[ff,Option.map_some,Akv]at h
           have ih:=ih os r' hf mu ff
           have heq:=run_equalIn_int (P:=P) w 9998 f.type k1 k a b hU
           simp only[Op.eqFields,mw,ne_eq,not_false_eq_true,if_true,Sem.run_bind,Om km gk hu,Om km gk zv,Result.andThen_ok,heq]
           by_cases rk:a=b
           ·subst rk;simp only[decide_true,Bool.true_and]at h;subst h;simp[ih]
           ·have hb:(a ==b)=false:=by simp[rk]
            simp only[rk,decide_false,Bool.false_and]at h;subst h;simp[hb]
        ·cases h
       ·cases h
      ·rename_i hU
       have gk:Me P f.type=false:=by simp[Me,hU]
       simp only[Aku,Akv]at h0
       subst h0
       simp only[Fy]at h
       split at h
       ·rename_i a b h1 h2
        obtain⟨u,hu,di⟩:=getX _ h1
        obtain⟨u2,zv,vn⟩:=getY _ h2
        cases di;cases vn
        cases ff:Fy cs ds os with
        | none=>simp[ff]at h
        | some r'=>
          simp only[ff,Option.map_some,Akv]at h
          have ih:=ih os r' hf mu ff
          have heq:=run_equalIn_bool (P:=P) w 9998 f.type a b hU
          simp only[Op.eqFields,mw,ne_eq,not_false_eq_true,if_true,Sem.run_bind,Om km gk hu,Om km gk zv,Result.andThen_ok,heq]
          cases rk:(a ==b)
          ·rw[rk]at h;simp only[Bool.false_and]at h;subst h;simp
          ·rw[rk]at h;simp only[Bool.true_and]at h;subst h;simp[ih]
       ·cases h
      ·simp at h0
theorem dQ {cs ds:List Ac}:∀ {offs:List (Nat×Bool)} {r:Bool},Fy cs ds offs=some r→∀ p∈offs,p.1<cs.length∧p.1<ds.length
  | [],_,_,p,hp=>by cases hp
  | (o,false)::os,r,h,p,hp=>by
    simp only[Fy]at h
    split at h
    ·rename_i k1 a k2 b h1 h2
     split at h
     ·cases ff:Fy cs ds os with
      | none=>simp[ff]at h
      | some r'=>
        rcases List.mem_cons.1 hp with rfl | hp
        ·exact⟨(Ak1.1 h1).1,(Ak1.1 h2).1⟩
        ·exact dQ ff p hp
     ·cases h
    ·cases h
  | (o,true)::os,r,h,p,hp=>by
    simp only[Fy]at h
    split at h
    ·rename_i a b h1 h2
     cases ff:Fy cs ds os with
     | none=>simp[ff]at h
     | some r'=>
       rcases List.mem_cons.1 hp with rfl | hp
       ·exact⟨(Ak1.1 h1).1,(Ak1.1 h2).1⟩
       ·exact dQ ff p hp
    ·cases h
theorem dR {cs ds:List Ac} {b:List (Nat×Bool)}:∀ {a:List (Nat×Bool)} {r:Bool},Fy cs ds (a++b)=some r→∃ r1 r2,Fy cs ds a=some r1∧Fy cs ds b=some r2∧r=(r1&&r2)
  | [],r,h=>⟨true,r,rfl,h,by simp⟩
  | (o,false)::os,r,h=>by
    simp only[List.cons_append,Fy]at h ⊢
    split at h
    ·rename_i k1 a k2 b' h1 h2
     split at h
     ·rename_i hk
      cases ff:Fy cs ds (os++b)with
      | none=>simp[ff]at h
      | some r'=>
        obtain⟨r1,r2,e1,e2,e3⟩:=dR ff
        simp only[ff,Option.map_some,Akv]at h
        exact⟨decide (a=b')&&r1,r2,by simp[hk,e1],e2,by rw[← h,e3,Bool.and_assoc]⟩
     ·cases h
    ·cases h
  | (o,true)::os,r,h=>by
    simp only[List.cons_append,Fy]at h ⊢
    split at h
    ·rename_i a b' h1 h2
     cases ff:Fy cs ds (os++b)with
     | none=>simp[ff]at h
     | some r'=>
       obtain⟨r1,r2,e1,e2,e3⟩:=dR ff
       simp only[ff,Option.map_some,Akv]at h
       exact⟨(a ==b')&&r1,r2,by simp[e1],e2,by rw[← h,e3,Bool.and_assoc]⟩
    ·cases h
theorem X1 {cs ds:List Ac} {k:Nat}:∀ {l:List (Nat×Bool)},Fy cs ds (l.map fun p=>(p.1+k,p.2))=Fy (cs.drop k) (ds.drop k) l
  | []=>rfl
  | (o,false)::os=>by
    have e1:(cs.drop k)[o]? =cs[o+k]?:=by rw[List.getElem?_drop,Nat.add_comm]
    have e2:(ds.drop k)[o]? =ds[o+k]?:=by rw[List.getElem?_drop,Nat.add_comm]
    simp only[List.map_cons,Fy,e1,e2,X1 (l:=os)]
  | (o,true)::os=>by
    have e1:(cs.drop k)[o]? =cs[o+k]?:=by rw[List.getElem?_drop,Nat.add_comm]
    have e2:(ds.drop k)[o]? =ds[o+k]?:=by rw[List.getElem?_drop,Nat.add_comm]
    simp only[List.map_cons,Fy,e1,e2,X1 (l:=os)]
theorem kN {w:World} {t:TypeId} {cs:Array Value} {off:Nat} (ht:okT P t=true) (hA:Me P t=true) :
    (part t cs off).run P w= .ok (.agg (cs.extract off (off+Bs P t))) w:=by
  obtain⟨i,d,hi,hd,hs⟩:=On ht
  simp only[part,Sem.run_bind,iX hd,Result.andThen_ok,hA,if_true]
  rw[Su hi,Result.andThen_ok,hs];rfl
theorem eK {w:World} {n d:Nat} (ih:∀ {C:Ctx} {T:TypeId} {xs ys:Array Value} {cs ds:List Ac} {offs:List (Nat×Bool)} {r:Bool},(∀ (i:Nat) (u:Value) (c:Ac),xs[i]? =some u→cs[i]? =some c→Bk C w u c)→
      (∀ (i:Nat) (u:Value) (c:Ac),ys[i]? =some u→ds[i]? =some c→Bk C w u c)→(∀ p∈offs,p.1<xs.size∧p.1<ys.size)→Yf P n T=some offs→Fy cs ds offs=some r→
      (Op.equalIn (d+n+1) T (.agg xs) (.agg ys)).run P w= .ok r w) {C:Ctx} {xs ys:Array Value} {cs ds:List Ac} (hx:∀ (i:Nat) (u:Value) (c:Ac),xs[i]? =some u→cs[i]? =some c→Bk C w u c)
    (hy:∀ (i:Nat) (u:Value) (c:Ac),ys[i]? =some u→ds[i]? =some c→Bk C w u c):∀ (fs:List Field) (offs:List (Nat×Bool)) (r:Bool),
    (fs.all (fun f=>f.name != "_"&&okT P f.type)=true)→aR P (Yf P n) fs=some offs→(∀ p∈offs,p.1<xs.size∧p.1<ys.size)→Fy cs ds offs=some r→(Op.eqFields (d+n+1) xs ys fs).run P w= .ok r w
  | [],offs,r,_,h0,_,h=>by simp only[aR,Akv]at h0;subst h0;simp[Fy]at h;subst h;rfl
  | f::fs,offs,r,hf,h0,hb,h=>by
    simp only[List.all_cons,Bool.and_eq_true]at hf
    obtain⟨⟨hn,km⟩,hf⟩:=hf
    have mw:f.name≠ "_":=by simpa using hn
    unfold aR at h0
    obtain⟨a,ha,h0⟩:=Option.bind_eq_some_iff.1 h0
    obtain⟨b,ee,rfl⟩:=Option.map_eq_some_iff.1 h0
    obtain⟨r1,r2,e1,e2,rfl⟩:=dR h
    have rest:=eK ih hx hy fs b r2 hf ee (fun p hp=>hb p (List.mem_append_right _ hp)) e2
    have fin:∀ (u v:Value),(part f.type xs f.offset).run P w= .ok u w→(part f.type ys f.offset).run P w= .ok v w→(Op.equalIn (d+n+1) f.type u v).run P w= .ok r1 w→(Op.eqFields (d+n+1) xs ys (f::fs)).run P w= .ok (r1&&r2) w:=by
      intro u v h1 h2 h3
      simp only[Op.eqFields,mw,ne_eq,not_false_eq_true,if_true,Sem.run_bind,h1,h2,h3,Result.andThen_ok]
      cases r1<;>simp[rest]
    split at ha
    ·rename_i k hU
     have gk:Me P f.type=false:=by simp[Me,hU]
     simp only[Akv]at ha
     subst ha
     have je:=hb (f.offset,false) (by simp)
     simp only[Fy]at e1
     split at e1
     ·rename_i k1 a k2 b h1 h2
      split at e1
      ·rename_i hk
       subst hk
       have g1:=hx _ _ _ (Array.getElem?_eq_getElem je.1) h1
       have g2:=hy _ _ _ (Array.getElem?_eq_getElem je.2) h2
       have p1:=Om (w:=w) km gk (Array.getElem?_eq_getElem je.1)
       have p2:=Om (w:=w) km gk (Array.getElem?_eq_getElem je.2)
       generalize xs[f.offset]'je.1=u at g1 p1
       generalize ys[f.offset]'je.2=v at g2 p2
       cases g1;cases g2
       refine fin _ _ p1 p2 ?_
       rw[run_equalIn_int (P:=P) w (d+n) f.type k1 k a b hU]
       simp only[Option.map_some,Bool.and_true,Akv]at e1
       rw[← e1,Zv]
      ·cases e1
     ·cases e1
    ·rename_i hU
     have gk:Me P f.type=false:=by simp[Me,hU]
     simp only[Akv]at ha
     subst ha
     have je:=hb (f.offset,true) (by simp)
     simp only[Fy]at e1
     split at e1
     ·rename_i a b h1 h2
      have g1:=hx _ _ _ (Array.getElem?_eq_getElem je.1) h1
      have g2:=hy _ _ _ (Array.getElem?_eq_getElem je.2) h2
      have p1:=Om (w:=w) km gk (Array.getElem?_eq_getElem je.1)
      have p2:=Om (w:=w) km gk (Array.getElem?_eq_getElem je.2)
      generalize xs[f.offset]'je.1=u at g1 p1
      generalize ys[f.offset]'je.2=v at g2 p2
      cases g1;cases g2
      refine fin _ _ p1 p2 ?_
      rw[run_equalIn_bool (P:=P) w (d+n) f.type a b hU]
      simp only[Option.map_some,Bool.and_true,Akv]at e1
      rw[← e1]
     ·cases e1
    ·rename_i gs hU
     have gk:Me P f.type=true:=by simp[Me,hU]
     obtain⟨l,hl,ha⟩:=Option.bind_eq_some_iff.1 ha
     split at ha
     ·rename_i hc
      rw[Bool.and_eq_true,List.all_eq_true,List.any_eq_true]at hc
      obtain⟨hc1,q,hq,xn⟩:=hc
      simp only[Akv]at ha
      subst ha
      have hq2:q.1+1=Bs P f.type:=by simpa using xn
      have je:=hb (q.1+f.offset,q.2) (List.mem_append_left _ (List.mem_map.2 ⟨q,hq,rfl⟩))
      dsimp only at je
      rw[X1]at e1
      refine fin _ _ (kN km gk) (kN km gk) (ih (C:=C) (fun i u c h1 h2=>?_) (fun i u c h1 h2=>?_) (fun p hp=>?_) hl e1)
      ·rw[Array.getElem?_extract]at h1
       split at h1
       ·exact hx _ _ _ h1 (by rw[List.getElem?_drop]at h2;exact h2)
       ·cases h1
      ·rw[Array.getElem?_extract]at h1
       split at h1
       ·exact hy _ _ _ h1 (by rw[List.getElem?_drop]at h2;exact h2)
       ·cases h1
      ·have:=Akp (hc1 p hp)
       simp only[Array.size_extract];omega
     ·cases ha
    ·cases ha
theorem iS {w:World}:∀ (n d:Nat) {C:Ctx} {T:TypeId} {xs ys:Array Value} {cs ds:List Ac} {offs:List (Nat×Bool)} {r:Bool},(∀ (i:Nat) (u:Value) (c:Ac),xs[i]? =some u→cs[i]? =some c→Bk C w u c)→
      (∀ (i:Nat) (u:Value) (c:Ac),ys[i]? =some u→ds[i]? =some c→Bk C w u c)→(∀ p∈offs,p.1<xs.size∧p.1<ys.size)→Yf P n T=some offs→Fy cs ds offs=some r→
      (Op.equalIn (d+n+1) T (.agg xs) (.agg ys)).run P w= .ok r w
  | 0,d,C,T,xs,ys,cs,ds,offs,r,hx,hy,hb,h,hr=>by cases h
  | n+1,d,C,T,xs,ys,cs,ds,offs,r,hx,hy,hb,h,hr=>by
    unfold Yf at h
    split at h
    ·rename_i fs hU
     split at h
     ·rename_i hc
      have hU':P.underlying T=some (.struct (P.fieldsOf T)):=by simp[Program.fieldsOf,hU]
      have hfs:P.fieldsOf T=fs:=by simp[Program.fieldsOf,hU]
      rw[run_equalIn_struct (P:=P) w (d+(n+1)) T xs ys hU' hc.1,hfs]
      exact eK (n:=n) (d:=d) (fun {C T xs ys cs ds offs r} a b c e f=>iS n d a b c e f) hx hy _ _ _ hc.2 h hb hr
     ·cases h
    ·cases h
theorem wE {C:Ctx} {w:World} {o:BinOp} {T:TypeId} {xo yo:Operand} {u v:Value} {x y:Ac} {K:Ac→Prop} (hx:Bk C w u x) (hy:Bk C w v y) (h:qQ P o T x y K) :
    Quiet C w ((do eqGuard o T xo yo u v;binOp o T u v).run P w) K:=by
  unfold qQ at h
  split at h
  ·cases hx;cases hy
   obtain⟨hk,h⟩:=h
   have:=mS (P:=P) (C:=C) (w:=w) (T:=T) hk h
   simp only[Sem.run_bind,pP,Result.andThen_ok]
   exact this
  ·cases hx;cases hy
   obtain⟨hT,h⟩:=h
   simp only[Sem.run_bind,mP,Result.andThen_ok]
   have he:=run_equal_bool (P:=P) w T
   split at h
   ·exact .mk' (by simp[binOp,he _ _ hT]) (.bool _) h
   ·exact .mk' (by simp[binOp,he _ _ hT,bne]) (.bool _) h
   ·exact h.elim
  ·cases hx with
   | agg arr _ hs hc=>cases hy with
     | agg arr2 _ mg xn=>
       split at h
       ·rename_i offs fb
        split at h
        ·rename_i r hr
         unfold sA at fb
         split at fb
         ·rename_i fs hU
          split at fb
          ·rename_i hcnd
           obtain⟨c1,c2,c3⟩:=hcnd
           have hU':P.underlying T=some (.struct (P.fieldsOf T)):=by simp[Program.fieldsOf,hU]
           have hfs:P.fieldsOf T=fs:=by simp[Program.fieldsOf,hU]
           have he:=run_equalIn_struct (P:=P) w 9999 T arr arr2 hU' c2
           rw[hfs,aS hc hs xn mg _ _ _ c3 fb hr]at he
           have hg:=run_eqGuard_agg (P:=P) w o T xo yo arr arr2 c1
           simp only[Sem.run_bind,hg,Result.andThen_ok]
           split at h
           ·exact .mk' (by rw[run_eql_struct,he];rfl) (.bool _) h
           ·exact .mk' (by rw[run_neq_struct,he];rfl) (.bool _) h
           ·exact h.elim
          ·cases fb
         ·cases fb
        ·exact h.elim
       ·split at h
        ·rename_i offs fb
         split at h
         ·rename_i r hr
          unfold yQ at fb
          split at fb
          ·rename_i c1
           have he:=iS (P:=P) (w:=w) 4 9995 (fun i u c a b=>hc i u c a b) (fun i u c a b=>xn i u c a b) (fun p hp=>by have:=dQ hr p hp;omega) fb hr
           have hg:=run_eqGuard_agg (P:=P) w o T xo yo arr arr2 c1
           simp only[Sem.run_bind,hg,Result.andThen_ok]
           split at h
           ·exact .mk' (by rw[run_eql_struct,he];rfl) (.bool _) h
           ·exact .mk' (by rw[run_neq_struct,he];rfl) (.bool _) h
           ·exact h.elim
          ·cases fb
         ·exact h.elim
        ·exact h.elim
  ·exact h.elim
theorem wX {C:Ctx} {w:World} {o:UnOp} {u:Value} {x:Ac} {K:Ac→Prop} (hx:Bk C w u x) (h:aUn o x K) :
    Quiet C w ((Op.unary o u).run P w) K:=by
  unfold aUn at h
  split at h
  ·cases hx;exact .mk' (by simp[Op.unary]) (.bool _) h
  ·cases hx;exact .mk' (by simp[Op.unary,Op.intArith]) (.int _ _) h
  ·exact h.elim
theorem sD {C:Ctx} {w:World} {s d:TypeId} {u:Value} {x:Ac} {K:Ac→Prop} (hx:Bk C w u x) (h:eS P s d x K) :
    Quiet C w ((convert s d u).run P w) K:=by
  unfold eS at h
  split at h
  ·rename_i h1 h2
   cases hx
   exact .mk' (by simp[convert,Jp h1,Jp h2,Conv.intToInt]) (.int _ _) h
  ·exact h.elim
theorem D4 (a:Addr) (n:Nat) (h:a.spot=none):a.add n=⟨a.block,a.off+n,none⟩:=by
  cases a with
  | mk b o s=>
    simp only at h
    subst h
    unfold Addr.add
    split
    ·rename_i e;subst e;rfl
    ·rfl
theorem Zf {w:World} {T:TypeId} {a:Addr} {u:Nat→Value} (hT:okT P T=true) (hc:∀ j,j<(if Me P T then Bs P T else 1)→w.cell? (a.add j)=some (u j)) :
    (Instr.loadAt T (.pointer (some a))).run P w= .ok (if Me P T then .agg ((List.range (Bs P T)).map u).toArray else u 0) w:=by
  obtain⟨i,d,hi,hd,hs⟩:=On hT
  simp only[Instr.loadAt,Instr.sureAddr,Sem.run_bind,Sem.run_pure,Result.andThen_ok,loadVar,iX hd]
  cases hA:Me P T with
  | true=>
    simp only[hA,if_true]at hc ⊢
    have:=run_loadCells (P:=P) w a (Bs P T) u hc
    simp only[Sem.run_bind,Result.andThen_ok,Su hi,← hs,this,Sem.run_pure]
  | false=>
    simp only[hA,Bool.false_eq_true,if_false]at hc ⊢
    have h0:=hc 0 (by omega)
    have:a.add 0=a:=by simp[Addr.add]
    rw[this]at h0
    simp[run_load,h0]
theorem Tq {C:Ctx} {w:World} {T:TypeId} {cs:List Ac} {u:Nat→Value} (hn:(if Me P T then Bs P T else 1)≤cs.length)
    (hr:∀ (j:Nat) (c:Ac),cs[j]? =some c→Bk C w (u j) c) :
    Bk C w (if Me P T then .agg ((List.range (Bs P T)).map u).toArray else u 0) (Je (Me P T) (Bs P T) cs):=by
  unfold Je
  cases hA:Me P T with
  | true=>
    simp only[hA,if_true]at hn ⊢
    refine .agg _ _ (by simp;omega) fun i v c h1 h2=>?_
    simp only[List.getElem?_toArray,List.getElem?_map]at h1
    rw[List.getElem?_take]at h2
    split at h2
    ·rename_i af
     rw[List.getElem?_range af]at h1
     simp only[Option.map_some,Akv]at h1
     subst h1
     exact hr i c h2
    ·cases h2
  | false=>
    simp only[hA,Bool.false_eq_true,if_false]at hn ⊢
    match cs,hn with
    | c::r,_=>exact hr 0 c rfl
theorem C0 {α:Type} {l:List α} {i:Nat} {x:α} (h:l[i]? =some x):i<l.length:=(Ak1.1 h).1
theorem gW {W0:World} {C:Ctx} {w:World} (I:Inv W0 C w) {T:TypeId} {p:Value} {ap:Ac} {K:Ac→Prop} (hp:Bk C w p ap) (h:X0 P T ap C.H K) :
    Quiet C w ((Instr.loadAt T p).run P w) K:=by
  unfold X0 at h
  obtain⟨hT,h⟩:=h
  split at h
  ·rename_i r k
   split at h
   ·rename_i cs hr
    obtain⟨hn,hk⟩:=h
    cases hp with
    | ptr a _ _ af hh=>
      obtain⟨l,hl,rfl⟩:=hh _ hr
      obtain⟨l',arr,T',h1,h2,h3,h4⟩:=I.objs r _ hr
      rw[hl,Akv]at h1
      subst h1
      have aq:∀ j,k+j<cs.length→w.cell? ⟨l.b,k+j,none⟩=some (arr.getD (k+j) undef):=by
        intro j hj
        simp only[World.cell?,h2]
        have:k+j<arr.size:=by omega
        simp[Array.getD,this]
      refine .mk' (Zf (u:=fun j=>arr.getD (k+j) undef) hT fun j hj=>?_) (Tq (by simp;omega) fun j c hj=>?_) hk
      ·rw[D4 _ _ rfl];exact aq j (by omega)
      ·rw[List.getElem?_drop]at hj
       have:=C0 hj
       refine h4 (k+j) _ c ?_ hj
       rw[Array.getElem?_eq_getElem (by omega)]
       simp[Array.getD,show k+j<arr.size by omega]
   ·exact h.elim
  ·rename_i r v i k
   split at h
   ·rename_i v' sz xs hr
    obtain⟨hv,hn,hk⟩:=h
    cases hp with
    | rptr a _ _ _ _ af hh=>
      obtain⟨_,hh⟩:=hh _ _ _ hr
      obtain⟨hi,l,hl,rfl⟩:=hh hv
      obtain⟨bl,bu,hg,ho⟩:=I.objs r _ hr
      rcases ho with⟨_,h1⟩ | ⟨l',arr,T',h1,h2,h3,h4,h5⟩
      ·rw[hl]at h1;cases h1
      rw[hl,Akv]at h1
      subst h1
      have hx:xs[i]? =some xs[i]:=Aks hi
      have va:=bu _ (List.getElem_mem hi)
      have nx:=hk _ hx va
      have key:∀ j c,xs[i][k+j]? =some c→∃ u,arr[l.base+i*sz+k+j]? =some u∧Bk C w u c:=by
        intro j c hj
        have:=h5 i (k+j) _ c hx hj
        rwa [show l.base+(i*sz+(k+j))=l.base+i*sz+k+j by omega]at this
      refine .mk' (Zf (u:=fun j=>arr.getD (l.base+i*sz+k+j) undef) hT fun j hj=>?_) (Tq (by simp;omega) fun j c hj=>?_) nx
      ·rw[D4 _ _ rfl]
       have af:k+j<xs[i].length:=by omega
       obtain⟨u,hu,_⟩:=key j _ (Aks af)
       simp only[World.cell?,h2]
       simp[hu,Array.getD_eq_getD_getElem?]
      ·rw[List.getElem?_drop]at hj
       obtain⟨u,hu,di⟩:=key j c hj
       simpa[Array.getD_eq_getD_getElem?,hu]using di
   ·exact h.elim
  ·rename_i cs
   obtain⟨hn,hk⟩:=h
   cases hp with
   | eptr a _ u cm hA hg aq ay=>
     exact .mk' (Zf (u:=u) hT fun j hj=>by rw[D4 _ _ cm];exact aq j (by omega)) (Tq hn ay) hk
  ·exact h.elim
theorem pN {T:TypeId} {f off n:Nat} (h:Bp P T f=some (off,n)) (hn:1≤n):∃ fs x i,P.underlying T=some (.struct fs)∧fs[f]? =some x∧x.offset=off∧P.info? x.type=some i∧i.size=n:=by
  unfold Bp at h
  split at h
  ·rename_i fs hfs
   cases hx:fs[f]? with
   | none=>simp[hx]at h
   | some x=>
     simp only[hx,Option.map_some,Akv,Prod.mk.injEq]at h
     obtain⟨h1,h2⟩:=h
     cases hi:P.info? x.type with
     | none=>simp[Bs,hi]at h2;omega
     | some i=>exact ⟨fs,x,i,hfs,hx,h1,hi,by simpa[Bs,hi]using h2⟩
  ·cases h
theorem Wk {w:World} {T:TypeId} {f off n:Nat} {a:Addr} (h:Bp P T f=some (off,n)) (hn:1≤n) :
    (Instr.fieldAt T (.pointer (some a)) f).run P w= .ok (.pointer (some (a.add off))) w:=by
  obtain⟨fs,x,i,h1,h2,h3,h4,h5⟩:=pN h hn
  have bc:i.size≠0:=by omega
  simp only[Instr.fieldAt,Sem.run_bind,Jp h1,Result.andThen_ok,h2,Instr.sureAddr,Sem.run_pure,fieldPlace,Su h4,bc,if_false,h3]
theorem fE {C:Ctx} {w:World} {T:TypeId} {f:Nat} {p:Value} {ap:Ac} {K:Ac→Prop} (hp:Bk C w p ap) (h:Lf P T ap f K) :
    Quiet C w ((Instr.fieldAt T p f).run P w) K:=by
  unfold Lf at h
  split at h
  ·rename_i off n hf
   obtain⟨hn,h⟩:=h
   split at h
   ·cases hp with
    | ptr a r k hr hh=>
      refine .mk' (Wk hf hn) (.ptr _ _ _ hr fun cs hc=>?_) h
      obtain⟨l,hl,rfl⟩:=hh cs hc
      exact⟨l,hl,by rw[D4 _ _ rfl]⟩
   ·cases hp with
    | rptr a r v i k hr hh=>
      refine .mk' (Wk hf hn) (.rptr _ _ _ _ _ hr fun v' sz xs hc=>?_) h
      obtain⟨h1,h2⟩:=hh _ _ _ hc
      refine⟨h1,fun e=>?_⟩
      obtain⟨h3,l,hl,rfl⟩:=h2 e
      exact⟨h3,l,hl,by rw[D4 _ _ rfl];simp;omega⟩
   ·rename_i cs
    cases hp with
    | eptr a _ u cm hA hg aq ay=>
      refine .mk' (Wk hf hn) (.eptr _ _ (fun j=>u (off+j)) (by rw[D4 _ _ cm]) (by rw[D4 _ _ cm];exact hA) (fun c hc=>hg c (List.mem_of_mem_drop hc)) (fun j hj=>?_) fun j c hc=>?_) h
      ·rw[D4 _ _ cm]
       rw[List.length_drop]at hj
       simp only[Nat.add_assoc]
       exact aq (off+j) (by omega)
      ·rw[List.getElem?_drop]at hc
       exact ay _ _ hc
   ·exact h.elim
  ·exact h.elim
theorem pM {C:Ctx} {w:World} {T:TypeId} {f:Nat} {x:Value} {ax:Ac} {K:Ac→Prop} (hx:Bk C w x ax) (h:Z1 P T ax f K) :
    Quiet C w ((Instr.field T x f).run P w) K:=by
  unfold Z1 at h
  split at h
  ·rename_i fs cs hU
   split at h
   ·rename_i g hg
    obtain⟨h1,h2,h3,hk⟩:=h
    cases hx with
    | agg arr _ hl hc=>
      have af:g.offset<arr.size:=by omega
      refine .mk' (v:=arr[g.offset]) ?_ (hc g.offset _ _ (Array.getElem?_eq_getElem af) ?_) hk
      ·simp only[Instr.field,Sem.run_bind,Jp hU,Result.andThen_ok,hg,asAgg,Sem.run_pure]
       exact Om h1 h2 (Array.getElem?_eq_getElem af)
      ·simp[List.getD_eq_getElem?_getD,h3]
   ·exact h.elim
  ·exact h.elim
theorem Pf {T e:TypeId} (h:F5 P T=some e):P.underlying T=some (.slice e):=by
  unfold F5 at h
  split at h
  ·simp only[Akv]at h;subst h;assumption
  ·cases h
theorem eA {w:World} {T e:TypeId} {k:IntKind} {n:Int} {a:Addr} {len cap:Nat} (hT:F5 P T=some e) (he:okT P e=true) (h0:0≤n) (h1:n<len) :
    (Instr.indexAt T (.slice (some a) len cap) (.int k n)).run P w= .ok (.pointer (some (a.add (n.toNat*Bs P e)))) w:=by
  obtain⟨i,d,hi,hd,hs⟩:=On he
  have hc:0≤n∧n<(len:Int):=⟨h0,h1⟩
  simp only[Instr.indexAt,asIntOf,Sem.run_bind,Sem.run_pure,Result.andThen_ok,Jp (Pf hT),hc,and_self,if_true,Su hi,hs]
theorem fC {C:Ctx} {w:World} {T:TypeId} {x i:Value} {ax ai:Ac} {K:Ac→Prop} (hx:Bk C w x ax) (hi:Bk C w i ai) (h:Jf P T ax ai C.H K) :
    Quiet C w ((Instr.indexAt T x i).run P w) K:=by
  unfold Jf at h
  split at h
  ·rename_i e k n hT
   cases hi
   obtain⟨he,h⟩:=h
   split at h
   ·rename_i sz xs
    obtain⟨hs,h0,h1,hk⟩:=h
    cases hx with
    | sl0=>simp at h1;omega
    | sl a len cap _ _ u cm hlen cw cd hA bl bu hg aq ay=>
      have af:n.toNat<xs.length:=by omega
      have hy:xs[n.toNat]? =some xs[n.toNat]:=Aks af
      have hyl:=bu _ (List.getElem_mem af)
      refine .mk' (eA hT he h0 (by omega)) (.eptr _ _ (fun j=>u (n.toNat*sz+j)) (by rw[D4 _ _ cm]) (by rw[D4 _ _ cm];exact hA) (hg _ (List.getElem_mem af)) (fun j hj=>?_) fun j c hc=>ay _ _ _ _ hy hc) (hk _ hy hyl)
      rw[D4 _ _ cm,← hs]
      simp only[Nat.add_assoc]
      refine aq _ ?_
      have:(n.toNat+1)*sz≤xs.length*sz:=Nat.mul_le_mul_right _ af
      rw[Nat.add_mul,Nat.one_mul]at this
      omega
   ·rename_i r v lo len
    split at h
    ·rename_i v' sz xs hr
     obtain⟨hv,hs,h0,h1,hk⟩:=h
     cases hx with
     | own a _ cap _ _ _ af cw cd hh=>
       obtain⟨_,hh⟩:=hh _ _ _ hr
       obtain⟨hle,hh⟩:=hh hv
       rcases hh with hh | ⟨l,hl,rfl,ct⟩
       ·omega
       refine .mk' (eA hT he h0 h1) (.rptr _ _ _ _ _ af fun v2 sz2 xs2 gy=>?_) hk
       rw[hr,Akv,A2.row.injEq]at gy
       obtain⟨rfl,rfl,rfl⟩:=gy
       refine⟨by omega,fun _=>⟨by omega,l,hl,?_⟩⟩
       rw[D4 _ _ rfl,← hs]
       simp[Nat.add_mul,Nat.add_assoc]
    ·exact h.elim
   ·exact h.elim
  ·rename_i k n hT
   cases hi
   split at h
   ·rename_i len e r kk hA
    obtain⟨he,h0,h1,hk⟩:=h
    have hu:P.underlying T=some (.array len e):=by
      unfold zF at hA
      split at hA
      ·rename_i n' e' re
       simp only[Akv,Prod.mk.injEq]at hA
       rw[re,hA.1,hA.2]
      ·cases hA
    obtain⟨i,d,de,hd,hs⟩:=On he
    have hc:0≤n∧n<(len:Int):=⟨h0,h1⟩
    cases hx with
    | ptr a _ _ hr hp=>
      refine .mk' (v:=.pointer (some (a.add (n.toNat*Bs P e)))) ?_ (.ptr _ _ _ hr fun cs ia=>?_) hk
      ·simp only[Instr.indexAt,Instr.sureAddr,asIntOf,Sem.run_bind,Sem.run_pure,Result.andThen_ok,Jp hu,hc,and_self,if_true,Su de,hs]
      ·obtain⟨l,h2,h3⟩:=hp cs ia
       exact⟨l,h2,by rw[h3,D4 _ _ rfl]⟩
   ·rename_i len e cs hA
    obtain⟨he,h0,h1,hk⟩:=h
    have hu:P.underlying T=some (.array len e):=by
      unfold zF at hA
      split at hA
      ·rename_i n' e' re
       simp only[Akv,Prod.mk.injEq]at hA
       rw[re,hA.1,hA.2]
      ·cases hA
    obtain⟨i,d,de,hd,hs⟩:=On he
    have hc:0≤n∧n<(len:Int):=⟨h0,h1⟩
    cases hx with
    | eptr a _ u cm hA hg aq ay=>
      refine .mk' (v:=.pointer (some (a.add (n.toNat*Bs P e)))) ?_ (.eptr _ _ (fun j=>u (n.toNat*Bs P e+j)) (by rw[D4 _ _ cm]) (by rw[D4 _ _ cm];exact hA) (fun c hc=>hg c (List.mem_of_mem_drop hc)) (fun j hj=>?_) fun j c hc=>?_) hk
      ·simp only[Instr.indexAt,Instr.sureAddr,asIntOf,Sem.run_bind,Sem.run_pure,Result.andThen_ok,Jp hu,hc,and_self,if_true,Su de,hs]
      ·rw[D4 _ _ cm,Nat.add_assoc]
       exact aq _ (by rw[List.length_drop]at hj;omega)
      ·rw[List.getElem?_drop]at hc;exact ay _ _ hc
   ·exact h.elim
  ·exact h.elim
theorem jW {C:Ctx} {w:World} {i:Nat} {x:Value} {vs:List Ac} {K:Ac→Prop} (hx:Bk C w x (.tuple vs)) (hi:i<vs.length) (h:K (vs.getD i .any)) :
    Quiet C w ((Instr.extract x i).run P w) K:=by
  cases hx with
  | tuple arr _ hl hc=>
    have af:i<arr.size:=by omega
    refine .mk' (v:=arr[i]) ?_ (hc i _ _ (Array.getElem?_eq_getElem af) ?_) h
    ·simp only[Instr.extract,Array.getElem?_eq_getElem af,Sem.run_pure]
    ·simp[List.getD_eq_getElem?_getD,hi]
theorem Lv:maxLen=9223372036854775807:=by decide
theorem vN {W0:World} {C:Ctx} {w:World} (I:Inv W0 C w) {T ty:TypeId} {x:Value} {ax:Ac} {K:Ac→Prop}
    (hx:Bk C w x ax) (h:m0 P T ax C.H K) :
    Quiet C w ((Builtin.len_ #[T] ty #[x]).run P w) K:=by
  unfold m0 at h
  split at h
  ·rename_i e sz xs hT
   cases hx with
   | sl0 a cap _ cd=>exact .mk' (by simp[Builtin.len_,Jp hT];rfl) (.int _ _) (h (by simp))
   | sl a len cap _ _ u cm hlen cw cd hA bl bu hg aq ay=>
     subst hlen
     exact .mk' (by simp[Builtin.len_,Jp hT];rfl) (.int _ _) (h (by have:=Lv;omega))
  ·rename_i e r v lo len hT
   cases hx with
   | own a _ cap _ _ _ af cw cd hh=>exact .mk' (by simp[Builtin.len_,Jp hT];rfl) (.int _ _) (h (by have:=Lv;omega))
  ·rename_i e hT
   cases hx;exact .mk' (by simp[Builtin.len_,Jp hT];rfl) (.int _ _) h
  ·rename_i e hT
   cases hx;exact .mk' (by simp[Builtin.len_,Jp hT];rfl) (.int _ _) h
  ·rename_i s hT
   cases hx;exact .mk' (by simp[Builtin.len_,Jp hT];rfl) (.int _ _) h
  ·rename_i k e hT
   cases hx;exact .mk' (by simp[Builtin.len_,Jp hT];rfl) (.int _ _) h
  ·rename_i k e r hT
   split at h
   ·rename_i es hr
    cases hx with
    | map b _ af hh=>
      obtain⟨l,hl,rfl⟩:=hh _ hr rfl
      obtain⟨l',en,cl,h1,h2,h3,_,_⟩:=I.objs r _ hr
      rw[hl,Akv]at h1
      subst h1
      refine .mk' (v:=.int .i64 en.size) ?_ (by rw[h3.size];exact .int _ _) h
      simp[Builtin.len_,Jp hT,getObj,Sem.run,h2,goInt]
   ·exact h.elim
  ·rename_i k e es hT
   cases hx with
   | vmap0=>exact .mk' (by simp[Builtin.len_,Jp hT];rfl) (.int _ _) h
   | vmap b _ en cl hA hg hh cj ay=>
     refine .mk' (v:=.int .i64 en.size) ?_ (by rw[cj.size];exact .int _ _) h
     simp[Builtin.len_,Jp hT,getObj,Sem.run,hh,goInt]
  ·exact h.elim
theorem eM {C:Ctx} {w:World} {lo:Option Value} {alo:Option Ac} {d:Nat} {l:Int} (xj:∀ v a,lo=some v→alo=some a→Bk C w v a) (hn:lo.isSome=alo.isSome) (h:Lg alo d=some l) :
    (lo=none∧alo=none∧l=d)∨∃ k,lo=some (.int k l):=by
  unfold Lg at h
  split at h
  ·simp only[Akv]at h
   cases lo<;>simp_all
  ·rename_i k n
   simp only[Akv]at h
   subst h
   cases lo with
   | none=>simp at hn
   | some v=>
     have:=xj v _ rfl rfl
     cases this
     exact .inr ⟨_,rfl⟩
  ·cases h
theorem eX {w:World} {len cap:Nat} {lo hi:Option Value} {l h:Int} (hl:(lo=none∧l=0)∨∃ k,lo=some (.int k l)) (hh:(hi=none∧h=len)∨∃ k,hi=some (.int k h))
    (h0:0≤l) (h1:l≤h) (h2:h≤cap):(Instr.sliceBounds true len cap lo hi none).run P w= .ok (l.toNat,h.toNat,cap) w:=by
  have bd:∀ (k:IntKind) (n:Int) (y:Nat) (code:BoundsCode),0≤n→n≤y→(Instr.sliceBound (.int k n) y code).run P w= .ok n.toNat w:=by
    intro k n y code a b
    have:0≤n∧n≤(y:Int):=⟨a,b⟩
    simp only[Instr.sliceBound,asIntOf,Sem.run_bind,Sem.run_pure,Result.andThen_ok,this,and_self,if_true]
  have key:∀ hv:Nat,(hv:Int)=h→(Instr.sliceBounds true len cap lo (some (.int .i64 (hv:Int))) none).run P w= .ok (l.toNat,hv,cap) w:=by
    intro hv e
    rcases hl with⟨rfl,rfl⟩ | ⟨k,rfl⟩
    ·simp[Instr.sliceBounds,bd .i64 hv cap _ (by omega) (by omega)]
    ·simp[Instr.sliceBounds,bd .i64 hv cap _ (by omega) (by omega),bd k l hv _ h0 (by omega)]
  rcases hh with⟨rfl,rfl⟩ | ⟨k,rfl⟩
  ·rcases hl with⟨rfl,rfl⟩ | ⟨k,rfl⟩
   ·simp[Instr.sliceBounds]
   ·simp[Instr.sliceBounds,bd k l len _ h0 (by omega)]
  ·have hb:=bd k h cap .sliceAcap (by omega) h2
   rcases hl with⟨rfl,rfl⟩ | ⟨k',rfl⟩
   ·simp[Instr.sliceBounds,hb]
   ·simp[Instr.sliceBounds,hb,bd k' l h.toNat _ h0 (by omega)]
theorem Pw {w:World} {T e:TypeId} {i:TypeInfo} {a:Option Addr} {len cap:Nat} {lo hi:Option Value} {l h:Int} (hT:P.underlying T=some (.slice e)) (de:P.info? e=some i)
    (hl:(lo=none∧l=0)∨∃ k,lo=some (.int k l)) (hh:(hi=none∧h=len)∨∃ k,hi=some (.int k h))
    (h0:0≤l) (h1:l≤h) (h2:h≤cap) :
    (Instr.sliceAt T (.slice a len cap) lo hi none).run P w= .ok (.slice (if cap=l.toNat then a else a.map (·.add (l.toNat*i.size))) (h.toNat - l.toNat) (cap - l.toNat)) w:=by
  simp only[Instr.sliceAt,Instr.slice,Sem.run_bind,Jp hT,Result.andThen_ok,eX hl hh h0 h1 h2,Su de,Sem.run_pure]
theorem bQ {w:World} {T e:TypeId} {i:TypeInfo} {a:Option Addr} {len cap:Nat} {lo hi:Option Value} {k:IntKind} (hT:P.underlying T=some (.slice e)) (de:P.info? e=some i)
    (hl:lo=none∨∃ k,lo=some (.int k 0)) (hh:∃ k,hi=some (.int k 0)) :
    (Instr.sliceAt T (.slice a len cap) lo hi (some (.int k 0))).run P w= .ok (.slice a 0 0) w:=by
  have bd:∀ (k:IntKind) (y:Nat) (code:BoundsCode),(Instr.sliceBound (.int k 0) y code).run P w= .ok 0 w:=by
    intro k y code
    simp[Instr.sliceBound,asIntOf]
  have:(Instr.sliceBounds true len cap lo hi (some (.int k 0))).run P w= .ok (0,0,0) w:=by
    obtain⟨k2,rfl⟩:=hh
    rcases hl with rfl | ⟨k1,rfl⟩<;>simp[Instr.sliceBounds,bd]
  simp only[Instr.sliceAt,Instr.slice,Sem.run_bind,Jp hT,Result.andThen_ok,this,Su de,Sem.run_pure]
  simp
theorem nI {C:Ctx} {w:World} {T:TypeId} {x:Value} {ax:Ac} {lo hi mx:Option Value} {alo ahi amx:Option Ac} {K:Ac→Prop}
    (hx:Bk C w x ax) (xj:∀ v a,lo=some v→alo=some a→Bk C w v a) (hlo':lo.isSome=alo.isSome)
    (hhi:∀ v a,hi=some v→ahi=some a→Bk C w v a) (hhi':hi.isSome=ahi.isSome)
    (hmx:∀ v a,mx=some v→amx=some a→Bk C w v a) (hmx':mx.isSome=amx.isSome) (h:Qs P T ax alo ahi amx C.H K) :
    Quiet C w ((Instr.sliceAt T x lo hi mx).run P w) K:=by
  unfold Qs at h
  split at h
  ·rename_i e hT
   obtain⟨he,h⟩:=h
   obtain⟨i,d,de,hd,hs⟩:=On he
   have hU:=Pf hT
   have none3:amx=none→mx=none:=by intro e;subst e;cases mx<;>simp_all
   have zero3:∀ k (m:Int),amx=some (.int k m)→m=0→∃ k',mx=some (.int k' 0):=by
     intro k m e0 e1;subst e0 e1
     cases mx with
     | none=>simp at hmx'
     | some v=>have:=hmx v _ rfl rfl;cases this;exact⟨_,rfl⟩
   have B:=fun d l (h:Lg alo d=some l)=>eM xj hlo' h
   have B2:=fun d l (h:Lg ahi d=some l)=>eM hhi hhi' h
   have Z:∀ (a:Option Addr) (len cap:Nat) d l h k m,Lg alo 0=some l→Lg ahi d=some h→amx=some (.int k m)→l=0→h=0→m=0→ahi.isSome=true→K .z0→
    Quiet C w ((Instr.sliceAt T (.slice a len cap) lo hi mx).run P w) K:=by
     intro a len cap d l h k m e1 e2 e3 z1 z2 z3 his hk
     subst z1 z2
     obtain⟨k',rfl⟩:=zero3 _ _ e3 z3
     refine .mk' (bQ hU de ?_ ?_) (.z0 _) hk
     ·rcases B _ _ e1 with⟨h1,_⟩ | h1
      ·exact .inl h1
      ·exact .inr h1
     ·rcases B2 _ _ e2 with⟨_,h2,_⟩ | h1
      ·simp[h2]at his
      ·exact h1
   have L:∀ {l:Int},Lg alo 0=some l→(lo=none∧l=0)∨∃ k,lo=some (.int k l):=by
     intro l e
     rcases B _ _ e with⟨h1,_,h2⟩ | h1
     ·exact .inl ⟨h1,by simpa using h2⟩
     ·exact .inr h1
   have R:∀ {d:Nat} {l:Int},Lg ahi d=some l→(hi=none∧l=d)∨∃ k,hi=some (.int k l):=by
     intro d l e
     rcases B2 _ _ e with⟨h1,_,h2⟩ | h1
     ·exact .inl ⟨h1,h2⟩
     ·exact .inr h1
   split at h
   ·rename_i sz xs
    obtain⟨bu,h⟩:=h
    cases hx with
    | sl0 a cap _ cd=>
      replace h:=h (by simp)
      split at h
      ·rename_i l h' e1 e2
       obtain⟨h0,h1,h2,hk⟩:=h
       obtain rfl:=none3 rfl
       simp only[List.length_nil]at h2
       refine .mk' (Pw hU de (L e1) (R e2) h0 h1 (by omega)) ?_ hk
       have e0:h'.toNat - l.toNat=0:=by omega
       rw[e0]
       simp only[List.drop_nil,List.take_nil]
       exact .sl0 _ _ _ (by omega)
      ·rename_i l h' k m e1 e2
       exact Z _ _ _ _ _ _ _ _ e1 e2 rfl h.1 h.2.1 h.2.2.1 h.2.2.2.1 h.2.2.2.2
      ·exact h.elim
    | sl a len cap _ _ u cm hlen cw cd hA bl hsz' hg aq ay=>
      replace h:=h (by have:=Lv;omega)
      subst hlen
      split at h
      ·rename_i l h' e1 e2
       obtain⟨h0,h1,h2,hk⟩:=h
       obtain rfl:=none3 rfl
       refine .mk' (Pw hU de (L e1) (R e2) h0 h1 (by omega)) ?_ hk
       have elen:((xs.drop l.toNat).take (h'.toNat - l.toNat)).length=h'.toNat - l.toNat:=by simp;omega
       by_cases hc:cap=l.toNat
       ·have e0:h'.toNat - l.toNat=0:=by omega
        rw[e0]
        simp only[List.take_zero]
        exact .sl0 _ _ _ (by omega)
       ·rw[if_neg hc]
        simp only[Option.map_some,D4 _ _ cm]
        refine .sl _ _ _ _ _ (fun j=>u (l.toNat*sz+j)) rfl elen.symm (by omega) (by omega) hA bl (fun x hx=>hsz' x (List.mem_of_mem_drop (List.mem_of_mem_take hx)))
          (fun x hx=>hg x (List.mem_of_mem_drop (List.mem_of_mem_take hx))) (fun j hj=>?_) fun i' k x c hx lr=>?_
        ·rw[elen]at hj
         rw[← hs,← bu]
         simp only[Nat.add_assoc]
         refine aq _ ?_
         have h3:h'.toNat*sz≤xs.length*sz:=Nat.mul_le_mul_right _ (by omega)
         have h4:l.toNat*sz+(h'.toNat - l.toNat)*sz=h'.toNat*sz:=by rw[← Nat.add_mul];congr 1;omega
         omega
        ·rw[List.getElem?_take]at hx
         split at hx
         ·rw[List.getElem?_drop]at hx
          have:=ay _ k x c hx lr
          rwa [Nat.add_mul,Nat.add_assoc]at this
         ·cases hx
      ·rename_i l h' k m e1 e2
       exact Z _ _ _ _ _ _ _ _ e1 e2 rfl h.1 h.2.1 h.2.2.1 h.2.2.2.1 h.2.2.2.2
      ·exact h.elim
   ·rename_i r v a len
    split at h
    ·rename_i v' sz xs hr
     obtain⟨hv,bu,h⟩:=h
     cases hx with
     | own ad _ cap _ _ _ af cw cd hh=>
       obtain⟨_,hh⟩:=hh _ _ _ hr
       obtain⟨hle,hh⟩:=hh hv
       split at h
       ·rename_i l h' e1 e2
        obtain⟨h0,h1,h2,hk⟩:=h
        obtain rfl:=none3 rfl
        refine .mk' (Pw hU de (L e1) (R e2) h0 h1 (by omega)) (.own _ _ _ _ _ _ af (by omega) (by omega) fun v2 sz2 xs2 gy=>?_) hk
        rw[hr,Akv,A2.row.injEq]at gy
        obtain⟨rfl,rfl,rfl⟩:=gy
        refine⟨by omega,fun _=>⟨by omega,?_⟩⟩
        rcases hh with hh | ⟨l2,hl,rfl,ct⟩
        ·exact .inl (by omega)
        ·by_cases hc:cap=l.toNat
         ·exact .inl (by omega)
         ·refine .inr ⟨l2,hl,?_,?_⟩
          ·rw[if_neg hc]
           rw[Option.map_some,D4 _ _ rfl,← hs,← bu,Nat.add_mul]
           simp only[Nat.add_assoc]
          ·rwa [show a+l.toNat+(cap - l.toNat)=a+cap by omega]
       ·rename_i l h' k m e1 e2
        exact Z _ _ _ _ _ _ _ _ e1 e2 rfl h.1 h.2.1 h.2.2.1 h.2.2.2.1 h.2.2.2.2
       ·exact h.elim
    ·exact h.elim
   ·cases hx
    split at h
    ·rename_i l h' e1 e2
     obtain⟨h0,h1,hk⟩:=h
     obtain rfl:=none3 rfl
     subst h0 h1
     refine .mk' (Pw hU de (L e1) (R (d:=0) e2) (Int.le_refl _) (Int.le_refl _) (by simp)) ?_ hk
     simp
     exact .nils
    ·rename_i l h' k m e1 e2
     exact Z _ _ _ _ _ _ _ _ e1 e2 rfl h.1 h.2.1 h.2.2.1 h.2.2.2.1 h.2.2.2.2
    ·exact h.elim
   ·cases hx
    split at h
    ·rename_i l h' e1 e2
     obtain⟨h0,h1,hk⟩:=h
     obtain rfl:=none3 rfl
     subst h0 h1
     refine .mk' (Pw hU de (L e1) (R (d:=0) e2) (Int.le_refl _) (Int.le_refl _) (by simp)) ?_ hk
     simp
     exact .z0 _
    ·rename_i l h' k m e1 e2
     exact Z _ _ _ _ _ _ _ _ e1 e2 rfl h.1 h.2.1 h.2.2.1 h.2.2.2.1 h.2.2.2.2
    ·exact h.elim
   ·exact h.elim
  ·split at h
   ·rename_i n e cs hA
    obtain⟨he,bu,hn,nv,hk⟩:=h
    have hu:P.underlying T=some (.array n e):=by
      unfold zF at hA
      split at hA
      ·rename_i n' e' re
       simp only[Akv,Prod.mk.injEq]at hA
       rw[re,hA.1,hA.2]
      ·cases hA
    obtain⟨i,d,de,hd,hs⟩:=On he
    have hlo0:lo=none:=by cases lo<;>simp_all
    have hhi0:hi=none:=by cases hi<;>simp_all
    have hmx0:mx=none:=by cases mx<;>simp_all
    subst hlo0 hhi0 hmx0
    cases hx with
    | eptr a _ u cm hA hg aq ay=>
      have bh:(Instr.sliceAt T (.pointer (some a)) none none none).run P w= .ok (.slice (some (if n=0 then a else a.add (0*i.size))) (n - 0) (n - 0)) w:=by
        simp[Instr.sliceAt,Instr.sureAddr,Instr.sliceBounds,Jp hu,Su de]
      refine .mk' bh ?_ hk
      cases cs with
      | nil=>simp only[List.length_nil]at hn;subst hn;exact .sl0 _ _ _ (Nat.zero_le _)
      | cons c cs=>
        rw[if_neg (by simp at hn;omega),Nat.zero_mul,D4 _ _ cm,Nat.sub_zero]
        refine .sl _ _ _ _ _ u rfl (by rw[Wj];exact hn.symm) (Nat.le_refl _) (by have:=Lv;omega) hA (Nat.le_refl _) (fun x hx=>?_) (fun x hx c' lr=>?_) (fun j hj=>?_) fun i' k x c' hx lr=>?_
        ·obtain⟨i',de⟩:=List.getElem?_of_mem hx
         rw[St]at de
         cases hq:(c::cs)[i']? with
         | none=>rw[hq]at de;cases de
         | some q=>rw[hq]at de;rw[← Ak0 de];rfl
        ·obtain⟨i',de⟩:=List.getElem?_of_mem hx
         rw[St]at de
         cases hq:(c::cs)[i']? with
         | none=>rw[hq]at de;cases de
         | some q=>
           rw[hq]at de;rw[← Ak0 de]at lr
           rw[List.mem_singleton.1 lr];exact hg _ (Akt hq)
        ·rw[Wj]at hj
         show w.cell? ⟨a.block,a.off+0+j,none⟩=_
         rw[Nat.add_zero];exact aq j (by omega)
        ·rw[St]at hx
         cases hq:(c::cs)[i']? with
         | none=>rw[hq]at hx;cases hx
         | some q=>
           rw[hq]at hx;rw[← Ak0 hx]at lr
           cases k with
           | zero=>simp at lr;subst lr;rw[Nat.mul_one,Nat.add_zero];exact ay _ _ hq
           | succ k=>simp at lr
   ·exact h.elim
end
end Go.Ab
namespace Go.Ab
open Go Go.RowKit
section
variable {P:Program}
structure Wg (W0:World) (C:Ctx) (w:World) (r:Result Value) (K:Ac→Eff→Prop):Prop where
  ex:∃ v a w' C' ef,r= .ok v w'∧Bk C' w' v a∧K a ef∧C'.H=ef.app C.H∧Inv W0 C' w'∧Fl C w C' w'
structure Did (W0:World) (C:Ctx) (w:World) (r:Result Unit) (K:Ac→Eff→Prop):Prop where
  ex:∃ w' C' ef,r= .ok () w'∧K (.tuple []) ef∧C'.H=ef.app C.H∧Inv W0 C' w'∧Fl C w C' w'
theorem Quiet.done {W0:World} {C:Ctx} {w:World} (I:Inv W0 C w) {r:Result Value} {K:Ac→Eff→Prop} (h:Quiet C w r (fun a=>K a .none)):Wg W0 C w r K:=by
  obtain⟨v,a,h1,h2,h3⟩:=h.ex
  exact⟨v,a,w,C,.none,h1,h2,h3,rfl,I,.refl _ _⟩
theorem Xm {W0 w:World} (h:Below W0.heap.size W0 w) (o:Obj):Below W0.heap.size W0 (w.alloc o):=h.alloc h.size o
theorem Inv.alloc {W0:World} {C:Ctx} {w:World} (I:Inv W0 C w) (id:Nat) (bj:Oz C.H id) (o:A2) (X:Obj) (cap:Nat)
    (ho:Fl C w (C.new id o ⟨w.heap.size,0,cap⟩) (w.alloc X)→Wf (C.new id o ⟨w.heap.size,0,cap⟩) (w.alloc X) id o) :
    Inv W0 (C.new id o ⟨w.heap.size,0,cap⟩) (w.alloc X)∧Fl C w (C.new id o ⟨w.heap.size,0,cap⟩) (w.alloc X):=
  I.fresh id bj o _ (Nat.le_refl _) (by simp) (fun b hb=>Below.heap_alloc _ _ _ hb) (Xm I.below X) ho
theorem D5 (w:World) (X:Obj):(w.alloc X).heap[w.heap.size]? =some X:=by
  show(w.heap.push X)[w.heap.size]? =some X
  simp
theorem Ctx.Sz (C:Ctx) (id:Nat) (o:A2) (l:Loc):(C.new id o l).ρ id=some l:=by simp[Ctx.new]
theorem Ctx.Aad {C:Ctx} {id:Nat} (bj:Oz C.H id) (o:A2) (l:Loc):(C.new id o l).H[id]? =some o:=Gi bj
theorem Ctx.Rh {C:Ctx} {id:Nat} (bj:Oz C.H id) {o:A2} (l:Loc) (bc:o≠.resv):(C.new id o l).known id:=⟨o,Gi bj,bc⟩
theorem Ld (C:Ctx) (w:World) {T:TypeId} {z:Value} (hz:zeroV P T=some z):z.cells.size=(Ca P T).length∧
    ∀ (i:Nat) (u:Value) (c:Ac),z.cells[i]? =some u→(Ca P T)[i]? =some c→Bk C w u c:=by
  simp only[Ca,hz]
  refine⟨by simp,fun i u c h1 h2=>?_⟩
  simp only[List.getElem?_map,Array.getElem?_toList,h1,Option.map_some,Akv]at h2
  subst h2
  exact Xw C w u
theorem T5 {T:TypeId} {z:Value} (h:zeroV P T=some z) (w:World):(zeroValue T).run P w= .ok z w:=by
  unfold zeroV at h
  cases hi:P.info? T with
  | none=>simp[hi]at h
  | some i=>
    have hz:i.zero=some z:=by simpa[hi]using h
    simp[zeroValue,typeInfo,hi,hz]
theorem xO {W0:World} {C:Ctx} {w:World} (I:Inv W0 C w) {id:Nat} (bj:Oz C.H id) {T:TypeId} {v:Value} {cs:List Ac} {K:Ac→Eff→Prop}
    (h1:v.cells.size=cs.length) (h2:∀ (i:Nat) (u:Value) (c:Ac),v.cells[i]? =some u→cs[i]? =some c→Bk C w u c)
    (hk:K (.ptr id 0) (.new id (.box cs))):Wg W0 C w (((fun a=>Value.pointer (some a)) <$> newVar T v).run P w) K:=by
  have key:=I.alloc id bj (.box cs) (.cells v.cells T) v.cells.size (fun m=>⟨_,v.cells,T,Ctx.Sz _ _ _ _,D5 _ _,h1,fun i u c a b=>(h2 i u c a b).mono m⟩)
  refine⟨.pointer (some ⟨w.heap.size,0,none⟩),.ptr id 0,_,_,_,?_,?_,hk,rfl,key.1,key.2⟩
  ·simp[newVar,newRow]
  ·refine .ptr _ _ _ (Ctx.Rh bj _ (by simp)) fun cs' _=>⟨_,Ctx.Sz _ _ _ _,rfl⟩
theorem qI {W0:World} {C:Ctx} {w:World} (I:Inv W0 C w) {id:Nat} (bj:Oz C.H id) {T:TypeId} {K:Ac→Eff→Prop} (h:sY P T id K) :
    Wg W0 C w ((Instr.alloc T true (.tuple #[])).run P w) K:=by
  obtain⟨hz,hk⟩:=h
  obtain⟨z,hz⟩:=Option.isSome_iff_exists.1 hz
  have hr:=Ld (P:=P) C w hz
  have:=xO (P:=P) (T:=T) I bj hr.1 hr.2 hk
  simpa[Instr.alloc,T5 hz,Sem.run_map,Sem.run_bind]using this
theorem wC {W0:World} {C:Ctx} {w:World} (I:Inv W0 C w) {id:Nat} (bj:Oz C.H id) {T:TypeId} {x:Value} {ax:Ac} {K:Ac→Eff→Prop} (hx:Bk C w x ax) (h:wQ ax id K) :
    Wg W0 C w ((Instr.box T x).run P w) K:=by
  unfold wQ at h
  split at h
  ·rename_i cs hc
   have hr:=Z0 hx hc
   have:=xO (P:=P) (T:=T) I bj hr.1 hr.2 h
   simpa[Instr.box,Sem.run_map,Sem.run_bind]using this
  ·exact h.elim
theorem S1 {w:World} {g:Nat} {cur c:Array Value} {t:TypeId} (hg:w.heap[g]? =some (.cells cur t (0,0))) :
    (w.setRow g c).heap[g]? =some (.cells c t (0,0)):=setRow_heap w g cur c t _ hg
theorem Jc {W0 w:World} (h:Below W0.heap.size W0 w) {g:Nat} (hg:W0.heap.size≤g) (c:Array Value):Below W0.heap.size W0 (w.setRow g c):=
  h.trans ⟨rfl,rfl,rfl,by simp[World.setRow],fun k hk=>setRow_other w g k _ (by omega)⟩
theorem dZ {w:World} {T:TypeId} {g o:Nat} {cur:Array Value} {t:TypeId} {x:Value} (hT:okT P T=true) (hg:w.heap[g]? =some (.cells cur t (0,0)))
    (hn:x.cells.size=Bs P T) (ct:o+x.cells.size≤cur.size) (h1:∀ v∈x.cells.toList,v.oneCell'=true) :
    (Instr.storeAt T (.pointer (some ⟨g,o,none⟩)) x).run P w= .ok () (w.setRow g (cur.toList.take o++x.cells.toList++cur.toList.drop (o+x.cells.size)).toArray):=by
  obtain⟨i,d,hi,hd,hs⟩:=On hT
  have:=run_storeCells_at P g o t x.cells.toList 0 cur w hg (by simpa using ct) h1
  simp only[Nat.add_zero,Array.length_toList]at this
  simp only[Instr.storeAt,Instr.sureAddr,storeVar,Sem.run_bind,Sem.run_pure,Result.andThen_ok,Su hi,hn,hs,ne_eq,not_true_eq_false,if_false,this]
theorem Iu {cur:Array Value} {o:Nat} {vs:List Value} (h:o+vs.length≤cur.size):(cur.toList.take o++vs++cur.toList.drop (o+vs.length)).toArray.size=cur.size:=by
  simp;omega
theorem He {cur:Array Value} {o:Nat} {vs:List Value} (h:o+vs.length≤cur.size) (j:Nat) :
    (cur.toList.take o++vs++cur.toList.drop (o+vs.length)).toArray[j]? =if j<o then cur[j]? else if j<o+vs.length then vs[j - o]? else cur[j]?:=by
  simp only[List.getElem?_toArray,List.getElem?_append,Akw,List.length_take,Array.length_toList]
  have e:min o cur.size=o:=by omega
  rw[e]
  by_cases h1:j<o
  ·rw[if_pos (by omega),if_pos h1,if_pos h1,List.getElem?_take,if_pos h1,Array.getElem?_toList]
  ·rw[if_neg h1,if_neg h1]
   by_cases h2:j<o+vs.length
   ·rw[if_pos h2,if_pos h2]
   ·rw[if_neg h2,if_neg h2,List.getElem?_drop,Array.getElem?_toList]
    congr 1;omega
theorem Xy {cs:List Ac} {o:Nat} {vs:List Ac} (h:o+vs.length≤cs.length) (j:Nat) :
    (splice cs o vs)[j]? =if j<o then cs[j]? else if j<o+vs.length then vs[j - o]? else cs[j]?:=by
  unfold splice
  simp only[List.getElem?_append,Akw,List.length_take]
  have e:min o cs.length=o:=by omega
  rw[e]
  by_cases h1:j<o
  ·rw[if_pos (by omega),if_pos h1,if_pos h1,List.getElem?_take,if_pos h1]
  ·rw[if_neg h1,if_neg h1]
   by_cases h2:j<o+vs.length
   ·rw[if_pos h2,if_pos h2]
   ·rw[if_neg h2,if_neg h2,List.getElem?_drop]
    congr 1;omega
theorem S9 {cs:List Ac} {o:Nat} {vs:List Ac} (h:o+vs.length≤cs.length):(splice cs o vs).length=cs.length:=by
  unfold splice;simp;omega
theorem nE {W0:World} {C:Ctx} {w:World} (I:Inv W0 C w) {T:TypeId} {p x:Value} {ap ax:Ac} {K:Ac→Eff→Prop} (hp:Bk C w p ap) (hx:Bk C w x ax) (h:Xx P T ap ax C.H K) :
    Did W0 C w ((Instr.storeAt T p x).run P w) K:=by
  unfold Xx at h
  split at h
  ·rename_i vs eg
   obtain⟨hT,hn,nu,h⟩:=h
   have hr:=Z0 hx eg
   have h1:∀ v∈x.cells.toList,v.oneCell'=true:=by
     intro v hv
     obtain⟨i,hi⟩:=List.getElem?_of_mem hv
     rw[Array.getElem?_toList]at hi
     have af:i<vs.length:=by have:=(Array.getElem?_eq_some_iff.1 hi).1;omega
     exact one_cell (hr.2 i v _ hi (Aks af)) (List.all_eq_true.1 nu _ (List.getElem_mem af))
   split at h
   ·rename_i r k
    split at h
    ·rename_i cs hH
     obtain⟨ct,hk⟩:=h
     cases hp with
     | ptr a _ _ af hh=>
       obtain⟨l,hl,rfl⟩:=hh _ hH
       replace af:=af.lt
       obtain⟨l',arr,T',e1,e2,e3,e4⟩:=I.objs r _ hH
       rw[hl,Akv]at e1
       subst e1
       have bh:=dZ (P:=P) (T:=T) (o:=k) hT e2 (by omega) (by omega) h1
       have ix:x.cells.size=x.cells.toList.length:=by simp
       rw[ix]at bh
       have rh:k+x.cells.toList.length≤arr.size:=by simp;omega
       have key:=I.put (o':=.box (splice cs k vs)) hH hl (w':=w.setRow l.b (arr.toList.take k++x.cells.toList++arr.toList.drop (k+x.cells.toList.length)).toArray)
         (fun b hb=>setRow_other w l.b b _ hb) (by simp[World.setRow]) (Jc I.below (I.sep _ _ hl).2.1 _)
         (by unfold D2;simp only[Ctx.set,List.getElem?_set_self af];exact⟨⟨_,hH⟩,trivial⟩)
         (fun m=>⟨l,_,T',hl,S1 e2,by rw[Iu rh,S9 ct,e3],fun i u c a b=>by
           rw[He rh]at a
           rw[Xy ct]at b
           rw[← ix,hr.1]at a
           split at a
           ·rename_i h'
            rw[if_pos h']at b
            exact(e4 i u c a b).mono m
           ·rename_i h'
            rw[if_neg h']at b
            split at a
            ·rename_i h2
             rw[if_pos h2]at b
             exact(hr.2 _ u c (by simpa using a) b).mono m
            ·rename_i h2
             rw[if_neg h2]at b
             exact(e4 i u c a b).mono m⟩)
       exact⟨_,_,_,bh,hk,rfl,key.1,key.2⟩
    ·exact h.elim
   ·rename_i r v i k
    split at h
    ·rename_i v' sz xs hH
     obtain⟨hv,hgr,ct,hk⟩:=h
     cases hp with
     | rptr a _ _ _ _ af hh=>
       obtain⟨_,hh⟩:=hh _ _ _ hH
       replace af:=af.lt
       obtain⟨hi,l,hl,rfl⟩:=hh hv
       obtain⟨bl,bu,hg,ho⟩:=I.objs r _ hH
       rcases ho with⟨_,e1⟩ | ⟨l',arr,T',e1,e2,e3,e4,e5⟩
       ·rw[hl]at e1;cases e1
       rw[hl,Akv]at e1
       subst e1
       have xg:xs[i]? =some xs[i]:=Aks hi
       have va:=bu _ (List.getElem_mem hi)
       have nx:=hk _ xg va
       have hmul:(i+1)*sz≤xs.length*sz:=Nat.mul_le_mul_right _ hi
       rw[Nat.add_mul,Nat.one_mul]at hmul
       have rh:l.base+i*sz+k+x.cells.toList.length≤arr.size:=by simp;omega
       have bh:=dZ (P:=P) (T:=T) (o:=l.base+i*sz+k) hT e2 (by omega) (by simpa using rh) h1
       have ix:x.cells.size=x.cells.toList.length:=by simp
       rw[ix]at bh
       have jz:vs.length=x.cells.toList.length:=by simp;omega
       have hfa:k+vs.length≤xs[i].length:=by omega
       have gu:∀ (i2:Nat) (x2:List Ac),(xs.set i (splice xs[i] k vs))[i2]? =some x2→(i2=i∧x2=splice xs[i] k vs)∨(i2≠i∧xs[i2]? =some x2):=by
         intro i2 x2 h2
         by_cases e:i=i2
         ·subst e
          rw[List.getElem?_set_self hi,Akv]at h2
          exact .inl ⟨rfl,h2.symm⟩
         ·rw[List.getElem?_set_ne e]at h2
          exact .inr ⟨fun h=>e h.symm,h2⟩
       have gv:∀ x2∈xs.set i (splice xs[i] k vs),x2=splice xs[i] k vs∨x2∈xs:=by
         intro x2 h2
         rcases List.mem_or_eq_of_mem_set h2 with h2 | h2
         ·exact .inr h2
         ·exact .inl h2
       have key:=I.put (o':=.row v' sz (xs.set i (splice xs[i] k vs))) hH hl (w':=w.setRow l.b (arr.toList.take (l.base+i*sz+k)++x.cells.toList++arr.toList.drop (l.base+i*sz+k+x.cells.toList.length)).toArray)
         (fun b hb=>setRow_other w l.b b _ hb) (by simp[World.setRow]) (Jc I.below (I.sep _ _ hl).2.1 _)
         (by unfold D2;simp only[Ctx.set,List.getElem?_set_self af];exact .inl ⟨_,hH,by simp,trivial⟩)
         (fun m=>⟨bl,fun x2 h2=>by
          rcases gv x2 h2 with rfl | h2
          ·rw[S9 hfa];exact va
          ·exact bu x2 h2,fun x2 h2=>by
          rcases gv x2 h2 with rfl | h2
          ·intro c hc
           unfold splice at hc
           rw[Akz,Akz]at hc
           rcases hc with(hc | hc) | hc
           ·exact hg _ (List.getElem_mem hi) c (List.mem_of_mem_take hc)
           ·exact List.all_eq_true.1 hgr c hc
           ·exact hg _ (List.getElem_mem hi) c (List.mem_of_mem_drop hc)
          ·exact hg x2 h2,
           .inr ⟨l,_,T',hl,S1 e2,by rw[Iu rh,e3],by simpa using e4,fun i2 k2 x2 c2 g1 g2=>by
             rw[He rh]
             rcases gu i2 x2 g1 with⟨rfl,rfl⟩ | ⟨bc,g1⟩
             ·rw[Xy hfa]at g2
              by_cases hA:k2<k
              ·rw[if_pos hA]at g2
               obtain⟨u,hu,di⟩:=e5 i2 k2 _ c2 xg g2
               exact⟨u,by rw[if_pos (by omega)];exact hu,di.mono m⟩
              ·rw[if_neg hA]at g2
               by_cases hB:k2<k+vs.length
               ·rw[if_pos hB]at g2
                have ck:k2 - k<x.cells.size:=by omega
                refine⟨x.cells[k2 - k],?_,(hr.2 (k2 - k) _ c2 (Array.getElem?_eq_getElem ck) g2).mono m⟩
                rw[if_neg (by omega),if_pos (by omega)]
                have:l.base+(i2*sz+k2) - (l.base+i2*sz+k)=k2 - k:=by omega
                rw[this,Array.getElem?_toList,Array.getElem?_eq_getElem ck]
               ·rw[if_neg hB]at g2
                obtain⟨u,hu,di⟩:=e5 i2 k2 _ c2 xg g2
                exact⟨u,by rw[if_neg (by omega),if_neg (by omega)];exact hu,di.mono m⟩
             ·obtain⟨u,hu,di⟩:=e5 i2 k2 _ c2 g1 g2
              refine⟨u,?_,di.mono m⟩
              have dp:k2<sz:=by have:=C0 g2;have:=bu _ (Akt g1);omega
              have hkk:k+vs.length≤sz:=by omega
              rcases Nat.lt_or_gt_of_ne bc with mi | hgt'
              ·have:(i2+1)*sz≤i*sz:=Nat.mul_le_mul_right _ mi
               rw[Nat.add_mul,Nat.one_mul]at this
               rw[if_pos (by omega)];exact hu
              ·have:(i+1)*sz≤i2*sz:=Nat.mul_le_mul_right _ hgt'
               rw[Nat.add_mul,Nat.one_mul]at this
               rw[if_neg (by omega),if_neg (by omega)];exact hu⟩⟩)
       exact⟨_,_,_,bh,nx,rfl,key.1,key.2⟩
    ·exact h.elim
   ·exact h.elim
  ·exact h.elim
variable {P:Program}
theorem lH:∀ (l:List Value) (k off:Nat) (arr:Array Value),off+k+l.length≤arr.size→
    ((l.zipIdx k).foldl (fun cs (p:Value×Nat)=>cs.setIfInBounds (off+p.2) p.1) arr).size=arr.size∧
    ∀ j,((l.zipIdx k).foldl (fun cs (p:Value×Nat)=>cs.setIfInBounds (off+p.2) p.1) arr)[j]? =if off+k≤j∧j<off+k+l.length then l[j - (off+k)]? else arr[j]?
  | [],k,off,arr,_=>⟨rfl,fun j=>by simp;omega⟩
  | x::l,k,off,arr,h=>by
    simp only[List.length_cons]at h
    have ih:=lH l (k+1) off (arr.setIfInBounds (off+k) x) (by simp;omega)
    simp only[List.zipIdx_cons,List.foldl_cons]
    refine⟨by rw[ih.1];simp,fun j=>?_⟩
    rw[ih.2 j]
    simp only[List.length_cons]
    by_cases h1:off+(k+1)≤j∧j<off+(k+1)+l.length
    ·rw[if_pos h1,if_pos (by omega),show j - (off+k)=(j - (off+(k+1)))+1 by omega]
     simp
    ·rw[if_neg h1]
     by_cases h2:j=off+k
     ·subst h2
      rw[if_pos (by omega),Array.getElem?_setIfInBounds_self]
      rw[if_pos (by omega)]
      simp
     ·rw[if_neg (by omega),Array.getElem?_setIfInBounds_ne (by omega)]
theorem iR {C:Ctx} {w:World} (place:Nat→Option (Nat×Nat)):∀ (parts:List (Nat×Value)) (aparts:List (Nat×Ac)) (arr:Array Value) (cs cs':List Ac),
    parts.length=aparts.length→(∀ (i:Nat) p q,parts[i]? =some p→aparts[i]? =some q→p.1=q.1∧Bk C w p.2 q.2)→
    arr.size=cs.length→(∀ (i:Nat) (u:Value) (c:Ac),arr[i]? =some u→cs[i]? =some c→Bk C w u c)→Za place cs aparts=some cs'→
    ∃ arr',Instr.fill place arr parts=some arr'∧arr'.size=cs'.length∧∀ (i:Nat) (u:Value) (c:Ac),arr'[i]? =some u→cs'[i]? =some c→Bk C w u c
  | [],[],arr,cs,cs',_,_,hs,hr,h=>by
    simp only[Za,Akv]at h
    subst h
    exact⟨arr,rfl,hs,hr⟩
  | (i,v)::parts,(i',a)::aparts,arr,cs,cs',hl,hp,hs,hr,h=>by
    obtain⟨h1,h2⟩:=hp 0 (i,v) (i',a) rfl rfl
    simp only at h1 h2
    subst h1
    simp only[Za]at h
    split at h
    ·rename_i off size vs oo hc
     split at h
     ·cases h
     ·rename_i hn
      have hac:=Z0 h2 hc
      have hn1:vs.length=size:=by omega
      have hn2:off+vs.length≤cs.length:=by omega
      have ct:off+0+v.cells.toList.length≤arr.size:=by simp;omega
      have hf:=lH v.cells.toList 0 off arr ct
      have ih:=iR place parts aparts _ (splice cs off vs) cs' (by simpa using hl) (fun j p q a b=>hp (j+1) p q a b)
        (by rw[hf.1,S9 hn2,hs]) (fun j u c a b=>by
          rw[hf.2 j]at a
          rw[Xy hn2]at b
          simp only[Nat.add_zero,Array.length_toList,hac.1]at a
          split at a
          ·rename_i hj
           rw[if_neg (by omega),if_pos hj.2]at b
           exact hac.2 _ u c (by simpa using a) b
          ·rename_i hj
           by_cases h3:j<off
           ·rw[if_pos h3]at b;exact hr j u c a b
           ·rw[if_neg h3,if_neg (by omega)]at b;exact hr j u c a b) h
      obtain⟨arr',e1,e2,e3⟩:=ih
      refine⟨arr',?_,e2,e3⟩
      simp only[Instr.fill,oo]
      rw[if_neg (by simp;omega)]
      rw[← e1]
      congr 1
      rw[← Array.foldl_toList,Array.toList_zipIdx]
    ·cases h
  | [],_::_,_,_,_,hl,_,_,_,_=>by simp at hl
  | _::_,[],_,_,_,hl,_,_,_,_=>by simp at hl
theorem qD {C:Ctx} {w:World} {T:TypeId} {parts:Array (Nat×Value)} {aparts:List (Nat×Ac)} {K:Ac→Prop} (hl:parts.toList.length=aparts.length)
    (hp:∀ (i:Nat) p q,parts.toList[i]? =some p→aparts[i]? =some q→p.1=q.1∧Bk C w p.2 q.2) (h:Z3 P T aparts K):Quiet C w ((Instr.build T parts).run P w) K:=by
  obtain⟨hz,h⟩:=h
  obtain⟨z,hz⟩:=Option.isSome_iff_exists.1 hz
  split at h
  ·rename_i pl oo
   split at h
   ·rename_i cs ia
    have qy:=Ld (P:=P) C w hz
    obtain⟨arr',e1,e2,e3⟩:=iR (C:=C) (w:=w) _ _ _ _ _ _ hl hp qy.1 qy.2 ia
    refine .mk' (run_build w T parts arr' ?_) (.agg arr' cs e2 e3) h
    unfold placesOf at oo
    split at oo
    ·rename_i fs hU
     unfold zeroV at hz
     cases hi:P.info? T with
     | none=>simp[hi]at hz
     | some i=>
       have hz':i.zero=some z:=by simpa[hi]using hz
       simp only[Program.built,hi,hU,hz',oo]
       simpa using e1
    ·cases oo
   ·exact h.elim
  ·exact h.elim
theorem Ri (sz:Nat):∀ (n:Nat) (l:List Ac),(chunk sz n l).length=n
  | 0,_=>rfl
  | n+1,l=>by simp[chunk,Ri sz n]
theorem Yj (sz:Nat):∀ (n:Nat) (l:List Ac) (i:Nat),i<n→(chunk sz n l)[i]? =some ((l.drop (i*sz)).take sz)
  | 0,_,_,h=>absurd h (by omega)
  | n+1,l,0,_=>by simp[chunk]
  | n+1,l,i+1,h=>by
    simp only[chunk,List.getElem?_cons_succ]
    rw[Yj sz n _ i (by omega),List.drop_drop,Nat.add_mul,Nat.one_mul,Nat.add_comm sz]
theorem rU {T e:TypeId} (_h:F5 P T=some e) {z:Value} (hz:zeroV P e=some z):∃ i,P.info? e=some i∧i.zero=some z∧Bs P e=i.size∧bytesOf P e=i.bytes:=by
  unfold zeroV at hz
  cases hi:P.info? e with
  | none=>simp[hi]at hz
  | some i=>exact ⟨i,rfl,by simpa[hi]using hz,by simp[Bs,hi],by simp[bytesOf,hi]⟩
theorem sF {C:Ctx} {w:World} {arr:Array Value} {cs:List Ac} {sz n:Nat} (hn:cs.length=n*sz) (hr:∀ (i:Nat) (u:Value) (c:Ac),arr[i]? =some u→cs[i]? =some c→Bk C w u c) (hs:arr.size=cs.length) :
    (∀ x∈chunk sz n cs,x.length=sz)∧∀ (i k:Nat) (x:List Ac) (c:Ac),(chunk sz n cs)[i]? =some x→x[k]? =some c→∃ u,arr[0+(i*sz+k)]? =some u∧Bk C w u c:=by
  refine⟨fun x hx=>?_,fun i k x c hx hc=>?_⟩
  ·obtain⟨i,hi⟩:=List.getElem?_of_mem hx
   have af:i<n:=by have:=C0 hi;rwa [Ri]at this
   rw[Yj sz n cs i af,Akv]at hi
   subst hi
   have:(i+1)*sz≤n*sz:=Nat.mul_le_mul_right _ af
   rw[Nat.add_mul,Nat.one_mul]at this
   simp;omega
  ·have af:i<n:=by have:=C0 hx;rwa [Ri]at this
   rw[Yj sz n cs i af,Akv]at hx
   subst hx
   rw[List.getElem?_take]at hc
   split at hc
   ·rw[List.getElem?_drop]at hc
    have ck:=C0 hc
    refine⟨arr[i*sz+k],?_,hr _ _ c ?_ hc⟩
    ·rw[Nat.zero_add,Array.getElem?_eq_getElem (by omega)]
    ·rw[Array.getElem?_eq_getElem (by omega)]
   ·cases hc
theorem sG {sz n:Nat} {cs x:List Ac} {c:Ac} (hx:x∈chunk sz n cs) (hc:c∈x):c∈cs:=by
  obtain⟨i,hi⟩:=List.getElem?_of_mem hx
  have af:i<n:=by have:=C0 hi;rwa [Ri]at this
  rw[Yj sz n cs i af,Akv]at hi
  subst hi
  exact List.mem_of_mem_drop (List.mem_of_mem_take hc)
theorem cU {W0:World} {C:Ctx} {w:World} (I:Inv W0 C w) {id:Nat} (bj:Oz C.H id) (T:TypeId) (arr:Array Value) (sz len cap:Nat) (xs:List (List Ac)) (bl:1≤sz) (bu:∀ x∈xs,x.length=sz) (hg:∀ x∈xs,∀ c∈x,Ac.g0 c=true)
    (hlen:len=xs.length) (ct:xs.length*sz≤arr.size)
    (hr:∀ (i k:Nat) (x:List Ac) (c:Ac),xs[i]? =some x→x[k]? =some c→∃ u,arr[0+(i*sz+k)]? =some u∧Bk C w u c)
    (cw:len≤cap) (cd:cap≤maxLen) (mn:cap*sz≤arr.size) :
    ∃ C',C'.H=Ha C.H id (.row 0 sz xs)∧Bk C' (w.alloc (.cells arr T)) (.slice (some ⟨w.heap.size,0,none⟩) len cap) (.own id 0 0 len)∧
      Inv W0 C' (w.alloc (.cells arr T))∧Fl C w C' (w.alloc (.cells arr T)):=by
  have key:=I.alloc id bj (.row 0 sz xs) (.cells arr T) arr.size (fun m=>⟨bl,bu,hg,.inr ⟨_,arr,T,Ctx.Sz _ _ _ _,D5 _ _,rfl,by simpa using ct,fun i k x c a b=>by
    obtain⟨u,hu,di⟩:=hr i k x c a b
    exact⟨u,hu,di.mono m⟩⟩⟩)
  refine⟨_,rfl,.own _ _ _ _ _ _ (Ctx.Rh bj _ (by simp)) cw cd (fun v' sz' xs' h=>?_),key.1,key.2⟩
  rw[Ctx.Aad bj,Akv,A2.row.injEq]at h
  obtain⟨rfl,rfl,rfl⟩:=h
  exact⟨Nat.le_refl _,fun _=>⟨by omega,.inr ⟨_,Ctx.Sz _ _ _ _,by simp,by simpa using mn⟩⟩⟩
theorem aC (cs:List Ac):∀ n,(reps n cs).length=n*cs.length
  | 0=>by simp[reps]
  | n+1=>by rw[reps,Akw,aC cs n,Nat.add_mul,Nat.one_mul];omega
theorem nQ (cs:List Ac):∀ (n j:Nat),j<n*cs.length→(reps n cs)[j]? =cs[j % cs.length]?
  | 0,j,h=>by simp at h
  | n+1,j,h=>by
    rw[reps]
    by_cases hj:j<cs.length
    ·rw[List.getElem?_append_left hj,Nat.mod_eq_of_lt hj]
    ·rw[List.getElem?_append_right (by omega),nQ cs n _ (by rw[Nat.add_mul,Nat.one_mul]at h;omega)]
     congr 1
     exact(Nat.mod_eq_sub_mod (by omega)).symm
theorem dK {W0:World} {C:Ctx} {w:World} (I:Inv W0 C w) {id:Nat} (bj:Oz C.H id) {T:TypeId} {len:Nat} {parts:Array (Nat×Value)} {aparts:List (Nat×Ac)} {K:Ac→Eff→Prop} (hl:parts.toList.length=aparts.length)
    (hp:∀ (i:Nat) p q,parts.toList[i]? =some p→aparts[i]? =some q→p.1=q.1∧Bk C w p.2 q.2) (hm:len≤maxLen) (h:Nv P T len aparts id K):Wg W0 C w ((Instr.buildSlice T len parts).run P w) K:=by
  unfold Nv at h
  split at h
  ·rename_i e hT
   obtain⟨hz,h1,h2,h3,h⟩:=h
   obtain⟨z,hz⟩:=Option.isSome_iff_exists.1 hz
   obtain⟨i,hi,tq,hs,hb⟩:=rU hT hz
   have qy:=Ld (P:=P) C w hz
   have tc:z.cells.size=Bs P e:=by omega
   split at h
   ·rename_i cs ia
    obtain⟨hg,hk⟩:=h
    obtain⟨arr',e1,e2,e3⟩:=iR (C:=C) (w:=w) (fun i=>some (i*Bs P e,Bs P e)) _ _ ((Array.range (len*Bs P e)).map (z.cells[·% z.cells.size]!)) _ _ hl hp (by simp[aC,h2]) (fun j u c a b=>by
      simp only[Array.getElem?_map]at a
      by_cases hj:j<len*Bs P e
      ·rw[Array.getElem?_range,if_pos hj]at a
       rw[nQ _ _ _ (by rw[h2];exact hj),h2]at b
       simp only[Option.map_some,Akv]at a
       subst a
       have hm:=Nat.mod_lt j (show 0<Bs P e by omega)
       refine qy.2 (j % Bs P e) _ _ ?_ b
       rw[tc,getElem!_pos z.cells (j % Bs P e) (by omega)]
       rw[Array.getElem?_eq_getElem (by omega)]
      ·rw[List.getElem?_eq_none (by rw[aC,h2];omega)]at b
       cases b) ia
    have dx:cs.length=len*Bs P e:=by
      have:∀ (aparts:List (Nat×Ac)) (place) (cs cs':List Ac),Za place cs aparts=some cs'→cs'.length=cs.length:=by
        intro aparts place
        induction aparts with
        | nil=>intro cs cs' h;simp only[Za,Akv]at h;subst h;rfl
        | cons p r ih=>
          intro cs cs' h
          simp only[Za]at h
          split at h
          ·split at h
           ·cases h
           ·rw[ih _ _ h,S9 (by omega)]
          ·cases h
      rw[this _ _ _ _ ia,aC,h2]
    have hch:=sF dx e3 e2
    have hgr:∀ x∈chunk (Bs P e) len cs,∀ c∈x,Ac.g0 c=true:=fun x hx c hc=>List.all_eq_true.1 hg c (sG hx hc)
    have hlr:len*Bs P e≤arr'.size:=by omega
    obtain⟨C',g1,g2,g3,g4⟩:=cU I bj e arr' (Bs P e) len len (chunk (Bs P e) len cs) h1 hch.1 hgr (by rw[Ri]) (by rw[Ri];exact hlr) hch.2 (Nat.le_refl _) hm hlr
    refine⟨_,_,_,C',_,?_,g2,hk,g1,g3,g4⟩
    have hle:¬ (len*Bs P e > 2 ^ 24):=by simp;omega
    have gy:(Instr.buildSlice T len parts).run P w= .ok (.slice (some ⟨w.heap.size,0,none⟩) len len) (w.alloc (.cells arr' e)):=by
      by_cases h0:len*Bs P e=0
      ·have sg:len=0:=by
         rcases Nat.mul_eq_zero.1 h0 with h | h
         ·exact h
         ·omega
       subst sg
       have hrg:Array.range 0=#[]:=rfl
       have e1':Instr.fill (fun i=>some (i*Bs P e,Bs P e)) #[] parts.toList=some arr':=by simpa[hrg]using e1
       simp[Instr.buildSlice,Jp (Pf hT),Su hi,← hs,e1',newRow,hrg]
      ·simp only[Instr.buildSlice,Sem.run_bind,Jp (Pf hT),Result.andThen_ok,Su hi,← hs,hle,h0,if_false,T5 hz,Sem.run_pure,e1,newRow,run_newObj]
       rfl
    exact gy
   ·exact h.elim
  ·exact h.elim
theorem fB {W0:World} {C:Ctx} {w:World} (I:Inv W0 C w) {id:Nat} (bj:Oz C.H id) {T:TypeId} {l c:Value} {al ac:Ac} {K:Ac→Eff→Prop} (hl:Bk C w l al) (hc:Bk C w c ac) (h:Pk P T al ac id K) :
    Wg W0 C w ((Instr.makeSlice T l c).run P w) K:=by
  unfold Pk at h
  split at h
  ·rename_i e kl n kc m hT
   obtain⟨hz,h1,h2,hg,h0,h3,h4,h5,hk⟩:=h
   cases hl;cases hc
   obtain⟨z,hz⟩:=Option.isSome_iff_exists.1 hz
   obtain⟨i,hi,tq,hs,hb⟩:=rU hT hz
   have qy:=Ld (P:=P) C w hz
   have tc:z.cells.size=Bs P e:=by omega
   have bh:=run_make (P:=P) w T e i z (Pf hT) hi tq kl kc n m h0 h3 (by rw[← hb];exact h4) h5
   have hle:n.toNat*Bs P e≤m.toNat*Bs P e:=Nat.mul_le_mul_right _ (by omega)
   have ej:(madeCells z.cells (m.toNat*i.size)).size=m.toNat*Bs P e:=by rw[size_madeCells,hs]
   obtain⟨C',g1,g2,g3,g4⟩:=cU I bj e (madeCells z.cells (m.toNat*i.size)) (Bs P e) n.toNat m.toNat (List.replicate n.toNat (Ca P e)) h1
     (fun x hx=>by rw[List.eq_of_mem_replicate hx];exact h2) (fun x hx c hc=>by rw[List.eq_of_mem_replicate hx]at hc;exact List.all_eq_true.1 hg c hc)
     (by simp) (by rw[ej];simpa using hle) (fun j k x c hx hc=>by
       have hj:j<n.toNat:=by have:=C0 hx;simpa using this
       rw[List.getElem?_replicate,if_pos hj,Akv]at hx
       subst hx
       have dp:k<Bs P e:=by have:=C0 hc;omega
       have af:j*Bs P e+k<m.toNat*i.size:=by
         rw[← hs]
         have:(j+1)*Bs P e≤m.toNat*Bs P e:=Nat.mul_le_mul_right _ (by omega)
         rw[Nat.add_mul,Nat.one_mul]at this
         omega
       refine⟨z.cells[k],?_,qy.2 k _ c (Array.getElem?_eq_getElem (by omega)) hc⟩
       have sf:(j*Bs P e+k) % z.cells.size=k:=by rw[tc,Nat.mul_comm,Nat.mul_add_mod];exact Nat.mod_eq_of_lt dp
       simp only[madeCells,Nat.zero_add,Array.getElem?_map,Array.getElem?_range,if_pos af,Option.map_some,sf]
       rw[getElem!_pos z.cells k (by omega)]) (by omega) (by simp only[maxLen];omega) (by rw[ej];exact Nat.le_refl _)
   exact⟨_,_,_,C',_,bh,g2,hk,g1,g3,g4⟩
  ·exact h.elim
theorem vZ {W0:World} {C:Ctx} {w:World} (I:Inv W0 C w) {x:Value} {ax:Ac} {sz:Nat} {ys:List (List Ac)} (hx:Bk C w x ax) (h:Z2 ax C.H=some (sz,ys)) :
    ∃ a m c,x= .slice a m c∧m=ys.length∧m≤c∧c≤maxLen∧(∀ y∈ys,y.length=sz)∧(∀ y∈ys,∀ c∈y,Ac.g0 c=true)∧
      (ys≠[]→1≤sz∧∃ ad,a=some ad∧∃ news:List Value,news.length=m*sz∧(∀ j u,news[j]? =some u→w.cell? (ad.add j)=some u)∧
        (∀ (i k:Nat) (x:List Ac) (c:Ac),ys[i]? =some x→x[k]? =some c→∃ u,news[i*sz+k]? =some u∧Bk C w u c)):=by
  unfold Z2 at h
  split at h
  ·rename_i sz1 xs1
   simp only[Akv,Prod.mk.injEq]at h
   obtain⟨rfl,rfl⟩:=h
   cases hx with
   | sl0 a cap _ cd=>exact ⟨a,0,cap,rfl,rfl,Nat.zero_le _,cd,by simp,by simp,by simp⟩
   | sl a len cap _ _ u cm hlen cw cd hA bl bu hg aq ay=>
     refine⟨some a,len,cap,rfl,hlen,cw,cd,bu,hg,fun _=>⟨bl,a,rfl,(List.range (len*sz1)).map u,by simp,fun j v hj=>?_,fun i k x c h1 h2=>?_⟩⟩
     ·simp only[List.getElem?_map]at hj
      have af:j<len*sz1:=by
        rcases Nat.lt_or_ge j (len*sz1)with h | h
        ·exact h
        ·rw[List.getElem?_eq_none (by simpa using h)]at hj;cases hj
      rw[List.getElem?_range af]at hj
      simp only[Option.map_some,Akv]at hj
      subst hj
      rw[D4 _ _ cm]
      exact aq j (by rw[← hlen];exact af)
     ·refine⟨u (i*sz1+k),?_,ay i k x c h1 h2⟩
      have hi:=C0 h1
      have hk:k<sz1:=by have:=C0 h2;have:=bu _ (Akt h1);omega
      have:(i+1)*sz1≤len*sz1:=Nat.mul_le_mul_right _ (by omega)
      rw[Nat.add_mul,Nat.one_mul]at this
      rw[List.getElem?_map,List.getElem?_range (by omega)]
      rfl
  ·rename_i r v lo len
   split at h
   ·rename_i v' sz' xs hr
    split at h
    ·rename_i hv
     simp only[Akv,Prod.mk.injEq]at h
     obtain⟨rfl,rfl⟩:=h
     cases hx with
     | own a _ cap _ _ _ af cw cd hh=>
       obtain⟨_,hh⟩:=hh _ _ _ hr
       obtain⟨hle,hh⟩:=hh hv
       obtain⟨bl,bu,hg,ho⟩:=I.objs r _ hr
       have hlen:((xs.drop lo).take len).length=len:=by simp;omega
       refine⟨a,len,cap,rfl,hlen.symm,cw,cd,fun y hy=>bu y (List.mem_of_mem_drop (List.mem_of_mem_take hy)),fun y hy=>hg y (List.mem_of_mem_drop (List.mem_of_mem_take hy)),fun bc=>⟨bl,?_⟩⟩
       have hlen0:len≠0:=fun e=>bc (by subst e;simp)
       rcases hh with hh | ⟨l,hl,rfl,ct⟩
       ·omega
       rcases ho with⟨e1,_⟩ | ⟨l',arr,T',e1,e2,e3,e4,e5⟩
       ·subst e1;simp at hle;omega
       rw[hl,Akv]at e1
       subst e1
       have hmul:(lo+len)*sz'≤xs.length*sz':=Nat.mul_le_mul_right _ hle
       have jf:(lo+len)*sz'=lo*sz'+len*sz':=Nat.add_mul _ _ _
       refine⟨_,rfl,(arr.toList.drop (l.base+lo*sz')).take (len*sz'),by simp;omega,fun j u hj=>?_,fun i k x c h1 h2=>?_⟩
       ·rw[List.getElem?_take]at hj
        split at hj
        ·rw[List.getElem?_drop,Array.getElem?_toList]at hj
         rw[D4 _ _ rfl]
         simp only[World.cell?,e2]
         simpa using hj
        ·cases hj
       ·rw[List.getElem?_take]at h1
        split at h1
        ·rename_i hi
         rw[List.getElem?_drop]at h1
         obtain⟨u,hu,di⟩:=e5 _ k x c h1 h2
         refine⟨u,?_,di⟩
         have hk:k<sz':=by have:=C0 h2;have:=bu _ (Akt h1);omega
         have:(i+1)*sz'≤len*sz':=Nat.mul_le_mul_right _ hi
         rw[Nat.add_mul,Nat.one_mul]at this
         rw[List.getElem?_take,if_pos (by omega),List.getElem?_drop,Array.getElem?_toList]
         rw[show l.base+lo*sz'+(i*sz'+k)=l.base+((lo+i)*sz'+k) by rw[Nat.add_mul];omega]
         exact hu
        ·cases h1
    ·cases h
   ·cases h
  ·cases h
theorem pL {C:Ctx} {w:World} {ys:List (List Ac)} {sz:Nat} {news:List Value} (hlen:news.length=ys.length*sz) (bu:∀ y∈ys,y.length=sz) (hg:∀ y∈ys,∀ c∈y,Ac.g0 c=true)
    (hr:∀ (i k:Nat) (x:List Ac) (c:Ac),ys[i]? =some x→x[k]? =some c→∃ u,news[i*sz+k]? =some u∧Bk C w u c):∀ u∈news,u.oneCell'=true:=by
  intro u hu
  obtain⟨j,hj⟩:=List.getElem?_of_mem hu
  have af:=C0 hj
  rw[hlen]at af
  have zw:0<sz:=by
    rcases Nat.eq_zero_or_pos sz with h | h
    ·subst h;simp at af
    ·exact h
  have hi:j / sz<ys.length:=(Nat.div_lt_iff_lt_mul zw).2 af
  have hk:j % sz<sz:=Nat.mod_lt _ zw
  have h1:ys[j / sz]? =some ys[j / sz]:=Aks hi
  have h2l:j % sz<ys[j / sz].length:=by rw[bu _ (List.getElem_mem hi)];exact hk
  obtain⟨u',re,di⟩:=hr _ _ _ _ h1 (Aks h2l)
  rw[Nat.mul_comm,Nat.div_add_mod,hj,Akv]at re
  subst re
  refine one_cell di ?_
  have:=hg _ (List.getElem_mem hi) _ (List.getElem_mem h2l)
  revert this
  generalize ys[j / sz][j % sz]=c
  cases c<;>simp[Ac.g0,Ac.one]
theorem Ub {w:World} {T e ty:TypeId} {i:TypeInfo} (hT:P.underlying T=some (.slice e)) (hi:P.info? e=some i) (b:Option Addr) (sLen sCap:Nat) (hle:sLen≤sCap) (a:Option Addr) (c:Nat) :
    (Builtin.append_ #[T,T] ty #[.slice b sLen sCap,.slice a 0 c]).run P w= .ok (.slice b sLen sCap) w:=by
  have hfc:∀ (a:Option Addr),(Builtin.firstCells i.size 0 (.slice a 0 c)).run P w= .ok #[] w:=by
    intro a
    cases a<;>simp[Builtin.firstCells,loadCells,loadCellsFrom]
  cases b<;>simp[Builtin.append_,Jp hT,Su hi,Builtin.lenOf,hle,hfc,storeCells]
theorem jH {w:World} {T e ty:TypeId} {i:TypeInfo} (hT:P.underlying T=some (.slice e)) (hi:P.info? e=some i)
    (g o sLen sCap:Nat) (cur:Array Value) (t:TypeId) (hg:w.heap[g]? =some (.cells cur t (0,0)))
    (a:Addr) (m c:Nat) (news:List Value) (hl:news.length=m*i.size) (gd:∀ j u,news[j]? =some u→w.cell? (a.add j)=some u) (h1:∀ u∈news,u.oneCell'=true)
    (dw:sLen+m≤sCap) (ct:o+sLen*i.size+news.length≤cur.size) :
    (Builtin.append_ #[T,T] ty #[.slice (some ⟨g,o,none⟩) sLen sCap,.slice (some a) m c]).run P w =
      .ok (.slice (some ⟨g,o,none⟩) (sLen+m) sCap) (w.setRow g (cur.toList.take (o+sLen*i.size)++news++cur.toList.drop (o+sLen*i.size+news.length)).toArray):=by
  have hf:=run_firstCells_some (P:=P) w i.size m a m c news hl gd
  have iw:=run_storeCells_at P g (o+sLen*i.size) t news 0 cur w hg (by simpa using ct) h1
  simp only[Nat.add_zero]at iw
  simp[Builtin.append_,Jp hT,Su hi,typeInfo,hi,Builtin.lenOf,dw,hf,D4,iw]
variable {P:Program}
theorem Vj {n c b:Nat} (h:c<n) (hb:n*b≤140737488355328):Builtin.nextslicecap n c*b≤281474976710656:=growslice_fits h hb
theorem kW {C:Ctx} {w:World} {sz:Nat} {olds news:List Value} {xs ys:List (List Ac)}
    (hx:∀ x∈xs++ys,x.length=sz) (hol:olds.length=xs.length*sz) (nv:news.length=ys.length*sz)
    (ho:∀ (i k:Nat) (x:List Ac) (c:Ac),xs[i]? =some x→x[k]? =some c→∃ u,olds[i*sz+k]? =some u∧Bk C w u c)
    (hn:∀ (i k:Nat) (x:List Ac) (c:Ac),ys[i]? =some x→x[k]? =some c→∃ u,news[i*sz+k]? =some u∧Bk C w u c)
    (cap:Nat) (z:Array Value) (hz:z.size=sz) (hc:xs.length+ys.length≤cap) (C1:Ctx) (w1:World) (m:Fl C w C1 w1) :
    (olds.toArray++news.toArray++Builtin.zeroCells z (cap - (xs.length+ys.length))).size=cap*sz∧
    ∀ (i k:Nat) (x:List Ac) (c:Ac),(xs++ys)[i]? =some x→x[k]? =some c→∃ u,(olds.toArray++news.toArray++Builtin.zeroCells z (cap - (xs.length+ys.length)))[0+(i*sz+k)]? =some u∧Bk C1 w1 u c:=by
  refine⟨?_,fun i k x c h1 h2=>?_⟩
  ·simp only[Array.size_append,List.size_toArray,size_zeroCells,hz,hol,nv,← Nat.add_mul]
   congr 1;omega
  ·have hk:k<sz:=by have:=C0 h2;have:=hx _ (Akt h1);omega
   have key:∃ u,(olds++news)[i*sz+k]? =some u∧Bk C w u c:=by
     by_cases hi:i<xs.length
     ·rw[List.getElem?_append_left hi]at h1
      obtain⟨u,hu,di⟩:=ho i k x c h1 h2
      exact⟨u,by rw[List.getElem?_append_left (C0 hu)];exact hu,di⟩
     ·rw[List.getElem?_append_right (by omega)]at h1
      obtain⟨u,hu,di⟩:=hn _ k x c h1 h2
      have:xs.length*sz≤i*sz:=Nat.mul_le_mul_right _ (by omega)
      refine⟨u,?_,di⟩
      rw[List.getElem?_append_right (by omega),hol]
      rwa [Nat.sub_mul,show i*sz - xs.length*sz+k=i*sz+k - xs.length*sz by omega]at hu
   obtain⟨u,hu,di⟩:=key
   refine⟨u,?_,di.mono m⟩
   have af:=C0 hu
   rw[Nat.zero_add,Array.getElem?_append_left (by simpa using af)]
   rw[← List.getElem?_toArray]at hu
   simpa using hu
theorem mW {W0:World} {C:Ctx} {w:World} (I:Inv W0 C w) {id:Nat} (bj:Oz C.H id) {T ty:TypeId} {s x:Value} {zq ax:Ac} {K:Ac→Eff→Prop} (hs:Bk C w s zq) (hx:Bk C w x ax) (h:Tb P T zq ax C.H id K) :
    Wg W0 C w ((Builtin.append_ #[T,T] ty #[s,x]).run P w) K:=by
  unfold Tb at h
  split at h
  ·rename_i e hT
   obtain⟨hz,bl,hzl,h⟩:=h
   obtain⟨z,hz⟩:=Option.isSome_iff_exists.1 hz
   obtain⟨i,hi,tq,om,hby⟩:=rU hT hz
   have hU:=Pf hT
   have qy:=Ld (P:=P) C w hz
   have tc:z.cells.size=Bs P e:=by omega
   split at h
   ·rename_i szx ys qj
    obtain⟨hszx,h⟩:=h
    obtain⟨xa,m,xc,rfl,hm,hmc,hxcm,rn,hyg,sb⟩:=vZ I hx qj
    subst hszx
    have fromZero:∀ (b:Option Addr),ys.length*bytesOf P e≤140737488355328→ys.length≤9223372036854775807→K (.own id 0 0 ys.length) (.new id (.row 0 (Bs P e) ys))→
     Wg W0 C w ((Builtin.append_ #[T,T] ty #[.slice b 0 0,.slice xa m xc]).run P w) K:=by
      intro b h48 h63 hk
      by_cases hy:ys=[]
      ·subst hy
       subst hm
       have bh:=Ub (P:=P) (w:=w) (ty:=ty) hU hi b 0 0 (Nat.le_refl _) xa xc
       have key:=I.ghost id bj (.row 0 (Bs P e) []) (fun _=>⟨bl,by simp,by simp,.inl ⟨rfl,I.tP bj⟩⟩)
       refine⟨_,_,_,_,_,bh,.own _ _ _ _ _ _ ⟨_,Gi bj,by simp⟩ (Nat.le_refl _) (Nat.zero_le _) (fun v' sz' xs' h'=>?_),hk,rfl,key.1,key.2⟩
       simp only[Ctx.ghost]at h'
       rw[Gi bj,Akv,A2.row.injEq]at h'
       obtain⟨rfl,rfl,rfl⟩:=h'
       exact⟨Nat.le_refl _,fun _=>⟨by simp,.inl rfl⟩⟩
      ·obtain⟨_,ad,rfl,news,nv,gd,hnr⟩:=sb hy
       have sd:0<m:=by rw[hm];exact List.length_pos_iff.2 hy
       have se:news.length=ys.length*Bs P e:=by rw[nv,hm]
       have qt:((m:Nat):Int)≤9223372036854775807:=by omega
       have hml:=Lv
       have fin:∀ cap,m≤cap→cap≤maxLen→Wg W0 C w (.ok (.slice (some ⟨w.heap.size,0,none⟩) m cap) (w.drew.alloc (.cells (([]:List Value).toArray++news.toArray++Builtin.zeroCells z.cells (cap - (([]:List (List Ac)).length+ys.length))) e))) K:=by
         intro cap hc1 xn
         have I':=I.same (w':=w.drew) rfl (I.below.drew)
         have hr:=kW (xs:=[]) (olds:=[]) (by simpa using rn) (by simp) se (by simp) hnr cap z.cells tc (by simp;omega) C w.drew I'.2
         obtain⟨C',g1,g2,g3,g4⟩:=cU I'.1 bj e _ (Bs P e) m cap ys bl rn hyg hm (by rw[hr.1];exact Nat.mul_le_mul_right _ (by omega)) (by simpa using hr.2) hc1 xn (by rw[hr.1];exact Nat.le_refl _)
         exact⟨_,_,_,C',_,rfl,by rw[hm]at g2 ⊢;exact g2,hk,g1,g3,I'.2.trans g4⟩
       cases b with
       | none=>
         have bh:=run_append_nil (P:=P) w T ty e i z hU hi tq ad m xc news (by rw[nv,om]) gd sd qt (by rw[← hby,hm];omega)
         rw[bh]
         have:=fin (grownCap w m 0 e) (grownCap_ge _ _ _ _) (grownCap_le_maxLen _ _ _ _ (by omega))
         simpa[hm]using this
       | some b=>
         have bh:=run_append_grow (P:=P) w T ty e i z hU hi tq b 0 0 [] (by simp) (by simp) ad m xc news (by rw[nv,om]) gd (by omega) (by simpa using qt) (Vj (by omega) (by rw[← hby,Nat.zero_add,hm];exact h48))
         rw[bh]
         have:=fin (grownCap w (0+m) 0 e) (by have:=grownCap_ge w (0+m) 0 e;omega) (grownCap_le_maxLen _ _ _ _ (by omega))
         simpa[hm]using this
    split at h
    ·cases hs
     exact fromZero none h.1 h.2.1 h.2.2
    ·cases hs
     exact fromZero _ h.1 h.2.1 h.2.2
    ·rename_i r v lo len
     split at h
     ·rename_i v' sz xs hr
      obtain⟨hv,bu,h48,h63,hk⟩:=h
      subst hv
      subst bu
      cases hs with
      | own sa _ cap _ _ _ af cw cd hh=>
        obtain⟨_,hh⟩:=hh _ _ _ hr
        obtain⟨hle,hh⟩:=hh rfl
        obtain⟨_,bu,hg,ho⟩:=I.objs r _ hr
        have hlen:((xs.drop lo).take len).length=len:=by simp;omega
        have gj:∀ x∈(xs.drop lo).take len++ys,x.length=Bs P e:=fun x hx=>by
          rcases Akz.1 hx with hx | hx
          ·exact bu x (List.mem_of_mem_drop (List.mem_of_mem_take hx))
          ·exact rn x hx
        have gi:∀ x∈(xs.drop lo).take len++ys,∀ c∈x,Ac.g0 c=true:=fun x hx=>by
          rcases Akz.1 hx with hx | hx
          ·exact hg x (List.mem_of_mem_drop (List.mem_of_mem_take hx))
          ·exact hyg x hx
        have hb0:W0.heap.size≤w.heap.size:=I.below.size
        have own':∀ (C':Ctx) (w':World) (a:Option Addr) (cap':Nat) (l:Loc),C'.H=C.H.set r (.row (v+1) (Bs P e) ((xs.drop lo).take len++ys))→len+m≤cap'→cap'≤maxLen→
         (cap'=0∨(C'.ρ r=some l∧a=some ⟨l.b,l.base,none⟩∧l.base+cap'*Bs P e≤l.cap))→Bk C' w' (.slice a (len+m) cap') (.own r (v+1) 0 (len+ys.length)):=by
          intro C' w' a cap' l hH h1 h2 h3
          rw[← hm]
          refine .own _ _ _ _ _ _ ⟨_,by rw[hH];exact List.getElem?_set_self af.lt,by simp⟩ h1 h2 (fun v2 sz2 xs2 h'=>?_)
          rw[hH,List.getElem?_set_self af.lt,Akv,A2.row.injEq]at h'
          obtain⟨rfl,rfl,rfl⟩:=h'
          refine⟨Nat.le_refl _,fun _=>⟨by simp[hlen,hm],?_⟩⟩
          rcases h3 with h3 | ⟨h3,h4,h5⟩
          ·exact .inl h3
          ·exact .inr ⟨l,h3,by simpa using h4,by simpa using h5⟩
        by_cases hy:ys=[]
        ·
         subst hy
         have hm0:m=0:=by simpa using hm
         subst hm0
         have bh:=Ub (P:=P) (w:=w) (ty:=ty) hU hi sa len cap cw xa xc
         rcases hh with hc0 | ⟨l,hl,hsa,ct⟩
         ·have sg:len=0:=by omega
          subst sg
          have key:=I.reloc (sz':=Bs P e) (xs':=(xs.drop lo).take 0++[]) hr (Nat.lt_succ_self v) none (fun b _ _=>rfl) (Nat.le_refl _) I.below (by simp)
            (fun m=>⟨bl,gj,gi,.inl ⟨by simp,by simp[Ctx.reloc]⟩⟩)
          exact⟨_,_,_,_,_,bh,own' _ _ sa cap ⟨0,0,0⟩ rfl (by omega) cd (.inl hc0),hk,rfl,key.1,key.2⟩
         ·subst hsa
          rcases ho with⟨e1,e2⟩ | ⟨l',arr,T',e1,e2,e3,e4,e5⟩
          ·rw[hl]at e2;cases e2
          rw[hl,Akv]at e1
          subst e1
          have hmul:(lo+len)*Bs P e≤xs.length*Bs P e:=Nat.mul_le_mul_right _ hle
          have jf:(lo+cap)*Bs P e=lo*Bs P e+cap*Bs P e:=Nat.add_mul _ _ _
          have hadd2:(lo+len)*Bs P e=lo*Bs P e+len*Bs P e:=Nat.add_mul _ _ _
          have key:=I.reloc (sz':=Bs P e) (xs':=(xs.drop lo).take len++[]) hr (Nat.lt_succ_self v) (some ⟨l.b,l.base+lo*Bs P e,l.cap⟩) (fun b _ _=>rfl) (Nat.le_refl _) I.below
            (fun l2 h2=>by
              simp only[Akv]at h2;subst h2
              have:=I.sep r l hl
              exact⟨this.2.1,this.2.2.1,this.2.2.2,fun r' l' bc h' eb=>bc (I.inj _ _ _ _ h' hl eb)⟩)
            (fun m=>⟨bl,gj,gi,.inr ⟨⟨l.b,l.base+lo*Bs P e,l.cap⟩,arr,T',by simp[Ctx.reloc],e2,e3,by simp only[List.append_nil,hlen];omega,fun i2 k x c h1 h2=>by
              simp only[List.append_nil]at h1
              rw[List.getElem?_take]at h1
              split at h1
              ·rw[List.getElem?_drop]at h1
               obtain⟨u,hu,di⟩:=e5 _ k x c h1 h2
               refine⟨u,?_,di.mono m⟩
               rwa [Nat.add_mul,show l.base+(lo*Bs P e+i2*Bs P e+k)=l.base+lo*Bs P e+(i2*Bs P e+k) by omega]at hu
              ·cases h1⟩⟩)
          exact⟨_,_,_,_,_,bh,own' _ _ _ cap ⟨l.b,l.base+lo*Bs P e,l.cap⟩ rfl (by omega) cd (.inr ⟨by simp[Ctx.reloc],rfl,by simp only[];omega⟩),hk,rfl,key.1,key.2⟩
        ·obtain⟨_,ad,rfl,news,nv,gd,hnr⟩:=sb hy
         have sd:0<m:=by rw[hm];exact List.length_pos_iff.2 hy
         have se:news.length=ys.length*Bs P e:=by rw[nv,hm]
         have nu:=pL se rn hyg hnr
         have qt:((len+m:Nat):Int)≤9223372036854775807:=by omega
         have hml:=Lv
         have grow:∀ (olds:List Value) (old:Nat),olds.length=len*Bs P e→(∀ (i k:Nat) (x:List Ac) (c:Ac),((xs.drop lo).take len)[i]? =some x→x[k]? =some c→∃ u,olds[i*Bs P e+k]? =some u∧Bk C w u c)→
          Wg W0 C w (.ok (.slice (some ⟨w.heap.size,0,none⟩) (len+m) (grownCap w (len+m) old e)) (w.drew.alloc (.cells (olds.toArray++news.toArray++Builtin.zeroCells z.cells (grownCap w (len+m) old e - (len+m))) e))) K:=by
           intro olds old hol hor
           have wc:=grownCap_ge w (len+m) old e
           have hcm2:=grownCap_le_maxLen w (len+m) old e (by omega)
           have key:=I.reloc (w':=w.drew.alloc (.cells (olds.toArray++news.toArray++Builtin.zeroCells z.cells (grownCap w (len+m) old e - (len+m))) e)) (sz':=Bs P e) (xs':=(xs.drop lo).take len++ys) hr (Nat.lt_succ_self v)
             (some ⟨w.heap.size,0,grownCap w (len+m) old e*Bs P e⟩) (fun b hb _=>by first | exact heap_alloc_old w.drew _ b hb | exact heap_alloc_old w.drew _ hb) (by simp) (Xm I.below.drew _)
             (fun l2 h2=>by
               simp only[Akv]at h2;subst h2
               exact⟨hb0,by simp,fun hA=>by have:=I.sub _ hA;simp at this,fun r' l' bc h' eb=>by have:=(I.sep _ _ h').2.2.1;simp only at eb;omega⟩)
             (fun m2=>by
               have gy:=kW gj (by rw[hlen];exact hol) se hor hnr (grownCap w (len+m) old e) z.cells tc (by rw[hlen];omega) _ _ m2
               rw[hlen,← hm]at gy
               refine⟨bl,gj,gi,.inr ⟨⟨w.heap.size,0,grownCap w (len+m) old e*Bs P e⟩,_,e,by simp[Ctx.reloc],D5 w.drew _,gy.1,?_,gy.2⟩⟩
               simp only[Akw,hlen,Nat.zero_add,← hm]
               exact Nat.mul_le_mul_right _ wc)
           exact⟨_,_,_,_,_,rfl,own' _ _ _ _ ⟨w.heap.size,0,grownCap w (len+m) old e*Bs P e⟩ rfl wc hcm2 (.inr ⟨by simp[Ctx.reloc],rfl,by simp⟩),hk,rfl,key.1,key.2⟩
         have wz:(len+m)*i.bytes≤140737488355328:=by rw[← hby,hm];exact h48
         rcases hh with hc0 | ⟨l,hl,hsa,ct⟩
         ·have sg:len=0:=by omega
          subst sg
          subst hc0
          cases sa with
          | none=>
            have bh:=run_append_nil (P:=P) w T ty e i z hU hi tq ad m xc news (by rw[nv,om]) gd sd (by omega) (by rw[Nat.zero_add]at wz;omega)
            rw[bh]
            have:=grow [] 0 (by simp) (by simp)
            simpa using this
          | some b=>
            have bh:=run_append_grow (P:=P) w T ty e i z hU hi tq b 0 0 [] (by simp) (by simp) ad m xc news (by rw[nv,om]) gd (by omega) qt (Vj (by omega) wz)
            rw[bh]
            exact grow [] 0 (by simp) (by simp)
         ·subst hsa
          rcases ho with⟨e1,e2⟩ | ⟨l',arr,T',e1,e2,e3,e4,e5⟩
          ·rw[hl]at e2;cases e2
          rw[hl,Akv]at e1
          subst e1
          have hmul:(lo+len)*Bs P e≤xs.length*Bs P e:=Nat.mul_le_mul_right _ hle
          have jf:(lo+cap)*Bs P e=lo*Bs P e+cap*Bs P e:=Nat.add_mul _ _ _
          have hadd2:(lo+len)*Bs P e=lo*Bs P e+len*Bs P e:=Nat.add_mul _ _ _
          have olds_get:∀ j,j<len*Bs P e→((arr.toList.drop (l.base+lo*Bs P e)).take (len*Bs P e))[j]? =arr[l.base+lo*Bs P e+j]?:=by
            intro j hj
            rw[List.getElem?_take,if_pos hj,List.getElem?_drop,Array.getElem?_toList]
          have rep_old:∀ (i k:Nat) (x:List Ac) (c:Ac),((xs.drop lo).take len)[i]? =some x→x[k]? =some c→∃ u,arr[l.base+lo*Bs P e+(i*Bs P e+k)]? =some u∧Bk C w u c∧i<len∧k<Bs P e:=by
            intro i2 k x c h1 h2
            rw[List.getElem?_take]at h1
            split at h1
            ·rename_i mz
             rw[List.getElem?_drop]at h1
             obtain⟨u,hu,di⟩:=e5 _ k x c h1 h2
             have dp:k<Bs P e:=by have:=C0 h2;have:=bu _ (Akt h1);omega
             refine⟨u,?_,di,mz,dp⟩
             rwa [Nat.add_mul,show l.base+(lo*Bs P e+i2*Bs P e+k)=l.base+lo*Bs P e+(i2*Bs P e+k) by omega]at hu
            ·cases h1
          by_cases dw:len+m≤cap
          ·have hmul2:(len+m)*Bs P e≤cap*Bs P e:=Nat.mul_le_mul_right _ dw
           have hadd3:(len+m)*Bs P e=len*Bs P e+m*Bs P e:=Nat.add_mul _ _ _
           have na:l.base+lo*Bs P e+len*i.size+news.length≤arr.size:=by rw[← om,nv,e3];omega
           have bh:=jH (P:=P) (ty:=ty) hU hi l.b (l.base+lo*Bs P e) len cap arr T' e2 ad m xc news (by rw[nv,om]) gd nu dw na
           have cm:=I.sep r l hl
           have key:=I.reloc (w':=w.setRow l.b (arr.toList.take (l.base+lo*Bs P e+len*i.size)++news++arr.toList.drop (l.base+lo*Bs P e+len*i.size+news.length)).toArray) (sz':=Bs P e) (xs':=(xs.drop lo).take len++ys) hr (Nat.lt_succ_self v)
             (some ⟨l.b,l.base+lo*Bs P e,l.cap⟩) (fun b hb h'=>setRow_other w l.b b _ (h' ⟨l.b,l.base+lo*Bs P e,l.cap⟩ rfl)) (by simp[World.setRow]) (Jc I.below cm.2.1 _)
             (fun l2 h2=>by
               simp only[Akv]at h2;subst h2
               exact⟨cm.2.1,by simpa[World.setRow]using cm.2.2.1,cm.2.2.2,fun r' l' bc h' eb=>bc (I.inj _ _ _ _ h' hl eb)⟩)
             (fun m2=>⟨bl,gj,gi,.inr ⟨⟨l.b,l.base+lo*Bs P e,l.cap⟩,_,T',by simp[Ctx.reloc],S1 e2,by rw[Iu na];exact e3,by
              simp only[Akw,hlen,← hm];omega,fun i2 k x c h1 h2=>by
               dsimp only
               rw[He na]
               by_cases mz:i2<len
               ·rw[List.getElem?_append_left (by rw[hlen];exact mz)]at h1
                obtain⟨u,hu,di,_,dp⟩:=rep_old i2 k x c h1 h2
                have:(i2+1)*Bs P e≤len*Bs P e:=Nat.mul_le_mul_right _ mz
                rw[Nat.add_mul,Nat.one_mul]at this
                exact⟨u,by rw[if_pos (by rw[← om];omega)];exact hu,di.mono m2⟩
               ·rw[List.getElem?_append_right (by rw[hlen];omega),hlen]at h1
                obtain⟨u,hu,di⟩:=hnr _ k x c h1 h2
                have fe:=C0 hu
                have h5:len*Bs P e≤i2*Bs P e:=Nat.mul_le_mul_right _ (by omega)
                rw[Nat.sub_mul]at hu fe
                refine⟨u,?_,di.mono m2⟩
                rw[if_neg (by rw[← om];omega),if_pos (by rw[← om];omega)]
                rw[← hu]
                congr 1
                rw[← om]
                omega⟩⟩)
           exact⟨_,_,_,_,_,bh,own' _ _ _ cap ⟨l.b,l.base+lo*Bs P e,l.cap⟩ rfl dw cd (.inr ⟨by simp[Ctx.reloc],rfl,by simp only[];omega⟩),hk,rfl,key.1,key.2⟩
          ·have bh:=run_append_grow (P:=P) w T ty e i z hU hi tq ⟨l.b,l.base+lo*Bs P e,none⟩ len cap ((arr.toList.drop (l.base+lo*Bs P e)).take (len*Bs P e)) (by simp[← om];omega)
             (fun j u hj=>by
               have fe:j<len*Bs P e:=by have:=C0 hj;simp at this;omega
               rw[olds_get j fe]at hj
               rw[D4 _ _ rfl]
               simp only[World.cell?,e2]
               simpa using hj) ad m xc news (by rw[nv,om]) gd (by omega) qt (Vj (by omega) wz)
           rw[bh]
           exact grow _ cap (by simp;omega) (fun i2 k x c h1 h2=>by
             obtain⟨u,hu,di,mz,dp⟩:=rep_old i2 k x c h1 h2
             have:(i2+1)*Bs P e≤len*Bs P e:=Nat.mul_le_mul_right _ mz
             rw[Nat.add_mul,Nat.one_mul]at this
             exact⟨u,by rw[olds_get _ (by omega)];exact hu,di⟩)
     ·exact h.elim
    ·exact h.elim
   ·exact h.elim
  ·exact h.elim
end
end Go.Ab
namespace Go.Ab
open Go Go.RowKit
def alook:List (Int×Ac)→Int→Option Ac
  | [],_=>none
  | (k,v)::r,n=>if k=n then some v else alook r n
def aset:List (Int×Ac)→Int→Ac→List (Int×Ac)
  | [],n,v=>[(n,v)]
  | (k,u)::r,n,v=>if k=n then(k,v)::r else(k,u)::aset r n v
def adel:List (Int×Ac)→Int→List (Int×Ac)
  | [],_=>[]
  | (k,u)::r,n=>if k=n then r else(k,u)::adel r n
def mI (P:Program) (T:TypeId):Option TypeId:=
  match P.underlying T with
  | some (.map k e)=>match P.underlying k with
    | some (.int .i64)=>some e
    | _=>none
  | _=>none
def Sg (x:Ac) (H:List A2):Option (List (Int×Ac)):=
  match x with
  | .nilm=>some []
  | .vmap es=>some es
  | .map r=>match H[r]? with
    | some (.mp es)=>some es
    | some (.mpo false es)=>some es
    | _=>none
  | _=>none
def jA (id:Nat) (K:Ac→Eff→Prop):Prop:=K (.map id) (.new id (.mp []))
def Ex (es:List (Int×Ac)) (n:Int) (z:Ac) (K:Ac→Bool→Prop):Prop:=(∀ v,alook es n=some v→K v true)∧(alook es n=none→K z false)
def Aa9 (ok:Bool) (K:Ac→Prop) (v:Ac) (b:Bool):Prop:=K (if ok then .tuple [v,.bool b]else v)
def kQ (x:Ac) (H:List A2):Bool:=
  match x with
  | .map r=>match H[r]? with
    | some (.mpo _ _)=>true
    | _=>false
  | _=>false
def w9 (P:Program) (e:TypeId) (z:Ac):Ac:=
  match z with
  | .nils=>match F5 P e with
    | some t=>.sl (Bs P t) []
    | none=>.nils
  | z=>z
def tD (P:Program) (e:TypeId) (o:Bool):Ac:=if o=true then azero P e else w9 P e (azero P e)
def Q8 (P:Program) (T:TypeId) (x i:Ac) (ok:Bool) (H:List A2) (K:Ac→Prop):Prop:=
  match mI P T,i with
  | some e,.int .i64 n=>(zeroV P e).isSome=true∧match Sg x H with
    | some es=>Ex es n (tD P e (kQ x H)) (Aa9 ok K)
    | none=>False
  | _,_=>False
def Hm (P:Program) (T:TypeId) (x i v:Ac) (H:List A2) (K:Ac→Eff→Prop):Prop:=
  match mI P T,i,x with
  | some _,.int .i64 n,.map r=>match H[r]? with
    | some (.mp es)=>v.g1=true∧K (.tuple []) (.set r (.mp (aset es n v)))
    | some (.mpo false es)=>K (.tuple []) (.set r (.mpo false (aset es n v)))
    | _=>False
  | _,_,_=>False
def Ta (P:Program) (T:TypeId) (x i:Ac) (H:List A2) (K:Ac→Eff→Prop):Prop:=
  match mI P T,i,x with
  | some _,.int .i64 n,.map r=>match H[r]? with
    | some (.mp es)=>K (.tuple []) (.set r (.mp (adel es n)))
    | _=>False
  | _,_,_=>False
def mZ (P:Program) (T:TypeId) (x:Ac) (id:Nat) (K:Ac→Eff→Prop):Prop:=
  match mI P T,x with
  | some _,.nilm=>K (.iter id) (.new id (.it [] none))
  | some _,.vmap es=>K (.iter id) (.new id (.it es none))
  | _,_=>False
def Hn (left:List (Int×Ac)) (KE:Unit→Prop) (KS:List (Int×Ac)→Int×Ac→List (Int×Ac)→Prop):Prop:=(left=[]→KE ())∧∀ l1 p l2,left=l1++p::l2→KS l1 p l2
def Acp (K:Ac→Eff→Prop) (_:Unit):Prop:=K (.tuple [.bool false]) .none
def Aco (r:Nat) (K:Ac→Eff→Prop) (l1:List (Int×Ac)) (p:Int×Ac) (l2:List (Int×Ac)):Prop:=K (.tuple [.bool true,.int .i64 p.1,p.2]) (.set r (.it (l1++l2) (some p)))
def uI (x:Ac) (isString:Bool) (H:List A2) (K:Ac→Eff→Prop):Prop:=
  match isString,x with
  | false,.iter r=>match H[r]? with
    | some (.it left _)=>Hn left (Acp K) (Aco r K)
    | _=>False
  | _,_=>False
def m7 (x:Ac) (H:List A2) (K:Ac→Prop):Prop:=
  match x with
  | .iter r=>match H[r]? with
    | some (.it _ (some p))=>K (.tuple [.int .i64 p.1,p.2])
    | _=>False
  | _=>False
section
variable {P:Program}
theorem Un {T e:TypeId} (h:mI P T=some e):∃ k,P.underlying T=some (.map k e)∧P.underlying k=some (.int .i64):=by
  unfold mI at h
  split at h
  ·split at h
   ·simp only[Akv]at h;subst h;exact⟨_,by assumption,by assumption⟩
   ·cases h
  ·cases h
theorem Ps (n:Int):∀ (l:List MapEntry) (es:List (Int×Ac)) (i:Nat),l.length=es.length→(∀ (j:Nat) (e:MapEntry) (p:Int×Ac),l[j]? =some e→es[j]? =some p→e.key= .int .i64 p.1)→
    ∃ r,Instr.findNow (.int .i64) (.int .i64 n) l i=some r∧
      ((alook es n=none∧r=none)∨∃ j e v,alook es n=some v∧r=some (i+j,e.val)∧l[j]? =some e∧es[j]? =some (n,v)∧(∀ u,aset es n u=es.set j (n,u))∧adel es n=es.eraseIdx j)
  | [],[],i,_,_=>⟨none,rfl,.inl ⟨rfl,rfl⟩⟩
  | e::l,(k,v)::es,i,hl,hk=>by
    have h0:=hk 0 e (k,v) rfl rfl
    simp only at h0
    simp only[Instr.findNow,h0,Instr.sameNow,if_true]
    by_cases vz:k=n
    ·subst vz
     refine⟨some (i,e.val),by simp,.inr ⟨0,e,v,by simp[alook],by simp,rfl,rfl,fun u=>by simp[aset],by simp[adel]⟩⟩
    ·have bc:(n ==k)=false:=by simp;omega
     obtain⟨r,h1,h2⟩:=Ps n l es (i+1) (by simpa using hl) (fun j e p a b=>hk (j+1) e p a b)
     refine⟨r,by simp[bc,h1],?_⟩
     rcases h2 with⟨h2,h3⟩ | ⟨j,e',v',h2,h3,h4,h5,h6,h7⟩
     ·exact .inl ⟨by simp[alook,vz,h2],h3⟩
     ·exact .inr ⟨j+1,e',v',by simp[alook,vz,h2],by rw[h3];congr 2;omega,h4,h5,fun u=>by simp[aset,vz,h6],by simp[adel,vz,h7]⟩
  | [],_::_,_,hl,_=>by simp at hl
  | _::_,[],_,hl,_=>by simp at hl
theorem dN {es:List (Int×Ac)} {n:Int} (h:alook es n=none) (v:Ac):aset es n v=es++[(n,v)]:=by
  induction es with
  | nil=>rfl
  | cons p es ih=>
    obtain⟨k,u⟩:=p
    simp only[alook]at h
    split at h
    ·cases h
    ·rename_i hk
     simp[aset,hk,ih h]
theorem wL {es:List (Int×Ac)} {n:Int} (h:alook es n=none):adel es n=es:=by
  induction es with
  | nil=>rfl
  | cons p es ih=>
    obtain⟨k,u⟩:=p
    simp only[alook]at h
    split at h
    ·cases h
    ·rename_i hk
     simp[adel,hk,ih h]
theorem fH {es:List (Int×Ac)} {n:Int} (h:alook es n=none):n ∉ es.map (·.1):=by
  induction es with
  | nil=>simp
  | cons p es ih=>
    obtain⟨k,u⟩:=p
    simp only[alook]at h
    split at h
    ·cases h
    ·rename_i hk
     simp only[List.map_cons,List.mem_cons,not_or]
     exact⟨fun e=>hk e.symm,ih h⟩
theorem Pn {w:World} {k:TypeId} {n:Int} (h:P.underlying k=some (.int .i64)) (em:Bool):(Instr.checkKey em 10000 k (.int .i64 n)).run P w= .ok () w:=by
  unfold Instr.checkKey
  simp[Jp h]
theorem pR {W0:World} {C:Ctx} {w:World} (I:Inv W0 C w) {x:Value} {ax:Ac} {es:List (Int×Ac)} (hx:Bk C w x ax) (h:Sg ax C.H=some es) :
    (x= .map none∧es=[])∨∃ b entries clock,x= .map (some b)∧w.heap[b]? =some (.map entries clock)∧Qg false entries clock es∧
     ∀ (i:Nat) (e:MapEntry) (p:Int×Ac),entries[i]? =some e→es[i]? =some p→Bk C w e.val p.2:=by
  unfold Sg at h
  split at h
  ·simp only[Akv]at h;subst h;cases hx;exact .inl ⟨rfl,rfl⟩
  ·simp only[Akv]at h;subst h
   cases hx with
   | vmap0=>exact .inl ⟨rfl,rfl⟩
   | vmap b _ en cl hA hg hh cj ay=>exact .inr ⟨b,en,cl,rfl,hh,cj,ay⟩
  ·rename_i r
   split at h
   ·rename_i es' hr
    simp only[Akv]at h;subst h
    cases hx with
    | map b _ af hh=>
      obtain⟨l,hl,rfl⟩:=hh _ hr rfl
      obtain⟨l',en,cl,h1,h2,h3,h4,h5⟩:=I.objs r _ hr
      rw[hl,Akv]at h1
      subst h1
      exact .inr ⟨_,en,cl,rfl,h2,h3,h5⟩
   ·rename_i es' hr
    simp only[Akv]at h;subst h
    cases hx with
    | map b _ af hh=>
      obtain⟨l,hl,rfl⟩:=hh _ hr rfl
      obtain⟨l',en,cl,h1,h2,h3,h5⟩:=I.objs r _ hr
      rw[hl,Akv]at h1
      subst h1
      exact .inr ⟨_,en,cl,rfl,h2,h3,h5⟩
   ·cases h
  ·cases h
theorem wF (C:Ctx) (w:World) {T:TypeId} {z:Value} (hz:zeroV P T=some z):Bk C w z (azero P T):=by
  simp only[azero,hz];exact iY C w z
theorem uL (C:Ctx) (w:World) {T:TypeId} {z:Value} (hz:zeroV P T=some z) (o:Bool):Bk C w z (tD P T o):=by
  have h:=wF (P:=P) C w hz
  unfold tD
  split
  ·exact h
  ·unfold w9
   split
   ·rename_i e
    rw[e]at h
    split
    ·cases h;exact .sl0 _ _ _ (Nat.zero_le _)
    ·exact h
   ·exact h
theorem Q4 {w:World} {k:TypeId} {n:Int} {l:List MapEntry} {r:Option (Nat×Value)} (h:P.underlying k=some (.int .i64)) (hf:Instr.findNow (.int .i64) (.int .i64 n) l 0=some r) :
    (Instr.findKey k (.int .i64 n) l).run P w= .ok r w:=by
  simp[Instr.findKey,Jp h,hf]
theorem mH {W0:World} {C:Ctx} {w:World} (I:Inv W0 C w) {T:TypeId} {x i:Value} {ax ai:Ac} {ok:Bool} {K:Ac→Prop} (hx:Bk C w x ax) (hi:Bk C w i ai) (h:Q8 P T ax ai ok C.H K) :
    Quiet C w ((Instr.lookup T x i ok).run P w) K:=by
  unfold Q8 at h
  split at h
  ·rename_i e n hT
   cases hi
   obtain⟨hz,h⟩:=h
   obtain⟨z,hz⟩:=Option.isSome_iff_exists.1 hz
   obtain⟨k,hU,hk⟩:=Un hT
   have qy:=uL (P:=P) C w hz (kQ ax C.H)
   split at h
   ·rename_i es hes
    have fin:∀ (v:Value) (a:Ac) (b:Bool),Bk C w v a→K (if ok then .tuple [a,.bool b]else a)→Quiet C w (.ok (if ok then .tuple #[v,.bool b]else v) w) K:=by
      intro v a b hv hK
      cases ok with
      | true=>
        refine .mk' rfl (.tuple _ _ rfl fun i u c h1 h2=>?_) hK
        match i,h1,h2 with
        | 0,h1,h2=>simp at h1 h2;subst h1 h2;exact hv
        | 1,h1,h2=>simp at h1 h2;subst h1 h2;exact .bool b
        | i+2,h1,h2=>simp at h2
      | false=>exact .mk' rfl hv hK
    rcases pR I hx hes with⟨rfl,rfl⟩ | ⟨b,en,cl,rfl,hb,cj,ay⟩
    ·have:=fin z _ false qy (h.2 rfl)
     have hr:(Instr.lookup T (.map none) (.int .i64 n) ok).run P w= .ok (if ok then .tuple #[z,.bool false]else z) w:=by
       have hf:=Q4 (P:=P) (w:=w) (k:=k) (n:=n) (l:=[]) (r:=none) hk rfl
       have hc:=Pn (P:=P) (w:=w) (n:=n) hk true
       simp[Instr.lookup,Jp hU,hc,hf,T5 hz]
     rw[hr];exact this
    ·obtain⟨r,hf,kq⟩:=Ps n en.toList es 0 (by simpa using cj.size) (fun j e p a b=>cj.V4 j e p (by simpa using a) b)
     have ri:=Q4 (P:=P) (w:=w) (k:=k) (n:=n) hk hf
     have hc:=Pn (P:=P) (w:=w) (n:=n) hk en.isEmpty
     rcases kq with⟨h1,rfl⟩ | ⟨j,e',v,h1,rfl,h2,h3,_,_⟩
     ·have:=fin z _ false qy (h.2 h1)
      have hr:(Instr.lookup T (.map (some b)) (.int .i64 n) ok).run P w= .ok (if ok then .tuple #[z,.bool false]else z) w:=by
        simp[Instr.lookup,Jp hU,getObj,Sem.run,hb,hc,ri,T5 hz]
      rw[hr];exact this
     ·have:=fin e'.val _ true (ay j e' _ (by simpa using h2) h3) (h.1 _ h1)
      have hr:(Instr.lookup T (.map (some b)) (.int .i64 n) ok).run P w= .ok (if ok then .tuple #[e'.val,.bool true]else e'.val) w:=by
        simp[Instr.lookup,Jp hU,getObj,Sem.run,hb,hc,ri]
      rw[hr];exact this
   ·exact h.elim
  ·exact h.elim
theorem jU {W0:World} {C:Ctx} {w:World} (I:Inv W0 C w) {id:Nat} (bj:Oz C.H id) {T:TypeId} {K:Ac→Eff→Prop} (h:jA id K):Wg W0 C w ((Instr.makeMap T none).run P w) K:=by
  have key:=I.alloc id bj (.mp []) (.map #[] 0) 0 (fun m=>⟨_,#[],0,Ctx.Sz _ _ _ _,D5 _ _,⟨rfl,by simp,by simp,by simp,by simp⟩,by simp,by simp⟩)
  exact⟨.map (some w.heap.size),.map id,_,_,_,rfl,.map _ _ (Ctx.Rh bj _ (by simp)) fun o _ _=>⟨_,Ctx.Sz _ _ _ _,rfl⟩,h,rfl,key.1,key.2⟩
theorem Sf {W0 w:World} {b:Nat} (h:Below W0.heap.size W0 w) (hb:W0.heap.size≤b) (o:Obj):Below W0.heap.size W0 {w with heap:=w.heap.setIfInBounds b o}:=
  h.trans ⟨rfl,rfl,rfl,by simp,fun k hk=>by
    show(w.heap.setIfInBounds b o)[k]? =_
    rw[Array.getElem?_setIfInBounds_ne (by omega)]⟩
def vE (o:Bool) (es:List (Int×Ac)):A2:=if o then .mpo false es else .mp es
theorem Acd {C:Ctx} {w:World} {r:Nat} {o:Bool} {es:List (Int×Ac)}:Wf C w r (vE o es)↔∃ l entries clock,C.ρ r=some l∧w.heap[l.b]? =some (.map entries clock)∧Qg false entries clock es∧(o=false→∀ p∈es,Ac.g1 p.2=true)∧
      ∀ (i:Nat) (e:MapEntry) (p:Int×Ac),entries[i]? =some e→es[i]? =some p→Bk C w e.val p.2:=by
  cases o with
  | true=>exact ⟨fun⟨l,en,cl,h1,h2,h3,h5⟩=>⟨l,en,cl,h1,h2,h3,fun h=>(by cases h),h5⟩,fun⟨l,en,cl,h1,h2,h3,_,h5⟩=>⟨l,en,cl,h1,h2,h3,h5⟩⟩
  | false=>exact ⟨fun⟨l,en,cl,h1,h2,h3,h4,h5⟩=>⟨l,en,cl,h1,h2,h3,fun _=>h4,h5⟩,fun⟨l,en,cl,h1,h2,h3,h4,h5⟩=>⟨l,en,cl,h1,h2,h3,h4 rfl,h5⟩⟩
theorem tH {W0:World} {C:Ctx} {w:World} (I:Inv W0 C w) {r:Nat} (o:Bool) {es es':List (Int×Ac)} {l:Loc} (hr:C.H[r]? =some (vE o es)) (hl:C.ρ r=some l) (en':Array MapEntry) (cl':Nat)
    (cj:Qg false en' cl' es') (hg:o=false→∀ p∈es',Ac.g1 p.2=true) (ay:∀ (i:Nat) (e:MapEntry) (p:Int×Ac),en'[i]? =some e→es'[i]? =some p→Bk C w e.val p.2) :
    Inv W0 (C.set r (vE o es')) {w with heap:=w.heap.setIfInBounds l.b (.map en' cl')}∧Fl C w (C.set r (vE o es')) {w with heap:=w.heap.setIfInBounds l.b (.map en' cl')}:=by
  have hs:=I.sep r l hl
  refine I.put hr hl (fun b hb=>?_) (by simp) (Sf I.below hs.2.1 _) ?_ (fun m=>Acd.2 ⟨l,en',cl',hl,?_,cj,hg,fun i e p a b=>(ay i e p a b).mono m⟩)
  ·show(w.heap.setIfInBounds l.b _)[b]? =_
   rw[Array.getElem?_setIfInBounds_ne (fun h=>hb h.symm)]
  ·unfold D2
   simp only[Ctx.set,List.getElem?_set_self hs.1]
   cases o with
   | true=>exact ⟨⟨_,hr,rfl⟩,trivial⟩
   | false=>exact ⟨⟨_,hr,rfl⟩,trivial⟩
  ·show(w.heap.setIfInBounds l.b _)[l.b]? =_
   rw[Array.getElem?_setIfInBounds_self,if_pos hs.2.2.1]
theorem xA {W0:World} {C:Ctx} {w:World} (I:Inv W0 C w) {r:Nat} {es es':List (Int×Ac)} {l:Loc} (hr:C.H[r]? =some (.mp es)) (hl:C.ρ r=some l) (en':Array MapEntry) (cl':Nat)
    (cj:Qg false en' cl' es') (hg:∀ p∈es',Ac.g1 p.2=true) (ay:∀ (i:Nat) (e:MapEntry) (p:Int×Ac),en'[i]? =some e→es'[i]? =some p→Bk C w e.val p.2) :
    Inv W0 (C.set r (.mp es')) {w with heap:=w.heap.setIfInBounds l.b (.map en' cl')}∧Fl C w (C.set r (.mp es')) {w with heap:=w.heap.setIfInBounds l.b (.map en' cl')}:=by
  have hs:=I.sep r l hl
  refine I.put hr hl (fun b hb=>?_) (by simp) (Sf I.below hs.2.1 _) ?_ (fun m=>⟨l,en',cl',hl,?_,cj,hg,fun i e p a b=>(ay i e p a b).mono m⟩)
  ·show(w.heap.setIfInBounds l.b _)[b]? =_
   rw[Array.getElem?_setIfInBounds_ne (fun h=>hb h.symm)]
  ·unfold D2
   simp only[Ctx.set,List.getElem?_set_self hs.1]
   exact⟨⟨_,hr,rfl⟩,trivial⟩
  ·show(w.heap.setIfInBounds l.b _)[l.b]? =_
   rw[Array.getElem?_setIfInBounds_self,if_pos hs.2.2.1]
theorem eH {W0:World} {C:Ctx} {w:World} (I:Inv W0 C w) {T:TypeId} {x i v:Value} {r:Nat} {n:Int} {e:TypeId} {av:Ac} {K:Ac→Eff→Prop} (o:Bool) {es:List (Int×Ac)} (hx:Bk C w x (.map r)) (hi:Bk C w i (.int .i64 n)) (hv:Bk C w v av)
    (hT:mI P T=some e) (hr:C.H[r]? =some (vE o es)) (hg1:o=false→av.g1=true) (hk:K (.tuple []) (.set r (vE o (aset es n av)))):Did W0 C w ((Instr.mapUpdate T x i v).run P w) K:=by
  cases hi
  obtain⟨k,hU,nx⟩:=Un hT
  cases hx with
  | map b _ af hh=>
    obtain⟨l,hl,rfl⟩:=hh _ hr (by cases o<;>rfl)
    obtain⟨l',en,cl,h1,h2,cj,hg,ay⟩:=Acd.1 (I.objs r _ hr)
    rw[hl,Akv]at h1
    subst h1
    obtain⟨rr,hf,kq⟩:=Ps n en.toList es 0 (by simpa using cj.size) (fun j e p a b=>cj.V4 j e p (by simpa using a) b)
    have ri:=Q4 (P:=P) (w:=w) (k:=k) (n:=n) nx hf
    have hc:=Pn (P:=P) (w:=w) (n:=n) nx false
    have gu:∀ en' cl',(setObj l.b (.map en' cl')).run P w= .ok () {w with heap:=w.heap.setIfInBounds l.b (.map en' cl')}:=by
      intro en' cl';simp[setObj,Sem.run,h2]
    rcases kq with⟨h3,rfl⟩ | ⟨j,e',v',h3,rfl,h4,h5,h6,_⟩
    ·have key:=tH I o (es':=aset es n av) hr hl (en.push {key:=.int .i64 n,val:=v,born:=cl}) (cl+1) (by
       rw[dN h3]
       refine⟨by simp[cj.size],fun i e p a b=>?_,?_,fun e he=>?_,?_⟩
       ·by_cases hi:i<es.length
        ·rw[List.getElem?_append_left hi]at b
         rw[Array.getElem?_push_lt (by rw[cj.size];exact hi)]at a
         refine cj.V4 i e p ?_ b
         rw[Array.getElem?_eq_getElem (by rw[cj.size];exact hi)];exact a
        ·have de:i=es.length:=by have:=C0 b;simp at this;omega
         subst de
         simp only[List.getElem?_concat_length,Akv]at b
         rw[← cj.size,Array.getElem?_push_size,Akv]at a
         subst a b;rfl
       ·rw[List.map_append,List.map_cons,List.map_nil]
        refine List.nodup_append.2 ⟨cj.nodup,by simp,fun a ha b hb=>?_⟩
        simp at hb;subst hb
        exact fun e=>fH h3 (e ▸ ha)
       ·simp only[Array.toList_push,Akz,List.mem_singleton]at he
        rcases he with he | rfl
        ·have:=cj.born e he;omega
        ·exact Nat.lt_succ_self _
       ·rw[Array.toList_push,List.map_append,List.map_cons,List.map_nil]
        refine List.nodup_append.2 ⟨cj.bnodup,by simp,fun a ha b hb=>?_⟩
        simp only[List.mem_singleton]at hb;subst hb
        obtain⟨e,he,rfl⟩:=List.mem_map.1 ha
        have:=cj.born e he
        omega)
       (by rw[dN h3];intro ho p hp;rcases Akz.1 hp with hp | hp;exact hg ho p hp;simp at hp;subst hp;exact hg1 ho)
       (by
         rw[dN h3]
         intro i e p a b
         by_cases hi:i<es.length
         ·rw[List.getElem?_append_left hi]at b
          rw[Array.getElem?_push_lt (by rw[cj.size];exact hi)]at a
          refine ay i e p ?_ b
          rw[Array.getElem?_eq_getElem (by rw[cj.size];exact hi)];exact a
         ·have de:i=es.length:=by have:=C0 b;simp at this;omega
          subst de
          simp only[List.getElem?_concat_length,Akv]at b
          rw[← cj.size,Array.getElem?_push_size,Akv]at a
          subst a b;exact hv)
     refine⟨_,_,_,?_,hk,rfl,key.1,key.2⟩
     rw[← gu]
     simp[Instr.mapUpdate,Jp hU,getObj,Sem.run,h2,hc,ri]
    ·have hj:j<en.size:=by have:=C0 h4;simpa using this
     have hjs:j<es.length:=by rw[← cj.size];exact hj
     have e'k:e'.key= .int .i64 n:=cj.V4 j e' _ (by simpa using h4) h5
     have hen:en[j]? =some e':=by simpa using h4
     have sf:∀ (i:Nat) (e:MapEntry),(en.modify j fun e=>{e with key:=.int .i64 n,val:=v})[i]? =some e→(i=j∧e={e' with key:=.int .i64 n,val:=v})∨(i≠j∧en[i]? =some e):=by
       intro i e h
       rw[Array.getElem?_modify]at h
       split at h
       ·rename_i oq
        subst oq
        rw[hen]at h
        simp only[Option.map_some,Akv]at h
        exact .inl ⟨rfl,h.symm⟩
       ·rename_i oq
        exact .inr ⟨fun h=>oq h.symm,h⟩
     have tv:(en.modify j fun e=>{e with key:=.int .i64 n,val:=v}).toList.map (·.born)=en.toList.map (·.born):=by
       apply List.ext_getElem?
       intro i
       simp only[List.getElem?_map,Array.getElem?_toList,Array.getElem?_modify]
       split
       ·rename_i h;subst h;rw[hen];rfl
       ·rfl
     have jr:∀ (i:Nat) (p:Int×Ac),(es.set j (n,av))[i]? =some p→(i=j∧p=(n,av))∨(i≠j∧es[i]? =some p):=by
       intro i p h
       by_cases e:j=i
       ·subst e;rw[List.getElem?_set_self hjs,Akv]at h;exact .inl ⟨rfl,h.symm⟩
       ·rw[List.getElem?_set_ne e]at h;exact .inr ⟨fun h=>e h.symm,h⟩
     have key:=tH I o (es':=aset es n av) hr hl (en.modify j fun e=>{e with key:=.int .i64 n,val:=v}) cl (by
       rw[h6]
       refine⟨by simp[cj.size],fun i e p a b=>?_,?_,fun e he=>?_,by rw[tv];exact cj.bnodup⟩
       ·rcases sf i e a with⟨rfl,rfl⟩ | ⟨bc,a⟩
        ·rcases jr _ _ b with⟨_,rfl⟩ | ⟨hn,_⟩
         ·rfl
         ·exact absurd rfl hn
        ·rcases jr _ _ b with⟨he,_⟩ | ⟨_,b⟩
         ·exact absurd he bc
         ·exact cj.V4 i e p a b
       ·have:(es.set j (n,av)).map (·.1)=es.map (·.1):=by
          apply List.ext_getElem?
          intro i
          simp only[List.getElem?_map]
          by_cases e:j=i
          ·subst e;rw[List.getElem?_set_self hjs,h5];rfl
          ·rw[List.getElem?_set_ne e]
        rw[this];exact cj.nodup
       ·have:e.born∈(en.modify j fun e=>{e with key:=.int .i64 n,val:=v}).toList.map (·.born):=List.mem_map.2 ⟨e,he,rfl⟩
        rw[tv]at this
        obtain⟨e2,he2,nb⟩:=List.mem_map.1 this
        rw[← nb];exact cj.born e2 he2)
       (by
         rw[h6];intro ho p hp
         rcases List.mem_or_eq_of_mem_set hp with hp | rfl
         ·exact hg ho p hp
         ·exact hg1 ho)
       (by
         rw[h6]
         intro i e p a b
         rcases sf i e a with⟨rfl,rfl⟩ | ⟨bc,a⟩
         ·rcases jr _ _ b with⟨_,rfl⟩ | ⟨hn,_⟩
          ·exact hv
          ·exact absurd rfl hn
         ·rcases jr _ _ b with⟨he,_⟩ | ⟨_,b⟩
          ·exact absurd he bc
          ·exact ay i e p a b)
     refine⟨_,_,_,?_,hk,rfl,key.1,key.2⟩
     rw[← gu]
     simp[Instr.mapUpdate,Jp hU,getObj,Sem.run,h2,hc,ri,hen,e'k,Instr.keyThatStays,Instr.sameBits]
theorem V3 {W0:World} {C:Ctx} {w:World} (I:Inv W0 C w) {T:TypeId} {x i v:Value} {ax ai av:Ac} {K:Ac→Eff→Prop} (hx:Bk C w x ax) (hi:Bk C w i ai) (hv:Bk C w v av)
    (h:Hm P T ax ai av C.H K):Did W0 C w ((Instr.mapUpdate T x i v).run P w) K:=by
  unfold Hm at h
  split at h
  ·rename_i e n r hT
   split at h
   ·rename_i es hr
    exact eH I false hx hi hv hT hr (fun _=>h.1) h.2
   ·rename_i es hr
    exact eH I true hx hi hv hT hr (fun h=>by cases h) h
   ·exact h.elim
  ·exact h.elim
theorem mQ {W0:World} {C:Ctx} {w:World} (I:Inv W0 C w) {T T2 ty:TypeId} {x i:Value} {ax ai:Ac} {K:Ac→Eff→Prop} (hx:Bk C w x ax) (hi:Bk C w i ai)
    (h:Ta P T ax ai C.H K):Wg W0 C w ((Builtin.delete_ #[T,T2] ty #[x,i]).run P w) K:=by
  unfold Ta at h
  split at h
  ·rename_i e n r hT
   split at h
   ·rename_i es hr
    cases hi
    obtain⟨k,hU,nx⟩:=Un hT
    cases hx with
    | map b _ af hh=>
      obtain⟨l,hl,rfl⟩:=hh _ hr rfl
      obtain⟨l',en,cl,h1,h2,cj,hg,ay⟩:=I.objs r _ hr
      rw[hl,Akv]at h1
      subst h1
      obtain⟨rr,hf,kq⟩:=Ps n en.toList es 0 (by simpa using cj.size) (fun j e p a b=>cj.V4 j e p (by simpa using a) b)
      have ri:=Q4 (P:=P) (w:=w) (k:=k) (n:=n) nx hf
      have hc:=Pn (P:=P) (w:=w) (n:=n) nx en.isEmpty
      have gu:∀ en' cl',(setObj l.b (.map en' cl')).run P w= .ok () {w with heap:=w.heap.setIfInBounds l.b (.map en' cl')}:=by
        intro en' cl';simp[setObj,Sem.run,h2]
      have qq:alook es n=none→adel es n=es:=wL
      rcases kq with⟨h3,rfl⟩ | ⟨j,e',v',h3,rfl,h4,h5,_,h7⟩
      ·have key:=xA I (es':=adel es n) hr hl en cl (by rw[qq h3];exact cj) (by rw[qq h3];exact hg) (by rw[qq h3];exact ay)
       refine⟨_,_,_,_,_,?_,.tuple #[] [] rfl (by simp),h,rfl,key.1,key.2⟩
       have:=gu en cl
       simp[Builtin.delete_,Jp hU,getObj,Sem.run,h2,hc,ri,this]
      ·have hj:j<en.size:=by have:=C0 h4;simpa using this
       have ix:(en.eraseIdxIfInBounds j).toList=en.toList.eraseIdx j:=by simp
       have wc:∀ (i:Nat) (e:MapEntry),(en.eraseIdxIfInBounds j)[i]? =some e→en.toList[if i<j then i else i+1]? =some e:=by
         intro i e h
         rw[← Array.getElem?_toList,ix,List.getElem?_eraseIdx]at h
         split<;>rename_i hi<;>simp only[hi,if_true,if_false]at h<;>exact h
       have hga:∀ (i:Nat) (p:Int×Ac),(es.eraseIdx j)[i]? =some p→es[if i<j then i else i+1]? =some p:=by
         intro i p h
         rw[List.getElem?_eraseIdx]at h
         split<;>rename_i hi<;>simp only[hi,if_true,if_false]at h<;>exact h
       have hjs:j<es.length:=by rw[← cj.size];exact hj
       have key:=xA I (es':=adel es n) hr hl (en.eraseIdxIfInBounds j) cl (by
         rw[h7]
         refine⟨?_,fun i e p a b=>cj.V4 _ e p (by simpa using wc i e a) (hga i p b),?_,fun e he=>?_,?_⟩
         ·rw[← Array.length_toList,ix,List.length_eraseIdx_of_lt (by simpa using hj),List.length_eraseIdx_of_lt hjs,Array.length_toList,cj.size]
         ·exact(List.Sublist.map _ (List.eraseIdx_sublist es j)).nodup cj.nodup
         ·rw[ix]at he
          exact cj.born e (List.mem_of_mem_eraseIdx he)
         ·rw[ix]
          exact(List.Sublist.map _ (List.eraseIdx_sublist en.toList j)).nodup cj.bnodup)
         (by rw[h7];exact fun p hp=>hg p (List.mem_of_mem_eraseIdx hp))
         (by rw[h7];exact fun i e p a b=>ay _ e p (by simpa using wc i e a) (hga i p b))
       refine⟨_,_,_,_,_,?_,.tuple #[] [] rfl (by simp),h,rfl,key.1,key.2⟩
       have:=gu (en.eraseIdxIfInBounds j) cl
       simp[Builtin.delete_,Jp hU,getObj,Sem.run,h2,hc,ri,this]
   ·exact h.elim
  ·exact h.elim
theorem oB {W0:World} {C:Ctx} {w:World} (I:Inv W0 C w) {id:Nat} (bj:Oz C.H id) {T:TypeId} {x:Value} {ax:Ac} {K:Ac→Eff→Prop} (hx:Bk C w x ax) (h:mZ P T ax id K) :
    Wg W0 C w ((Instr.range T x).run P w) K:=by
  have fin:∀ (o:Obj) (left:List (Int×Ac)),(Fl C w (C.new id (.it left none) ⟨w.heap.size,0,0⟩) (w.alloc o)→Wf (C.new id (.it left none) ⟨w.heap.size,0,0⟩) (w.alloc o) id (.it left none))→
   K (.iter id) (.new id (.it left none))→Wg W0 C w (.ok (.pointer (some ⟨w.heap.size,0,none⟩)) (w.alloc o)) K:=by
    intro o left ho hk
    have key:=I.alloc id bj (.it left none) o 0 ho
    exact⟨_,.iter id,_,_,_,rfl,.iter _ _ (Ctx.Rh bj _ (by simp)) ⟨rfl,rfl⟩ fun l c _=>⟨_,Ctx.Sz _ _ _ _,rfl⟩,hk,rfl,key.1,key.2⟩
  have hnil:∀ (k e:TypeId),P.underlying T=some (.map k e)→(Instr.range T (.map none)).run P w= .ok (.pointer (some ⟨w.heap.size,0,none⟩)) (w.alloc (.mapIter none 0 #[] 0)):=by
    intro k e hU;simp[Instr.range,Jp hU]
  unfold mZ at h
  split at h
  ·rename_i e hT
   obtain⟨k,hU,_⟩:=Un hT
   cases hx
   rw[hnil k e hU]
   exact fin _ _ (fun m=>⟨_,Ctx.Sz _ _ _ _,.inl ⟨rfl,rfl,_,_,_,D5 _ _⟩⟩) h
  ·rename_i e es hT
   obtain⟨k,hU,_⟩:=Un hT
   cases hx with
   | vmap0=>
     rw[hnil k e hU]
     exact fin _ _ (fun m=>⟨_,Ctx.Sz _ _ _ _,.inl ⟨rfl,rfl,_,_,_,D5 _ _⟩⟩) h
   | vmap b _ en cl hA hg hh cj ay=>
     have hr:(Instr.range T (.map (some b))).run P w= .ok (.pointer (some ⟨w.heap.size,0,none⟩)) (w.alloc (.mapIter (some b) cl #[] cl)):=by
       simp[Instr.range,Jp hU,getObj,Sem.run,hh]
     rw[hr]
     have sj:en.toList.filter (fun e=>!(#[]:Array Nat).contains e.born)=en.toList:=List.filter_eq_self.2 fun x _=>by simp
     refine fin _ _ (fun m=>⟨_,Ctx.Sz _ _ _ _,.inr ⟨b,#[],en,cl,D5 _ _,hA,?_,cj.born,cj.bnodup,⟨by rw[sj];simpa using cj.size,fun i e p h1 h2=>?_⟩,by simp⟩⟩) h
     ·rw[(m.imm b hA).2];exact hh
     ·rw[sj]at h1
      have ou:en[i]? =some e:=by simpa using h1
      exact⟨cj.V4 i e p ou h2,hg p (Akt h2),(ay i e p ou h2).mono m⟩
  ·exact h.elim
theorem Zn {L1 L2:List MapEntry} {e:MapEntry} (h:((L1++e::L2).map (·.born)).Nodup):(L1++e::L2).filter (fun x=>!(x.born ==e.born))=L1++L2:=by
  rw[List.map_append,List.map_cons,List.nodup_append]at h
  obtain⟨_,h2,h3⟩:=h
  rw[List.nodup_cons]at h2
  rw[List.filter_append,List.filter_cons_of_neg (by simp)]
  congr 1
  ·rw[List.filter_eq_self]
   intro x hx
   have:=h3 x.born (List.mem_map_of_mem hx) e.born (by simp)
   simpa using this
  ·rw[List.filter_eq_self]
   intro x hx
   have:x.born≠e.born:=fun he=>h2.1 (he ▸ List.mem_map_of_mem hx)
   simpa using this
theorem setIter {W0:World} {C:Ctx} {w:World} (I:Inv W0 C w) {r:Nat} {l0:List (Int×Ac)} {c0:Option (Int×Ac)} {l:Loc} (hr:C.H[r]? =some (.it l0 c0)) (hl:C.ρ r=some l) (o:Obj) (l1:List (Int×Ac)) (c1:Option (Int×Ac))
    (ho:Fl C w (C.set r (.it l1 c1)) {w with heap:=w.heap.setIfInBounds l.b o}→{w with heap:=w.heap.setIfInBounds l.b o}.heap[l.b]? =some o→(∀ b,b≠l.b→{w with heap:=w.heap.setIfInBounds l.b o}.heap[b]? =w.heap[b]?)→
      Wf (C.set r (.it l1 c1)) {w with heap:=w.heap.setIfInBounds l.b o} r (.it l1 c1)) :
    Inv W0 (C.set r (.it l1 c1)) {w with heap:=w.heap.setIfInBounds l.b o}∧Fl C w (C.set r (.it l1 c1)) {w with heap:=w.heap.setIfInBounds l.b o}:=by
  have hs:=I.sep r l hl
  have bc:∀ b,b≠l.b→(w.heap.setIfInBounds l.b o)[b]? =w.heap[b]?:=fun b hb=>Array.getElem?_setIfInBounds_ne (fun h=>hb h.symm)
  refine I.put hr hl bc (by simp) (Sf I.below hs.2.1 _) ?_ (fun m=>ho m ?_ bc)
  ·unfold D2
   simp only[Ctx.set,List.getElem?_set_self hs.1]
   exact⟨⟨l0,c0,hr⟩,trivial⟩
  ·show(w.heap.setIfInBounds l.b _)[l.b]? =_
   rw[Array.getElem?_setIfInBounds_self,if_pos hs.2.2.1]
theorem rW {W0:World} {C:Ctx} {w:World} (I:Inv W0 C w) {ty:TypeId} {x:Value} {ax:Ac} {st:Bool} {K:Ac→Eff→Prop} (hx:Bk C w x ax) (h:uI ax st C.H K) :
    Wg W0 C w ((Instr.next x st ty).run P w) K:=by
  unfold uI at h
  split at h
  ·rename_i r
   split at h
   ·rename_i left cur hr
    obtain⟨h1,h2⟩:=h
    cases hx with
    | iter a _ af cm hh=>
      obtain⟨l,hl,hb⟩:=hh _ _ hr
      have ha:a=⟨l.b,0,none⟩:=by cases a;simp_all
      subst ha
      obtain⟨l',h3,h⟩:=I.objs r _ hr
      rw[hl,Akv]at h3
      subst h3
      have over:left=[]→(Instr.next (.pointer (some ⟨l.b,0,none⟩)) false ty).run P w= .ok (.tuple #[.bool false]) w→Wg W0 C w ((Instr.next (.pointer (some ⟨l.b,0,none⟩)) false ty).run P w) K:=by
        intro e bh
        refine⟨_,_,_,C,_,bh,.tuple _ [.bool false] rfl fun i u c g1 g2=>?_,h1 e,rfl,I,.refl _ _⟩
        match i,g1,g2 with
        | 0,g1,g2=>simp at g1 g2;subst g1 g2;exact .bool false
        | i+1,g1,g2=>simp at g2
      rcases h with⟨e1,_,s,n,k,h3⟩ | ⟨bm,seen,en,cl,h3,h4,h5,h6,h7,h8,h9⟩
      ·exact over e1 (by simp[Instr.next,getObj,Sem.run,h3])
      ·rcases run_next_at (P:=P) w ty l.b bm cl cl seen en cl h3 h5 (fun x hx=>h6 x hx) (Nat.le_refl _)with ⟨hz,bh⟩ | ⟨e,he,w1,cq,bh⟩
       ·refine over ?_ bh
        have:(leftOf en seen).toList.length=left.length:=by rw[← h8.1];simp[leftOf]
        exact List.eq_nil_of_length_eq_zero (by simpa[hz]using this.symm)
       ·have heL:e∈en.toList.filter (fun e=>!seen.contains e.born):=by simpa[leftOf]using he
        obtain⟨L1,L2,hL⟩:=List.append_of_mem heL
        have hlen:=h8.1
        rw[hL]at hlen
        have hj:L1.length<left.length:=by rw[← hlen];simp
        have vo:left=left.take L1.length++left[L1.length]::left.drop (L1.length+1):=by
          rw[List.getElem_cons_drop,List.take_append_drop]
        have hep:=h8.2 L1.length e left[L1.length] (by rw[hL];simp) (Aks hj)
        have hnd:((L1++e::L2).map (·.born)).Nodup:=by
          rw[← hL];exact(List.Sublist.map _ List.filter_sublist).nodup h7
        have sj:en.toList.filter (fun x=>!(seen.push e.born).contains x.born)=L1++L2:=by
          rw[← Zn hnd,← hL,List.filter_filter]
          apply List.filter_congr
          intro x _
          simp only[Array.contains_push,Bool.not_or]
          rw[Bool.and_comm]
        have zo:w1.heap=w.heap:=by rcases cq with rfl | rfl<;>rfl
        have I1:=I.same (w':=w1) zo (by rcases cq with rfl | rfl;exact I.below;exact I.below.drew)
        have key:=setIter I1.1 hr hl (.mapIter (some bm) cl (seen.push e.born) cl) (left.take L1.length++left.drop (L1.length+1)) (some left[L1.length]) (fun m g1 g2=>by
          refine⟨l,hl,.inr ⟨bm,seen.push e.born,en,cl,g1,h4,?_,h6,h7,?_,fun p hp=>?_⟩⟩
          ·rw[g2 bm (fun eb=>(I.sep r l hl).2.2.2 (eb ▸ h4)),zo];exact h5
          ·rw[sj]
           refine⟨by simp at hlen ⊢;omega,fun i e' p' q1 q2=>?_⟩
           have cr:∀ i,(left.take L1.length++left.drop (L1.length+1))[i]? =left[if i<L1.length then i else i+1]?:=by
             intro i
             rw[List.getElem?_append]
             have hmin:(left.take L1.length).length=L1.length:=by simp;omega
             rw[hmin]
             split
             ·rw[List.getElem?_take,if_pos (by assumption)]
             ·rw[List.getElem?_drop];congr 1;omega
           have hgetL:∀ i,(L1++L2)[i]? =(L1++e::L2)[if i<L1.length then i else i+1]?:=by
             intro i
             rw[List.getElem?_append]
             split
             ·rw[List.getElem?_append_left (by assumption)]
             ·rw[List.getElem?_append_right (by omega),show i+1 - L1.length=(i - L1.length)+1 by omega];rfl
           rw[cr]at q2
           rw[hgetL,← hL]at q1
           have:=h8.2 _ e' p' q1 q2
           exact⟨this.1,this.2.1,(this.2.2.mono I1.2).mono m⟩
          ·simp only[Akv]at hp
           subst hp
           exact⟨e,(List.mem_filter.1 heL).1,by simp,hep.1,hep.2.1,(hep.2.2.mono I1.2).mono m⟩)
        have hk:=h2 _ _ _ vo
        refine⟨_,_,_,_,_,bh,.tuple _ [.bool true,.int .i64 left[L1.length].1,left[L1.length].2] rfl fun i u c g1 g2=>?_,hk,rfl,key.1,I1.2.trans key.2⟩
        match i,g1,g2 with
        | 0,g1,g2=>simp at g1 g2;subst g1 g2;exact .bool true
        | 1,g1,g2=>simp at g1 g2;subst g1 g2;rw[hep.1];exact .int _ _
        | 2,g1,g2=>simp at g1 g2;subst g1 g2;exact(hep.2.2.mono I1.2).mono key.2
        | i+3,g1,g2=>simp at g2
   ·exact h.elim
  ·exact h.elim
theorem pQ {W0:World} {C:Ctx} {w:World} (I:Inv W0 C w) {x:Value} {ax:Ac} {K:Ac→Prop} (hx:Bk C w x ax) (h:m7 ax C.H K) :
    Quiet C w ((Instr.entry x).run P w) K:=by
  unfold m7 at h
  split at h
  ·rename_i r
   split at h
   ·rename_i left p hr
    cases hx with
    | iter a _ af cm hh=>
      obtain⟨l,hl,hb⟩:=hh _ _ hr
      have ha:a=⟨l.b,0,none⟩:=by cases a;simp_all
      subst ha
      obtain⟨l',h3,h'⟩:=I.objs r _ hr
      rw[hl,Akv]at h3
      subst h3
      rcases h' with⟨_,e1,_⟩ | ⟨bm,seen,en,cl,h3,h4,h5,h6,h7,h8,h9⟩
      ·cases e1
      ·obtain⟨e,g1,g2,g3,g4,g5⟩:=h9 p rfl
       have hseen:∃ s0:Array Nat,seen=s0.push e.born:=by
         have bc:seen.size≠0:=fun h0=>by have:seen=#[]:=Array.eq_empty_of_size_eq_zero h0;subst this;simp at g2
         refine⟨seen.pop,?_⟩
         apply Array.ext'
         have hl:seen.toList≠[]:=fun h=>bc (by rw[← Array.length_toList,h];rfl)
         have hg:seen.toList.getLast? =some e.born:=by rw[← g2];simp[Array.back?,List.getLast?_eq_getElem?]
         have hg2:seen.toList.getLast hl=e.born:=by rw[List.getLast?_eq_some_getLast hl]at hg;simpa using hg
         rw[Array.toList_push,Array.toList_pop,← hg2,List.dropLast_concat_getLast hl]
       obtain⟨s0,rfl⟩:=hseen
       refine .mk' (run_entry_at w l.b bm cl s0 en cl e h3 h5 g1 h7) (.tuple _ [.int .i64 p.1,p.2] rfl fun i u c q1 q2=>?_) h
       match i,q1,q2 with
       | 0,q1,q2=>simp at q1 q2;subst q1 q2;rw[g3];exact .int _ _
       | 1,q1,q2=>simp at q1 q2;subst q1 q2;exact g5
       | i+2,q1,q2=>simp at q2
   ·exact h.elim
  ·exact h.elim
end
def sU (x y:Ac) (K:Ac→Prop):Prop:=
  match x,y with
  | .int k a,.int k' b=>k=k'∧K (.int k (if b<a then b else a))
  | _,_=>False
def sV (x y:Ac) (K:Ac→Prop):Prop:=
  match x,y with
  | .int k a,.int k' b=>k=k'∧K (.int k (if a<b then b else a))
  | _,_=>False
def I6 (K:Ac→Eff→Prop) (v:Ac):Prop:=K v .none
def Hb (P:Program) (b:Builtin) (args:List Ac) (tys:List TypeId) (H:List A2) (id:Nat) (K:Ac→Eff→Prop):Prop:=
  match b,args,tys with
  | .len,[x],[T]=>m0 P T x H (I6 K)
  | .append,[s,x],[T,T2]=>T=T2∧Tb P T s x H id K
  | .delete,[m,k],[T,_]=>Ta P T m k H K
  | .min,[x,y],_=>sU x y (I6 K)
  | .max,[x,y],_=>sV x y (I6 K)
  | _,_,_=>False
def La (e:Operand→Ac):List (Nat×Operand)→List (Nat×Ac)
  | []=>[]
  | p::r=>(p.1,e p.2)::La e r
theorem kM (e:Operand→Ac):∀ l:List (Nat×Operand),La e l=l.map fun p=>(p.1,e p.2)
  | []=>rfl
  | p::r=>by rw[La,kM e r];rfl
def astep (P:Program) (op:Op) (e:Operand→Ac) (H:List A2) (id:Nat) (K:Ac→Eff→Prop):Prop:=
  match op with
  | .move x=>K (e x) .none
  | .assign x=>K (e x) .none
  | .pick c a b=>iZ (e c) (e a) (e b) (I6 K)
  | .binOp o T x y _=>qQ P o T (e x) (e y) (I6 K)
  | .unOp o _ x=>aUn o (e x) (I6 K)
  | .convert s d x=>eS P s d (e x) (I6 K)
  | .alloc T=>sY P T id K
  | .box _ x=>wQ (e x) id K
  | .build T parts=>Z3 P T (La e parts.toList) (I6 K)
  | .buildSlice T n parts=>n≤9223372036854775807∧Nv P T n (La e parts.toList) id K
  | .load T a=>X0 P T (e a) H (I6 K)
  | .store T a x=>Xx P T (e a) (e x) H K
  | .fieldAddr T x f=>Lf P T (e x) f (I6 K)
  | .field T x f=>Z1 P T (e x) f (I6 K)
  | .indexAddr T x i=>Jf P T (e x) (e i) H (I6 K)
  | .extract t i=>match e t with
    | .tuple vs=>i<vs.length∧K (vs.getD i .any) .none
    | _=>False
  | .slice T x lo hi mx=>Qs P T (e x) (lo.map e) (hi.map e) (mx.map e) H (I6 K)
  | .makeSlice T l c=>Pk P T (e l) (e c) id K
  | .makeMap _ none=>jA id K
  | .lookup T x i ok=>Q8 P T (e x) (e i) ok H (I6 K)
  | .mapUpdate T m k x=>Hm P T (e m) (e k) (e x) H K
  | .insert T m k x=>Hm P T (e m) (e k) (e x) H K
  | .range T x=>mZ P T (e x) id K
  | .next i s=>uI (e i) s H K
  | .entry i=>m7 (e i) H (I6 K)
  | .makeFunc (.func f) first caps=>first=#[]∧K (.func f (caps.toList.map e)) .none
  | .call c=>match c.callee with
    | .builtin b=>Hb P b (c.args.toList.map e) c.argTypes.toList H id K
    | _=>False
  | _=>False
structure T0 (W0:World) (C:Ctx) (w:World) (r:Result Next) (K:Ac→Eff→Prop):Prop where
  ex:∃ a w' C' ef,((∃ v,r= .ok (.value v) w'∧Bk C' w' v a)∨(r= .ok .skip w'∧a= .tuple []))∧K a ef∧C'.H=ef.app C.H∧Inv W0 C' w'∧Fl C w C' w'
section
variable {P:Program}
theorem T0.Hp {W0:World} {C:Ctx} {w:World} (I:Inv W0 C w) {s:Sem Value} {K:Ac→Eff→Prop} (h:Quiet C w (s.run P w) fun a=>K a .none) :
    T0 W0 C w ((do pure (Next.value (← s)):Sem Next).run P w) K:=by
  obtain⟨v,a,h1,h2,h3⟩:=h.ex
  exact⟨a,w,C,.none,.inl ⟨v,by simp[h1],h2⟩,h3,rfl,I,.refl _ _⟩
theorem T0.U9 {W0:World} {C:Ctx} {w:World} {s:Sem Value} {K:Ac→Eff→Prop} (h:Wg W0 C w (s.run P w) K) :
    T0 W0 C w ((do pure (Next.value (← s)):Sem Next).run P w) K:=by
  obtain⟨v,a,w',C',ef,h1,h2,h3,h4,h5,h6⟩:=h.ex
  exact⟨a,w',C',ef,.inl ⟨v,by simp[h1],h2⟩,h3,h4,h5,h6⟩
theorem T0.xL {W0:World} {C:Ctx} {w:World} {s:Sem Unit} {K:Ac→Eff→Prop} (h:Did W0 C w (s.run P w) K) :
    T0 W0 C w ((do s;pure Next.skip:Sem Next).run P w) K:=by
  obtain⟨w',C',ef,h1,h2,h3,h4,h5⟩:=h.ex
  exact⟨.tuple [],w',C',ef,.inr ⟨by simp[h1],rfl⟩,h2,h3,h4,h5⟩
theorem tQ {C:Ctx} {w:World} {ρ:Operand→Value} {e:Operand→Ac} (he:∀ x,Bk C w (ρ x) (e x)) (parts:Array (Nat×Operand)) :
    (parts.map fun(i,x)=>(i,ρ x)).toList.length=(La e parts.toList).length∧
    ∀ (i:Nat) p q,(parts.map fun(i,x)=>(i,ρ x)).toList[i]? =some p→(La e parts.toList)[i]? =some q→p.1=q.1∧Bk C w p.2 q.2:=by
  rw[kM];refine⟨by simp,fun i p q h1 h2=>?_⟩
  simp only[Array.toList_map,List.getElem?_map,Array.getElem?_toList]at h1 h2
  cases hx:parts[i]? with
  | none=>simp[hx]at h1
  | some y=>
    simp only[hx,Option.map_some,Akv]at h1 h2
    subst h1 h2
    exact⟨rfl,he _⟩
theorem X9 {C:Ctx} {w:World} {ρ:Operand→Value} {e:Operand→Ac} (he:∀ x,Bk C w (ρ x) (e x)) (o:Option Operand) :
    (∀ v a,o.map ρ=some v→o.map e=some a→Bk C w v a)∧(o.map ρ).isSome=(o.map e).isSome:=by
  cases o with
  | none=>simp
  | some x=>
    refine⟨fun v a h1 h2=>?_,rfl⟩
    simp only[Option.map_some,Akv]at h1 h2
    subst h1 h2;exact he x
theorem Aa2 {α β:Type} {e:α→β} {args:Array α} {x:β} (h:args.toList.map e=[x]):∃ xo,args=#[xo]∧e xo=x:=by
  match hl:args.toList,h with
  | [xo],h=>exact ⟨xo,Array.ext' hl,by simpa using h⟩
theorem fQ {α β:Type} {e:α→β} {args:Array α} {x y:β} (h:args.toList.map e=[x,y]):∃ so xo,args=#[so,xo]∧e so=x∧e xo=y:=by
  match hl:args.toList,h with
  | [so,xo],h=>exact ⟨so,xo,Array.ext' hl,by simpa using h⟩
theorem eO {W0:World} {C:Ctx} {w:World} (I:Inv W0 C w) {id:Nat} (bj:Oz C.H id) {o:Oper} {ρ:Operand→Value} {e:Operand→Ac} (he:∀ x,Bk C w (ρ x) (e x)) {K:Ac→Eff→Prop}
    (h:astep P o.op e C.H id K):T0 W0 C w ((execOp ρ o).run P w) K:=by
  unfold astep at h
  unfold execOp
  split at h
  case h_1 x ho=>simp only[ho];exact⟨_,w,C,.none,.inl ⟨_,rfl,he x⟩,h,rfl,I,.refl _ _⟩
  case h_2 x ho=>simp only[ho];exact⟨_,w,C,.none,.inl ⟨_,rfl,he x⟩,h,rfl,I,.refl _ _⟩
  case h_3 c a b ho=>
    simp only[ho]
    have hc:=he c
    have ha:=he a
    have hb:=he b
    unfold iZ at h
    split at h
    ·rename_i cv hcv
     rw[hcv]at hc
     cases lr:ρ c<;>rw[lr]at hc<;>cases hc
     simp only[asBool,Sem.run_bind,Sem.run_pure,Result.andThen_ok]
     split at h
     ·rename_i x y hx hy
      rw[hx]at ha;rw[hy]at hb
      cases ha':ρ a<;>rw[ha']at ha<;>cases ha
      cases ee:ρ b<;>rw[ee]at hb<;>cases hb
      refine⟨_,w,C,.none,.inl ⟨_,rfl,?_⟩,h,rfl,I,.refl _ _⟩
      cases cv<;>exact .bool _
     ·cases cv with
      | true=>exact ⟨_,w,C,.none,.inl ⟨_,rfl,by simpa using ha⟩,h.1 rfl,rfl,I,.refl _ _⟩
      | false=>exact ⟨_,w,C,.none,.inl ⟨_,rfl,by simpa using hb⟩,h.2 rfl,rfl,I,.refl _ _⟩
    ·exact h.elim
  case h_4 op T x y yT ho=>simp only[ho];exact .Hp I (wE (he x) (he y) h)
  case h_5 op T x ho=>simp only[ho];exact .Hp I (wX (he x) h)
  case h_6 s d x ho=>simp only[ho];exact .Hp I (sD (he x) h)
  case h_7 T ho=>simp only[ho];exact .U9 (qI I bj h)
  case h_8 T x ho=>simp only[ho];exact .U9 (wC I bj (he x) h)
  case h_9 T parts ho=>
    simp only[ho]
    have:=tQ he parts
    exact .Hp I (qD this.1 this.2 h)
  case h_10 T n parts ho=>
    simp only[ho]
    have:=tQ he parts
    exact .U9 (dK I bj this.1 this.2 (by have:=Lv;have:=h.1;omega) h.2)
  case h_11 T a ho=>simp only[ho];exact .Hp I (gW I (he a) h)
  case h_12 T a x ho=>simp only[ho];exact .xL (nE I (he a) (he x) h)
  case h_13 T x f ho=>simp only[ho];exact .Hp I (fE (he x) h)
  case h_14 T x f ho=>simp only[ho];exact .Hp I (pM (he x) h)
  case h_15 T x i ho=>simp only[ho];exact .Hp I (fC (he x) (he i) h)
  case h_16 t i ho=>
    simp only[ho]
    split at h
    ·rename_i vs eg
     have:=he t
     rw[eg]at this
     exact .Hp I (jW this h.1 h.2)
    ·exact h.elim
  case h_17 T x lo hi mx ho=>
    simp only[ho]
    exact .Hp I (nI (he x) (X9 he lo).1 (X9 he lo).2 (X9 he hi).1 (X9 he hi).2 (X9 he mx).1 (X9 he mx).2 h)
  case h_18 T l c ho=>simp only[ho];exact .U9 (fB I bj (he l) (he c) h)
  case h_19 T ho=>simp only[ho];exact .U9 (jU I bj h)
  case h_20 T x i ok ho=>simp only[ho];exact .Hp I (mH I (he x) (he i) h)
  case h_21 T m k x ho=>simp only[ho];exact .xL (V3 I (he m) (he k) (he x) h)
  case h_22 T m k x ho=>simp only[ho];exact .xL (V3 I (he m) (he k) (he x) h)
  case h_23 T x ho=>simp only[ho];exact .U9 (oB I bj (he x) h)
  case h_24 i s ho=>simp only[ho];exact .U9 (rW I (he i) h)
  case h_25 i ho=>simp only[ho];exact .Hp I (pQ I (he i) h)
  case h_26 f first caps ho=>
    obtain⟨h1,h⟩:=h
    simp only[ho,h1,List.map_toArray,List.map_nil]
    refine⟨_,w,C,.none,.inl ⟨_,rfl,?_⟩,h,rfl,I,.refl _ _⟩
    refine .func f (caps.map ρ) (caps.toList.map e) (by simp) fun i u c h1 h2=>?_
    simp only[Array.getElem?_map,List.getElem?_map,Array.getElem?_toList]at h1 h2
    cases hx:caps[i]? with
    | none=>simp[hx]at h1
    | some y=>
      simp only[hx,Option.map_some,Akv]at h1 h2
      subst h1 h2;exact he y
  case h_27 c ho=>
    rw[ho]
    dsimp only
    split at h
    ·rename_i b hb
     simp only[resolve,hb,Sem.run_bind,Sem.run_pure,Result.andThen_ok,invoke]
     unfold Hb at h
     split at h
     ·rename_i x T gh pw
      have ha:=Aa2 gh
      have ht:c.argTypes=#[T]:=Array.ext' pw
      obtain⟨xo,ha,rfl⟩:=ha
      simp only[ha,ht,List.map_toArray,List.map_cons,List.map_nil,builtin]
      exact .Hp I (vN I (he xo) h)
     ·rename_i s x T T2 gh pw
      have ha:=fQ gh
      have ht:c.argTypes=#[T,T2]:=Array.ext' pw
      obtain⟨so,xo,ha,rfl,rfl⟩:=ha
      obtain⟨rfl,h⟩:=h
      simp only[ha,ht,List.map_toArray,List.map_cons,List.map_nil,builtin]
      exact .U9 (mW I bj (he so) (he xo) h)
     ·rename_i m k T T2 gh pw
      have ha:=fQ gh
      have ht:c.argTypes=#[T,T2]:=Array.ext' pw
      obtain⟨so,xo,ha,rfl,rfl⟩:=ha
      simp only[ha,ht,List.map_toArray,List.map_cons,List.map_nil,builtin]
      exact .U9 (mQ I (he so) (he xo) h)
     ·rename_i x y tys gh
      have ha:=fQ gh
      obtain⟨so,xo,ha,rfl,rfl⟩:=ha
      simp only[ha,List.map_toArray,List.map_cons,List.map_nil,builtin]
      refine .Hp I ?_
      have h1:=he so
      have h2:=he xo
      unfold sU at h
      split at h
      ·rename_i k1 a k2 b e1 e2
       obtain⟨rfl,h⟩:=h
       rw[e1]at h1;rw[e2]at h2
       cases ou:ρ so<;>rw[ou]at h1<;>cases h1
       cases xb:ρ xo<;>rw[xb]at h2<;>cases h2
       exact .mk' (by simp[Builtin.min_,Builtin.min2]) (.int _ _) h
      ·exact h.elim
     ·rename_i x y tys gh
      have ha:=fQ gh
      obtain⟨so,xo,ha,rfl,rfl⟩:=ha
      simp only[ha,List.map_toArray,List.map_cons,List.map_nil,builtin]
      refine .Hp I ?_
      have h1:=he so
      have h2:=he xo
      unfold sV at h
      split at h
      ·rename_i k1 a k2 b e1 e2
       obtain⟨rfl,h⟩:=h
       rw[e1]at h1;rw[e2]at h2
       cases ou:ρ so<;>rw[ou]at h1<;>cases h1
       cases xb:ρ xo<;>rw[xb]at h2<;>cases h2
       exact .mk' (by simp[Builtin.max_,Builtin.max2]) (.int _ _) h
      ·exact h.elim
     ·exact h.elim
    ·exact h.elim
  case h_28=>exact h.elim
end
def fence (md:Option Nat):Fence:={Fence.wide with round:=md}
theorem Xh {md:Option Nat} {n:Nat} {P:Program} {f:FuncId} {args:Array Value} {w:World} {R:Ending→World→Prop} (h:Calls P f args w R):CallsIn (fence md) n P f args w R:=
  show CallsIn Fence.wide n P f args w R from callsIn_wide.2 h
theorem S4 {md:Option Nat} {n:Nat}:(fence md).depth.isSome=true→1≤n:=fun h=>by simp[fence,Fence.wide]at h
theorem pO {md:Option Nat} {n:Nat} {P:Program} {l:Nat} {f:FuncId} {tmps:Array Value} {assign body:Code} {w:World} {R:Ending→World→Prop} (h:RoundIn Fence.wide n P l f tmps assign body w R):RoundIn (fence md) n P l f tmps assign body w R:=h
def Eo (C:Ctx) (w:World) (outs:List (Array Value)) (outer:List Fr):Prop:=
  outs.length=outer.length∧∀ (i:Nat) (t:Array Value) (f:Fr),outs[i]? =some t→outer[i]? =some f→Sh C w t f
theorem Eo.mono {C C':Ctx} {w w':World} (m:Fl C w C' w') {outs:List (Array Value)} {outer:List Fr} (h:Eo C w outs outer):Eo C' w' outs outer:=
  ⟨h.1,fun i t f a b=>(h.2 i t f a b).mono m⟩
theorem Eo.cons {C:Ctx} {w:World} {t:Array Value} {f:Fr} {outs:List (Array Value)} {outer:List Fr} (h1:Sh C w t f) (h:Eo C w outs outer):Eo C w (t::outs) (f::outer):=by
  refine⟨by simp[h.1],fun i t' f' a b=>?_⟩
  match i,a,b with
  | 0,a,b=>simp at a b;subst a b;exact h1
  | i+1,a,b=>exact h.2 i t' f' (by simpa using a) (by simpa using b)
theorem Eo.head {C:Ctx} {w:World} {t:Array Value} {f:Fr} {outs:List (Array Value)} {outer:List Fr} (h:Eo C w (t::outs) (f::outer)):Sh C w t f:=h.2 0 t f rfl rfl
theorem Eo.tail {C:Ctx} {w:World} {t:Array Value} {f:Fr} {outs:List (Array Value)} {outer:List Fr} (h:Eo C w (t::outs) (f::outer)):Eo C w outs outer:=
  ⟨by simpa using h.1,fun i t' f' a b=>h.2 (i+1) t' f' (by simpa using a) (by simpa using b)⟩
theorem Eo.nil {C:Ctx} {w:World}:Eo C w [] []:=⟨rfl,by simp⟩
structure Gb (W0:World) (A0:Nat→Prop) (ds:List Deferred) (n:Nat) (outs:List (Array Value)) (outer:List Fr) (fr:Fr) (H:List A2) (a:Act) (w:World):Prop where
  ex:∃ C:Ctx,C.H=H∧C.A0=A0∧Inv W0 C w∧Sh C w a.tmps fr∧Eo C w outs outer∧a.tmps.size=n∧a.defers=ds
def Al (P:Program) (f:Ac) (args:List Ac) (st:List Fr) (H:List A2) (K:Ac→List A2→Prop):Prop:=
  ∀ (W0:World) (C:Ctx) (w:World) (outs:List (Array Value)) (fv:Value) (vs:List Value),Inv W0 C w→C.H=H→Eo C w outs st→Bk C w fv f→vs.length=args.length→
    (∀ (i:Nat) (v:Value) (a:Ac),vs[i]? =some v→args[i]? =some a→Bk C w v a)→
    (∃ fid caps,fv= .func (.func fid) #[] caps∧(∀ (args:Array Value) (w:World),(callFunc fid args).run P w= .ok (.enter fid args) w)∧
     Calls P fid (vs.toArray++caps) w fun e w'=>∃ v r C',e= .returned v∧K r C'.H∧C'.A0=C.A0∧Bk C' w' v r∧Inv W0 C' w'∧Eo C' w' outs st)∨
    (∃ l rec,fv= .func (.yield l) #[] #[]∧w.heap[l]? =some (.loop rec)∧vs.length=rec.params.size∧
     RoundIn Fence.wide 4 P l rec.fn ((rec.params.zip vs.toArray).foldl (fun tmps (t,a)=>tmps.setIfInBounds t a) rec.tmps) rec.assign rec.body w fun e w'=>∃ v r C',e= .returned v∧K r C'.H∧C'.A0=C.A0∧Bk C' w' v r∧Inv W0 C' w'∧Eo C' w' outs st)
def Ft (v:Ac) (want:Bool) (Y N:Fr→List A2→Prop) (fr:Fr) (H:List A2):Prop:=
  match v with
  | .bool c=>(c=want→Y fr H)∧(c≠want→N fr H)
  | .tuple _=>N fr H
  | _=>False
def Qr:Op→Option (Operand×List Operand)
  | .call {callee:=.value f,args:=args,argTypes:=_}=>some (f,args.toList)
  | _=>none
def dP (fr:Fr) (dst:Option Tmp) (next:Fr→List A2→Prop) (v:Ac) (H:List A2):Prop:=next (put fr dst v) H
def Pj (fr:Fr) (dst:Option Tmp) (next:Fr→List A2→Prop) (H:List A2) (v:Ac) (ef:Eff):Prop:=next (put fr dst v) (ef.app H)
def askip (dst:Option Tmp) (next:Fr→List A2→Prop) (fr:Fr) (H:List A2):Prop:=next (put fr dst (.tuple [])) H
def zI (P:Program) (op:Op) (e:Operand→Ac):Option (List (List Ac)):=
  match op with
  | .binOp .eql T x y _=>match e x,e y with
    | .sl _ xs,.nils=>if (F5 P T).isSome=true then some xs else none
    | _,_=>none
  | _=>none
def aoper (P:Program) (outer:List Fr) (op:Op) (dst:Option Tmp) (next:Fr→List A2→Prop) (fr:Fr) (H:List A2):Prop:=
  match Qr op with
  | some (f,args)=>Al P (ev fr f) (args.map (ev fr)) (fr::outer) H (dP fr dst next)
  | none=>match zI P op (ev fr)with
    | some xs=>∀ b:Bool,(xs≠[]→b=false)→Pj fr dst next H (.bool b) .none
    | none=>astep P op (ev fr) H H.length (Pj fr dst next H)
def alist (P:Program) (outer:List Fr) (all:List Oper):List Oper→(Fr→List A2→Prop)→Fr→List A2→Prop
  | [],K=>K
  | o::rest,K=>match o.guard with
    | none=>aoper P outer o.op o.dst (alist P outer all rest K)
    | some (j,want)=>match (all[j]?).bind (·.dst)with
      | some d=>fun fr H=>Ft (get fr d) want (aoper P outer o.op o.dst (alist P outer all rest K)) (askip o.dst (alist P outer all rest K)) fr H
      | none=>askip o.dst (alist P outer all rest K)
theorem wK (P:Program) (outer:List Fr) (all:List Oper) (K:Fr→List A2→Prop) (fr:Fr) (H:List A2):alist P outer all [] K fr H=K fr H:=rfl
theorem qK (P:Program) (outer:List Fr) (all:List Oper) (dst:Option Tmp) (op:Op) (type:TypeId) (pos:String) (after:Array Edge) (rest:List Oper) (K:Fr→List A2→Prop) (fr:Fr) (H:List A2) :
    alist P outer all ({dst,op,type,pos,after,guard:=none}::rest) K fr H=aoper P outer op dst (alist P outer all rest K) fr H:=rfl
def bG (d:Option Tmp) (want:Bool) (Y N:Fr→List A2→Prop) (fr:Fr) (H:List A2):Prop:=
  match d with
  | some d=>Ft (get fr d) want Y N fr H
  | none=>N fr H
theorem qL (P:Program) (outer:List Fr) (all:List Oper) (dst:Option Tmp) (op:Op) (type:TypeId) (pos:String) (after:Array Edge) (j:Nat) (want:Bool) (rest:List Oper) (K:Fr→List A2→Prop) (fr:Fr) (H:List A2) :
    alist P outer all ({dst,op,type,pos,after,guard:=some (j,want)}::rest) K fr H =
      bG ((all[j]?).bind (·.dst)) want (aoper P outer op dst (alist P outer all rest K)) (askip dst (alist P outer all rest K)) fr H:=by
  simp only[alist,bG]
  cases(all[j]?).bind (·.dst)<;>rfl
theorem sM (Y N:Fr→List A2→Prop) (fr:Fr) (H:List A2):Ft (.bool true) true Y N fr H=Y fr H:=by simp[Ft]
theorem sP (Y N:Fr→List A2→Prop) (fr:Fr) (H:List A2):Ft (.bool false) false Y N fr H=Y fr H:=by simp[Ft]
theorem sN (Y N:Fr→List A2→Prop) (fr:Fr) (H:List A2):Ft (.bool true) false Y N fr H=N fr H:=by simp[Ft]
theorem sO (Y N:Fr→List A2→Prop) (fr:Fr) (H:List A2):Ft (.bool false) true Y N fr H=N fr H:=by simp[Ft]
theorem j0 (vs:List Ac) (want:Bool) (Y N:Fr→List A2→Prop) (fr:Fr) (H:List A2):Ft (.tuple vs) want Y N fr H=N fr H:=rfl
def aU (n:Nat) (ops:List Oper):Bool:=ops.all fun o=>match o.dst with | some d=>Nat.blt d n | none=>true
section
variable {P:Program} {md:Option Nat}
theorem gJ (a:Act) (d:Option Tmp) (v:Value):(a.put d v).tmps.size=a.tmps.size:=by
  cases d<;>simp[Act.put]
theorem put_defers (a:Act) (d:Option Tmp) (v:Value):(a.put d v).defers=a.defers:=by
  cases d<;>simp[Act.put]
theorem T7 (C:Ctx) (w:World):Bk C w undef (.tuple []):=.tuple #[] [] rfl (by simp)
theorem S5 {o:Op} {f:Operand} {args:List Operand} (h:Qr o=some (f,args)):∃ (zq:Array Operand) (ts:Array TypeId),o= .call {callee:=.value f,args:=zq,argTypes:=ts}∧zq.toList=args:=by
  unfold Qr at h
  split at h
  ·simp only[Akv,Prod.mk.injEq]at h
   obtain⟨rfl,rfl⟩:=h
   exact⟨_,_,rfl,rfl⟩
  ·cases h
theorem vD {W0:World} {C:Ctx} {w:World} (I:Inv W0 C w) {o:Oper} {ρ:Operand→Value} {e:Operand→Ac} (he:∀ x,Bk C w (ρ x) (e x)) {xs:List (List Ac)} (hx:zI P o.op e=some xs) {K:Ac→Eff→Prop}
    (h:∀ b:Bool,(xs≠[]→b=false)→K (.bool b) .none):T0 W0 C w ((execOp ρ o).run P w) K:=by
  unfold zI at hx
  split at hx
  ·rename_i T x y yT ho
   split at hx
   ·rename_i sz ys h1 h2
    split at hx
    ·rename_i hT
     obtain rfl:=Ak0 hx
     have hu:=he x
     have hv:=he y
     rw[h1]at hu;rw[h2]at hv
     cases ka:ρ y<;>rw[ka]at hv<;>cases hv
     have hsl:∃ a n c,ρ x= .slice a n c∧(ys≠[]→a.isNone=false):=by
       generalize ρ x=v at hu
       cases hu with
       | sl0 a cap _ _=>exact ⟨a,0,cap,rfl,fun h=>absurd rfl h⟩
       | sl a len cap _ _ _ _ _ _ _ _ _ _ _ _ _=>exact ⟨some a,len,cap,rfl,fun _=>rfl⟩
     obtain⟨a,n,c,hsl,bc⟩:=hsl
     have hte:∃ te,P.underlying T=some (.slice te):=by
       unfold F5 at hT
       split at hT
       ·exact⟨_,by assumption⟩
       ·cases hT
     obtain⟨te,hte⟩:=hte
     unfold execOp
     simp only[ho,hsl,ka]
     refine .Hp I (.mk' ?_ (.bool a.isNone) (h _ bc))
     simp only[eqGuard_at_slice,Sem.run_bind,Sem.run_pure,Result.andThen_ok]
     exact Lib.run_eql_slice_nil w T te a n c 0 0 hte
    ·cases hx
   ·cases hx
  ·cases hx
theorem Vo {W0:World} {A0:Nat→Prop} {ds:List Deferred} {n:Nat} {outs:List (Array Value)} {outer:List Fr} {all l2:List Oper} {Q:Exit→Act→World→Prop} {K:Fr→List A2→Prop}
    (hQ:∀ fr' H' a' w',K fr' H'→Gb W0 A0 ds n outs outer fr' H' a' w'→wpListIn (fence md) 5 P all.toArray Q l2 a' w'):∀ (l:List Oper) (fr:Fr) (H:List A2) (a:Act) (w:World),aU n l=true→
    Gb W0 A0 ds n outs outer fr H a w→alist P outer all l K fr H→wpListIn (fence md) 5 P all.toArray Q (l++l2) a w
  | [],fr,H,a,w,_,R,h=>hQ _ _ _ _ h R
  | o::rest,fr,H,a,w,hd,R,h=>by
    simp only[aU,List.all_cons,Bool.and_eq_true]at hd
    obtain⟨hd0,hd⟩:=hd
    have ih:=fun fr H a w=>Vo (all:=all) (l2:=l2) hQ rest fr H a w hd
    obtain⟨C,rfl,rfl,I,hF,hO,hn,hdf⟩:=R.ex
    have af:∀ k,o.dst=some k→k<a.tmps.size:=by
      intro k hk
      rw[hk]at hd0
      rw[hn]
      simpa using hd0
    have srep:∀ (C':Ctx) (w':World) (v:Value) (r:Ac),C'.A0=C.A0→Inv W0 C' w'→Sh C' w' a.tmps fr→Eo C' w' outs outer→Bk C' w' v r→Gb W0 C.A0 ds n outs outer (put fr o.dst r) C'.H (a.put o.dst v) w':=
      fun C' w' v r e I' wy lu hv=>⟨C',rfl,e,I',wy.put hv o.dst af,lu,by rw[gJ,hn],by rw[put_defers,hdf]⟩
    have skip:askip o.dst (alist P outer all rest K) fr C.H→wpListIn (fence md) 5 P all.toArray Q (rest++l2) (a.put o.dst undef) w:=
      fun h=>ih _ _ _ _ (srep C w undef _ rfl I hF hO (T7 C w)) h
    have run:aoper P outer o.op o.dst (alist P outer all rest K) fr C.H→o.wpIn (fence md) 5 P a w (wpListIn (fence md) 5 P all.toArray Q (rest++l2)) Q:=by
      intro h
      have nd:∀ c,o.op≠.defer c:=fun c hc=>by
        rw[hc]at h;exact h
      unfold aoper at h
      unfold Oper.wpIn
      refine⟨fun _ _=>trivial,?_⟩
      rw[Oper.semAt_eq _ _ _ nd]
      split at h
      ·rename_i f args hc
       obtain⟨zq,ts,ho,rfl⟩:=S5 hc
       rcases h W0 C w (a.tmps::outs) (a.eval f) (zq.toList.map a.eval) I rfl (hO.cons hF) (Qq hF f) (by simp) (fun i v x hv hx=>by
         simp only[List.getElem?_map]at hv hx
         cases hy:zq.toList[i]? with
         | none=>simp[hy]at hv
         | some y=>
           simp only[hy,Option.map_some,Akv]at hv hx
           subst hv hx;exact Qq hF y)with ⟨fid,caps,h1,h2,h3⟩ | ⟨l,rec,h1,hh,hs,h3⟩
       ·have bh:(execOp a.eval o).run P w= .ok (.enter fid ((zq.toList.map a.eval).toArray++caps)) w:=by
          unfold execOp
          rw[ho]
          simp only[resolve,Deferred.ofValue,h1,invoke,Sem.run_bind,Sem.run_pure,Result.andThen_ok]
          have e1:(#[]++Array.map a.eval zq++caps:Array Value)=(zq.toList.map a.eval).toArray++caps:=by
            apply Array.ext';simp
          rw[e1,h2]
        rw[bh,Oper.uponIn_enter]
        refine⟨S4,Xh (h3.mono fun e w' ⟨v,r,C',he,hk,hA,hv,I',lu⟩=>?_)⟩
        subst he
        exact ih _ _ _ _ (srep C' w' v r hA I' lu.head lu.tail hv) hk
       ·have bh:(execOp a.eval o).run P w= .ok (.round l rec.fn ((rec.params.zip (zq.toList.map a.eval).toArray).foldl (fun tmps (t,a)=>tmps.setIfInBounds t a) rec.tmps) rec.assign rec.body) w:=by
          unfold execOp
          rw[ho]
          simp only[resolve,Deferred.ofValue,h1,invoke,Sem.run_bind,Sem.run_pure,Result.andThen_ok]
          have e1:(#[]++Array.map a.eval zq++#[]:Array Value)=(zq.toList.map a.eval).toArray:=by
            apply Array.ext';simp
          have e2:(#[]++Array.map a.eval zq:Array Value)=(zq.toList.map a.eval).toArray:=by
            apply Array.ext';simp
          first | rw[e1] | rw[e2]
          exact run_yield hh (by simpa using hs)
        rw[bh,Oper.uponIn_round]
        refine⟨S4,pO (h3.mono fun e w' ⟨v,r,C',he,hk,hA,hv,I',lu⟩=>?_)⟩
        subst he
        exact ih _ _ _ _ (srep C' w' v r hA I' lu.head lu.tail hv) hk
      ·have od:T0 W0 C w ((execOp a.eval o).run P w) (Pj fr o.dst (alist P outer all rest K) C.H):=by
         split at h
         ·rename_i xs hx
          exact vD I (Qq hF) hx h
         ·exact eO (P:=P) I (.inl rfl) (Qq hF) h
       obtain⟨r,w',C',ef,mh,hk,hH,I',m⟩:=od.ex
       unfold Pj at hk
       rw[← hH]at hk
       rcases mh with⟨v,bh,hv⟩ | ⟨bh,rfl⟩
       ·rw[bh,Oper.uponIn_value]
        exact ih _ _ _ _ (srep C' w' v r m.A0 I' (hF.mono m) (hO.mono m) hv) hk
       ·rw[bh,Oper.uponIn_skip]
        exact ih _ _ _ _ (srep C' w' undef _ m.A0 I' (hF.mono m) (hO.mono m) (T7 C' w')) hk
    rw[List.cons_append]
    unfold wpListIn
    cases hg:o.guard with
    | none=>
      simp only[alist,hg]at h
      rw[if_pos (by simp[Region.wanted,hg])]
      exact run h
    | some jw=>
      obtain⟨j,want⟩:=jw
      have hy:∀ d,(all[j]?).bind (·.dst)=some d→yielded all.toArray a.tmps j=match a.tmps[d]? with | some (.bool b)=>some b | _=>none:=by
        intro d hd
        unfold yielded
        simp only[List.getElem?_toArray,hd,Aku]
        rfl
      cases ko:(all[j]?).bind (·.dst)with
      | some d=>
        simp only[alist,hg,ko]at h
        have hv:=hF d
        unfold Ft at h
        split at h
        ·rename_i c hc
         rw[hc]at hv
         have ln:a.tmps.getD d undef= .bool c:=by cases ka:a.tmps.getD d undef<;>rw[ka]at hv<;>cases hv;rfl
         have px:a.tmps[d]? =some (.bool c):=by
           rw[Array.getD_eq_getD_getElem?]at ln
           cases ht:a.tmps[d]? with
           | none=>rw[ht]at ln;cases ln
           | some u=>rw[ht]at ln;simp at ln;rw[ln]
         have hw:Region.wanted o (yielded all.toArray a.tmps)=decide (c=want):=by
           simp only[Region.wanted,hg,hy d ko,px]
           cases c<;>cases want<;>rfl
         by_cases ml:c=want
         ·rw[if_pos (by rw[hw];simpa using ml)]
          exact run (h.1 ml)
         ·rw[if_neg (by rw[hw];simpa using ml)]
          exact⟨fun _ _=>trivial,skip (h.2 ml)⟩
        ·rename_i vs hc
         rw[hc]at hv
         have hw:Region.wanted o (yielded all.toArray a.tmps)=false:=by
           simp only[Region.wanted,hg,hy d ko]
           cases ht:a.tmps[d]? with
           | none=>rfl
           | some u=>
             have:a.tmps.getD d undef=u:=by rw[Array.getD_eq_getD_getElem?,ht];rfl
             rw[this]at hv
             cases hv;rfl
         rw[if_neg (by rw[hw];simp)]
         exact⟨fun _ _=>trivial,skip h⟩
        ·exact h.elim
      | none=>
        simp only[alist,hg,ko]at h
        have hw:Region.wanted o (yielded all.toArray a.tmps)=false:=by
          simp only[Region.wanted,hg]
          unfold yielded
          simp[ko]
        rw[if_neg (by rw[hw];simp)]
        exact⟨fun _ _=>trivial,skip h⟩
theorem eR {W0:World} {A0:Nat→Prop} {ds:List Deferred} {n:Nat} {outs:List (Array Value)} {outer:List Fr} {all:List Oper} {Q:Exit→Act→World→Prop} {K:Fr→List A2→Prop}
    (hQ:∀ fr' H' a' w',K fr' H'→Gb W0 A0 ds n outs outer fr' H' a' w'→Q .normal a' w') (l:List Oper) (fr:Fr) (H:List A2) (a:Act) (w:World) (hd:aU n l=true)
    (R:Gb W0 A0 ds n outs outer fr H a w) (h:alist P outer all l K fr H):wpListIn (fence md) 5 P all.toArray Q l a w:=by
  have:=Vo (md:=md) (l2:=[]) (Q:=Q) hQ l fr H a w hd R h
  rwa [List.append_nil]at this
def ALP (md:Option Nat) (P:Program) (n:Nat) (outer:List Fr) (all l:List Oper) (Q:Exit→Fr→List A2→Prop) (fr:Fr) (H:List A2):Prop:=
  ∀ (W0:World) (A0:Nat→Prop) (ds:List Deferred) (outs:List (Array Value)) (a:Act) (w:World),Gb W0 A0 ds n outs outer fr H a w→wpListIn (fence md) 5 P all.toArray (fun e a' w'=>∃ fr' H',Q e fr' H'∧Gb W0 A0 ds n outs outer fr' H' a' w') l a w
theorem ALP.part {n:Nat} {outer:List Fr} {all l1 l2:List Oper} {Q:Exit→Fr→List A2→Prop} {fr:Fr} {H:List A2} (hd:aU n l1=true)
    (h:∀ K:Fr→List A2→Prop,(∀ fr H,ALP md P n outer all l2 Q fr H→K fr H)→alist P outer all l1 K fr H):ALP md P n outer all (l1++l2) Q fr H:=by
  intro W0 A0 ds outs a w R
  exact Vo (K:=ALP md P n outer all l2 Q) (fun fr' H' a' w' hk hR=>hk W0 A0 ds outs a' w' hR) l1 fr H a w hd R (h _ fun _ _ h=>h)
theorem ALP.last {n:Nat} {outer:List Fr} {all l:List Oper} {Q:Exit→Fr→List A2→Prop} {fr:Fr} {H:List A2} (hd:aU n l=true)
    (h:∀ K:Fr→List A2→Prop,(∀ fr H,Q .normal fr H→K fr H)→alist P outer all l K fr H):ALP md P n outer all l Q fr H:=by
  intro W0 A0 ds outs a w R
  exact eR (K:=Q .normal) (fun fr' H' a' w' hk hR=>⟨fr',H',hk,hR⟩) l fr H a w hd R (h _ fun _ _ h=>h)
def AWP (md:Option Nat) (P:Program) (n:Nat) (c:Code) (Q:Exit→Fr→List A2→Prop) (outer:List Fr) (fr:Fr) (H:List A2):Prop:=
  ∀ (W0:World) (A0:Nat→Prop) (ds:List Deferred) (outs:List (Array Value)) (a:Act) (w:World),Gb W0 A0 ds n outs outer fr H a w→
    c.wpIn (fence md) 5 P (fun e a' w'=>∃ fr' H',Q e fr' H'∧Gb W0 A0 ds n outs outer fr' H' a' w') a w
def qthen (K:Fr→List A2→Prop) (Q:Exit→Fr→List A2→Prop):Exit→Fr→List A2→Prop
  | .normal,fr,H=>K fr H
  | e,fr,H=>Q e fr H
def qblock (id:Nat) (Q:Exit→Fr→List A2→Prop):Exit→Fr→List A2→Prop
  | .exit i,fr,H=>if i=id then Q .normal fr H else Q (.exit i) fr H
  | e,fr,H=>Q e fr H
theorem AWP.region {n id:Nat} {ops:List Oper} {Q:Exit→Fr→List A2→Prop} {outer:List Fr} {fr:Fr} {H:List A2} (hd:aU n ops=true)
    (h:∀ K:Fr→List A2→Prop,(∀ fr H,Q .normal fr H→K fr H)→alist P outer ops ops K fr H):AWP md P n (.region id ops.toArray false) Q outer fr H:=by
  intro W0 A0 ds outs a w R
  exact wpIn_region_lit (eR (K:=Q .normal) (fun fr' H' a' w' hk hR=>⟨fr',H',hk,hR⟩) ops fr H a w hd R (h _ fun _ _ h=>h))
theorem AWP.l4 {n id:Nat} {ops:List Oper} {Q:Exit→Fr→List A2→Prop} {outer:List Fr} {fr:Fr} {H:List A2} (h:ALP md P n outer ops ops Q fr H):AWP md P n (.region id ops.toArray false) Q outer fr H:=
  fun W0 A0 ds outs a w R=>wpIn_region_lit (h W0 A0 ds outs a w R)
theorem ALP.cut {n:Nat} {outer:List Fr} {all l:List Oper} {Q:Exit→Fr→List A2→Prop} {fr:Fr} {H:List A2} (k:Nat) (h:ALP md P n outer all (l.take k++l.drop k) Q fr H):ALP md P n outer all l Q fr H:=by
  rwa [List.take_append_drop]at h
theorem AWP.seq {n:Nat} {c d:Code} {Q:Exit→Fr→List A2→Prop} {outer:List Fr} {fr:Fr} {H:List A2}
    (h:AWP md P n c (qthen (AWP md P n d Q outer) Q) outer fr H):AWP md P n (.seq c d) Q outer fr H:=by
  intro W0 A0 ds outs a w R
  refine wpIn_seq (wpIn_mono (h W0 A0 ds outs a w R) ?_)
  intro e a' w' ⟨fr',H',hq,hR⟩
  cases e<;>first | exact hq W0 A0 ds outs a' w' hR | exact⟨fr',H',hq,hR⟩
theorem AWP.block {n id:Nat} {c:Code} {Q:Exit→Fr→List A2→Prop} {outer:List Fr} {fr:Fr} {H:List A2}
    (h:AWP md P n c (qblock id Q) outer fr H):AWP md P n (.block id c) Q outer fr H:=by
  intro W0 A0 ds outs a w R
  refine wpIn_block (wpIn_mono (h W0 A0 ds outs a w R) ?_)
  intro e a' w' ⟨fr',H',hq,hR⟩
  cases e with
  | exit i=>
    simp only[qblock]at hq
    simp only[Exit.inBlock]
    split at hq
    ·rename_i hi;rw[if_pos hi];exact⟨fr',H',hq,hR⟩
    ·rename_i hi;rw[if_neg hi];exact⟨fr',H',hq,hR⟩
  | _=>exact ⟨fr',H',hq,hR⟩
theorem AWP.skip {n:Nat} {Q:Exit→Fr→List A2→Prop} {outer:List Fr} {fr:Fr} {H:List A2} (h:Q .normal fr H):AWP md P n .skip Q outer fr H:=
  fun _ _ _ _ _ _ R=>wpIn_skip ⟨fr,H,h,R⟩
theorem AWP.ret {n:Nat} {Q:Exit→Fr→List A2→Prop} {outer:List Fr} {fr:Fr} {H:List A2} (h:Q .ret fr H):AWP md P n .ret Q outer fr H:=
  fun _ _ _ _ _ _ R=>wpIn_ret ⟨fr,H,h,R⟩
theorem AWP.exit {n id:Nat} {Q:Exit→Fr→List A2→Prop} {outer:List Fr} {fr:Fr} {H:List A2} (h:Q (.exit id) fr H):AWP md P n (.exit id) Q outer fr H:=
  fun _ _ _ _ _ _ R=>wpIn_exit ⟨fr,H,h,R⟩
def acond (v:Ac) (yes no:Prop):Prop:=
  match v with
  | .bool t=>(t=true→yes)∧(t=false→no)
  | _=>False
theorem AWP.cond {n:Nat} {x:Operand} {c d:Code} {Q:Exit→Fr→List A2→Prop} {outer:List Fr} {fr:Fr} {H:List A2}
    (h:acond (ev fr x) (AWP md P n c Q outer fr H) (AWP md P n d Q outer fr H)):AWP md P n (.cond x c d) Q outer fr H:=by
  intro W0 A0 ds outs a w R
  obtain⟨C,rfl,_,I,hF,_⟩:=R.ex
  have hv:=Qq hF x
  unfold acond at h
  split at h
  ·rename_i t ht
   rw[ht]at hv
   have ln:a.eval x= .bool t:=by cases ka:a.eval x<;>rw[ka]at hv<;>cases hv;rfl
   cases t with
   | true=>exact wpIn_cond_true ln (h.1 rfl W0 A0 ds outs a w R)
   | false=>exact wpIn_cond_false ln (h.2 rfl W0 A0 ds outs a w R)
  ·exact h.elim
def Sub (outer:List Fr) (fr:Fr) (H:List A2) (fr':Fr) (H':List A2):Prop:=
  ∀ (W0:World) (A0:Nat→Prop) (ds:List Deferred) (n:Nat) (outs:List (Array Value)) (a:Act) (w:World),Gb W0 A0 ds n outs outer fr H a w→Gb W0 A0 ds n outs outer fr' H' a w
theorem Sub.refl {outer:List Fr} {fr:Fr} {H:List A2}:Sub outer fr H fr H:=fun _ _ _ _ _ _ _ R=>R
theorem Sub.trans {outer:List Fr} {fr fr' fr'':Fr} {H H' H'':List A2} (h:Sub outer fr H fr' H') (k:Sub outer fr' H' fr'' H''):Sub outer fr H fr'' H'':=
  fun _ _ _ _ _ _ _ R=>k _ _ _ _ _ _ _ (h _ _ _ _ _ _ _ R)
theorem AWP.sub {n:Nat} {c:Code} {Q:Exit→Fr→List A2→Prop} {outer:List Fr} {fr fr':Fr} {H H':List A2} (s:Sub outer fr H fr' H') (h:AWP md P n c Q outer fr' H'):AWP md P n c Q outer fr H:=
  fun W0 A0 ds outs a w R=>h W0 A0 ds outs a w (s _ _ _ _ _ _ _ R)
theorem ALP.sub {n:Nat} {outer:List Fr} {all l:List Oper} {Q:Exit→Fr→List A2→Prop} {fr fr':Fr} {H H':List A2} (s:Sub outer fr H fr' H') (h:ALP md P n outer all l Q fr' H'):ALP md P n outer all l Q fr H:=
  fun W0 A0 ds outs a w R=>h W0 A0 ds outs a w (s _ _ _ _ _ _ _ R)
theorem AWP.mono {n:Nat} {c:Code} {Q Q':Exit→Fr→List A2→Prop} {outer:List Fr} {fr:Fr} {H:List A2} (hq:∀ e fr H,Q e fr H→Q' e fr H) (h:AWP md P n c Q outer fr H):AWP md P n c Q' outer fr H:=
  fun W0 A0 ds outs a w R=>wpIn_mono (h W0 A0 ds outs a w R) fun _ _ _ ⟨fr',H',q,r⟩=>⟨fr',H',hq _ _ _ q,r⟩
theorem AWP.loop {ι:Type} {n:Nat} {c:Code} {Q:Exit→Fr→List A2→Prop} {outer:List Fr} {fr:Fr} {H:List A2} (F:ι→Fr) (HH:ι→List A2) (J:ι→Prop) (μ:ι→Nat) (x0:ι)
    (h0:J x0) (s0:Sub outer fr H (F x0) (HH x0))
    (round:∀ x,J x→AWP md P n c (qthen (fun fr' H'=>∃ x',J x'∧μ x'< μ x∧Sub outer fr' H' (F x') (HH x')) Q) outer (F x) (HH x)):AWP md P n (.loop c) Q outer fr H:=by
  intro W0 A0 ds outs a w R
  refine wpIn_loop_ghost (fun k a w=>∃ x,J x∧μ x=k∧Gb W0 A0 ds n outs outer (F x) (HH x) a w) (μ x0) ⟨x0,h0,rfl,s0 _ _ _ _ _ _ _ R⟩ ?_
  intro k a w ⟨x,hJ,hk,R⟩
  refine wpIn_mono (round x hJ W0 A0 ds outs a w R) ?_
  intro e a' w' ⟨fr',H',hq,hR⟩
  cases e with
  | normal=>
    obtain⟨x',h1,h2,h3⟩:=hq
    exact⟨μ x',by omega,x',h1,rfl,h3 _ _ _ _ _ _ _ hR⟩
  | _=>exact ⟨fr',H',hq,hR⟩
end
def Ctx.imm (A:Nat→Prop):Ctx:=⟨A,A,fun _=>none,[]⟩
def Qf (C:Ctx) (w:World) (vs:List Value) (args:List Ac):Prop:=
  vs.length=args.length∧∀ (i:Nat) (v:Value) (a:Ac),vs[i]? =some v→args[i]? =some a→Bk C w v a
def Ad (P:Program) (f:FuncId) (args:List Ac) (R:Ac→Prop):Prop:=
  ∀ (A:Nat→Prop) (w:World) (vs:List Value),(∀ b,A b→b<w.heap.size)→Qf (Ctx.imm A) w vs args→
    Calls P f vs.toArray w fun e w'=>∃ v r,e= .returned v∧R r∧r.g2=true∧Below w.heap.size w w'∧
      Bk (Ctx.imm fun b=>A b∨(w.heap.size≤b∧b<w'.heap.size)) w' v r
def Bu (P:Program) (f:FuncId) (args:List Ac) (R:Ac→Prop):Prop:=
  ∀ (A:Nat→Prop) (w:World) (vs:List Value),(∀ b,A b→b<w.heap.size)→Qf (Ctx.imm A) w vs args→
    Calls P f vs.toArray w fun e w'=>∃ v r,e= .returned v∧R r∧r.g2=true∧Below w.heap.size w w'∧
      Bk (Ctx.imm fun b=>w.heap.size≤b∧b<w'.heap.size) w' v r
def yK (H:List A2) (v:Ac):Bool:=
  match v with
  | .own r _ _ _=>match H[r]? with
    | some (.row _ _ xs)=>xs.all fun x=>x.all Ac.f0
    | _=>false
  | v=>v.f0
def vW (H:List A2) (v:Ac):Bool:=
  match v with
  | .agg cs=>cs.all (yK H)
  | v=>yK H v
def yJ (H:List A2) (v:Ac):Bool:=
  match v with
  | .tuple vs=>vs.all (vW H)
  | v=>vW H v
def Gz {α β:Type} (f:α→Option β):List α→Option (List β)
  | []=>some []
  | x::r=>match f x,Gz f r with
    | some y,some ys=>some (y::ys)
    | _,_=>none
def Xd (H:List A2) (v:Ac):Option Ac:=
  match v with
  | .own r v lo len=>match H[r]? with
    | some (.row v' sz xs)=>if v=v' then some (.sl sz ((xs.drop lo).take len))else none
    | _=>none
  | .map r=>match H[r]? with
    | some (.mp es)=>some (.vmap es)
    | _=>none
  | .any | .agg _ | .tuple _ | .ptr _ _ | .rptr _ _ _ _ | .func _ _ | .iter _ | .yld _=>none
  | v=>some v
def O0 (H:List A2) (v:Ac):Option Ac:=
  match v with
  | .agg cs=>match Gz (Xd H) cs with
    | some ds=>some (.agg ds)
    | none=>none
  | v=>Xd H v
def jV (H:List A2) (v:Ac):Option Ac:=
  match v with
  | .tuple vs=>match Gz (O0 H) vs with
    | some ds=>some (.tuple ds)
    | none=>none
  | v=>O0 H v
theorem Lw {α β:Type} {f:α→Option β}:∀ {l:List α} {m:List β},Gz f l=some m→l.length=m.length∧∀ (i:Nat) (x:α) (y:β),l[i]? =some x→m[i]? =some y→f x=some y
  | [],m,h=>by simp only[Gz,Akv]at h;subst h;simp
  | x::r,m,h=>by
    simp only[Gz]at h
    split at h
    ·rename_i y ys h1 h2
     simp only[Akv]at h
     subst h
     have ih:=Lw h2
     refine⟨by simp[ih.1],fun i x' y' a b=>?_⟩
     match i,a,b with
     | 0,a,b=>simp at a b;subst a b;exact h1
     | i+1,a,b=>exact ih.2 i x' y' (by simpa using a) (by simpa using b)
    ·cases h
section
variable {P:Program}
theorem Bk.ground' {C C2:Ctx} {w:World} (hA:∀ b,C.A b→C2.A b) {v:Value} {a:Ac} (h:Bk C w v a) (hg:a.g2=true):Bk C2 w v a:=
  Bk.ground (fun b hb=>⟨hA b hb,rfl⟩) h hg
theorem pH {W0:World} {C:Ctx} {w:World} (I:Inv W0 C w) {v:Value} {a a':Ac} (h:Bk C w v a) (hf:Xd C.H a=some a') :
    a'.g0=true∧Bk (Ctx.imm fun b=>C.A b∨(W0.heap.size≤b∧b<w.heap.size)) w v a':=by
  unfold Xd at hf
  split at hf
  ·rename_i r v' lo len
   split at hf
   ·rename_i v2 sz xs hr
    split at hf
    ·rename_i hv
     subst hv
     simp only[Akv]at hf
     subst hf
     refine⟨rfl,?_⟩
     cases h with
     | own ad _ cap _ _ _ af cw cd hh=>
       obtain⟨_,hh⟩:=hh _ _ _ hr
       obtain⟨hle,hh⟩:=hh rfl
       have hlen:((xs.drop lo).take len).length=len:=by simp;omega
       obtain⟨bl,bu,hg,ho⟩:=I.objs r _ hr
       by_cases h0:len=0
       ·subst h0
        simp only[List.take_zero]
        exact .sl0 _ _ _ cd
       ·rcases hh with hh | ⟨l,hl,rfl,ct⟩
        ·omega
        rcases ho with⟨e1,_⟩ | ⟨l',arr,T',e1,e2,e3,e4,e5⟩
        ·subst e1;simp at hle;omega
        rw[hl,Akv]at e1
        subst e1
        have hs:=I.sep r l hl
        have hmul:(lo+len)*sz≤xs.length*sz:=Nat.mul_le_mul_right _ hle
        have jf:(lo+len)*sz=lo*sz+len*sz:=Nat.add_mul _ _ _
        refine .sl _ _ _ _ _ (fun j=>arr.getD (l.base+lo*sz+j) undef) rfl hlen.symm cw cd (.inr ⟨hs.2.1,hs.2.2.1⟩) bl
          (fun x hx=>bu x (List.mem_of_mem_drop (List.mem_of_mem_take hx))) (fun x hx=>hg x (List.mem_of_mem_drop (List.mem_of_mem_take hx))) (fun j hj=>?_) fun i k x c hx hc=>?_
        ·rw[hlen]at hj
         simp only[World.cell?,e2]
         have:l.base+lo*sz+j<arr.size:=by omega
         simp[Array.getD,this]
        ·rw[List.getElem?_take]at hx
         split at hx
         ·rename_i hi
          rw[List.getElem?_drop]at hx
          obtain⟨u,hu,di⟩:=e5 _ k x c hx hc
          have hgc:=hg x (Akt hx) c (Akt hc)
          have e:l.base+((lo+i)*sz+k)=l.base+lo*sz+(i*sz+k):=by rw[Nat.add_mul];omega
          rw[e]at hu
          have:arr.getD (l.base+lo*sz+(i*sz+k)) undef=u:=by rw[Array.getD_eq_getD_getElem?,hu];rfl
          rw[this]
          exact Bk.ground' (fun b hb=>Or.inl hb) di (Ac.Ib hgc)
         ·cases hx
    ·cases hf
   ·cases hf
  ·rename_i r
   split at hf
   ·rename_i es hr
    simp only[Akv]at hf
    subst hf
    refine⟨rfl,?_⟩
    cases h with
    | map b _ af hh=>
      obtain⟨l,hl,rfl⟩:=hh _ hr rfl
      obtain⟨l',en,cl,h1,h2,h3,h4,h5⟩:=I.objs r _ hr
      rw[hl,Akv]at h1
      subst h1
      have hs:=I.sep r l hl
      exact .vmap _ _ en cl (.inr ⟨hs.2.1,hs.2.2.1⟩) h4 h2 h3 fun i e p a b=>Bk.ground' (fun b hb=>Or.inl hb) (h5 i e p a b) (Ac.Jt (h4 p (Akt b)))
   ·cases hf
  ·cases hf
  ·cases hf
  ·cases hf
  ·cases hf
  ·cases hf
  ·cases hf
  ·cases hf
  ·cases hf
  ·rename_i n1 n2 n3 n4 n5 n6 n7 n8 n9 n10
   have hg:a.g0=true:=by
     cases a
     case own=>exact absurd rfl (n1 _ _ _ _)
     case map=>exact absurd rfl (n2 _)
     case any=>exact absurd rfl n3
     case agg=>exact absurd rfl (n4 _)
     case tuple=>exact absurd rfl (n5 _)
     case ptr=>exact absurd rfl (n6 _ _)
     case rptr=>exact absurd rfl (n7 _ _ _ _)
     case func=>exact absurd rfl (n8 _ _)
     case iter=>exact absurd rfl (n9 _)
     case yld=>exact absurd rfl (n10 _)
     all_goals rfl
   simp only[Akv]at hf
   subst hf
   exact⟨hg,Bk.ground' (fun b hb=>Or.inl hb) h (Ac.Ib hg)⟩
theorem eQ {H:List A2} {f:List A2→Ac→Option Ac} {g:Ac→Bool} {l m:List Ac} (h:Gz (f H) l=some m) (hg:∀ (i:Nat) x y,l[i]? =some x→m[i]? =some y→g y=true):m.all g=true:=by
  rw[List.all_eq_true]
  intro y hy
  obtain⟨i,hi⟩:=List.getElem?_of_mem hy
  have af:i<l.length:=by rw[(Lw h).1];exact C0 hi
  exact hg i _ y (Aks af) hi
theorem Xc {W0:World} {C:Ctx} {w:World} (I:Inv W0 C w) {v:Value} {a a':Ac} (h:Bk C w v a) (hf:O0 C.H a=some a') :
    a'.g1=true∧Bk (Ctx.imm fun b=>C.A b∨(W0.heap.size≤b∧b<w.heap.size)) w v a':=by
  unfold O0 at hf
  split at hf
  ·rename_i cs
   split at hf
   ·rename_i ds sn
    simp only[Akv]at hf
    subst hf
    have hm:=Lw sn
    cases h with
    | agg arr _ hl hc=>
      have get:∀ (i:Nat) (u:Value) (d:Ac),arr[i]? =some u→ds[i]? =some d→d.g0=true∧Bk (Ctx.imm fun b=>C.A b∨(W0.heap.size≤b∧b<w.heap.size)) w u d:=by
        intro i u d h1 h2
        have af:i<cs.length:=by rw[hm.1];exact C0 h2
        have h3:cs[i]? =some cs[i]:=Aks af
        exact pH I (hc i u _ h1 h3) (hm.2 i _ d h3 h2)
      refine⟨?_,.agg arr ds (by rw[hl,hm.1]) fun i u d h1 h2=>(get i u d h1 h2).2⟩
      refine eQ (f:=Xd) sn fun i x y h1 h2=>?_
      have af:i<arr.size:=by rw[hl];exact C0 h1
      exact(get i _ y (Array.getElem?_eq_getElem af) h2).1
   ·cases hf
  ·have:=pH I h hf
   exact⟨Ac.yH this.1,this.2⟩
theorem Xb {W0:World} {C:Ctx} {w:World} (I:Inv W0 C w) {v:Value} {a a':Ac} (h:Bk C w v a) (hf:jV C.H a=some a') :
    a'.g2=true∧Bk (Ctx.imm fun b=>C.A b∨(W0.heap.size≤b∧b<w.heap.size)) w v a':=by
  unfold jV at hf
  split at hf
  ·rename_i cs
   split at hf
   ·rename_i ds sn
    simp only[Akv]at hf
    subst hf
    have hm:=Lw sn
    cases h with
    | tuple arr _ hl hc=>
      have get:∀ (i:Nat) (u:Value) (d:Ac),arr[i]? =some u→ds[i]? =some d→d.g1=true∧Bk (Ctx.imm fun b=>C.A b∨(W0.heap.size≤b∧b<w.heap.size)) w u d:=by
        intro i u d h1 h2
        have af:i<cs.length:=by rw[hm.1];exact C0 h2
        have h3:cs[i]? =some cs[i]:=Aks af
        exact Xc I (hc i u _ h1 h3) (hm.2 i _ d h3 h2)
      refine⟨?_,.tuple arr ds (by rw[hl,hm.1]) fun i u d h1 h2=>(get i u d h1 h2).2⟩
      refine eQ (f:=O0) sn fun i x y h1 h2=>?_
      have af:i<arr.size:=by rw[hl];exact C0 h1
      exact(get i _ y (Array.getElem?_eq_getElem af) h2).1
   ·cases hf
  ·have:=Xc I h hf
   exact⟨Ac.Jt this.1,this.2⟩
theorem pK {W0:World} {C:Ctx} {w:World} (I:Inv W0 C w) {v:Value} {a a':Ac} (h:Bk C w v a) (hf:Xd C.H a=some a') (hr:yK C.H a=true) :
    Bk (Ctx.imm fun b=>W0.heap.size≤b∧b<w.heap.size) w v a':=by
  unfold yK at hr
  split at hr
  ·rename_i r v' lo len
   simp only[Xd]at hf
   cases jq:C.H[r]? with
   | none=>rw[jq]at hr;cases hr
   | some o=>
     rw[jq]at hr hf
     cases o with
     | row v2 sz xs=>
       simp only at hr hf
       split at hf
       ·rename_i hv
        subst hv
        simp only[Akv]at hf
        subst hf
        cases h with
        | own ad _ cap _ _ _ af cw cd hh=>
          obtain⟨_,hh⟩:=hh _ _ _ jq
          obtain⟨hle,hh⟩:=hh rfl
          have hlen:((xs.drop lo).take len).length=len:=by simp;omega
          obtain⟨bl,bu,hg,ho⟩:=I.objs r _ jq
          by_cases h0:len=0
          ·subst h0
           simp only[List.take_zero]
           exact .sl0 _ _ _ cd
          ·rcases hh with hh | ⟨l,hl,rfl,ct⟩
           ·omega
           rcases ho with⟨e1,_⟩ | ⟨l',arr,T',e1,e2,e3,e4,e5⟩
           ·subst e1;simp at hle;omega
           rw[hl,Akv]at e1
           subst e1
           have hs:=I.sep r l hl
           have hmul:(lo+len)*sz≤xs.length*sz:=Nat.mul_le_mul_right _ hle
           have jf:(lo+len)*sz=lo*sz+len*sz:=Nat.add_mul _ _ _
           refine .sl _ _ _ _ _ (fun j=>arr.getD (l.base+lo*sz+j) undef) rfl hlen.symm cw cd ⟨hs.2.1,hs.2.2.1⟩ bl
             (fun x hx=>bu x (List.mem_of_mem_drop (List.mem_of_mem_take hx))) (fun x hx=>hg x (List.mem_of_mem_drop (List.mem_of_mem_take hx))) (fun j hj=>?_) fun i k x c hx hc=>?_
           ·rw[hlen]at hj
            simp only[World.cell?,e2]
            have:l.base+lo*sz+j<arr.size:=by omega
            simp[Array.getD,this]
           ·rw[List.getElem?_take]at hx
            split at hx
            ·rename_i hi
             rw[List.getElem?_drop]at hx
             obtain⟨u,hu,di⟩:=e5 _ k x c hx hc
             have wg:c.f2=true:=by
               have h1:=List.all_eq_true.1 hr x (Akt hx)
               have h2:=List.all_eq_true.1 h1 c (Akt hc)
               cases c<;>simp_all [Ac.f0,Ac.f1,Ac.f2]
             have e:l.base+((lo+i)*sz+k)=l.base+lo*sz+(i*sz+k):=by rw[Nat.add_mul];omega
             rw[e]at hu
             have:arr.getD (l.base+lo*sz+(i*sz+k)) undef=u:=by rw[Array.getD_eq_getD_getElem?,hu];rfl
             rw[this]
             exact di.flat wg
            ·cases hx
       ·cases hf
     | _=>cases hr
  ·have:a'=a:=by cases a<;>simp_all [Xd,Ac.f0]
   subst this
   exact h.flat (by cases a'<;>simp_all [Ac.f0,Ac.f1,Ac.f2])
theorem pJ {W0:World} {C:Ctx} {w:World} (I:Inv W0 C w) {v:Value} {a a':Ac} (h:Bk C w v a) (hf:O0 C.H a=some a') (hr:vW C.H a=true) :
    Bk (Ctx.imm fun b=>W0.heap.size≤b∧b<w.heap.size) w v a':=by
  unfold O0 at hf
  split at hf
  ·rename_i cs
   split at hf
   ·rename_i ds sn
    simp only[Akv]at hf
    subst hf
    have hm:=Lw sn
    simp only[vW]at hr
    cases h with
    | agg arr _ hl hc=>
      refine .agg arr ds (by rw[hl,hm.1]) fun i u d h1 h2=>?_
      have af:i<cs.length:=by rw[hm.1];exact C0 h2
      have h3:cs[i]? =some cs[i]:=Aks af
      exact pK I (hc i u _ h1 h3) (hm.2 i _ d h3 h2) (List.all_eq_true.1 hr _ (Akt h3))
   ·cases hf
  ·rename_i bc
   refine pK I h hf ?_
   unfold vW at hr
   split at hr
   ·rename_i cs;exact absurd rfl (bc cs)
   ·exact hr
theorem pI {W0:World} {C:Ctx} {w:World} (I:Inv W0 C w) {v:Value} {a a':Ac} (h:Bk C w v a) (hf:jV C.H a=some a') (hr:yJ C.H a=true) :
    Bk (Ctx.imm fun b=>W0.heap.size≤b∧b<w.heap.size) w v a':=by
  unfold jV at hf
  split at hf
  ·rename_i cs
   split at hf
   ·rename_i ds sn
    simp only[Akv]at hf
    subst hf
    have hm:=Lw sn
    simp only[yJ]at hr
    cases h with
    | tuple arr _ hl hc=>
      refine .tuple arr ds (by rw[hl,hm.1]) fun i u d h1 h2=>?_
      have af:i<cs.length:=by rw[hm.1];exact C0 h2
      have h3:cs[i]? =some cs[i]:=Aks af
      exact pJ I (hc i u _ h1 h3) (hm.2 i _ d h3 h2) (List.all_eq_true.1 hr _ (Akt h3))
   ·cases hf
  ·rename_i bc
   refine pJ I h hf ?_
   unfold yJ at hr
   split at hr
   ·rename_i cs;exact absurd rfl (bc cs)
   ·exact hr
def aresult (P:Program) (fr:Fr) (H:List A2):ResultVar→Option Ac
  | .tmp t=>some (get fr t)
  | .cell a T=>match get fr a with
    | .ptr r k=>match H[r]? with
      | some (.box cs)=>if okT P T=true∧k+(if Me P T then Bs P T else 1)≤cs.length then some (Je (Me P T) (Bs P T) (cs.drop k))else none
      | _=>none
    | _=>none
def aret:List Ac→Ac
  | [v]=>v
  | vs=>.tuple vs
def qret (P:Program) (fn:Func) (R:Ac→List A2→Prop):Exit→Fr→List A2→Prop
  | .normal,fr,H | .ret,fr,H=>match Gz (aresult P fr H) fn.results.toList with
    | some vs=>R (aret vs) H
    | none=>False
  | _,_,_=>False
def rfrz (R:Ac→Prop) (r:Ac) (H:List A2):Prop:=
  match jV H r with
  | some r'=>R r'
  | none=>False
def Sb:List Ac→Nat→Fr
  | [],_=>[]
  | a::r,i=>(i,a)::Sb r (i+1)
theorem iG:∀ (args:List Ac) (i t:Nat),get (Sb args i) t=if i≤t then args.getD (t - i) .any else .any
  | [],i,t=>by simp[Sb,get]
  | a::r,i,t=>by
    simp only[Sb,get]
    by_cases h:i=t
    ·subst h;simp
    ·rw[if_neg h,iG r (i+1) t]
     by_cases h2:i≤t
     ·rw[if_pos h2,if_pos (by omega),show t - i=(t - (i+1))+1 by omega];simp
     ·rw[if_neg h2,if_neg (by omega)]
theorem Uq {C:Ctx} {w:World} {vs:List Value} {args:List Ac} (h:Qf C w vs args) (k:Nat):Sh C w (vs.toArray++Array.replicate k undef) (Sb args 0):=by
  intro t
  rw[iG]
  simp only[Nat.zero_le,if_true,Nat.sub_zero]
  by_cases ht:t<args.length
  ·have hv:t<vs.length:=by rw[h.1];exact ht
   have e1:(vs.toArray++Array.replicate k undef).getD t undef=vs[t]:=by
     rw[Array.getD_eq_getD_getElem?,Array.getElem?_append_left (by simpa using hv)]
     simp[hv]
   have e2:args.getD t .any=args[t]:=by simp[List.getD_eq_getElem?_getD,ht]
   rw[e1,e2]
   exact h.2 t _ _ (Aks hv) (Aks ht)
  ·have e2:args.getD t .any= .any:=by simp[List.getD_eq_getElem?_getD,Nat.le_of_not_lt ht]
   rw[e2];exact .any _
def lZ (tmps:Array Value):ResultVar→Sem Value
  | .tmp t=>pure (tmps.getD t undef)
  | .cell a t=>do loadVar t (← asAddr (tmps.getD a undef))
theorem rJ (fn:Func) (tmps:Array Value):results fn tmps=(do let vs ← fn.results.mapM (lZ tmps);pure (if h:vs.size=1 then vs[0]else .tuple vs)):=rfl
theorem rK {W0:World} {C:Ctx} {w:World} (I:Inv W0 C w) {fr:Fr} {tmps:Array Value} (hF:Sh C w tmps fr) (rv:ResultVar) (a:Ac) (ha:aresult P fr C.H rv=some a) :
    ∃ v,(lZ tmps rv).run P w= .ok v w∧Bk C w v a:=by
  cases rv with
  | tmp t=>
    simp only[aresult,Akv]at ha
    subst ha
    exact⟨_,rfl,hF t⟩
  | cell p T=>
    simp only[aresult]at ha
    have hp:=hF p
    split at ha
    ·rename_i r k hpk
     split at ha
     ·rename_i cs ia
      by_cases hc:okT P T=true∧k+(if Me P T then Bs P T else 1)≤cs.length
      ·rw[if_pos hc,Akv]at ha
       subst ha
       rw[hpk]at hp
       have hl:X0 P T (.ptr r k) C.H (fun v=>v=Je (Me P T) (Bs P T) (cs.drop k)):=by
         unfold X0
         simp only[ia]
         exact⟨hc.1,hc.2,trivial⟩
       obtain⟨v,a',h1,h2,h3⟩:=(gW (P:=P) I hp hl).ex
       subst h3
       refine⟨v,?_,h2⟩
       cases hv:tmps.getD p undef with
       | pointer o=>
         cases o with
         | none=>rw[hv]at hp;cases hp
         | some ad=>
           rw[hv]at h1
           simpa[Instr.loadAt,Instr.sureAddr,lZ,hv,asAddr]using h1
       | _=>rw[hv]at hp;cases hp
      ·rw[if_neg hc]at ha;cases ha
     ·cases ha
    ·cases ha
theorem eC {W0:World} {C:Ctx} {w:World} (I:Inv W0 C w) {fr:Fr} {tmps:Array Value} (hF:Sh C w tmps fr):∀ (l:List ResultVar) (vs:List Ac),Gz (aresult P fr C.H) l=some vs→
    ∃ us:List Value,(l.mapM (lZ tmps)).run P w= .ok us w∧Qf C w us vs
  | [],vs,h=>by simp only[Gz,Akv]at h;subst h;exact⟨[],by simp,rfl,by simp⟩
  | rv::l,vs,h=>by
    simp only[Gz]at h
    split at h
    ·rename_i y ys h1 h2
     simp only[Akv]at h
     subst h
     obtain⟨v,e1,e2⟩:=rK (P:=P) I hF rv y h1
     obtain⟨us,e3,e4⟩:=eC I hF l ys h2
     refine⟨v::us,?_,by simp[e4.1],fun i u a ha hb=>?_⟩
     ·rw[List.mapM_cons]
      simp only[Sem.run_bind,e1,Result.andThen_ok,e3,Sem.run_pure]
     ·match i,ha,hb with
      | 0,ha,hb=>simp at ha hb;subst ha hb;exact e2
      | i+1,ha,hb=>exact e4.2 i u a (by simpa using ha) (by simpa using hb)
    ·cases h
theorem Px {W0:World} {C:Ctx} {w:World} (I:Inv W0 C w) {fn:Func} {fr:Fr} {tmps:Array Value} (hF:Sh C w tmps fr) {vs:List Ac} (h:Gz (aresult P fr C.H) fn.results.toList=some vs) :
    ∃ v,(results fn tmps).run P w= .ok v w∧Bk C w v (aret vs):=by
  obtain⟨us,h1,h2⟩:=eC (P:=P) I hF _ _ h
  have bh:(results fn tmps).run P w= .ok (if h:us.toArray.size=1 then us.toArray[0]else .tuple us.toArray) w:=by
    rw[rJ,Array.mapM_eq_mapM_toList]
    simp only[Sem.run_bind,Sem.run_map,h1,Result.andThen_ok,Sem.run_pure]
  refine⟨_,bh,?_⟩
  match us,vs,h2 with
  | [],[],h2=>exact .tuple #[] [] rfl (by simp)
  | [u],[v],h2=>exact h2.2 0 u v rfl rfl
  | u::u2::us,v::v2::vs,h2=>
    have:¬ ((u::u2::us).toArray.size=1):=by simp
    rw[dif_neg this]
    exact .tuple _ _ (by simpa using h2.1) fun i x c a b=>h2.2 i x c (by simpa using a) b
  | [],_::_,h2=>simp[Qf]at h2
  | _::_,[],h2=>simp[Qf]at h2
  | [_],_::_::_,h2=>simp[Qf]at h2
  | _::_::_,[_],h2=>simp[Qf]at h2
theorem Ad.intro {f:FuncId} {fn:Func} {c:Code} {n:Nat} {args:List Ac} {R:Ac→Prop} (hf:P.funcs[f]? =some fn) (hb:fn.body=some c) (hn:fn.ntmps=n) (hlen:args.length≤n)
    (h:AWP none P n c (qret P fn (rfrz R)) [] (Sb args 0) []):Ad P f args R:=by
  intro A w vs hA eg
  refine calls_of_wp hf hb ?_
  have ej:(vs.toArray++Array.replicate (fn.ntmps - vs.toArray.size) undef).size=n:=by
    have:=eg.1
    simp only[Array.size_append,List.size_toArray,Array.size_replicate];omega
  have I0:Inv w (Ctx.imm A) w:=⟨.refl _ _,hA,fun b hb _=>hb,by simp[Ctx.imm],by simp[Ctx.imm],by simp[Ctx.imm]⟩
  refine wp_mono (wpIn_wide.1 <| h w A [] [] _ w ⟨Ctx.imm A,rfl,rfl,I0,Uq eg _,.nil,ej,rfl⟩) ?_
  intro e a' w' ⟨fr',H',hq,hR⟩
  obtain⟨C,rfl,fo,I,hF,_,_,hd⟩:=hR.ex
  have key:∀ (h:match Gz (aresult P fr' C.H) fn.results.toList with | some vs=>rfrz R (aret vs) C.H | none=>False),a'.defers=[]∧∃ v,(results fn a'.tmps).run P w'= .ok v w'∧∃ v' r,Ending.returned v= .returned v'∧R r∧r.g2=true∧Below w.heap.size w w'∧
   Bk (Ctx.imm fun b=>A b∨(w.heap.size≤b∧b<w'.heap.size)) w' v' r:=by
    intro h
    split at h
    ·rename_i rs py
     obtain⟨v,h1,h2⟩:=Px (P:=P) I hF py
     unfold rfrz at h
     split at h
     ·rename_i r hr
      have h3:=Xb I h2 hr
      refine⟨hd,v,h1,v,r,rfl,h,h3.1,I.below,Bk.ground' (fun b hb=>?_) h3.2 h3.1⟩
      rcases hb with hb | hb
      ·by_cases af:b<w.heap.size
       ·exact .inl (fo ▸ I.old b hb af)
       ·exact .inr ⟨by omega,I.sub b hb⟩
      ·exact .inr hb
     ·exact h.elim
    ·exact h.elim
  cases e with
  | normal=>exact key hq
  | ret=>exact key hq
  | _=>exact hq.elim
def rfre (R:Ac→Prop) (r:Ac) (H:List A2):Prop:=
  match jV H r with
  | some r'=>R r'∧yJ H r=true
  | none=>False
theorem Bu.intro {f:FuncId} {fn:Func} {c:Code} {n:Nat} {args:List Ac} {R:Ac→Prop} (hf:P.funcs[f]? =some fn) (hb:fn.body=some c) (hn:fn.ntmps=n) (hlen:args.length≤n)
    (h:AWP none P n c (qret P fn (rfre R)) [] (Sb args 0) []):Bu P f args R:=by
  intro A w vs hA eg
  refine calls_of_wp hf hb ?_
  have ej:(vs.toArray++Array.replicate (fn.ntmps - vs.toArray.size) undef).size=n:=by
    have:=eg.1
    simp only[Array.size_append,List.size_toArray,Array.size_replicate];omega
  have I0:Inv w (Ctx.imm A) w:=⟨.refl _ _,hA,fun b hb _=>hb,by simp[Ctx.imm],by simp[Ctx.imm],by simp[Ctx.imm]⟩
  refine wp_mono (wpIn_wide.1 <| h w A [] [] _ w ⟨Ctx.imm A,rfl,rfl,I0,Uq eg _,.nil,ej,rfl⟩) ?_
  intro e a' w' ⟨fr',H',hq,hR⟩
  obtain⟨C,rfl,fo,I,hF,_,_,hd⟩:=hR.ex
  have key:∀ (h:match Gz (aresult P fr' C.H) fn.results.toList with | some vs=>rfre R (aret vs) C.H | none=>False),a'.defers=[]∧∃ v,(results fn a'.tmps).run P w'= .ok v w'∧∃ v' r,Ending.returned v= .returned v'∧R r∧r.g2=true∧Below w.heap.size w w'∧
   Bk (Ctx.imm fun b=>w.heap.size≤b∧b<w'.heap.size) w' v' r:=by
    intro h
    split at h
    ·rename_i rs py
     obtain⟨v,h1,h2⟩:=Px (P:=P) I hF py
     unfold rfre at h
     split at h
     ·rename_i r hr
      exact⟨hd,v,h1,v,r,rfl,h.1,(Xb I h2 hr).1,I.below,pI I h2 hr h.2⟩
     ·exact h.elim
    ·exact h.elim
  cases e with
  | normal=>exact key hq
  | ret=>exact key hq
  | _=>exact hq.elim
theorem Bu.pure {f:FuncId} {args:List Ac} {R:Ac→Prop} (h:Bu P f args R):Ad P f args R:=by
  intro A w vs hA hv
  exact(h A w vs hA hv).mono fun e w' ⟨v,r,h1,h2,h3,h4,h5⟩=>⟨v,r,h1,h2,h3,h4,Bk.ground' (C:=Ctx.imm fun b=>w.heap.size≤b∧b<w'.heap.size) (C2:=Ctx.imm fun b=>A b∨(w.heap.size≤b∧b<w'.heap.size)) (fun b hb=>Or.inr hb) h5 h3⟩
theorem Al.kD {f:FuncId} {args args':List Ac} {st:List Fr} {H:List A2} {K:Ac→List A2→Prop} {R:Ac→Prop} (hc:∀ (args:Array Value) (w:World),(callFunc f args).run P w= .ok (.enter f args) w)
    (spec:Bu P f args' R) (ha:Gz (O0 H) args=some args') (h:∀ r,R r→K r H):Al P (.func f []) args st H K:=by
  intro W0 C w outs fv vs I hH hO hf hl hv
  subst hH
  cases hf with
  | func _ caps _ dx _=>
    have:caps=#[]:=Array.eq_empty_of_size_eq_zero (by simpa using dx)
    subst this
    refine .inl ⟨f,#[],rfl,hc,?_⟩
    have hm:=Lw ha
    have eg:Qf (Ctx.imm fun b=>C.A b∨(W0.heap.size≤b∧b<w.heap.size)) w vs args':=by
      refine⟨by rw[hl,hm.1],fun i v a h1 h2=>?_⟩
      have af:i<args.length:=by rw[hm.1];exact C0 h2
      exact(Xc I (hv i v _ h1 (Aks af)) (hm.2 i _ a (Aks af) h2)).2
    rw[show vs.toArray++#[]=vs.toArray by simp]
    refine(spec _ w vs (fun b hb=>?_) eg).mono fun e w' ⟨v,r,he,hR,hg,hb,hr⟩=>?_
    ·rcases hb with hb | hb
     ·exact I.sub b hb
     ·exact hb.2
    ·have key:=I.grow (fun b=>w.heap.size≤b∧b<w'.heap.size) (fun b hb=>hb) hb
     exact⟨v,r,C.more fun b=>w.heap.size≤b∧b<w'.heap.size,he,h r hR,rfl,Bk.ground' (C:=Ctx.imm fun b=>w.heap.size≤b∧b<w'.heap.size) (C2:=C.more fun b=>w.heap.size≤b∧b<w'.heap.size) (fun b hb=>Or.inr hb) hr hg,key.1,hO.mono key.2⟩
theorem Al.snap {f:FuncId} {args args':List Ac} {st:List Fr} {H:List A2} {K:Ac→List A2→Prop} {R:Ac→Prop} (hc:∀ (args:Array Value) (w:World),(callFunc f args).run P w= .ok (.enter f args) w)
    (spec:Ad P f args' R) (ha:Gz (O0 H) args=some args') (qh:∀ r,R r→r.f2=true) (h:∀ r,R r→K r H):Al P (.func f []) args st H K:=by
  intro W0 C w outs fv vs I hH hO hf hl hv
  subst hH
  cases hf with
  | func _ caps _ dx _=>
    have:caps=#[]:=Array.eq_empty_of_size_eq_zero (by simpa using dx)
    subst this
    refine .inl ⟨f,#[],rfl,hc,?_⟩
    have hm:=Lw ha
    have eg:Qf (Ctx.imm fun b=>C.A b∨(W0.heap.size≤b∧b<w.heap.size)) w vs args':=by
      refine⟨by rw[hl,hm.1],fun i v a h1 h2=>?_⟩
      have af:i<args.length:=by rw[hm.1];exact C0 h2
      exact(Xc I (hv i v _ h1 (Aks af)) (hm.2 i _ a (Aks af) h2)).2
    rw[show vs.toArray++#[]=vs.toArray by simp]
    refine(spec _ w vs (fun b hb=>?_) eg).mono fun e w' ⟨v,r,he,hR,hg,hb,hr⟩=>?_
    ·rcases hb with hb | hb
     ·exact I.sub b hb
     ·exact hb.2
    ·have key:=I.grow (fun b=>w.heap.size≤b∧b<w'.heap.size) (fun b hb=>hb) hb
     exact⟨v,r,C.more fun b=>w.heap.size≤b∧b<w'.heap.size,he,h r hR,rfl,hr.flat (qh r hR),key.1,hO.mono key.2⟩
theorem Al.pure {f:FuncId} {args:List Ac} {st:List Fr} {H:List A2} {K:Ac→List A2→Prop} {R:Ac→Prop} (hc:∀ (args:Array Value) (w:World),(callFunc f args).run P w= .ok (.enter f args) w)
    (spec:Ad P f args R) (hg:args.all Ac.g2=true) (h:∀ r,R r→K r H):Al P (.func f []) args st H K:=by
  intro W0 C w outs fv vs I hH hO hf hl hv
  subst hH
  cases hf with
  | func _ caps _ dx _=>
    have:caps=#[]:=Array.eq_empty_of_size_eq_zero (by simpa using dx)
    subst this
    refine .inl ⟨f,#[],rfl,hc,?_⟩
    have eg:Qf (Ctx.imm C.A) w vs args:=
      ⟨hl,fun i v a h1 h2=>Bk.ground' (C:=C) (C2:=Ctx.imm C.A) (fun b hb=>hb) (hv i v a h1 h2) (List.all_eq_true.1 hg a (Akt h2))⟩
    rw[show vs.toArray++#[]=vs.toArray by simp]
    refine(spec _ w vs I.sub eg).mono fun e w' ⟨v,r,he,hR,hg,hb,hr⟩=>?_
    have key:=I.grow (fun b=>w.heap.size≤b∧b<w'.heap.size) (fun b hb=>hb) hb
    exact⟨v,r,C.more fun b=>w.heap.size≤b∧b<w'.heap.size,he,h r hR,rfl,Bk.ground' (C:=Ctx.imm fun b=>C.A b∨(w.heap.size≤b∧b<w'.heap.size)) (C2:=C.more fun b=>w.heap.size≤b∧b<w'.heap.size) (fun b hb=>hb) hr hg,key.1,hO.mono key.2⟩
theorem Al.inline {f:FuncId} {fn:Func} {c:Code} {n:Nat} {args caps:List Ac} {st:List Fr} {H:List A2} {K:Ac→List A2→Prop} (hc:∀ (args:Array Value) (w:World),(callFunc f args).run P w= .ok (.enter f args) w)
    (hf:P.funcs[f]? =some fn) (hb:fn.body=some c) (hn:fn.ntmps=n) (hlen:(args++caps).length≤n)
    (h:AWP none P n c (qret P fn K) st (Sb (args++caps) 0) H):Al P (.func f caps) args st H K:=by
  intro W0 C w outs fv vs I hH hO hfv hl hv
  subst hH
  cases hfv with
  | func _ carr _ dx hcr=>
    refine .inl ⟨f,carr,rfl,hc,calls_of_wp hf hb ?_⟩
    have eg:Qf C w (vs++carr.toList) (args++caps):=by
      refine⟨by simp[hl,dx],fun i v a h1 h2=>?_⟩
      by_cases hi:i<vs.length
      ·rw[List.getElem?_append_left hi]at h1
       rw[List.getElem?_append_left (by omega)]at h2
       exact hv i v a h1 h2
      ·rw[List.getElem?_append_right (by omega)]at h1
       rw[List.getElem?_append_right (by omega),← hl]at h2
       exact hcr _ v a (by simpa using h1) h2
    have e1:vs.toArray++carr=(vs++carr.toList).toArray:=by apply Array.ext';simp
    rw[e1]
    have ej:((vs++carr.toList).toArray++Array.replicate (fn.ntmps - (vs++carr.toList).toArray.size) undef).size=n:=by
      have:=eg.1
      simp only[Array.size_append,List.size_toArray,Array.size_replicate];omega
    refine wp_mono (wpIn_wide.1 <| h W0 C.A0 [] outs _ w ⟨C,rfl,rfl,I,Uq eg _,hO,ej,rfl⟩) ?_
    intro e a' w' ⟨fr',H',hq,hR⟩
    obtain⟨C',rfl,fo,I',hF,lu,_,hd⟩:=hR.ex
    have key:∀ (h:match Gz (aresult P fr' C'.H) fn.results.toList with | some vs=>K (aret vs) C'.H | none=>False),a'.defers=[]∧∃ v,(results fn a'.tmps).run P w'= .ok v w'∧
     ∃ v' r C2,Ending.returned v= .returned v'∧K r C2.H∧C2.A0=C.A0∧Bk C2 w' v' r∧Inv W0 C2 w'∧Eo C2 w' outs st:=by
      intro h
      split at h
      ·rename_i rs py
       obtain⟨v,h1,h2⟩:=Px (P:=P) I' hF py
       exact⟨hd,v,h1,v,_,C',rfl,h,fo,h2,I',lu⟩
      ·exact h.elim
    cases e with
    | normal=>exact key hq
    | ret=>exact key hq
    | _=>exact hq.elim
end
def vle (v v':Ac):Prop:=match v' with | .any=>True | .sl _ xs=>v=v'∨(v= .nils∧xs=[]) | _=>v=v'
def aZ:List Ac→List Ac→Prop
  | [],[]=>True
  | c::r,c'::r'=>vle c c'∧aZ r r'
  | _,_=>False
def P7 (o o':A2):Prop:=
  match o',o with
  | .gone,_=>True
  | .box cs',.box cs=>aZ cs cs'
  | .row v' sz' xs',.row v sz xs=>v=v'∧sz=sz'∧xs=xs'
  | .mp es',.mp es=>es=es'
  | .mpo q' es',.mpo q es=>q=q'∧es=es'
  | .mpo q' es',.mp es=>q'=false∧es=es'
  | .it l' c',.it l c=>l=l'∧c=c'
  | .lp D' n' fr' ps' a' b' s' p',.lp D n fr ps a b s p=>D=D'∧n=n'∧fr=fr'∧ps=ps'∧a=a'∧b=b'∧s=s'∧p=p'
  | _,_=>False
def Yp:List A2→List A2→Prop
  | _,[]=>True
  | o::r,o'::r'=>P7 o o'∧Yp r r'
  | [],_::_=>False
def fX (fr:Fr):Fr→Prop
  | []=>True
  | (k,v)::r=>vle (get fr k) v∧fX fr r
def Ac.Zz (m:Nat):Ac→Bool
  | .own r _ _ _ | .ptr r _ | .rptr r _ _ _ | .map r | .iter r | .yld r=>Nat.blt r m
  | .agg _ | .tuple _ | .func _ _=>false
  | _=>true
def Ac.Yw (m:Nat):Ac→Bool
  | .func _ cs=>cs.all (Ac.Zz m)
  | v=>v.Zz m
def Ac.Xn (m:Nat):Ac→Bool
  | .agg cs=>cs.all (Ac.Yw m)
  | v=>v.Yw m
def Ac.Qe (m:Nat):Ac→Bool
  | .tuple vs=>vs.all (Ac.Xn m)
  | v=>v.Xn m
def Nt (m:Nat) (fr:Fr):Bool:=fr.all fun p=>p.2.Qe m
def sJ (m:Nat):A2→Bool
  | .box cs=>cs.all (Ac.Qe m)
  | .mpo _ es=>es.all fun p=>p.2.Qe m
  | .lp _ _ fr _ _ _ _ _=>Nt m fr
  | _=>true
def jZ (m:Nat) (H:List A2):Bool:=H.all (sJ m)
theorem zE {m:Nat} {a:Ac} (h:a.Zz m=true):a.Qe m=true:=by
  cases a<;>simp_all [Ac.Zz,Ac.Yw,Ac.Xn,Ac.Qe]
theorem zC {m:Nat} {a:Ac} (h:a.Yw m=true):a.Qe m=true:=by
  cases a<;>simp_all [Ac.Zz,Ac.Yw,Ac.Xn,Ac.Qe]
theorem zD {m:Nat} {a:Ac} (h:a.Xn m=true):a.Qe m=true:=by
  cases a<;>simp_all [Ac.Zz,Ac.Yw,Ac.Xn,Ac.Qe]
theorem N2:∀ {H H':List A2},Yp H H'→∀ (r:Nat) o',H'[r]? =some o'→∃ o,H[r]? =some o∧P7 o o'
  | _,[],_,r,o',h=>by simp at h
  | o::H,o1::H',h,0,o',h'=>by simp at h';subst h';exact⟨o,rfl,h.1⟩
  | o::H,o1::H',h,r+1,o',h'=>by
    have:=N2 h.2 r o' (by simpa using h')
    simpa using this
  | [],_::_,h,_,_,_=>h.elim
theorem Y5 {o o':A2} (h:P7 o o'):o'≠.resv:=by
  rintro rfl
  cases o<;>simp[P7]at h
def Ctx.less (C:Ctx) (H':List A2):Ctx:=
  {C with ρ:=fun r=>match H'[r]? with | none=>none | some .gone=>none | _=>C.ρ r,H:=H'}
theorem Bk.less {C:Ctx} {w:World} {H':List A2} (hs:Yp C.H H') {v:Value} {a:Ac} (h:Bk C w v a) :
    (H'.length=C.H.length∨a.Qe H'.length=true)→Bk (C.less H') w v a:=by
  have known:∀ r,C.known r→(H'.length=C.H.length∨r<H'.length)→(C.less H').known r:=by
    intro r hr af
    have af:r<H'.length:=by
      rcases af with af | af
      ·rw[af];exact hr.lt
      ·exact af
    obtain⟨o,ho,hle⟩:=N2 hs r _ (Aks af)
    exact⟨_,Aks af,Y5 hle⟩
  have lt:∀ {r:Nat} {b:Bool},(H'.length=C.H.length∨b=true)→(b=true→r<H'.length)→(H'.length=C.H.length∨r<H'.length):=by
    intro r b h1 h2
    rcases h1 with h1 | h1
    ·exact .inl h1
    ·exact .inr (h2 h1)
  induction h with
  | any v=>exact fun _=>.any v
  | bool b=>exact fun _=>.bool b
  | int k n=>exact fun _=>.int k n
  | str s=>exact fun _=>.str s
  | agg arr cs h _ ih=>
    intro hb
    refine .agg arr cs h fun i u c a b=>ih i u c a b ?_
    rcases hb with hb | hb
    ·exact .inl hb
    ·simp only[Ac.Qe,Ac.Xn,List.all_eq_true]at hb
     exact .inr (zC (hb c (Akt b)))
  | tuple arr cs h _ ih=>
    intro hb
    refine .tuple arr cs h fun i u c a b=>ih i u c a b ?_
    rcases hb with hb | hb
    ·exact .inl hb
    ·simp only[Ac.Qe,List.all_eq_true]at hb
     exact .inr (zD (hb c (Akt b)))
  | nils=>exact fun _=>.nils
  | z0 a=>exact fun _=>.z0 a
  | sl0 a cap sz cd=>exact fun _=>.sl0 a cap sz cd
  | sl a len cap xs sz u cm hlen cw cd hA bl bu hg aq ay ih=>
    exact fun _=>.sl a len cap xs sz u cm hlen cw cd hA bl bu hg aq fun i k x c a b=>
      Bk.ground (C:=C) (C2:=C.less H') (fun b hb=>⟨hb,rfl⟩) (ay i k x c a b) (Ac.Ib (hg x (Akt a) c (Akt b)))
  | own a len cap r v lo hr cw cd hv=>
    intro hb
    refine .own a len cap r v lo (known r hr (lt hb fun h=>by simpa[Ac.Qe,Ac.Xn,Ac.Yw,Ac.Zz]using h)) cw cd fun v' sz xs h'=>?_
    obtain⟨o,ho,hle⟩:=N2 hs r _ h'
    cases o<;>simp only[P7]at hle
    obtain⟨rfl,rfl,rfl⟩:=hle
    have hρ:(C.less H').ρ r=C.ρ r:=by
      simp only[Ctx.less]at h' ⊢;rw[h']
    rw[hρ]
    exact hv _ _ _ ho
  | eptr a cs u cm hA hg aq ay ih=>
    exact fun _=>.eptr a cs u cm hA hg aq fun j c b=>Bk.ground (C:=C) (C2:=C.less H') (fun b hb=>⟨hb,rfl⟩) (ay j c b) (Ac.Ib (hg c (Akt b)))
  | ptr a r k hr h=>
    intro hb
    refine .ptr a r k (known r hr (lt hb fun h=>by simpa[Ac.Qe,Ac.Xn,Ac.Yw,Ac.Zz]using h)) fun cs h'=>?_
    obtain⟨o,ho,hle⟩:=N2 hs r _ h'
    cases o<;>simp only[P7]at hle
    have hρ:(C.less H').ρ r=C.ρ r:=by
      simp only[Ctx.less]at h' ⊢;rw[h']
    rw[hρ]
    exact h _ ho
  | rptr a r v i k hr h=>
    intro hb
    refine .rptr a r v i k (known r hr (lt hb fun h=>by simpa[Ac.Qe,Ac.Xn,Ac.Yw,Ac.Zz]using h)) fun v' sz xs h'=>?_
    obtain⟨o,ho,hle⟩:=N2 hs r _ h'
    cases o<;>simp only[P7]at hle
    obtain⟨rfl,rfl,rfl⟩:=hle
    have hρ:(C.less H').ρ r=C.ρ r:=by
      simp only[Ctx.less]at h' ⊢;rw[h']
    rw[hρ]
    exact h _ _ _ ho
  | nilm=>exact fun _=>.nilm
  | map b r hr h=>
    intro hb
    refine .map b r (known r hr (lt hb fun h=>by simpa[Ac.Qe,Ac.Xn,Ac.Yw,Ac.Zz]using h)) fun o' h' hl=>?_
    obtain⟨o,ho,hle⟩:=N2 hs r _ h'
    have hρ:(C.less H').ρ r=C.ρ r:=by
      cases o'<;>first | (cases hl;done) | (simp only[Ctx.less]at h' ⊢;rw[h'])
    rw[hρ]
    exact h _ ho (by cases o'<;>first | (cases hl;done) | (cases o<;>first | rfl | exact hle.elim))
  | vmap0=>exact fun _=>.vmap0
  | vmap b es entries clock hA hg hh cj ay ih=>
    exact fun _=>.vmap b es entries clock hA hg hh cj fun i e p a b=>Bk.ground (C:=C) (C2:=C.less H') (fun b hb=>⟨hb,rfl⟩) (ay i e p a b) (Ac.Jt (hg p (Akt b)))
  | func f arr cs h _ ih=>
    intro hb
    refine .func f arr cs h fun i u c a b=>ih i u c a b ?_
    rcases hb with hb | hb
    ·exact .inl hb
    ·simp only[Ac.Qe,Ac.Xn,Ac.Yw,List.all_eq_true]at hb
     exact .inr (zE (hb c (Akt b)))
  | iter a r hr cm h=>
    intro hb
    refine .iter a r (known r hr (lt hb fun h=>by simpa[Ac.Qe,Ac.Xn,Ac.Yw,Ac.Zz]using h)) cm fun left cur h'=>?_
    obtain⟨o,ho,hle⟩:=N2 hs r _ h'
    cases o<;>simp only[P7]at hle
    have hρ:(C.less H').ρ r=C.ρ r:=by
      simp only[Ctx.less]at h' ⊢;rw[h']
    rw[hρ]
    exact h _ _ ho
  | yld b r hr h=>
    intro hb
    refine .yld b r (known r hr (lt hb fun h=>by simpa[Ac.Qe,Ac.Xn,Ac.Yw,Ac.Zz]using h)) fun o' h' hl=>?_
    obtain⟨o,ho,hle⟩:=N2 hs r _ h'
    cases o'<;>first | (cases hl;done) | skip
    cases o<;>simp only[P7]at hle
    have hρ:(C.less H').ρ r=C.ρ r:=by
      simp only[Ctx.less]at h' ⊢;rw[h']
    rw[hρ]
    exact h _ ho rfl
theorem Aa0 {m:Nat} {f:Fr} (h:Nt m f=true) (t:Nat):(get f t).Qe m=true:=by
  induction f with
  | nil=>rfl
  | cons p f ih=>
    obtain⟨j,v⟩:=p
    simp only[Nt,List.all_cons,Bool.and_eq_true]at h
    simp only[get]
    split
    ·exact h.1
    ·exact ih h.2
theorem eL:∀ {cs cs':List Ac},aZ cs cs'→cs.length=cs'.length∧∀ (i:Nat) c',cs'[i]? =some c'→∃ c,cs[i]? =some c∧vle c c'
  | [],[],_=>⟨rfl,by simp⟩
  | c::r,c1::r',h=>by
    have ih:=eL h.2
    refine⟨by simp[ih.1],fun i c' hi=>?_⟩
    match i,hi with
    | 0,hi=>simp at hi;subst hi;exact⟨c,rfl,h.1⟩
    | i+1,hi=>simpa using ih.2 i c' (by simpa using hi)
  | [],_::_,h=>h.elim
  | _::_,[],h=>h.elim
theorem tE {C:Ctx} {w:World} {v:Value} {a a':Ac} (hl:vle a a') (h:Bk C w v a):Bk C w v a':=by
  unfold vle at hl
  split at hl
  ·exact .any v
  ·rcases hl with hl | ⟨rfl,rfl⟩
   ·subst hl;exact h
   ·cases h;exact .sl0 _ _ _ (Nat.zero_le _)
  ·subst hl;exact h
theorem Sub.weak {outer:List Fr} {fr fr':Fr} {H H':List A2} (hH:Yp H H') (hF:fX fr fr')
    (hb:H'.length=H.length∨(Nt H'.length fr'=true∧jZ H'.length H'=true∧outer.all (Nt H'.length)=true)):Sub outer fr H fr' H':=by
  intro W0 A0 ds n outs a w R
  obtain⟨C,rfl,rfl,I,wy,hO,hn,hd⟩:=R.ex
  have gr:∀ {v:Value} {x:Ac},Bk C w v x→x.g2=true→Bk (C.less H') w v x:=fun h hg=>Bk.ground (C:=C) (C2:=C.less H') (fun b hb=>⟨hb,rfl⟩) h hg
  refine⟨C.less H',rfl,rfl,⟨I.below,I.sub,I.old,fun r l hl=>?_,fun r r' l l' h1 h2 e=>?_,fun r o' fc=>?_⟩,fun t=>?_,⟨hO.1,fun i t f h1 h2 k=>?_⟩,hn,hd⟩
  ·simp only[Ctx.less]at hl ⊢
   split at hl
   ·cases hl
   ·cases hl
   ·rename_i h1 h2
    have af:r<H'.length:=by
      rcases Nat.lt_or_ge r H'.length with h | h
      ·exact h
      ·exact absurd (List.getElem?_eq_none h) h1
    have:=I.sep r l hl
    exact⟨af,this.2⟩
  ·have g:∀ {r l},(C.less H').ρ r=some l→C.ρ r=some l:=by
     intro r l h
     simp only[Ctx.less]at h
     split at h
     ·cases h
     ·cases h
     ·exact h
   exact I.inj _ _ _ _ (g h1) (g h2) e
  ·obtain⟨o,ho,hle⟩:=N2 hH r o' fc
   have hR:=I.objs r o ho
   simp only[Ctx.less]at fc
   cases o' with
   | resv=>exact absurd rfl (Y5 hle)
   | gone=>show (C.less H').ρ r=none;simp only[Ctx.less,fc]
   | box cs'=>
     have hρ:(C.less H').ρ r=C.ρ r:=by simp only[Ctx.less,fc]
     cases o<;>simp only[P7]at hle
     rename_i cs
     obtain⟨l,arr,T,e1,e2,e3,e4⟩:=hR
     have hc:=eL hle
     refine⟨l,arr,T,by rw[hρ];exact e1,e2,by rw[e3,hc.1],fun i u c' h1 h2=>?_⟩
     obtain⟨c,h3,h4⟩:=hc.2 i c' h2
     refine(tE h4 (e4 i u c h1 h3)).less hH ?_
     rcases hb with hb | ⟨_,hb,_⟩
     ·exact .inl hb
     ·have:=List.all_eq_true.1 hb _ (Akt fc)
      exact .inr (List.all_eq_true.1 this c' (Akt h2))
   | row v' sz' xs'=>
     have hρ:(C.less H').ρ r=C.ρ r:=by simp only[Ctx.less,fc]
     cases o<;>simp only[P7]at hle
     obtain⟨rfl,rfl,rfl⟩:=hle
     obtain⟨e1,e2,e3,e4⟩:=hR
     refine⟨e1,e2,e3,?_⟩
     rcases e4 with⟨e4,e5⟩ | ⟨l,arr,T,e4,e5,e6,e7,e8⟩
     ·exact .inl ⟨e4,by rw[hρ];exact e5⟩
     ·refine .inr ⟨l,arr,T,by rw[hρ];exact e4,e5,e6,e7,fun i k x c h1 h2=>?_⟩
      obtain⟨u,hu,di⟩:=e8 i k x c h1 h2
      exact⟨u,hu,gr di (Ac.Ib (e3 x (Akt h1) c (Akt h2)))⟩
   | mp es'=>
     have hρ:(C.less H').ρ r=C.ρ r:=by simp only[Ctx.less,fc]
     cases o<;>simp only[P7]at hle
     subst hle
     obtain⟨l,en,cl,e1,e2,e3,e4,e5⟩:=hR
     exact⟨l,en,cl,by rw[hρ];exact e1,e2,e3,e4,fun i e p h1 h2=>gr (e5 i e p h1 h2) (Ac.Jt (e4 p (Akt h2)))⟩
   | mpo q' es'=>
     have hρ:(C.less H').ρ r=C.ρ r:=by simp only[Ctx.less,fc]
     have hbv:∀ p∈es',H'.length=C.H.length∨p.2.Qe H'.length=true:=fun p hp=>by
       rcases hb with hb | ⟨_,hb,_⟩
       ·exact .inl hb
       ·exact .inr (List.all_eq_true.1 (List.all_eq_true.1 hb _ (Akt fc)) p hp)
     have key:∃ l en cl,C.ρ r=some l∧w.heap[l.b]? =some (.map en cl)∧Qg q' en cl es'∧∀ (i:Nat) (e:MapEntry) (p:Int×Ac),en[i]? =some e→es'[i]? =some p→Bk C w e.val p.2:=by
       cases o<;>simp only[P7]at hle
       ·obtain⟨rfl,rfl⟩:=hle;obtain⟨l,en,cl,e1,e2,e3,e4,e5⟩:=hR;exact⟨l,en,cl,e1,e2,e3,e5⟩
       ·obtain⟨rfl,rfl⟩:=hle;exact hR
     obtain⟨l,en,cl,e1,e2,e3,e5⟩:=key
     exact⟨l,en,cl,by rw[hρ];exact e1,e2,e3,fun i e p h1 h2=>(e5 i e p h1 h2).less hH (hbv p (Akt h2))⟩
   | it l' c'=>
     have hρ:(C.less H').ρ r=C.ρ r:=by simp only[Ctx.less,fc]
     cases o<;>simp only[P7]at hle
     obtain⟨rfl,rfl⟩:=hle
     obtain⟨l,e1,e2⟩:=hR
     refine⟨l,by rw[hρ];exact e1,?_⟩
     rcases e2 with e2 | ⟨bm,seen,en,cl,e2,e3,e4,e5,e6,e7,e8⟩
     ·exact .inl e2
     ·refine .inr ⟨bm,seen,en,cl,e2,e3,e4,e5,e6,⟨e7.1,fun i e p h1 h2=>?_⟩,fun p hp=>?_⟩
      ·have:=e7.2 i e p h1 h2
       exact⟨this.1,this.2.1,gr this.2.2 (Ac.Jt this.2.1)⟩
      ·obtain⟨e,g1,g2,g3,g4,g5⟩:=e8 p hp
       exact⟨e,g1,g2,g3,g4,gr g5 (Ac.Jt g4)⟩
   | lp D' n' f' ps' a' b' s' p'=>
     have hρ:(C.less H').ρ r=C.ρ r:=by simp only[Ctx.less,fc]
     cases o<;>simp only[P7]at hle
     obtain⟨rfl,rfl,rfl,rfl,rfl,rfl,rfl,rfl⟩:=hle
     obtain⟨l,rec,h1,h0,h2,h3,h4,h5,h6,h7,h8,h9,ob,sx,qu⟩:=hR
     refine⟨l,rec,by rw[hρ];exact h1,h0,h2,h3,h4,h5,h6,h7,h8,h9,fun t=>(ob t).less hH ?_,sx,qu⟩
     rcases hb with hb | ⟨_,hb,_⟩
     ·exact .inl hb
     ·exact .inr (Aa0 (List.all_eq_true.1 hb _ (Akt fc)) t)
  ·have ee:H'.length=C.H.length∨Nt H'.length fr'=true:=by
     rcases hb with hb | hb
     ·exact .inl hb
     ·exact .inr hb.1
   clear hb
   induction fr' with
   | nil=>exact .any _
   | cons p fr' ih=>
     obtain⟨k,v⟩:=p
     obtain⟨h1,h2⟩:=hF
     simp only[get]
     split
     ·rename_i e
      subst e
      refine(tE h1 (wy k)).less hH ?_
      rcases ee with ee | ee
      ·exact .inl ee
      ·simp only[Nt,List.all_cons,Bool.and_eq_true]at ee
       exact .inr ee.1
     ·refine ih h2 ?_
      rcases ee with ee | ee
      ·exact .inl ee
      ·simp only[Nt,List.all_cons,Bool.and_eq_true]at ee
       exact .inr ee.2
  ·have hv:=hO.2 i t f h1 h2 k
   refine hv.less hH ?_
   rcases hb with hb | ⟨_,_,hb⟩
   ·exact .inl hb
   ·have:=List.all_eq_true.1 hb f (Akt h2)
    refine .inr ?_
    clear hv h1 h2
    induction f with
    | nil=>rfl
    | cons p f ih=>
      obtain⟨j,v⟩:=p
      simp only[Nt,List.all_cons,Bool.and_eq_true]at this
      simp only[get]
      split
      ·exact this.1
      ·exact ih this.2
theorem Sub.ghost {outer:List Fr} {fr:Fr} {H:List A2} (k sz:Nat) (hk:get fr k= .nils) (bu:1≤sz):Sub outer fr H ((k,.own H.length 0 0 0)::fr) (H++[.row 0 sz []]):=by
  intro W0 A0 ds n outs a w R
  obtain⟨C,rfl,rfl,I,hF,hO,hn,hd⟩:=R.ex
  have bj:Oz C.H C.H.length:=.inl rfl
  have key:=I.ghost _ bj (.row 0 sz []) (fun _=>⟨bu,by simp,by simp,.inl ⟨rfl,I.tP bj⟩⟩)
  have hH:(C.ghost C.H.length (.row 0 sz [])).H=C.H++[.row 0 sz []]:=by simp[Ctx.ghost,Ha]
  refine⟨_,hH,rfl,key.1,fun t=>?_,hO.mono key.2,hn,hd⟩
  simp only[get]
  split
  ·rename_i e
   subst e
   have hv:=hF k
   rw[hk]at hv
   cases ka:a.tmps.getD k undef<;>rw[ka]at hv<;>cases hv
   refine .own _ _ _ _ _ _ ⟨_,Gi bj,by simp⟩ (Nat.le_refl _) (Nat.zero_le _) fun v' sz' xs' h'=>?_
   simp only[Ctx.ghost]at h'
   rw[Gi bj,Akv,A2.row.injEq]at h'
   obtain⟨rfl,rfl,rfl⟩:=h'
   exact⟨Nat.le_refl _,fun _=>⟨by simp,.inl rfl⟩⟩
  ·exact(hF t).mono key.2
mutual
def ren (π:Nat→Nat):Ac→Ac
  | .agg cs=>.agg (rens π cs)
  | .tuple cs=>.tuple (rens π cs)
  | .own r v lo len=>.own (π r) v lo len
  | .ptr r k=>.ptr (π r) k
  | .rptr r v i k=>.rptr (π r) v i k
  | .map r=>.map (π r)
  | .iter r=>.iter (π r)
  | .yld r=>.yld (π r)
  | .func f cs=>.func f (rens π cs)
  | .any=>.any
  | .bool b=>.bool b
  | .int k n=>.int k n
  | .str s=>.str s
  | .nils=>.nils
  | .z0=>.z0
  | .sl sz xs=>.sl sz xs
  | .eptr cs=>.eptr cs
  | .nilm=>.nilm
  | .vmap es=>.vmap es
def rens (π:Nat→Nat):List Ac→List Ac
  | []=>[]
  | c::r=>ren π c::rens π r
end
def Ud (π:Nat→Nat):List (Int×Ac)→List (Int×Ac)
  | []=>[]
  | (k,a)::r=>(k,ren π a)::Ud π r
def eD (π:Nat→Nat):Fr→Fr
  | []=>[]
  | (k,a)::fr=>(k,ren π a)::eD π fr
def eY (π:Nat→Nat):A2→A2
  | .box cs=>.box (rens π cs)
  | .row v sz xs=>.row v sz xs
  | .mp es=>.mp es
  | .mpo q es=>.mpo q (Ud π es)
  | .it l c=>.it l c
  | .lp D n fr ps a b s p=>.lp D n (eD π fr) ps a b s p
  | .gone=>.gone
  | .resv=>.resv
def bT (π:Nat→Nat):List Fr→List Fr
  | []=>[]
  | f::l=>eD π f::bT π l
def V7 (π:Nat→Nat):List A2→List A2
  | []=>[]
  | o::H=>eY π o::V7 π H
theorem Wn (π:Nat→Nat):∀ l:List Ac,(rens π l).length=l.length
  | []=>rfl
  | c::r=>by simp[rens,Wn π r]
theorem nR (π:Nat→Nat):∀ (l:List Ac) (i:Nat),(rens π l)[i]? =(l[i]?).map (ren π)
  | [],i=>by simp[rens]
  | c::r,0=>by simp[rens]
  | c::r,i+1=>by simp[rens,nR π r i]
theorem X7 {π:Nat→Nat} {l:List Ac} {i:Nat} {c:Ac} (h:(rens π l)[i]? =some c):∃ c0,l[i]? =some c0∧c=ren π c0:=by
  rw[nR]at h
  cases hc:l[i]? with
  | none=>rw[hc]at h;cases h
  | some c0=>rw[hc]at h;exact⟨c0,rfl,(Ak0 h).symm⟩
theorem nV (π:Nat→Nat):∀ (l:List (Int×Ac)) (i:Nat),(Ud π l)[i]? =(l[i]?).map fun p=>(p.1,ren π p.2)
  | [],i=>by simp[Ud]
  | (k,a)::r,0=>by simp[Ud]
  | (k,a)::r,i+1=>by simp[Ud,nV π r i]
theorem kH {π:Nat→Nat} {l:List (Int×Ac)} {i:Nat} {p:Int×Ac} (h:(Ud π l)[i]? =some p):∃ p0,l[i]? =some p0∧p=(p0.1,ren π p0.2):=by
  rw[nV]at h
  cases hc:l[i]? with
  | none=>rw[hc]at h;cases h
  | some c0=>rw[hc]at h;exact⟨c0,rfl,(Ak0 h).symm⟩
theorem kI (π:Nat→Nat):∀ l:List (Int×Ac),(Ud π l).map (·.1)=l.map (·.1)
  | []=>rfl
  | (k,a)::r=>by simp[Ud,kI π r]
theorem nU (π:Nat→Nat):∀ l:List (Int×Ac),(Ud π l).length=l.length
  | []=>rfl
  | (k,a)::r=>by simp[Ud,nU π r]
theorem Qg.ren {q:Bool} {π:Nat→Nat} {en:Array MapEntry} {cl:Nat} {es:List (Int×Ac)} (h:Qg q en cl es):Qg q en cl (Ud π es):=
  ⟨by rw[nU];exact h.size,fun i e p a b=>by
    obtain⟨p0,h1,rfl⟩:=kH b
    exact h.keys i e p0 a h1,by rw[kI];exact h.nodup,h.born,h.bnodup⟩
theorem aD (π:Nat→Nat):∀ (l:List A2) (i:Nat),(V7 π l)[i]? =(l[i]?).map (eY π)
  | [],i=>by simp[V7]
  | c::r,0=>by simp[V7]
  | c::r,i+1=>by simp[V7,aD π r i]
theorem Wo (π:Nat→Nat):∀ l:List A2,(V7 π l).length=l.length
  | []=>rfl
  | c::r=>by simp[V7,Wo π r]
theorem Yc (π:Nat→Nat):∀ (fr:Fr) (t:Nat),get (eD π fr) t=ren π (get fr t)
  | [],t=>rfl
  | (k,a)::fr,t=>by
    have ih:=Yc π fr t
    simp only[eD,get]at ih ⊢
    split
    ·rfl
    ·exact ih
theorem uY {π:Nat→Nat} {o:A2} (h:eY π o= .resv):o= .resv:=by cases o<;>first | rfl | cases h
structure Na (π:Nat→Nat) (C C':Ctx) (w w':World):Prop where
  imm:∀ b,C.A b→C'.A b∧w'.heap[b]? =w.heap[b]?
  obj:∀ (r:Nat) o,C.H[r]? =some o→C'.H[π r]? =some (eY π o)∧C'.ρ (π r)=C.ρ r
theorem Na.known {π:Nat→Nat} {C C':Ctx} {w w':World} (m:Na π C C' w w') {r:Nat} (h:C.known r):C'.known (π r):=by
  obtain⟨o,ho,bc⟩:=h
  exact⟨_,(m.obj r o ho).1,fun e=>bc (uY e)⟩
theorem Na.back {π:Nat→Nat} {C C':Ctx} {w w':World} (m:Na π C C' w w') {r:Nat} (h:C.known r) {o':A2} (fc:C'.H[π r]? =some o'):∃ o,C.H[r]? =some o∧o'=eY π o∧C'.ρ (π r)=C.ρ r:=by
  obtain⟨o,ho,_⟩:=h
  have:=m.obj r o ho
  rw[this.1]at fc
  exact⟨o,ho,(Ak0 fc).symm,this.2⟩
theorem Bk.ren {π:Nat→Nat} {C C':Ctx} {w w':World} (m:Na π C C' w w') {v:Value} {a:Ac} (h:Bk C w v a):Bk C' w' v (ren π a):=by
  have gr:∀ {v a},Bk C w v a→a.g2=true→Bk C' w' v a:=fun h hg=>Bk.ground m.imm h hg
  induction h with
  | any v=>exact .any v
  | bool b=>exact .bool b
  | int k n=>exact .int k n
  | str s=>exact .str s
  | agg arr cs h _ ih=>
    refine .agg arr _ (by rw[Wn,h]) fun i u c a b=>?_
    obtain⟨c0,h1,rfl⟩:=X7 b
    exact ih i u c0 a h1
  | tuple arr cs h _ ih=>
    refine .tuple arr _ (by rw[Wn,h]) fun i u c a b=>?_
    obtain⟨c0,h1,rfl⟩:=X7 b
    exact ih i u c0 a h1
  | nils=>exact .nils
  | z0 a=>exact .z0 a
  | sl0 a cap sz cd=>exact .sl0 a cap sz cd
  | sl a len cap xs sz u cm hlen cw cd hA bl bu hg aq ay ih=>
    refine .sl a len cap xs sz u cm hlen cw cd (m.imm _ hA).1 bl bu hg (fun j hj=>?_) fun i k x c h1 h2=>gr (ay i k x c h1 h2) (Ac.Ib (hg x (Akt h1) c (Akt h2)))
    rw[Hl (w:=w)];exact aq j hj
    exact(m.imm _ hA).2
  | own a len cap r v lo hr cw cd hv=>
    refine .own a len cap (π r) v lo (m.known hr) cw cd fun v' sz xs h'=>?_
    obtain⟨o,h1,h2,h3⟩:=m.back hr h'
    cases o<;>cases h2
    rw[h3];exact hv _ _ _ h1
  | eptr a cs u cm hA hg aq ay ih=>
    refine .eptr a cs u cm (m.imm _ hA).1 hg (fun j hj=>?_) fun j c b=>gr (ay j c b) (Ac.Ib (hg c (Akt b)))
    rw[Hl (w:=w)];exact aq j hj
    exact(m.imm _ hA).2
  | ptr a r k hr h=>
    refine .ptr a (π r) k (m.known hr) fun cs h'=>?_
    obtain⟨o,h1,h2,h3⟩:=m.back hr h'
    cases o<;>cases h2
    rw[h3];exact h _ h1
  | rptr a r v i k hr h=>
    refine .rptr a (π r) v i k (m.known hr) fun v' sz xs h'=>?_
    obtain⟨o,h1,h2,h3⟩:=m.back hr h'
    cases o<;>cases h2
    rw[h3];exact h _ _ _ h1
  | nilm=>exact .nilm
  | map b r hr h=>
    refine .map b (π r) (m.known hr) fun o' h' hl=>?_
    obtain⟨o,h1,h2,h3⟩:=m.back hr h'
    rw[h3];exact h _ h1 (by subst h2;cases o<;>first | rfl | exact hl)
  | vmap0=>exact .vmap0
  | vmap b es entries clock hA hg hh cj ay ih=>
    exact .vmap b es entries clock (m.imm _ hA).1 hg (by rw[(m.imm _ hA).2];exact hh) cj fun i e p a b=>gr (ay i e p a b) (Ac.Jt (hg p (Akt b)))
  | func f arr cs h _ ih=>
    refine .func f arr _ (by rw[Wn,h]) fun i u c a b=>?_
    obtain⟨c0,h1,rfl⟩:=X7 b
    exact ih i u c0 a h1
  | iter a r hr cm h=>
    refine .iter a (π r) (m.known hr) cm fun l c h'=>?_
    obtain⟨o,h1,h2,h3⟩:=m.back hr h'
    cases o<;>cases h2
    rw[h3];exact h _ _ h1
  | yld b r hr h=>
    refine .yld b (π r) (m.known hr) fun o' h' hl=>?_
    obtain⟨o,h1,h2,h3⟩:=m.back hr h'
    cases o'<;>first | (cases hl;done) | skip
    cases o<;>cases h2
    rw[h3];exact h _ h1 rfl
theorem Wf.ren {π:Nat→Nat} {C C':Ctx} {w w':World} (m:Na π C C' w w') {r:Nat} {o:A2} (hr:C.H[r]? =some o) (hh:∀ l,C.ρ r=some l→w'.heap[l.b]? =w.heap[l.b]?) (h:Wf C w r o):Wf C' w' (π r) (eY π o):=by
  have hρ:=(m.obj r o hr).2
  have gr:∀ {v a},Bk C w v a→a.g2=true→Bk C' w' v a:=fun h hg=>Bk.ground m.imm h hg
  cases o with
  | box cs=>
    obtain⟨l,arr,T,h1,h2,h3,h4⟩:=h
    refine⟨l,arr,T,by rw[hρ];exact h1,by rw[hh l h1];exact h2,by rw[Wn,h3],fun i u c a b=>?_⟩
    obtain⟨c0,e1,rfl⟩:=X7 b
    exact(h4 i u c0 a e1).ren m
  | row v sz xs=>
    obtain⟨h0,xv,sy,h⟩:=h
    refine⟨h0,xv,sy,?_⟩
    rcases h with⟨h1,h2⟩ | ⟨l,arr,T,h1,h2,h3,h4,h5⟩
    ·exact .inl ⟨h1,by rw[hρ];exact h2⟩
    ·refine .inr ⟨l,arr,T,by rw[hρ];exact h1,by rw[hh l h1];exact h2,h3,h4,fun i k x c a b=>?_⟩
     obtain⟨u,hu,hr⟩:=h5 i k x c a b
     exact⟨u,hu,gr hr (Ac.Ib (sy x (Akt a) c (Akt b)))⟩
  | mp es=>
    obtain⟨l,en,cl,h1,h2,h3,hg,h4⟩:=h
    exact⟨l,en,cl,by rw[hρ];exact h1,by rw[hh l h1];exact h2,h3,hg,fun i e p a b=>gr (h4 i e p a b) (Ac.Jt (hg p (Akt b)))⟩
  | mpo q es=>
    obtain⟨l,en,cl,h1,h2,h3,h4⟩:=h
    refine⟨l,en,cl,by rw[hρ];exact h1,by rw[hh l h1];exact h2,h3.ren,fun i e p a b=>?_⟩
    obtain⟨p0,e1,rfl⟩:=kH b
    exact(h4 i e p0 a e1).ren m
  | it left cur=>
    obtain⟨l,h1,h⟩:=h
    refine⟨l,by rw[hρ];exact h1,?_⟩
    rcases h with⟨h2,xb,s,n,k,h3⟩ | ⟨bm,seen,en,clock,h2,h3,h4,h5,h6,h7,h8⟩
    ·exact .inl ⟨h2,xb,s,n,k,by rw[hh l h1];exact h3⟩
    ·refine .inr ⟨bm,seen,en,clock,by rw[hh l h1];exact h2,(m.imm _ h3).1,by rw[(m.imm _ h3).2];exact h4,h5,h6,
       ⟨h7.1,fun i e p a b=>⟨(h7.2 i e p a b).1,(h7.2 i e p a b).2.1,gr (h7.2 i e p a b).2.2 (Ac.Jt (h7.2 i e p a b).2.1)⟩⟩,fun p hp=>?_⟩
     obtain⟨e,g1,g2,g3,g4,g5⟩:=h8 p hp
     exact⟨e,g1,g2,g3,g4,gr g5 (Ac.Jt g4)⟩
  | lp D n fr ps asg body st p=>
    obtain⟨l,rec,h1,h0,h2,h3,h4,h5,h6,h7,h8,h9,ob,sx,qu⟩:=h
    exact⟨l,rec,by rw[hρ];exact h1,h0,by rw[hh l h1];exact h2,h3,h4,h5,h6,h7,h8,h9,fun t=>by rw[Yc];exact(ob t).ren m,(m.imm _ sx).1,by rw[(m.imm _ sx).2];exact qu⟩
  | gone=>show C'.ρ (π r)=none;rw[hρ];exact h
  | resv=>show C'.ρ (π r)=none;rw[hρ];exact h
def swp (i j r:Nat):Nat:=if r=i then j else if r=j then i else r
theorem aA (i j r:Nat):swp i j (swp i j r)=r:=by
  unfold swp;repeat' split
  all_goals omega
def Wi (i j:Nat) (oi oj:A2) (H:List A2):List A2:=((V7 (swp i j) H).set i (eY (swp i j) oj)).set j (eY (swp i j) oi)
theorem j9 {i j:Nat} {oi oj:A2} {H:List A2} (hi:H[i]? =some oi) (hj:H[j]? =some oj) (r:Nat):(Wi i j oi oj H)[swp i j r]? =(H[r]?).map (eY (swp i j)):=by
  have h1:=(Ak1.1 hi).1
  have h2:=(Ak1.1 hj).1
  unfold Wi
  by_cases e1:r=i
  ·subst e1
   rw[show swp r j r=j by simp[swp],List.getElem?_set_self (by simpa[Wo]using h2),hi];rfl
  by_cases e2:r=j
  ·subst e2
   rw[show swp i r r=i by unfold swp;rw[if_neg e1,if_pos rfl],List.getElem?_set_ne (fun h=>e1 h),List.getElem?_set_self (by simpa[Wo]using h1),hj];rfl
  ·rw[show swp i j r=r by unfold swp;rw[if_neg e1,if_neg e2],List.getElem?_set_ne (fun h=>e2 h.symm),List.getElem?_set_ne (fun h=>e1 h.symm),aD]
theorem uS {i j:Nat} {oi oj:A2} {H:List A2}:(Wi i j oi oj H).length=H.length:=by simp[Wi,Wo]
def Ctx.swap (C:Ctx) (i j:Nat) (oi oj:A2):Ctx:={C with ρ:=fun r=>C.ρ (swp i j r),H:=Wi i j oi oj C.H}
theorem Inv.swap {W0:World} {C:Ctx} {w:World} (I:Inv W0 C w) {i j:Nat} {oi oj:A2} (hi:C.H[i]? =some oi) (hj:C.H[j]? =some oj):Inv W0 (C.swap i j oi oj) w∧Na (swp i j) C (C.swap i j oi oj) w w:=by
  have m:Na (swp i j) C (C.swap i j oi oj) w w:=by
    refine⟨fun b hb=>⟨hb,rfl⟩,fun r o ho=>⟨?_,?_⟩⟩
    ·show(Wi i j oi oj C.H)[swp i j r]? =_
     rw[j9 hi hj,ho];rfl
    ·show C.ρ (swp i j (swp i j r))=_
     rw[aA]
  refine⟨⟨I.below,I.sub,I.old,fun r l h=>?_,fun r r' l l' h h' e=>?_,fun r o h=>?_⟩,m⟩
  ·have h1:=(Ak1.1 hi).1
   have h2:=(Ak1.1 hj).1
   have:=I.sep _ _ h
   refine⟨?_,this.2⟩
   show r<(Wi i j oi oj C.H).length
   rw[uS]
   have h3:=this.1
   unfold swp at h3
   split at h3
   ·omega
   ·split at h3<;>omega
  ·have:=I.inj _ _ _ _ h h' e
   have:=congrArg (swp i j) this
   rwa [aA,aA]at this
  ·have h':(Wi i j oi oj C.H)[swp i j (swp i j r)]? =some o:=by rw[aA];exact h
   rw[j9 hi hj]at h'
   cases ho:C.H[swp i j r]? with
   | none=>rw[ho]at h';cases h'
   | some o0=>
     rw[ho]at h'
     obtain rfl:=Ak0 h'
     have:=(I.objs _ _ ho).ren m ho (fun _ _=>rfl)
     rwa [aA]at this
theorem Sub.swap {outer:List Fr} {fr:Fr} {H:List A2} (i j:Nat) {oi oj:A2} (hi:H[i]? =some oi) (hj:H[j]? =some oj) (ho:bT (swp i j) outer=outer):Sub outer fr H (eD (swp i j) fr) (Wi i j oi oj H):=by
  intro W0 A0 ds n outs a w R
  obtain⟨C,rfl,rfl,I,hF,hO,hn,hd⟩:=R.ex
  have key:=I.swap hi hj
  have hren:∀ (outer:List Fr) (i':Nat) f,outer[i']? =some f→(bT (swp i j) outer)[i']? =some (eD (swp i j) f):=by
    intro outer
    induction outer with
    | nil=>simp
    | cons g l ih=>
      intro i' f h
      match i',h with
      | 0,h=>simp at h;subst h;simp[bT]
      | i'+1,h=>simpa[bT]using ih i' f (by simpa using h)
  refine⟨C.swap i j oi oj,rfl,rfl,key.1,fun t=>?_,⟨hO.1,fun i' t f h1 h2=>?_⟩,hn,hd⟩
  ·rw[Yc];exact(hF t).ren key.2
  ·have h3:=hren outer i' f h2
   rw[ho,h2]at h3
   have e:=Ak0 h3
   rw[e]
   intro t'
   rw[Yc]
   exact(hO.2 i' t f h1 h2 t').ren key.2
def Cv (P:Program) (f:FuncId) (args:List Ac) (R:Ac→List A2→Prop):Prop:=
  ∀ (A:Nat→Prop) (w:World) (vs:List Value),(∀ b,A b→b<w.heap.size)→Qf (Ctx.imm A) w vs args→
    Calls P f vs.toArray w fun e w'=>∃ v r C',e= .returned v∧R r C'.H∧C'.A0=A∧Inv w C' w'∧Bk C' w' v r
section
variable {P:Program}
theorem Cv.intro {f:FuncId} {fn:Func} {c:Code} {n:Nat} {args:List Ac} {R:Ac→List A2→Prop} (hf:P.funcs[f]? =some fn) (hb:fn.body=some c) (hn:fn.ntmps=n) (hlen:args.length≤n)
    (h:AWP none P n c (qret P fn R) [] (Sb args 0) []):Cv P f args R:=by
  intro A w vs hA eg
  refine calls_of_wp hf hb ?_
  have ej:(vs.toArray++Array.replicate (fn.ntmps - vs.toArray.size) undef).size=n:=by
    have:=eg.1
    simp only[Array.size_append,List.size_toArray,Array.size_replicate];omega
  have I0:Inv w (Ctx.imm A) w:=⟨.refl _ _,hA,fun b hb _=>hb,by simp[Ctx.imm],by simp[Ctx.imm],by simp[Ctx.imm]⟩
  refine wp_mono (wpIn_wide.1 <| h w A [] [] _ w ⟨Ctx.imm A,rfl,rfl,I0,Uq eg _,.nil,ej,rfl⟩) ?_
  intro e a' w' ⟨fr',H',hq,hR⟩
  obtain⟨C,rfl,fo,I,hF,_,_,hd⟩:=hR.ex
  have key:∀ (h:match Gz (aresult P fr' C.H) fn.results.toList with | some vs=>R (aret vs) C.H | none=>False),a'.defers=[]∧∃ v,(results fn a'.tmps).run P w'= .ok v w'∧
   ∃ v' r C',Ending.returned v= .returned v'∧R r C'.H∧C'.A0=A∧Inv w C' w'∧Bk C' w' v' r:=by
    intro h
    split at h
    ·rename_i rs py
     obtain⟨v,h1,h2⟩:=Px (P:=P) I hF py
     exact⟨hd,v,h1,v,_,C,rfl,h,fo,I,h2⟩
    ·exact h.elim
  cases e with
  | normal=>exact key hq
  | ret=>exact key hq
  | _=>exact hq.elim
theorem Cv.mono {f:FuncId} {args:List Ac} {R R':Ac→List A2→Prop} (h:Cv P f args R) (hR:∀ r H,R r H→R' r H):Cv P f args R':=by
  intro A w vs hA hv
  exact(h A w vs hA hv).mono fun e w' ⟨v,r,C',h1,h2,h3⟩=>⟨v,r,C',h1,hR _ _ h2,h3⟩
theorem Cv.pure {f:FuncId} {args:List Ac} {R:Ac→Prop} (h:Cv P f args (rfrz R)):Ad P f args R:=by
  intro A w vs hA hv
  refine(h A w vs hA hv).mono fun e w' ⟨v,r,C,he,hR,fo,I,hr⟩=>?_
  unfold rfrz at hR
  split at hR
  ·rename_i r' ff
   have h3:=Xb I hr ff
   refine⟨v,r',he,hR,h3.1,I.below,Bk.ground' (fun b hb=>?_) h3.2 h3.1⟩
   rcases hb with hb | hb
   ·by_cases af:b<w.heap.size
    ·exact .inl (fo ▸ I.old b hb af)
    ·exact .inr ⟨by omega,I.sub b hb⟩
   ·exact .inr hb
  ·exact hR.elim
theorem Cv.fresh {f:FuncId} {args:List Ac} {R:Ac→Prop} (h:Cv P f args (rfre R)):Bu P f args R:=by
  intro A w vs hA hv
  refine(h A w vs hA hv).mono fun e w' ⟨v,r,C,he,hR,fo,I,hr⟩=>?_
  unfold rfre at hR
  split at hR
  ·rename_i r' ff
   exact⟨v,r',he,hR.1,(Xb I hr ff).1,I.below,pI I hr ff hR.2⟩
  ·exact hR.elim
theorem Cv.weak {f:FuncId} {args:List Ac} {R R':Ac→List A2→Prop} (h:Cv P f args R) (hR:∀ r H,R r H→∃ H',Yp H H'∧r.Qe H'.length=true∧jZ H'.length H'=true∧R' r H'):Cv P f args R':=by
  intro A w vs hA hv
  refine(h A w vs hA hv).mono fun e w' ⟨v,r,C,he,hr,fo,I,ay⟩=>?_
  obtain⟨H',h1,h2,h3,h4⟩:=hR r _ hr
  have S:Gb w A [] 1 [] [] [(0,r)] C.H {tmps:=#[v],defers:=[]} w':=by
    refine⟨C,rfl,fo,I,fun t=>?_,.nil,rfl,rfl⟩
    cases t with
    | zero=>exact ay
    | succ t=>exact .any _
  have S':=Sub.weak (outer:=[]) (fr:=[(0,r)]) (fr':=[(0,r)]) h1 (show fX [(0,r)] [(0,r)] from⟨by unfold vle;simp only[get,if_true];split<;>simp,trivial⟩)
    (.inr ⟨by simp[Nt,h2],h3,rfl⟩) w A [] 1 [] _ w' S
  obtain⟨C',e1,e2,I',hF,_⟩:=S'.ex
  exact⟨v,r,C',he,e1 ▸ h4,e2,I',hF 0⟩
def Dj (P:Program) (f:FuncId) (args:List Ac) (sz:Nat) (xs:List (List Ac)):Prop:=Cv P f args fun q H=>q= .own 0 0 0 xs.length∧H=[.row 0 sz xs]
theorem Dj.of {f:FuncId} {args:List Ac} {sz:Nat} {xs:List (List Ac)} (h:Cv P f args fun q H=>∃ v,q= .own 0 v 0 xs.length∧H=[.row v sz xs]):Dj P f args sz xs:=by
  intro A w vs hA hv
  refine(h A w vs hA hv).mono fun e w' ⟨v,r,C,he,⟨ver,hr,hH⟩,fo,I,ay⟩=>?_
  subst hr
  have cr:C.H[0]? =some (.row ver sz xs):=by rw[hH];rfl
  have m:∀ b,C.A b→C.A b∧w'.heap[b]? =w'.heap[b]?:=fun b hb=>⟨hb,rfl⟩
  refine⟨v,.own 0 0 0 xs.length,{C with H:=[.row 0 sz xs]},he,⟨rfl,rfl⟩,fo,⟨I.below,I.sub,I.old,fun r l hl=>?_,I.inj,fun r o ho=>?_⟩,?_⟩
  ·have:=I.sep r l hl
   rw[hH]at this;exact this
  ·match r,ho with
   | 0,ho=>
     simp at ho;subst ho
     obtain⟨e1,e2,e3,e4⟩:=I.objs 0 _ cr
     refine⟨e1,e2,e3,?_⟩
     rcases e4 with⟨e4,e5⟩ | ⟨l,arr,T,e4,e5,e6,e7,e8⟩
     ·exact .inl ⟨e4,e5⟩
     ·refine .inr ⟨l,arr,T,e4,e5,e6,e7,fun i k x c h1 h2=>?_⟩
      obtain⟨u,hu,di⟩:=e8 i k x c h1 h2
      exact⟨u,hu,Bk.ground (C:=C) (C2:={C with H:=[.row 0 sz xs]}) m di (Ac.Ib (e3 x (Akt h1) c (Akt h2)))⟩
  ·cases ay with
   | own a _ cap _ _ _ hk cw cd hv=>
     refine .own a _ cap 0 0 0 ⟨_,rfl,by simp⟩ cw cd fun v' sz' xs' h'=>?_
     simp at h';obtain⟨rfl,rfl,rfl⟩:=h'
     obtain⟨_,hv⟩:=hv _ _ _ cr
     exact⟨Nat.le_refl _,fun _=>hv rfl⟩
def Ctx.join (C C':Ctx):Ctx:={A0:=C.A0,A:=fun b=>C.A b∨C'.A b,ρ:=fun r=>if r<C.H.length then C.ρ r else C'.ρ (r - C.H.length),H:=C.H++V7 (·+C.H.length) C'.H}
theorem Inv.join {W0:World} {C C':Ctx} {w w':World} (I:Inv W0 C w) (I':Inv w C' w') (fo:∀ b,C'.A0 b→C.A b):Inv W0 (C.join C') w'∧Fl C w (C.join C') w'∧Na (·+C.H.length) C' (C.join C') w' w':=by
  have af:∀ {r:Nat} {o:A2},C.H[r]? =some o→r<C.H.length:=fun h=>(Ak1.1 h).1
  have m:Fl C w (C.join C') w':=by
    refine⟨fun b hb=>⟨.inl hb,I'.below.block b (I.sub b hb)⟩,by simp[Ctx.join],rfl,fun r hr=>?_⟩
    exact .same hr (by simp only[Ctx.join];rw[List.getElem?_append_left hr.lt]) (by simp only[Ctx.join];rw[if_pos hr.lt])
  have mr:Na (·+C.H.length) C' (C.join C') w' w':=by
    refine⟨fun b hb=>⟨.inr hb,rfl⟩,fun r o ho=>⟨?_,?_⟩⟩
    ·simp only[Ctx.join]
     rw[List.getElem?_append_right (by omega),show r+C.H.length - C.H.length=r by omega,aD,ho];rfl
    ·simp only[Ctx.join]
     rw[if_neg (by omega),show r+C.H.length - C.H.length=r by omega]
  refine⟨⟨I.below.trans (I'.below.mono I.below.size),fun b hb=>?_,fun b hb mi=>?_,fun r l h=>?_,fun r r' l l' h h' e=>?_,fun r o h=>?_⟩,m,mr⟩
  ·rcases hb with hb | hb
   ·exact Nat.lt_of_lt_of_le (I.sub b hb) I'.below.size
   ·exact I'.sub b hb
  ·rcases hb with hb | hb
   ·exact I.old b hb mi
   ·have:=I.below.size
    exact I.old b (fo b (I'.old b hb (by omega))) mi
  ·simp only[Ctx.join]at h ⊢
   rw[Akw,Wo]
   split at h
   ·have:=I.sep r l h
    refine⟨by omega,this.2.1,Nat.lt_of_lt_of_le this.2.2.1 I'.below.size,fun hb=>?_⟩
    rcases hb with hb | hb
    ·exact this.2.2.2 hb
    ·exact this.2.2.2 (fo _ (I'.old _ hb this.2.2.1))
   ·have:=I'.sep _ l h
    have hs:=I.below.size
    refine⟨by omega,by omega,this.2.2.1,fun hb=>?_⟩
    rcases hb with hb | hb
    ·have:=I.sub _ hb;omega
    ·exact this.2.2.2 hb
  ·simp only[Ctx.join]at h h'
   split at h<;>split at h'
   ·exact I.inj _ _ _ _ h h' e
   ·have:=(I.sep _ _ h).2.2.1;have:=(I'.sep _ _ h').2.1;omega
   ·have:=(I.sep _ _ h').2.2.1;have:=(I'.sep _ _ h).2.1;omega
   ·have:=I'.inj _ _ _ _ h h' e;omega
  ·by_cases hr:r<C.H.length
   ·have h':=h
    simp only[Ctx.join]at h'
    rw[List.getElem?_append_left hr]at h'
    exact(I.objs r o h').mono m (by simp only[Ctx.join];rw[if_pos hr]) fun l hl=>I'.below.block _ (I.sep r l hl).2.2.1
   ·have h':=h
    simp only[Ctx.join]at h'
    rw[List.getElem?_append_right (by omega),aD]at h'
    cases ho:C'.H[r - C.H.length]? with
    | none=>rw[ho]at h';cases h'
    | some o0=>
      rw[ho]at h'
      obtain rfl:=Ak0 h'
      have:=(I'.objs _ _ ho).ren mr ho (fun _ _=>rfl)
      rwa [show r - C.H.length+C.H.length=r by omega]at this
theorem Al.own {f:FuncId} {args:List Ac} {st:List Fr} {H:List A2} {K:Ac→List A2→Prop} {R:Ac→List A2→Prop} (hc:∀ (args:Array Value) (w:World),(callFunc f args).run P w= .ok (.enter f args) w)
    (spec:Cv P f args R) (hg:args.all Ac.g2=true) (n:Nat) (hn:H.length=n) (h:∀ r H',R r H'→K (ren (·+n) r) (H++V7 (·+n) H')):Al P (.func f []) args st H K:=by
  subst hn
  intro W0 C w outs fv vs I hH hO hf hl hv
  subst hH
  cases hf with
  | func _ caps _ dx _=>
    have:caps=#[]:=Array.eq_empty_of_size_eq_zero (by simpa using dx)
    subst this
    refine .inl ⟨f,#[],rfl,hc,?_⟩
    have eg:Qf (Ctx.imm C.A) w vs args:=
      ⟨hl,fun i v a h1 h2=>Bk.ground' (C:=C) (C2:=Ctx.imm C.A) (fun b hb=>hb) (hv i v a h1 h2) (List.all_eq_true.1 hg a (Akt h2))⟩
    rw[show vs.toArray++#[]=vs.toArray by simp]
    refine(spec _ w vs I.sub eg).mono fun e w' ⟨v,r,C',he,hR,fo,I',hr⟩=>?_
    have key:=I.join I' (fun b hb=>fo ▸ hb)
    exact⟨v,_,C.join C',he,h r _ hR,rfl,hr.ren key.2.2,key.1,hO.mono key.2.1⟩
def Ctx.place (C C':Ctx) (id:Nat) (o:A2):Ctx:={A0:=C.A0,A:=fun b=>C.A b∨C'.A b,ρ:=fun r=>if r=id then C'.ρ 0 else C.ρ r,H:=Ha C.H id o}
theorem Inv.place {W0:World} {C C':Ctx} {w w':World} (I:Inv W0 C w) (I':Inv w C' w') (fo:∀ b,C'.A0 b→C.A b) {id:Nat} (bj:Oz C.H id) {v sz:Nat} {xs:List (List Ac)} (hH:C'.H=[.row v sz xs]) :
    Inv W0 (C.place C' id (.row v sz xs)) w'∧Fl C w (C.place C' id (.row v sz xs)) w'∧Na (fun _=>id) C' (C.place C' id (.row v sz xs)) w' w':=by
  have m:Fl C w (C.place C' id (.row v sz xs)) w':=by
    refine⟨fun b hb=>⟨.inl hb,I'.below.block b (I.sub b hb)⟩,Rj,rfl,fun r hr=>?_⟩
    have bc:r≠id:=fun e=>bj.unknown (e ▸ hr)
    exact .same hr (Nu bj bc) (by simp only[Ctx.place];rw[if_neg bc])
  have mr:Na (fun _=>id) C' (C.place C' id (.row v sz xs)) w' w':=by
    refine⟨fun b hb=>⟨.inr hb,rfl⟩,fun r o ho=>?_⟩
    rw[hH]at ho
    match r,ho with
    | 0,ho=>
      simp at ho;subst ho
      exact⟨Gi bj,by simp[Ctx.place]⟩
  have cr:C'.H[0]? =some (.row v sz xs):=by rw[hH];rfl
  refine⟨⟨I.below.trans (I'.below.mono I.below.size),fun b hb=>?_,fun b hb mi=>?_,fun r l h=>?_,fun r r' l l' h h' e=>?_,fun r o h=>?_⟩,m,mr⟩
  ·rcases hb with hb | hb
   ·exact Nat.lt_of_lt_of_le (I.sub b hb) I'.below.size
   ·exact I'.sub b hb
  ·rcases hb with hb | hb
   ·exact I.old b hb mi
   ·have:=I.below.size
    exact I.old b (fo b (I'.old b hb (by omega))) mi
  ·simp only[Ctx.place]at h ⊢
   split at h
   ·rename_i e
    have:=I'.sep _ l h
    have hs:=I.below.size
    refine⟨by rw[e];exact qM bj,by omega,this.2.2.1,fun hb=>?_⟩
    rcases hb with hb | hb
    ·have:=I.sub _ hb;omega
    ·exact this.2.2.2 hb
   ·have:=I.sep r l h
    refine⟨Nat.lt_of_lt_of_le this.1 Rj,this.2.1,Nat.lt_of_lt_of_le this.2.2.1 I'.below.size,fun hb=>?_⟩
    rcases hb with hb | hb
    ·exact this.2.2.2 hb
    ·exact this.2.2.2 (fo _ (I'.old _ hb this.2.2.1))
  ·simp only[Ctx.place]at h h'
   split at h<;>split at h'
   ·omega
   ·have:=(I.sep _ _ h').2.2.1;have:=(I'.sep _ _ h).2.1;omega
   ·have:=(I.sep _ _ h).2.2.1;have:=(I'.sep _ _ h').2.1;omega
   ·exact I.inj _ _ _ _ h h' e
  ·by_cases e:r=id
   ·subst e
    have h':=h
    simp only[Ctx.place]at h'
    rw[Gi bj,Akv]at h'
    subst h'
    have:=(I'.objs 0 _ cr).ren mr cr (fun _ _=>rfl)
    exact this
   ·have h':=h
    simp only[Ctx.place]at h'
    rw[Nu bj e]at h'
    exact(I.objs r o h').mono m (by simp only[Ctx.place];rw[if_neg e]) fun l hl=>I'.below.block _ (I.sep r l hl).2.2.1
theorem Al.rowAt {f:FuncId} {args args':List Ac} {st:List Fr} {H:List A2} {K:Ac→List A2→Prop} {sz:Nat} {xs:List (List Ac)} (hc:∀ (args:Array Value) (w:World),(callFunc f args).run P w= .ok (.enter f args) w)
    (spec:Dj P f args' sz xs) (ha:(args.all Ac.g2=true∧args'=args)∨(Gz (O0 H) args=some args'∧(xs.all fun x=>x.all Ac.f0)=true)) (id:Nat) (bj:Oz H id) (h:K (.own id 0 0 xs.length) (Ha H id (.row 0 sz xs))):Al P (.func f []) args st H K:=by
  intro W0 C w outs fv vs I hH hO hf hl hv
  subst hH
  cases hf with
  | func _ caps _ dx _=>
    have:caps=#[]:=Array.eq_empty_of_size_eq_zero (by simpa using dx)
    subst this
    refine .inl ⟨f,#[],rfl,hc,?_⟩
    rw[show vs.toArray++#[]=vs.toArray by simp]
    rcases ha with⟨hg,rfl⟩ | ⟨ha,wg⟩
    ·have eg:Qf (Ctx.imm C.A) w vs args':=
       ⟨hl,fun i v a h1 h2=>Bk.ground' (C:=C) (C2:=Ctx.imm C.A) (fun b hb=>hb) (hv i v a h1 h2) (List.all_eq_true.1 hg a (Akt h2))⟩
     refine(spec _ w vs I.sub eg).mono fun e w' ⟨v,r,C',he,⟨hq,fk⟩,fo,I',hr⟩=>?_
     subst hq
     have key:=I.place I' (fun b hb=>fo ▸ hb) bj fk
     exact⟨v,_,C.place C' id _,he,h,rfl,hr.ren key.2.2,key.1,hO.mono key.2.1⟩
    ·have hm:=Lw ha
     have eg:Qf (Ctx.imm fun b=>C.A b∨(W0.heap.size≤b∧b<w.heap.size)) w vs args':=by
       refine⟨by rw[hl,hm.1],fun i v a h1 h2=>?_⟩
       have af:i<args.length:=by rw[hm.1];exact C0 h2
       exact(Xc I (hv i v _ h1 (Aks af)) (hm.2 i _ a (Aks af) h2)).2
     refine(spec _ w vs (fun b hb=>?_) eg).mono fun e w' ⟨v,r,C',he,⟨hq,fk⟩,fo,I',hr⟩=>?_
     ·rcases hb with hb | hb
      ·exact I.sub b hb
      ·exact hb.2
     subst hq
     have cr:C'.H[0]? =some (.row 0 sz xs):=by rw[fk];rfl
     have I2:Inv w {C' with A0:=fun _=>False,A:=fun _=>False} w':=by
       refine⟨I'.below,fun b hb=>hb.elim,fun b hb=>hb.elim,fun r l hl=>?_,I'.inj,fun r o ho=>?_⟩
       ·have:=I'.sep r l hl;exact⟨this.1,this.2.1,this.2.2.1,fun hb=>hb⟩
       ·rw[fk]at ho
        match r,ho with
        | 0,ho=>
          simp at ho;subst ho
          obtain⟨e1,e2,e3,e4⟩:=I'.objs 0 _ cr
          refine⟨e1,e2,e3,?_⟩
          rcases e4 with⟨e4,e5⟩ | ⟨l,arr,T,e4,e5,e6,e7,e8⟩
          ·exact .inl ⟨e4,e5⟩
          ·refine .inr ⟨l,arr,T,e4,e5,e6,e7,fun i k x c h1 h2=>?_⟩
           obtain⟨u,hu,di⟩:=e8 i k x c h1 h2
           refine⟨u,hu,di.flat ?_⟩
           have h3:=List.all_eq_true.1 wg x (Akt h1)
           have h4:=List.all_eq_true.1 h3 c (Akt h2)
           cases c<;>simp_all [Ac.f0,Ac.f1,Ac.f2]
     have gy:Bk {C' with A0:=fun _=>False,A:=fun _=>False} w' v (.own 0 0 0 xs.length):=by
       cases hr with
       | own a _ cap _ _ _ hk cw cd hv=>exact .own a _ cap 0 0 0 hk cw cd hv
     have key:=I.place I2 (fun b hb=>hb.elim) bj fk
     exact⟨v,_,C.place _ id _,he,h,rfl,gy.ren key.2.2,key.1,hO.mono key.2.1⟩
end
end Go.Ab
