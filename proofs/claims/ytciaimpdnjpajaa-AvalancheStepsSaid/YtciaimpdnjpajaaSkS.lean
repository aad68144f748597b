/-
  The words that the walk over abstract states reckons with.
-/
import Derived.Test.YtciaimpdnjpajaaSkP
namespace Go.Ab
open Go Go.RowKit

theorem quietK_app (K : AVal → Eff → Prop) (v : AVal) : quietK K v = K v .none := rfl
theorem afterCall_app (fr : Fr) (dst : Option Tmp) (next : Fr → List AObj → Prop) (v : AVal) (H : List AObj) : afterCall fr dst next v H = next (put fr dst v) H := rfl
theorem afterStep_app (fr : Fr) (dst : Option Tmp) (next : Fr → List AObj → Prop) (H : List AObj) (v : AVal) (ef : Eff) : afterStep fr dst next H v ef = next (put fr dst v) (ef.app H) := rfl
theorem askip_app (dst : Option Tmp) (next : Fr → List AObj → Prop) (fr : Fr) (H : List AObj) : askip dst next fr H = next (put fr dst (.tuple [])) H := rfl
theorem idxK_app (K : AVal → Prop) (y : List AVal) : idxK K y = K (.eptr y) := rfl
theorem rowK_app (P : Program) (T : TypeId) (k : Nat) (K : AVal → Prop) (y : List AVal) : rowK P T k K y = K (aLoadCells (aggT P T) (szOf P T) (y.drop k)) := rfl
theorem rowS_app (r v sz : Nat) (xs : List (List AVal)) (i k : Nat) (vs : List AVal) (K : AVal → Eff → Prop) (y : List AVal) : rowS r v sz xs i k vs K y = K (.tuple []) (.set r (.row v sz (xs.set i (splice y k vs)))) := rfl
theorem lookK_app (ok : Bool) (K : AVal → Prop) (v : AVal) (b : Bool) : lookK ok K v b = K (if ok then .tuple [v, .bool b] else v) := rfl
theorem nextE_app (K : AVal → Eff → Prop) (u : Unit) : nextE K u = K (.tuple [.bool false]) .none := rfl
theorem nextS_app (r : Nat) (K : AVal → Eff → Prop) (l1 : List (Int × AVal)) (p : Int × AVal) (l2 : List (Int × AVal)) : nextS r K l1 p l2 = K (.tuple [.bool true, .int .i64 p.1, p.2]) (.set r (.it (l1 ++ l2) (some p))) := rfl
theorem aoper_app (P : Program) (outer : List Fr) (op : Op) (dst : Option Tmp) (next : Fr → List AObj → Prop) (fr : Fr) (H : List AObj) : aoper P outer op dst next fr H =
  match callOf op with
  | some (f, args) => ACall P (ev fr f) (args.map (ev fr)) (fr :: outer) H (afterCall fr dst next)
  | none => match aNil P op (ev fr) with
    | some xs => ∀ b : Bool, (xs ≠ [] → b = false) → afterStep fr dst next H (.bool b) .none
    | none => astep P op (ev fr) H H.length (afterStep fr dst next H) := rfl

theorem dlist_nil (P : Program) (all : List Oper) (top : Nat) (K : Log → Fr → List AObj → Prop) (i id : Nat) (log : Log) (fr : Fr) (H : List AObj) : dlist P all top K [] i id log fr H = K log fr H := rfl
theorem dlist_plain (P : Program) (all : List Oper) (top : Nat) (K : Log → Fr → List AObj → Prop) (dst : Option Tmp) (op : Op) (type : TypeId) (pos : String) (after : Array Edge) (rest : List Oper) (i id : Nat) (log : Log) (fr : Fr) (H : List AObj) :
    dlist P all top K ({ dst, op, type, pos, after, guard := none } :: rest) i id log fr H =
      drun P op i (if opNew op then id else top) (dafter (dlist P all top K rest (i + 1) (if opNew op then id + 1 else id)) log fr dst H) fr H := rfl
theorem dlist_guard (P : Program) (all : List Oper) (top : Nat) (K : Log → Fr → List AObj → Prop) (dst : Option Tmp) (op : Op) (type : TypeId) (pos : String) (after : Array Edge) (j : Nat) (want : Bool) (rest : List Oper) (i id : Nat) (log : Log) (fr : Fr) (H : List AObj) :
    dlist P all top K ({ dst, op, type, pos, after, guard := some (j, want) } :: rest) i id log fr H =
      aguardD ((all[j]?).bind (·.dst)) want (drun P op i (if opNew op then id else top) (dafter (dlist P all top K rest (i + 1) (if opNew op then id + 1 else id)) log fr dst H))
        (dskip (dafter (dlist P all top K rest (i + 1) (if opNew op then id + 1 else id)) log fr dst H)) fr H := by
  simp only [dlist, dstep, aguardD]
  cases (all[j]?).bind (·.dst) <;> rfl
theorem drun_app (P : Program) (op : Op) (i id : Nat) (K : DK) (fr : Fr) (H : List AObj) : drun P op i id K fr H = dop P op (ev fr) H id (K (ents i id op (ev fr))) := rfl
theorem dskip_app (K : DK) (fr : Fr) (H : List AObj) : dskip K fr H = K [] (.tuple []) .none := rfl
theorem dafter_app (next : Log → Fr → List AObj → Prop) (log : Log) (fr : Fr) (dst : Option Tmp) (H : List AObj) (en : Log) (v : AVal) (ef : Eff) : dafter next log fr dst H en v ef = next (en ++ log) (put fr dst v) (ef.app H) := rfl
theorem dop_app (P : Program) (op : Op) (e : Operand → AVal) (H : List AObj) (id : Nat) (K : AVal → Eff → Prop) : dop P op e H id K =
  match callOf op with
  | some (f, args) => DCall P (e f) (args.map e) H id K
  | none => astep P op e H id K := rfl

attribute [go_sem] dlist_nil dlist_plain dlist_guard drun_app dskip_app dafter_app dop_app ents mkEnt touch rid ridL rid1 ridA opNew opWr resvs
attribute [go_sem] quietK_app afterCall_app afterStep_app askip_app idxK_app rowK_app rowS_app lookK_app nextE_app nextS_app aoper_app alist_nil alist_plain alist_guard aguardD
  aguardK_tt aguardK_ff aguardK_tf aguardK_ft aguardK_tuple
theorem get_hit (k : Nat) (v : AVal) (r : Fr) : get ((k, v) :: r) k = v := if_pos rfl
theorem get_skip {k t : Nat} (h : k ≠ t) (v : AVal) (r : Fr) : get ((k, v) :: r) t = get r t := if_neg h
theorem get_nil (t : Nat) : get [] t = .any := rfl
attribute [go_sem] get_hit get_skip get_nil
attribute [go_sem] List.append_eq
attribute [go_sem] callOf aNil astep partsA aBuiltin aMin aMax ev put aconst aconst0 acells AVal.one AVal.g0 AVal.g1 AVal.g2 AVal.f0 AVal.f1 AVal.f2
  aPick sameK aBinInt aBin aEqAt aUn aConv aLoadCells aLoad aStore aAlloc aBox aFieldAddr aIndexAddr aFill aBuild aBuildSlice reps chunk aElems aLen aBound aSlice aMakeSlice aAppend splice
  Eff.app addAt aMakeMap aLookup aEntries mpoOf slNil zLook aMapUpdate aDelete aRange aNext aEntry acond qthen qblock qret rfrz aresult aret mapO frz0 frz1 frz2 frame0
  vle cellsLe objLe subH subF AVal.bel0 AVal.belF AVal.bel1 AVal.bel2 belFr belObj belH frzMap frzFr
end Go.Ab
