/-
  What the operations do to abstract values: definitions.
-/
import Derived.Test.YtciaimpdnjpajaaSkB
namespace Go.Ab
open Go Go.RowKit

def put (fr : Fr) (d : Option Tmp) (v : AVal) : Fr :=
  match d with
  | some k => (k, v) :: fr
  | none => fr

def aconst0 : Value → AVal
  | .bool b => .bool b
  | .int k n => .int k n
  | .string s => .str s
  | .slice none 0 0 => .nils
  | .map none => .nilm
  | _ => .any
def aconst : Value → AVal
  | .agg cs => .agg (cs.toList.map aconst0)
  | .tuple vs => if vs.size = 0 then .tuple [] else .any
  | v => aconst0 v

def ev (fr : Fr) : Operand → AVal
  | .tmp t => get fr t
  | .const v => aconst v
  | .global _ => .any
  | .func f => .func f []

/-- the cells of a value that is stored into memory -/
def acells : AVal → Option (List AVal)
  | .agg cs => some cs
  | .tuple _ | .any => none
  | v => some [v]
/-- what can be stored into a cell -/
def AVal.one : AVal → Bool
  | .any | .agg _ | .tuple _ => false
  | _ => true

def szOf (P : Program) (t : TypeId) : Nat := ((P.info? t).map (·.size)).getD 0
def bytesOf (P : Program) (t : TypeId) : Nat := ((P.info? t).map (·.bytes)).getD 0
/-- the type is known -/
def okT (P : Program) (t : TypeId) : Bool := (P.info? t).isSome && (P.underlying t).isSome

def aggT (P : Program) (t : TypeId) : Bool := match P.underlying t with | some (.struct _) | some (.array _ _) => true | _ => false
def elemT (P : Program) (t : TypeId) : Option TypeId := match P.underlying t with | some (.slice e) => some e | _ => none
def arrT (P : Program) (t : TypeId) : Option (Nat × TypeId) := match P.underlying t with | some (.array n e) => some (n, e) | _ => none
def zeroV (P : Program) (t : TypeId) : Option Value := (P.info? t).bind (·.zero)
def azeroCells (P : Program) (t : TypeId) : List AVal := match zeroV P t with | some v => v.cells.toList.map aconst0 | none => []
/-- the zero value of a type, as a value -/
def azero (P : Program) (t : TypeId) : AVal := match zeroV P t with | some v => aconst v | none => .any
def fieldT (P : Program) (t : TypeId) (f : Nat) : Option (Nat × Nat) :=
  match P.underlying t with
  | some (.struct fs) => (fs[f]?).map fun x => (x.offset, szOf P x.type)
  | _ => none

/-- the places of a struct's fields -/
def placesOf (P : Program) (t : TypeId) : Option (List (Nat × Nat)) :=
  match P.underlying t with
  | some (.struct fs) => fs.toList.mapM (fun f => (P.info? f.type).map fun i => (f.offset, i.size))
  | _ => none

def splice (cells : List AVal) (off : Nat) (part : List AVal) : List AVal := cells.take off ++ part ++ cells.drop (off + part.length)
def chunk (sz : Nat) : Nat → List AVal → List (List AVal)
  | 0, _ => []
  | n + 1, l => l.take sz :: chunk sz n (l.drop sz)

def aPick (c a b : AVal) (K : AVal → Prop) : Prop :=
  match c with
  | .bool cv => match a, b with
    | .bool x, .bool y => K (.bool (bif cv then x else y))
    | _, _ => (cv = true → K a) ∧ (cv = false → K b)
  | _ => False

/-- a shift to the right -/
def shrI (x y : Int) : Int := x / 2 ^ y.toNat
/-- a shift to the left -/
def shlI (x y : Int) : Int := x * 2 ^ y.toNat
/-- the kinds of the operands are the same, but for shifts -/
def sameK (o : BinOp) (k k' : IntKind) : Prop :=
  match o with
  | .shl => True
  | .shr => True
  | _ => k = k'
def aBinInt (o : BinOp) (k : IntKind) (x y : Int) (K : AVal → Prop) : Prop :=
  match o with
  | .add => K (.int k (k.wrap (x + y)))
  | .sub => K (.int k (k.wrap (x - y)))
  | .mul => K (.int k (k.wrap (x * y)))
  | .quo => y ≠ 0 ∧ K (.int k (k.wrap (x.tdiv y)))
  | .rem => y ≠ 0 ∧ K (.int k (x.tmod y))
  | .eql => K (.bool (decide (x = y)))
  | .neq => K (.bool (decide (x ≠ y)))
  | .lss => K (.bool (decide (x < y)))
  | .leq => K (.bool (decide (x ≤ y)))
  | .gtr => K (.bool (decide (y < x)))
  | .geq => K (.bool (decide (y ≤ x)))
  | .shr => (0 ≤ y ∧ y ≤ 8) ∧ K (.int k (shrI x y))
  | .shl => (0 ≤ y ∧ y ≤ 8) ∧ K (.int k (k.wrap (shlI x y)))
  | _ => False

/-- the places of a struct's fields, where each is an integer (false) or a boolean (true) -/
def eqOffs (P : Program) (T : TypeId) : Option (List (Nat × Bool)) :=
  match P.underlying T with
  | some (.struct fs) =>
    if P.eqGuardType P.depth T = false ∧ P.stoodInHeld T = false ∧ fs.toList.all (fun f => f.name != "_" && okT P f.type) = true then
      fs.toList.mapM fun f => match P.underlying f.type with | some (.int _) => some (f.offset, false) | some .bool => some (f.offset, true) | _ => none
    else none
  | _ => none
/-- the same, where a field may be a struct again -/
def eqOffsF (P : Program) (g : TypeId → Option (List (Nat × Bool))) : List Field → Option (List (Nat × Bool))
  | [] => some []
  | f :: fs => (match P.underlying f.type with
      | some (.int _) => some [(f.offset, false)]
      | some .bool => some [(f.offset, true)]
      | some (.struct _) => (g f.type).bind fun l : List (Nat × Bool) => if (l.all (fun p => p.1 < szOf P f.type) && l.any (fun p => p.1 + 1 == szOf P f.type)) = true then some (l.map fun p : Nat × Bool => (p.1 + f.offset, p.2)) else none
      | _ => none).bind fun a => (eqOffsF P g fs).map fun b => a ++ b
def eqOffsN (P : Program) : Nat → TypeId → Option (List (Nat × Bool))
  | 0, _ => none
  | n + 1, T => match P.underlying T with
    | some (.struct fs) => if P.stoodInHeld T = false ∧ fs.toList.all (fun f => f.name != "_" && okT P f.type) = true then eqOffsF P (eqOffsN P n) fs.toList else none
    | _ => none
def eqDeep (P : Program) (T : TypeId) : Option (List (Nat × Bool)) := if P.eqGuardType P.depth T = false then eqOffsN P 4 T else none
/-- are two structs of integers and booleans equal -/
def aEqAt (xs ys : List AVal) : List (Nat × Bool) → Option Bool
  | [] => some true
  | (o, false) :: os => match xs[o]?, ys[o]? with
    | some (.int k a), some (.int k' b) => if k = k' then (aEqAt xs ys os).map fun r => decide (a = b) && r else none
    | _, _ => none
  | (o, true) :: os => match xs[o]?, ys[o]? with
    | some (.bool a), some (.bool b) => (aEqAt xs ys os).map fun r => (a == b) && r
    | _, _ => none

def aBin (P : Program) (o : BinOp) (T : TypeId) (x y : AVal) (K : AVal → Prop) : Prop :=
  match x, y with
  | .int k a, .int k' b => sameK o k k' ∧ aBinInt o k a b K
  | .bool a, .bool b => P.underlying T = some .bool ∧ match o with
    | .eql => K (.bool (a == b))
    | .neq => K (.bool (a != b))
    | _ => False
  | .agg cs, .agg ds => match eqOffs P T with
    | some offs => match aEqAt cs ds offs with
      | some r => match o with
        | .eql => K (.bool r)
        | .neq => K (.bool (!r))
        | _ => False
      | none => False
    | none => match eqDeep P T with
      | some offs => match aEqAt cs ds offs with
        | some r => match o with
          | .eql => K (.bool r)
          | .neq => K (.bool (!r))
          | _ => False
        | none => False
      | none => False
  | _, _ => False

def aUn (o : UnOp) (x : AVal) (K : AVal → Prop) : Prop :=
  match o, x with
  | .not, .bool b => K (.bool (!b))
  | .neg, .int k n => K (.int k (k.wrap (-n)))
  | _, _ => False

def aConv (P : Program) (s d : TypeId) (x : AVal) (K : AVal → Prop) : Prop :=
  match P.underlying s, P.underlying d, x with
  | some (.int _), some (.int k), .int _ n => K (.int k (k.wrap n))
  | _, _, _ => False

def aLoadCells (agg : Bool) (n : Nat) (cs : List AVal) : AVal := if agg then .agg (cs.take n) else cs.headD .any

/-- the element at n, where n lies in range -/
def AIdx (sz : Nat) (xs : List (List AVal)) (n : Int) (K : List AVal → Prop) : Prop := 0 ≤ n ∧ n < xs.length ∧ ∀ y, xs[n.toNat]? = some y → y.length = sz → K y
/-- the element i -/
def AElem (sz : Nat) (xs : List (List AVal)) (i : Nat) (K : List AVal → Prop) : Prop := ∀ y, xs[i]? = some y → y.length = sz → K y
def idxK (K : AVal → Prop) (y : List AVal) : Prop := K (.eptr y)
def rowK (P : Program) (T : TypeId) (k : Nat) (K : AVal → Prop) (y : List AVal) : Prop := K (aLoadCells (aggT P T) (szOf P T) (y.drop k))

def aLoad (P : Program) (T : TypeId) (p : AVal) (H : List AObj) (K : AVal → Prop) : Prop :=
  okT P T = true ∧ match p with
  | .ptr r k => match H[r]? with
    | some (.box cs) => k + (if aggT P T then szOf P T else 1) ≤ cs.length ∧ K (aLoadCells (aggT P T) (szOf P T) (cs.drop k))
    | _ => False
  | .rptr r v i k => match H[r]? with
    | some (.row v' sz xs) => v = v' ∧ k + (if aggT P T then szOf P T else 1) ≤ sz ∧ AElem sz xs i (rowK P T k K)
    | _ => False
  | .eptr cs => (if aggT P T then szOf P T else 1) ≤ cs.length ∧ K (aLoadCells (aggT P T) (szOf P T) cs)
  | _ => False

/-- what an operation does to the heap -/
inductive Eff where
  | none
  | new (id : Nat) (o : AObj)
  | set (r : Nat) (o : AObj)

def Eff.app (H : List AObj) : Eff → List AObj
  | .none => H
  | .new id o => addAt H id o
  | .set r o => H.set r o

def rowS (r v sz : Nat) (xs : List (List AVal)) (i k : Nat) (vs : List AVal) (K : AVal → Eff → Prop) (y : List AVal) : Prop := K (.tuple []) (.set r (.row v sz (xs.set i (splice y k vs))))

def aStore (P : Program) (T : TypeId) (p v : AVal) (H : List AObj) (K : AVal → Eff → Prop) : Prop :=
  match acells v with
  | some vs => okT P T = true ∧ vs.length = szOf P T ∧ vs.all AVal.one = true ∧ match p with
    | .ptr r k => match H[r]? with
      | some (.box cs) => k + vs.length ≤ cs.length ∧ K (.tuple []) (.set r (.box (splice cs k vs)))
      | _ => False
    | .rptr r v i k => match H[r]? with
      | some (.row v' sz xs) => v = v' ∧ vs.all AVal.g0 = true ∧ k + vs.length ≤ sz ∧ AElem sz xs i (rowS r v' sz xs i k vs K)
      | _ => False
    | _ => False
  | none => False

def aAlloc (P : Program) (T : TypeId) (id : Nat) (K : AVal → Eff → Prop) : Prop :=
  (zeroV P T).isSome = true ∧ K (.ptr id 0) (.new id (.box (azeroCells P T)))

def aBox (x : AVal) (id : Nat) (K : AVal → Eff → Prop) : Prop :=
  match acells x with
  | some cs => K (.ptr id 0) (.new id (.box cs))
  | none => False

def aFieldAddr (P : Program) (T : TypeId) (p : AVal) (f : Nat) (K : AVal → Prop) : Prop :=
  match fieldT P T f with
  | some (off, n) => 1 ≤ n ∧ match p with
    | .ptr r k => K (.ptr r (k + off))
    | .rptr r v i k => K (.rptr r v i (k + off))
    | .eptr cs => K (.eptr (cs.drop off))
    | _ => False
  | none => False

def aField (P : Program) (T : TypeId) (x : AVal) (f : Nat) (K : AVal → Prop) : Prop :=
  match P.underlying T, x with
  | some (.struct fs), .agg cs => match fs[f]? with
    | some g => okT P g.type = true ∧ aggT P g.type = false ∧ g.offset < cs.length ∧ K (cs.getD g.offset .any)
    | none => False
  | _, _ => False

/-- the elements of an array, each of one cell -/
def singles : List AVal → List (List AVal)
  | [] => []
  | c :: r => [c] :: singles r
theorem singles_len : ∀ l : List AVal, (singles l).length = l.length
  | [] => rfl
  | c :: r => by rw [singles, List.length_cons, List.length_cons, singles_len r]
theorem singles_get : ∀ (l : List AVal) (i : Nat), (singles l)[i]? = l[i]?.map fun c => [c]
  | [], i => by simp [singles]
  | c :: r, 0 => rfl
  | c :: r, i + 1 => by simpa [singles] using singles_get r i
def aIndexAddr (P : Program) (T : TypeId) (x i : AVal) (H : List AObj) (K : AVal → Prop) : Prop :=
  match elemT P T, i with
  | some e, .int _ n => okT P e = true ∧ match x with
    | .sl sz xs => sz = szOf P e ∧ AIdx sz xs n (idxK K)
    | .own r v lo len => match H[r]? with
      | some (.row v' sz _) => v = v' ∧ sz = szOf P e ∧ 0 ≤ n ∧ n < len ∧ K (.rptr r v (lo + n.toNat) 0)
      | _ => False
    | _ => False
  | none, .int _ n => match arrT P T, x with
    | some (len, e), .ptr r k => okT P e = true ∧ 0 ≤ n ∧ n < len ∧ K (.ptr r (k + n.toNat * szOf P e))
    | some (len, e), .eptr cs => okT P e = true ∧ 0 ≤ n ∧ n < len ∧ K (.eptr (cs.drop (n.toNat * szOf P e)))
    | _, _ => False
  | _, _ => False

def aFill (place : Nat → Option (Nat × Nat)) (cells : List AVal) : List (Nat × AVal) → Option (List AVal)
  | [] => some cells
  | (i, v) :: rest =>
    match place i, acells v with
    | some (off, size), some cs => if cs.length ≠ size ∨ off + cs.length > cells.length then none else aFill place (splice cells off cs) rest
    | _, _ => none

def aBuild (P : Program) (T : TypeId) (parts : List (Nat × AVal)) (K : AVal → Prop) : Prop :=
  (zeroV P T).isSome = true ∧ match placesOf P T with
  | some pl => match aFill (fun i => pl[i]?) (azeroCells P T) parts with
    | some cs => K (.agg cs)
    | none => False
  | none => False

/-- n elements, each these cells -/
def reps : Nat → List AVal → List AVal
  | 0, _ => []
  | n + 1, cs => cs ++ reps n cs

def aBuildSlice (P : Program) (T : TypeId) (len : Nat) (parts : List (Nat × AVal)) (id : Nat) (K : AVal → Eff → Prop) : Prop :=
  match elemT P T with
  | some e => (zeroV P e).isSome = true ∧ 1 ≤ szOf P e ∧ (azeroCells P e).length = szOf P e ∧ len * szOf P e ≤ 16777216 ∧
    match aFill (fun i => some (i * szOf P e, szOf P e)) (reps len (azeroCells P e)) parts with
    | some cs => cs.all AVal.g0 = true ∧ K (.own id 0 0 len) (.new id (.row 0 (szOf P e) (chunk (szOf P e) len cs)))
    | none => False
  | none => False

/-- the elements that a slice shows -/
def aElems (x : AVal) (H : List AObj) : Option (Nat × List (List AVal)) :=
  match x with
  | .sl sz xs => some (sz, xs)
  | .own r v lo len => match H[r]? with
    | some (.row v' sz xs) => if v = v' then some (sz, (xs.drop lo).take len) else none
    | _ => none
  | _ => none

def aLen (P : Program) (T : TypeId) (x : AVal) (H : List AObj) (K : AVal → Prop) : Prop :=
  match P.underlying T, x with
  | some (.slice _), .sl _ xs => xs.length ≤ 9223372036854775807 → K (.int .i64 xs.length)
  | some (.slice _), .own _ _ _ len => len ≤ 9223372036854775807 → K (.int .i64 len)
  | some (.slice _), .nils | some (.slice _), .z0 => K (.int .i64 0)
  | some .string, .str s => K (.int .i64 s.size)
  | some (.map _ _), .nilm => K (.int .i64 0)
  | some (.map _ _), .map r => match H[r]? with
    | some (.mp es) => K (.int .i64 es.length)
    | _ => False
  | some (.map _ _), .vmap es => K (.int .i64 es.length)
  | _, _ => False

def aBound (x : Option AVal) (d : Nat) : Option Int :=
  match x with
  | none => some d
  | some (.int _ n) => some n
  | _ => none

def aSlice (P : Program) (T : TypeId) (x : AVal) (lo hi mx : Option AVal) (H : List AObj) (K : AVal → Prop) : Prop :=
  match elemT P T with
  | some e => okT P e = true ∧ match x with
    | .sl sz xs => sz = szOf P e ∧ (xs.length ≤ 9223372036854775807 → match aBound lo 0, aBound hi xs.length, mx with
      | some l, some h, none => 0 ≤ l ∧ l ≤ h ∧ h ≤ xs.length ∧ K (.sl sz ((xs.drop l.toNat).take (h.toNat - l.toNat)))
      | some l, some h, some (.int _ m) => l = 0 ∧ h = 0 ∧ m = 0 ∧ hi.isSome = true ∧ K .z0
      | _, _, _ => False)
    | .own r v a len => match H[r]? with
      | some (.row v' sz _) => v = v' ∧ sz = szOf P e ∧ match aBound lo 0, aBound hi len, mx with
        | some l, some h, none => 0 ≤ l ∧ l ≤ h ∧ h ≤ len ∧ K (.own r v (a + l.toNat) (h.toNat - l.toNat))
        | some l, some h, some (.int _ m) => l = 0 ∧ h = 0 ∧ m = 0 ∧ hi.isSome = true ∧ K .z0
        | _, _, _ => False
      | _ => False
    | .nils => match aBound lo 0, aBound hi 0, mx with
      | some l, some h, none => l = 0 ∧ h = 0 ∧ K .nils
      | some l, some h, some (.int _ m) => l = 0 ∧ h = 0 ∧ m = 0 ∧ hi.isSome = true ∧ K .z0
      | _, _, _ => False
    | .z0 => match aBound lo 0, aBound hi 0, mx with
      | some l, some h, none => l = 0 ∧ h = 0 ∧ K .z0
      | some l, some h, some (.int _ m) => l = 0 ∧ h = 0 ∧ m = 0 ∧ hi.isSome = true ∧ K .z0
      | _, _, _ => False
    | _ => False
  | none => match arrT P T, x, lo, hi, mx with
    | some (n, e), .eptr cs, none, none, none => okT P e = true ∧ szOf P e = 1 ∧ cs.length = n ∧ n ≤ 9223372036854775807 ∧ K (.sl 1 (singles cs))
    | _, _, _, _, _ => False

def aMakeSlice (P : Program) (T : TypeId) (len cap : AVal) (id : Nat) (K : AVal → Eff → Prop) : Prop :=
  match elemT P T, len, cap with
  | some e, .int _ l, .int _ c => (zeroV P e).isSome = true ∧ 1 ≤ szOf P e ∧ (azeroCells P e).length = szOf P e ∧ (azeroCells P e).all AVal.g0 = true ∧
      0 ≤ l ∧ l ≤ c ∧ (bytesOf P e : Int) * c ≤ 281474976710656 ∧ c ≤ 9223372036854775807 ∧
      K (.own id 0 0 l.toNat) (.new id (.row 0 (szOf P e) (List.replicate l.toNat (azeroCells P e))))
  | _, _, _ => False

/-- what is appended to -/
def aAppend (P : Program) (T : TypeId) (s x : AVal) (H : List AObj) (id : Nat) (K : AVal → Eff → Prop) : Prop :=
  match elemT P T with
  | some e => (zeroV P e).isSome = true ∧ 1 ≤ szOf P e ∧ (azeroCells P e).length = szOf P e ∧
    match aElems x H with
    | some (szx, ys) => szx = szOf P e ∧ match s with
      | .nils | .z0 => ys.length * bytesOf P e ≤ 140737488355328 ∧ ys.length ≤ 9223372036854775807 ∧ K (.own id 0 0 ys.length) (.new id (.row 0 (szOf P e) ys))
      | .own r v lo len => match H[r]? with
        | some (.row v' sz xs) => v = v' ∧ sz = szOf P e ∧ (len + ys.length) * bytesOf P e ≤ 140737488355328 ∧ len + ys.length ≤ 9223372036854775807 ∧
            K (.own r (v + 1) 0 (len + ys.length)) (.set r (.row (v + 1) (szOf P e) ((xs.drop lo).take len ++ ys)))
        | _ => False
      | _ => False
    | none => False
  | none => False
end Go.Ab
