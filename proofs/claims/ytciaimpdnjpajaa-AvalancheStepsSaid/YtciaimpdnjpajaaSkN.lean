/-
  Regions whose order is drawn: walked in the order of the text; each other order comes to the same.
-/
import Derived.Test.YtciaimpdnjpajaaSkM
import Derived.Orders
namespace Go.Ab
open Go Go.RowKit

abbrev Log := List (Nat × List Nat × Bool)
def mkEnt (i : Nat) (S : List Nat) (w : Bool) : Log :=
  match S with
  | [] => []
  | a :: r => [(i, a :: r, w)]
def ents (i id : Nat) (op : Op) (e : Operand → AVal) : Log := mkEnt i (if opNew op then id :: touch op e else touch op e) (opNew op || opWr op)

/-- what a call by contract comes to -/
def DSpec (P : Program) (fid : FuncId) (gs args : List AVal) (H : List AObj) (id : Nat) (r : AVal) (ef : Eff) : Prop :=
  (ef = .none ∧ ((PureFn P fid gs (· = r) ∧ mapO (frz1 H) args = some gs ∧ r.f2 = true) ∨ (PureFn P fid gs (· = r) ∧ args.all AVal.g2 = true ∧ gs = args) ∨ (FreshFn P fid gs (· = r) ∧ mapO (frz1 H) args = some gs))) ∨
  (∃ sz xs, OwnRow P fid gs sz xs ∧ r = .own id 0 0 xs.length ∧ ef = .new id (.row 0 sz xs) ∧ ((args.all AVal.g2 = true ∧ gs = args) ∨ (mapO (frz1 H) args = some gs ∧ (xs.all fun x => x.all AVal.f0) = true))) ∨
  ∃ r0 o', ef = .set r0 o' ∧ r0 ∈ ridA args ∧ (∃ x, H[r0]? = some x ∧ x ≠ .resv) ∧ ∀ (st : List Fr) (H' : List AObj), H'.length = H.length → (∀ q ∈ ridA args, H'[q]? = H[q]?) →
    ACall P (.func fid []) args st H' fun r' H'' => r' = r ∧ H'' = H'.set r0 o'
/-- a call by contract, of one result -/
def DCall (P : Program) (f : AVal) (args : List AVal) (H : List AObj) (id : Nat) (K : AVal → Eff → Prop) : Prop :=
  ∃ fid gs r ef, f = .func fid [] ∧ (∀ (args : Array Value) (w : World), (callFunc fid args).run P w = .ok (.enter fid args) w) ∧ DSpec P fid gs args H id r ef ∧ K r ef

def dop (P : Program) (op : Op) (e : Operand → AVal) (H : List AObj) (id : Nat) (K : AVal → Eff → Prop) : Prop :=
  match callOf op with
  | some (f, args) => DCall P (e f) (args.map e) H id K
  | none => astep P op e H id K

abbrev DK := Log → AVal → Eff → Prop
def drun (P : Program) (op : Op) (i id : Nat) (K : DK) (fr : Fr) (H : List AObj) : Prop := dop P op (ev fr) H id (K (ents i id op (ev fr)))
def dskip (K : DK) (_fr : Fr) (_H : List AObj) : Prop := K [] (.tuple []) .none
def dstep (P : Program) (all : List Oper) (o : Oper) (i id : Nat) (K : DK) (fr : Fr) (H : List AObj) : Prop :=
  match o.guard with
  | none => drun P o.op i id K fr H
  | some (j, want) => match (all[j]?).bind (·.dst) with
    | some d => aguardK (get fr d) want (drun P o.op i id K) (dskip K) fr H
    | none => dskip K fr H
def dafter (next : Log → Fr → List AObj → Prop) (log : Log) (fr : Fr) (dst : Option Tmp) (H : List AObj) (en : Log) (v : AVal) (ef : Eff) : Prop :=
  next (en ++ log) (put fr dst v) (ef.app H)

/-- the operations of a region, in the order of the text -/
def dlist (P : Program) (all : List Oper) (top : Nat) (K : Log → Fr → List AObj → Prop) : List Oper → Nat → Nat → Log → Fr → List AObj → Prop
  | [], _, _, log, fr, H => K log fr H
  | o :: r, i, id, log, fr, H => dstep P all o i (if opNew o.op then id else top) (dafter (dlist P all top K r (i + 1) (if opNew o.op then id + 1 else id)) log fr o.dst H) fr H

structure Tag where
  i : Nat
  id : Nat
  o : Oper
def dlt (P : Program) (all : List Oper) (K : Log → Fr → List AObj → Prop) : List Tag → Log → Fr → List AObj → Prop
  | [], log, fr, H => K log fr H
  | t :: r, log, fr, H => dstep P all t.o t.i t.id (dafter (dlt P all K r) log fr t.o.dst H) fr H
def tags (top : Nat) : List Oper → Nat → Nat → List Tag
  | [], _, _ => []
  | o :: r, i, id => ⟨i, if opNew o.op then id else top, o⟩ :: tags top r (i + 1) (if opNew o.op then id + 1 else id)

def resvs : List Oper → List AObj
  | [] => []
  | o :: r => if opNew o.op then .resv :: resvs r else resvs r

/-- what is bound before an operation, as bits -/
def maskOf (o : Oper) (acc : List Nat) : Nat := o.after.toList.foldl (fun m e => if Region.binds .any e then m ||| (2 ^ e.on ||| acc.getD e.on 0) else m) 0
def masks : List Oper → List Nat → List Nat
  | [], acc => acc
  | o :: r, acc => masks r (acc ++ [maskOf o acc])
def bit (A : List Nat) (i j : Nat) : Bool := (A.getD i 0).testBit j
def disj (S T : List Nat) : Bool := S.all fun r => !T.contains r
def okLog (A : List Nat) (log : Log) : Bool := log.all fun p => log.all fun q => p.1 == q.1 || bit A p.1 q.1 || bit A q.1 p.1 || !(p.2.2 || q.2.2) || disj p.2.1 q.2.1
def pairsOK (A : List Nat) (arr : Array Oper) : List (Nat × Oper) → List Oper → Nat → Bool
  | _, [], _ => true
  | prev, o :: r, i => prev.all (fun p => bit A i p.1 || p.2.apart arr o) && pairsOK A arr ((i, o) :: prev) r (i + 1)
def edgesOK : List Oper → Nat → Bool
  | [], _ => true
  | o :: r, i => o.after.toList.all (fun e => !Region.binds .any e || Nat.blt e.on i) && edgesOK r (i + 1)
def drawOK (n : Nat) (ops : List Oper) : Bool :=
  dstOK n ops && ops.all (fun o => (callOf o.op).isSome || drawable o.op) && edgesOK ops 0 && pairsOK (masks ops []) ops.toArray [] ops 0

/-! ### one outcome -/
section
variable {P : Program}

theorem frz0_eq {H H' : List AObj} {v : AVal} (h : ∀ r ∈ rid v, H'[r]? = H[r]?) : frz0 H' v = frz0 H v := by
  cases v <;> first | rfl | (simp only [frz0, h _ (List.mem_singleton.2 rfl)])
theorem frzL_eq {H H' : List AObj} : ∀ {l : List AVal}, (∀ r ∈ ridL l, H'[r]? = H[r]?) → mapO (frz0 H') l = mapO (frz0 H) l
  | [], _ => rfl
  | v :: l, h => by
    rw [mapO, mapO, frz0_eq fun r hr => h r (List.mem_append_left _ hr), frzL_eq fun r hr => h r (List.mem_append_right _ hr)]
theorem frz1_eq {H H' : List AObj} {v : AVal} (h : ∀ r ∈ rid1 v, H'[r]? = H[r]?) : frz1 H' v = frz1 H v := by
  cases v with
  | agg cs => simp only [frz1, frzL_eq (H := H) (H' := H') (l := cs) h]
  | _ =>
    simp only [frz1]
    refine frz0_eq fun r hr => h r ?_
    exact hr
theorem frzA_eq {H H' : List AObj} : ∀ {l : List AVal}, (∀ r ∈ ridA l, H'[r]? = H[r]?) → mapO (frz1 H') l = mapO (frz1 H) l
  | [], _ => rfl
  | v :: l, h => by
    rw [mapO, mapO, frz1_eq fun r hr => h r (List.mem_append_left _ hr), frzA_eq fun r hr => h r (List.mem_append_right _ hr)]

/-- where an effect lies: a call may change what its arguments lead to -/
def EffInW (op : Op) (e : Operand → AVal) (H : List AObj) (id : Nat) (ef : Eff) : Prop :=
  match ef with
  | .none => True
  | .new j _ => opNew op = true ∧ j = id
  | .set r _ => (opNew op || opWr op) = true ∧ r ∈ touch op e ∧ ∃ x, H[r]? = some x ∧ x ≠ .resv
theorem EffIn.w {op : Op} {e : Operand → AVal} {H : List AObj} {id : Nat} {ef : Eff} (h : EffIn op e H id ef) : EffInW op e H id ef := by
  cases ef with
  | none => trivial
  | new j x => exact h
  | set r x => exact ⟨by rw [h.1, Bool.or_true], h.2⟩
def dOK (op : Op) : Prop := (callOf op).isSome = true ∨ drawable op = true

theorem dop_det {op : Op} {e : Operand → AVal} {H : List AObj} {id : Nat} {K : AVal → Eff → Prop} (hd : dOK op) (h : dop P op e H id K) :
    (∃ v ef, K v ef ∧ EffInW op e H id ef ∧ ∀ (H' : List AObj) (e' : Operand → AVal), H'.length = H.length → (∀ x ∈ op.operands.toList, e' x = e x) → (∀ r ∈ touch op e, H'[r]? = H[r]?) → ∀ K' : AVal → Eff → Prop, K' v ef → dop P op e' H' id K') ∨
      (∀ K' : AVal → Eff → Prop, dop P op e H id K') := by
  unfold dop at h
  split at h
  · rename_i f args hc
    obtain ⟨as, ts, rfl, rfl⟩ := callOf_spec hc
    obtain ⟨fid, gs, r, ef, h1, h2, h4, h5⟩ := h
    have hE : EffInW (.call { callee := .value f, args := as, argTypes := ts }) e H id ef := by
      rcases h4 with ⟨rfl, _⟩ | ⟨sz, xs, _, _, rfl, _⟩ | ⟨r0, o', rfl, h6, h7, _⟩
      · trivial
      · exact ⟨rfl, rfl⟩
      · exact ⟨rfl, h6, h7⟩
    refine .inl ⟨r, ef, h5, hE, fun H' e' hlen he hH K' hk => ?_⟩
    have e1 : e' f = e f := he _ (by simp [Op.operands, Call.operands])
    have e2 : as.toList.map e' = as.toList.map e := map_congr' fun x hx => he x (by simp [Op.operands, Call.operands]; exact .inr (by simpa using hx))
    simp only [dop, callOf]
    refine ⟨fid, gs, r, ef, by rw [e1]; exact h1, h2, ?_, hk⟩
    rw [e2]
    have hfz : mapO (frz1 H') (as.toList.map e) = mapO (frz1 H) (as.toList.map e) := frzA_eq (H := H) (H' := H') hH
    unfold DSpec at *
    rw [hfz]
    rcases h4 with h4 | h4 | ⟨r0, o', h6, h7, h8, h9⟩
    · exact .inl h4
    · exact .inr (.inl h4)
    · have hH : ∀ q ∈ ridA (as.toList.map e), H'[q]? = H[q]? := hH
      exact .inr (.inr ⟨r0, o', h6, h7, by rw [hH r0 h7]; exact h8, fun st H2 hl2 ha2 => h9 st H2 (hl2.trans hlen) fun q hq => (ha2 q hq).trans (hH q hq)⟩)
  · rename_i hc
    have hd : drawable op = true := hd.resolve_left (by rw [hc]; simp)
    rcases astep_det hd h with ⟨v, ef, h1, h2, h3⟩ | h1
    · refine .inl ⟨v, ef, h1, h2.w, fun H' e' _ he hH K' hk => ?_⟩
      simp only [dop, hc]
      rw [(astep_congr he hd).1]
      exact h3 H' hH K' hk
    · exact .inr fun K' => by simp only [dop, hc]; exact h1 K'

/-- where an outcome lies -/
def LocIn (i id : Nat) (o : Oper) (H : List AObj) (en : Log) (ef : Eff) : Prop :=
  (∀ p ∈ en, p.1 = i) ∧ match ef with
  | .none => True
  | .new j _ => opNew o.op = true ∧ j = id ∧ ∃ p ∈ en, p.2.2 = true ∧ id ∈ p.2.1
  | .set r _ => (∃ p ∈ en, p.2.2 = true ∧ r ∈ p.2.1) ∧ ∃ x, H[r]? = some x ∧ x ≠ .resv

theorem mkEnt_mem {i : Nat} {S : List Nat} {w : Bool} {p : Nat × List Nat × Bool} (h : p ∈ mkEnt i S w) : p = (i, S, w) := by
  unfold mkEnt at h
  split at h
  · cases h
  · exact List.mem_singleton.1 h
theorem mkEnt_in {i : Nat} {S : List Nat} {w : Bool} {r : Nat} (h : r ∈ S) : (i, S, w) ∈ mkEnt i S w := by
  unfold mkEnt
  split
  · cases h
  · exact List.mem_singleton.2 rfl

def DOut (P : Program) (all : List Oper) (o : Oper) (i id : Nat) (K : DK) (fr : Fr) (H : List AObj) (en : Log) (v : AVal) (ef : Eff) : Prop :=
  K en v ef ∧ LocIn i id o H en ef ∧ ∀ (fr' : Fr) (H' : List AObj), H'.length = H.length → (∀ t ∈ o.looksAt all.toArray, get fr' t = get fr t) → (∀ p ∈ en, ∀ r ∈ p.2.1, H'[r]? = H[r]?) →
    ∀ K' : DK, K' en v ef → dstep P all o i id K' fr' H'

theorem drun_det {o : Oper} {i id : Nat} {K : DK} {fr : Fr} {H : List AObj} (hd : dOK o.op) (h : drun P o.op i id K fr H) :
    (∃ en v ef, K en v ef ∧ LocIn i id o H en ef ∧ ∀ (fr' : Fr) (H' : List AObj), H'.length = H.length → (∀ t, .tmp t ∈ o.op.operands.toList → get fr' t = get fr t) → (∀ p ∈ en, ∀ r ∈ p.2.1, H'[r]? = H[r]?) →
      ∀ K' : DK, K' en v ef → drun P o.op i id K' fr' H') ∨ ∀ K' : DK, drun P o.op i id K' fr H := by
  unfold drun at h
  rcases dop_det hd h with ⟨v, ef, h1, h2, h3⟩ | h1
  · refine .inl ⟨ents i id o.op (ev fr), v, ef, h1, ⟨fun p hp => by rw [mkEnt_mem hp], ?_⟩, fun fr' H' hlen hf hH K' hk => ?_⟩
    · cases ef with
      | none => trivial
      | new j x =>
        obtain ⟨g1, rfl⟩ := h2
        exact ⟨g1, rfl, _, mkEnt_in (r := j) (by rw [if_pos g1]; exact List.mem_cons_self ..), by simp [g1], by simp [g1]⟩
      | set r x =>
        obtain ⟨g1, g2, g3⟩ := h2
        have : r ∈ (if opNew o.op = true then id :: touch o.op (ev fr) else touch o.op (ev fr)) := by split <;> first | exact List.mem_cons_of_mem _ g2 | exact g2
        exact ⟨⟨_, mkEnt_in this, g1, this⟩, g3⟩
    · have he : ∀ x ∈ o.op.operands.toList, ev fr' x = ev fr x := by
        intro x hx
        cases x with
        | tmp t => exact hf t hx
        | _ => rfl
      have ht : ∀ r ∈ touch o.op (ev fr), H'[r]? = H[r]? := by
        intro r hr
        have : r ∈ (if opNew o.op = true then id :: touch o.op (ev fr) else touch o.op (ev fr)) := by split <;> first | exact List.mem_cons_of_mem _ hr | exact hr
        exact hH _ (mkEnt_in this) r this
      have e2 : touch o.op (ev fr') = touch o.op (ev fr) := by
        rcases hd with hd | hd
        · cases hc : callOf o.op with
          | none => rw [hc] at hd; cases hd
          | some fa =>
            obtain ⟨as, ts, ho, -⟩ := callOf_spec (f := fa.1) (args := fa.2) hc
            rw [ho] at he ⊢
            simp only [touch]
            rw [map_congr' fun x hx => he x (by simp [Op.operands, Call.operands]; exact .inr (by simpa using hx))]
        · exact (astep_congr (P := P) (H := H) (id := id) (K := fun _ _ => True) he hd).2
      unfold drun
      rw [show ents i id o.op (ev fr') = ents i id o.op (ev fr) by unfold ents; rw [e2]]
      exact h3 H' (ev fr') hlen he ht _ hk
  · exact .inr fun K' => h1 _

theorem dstep_det {all : List Oper} {o : Oper} {i id : Nat} {K : DK} {fr : Fr} {H : List AObj} (hd : dOK o.op) (h : dstep P all o i id K fr H) :
    (∃ en v ef, DOut P all o i id K fr H en v ef) ∨ ∀ K' : DK, dstep P all o i id K' fr H := by
  have hops : ∀ {t}, .tmp t ∈ o.op.operands.toList → t ∈ o.looksAt all.toArray := by
    intro t ht
    unfold Oper.looksAt
    exact List.mem_append_left _ (List.mem_filterMap.2 ⟨_, ht, rfl⟩)
  unfold dstep at h
  cases hg : o.guard with
  | none =>
    simp only [hg] at h
    rcases drun_det hd h with ⟨en, v, ef, h1, h2, h3⟩ | h1
    · exact .inl ⟨en, v, ef, h1, h2, fun fr' H' hlen hf hH K' hk => by simp only [dstep, hg]; exact h3 fr' H' hlen (fun t ht => hf t (hops ht)) hH K' hk⟩
    · exact .inr fun K' => by simp only [dstep, hg]; exact h1 K'
  | some jw =>
    obtain ⟨j, want⟩ := jw
    cases hdd : (all[j]?).bind (·.dst) with
    | none =>
      simp only [hg, hdd] at h
      exact .inl ⟨[], _, _, h, ⟨(by simp), trivial⟩, fun fr' H' _ hf hH K' hk => by simp only [dstep, hg, hdd]; exact hk⟩
    | some d =>
      simp only [hg, hdd] at h
      have hdl : d ∈ o.looksAt all.toArray := by
        unfold Oper.looksAt
        refine List.mem_append_right _ ?_
        simp [hg, hdd]
      have hs : ∀ (fr' : Fr) (H' : List AObj) (K' : DK), (∀ t ∈ o.looksAt all.toArray, get fr' t = get fr t) → aguardK (get fr d) want (drun P o.op i id K') (dskip K') fr' H' → dstep P all o i id K' fr' H' := by
        intro fr' H' K' hf hh
        simp only [dstep, hg, hdd]
        rw [hf d hdl]; exact hh
      unfold aguardK at h
      split at h
      · rename_i c hc
        by_cases hcw : c = want
        · rcases drun_det hd (h.1 hcw) with ⟨en, v, ef, h1, h2, h3⟩ | h1
          · exact .inl ⟨en, v, ef, h1, h2, fun fr' H' hlen hf hH K' hk => hs fr' H' K' hf (by rw [hc]; exact ⟨fun _ => h3 fr' H' hlen (fun t ht => hf t (hops ht)) hH K' hk, fun hn => absurd hcw hn⟩)⟩
          · exact .inr fun K' => hs fr H K' (fun _ _ => rfl) (by rw [hc]; exact ⟨fun _ => h1 K', fun hn => absurd hcw hn⟩)
        · exact .inl ⟨[], _, _, h.2 hcw, ⟨(by simp), trivial⟩, fun fr' H' _ hf hH K' hk => hs fr' H' K' hf (by rw [hc]; exact ⟨fun hy => absurd hy hcw, fun _ => hk⟩)⟩
      · rename_i vs hc
        exact .inl ⟨[], _, _, h, ⟨(by simp), trivial⟩, fun fr' H' _ hf hH K' hk => hs fr' H' K' hf (by rw [hc]; exact hk)⟩
      · exact h.elim
end
end Go.Ab
