/- Our own texts: a layer of abstract values over the model, the walks of the functions, the plain laws; joined and shortened by a small program of our own (wip/dce2.py, wip/pack.py). -/
import Derived.Test.YtooopbnnhbacjaaGreatA3
namespace Go.Proofs.YtooopbnnhbacjaaGreat
open Go Go.Ab
attribute [local irreducible] AWP Bg B9 Aq Go.Ab.Sub alist dlist Ca Bt Ew Mg
set_option maxRecDepth 100000
set_option maxHeartbeats 4000000
set_option linter.unusedSimpArgs false
set_option linter.unusedVariables false
noncomputable section
def H0 (l:List Bi) (p:Bi):Option ((List Bi)×Int):=
  (F1 l).bind fun y1=>(bif (decide (y1≠0))then some ([],y1)else (Bh l).bind fun y2=>(Cc l p).bind fun y3=>(bif (!y3)then chk (y2.length+1) ((F1 (y2++[p])).bind fun y4=>(bif (decide (y4≠0))then some ([],y4)else some ((y2++[p]),0)))else (F1 y2).bind fun y5=>(bif (decide (y5≠0))then some ([],y5)else some (y2,0))))
theorem Lw (l:List Bi) (p:Bi) {r:(List Bi)×Int} (h:H0 l p=some r):Ci Tryz.prog 21 [.sl 4 (l.map Az),.agg (Az p)] (·= .tuple [.sl 4 (r.1.map Az),.int .i64 r.2]):=by
  refine Ci.nle (Ci.intro Tryz.func21 rfl rfl (by show _≤30;simp) ?_)
  unfold H0 at h
  (try simp +decide -implicitDefEqProofs only[go_sem])
  refine AWP.seq ?_
  refine AWP.region rfl ?_;intro K g
  (try simp +decide -implicitDefEqProofs only[go_sem])
  refine g _ _ ?_
  refine Aa ?_
  refine AWP.seq ?_
  refine AWP.seq ?_
  refine AWP.region rfl ?_;intro K g
  (try simp +decide -implicitDefEqProofs only[go_sem])
  obtain⟨y1,ch,h⟩:=A2 h
  refine Bg.pure Tryz.call49 (F0 l ch) rfl fun _ hr=>?_
  subst hr
  (try simp +decide -implicitDefEqProofs only[go_sem])
  refine g _ _ ?_
  refine Aa ?_
  refine AWP.seq ?_
  refine AWP.region rfl ?_;intro K g
  (try simp +decide -implicitDefEqProofs only[go_sem])
  refine g _ _ ?_
  refine Aa ?_
  refine AWP.cond (Ai (fun hc=>?_) (fun hc=>?_))
  ·replace h:=Au h hc
   refine AWP.seq ?_
   refine AWP.region rfl ?_;intro K g
   (try simp +decide -implicitDefEqProofs only[go_sem])
   refine g _ _ ?_
   refine Aa ?_
   refine AWP.ret ?_
   refine Ad ?_
   obtain rfl:=Ag h
   simp +decide -implicitDefEqProofs only[go_sem,Ae,Ac.int.injEq,Int.natCast_zero,List.replicate_zero,List.length_take,List.length_drop,Ac.own.injEq,reduceCtorEq,Int.reduceAdd,Bc,Bd,A8,Bb,A9,Tryz.results21]
  replace h:=Av h hc
  refine AWP.skip ?_
  refine Aa ?_
  refine AWP.seq ?_
  refine AWP.region rfl ?_;intro K g
  (try simp +decide -implicitDefEqProofs only[go_sem])
  obtain⟨y2,dd,h⟩:=A2 h
  refine Bg.row Tryz.call40 (Bs l dd) rfl 1 rfl ?_
  (try simp +decide -implicitDefEqProofs only[go_sem,bT])
  refine g _ _ ?_
  refine Aa ?_
  refine AWP.seq ?_
  refine AWP.seq ?_
  refine AWP.region rfl ?_;intro K g
  (try simp +decide -implicitDefEqProofs only[go_sem])
  obtain⟨y3,ec,h⟩:=A2 h
  refine Bg.pure Tryz.call50 (Dp l p ec) rfl fun _ hr=>?_
  subst hr
  (try simp +decide -implicitDefEqProofs only[go_sem])
  refine g _ _ ?_
  refine Aa ?_
  refine AWP.cond (Ai (fun hc=>?_) (fun hc=>?_))
  ·replace h:=Au h hc
   refine AWP.region rfl ?_;intro K g
   (try simp +decide -implicitDefEqProofs only[go_sem])
   obtain⟨hk,h⟩:=D6 h
   (repeat refine rp ?_);try simp +decide -implicitDefEqProofs only[go_sem]
   refine g _ _ ?_
   refine Aa ?_
   refine AWP.seq ?_
   refine AWP.seq ?_
   refine AWP.region rfl ?_;intro K g
   (try simp +decide -implicitDefEqProofs only[go_sem])
   obtain⟨y4,gj,h⟩:=A2 h
   refine Bg.snap Tryz.call49 (F0 (y2++[p]) gj) (by simp +decide -implicitDefEqProofs only[go_sem]) (by rintro _ rfl;rfl) fun _ hr=>?_
   subst hr
   (try simp +decide -implicitDefEqProofs only[go_sem])
   refine g _ _ ?_
   refine Aa ?_
   refine AWP.seq ?_
   refine AWP.region rfl ?_;intro K g
   (try simp +decide -implicitDefEqProofs only[go_sem])
   refine g _ _ ?_
   refine Aa ?_
   refine AWP.cond (Ai (fun hc=>?_) (fun hc=>?_))
   ·replace h:=Au h hc
    refine AWP.seq ?_
    refine AWP.region rfl ?_;intro K g
    (try simp +decide -implicitDefEqProofs only[go_sem])
    refine g _ _ ?_
    refine Aa ?_
    refine AWP.ret ?_
    refine Ad ?_
    obtain rfl:=Ag h
    simp +decide -implicitDefEqProofs only[go_sem,Ae,Ac.int.injEq,Int.natCast_zero,List.replicate_zero,List.length_take,List.length_drop,Ac.own.injEq,reduceCtorEq,Int.reduceAdd,Bc,Bd,A8,Bb,A9,Tryz.results21]
   replace h:=Av h hc
   refine AWP.skip ?_
   refine Aa ?_
   refine AWP.seq ?_
   refine AWP.region rfl ?_;intro K g
   (try simp +decide -implicitDefEqProofs only[go_sem])
   refine g _ _ ?_
   refine Aa ?_
   refine AWP.ret ?_
   obtain rfl:=Ag h
   simp +decide -implicitDefEqProofs only[go_sem,Ae,Ac.int.injEq,Int.natCast_zero,List.replicate_zero,List.length_take,List.length_drop,Ac.own.injEq,reduceCtorEq,Int.reduceAdd,Bc,Bd,A8,Bb,A9,Tryz.results21]
  replace h:=Av h hc
  refine AWP.skip ?_
  refine Aa ?_
  refine AWP.seq ?_
  refine AWP.seq ?_
  refine AWP.region rfl ?_;intro K g
  (try simp +decide -implicitDefEqProofs only[go_sem])
  obtain⟨y5,fm,h⟩:=A2 h
  refine Bg.snap Tryz.call49 (F0 y2 fm) (by simp +decide -implicitDefEqProofs only[go_sem]) (by rintro _ rfl;rfl) fun _ hr=>?_
  subst hr
  (try simp +decide -implicitDefEqProofs only[go_sem])
  refine g _ _ ?_
  refine Aa ?_
  refine AWP.seq ?_
  refine AWP.region rfl ?_;intro K g
  (try simp +decide -implicitDefEqProofs only[go_sem])
  refine g _ _ ?_
  refine Aa ?_
  refine AWP.cond (Ai (fun hc=>?_) (fun hc=>?_))
  ·replace h:=Au h hc
   refine AWP.seq ?_
   refine AWP.region rfl ?_;intro K g
   (try simp +decide -implicitDefEqProofs only[go_sem])
   refine g _ _ ?_
   refine Aa ?_
   refine AWP.ret ?_
   refine Ad ?_
   obtain rfl:=Ag h
   simp +decide -implicitDefEqProofs only[go_sem,Ae,Ac.int.injEq,Int.natCast_zero,List.replicate_zero,List.length_take,List.length_drop,Ac.own.injEq,reduceCtorEq,Int.reduceAdd,Bc,Bd,A8,Bb,A9,Tryz.results21]
  replace h:=Av h hc
  refine AWP.skip ?_
  refine Aa ?_
  refine AWP.seq ?_
  refine AWP.region rfl ?_;intro K g
  (try simp +decide -implicitDefEqProofs only[go_sem])
  refine g _ _ ?_
  refine Aa ?_
  refine AWP.ret ?_
  obtain rfl:=Ag h
  simp +decide -implicitDefEqProofs only[go_sem,Ae,Ac.int.injEq,Int.natCast_zero,List.replicate_zero,List.length_take,List.length_drop,Ac.own.injEq,reduceCtorEq,Int.reduceAdd,Bc,Bd,A8,Bb,A9,Tryz.results21]
def Dc (dk:Nat) (fk:Ao) (sv:(List Ao)):Option (Out ((List Ao)) (Be×Int)):=
  (Ch sv ((dk:Nat):Int)).bind fun aa=>(A3 aa.Shares).bind fun kb=>some (Out.next (sv.set dk (Ao.mk aa.Number aa.Span aa.Closed kb)))
def Di (b:Be) (number:Int) (due:List Ax) (received:List Ax):Option (Be×Int):=
  (bif (decide (number<1))then some ((Be.mk [] [] []),8)else (bif (decide (((b.Periods.length:Nat):Int)<number))then some ((Be.mk [] [] []),8)else (Dg b).bind fun y1=>(bif (decide (number≠y1))then some ((Be.mk [] [] []),10)else (C4 due).bind fun y2=>(bif (!y2)then some ((Be.mk [] [] []),1)else (C4 received).bind fun y3=>(bif (!y3)then some ((Be.mk [] [] []),1)else (D3 due).bind fun y4=>(D3 received).bind fun y5=>(bif (decide (y4≠y5))then some ((Be.mk [] [] []),1)else (Bk b.Periods).bind fun y6=>(Bh b.Postings).bind fun y7=>(Bj b.Rides).bind fun y8=>(Bo Dc 0 y6 y6).bind fun o10=>o10.on fun s10=>(Cl due received).bind fun kz=>(Fe kz).bind fun iz=>(bif (decide (0<((iz.length:Nat):Int)))then (Ch iz 0).bind fun gi=>(H0 y7 (Bi.mk (IntKind.i64.wrap ((IntKind.i64.wrap ((IntKind.i64.wrap (number*100))+0))+1)) gi.From gi.To gi.Amount)).bind fun qi=>(bif (decide (qi.2≠0))then some ((Be.mk [] [] []),qi.2)else (bif (decide (1<((iz.length:Nat):Int)))then none else(Ch s10 (IntKind.i64.wrap (number - 1))).bind fun bx=>(A3 due).bind fun iy=>some ((Be.mk ((s10.set (IntKind.i64.wrap (number - 1)).toNat (Ao.mk bx.Number bx.Span true bx.Shares)).set (IntKind.i64.wrap (number - 1)).toNat (Ao.mk bx.Number bx.Span true iy)) qi.1 y8),0)))else (Ch s10 (IntKind.i64.wrap (number - 1))).bind fun bt=>(A3 due).bind fun qx=>some ((Be.mk ((s10.set (IntKind.i64.wrap (number - 1)).toNat (Ao.mk bt.Number bt.Span true bt.Shares)).set (IntKind.i64.wrap (number - 1)).toNat (Ao.mk bt.Number bt.Span true qx)) y7 y8),0))))))))
theorem Hx (b:Be) (number:Int) (due:List Ax) (received:List Ax) {r:Be×Int} (h:Di b number due received=some r):Aq Tryz.prog 8 [.agg (Cu b),.int .i64 number,.sl 2 (due.map Am),.sl 2 (received.map Am)] (·= .tuple [.agg (Cu r.1),.int .i64 r.2]):=by
  refine Aq.nle (Aq.intro Tryz.func8 rfl rfl (by show _≤100;simp) ?_)
  unfold Di at h
  (try simp +decide -implicitDefEqProofs only[go_sem,Int.reduceAdd,Int.reduceMul,Int.reduceNeg,Int.reduceSub,bS,List.length_set,List.take_of_length_le,Nat.le_refl,Af])
  refine AWP.seq ?_
  refine AWP.region rfl ?_;intro K g
  (try simp +decide -implicitDefEqProofs only[go_sem,Int.reduceAdd,Int.reduceMul,Int.reduceNeg,Int.reduceSub,bS,List.length_set,List.take_of_length_le,Nat.le_refl,Af])
  refine g _ _ ?_
  refine Aa ?_
  refine AWP.seq ?_
  refine AWP.seq ?_
  refine AWP.region rfl ?_;intro K g
  (try simp +decide -implicitDefEqProofs only[go_sem,Int.reduceAdd,Int.reduceMul,Int.reduceNeg,Int.reduceSub,bS,List.length_set,List.take_of_length_le,Nat.le_refl,Af])
  refine Ak (fun hc=>?_) (fun hc=>?_)
  ·replace h:=Av h hc
   (try simp +decide -implicitDefEqProofs only[go_sem,hc,Int.reduceAdd,Int.reduceMul,Int.reduceNeg,Int.reduceSub,bS,List.length_set,List.take_of_length_le,Nat.le_refl,Af])
   intro hm
   refine g _ _ ?_
   refine Aa ?_
   refine AWP.cond (Ai (fun hc=>?_) (fun hc=>?_))
   ·replace h:=Au h hc
    refine AWP.seq ?_
    refine AWP.region rfl ?_;intro K g
    (try simp +decide -implicitDefEqProofs only[go_sem,Int.reduceAdd,Int.reduceMul,Int.reduceNeg,Int.reduceSub,bS,List.length_set,List.take_of_length_le,Nat.le_refl,Af])
    refine g _ _ ?_
    refine Aa ?_
    refine AWP.ret ?_
    refine Ad ?_
    obtain rfl:=Ag h
    simp +decide -implicitDefEqProofs only[go_sem,Ae,Ac.int.injEq,Int.natCast_zero,List.replicate_zero,List.length_take,List.length_drop,Ac.own.injEq,reduceCtorEq,Int.reduceAdd,Bc,Bd,A8,Bb,A9,Tryz.results8,Int.reduceAdd,Int.reduceMul,Int.reduceNeg,Int.reduceSub,bS,List.length_set,List.take_of_length_le,Nat.le_refl,Af]
   replace h:=Av h hc
   refine AWP.skip ?_
   refine Aa ?_
   refine AWP.seq ?_
   refine AWP.seq ?_
   refine AWP.region rfl ?_;intro K g
   (try simp +decide -implicitDefEqProofs only[go_sem,Int.reduceAdd,Int.reduceMul,Int.reduceNeg,Int.reduceSub,bS,List.length_set,List.take_of_length_le,Nat.le_refl,Af])
   obtain⟨y1,ch,h⟩:=A2 h
   refine Bg.pure Tryz.call7 (Ft b ch) rfl fun _ hr=>?_
   subst hr
   (try simp +decide -implicitDefEqProofs only[go_sem,Int.reduceAdd,Int.reduceMul,Int.reduceNeg,Int.reduceSub,bS,List.length_set,List.take_of_length_le,Nat.le_refl,Af])
   refine g _ _ ?_
   refine Aa ?_
   refine AWP.cond (Ai (fun hc=>?_) (fun hc=>?_))
   ·replace h:=Au h hc
    refine AWP.seq ?_
    refine AWP.region rfl ?_;intro K g
    (try simp +decide -implicitDefEqProofs only[go_sem,Int.reduceAdd,Int.reduceMul,Int.reduceNeg,Int.reduceSub,bS,List.length_set,List.take_of_length_le,Nat.le_refl,Af])
    refine g _ _ ?_
    refine Aa ?_
    refine AWP.ret ?_
    refine Ad ?_
    obtain rfl:=Ag h
    simp +decide -implicitDefEqProofs only[go_sem,Ae,Ac.int.injEq,Int.natCast_zero,List.replicate_zero,List.length_take,List.length_drop,Ac.own.injEq,reduceCtorEq,Int.reduceAdd,Bc,Bd,A8,Bb,A9,Tryz.results8,Int.reduceAdd,Int.reduceMul,Int.reduceNeg,Int.reduceSub,bS,List.length_set,List.take_of_length_le,Nat.le_refl,Af]
   replace h:=Av h hc
   refine AWP.skip ?_
   refine Aa ?_
   refine AWP.seq ?_
   refine AWP.seq ?_
   refine AWP.region rfl ?_;intro K g
   (try simp +decide -implicitDefEqProofs only[go_sem,Int.reduceAdd,Int.reduceMul,Int.reduceNeg,Int.reduceSub,bS,List.length_set,List.take_of_length_le,Nat.le_refl,Af])
   obtain⟨y2,dd,h⟩:=A2 h
   refine Bg.pure Tryz.call17 (Gn due dd) rfl fun _ hr=>?_
   subst hr
   (try simp +decide -implicitDefEqProofs only[go_sem,Int.reduceAdd,Int.reduceMul,Int.reduceNeg,Int.reduceSub,bS,List.length_set,List.take_of_length_le,Nat.le_refl,Af])
   refine Ak (fun hc=>?_) (fun hc=>?_)
   ·replace h:=Av h hc
    (try simp +decide -implicitDefEqProofs only[go_sem,hc,Int.reduceAdd,Int.reduceMul,Int.reduceNeg,Int.reduceSub,bS,List.length_set,List.take_of_length_le,Nat.le_refl,Af])
    obtain⟨y3,ec,h⟩:=A2 h
    refine Bg.pure Tryz.call17 (Gn received ec) rfl fun _ hr=>?_
    subst hr
    (try simp +decide -implicitDefEqProofs only[go_sem,Int.reduceAdd,Int.reduceMul,Int.reduceNeg,Int.reduceSub,bS,List.length_set,List.take_of_length_le,Nat.le_refl,Af])
    refine Ak (fun hc=>?_) (fun hc=>?_)
    ·replace h:=Av h hc
     (try simp +decide -implicitDefEqProofs only[go_sem,hc,Int.reduceAdd,Int.reduceMul,Int.reduceNeg,Int.reduceSub,bS,List.length_set,List.take_of_length_le,Nat.le_refl,Af])
     obtain⟨y4,gj,h⟩:=A2 h
     refine Bg.pure Tryz.call18 (Hu due gj) rfl fun _ hr=>?_
     subst hr
     (try simp +decide -implicitDefEqProofs only[go_sem,Int.reduceAdd,Int.reduceMul,Int.reduceNeg,Int.reduceSub,bS,List.length_set,List.take_of_length_le,Nat.le_refl,Af])
     obtain⟨y5,fm,h⟩:=A2 h
     refine Bg.pure Tryz.call18 (Hu received fm) rfl fun _ hr=>?_
     subst hr
     (try simp +decide -implicitDefEqProofs only[go_sem,Int.reduceAdd,Int.reduceMul,Int.reduceNeg,Int.reduceSub,bS,List.length_set,List.take_of_length_le,Nat.le_refl,Af])
     refine g _ _ ?_
     refine Aa ?_
     refine AWP.cond (Ai (fun hc=>?_) (fun hc=>?_))
     ·replace h:=Au h hc
      refine AWP.seq ?_
      refine AWP.region rfl ?_;intro K g
      (try simp +decide -implicitDefEqProofs only[go_sem,Int.reduceAdd,Int.reduceMul,Int.reduceNeg,Int.reduceSub,bS,List.length_set,List.take_of_length_le,Nat.le_refl,Af])
      refine g _ _ ?_
      refine Aa ?_
      refine AWP.ret ?_
      refine Ad ?_
      obtain rfl:=Ag h
      simp +decide -implicitDefEqProofs only[go_sem,Ae,Ac.int.injEq,Int.natCast_zero,List.replicate_zero,List.length_take,List.length_drop,Ac.own.injEq,reduceCtorEq,Int.reduceAdd,Bc,Bd,A8,Bb,A9,Tryz.results8,Int.reduceAdd,Int.reduceMul,Int.reduceNeg,Int.reduceSub,bS,List.length_set,List.take_of_length_le,Nat.le_refl,Af]
     replace h:=Av h hc
     refine AWP.skip ?_
     refine Aa ?_
     refine AWP.seq ?_
     refine AWP.region rfl ?_;intro K g
     (try simp +decide -implicitDefEqProofs only[go_sem,Int.reduceAdd,Int.reduceMul,Int.reduceNeg,Int.reduceSub,bS,List.length_set,List.take_of_length_le,Nat.le_refl,Af])
     refine Bg.inline Tryz.call16 Tryz.func16 rfl rfl (by show _≤35;simp) ?_
     (try simp +decide -implicitDefEqProofs only[go_sem,Int.reduceAdd,Int.reduceMul,Int.reduceNeg,Int.reduceSub,bS,List.length_set,List.take_of_length_le,Nat.le_refl,Af])
     refine AWP.seq ?_
     refine AWP.region rfl ?_;intro K g
     (try simp +decide -implicitDefEqProofs only[go_sem,Int.reduceAdd,Int.reduceMul,Int.reduceNeg,Int.reduceSub,bS,List.length_set,List.take_of_length_le,Nat.le_refl,Af])
     refine g _ _ ?_;clear g K
     refine Aa ?_
     refine AWP.seq ?_
     refine AWP.draw Tryz.mixed (by kernel_rfl) ?_;intro K g
     (try simp +decide -implicitDefEqProofs only[go_sem,Int.reduceAdd,Int.reduceMul,Int.reduceNeg,Int.reduceSub,bS,List.length_set,List.take_of_length_le,Nat.le_refl,Af])
     obtain⟨y6,oi,h⟩:=A2 h
     refine B9.row Tryz.call39 (B4 b.Periods oi) rfl ?_
     (try simp +decide -implicitDefEqProofs only[go_sem,bT,Int.reduceAdd,Int.reduceMul,Int.reduceNeg,Int.reduceSub,bS,List.length_set,List.take_of_length_le,Nat.le_refl,Af])
     obtain⟨y7,oh,h⟩:=A2 h
     refine B9.row Tryz.call40 (Bs b.Postings oh) rfl ?_
     (try simp +decide -implicitDefEqProofs only[go_sem,bT,Int.reduceAdd,Int.reduceMul,Int.reduceNeg,Int.reduceSub,bS,List.length_set,List.take_of_length_le,Nat.le_refl,Af])
     obtain⟨y8,q3,h⟩:=A2 h
     refine B9.row Tryz.call41 (B0 b.Rides q3) rfl ?_
     (try simp +decide -implicitDefEqProofs only[go_sem,bT,Int.reduceAdd,Int.reduceMul,Int.reduceNeg,Int.reduceSub,bS,List.length_set,List.take_of_length_le,Nat.le_refl,Af])
     refine g _ _ _ (by kernel_rfl) ?_;clear g K
     refine Aa ?_
     refine AWP.seq ?_
     refine AWP.seq ?_
     refine AWP.region rfl ?_;intro K g
     (try simp +decide -implicitDefEqProofs only[go_sem,Int.reduceAdd,Int.reduceMul,Int.reduceNeg,Int.reduceSub,bS,List.length_set,List.take_of_length_le,Nat.le_refl,Af])
     intro hm
     refine g _ _ ?_;clear g K
     refine Aa ?_
     refine AWP.block ?_
     obtain⟨o10,cj,ng⟩:=A2 h
     clear h
     refine AWP.Cv (ι:=Nat×((List Ao))×(Nat)) (fun zz=>[(2,.ptr 3 0),(3,.ptr 7 0),(17,.int .i64 ((y6.length:Nat):Int)),(18,.int .i64 ((zz.1:Nat):Int))]) (fun zz=>[.box [.sl 5 (b.Periods.map Ay),.sl 4 (b.Postings.map Az),.sl 8 (b.Rides.map A5)],.box [.nils,.nils,.nils],.gone,.box [.nils,.nils,.nils],.row zz.2.2 5 (zz.2.1.map Ay),.row 0 4 (y7.map Az),.row 0 8 (y8.map A5),.box [.own 4 zz.2.2 0 zz.2.1.length,.own 5 0 0 y7.length,.own 6 0 0 y8.length]]) (fun zz=>zz.1≤y6.length∧Bo Dc zz.1 ((y6).drop zz.1) zz.2.1=some o10) (fun zz=>y6.length - zz.1) (0,y6,0) ⟨Nat.zero_le _,cj⟩ (by(simp +decide -implicitDefEqProofs only[go_sem,Ae,Ac.int.injEq,Int.natCast_zero,List.replicate_zero,List.length_take,List.length_drop,Ac.own.injEq,reduceCtorEq,Int.reduceAdd,Int.reduceAdd,Int.reduceMul,Int.reduceNeg,Int.reduceSub,bS,List.length_set,List.take_of_length_le,Nat.le_refl,Af]<;>omega)) (by(simp +decide -implicitDefEqProofs only[go_sem,Ae,Ac.int.injEq,Int.natCast_zero,List.replicate_zero,List.length_take,List.length_drop,Ac.own.injEq,reduceCtorEq,Int.reduceAdd,Int.reduceAdd,Int.reduceMul,Int.reduceNeg,Int.reduceSub,bS,List.length_set,List.take_of_length_le,Nat.le_refl,Af]<;>omega)) (fun x=>⟨rfl,rfl,rfl⟩) ?_
     clear cj
     rintro⟨dk,o4_9,ep⟩ ⟨mu,cj⟩
     dsimp only at mu cj ⊢
     refine AWP.seq ?_
     refine AWP.region rfl ?_;intro K g
     (try simp +decide -implicitDefEqProofs only[go_sem,Int.reduceAdd,Int.reduceMul,Int.reduceNeg,Int.reduceSub,bS,List.length_set,List.take_of_length_le,Nat.le_refl,Af])
     refine g _ _ ?_;clear g K
     refine Aa ?_
     refine AWP.seq ?_
     refine AWP.cond (Ai (fun hc=>?_) (fun hc=>?_))
     ·have jz:dk<y6.length:=by have:=bK hc;omega
      obtain⟨fk,b10,jq,h,cj⟩:=Bw cj jz
      have ox:=Br jq
      have gm:IntKind.i64.wrap (((dk:Nat):Int)+1)=(((dk:Nat):Int)+1):=by rw[wrap_i64]<;>omega
      unfold Dc at h;try dsimp only at h
      refine AWP.skip ?_
      refine Aa ?_
      refine AWP.seq ?_
      refine AWP.block ?_
      refine AWP.seq ?_
      refine AWP.region rfl ?_;intro K g
      (try simp +decide -implicitDefEqProofs only[go_sem,Int.reduceAdd,Int.reduceMul,Int.reduceNeg,Int.reduceSub,bS,List.length_set,List.take_of_length_le,Nat.le_refl,Af])
      refine g _ _ ?_;clear g K
      refine Aa ?_
      refine AWP.draw Tryz.mixed (by kernel_rfl) ?_;intro K g
      (try simp +decide -implicitDefEqProofs only[go_sem,Int.reduceAdd,Int.reduceMul,Int.reduceNeg,Int.reduceSub,bS,List.length_set,List.take_of_length_le,Nat.le_refl,Af])
      obtain⟨aa,bs,h⟩:=A2 h
      refine C5 bs (by first | rfl | exact(Aw _).symm | (simp only[bR,List.length_cons,List.length_nil,List.length_set,bS]<;>omega) | (simp only[List.length_take,List.length_drop,List.length_set,bS]<;>omega)) ?_
      (try simp +decide -implicitDefEqProofs only[go_sem,Int.reduceAdd,Int.reduceMul,Int.reduceNeg,Int.reduceSub,bS,List.length_set,List.take_of_length_le,Nat.le_refl,Af])
      refine Bt.ofNat (f:=Ay) (l:=o4_9) (n:=dk) bs ?_
      (try simp +decide -implicitDefEqProofs only[go_sem,Int.reduceAdd,Int.reduceMul,Int.reduceNeg,Int.reduceSub,bS,List.length_set,List.take_of_length_le,Nat.le_refl,Af])
      obtain⟨kb,jh,h⟩:=A2 h
      refine B9.pure Tryz.call22 (Bq aa.Shares jh) rfl ?_
      (try simp +decide -implicitDefEqProofs only[go_sem,Int.reduceAdd,Int.reduceMul,Int.reduceNeg,Int.reduceSub,bS,List.length_set,List.take_of_length_le,Nat.le_refl,Af])
      refine C5 bs (by first | rfl | exact(Aw _).symm | (simp only[bR,List.length_cons,List.length_nil,List.length_set,bS]<;>omega) | (simp only[List.length_take,List.length_drop,List.length_set,bS]<;>omega)) ?_
      (try simp +decide -implicitDefEqProofs only[go_sem,Int.reduceAdd,Int.reduceMul,Int.reduceNeg,Int.reduceSub,bS,List.length_set,List.take_of_length_le,Nat.le_refl,Af])
      refine Bt.ofNat (f:=Ay) (l:=o4_9) (n:=dk) bs ?_
      have ey:=Ce (y:=(Ao.mk aa.Number aa.Span aa.Closed kb)) bs
      (try simp +decide -implicitDefEqProofs only[go_sem,Int.reduceAdd,Int.reduceMul,Int.reduceNeg,Int.reduceSub,bS,List.length_set,List.take_of_length_le,Nat.le_refl,Af])
      refine g _ _ _ (by kernel_rfl) ?_;clear g K
      refine Al ?_
      refine Aa ?_
      refine AWP.region rfl ?_;intro K g
      (try simp +decide -implicitDefEqProofs only[go_sem,Int.reduceAdd,Int.reduceMul,Int.reduceNeg,Int.reduceSub,bS,List.length_set,List.take_of_length_le,Nat.le_refl,Af])
      refine g _ _ ?_;clear g K
      refine Aa ?_
      obtain rfl:=Ag h
      refine⟨(dk+1,(o4_9.set dk (Ao.mk aa.Number aa.Span aa.Closed kb)),ep),⟨by dsimp only;omega,Bf cj⟩,by dsimp only;omega,?_,?_⟩
      ·(simp +decide -implicitDefEqProofs only[go_sem,Ae,Ac.int.injEq,Int.natCast_zero,List.replicate_zero,List.length_take,List.length_drop,Ac.own.injEq,reduceCtorEq,Int.reduceAdd,gm,Int.reduceAdd,Int.reduceMul,Int.reduceNeg,Int.reduceSub,bS,List.length_set,List.take_of_length_le,Nat.le_refl,Af]<;>omega)
      (simp +decide -implicitDefEqProofs only[go_sem,Ae,Ac.int.injEq,Int.natCast_zero,List.replicate_zero,List.length_take,List.length_drop,Ac.own.injEq,reduceCtorEq,Int.reduceAdd,gm,Int.reduceAdd,Int.reduceMul,Int.reduceNeg,Int.reduceSub,bS,List.length_set,List.take_of_length_le,Nat.le_refl,Af]<;>omega)
     obtain rfl:=B8 cj (fun hl=>by have:=bJ hc;omega)
     have h:=B7 ng;try dsimp only at h
     have ba:y6.length=dk:=by have:=bJ hc;omega
     subst ba
     refine AWP.exit ?_
     refine An ?_
     refine An ?_
     refine A6 ?_
     refine Aa ?_
     refine AWP.seq ?_
     refine AWP.region rfl ?_;intro K g
     (try simp +decide -implicitDefEqProofs only[go_sem,Int.reduceAdd,Int.reduceMul,Int.reduceNeg,Int.reduceSub,bS,List.length_set,List.take_of_length_le,Nat.le_refl,Af])
     refine g _ _ ?_;clear g K
     refine Aa ?_
     refine AWP.ret ?_
     (try simp +decide -implicitDefEqProofs only[go_sem,Tryz.results16,Int.reduceAdd,Int.reduceMul,Int.reduceNeg,Int.reduceSub,bS,List.length_set,List.take_of_length_le,Nat.le_refl,Af])
     refine g _ _ ?_
     refine Aa ?_
     refine AWP.seq ?_
     refine AWP.seq ?_
     refine AWP.region rfl ?_;intro K g
     (try simp +decide -implicitDefEqProofs only[go_sem,Int.reduceAdd,Int.reduceMul,Int.reduceNeg,Int.reduceSub,bS,List.length_set,List.take_of_length_le,Nat.le_refl,Af])
     obtain⟨kz,l3,h⟩:=A2 h
     refine Bg.pure Tryz.call20 (Jg due received l3) rfl fun _ hr=>?_
     subst hr
     (try simp +decide -implicitDefEqProofs only[go_sem,Int.reduceAdd,Int.reduceMul,Int.reduceNeg,Int.reduceSub,bS,List.length_set,List.take_of_length_le,Nat.le_refl,Af])
     obtain⟨iz,jg,h⟩:=A2 h
     refine Bg.pure Tryz.call19 (Mt kz jg) rfl fun _ hr=>?_
     subst hr
     (try simp +decide -implicitDefEqProofs only[go_sem,Int.reduceAdd,Int.reduceMul,Int.reduceNeg,Int.reduceSub,bS,List.length_set,List.take_of_length_le,Nat.le_refl,Af])
     intro hm
     refine g _ _ ?_
     refine Aa ?_
     refine AWP.block ?_
     refine AWP.rounds 2 ?_
     refine Bx.step ?_
     refine AWP.seq ?_
     refine AWP.region rfl ?_;intro K g
     (try simp +decide -implicitDefEqProofs only[go_sem,Int.reduceAdd,Int.reduceMul,Int.reduceNeg,Int.reduceSub,bS,List.length_set,List.take_of_length_le,Nat.le_refl,Af])
     refine g _ _ ?_
     refine Aa ?_
     refine AWP.seq ?_
     refine AWP.cond (Ai (fun hc=>?_) (fun hc=>?_))
     rotate_left
     ·replace h:=Av h hc
      refine AWP.exit ?_
      refine An ?_
      refine An ?_
      refine A6 ?_
      refine Aa ?_
      refine AWP.seq ?_
      refine AWP.region rfl ?_;intro K g
      (try simp +decide -implicitDefEqProofs only[go_sem,Int.reduceAdd,Int.reduceMul,Int.reduceNeg,Int.reduceSub,bS,List.length_set,List.take_of_length_le,Nat.le_refl,Af])
      obtain⟨bt,er,h⟩:=A2 h
      refine C5 er (by first | rfl | exact(Aw _).symm | (simp only[bR,List.length_cons,List.length_nil,List.length_set,bS]<;>omega) | (simp only[List.length_take,List.length_drop,List.length_set,bS]<;>omega)) ?_
      (try simp +decide -implicitDefEqProofs only[go_sem,Int.reduceAdd,Int.reduceMul,Int.reduceNeg,Int.reduceSub,bS,List.length_set,List.take_of_length_le,Nat.le_refl,Af])
      refine Bt.of (f:=Ay) (l:=o4_9) (n:=(IntKind.i64.wrap (number - 1))) er ?_
      have mf:=Ce (y:=(Ao.mk bt.Number bt.Span true bt.Shares)) er
      (try simp +decide -implicitDefEqProofs only[go_sem,Int.reduceAdd,Int.reduceMul,Int.reduceNeg,Int.reduceSub,bS,List.length_set,List.take_of_length_le,Nat.le_refl,Af])
      refine g _ _ ?_
      refine Aa ?_
      refine AWP.seq ?_
      refine AWP.draw Tryz.mixed (by kernel_rfl) ?_;intro K g
      (try simp +decide -implicitDefEqProofs only[go_sem,Int.reduceAdd,Int.reduceMul,Int.reduceNeg,Int.reduceSub,bS,List.length_set,List.take_of_length_le,Nat.le_refl,Af])
      obtain⟨qx,rb,h⟩:=A2 h
      refine B9.pure Tryz.call22 (Bq due rb) rfl ?_
      (try simp +decide -implicitDefEqProofs only[go_sem,Int.reduceAdd,Int.reduceMul,Int.reduceNeg,Int.reduceSub,bS,List.length_set,List.take_of_length_le,Nat.le_refl,Af])
      refine C5 mf (by first | rfl | exact(Aw _).symm | (simp only[bR,List.length_cons,List.length_nil,List.length_set,bS]<;>omega) | (simp only[List.length_take,List.length_drop,List.length_set,bS]<;>omega)) ?_
      (try simp +decide -implicitDefEqProofs only[go_sem,Int.reduceAdd,Int.reduceMul,Int.reduceNeg,Int.reduceSub,bS,List.length_set,List.take_of_length_le,Nat.le_refl,Af])
      refine Bt.of (f:=Ay) (l:=(o4_9.set (IntKind.i64.wrap (number - 1)).toNat (Ao.mk bt.Number bt.Span true bt.Shares))) (n:=(IntKind.i64.wrap (number - 1))) mf ?_
      have wh:=Ce (y:=(Ao.mk bt.Number bt.Span true qx)) mf
      (try simp +decide -implicitDefEqProofs only[go_sem,Int.reduceAdd,Int.reduceMul,Int.reduceNeg,Int.reduceSub,bS,List.length_set,List.take_of_length_le,Nat.le_refl,Af])
      refine g _ _ _ (by kernel_rfl) ?_
      refine Aa ?_
      refine AWP.seq ?_
      refine AWP.region rfl ?_;intro K g
      (try simp +decide -implicitDefEqProofs only[go_sem,Int.reduceAdd,Int.reduceMul,Int.reduceNeg,Int.reduceSub,bS,List.length_set,List.take_of_length_le,Nat.le_refl,Af])
      refine g _ _ ?_
      refine Aa ?_
      refine AWP.ret ?_
      obtain rfl:=Ag h
      simp +decide -implicitDefEqProofs only[go_sem,Ae,Ac.int.injEq,Int.natCast_zero,List.replicate_zero,List.length_take,List.length_drop,Ac.own.injEq,reduceCtorEq,Int.reduceAdd,Bc,Bd,A8,Bb,A9,Tryz.results8,Int.reduceAdd,Int.reduceMul,Int.reduceNeg,Int.reduceSub,bS,List.length_set,List.take_of_length_le,Nat.le_refl,Af]
     replace h:=Au h hc
     refine AWP.skip ?_
     refine Aa ?_
     refine AWP.seq ?_
     refine AWP.block ?_
     refine AWP.seq ?_
     refine AWP.region rfl ?_;intro K g
     (try simp +decide -implicitDefEqProofs only[go_sem,Int.reduceAdd,Int.reduceMul,Int.reduceNeg,Int.reduceSub,bS,List.length_set,List.take_of_length_le,Nat.le_refl,Af])
     obtain⟨gi,oq,h⟩:=A2 h
     refine Ca.of (f:=Ep) (l:=iz) oq ?_
     (try simp +decide -implicitDefEqProofs only[go_sem,Int.reduceAdd,Int.reduceMul,Int.reduceNeg,Int.reduceSub,bS,List.length_set,List.take_of_length_le,Nat.le_refl,Af])
     refine g _ _ ?_
     refine Aa ?_
     refine AWP.seq ?_
     refine AWP.region rfl ?_;intro K g
     (try simp +decide -implicitDefEqProofs only[go_sem,Int.reduceAdd,Int.reduceMul,Int.reduceNeg,Int.reduceSub,bS,List.length_set,List.take_of_length_le,Nat.le_refl,Af])
     refine g _ _ ?_
     refine Aa ?_
     refine AWP.seq ?_
     refine AWP.region rfl ?_;intro K g
     (try simp +decide -implicitDefEqProofs only[go_sem,Int.reduceAdd,Int.reduceMul,Int.reduceNeg,Int.reduceSub,bS,List.length_set,List.take_of_length_le,Nat.le_refl,Af])
     obtain⟨qi,ri,h⟩:=A2 h
     refine Bg.Vu Tryz.call21 (Lw y7 (Bi.mk (IntKind.i64.wrap ((IntKind.i64.wrap ((IntKind.i64.wrap (number*100))+0))+1)) gi.From gi.To gi.Amount) ri) (by simp +decide -implicitDefEqProofs only[go_sem]) fun _ hr=>?_
     subst hr
     (try simp +decide -implicitDefEqProofs only[go_sem,Int.reduceAdd,Int.reduceMul,Int.reduceNeg,Int.reduceSub,bS,List.length_set,List.take_of_length_le,Nat.le_refl,Af])
     refine g _ _ ?_
     refine Aa ?_
     refine AWP.seq ?_
     refine AWP.seq ?_
     refine AWP.region rfl ?_;intro K g
     (try simp +decide -implicitDefEqProofs only[go_sem,Int.reduceAdd,Int.reduceMul,Int.reduceNeg,Int.reduceSub,bS,List.length_set,List.take_of_length_le,Nat.le_refl,Af])
     refine g _ _ ?_
     refine Aa ?_
     refine AWP.cond (Ai (fun hc=>?_) (fun hc=>?_))
     ·replace h:=Au h hc
      refine AWP.seq ?_
      refine AWP.region rfl ?_;intro K g
      (try simp +decide -implicitDefEqProofs only[go_sem,Int.reduceAdd,Int.reduceMul,Int.reduceNeg,Int.reduceSub,bS,List.length_set,List.take_of_length_le,Nat.le_refl,Af])
      refine g _ _ ?_
      refine Aa ?_
      refine AWP.ret ?_
      refine Ad ?_
      refine Aj ?_
      refine Ad ?_
      refine Ad ?_
      refine Aj ?_
      refine Ad ?_
      obtain rfl:=Ag h
      simp +decide -implicitDefEqProofs only[go_sem,Ae,Ac.int.injEq,Int.natCast_zero,List.replicate_zero,List.length_take,List.length_drop,Ac.own.injEq,reduceCtorEq,Int.reduceAdd,Bc,Bd,A8,Bb,A9,Tryz.results8,Int.reduceAdd,Int.reduceMul,Int.reduceNeg,Int.reduceSub,bS,List.length_set,List.take_of_length_le,Nat.le_refl,Af]
     replace h:=Av h hc
     refine AWP.skip ?_
     refine Aa ?_
     refine AWP.region rfl ?_;intro K g
     (try simp +decide -implicitDefEqProofs only[go_sem,Int.reduceAdd,Int.reduceMul,Int.reduceNeg,Int.reduceSub,bS,List.length_set,List.take_of_length_le,Nat.le_refl,Af])
     refine g _ _ ?_
     refine Al ?_
     refine Aa ?_
     refine AWP.region rfl ?_;intro K g
     (try simp +decide -implicitDefEqProofs only[go_sem,Int.reduceAdd,Int.reduceMul,Int.reduceNeg,Int.reduceSub,bS,List.length_set,List.take_of_length_le,Nat.le_refl,Af])
     refine g _ _ ?_
     refine Aa ?_
     refine Bx.step ?_
     refine AWP.seq ?_
     refine AWP.region rfl ?_;intro K g
     (try simp +decide -implicitDefEqProofs only[go_sem,Int.reduceAdd,Int.reduceMul,Int.reduceNeg,Int.reduceSub,bS,List.length_set,List.take_of_length_le,Nat.le_refl,Af])
     refine g _ _ ?_
     refine Aa ?_
     refine AWP.seq ?_
     refine AWP.cond (Ai (fun hc=>?_) (fun hc=>?_))
     ·replace h:=Au h hc
      refine AWP.skip ?_
      cases h
     replace h:=Av h hc
     refine AWP.exit ?_
     refine An ?_
     refine An ?_
     refine A6 ?_
     refine Aa ?_
     refine AWP.seq ?_
     refine AWP.region rfl ?_;intro K g
     (try simp +decide -implicitDefEqProofs only[go_sem,Int.reduceAdd,Int.reduceMul,Int.reduceNeg,Int.reduceSub,bS,List.length_set,List.take_of_length_le,Nat.le_refl,Af])
     obtain⟨bx,de,h⟩:=A2 h
     refine C5 de (by first | rfl | exact(Aw _).symm | (simp only[bR,List.length_cons,List.length_nil,List.length_set,bS]<;>omega) | (simp only[List.length_take,List.length_drop,List.length_set,bS]<;>omega)) ?_
     (try simp +decide -implicitDefEqProofs only[go_sem,Int.reduceAdd,Int.reduceMul,Int.reduceNeg,Int.reduceSub,bS,List.length_set,List.take_of_length_le,Nat.le_refl,Af])
     refine Bt.of (f:=Ay) (l:=o4_9) (n:=(IntKind.i64.wrap (number - 1))) de ?_
     have km:=Ce (y:=(Ao.mk bx.Number bx.Span true bx.Shares)) de
     (try simp +decide -implicitDefEqProofs only[go_sem,Int.reduceAdd,Int.reduceMul,Int.reduceNeg,Int.reduceSub,bS,List.length_set,List.take_of_length_le,Nat.le_refl,Af])
     refine g _ _ ?_
     refine Aa ?_
     refine AWP.seq ?_
     refine AWP.draw Tryz.mixed (by kernel_rfl) ?_;intro K g
     (try simp +decide -implicitDefEqProofs only[go_sem,Int.reduceAdd,Int.reduceMul,Int.reduceNeg,Int.reduceSub,bS,List.length_set,List.take_of_length_le,Nat.le_refl,Af])
     obtain⟨iy,jf,h⟩:=A2 h
     refine B9.pure Tryz.call22 (Bq due jf) rfl ?_
     (try simp +decide -implicitDefEqProofs only[go_sem,Int.reduceAdd,Int.reduceMul,Int.reduceNeg,Int.reduceSub,bS,List.length_set,List.take_of_length_le,Nat.le_refl,Af])
     refine C5 km (by first | rfl | exact(Aw _).symm | (simp only[bR,List.length_cons,List.length_nil,List.length_set,bS]<;>omega) | (simp only[List.length_take,List.length_drop,List.length_set,bS]<;>omega)) ?_
     (try simp +decide -implicitDefEqProofs only[go_sem,Int.reduceAdd,Int.reduceMul,Int.reduceNeg,Int.reduceSub,bS,List.length_set,List.take_of_length_le,Nat.le_refl,Af])
     refine Bt.of (f:=Ay) (l:=(o4_9.set (IntKind.i64.wrap (number - 1)).toNat (Ao.mk bx.Number bx.Span true bx.Shares))) (n:=(IntKind.i64.wrap (number - 1))) km ?_
     have se:=Ce (y:=(Ao.mk bx.Number bx.Span true iy)) km
     (try simp +decide -implicitDefEqProofs only[go_sem,Int.reduceAdd,Int.reduceMul,Int.reduceNeg,Int.reduceSub,bS,List.length_set,List.take_of_length_le,Nat.le_refl,Af])
     refine g _ _ _ (by kernel_rfl) ?_
     refine Aa ?_
     refine AWP.seq ?_
     refine AWP.region rfl ?_;intro K g
     (try simp +decide -implicitDefEqProofs only[go_sem,Int.reduceAdd,Int.reduceMul,Int.reduceNeg,Int.reduceSub,bS,List.length_set,List.take_of_length_le,Nat.le_refl,Af])
     refine g _ _ ?_
     refine Aa ?_
     refine AWP.ret ?_
     obtain rfl:=Ag h
     simp +decide -implicitDefEqProofs only[go_sem,Ae,Ac.int.injEq,Int.natCast_zero,List.replicate_zero,List.length_take,List.length_drop,Ac.own.injEq,reduceCtorEq,Int.reduceAdd,Bc,Bd,A8,Bb,A9,Tryz.results8,Int.reduceAdd,Int.reduceMul,Int.reduceNeg,Int.reduceSub,bS,List.length_set,List.take_of_length_le,Nat.le_refl,Af]
    replace h:=Au h hc
    (try simp +decide -implicitDefEqProofs only[go_sem,hc,Bool.not_false,Int.reduceAdd,Int.reduceMul,Int.reduceNeg,Int.reduceSub,bS,List.length_set,List.take_of_length_le,Nat.le_refl,Af])
    refine g _ _ ?_
    refine Aa ?_
    refine AWP.cond (A7 ?_)
    refine AWP.seq ?_
    refine AWP.region rfl ?_;intro K g
    (try simp +decide -implicitDefEqProofs only[go_sem,Int.reduceAdd,Int.reduceMul,Int.reduceNeg,Int.reduceSub,bS,List.length_set,List.take_of_length_le,Nat.le_refl,Af])
    refine g _ _ ?_
    refine Aa ?_
    refine AWP.ret ?_
    refine Ad ?_
    obtain rfl:=Ag h
    simp +decide -implicitDefEqProofs only[go_sem,Ae,Ac.int.injEq,Int.natCast_zero,List.replicate_zero,List.length_take,List.length_drop,Ac.own.injEq,reduceCtorEq,Int.reduceAdd,Bc,Bd,A8,Bb,A9,Tryz.results8,Int.reduceAdd,Int.reduceMul,Int.reduceNeg,Int.reduceSub,bS,List.length_set,List.take_of_length_le,Nat.le_refl,Af]
   replace h:=Au h hc
   (try simp +decide -implicitDefEqProofs only[go_sem,hc,Bool.not_false,Int.reduceAdd,Int.reduceMul,Int.reduceNeg,Int.reduceSub,bS,List.length_set,List.take_of_length_le,Nat.le_refl,Af])
   refine g _ _ ?_
   refine Aa ?_
   refine AWP.cond (A7 ?_)
   refine AWP.seq ?_
   refine AWP.region rfl ?_;intro K g
   (try simp +decide -implicitDefEqProofs only[go_sem,Int.reduceAdd,Int.reduceMul,Int.reduceNeg,Int.reduceSub,bS,List.length_set,List.take_of_length_le,Nat.le_refl,Af])
   refine g _ _ ?_
   refine Aa ?_
   refine AWP.ret ?_
   refine Ad ?_
   obtain rfl:=Ag h
   simp +decide -implicitDefEqProofs only[go_sem,Ae,Ac.int.injEq,Int.natCast_zero,List.replicate_zero,List.length_take,List.length_drop,Ac.own.injEq,reduceCtorEq,Int.reduceAdd,Bc,Bd,A8,Bb,A9,Tryz.results8,Int.reduceAdd,Int.reduceMul,Int.reduceNeg,Int.reduceSub,bS,List.length_set,List.take_of_length_le,Nat.le_refl,Af]
  replace h:=Au h hc
  (try simp +decide -implicitDefEqProofs only[go_sem,hc,Bool.not_false,Int.reduceAdd,Int.reduceMul,Int.reduceNeg,Int.reduceSub,bS,List.length_set,List.take_of_length_le,Nat.le_refl,Af])
  refine g _ _ ?_
  refine Aa ?_
  refine AWP.cond (A7 ?_)
  refine AWP.seq ?_
  refine AWP.region rfl ?_;intro K g
  (try simp +decide -implicitDefEqProofs only[go_sem,Int.reduceAdd,Int.reduceMul,Int.reduceNeg,Int.reduceSub,bS,List.length_set,List.take_of_length_le,Nat.le_refl,Af])
  refine g _ _ ?_
  refine Aa ?_
  refine AWP.ret ?_
  refine Ad ?_
  obtain rfl:=Ag h
  simp +decide -implicitDefEqProofs only[go_sem,Ae,Ac.int.injEq,Int.natCast_zero,List.replicate_zero,List.length_take,List.length_drop,Ac.own.injEq,reduceCtorEq,Int.reduceAdd,Bc,Bd,A8,Bb,A9,Tryz.results8,Int.reduceAdd,Int.reduceMul,Int.reduceNeg,Int.reduceSub,bS,List.length_set,List.take_of_length_le,Nat.le_refl,Af]
def D9:Option (Bool):=
  (Ho 100 [(2:Int),1]).bind fun y1=>(D4 (Be.mk [] [] []) 100).bind fun y2=>(Di y2.1 1 [(Ax.mk 1 7)] [(Ax.mk 2 7)]).bind fun y3=>(bif (decide (y1.2=0))then (bif (decide (((y1.1.length:Nat):Int)=2))then (Ch y1.1 0).bind fun bw=>(bif (decide (bw=67))then (Ch y1.1 1).bind fun il=>(bif (decide (il=33))then (bif (decide (y2.2=0))then (bif (decide (y3.2=0))then (bif (decide (((y3.1.Postings.length:Nat):Int)=1))then (Ch y3.1.Postings 0).bind fun eh=>(bif (decide (eh.From=2))then (bif (decide (eh.To=1))then some (decide (eh.Amount=7))else some false)else some false)else some false)else some false)else some false)else some false)else some false)else some false)else some false)
theorem Jk {r:Bool} (h:D9=some r):Aq Tryz.prog 4 [] (·= .bool r):=by
  refine Aq.nle (Aq.intro Tryz.func4 rfl rfl (by show _≤82;simp) ?_)
  unfold D9 at h
  (try simp +decide -implicitDefEqProofs only[go_sem])
  refine AWP.seq ?_
  refine AWP.region rfl ?_;intro K g
  (try simp +decide -implicitDefEqProofs only[go_sem])
  refine g _ _ ?_
  refine Aa ?_
  refine AWP.seq ?_
  refine AWP.region rfl ?_;intro K g
  (try simp +decide -implicitDefEqProofs only[go_sem])
  obtain⟨y1,ch,h⟩:=A2 h
  refine Bg.Vu Tryz.call12 (Lm 100 [(2:Int),1] ch) (by simp +decide -implicitDefEqProofs only[go_sem]) fun _ hr=>?_
  subst hr
  (try simp +decide -implicitDefEqProofs only[go_sem])
  refine g _ _ ?_
  refine Aa ?_
  refine AWP.seq ?_
  refine AWP.region rfl ?_;intro K g
  (try simp +decide -implicitDefEqProofs only[go_sem])
  obtain⟨y2,dd,h⟩:=A2 h
  refine Bg.pure Tryz.call6 (Aq.Yn (args:=[.agg [.nils,.nils,.nils],.int .i64 (100:Int)]) (by simp +decide -implicitDefEqProofs only[go_sem,Ae,Ac.int.injEq,Int.natCast_zero,List.replicate_zero,List.length_take,List.length_drop,Ac.own.injEq,reduceCtorEq,Int.reduceAdd,Bc,Bd,A8,Bb,A9]) (Hy (Be.mk [] [] []) (100:Int) dd)) rfl fun _ hr=>?_
  subst hr
  (try simp +decide -implicitDefEqProofs only[go_sem])
  refine g _ _ ?_
  refine Aa ?_
  refine AWP.seq ?_
  refine AWP.region rfl ?_;intro K g
  (try simp +decide -implicitDefEqProofs only[go_sem])
  obtain⟨y3,ec,h⟩:=A2 h
  refine Bg.Cm 2 rfl ?_
  (try simp +decide -implicitDefEqProofs only[go_sem])
  refine Bg.Cm 3 rfl ?_
  (try simp +decide -implicitDefEqProofs only[go_sem])
  refine Bg.pure Tryz.call8 (Hx y2.1 1 [(Ax.mk 1 7)] [(Ax.mk 2 7)] ec) rfl fun _ hr=>?_
  subst hr
  (try simp +decide -implicitDefEqProofs only[go_sem])
  refine g _ _ ?_
  refine Aa ?_
  refine AWP.seq ?_
  refine AWP.region rfl ?_;intro K g
  (try simp +decide -implicitDefEqProofs only[go_sem])
  refine Ak (fun hc=>?_) (fun hc=>?_)
  ·replace h:=Au h hc
   (try simp +decide -implicitDefEqProofs only[go_sem,hc])
   intro hm
   refine Ak (fun hc=>?_) (fun hc=>?_)
   ·replace h:=Au h hc
    (try simp +decide -implicitDefEqProofs only[go_sem,hc])
    obtain⟨bw,bz,h⟩:=A2 h
    refine Ca.of (f:=B5) (l:=y1.1) bz ?_
    (try simp +decide -implicitDefEqProofs only[go_sem])
    refine Ak (fun hc=>?_) (fun hc=>?_)
    ·replace h:=Au h hc
     (try simp +decide -implicitDefEqProofs only[go_sem,hc])
     obtain⟨il,im,h⟩:=A2 h
     refine Ca.of (f:=B5) (l:=y1.1) im ?_
     (try simp +decide -implicitDefEqProofs only[go_sem])
     refine Ak (fun hc=>?_) (fun hc=>?_)
     ·replace h:=Au h hc
      (try simp +decide -implicitDefEqProofs only[go_sem,hc])
      refine Ak (fun hc=>?_) (fun hc=>?_)
      ·replace h:=Au h hc
       (try simp +decide -implicitDefEqProofs only[go_sem,hc])
       refine Ak (fun hc=>?_) (fun hc=>?_)
       ·replace h:=Au h hc
        (try simp +decide -implicitDefEqProofs only[go_sem,hc])
        intro hm
        refine Ak (fun hc=>?_) (fun hc=>?_)
        ·replace h:=Au h hc
         (try simp +decide -implicitDefEqProofs only[go_sem,hc])
         obtain⟨eh,gl,h⟩:=A2 h
         refine Ca.of (f:=Az) (l:=y3.1.Postings) gl ?_
         (try simp +decide -implicitDefEqProofs only[go_sem])
         refine Ak (fun hc=>?_) (fun hc=>?_)
         ·replace h:=Au h hc
          (try simp +decide -implicitDefEqProofs only[go_sem,hc])
          refine Ca.of (f:=Az) (l:=y3.1.Postings) gl ?_
          (try simp +decide -implicitDefEqProofs only[go_sem])
          refine Ak (fun hc=>?_) (fun hc=>?_)
          ·replace h:=Au h hc
           (try simp +decide -implicitDefEqProofs only[go_sem,hc])
           refine Ca.of (f:=Az) (l:=y3.1.Postings) gl ?_
           (try simp +decide -implicitDefEqProofs only[go_sem])
           refine g _ _ ?_
           refine Aa ?_
           refine AWP.ret ?_
           obtain rfl:=Ag h
           simp +decide -implicitDefEqProofs only[go_sem,Ae,Ac.int.injEq,Int.natCast_zero,List.replicate_zero,List.length_take,List.length_drop,Ac.own.injEq,reduceCtorEq,Int.reduceAdd,Bc,Bd,A8,Bb,A9,Tryz.results4]
          replace h:=Av h hc
          (try simp +decide -implicitDefEqProofs only[go_sem,hc,Bool.not_true])
          refine g _ _ ?_
          refine Aa ?_
          refine AWP.ret ?_
          obtain rfl:=Ag h
          simp +decide -implicitDefEqProofs only[go_sem,Ae,Ac.int.injEq,Int.natCast_zero,List.replicate_zero,List.length_take,List.length_drop,Ac.own.injEq,reduceCtorEq,Int.reduceAdd,Bc,Bd,A8,Bb,A9,Tryz.results4]
         replace h:=Av h hc
         (try simp +decide -implicitDefEqProofs only[go_sem,hc,Bool.not_true])
         refine g _ _ ?_
         refine Aa ?_
         refine AWP.ret ?_
         obtain rfl:=Ag h
         simp +decide -implicitDefEqProofs only[go_sem,Ae,Ac.int.injEq,Int.natCast_zero,List.replicate_zero,List.length_take,List.length_drop,Ac.own.injEq,reduceCtorEq,Int.reduceAdd,Bc,Bd,A8,Bb,A9,Tryz.results4]
        replace h:=Av h hc
        (try simp +decide -implicitDefEqProofs only[go_sem,hc,Bool.not_true])
        refine g _ _ ?_
        refine Aa ?_
        refine AWP.ret ?_
        obtain rfl:=Ag h
        simp +decide -implicitDefEqProofs only[go_sem,Ae,Ac.int.injEq,Int.natCast_zero,List.replicate_zero,List.length_take,List.length_drop,Ac.own.injEq,reduceCtorEq,Int.reduceAdd,Bc,Bd,A8,Bb,A9,Tryz.results4]
       replace h:=Av h hc
       (try simp +decide -implicitDefEqProofs only[go_sem,hc,Bool.not_true])
       refine g _ _ ?_
       refine Aa ?_
       refine AWP.ret ?_
       obtain rfl:=Ag h
       simp +decide -implicitDefEqProofs only[go_sem,Ae,Ac.int.injEq,Int.natCast_zero,List.replicate_zero,List.length_take,List.length_drop,Ac.own.injEq,reduceCtorEq,Int.reduceAdd,Bc,Bd,A8,Bb,A9,Tryz.results4]
      replace h:=Av h hc
      (try simp +decide -implicitDefEqProofs only[go_sem,hc,Bool.not_true])
      refine g _ _ ?_
      refine Aa ?_
      refine AWP.ret ?_
      obtain rfl:=Ag h
      simp +decide -implicitDefEqProofs only[go_sem,Ae,Ac.int.injEq,Int.natCast_zero,List.replicate_zero,List.length_take,List.length_drop,Ac.own.injEq,reduceCtorEq,Int.reduceAdd,Bc,Bd,A8,Bb,A9,Tryz.results4]
     replace h:=Av h hc
     (try simp +decide -implicitDefEqProofs only[go_sem,hc,Bool.not_true])
     refine g _ _ ?_
     refine Aa ?_
     refine AWP.ret ?_
     obtain rfl:=Ag h
     simp +decide -implicitDefEqProofs only[go_sem,Ae,Ac.int.injEq,Int.natCast_zero,List.replicate_zero,List.length_take,List.length_drop,Ac.own.injEq,reduceCtorEq,Int.reduceAdd,Bc,Bd,A8,Bb,A9,Tryz.results4]
    replace h:=Av h hc
    (try simp +decide -implicitDefEqProofs only[go_sem,hc,Bool.not_true])
    refine g _ _ ?_
    refine Aa ?_
    refine AWP.ret ?_
    obtain rfl:=Ag h
    simp +decide -implicitDefEqProofs only[go_sem,Ae,Ac.int.injEq,Int.natCast_zero,List.replicate_zero,List.length_take,List.length_drop,Ac.own.injEq,reduceCtorEq,Int.reduceAdd,Bc,Bd,A8,Bb,A9,Tryz.results4]
   replace h:=Av h hc
   (try simp +decide -implicitDefEqProofs only[go_sem,hc,Bool.not_true])
   refine g _ _ ?_
   refine Aa ?_
   refine AWP.ret ?_
   obtain rfl:=Ag h
   simp +decide -implicitDefEqProofs only[go_sem,Ae,Ac.int.injEq,Int.natCast_zero,List.replicate_zero,List.length_take,List.length_drop,Ac.own.injEq,reduceCtorEq,Int.reduceAdd,Bc,Bd,A8,Bb,A9,Tryz.results4]
  replace h:=Av h hc
  (try simp +decide -implicitDefEqProofs only[go_sem,hc,Bool.not_true])
  refine g _ _ ?_
  refine Aa ?_
  refine AWP.ret ?_
  obtain rfl:=Ag h
  simp +decide -implicitDefEqProofs only[go_sem,Ae,Ac.int.injEq,Int.natCast_zero,List.replicate_zero,List.length_take,List.length_drop,Ac.own.injEq,reduceCtorEq,Int.reduceAdd,Bc,Bd,A8,Bb,A9,Tryz.results4]
def Fo (r_:A1):Option (Bool):=
  (bif (decide (1≤r_.Gate))then (bif (decide (r_.Gate≤9999))then (bif (decide (1≤r_.Serial))then (bif (decide (r_.Serial≤9999))then (bif (decide (1≤r_.Product))then (bif (decide (r_.Product≤9999))then (bif (decide (1≤r_.Lift))then (bif (decide (r_.Lift≤9999))then (bif (decide (1≤r_.Seq))then (bif (decide (r_.Seq≤1000000))then (bif (decide (1≤r_.Counter))then (bif (decide (r_.Counter≤1000000))then (bif (decide (0≤r_.At))then some (decide (r_.At≤20000000))else some false)else some false)else some false)else some false)else some false)else some false)else some false)else some false)else some false)else some false)else some false)else some false)else some false)
theorem Lo (r_:A1) {r:Bool} (h:Fo r_=some r):Aq Tryz.prog 13 [.agg (Bn r_)] (·= .bool r):=by
  refine Aq.nle (Aq.intro Tryz.func13 rfl rfl (by show _≤71;simp) ?_)
  unfold Fo at h
  (try simp +decide -implicitDefEqProofs only[go_sem])
  refine AWP.seq ?_
  refine AWP.region rfl ?_;intro K g
  (try simp +decide -implicitDefEqProofs only[go_sem])
  refine g _ _ ?_
  refine Aa ?_
  refine AWP.seq ?_
  refine AWP.region rfl ?_;intro K g
  (try simp +decide -implicitDefEqProofs only[go_sem])
  refine Ak (fun hc=>?_) (fun hc=>?_)
  ·replace h:=Au h hc
   (try simp +decide -implicitDefEqProofs only[go_sem,hc])
   refine Ak (fun hc=>?_) (fun hc=>?_)
   ·replace h:=Au h hc
    (try simp +decide -implicitDefEqProofs only[go_sem,hc])
    refine Ak (fun hc=>?_) (fun hc=>?_)
    ·replace h:=Au h hc
     (try simp +decide -implicitDefEqProofs only[go_sem,hc])
     refine Ak (fun hc=>?_) (fun hc=>?_)
     ·replace h:=Au h hc
      (try simp +decide -implicitDefEqProofs only[go_sem,hc])
      refine Ak (fun hc=>?_) (fun hc=>?_)
      ·replace h:=Au h hc
       (try simp +decide -implicitDefEqProofs only[go_sem,hc])
       refine Ak (fun hc=>?_) (fun hc=>?_)
       ·replace h:=Au h hc
        (try simp +decide -implicitDefEqProofs only[go_sem,hc])
        refine Ak (fun hc=>?_) (fun hc=>?_)
        ·replace h:=Au h hc
         (try simp +decide -implicitDefEqProofs only[go_sem,hc])
         refine Ak (fun hc=>?_) (fun hc=>?_)
         ·replace h:=Au h hc
          (try simp +decide -implicitDefEqProofs only[go_sem,hc])
          refine Ak (fun hc=>?_) (fun hc=>?_)
          ·replace h:=Au h hc
           (try simp +decide -implicitDefEqProofs only[go_sem,hc])
           refine Ak (fun hc=>?_) (fun hc=>?_)
           ·replace h:=Au h hc
            (try simp +decide -implicitDefEqProofs only[go_sem,hc])
            refine Ak (fun hc=>?_) (fun hc=>?_)
            ·replace h:=Au h hc
             (try simp +decide -implicitDefEqProofs only[go_sem,hc])
             refine Ak (fun hc=>?_) (fun hc=>?_)
             ·replace h:=Au h hc
              (try simp +decide -implicitDefEqProofs only[go_sem,hc])
              refine Ak (fun hc=>?_) (fun hc=>?_)
              ·replace h:=Au h hc
               (try simp +decide -implicitDefEqProofs only[go_sem,hc])
               refine g _ _ ?_
               refine Aa ?_
               refine AWP.ret ?_
               obtain rfl:=Ag h
               simp +decide -implicitDefEqProofs only[go_sem,Ae,Ac.int.injEq,Int.natCast_zero,List.replicate_zero,List.length_take,List.length_drop,Ac.own.injEq,reduceCtorEq,Int.reduceAdd,Bc,Bd,A8,Bb,A9,Tryz.results13]
              replace h:=Av h hc
              (try simp +decide -implicitDefEqProofs only[go_sem,hc,Bool.not_true])
              refine g _ _ ?_
              refine Aa ?_
              refine AWP.ret ?_
              obtain rfl:=Ag h
              simp +decide -implicitDefEqProofs only[go_sem,Ae,Ac.int.injEq,Int.natCast_zero,List.replicate_zero,List.length_take,List.length_drop,Ac.own.injEq,reduceCtorEq,Int.reduceAdd,Bc,Bd,A8,Bb,A9,Tryz.results13]
             replace h:=Av h hc
             (try simp +decide -implicitDefEqProofs only[go_sem,hc,Bool.not_true])
             refine g _ _ ?_
             refine Aa ?_
             refine AWP.ret ?_
             obtain rfl:=Ag h
             simp +decide -implicitDefEqProofs only[go_sem,Ae,Ac.int.injEq,Int.natCast_zero,List.replicate_zero,List.length_take,List.length_drop,Ac.own.injEq,reduceCtorEq,Int.reduceAdd,Bc,Bd,A8,Bb,A9,Tryz.results13]
            replace h:=Av h hc
            (try simp +decide -implicitDefEqProofs only[go_sem,hc,Bool.not_true])
            refine g _ _ ?_
            refine Aa ?_
            refine AWP.ret ?_
            obtain rfl:=Ag h
            simp +decide -implicitDefEqProofs only[go_sem,Ae,Ac.int.injEq,Int.natCast_zero,List.replicate_zero,List.length_take,List.length_drop,Ac.own.injEq,reduceCtorEq,Int.reduceAdd,Bc,Bd,A8,Bb,A9,Tryz.results13]
           replace h:=Av h hc
           (try simp +decide -implicitDefEqProofs only[go_sem,hc,Bool.not_true])
           refine g _ _ ?_
           refine Aa ?_
           refine AWP.ret ?_
           obtain rfl:=Ag h
           simp +decide -implicitDefEqProofs only[go_sem,Ae,Ac.int.injEq,Int.natCast_zero,List.replicate_zero,List.length_take,List.length_drop,Ac.own.injEq,reduceCtorEq,Int.reduceAdd,Bc,Bd,A8,Bb,A9,Tryz.results13]
          replace h:=Av h hc
          (try simp +decide -implicitDefEqProofs only[go_sem,hc,Bool.not_true])
          refine g _ _ ?_
          refine Aa ?_
          refine AWP.ret ?_
          obtain rfl:=Ag h
          simp +decide -implicitDefEqProofs only[go_sem,Ae,Ac.int.injEq,Int.natCast_zero,List.replicate_zero,List.length_take,List.length_drop,Ac.own.injEq,reduceCtorEq,Int.reduceAdd,Bc,Bd,A8,Bb,A9,Tryz.results13]
         replace h:=Av h hc
         (try simp +decide -implicitDefEqProofs only[go_sem,hc,Bool.not_true])
         refine g _ _ ?_
         refine Aa ?_
         refine AWP.ret ?_
         obtain rfl:=Ag h
         simp +decide -implicitDefEqProofs only[go_sem,Ae,Ac.int.injEq,Int.natCast_zero,List.replicate_zero,List.length_take,List.length_drop,Ac.own.injEq,reduceCtorEq,Int.reduceAdd,Bc,Bd,A8,Bb,A9,Tryz.results13]
        replace h:=Av h hc
        (try simp +decide -implicitDefEqProofs only[go_sem,hc,Bool.not_true])
        refine g _ _ ?_
        refine Aa ?_
        refine AWP.ret ?_
        obtain rfl:=Ag h
        simp +decide -implicitDefEqProofs only[go_sem,Ae,Ac.int.injEq,Int.natCast_zero,List.replicate_zero,List.length_take,List.length_drop,Ac.own.injEq,reduceCtorEq,Int.reduceAdd,Bc,Bd,A8,Bb,A9,Tryz.results13]
       replace h:=Av h hc
       (try simp +decide -implicitDefEqProofs only[go_sem,hc,Bool.not_true])
       refine g _ _ ?_
       refine Aa ?_
       refine AWP.ret ?_
       obtain rfl:=Ag h
       simp +decide -implicitDefEqProofs only[go_sem,Ae,Ac.int.injEq,Int.natCast_zero,List.replicate_zero,List.length_take,List.length_drop,Ac.own.injEq,reduceCtorEq,Int.reduceAdd,Bc,Bd,A8,Bb,A9,Tryz.results13]
      replace h:=Av h hc
      (try simp +decide -implicitDefEqProofs only[go_sem,hc,Bool.not_true])
      refine g _ _ ?_
      refine Aa ?_
      refine AWP.ret ?_
      obtain rfl:=Ag h
      simp +decide -implicitDefEqProofs only[go_sem,Ae,Ac.int.injEq,Int.natCast_zero,List.replicate_zero,List.length_take,List.length_drop,Ac.own.injEq,reduceCtorEq,Int.reduceAdd,Bc,Bd,A8,Bb,A9,Tryz.results13]
     replace h:=Av h hc
     (try simp +decide -implicitDefEqProofs only[go_sem,hc,Bool.not_true])
     refine g _ _ ?_
     refine Aa ?_
     refine AWP.ret ?_
     obtain rfl:=Ag h
     simp +decide -implicitDefEqProofs only[go_sem,Ae,Ac.int.injEq,Int.natCast_zero,List.replicate_zero,List.length_take,List.length_drop,Ac.own.injEq,reduceCtorEq,Int.reduceAdd,Bc,Bd,A8,Bb,A9,Tryz.results13]
    replace h:=Av h hc
    (try simp +decide -implicitDefEqProofs only[go_sem,hc,Bool.not_true])
    refine g _ _ ?_
    refine Aa ?_
    refine AWP.ret ?_
    obtain rfl:=Ag h
    simp +decide -implicitDefEqProofs only[go_sem,Ae,Ac.int.injEq,Int.natCast_zero,List.replicate_zero,List.length_take,List.length_drop,Ac.own.injEq,reduceCtorEq,Int.reduceAdd,Bc,Bd,A8,Bb,A9,Tryz.results13]
   replace h:=Av h hc
   (try simp +decide -implicitDefEqProofs only[go_sem,hc,Bool.not_true])
   refine g _ _ ?_
   refine Aa ?_
   refine AWP.ret ?_
   obtain rfl:=Ag h
   simp +decide -implicitDefEqProofs only[go_sem,Ae,Ac.int.injEq,Int.natCast_zero,List.replicate_zero,List.length_take,List.length_drop,Ac.own.injEq,reduceCtorEq,Int.reduceAdd,Bc,Bd,A8,Bb,A9,Tryz.results13]
  replace h:=Av h hc
  (try simp +decide -implicitDefEqProofs only[go_sem,hc,Bool.not_true])
  refine g _ _ ?_
  refine Aa ?_
  refine AWP.ret ?_
  obtain rfl:=Ag h
  simp +decide -implicitDefEqProofs only[go_sem,Ae,Ac.int.injEq,Int.natCast_zero,List.replicate_zero,List.length_take,List.length_drop,Ac.own.injEq,reduceCtorEq,Int.reduceAdd,Bc,Bd,A8,Bb,A9,Tryz.results13]
def Fp (a:A1) (b:A1):Option (Bool):=
  (bif (decide (a.Gate<b.Gate))then some true else(bif (decide (a.Gate=b.Gate))then some (decide (a.Seq<b.Seq))else some false))
theorem Lp (a:A1) (b:A1) {r:Bool} (h:Fp a b=some r):Aq Tryz.prog 14 [.agg (Bn a),.agg (Bn b)] (·= .bool r):=by
  refine Aq.nle (Aq.intro Tryz.func14 rfl rfl (by show _≤24;simp) ?_)
  unfold Fp at h
  (try simp +decide -implicitDefEqProofs only[go_sem])
  refine AWP.seq ?_
  refine AWP.region rfl ?_;intro K g
  (try simp +decide -implicitDefEqProofs only[go_sem])
  refine g _ _ ?_
  refine Aa ?_
  refine AWP.seq ?_
  refine AWP.region rfl ?_;intro K g
  (try simp +decide -implicitDefEqProofs only[go_sem])
  refine Ak (fun hc=>?_) (fun hc=>?_)
  ·replace h:=Av h hc
   (try simp +decide -implicitDefEqProofs only[go_sem,hc])
   refine Ak (fun hc=>?_) (fun hc=>?_)
   ·replace h:=Au h hc
    (try simp +decide -implicitDefEqProofs only[go_sem,hc])
    refine g _ _ ?_
    refine Aa ?_
    refine AWP.ret ?_
    obtain rfl:=Ag h
    simp +decide -implicitDefEqProofs only[go_sem,Ae,Ac.int.injEq,Int.natCast_zero,List.replicate_zero,List.length_take,List.length_drop,Ac.own.injEq,reduceCtorEq,Int.reduceAdd,Bc,Bd,A8,Bb,A9,Tryz.results14]
   replace h:=Av h hc
   (try simp +decide -implicitDefEqProofs only[go_sem,hc,Bool.not_true])
   refine g _ _ ?_
   refine Aa ?_
   refine AWP.ret ?_
   obtain rfl:=Ag h
   simp +decide -implicitDefEqProofs only[go_sem,Ae,Ac.int.injEq,Int.natCast_zero,List.replicate_zero,List.length_take,List.length_drop,Ac.own.injEq,reduceCtorEq,Int.reduceAdd,Bc,Bd,A8,Bb,A9,Tryz.results14]
  replace h:=Au h hc
  (try simp +decide -implicitDefEqProofs only[go_sem,hc,Bool.not_false])
  refine g _ _ ?_
  refine Aa ?_
  refine AWP.ret ?_
  obtain rfl:=Ag h
  simp +decide -implicitDefEqProofs only[go_sem,Ae,Ac.int.injEq,Int.natCast_zero,List.replicate_zero,List.length_take,List.length_drop,Ac.own.injEq,reduceCtorEq,Int.reduceAdd,Bc,Bd,A8,Bb,A9,Tryz.results14]
def Dv (l:List A1) (k0:Nat) (ao:A1) (sv:Unit):Option (Out (Unit) (Int)):=
  (Fo ao).bind fun y3=>(bif (!y3)then some (Out.ret 2)else (bif (decide (0<((k0:Nat):Int)))then (Ch l (IntKind.i64.wrap (((k0:Nat):Int) - 1))).bind fun bw=>(Fp bw ao).bind fun y5=>(bif (!y5)then some (Out.ret 11)else some (Out.next ()))else some (Out.next ())))
def En (l:List A1):Option (Int):=
  (bif (decide (2000<((l.length:Nat):Int)))then some 4 else(Bo (Dv l) 0 l ()).bind fun o0=>o0.on fun s0=>some 0)
theorem Im (l:List A1) {r:Int} (h:En l=some r):Aq Tryz.prog 5 [.sl 7 (l.map Bn)] (·= .int .i64 r):=by
  refine Aq.nle (Aq.intro Tryz.func5 rfl rfl (by show _≤34;simp) ?_)
  unfold En at h
  (try simp +decide -implicitDefEqProofs only[go_sem])
  refine AWP.seq ?_
  refine AWP.region rfl ?_;intro K g
  (try simp +decide -implicitDefEqProofs only[go_sem])
  refine g _ _ ?_
  refine Aa ?_
  refine AWP.seq ?_
  refine AWP.seq ?_
  refine AWP.region rfl ?_;intro K g
  (try simp +decide -implicitDefEqProofs only[go_sem])
  intro hm
  refine g _ _ ?_
  refine Aa ?_
  refine AWP.cond (Ai (fun hc=>?_) (fun hc=>?_))
  ·replace h:=Au h hc
   refine AWP.seq ?_
   refine AWP.region rfl ?_;intro K g
   (try simp +decide -implicitDefEqProofs only[go_sem])
   refine g _ _ ?_
   refine Aa ?_
   refine AWP.ret ?_
   refine Ad ?_
   obtain rfl:=Ag h
   simp +decide -implicitDefEqProofs only[go_sem,Ae,Ac.int.injEq,Int.natCast_zero,List.replicate_zero,List.length_take,List.length_drop,Ac.own.injEq,reduceCtorEq,Int.reduceAdd,Bc,Bd,A8,Bb,A9,Tryz.results5]
  replace h:=Av h hc
  refine AWP.skip ?_
  refine Aa ?_
  refine AWP.seq ?_
  refine AWP.seq ?_
  refine AWP.region rfl ?_;intro K g
  (try simp +decide -implicitDefEqProofs only[go_sem])
  refine g _ _ ?_
  refine Aa ?_
  refine AWP.block ?_
  obtain⟨o0,ae,bg⟩:=A2 h
  clear h
  refine AWP.Cv (ι:=Nat×(Unit)×(Unit)) (fun zz=>[(0,.sl 7 (l.map Bn)),(3,.int .i64 ((zz.1:Nat):Int))]) (fun zz=>[]) (fun zz=>zz.1≤l.length∧Bo (Dv l) zz.1 ((l).drop zz.1) zz.2.1=some o0) (fun zz=>l.length - zz.1) (0,(),()) ⟨Nat.zero_le _,ae⟩ (by(simp +decide -implicitDefEqProofs only[go_sem,Ae,Ac.int.injEq,Int.natCast_zero,List.replicate_zero,List.length_take,List.length_drop,Ac.own.injEq,reduceCtorEq,Int.reduceAdd]<;>omega)) (by(simp +decide -implicitDefEqProofs only[go_sem,Ae,Ac.int.injEq,Int.natCast_zero,List.replicate_zero,List.length_take,List.length_drop,Ac.own.injEq,reduceCtorEq,Int.reduceAdd]<;>omega)) (fun x=>⟨rfl,rfl,rfl⟩) ?_
  clear ae
  rintro⟨k0,⟨⟩,⟨⟩⟩ ⟨cn,ae⟩
  dsimp only at cn ae ⊢
  refine AWP.seq ?_
  refine AWP.seq ?_
  refine AWP.region rfl ?_;intro K g
  (try simp +decide -implicitDefEqProofs only[go_sem])
  intro hm
  refine g _ _ ?_
  refine Aa ?_
  refine AWP.cond (Ai (fun hc=>?_) (fun hc=>?_))
  rotate_left
  ·obtain rfl:=B8 ae (fun hl=>by have:=bJ hc;omega)
   have h:=B7 bg;try dsimp only at h
   have ba:l.length=k0:=by have:=bJ hc;omega
   subst ba
   refine AWP.exit ?_
   refine An ?_
   refine An ?_
   refine A6 ?_
   refine Aa ?_
   refine AWP.seq ?_
   refine AWP.region rfl ?_;intro K g
   (try simp +decide -implicitDefEqProofs only[go_sem])
   refine g _ _ ?_
   refine Aa ?_
   refine AWP.ret ?_
   obtain rfl:=Ag h
   simp +decide -implicitDefEqProofs only[go_sem,Ae,Ac.int.injEq,Int.natCast_zero,List.replicate_zero,List.length_take,List.length_drop,Ac.own.injEq,reduceCtorEq,Int.reduceAdd,Bc,Bd,A8,Bb,A9,Tryz.results5]
  have bj:k0<l.length:=by have:=bK hc;omega
  obtain⟨ao,b0,bn,h,ae⟩:=Bw ae bj
  have b7:=Br bn
  have bo:IntKind.i64.wrap (((k0:Nat):Int)+1)=(((k0:Nat):Int)+1):=by rw[wrap_i64]<;>omega
  unfold Dv at h;try dsimp only at h
  refine AWP.skip ?_
  refine Aa ?_
  refine AWP.seq ?_
  refine AWP.block ?_
  refine AWP.seq ?_
  refine AWP.seq ?_
  refine AWP.region rfl ?_;intro K g
  (try simp +decide -implicitDefEqProofs only[go_sem])
  refine Ca.of (f:=Bn) (l:=l) b7 ?_
  (try simp +decide -implicitDefEqProofs only[go_sem])
  obtain⟨y3,ec,h⟩:=A2 h
  refine Bg.pure Tryz.call13 (Lo ao ec) rfl fun _ hr=>?_
  subst hr
  (try simp +decide -implicitDefEqProofs only[go_sem])
  refine g _ _ ?_
  refine Aa ?_
  refine AWP.cond (Ai (fun hc=>?_) (fun hc=>?_))
  ·replace h:=Au h hc
   refine AWP.seq ?_
   refine AWP.region rfl ?_;intro K g
   (try simp +decide -implicitDefEqProofs only[go_sem])
   refine g _ _ ?_
   refine Aa ?_
   refine AWP.ret ?_
   refine Ad ?_
   refine Aj ?_
   refine Ad ?_
   refine Ad ?_
   obtain rfl:=Ag h
   obtain rfl:=Ba ae
   replace h:=Bp bg
   refine Aj ?_
   refine Ad ?_
   obtain rfl:=Ag h
   simp +decide -implicitDefEqProofs only[go_sem,Ae,Ac.int.injEq,Int.natCast_zero,List.replicate_zero,List.length_take,List.length_drop,Ac.own.injEq,reduceCtorEq,Int.reduceAdd,Bc,Bd,A8,Bb,A9,Tryz.results5]
  replace h:=Av h hc
  refine AWP.skip ?_
  refine Aa ?_
  refine AWP.seq ?_
  refine AWP.draw Tryz.mixed (by kernel_rfl) ?_;intro K g
  (try simp +decide -implicitDefEqProofs only[go_sem])
  refine Ak (fun hc=>?_) (fun hc=>?_)
  ·replace h:=Au h hc
   (try simp +decide -implicitDefEqProofs only[go_sem,hc])
   obtain⟨bw,bz,h⟩:=A2 h
   refine Ca.of (f:=Bn) (l:=l) bz ?_
   (try simp +decide -implicitDefEqProofs only[go_sem])
   refine Ca.of (f:=Bn) (l:=l) b7 ?_
   (try simp +decide -implicitDefEqProofs only[go_sem])
   obtain⟨y5,fm,h⟩:=A2 h
   refine B9.pure Tryz.call14 (Lp bw ao fm) rfl ?_
   (try simp +decide -implicitDefEqProofs only[go_sem])
   refine g _ _ _ (by kernel_rfl) ?_
   refine Aa ?_
   refine AWP.cond (Ai (fun hc=>?_) (fun hc=>?_))
   ·replace h:=Au h hc
    refine AWP.seq ?_
    refine AWP.region rfl ?_;intro K g
    (try simp +decide -implicitDefEqProofs only[go_sem])
    refine g _ _ ?_
    refine Aa ?_
    refine AWP.ret ?_
    refine Aj ?_
    refine Ad ?_
    refine Ad ?_
    obtain rfl:=Ag h
    obtain rfl:=Ba ae
    replace h:=Bp bg
    refine Aj ?_
    refine Ad ?_
    obtain rfl:=Ag h
    simp +decide -implicitDefEqProofs only[go_sem,Ae,Ac.int.injEq,Int.natCast_zero,List.replicate_zero,List.length_take,List.length_drop,Ac.own.injEq,reduceCtorEq,Int.reduceAdd,Bc,Bd,A8,Bb,A9,Tryz.results5]
   replace h:=Av h hc
   refine AWP.skip ?_
   refine Al ?_
   refine Aa ?_
   refine AWP.region rfl ?_;intro K g
   (try simp +decide -implicitDefEqProofs only[go_sem])
   refine g _ _ ?_
   refine Aa ?_
   obtain rfl:=Ag h
   refine⟨(k0+1,(),()),⟨by dsimp only;omega,Bf ae⟩,by dsimp only;omega,?_,?_⟩
   ·(simp +decide -implicitDefEqProofs only[go_sem,Ae,Ac.int.injEq,Int.natCast_zero,List.replicate_zero,List.length_take,List.length_drop,Ac.own.injEq,reduceCtorEq,Int.reduceAdd,bo]<;>omega)
   (simp +decide -implicitDefEqProofs only[go_sem,Ae,Ac.int.injEq,Int.natCast_zero,List.replicate_zero,List.length_take,List.length_drop,Ac.own.injEq,reduceCtorEq,Int.reduceAdd,bo]<;>omega)
  replace h:=Av h hc
  (try simp +decide -implicitDefEqProofs only[go_sem,hc,Bool.not_true])
  refine g _ _ _ (by kernel_rfl) ?_
  refine Aa ?_
  refine AWP.cond (Bu ?_)
  refine AWP.skip ?_
  refine Al ?_
  refine Aa ?_
  refine AWP.region rfl ?_;intro K g
  (try simp +decide -implicitDefEqProofs only[go_sem])
  refine g _ _ ?_
  refine Aa ?_
  obtain rfl:=Ag h
  refine⟨(k0+1,(),()),⟨by dsimp only;omega,Bf ae⟩,by dsimp only;omega,?_,?_⟩
  ·(simp +decide -implicitDefEqProofs only[go_sem,Ae,Ac.int.injEq,Int.natCast_zero,List.replicate_zero,List.length_take,List.length_drop,Ac.own.injEq,reduceCtorEq,Int.reduceAdd,bo]<;>omega)
  (simp +decide -implicitDefEqProofs only[go_sem,Ae,Ac.int.injEq,Int.natCast_zero,List.replicate_zero,List.length_take,List.length_drop,Ac.own.injEq,reduceCtorEq,Int.reduceAdd,bo]<;>omega)
def Fa (n_:Int):Option (Bool):=
  (bif (decide (1≤n_))then some (decide (n_≤9999))else some false)
theorem E7 (n_:Int) {r:Bool} (h:Fa n_=some r):Aq Tryz.prog 102 [.int .i64 n_] (·= .bool r):=by
  refine Aq.nle (Aq.intro Tryz.func102 rfl rfl (by show _≤9;simp) ?_)
  unfold Fa at h
  (try simp +decide -implicitDefEqProofs only[go_sem])
  refine AWP.seq ?_
  refine AWP.region rfl ?_;intro K g
  (try simp +decide -implicitDefEqProofs only[go_sem])
  refine g _ _ ?_
  refine Aa ?_
  refine AWP.seq ?_
  refine AWP.region rfl ?_;intro K g
  (try simp +decide -implicitDefEqProofs only[go_sem])
  refine Ak (fun hc=>?_) (fun hc=>?_)
  ·replace h:=Au h hc
   (try simp +decide -implicitDefEqProofs only[go_sem,hc])
   refine g _ _ ?_
   refine Aa ?_
   refine AWP.ret ?_
   obtain rfl:=Ag h
   simp +decide -implicitDefEqProofs only[go_sem,Ae,Ac.int.injEq,Int.natCast_zero,List.replicate_zero,List.length_take,List.length_drop,Ac.own.injEq,reduceCtorEq,Int.reduceAdd,Bc,Bd,A8,Bb,A9,Tryz.results102]
  replace h:=Av h hc
  (try simp +decide -implicitDefEqProofs only[go_sem,hc,Bool.not_true])
  refine g _ _ ?_
  refine Aa ?_
  refine AWP.ret ?_
  obtain rfl:=Ag h
  simp +decide -implicitDefEqProofs only[go_sem,Ae,Ac.int.injEq,Int.natCast_zero,List.replicate_zero,List.length_take,List.length_drop,Ac.own.injEq,reduceCtorEq,Int.reduceAdd,Bc,Bd,A8,Bb,A9,Tryz.results102]
def E2 (r_:A1):Option (Bool):=
  (Fa r_.Gate).bind fun y1=>(bif (!y1)then some false else(Fa r_.Serial).bind fun y2=>(bif (!y2)then some false else(Fa r_.Product).bind fun y3=>(bif (!y3)then some false else(Fa r_.Lift).bind fun y4=>(bif (!y4)then some false else(bif (decide (r_.Seq<1))then some false else(bif (decide (1000000<r_.Seq))then some false else(bif (decide (r_.Counter<1))then some false else(bif (decide (1000000<r_.Counter))then some false else(bif (decide (0≤r_.At))then some (decide (r_.At≤20000000))else some false)))))))))
theorem K3 (r_:A1) {r:Bool} (h:E2 r_=some r):Aq Tryz.prog 75 [.agg (Bn r_)] (·= .bool r):=by
  refine Aq.nle (Aq.intro Tryz.func75 rfl rfl (by show _≤51;simp) ?_)
  unfold E2 at h
  (try simp +decide -implicitDefEqProofs only[go_sem])
  refine AWP.seq ?_
  refine AWP.region rfl ?_;intro K g
  (try simp +decide -implicitDefEqProofs only[go_sem])
  refine g _ _ ?_
  refine Aa ?_
  refine AWP.seq ?_
  refine AWP.seq ?_
  refine AWP.region rfl ?_;intro K g
  (try simp +decide -implicitDefEqProofs only[go_sem])
  obtain⟨y1,ch,h⟩:=A2 h
  refine Bg.pure Tryz.call102 (E7 r_.Gate ch) rfl fun _ hr=>?_
  subst hr
  (try simp +decide -implicitDefEqProofs only[go_sem])
  refine Ak (fun hc=>?_) (fun hc=>?_)
  ·replace h:=Av h hc
   (try simp +decide -implicitDefEqProofs only[go_sem,hc])
   obtain⟨y2,dd,h⟩:=A2 h
   refine Bg.pure Tryz.call102 (E7 r_.Serial dd) rfl fun _ hr=>?_
   subst hr
   (try simp +decide -implicitDefEqProofs only[go_sem])
   refine Ak (fun hc=>?_) (fun hc=>?_)
   ·replace h:=Av h hc
    (try simp +decide -implicitDefEqProofs only[go_sem,hc])
    obtain⟨y3,ec,h⟩:=A2 h
    refine Bg.pure Tryz.call102 (E7 r_.Product ec) rfl fun _ hr=>?_
    subst hr
    (try simp +decide -implicitDefEqProofs only[go_sem])
    refine Ak (fun hc=>?_) (fun hc=>?_)
    ·replace h:=Av h hc
     (try simp +decide -implicitDefEqProofs only[go_sem,hc])
     obtain⟨y4,gj,h⟩:=A2 h
     refine Bg.pure Tryz.call102 (E7 r_.Lift gj) rfl fun _ hr=>?_
     subst hr
     (try simp +decide -implicitDefEqProofs only[go_sem])
     refine g _ _ ?_
     refine Aa ?_
     refine AWP.cond (Ai (fun hc=>?_) (fun hc=>?_))
     ·replace h:=Au h hc
      refine AWP.seq ?_
      refine AWP.region rfl ?_;intro K g
      (try simp +decide -implicitDefEqProofs only[go_sem])
      refine g _ _ ?_
      refine Aa ?_
      refine AWP.ret ?_
      refine Ad ?_
      obtain rfl:=Ag h
      simp +decide -implicitDefEqProofs only[go_sem,Ae,Ac.int.injEq,Int.natCast_zero,List.replicate_zero,List.length_take,List.length_drop,Ac.own.injEq,reduceCtorEq,Int.reduceAdd,Bc,Bd,A8,Bb,A9,Tryz.results75]
     replace h:=Av h hc
     refine AWP.skip ?_
     refine Aa ?_
     refine AWP.seq ?_
     refine AWP.seq ?_
     refine AWP.region rfl ?_;intro K g
     (try simp +decide -implicitDefEqProofs only[go_sem])
     refine Ak (fun hc=>?_) (fun hc=>?_)
     ·replace h:=Av h hc
      (try simp +decide -implicitDefEqProofs only[go_sem,hc])
      refine Ak (fun hc=>?_) (fun hc=>?_)
      ·replace h:=Av h hc
       (try simp +decide -implicitDefEqProofs only[go_sem,hc])
       refine Ak (fun hc=>?_) (fun hc=>?_)
       ·replace h:=Av h hc
        (try simp +decide -implicitDefEqProofs only[go_sem,hc])
        refine g _ _ ?_
        refine Aa ?_
        refine AWP.cond (Ai (fun hc=>?_) (fun hc=>?_))
        ·replace h:=Au h hc
         refine AWP.seq ?_
         refine AWP.region rfl ?_;intro K g
         (try simp +decide -implicitDefEqProofs only[go_sem])
         refine g _ _ ?_
         refine Aa ?_
         refine AWP.ret ?_
         refine Ad ?_
         obtain rfl:=Ag h
         simp +decide -implicitDefEqProofs only[go_sem,Ae,Ac.int.injEq,Int.natCast_zero,List.replicate_zero,List.length_take,List.length_drop,Ac.own.injEq,reduceCtorEq,Int.reduceAdd,Bc,Bd,A8,Bb,A9,Tryz.results75]
        replace h:=Av h hc
        refine AWP.skip ?_
        refine Aa ?_
        refine AWP.seq ?_
        refine AWP.region rfl ?_;intro K g
        (try simp +decide -implicitDefEqProofs only[go_sem])
        refine Ak (fun hc=>?_) (fun hc=>?_)
        ·replace h:=Au h hc
         (try simp +decide -implicitDefEqProofs only[go_sem,hc])
         refine g _ _ ?_
         refine Aa ?_
         refine AWP.ret ?_
         obtain rfl:=Ag h
         simp +decide -implicitDefEqProofs only[go_sem,Ae,Ac.int.injEq,Int.natCast_zero,List.replicate_zero,List.length_take,List.length_drop,Ac.own.injEq,reduceCtorEq,Int.reduceAdd,Bc,Bd,A8,Bb,A9,Tryz.results75]
        replace h:=Av h hc
        (try simp +decide -implicitDefEqProofs only[go_sem,hc,Bool.not_true])
        refine g _ _ ?_
        refine Aa ?_
        refine AWP.ret ?_
        obtain rfl:=Ag h
        simp +decide -implicitDefEqProofs only[go_sem,Ae,Ac.int.injEq,Int.natCast_zero,List.replicate_zero,List.length_take,List.length_drop,Ac.own.injEq,reduceCtorEq,Int.reduceAdd,Bc,Bd,A8,Bb,A9,Tryz.results75]
       replace h:=Au h hc
       (try simp +decide -implicitDefEqProofs only[go_sem,hc,Bool.not_false])
       refine g _ _ ?_
       refine Aa ?_
       refine AWP.cond (A7 ?_)
       refine AWP.seq ?_
       refine AWP.region rfl ?_;intro K g
       (try simp +decide -implicitDefEqProofs only[go_sem])
       refine g _ _ ?_
       refine Aa ?_
       refine AWP.ret ?_
       refine Ad ?_
       obtain rfl:=Ag h
       simp +decide -implicitDefEqProofs only[go_sem,Ae,Ac.int.injEq,Int.natCast_zero,List.replicate_zero,List.length_take,List.length_drop,Ac.own.injEq,reduceCtorEq,Int.reduceAdd,Bc,Bd,A8,Bb,A9,Tryz.results75]
      replace h:=Au h hc
      (try simp +decide -implicitDefEqProofs only[go_sem,hc,Bool.not_false])
      refine g _ _ ?_
      refine Aa ?_
      refine AWP.cond (A7 ?_)
      refine AWP.seq ?_
      refine AWP.region rfl ?_;intro K g
      (try simp +decide -implicitDefEqProofs only[go_sem])
      refine g _ _ ?_
      refine Aa ?_
      refine AWP.ret ?_
      refine Ad ?_
      obtain rfl:=Ag h
      simp +decide -implicitDefEqProofs only[go_sem,Ae,Ac.int.injEq,Int.natCast_zero,List.replicate_zero,List.length_take,List.length_drop,Ac.own.injEq,reduceCtorEq,Int.reduceAdd,Bc,Bd,A8,Bb,A9,Tryz.results75]
     replace h:=Au h hc
     (try simp +decide -implicitDefEqProofs only[go_sem,hc,Bool.not_false])
     refine g _ _ ?_
     refine Aa ?_
     refine AWP.cond (A7 ?_)
     refine AWP.seq ?_
     refine AWP.region rfl ?_;intro K g
     (try simp +decide -implicitDefEqProofs only[go_sem])
     refine g _ _ ?_
     refine Aa ?_
     refine AWP.ret ?_
     refine Ad ?_
     obtain rfl:=Ag h
     simp +decide -implicitDefEqProofs only[go_sem,Ae,Ac.int.injEq,Int.natCast_zero,List.replicate_zero,List.length_take,List.length_drop,Ac.own.injEq,reduceCtorEq,Int.reduceAdd,Bc,Bd,A8,Bb,A9,Tryz.results75]
    replace h:=Au h hc
    (try simp +decide -implicitDefEqProofs only[go_sem,hc,Bool.not_false])
    refine g _ _ ?_
    refine Aa ?_
    refine AWP.cond (A7 ?_)
    refine AWP.seq ?_
    refine AWP.region rfl ?_;intro K g
    (try simp +decide -implicitDefEqProofs only[go_sem])
    refine g _ _ ?_
    refine Aa ?_
    refine AWP.ret ?_
    refine Ad ?_
    obtain rfl:=Ag h
    simp +decide -implicitDefEqProofs only[go_sem,Ae,Ac.int.injEq,Int.natCast_zero,List.replicate_zero,List.length_take,List.length_drop,Ac.own.injEq,reduceCtorEq,Int.reduceAdd,Bc,Bd,A8,Bb,A9,Tryz.results75]
   replace h:=Au h hc
   (try simp +decide -implicitDefEqProofs only[go_sem,hc,Bool.not_false])
   refine g _ _ ?_
   refine Aa ?_
   refine AWP.cond (A7 ?_)
   refine AWP.seq ?_
   refine AWP.region rfl ?_;intro K g
   (try simp +decide -implicitDefEqProofs only[go_sem])
   refine g _ _ ?_
   refine Aa ?_
   refine AWP.ret ?_
   refine Ad ?_
   obtain rfl:=Ag h
   simp +decide -implicitDefEqProofs only[go_sem,Ae,Ac.int.injEq,Int.natCast_zero,List.replicate_zero,List.length_take,List.length_drop,Ac.own.injEq,reduceCtorEq,Int.reduceAdd,Bc,Bd,A8,Bb,A9,Tryz.results75]
  replace h:=Au h hc
  (try simp +decide -implicitDefEqProofs only[go_sem,hc,Bool.not_false])
  refine g _ _ ?_
  refine Aa ?_
  refine AWP.cond (A7 ?_)
  refine AWP.seq ?_
  refine AWP.region rfl ?_;intro K g
  (try simp +decide -implicitDefEqProofs only[go_sem])
  refine g _ _ ?_
  refine Aa ?_
  refine AWP.ret ?_
  refine Ad ?_
  obtain rfl:=Ag h
  simp +decide -implicitDefEqProofs only[go_sem,Ae,Ac.int.injEq,Int.natCast_zero,List.replicate_zero,List.length_take,List.length_drop,Ac.own.injEq,reduceCtorEq,Int.reduceAdd,Bc,Bd,A8,Bb,A9,Tryz.results75]
def Ic (k0:Nat) (ao:Int) (sv:Unit):Option (Out (Unit) (Int)):=
  (bif (decide (ao≠0))then some (Out.ret ao)else some (Out.next ()))
def Le (vals:List Int):Option (Int):=
  (Bo Ic 0 vals ()).bind fun o0=>o0.on fun s0=>some 0
theorem N0 (vals:List Int) {r:Int} (h:Le vals=some r):Aq Tryz.prog 29 [.sl 1 (vals.map B5)] (·= .int .i64 r):=by
  refine Aq.nle (Aq.intro Tryz.func29 rfl rfl (by show _≤18;simp) ?_)
  unfold Le at h
  (try simp +decide -implicitDefEqProofs only[go_sem])
  refine AWP.seq ?_
  refine AWP.region rfl ?_;intro K g
  (try simp +decide -implicitDefEqProofs only[go_sem])
  refine g _ _ ?_
  refine Aa ?_
  refine AWP.seq ?_
  refine AWP.region rfl ?_;intro K g
  (try simp +decide -implicitDefEqProofs only[go_sem])
  refine g _ _ ?_
  refine Aa ?_
  refine AWP.seq ?_
  refine AWP.seq ?_
  refine AWP.region rfl ?_;intro K g
  (try simp +decide -implicitDefEqProofs only[go_sem])
  intro hm
  refine g _ _ ?_
  refine Aa ?_
  refine AWP.block ?_
  obtain⟨o0,ae,bg⟩:=A2 h
  clear h
  refine AWP.Cv (ι:=Nat×(Unit)×(Unit)) (fun zz=>[(3,.int .i64 (0:Int)),(6,.sl 1 (vals.map B5)),(7,.int .i64 ((vals.length:Nat):Int)),(8,.int .i64 ((zz.1:Nat):Int))]) (fun zz=>[]) (fun zz=>zz.1≤vals.length∧Bo Ic zz.1 ((vals).drop zz.1) zz.2.1=some o0) (fun zz=>vals.length - zz.1) (0,(),()) ⟨Nat.zero_le _,ae⟩ (by(simp +decide -implicitDefEqProofs only[go_sem,Ae,Ac.int.injEq,Int.natCast_zero,List.replicate_zero,List.length_take,List.length_drop,Ac.own.injEq,reduceCtorEq,Int.reduceAdd]<;>omega)) (by(simp +decide -implicitDefEqProofs only[go_sem,Ae,Ac.int.injEq,Int.natCast_zero,List.replicate_zero,List.length_take,List.length_drop,Ac.own.injEq,reduceCtorEq,Int.reduceAdd]<;>omega)) (fun x=>⟨rfl,rfl,rfl⟩) ?_
  clear ae
  rintro⟨k0,⟨⟩,⟨⟩⟩ ⟨cn,ae⟩
  dsimp only at cn ae ⊢
  refine AWP.seq ?_
  refine AWP.region rfl ?_;intro K g
  (try simp +decide -implicitDefEqProofs only[go_sem])
  refine g _ _ ?_
  refine Aa ?_
  refine AWP.seq ?_
  refine AWP.cond (Ai (fun hc=>?_) (fun hc=>?_))
  rotate_left
  ·obtain rfl:=B8 ae (fun hl=>by have:=bJ hc;omega)
   have h:=B7 bg;try dsimp only at h
   have ba:vals.length=k0:=by have:=bJ hc;omega
   subst ba
   refine AWP.exit ?_
   refine An ?_
   refine An ?_
   refine A6 ?_
   refine Aa ?_
   refine AWP.seq ?_
   refine AWP.region rfl ?_;intro K g
   (try simp +decide -implicitDefEqProofs only[go_sem])
   refine g _ _ ?_
   refine Aa ?_
   refine AWP.ret ?_
   obtain rfl:=Ag h
   simp +decide -implicitDefEqProofs only[go_sem,Ae,Ac.int.injEq,Int.natCast_zero,List.replicate_zero,List.length_take,List.length_drop,Ac.own.injEq,reduceCtorEq,Int.reduceAdd,Bc,Bd,A8,Bb,A9,Tryz.results29]
  have bj:k0<vals.length:=by have:=bK hc;omega
  obtain⟨ao,b0,bn,h,ae⟩:=Bw ae bj
  have b7:=Br bn
  have bo:IntKind.i64.wrap (((k0:Nat):Int)+1)=(((k0:Nat):Int)+1):=by rw[wrap_i64]<;>omega
  unfold Ic at h;try dsimp only at h
  refine AWP.skip ?_
  refine Aa ?_
  refine AWP.seq ?_
  refine AWP.block ?_
  refine AWP.seq ?_
  refine AWP.region rfl ?_;intro K g
  (try simp +decide -implicitDefEqProofs only[go_sem])
  refine Ca.of (f:=B5) (l:=vals) b7 ?_
  (try simp +decide -implicitDefEqProofs only[go_sem])
  refine g _ _ ?_
  refine Aa ?_
  refine AWP.seq ?_
  refine AWP.region rfl ?_;intro K g
  (try simp +decide -implicitDefEqProofs only[go_sem])
  refine g _ _ ?_
  refine Aa ?_
  refine AWP.cond (Ai (fun hc=>?_) (fun hc=>?_))
  ·replace h:=Au h hc
   refine AWP.seq ?_
   refine AWP.region rfl ?_;intro K g
   (try simp +decide -implicitDefEqProofs only[go_sem])
   refine g _ _ ?_
   refine Aa ?_
   refine AWP.ret ?_
   refine Aj ?_
   refine Ad ?_
   refine Ad ?_
   obtain rfl:=Ag h
   obtain rfl:=Ba ae
   replace h:=Bp bg
   refine Aj ?_
   refine Ad ?_
   obtain rfl:=Ag h
   simp +decide -implicitDefEqProofs only[go_sem,Ae,Ac.int.injEq,Int.natCast_zero,List.replicate_zero,List.length_take,List.length_drop,Ac.own.injEq,reduceCtorEq,Int.reduceAdd,Bc,Bd,A8,Bb,A9,Tryz.results29]
  replace h:=Av h hc
  refine AWP.skip ?_
  refine Al ?_
  refine Aa ?_
  refine AWP.region rfl ?_;intro K g
  (try simp +decide -implicitDefEqProofs only[go_sem])
  refine g _ _ ?_
  refine Aa ?_
  obtain rfl:=Ag h
  refine⟨(k0+1,(),()),⟨by dsimp only;omega,Bf ae⟩,by dsimp only;omega,?_,?_⟩
  ·(simp +decide -implicitDefEqProofs only[go_sem,Ae,Ac.int.injEq,Int.natCast_zero,List.replicate_zero,List.length_take,List.length_drop,Ac.own.injEq,reduceCtorEq,Int.reduceAdd,bo]<;>omega)
  (simp +decide -implicitDefEqProofs only[go_sem,Ae,Ac.int.injEq,Int.natCast_zero,List.replicate_zero,List.length_take,List.length_drop,Ac.own.injEq,reduceCtorEq,Int.reduceAdd,bo]<;>omega)
def Jp (a:A1) (b:A1):Option (Int):=
  (cmp_Compare_int a.Gate b.Gate).bind fun y1=>(cmp_Compare_int a.Seq b.Seq).bind fun y2=>(Le [y1,y2]).bind fun y3=>some y3
theorem Ml (a:A1) (b:A1) {r:Int} (h:Jp a b=some r):Aq Tryz.prog 76 [.agg (Bn a),.agg (Bn b)] (·= .int .i64 r):=by
  refine Aq.nle (Aq.intro Tryz.func76 rfl rfl (by show _≤17;simp) ?_)
  unfold Jp at h
  (try simp +decide -implicitDefEqProofs only[go_sem])
  refine AWP.seq ?_
  refine AWP.region rfl ?_;intro K g
  (try simp +decide -implicitDefEqProofs only[go_sem])
  refine g _ _ ?_
  refine Aa ?_
  refine AWP.seq ?_
  refine AWP.draw Tryz.mixed (by kernel_rfl) ?_;intro K g
  (try simp +decide -implicitDefEqProofs only[go_sem])
  obtain⟨y1,ch,h⟩:=A2 h
  refine B9.pure Tryz.call30 (Er a.Gate b.Gate ch) rfl ?_
  (try simp +decide -implicitDefEqProofs only[go_sem])
  obtain⟨y2,dd,h⟩:=A2 h
  refine B9.pure Tryz.call30 (Er a.Seq b.Seq dd) rfl ?_
  (try simp +decide -implicitDefEqProofs only[go_sem])
  obtain⟨y3,ec,h⟩:=A2 h
  refine B9.snap Tryz.call29 (N0 [y1,y2] ec) (by simp +decide -implicitDefEqProofs only[go_sem]) rfl ?_
  (try simp +decide -implicitDefEqProofs only[go_sem])
  refine g _ _ _ (by kernel_rfl) ?_
  refine Aa ?_
  refine AWP.ret ?_
  obtain rfl:=Ag h
  simp +decide -implicitDefEqProofs only[go_sem,Ae,Ac.int.injEq,Int.natCast_zero,List.replicate_zero,List.length_take,List.length_drop,Ac.own.injEq,reduceCtorEq,Int.reduceAdd,Bc,Bd,A8,Bb,A9,Tryz.results76]
def Fl (l:List A1) (k0:Nat) (ao:A1) (sv:Unit):Option (Out (Unit) (Int)):=
  (E2 ao).bind fun y3=>(bif (!y3)then some (Out.ret 2)else (bif (decide (0<((k0:Nat):Int)))then (Ch l (IntKind.i64.wrap (((k0:Nat):Int) - 1))).bind fun bw=>(Jp bw ao).bind fun y5=>(bif (decide (0≤y5))then some (Out.ret 11)else some (Out.next ()))else some (Out.next ())))
def Hr (l:List A1):Option (Int):=
  (bif (decide (2000<((l.length:Nat):Int)))then some 4 else(Bo (Fl l) 0 l ()).bind fun o0=>o0.on fun s0=>some 0)
theorem Mm (l:List A1) {r:Int} (h:Hr l=some r):Aq Tryz.prog 51 [.sl 7 (l.map Bn)] (·= .int .i64 r):=by
  refine Aq.nle (Aq.intro Tryz.func51 rfl rfl (by show _≤31;simp) ?_)
  unfold Hr at h
  (try simp +decide -implicitDefEqProofs only[go_sem])
  refine AWP.seq ?_
  refine AWP.region rfl ?_;intro K g
  (try simp +decide -implicitDefEqProofs only[go_sem])
  refine g _ _ ?_
  refine Aa ?_
  refine AWP.seq ?_
  refine AWP.seq ?_
  refine AWP.region rfl ?_;intro K g
  (try simp +decide -implicitDefEqProofs only[go_sem])
  intro hm
  refine g _ _ ?_
  refine Aa ?_
  refine AWP.cond (Ai (fun hc=>?_) (fun hc=>?_))
  ·replace h:=Au h hc
   refine AWP.seq ?_
   refine AWP.region rfl ?_;intro K g
   (try simp +decide -implicitDefEqProofs only[go_sem])
   refine g _ _ ?_
   refine Aa ?_
   refine AWP.ret ?_
   refine Ad ?_
   obtain rfl:=Ag h
   simp +decide -implicitDefEqProofs only[go_sem,Ae,Ac.int.injEq,Int.natCast_zero,List.replicate_zero,List.length_take,List.length_drop,Ac.own.injEq,reduceCtorEq,Int.reduceAdd,Bc,Bd,A8,Bb,A9,Tryz.results51]
  replace h:=Av h hc
  refine AWP.skip ?_
  refine Aa ?_
  refine AWP.seq ?_
  refine AWP.seq ?_
  refine AWP.region rfl ?_;intro K g
  (try simp +decide -implicitDefEqProofs only[go_sem])
  intro hm
  refine g _ _ ?_
  refine Aa ?_
  refine AWP.block ?_
  obtain⟨o0,ae,bg⟩:=A2 h
  clear h
  refine AWP.Cv (ι:=Nat×(Unit)×(Unit)) (fun zz=>[(0,.sl 7 (l.map Bn)),(8,.sl 7 (l.map Bn)),(9,.int .i64 ((l.length:Nat):Int)),(10,.int .i64 ((zz.1:Nat):Int))]) (fun zz=>[]) (fun zz=>zz.1≤l.length∧Bo (Fl l) zz.1 ((l).drop zz.1) zz.2.1=some o0) (fun zz=>l.length - zz.1) (0,(),()) ⟨Nat.zero_le _,ae⟩ (by(simp +decide -implicitDefEqProofs only[go_sem,Ae,Ac.int.injEq,Int.natCast_zero,List.replicate_zero,List.length_take,List.length_drop,Ac.own.injEq,reduceCtorEq,Int.reduceAdd]<;>omega)) (by(simp +decide -implicitDefEqProofs only[go_sem,Ae,Ac.int.injEq,Int.natCast_zero,List.replicate_zero,List.length_take,List.length_drop,Ac.own.injEq,reduceCtorEq,Int.reduceAdd]<;>omega)) (fun x=>⟨rfl,rfl,rfl⟩) ?_
  clear ae
  rintro⟨k0,⟨⟩,⟨⟩⟩ ⟨cn,ae⟩
  dsimp only at cn ae ⊢
  refine AWP.seq ?_
  refine AWP.region rfl ?_;intro K g
  (try simp +decide -implicitDefEqProofs only[go_sem])
  refine g _ _ ?_
  refine Aa ?_
  refine AWP.seq ?_
  refine AWP.cond (Ai (fun hc=>?_) (fun hc=>?_))
  rotate_left
  ·obtain rfl:=B8 ae (fun hl=>by have:=bJ hc;omega)
   have h:=B7 bg;try dsimp only at h
   have ba:l.length=k0:=by have:=bJ hc;omega
   subst ba
   refine AWP.exit ?_
   refine An ?_
   refine An ?_
   refine A6 ?_
   refine Aa ?_
   refine AWP.seq ?_
   refine AWP.region rfl ?_;intro K g
   (try simp +decide -implicitDefEqProofs only[go_sem])
   refine g _ _ ?_
   refine Aa ?_
   refine AWP.ret ?_
   obtain rfl:=Ag h
   simp +decide -implicitDefEqProofs only[go_sem,Ae,Ac.int.injEq,Int.natCast_zero,List.replicate_zero,List.length_take,List.length_drop,Ac.own.injEq,reduceCtorEq,Int.reduceAdd,Bc,Bd,A8,Bb,A9,Tryz.results51]
  have bj:k0<l.length:=by have:=bK hc;omega
  obtain⟨ao,b0,bn,h,ae⟩:=Bw ae bj
  have b7:=Br bn
  have bo:IntKind.i64.wrap (((k0:Nat):Int)+1)=(((k0:Nat):Int)+1):=by rw[wrap_i64]<;>omega
  unfold Fl at h;try dsimp only at h
  refine AWP.skip ?_
  refine Aa ?_
  refine AWP.seq ?_
  refine AWP.block ?_
  refine AWP.seq ?_
  refine AWP.region rfl ?_;intro K g
  (try simp +decide -implicitDefEqProofs only[go_sem])
  refine Ca.of (f:=Bn) (l:=l) b7 ?_
  (try simp +decide -implicitDefEqProofs only[go_sem])
  refine g _ _ ?_
  refine Aa ?_
  refine AWP.seq ?_
  refine AWP.seq ?_
  refine AWP.region rfl ?_;intro K g
  (try simp +decide -implicitDefEqProofs only[go_sem])
  obtain⟨y3,ec,h⟩:=A2 h
  refine Bg.pure Tryz.call75 (K3 ao ec) rfl fun _ hr=>?_
  subst hr
  (try simp +decide -implicitDefEqProofs only[go_sem])
  refine g _ _ ?_
  refine Aa ?_
  refine AWP.cond (Ai (fun hc=>?_) (fun hc=>?_))
  ·replace h:=Au h hc
   refine AWP.seq ?_
   refine AWP.region rfl ?_;intro K g
   (try simp +decide -implicitDefEqProofs only[go_sem])
   refine g _ _ ?_
   refine Aa ?_
   refine AWP.ret ?_
   refine Ad ?_
   refine Aj ?_
   refine Ad ?_
   refine Ad ?_
   obtain rfl:=Ag h
   obtain rfl:=Ba ae
   replace h:=Bp bg
   refine Aj ?_
   refine Ad ?_
   obtain rfl:=Ag h
   simp +decide -implicitDefEqProofs only[go_sem,Ae,Ac.int.injEq,Int.natCast_zero,List.replicate_zero,List.length_take,List.length_drop,Ac.own.injEq,reduceCtorEq,Int.reduceAdd,Bc,Bd,A8,Bb,A9,Tryz.results51]
  replace h:=Av h hc
  refine AWP.skip ?_
  refine Aa ?_
  refine AWP.seq ?_
  refine AWP.draw Tryz.mixed (by kernel_rfl) ?_;intro K g
  (try simp +decide -implicitDefEqProofs only[go_sem])
  refine Ak (fun hc=>?_) (fun hc=>?_)
  ·replace h:=Au h hc
   (try simp +decide -implicitDefEqProofs only[go_sem,hc])
   obtain⟨bw,bz,h⟩:=A2 h
   refine Ca.of (f:=Bn) (l:=l) bz ?_
   (try simp +decide -implicitDefEqProofs only[go_sem])
   obtain⟨y5,fm,h⟩:=A2 h
   refine B9.pure Tryz.call76 (Ml bw ao fm) rfl ?_
   (try simp +decide -implicitDefEqProofs only[go_sem])
   refine g _ _ _ (by kernel_rfl) ?_
   refine Aa ?_
   refine AWP.cond (Ai (fun hc=>?_) (fun hc=>?_))
   ·replace h:=Au h hc
    refine AWP.seq ?_
    refine AWP.region rfl ?_;intro K g
    (try simp +decide -implicitDefEqProofs only[go_sem])
    refine g _ _ ?_
    refine Aa ?_
    refine AWP.ret ?_
    refine Aj ?_
    refine Ad ?_
    refine Ad ?_
    obtain rfl:=Ag h
    obtain rfl:=Ba ae
    replace h:=Bp bg
    refine Aj ?_
    refine Ad ?_
    obtain rfl:=Ag h
    simp +decide -implicitDefEqProofs only[go_sem,Ae,Ac.int.injEq,Int.natCast_zero,List.replicate_zero,List.length_take,List.length_drop,Ac.own.injEq,reduceCtorEq,Int.reduceAdd,Bc,Bd,A8,Bb,A9,Tryz.results51]
   replace h:=Av h hc
   refine AWP.skip ?_
   refine Al ?_
   refine Aa ?_
   refine AWP.region rfl ?_;intro K g
   (try simp +decide -implicitDefEqProofs only[go_sem])
   refine g _ _ ?_
   refine Aa ?_
   obtain rfl:=Ag h
   refine⟨(k0+1,(),()),⟨by dsimp only;omega,Bf ae⟩,by dsimp only;omega,?_,?_⟩
   ·(simp +decide -implicitDefEqProofs only[go_sem,Ae,Ac.int.injEq,Int.natCast_zero,List.replicate_zero,List.length_take,List.length_drop,Ac.own.injEq,reduceCtorEq,Int.reduceAdd,bo]<;>omega)
   (simp +decide -implicitDefEqProofs only[go_sem,Ae,Ac.int.injEq,Int.natCast_zero,List.replicate_zero,List.length_take,List.length_drop,Ac.own.injEq,reduceCtorEq,Int.reduceAdd,bo]<;>omega)
  replace h:=Av h hc
  (try simp +decide -implicitDefEqProofs only[go_sem,hc,Bool.not_true])
  refine g _ _ _ (by kernel_rfl) ?_
  refine Aa ?_
  refine AWP.cond (Bu ?_)
  refine AWP.skip ?_
  refine Al ?_
  refine Aa ?_
  refine AWP.region rfl ?_;intro K g
  (try simp +decide -implicitDefEqProofs only[go_sem])
  refine g _ _ ?_
  refine Aa ?_
  obtain rfl:=Ag h
  refine⟨(k0+1,(),()),⟨by dsimp only;omega,Bf ae⟩,by dsimp only;omega,?_,?_⟩
  ·(simp +decide -implicitDefEqProofs only[go_sem,Ae,Ac.int.injEq,Int.natCast_zero,List.replicate_zero,List.length_take,List.length_drop,Ac.own.injEq,reduceCtorEq,Int.reduceAdd,bo]<;>omega)
  (simp +decide -implicitDefEqProofs only[go_sem,Ae,Ac.int.injEq,Int.natCast_zero,List.replicate_zero,List.length_take,List.length_drop,Ac.own.injEq,reduceCtorEq,Int.reduceAdd,bo]<;>omega)
def E4 (r_:A1):Option (Bool):=
  (Hr [r_]).bind fun y1=>some (decide (y1=0))
theorem K6 (r_:A1) {r:Bool} (h:E4 r_=some r):Aq Tryz.prog 23 [.agg (Bn r_)] (·= .bool r):=by
  refine Aq.nle (Aq.intro Tryz.func23 rfl rfl (by show _≤7;simp) ?_)
  unfold E4 at h
  (try simp +decide -implicitDefEqProofs only[go_sem])
  refine AWP.seq ?_
  refine AWP.region rfl ?_;intro K g
  (try simp +decide -implicitDefEqProofs only[go_sem])
  refine g _ _ ?_
  refine Aa ?_
  refine AWP.seq ?_
  refine AWP.region rfl ?_;intro K g
  (try simp +decide -implicitDefEqProofs only[go_sem])
  obtain⟨y1,ch,h⟩:=A2 h
  refine Bg.snap Tryz.call51 (Mm [r_] ch) (by simp +decide -implicitDefEqProofs only[go_sem]) (by rintro _ rfl;rfl) fun _ hr=>?_
  subst hr
  (try simp +decide -implicitDefEqProofs only[go_sem])
  refine g _ _ ?_
  refine Aa ?_
  refine AWP.ret ?_
  obtain rfl:=Ag h
  simp +decide -implicitDefEqProofs only[go_sem,Ae,Ac.int.injEq,Int.natCast_zero,List.replicate_zero,List.length_take,List.length_drop,Ac.own.injEq,reduceCtorEq,Int.reduceAdd,Bc,Bd,A8,Bb,A9,Tryz.results23]
def Fq (r_:A1):Option (Kk):=
  some (Kk.mk r_.Gate r_.Seq)
theorem Hv (r_:A1) {r:Kk} (h:Fq r_=some r):Aq Tryz.prog 24 [.agg (Bn r_)] (·= .agg (L8 r)):=by
  refine Aq.nle (Aq.intro Tryz.func24 rfl rfl (by show _≤8;simp) ?_)
  unfold Fq at h
  (try simp +decide -implicitDefEqProofs only[go_sem])
  refine AWP.seq ?_
  refine AWP.region rfl ?_;intro K g
  (try simp +decide -implicitDefEqProofs only[go_sem])
  refine g _ _ ?_
  refine Aa ?_
  refine AWP.seq ?_
  refine AWP.region rfl ?_;intro K g
  (try simp +decide -implicitDefEqProofs only[go_sem])
  refine g _ _ ?_
  refine Aa ?_
  refine AWP.ret ?_
  obtain rfl:=Ag h
  simp +decide -implicitDefEqProofs only[go_sem,Ae,Ac.int.injEq,Int.natCast_zero,List.replicate_zero,List.length_take,List.length_drop,Ac.own.injEq,reduceCtorEq,Int.reduceAdd,Bc,Bd,A8,Bb,A9,Tryz.results24]
def Dw (k5:Nat) (je:Ao) (sv:(List Ao)):Option (Out ((List Ao)) (Be)):=
  (Ch sv ((k5:Nat):Int)).bind fun dn=>(A3 dn.Shares).bind fun y9=>some (Out.next (sv.set k5 (Ao.mk dn.Number dn.Span dn.Closed y9)))
def E5 (b:Be):Option (Be):=
  (Bk b.Periods).bind fun y1=>(Bh b.Postings).bind fun y2=>(Bj b.Rides).bind fun y3=>(Bo Dw 0 y1 y1).bind fun o5=>o5.on fun s5=>some (Be.mk s5 y2 y3)
theorem K7 (b:Be) {r:Be} (h:E5 b=some r):Aq Tryz.prog 16 [.agg (Cu b)] (·= .agg (Cu r)):=by
  refine Aq.nle (Aq.intro Tryz.func16 rfl rfl (by show _≤35;simp) ?_)
  unfold E5 at h
  (try simp +decide -implicitDefEqProofs only[go_sem])
  refine AWP.seq ?_
  refine AWP.region rfl ?_;intro K g
  (try simp +decide -implicitDefEqProofs only[go_sem])
  refine g _ _ ?_
  refine Aa ?_
  refine AWP.seq ?_
  refine AWP.draw Tryz.mixed (by kernel_rfl) ?_;intro K g
  (try simp +decide -implicitDefEqProofs only[go_sem])
  obtain⟨y1,ch,h⟩:=A2 h
  refine B9.row Tryz.call39 (B4 b.Periods ch) rfl ?_
  (try simp +decide -implicitDefEqProofs only[go_sem,bT])
  obtain⟨y2,dd,h⟩:=A2 h
  refine B9.row Tryz.call40 (Bs b.Postings dd) rfl ?_
  (try simp +decide -implicitDefEqProofs only[go_sem,bT])
  obtain⟨y3,ec,h⟩:=A2 h
  refine B9.row Tryz.call41 (B0 b.Rides ec) rfl ?_
  (try simp +decide -implicitDefEqProofs only[go_sem,bT])
  refine g _ _ _ (by kernel_rfl) ?_
  refine Aa ?_
  refine AWP.seq ?_
  refine AWP.seq ?_
  refine AWP.region rfl ?_;intro K g
  (try simp +decide -implicitDefEqProofs only[go_sem])
  intro hm
  refine g _ _ ?_
  refine Aa ?_
  refine AWP.block ?_
  obtain⟨o5,dj,n0⟩:=A2 h
  clear h
  refine AWP.Cv (ι:=Nat×((List Ao))×(Nat)) (fun zz=>[(2,.ptr 1 0),(3,.ptr 5 0),(17,.int .i64 ((y1.length:Nat):Int)),(18,.int .i64 ((zz.1:Nat):Int))]) (fun zz=>[.gone,.box [.nils,.nils,.nils],.row zz.2.2 5 (zz.2.1.map Ay),.row 0 4 (y2.map Az),.row 0 8 (y3.map A5),.box [.own 2 zz.2.2 0 zz.2.1.length,.own 3 0 0 y2.length,.own 4 0 0 y3.length]]) (fun zz=>zz.1≤y1.length∧Bo Dw zz.1 ((y1).drop zz.1) zz.2.1=some o5) (fun zz=>y1.length - zz.1) (0,y1,0) ⟨Nat.zero_le _,dj⟩ (by(simp +decide -implicitDefEqProofs only[go_sem,Ae,Ac.int.injEq,Int.natCast_zero,List.replicate_zero,List.length_take,List.length_drop,Ac.own.injEq,reduceCtorEq,Int.reduceAdd]<;>omega)) (by(simp +decide -implicitDefEqProofs only[go_sem,Ae,Ac.int.injEq,Int.natCast_zero,List.replicate_zero,List.length_take,List.length_drop,Ac.own.injEq,reduceCtorEq,Int.reduceAdd]<;>omega)) (fun x=>⟨rfl,rfl,rfl⟩) ?_
  clear dj
  rintro⟨k5,o2_4,ly⟩ ⟨tc,dj⟩
  dsimp only at tc dj ⊢
  refine AWP.seq ?_
  refine AWP.region rfl ?_;intro K g
  (try simp +decide -implicitDefEqProofs only[go_sem])
  refine g _ _ ?_
  refine Aa ?_
  refine AWP.seq ?_
  refine AWP.cond (Ai (fun hc=>?_) (fun hc=>?_))
  rotate_left
  ·obtain rfl:=B8 dj (fun hl=>by have:=bJ hc;omega)
   have h:=B7 n0;try dsimp only at h
   have ba:y1.length=k5:=by have:=bJ hc;omega
   subst ba
   refine AWP.exit ?_
   refine An ?_
   refine An ?_
   refine A6 ?_
   refine Aa ?_
   refine AWP.seq ?_
   refine AWP.region rfl ?_;intro K g
   (try simp +decide -implicitDefEqProofs only[go_sem])
   refine g _ _ ?_
   refine Aa ?_
   refine AWP.ret ?_
   obtain rfl:=Ag h
   simp +decide -implicitDefEqProofs only[go_sem,Ae,Ac.int.injEq,Int.natCast_zero,List.replicate_zero,List.length_take,List.length_drop,Ac.own.injEq,reduceCtorEq,Int.reduceAdd,Bc,Bd,A8,Bb,A9,Tryz.results16]
  have mo:k5<y1.length:=by have:=bK hc;omega
  obtain⟨je,b5,l7,h,dj⟩:=Bw dj mo
  have rq:=Br l7
  have l9:IntKind.i64.wrap (((k5:Nat):Int)+1)=(((k5:Nat):Int)+1):=by rw[wrap_i64]<;>omega
  unfold Dw at h;try dsimp only at h
  refine AWP.skip ?_
  refine Aa ?_
  refine AWP.seq ?_
  refine AWP.block ?_
  refine AWP.seq ?_
  refine AWP.region rfl ?_;intro K g
  (try simp +decide -implicitDefEqProofs only[go_sem])
  refine g _ _ ?_
  refine Aa ?_
  refine AWP.draw Tryz.mixed (by kernel_rfl) ?_;intro K g
  (try simp +decide -implicitDefEqProofs only[go_sem])
  obtain⟨dn,dv,h⟩:=A2 h
  refine C5 dv (by first | rfl | exact(Aw _).symm | (simp only[bR,List.length_cons,List.length_nil,List.length_set,bS]<;>omega) | (simp only[List.length_take,List.length_drop,List.length_set,bS]<;>omega)) ?_
  (try simp +decide -implicitDefEqProofs only[go_sem])
  refine Bt.ofNat (f:=Ay) (l:=o2_4) (n:=k5) dv ?_
  (try simp +decide -implicitDefEqProofs only[go_sem])
  obtain⟨y9,og,h⟩:=A2 h
  refine B9.pure Tryz.call22 (Bq dn.Shares og) rfl ?_
  (try simp +decide -implicitDefEqProofs only[go_sem])
  refine C5 dv (by first | rfl | exact(Aw _).symm | (simp only[bR,List.length_cons,List.length_nil,List.length_set,bS]<;>omega) | (simp only[List.length_take,List.length_drop,List.length_set,bS]<;>omega)) ?_
  (try simp +decide -implicitDefEqProofs only[go_sem])
  refine Bt.ofNat (f:=Ay) (l:=o2_4) (n:=k5) dv ?_
  have wq:=Ce (y:=(Ao.mk dn.Number dn.Span dn.Closed y9)) dv
  (try simp +decide -implicitDefEqProofs only[go_sem])
  refine g _ _ _ (by kernel_rfl) ?_
  refine Al ?_
  refine Aa ?_
  refine AWP.region rfl ?_;intro K g
  (try simp +decide -implicitDefEqProofs only[go_sem])
  refine g _ _ ?_
  refine Aa ?_
  obtain rfl:=Ag h
  refine⟨(k5+1,(o2_4.set k5 (Ao.mk dn.Number dn.Span dn.Closed y9)),ly),⟨by dsimp only;omega,Bf dj⟩,by dsimp only;omega,?_,?_⟩
  ·(simp +decide -implicitDefEqProofs only[go_sem,Ae,Ac.int.injEq,Int.natCast_zero,List.replicate_zero,List.length_take,List.length_drop,Ac.own.injEq,reduceCtorEq,Int.reduceAdd,l9]<;>omega)
  (simp +decide -implicitDefEqProofs only[go_sem,Ae,Ac.int.injEq,Int.natCast_zero,List.replicate_zero,List.length_take,List.length_drop,Ac.own.injEq,reduceCtorEq,Int.reduceAdd,l9]<;>omega)
def Ec (ff:Nat) (dp:Ao) (sv:(List Ao)):Option (Out ((List Ao)) (Be×Int×Int)):=
  (Ch sv ((ff:Nat):Int)).bind fun du=>(A3 du.Shares).bind fun kz=>some (Out.next (sv.set ff (Ao.mk du.Number du.Span du.Closed kz)))
def E9 (b:Be) (r_:A1) (k5:Nat) (je:Ao) (sv:Unit):Option (Out (Unit) (Be×Int×Int)):=
  (bif (!je.Closed)then (bif (decide (r_.At<je.Span.To))then ((bif (decide (((k5:Nat):Int)<0))then some ((Be.mk [] [] []),(0,8))else (bif (decide (2000≤((b.Rides.length:Nat):Int)))then some ((Be.mk [] [] []),(0,9))else (Bk b.Periods).bind fun y8=>(Bh b.Postings).bind fun y9=>(Bj b.Rides).bind fun kd=>(Bo Ec 0 y8 y8).bind fun o12=>o12.on fun s12=>chk (kd.length+1) (some ((Be.mk s12 y9 (kd++[(Ar.mk je.Number r_)])),(je.Number,0)))))).bind fun q17=>some (Out.ret q17)else some (Out.next ()))else some (Out.next ()))
def Ea (b:Be) (r_:A1) (known2:List (Int×Ar)):Option (Be×Int×Int):=
  (Fq r_).bind fun y4=>(bif (mhas known2 (pk y4.gate y4.seq))then (bif (!((decide ((mget (Ar.mk 0 (A1.mk 0 0 0 0 0 0 0)) known2 (pk y4.gate y4.seq)).Ride.Gate=r_.Gate))&&((decide ((mget (Ar.mk 0 (A1.mk 0 0 0 0 0 0 0)) known2 (pk y4.gate y4.seq)).Ride.Seq=r_.Seq))&&((decide ((mget (Ar.mk 0 (A1.mk 0 0 0 0 0 0 0)) known2 (pk y4.gate y4.seq)).Ride.Serial=r_.Serial))&&((decide ((mget (Ar.mk 0 (A1.mk 0 0 0 0 0 0 0)) known2 (pk y4.gate y4.seq)).Ride.Counter=r_.Counter))&&((decide ((mget (Ar.mk 0 (A1.mk 0 0 0 0 0 0 0)) known2 (pk y4.gate y4.seq)).Ride.Product=r_.Product))&&((decide ((mget (Ar.mk 0 (A1.mk 0 0 0 0 0 0 0)) known2 (pk y4.gate y4.seq)).Ride.Lift=r_.Lift))&&(decide ((mget (Ar.mk 0 (A1.mk 0 0 0 0 0 0 0)) known2 (pk y4.gate y4.seq)).Ride.At=r_.At)))))))))then some ((Be.mk [] [] []),(0,15))else (E5 b).bind fun y5=>some (y5,((mget (Ar.mk 0 (A1.mk 0 0 0 0 0 0 0)) known2 (pk y4.gate y4.seq)).Period,0)))else (Bo (E9 b r_) 0 b.Periods ()).bind fun o5=>o5.on fun s5=>some ((Be.mk [] [] []),(0,8)))
def Eb (nk:Nat) (dy:Ar) (sv:(List (Int×Ar))):Option (Out ((List (Int×Ar))) (Be×Int×Int)):=
  (Fq dy.Ride).bind fun iy=>some (Out.next (mset sv (pk iy.gate iy.seq) dy))
def Dh (b:Be) (r_:A1):Option (Be×Int×Int):=
  (E4 r_).bind fun y1=>(bif (!y1)then some ((Be.mk [] [] []),(0,2))else (Bo Eb 0 b.Rides []).bind fun o19=>o19.on fun s19=>Ea b r_ s19)
theorem Hw (b:Be) (r_:A1) {r:Be×Int×Int} (h:Dh b r_=some r):Aq Tryz.prog 9 [.agg (Cu b),.agg (Bn r_)] (·= .tuple [.agg (Cu r.1),.int .i64 r.2.1,.int .i64 r.2.2]):=by
  refine Aq.nle (Aq.intro Tryz.func9 rfl rfl (by show _≤80;simp) ?_)
  unfold Dh at h
  (try simp +decide -implicitDefEqProofs only[go_sem,Ah,Bz])
  refine AWP.seq ?_
  refine AWP.region rfl ?_;intro K g
  (try simp +decide -implicitDefEqProofs only[go_sem,Ah,Bz])
  refine g _ _ ?_
  refine Aa ?_
  refine AWP.seq ?_
  refine AWP.seq ?_
  refine AWP.region rfl ?_;intro K g
  (try simp +decide -implicitDefEqProofs only[go_sem,Ah,Bz])
  obtain⟨y1,ch,h⟩:=A2 h
  refine Bg.pure Tryz.call23 (K6 r_ ch) rfl fun _ hr=>?_
  subst hr
  (try simp +decide -implicitDefEqProofs only[go_sem,Ah,Bz])
  refine g _ _ ?_
  refine Aa ?_
  refine AWP.cond (Ai (fun hc=>?_) (fun hc=>?_))
  ·replace h:=Au h hc
   refine AWP.seq ?_
   refine AWP.region rfl ?_;intro K g
   (try simp +decide -implicitDefEqProofs only[go_sem,Ah,Bz])
   refine g _ _ ?_
   refine Aa ?_
   refine AWP.ret ?_
   refine Ad ?_
   obtain rfl:=Ag h
   simp +decide -implicitDefEqProofs only[go_sem,Ae,Ac.int.injEq,Int.natCast_zero,List.replicate_zero,List.length_take,List.length_drop,Ac.own.injEq,reduceCtorEq,Int.reduceAdd,Bc,Bd,A8,Bb,A9,Tryz.results9,Ah,Bz]
  replace h:=Av h hc
  refine AWP.skip ?_
  refine Aa ?_
  refine AWP.seq ?_
  refine AWP.region rfl ?_;intro K g
  (try simp +decide -implicitDefEqProofs only[go_sem,Ah,Bz])
  refine g _ _ ?_
  refine Aa ?_
  refine AWP.sub (Sub.toQ 3 rfl) ?_
  (try simp +decide -implicitDefEqProofs only[go_sem,Ah,Bz])
  refine AWP.It (ι:=((List (Int×Ar)))×(Unit)) (fun zz=>[(2,.ptr 0 0),(3,.ptr 1 0),(4,.ptr 2 0),(7,.map 3)]) (fun zz=>[.box [.sl 5 (b.Periods.map Ay),.sl 4 (b.Postings.map Az),.sl 8 (b.Rides.map A5)],.box [.int .i64 r_.Gate,.int .i64 r_.Seq,.int .i64 r_.Serial,.int .i64 r_.Counter,.int .i64 r_.Product,.int .i64 r_.Lift,.int .i64 r_.At],.box [.nils,.nils,.nils],.mpo true (mpE B6 zz.1)]) (fun zz=>Ea b r_ zz.1=some r) (fun zz=>⟨rfl,by simp[Qy,M4,mpE,Ac.Gc,Ac.I7,Ac.Ji,Ac.J0,A5,B6],rfl⟩) ?_ ?_
  ·refine AWP.seq ?_
   refine AWP.region rfl ?_;intro K g
   (try simp +decide -implicitDefEqProofs only[go_sem,Ah,Bz])
   intro hm
   refine g _ _ ?_
   refine Aa ?_
   refine AWP.block ?_
   obtain⟨o19,fz,uh⟩:=A2 h
   clear h
   refine AWP.Cv (ι:=Nat×((List (Int×Ar)))×(Unit)) (fun zz=>[(2,.ptr 0 0),(3,.ptr 1 0),(4,.ptr 2 0),(7,.map 3),(21,.sl 8 (b.Rides.map A5)),(22,.int .i64 ((b.Rides.length:Nat):Int)),(23,.int .i64 ((zz.1:Nat):Int))]) (fun zz=>[.box [.sl 5 (b.Periods.map Ay),.sl 4 (b.Postings.map Az),.sl 8 (b.Rides.map A5)],.box [.int .i64 r_.Gate,.int .i64 r_.Seq,.int .i64 r_.Serial,.int .i64 r_.Counter,.int .i64 r_.Product,.int .i64 r_.Lift,.int .i64 r_.At],.box [.nils,.nils,.nils],.mpo true (mpE B6 zz.2.1)]) (fun zz=>zz.1≤b.Rides.length∧Bo Eb zz.1 ((b.Rides).drop zz.1) zz.2.1=some o19) (fun zz=>b.Rides.length - zz.1) (0,[],()) ⟨Nat.zero_le _,fz⟩ (by(simp +decide -implicitDefEqProofs only[go_sem,Ae,Ac.int.injEq,Int.natCast_zero,List.replicate_zero,List.length_take,List.length_drop,Ac.own.injEq,reduceCtorEq,Int.reduceAdd,Ah,Bz]<;>omega)) (by(simp +decide -implicitDefEqProofs only[go_sem,Ae,Ac.int.injEq,Int.natCast_zero,List.replicate_zero,List.length_take,List.length_drop,Ac.own.injEq,reduceCtorEq,Int.reduceAdd,Ah,Bz]<;>omega)) (fun x=>⟨rfl,by simp[Qy,M4,mpE,Ac.Gc,Ac.I7,Ac.Ji,Ac.J0,A5,B6],rfl⟩) ?_
   clear fz
   rintro⟨nk,known19,⟨⟩⟩ ⟨tf,fz⟩
   dsimp only at tf fz ⊢
   refine AWP.seq ?_
   refine AWP.region rfl ?_;intro K g
   (try simp +decide -implicitDefEqProofs only[go_sem,Ah,Bz])
   refine g _ _ ?_
   refine Aa ?_
   refine AWP.seq ?_
   refine AWP.cond (Ai (fun hc=>?_) (fun hc=>?_))
   rotate_left
   ·obtain rfl:=B8 fz (fun hl=>by have:=bJ hc;omega)
    have h:=B7 uh;try dsimp only at h
    have ba:b.Rides.length=nk:=by have:=bJ hc;omega
    subst ba
    refine AWP.exit ?_
    refine An ?_
    refine An ?_
    refine A6 ?_
    refine Aa ?_
    exact⟨(known19,()),h,by(simp +decide -implicitDefEqProofs only[go_sem,Ae,Ac.int.injEq,Int.natCast_zero,List.replicate_zero,List.length_take,List.length_drop,Ac.own.injEq,reduceCtorEq,Int.reduceAdd,Ah,Bz]<;>omega),by(simp +decide -implicitDefEqProofs only[go_sem,Ae,Ac.int.injEq,Int.natCast_zero,List.replicate_zero,List.length_take,List.length_drop,Ac.own.injEq,reduceCtorEq,Int.reduceAdd,Ah,Bz]<;>omega)⟩
   have py:nk<b.Rides.length:=by have:=bK hc;omega
   obtain⟨dy,b19,ou,h,fz⟩:=Bw fz py
   have ry:=Br ou
   have o4:IntKind.i64.wrap (((nk:Nat):Int)+1)=(((nk:Nat):Int)+1):=by rw[wrap_i64]<;>omega
   unfold Eb at h;try dsimp only at h
   refine AWP.skip ?_
   refine Aa ?_
   refine AWP.seq ?_
   refine AWP.block ?_
   refine AWP.seq ?_
   refine AWP.region rfl ?_;intro K g
   (try simp +decide -implicitDefEqProofs only[go_sem,Ah,Bz])
   refine Ca.of (f:=A5) (l:=b.Rides) ry ?_
   (try simp +decide -implicitDefEqProofs only[go_sem,Ah,Bz])
   refine g _ _ ?_
   refine Aa ?_
   refine AWP.draw Tryz.mixed (by kernel_rfl) ?_;intro K g
   (try simp +decide -implicitDefEqProofs only[go_sem,Ah,Bz])
   obtain⟨iy,jf,h⟩:=A2 h
   refine B9.pure Tryz.call24 (Hv dy.Ride jf) rfl ?_
   (try simp +decide -implicitDefEqProofs only[go_sem,Ah,Bz])
   refine g _ _ _ (by kernel_rfl) ?_
   refine Al ?_
   refine Aa ?_
   refine AWP.region rfl ?_;intro K g
   (try simp +decide -implicitDefEqProofs only[go_sem,Ah,Bz])
   refine g _ _ ?_
   refine Aa ?_
   obtain rfl:=Ag h
   refine⟨(nk+1,(mset known19 (pk iy.gate iy.seq) dy),()),⟨by dsimp only;omega,Bf fz⟩,by dsimp only;omega,?_,?_⟩
   ·(simp +decide -implicitDefEqProofs only[go_sem,Ae,Ac.int.injEq,Int.natCast_zero,List.replicate_zero,List.length_take,List.length_drop,Ac.own.injEq,reduceCtorEq,Int.reduceAdd,o4,Ah,Bz]<;>omega)
   (simp +decide -implicitDefEqProofs only[go_sem,Ae,Ac.int.injEq,Int.natCast_zero,List.replicate_zero,List.length_take,List.length_drop,Ac.own.injEq,reduceCtorEq,Int.reduceAdd,o4,Ah,Bz]<;>omega)
  rintro⟨known2,⟨⟩⟩ h
  try dsimp only at h ⊢
  unfold Ea at h;try dsimp only at h
  refine AWP.seq ?_
  refine AWP.seq ?_
  refine AWP.Xf ?_
  refine ALP.cut 3 (ALP.part rfl ?_);intro K g
  (try simp +decide -implicitDefEqProofs only[go_sem,Ah,Bz])
  obtain⟨y4,gj,h⟩:=A2 h
  refine Bg.pure Tryz.call24 (Hv r_ gj) rfl fun _ hr=>?_
  subst hr
  (try simp +decide -implicitDefEqProofs only[go_sem,Ah,Bz])
  refine g _ _ ?_
  refine ALP.Yi rfl rfl rfl Bz rfl Yr ?_
  (try simp +decide -implicitDefEqProofs only[go_sem,Ah,Bz])
  refine Ew.of (f:=B6) (m:=known2) (d:=(Ar.mk 0 (A1.mk 0 0 0 0 0 0 0))) rfl ?_
  (try simp +decide -implicitDefEqProofs only[go_sem,Ah,Bz])
  refine ALP.last rfl ?_;intro K g
  (try simp +decide -implicitDefEqProofs only[go_sem,Ah,Bz])
  refine g _ _ ?_
  refine Aa ?_
  refine AWP.seq ?_
  refine AWP.region rfl ?_;intro K g
  (try simp +decide -implicitDefEqProofs only[go_sem,Ah,Bz])
  refine g _ _ ?_
  refine Aa ?_
  refine AWP.cond (Ai (fun hc=>?_) (fun hc=>?_))
  ·replace h:=Au h hc
   refine AWP.seq ?_
   refine AWP.seq ?_
   refine AWP.region rfl ?_;intro K g
   (try simp +decide -implicitDefEqProofs only[go_sem,Ah,Bz])
   refine g _ _ ?_
   refine Aa ?_
   refine AWP.cond (Ai (fun hc=>?_) (fun hc=>?_))
   ·replace h:=Au h hc
    refine AWP.seq ?_
    refine AWP.region rfl ?_;intro K g
    (try simp +decide -implicitDefEqProofs only[go_sem,Ah,Bz])
    refine g _ _ ?_
    refine Aa ?_
    refine AWP.ret ?_
    refine Ad ?_
    refine Ad ?_
    obtain rfl:=Ag h
    simp +decide -implicitDefEqProofs only[go_sem,Ae,Ac.int.injEq,Int.natCast_zero,List.replicate_zero,List.length_take,List.length_drop,Ac.own.injEq,reduceCtorEq,Int.reduceAdd,Bc,Bd,A8,Bb,A9,Tryz.results9,Ah,Bz]
   replace h:=Av h hc
   refine AWP.skip ?_
   refine Aa ?_
   refine AWP.seq ?_
   refine AWP.draw Tryz.mixed (by kernel_rfl) ?_;intro K g
   (try simp +decide -implicitDefEqProofs only[go_sem,Ah,Bz])
   obtain⟨y5,fm,h⟩:=A2 h
   refine B9.pure Tryz.call16 (K7 b fm) rfl ?_
   (try simp +decide -implicitDefEqProofs only[go_sem,Ah,Bz])
   refine g _ _ _ (by kernel_rfl) ?_
   refine Aa ?_
   refine AWP.ret ?_
   refine Ad ?_
   obtain rfl:=Ag h
   simp +decide -implicitDefEqProofs only[go_sem,Ae,Ac.int.injEq,Int.natCast_zero,List.replicate_zero,List.length_take,List.length_drop,Ac.own.injEq,reduceCtorEq,Int.reduceAdd,Bc,Bd,A8,Bb,A9,Tryz.results9,Ah,Bz]
  replace h:=Av h hc
  refine AWP.skip ?_
  refine Aa ?_
  refine AWP.seq ?_
  refine AWP.region rfl ?_;intro K g
  (try simp +decide -implicitDefEqProofs only[go_sem,Ah,Bz])
  refine Bg.inline Tryz.call25 Tryz.func25 rfl rfl (by show _≤19;simp) ?_
  (try simp +decide -implicitDefEqProofs only[go_sem,Ah,Bz])
  refine AWP.seq ?_
  refine AWP.region rfl ?_;intro K g
  (try simp +decide -implicitDefEqProofs only[go_sem,Ah,Bz])
  refine g _ _ ?_;clear g K
  refine Aa ?_
  refine AWP.seq ?_
  refine AWP.seq ?_
  refine AWP.region rfl ?_;intro K g
  (try simp +decide -implicitDefEqProofs only[go_sem,Ah,Bz])
  intro hm
  refine g _ _ ?_;clear g K
  refine Aa ?_
  refine AWP.block ?_
  obtain⟨o5,dj,n0⟩:=A2 h
  clear h
  refine AWP.Cv (ι:=Nat×(Unit)×(Unit)) (fun zz=>[(0,.sl 5 (b.Periods.map Ay)),(1,.func 26 [.ptr 1 0]),(7,.int .i64 ((b.Periods.length:Nat):Int)),(8,.int .i64 ((zz.1:Nat):Int))]) (fun zz=>[.box [.sl 5 (b.Periods.map Ay),.sl 4 (b.Postings.map Az),.sl 8 (b.Rides.map A5)],.box [.int .i64 r_.Gate,.int .i64 r_.Seq,.int .i64 r_.Serial,.int .i64 r_.Counter,.int .i64 r_.Product,.int .i64 r_.Lift,.int .i64 r_.At],.box [.nils,.nils,.nils],.mpo true (mpE B6 known2),.box [.int .i64 (mget (Ar.mk (0:Int) (A1.mk (0:Int) (0:Int) (0:Int) (0:Int) (0:Int) (0:Int) (0:Int))) known2 (pk y4.gate y4.seq)).Period,.int .i64 (mget (Ar.mk (0:Int) (A1.mk (0:Int) (0:Int) (0:Int) (0:Int) (0:Int) (0:Int) (0:Int))) known2 (pk y4.gate y4.seq)).Ride.Gate,.int .i64 (mget (Ar.mk (0:Int) (A1.mk (0:Int) (0:Int) (0:Int) (0:Int) (0:Int) (0:Int) (0:Int))) known2 (pk y4.gate y4.seq)).Ride.Seq,.int .i64 (mget (Ar.mk (0:Int) (A1.mk (0:Int) (0:Int) (0:Int) (0:Int) (0:Int) (0:Int) (0:Int))) known2 (pk y4.gate y4.seq)).Ride.Serial,.int .i64 (mget (Ar.mk (0:Int) (A1.mk (0:Int) (0:Int) (0:Int) (0:Int) (0:Int) (0:Int) (0:Int))) known2 (pk y4.gate y4.seq)).Ride.Counter,.int .i64 (mget (Ar.mk (0:Int) (A1.mk (0:Int) (0:Int) (0:Int) (0:Int) (0:Int) (0:Int) (0:Int))) known2 (pk y4.gate y4.seq)).Ride.Product,.int .i64 (mget (Ar.mk (0:Int) (A1.mk (0:Int) (0:Int) (0:Int) (0:Int) (0:Int) (0:Int) (0:Int))) known2 (pk y4.gate y4.seq)).Ride.Lift,.int .i64 (mget (Ar.mk (0:Int) (A1.mk (0:Int) (0:Int) (0:Int) (0:Int) (0:Int) (0:Int) (0:Int))) known2 (pk y4.gate y4.seq)).Ride.At]]) (fun zz=>zz.1≤b.Periods.length∧Bo (E9 b r_) zz.1 ((b.Periods).drop zz.1) zz.2.1=some o5) (fun zz=>b.Periods.length - zz.1) (0,(),()) ⟨Nat.zero_le _,dj⟩ (by(simp +decide -implicitDefEqProofs only[go_sem,Ae,Ac.int.injEq,Int.natCast_zero,List.replicate_zero,List.length_take,List.length_drop,Ac.own.injEq,reduceCtorEq,Int.reduceAdd,Ah,Bz]<;>omega)) (by(simp +decide -implicitDefEqProofs only[go_sem,Ae,Ac.int.injEq,Int.natCast_zero,List.replicate_zero,List.length_take,List.length_drop,Ac.own.injEq,reduceCtorEq,Int.reduceAdd,Ah,Bz]<;>omega)) (fun x=>⟨rfl,by simp[Qy,M4,mpE,Ac.Gc,Ac.I7,Ac.Ji,Ac.J0,A5,B6],rfl⟩) ?_
  clear dj
  rintro⟨k5,⟨⟩,⟨⟩⟩ ⟨tc,dj⟩
  dsimp only at tc dj ⊢
  refine AWP.seq ?_
  refine AWP.region rfl ?_;intro K g
  (try simp +decide -implicitDefEqProofs only[go_sem,Ah,Bz])
  refine g _ _ ?_;clear g K
  refine Aa ?_
  refine AWP.seq ?_
  refine AWP.cond (Ai (fun hc=>?_) (fun hc=>?_))
  rotate_left
  ·obtain rfl:=B8 dj (fun hl=>by have:=bJ hc;omega)
   have h:=B7 n0;try dsimp only at h
   have ba:b.Periods.length=k5:=by have:=bJ hc;omega
   subst ba
   refine AWP.exit ?_
   refine An ?_
   refine An ?_
   refine A6 ?_
   refine Aa ?_
   refine AWP.seq ?_
   refine AWP.region rfl ?_;intro K g
   (try simp +decide -implicitDefEqProofs only[go_sem,Ah,Bz])
   refine g _ _ ?_;clear g K
   refine Aa ?_
   refine AWP.ret ?_
   (try simp +decide -implicitDefEqProofs only[go_sem,Tryz.results25,Ah,Bz])
   refine g _ _ ?_
   refine Aa ?_
   refine AWP.seq ?_
   refine AWP.seq ?_
   refine AWP.region rfl ?_;intro K g
   (try simp +decide -implicitDefEqProofs only[go_sem,Ah,Bz])
   refine g _ _ ?_
   refine Aa ?_
   refine AWP.cond (A7 ?_)
   refine AWP.seq ?_
   refine AWP.region rfl ?_;intro K g
   (try simp +decide -implicitDefEqProofs only[go_sem,Ah,Bz])
   refine g _ _ ?_
   refine Aa ?_
   refine AWP.ret ?_
   refine Ad ?_
   obtain rfl:=Ag h
   simp +decide -implicitDefEqProofs only[go_sem,Ae,Ac.int.injEq,Int.natCast_zero,List.replicate_zero,List.length_take,List.length_drop,Ac.own.injEq,reduceCtorEq,Int.reduceAdd,Bc,Bd,A8,Bb,A9,Tryz.results9,Ah,Bz]
  have mo:k5<b.Periods.length:=by have:=bK hc;omega
  obtain⟨je,b5,l7,h,dj⟩:=Bw dj mo
  have rq:=Br l7
  have l9:IntKind.i64.wrap (((k5:Nat):Int)+1)=(((k5:Nat):Int)+1):=by rw[wrap_i64]<;>omega
  unfold E9 at h;try dsimp only at h
  refine AWP.skip ?_
  refine Aa ?_
  refine AWP.seq ?_
  refine AWP.block ?_
  refine AWP.seq ?_
  refine AWP.region rfl ?_;intro K g
  (try simp +decide -implicitDefEqProofs only[go_sem,Ah,Bz])
  refine g _ _ ?_;clear g K
  refine Aa ?_
  refine AWP.seq ?_
  refine AWP.region rfl ?_;intro K g
  (try simp +decide -implicitDefEqProofs only[go_sem,Ah,Bz])
  refine Ca.of (f:=Ay) (l:=b.Periods) rq ?_
  (try simp +decide -implicitDefEqProofs only[go_sem,Ah,Bz])
  refine Bg.inline Tryz.call26 Tryz.func26 rfl rfl (by show _≤15;simp) ?_
  (try simp +decide -implicitDefEqProofs only[go_sem,Ah,Bz])
  refine AWP.seq ?_
  refine AWP.region rfl ?_;intro K g
  (try simp +decide -implicitDefEqProofs only[go_sem,Ah,Bz])
  refine g _ _ ?_;clear g K
  refine Aa ?_
  refine AWP.seq ?_
  refine AWP.region rfl ?_;intro K g
  (try simp +decide -implicitDefEqProofs only[go_sem,Ah,Bz])
  refine Ak (fun hc=>?_) (fun hc=>?_)
  ·replace h:=Au h hc
   (try simp +decide -implicitDefEqProofs only[go_sem,hc,Ah,Bz])
   refine g _ _ ?_;clear g K
   refine Aa ?_
   refine AWP.ret ?_
   (try simp +decide -implicitDefEqProofs only[go_sem,Tryz.results26,Ah,Bz])
   refine g _ _ ?_;clear g K
   refine Aa ?_
   refine AWP.cond (Ai (fun hc=>?_) (fun hc=>?_))
   ·replace h:=Au h hc
    refine AWP.seq ?_
    refine AWP.region rfl ?_;intro K g
    (try simp +decide -implicitDefEqProofs only[go_sem,Ah,Bz])
    refine g _ _ ?_;clear g K
    refine Aa ?_
    refine AWP.ret ?_
    refine Aj ?_
    refine Ad ?_
    refine Ad ?_
    obtain⟨q17,hq,h⟩:=A2 h
    obtain rfl:=Ag h
    obtain rfl:=Ba dj
    replace h:=hq.trans (Bp n0)
    refine Aj ?_
    refine Ad ?_
    (try simp +decide -implicitDefEqProofs only[go_sem,Tryz.results25,Ah,Bz])
    refine g _ _ ?_
    refine Aa ?_
    refine AWP.seq ?_
    refine AWP.seq ?_
    refine AWP.region rfl ?_;intro K g
    (try simp +decide -implicitDefEqProofs only[go_sem,Ah,Bz])
    refine g _ _ ?_
    refine Aa ?_
    refine AWP.cond (Ai (fun hc=>?_) (fun hc=>?_))
    ·replace h:=Au h hc
     refine AWP.seq ?_
     refine AWP.region rfl ?_;intro K g
     (try simp +decide -implicitDefEqProofs only[go_sem,Ah,Bz])
     refine g _ _ ?_
     refine Aa ?_
     refine AWP.ret ?_
     refine Ad ?_
     obtain rfl:=Ag h
     simp +decide -implicitDefEqProofs only[go_sem,Ae,Ac.int.injEq,Int.natCast_zero,List.replicate_zero,List.length_take,List.length_drop,Ac.own.injEq,reduceCtorEq,Int.reduceAdd,Bc,Bd,A8,Bb,A9,Tryz.results9,Ah,Bz]
    replace h:=Av h hc
    refine AWP.skip ?_
    refine Aa ?_
    refine AWP.seq ?_
    refine AWP.seq ?_
    refine AWP.region rfl ?_;intro K g
    (try simp +decide -implicitDefEqProofs only[go_sem,Ah,Bz])
    intro hm
    refine g _ _ ?_
    refine Aa ?_
    refine AWP.cond (Ai (fun hc=>?_) (fun hc=>?_))
    ·replace h:=Au h hc
     refine AWP.seq ?_
     refine AWP.region rfl ?_;intro K g
     (try simp +decide -implicitDefEqProofs only[go_sem,Ah,Bz])
     refine g _ _ ?_
     refine Aa ?_
     refine AWP.ret ?_
     refine Ad ?_
     obtain rfl:=Ag h
     simp +decide -implicitDefEqProofs only[go_sem,Ae,Ac.int.injEq,Int.natCast_zero,List.replicate_zero,List.length_take,List.length_drop,Ac.own.injEq,reduceCtorEq,Int.reduceAdd,Bc,Bd,A8,Bb,A9,Tryz.results9,Ah,Bz]
    replace h:=Av h hc
    refine AWP.skip ?_
    refine Aa ?_
    refine AWP.seq ?_
    refine AWP.region rfl ?_;intro K g
    (try simp +decide -implicitDefEqProofs only[go_sem,Ah,Bz])
    refine Bg.inline Tryz.call16 Tryz.func16 rfl rfl (by show _≤35;simp) ?_
    (try simp +decide -implicitDefEqProofs only[go_sem,Ah,Bz])
    refine AWP.seq ?_
    refine AWP.region rfl ?_;intro K g
    (try simp +decide -implicitDefEqProofs only[go_sem,Ah,Bz])
    refine g _ _ ?_;clear g K
    refine Aa ?_
    refine AWP.seq ?_
    refine AWP.draw Tryz.mixed (by kernel_rfl) ?_;intro K g
    (try simp +decide -implicitDefEqProofs only[go_sem,Ah,Bz])
    obtain⟨y8,q3,h⟩:=A2 h
    refine B9.row Tryz.call39 (B4 b.Periods q3) rfl ?_
    (try simp +decide -implicitDefEqProofs only[go_sem,bT,Ah,Bz])
    obtain⟨y9,og,h⟩:=A2 h
    refine B9.row Tryz.call40 (Bs b.Postings og) rfl ?_
    (try simp +decide -implicitDefEqProofs only[go_sem,bT,Ah,Bz])
    obtain⟨kd,l4,h⟩:=A2 h
    refine B9.row Tryz.call41 (B0 b.Rides l4) rfl ?_
    (try simp +decide -implicitDefEqProofs only[go_sem,bT,Ah,Bz])
    refine g _ _ _ (by kernel_rfl) ?_;clear g K
    refine Aa ?_
    refine AWP.seq ?_
    refine AWP.seq ?_
    refine AWP.region rfl ?_;intro K g
    (try simp +decide -implicitDefEqProofs only[go_sem,Ah,Bz])
    intro hm
    refine g _ _ ?_;clear g K
    refine Aa ?_
    refine AWP.block ?_
    obtain⟨o12,cm,nf⟩:=A2 h
    clear h
    refine AWP.Cv (ι:=Nat×((List Ao))×(Nat)) (fun zz=>[(2,.ptr 7 0),(3,.ptr 11 0),(17,.int .i64 ((y8.length:Nat):Int)),(18,.int .i64 ((zz.1:Nat):Int))]) (fun zz=>[.box [.sl 5 (b.Periods.map Ay),.sl 4 (b.Postings.map Az),.sl 8 (b.Rides.map A5)],.box [.int .i64 r_.Gate,.int .i64 r_.Seq,.int .i64 r_.Serial,.int .i64 r_.Counter,.int .i64 r_.Product,.int .i64 r_.Lift,.int .i64 r_.At],.box [.nils,.nils,.nils],.mpo true (mpE B6 known2),.box [.int .i64 (mget (Ar.mk (0:Int) (A1.mk (0:Int) (0:Int) (0:Int) (0:Int) (0:Int) (0:Int) (0:Int))) known2 (pk y4.gate y4.seq)).Period,.int .i64 (mget (Ar.mk (0:Int) (A1.mk (0:Int) (0:Int) (0:Int) (0:Int) (0:Int) (0:Int) (0:Int))) known2 (pk y4.gate y4.seq)).Ride.Gate,.int .i64 (mget (Ar.mk (0:Int) (A1.mk (0:Int) (0:Int) (0:Int) (0:Int) (0:Int) (0:Int) (0:Int))) known2 (pk y4.gate y4.seq)).Ride.Seq,.int .i64 (mget (Ar.mk (0:Int) (A1.mk (0:Int) (0:Int) (0:Int) (0:Int) (0:Int) (0:Int) (0:Int))) known2 (pk y4.gate y4.seq)).Ride.Serial,.int .i64 (mget (Ar.mk (0:Int) (A1.mk (0:Int) (0:Int) (0:Int) (0:Int) (0:Int) (0:Int) (0:Int))) known2 (pk y4.gate y4.seq)).Ride.Counter,.int .i64 (mget (Ar.mk (0:Int) (A1.mk (0:Int) (0:Int) (0:Int) (0:Int) (0:Int) (0:Int) (0:Int))) known2 (pk y4.gate y4.seq)).Ride.Product,.int .i64 (mget (Ar.mk (0:Int) (A1.mk (0:Int) (0:Int) (0:Int) (0:Int) (0:Int) (0:Int) (0:Int))) known2 (pk y4.gate y4.seq)).Ride.Lift,.int .i64 (mget (Ar.mk (0:Int) (A1.mk (0:Int) (0:Int) (0:Int) (0:Int) (0:Int) (0:Int) (0:Int))) known2 (pk y4.gate y4.seq)).Ride.At],.gone,.gone,.box [.nils,.nils,.nils],.row zz.2.2 5 (zz.2.1.map Ay),.row 0 4 (y9.map Az),.row 0 8 (kd.map A5),.box [.own 8 zz.2.2 0 zz.2.1.length,.own 9 0 0 y9.length,.own 10 0 0 kd.length]]) (fun zz=>zz.1≤y8.length∧Bo Ec zz.1 ((y8).drop zz.1) zz.2.1=some o12) (fun zz=>y8.length - zz.1) (0,y8,0) ⟨Nat.zero_le _,cm⟩ (by(simp +decide -implicitDefEqProofs only[go_sem,Ae,Ac.int.injEq,Int.natCast_zero,List.replicate_zero,List.length_take,List.length_drop,Ac.own.injEq,reduceCtorEq,Int.reduceAdd,Ah,Bz]<;>omega)) (by(simp +decide -implicitDefEqProofs only[go_sem,Ae,Ac.int.injEq,Int.natCast_zero,List.replicate_zero,List.length_take,List.length_drop,Ac.own.injEq,reduceCtorEq,Int.reduceAdd,Ah,Bz]<;>omega)) (fun x=>⟨rfl,by simp[Qy,M4,mpE,Ac.Gc,Ac.I7,Ac.Ji,Ac.J0,A5,B6],rfl⟩) ?_
    clear cm
    rintro⟨ff,o8_11,oc⟩ ⟨mq,cm⟩
    dsimp only at mq cm ⊢
    refine AWP.seq ?_
    refine AWP.region rfl ?_;intro K g
    (try simp +decide -implicitDefEqProofs only[go_sem,Ah,Bz])
    refine g _ _ ?_;clear g K
    refine Aa ?_
    refine AWP.seq ?_
    refine AWP.cond (Ai (fun hc=>?_) (fun hc=>?_))
    ·have jy:ff<y8.length:=by have:=bK hc;omega
     obtain⟨dp,b12,jo,h,cm⟩:=Bw cm jy
     have ov:=Br jo
     have jr:IntKind.i64.wrap (((ff:Nat):Int)+1)=(((ff:Nat):Int)+1):=by rw[wrap_i64]<;>omega
     unfold Ec at h;try dsimp only at h
     refine AWP.skip ?_
     refine Aa ?_
     refine AWP.seq ?_
     refine AWP.block ?_
     refine AWP.seq ?_
     refine AWP.region rfl ?_;intro K g
     (try simp +decide -implicitDefEqProofs only[go_sem,Ah,Bz])
     refine g _ _ ?_;clear g K
     refine Aa ?_
     refine AWP.draw Tryz.mixed (by kernel_rfl) ?_;intro K g
     (try simp +decide -implicitDefEqProofs only[go_sem,Ah,Bz])
     obtain⟨du,fq,h⟩:=A2 h
     refine C5 fq (by first | rfl | exact(Aw _).symm | (simp only[bR,List.length_cons,List.length_nil,List.length_set,bS]<;>omega) | (simp only[List.length_take,List.length_drop,List.length_set,bS]<;>omega)) ?_
     (try simp +decide -implicitDefEqProofs only[go_sem,Ah,Bz])
     refine Bt.ofNat (f:=Ay) (l:=o8_11) (n:=ff) fq ?_
     (try simp +decide -implicitDefEqProofs only[go_sem,Ah,Bz])
     obtain⟨kz,l3,h⟩:=A2 h
     refine B9.pure Tryz.call22 (Bq du.Shares l3) rfl ?_
     (try simp +decide -implicitDefEqProofs only[go_sem,Ah,Bz])
     refine C5 fq (by first | rfl | exact(Aw _).symm | (simp only[bR,List.length_cons,List.length_nil,List.length_set,bS]<;>omega) | (simp only[List.length_take,List.length_drop,List.length_set,bS]<;>omega)) ?_
     (try simp +decide -implicitDefEqProofs only[go_sem,Ah,Bz])
     refine Bt.ofNat (f:=Ay) (l:=o8_11) (n:=ff) fq ?_
     have wk:=Ce (y:=(Ao.mk du.Number du.Span du.Closed kz)) fq
     (try simp +decide -implicitDefEqProofs only[go_sem,Ah,Bz])
     refine g _ _ _ (by kernel_rfl) ?_;clear g K
     refine Al ?_
     refine Aa ?_
     refine AWP.region rfl ?_;intro K g
     (try simp +decide -implicitDefEqProofs only[go_sem,Ah,Bz])
     refine g _ _ ?_;clear g K
     refine Aa ?_
     obtain rfl:=Ag h
     refine⟨(ff+1,(o8_11.set ff (Ao.mk du.Number du.Span du.Closed kz)),oc),⟨by dsimp only;omega,Bf cm⟩,by dsimp only;omega,?_,?_⟩
     ·(simp +decide -implicitDefEqProofs only[go_sem,Ae,Ac.int.injEq,Int.natCast_zero,List.replicate_zero,List.length_take,List.length_drop,Ac.own.injEq,reduceCtorEq,Int.reduceAdd,jr,Ah,Bz]<;>omega)
     (simp +decide -implicitDefEqProofs only[go_sem,Ae,Ac.int.injEq,Int.natCast_zero,List.replicate_zero,List.length_take,List.length_drop,Ac.own.injEq,reduceCtorEq,Int.reduceAdd,jr,Ah,Bz]<;>omega)
    obtain rfl:=B8 cm (fun hl=>by have:=bJ hc;omega)
    have h:=B7 nf;try dsimp only at h
    have ba:y8.length=ff:=by have:=bJ hc;omega
    subst ba
    refine AWP.exit ?_
    refine An ?_
    refine An ?_
    refine A6 ?_
    refine Aa ?_
    refine AWP.seq ?_
    refine AWP.region rfl ?_;intro K g
    (try simp +decide -implicitDefEqProofs only[go_sem,Ah,Bz])
    refine g _ _ ?_;clear g K
    refine Aa ?_
    refine AWP.ret ?_
    (try simp +decide -implicitDefEqProofs only[go_sem,Tryz.results16,Ah,Bz])
    refine g _ _ ?_
    refine Aa ?_
    refine AWP.seq ?_
    refine AWP.region rfl ?_;intro K g
    (try simp +decide -implicitDefEqProofs only[go_sem,Ah,Bz])
    refine Ca.of (f:=Ay) (l:=b.Periods) rq ?_
    (try simp +decide -implicitDefEqProofs only[go_sem,Ah,Bz])
    refine g _ _ ?_
    refine Aa ?_
    refine AWP.seq ?_
    refine AWP.region rfl ?_;intro K g
    (try simp +decide -implicitDefEqProofs only[go_sem,Ah,Bz])
    obtain⟨hk,h⟩:=D6 h
    (repeat refine rp ?_);try simp +decide -implicitDefEqProofs only[go_sem]
    refine g _ _ ?_
    refine Aa ?_
    refine AWP.seq ?_
    refine AWP.region rfl ?_;intro K g
    (try simp +decide -implicitDefEqProofs only[go_sem,Ah,Bz])
    refine g _ _ ?_
    refine Aa ?_
    refine AWP.ret ?_
    obtain rfl:=Ag h
    simp +decide -implicitDefEqProofs only[go_sem,Ae,Ac.int.injEq,Int.natCast_zero,List.replicate_zero,List.length_take,List.length_drop,Ac.own.injEq,reduceCtorEq,Int.reduceAdd,Bc,Bd,A8,Bb,A9,Tryz.results9,Ah,Bz]
   replace h:=Av h hc
   refine AWP.skip ?_
   refine Al ?_
   refine Aa ?_
   refine AWP.region rfl ?_;intro K g
   (try simp +decide -implicitDefEqProofs only[go_sem,Ah,Bz])
   refine g _ _ ?_;clear g K
   refine Aa ?_
   obtain rfl:=Ag h
   refine⟨(k5+1,(),()),⟨by dsimp only;omega,Bf dj⟩,by dsimp only;omega,?_,?_⟩
   ·(simp +decide -implicitDefEqProofs only[go_sem,Ae,Ac.int.injEq,Int.natCast_zero,List.replicate_zero,List.length_take,List.length_drop,Ac.own.injEq,reduceCtorEq,Int.reduceAdd,l9,Ah,Bz]<;>omega)
   (simp +decide -implicitDefEqProofs only[go_sem,Ae,Ac.int.injEq,Int.natCast_zero,List.replicate_zero,List.length_take,List.length_drop,Ac.own.injEq,reduceCtorEq,Int.reduceAdd,l9,Ah,Bz]<;>omega)
  replace h:=Av h hc
  (try simp +decide -implicitDefEqProofs only[go_sem,hc,Bool.not_true,Ah,Bz])
  refine g _ _ ?_;clear g K
  refine Aa ?_
  refine AWP.ret ?_
  (try simp +decide -implicitDefEqProofs only[go_sem,Tryz.results26,Ah,Bz])
  refine g _ _ ?_;clear g K
  refine Aa ?_
  refine AWP.cond (Bu ?_)
  refine AWP.skip ?_
  refine Al ?_
  refine Aa ?_
  refine AWP.region rfl ?_;intro K g
  (try simp +decide -implicitDefEqProofs only[go_sem,Ah,Bz])
  refine g _ _ ?_;clear g K
  refine Aa ?_
  obtain rfl:=Ag h
  refine⟨(k5+1,(),()),⟨by dsimp only;omega,Bf dj⟩,by dsimp only;omega,?_,?_⟩
  ·(simp +decide -implicitDefEqProofs only[go_sem,Ae,Ac.int.injEq,Int.natCast_zero,List.replicate_zero,List.length_take,List.length_drop,Ac.own.injEq,reduceCtorEq,Int.reduceAdd,l9,Ah,Bz]<;>omega)
  (simp +decide -implicitDefEqProofs only[go_sem,Ae,Ac.int.injEq,Int.natCast_zero,List.replicate_zero,List.length_take,List.length_drop,Ac.own.injEq,reduceCtorEq,Int.reduceAdd,l9,Ah,Bz]<;>omega)
def E8 (number:Int) (k2:Nat) (bw:Ar) (sv:(List A1)):Option (Out ((List A1)) ((List A1))):=
  (bif (decide (bw.Period=number))then chk (sv.length+1) (some (Out.next (sv++[bw.Ride])))else some (Out.next sv))
def Fs (b:Be) (number:Int):Option ((List A1)):=
  (Bo (E8 number) 0 b.Rides []).bind fun o2=>o2.on fun s2=>chk s2.length (some s2)
theorem Lr (b:Be) (number:Int) {r:(List A1)} (h:Fs b number=some r):Aq Tryz.prog 10 [.agg (Cu b),.int .i64 number] (fun q=>∃ r_:(List A1),r_.Perm r∧q= .sl 7 (r_.map Bn)):=by
  refine Aq.intro Tryz.func10 rfl rfl (by show _≤28;simp) ?_
  unfold Fs at h
  (try simp +decide -implicitDefEqProofs only[go_sem])
  refine AWP.seq ?_
  refine AWP.region rfl ?_;intro K g
  (try simp +decide -implicitDefEqProofs only[go_sem])
  refine g _ _ ?_
  refine Aa ?_
  refine AWP.seq ?_
  refine AWP.region rfl ?_;intro K g
  (try simp +decide -implicitDefEqProofs only[go_sem])
  refine g _ _ ?_
  refine Aa ?_
  refine AWP.seq ?_
  refine AWP.seq ?_
  refine AWP.region rfl ?_;intro K g
  (try simp +decide -implicitDefEqProofs only[go_sem])
  intro hm
  refine g _ _ ?_
  refine Aa ?_
  refine AWP.block ?_
  refine AWP.ghost 5 7 rfl (by decide) ?_
  obtain⟨o2,br,gf⟩:=A2 h
  clear h
  refine AWP.Cv (ι:=Nat×((List A1))×(Nat)) (fun zz=>[(1,.int .i64 number),(5,.own 1 zz.2.2 0 zz.2.1.length),(9,.sl 8 (b.Rides.map A5)),(10,.int .i64 ((b.Rides.length:Nat):Int)),(11,.int .i64 ((zz.1:Nat):Int))]) (fun zz=>[.gone,.row zz.2.2 7 (zz.2.1.map Bn)]) (fun zz=>zz.1≤b.Rides.length∧Bo (E8 number) zz.1 ((b.Rides).drop zz.1) zz.2.1=some o2) (fun zz=>b.Rides.length - zz.1) (0,[],0) ⟨Nat.zero_le _,br⟩ (by(simp +decide -implicitDefEqProofs only[go_sem,Ae,Ac.int.injEq,Int.natCast_zero,List.replicate_zero,List.length_take,List.length_drop,Ac.own.injEq,reduceCtorEq,Int.reduceAdd]<;>omega)) (by(simp +decide -implicitDefEqProofs only[go_sem,Ae,Ac.int.injEq,Int.natCast_zero,List.replicate_zero,List.length_take,List.length_drop,Ac.own.injEq,reduceCtorEq,Int.reduceAdd]<;>omega)) (fun x=>⟨rfl,rfl,rfl⟩) ?_
  clear br
  rintro⟨k2,oe,oa⟩ ⟨db,br⟩
  dsimp only at db br ⊢
  refine AWP.seq ?_
  refine AWP.region rfl ?_;intro K g
  (try simp +decide -implicitDefEqProofs only[go_sem])
  refine g _ _ ?_
  refine Aa ?_
  refine AWP.seq ?_
  refine AWP.cond (Ai (fun hc=>?_) (fun hc=>?_))
  rotate_left
  ·obtain rfl:=B8 br (fun hl=>by have:=bJ hc;omega)
   have h:=B7 gf;try dsimp only at h
   have ba:b.Rides.length=k2:=by have:=bJ hc;omega
   subst ba
   refine AWP.exit ?_
   refine An ?_
   refine An ?_
   refine A6 ?_
   refine Aa ?_
   refine AWP.seq ?_
   refine AWP.region rfl ?_;intro K g
   (try simp +decide -implicitDefEqProofs only[go_sem])
   obtain⟨hk,h⟩:=D6 h
   refine Bg.Xx (encI:=Ru) Tryz.call27 Tryz.sortK27 (fun _=>rfl) (fun _=>rfl) (by decide) Bn (fun _=>rfl) rfl (by first | rfl | (simp;done) | first | rfl | exact(Aw _).symm | (simp only[bR,List.length_cons,List.length_nil,List.length_set,bS]<;>omega) | (simp only[List.length_take,List.length_drop,List.length_set,bS]<;>omega)) (by first | exact hk | (simpa using hk)) fun lp hp=>?_
   (try simp +decide -implicitDefEqProofs only[go_sem])
   refine g _ _ ?_
   refine Aa ?_
   refine AWP.seq ?_
   refine AWP.region rfl ?_;intro K g
   (try simp +decide -implicitDefEqProofs only[go_sem])
   refine g _ _ ?_
   refine Aa ?_
   refine AWP.ret ?_
   obtain rfl:=Ag h
   (try simp +decide -implicitDefEqProofs only[go_sem,Tryz.results10])
   exact⟨lp,hp,by first | rfl | (rw[List.take_of_length_le (by rw[bT,hp.length_eq];exact Nat.le_refl _)]) | (have gx:=hp.length_eq;simp[List.take_of_length_le,gx])⟩
  have da:k2<b.Rides.length:=by have:=bK hc;omega
  obtain⟨bw,b2,jm,h,br⟩:=Bw br da
  have np:=Br jm
  have iq:IntKind.i64.wrap (((k2:Nat):Int)+1)=(((k2:Nat):Int)+1):=by rw[wrap_i64]<;>omega
  unfold E8 at h;try dsimp only at h
  refine AWP.skip ?_
  refine Aa ?_
  refine AWP.seq ?_
  refine AWP.block ?_
  refine AWP.seq ?_
  refine AWP.region rfl ?_;intro K g
  (try simp +decide -implicitDefEqProofs only[go_sem])
  refine Ca.of (f:=A5) (l:=b.Rides) np ?_
  (try simp +decide -implicitDefEqProofs only[go_sem])
  refine g _ _ ?_
  refine Aa ?_
  refine AWP.seq ?_
  refine AWP.region rfl ?_;intro K g
  (try simp +decide -implicitDefEqProofs only[go_sem])
  refine g _ _ ?_
  refine Aa ?_
  refine AWP.cond (Ai (fun hc=>?_) (fun hc=>?_))
  ·replace h:=Au h hc
   refine AWP.region rfl ?_;intro K g
   (try simp +decide -implicitDefEqProofs only[go_sem])
   obtain⟨hk,h⟩:=D6 h
   (repeat refine rp ?_);try simp +decide -implicitDefEqProofs only[go_sem]
   refine g _ _ ?_
   refine Al ?_
   refine Aa ?_
   refine AWP.region rfl ?_;intro K g
   (try simp +decide -implicitDefEqProofs only[go_sem])
   refine g _ _ ?_
   refine Aa ?_
   obtain rfl:=Ag h
   refine⟨(k2+1,(oe++[bw.Ride]),(oa+1)),⟨by dsimp only;omega,Bf br⟩,by dsimp only;omega,?_,?_⟩
   ·(simp +decide -implicitDefEqProofs only[go_sem,Ae,Ac.int.injEq,Int.natCast_zero,List.replicate_zero,List.length_take,List.length_drop,Ac.own.injEq,reduceCtorEq,Int.reduceAdd,iq]<;>omega)
   (simp +decide -implicitDefEqProofs only[go_sem,Ae,Ac.int.injEq,Int.natCast_zero,List.replicate_zero,List.length_take,List.length_drop,Ac.own.injEq,reduceCtorEq,Int.reduceAdd,iq]<;>omega)
  replace h:=Av h hc
  refine AWP.skip ?_
  refine Al ?_
  refine Aa ?_
  refine AWP.region rfl ?_;intro K g
  (try simp +decide -implicitDefEqProofs only[go_sem])
  refine g _ _ ?_
  refine Aa ?_
  obtain rfl:=Ag h
  refine⟨(k2+1,oe,oa),⟨by dsimp only;omega,Bf br⟩,by dsimp only;omega,?_,?_⟩
  ·(simp +decide -implicitDefEqProofs only[go_sem,Ae,Ac.int.injEq,Int.natCast_zero,List.replicate_zero,List.length_take,List.length_drop,Ac.own.injEq,reduceCtorEq,Int.reduceAdd,iq]<;>omega)
  (simp +decide -implicitDefEqProofs only[go_sem,Ae,Ac.int.injEq,Int.natCast_zero,List.replicate_zero,List.length_take,List.length_drop,Ac.own.injEq,reduceCtorEq,Int.reduceAdd,iq]<;>omega)
def Il (l:List Ao):Option (Int):=
  (bif (decide (((l.length:Nat):Int)=0))then some 0 else(Ch l (IntKind.i64.wrap (((l.length:Nat):Int) - 1))).bind fun kg=>some kg.Span.To)
theorem Oa (l:List Ao) {r:Int} (h:Il l=some r):Aq Tryz.prog 55 [.sl 5 (l.map Ay)] (·= .int .i64 r):=by
  refine Aq.nle (Aq.intro Tryz.func55 rfl rfl (by show _≤14;simp) ?_)
  unfold Il at h
  (try simp +decide -implicitDefEqProofs only[go_sem])
  refine AWP.seq ?_
  refine AWP.region rfl ?_;intro K g
  (try simp +decide -implicitDefEqProofs only[go_sem])
  refine g _ _ ?_
  refine Aa ?_
  refine AWP.seq ?_
  refine AWP.seq ?_
  refine AWP.region rfl ?_;intro K g
  (try simp +decide -implicitDefEqProofs only[go_sem])
  intro hm
  refine g _ _ ?_
  refine Aa ?_
  refine AWP.cond (Ai (fun hc=>?_) (fun hc=>?_))
  ·replace h:=Au h hc
   refine AWP.seq ?_
   refine AWP.region rfl ?_;intro K g
   (try simp +decide -implicitDefEqProofs only[go_sem])
   refine g _ _ ?_
   refine Aa ?_
   refine AWP.ret ?_
   refine Ad ?_
   obtain rfl:=Ag h
   simp +decide -implicitDefEqProofs only[go_sem,Ae,Ac.int.injEq,Int.natCast_zero,List.replicate_zero,List.length_take,List.length_drop,Ac.own.injEq,reduceCtorEq,Int.reduceAdd,Bc,Bd,A8,Bb,A9,Tryz.results55]
  replace h:=Av h hc
  refine AWP.skip ?_
  refine Aa ?_
  refine AWP.seq ?_
  refine AWP.region rfl ?_;intro K g
  (try simp +decide -implicitDefEqProofs only[go_sem])
  intro hm
  obtain⟨kg,jl,h⟩:=A2 h
  refine Ca.of (f:=Ay) (l:=l) jl ?_
  (try simp +decide -implicitDefEqProofs only[go_sem])
  refine g _ _ ?_
  refine Aa ?_
  refine AWP.ret ?_
  obtain rfl:=Ag h
  simp +decide -implicitDefEqProofs only[go_sem,Ae,Ac.int.injEq,Int.natCast_zero,List.replicate_zero,List.length_take,List.length_drop,Ac.own.injEq,reduceCtorEq,Int.reduceAdd,Bc,Bd,A8,Bb,A9,Tryz.results55]
def Ek (k0:Nat) (ao:Ao) (sv:Unit):Option (Out (Unit) (Int)):=
  (bif (!ao.Closed)then some (Out.ret (IntKind.i64.wrap (((k0:Nat):Int)+1)))else some (Out.next ()))
def Gk (l:List Ao):Option (Int):=
  (Bo Ek 0 l ()).bind fun o0=>o0.on fun s0=>some 0
theorem Mo (l:List Ao) {r:Int} (h:Gk l=some r):Aq Tryz.prog 56 [.sl 5 (l.map Ay)] (·= .int .i64 r):=by
  refine Aq.nle (Aq.intro Tryz.func56 rfl rfl (by show _≤18;simp) ?_)
  unfold Gk at h
  (try simp +decide -implicitDefEqProofs only[go_sem])
  refine AWP.seq ?_
  refine AWP.region rfl ?_;intro K g
  (try simp +decide -implicitDefEqProofs only[go_sem])
  refine g _ _ ?_
  refine Aa ?_
  refine AWP.seq ?_
  refine AWP.seq ?_
  refine AWP.region rfl ?_;intro K g
  (try simp +decide -implicitDefEqProofs only[go_sem])
  refine g _ _ ?_
  refine Aa ?_
  refine AWP.block ?_
  obtain⟨o0,ae,bg⟩:=A2 h
  clear h
  refine AWP.Cv (ι:=Nat×(Unit)×(Unit)) (fun zz=>[(0,.sl 5 (l.map Ay)),(3,.int .i64 ((zz.1:Nat):Int))]) (fun zz=>[]) (fun zz=>zz.1≤l.length∧Bo Ek zz.1 ((l).drop zz.1) zz.2.1=some o0) (fun zz=>l.length - zz.1) (0,(),()) ⟨Nat.zero_le _,ae⟩ (by(simp +decide -implicitDefEqProofs only[go_sem,Ae,Ac.int.injEq,Int.natCast_zero,List.replicate_zero,List.length_take,List.length_drop,Ac.own.injEq,reduceCtorEq,Int.reduceAdd]<;>omega)) (by(simp +decide -implicitDefEqProofs only[go_sem,Ae,Ac.int.injEq,Int.natCast_zero,List.replicate_zero,List.length_take,List.length_drop,Ac.own.injEq,reduceCtorEq,Int.reduceAdd]<;>omega)) (fun x=>⟨rfl,rfl,rfl⟩) ?_
  clear ae
  rintro⟨k0,⟨⟩,⟨⟩⟩ ⟨cn,ae⟩
  dsimp only at cn ae ⊢
  refine AWP.seq ?_
  refine AWP.seq ?_
  refine AWP.region rfl ?_;intro K g
  (try simp +decide -implicitDefEqProofs only[go_sem])
  intro hm
  refine g _ _ ?_
  refine Aa ?_
  refine AWP.cond (Ai (fun hc=>?_) (fun hc=>?_))
  rotate_left
  ·obtain rfl:=B8 ae (fun hl=>by have:=bJ hc;omega)
   have h:=B7 bg;try dsimp only at h
   have ba:l.length=k0:=by have:=bJ hc;omega
   subst ba
   refine AWP.exit ?_
   refine An ?_
   refine An ?_
   refine A6 ?_
   refine Aa ?_
   refine AWP.seq ?_
   refine AWP.region rfl ?_;intro K g
   (try simp +decide -implicitDefEqProofs only[go_sem])
   refine g _ _ ?_
   refine Aa ?_
   refine AWP.ret ?_
   obtain rfl:=Ag h
   simp +decide -implicitDefEqProofs only[go_sem,Ae,Ac.int.injEq,Int.natCast_zero,List.replicate_zero,List.length_take,List.length_drop,Ac.own.injEq,reduceCtorEq,Int.reduceAdd,Bc,Bd,A8,Bb,A9,Tryz.results56]
  have bj:k0<l.length:=by have:=bK hc;omega
  obtain⟨ao,b0,bn,h,ae⟩:=Bw ae bj
  have b7:=Br bn
  have bo:IntKind.i64.wrap (((k0:Nat):Int)+1)=(((k0:Nat):Int)+1):=by rw[wrap_i64]<;>omega
  unfold Ek at h;try dsimp only at h
  refine AWP.skip ?_
  refine Aa ?_
  refine AWP.seq ?_
  refine AWP.block ?_
  refine AWP.seq ?_
  refine AWP.region rfl ?_;intro K g
  (try simp +decide -implicitDefEqProofs only[go_sem])
  refine Ca.of (f:=Ay) (l:=l) b7 ?_
  (try simp +decide -implicitDefEqProofs only[go_sem])
  refine g _ _ ?_
  refine Aa ?_
  refine AWP.cond (Ai (fun hc=>?_) (fun hc=>?_))
  ·replace h:=Au h hc
   refine AWP.seq ?_
   refine AWP.region rfl ?_;intro K g
   (try simp +decide -implicitDefEqProofs only[go_sem])
   refine g _ _ ?_
   refine Aa ?_
   refine AWP.ret ?_
   refine Aj ?_
   refine Ad ?_
   refine Ad ?_
   obtain rfl:=Ag h
   obtain rfl:=Ba ae
   replace h:=Bp bg
   refine Aj ?_
   refine Ad ?_
   obtain rfl:=Ag h
   simp +decide -implicitDefEqProofs only[go_sem,Ae,Ac.int.injEq,Int.natCast_zero,List.replicate_zero,List.length_take,List.length_drop,Ac.own.injEq,reduceCtorEq,Int.reduceAdd,Bc,Bd,A8,Bb,A9,Tryz.results56]
  replace h:=Av h hc
  refine AWP.skip ?_
  refine Al ?_
  refine Aa ?_
  refine AWP.region rfl ?_;intro K g
  (try simp +decide -implicitDefEqProofs only[go_sem])
  refine g _ _ ?_
  refine Aa ?_
  obtain rfl:=Ag h
  refine⟨(k0+1,(),()),⟨by dsimp only;omega,Bf ae⟩,by dsimp only;omega,?_,?_⟩
  ·(simp +decide -implicitDefEqProofs only[go_sem,Ae,Ac.int.injEq,Int.natCast_zero,List.replicate_zero,List.length_take,List.length_drop,Ac.own.injEq,reduceCtorEq,Int.reduceAdd,bo]<;>omega)
  (simp +decide -implicitDefEqProofs only[go_sem,Ae,Ac.int.injEq,Int.natCast_zero,List.replicate_zero,List.length_take,List.length_drop,Ac.own.injEq,reduceCtorEq,Int.reduceAdd,bo]<;>omega)
def Fm (l:List Ax) (k0:Nat) (ao:Ax) (sv:Unit):Option (Out (Unit) (Bool)):=
  (bif (decide (ao.Operator<1))then some (Out.ret false)else (bif (decide (8<ao.Operator))then some (Out.ret false)else (bif (decide (ao.Amount<0))then some (Out.ret false)else (bif (decide (137438953472<ao.Amount))then some (Out.ret false)else (bif (decide (0<((k0:Nat):Int)))then (Ch l (IntKind.i64.wrap (((k0:Nat):Int) - 1))).bind fun cg=>(bif (decide (ao.Operator≤cg.Operator))then some (Out.ret false)else some (Out.next ()))else some (Out.next ()))))))
def Em (l:List Ax):Option (Bool):=
  (Bo (Fm l) 0 l ()).bind fun o0=>o0.on fun s0=>some true
theorem Gz (l:List Ax) {r:Bool} (h:Em l=some r):Aq Tryz.prog 57 [.sl 2 (l.map Am)] (·= .bool r):=by
  refine Aq.nle (Aq.intro Tryz.func57 rfl rfl (by show _≤58;simp) ?_)
  unfold Em at h
  (try simp +decide -implicitDefEqProofs only[go_sem])
  refine AWP.seq ?_
  refine AWP.region rfl ?_;intro K g
  (try simp +decide -implicitDefEqProofs only[go_sem])
  refine g _ _ ?_
  refine Aa ?_
  refine AWP.seq ?_
  refine AWP.seq ?_
  refine AWP.region rfl ?_;intro K g
  (try simp +decide -implicitDefEqProofs only[go_sem])
  refine g _ _ ?_
  refine Aa ?_
  refine AWP.block ?_
  obtain⟨o0,ae,bg⟩:=A2 h
  clear h
  refine AWP.Cv (ι:=Nat×(Unit)×(Unit)) (fun zz=>[(0,.sl 2 (l.map Am)),(3,.int .i64 ((zz.1:Nat):Int))]) (fun zz=>[]) (fun zz=>zz.1≤l.length∧Bo (Fm l) zz.1 ((l).drop zz.1) zz.2.1=some o0) (fun zz=>l.length - zz.1) (0,(),()) ⟨Nat.zero_le _,ae⟩ (by(simp +decide -implicitDefEqProofs only[go_sem,Ae,Ac.int.injEq,Int.natCast_zero,List.replicate_zero,List.length_take,List.length_drop,Ac.own.injEq,reduceCtorEq,Int.reduceAdd]<;>omega)) (by(simp +decide -implicitDefEqProofs only[go_sem,Ae,Ac.int.injEq,Int.natCast_zero,List.replicate_zero,List.length_take,List.length_drop,Ac.own.injEq,reduceCtorEq,Int.reduceAdd]<;>omega)) (fun x=>⟨rfl,rfl,rfl⟩) ?_
  clear ae
  rintro⟨k0,⟨⟩,⟨⟩⟩ ⟨cn,ae⟩
  dsimp only at cn ae ⊢
  refine AWP.seq ?_
  refine AWP.seq ?_
  refine AWP.region rfl ?_;intro K g
  (try simp +decide -implicitDefEqProofs only[go_sem])
  intro hm
  refine g _ _ ?_
  refine Aa ?_
  refine AWP.cond (Ai (fun hc=>?_) (fun hc=>?_))
  rotate_left
  ·obtain rfl:=B8 ae (fun hl=>by have:=bJ hc;omega)
   have h:=B7 bg;try dsimp only at h
   have ba:l.length=k0:=by have:=bJ hc;omega
   subst ba
   refine AWP.exit ?_
   refine An ?_
   refine An ?_
   refine A6 ?_
   refine Aa ?_
   refine AWP.seq ?_
   refine AWP.region rfl ?_;intro K g
   (try simp +decide -implicitDefEqProofs only[go_sem])
   refine g _ _ ?_
   refine Aa ?_
   refine AWP.ret ?_
   obtain rfl:=Ag h
   simp +decide -implicitDefEqProofs only[go_sem,Ae,Ac.int.injEq,Int.natCast_zero,List.replicate_zero,List.length_take,List.length_drop,Ac.own.injEq,reduceCtorEq,Int.reduceAdd,Bc,Bd,A8,Bb,A9,Tryz.results57]
  have bj:k0<l.length:=by have:=bK hc;omega
  obtain⟨ao,b0,bn,h,ae⟩:=Bw ae bj
  have b7:=Br bn
  have bo:IntKind.i64.wrap (((k0:Nat):Int)+1)=(((k0:Nat):Int)+1):=by rw[wrap_i64]<;>omega
  unfold Fm at h;try dsimp only at h
  refine AWP.skip ?_
  refine Aa ?_
  refine AWP.seq ?_
  refine AWP.block ?_
  refine AWP.seq ?_
  refine AWP.draw Tryz.mixed (by kernel_rfl) ?_;intro K g
  (try simp +decide -implicitDefEqProofs only[go_sem])
  refine Ca.of (f:=Am) (l:=l) b7 ?_
  (try simp +decide -implicitDefEqProofs only[go_sem])
  refine Ak (fun hc=>?_) (fun hc=>?_)
  ·replace h:=Av h hc
   (try simp +decide -implicitDefEqProofs only[go_sem,hc])
   refine Ca.of (f:=Am) (l:=l) b7 ?_
   (try simp +decide -implicitDefEqProofs only[go_sem])
   refine Ak (fun hc=>?_) (fun hc=>?_)
   ·replace h:=Av h hc
    (try simp +decide -implicitDefEqProofs only[go_sem,hc])
    refine Ca.of (f:=Am) (l:=l) b7 ?_
    (try simp +decide -implicitDefEqProofs only[go_sem])
    refine Ak (fun hc=>?_) (fun hc=>?_)
    ·replace h:=Av h hc
     (try simp +decide -implicitDefEqProofs only[go_sem,hc])
     refine Ca.of (f:=Am) (l:=l) b7 ?_
     (try simp +decide -implicitDefEqProofs only[go_sem])
     refine Ak (fun hc=>?_) (fun hc=>?_)
     ·replace h:=Av h hc
      (try simp +decide -implicitDefEqProofs only[go_sem,hc])
      refine Ak (fun hc=>?_) (fun hc=>?_)
      ·replace h:=Au h hc
       (try simp +decide -implicitDefEqProofs only[go_sem,hc])
       refine Ca.of (f:=Am) (l:=l) b7 ?_
       (try simp +decide -implicitDefEqProofs only[go_sem])
       obtain⟨cg,ji,h⟩:=A2 h
       refine Ca.of (f:=Am) (l:=l) ji ?_
       (try simp +decide -implicitDefEqProofs only[go_sem])
       refine g _ _ _ (by kernel_rfl) ?_
       refine Aa ?_
       refine AWP.cond (Ai (fun hc=>?_) (fun hc=>?_))
       ·replace h:=Au h hc
        refine AWP.seq ?_
        refine AWP.region rfl ?_;intro K g
        (try simp +decide -implicitDefEqProofs only[go_sem])
        refine g _ _ ?_
        refine Aa ?_
        refine AWP.ret ?_
        refine Aj ?_
        refine Ad ?_
        refine Ad ?_
        obtain rfl:=Ag h
        obtain rfl:=Ba ae
        replace h:=Bp bg
        refine Aj ?_
        refine Ad ?_
        obtain rfl:=Ag h
        simp +decide -implicitDefEqProofs only[go_sem,Ae,Ac.int.injEq,Int.natCast_zero,List.replicate_zero,List.length_take,List.length_drop,Ac.own.injEq,reduceCtorEq,Int.reduceAdd,Bc,Bd,A8,Bb,A9,Tryz.results57]
       replace h:=Av h hc
       refine AWP.skip ?_
       refine Al ?_
       refine Aa ?_
       refine AWP.region rfl ?_;intro K g
       (try simp +decide -implicitDefEqProofs only[go_sem])
       refine g _ _ ?_
       refine Aa ?_
       obtain rfl:=Ag h
       refine⟨(k0+1,(),()),⟨by dsimp only;omega,Bf ae⟩,by dsimp only;omega,?_,?_⟩
       ·(simp +decide -implicitDefEqProofs only[go_sem,Ae,Ac.int.injEq,Int.natCast_zero,List.replicate_zero,List.length_take,List.length_drop,Ac.own.injEq,reduceCtorEq,Int.reduceAdd,bo]<;>omega)
       (simp +decide -implicitDefEqProofs only[go_sem,Ae,Ac.int.injEq,Int.natCast_zero,List.replicate_zero,List.length_take,List.length_drop,Ac.own.injEq,reduceCtorEq,Int.reduceAdd,bo]<;>omega)
      replace h:=Av h hc
      (try simp +decide -implicitDefEqProofs only[go_sem,hc,Bool.not_true])
      refine g _ _ _ (by kernel_rfl) ?_
      refine Aa ?_
      refine AWP.cond (Bu ?_)
      refine AWP.skip ?_
      refine Al ?_
      refine Aa ?_
      refine AWP.region rfl ?_;intro K g
      (try simp +decide -implicitDefEqProofs only[go_sem])
      refine g _ _ ?_
      refine Aa ?_
      obtain rfl:=Ag h
      refine⟨(k0+1,(),()),⟨by dsimp only;omega,Bf ae⟩,by dsimp only;omega,?_,?_⟩
      ·(simp +decide -implicitDefEqProofs only[go_sem,Ae,Ac.int.injEq,Int.natCast_zero,List.replicate_zero,List.length_take,List.length_drop,Ac.own.injEq,reduceCtorEq,Int.reduceAdd,bo]<;>omega)
      (simp +decide -implicitDefEqProofs only[go_sem,Ae,Ac.int.injEq,Int.natCast_zero,List.replicate_zero,List.length_take,List.length_drop,Ac.own.injEq,reduceCtorEq,Int.reduceAdd,bo]<;>omega)
     replace h:=Au h hc
     (try simp +decide -implicitDefEqProofs only[go_sem,hc,Bool.not_false])
     refine g _ _ _ (by kernel_rfl) ?_
     refine Aa ?_
     refine AWP.cond (A7 ?_)
     refine AWP.seq ?_
     refine AWP.region rfl ?_;intro K g
     (try simp +decide -implicitDefEqProofs only[go_sem])
     refine g _ _ ?_
     refine Aa ?_
     refine AWP.ret ?_
     refine Aj ?_
     refine Ad ?_
     refine Ad ?_
     obtain rfl:=Ag h
     obtain rfl:=Ba ae
     replace h:=Bp bg
     refine Aj ?_
     refine Ad ?_
     obtain rfl:=Ag h
     simp +decide -implicitDefEqProofs only[go_sem,Ae,Ac.int.injEq,Int.natCast_zero,List.replicate_zero,List.length_take,List.length_drop,Ac.own.injEq,reduceCtorEq,Int.reduceAdd,Bc,Bd,A8,Bb,A9,Tryz.results57]
    replace h:=Au h hc
    (try simp +decide -implicitDefEqProofs only[go_sem,hc,Bool.not_false])
    refine g _ _ _ (by kernel_rfl) ?_
    refine Aa ?_
    refine AWP.cond (A7 ?_)
    refine AWP.seq ?_
    refine AWP.region rfl ?_;intro K g
    (try simp +decide -implicitDefEqProofs only[go_sem])
    refine g _ _ ?_
    refine Aa ?_
    refine AWP.ret ?_
    refine Aj ?_
    refine Ad ?_
    refine Ad ?_
    obtain rfl:=Ag h
    obtain rfl:=Ba ae
    replace h:=Bp bg
    refine Aj ?_
    refine Ad ?_
    obtain rfl:=Ag h
    simp +decide -implicitDefEqProofs only[go_sem,Ae,Ac.int.injEq,Int.natCast_zero,List.replicate_zero,List.length_take,List.length_drop,Ac.own.injEq,reduceCtorEq,Int.reduceAdd,Bc,Bd,A8,Bb,A9,Tryz.results57]
   replace h:=Au h hc
   (try simp +decide -implicitDefEqProofs only[go_sem,hc,Bool.not_false])
   refine g _ _ _ (by kernel_rfl) ?_
   refine Aa ?_
   refine AWP.cond (A7 ?_)
   refine AWP.seq ?_
   refine AWP.region rfl ?_;intro K g
   (try simp +decide -implicitDefEqProofs only[go_sem])
   refine g _ _ ?_
   refine Aa ?_
   refine AWP.ret ?_
   refine Aj ?_
   refine Ad ?_
   refine Ad ?_
   obtain rfl:=Ag h
   obtain rfl:=Ba ae
   replace h:=Bp bg
   refine Aj ?_
   refine Ad ?_
   obtain rfl:=Ag h
   simp +decide -implicitDefEqProofs only[go_sem,Ae,Ac.int.injEq,Int.natCast_zero,List.replicate_zero,List.length_take,List.length_drop,Ac.own.injEq,reduceCtorEq,Int.reduceAdd,Bc,Bd,A8,Bb,A9,Tryz.results57]
  replace h:=Au h hc
  (try simp +decide -implicitDefEqProofs only[go_sem,hc,Bool.not_false])
  refine g _ _ _ (by kernel_rfl) ?_
  refine Aa ?_
  refine AWP.cond (A7 ?_)
  refine AWP.seq ?_
  refine AWP.region rfl ?_;intro K g
  (try simp +decide -implicitDefEqProofs only[go_sem])
  refine g _ _ ?_
  refine Aa ?_
  refine AWP.ret ?_
  refine Aj ?_
  refine Ad ?_
  refine Ad ?_
  obtain rfl:=Ag h
  obtain rfl:=Ba ae
  replace h:=Bp bg
  refine Aj ?_
  refine Ad ?_
  obtain rfl:=Ag h
  simp +decide -implicitDefEqProofs only[go_sem,Ae,Ac.int.injEq,Int.natCast_zero,List.replicate_zero,List.length_take,List.length_drop,Ac.own.injEq,reduceCtorEq,Int.reduceAdd,Bc,Bd,A8,Bb,A9,Tryz.results57]
def Du (l:List Ao) (k0:Nat) (ao:Ao) (sv:Unit):Option (Out (Unit) (Int)):=
  (bif (decide (ao.Number≠(IntKind.i64.wrap (((k0:Nat):Int)+1))))then some (Out.ret 11)else okB (decide (0≤((k0:Nat):Int)∧((k0:Nat):Int)≤((l.length:Nat):Int))) ((Il (l.take k0)).bind fun y3=>(bif (decide (ao.Span.From≠y3))then some (Out.ret 11)else (bif (decide (ao.Span.To≤ao.Span.From))then some (Out.ret 11)else (bif (decide (20000000<ao.Span.To))then some (Out.ret 11)else (bif ao.Closed then okB (decide (0≤((k0:Nat):Int)∧((k0:Nat):Int)≤((l.length:Nat):Int))) ((Gk (l.take k0)).bind fun y4=>(bif (decide (y4≠0))then some (Out.ret 10)else (Em ao.Shares).bind fun y5=>(bif (!y5)then some (Out.ret 1)else some (Out.next ()))))else (bif (decide (0<((ao.Shares.length:Nat):Int)))then some (Out.ret 10)else (Em ao.Shares).bind fun y6=>(bif (!y6)then some (Out.ret 1)else some (Out.next ())))))))))
def E3 (l:List Ao):Option (Int):=
  (Bo (Du l) 0 l ()).bind fun o0=>o0.on fun s0=>some 0
theorem K5 (l:List Ao) {r:Int} (h:E3 l=some r):Aq Tryz.prog 31 [.sl 5 (l.map Ay)] (·= .int .i64 r):=by
  refine Aq.nle (Aq.intro Tryz.func31 rfl rfl (by show _≤72;simp) ?_)
  unfold E3 at h
  (try simp +decide -implicitDefEqProofs only[go_sem])
  refine AWP.seq ?_
  refine AWP.region rfl ?_;intro K g
  (try simp +decide -implicitDefEqProofs only[go_sem])
  refine g _ _ ?_
  refine Aa ?_
  refine AWP.seq ?_
  refine AWP.seq ?_
  refine AWP.region rfl ?_;intro K g
  (try simp +decide -implicitDefEqProofs only[go_sem])
  refine g _ _ ?_
  refine Aa ?_
  refine AWP.block ?_
  obtain⟨o0,ae,bg⟩:=A2 h
  clear h
  refine AWP.Cv (ι:=Nat×(Unit)×(Unit)) (fun zz=>[(0,.sl 5 (l.map Ay)),(3,.int .i64 ((zz.1:Nat):Int))]) (fun zz=>[]) (fun zz=>zz.1≤l.length∧Bo (Du l) zz.1 ((l).drop zz.1) zz.2.1=some o0) (fun zz=>l.length - zz.1) (0,(),()) ⟨Nat.zero_le _,ae⟩ (by(simp +decide -implicitDefEqProofs only[go_sem,Ae,Ac.int.injEq,Int.natCast_zero,List.replicate_zero,List.length_take,List.length_drop,Ac.own.injEq,reduceCtorEq,Int.reduceAdd]<;>omega)) (by(simp +decide -implicitDefEqProofs only[go_sem,Ae,Ac.int.injEq,Int.natCast_zero,List.replicate_zero,List.length_take,List.length_drop,Ac.own.injEq,reduceCtorEq,Int.reduceAdd]<;>omega)) (fun x=>⟨rfl,rfl,rfl⟩) ?_
  clear ae
  rintro⟨k0,⟨⟩,⟨⟩⟩ ⟨cn,ae⟩
  dsimp only at cn ae ⊢
  refine AWP.seq ?_
  refine AWP.seq ?_
  refine AWP.region rfl ?_;intro K g
  (try simp +decide -implicitDefEqProofs only[go_sem])
  intro hm
  refine g _ _ ?_
  refine Aa ?_
  refine AWP.cond (Ai (fun hc=>?_) (fun hc=>?_))
  rotate_left
  ·obtain rfl:=B8 ae (fun hl=>by have:=bJ hc;omega)
   have h:=B7 bg;try dsimp only at h
   have ba:l.length=k0:=by have:=bJ hc;omega
   subst ba
   refine AWP.exit ?_
   refine An ?_
   refine An ?_
   refine A6 ?_
   refine Aa ?_
   refine AWP.seq ?_
   refine AWP.region rfl ?_;intro K g
   (try simp +decide -implicitDefEqProofs only[go_sem])
   refine g _ _ ?_
   refine Aa ?_
   refine AWP.ret ?_
   obtain rfl:=Ag h
   simp +decide -implicitDefEqProofs only[go_sem,Ae,Ac.int.injEq,Int.natCast_zero,List.replicate_zero,List.length_take,List.length_drop,Ac.own.injEq,reduceCtorEq,Int.reduceAdd,Bc,Bd,A8,Bb,A9,Tryz.results31]
  have bj:k0<l.length:=by have:=bK hc;omega
  obtain⟨ao,b0,bn,h,ae⟩:=Bw ae bj
  have b7:=Br bn
  have bo:IntKind.i64.wrap (((k0:Nat):Int)+1)=(((k0:Nat):Int)+1):=by rw[wrap_i64]<;>omega
  unfold Du at h;try dsimp only at h
  refine AWP.skip ?_
  refine Aa ?_
  refine AWP.seq ?_
  refine AWP.block ?_
  refine AWP.seq ?_
  refine AWP.region rfl ?_;intro K g
  (try simp +decide -implicitDefEqProofs only[go_sem])
  refine Ca.of (f:=Ay) (l:=l) b7 ?_
  (try simp +decide -implicitDefEqProofs only[go_sem])
  refine g _ _ ?_
  refine Aa ?_
  refine AWP.block ?_
  refine AWP.seq ?_
  refine AWP.draw Tryz.mixed (by kernel_rfl) ?_;intro K g
  (try simp +decide -implicitDefEqProofs only[go_sem])
  refine Ak (fun hc=>?_) (fun hc=>?_)
  ·replace h:=Av h hc
   (try simp +decide -implicitDefEqProofs only[go_sem,hc])
   obtain⟨hk,h⟩:=H8 h
   intro hm
   (repeat(refine⟨by omega,?_⟩))
   obtain⟨y3,ec,h⟩:=A2 h
   refine B9.pure Tryz.call55 (Oa (l.take k0) ec) rfl ?_
   (try simp +decide -implicitDefEqProofs only[go_sem])
   refine Ak (fun hc=>?_) (fun hc=>?_)
   ·replace h:=Av h hc
    (try simp +decide -implicitDefEqProofs only[go_sem,hc])
    refine Ak (fun hc=>?_) (fun hc=>?_)
    ·replace h:=Av h hc
     (try simp +decide -implicitDefEqProofs only[go_sem,hc])
     refine g _ _ _ (by kernel_rfl) ?_
     refine Aa ?_
     refine AWP.cond (Ai (fun hc=>?_) (fun hc=>?_))
     ·replace h:=Au h hc
      refine AWP.seq ?_
      refine AWP.region rfl ?_;intro K g
      (try simp +decide -implicitDefEqProofs only[go_sem])
      refine g _ _ ?_
      refine Aa ?_
      refine AWP.ret ?_
      refine Aj ?_
      refine Aj ?_
      refine Ad ?_
      refine Ad ?_
      obtain rfl:=Ag h
      obtain rfl:=Ba ae
      replace h:=Bp bg
      refine Aj ?_
      refine Ad ?_
      obtain rfl:=Ag h
      simp +decide -implicitDefEqProofs only[go_sem,Ae,Ac.int.injEq,Int.natCast_zero,List.replicate_zero,List.length_take,List.length_drop,Ac.own.injEq,reduceCtorEq,Int.reduceAdd,Bc,Bd,A8,Bb,A9,Tryz.results31]
     replace h:=Av h hc
     refine AWP.seq ?_
     refine AWP.region rfl ?_;intro K g
     (try simp +decide -implicitDefEqProofs only[go_sem])
     refine Ak (fun hc=>?_) (fun hc=>?_)
     ·replace h:=Au h hc
      (try simp +decide -implicitDefEqProofs only[go_sem,hc])
      obtain⟨hk,h⟩:=H8 h
      intro hm
      (repeat(refine⟨by omega,?_⟩))
      obtain⟨y4,gj,h⟩:=A2 h
      refine Bg.pure Tryz.call56 (Mo (l.take k0) gj) rfl fun _ hr=>?_
      subst hr
      (try simp +decide -implicitDefEqProofs only[go_sem])
      refine Ak (fun hc=>?_) (fun hc=>?_)
      ·replace h:=Av h hc
       (try simp +decide -implicitDefEqProofs only[go_sem,hc])
       refine g _ _ ?_
       refine Aa ?_
       refine AWP.cond (Bu ?_)
       refine AWP.seq ?_
       refine AWP.region rfl ?_;intro K g
       (try simp +decide -implicitDefEqProofs only[go_sem])
       obtain⟨y5,fm,h⟩:=A2 h
       refine Bg.pure Tryz.call57 (Gz ao.Shares fm) rfl fun _ hr=>?_
       subst hr
       (try simp +decide -implicitDefEqProofs only[go_sem])
       refine g _ _ ?_
       refine Aa ?_
       refine AWP.cond (Ai (fun hc=>?_) (fun hc=>?_))
       ·replace h:=Au h hc
        refine AWP.seq ?_
        refine AWP.region rfl ?_;intro K g
        (try simp +decide -implicitDefEqProofs only[go_sem])
        refine g _ _ ?_
        refine Aa ?_
        refine AWP.ret ?_
        refine Aj ?_
        refine Aj ?_
        refine Ad ?_
        refine Ad ?_
        obtain rfl:=Ag h
        obtain rfl:=Ba ae
        replace h:=Bp bg
        refine Aj ?_
        refine Ad ?_
        obtain rfl:=Ag h
        simp +decide -implicitDefEqProofs only[go_sem,Ae,Ac.int.injEq,Int.natCast_zero,List.replicate_zero,List.length_take,List.length_drop,Ac.own.injEq,reduceCtorEq,Int.reduceAdd,Bc,Bd,A8,Bb,A9,Tryz.results31]
       replace h:=Av h hc
       refine AWP.skip ?_
       refine Al ?_
       refine Al ?_
       refine Aa ?_
       refine AWP.region rfl ?_;intro K g
       (try simp +decide -implicitDefEqProofs only[go_sem])
       refine g _ _ ?_
       refine Aa ?_
       obtain rfl:=Ag h
       refine⟨(k0+1,(),()),⟨by dsimp only;omega,Bf ae⟩,by dsimp only;omega,?_,?_⟩
       ·(simp +decide -implicitDefEqProofs only[go_sem,Ae,Ac.int.injEq,Int.natCast_zero,List.replicate_zero,List.length_take,List.length_drop,Ac.own.injEq,reduceCtorEq,Int.reduceAdd,bo]<;>omega)
       (simp +decide -implicitDefEqProofs only[go_sem,Ae,Ac.int.injEq,Int.natCast_zero,List.replicate_zero,List.length_take,List.length_drop,Ac.own.injEq,reduceCtorEq,Int.reduceAdd,bo]<;>omega)
      replace h:=Au h hc
      (try simp +decide -implicitDefEqProofs only[go_sem,hc,Bool.not_false])
      refine g _ _ ?_
      refine Aa ?_
      refine AWP.cond (A7 ?_)
      refine AWP.seq ?_
      refine AWP.region rfl ?_;intro K g
      (try simp +decide -implicitDefEqProofs only[go_sem])
      refine g _ _ ?_
      refine Aa ?_
      refine AWP.ret ?_
      refine Aj ?_
      refine Aj ?_
      refine Ad ?_
      refine Ad ?_
      obtain rfl:=Ag h
      obtain rfl:=Ba ae
      replace h:=Bp bg
      refine Aj ?_
      refine Ad ?_
      obtain rfl:=Ag h
      simp +decide -implicitDefEqProofs only[go_sem,Ae,Ac.int.injEq,Int.natCast_zero,List.replicate_zero,List.length_take,List.length_drop,Ac.own.injEq,reduceCtorEq,Int.reduceAdd,Bc,Bd,A8,Bb,A9,Tryz.results31]
     replace h:=Av h hc
     (try simp +decide -implicitDefEqProofs only[go_sem,hc,Bool.not_true])
     intro hm
     refine g _ _ ?_
     refine Aa ?_
     refine AWP.cond (Ai (fun hc=>?_) (fun hc=>?_))
     ·replace h:=Au h hc
      refine AWP.seq ?_
      refine AWP.region rfl ?_;intro K g
      (try simp +decide -implicitDefEqProofs only[go_sem])
      refine g _ _ ?_
      refine Aa ?_
      refine AWP.ret ?_
      refine Aj ?_
      refine Aj ?_
      refine Ad ?_
      refine Ad ?_
      obtain rfl:=Ag h
      obtain rfl:=Ba ae
      replace h:=Bp bg
      refine Aj ?_
      refine Ad ?_
      obtain rfl:=Ag h
      simp +decide -implicitDefEqProofs only[go_sem,Ae,Ac.int.injEq,Int.natCast_zero,List.replicate_zero,List.length_take,List.length_drop,Ac.own.injEq,reduceCtorEq,Int.reduceAdd,Bc,Bd,A8,Bb,A9,Tryz.results31]
     replace h:=Av h hc
     refine AWP.seq ?_
     refine AWP.region rfl ?_;intro K g
     (try simp +decide -implicitDefEqProofs only[go_sem])
     obtain⟨y6,oi,h⟩:=A2 h
     refine Bg.pure Tryz.call57 (Gz ao.Shares oi) rfl fun _ hr=>?_
     subst hr
     (try simp +decide -implicitDefEqProofs only[go_sem])
     refine g _ _ ?_
     refine Aa ?_
     refine AWP.cond (Ai (fun hc=>?_) (fun hc=>?_))
     ·replace h:=Au h hc
      refine AWP.seq ?_
      refine AWP.region rfl ?_;intro K g
      (try simp +decide -implicitDefEqProofs only[go_sem])
      refine g _ _ ?_
      refine Aa ?_
      refine AWP.ret ?_
      refine Aj ?_
      refine Aj ?_
      refine Ad ?_
      refine Ad ?_
      obtain rfl:=Ag h
      obtain rfl:=Ba ae
      replace h:=Bp bg
      refine Aj ?_
      refine Ad ?_
      obtain rfl:=Ag h
      simp +decide -implicitDefEqProofs only[go_sem,Ae,Ac.int.injEq,Int.natCast_zero,List.replicate_zero,List.length_take,List.length_drop,Ac.own.injEq,reduceCtorEq,Int.reduceAdd,Bc,Bd,A8,Bb,A9,Tryz.results31]
     replace h:=Av h hc
     refine AWP.skip ?_
     refine Al ?_
     refine Al ?_
     refine Aa ?_
     refine AWP.region rfl ?_;intro K g
     (try simp +decide -implicitDefEqProofs only[go_sem])
     refine g _ _ ?_
     refine Aa ?_
     obtain rfl:=Ag h
     refine⟨(k0+1,(),()),⟨by dsimp only;omega,Bf ae⟩,by dsimp only;omega,?_,?_⟩
     ·(simp +decide -implicitDefEqProofs only[go_sem,Ae,Ac.int.injEq,Int.natCast_zero,List.replicate_zero,List.length_take,List.length_drop,Ac.own.injEq,reduceCtorEq,Int.reduceAdd,bo]<;>omega)
     (simp +decide -implicitDefEqProofs only[go_sem,Ae,Ac.int.injEq,Int.natCast_zero,List.replicate_zero,List.length_take,List.length_drop,Ac.own.injEq,reduceCtorEq,Int.reduceAdd,bo]<;>omega)
    replace h:=Au h hc
    (try simp +decide -implicitDefEqProofs only[go_sem,hc,Bool.not_false])
    refine g _ _ _ (by kernel_rfl) ?_
    refine Aa ?_
    refine AWP.cond (A7 ?_)
    refine AWP.seq ?_
    refine AWP.region rfl ?_;intro K g
    (try simp +decide -implicitDefEqProofs only[go_sem])
    refine g _ _ ?_
    refine Aa ?_
    refine AWP.ret ?_
    refine Aj ?_
    refine Aj ?_
    refine Ad ?_
    refine Ad ?_
    obtain rfl:=Ag h
    obtain rfl:=Ba ae
    replace h:=Bp bg
    refine Aj ?_
    refine Ad ?_
    obtain rfl:=Ag h
    simp +decide -implicitDefEqProofs only[go_sem,Ae,Ac.int.injEq,Int.natCast_zero,List.replicate_zero,List.length_take,List.length_drop,Ac.own.injEq,reduceCtorEq,Int.reduceAdd,Bc,Bd,A8,Bb,A9,Tryz.results31]
   replace h:=Au h hc
   (try simp +decide -implicitDefEqProofs only[go_sem,hc,Bool.not_false])
   refine g _ _ _ (by kernel_rfl) ?_
   refine Aa ?_
   refine AWP.cond (A7 ?_)
   refine AWP.seq ?_
   refine AWP.region rfl ?_;intro K g
   (try simp +decide -implicitDefEqProofs only[go_sem])
   refine g _ _ ?_
   refine Aa ?_
   refine AWP.ret ?_
   refine Aj ?_
   refine Aj ?_
   refine Ad ?_
   refine Ad ?_
   obtain rfl:=Ag h
   obtain rfl:=Ba ae
   replace h:=Bp bg
   refine Aj ?_
   refine Ad ?_
   obtain rfl:=Ag h
   simp +decide -implicitDefEqProofs only[go_sem,Ae,Ac.int.injEq,Int.natCast_zero,List.replicate_zero,List.length_take,List.length_drop,Ac.own.injEq,reduceCtorEq,Int.reduceAdd,Bc,Bd,A8,Bb,A9,Tryz.results31]
  replace h:=Au h hc
  (try simp +decide -implicitDefEqProofs only[go_sem,hc,Bool.not_false])
  refine g _ _ _ (by kernel_rfl) ?_
  refine Aa ?_
  refine AWP.cond (A7 ?_)
  refine AWP.seq ?_
  refine AWP.region rfl ?_;intro K g
  (try simp +decide -implicitDefEqProofs only[go_sem])
  refine g _ _ ?_
  refine Aa ?_
  refine AWP.ret ?_
  refine Aj ?_
  refine Aj ?_
  refine Ad ?_
  refine Ad ?_
  obtain rfl:=Ag h
  obtain rfl:=Ba ae
  replace h:=Bp bg
  refine Aj ?_
  refine Ad ?_
  obtain rfl:=Ag h
  simp +decide -implicitDefEqProofs only[go_sem,Ae,Ac.int.injEq,Int.natCast_zero,List.replicate_zero,List.length_take,List.length_drop,Ac.own.injEq,reduceCtorEq,Int.reduceAdd,Bc,Bd,A8,Bb,A9,Tryz.results31]
def Hc (l:List Bi) (ao:Bi) (k2:Nat) (_x:Unit) (sv:Unit):Option (Out (Unit) (Out (Unit) (Int))):=
  (Ch l ((k2:Nat):Int)).bind fun bw=>(bif (decide (bw.Ref=ao.Ref))then some (Out.ret (Out.ret 7))else some (Out.next ()))
def Hd (l:List Bi) (k0:Nat) (ao:Bi) (sv:Unit):Option (Out (Unit) (Int)):=
  (bif (decide (ao.Ref<1))then some (Out.ret 2)else (bif (decide (1000000000<ao.Ref))then some (Out.ret 2)else (bif (decide (ao.From<0))then some (Out.ret 2)else (bif (decide (9999<ao.From))then some (Out.ret 2)else (bif (decide (ao.To<0))then some (Out.ret 2)else (bif (decide (9999<ao.To))then some (Out.ret 2)else (bif (decide (ao.Amount<1))then some (Out.ret 2)else (bif (decide (1099511627776<ao.Amount))then some (Out.ret 2)else (bif (decide (ao.From=ao.To))then some (Out.ret 1)else (L6 (Hc l ao) k0 ()).bind fun o2=>o2.on fun s2=>some (Out.next ()))))))))))
def Ht (l:List Bi):Option (Int):=
  (bif (decide (2000<((l.length:Nat):Int)))then some 4 else(Bo (Hd l) 0 l ()).bind fun o0=>o0.on fun s0=>some 0)
theorem Mr (l:List Bi) {r:Int} (h:Ht l=some r):Aq Tryz.prog 32 [.sl 4 (l.map Az)] (·= .int .i64 r):=by
  refine Aq.nle (Aq.intro Tryz.func32 rfl rfl (by show _≤75;simp) ?_)
  unfold Ht at h
  (try simp +decide -implicitDefEqProofs only[go_sem])
  refine AWP.seq ?_
  refine AWP.region rfl ?_;intro K g
  (try simp +decide -implicitDefEqProofs only[go_sem])
  refine g _ _ ?_
  refine Aa ?_
  refine AWP.seq ?_
  refine AWP.seq ?_
  refine AWP.region rfl ?_;intro K g
  (try simp +decide -implicitDefEqProofs only[go_sem])
  intro hm
  refine g _ _ ?_
  refine Aa ?_
  refine AWP.cond (Ai (fun hc=>?_) (fun hc=>?_))
  ·replace h:=Au h hc
   refine AWP.seq ?_
   refine AWP.region rfl ?_;intro K g
   (try simp +decide -implicitDefEqProofs only[go_sem])
   refine g _ _ ?_
   refine Aa ?_
   refine AWP.ret ?_
   refine Ad ?_
   obtain rfl:=Ag h
   simp +decide -implicitDefEqProofs only[go_sem,Ae,Ac.int.injEq,Int.natCast_zero,List.replicate_zero,List.length_take,List.length_drop,Ac.own.injEq,reduceCtorEq,Int.reduceAdd,Bc,Bd,A8,Bb,A9,Tryz.results32]
  replace h:=Av h hc
  refine AWP.skip ?_
  refine Aa ?_
  refine AWP.seq ?_
  refine AWP.seq ?_
  refine AWP.region rfl ?_;intro K g
  (try simp +decide -implicitDefEqProofs only[go_sem])
  refine g _ _ ?_
  refine Aa ?_
  refine AWP.block ?_
  obtain⟨o0,ae,bg⟩:=A2 h
  clear h
  refine AWP.Cv (ι:=Nat×(Unit)×(Unit)) (fun zz=>[(0,.sl 4 (l.map Az)),(3,.int .i64 ((zz.1:Nat):Int))]) (fun zz=>[]) (fun zz=>zz.1≤l.length∧Bo (Hd l) zz.1 ((l).drop zz.1) zz.2.1=some o0) (fun zz=>l.length - zz.1) (0,(),()) ⟨Nat.zero_le _,ae⟩ (by(simp +decide -implicitDefEqProofs only[go_sem,Ae,Ac.int.injEq,Int.natCast_zero,List.replicate_zero,List.length_take,List.length_drop,Ac.own.injEq,reduceCtorEq,Int.reduceAdd]<;>omega)) (by(simp +decide -implicitDefEqProofs only[go_sem,Ae,Ac.int.injEq,Int.natCast_zero,List.replicate_zero,List.length_take,List.length_drop,Ac.own.injEq,reduceCtorEq,Int.reduceAdd]<;>omega)) (fun x=>⟨rfl,rfl,rfl⟩) ?_
  clear ae
  rintro⟨k0,⟨⟩,⟨⟩⟩ ⟨cn,ae⟩
  dsimp only at cn ae ⊢
  refine AWP.seq ?_
  refine AWP.seq ?_
  refine AWP.region rfl ?_;intro K g
  (try simp +decide -implicitDefEqProofs only[go_sem])
  intro hm
  refine g _ _ ?_
  refine Aa ?_
  refine AWP.cond (Ai (fun hc=>?_) (fun hc=>?_))
  rotate_left
  ·obtain rfl:=B8 ae (fun hl=>by have:=bJ hc;omega)
   have h:=B7 bg;try dsimp only at h
   have ba:l.length=k0:=by have:=bJ hc;omega
   subst ba
   refine AWP.exit ?_
   refine An ?_
   refine An ?_
   refine A6 ?_
   refine Aa ?_
   refine AWP.seq ?_
   refine AWP.region rfl ?_;intro K g
   (try simp +decide -implicitDefEqProofs only[go_sem])
   refine g _ _ ?_
   refine Aa ?_
   refine AWP.ret ?_
   obtain rfl:=Ag h
   simp +decide -implicitDefEqProofs only[go_sem,Ae,Ac.int.injEq,Int.natCast_zero,List.replicate_zero,List.length_take,List.length_drop,Ac.own.injEq,reduceCtorEq,Int.reduceAdd,Bc,Bd,A8,Bb,A9,Tryz.results32]
  have bj:k0<l.length:=by have:=bK hc;omega
  obtain⟨ao,b0,bn,h,ae⟩:=Bw ae bj
  have b7:=Br bn
  have bo:IntKind.i64.wrap (((k0:Nat):Int)+1)=(((k0:Nat):Int)+1):=by rw[wrap_i64]<;>omega
  unfold Hd at h;try dsimp only at h
  refine AWP.skip ?_
  refine Aa ?_
  refine AWP.seq ?_
  refine AWP.block ?_
  refine AWP.seq ?_
  refine AWP.region rfl ?_;intro K g
  (try simp +decide -implicitDefEqProofs only[go_sem])
  refine Ca.of (f:=Az) (l:=l) b7 ?_
  (try simp +decide -implicitDefEqProofs only[go_sem])
  refine g _ _ ?_
  refine Aa ?_
  refine AWP.seq ?_
  refine AWP.seq ?_
  refine AWP.region rfl ?_;intro K g
  (try simp +decide -implicitDefEqProofs only[go_sem])
  refine Ak (fun hc=>?_) (fun hc=>?_)
  ·replace h:=Av h hc
   (try simp +decide -implicitDefEqProofs only[go_sem,hc])
   refine Ak (fun hc=>?_) (fun hc=>?_)
   ·replace h:=Av h hc
    (try simp +decide -implicitDefEqProofs only[go_sem,hc])
    refine Ak (fun hc=>?_) (fun hc=>?_)
    ·replace h:=Av h hc
     (try simp +decide -implicitDefEqProofs only[go_sem,hc])
     refine Ak (fun hc=>?_) (fun hc=>?_)
     ·replace h:=Av h hc
      (try simp +decide -implicitDefEqProofs only[go_sem,hc])
      refine Ak (fun hc=>?_) (fun hc=>?_)
      ·replace h:=Av h hc
       (try simp +decide -implicitDefEqProofs only[go_sem,hc])
       refine Ak (fun hc=>?_) (fun hc=>?_)
       ·replace h:=Av h hc
        (try simp +decide -implicitDefEqProofs only[go_sem,hc])
        refine Ak (fun hc=>?_) (fun hc=>?_)
        ·replace h:=Av h hc
         (try simp +decide -implicitDefEqProofs only[go_sem,hc])
         refine g _ _ ?_
         refine Aa ?_
         refine AWP.cond (Ai (fun hc=>?_) (fun hc=>?_))
         ·replace h:=Au h hc
          refine AWP.seq ?_
          refine AWP.region rfl ?_;intro K g
          (try simp +decide -implicitDefEqProofs only[go_sem])
          refine g _ _ ?_
          refine Aa ?_
          refine AWP.ret ?_
          refine Ad ?_
          refine Aj ?_
          refine Ad ?_
          refine Ad ?_
          obtain rfl:=Ag h
          obtain rfl:=Ba ae
          replace h:=Bp bg
          refine Aj ?_
          refine Ad ?_
          obtain rfl:=Ag h
          simp +decide -implicitDefEqProofs only[go_sem,Ae,Ac.int.injEq,Int.natCast_zero,List.replicate_zero,List.length_take,List.length_drop,Ac.own.injEq,reduceCtorEq,Int.reduceAdd,Bc,Bd,A8,Bb,A9,Tryz.results32]
         replace h:=Av h hc
         refine AWP.skip ?_
         refine Aa ?_
         refine AWP.seq ?_
         refine AWP.seq ?_
         refine AWP.region rfl ?_;intro K g
         (try simp +decide -implicitDefEqProofs only[go_sem])
         refine g _ _ ?_
         refine Aa ?_
         refine AWP.cond (Ai (fun hc=>?_) (fun hc=>?_))
         ·replace h:=Au h hc
          refine AWP.seq ?_
          refine AWP.region rfl ?_;intro K g
          (try simp +decide -implicitDefEqProofs only[go_sem])
          refine g _ _ ?_
          refine Aa ?_
          refine AWP.ret ?_
          refine Ad ?_
          refine Aj ?_
          refine Ad ?_
          refine Ad ?_
          obtain rfl:=Ag h
          obtain rfl:=Ba ae
          replace h:=Bp bg
          refine Aj ?_
          refine Ad ?_
          obtain rfl:=Ag h
          simp +decide -implicitDefEqProofs only[go_sem,Ae,Ac.int.injEq,Int.natCast_zero,List.replicate_zero,List.length_take,List.length_drop,Ac.own.injEq,reduceCtorEq,Int.reduceAdd,Bc,Bd,A8,Bb,A9,Tryz.results32]
         replace h:=Av h hc
         refine AWP.skip ?_
         refine Aa ?_
         refine AWP.seq ?_
         refine AWP.region rfl ?_;intro K g
         (try simp +decide -implicitDefEqProofs only[go_sem])
         refine g _ _ ?_
         refine Aa ?_
         refine AWP.block ?_
         obtain⟨o2,br,gf⟩:=A2 h
         clear h
         obtain⟨ql,br⟩:=Qu br
         refine AWP.Cv (ι:=Nat×(Unit)×(Unit)) (fun zz=>[(0,.sl 4 (l.map Az)),(3,.int .i64 ((k0:Nat):Int)),(4,.ptr 0 0),(5,.int .i64 ((zz.1:Nat):Int))]) (fun zz=>[.box [.int .i64 ao.Ref,.int .i64 ao.From,.int .i64 ao.To,.int .i64 ao.Amount]]) (fun zz=>zz.1≤k0∧Bo (Hc l ao) zz.1 ((List.replicate k0 ()).drop zz.1) zz.2.1=some o2) (fun zz=>k0 - zz.1) (0,(),()) ⟨Nat.zero_le _,br⟩ (by(simp +decide -implicitDefEqProofs only[go_sem,Ae,Ac.int.injEq,Int.natCast_zero,List.replicate_zero,List.length_take,List.length_drop,Ac.own.injEq,reduceCtorEq,Int.reduceAdd]<;>omega)) (by(simp +decide -implicitDefEqProofs only[go_sem,Ae,Ac.int.injEq,Int.natCast_zero,List.replicate_zero,List.length_take,List.length_drop,Ac.own.injEq,reduceCtorEq,Int.reduceAdd]<;>omega)) (fun x=>⟨rfl,rfl,rfl⟩) ?_
         clear br
         rintro⟨k2,⟨⟩,⟨⟩⟩ ⟨db,br⟩
         dsimp only at db br ⊢
         refine AWP.seq ?_
         refine AWP.seq ?_
         refine AWP.region rfl ?_;intro K g
         (try simp +decide -implicitDefEqProofs only[go_sem])
         refine g _ _ ?_
         refine Aa ?_
         refine AWP.cond (Ai (fun hc=>?_) (fun hc=>?_))
         rotate_left
         ·obtain rfl:=B8 br (fun hl=>by rw[bS]at hl;have:=bJ hc;omega)
          have h:=B7 gf;try dsimp only at h
          have ba:k0=k2:=by have:=bJ hc;omega
          subst ba
          refine AWP.exit ?_
          refine An ?_
          refine An ?_
          refine A6 ?_
          refine Al ?_
          refine Aa ?_
          refine AWP.region rfl ?_;intro K g
          (try simp +decide -implicitDefEqProofs only[go_sem])
          refine g _ _ ?_
          refine Aa ?_
          obtain rfl:=Ag h
          refine⟨(k0+1,(),()),⟨by dsimp only;omega,Bf ae⟩,by dsimp only;omega,?_,?_⟩
          ·(simp +decide -implicitDefEqProofs only[go_sem,Ae,Ac.int.injEq,Int.natCast_zero,List.replicate_zero,List.length_take,List.length_drop,Ac.own.injEq,reduceCtorEq,Int.reduceAdd,bo]<;>omega)
          (simp +decide -implicitDefEqProofs only[go_sem,Ae,Ac.int.injEq,Int.natCast_zero,List.replicate_zero,List.length_take,List.length_drop,Ac.own.injEq,reduceCtorEq,Int.reduceAdd,bo]<;>omega)
         have da:k2<k0:=by have:=bK hc;omega
         obtain⟨_,b2,_,h,br⟩:=Bw br (by rw[bS];exact da)
         have iq:IntKind.i64.wrap (((k2:Nat):Int)+1)=(((k2:Nat):Int)+1):=by rw[wrap_i64]<;>omega
         unfold Hc at h;try dsimp only at h
         refine AWP.skip ?_
         refine Aa ?_
         refine AWP.seq ?_
         refine AWP.block ?_
         refine AWP.seq ?_
         refine AWP.draw Tryz.mixed (by kernel_rfl) ?_;intro K g
         (try simp +decide -implicitDefEqProofs only[go_sem])
         obtain⟨bw,bz,h⟩:=A2 h
         refine Ca.of (f:=Az) (l:=l) bz ?_
         (try simp +decide -implicitDefEqProofs only[go_sem])
         refine g _ _ _ (by kernel_rfl) ?_
         refine Aa ?_
         refine AWP.cond (Ai (fun hc=>?_) (fun hc=>?_))
         ·replace h:=Au h hc
          refine AWP.seq ?_
          refine AWP.region rfl ?_;intro K g
          (try simp +decide -implicitDefEqProofs only[go_sem])
          refine g _ _ ?_
          refine Aa ?_
          refine AWP.ret ?_
          refine Aj ?_
          refine Ad ?_
          refine Ad ?_
          obtain rfl:=Ag h
          obtain rfl:=Ba br
          replace h:=Bp gf
          refine Aj ?_
          refine Aj ?_
          refine Ad ?_
          refine Ad ?_
          obtain rfl:=Ag h
          obtain rfl:=Ba ae
          replace h:=Bp bg
          refine Aj ?_
          refine Ad ?_
          obtain rfl:=Ag h
          simp +decide -implicitDefEqProofs only[go_sem,Ae,Ac.int.injEq,Int.natCast_zero,List.replicate_zero,List.length_take,List.length_drop,Ac.own.injEq,reduceCtorEq,Int.reduceAdd,Bc,Bd,A8,Bb,A9,Tryz.results32]
         replace h:=Av h hc
         refine AWP.skip ?_
         refine Al ?_
         refine Aa ?_
         refine AWP.region rfl ?_;intro K g
         (try simp +decide -implicitDefEqProofs only[go_sem])
         refine g _ _ ?_
         refine Aa ?_
         obtain rfl:=Ag h
         refine⟨(k2+1,(),()),⟨by dsimp only;omega,Bf br⟩,by dsimp only;omega,?_,?_⟩
         ·(simp +decide -implicitDefEqProofs only[go_sem,Ae,Ac.int.injEq,Int.natCast_zero,List.replicate_zero,List.length_take,List.length_drop,Ac.own.injEq,reduceCtorEq,Int.reduceAdd,iq]<;>omega)
         (simp +decide -implicitDefEqProofs only[go_sem,Ae,Ac.int.injEq,Int.natCast_zero,List.replicate_zero,List.length_take,List.length_drop,Ac.own.injEq,reduceCtorEq,Int.reduceAdd,iq]<;>omega)
        replace h:=Au h hc
        (try simp +decide -implicitDefEqProofs only[go_sem,hc,Bool.not_false])
        refine g _ _ ?_
        refine Aa ?_
        refine AWP.cond (A7 ?_)
        refine AWP.seq ?_
        refine AWP.region rfl ?_;intro K g
        (try simp +decide -implicitDefEqProofs only[go_sem])
        refine g _ _ ?_
        refine Aa ?_
        refine AWP.ret ?_
        refine Ad ?_
        refine Aj ?_
        refine Ad ?_
        refine Ad ?_
        obtain rfl:=Ag h
        obtain rfl:=Ba ae
        replace h:=Bp bg
        refine Aj ?_
        refine Ad ?_
        obtain rfl:=Ag h
        simp +decide -implicitDefEqProofs only[go_sem,Ae,Ac.int.injEq,Int.natCast_zero,List.replicate_zero,List.length_take,List.length_drop,Ac.own.injEq,reduceCtorEq,Int.reduceAdd,Bc,Bd,A8,Bb,A9,Tryz.results32]
       replace h:=Au h hc
       (try simp +decide -implicitDefEqProofs only[go_sem,hc,Bool.not_false])
       refine g _ _ ?_
       refine Aa ?_
       refine AWP.cond (A7 ?_)
       refine AWP.seq ?_
       refine AWP.region rfl ?_;intro K g
       (try simp +decide -implicitDefEqProofs only[go_sem])
       refine g _ _ ?_
       refine Aa ?_
       refine AWP.ret ?_
       refine Ad ?_
       refine Aj ?_
       refine Ad ?_
       refine Ad ?_
       obtain rfl:=Ag h
       obtain rfl:=Ba ae
       replace h:=Bp bg
       refine Aj ?_
       refine Ad ?_
       obtain rfl:=Ag h
       simp +decide -implicitDefEqProofs only[go_sem,Ae,Ac.int.injEq,Int.natCast_zero,List.replicate_zero,List.length_take,List.length_drop,Ac.own.injEq,reduceCtorEq,Int.reduceAdd,Bc,Bd,A8,Bb,A9,Tryz.results32]
      replace h:=Au h hc
      (try simp +decide -implicitDefEqProofs only[go_sem,hc,Bool.not_false])
      refine g _ _ ?_
      refine Aa ?_
      refine AWP.cond (A7 ?_)
      refine AWP.seq ?_
      refine AWP.region rfl ?_;intro K g
      (try simp +decide -implicitDefEqProofs only[go_sem])
      refine g _ _ ?_
      refine Aa ?_
      refine AWP.ret ?_
      refine Ad ?_
      refine Aj ?_
      refine Ad ?_
      refine Ad ?_
      obtain rfl:=Ag h
      obtain rfl:=Ba ae
      replace h:=Bp bg
      refine Aj ?_
      refine Ad ?_
      obtain rfl:=Ag h
      simp +decide -implicitDefEqProofs only[go_sem,Ae,Ac.int.injEq,Int.natCast_zero,List.replicate_zero,List.length_take,List.length_drop,Ac.own.injEq,reduceCtorEq,Int.reduceAdd,Bc,Bd,A8,Bb,A9,Tryz.results32]
     replace h:=Au h hc
     (try simp +decide -implicitDefEqProofs only[go_sem,hc,Bool.not_false])
     refine g _ _ ?_
     refine Aa ?_
     refine AWP.cond (A7 ?_)
     refine AWP.seq ?_
     refine AWP.region rfl ?_;intro K g
     (try simp +decide -implicitDefEqProofs only[go_sem])
     refine g _ _ ?_
     refine Aa ?_
     refine AWP.ret ?_
     refine Ad ?_
     refine Aj ?_
     refine Ad ?_
     refine Ad ?_
     obtain rfl:=Ag h
     obtain rfl:=Ba ae
     replace h:=Bp bg
     refine Aj ?_
     refine Ad ?_
     obtain rfl:=Ag h
     simp +decide -implicitDefEqProofs only[go_sem,Ae,Ac.int.injEq,Int.natCast_zero,List.replicate_zero,List.length_take,List.length_drop,Ac.own.injEq,reduceCtorEq,Int.reduceAdd,Bc,Bd,A8,Bb,A9,Tryz.results32]
    replace h:=Au h hc
    (try simp +decide -implicitDefEqProofs only[go_sem,hc,Bool.not_false])
    refine g _ _ ?_
    refine Aa ?_
    refine AWP.cond (A7 ?_)
    refine AWP.seq ?_
    refine AWP.region rfl ?_;intro K g
    (try simp +decide -implicitDefEqProofs only[go_sem])
    refine g _ _ ?_
    refine Aa ?_
    refine AWP.ret ?_
    refine Ad ?_
    refine Aj ?_
    refine Ad ?_
    refine Ad ?_
    obtain rfl:=Ag h
    obtain rfl:=Ba ae
    replace h:=Bp bg
    refine Aj ?_
    refine Ad ?_
    obtain rfl:=Ag h
    simp +decide -implicitDefEqProofs only[go_sem,Ae,Ac.int.injEq,Int.natCast_zero,List.replicate_zero,List.length_take,List.length_drop,Ac.own.injEq,reduceCtorEq,Int.reduceAdd,Bc,Bd,A8,Bb,A9,Tryz.results32]
   replace h:=Au h hc
   (try simp +decide -implicitDefEqProofs only[go_sem,hc,Bool.not_false])
   refine g _ _ ?_
   refine Aa ?_
   refine AWP.cond (A7 ?_)
   refine AWP.seq ?_
   refine AWP.region rfl ?_;intro K g
   (try simp +decide -implicitDefEqProofs only[go_sem])
   refine g _ _ ?_
   refine Aa ?_
   refine AWP.ret ?_
   refine Ad ?_
   refine Aj ?_
   refine Ad ?_
   refine Ad ?_
   obtain rfl:=Ag h
   obtain rfl:=Ba ae
   replace h:=Bp bg
   refine Aj ?_
   refine Ad ?_
   obtain rfl:=Ag h
   simp +decide -implicitDefEqProofs only[go_sem,Ae,Ac.int.injEq,Int.natCast_zero,List.replicate_zero,List.length_take,List.length_drop,Ac.own.injEq,reduceCtorEq,Int.reduceAdd,Bc,Bd,A8,Bb,A9,Tryz.results32]
  replace h:=Au h hc
  (try simp +decide -implicitDefEqProofs only[go_sem,hc,Bool.not_false])
  refine g _ _ ?_
  refine Aa ?_
  refine AWP.cond (A7 ?_)
  refine AWP.seq ?_
  refine AWP.region rfl ?_;intro K g
  (try simp +decide -implicitDefEqProofs only[go_sem])
  refine g _ _ ?_
  refine Aa ?_
  refine AWP.ret ?_
  refine Ad ?_
  refine Aj ?_
  refine Ad ?_
  refine Ad ?_
  obtain rfl:=Ag h
  obtain rfl:=Ba ae
  replace h:=Bp bg
  refine Aj ?_
  refine Ad ?_
  obtain rfl:=Ag h
  simp +decide -implicitDefEqProofs only[go_sem,Ae,Ac.int.injEq,Int.natCast_zero,List.replicate_zero,List.length_take,List.length_drop,Ac.own.injEq,reduceCtorEq,Int.reduceAdd,Bc,Bd,A8,Bb,A9,Tryz.results32]
def Gl (r_:A1):Option (Bool):=
  (En [r_]).bind fun y1=>some (decide (y1=0))
theorem Mp (r_:A1) {r:Bool} (h:Gl r_=some r):Aq Tryz.prog 33 [.agg (Bn r_)] (·= .bool r):=by
  refine Aq.nle (Aq.intro Tryz.func33 rfl rfl (by show _≤7;simp) ?_)
  unfold Gl at h
  (try simp +decide -implicitDefEqProofs only[go_sem])
  refine AWP.seq ?_
  refine AWP.region rfl ?_;intro K g
  (try simp +decide -implicitDefEqProofs only[go_sem])
  refine g _ _ ?_
  refine Aa ?_
  refine AWP.seq ?_
  refine AWP.region rfl ?_;intro K g
  (try simp +decide -implicitDefEqProofs only[go_sem])
  obtain⟨y1,ch,h⟩:=A2 h
  refine Bg.snap Tryz.call5 (Im [r_] ch) (by simp +decide -implicitDefEqProofs only[go_sem]) (by rintro _ rfl;rfl) fun _ hr=>?_
  subst hr
  (try simp +decide -implicitDefEqProofs only[go_sem])
  refine g _ _ ?_
  refine Aa ?_
  refine AWP.ret ?_
  obtain rfl:=Ag h
  simp +decide -implicitDefEqProofs only[go_sem,Ae,Ac.int.injEq,Int.natCast_zero,List.replicate_zero,List.length_take,List.length_drop,Ac.own.injEq,reduceCtorEq,Int.reduceAdd,Bc,Bd,A8,Bb,A9,Tryz.results33]
def Ej (gate:Int) (seq:Int) (k0:Nat) (ao:Ar) (sv:Unit):Option (Out (Unit) (Int)):=
  (bif (decide (ao.Ride.Gate=gate))then (bif (decide (ao.Ride.Seq=seq))then some (Out.ret ((k0:Nat):Int))else some (Out.next ()))else some (Out.next ()))
def Gj (l:List Ar) (gate:Int) (seq:Int):Option (Int):=
  (Bo (Ej gate seq) 0 l ()).bind fun o0=>o0.on fun s0=>some (-1)
theorem Mn (l:List Ar) (gate:Int) (seq:Int) {r:Int} (h:Gj l gate seq=some r):Aq Tryz.prog 34 [.sl 8 (l.map A5),.int .i64 gate,.int .i64 seq] (·= .int .i64 r):=by
  refine Aq.nle (Aq.intro Tryz.func34 rfl rfl (by show _≤33;simp) ?_)
  unfold Gj at h
  (try simp +decide -implicitDefEqProofs only[go_sem])
  refine AWP.seq ?_
  refine AWP.region rfl ?_;intro K g
  (try simp +decide -implicitDefEqProofs only[go_sem])
  refine g _ _ ?_
  refine Aa ?_
  refine AWP.seq ?_
  refine AWP.seq ?_
  refine AWP.region rfl ?_;intro K g
  (try simp +decide -implicitDefEqProofs only[go_sem])
  refine g _ _ ?_
  refine Aa ?_
  refine AWP.block ?_
  obtain⟨o0,ae,bg⟩:=A2 h
  clear h
  refine AWP.Cv (ι:=Nat×(Unit)×(Unit)) (fun zz=>[(0,.sl 8 (l.map A5)),(1,.int .i64 gate),(2,.int .i64 seq),(7,.int .i64 ((zz.1:Nat):Int))]) (fun zz=>[]) (fun zz=>zz.1≤l.length∧Bo (Ej gate seq) zz.1 ((l).drop zz.1) zz.2.1=some o0) (fun zz=>l.length - zz.1) (0,(),()) ⟨Nat.zero_le _,ae⟩ (by(simp +decide -implicitDefEqProofs only[go_sem,Ae,Ac.int.injEq,Int.natCast_zero,List.replicate_zero,List.length_take,List.length_drop,Ac.own.injEq,reduceCtorEq,Int.reduceAdd]<;>omega)) (by(simp +decide -implicitDefEqProofs only[go_sem,Ae,Ac.int.injEq,Int.natCast_zero,List.replicate_zero,List.length_take,List.length_drop,Ac.own.injEq,reduceCtorEq,Int.reduceAdd]<;>omega)) (fun x=>⟨rfl,rfl,rfl⟩) ?_
  clear ae
  rintro⟨k0,⟨⟩,⟨⟩⟩ ⟨cn,ae⟩
  dsimp only at cn ae ⊢
  refine AWP.seq ?_
  refine AWP.seq ?_
  refine AWP.region rfl ?_;intro K g
  (try simp +decide -implicitDefEqProofs only[go_sem])
  intro hm
  refine g _ _ ?_
  refine Aa ?_
  refine AWP.cond (Ai (fun hc=>?_) (fun hc=>?_))
  rotate_left
  ·obtain rfl:=B8 ae (fun hl=>by have:=bJ hc;omega)
   have h:=B7 bg;try dsimp only at h
   have ba:l.length=k0:=by have:=bJ hc;omega
   subst ba
   refine AWP.exit ?_
   refine An ?_
   refine An ?_
   refine A6 ?_
   refine Aa ?_
   refine AWP.seq ?_
   refine AWP.region rfl ?_;intro K g
   (try simp +decide -implicitDefEqProofs only[go_sem])
   refine g _ _ ?_
   refine Aa ?_
   refine AWP.ret ?_
   obtain rfl:=Ag h
   simp +decide -implicitDefEqProofs only[go_sem,Ae,Ac.int.injEq,Int.natCast_zero,List.replicate_zero,List.length_take,List.length_drop,Ac.own.injEq,reduceCtorEq,Int.reduceAdd,Bc,Bd,A8,Bb,A9,Tryz.results34]
  have bj:k0<l.length:=by have:=bK hc;omega
  obtain⟨ao,b0,bn,h,ae⟩:=Bw ae bj
  have b7:=Br bn
  have bo:IntKind.i64.wrap (((k0:Nat):Int)+1)=(((k0:Nat):Int)+1):=by rw[wrap_i64]<;>omega
  unfold Ej at h;try dsimp only at h
  refine AWP.skip ?_
  refine Aa ?_
  refine AWP.seq ?_
  refine AWP.block ?_
  refine AWP.seq ?_
  refine AWP.region rfl ?_;intro K g
  (try simp +decide -implicitDefEqProofs only[go_sem])
  refine Ca.of (f:=A5) (l:=l) b7 ?_
  (try simp +decide -implicitDefEqProofs only[go_sem])
  refine Ak (fun hc=>?_) (fun hc=>?_)
  ·replace h:=Au h hc
   (try simp +decide -implicitDefEqProofs only[go_sem,hc])
   refine Ca.of (f:=A5) (l:=l) b7 ?_
   (try simp +decide -implicitDefEqProofs only[go_sem])
   refine g _ _ ?_
   refine Aa ?_
   refine AWP.cond (Ai (fun hc=>?_) (fun hc=>?_))
   ·replace h:=Au h hc
    refine AWP.seq ?_
    refine AWP.region rfl ?_;intro K g
    (try simp +decide -implicitDefEqProofs only[go_sem])
    refine g _ _ ?_
    refine Aa ?_
    refine AWP.ret ?_
    refine Aj ?_
    refine Ad ?_
    refine Ad ?_
    obtain rfl:=Ag h
    obtain rfl:=Ba ae
    replace h:=Bp bg
    refine Aj ?_
    refine Ad ?_
    obtain rfl:=Ag h
    simp +decide -implicitDefEqProofs only[go_sem,Ae,Ac.int.injEq,Int.natCast_zero,List.replicate_zero,List.length_take,List.length_drop,Ac.own.injEq,reduceCtorEq,Int.reduceAdd,Bc,Bd,A8,Bb,A9,Tryz.results34]
   replace h:=Av h hc
   refine AWP.skip ?_
   refine Al ?_
   refine Aa ?_
   refine AWP.region rfl ?_;intro K g
   (try simp +decide -implicitDefEqProofs only[go_sem])
   refine g _ _ ?_
   refine Aa ?_
   obtain rfl:=Ag h
   refine⟨(k0+1,(),()),⟨by dsimp only;omega,Bf ae⟩,by dsimp only;omega,?_,?_⟩
   ·(simp +decide -implicitDefEqProofs only[go_sem,Ae,Ac.int.injEq,Int.natCast_zero,List.replicate_zero,List.length_take,List.length_drop,Ac.own.injEq,reduceCtorEq,Int.reduceAdd,bo]<;>omega)
   (simp +decide -implicitDefEqProofs only[go_sem,Ae,Ac.int.injEq,Int.natCast_zero,List.replicate_zero,List.length_take,List.length_drop,Ac.own.injEq,reduceCtorEq,Int.reduceAdd,bo]<;>omega)
  replace h:=Av h hc
  (try simp +decide -implicitDefEqProofs only[go_sem,hc,Bool.not_true])
  refine g _ _ ?_
  refine Aa ?_
  refine AWP.cond (Bu ?_)
  refine AWP.skip ?_
  refine Al ?_
  refine Aa ?_
  refine AWP.region rfl ?_;intro K g
  (try simp +decide -implicitDefEqProofs only[go_sem])
  refine g _ _ ?_
  refine Aa ?_
  obtain rfl:=Ag h
  refine⟨(k0+1,(),()),⟨by dsimp only;omega,Bf ae⟩,by dsimp only;omega,?_,?_⟩
  ·(simp +decide -implicitDefEqProofs only[go_sem,Ae,Ac.int.injEq,Int.natCast_zero,List.replicate_zero,List.length_take,List.length_drop,Ac.own.injEq,reduceCtorEq,Int.reduceAdd,bo]<;>omega)
  (simp +decide -implicitDefEqProofs only[go_sem,Ae,Ac.int.injEq,Int.natCast_zero,List.replicate_zero,List.length_take,List.length_drop,Ac.own.injEq,reduceCtorEq,Int.reduceAdd,bo]<;>omega)
def El (b:Be) (k2:Nat) (bw:Ar) (sv:Unit):Option (Out (Unit) (Int)):=
  (bif (decide (bw.Period<1))then some (Out.ret 8)else (bif (decide (((b.Periods.length:Nat):Int)<bw.Period))then some (Out.ret 8)else (Gl bw.Ride).bind fun y5=>(bif (!y5)then some (Out.ret 2)else (Ch b.Periods (IntKind.i64.wrap (bw.Period - 1))).bind fun eh=>(bif (decide (eh.Span.To≤bw.Ride.At))then some (Out.ret 11)else okB (decide (0≤((k2:Nat):Int)∧((k2:Nat):Int)≤((b.Rides.length:Nat):Int))) ((Gj (b.Rides.take k2) bw.Ride.Gate bw.Ride.Seq).bind fun y7=>(bif (decide (0≤y7))then some (Out.ret 7)else some (Out.next ())))))))
def Gm (b:Be):Option (Int):=
  (bif (decide (64<((b.Periods.length:Nat):Int)))then some 4 else(bif (decide (2000<((b.Rides.length:Nat):Int)))then some 4 else(E3 b.Periods).bind fun y1=>(bif (decide (y1≠0))then some y1 else(Ht b.Postings).bind fun y2=>(bif (decide (y2≠0))then some y2 else(Bo (El b) 0 b.Rides ()).bind fun o2=>o2.on fun s2=>some 0))))
theorem Mq (b:Be) {r:Int} (h:Gm b=some r):Aq Tryz.prog 11 [.agg (Cu b)] (·= .int .i64 r):=by
  refine Aq.nle (Aq.intro Tryz.func11 rfl rfl (by show _≤85;simp) ?_)
  unfold Gm at h
  (try simp +decide -implicitDefEqProofs only[go_sem])
  refine AWP.seq ?_
  refine AWP.region rfl ?_;intro K g
  (try simp +decide -implicitDefEqProofs only[go_sem])
  refine g _ _ ?_
  refine Aa ?_
  refine AWP.seq ?_
  refine AWP.seq ?_
  refine AWP.region rfl ?_;intro K g
  (try simp +decide -implicitDefEqProofs only[go_sem])
  intro hm
  refine Ak (fun hc=>?_) (fun hc=>?_)
  ·replace h:=Av h hc
   (try simp +decide -implicitDefEqProofs only[go_sem,hc])
   intro hm
   refine g _ _ ?_
   refine Aa ?_
   refine AWP.cond (Ai (fun hc=>?_) (fun hc=>?_))
   ·replace h:=Au h hc
    refine AWP.seq ?_
    refine AWP.region rfl ?_;intro K g
    (try simp +decide -implicitDefEqProofs only[go_sem])
    refine g _ _ ?_
    refine Aa ?_
    refine AWP.ret ?_
    refine Ad ?_
    obtain rfl:=Ag h
    simp +decide -implicitDefEqProofs only[go_sem,Ae,Ac.int.injEq,Int.natCast_zero,List.replicate_zero,List.length_take,List.length_drop,Ac.own.injEq,reduceCtorEq,Int.reduceAdd,Bc,Bd,A8,Bb,A9,Tryz.results11]
   replace h:=Av h hc
   refine AWP.skip ?_
   refine Aa ?_
   refine AWP.seq ?_
   refine AWP.seq ?_
   refine AWP.region rfl ?_;intro K g
   (try simp +decide -implicitDefEqProofs only[go_sem])
   obtain⟨y1,ch,h⟩:=A2 h
   refine Bg.pure Tryz.call31 (K5 b.Periods ch) rfl fun _ hr=>?_
   subst hr
   (try simp +decide -implicitDefEqProofs only[go_sem])
   refine g _ _ ?_
   refine Aa ?_
   refine AWP.seq ?_
   refine AWP.region rfl ?_;intro K g
   (try simp +decide -implicitDefEqProofs only[go_sem])
   refine g _ _ ?_
   refine Aa ?_
   refine AWP.cond (Ai (fun hc=>?_) (fun hc=>?_))
   ·replace h:=Au h hc
    refine AWP.seq ?_
    refine AWP.region rfl ?_;intro K g
    (try simp +decide -implicitDefEqProofs only[go_sem])
    refine g _ _ ?_
    refine Aa ?_
    refine AWP.ret ?_
    refine Ad ?_
    obtain rfl:=Ag h
    simp +decide -implicitDefEqProofs only[go_sem,Ae,Ac.int.injEq,Int.natCast_zero,List.replicate_zero,List.length_take,List.length_drop,Ac.own.injEq,reduceCtorEq,Int.reduceAdd,Bc,Bd,A8,Bb,A9,Tryz.results11]
   replace h:=Av h hc
   refine AWP.skip ?_
   refine Aa ?_
   refine AWP.seq ?_
   refine AWP.seq ?_
   refine AWP.region rfl ?_;intro K g
   (try simp +decide -implicitDefEqProofs only[go_sem])
   obtain⟨y2,dd,h⟩:=A2 h
   refine Bg.pure Tryz.call32 (Mr b.Postings dd) rfl fun _ hr=>?_
   subst hr
   (try simp +decide -implicitDefEqProofs only[go_sem])
   refine g _ _ ?_
   refine Aa ?_
   refine AWP.seq ?_
   refine AWP.region rfl ?_;intro K g
   (try simp +decide -implicitDefEqProofs only[go_sem])
   refine g _ _ ?_
   refine Aa ?_
   refine AWP.cond (Ai (fun hc=>?_) (fun hc=>?_))
   ·replace h:=Au h hc
    refine AWP.seq ?_
    refine AWP.region rfl ?_;intro K g
    (try simp +decide -implicitDefEqProofs only[go_sem])
    refine g _ _ ?_
    refine Aa ?_
    refine AWP.ret ?_
    refine Ad ?_
    obtain rfl:=Ag h
    simp +decide -implicitDefEqProofs only[go_sem,Ae,Ac.int.injEq,Int.natCast_zero,List.replicate_zero,List.length_take,List.length_drop,Ac.own.injEq,reduceCtorEq,Int.reduceAdd,Bc,Bd,A8,Bb,A9,Tryz.results11]
   replace h:=Av h hc
   refine AWP.skip ?_
   refine Aa ?_
   refine AWP.seq ?_
   refine AWP.seq ?_
   refine AWP.region rfl ?_;intro K g
   (try simp +decide -implicitDefEqProofs only[go_sem])
   refine g _ _ ?_
   refine Aa ?_
   refine AWP.block ?_
   obtain⟨o2,br,gf⟩:=A2 h
   clear h
   refine AWP.Cv (ι:=Nat×(Unit)×(Unit)) (fun zz=>[(1,.ptr 0 0),(5,.int .i64 ((zz.1:Nat):Int))]) (fun zz=>[.box [.sl 5 (b.Periods.map Ay),.sl 4 (b.Postings.map Az),.sl 8 (b.Rides.map A5)]]) (fun zz=>zz.1≤b.Rides.length∧Bo (El b) zz.1 ((b.Rides).drop zz.1) zz.2.1=some o2) (fun zz=>b.Rides.length - zz.1) (0,(),()) ⟨Nat.zero_le _,br⟩ (by(simp +decide -implicitDefEqProofs only[go_sem,Ae,Ac.int.injEq,Int.natCast_zero,List.replicate_zero,List.length_take,List.length_drop,Ac.own.injEq,reduceCtorEq,Int.reduceAdd]<;>omega)) (by(simp +decide -implicitDefEqProofs only[go_sem,Ae,Ac.int.injEq,Int.natCast_zero,List.replicate_zero,List.length_take,List.length_drop,Ac.own.injEq,reduceCtorEq,Int.reduceAdd]<;>omega)) (fun x=>⟨rfl,rfl,rfl⟩) ?_
   clear br
   rintro⟨k2,⟨⟩,⟨⟩⟩ ⟨db,br⟩
   dsimp only at db br ⊢
   refine AWP.seq ?_
   refine AWP.seq ?_
   refine AWP.region rfl ?_;intro K g
   (try simp +decide -implicitDefEqProofs only[go_sem])
   intro hm
   refine g _ _ ?_
   refine Aa ?_
   refine AWP.cond (Ai (fun hc=>?_) (fun hc=>?_))
   rotate_left
   ·obtain rfl:=B8 br (fun hl=>by have:=bJ hc;omega)
    have h:=B7 gf;try dsimp only at h
    have ba:b.Rides.length=k2:=by have:=bJ hc;omega
    subst ba
    refine AWP.exit ?_
    refine An ?_
    refine An ?_
    refine A6 ?_
    refine Aa ?_
    refine AWP.seq ?_
    refine AWP.region rfl ?_;intro K g
    (try simp +decide -implicitDefEqProofs only[go_sem])
    refine g _ _ ?_
    refine Aa ?_
    refine AWP.ret ?_
    obtain rfl:=Ag h
    simp +decide -implicitDefEqProofs only[go_sem,Ae,Ac.int.injEq,Int.natCast_zero,List.replicate_zero,List.length_take,List.length_drop,Ac.own.injEq,reduceCtorEq,Int.reduceAdd,Bc,Bd,A8,Bb,A9,Tryz.results11]
   have da:k2<b.Rides.length:=by have:=bK hc;omega
   obtain⟨bw,b2,jm,h,br⟩:=Bw br da
   have np:=Br jm
   have iq:IntKind.i64.wrap (((k2:Nat):Int)+1)=(((k2:Nat):Int)+1):=by rw[wrap_i64]<;>omega
   unfold El at h;try dsimp only at h
   refine AWP.skip ?_
   refine Aa ?_
   refine AWP.seq ?_
   refine AWP.block ?_
   refine AWP.seq ?_
   refine AWP.region rfl ?_;intro K g
   (try simp +decide -implicitDefEqProofs only[go_sem])
   refine Ca.of (f:=A5) (l:=b.Rides) np ?_
   (try simp +decide -implicitDefEqProofs only[go_sem])
   refine g _ _ ?_
   refine Aa ?_
   refine AWP.block ?_
   refine AWP.seq ?_
   refine AWP.region rfl ?_;intro K g
   (try simp +decide -implicitDefEqProofs only[go_sem])
   refine Ak (fun hc=>?_) (fun hc=>?_)
   ·replace h:=Av h hc
    (try simp +decide -implicitDefEqProofs only[go_sem,hc])
    intro hm
    refine g _ _ ?_
    refine Aa ?_
    refine AWP.cond (Ai (fun hc=>?_) (fun hc=>?_))
    ·replace h:=Au h hc
     refine AWP.seq ?_
     refine AWP.region rfl ?_;intro K g
     (try simp +decide -implicitDefEqProofs only[go_sem])
     refine g _ _ ?_
     refine Aa ?_
     refine AWP.ret ?_
     refine Aj ?_
     refine Aj ?_
     refine Ad ?_
     refine Ad ?_
     obtain rfl:=Ag h
     obtain rfl:=Ba br
     replace h:=Bp gf
     refine Aj ?_
     refine Ad ?_
     obtain rfl:=Ag h
     simp +decide -implicitDefEqProofs only[go_sem,Ae,Ac.int.injEq,Int.natCast_zero,List.replicate_zero,List.length_take,List.length_drop,Ac.own.injEq,reduceCtorEq,Int.reduceAdd,Bc,Bd,A8,Bb,A9,Tryz.results11]
    replace h:=Av h hc
    refine AWP.seq ?_
    refine AWP.region rfl ?_;intro K g
    (try simp +decide -implicitDefEqProofs only[go_sem])
    obtain⟨y5,fm,h⟩:=A2 h
    refine Bg.pure Tryz.call33 (Mp bw.Ride fm) rfl fun _ hr=>?_
    subst hr
    (try simp +decide -implicitDefEqProofs only[go_sem])
    refine g _ _ ?_
    refine Aa ?_
    refine AWP.cond (Ai (fun hc=>?_) (fun hc=>?_))
    ·replace h:=Au h hc
     refine AWP.seq ?_
     refine AWP.region rfl ?_;intro K g
     (try simp +decide -implicitDefEqProofs only[go_sem])
     refine g _ _ ?_
     refine Aa ?_
     refine AWP.ret ?_
     refine Aj ?_
     refine Aj ?_
     refine Ad ?_
     refine Ad ?_
     obtain rfl:=Ag h
     obtain rfl:=Ba br
     replace h:=Bp gf
     refine Aj ?_
     refine Ad ?_
     obtain rfl:=Ag h
     simp +decide -implicitDefEqProofs only[go_sem,Ae,Ac.int.injEq,Int.natCast_zero,List.replicate_zero,List.length_take,List.length_drop,Ac.own.injEq,reduceCtorEq,Int.reduceAdd,Bc,Bd,A8,Bb,A9,Tryz.results11]
    replace h:=Av h hc
    refine AWP.seq ?_
    refine AWP.draw Tryz.mixed (by kernel_rfl) ?_;intro K g
    (try simp +decide -implicitDefEqProofs only[go_sem])
    obtain⟨eh,gl,h⟩:=A2 h
    refine Ca.of (f:=Ay) (l:=b.Periods) gl ?_
    (try simp +decide -implicitDefEqProofs only[go_sem])
    refine g _ _ _ (by kernel_rfl) ?_
    refine Aa ?_
    refine AWP.cond (Ai (fun hc=>?_) (fun hc=>?_))
    ·replace h:=Au h hc
     refine AWP.seq ?_
     refine AWP.region rfl ?_;intro K g
     (try simp +decide -implicitDefEqProofs only[go_sem])
     refine g _ _ ?_
     refine Aa ?_
     refine AWP.ret ?_
     refine Aj ?_
     refine Aj ?_
     refine Ad ?_
     refine Ad ?_
     obtain rfl:=Ag h
     obtain rfl:=Ba br
     replace h:=Bp gf
     refine Aj ?_
     refine Ad ?_
     obtain rfl:=Ag h
     simp +decide -implicitDefEqProofs only[go_sem,Ae,Ac.int.injEq,Int.natCast_zero,List.replicate_zero,List.length_take,List.length_drop,Ac.own.injEq,reduceCtorEq,Int.reduceAdd,Bc,Bd,A8,Bb,A9,Tryz.results11]
    replace h:=Av h hc
    refine AWP.seq ?_
    refine AWP.draw Tryz.mixed (by kernel_rfl) ?_;intro K g
    (try simp +decide -implicitDefEqProofs only[go_sem])
    obtain⟨hk,h⟩:=H8 h
    intro hm
    (repeat(refine⟨by omega,?_⟩))
    obtain⟨y7,oh,h⟩:=A2 h
    refine B9.pure Tryz.call34 (Mn (b.Rides.take k2) bw.Ride.Gate bw.Ride.Seq oh) rfl ?_
    (try simp +decide -implicitDefEqProofs only[go_sem])
    refine g _ _ _ (by kernel_rfl) ?_
    refine Aa ?_
    refine AWP.cond (Ai (fun hc=>?_) (fun hc=>?_))
    ·replace h:=Au h hc
     refine AWP.seq ?_
     refine AWP.region rfl ?_;intro K g
     (try simp +decide -implicitDefEqProofs only[go_sem])
     refine g _ _ ?_
     refine Aa ?_
     refine AWP.ret ?_
     refine Aj ?_
     refine Aj ?_
     refine Ad ?_
     refine Ad ?_
     obtain rfl:=Ag h
     obtain rfl:=Ba br
     replace h:=Bp gf
     refine Aj ?_
     refine Ad ?_
     obtain rfl:=Ag h
     simp +decide -implicitDefEqProofs only[go_sem,Ae,Ac.int.injEq,Int.natCast_zero,List.replicate_zero,List.length_take,List.length_drop,Ac.own.injEq,reduceCtorEq,Int.reduceAdd,Bc,Bd,A8,Bb,A9,Tryz.results11]
    replace h:=Av h hc
    refine AWP.skip ?_
    refine Al ?_
    refine Al ?_
    refine Aa ?_
    refine AWP.region rfl ?_;intro K g
    (try simp +decide -implicitDefEqProofs only[go_sem])
    refine g _ _ ?_
    refine Aa ?_
    obtain rfl:=Ag h
    refine⟨(k2+1,(),()),⟨by dsimp only;omega,Bf br⟩,by dsimp only;omega,?_,?_⟩
    ·(simp +decide -implicitDefEqProofs only[go_sem,Ae,Ac.int.injEq,Int.natCast_zero,List.replicate_zero,List.length_take,List.length_drop,Ac.own.injEq,reduceCtorEq,Int.reduceAdd,iq]<;>omega)
    (simp +decide -implicitDefEqProofs only[go_sem,Ae,Ac.int.injEq,Int.natCast_zero,List.replicate_zero,List.length_take,List.length_drop,Ac.own.injEq,reduceCtorEq,Int.reduceAdd,iq]<;>omega)
   replace h:=Au h hc
   (try simp +decide -implicitDefEqProofs only[go_sem,hc,Bool.not_false])
   refine g _ _ ?_
   refine Aa ?_
   refine AWP.cond (A7 ?_)
   refine AWP.seq ?_
   refine AWP.region rfl ?_;intro K g
   (try simp +decide -implicitDefEqProofs only[go_sem])
   refine g _ _ ?_
   refine Aa ?_
   refine AWP.ret ?_
   refine Aj ?_
   refine Aj ?_
   refine Ad ?_
   refine Ad ?_
   obtain rfl:=Ag h
   obtain rfl:=Ba br
   replace h:=Bp gf
   refine Aj ?_
   refine Ad ?_
   obtain rfl:=Ag h
   simp +decide -implicitDefEqProofs only[go_sem,Ae,Ac.int.injEq,Int.natCast_zero,List.replicate_zero,List.length_take,List.length_drop,Ac.own.injEq,reduceCtorEq,Int.reduceAdd,Bc,Bd,A8,Bb,A9,Tryz.results11]
  replace h:=Au h hc
  (try simp +decide -implicitDefEqProofs only[go_sem,hc,Bool.not_false])
  refine g _ _ ?_
  refine Aa ?_
  refine AWP.cond (A7 ?_)
  refine AWP.seq ?_
  refine AWP.region rfl ?_;intro K g
  (try simp +decide -implicitDefEqProofs only[go_sem])
  refine g _ _ ?_
  refine Aa ?_
  refine AWP.ret ?_
  refine Ad ?_
  obtain rfl:=Ag h
  simp +decide -implicitDefEqProofs only[go_sem,Ae,Ac.int.injEq,Int.natCast_zero,List.replicate_zero,List.length_take,List.length_drop,Ac.own.injEq,reduceCtorEq,Int.reduceAdd,Bc,Bd,A8,Bb,A9,Tryz.results11]
def Cz (cq:A1) (lz:Nat) (aa:Ar) (sv:Int):Option (Out (Int) (Out (Unit) (Bool))):=
  (bif ((decide (aa.Ride.Gate=cq.Gate))&&((decide (aa.Ride.Seq=cq.Seq))&&((decide (aa.Ride.Serial=cq.Serial))&&((decide (aa.Ride.Counter=cq.Counter))&&((decide (aa.Ride.Product=cq.Product))&&((decide (aa.Ride.Lift=cq.Lift))&&(decide (aa.Ride.At=cq.At))))))))then some (Out.next (IntKind.i64.wrap (sv+1)))else some (Out.next sv))
def Df (b_2_5:List Ar) (k8:Nat) (cq:A1) (sv:Unit):Option (Out (Unit) (Bool)):=
  (Bo (Cz cq) 0 b_2_5 0).bind fun o11=>o11.on fun s11=>(bif (decide (1<s11))then some (Out.ret false)else some (Out.next ()))
def Dd (rides:List A1) (b_0_3:List Ao) (b_1_4:List Bi) (b_2_5:List Ar) (sum7:Int):Option (Bool):=
  (Bo (Df b_2_5) 0 rides ()).bind fun o8=>o8.on fun s8=>(bif (decide (sum7=((b_2_5.length:Nat):Int)))then (Gm (Be.mk b_0_3 b_1_4 b_2_5)).bind fun kb=>some (decide (kb=0))else some false)
def Cy (b_0_3:List Ao) (b_1_4:List Bi) (b_2_5:List Ar) (k4:Nat) (_x:Unit) (sv:Int):Option (Out (Int) (Bool)):=
  (Fs (Be.mk b_0_3 b_1_4 b_2_5) (((k4:Nat):Int)+1)).bind fun iz=>some (Out.next (IntKind.i64.wrap (sv+((iz.length:Nat):Int))))
def De (rides:List A1) (b_0_3:List Ao) (b_1_4:List Bi) (b_2_5:List Ar):Option (Bool):=
  chk ((b_0_3.length+1) - 1) ((L6 (Cy b_0_3 b_1_4 b_2_5) ((b_0_3.length+1) - 1) 0).bind fun o15=>o15.on fun s15=>Dd rides b_0_3 b_1_4 b_2_5 s15)
def Cn (rides:List A1) (bu:Int) (b_0_27:List Ao) (b_1_28:List Bi) (b_2_29:List Ar):Option (Out ((List Ao)×(List Bi)×(List Ar)) (Bool)):=
  nz ((rides.length:Nat):Int) ((bif (decide ((Int.tmod bu ((rides.length:Nat):Int))<0))then (Ch rides (IntKind.i64.wrap ((Int.tmod bu ((rides.length:Nat):Int))+((rides.length:Nat):Int)))).bind fun lr=>(Dh (Be.mk b_0_27 b_1_28 b_2_29) lr).bind fun cf=>(bif (decide (cf.2.2=0))then (bif (decide (cf.2.2=0))then (bif (decide (cf.2.1<1))then some (Out.ret false)else (bif (decide (cf.2.2≠0))then (bif (decide (cf.2.2≠8))then some (Out.ret false)else some (Out.next (cf.1.Periods,cf.1.Postings,cf.1.Rides)))else some (Out.next (cf.1.Periods,cf.1.Postings,cf.1.Rides))))else (bif (decide (cf.2.2≠0))then (bif (decide (cf.2.2≠8))then some (Out.ret false)else some (Out.next (cf.1.Periods,cf.1.Postings,cf.1.Rides)))else some (Out.next (cf.1.Periods,cf.1.Postings,cf.1.Rides))))else (bif (decide (cf.2.2=0))then (bif (decide (cf.2.1<1))then some (Out.ret false)else (bif (decide (cf.2.2≠0))then (bif (decide (cf.2.2≠8))then some (Out.ret false)else some (Out.next (b_0_27,b_1_28,b_2_29)))else some (Out.next (b_0_27,b_1_28,b_2_29))))else (bif (decide (cf.2.2≠0))then (bif (decide (cf.2.2≠8))then some (Out.ret false)else some (Out.next (b_0_27,b_1_28,b_2_29)))else some (Out.next (b_0_27,b_1_28,b_2_29)))))else (Ch rides (Int.tmod bu ((rides.length:Nat):Int))).bind fun lq=>(Dh (Be.mk b_0_27 b_1_28 b_2_29) lq).bind fun cd=>(bif (decide (cd.2.2=0))then (bif (decide (cd.2.2=0))then (bif (decide (cd.2.1<1))then some (Out.ret false)else (bif (decide (cd.2.2≠0))then (bif (decide (cd.2.2≠8))then some (Out.ret false)else some (Out.next (cd.1.Periods,cd.1.Postings,cd.1.Rides)))else some (Out.next (cd.1.Periods,cd.1.Postings,cd.1.Rides))))else (bif (decide (cd.2.2≠0))then (bif (decide (cd.2.2≠8))then some (Out.ret false)else some (Out.next (cd.1.Periods,cd.1.Postings,cd.1.Rides)))else some (Out.next (cd.1.Periods,cd.1.Postings,cd.1.Rides))))else (bif (decide (cd.2.2=0))then (bif (decide (cd.2.1<1))then some (Out.ret false)else (bif (decide (cd.2.2≠0))then (bif (decide (cd.2.2≠8))then some (Out.ret false)else some (Out.next (b_0_27,b_1_28,b_2_29)))else some (Out.next (b_0_27,b_1_28,b_2_29))))else (bif (decide (cd.2.2≠0))then (bif (decide (cd.2.2≠8))then some (Out.ret false)else some (Out.next (b_0_27,b_1_28,b_2_29)))else some (Out.next (b_0_27,b_1_28,b_2_29)))))))
def Co (rides:List A1) (bu:Int) (b_0_23:List Ao) (b_1_24:List Bi) (b_2_25:List Ar):Option (Out ((List Ao)×(List Bi)×(List Ar)) (Bool)):=
  (bif (decide ((Int.tmod bu 7)=0))then (Dg (Be.mk b_0_23 b_1_24 b_2_25)).bind fun um=>(bif (decide (0<um))then (Dg (Be.mk b_0_23 b_1_24 b_2_25)).bind fun qh=>(Di (Be.mk b_0_23 b_1_24 b_2_25) qh [] []).bind fun ky=>(bif (decide (ky.2≠0))then some (Out.ret false)else Cn rides bu ky.1.Periods ky.1.Postings ky.1.Rides)else Cn rides bu b_0_23 b_1_24 b_2_25)else Cn rides bu b_0_23 b_1_24 b_2_25)
def Cp (rides:List A1) (dz:Nat) (bu:Int) (sv:(List Ao)×(List Bi)×(List Ar)):Option (Out ((List Ao)×(List Bi)×(List Ar)) (Bool)):=
  (bif (decide ((Int.tmod bu 5)=0))then (bif (decide (((sv.1.length:Nat):Int)<20))then (D4 (Be.mk sv.1 sv.2.1 sv.2.2) (IntKind.i64.wrap (100*(IntKind.i64.wrap (((sv.1.length:Nat):Int)+1))))).bind fun ln=>Co rides bu ln.1.Periods ln.1.Postings ln.1.Rides else Co rides bu sv.1 sv.2.1 sv.2.2)else Co rides bu sv.1 sv.2.1 sv.2.2)
def Fi (rides:List A1) (entries:List Int):Option (Bool):=
  (D9).bind fun y1=>(bif (!y1)then some false else(bif (decide (40<((rides.length:Nat):Int)))then some true else(bif (decide (((rides.length:Nat):Int)=0))then some true else(bif (decide (80<((entries.length:Nat):Int)))then some true else(En rides).bind fun y2=>(bif (decide (y2≠0))then some true else(Bo (Cp rides) 0 entries ([],[],[])).bind fun o20=>o20.on fun s20=>De rides s20.1 s20.2.1 s20.2.2)))))
theorem Kn (rides:List A1) (entries:List Int) {r:Bool} (h:Fi rides entries=some r):Aq Tryz.prog 3 [.sl 7 (rides.map Bn),.sl 1 (entries.map B5)] (·= .bool r):=by
  refine Aq.nle (Aq.intro Tryz.func3 rfl rfl (by show _≤179;simp) ?_)
  unfold Fi at h
  (try simp +decide -implicitDefEqProofs only[go_sem])
  refine AWP.seq ?_
  refine AWP.region rfl ?_;intro K g
  (try simp +decide -implicitDefEqProofs only[go_sem])
  refine g _ _ ?_
  refine Aa ?_
  refine AWP.seq ?_
  refine AWP.seq ?_
  refine AWP.region rfl ?_;intro K g
  (try simp +decide -implicitDefEqProofs only[go_sem])
  obtain⟨y1,ch,h⟩:=A2 h
  refine Bg.pure Tryz.call4 (Jk ch) rfl fun _ hr=>?_
  subst hr
  (try simp +decide -implicitDefEqProofs only[go_sem])
  refine g _ _ ?_
  refine Aa ?_
  refine AWP.cond (Ai (fun hc=>?_) (fun hc=>?_))
  ·replace h:=Au h hc
   refine AWP.seq ?_
   refine AWP.region rfl ?_;intro K g
   (try simp +decide -implicitDefEqProofs only[go_sem])
   refine g _ _ ?_
   refine Aa ?_
   refine AWP.ret ?_
   refine Ad ?_
   obtain rfl:=Ag h
   simp +decide -implicitDefEqProofs only[go_sem,Ae,Ac.int.injEq,Int.natCast_zero,List.replicate_zero,List.length_take,List.length_drop,Ac.own.injEq,reduceCtorEq,Int.reduceAdd,Bc,Bd,A8,Bb,A9,Tryz.results3]
  replace h:=Av h hc
  refine AWP.skip ?_
  refine Aa ?_
  refine AWP.seq ?_
  refine AWP.seq ?_
  refine AWP.region rfl ?_;intro K g
  (try simp +decide -implicitDefEqProofs only[go_sem])
  intro hm
  refine Ak (fun hc=>?_) (fun hc=>?_)
  ·replace h:=Av h hc
   (try simp +decide -implicitDefEqProofs only[go_sem,hc])
   intro hm
   refine Ak (fun hc=>?_) (fun hc=>?_)
   ·replace h:=Av h hc
    (try simp +decide -implicitDefEqProofs only[go_sem,hc])
    intro hm
    refine Ak (fun hc=>?_) (fun hc=>?_)
    ·replace h:=Av h hc
     (try simp +decide -implicitDefEqProofs only[go_sem,hc])
     obtain⟨y2,dd,h⟩:=A2 h
     refine Bg.pure Tryz.call5 (Im rides dd) rfl fun _ hr=>?_
     subst hr
     (try simp +decide -implicitDefEqProofs only[go_sem])
     refine g _ _ ?_
     refine Aa ?_
     refine AWP.cond (Ai (fun hc=>?_) (fun hc=>?_))
     ·replace h:=Au h hc
      refine AWP.seq ?_
      refine AWP.region rfl ?_;intro K g
      (try simp +decide -implicitDefEqProofs only[go_sem])
      refine g _ _ ?_
      refine Aa ?_
      refine AWP.ret ?_
      refine Ad ?_
      obtain rfl:=Ag h
      simp +decide -implicitDefEqProofs only[go_sem,Ae,Ac.int.injEq,Int.natCast_zero,List.replicate_zero,List.length_take,List.length_drop,Ac.own.injEq,reduceCtorEq,Int.reduceAdd,Bc,Bd,A8,Bb,A9,Tryz.results3]
     replace h:=Av h hc
     refine AWP.skip ?_
     refine Aa ?_
     refine AWP.seq ?_
     refine AWP.region rfl ?_;intro K g
     (try simp +decide -implicitDefEqProofs only[go_sem])
     refine g _ _ ?_
     refine Aa ?_
     refine AWP.It (ι:=((List Ao)×(List Bi)×(List Ar))×(Unit)) (fun zz=>[(0,.sl 7 (rides.map Bn)),(5,.ptr 0 0)]) (fun zz=>[.box [.sl 5 (zz.1.1.map Ay),.sl 4 (zz.1.2.1.map Az),.sl 8 (zz.1.2.2.map A5)]]) (fun zz=>De rides zz.1.1 zz.1.2.1 zz.1.2.2=some r) (fun zz=>⟨rfl,rfl,rfl⟩) ?_ ?_
     ·refine AWP.seq ?_
      refine AWP.region rfl ?_;intro K g
      (try simp +decide -implicitDefEqProofs only[go_sem])
      refine g _ _ ?_
      refine Aa ?_
      refine AWP.block ?_
      obtain⟨o20,aw,di⟩:=A2 h
      clear h
      refine AWP.Cv (ι:=Nat×((List Ao)×(List Bi)×(List Ar))×(Unit)) (fun zz=>[(0,.sl 7 (rides.map Bn)),(1,.sl 1 (entries.map B5)),(5,.ptr 0 0),(6,.int .i64 ((zz.1:Nat):Int))]) (fun zz=>[.box [.sl 5 (zz.2.1.1.map Ay),.sl 4 (zz.2.1.2.1.map Az),.sl 8 (zz.2.1.2.2.map A5)]]) (fun zz=>zz.1≤entries.length∧Bo (Cp rides) zz.1 ((entries).drop zz.1) zz.2.1=some o20) (fun zz=>entries.length - zz.1) (0,([],[],[]),()) ⟨Nat.zero_le _,aw⟩ (by(simp +decide -implicitDefEqProofs only[go_sem,Ae,Ac.int.injEq,Int.natCast_zero,List.replicate_zero,List.length_take,List.length_drop,Ac.own.injEq,reduceCtorEq,Int.reduceAdd]<;>omega)) (by(simp +decide -implicitDefEqProofs only[go_sem,Ae,Ac.int.injEq,Int.natCast_zero,List.replicate_zero,List.length_take,List.length_drop,Ac.own.injEq,reduceCtorEq,Int.reduceAdd]<;>omega)) (fun x=>⟨rfl,rfl,rfl⟩) ?_
      clear aw
      rintro⟨dz,⟨b_0_18,b_1_19,b_2_20⟩,⟨⟩⟩ ⟨td,aw⟩
      dsimp only at td aw ⊢
      refine AWP.seq ?_
      refine AWP.seq ?_
      refine AWP.region rfl ?_;intro K g
      (try simp +decide -implicitDefEqProofs only[go_sem])
      intro hm
      refine g _ _ ?_
      refine Aa ?_
      refine AWP.cond (Ai (fun hc=>?_) (fun hc=>?_))
      rotate_left
      ·obtain rfl:=B8 aw (fun hl=>by have:=bJ hc;omega)
       have h:=B7 di;try dsimp only at h
       have ba:entries.length=dz:=by have:=bJ hc;omega
       subst ba
       refine AWP.exit ?_
       refine An ?_
       refine An ?_
       refine A6 ?_
       refine Aa ?_
       exact⟨((b_0_18,b_1_19,b_2_20),()),h,by(simp +decide -implicitDefEqProofs only[go_sem,Ae,Ac.int.injEq,Int.natCast_zero,List.replicate_zero,List.length_take,List.length_drop,Ac.own.injEq,reduceCtorEq,Int.reduceAdd]<;>omega),by(simp +decide -implicitDefEqProofs only[go_sem,Ae,Ac.int.injEq,Int.natCast_zero,List.replicate_zero,List.length_take,List.length_drop,Ac.own.injEq,reduceCtorEq,Int.reduceAdd]<;>omega)⟩
      have px:dz<entries.length:=by have:=bK hc;omega
      obtain⟨bu,b20,ot,h,aw⟩:=Bw aw px
      have l8:=Br ot
      have bf:IntKind.i64.wrap (((dz:Nat):Int)+1)=(((dz:Nat):Int)+1):=by rw[wrap_i64]<;>omega
      unfold Cp at h;try dsimp only at h
      refine AWP.skip ?_
      refine Aa ?_
      refine AWP.seq ?_
      refine AWP.block ?_
      refine AWP.It (ι:=((List Ao)×(List Bi)×(List Ar))×(Unit)) (fun zz=>[(0,.sl 7 (rides.map Bn)),(1,.sl 1 (entries.map B5)),(5,.ptr 0 0),(6,.int .i64 ((dz:Nat):Int))]) (fun zz=>[.box [.sl 5 (zz.1.1.map Ay),.sl 4 (zz.1.2.1.map Az),.sl 8 (zz.1.2.2.map A5)]]) (fun zz=>Co rides bu zz.1.1 zz.1.2.1 zz.1.2.2=some b20) (fun zz=>⟨rfl,rfl,rfl⟩) ?_ ?_
      ·refine AWP.seq ?_
       refine AWP.region rfl ?_;intro K g
       (try simp +decide -implicitDefEqProofs only[go_sem])
       refine Ca.of (f:=B5) (l:=entries) l8 ?_
       (try simp +decide -implicitDefEqProofs only[go_sem])
       refine Ak (fun hc=>?_) (fun hc=>?_)
       ·replace h:=Au h hc
        (try simp +decide -implicitDefEqProofs only[go_sem,hc])
        intro hm
        refine g _ _ ?_
        refine Aa ?_
        refine AWP.cond (Ai (fun hc=>?_) (fun hc=>?_))
        ·replace h:=Au h hc
         refine AWP.region rfl ?_;intro K g
         (try simp +decide -implicitDefEqProofs only[go_sem])
         intro hm
         obtain⟨ln,q4,h⟩:=A2 h
         refine Bg.pure Tryz.call6 (Hy (Be.mk b_0_18 b_1_19 b_2_20) (IntKind.i64.wrap (100*(IntKind.i64.wrap (((b_0_18.length:Nat):Int)+1)))) q4) rfl fun _ hr=>?_
         subst hr
         (try simp +decide -implicitDefEqProofs only[go_sem])
         refine g _ _ ?_
         refine Aa ?_
         exact⟨((ln.1.Periods,ln.1.Postings,ln.1.Rides),()),h,by(simp +decide -implicitDefEqProofs only[go_sem,Ae,Ac.int.injEq,Int.natCast_zero,List.replicate_zero,List.length_take,List.length_drop,Ac.own.injEq,reduceCtorEq,Int.reduceAdd]<;>omega),by(simp +decide -implicitDefEqProofs only[go_sem,Ae,Ac.int.injEq,Int.natCast_zero,List.replicate_zero,List.length_take,List.length_drop,Ac.own.injEq,reduceCtorEq,Int.reduceAdd]<;>omega)⟩
        replace h:=Av h hc
        refine AWP.skip ?_
        refine Aa ?_
        exact⟨((b_0_18,b_1_19,b_2_20),()),h,by(simp +decide -implicitDefEqProofs only[go_sem,Ae,Ac.int.injEq,Int.natCast_zero,List.replicate_zero,List.length_take,List.length_drop,Ac.own.injEq,reduceCtorEq,Int.reduceAdd]<;>omega),by(simp +decide -implicitDefEqProofs only[go_sem,Ae,Ac.int.injEq,Int.natCast_zero,List.replicate_zero,List.length_take,List.length_drop,Ac.own.injEq,reduceCtorEq,Int.reduceAdd]<;>omega)⟩
       replace h:=Av h hc
       (try simp +decide -implicitDefEqProofs only[go_sem,hc,Bool.not_true])
       refine g _ _ ?_
       refine Aa ?_
       refine AWP.cond (Bu ?_)
       refine AWP.skip ?_
       refine Aa ?_
       exact⟨((b_0_18,b_1_19,b_2_20),()),h,by(simp +decide -implicitDefEqProofs only[go_sem,Ae,Ac.int.injEq,Int.natCast_zero,List.replicate_zero,List.length_take,List.length_drop,Ac.own.injEq,reduceCtorEq,Int.reduceAdd]<;>omega),by(simp +decide -implicitDefEqProofs only[go_sem,Ae,Ac.int.injEq,Int.natCast_zero,List.replicate_zero,List.length_take,List.length_drop,Ac.own.injEq,reduceCtorEq,Int.reduceAdd]<;>omega)⟩
      rintro⟨⟨b_0_23,b_1_24,b_2_25⟩,⟨⟩⟩ h
      try dsimp only at h ⊢
      unfold Co at h;try dsimp only at h
      refine AWP.It (ι:=((List Ao)×(List Bi)×(List Ar))×(Unit)) (fun zz=>[(0,.sl 7 (rides.map Bn)),(1,.sl 1 (entries.map B5)),(5,.ptr 0 0),(6,.int .i64 ((dz:Nat):Int))]) (fun zz=>[.box [.sl 5 (zz.1.1.map Ay),.sl 4 (zz.1.2.1.map Az),.sl 8 (zz.1.2.2.map A5)]]) (fun zz=>Cn rides bu zz.1.1 zz.1.2.1 zz.1.2.2=some b20) (fun zz=>⟨rfl,rfl,rfl⟩) ?_ ?_
      ·refine AWP.seq ?_
       refine AWP.region rfl ?_;intro K g
       (try simp +decide -implicitDefEqProofs only[go_sem])
       refine Ca.of (f:=B5) (l:=entries) l8 ?_
       (try simp +decide -implicitDefEqProofs only[go_sem])
       refine Ak (fun hc=>?_) (fun hc=>?_)
       ·replace h:=Au h hc
        (try simp +decide -implicitDefEqProofs only[go_sem,hc])
        obtain⟨um,q8,h⟩:=A2 h
        refine Bg.pure Tryz.call7 (Ft (Be.mk b_0_23 b_1_24 b_2_25) q8) rfl fun _ hr=>?_
        subst hr
        (try simp +decide -implicitDefEqProofs only[go_sem])
        refine g _ _ ?_
        refine Aa ?_
        refine AWP.cond (Ai (fun hc=>?_) (fun hc=>?_))
        rotate_left
        ·replace h:=Av h hc
         refine AWP.skip ?_
         refine Aa ?_
         exact⟨((b_0_23,b_1_24,b_2_25),()),h,by(simp +decide -implicitDefEqProofs only[go_sem,Ae,Ac.int.injEq,Int.natCast_zero,List.replicate_zero,List.length_take,List.length_drop,Ac.own.injEq,reduceCtorEq,Int.reduceAdd]<;>omega),by(simp +decide -implicitDefEqProofs only[go_sem,Ae,Ac.int.injEq,Int.natCast_zero,List.replicate_zero,List.length_take,List.length_drop,Ac.own.injEq,reduceCtorEq,Int.reduceAdd]<;>omega)⟩
        replace h:=Au h hc
        refine AWP.seq ?_
        refine AWP.draw Tryz.mixed (by kernel_rfl) ?_;intro K g
        (try simp +decide -implicitDefEqProofs only[go_sem])
        obtain⟨qh,q7,h⟩:=A2 h
        refine B9.pure Tryz.call7 (Ft (Be.mk b_0_23 b_1_24 b_2_25) q7) rfl ?_
        (try simp +decide -implicitDefEqProofs only[go_sem])
        obtain⟨ky,q6,h⟩:=A2 h
        refine B9.pure Tryz.call8 (Aq.Yn (args:=[.agg [.sl 5 (b_0_23.map Ay),.sl 4 (b_1_24.map Az),.sl 8 (b_2_25.map A5)],.int .i64 qh,.nils,.nils]) (by simp +decide -implicitDefEqProofs only[go_sem,Ae,Ac.int.injEq,Int.natCast_zero,List.replicate_zero,List.length_take,List.length_drop,Ac.own.injEq,reduceCtorEq,Int.reduceAdd,Bc,Bd,A8,Bb,A9]) (Hx (Be.mk b_0_23 b_1_24 b_2_25) qh [] [] q6)) rfl ?_
        (try simp +decide -implicitDefEqProofs only[go_sem])
        refine g _ _ _ (by kernel_rfl) ?_
        refine Aa ?_
        refine AWP.seq ?_
        refine AWP.seq ?_
        refine AWP.region rfl ?_;intro K g
        (try simp +decide -implicitDefEqProofs only[go_sem])
        refine g _ _ ?_
        refine Aa ?_
        refine AWP.cond (Ai (fun hc=>?_) (fun hc=>?_))
        ·replace h:=Au h hc
         refine AWP.seq ?_
         refine AWP.region rfl ?_;intro K g
         (try simp +decide -implicitDefEqProofs only[go_sem])
         refine g _ _ ?_
         refine Aa ?_
         refine AWP.ret ?_
         refine Ad ?_
         refine Ad ?_
         refine Aj ?_
         refine Ad ?_
         refine Ad ?_
         obtain rfl:=Ag h
         obtain rfl:=Ba aw
         replace h:=Bp di
         refine Aj ?_
         refine Ad ?_
         obtain rfl:=Ag h
         simp +decide -implicitDefEqProofs only[go_sem,Ae,Ac.int.injEq,Int.natCast_zero,List.replicate_zero,List.length_take,List.length_drop,Ac.own.injEq,reduceCtorEq,Int.reduceAdd,Bc,Bd,A8,Bb,A9,Tryz.results3]
        replace h:=Av h hc
        refine AWP.skip ?_
        refine Aa ?_
        refine AWP.region rfl ?_;intro K g
        (try simp +decide -implicitDefEqProofs only[go_sem])
        refine g _ _ ?_
        refine Aa ?_
        exact⟨((ky.1.Periods,ky.1.Postings,ky.1.Rides),()),h,by(simp +decide -implicitDefEqProofs only[go_sem,Ae,Ac.int.injEq,Int.natCast_zero,List.replicate_zero,List.length_take,List.length_drop,Ac.own.injEq,reduceCtorEq,Int.reduceAdd]<;>omega),by(simp +decide -implicitDefEqProofs only[go_sem,Ae,Ac.int.injEq,Int.natCast_zero,List.replicate_zero,List.length_take,List.length_drop,Ac.own.injEq,reduceCtorEq,Int.reduceAdd]<;>omega)⟩
       replace h:=Av h hc
       (try simp +decide -implicitDefEqProofs only[go_sem,hc,Bool.not_true])
       refine g _ _ ?_
       refine Aa ?_
       refine AWP.cond (Bu ?_)
       refine AWP.skip ?_
       refine Aa ?_
       exact⟨((b_0_23,b_1_24,b_2_25),()),h,by(simp +decide -implicitDefEqProofs only[go_sem,Ae,Ac.int.injEq,Int.natCast_zero,List.replicate_zero,List.length_take,List.length_drop,Ac.own.injEq,reduceCtorEq,Int.reduceAdd]<;>omega),by(simp +decide -implicitDefEqProofs only[go_sem,Ae,Ac.int.injEq,Int.natCast_zero,List.replicate_zero,List.length_take,List.length_drop,Ac.own.injEq,reduceCtorEq,Int.reduceAdd]<;>omega)⟩
      rintro⟨⟨b_0_27,b_1_28,b_2_29⟩,⟨⟩⟩ h
      try dsimp only at h ⊢
      unfold Cn at h;try dsimp only at h
      refine AWP.seq ?_
      refine AWP.region rfl ?_;intro K g
      (try simp +decide -implicitDefEqProofs only[go_sem])
      refine Ca.of (f:=B5) (l:=entries) l8 ?_
      (try simp +decide -implicitDefEqProofs only[go_sem])
      intro hm
      obtain⟨hk,h⟩:=V4 h
      refine⟨hk,?_⟩
      refine g _ _ ?_
      refine Aa ?_
      refine AWP.seq ?_
      refine AWP.seq ?_
      refine AWP.region rfl ?_;intro K g
      (try simp +decide -implicitDefEqProofs only[go_sem])
      refine g _ _ ?_
      refine Aa ?_
      refine AWP.cond (Ai (fun hc=>?_) (fun hc=>?_))
      ·replace h:=Au h hc
       refine AWP.region rfl ?_;intro K g
       (try simp +decide -implicitDefEqProofs only[go_sem])
       intro hm
       refine g _ _ ?_
       refine Aa ?_
       refine AWP.seq ?_
       refine AWP.draw Tryz.mixed (by kernel_rfl) ?_;intro K g
       (try simp +decide -implicitDefEqProofs only[go_sem])
       obtain⟨lr,oo,h⟩:=A2 h
       refine Ca.of (f:=Bn) (l:=rides) oo ?_
       (try simp +decide -implicitDefEqProofs only[go_sem])
       obtain⟨cf,ra,h⟩:=A2 h
       refine B9.pure Tryz.call9 (Hw (Be.mk b_0_27 b_1_28 b_2_29) lr ra) rfl ?_
       (try simp +decide -implicitDefEqProofs only[go_sem])
       refine g _ _ _ (by kernel_rfl) ?_
       refine Aa ?_
       refine AWP.seq ?_
       refine AWP.seq ?_
       refine AWP.region rfl ?_;intro K g
       (try simp +decide -implicitDefEqProofs only[go_sem])
       refine g _ _ ?_
       refine Aa ?_
       refine AWP.cond (Ai (fun hc=>?_) (fun hc=>?_))
       ·replace h:=Au h hc
        refine AWP.region rfl ?_;intro K g
        (try simp +decide -implicitDefEqProofs only[go_sem])
        refine g _ _ ?_
        refine Aa ?_
        refine AWP.seq ?_
        refine AWP.region rfl ?_;intro K g
        (try simp +decide -implicitDefEqProofs only[go_sem])
        refine Ak (fun hc=>?_) (fun hc=>?_)
        ·replace h:=Au h hc
         (try simp +decide -implicitDefEqProofs only[go_sem,hc])
         refine Ak (fun hc=>?_) (fun hc=>?_)
         ·replace h:=Av h hc
          (try simp +decide -implicitDefEqProofs only[go_sem,hc])
          refine Ak (fun hc=>?_) (fun hc=>?_)
          ·replace h:=Au h hc
           (try simp +decide -implicitDefEqProofs only[go_sem,hc])
           refine g _ _ ?_
           refine Aa ?_
           refine AWP.cond (Ai (fun hc=>?_) (fun hc=>?_))
           ·replace h:=Au h hc
            refine AWP.seq ?_
            refine AWP.region rfl ?_;intro K g
            (try simp +decide -implicitDefEqProofs only[go_sem])
            refine g _ _ ?_
            refine Aa ?_
            refine AWP.ret ?_
            refine Aj ?_
            refine Ad ?_
            refine Ad ?_
            obtain rfl:=Ag h
            obtain rfl:=Ba aw
            replace h:=Bp di
            refine Aj ?_
            refine Ad ?_
            obtain rfl:=Ag h
            simp +decide -implicitDefEqProofs only[go_sem,Ae,Ac.int.injEq,Int.natCast_zero,List.replicate_zero,List.length_take,List.length_drop,Ac.own.injEq,reduceCtorEq,Int.reduceAdd,Bc,Bd,A8,Bb,A9,Tryz.results3]
           replace h:=Av h hc
           refine AWP.skip ?_
           refine Al ?_
           refine Aa ?_
           refine AWP.region rfl ?_;intro K g
           (try simp +decide -implicitDefEqProofs only[go_sem])
           refine g _ _ ?_
           refine Aa ?_
           obtain rfl:=Ag h
           refine⟨(dz+1,(cf.1.Periods,cf.1.Postings,cf.1.Rides),()),⟨by dsimp only;omega,Bf aw⟩,by dsimp only;omega,?_,?_⟩
           ·(simp +decide -implicitDefEqProofs only[go_sem,Ae,Ac.int.injEq,Int.natCast_zero,List.replicate_zero,List.length_take,List.length_drop,Ac.own.injEq,reduceCtorEq,Int.reduceAdd,bf]<;>omega)
           (simp +decide -implicitDefEqProofs only[go_sem,Ae,Ac.int.injEq,Int.natCast_zero,List.replicate_zero,List.length_take,List.length_drop,Ac.own.injEq,reduceCtorEq,Int.reduceAdd,bf]<;>omega)
          replace h:=Av h hc
          (try simp +decide -implicitDefEqProofs only[go_sem,hc,Bool.not_true])
          refine g _ _ ?_
          refine Aa ?_
          refine AWP.cond (Bu ?_)
          refine AWP.skip ?_
          refine Al ?_
          refine Aa ?_
          refine AWP.region rfl ?_;intro K g
          (try simp +decide -implicitDefEqProofs only[go_sem])
          refine g _ _ ?_
          refine Aa ?_
          obtain rfl:=Ag h
          refine⟨(dz+1,(cf.1.Periods,cf.1.Postings,cf.1.Rides),()),⟨by dsimp only;omega,Bf aw⟩,by dsimp only;omega,?_,?_⟩
          ·(simp +decide -implicitDefEqProofs only[go_sem,Ae,Ac.int.injEq,Int.natCast_zero,List.replicate_zero,List.length_take,List.length_drop,Ac.own.injEq,reduceCtorEq,Int.reduceAdd,bf]<;>omega)
          (simp +decide -implicitDefEqProofs only[go_sem,Ae,Ac.int.injEq,Int.natCast_zero,List.replicate_zero,List.length_take,List.length_drop,Ac.own.injEq,reduceCtorEq,Int.reduceAdd,bf]<;>omega)
         replace h:=Au h hc
         (try simp +decide -implicitDefEqProofs only[go_sem,hc,Bool.not_false])
         refine g _ _ ?_
         refine Aa ?_
         refine AWP.cond (A7 ?_)
         refine AWP.seq ?_
         refine AWP.region rfl ?_;intro K g
         (try simp +decide -implicitDefEqProofs only[go_sem])
         refine g _ _ ?_
         refine Aa ?_
         refine AWP.ret ?_
         refine Aj ?_
         refine Ad ?_
         refine Ad ?_
         obtain rfl:=Ag h
         obtain rfl:=Ba aw
         replace h:=Bp di
         refine Aj ?_
         refine Ad ?_
         obtain rfl:=Ag h
         simp +decide -implicitDefEqProofs only[go_sem,Ae,Ac.int.injEq,Int.natCast_zero,List.replicate_zero,List.length_take,List.length_drop,Ac.own.injEq,reduceCtorEq,Int.reduceAdd,Bc,Bd,A8,Bb,A9,Tryz.results3]
        replace h:=Av h hc
        (try simp +decide -implicitDefEqProofs only[go_sem,hc,Bool.not_true])
        refine Ak (fun hc=>?_) (fun hc=>?_)
        ·replace h:=Au h hc
         (try simp +decide -implicitDefEqProofs only[go_sem,hc])
         refine g _ _ ?_
         refine Aa ?_
         refine AWP.cond (Ai (fun hc=>?_) (fun hc=>?_))
         ·replace h:=Au h hc
          refine AWP.seq ?_
          refine AWP.region rfl ?_;intro K g
          (try simp +decide -implicitDefEqProofs only[go_sem])
          refine g _ _ ?_
          refine Aa ?_
          refine AWP.ret ?_
          refine Aj ?_
          refine Ad ?_
          refine Ad ?_
          obtain rfl:=Ag h
          obtain rfl:=Ba aw
          replace h:=Bp di
          refine Aj ?_
          refine Ad ?_
          obtain rfl:=Ag h
          simp +decide -implicitDefEqProofs only[go_sem,Ae,Ac.int.injEq,Int.natCast_zero,List.replicate_zero,List.length_take,List.length_drop,Ac.own.injEq,reduceCtorEq,Int.reduceAdd,Bc,Bd,A8,Bb,A9,Tryz.results3]
         replace h:=Av h hc
         refine AWP.skip ?_
         refine Al ?_
         refine Aa ?_
         refine AWP.region rfl ?_;intro K g
         (try simp +decide -implicitDefEqProofs only[go_sem])
         refine g _ _ ?_
         refine Aa ?_
         obtain rfl:=Ag h
         refine⟨(dz+1,(cf.1.Periods,cf.1.Postings,cf.1.Rides),()),⟨by dsimp only;omega,Bf aw⟩,by dsimp only;omega,?_,?_⟩
         ·(simp +decide -implicitDefEqProofs only[go_sem,Ae,Ac.int.injEq,Int.natCast_zero,List.replicate_zero,List.length_take,List.length_drop,Ac.own.injEq,reduceCtorEq,Int.reduceAdd,bf]<;>omega)
         (simp +decide -implicitDefEqProofs only[go_sem,Ae,Ac.int.injEq,Int.natCast_zero,List.replicate_zero,List.length_take,List.length_drop,Ac.own.injEq,reduceCtorEq,Int.reduceAdd,bf]<;>omega)
        replace h:=Av h hc
        (try simp +decide -implicitDefEqProofs only[go_sem,hc,Bool.not_true])
        refine g _ _ ?_
        refine Aa ?_
        refine AWP.cond (Bu ?_)
        refine AWP.skip ?_
        refine Al ?_
        refine Aa ?_
        refine AWP.region rfl ?_;intro K g
        (try simp +decide -implicitDefEqProofs only[go_sem])
        refine g _ _ ?_
        refine Aa ?_
        obtain rfl:=Ag h
        refine⟨(dz+1,(cf.1.Periods,cf.1.Postings,cf.1.Rides),()),⟨by dsimp only;omega,Bf aw⟩,by dsimp only;omega,?_,?_⟩
        ·(simp +decide -implicitDefEqProofs only[go_sem,Ae,Ac.int.injEq,Int.natCast_zero,List.replicate_zero,List.length_take,List.length_drop,Ac.own.injEq,reduceCtorEq,Int.reduceAdd,bf]<;>omega)
        (simp +decide -implicitDefEqProofs only[go_sem,Ae,Ac.int.injEq,Int.natCast_zero,List.replicate_zero,List.length_take,List.length_drop,Ac.own.injEq,reduceCtorEq,Int.reduceAdd,bf]<;>omega)
       replace h:=Av h hc
       refine AWP.skip ?_
       refine Aa ?_
       refine AWP.seq ?_
       refine AWP.region rfl ?_;intro K g
       (try simp +decide -implicitDefEqProofs only[go_sem])
       refine Ak (fun hc=>?_) (fun hc=>?_)
       ·replace h:=Au h hc
        (try simp +decide -implicitDefEqProofs only[go_sem,hc])
        refine Ak (fun hc=>?_) (fun hc=>?_)
        ·replace h:=Av h hc
         (try simp +decide -implicitDefEqProofs only[go_sem,hc])
         refine Ak (fun hc=>?_) (fun hc=>?_)
         ·replace h:=Au h hc
          (try simp +decide -implicitDefEqProofs only[go_sem,hc])
          refine g _ _ ?_
          refine Aa ?_
          refine AWP.cond (Ai (fun hc=>?_) (fun hc=>?_))
          ·replace h:=Au h hc
           refine AWP.seq ?_
           refine AWP.region rfl ?_;intro K g
           (try simp +decide -implicitDefEqProofs only[go_sem])
           refine g _ _ ?_
           refine Aa ?_
           refine AWP.ret ?_
           refine Aj ?_
           refine Ad ?_
           refine Ad ?_
           obtain rfl:=Ag h
           obtain rfl:=Ba aw
           replace h:=Bp di
           refine Aj ?_
           refine Ad ?_
           obtain rfl:=Ag h
           simp +decide -implicitDefEqProofs only[go_sem,Ae,Ac.int.injEq,Int.natCast_zero,List.replicate_zero,List.length_take,List.length_drop,Ac.own.injEq,reduceCtorEq,Int.reduceAdd,Bc,Bd,A8,Bb,A9,Tryz.results3]
          replace h:=Av h hc
          refine AWP.skip ?_
          refine Al ?_
          refine Aa ?_
          refine AWP.region rfl ?_;intro K g
          (try simp +decide -implicitDefEqProofs only[go_sem])
          refine g _ _ ?_
          refine Aa ?_
          obtain rfl:=Ag h
          refine⟨(dz+1,(b_0_27,b_1_28,b_2_29),()),⟨by dsimp only;omega,Bf aw⟩,by dsimp only;omega,?_,?_⟩
          ·(simp +decide -implicitDefEqProofs only[go_sem,Ae,Ac.int.injEq,Int.natCast_zero,List.replicate_zero,List.length_take,List.length_drop,Ac.own.injEq,reduceCtorEq,Int.reduceAdd,bf]<;>omega)
          (simp +decide -implicitDefEqProofs only[go_sem,Ae,Ac.int.injEq,Int.natCast_zero,List.replicate_zero,List.length_take,List.length_drop,Ac.own.injEq,reduceCtorEq,Int.reduceAdd,bf]<;>omega)
         replace h:=Av h hc
         (try simp +decide -implicitDefEqProofs only[go_sem,hc,Bool.not_true])
         refine g _ _ ?_
         refine Aa ?_
         refine AWP.cond (Bu ?_)
         refine AWP.skip ?_
         refine Al ?_
         refine Aa ?_
         refine AWP.region rfl ?_;intro K g
         (try simp +decide -implicitDefEqProofs only[go_sem])
         refine g _ _ ?_
         refine Aa ?_
         obtain rfl:=Ag h
         refine⟨(dz+1,(b_0_27,b_1_28,b_2_29),()),⟨by dsimp only;omega,Bf aw⟩,by dsimp only;omega,?_,?_⟩
         ·(simp +decide -implicitDefEqProofs only[go_sem,Ae,Ac.int.injEq,Int.natCast_zero,List.replicate_zero,List.length_take,List.length_drop,Ac.own.injEq,reduceCtorEq,Int.reduceAdd,bf]<;>omega)
         (simp +decide -implicitDefEqProofs only[go_sem,Ae,Ac.int.injEq,Int.natCast_zero,List.replicate_zero,List.length_take,List.length_drop,Ac.own.injEq,reduceCtorEq,Int.reduceAdd,bf]<;>omega)
        replace h:=Au h hc
        (try simp +decide -implicitDefEqProofs only[go_sem,hc,Bool.not_false])
        refine g _ _ ?_
        refine Aa ?_
        refine AWP.cond (A7 ?_)
        refine AWP.seq ?_
        refine AWP.region rfl ?_;intro K g
        (try simp +decide -implicitDefEqProofs only[go_sem])
        refine g _ _ ?_
        refine Aa ?_
        refine AWP.ret ?_
        refine Aj ?_
        refine Ad ?_
        refine Ad ?_
        obtain rfl:=Ag h
        obtain rfl:=Ba aw
        replace h:=Bp di
        refine Aj ?_
        refine Ad ?_
        obtain rfl:=Ag h
        simp +decide -implicitDefEqProofs only[go_sem,Ae,Ac.int.injEq,Int.natCast_zero,List.replicate_zero,List.length_take,List.length_drop,Ac.own.injEq,reduceCtorEq,Int.reduceAdd,Bc,Bd,A8,Bb,A9,Tryz.results3]
       replace h:=Av h hc
       (try simp +decide -implicitDefEqProofs only[go_sem,hc,Bool.not_true])
       refine Ak (fun hc=>?_) (fun hc=>?_)
       ·replace h:=Au h hc
        (try simp +decide -implicitDefEqProofs only[go_sem,hc])
        refine g _ _ ?_
        refine Aa ?_
        refine AWP.cond (Ai (fun hc=>?_) (fun hc=>?_))
        ·replace h:=Au h hc
         refine AWP.seq ?_
         refine AWP.region rfl ?_;intro K g
         (try simp +decide -implicitDefEqProofs only[go_sem])
         refine g _ _ ?_
         refine Aa ?_
         refine AWP.ret ?_
         refine Aj ?_
         refine Ad ?_
         refine Ad ?_
         obtain rfl:=Ag h
         obtain rfl:=Ba aw
         replace h:=Bp di
         refine Aj ?_
         refine Ad ?_
         obtain rfl:=Ag h
         simp +decide -implicitDefEqProofs only[go_sem,Ae,Ac.int.injEq,Int.natCast_zero,List.replicate_zero,List.length_take,List.length_drop,Ac.own.injEq,reduceCtorEq,Int.reduceAdd,Bc,Bd,A8,Bb,A9,Tryz.results3]
        replace h:=Av h hc
        refine AWP.skip ?_
        refine Al ?_
        refine Aa ?_
        refine AWP.region rfl ?_;intro K g
        (try simp +decide -implicitDefEqProofs only[go_sem])
        refine g _ _ ?_
        refine Aa ?_
        obtain rfl:=Ag h
        refine⟨(dz+1,(b_0_27,b_1_28,b_2_29),()),⟨by dsimp only;omega,Bf aw⟩,by dsimp only;omega,?_,?_⟩
        ·(simp +decide -implicitDefEqProofs only[go_sem,Ae,Ac.int.injEq,Int.natCast_zero,List.replicate_zero,List.length_take,List.length_drop,Ac.own.injEq,reduceCtorEq,Int.reduceAdd,bf]<;>omega)
        (simp +decide -implicitDefEqProofs only[go_sem,Ae,Ac.int.injEq,Int.natCast_zero,List.replicate_zero,List.length_take,List.length_drop,Ac.own.injEq,reduceCtorEq,Int.reduceAdd,bf]<;>omega)
       replace h:=Av h hc
       (try simp +decide -implicitDefEqProofs only[go_sem,hc,Bool.not_true])
       refine g _ _ ?_
       refine Aa ?_
       refine AWP.cond (Bu ?_)
       refine AWP.skip ?_
       refine Al ?_
       refine Aa ?_
       refine AWP.region rfl ?_;intro K g
       (try simp +decide -implicitDefEqProofs only[go_sem])
       refine g _ _ ?_
       refine Aa ?_
       obtain rfl:=Ag h
       refine⟨(dz+1,(b_0_27,b_1_28,b_2_29),()),⟨by dsimp only;omega,Bf aw⟩,by dsimp only;omega,?_,?_⟩
       ·(simp +decide -implicitDefEqProofs only[go_sem,Ae,Ac.int.injEq,Int.natCast_zero,List.replicate_zero,List.length_take,List.length_drop,Ac.own.injEq,reduceCtorEq,Int.reduceAdd,bf]<;>omega)
       (simp +decide -implicitDefEqProofs only[go_sem,Ae,Ac.int.injEq,Int.natCast_zero,List.replicate_zero,List.length_take,List.length_drop,Ac.own.injEq,reduceCtorEq,Int.reduceAdd,bf]<;>omega)
      replace h:=Av h hc
      refine AWP.skip ?_
      refine Aa ?_
      refine AWP.seq ?_
      refine AWP.draw Tryz.mixed (by kernel_rfl) ?_;intro K g
      (try simp +decide -implicitDefEqProofs only[go_sem])
      obtain⟨lq,om,h⟩:=A2 h
      refine Ca.of (f:=Bn) (l:=rides) om ?_
      (try simp +decide -implicitDefEqProofs only[go_sem])
      obtain⟨cd,q9,h⟩:=A2 h
      refine B9.pure Tryz.call9 (Hw (Be.mk b_0_27 b_1_28 b_2_29) lq q9) rfl ?_
      (try simp +decide -implicitDefEqProofs only[go_sem])
      refine g _ _ _ (by kernel_rfl) ?_
      refine Aa ?_
      refine AWP.seq ?_
      refine AWP.seq ?_
      refine AWP.region rfl ?_;intro K g
      (try simp +decide -implicitDefEqProofs only[go_sem])
      refine g _ _ ?_
      refine Aa ?_
      refine AWP.cond (Ai (fun hc=>?_) (fun hc=>?_))
      ·replace h:=Au h hc
       refine AWP.region rfl ?_;intro K g
       (try simp +decide -implicitDefEqProofs only[go_sem])
       refine g _ _ ?_
       refine Aa ?_
       refine AWP.seq ?_
       refine AWP.region rfl ?_;intro K g
       (try simp +decide -implicitDefEqProofs only[go_sem])
       refine Ak (fun hc=>?_) (fun hc=>?_)
       ·replace h:=Au h hc
        (try simp +decide -implicitDefEqProofs only[go_sem,hc])
        refine Ak (fun hc=>?_) (fun hc=>?_)
        ·replace h:=Av h hc
         (try simp +decide -implicitDefEqProofs only[go_sem,hc])
         refine Ak (fun hc=>?_) (fun hc=>?_)
         ·replace h:=Au h hc
          (try simp +decide -implicitDefEqProofs only[go_sem,hc])
          refine g _ _ ?_
          refine Aa ?_
          refine AWP.cond (Ai (fun hc=>?_) (fun hc=>?_))
          ·replace h:=Au h hc
           refine AWP.seq ?_
           refine AWP.region rfl ?_;intro K g
           (try simp +decide -implicitDefEqProofs only[go_sem])
           refine g _ _ ?_
           refine Aa ?_
           refine AWP.ret ?_
           refine Aj ?_
           refine Ad ?_
           refine Ad ?_
           obtain rfl:=Ag h
           obtain rfl:=Ba aw
           replace h:=Bp di
           refine Aj ?_
           refine Ad ?_
           obtain rfl:=Ag h
           simp +decide -implicitDefEqProofs only[go_sem,Ae,Ac.int.injEq,Int.natCast_zero,List.replicate_zero,List.length_take,List.length_drop,Ac.own.injEq,reduceCtorEq,Int.reduceAdd,Bc,Bd,A8,Bb,A9,Tryz.results3]
          replace h:=Av h hc
          refine AWP.skip ?_
          refine Al ?_
          refine Aa ?_
          refine AWP.region rfl ?_;intro K g
          (try simp +decide -implicitDefEqProofs only[go_sem])
          refine g _ _ ?_
          refine Aa ?_
          obtain rfl:=Ag h
          refine⟨(dz+1,(cd.1.Periods,cd.1.Postings,cd.1.Rides),()),⟨by dsimp only;omega,Bf aw⟩,by dsimp only;omega,?_,?_⟩
          ·(simp +decide -implicitDefEqProofs only[go_sem,Ae,Ac.int.injEq,Int.natCast_zero,List.replicate_zero,List.length_take,List.length_drop,Ac.own.injEq,reduceCtorEq,Int.reduceAdd,bf]<;>omega)
          (simp +decide -implicitDefEqProofs only[go_sem,Ae,Ac.int.injEq,Int.natCast_zero,List.replicate_zero,List.length_take,List.length_drop,Ac.own.injEq,reduceCtorEq,Int.reduceAdd,bf]<;>omega)
         replace h:=Av h hc
         (try simp +decide -implicitDefEqProofs only[go_sem,hc,Bool.not_true])
         refine g _ _ ?_
         refine Aa ?_
         refine AWP.cond (Bu ?_)
         refine AWP.skip ?_
         refine Al ?_
         refine Aa ?_
         refine AWP.region rfl ?_;intro K g
         (try simp +decide -implicitDefEqProofs only[go_sem])
         refine g _ _ ?_
         refine Aa ?_
         obtain rfl:=Ag h
         refine⟨(dz+1,(cd.1.Periods,cd.1.Postings,cd.1.Rides),()),⟨by dsimp only;omega,Bf aw⟩,by dsimp only;omega,?_,?_⟩
         ·(simp +decide -implicitDefEqProofs only[go_sem,Ae,Ac.int.injEq,Int.natCast_zero,List.replicate_zero,List.length_take,List.length_drop,Ac.own.injEq,reduceCtorEq,Int.reduceAdd,bf]<;>omega)
         (simp +decide -implicitDefEqProofs only[go_sem,Ae,Ac.int.injEq,Int.natCast_zero,List.replicate_zero,List.length_take,List.length_drop,Ac.own.injEq,reduceCtorEq,Int.reduceAdd,bf]<;>omega)
        replace h:=Au h hc
        (try simp +decide -implicitDefEqProofs only[go_sem,hc,Bool.not_false])
        refine g _ _ ?_
        refine Aa ?_
        refine AWP.cond (A7 ?_)
        refine AWP.seq ?_
        refine AWP.region rfl ?_;intro K g
        (try simp +decide -implicitDefEqProofs only[go_sem])
        refine g _ _ ?_
        refine Aa ?_
        refine AWP.ret ?_
        refine Aj ?_
        refine Ad ?_
        refine Ad ?_
        obtain rfl:=Ag h
        obtain rfl:=Ba aw
        replace h:=Bp di
        refine Aj ?_
        refine Ad ?_
        obtain rfl:=Ag h
        simp +decide -implicitDefEqProofs only[go_sem,Ae,Ac.int.injEq,Int.natCast_zero,List.replicate_zero,List.length_take,List.length_drop,Ac.own.injEq,reduceCtorEq,Int.reduceAdd,Bc,Bd,A8,Bb,A9,Tryz.results3]
       replace h:=Av h hc
       (try simp +decide -implicitDefEqProofs only[go_sem,hc,Bool.not_true])
       refine Ak (fun hc=>?_) (fun hc=>?_)
       ·replace h:=Au h hc
        (try simp +decide -implicitDefEqProofs only[go_sem,hc])
        refine g _ _ ?_
        refine Aa ?_
        refine AWP.cond (Ai (fun hc=>?_) (fun hc=>?_))
        ·replace h:=Au h hc
         refine AWP.seq ?_
         refine AWP.region rfl ?_;intro K g
         (try simp +decide -implicitDefEqProofs only[go_sem])
         refine g _ _ ?_
         refine Aa ?_
         refine AWP.ret ?_
         refine Aj ?_
         refine Ad ?_
         refine Ad ?_
         obtain rfl:=Ag h
         obtain rfl:=Ba aw
         replace h:=Bp di
         refine Aj ?_
         refine Ad ?_
         obtain rfl:=Ag h
         simp +decide -implicitDefEqProofs only[go_sem,Ae,Ac.int.injEq,Int.natCast_zero,List.replicate_zero,List.length_take,List.length_drop,Ac.own.injEq,reduceCtorEq,Int.reduceAdd,Bc,Bd,A8,Bb,A9,Tryz.results3]
        replace h:=Av h hc
        refine AWP.skip ?_
        refine Al ?_
        refine Aa ?_
        refine AWP.region rfl ?_;intro K g
        (try simp +decide -implicitDefEqProofs only[go_sem])
        refine g _ _ ?_
        refine Aa ?_
        obtain rfl:=Ag h
        refine⟨(dz+1,(cd.1.Periods,cd.1.Postings,cd.1.Rides),()),⟨by dsimp only;omega,Bf aw⟩,by dsimp only;omega,?_,?_⟩
        ·(simp +decide -implicitDefEqProofs only[go_sem,Ae,Ac.int.injEq,Int.natCast_zero,List.replicate_zero,List.length_take,List.length_drop,Ac.own.injEq,reduceCtorEq,Int.reduceAdd,bf]<;>omega)
        (simp +decide -implicitDefEqProofs only[go_sem,Ae,Ac.int.injEq,Int.natCast_zero,List.replicate_zero,List.length_take,List.length_drop,Ac.own.injEq,reduceCtorEq,Int.reduceAdd,bf]<;>omega)
       replace h:=Av h hc
       (try simp +decide -implicitDefEqProofs only[go_sem,hc,Bool.not_true])
       refine g _ _ ?_
       refine Aa ?_
       refine AWP.cond (Bu ?_)
       refine AWP.skip ?_
       refine Al ?_
       refine Aa ?_
       refine AWP.region rfl ?_;intro K g
       (try simp +decide -implicitDefEqProofs only[go_sem])
       refine g _ _ ?_
       refine Aa ?_
       obtain rfl:=Ag h
       refine⟨(dz+1,(cd.1.Periods,cd.1.Postings,cd.1.Rides),()),⟨by dsimp only;omega,Bf aw⟩,by dsimp only;omega,?_,?_⟩
       ·(simp +decide -implicitDefEqProofs only[go_sem,Ae,Ac.int.injEq,Int.natCast_zero,List.replicate_zero,List.length_take,List.length_drop,Ac.own.injEq,reduceCtorEq,Int.reduceAdd,bf]<;>omega)
       (simp +decide -implicitDefEqProofs only[go_sem,Ae,Ac.int.injEq,Int.natCast_zero,List.replicate_zero,List.length_take,List.length_drop,Ac.own.injEq,reduceCtorEq,Int.reduceAdd,bf]<;>omega)
      replace h:=Av h hc
      refine AWP.skip ?_
      refine Aa ?_
      refine AWP.seq ?_
      refine AWP.region rfl ?_;intro K g
      (try simp +decide -implicitDefEqProofs only[go_sem])
      refine Ak (fun hc=>?_) (fun hc=>?_)
      ·replace h:=Au h hc
       (try simp +decide -implicitDefEqProofs only[go_sem,hc])
       refine Ak (fun hc=>?_) (fun hc=>?_)
       ·replace h:=Av h hc
        (try simp +decide -implicitDefEqProofs only[go_sem,hc])
        refine Ak (fun hc=>?_) (fun hc=>?_)
        ·replace h:=Au h hc
         (try simp +decide -implicitDefEqProofs only[go_sem,hc])
         refine g _ _ ?_
         refine Aa ?_
         refine AWP.cond (Ai (fun hc=>?_) (fun hc=>?_))
         ·replace h:=Au h hc
          refine AWP.seq ?_
          refine AWP.region rfl ?_;intro K g
          (try simp +decide -implicitDefEqProofs only[go_sem])
          refine g _ _ ?_
          refine Aa ?_
          refine AWP.ret ?_
          refine Aj ?_
          refine Ad ?_
          refine Ad ?_
          obtain rfl:=Ag h
          obtain rfl:=Ba aw
          replace h:=Bp di
          refine Aj ?_
          refine Ad ?_
          obtain rfl:=Ag h
          simp +decide -implicitDefEqProofs only[go_sem,Ae,Ac.int.injEq,Int.natCast_zero,List.replicate_zero,List.length_take,List.length_drop,Ac.own.injEq,reduceCtorEq,Int.reduceAdd,Bc,Bd,A8,Bb,A9,Tryz.results3]
         replace h:=Av h hc
         refine AWP.skip ?_
         refine Al ?_
         refine Aa ?_
         refine AWP.region rfl ?_;intro K g
         (try simp +decide -implicitDefEqProofs only[go_sem])
         refine g _ _ ?_
         refine Aa ?_
         obtain rfl:=Ag h
         refine⟨(dz+1,(b_0_27,b_1_28,b_2_29),()),⟨by dsimp only;omega,Bf aw⟩,by dsimp only;omega,?_,?_⟩
         ·(simp +decide -implicitDefEqProofs only[go_sem,Ae,Ac.int.injEq,Int.natCast_zero,List.replicate_zero,List.length_take,List.length_drop,Ac.own.injEq,reduceCtorEq,Int.reduceAdd,bf]<;>omega)
         (simp +decide -implicitDefEqProofs only[go_sem,Ae,Ac.int.injEq,Int.natCast_zero,List.replicate_zero,List.length_take,List.length_drop,Ac.own.injEq,reduceCtorEq,Int.reduceAdd,bf]<;>omega)
        replace h:=Av h hc
        (try simp +decide -implicitDefEqProofs only[go_sem,hc,Bool.not_true])
        refine g _ _ ?_
        refine Aa ?_
        refine AWP.cond (Bu ?_)
        refine AWP.skip ?_
        refine Al ?_
        refine Aa ?_
        refine AWP.region rfl ?_;intro K g
        (try simp +decide -implicitDefEqProofs only[go_sem])
        refine g _ _ ?_
        refine Aa ?_
        obtain rfl:=Ag h
        refine⟨(dz+1,(b_0_27,b_1_28,b_2_29),()),⟨by dsimp only;omega,Bf aw⟩,by dsimp only;omega,?_,?_⟩
        ·(simp +decide -implicitDefEqProofs only[go_sem,Ae,Ac.int.injEq,Int.natCast_zero,List.replicate_zero,List.length_take,List.length_drop,Ac.own.injEq,reduceCtorEq,Int.reduceAdd,bf]<;>omega)
        (simp +decide -implicitDefEqProofs only[go_sem,Ae,Ac.int.injEq,Int.natCast_zero,List.replicate_zero,List.length_take,List.length_drop,Ac.own.injEq,reduceCtorEq,Int.reduceAdd,bf]<;>omega)
       replace h:=Au h hc
       (try simp +decide -implicitDefEqProofs only[go_sem,hc,Bool.not_false])
       refine g _ _ ?_
       refine Aa ?_
       refine AWP.cond (A7 ?_)
       refine AWP.seq ?_
       refine AWP.region rfl ?_;intro K g
       (try simp +decide -implicitDefEqProofs only[go_sem])
       refine g _ _ ?_
       refine Aa ?_
       refine AWP.ret ?_
       refine Aj ?_
       refine Ad ?_
       refine Ad ?_
       obtain rfl:=Ag h
       obtain rfl:=Ba aw
       replace h:=Bp di
       refine Aj ?_
       refine Ad ?_
       obtain rfl:=Ag h
       simp +decide -implicitDefEqProofs only[go_sem,Ae,Ac.int.injEq,Int.natCast_zero,List.replicate_zero,List.length_take,List.length_drop,Ac.own.injEq,reduceCtorEq,Int.reduceAdd,Bc,Bd,A8,Bb,A9,Tryz.results3]
      replace h:=Av h hc
      (try simp +decide -implicitDefEqProofs only[go_sem,hc,Bool.not_true])
      refine Ak (fun hc=>?_) (fun hc=>?_)
      ·replace h:=Au h hc
       (try simp +decide -implicitDefEqProofs only[go_sem,hc])
       refine g _ _ ?_
       refine Aa ?_
       refine AWP.cond (Ai (fun hc=>?_) (fun hc=>?_))
       ·replace h:=Au h hc
        refine AWP.seq ?_
        refine AWP.region rfl ?_;intro K g
        (try simp +decide -implicitDefEqProofs only[go_sem])
        refine g _ _ ?_
        refine Aa ?_
        refine AWP.ret ?_
        refine Aj ?_
        refine Ad ?_
        refine Ad ?_
        obtain rfl:=Ag h
        obtain rfl:=Ba aw
        replace h:=Bp di
        refine Aj ?_
        refine Ad ?_
        obtain rfl:=Ag h
        simp +decide -implicitDefEqProofs only[go_sem,Ae,Ac.int.injEq,Int.natCast_zero,List.replicate_zero,List.length_take,List.length_drop,Ac.own.injEq,reduceCtorEq,Int.reduceAdd,Bc,Bd,A8,Bb,A9,Tryz.results3]
       replace h:=Av h hc
       refine AWP.skip ?_
       refine Al ?_
       refine Aa ?_
       refine AWP.region rfl ?_;intro K g
       (try simp +decide -implicitDefEqProofs only[go_sem])
       refine g _ _ ?_
       refine Aa ?_
       obtain rfl:=Ag h
       refine⟨(dz+1,(b_0_27,b_1_28,b_2_29),()),⟨by dsimp only;omega,Bf aw⟩,by dsimp only;omega,?_,?_⟩
       ·(simp +decide -implicitDefEqProofs only[go_sem,Ae,Ac.int.injEq,Int.natCast_zero,List.replicate_zero,List.length_take,List.length_drop,Ac.own.injEq,reduceCtorEq,Int.reduceAdd,bf]<;>omega)
       (simp +decide -implicitDefEqProofs only[go_sem,Ae,Ac.int.injEq,Int.natCast_zero,List.replicate_zero,List.length_take,List.length_drop,Ac.own.injEq,reduceCtorEq,Int.reduceAdd,bf]<;>omega)
      replace h:=Av h hc
      (try simp +decide -implicitDefEqProofs only[go_sem,hc,Bool.not_true])
      refine g _ _ ?_
      refine Aa ?_
      refine AWP.cond (Bu ?_)
      refine AWP.skip ?_
      refine Al ?_
      refine Aa ?_
      refine AWP.region rfl ?_;intro K g
      (try simp +decide -implicitDefEqProofs only[go_sem])
      refine g _ _ ?_
      refine Aa ?_
      obtain rfl:=Ag h
      refine⟨(dz+1,(b_0_27,b_1_28,b_2_29),()),⟨by dsimp only;omega,Bf aw⟩,by dsimp only;omega,?_,?_⟩
      ·(simp +decide -implicitDefEqProofs only[go_sem,Ae,Ac.int.injEq,Int.natCast_zero,List.replicate_zero,List.length_take,List.length_drop,Ac.own.injEq,reduceCtorEq,Int.reduceAdd,bf]<;>omega)
      (simp +decide -implicitDefEqProofs only[go_sem,Ae,Ac.int.injEq,Int.natCast_zero,List.replicate_zero,List.length_take,List.length_drop,Ac.own.injEq,reduceCtorEq,Int.reduceAdd,bf]<;>omega)
     rintro⟨⟨b_0_3,b_1_4,b_2_5⟩,⟨⟩⟩ h
     try dsimp only at h ⊢
     unfold De at h;try dsimp only at h
     refine AWP.seq ?_
     refine AWP.region rfl ?_;intro K g
     (try simp +decide -implicitDefEqProofs only[go_sem])
     refine g _ _ ?_
     refine Aa ?_
     refine AWP.It (ι:=(Int)×(Unit)) (fun zz=>[(0,.sl 7 (rides.map Bn)),(5,.ptr 0 0),(13,.int .i64 zz.1)]) (fun zz=>[.box [.sl 5 (b_0_3.map Ay),.sl 4 (b_1_4.map Az),.sl 8 (b_2_5.map A5)]]) (fun zz=>Dd rides b_0_3 b_1_4 b_2_5 zz.1=some r) (fun zz=>⟨rfl,rfl,rfl⟩) ?_ ?_
     ·refine AWP.seq ?_
      refine AWP.region rfl ?_;intro K g
      (try simp +decide -implicitDefEqProofs only[go_sem])
      refine g _ _ ?_
      refine Aa ?_
      refine AWP.block ?_
      obtain⟨vb,h⟩:=D6 h
      obtain⟨o15,eo,ui⟩:=A2 h
      clear h
      obtain⟨w7,eo⟩:=Qu eo
      refine AWP.Cv (ι:=Nat×(Int)×(Unit)) (fun zz=>[(0,.sl 7 (rides.map Bn)),(5,.ptr 0 0),(13,.int .i64 zz.2.1),(14,.int .i64 (((zz.1:Nat):Int)+(1:Int)))]) (fun zz=>[.box [.sl 5 (b_0_3.map Ay),.sl 4 (b_1_4.map Az),.sl 8 (b_2_5.map A5)]]) (fun zz=>zz.1≤((b_0_3.length+1) - 1)∧Bo (Cy b_0_3 b_1_4 b_2_5) zz.1 ((List.replicate ((b_0_3.length+1) - 1) ()).drop zz.1) zz.2.1=some o15) (fun zz=>((b_0_3.length+1) - 1) - zz.1) (0,(0:Int),()) ⟨Nat.zero_le _,eo⟩ (by(simp +decide -implicitDefEqProofs only[go_sem,Ae,Ac.int.injEq,Int.natCast_zero,List.replicate_zero,List.length_take,List.length_drop,Ac.own.injEq,reduceCtorEq,Int.reduceAdd]<;>omega)) (by(simp +decide -implicitDefEqProofs only[go_sem,Ae,Ac.int.injEq,Int.natCast_zero,List.replicate_zero,List.length_take,List.length_drop,Ac.own.injEq,reduceCtorEq,Int.reduceAdd]<;>omega)) (fun x=>⟨rfl,rfl,rfl⟩) ?_
      clear eo
      rintro⟨k4,sum15,⟨⟩⟩ ⟨tg,eo⟩
      dsimp only at tg eo ⊢
      refine AWP.seq ?_
      refine AWP.seq ?_
      refine AWP.region rfl ?_;intro K g
      (try simp +decide -implicitDefEqProofs only[go_sem])
      intro hm
      refine g _ _ ?_
      refine Aa ?_
      refine AWP.cond (Ai (fun hc=>?_) (fun hc=>?_))
      rotate_left
      ·obtain rfl:=B8 eo (fun hl=>by rw[bS]at hl;have:=bJ hc;omega)
       have h:=B7 ui;try dsimp only at h
       have ba:((b_0_3.length+1) - 1)=k4:=by have:=bJ hc;omega
       subst ba
       refine AWP.exit ?_
       refine An ?_
       refine An ?_
       refine A6 ?_
       refine Aa ?_
       exact⟨(sum15,()),h,by(simp +decide -implicitDefEqProofs only[go_sem,Ae,Ac.int.injEq,Int.natCast_zero,List.replicate_zero,List.length_take,List.length_drop,Ac.own.injEq,reduceCtorEq,Int.reduceAdd]<;>omega),by(simp +decide -implicitDefEqProofs only[go_sem,Ae,Ac.int.injEq,Int.natCast_zero,List.replicate_zero,List.length_take,List.length_drop,Ac.own.injEq,reduceCtorEq,Int.reduceAdd]<;>omega)⟩
      have pz:k4<((b_0_3.length+1) - 1):=by have:=bK hc;omega
      obtain⟨_,b15,_,h,eo⟩:=Bw eo (by rw[bS];exact pz)
      have o7:IntKind.i64.wrap ((((k4:Nat):Int)+1)+1)=(((k4:Nat):Int)+1+1):=by rw[wrap_i64]<;>omega
      unfold Cy at h;try dsimp only at h
      refine AWP.skip ?_
      refine Aa ?_
      refine AWP.seq ?_
      refine AWP.block ?_
      refine AWP.region rfl ?_;intro K g
      (try simp +decide -implicitDefEqProofs only[go_sem])
      obtain⟨iz,jg,h⟩:=A2 h
      refine Bg.pure Tryz.call10 (Lr (Be.mk b_0_3 b_1_4 b_2_5) (((k4:Nat):Int)+1) jg) rfl fun _ hr=>?_
      obtain⟨ly17,py17,rfl⟩:=hr
      have mi:=py17.length_eq
      (try simp +decide -implicitDefEqProofs only[go_sem,mi,bT])
      intro hm
      refine g _ _ ?_
      refine Al ?_
      refine Aa ?_
      refine AWP.region rfl ?_;intro K g
      (try simp +decide -implicitDefEqProofs only[go_sem])
      refine g _ _ ?_
      refine Aa ?_
      obtain rfl:=Ag h
      refine⟨(k4+1,(IntKind.i64.wrap (sum15+((iz.length:Nat):Int))),()),⟨by dsimp only;omega,Bf eo⟩,by dsimp only;omega,?_,?_⟩
      ·(simp +decide -implicitDefEqProofs only[go_sem,Ae,Ac.int.injEq,Int.natCast_zero,List.replicate_zero,List.length_take,List.length_drop,Ac.own.injEq,reduceCtorEq,Int.reduceAdd,o7]<;>omega)
      (simp +decide -implicitDefEqProofs only[go_sem,Ae,Ac.int.injEq,Int.natCast_zero,List.replicate_zero,List.length_take,List.length_drop,Ac.own.injEq,reduceCtorEq,Int.reduceAdd,o7]<;>omega)
     rintro⟨sum7,⟨⟩⟩ h
     try dsimp only at h ⊢
     unfold Dd at h;try dsimp only at h
     refine AWP.seq ?_
     refine AWP.seq ?_
     refine AWP.region rfl ?_;intro K g
     (try simp +decide -implicitDefEqProofs only[go_sem])
     refine g _ _ ?_
     refine Aa ?_
     refine AWP.block ?_
     obtain⟨o8,kt,vo⟩:=A2 h
     clear h
     refine AWP.Cv (ι:=Nat×(Unit)×(Unit)) (fun zz=>[(0,.sl 7 (rides.map Bn)),(5,.ptr 0 0),(13,.int .i64 sum7),(15,.int .i64 ((zz.1:Nat):Int))]) (fun zz=>[.box [.sl 5 (b_0_3.map Ay),.sl 4 (b_1_4.map Az),.sl 8 (b_2_5.map A5)]]) (fun zz=>zz.1≤rides.length∧Bo (Df b_2_5) zz.1 ((rides).drop zz.1) zz.2.1=some o8) (fun zz=>rides.length - zz.1) (0,(),()) ⟨Nat.zero_le _,kt⟩ (by(simp +decide -implicitDefEqProofs only[go_sem,Ae,Ac.int.injEq,Int.natCast_zero,List.replicate_zero,List.length_take,List.length_drop,Ac.own.injEq,reduceCtorEq,Int.reduceAdd]<;>omega)) (by(simp +decide -implicitDefEqProofs only[go_sem,Ae,Ac.int.injEq,Int.natCast_zero,List.replicate_zero,List.length_take,List.length_drop,Ac.own.injEq,reduceCtorEq,Int.reduceAdd]<;>omega)) (fun x=>⟨rfl,rfl,rfl⟩) ?_
     clear kt
     rintro⟨k8,⟨⟩,⟨⟩⟩ ⟨xi,kt⟩
     dsimp only at xi kt ⊢
     refine AWP.seq ?_
     refine AWP.seq ?_
     refine AWP.region rfl ?_;intro K g
     (try simp +decide -implicitDefEqProofs only[go_sem])
     intro hm
     refine g _ _ ?_
     refine Aa ?_
     refine AWP.cond (Ai (fun hc=>?_) (fun hc=>?_))
     rotate_left
     ·obtain rfl:=B8 kt (fun hl=>by have:=bJ hc;omega)
      have h:=B7 vo;try dsimp only at h
      have ba:rides.length=k8:=by have:=bJ hc;omega
      subst ba
      refine AWP.exit ?_
      refine An ?_
      refine An ?_
      refine A6 ?_
      refine Aa ?_
      refine AWP.seq ?_
      refine AWP.region rfl ?_;intro K g
      (try simp +decide -implicitDefEqProofs only[go_sem])
      intro hm
      refine Ak (fun hc=>?_) (fun hc=>?_)
      ·replace h:=Au h hc
       (try simp +decide -implicitDefEqProofs only[go_sem,hc])
       obtain⟨kb,jh,h⟩:=A2 h
       refine Bg.pure Tryz.call11 (Mq (Be.mk b_0_3 b_1_4 b_2_5) jh) rfl fun _ hr=>?_
       subst hr
       (try simp +decide -implicitDefEqProofs only[go_sem])
       refine g _ _ ?_
       refine Aa ?_
       refine AWP.ret ?_
       obtain rfl:=Ag h
       simp +decide -implicitDefEqProofs only[go_sem,Ae,Ac.int.injEq,Int.natCast_zero,List.replicate_zero,List.length_take,List.length_drop,Ac.own.injEq,reduceCtorEq,Int.reduceAdd,Bc,Bd,A8,Bb,A9,Tryz.results3]
      replace h:=Av h hc
      (try simp +decide -implicitDefEqProofs only[go_sem,hc,Bool.not_true])
      refine g _ _ ?_
      refine Aa ?_
      refine AWP.ret ?_
      obtain rfl:=Ag h
      simp +decide -implicitDefEqProofs only[go_sem,Ae,Ac.int.injEq,Int.natCast_zero,List.replicate_zero,List.length_take,List.length_drop,Ac.own.injEq,reduceCtorEq,Int.reduceAdd,Bc,Bd,A8,Bb,A9,Tryz.results3]
     have su:k8<rides.length:=by have:=bK hc;omega
     obtain⟨cq,b8,rm,h,kt⟩:=Bw kt su
     have vy:=Br rm
     have ux:IntKind.i64.wrap (((k8:Nat):Int)+1)=(((k8:Nat):Int)+1):=by rw[wrap_i64]<;>omega
     unfold Df at h;try dsimp only at h
     refine AWP.skip ?_
     refine Aa ?_
     refine AWP.seq ?_
     refine AWP.block ?_
     refine AWP.seq ?_
     refine AWP.region rfl ?_;intro K g
     (try simp +decide -implicitDefEqProofs only[go_sem])
     refine g _ _ ?_
     refine Aa ?_
     refine AWP.seq ?_
     refine AWP.seq ?_
     refine AWP.region rfl ?_;intro K g
     (try simp +decide -implicitDefEqProofs only[go_sem])
     refine g _ _ ?_
     refine Aa ?_
     refine AWP.block ?_
     obtain⟨o11,fe,uj⟩:=A2 h
     clear h
     refine AWP.Cv (ι:=Nat×(Int)×(Unit)) (fun zz=>[(0,.sl 7 (rides.map Bn)),(5,.ptr 0 0),(13,.int .i64 sum7),(15,.int .i64 ((k8:Nat):Int)),(16,.int .i64 zz.2.1),(17,.int .i64 ((zz.1:Nat):Int))]) (fun zz=>[.box [.sl 5 (b_0_3.map Ay),.sl 4 (b_1_4.map Az),.sl 8 (b_2_5.map A5)]]) (fun zz=>zz.1≤b_2_5.length∧Bo (Cz cq) zz.1 ((b_2_5).drop zz.1) zz.2.1=some o11) (fun zz=>b_2_5.length - zz.1) (0,(0:Int),()) ⟨Nat.zero_le _,fe⟩ (by(simp +decide -implicitDefEqProofs only[go_sem,Ae,Ac.int.injEq,Int.natCast_zero,List.replicate_zero,List.length_take,List.length_drop,Ac.own.injEq,reduceCtorEq,Int.reduceAdd]<;>omega)) (by(simp +decide -implicitDefEqProofs only[go_sem,Ae,Ac.int.injEq,Int.natCast_zero,List.replicate_zero,List.length_take,List.length_drop,Ac.own.injEq,reduceCtorEq,Int.reduceAdd]<;>omega)) (fun x=>⟨rfl,rfl,rfl⟩) ?_
     clear fe
     rintro⟨lz,times11,⟨⟩⟩ ⟨th,fe⟩
     dsimp only at th fe ⊢
     refine AWP.seq ?_
     refine AWP.seq ?_
     refine AWP.region rfl ?_;intro K g
     (try simp +decide -implicitDefEqProofs only[go_sem])
     intro hm
     refine g _ _ ?_
     refine Aa ?_
     refine AWP.cond (Ai (fun hc=>?_) (fun hc=>?_))
     ·have p3:lz<b_2_5.length:=by have:=bK hc;omega
      obtain⟨aa,b11,ow,h,fe⟩:=Bw fe p3
      have rz:=Br ow
      have kj:IntKind.i64.wrap (((lz:Nat):Int)+1)=(((lz:Nat):Int)+1):=by rw[wrap_i64]<;>omega
      unfold Cz at h;try dsimp only at h
      refine AWP.skip ?_
      refine Aa ?_
      refine AWP.seq ?_
      refine AWP.block ?_
      refine AWP.seq ?_
      refine AWP.draw Tryz.mixed (by kernel_rfl) ?_;intro K g
      (try simp +decide -implicitDefEqProofs only[go_sem])
      refine Ca.of (f:=A5) (l:=b_2_5) rz ?_
      (try simp +decide -implicitDefEqProofs only[go_sem])
      refine Ca.of (f:=Bn) (l:=rides) vy ?_
      (try simp +decide -implicitDefEqProofs only[go_sem])
      refine g _ _ _ (by kernel_rfl) ?_
      refine Aa ?_
      refine AWP.cond (Ai (fun hc=>?_) (fun hc=>?_))
      ·replace h:=Au h hc
       refine AWP.region rfl ?_;intro K g
       (try simp +decide -implicitDefEqProofs only[go_sem])
       refine g _ _ ?_
       refine Al ?_
       refine Aa ?_
       refine AWP.region rfl ?_;intro K g
       (try simp +decide -implicitDefEqProofs only[go_sem])
       refine g _ _ ?_
       refine Aa ?_
       obtain rfl:=Ag h
       refine⟨(lz+1,(IntKind.i64.wrap (times11+1)),()),⟨by dsimp only;omega,Bf fe⟩,by dsimp only;omega,?_,?_⟩
       ·(simp +decide -implicitDefEqProofs only[go_sem,Ae,Ac.int.injEq,Int.natCast_zero,List.replicate_zero,List.length_take,List.length_drop,Ac.own.injEq,reduceCtorEq,Int.reduceAdd,kj]<;>omega)
       (simp +decide -implicitDefEqProofs only[go_sem,Ae,Ac.int.injEq,Int.natCast_zero,List.replicate_zero,List.length_take,List.length_drop,Ac.own.injEq,reduceCtorEq,Int.reduceAdd,kj]<;>omega)
      replace h:=Av h hc
      refine AWP.skip ?_
      refine Al ?_
      refine Aa ?_
      refine AWP.region rfl ?_;intro K g
      (try simp +decide -implicitDefEqProofs only[go_sem])
      refine g _ _ ?_
      refine Aa ?_
      obtain rfl:=Ag h
      refine⟨(lz+1,times11,()),⟨by dsimp only;omega,Bf fe⟩,by dsimp only;omega,?_,?_⟩
      ·(simp +decide -implicitDefEqProofs only[go_sem,Ae,Ac.int.injEq,Int.natCast_zero,List.replicate_zero,List.length_take,List.length_drop,Ac.own.injEq,reduceCtorEq,Int.reduceAdd,kj]<;>omega)
      (simp +decide -implicitDefEqProofs only[go_sem,Ae,Ac.int.injEq,Int.natCast_zero,List.replicate_zero,List.length_take,List.length_drop,Ac.own.injEq,reduceCtorEq,Int.reduceAdd,kj]<;>omega)
     obtain rfl:=B8 fe (fun hl=>by have:=bJ hc;omega)
     have h:=B7 uj;try dsimp only at h
     have ba:b_2_5.length=lz:=by have:=bJ hc;omega
     subst ba
     refine AWP.exit ?_
     refine An ?_
     refine An ?_
     refine A6 ?_
     refine Aa ?_
     refine AWP.seq ?_
     refine AWP.region rfl ?_;intro K g
     (try simp +decide -implicitDefEqProofs only[go_sem])
     refine g _ _ ?_
     refine Aa ?_
     refine AWP.cond (Ai (fun hc=>?_) (fun hc=>?_))
     ·replace h:=Au h hc
      refine AWP.seq ?_
      refine AWP.region rfl ?_;intro K g
      (try simp +decide -implicitDefEqProofs only[go_sem])
      refine g _ _ ?_
      refine Aa ?_
      refine AWP.ret ?_
      refine Aj ?_
      refine Ad ?_
      refine Ad ?_
      obtain rfl:=Ag h
      obtain rfl:=Ba kt
      replace h:=Bp vo
      refine Aj ?_
      refine Ad ?_
      obtain rfl:=Ag h
      simp +decide -implicitDefEqProofs only[go_sem,Ae,Ac.int.injEq,Int.natCast_zero,List.replicate_zero,List.length_take,List.length_drop,Ac.own.injEq,reduceCtorEq,Int.reduceAdd,Bc,Bd,A8,Bb,A9,Tryz.results3]
     replace h:=Av h hc
     refine AWP.skip ?_
     refine Al ?_
     refine Aa ?_
     refine AWP.region rfl ?_;intro K g
     (try simp +decide -implicitDefEqProofs only[go_sem])
     refine g _ _ ?_
     refine Aa ?_
     obtain rfl:=Ag h
     refine⟨(k8+1,(),()),⟨by dsimp only;omega,Bf kt⟩,by dsimp only;omega,?_,?_⟩
     ·(simp +decide -implicitDefEqProofs only[go_sem,Ae,Ac.int.injEq,Int.natCast_zero,List.replicate_zero,List.length_take,List.length_drop,Ac.own.injEq,reduceCtorEq,Int.reduceAdd,ux]<;>omega)
     (simp +decide -implicitDefEqProofs only[go_sem,Ae,Ac.int.injEq,Int.natCast_zero,List.replicate_zero,List.length_take,List.length_drop,Ac.own.injEq,reduceCtorEq,Int.reduceAdd,ux]<;>omega)
    replace h:=Au h hc
    (try simp +decide -implicitDefEqProofs only[go_sem,hc,Bool.not_false])
    refine g _ _ ?_
    refine Aa ?_
    refine AWP.cond (A7 ?_)
    refine AWP.seq ?_
    refine AWP.region rfl ?_;intro K g
    (try simp +decide -implicitDefEqProofs only[go_sem])
    refine g _ _ ?_
    refine Aa ?_
    refine AWP.ret ?_
    refine Ad ?_
    obtain rfl:=Ag h
    simp +decide -implicitDefEqProofs only[go_sem,Ae,Ac.int.injEq,Int.natCast_zero,List.replicate_zero,List.length_take,List.length_drop,Ac.own.injEq,reduceCtorEq,Int.reduceAdd,Bc,Bd,A8,Bb,A9,Tryz.results3]
   replace h:=Au h hc
   (try simp +decide -implicitDefEqProofs only[go_sem,hc,Bool.not_false])
   refine g _ _ ?_
   refine Aa ?_
   refine AWP.cond (A7 ?_)
   refine AWP.seq ?_
   refine AWP.region rfl ?_;intro K g
   (try simp +decide -implicitDefEqProofs only[go_sem])
   refine g _ _ ?_
   refine Aa ?_
   refine AWP.ret ?_
   refine Ad ?_
   obtain rfl:=Ag h
   simp +decide -implicitDefEqProofs only[go_sem,Ae,Ac.int.injEq,Int.natCast_zero,List.replicate_zero,List.length_take,List.length_drop,Ac.own.injEq,reduceCtorEq,Int.reduceAdd,Bc,Bd,A8,Bb,A9,Tryz.results3]
  replace h:=Au h hc
  (try simp +decide -implicitDefEqProofs only[go_sem,hc,Bool.not_false])
  refine g _ _ ?_
  refine Aa ?_
  refine AWP.cond (A7 ?_)
  refine AWP.seq ?_
  refine AWP.region rfl ?_;intro K g
  (try simp +decide -implicitDefEqProofs only[go_sem])
  refine g _ _ ?_
  refine Aa ?_
  refine AWP.ret ?_
  refine Ad ?_
  obtain rfl:=Ag h
  simp +decide -implicitDefEqProofs only[go_sem,Ae,Ac.int.injEq,Int.natCast_zero,List.replicate_zero,List.length_take,List.length_drop,Ac.own.injEq,reduceCtorEq,Int.reduceAdd,Bc,Bd,A8,Bb,A9,Tryz.results3]
end
end Go.Proofs.YtooopbnnhbacjaaGreat
namespace Go.Proofs.YtooopbnnhbacjaaGreat
open Go Go.Ab
set_option linter.unusedSimpArgs false
set_option linter.unusedVariables false
theorem Pu {l:List Int} (h:l.Pairwise fun a b=>decide (a≤b)=true):Hb l=l:=List.mergeSort_of_pairwise h
def RgR (r:A1):Prop:=(1≤r.Gate∧r.Gate≤9999)∧(1≤r.Serial∧r.Serial≤9999)∧(1≤r.Product∧r.Product≤9999)∧(1≤r.Lift∧r.Lift≤9999)∧(1≤r.Seq∧r.Seq≤1000000)∧(1≤r.Counter∧r.Counter≤1000000)∧(0≤r.At∧r.At≤20000000)
theorem Px (r:A1):∃ b,Fo r=some b∧(b=true↔RgR r):=by
  unfold Fo
  by_cases h0:(1:Int)≤r.Gate
  case neg=>exact ⟨false,by rw[bM h0];rfl,by simp[RgR,h0]⟩
  rw[bL h0,cond_true]
  by_cases h1:r.Gate≤(9999:Int)
  case neg=>exact ⟨false,by rw[bM h1];rfl,by simp[RgR,h1]⟩
  rw[bL h1,cond_true]
  by_cases h2:(1:Int)≤r.Serial
  case neg=>exact ⟨false,by rw[bM h2];rfl,by simp[RgR,h2]⟩
  rw[bL h2,cond_true]
  by_cases h3:r.Serial≤(9999:Int)
  case neg=>exact ⟨false,by rw[bM h3];rfl,by simp[RgR,h3]⟩
  rw[bL h3,cond_true]
  by_cases h4:(1:Int)≤r.Product
  case neg=>exact ⟨false,by rw[bM h4];rfl,by simp[RgR,h4]⟩
  rw[bL h4,cond_true]
  by_cases h5:r.Product≤(9999:Int)
  case neg=>exact ⟨false,by rw[bM h5];rfl,by simp[RgR,h5]⟩
  rw[bL h5,cond_true]
  by_cases h6:(1:Int)≤r.Lift
  case neg=>exact ⟨false,by rw[bM h6];rfl,by simp[RgR,h6]⟩
  rw[bL h6,cond_true]
  by_cases h7:r.Lift≤(9999:Int)
  case neg=>exact ⟨false,by rw[bM h7];rfl,by simp[RgR,h7]⟩
  rw[bL h7,cond_true]
  by_cases h8:(1:Int)≤r.Seq
  case neg=>exact ⟨false,by rw[bM h8];rfl,by simp[RgR,h8]⟩
  rw[bL h8,cond_true]
  by_cases h9:r.Seq≤(1000000:Int)
  case neg=>exact ⟨false,by rw[bM h9];rfl,by simp[RgR,h9]⟩
  rw[bL h9,cond_true]
  by_cases ig:(1:Int)≤r.Counter
  case neg=>exact ⟨false,by rw[bM ig];rfl,by simp[RgR,ig]⟩
  rw[bL ig,cond_true]
  by_cases gh:r.Counter≤(1000000:Int)
  case neg=>exact ⟨false,by rw[bM gh];rfl,by simp[RgR,gh]⟩
  rw[bL gh,cond_true]
  by_cases jc:(0:Int)≤r.At
  case neg=>exact ⟨false,by rw[bM jc];rfl,by simp[RgR,jc]⟩
  rw[bL jc,cond_true]
  exact⟨decide (r.At≤20000000),rfl,by simp[RgR,h0,h1,h2,h3,h4,h5,h6,h7,h8,h9,ig,gh,jc]⟩
def RLt (a b:A1):Prop:=a.Gate<b.Gate∨(a.Gate=b.Gate∧a.Seq<b.Seq)
theorem Vc (a b:A1):∃ t,Fp a b=some t∧(t=true↔RLt a b):=by
  unfold Fp RLt
  by_cases h1:a.Gate<b.Gate
  ·exact⟨true,by simp[h1],by simp[h1]⟩
  ·by_cases h2:a.Gate=b.Gate
   ·exact⟨decide (a.Seq<b.Seq),by simp[h2],by simp[h2]⟩
   ·exact⟨false,by simp[h1,h2],by simp[h1,h2]⟩
def Ordered (l:List A1):Prop:=∀ (i:Nat) (x y:A1),l[i]? =some x→l[i+1]? =some y→RLt x y
theorem Xc (l:List A1) (hl:l.length≤2000):∃ y,En l=some y∧(y=0→(∀ x∈l,RgR x)∧Ordered l):=by
  unfold En
  rw[bM (by omega),cond_false]
  rcases M0 (step:=Dv l) (l:=l) (s:=()) (fun k _=>(∀ i x,i<k→l[i]? =some x→RgR x)∧∀ i x y,i+1<k→l[i]? =some x→l[i+1]? =some y→RLt x y) (fun r=>r≠0)
    ⟨fun i x h _=>by omega,fun i x y h _ _=>by omega⟩ (fun k x s hk ⟨hI,hJ⟩=>by
      have ab:=(bW.1 hk).1
      unfold Dv
      obtain⟨b,hb,ix⟩:=Px x
      rw[hb,bP]
      cases b with
      | false=>exact .inr ⟨2,rfl,by decide⟩
      | true=>
        have hx:RgR x:=ix.1 rfl
        have vp:∀ i y,i<k+1→l[i]? =some y→RgR y:=fun i y hi hy=>by
          by_cases e:i=k
          ·subst e;rw[hk]at hy;cases hy;exact hx
          ·exact hI i y (by omega) hy
        by_cases h0:(0:Int)<((k:Nat):Int)
        ·have hp:l[k - 1]? =some l[k - 1]:=bN (by omega)
         rw[bL h0,Mh (by omega) (by omega),Br hp,bP]
         obtain⟨t,ht,lf⟩:=Vc l[k - 1] x
         rw[ht,bP]
         cases t with
         | false=>exact .inr ⟨11,rfl,by decide⟩
         | true=>
           refine .inl ⟨(),rfl,vp,fun i a c hi ha hc=>?_⟩
           by_cases e:i+1=k
           ·rw[e,hk]at hc;cases hc
            rw[show i=k - 1 by omega,hp]at ha;cases ha
            exact lf.1 rfl
           ·exact hJ i a c (by omega) ha hc
        ·rw[bM h0]
         exact .inl ⟨(),rfl,vp,fun i a c hi ha hc=>by omega⟩)with ⟨s',h1,h2,h3⟩ | ⟨r,h1,h2⟩
  ·refine⟨0,by rw[h1];rfl,fun _=>⟨fun x hx=>?_,fun i x y hx hy=>h3 i x y ?_ hx hy⟩⟩
   ·obtain⟨i,hi⟩:=List.getElem?_of_mem hx
    exact h2 i x (bW.1 hi).1 hi
   ·exact(bW.1 hy).1
  ·exact⟨r,by rw[h1];rfl,fun h=>absurd h h2⟩
theorem K8 {l:List A1} (h:Ordered l):∀ (d i:Nat) (x y:A1),l[i]? =some x→l[i+d+1]? =some y→RLt x y
  | 0,i,x,y,hx,hy=>h i x y hx hy
  | d+1,i,x,y,hx,hy=>by
    have ab:=(bW.1 hy).1
    have hz:l[i+d+1]? =some l[i+d+1]:=bN (by omega)
    have h1:=K8 h d i x _ hx hz
    have h2:=h (i+d+1) _ y hz hy
    unfold RLt at *
    omega
theorem Ql {l:List A1} (h:Ordered l) {x y:A1} (hx:x∈l) (hy:y∈l) (hg:x.Gate=y.Gate) (hs:x.Seq=y.Seq):x=y:=by
  obtain⟨i,hi⟩:=List.getElem?_of_mem hx
  obtain⟨j,hj⟩:=List.getElem?_of_mem hy
  rcases Nat.lt_trichotomy i j with e | e | e
  ·obtain⟨d,rfl⟩:∃ d,j=i+d+1:=⟨j - i - 1,by omega⟩
   have:=K8 h d i x y hi hj
   unfold RLt at this;omega
  ·subst e;rw[hi]at hj;cases hj;rfl
  ·obtain⟨d,rfl⟩:∃ d,i=j+d+1:=⟨i - j - 1,by omega⟩
   have:=K8 h d j y x hj hi
   unfold RLt at this;omega
theorem Ti {r:A1} (h:RgR r):E2 r=some true:=by
  obtain⟨⟨a1,a2⟩,⟨b1,b2⟩,⟨c1,c2⟩,⟨d1,d2⟩,⟨e1,e2⟩,⟨f1,f2⟩,g1,g2⟩:=h
  simp[E2,Fa,a1,a2,b1,b2,c1,c2,d1,d2,g1,g2,Int.not_lt.2 e1,Int.not_lt.2 e2,Int.not_lt.2 f1,Int.not_lt.2 f2]
theorem Un {r:A1} (h:RgR r):E4 r=some true:=by
  simp[E4,Hr,Bo,Fl,Ti h,Out.cont,Out.on]
theorem W4 {r:A1} (h:RgR r):Gl r=some true:=by
  obtain⟨b,hb,ix⟩:=Px r
  have:b=true:=ix.2 h
  subst this
  simp[Gl,En,Bo,Dv,hb,Out.cont,Out.on]
def POk (ps:List Ao):Prop:=ps.length≤20∧(∀ (i:Nat) (x:Ao),ps[i]? =some x→x.Number=(i:Int)+1∧x.Span.From=100*(i:Int)∧x.Span.To=100*((i:Int)+1)∧x.Shares=[])∧
  ∀ (i j:Nat) (x y:Ao),i<j→ps[i]? =some x→ps[j]? =some y→y.Closed=true→x.Closed=true
def COk (rides:List A1) (n:Nat) (cs:List Ar):Prop:=(∀ c∈cs,c.Ride∈rides∧1≤c.Period∧c.Period≤(n:Int)∧c.Ride.At<100*c.Period)∧
  cs.Pairwise fun a b=>¬ (a.Ride.Gate=b.Ride.Gate∧a.Ride.Seq=b.Ride.Seq)
theorem POk.shares {ps:List Ao} (h:POk ps):∀ x∈ps,x.Shares=[]:=fun x hx=>by
  obtain⟨i,hi⟩:=List.getElem?_of_mem hx
  exact(h.2.1 i x hi).2.2.2
theorem Vw {α:Type} {l:List α} {k:Nat} {x:α} (h:l[k]? =some x):l.set k x=l:=by
  obtain⟨hk,rfl⟩:=bW.1 h
  exact List.set_getElem_self hk
theorem Mb {ρ:Type} {step:Nat→Ao→List Ao→Option (Out (List Ao) ρ)} {l:List Ao} (h:∀ k x,l[k]? =some x→step k x l=some (.next (l.set k x))):Bo step 0 l l=some (.next l):=by
  obtain⟨s',h1,h2⟩:=Iq (step:=step) (l:=l) (s:=l) (fun _ s=>s=l) rfl (fun k x s hk hI=>by
    subst hI
    exact⟨_,h k x hk,Vw hk⟩)
  rw[h1,h2]
theorem U7 {l:List Ao} (h:∀ x∈l,x.Shares=[]):Bo Ed 0 l l=some (.next l):=Mb fun k x hk=>by
  have hs:=h x (bO hk)
  unfold Ed
  rw[Br hk,bP,A3,hs]
  cases x;cases hs;rfl
theorem Qe {l:List Ao} (h:∀ x∈l,x.Shares=[]):Bo Dc 0 l l=some (.next l):=Mb fun k x hk=>by
  have hs:=h x (bO hk)
  unfold Dc
  rw[Br hk,bP,A3,hs]
  cases x;cases hs;rfl
theorem U6 {l:List Ao} (h:∀ x∈l,x.Shares=[]):Bo Ec 0 l l=some (.next l):=Mb fun k x hk=>by
  have hs:=h x (bO hk)
  unfold Ec
  rw[Br hk,bP,A3,hs]
  cases x;cases hs;rfl
theorem Ws {l:List Ao} (h:∀ x∈l,x.Shares=[]):Bo Dw 0 l l=some (.next l):=Mb fun k x hk=>by
  have hs:=h x (bO hk)
  unfold Dw
  rw[Br hk,bP,A3,hs]
  cases x;cases hs;rfl
theorem U5 {ps:List Ao} {cs:List Ar} (h:POk ps) (hc:cs.length≤80):E5 ⟨ps,[],cs⟩=some ⟨ps,[],cs⟩:=by
  have:=h.1
  simp[E5,Bk,Bh,Bj,Eh (n:=ps.length) (by omega),Eh (n:=cs.length) (by omega),Eh (n:=0) (by omega),Ws h.shares,Out.on]
theorem X9 {ps:List Ao} (h:POk ps):He ps=some (100*(ps.length:Int)):=by
  unfold He
  have hl:=h.1
  by_cases h0:ps.length=0
  ·rw[h0];rfl
  ·have hp:ps[ps.length - 1]? =some ps[ps.length - 1]:=bN (by omega)
   rw[bM (by omega),cond_false,Mh (by omega) (by omega),Br hp,bP,(h.2.1 _ _ hp).2.2.1]
   congr 1;omega
def Lu (n:Nat):Ao:=⟨(n:Int)+1,⟨100*(n:Int),100*((n:Int)+1)⟩,false,[]⟩
theorem W2 {ps:List Ao} {cs:List Ar} (h:POk ps) (hc:cs.length≤80) (hl:ps.length<20) :
    D4 ⟨ps,[],cs⟩ (100*((ps.length:Int)+1))=some (⟨ps++[Lu ps.length],[],cs⟩,0):=by
  have w1:IntKind.i64.wrap ((ps.length:Int)+1)=(ps.length:Int)+1:=by rw[wrap_i64]<;>omega
  simp[D4,X9 h,Bk,Bh,Bj,Eh (n:=ps.length) (by omega),Eh (n:=ps.length+1) (by omega),Eh (n:=cs.length) (by omega),Eh (n:=0) (by omega),U7 h.shares,Out.on,w1,Lu]
  rw[bM (by omega),cond_false,bM (by omega),cond_false,bM (by omega),cond_false]
theorem Wz {ps:List Ao} (h:POk ps) (hl:ps.length<20):POk (ps++[Lu ps.length]):=by
  refine⟨by simp;omega,fun i x hx=>?_,fun i j x y kp hx hy hc=>?_⟩
  ·rw[List.getElem?_append]at hx
   split at hx
   ·exact h.2.1 i x hx
   ·have:i - ps.length=0:=by
      have:=(bW.1 hx).1
      simp at this;omega
    rw[this]at hx
    cases hx
    have:i=ps.length:=by omega
    subst this
    exact⟨rfl,rfl,rfl,rfl⟩
  ·rw[List.getElem?_append]at hy
   split at hy
   ·rw[List.getElem?_append_left (by omega)]at hx
    exact h.2.2 i j x y kp hx hy hc
   ·have:j - ps.length=0:=by
      have:=(bW.1 hy).1
      simp at this;omega
    rw[this]at hy
    cases hy
    cases hc
theorem COk.mono {rides:List A1} {n m:Nat} {cs:List Ar} (h:COk rides n cs) (hm:n≤m):COk rides m cs:=
  ⟨fun c hc=>by obtain⟨a,b,c',d⟩:=h.1 c hc;exact⟨a,b,by omega,d⟩,h.2⟩
theorem R2 (b:Be):Dg b=some (match b.Periods.find? fun x=>!x.Closed with | some x=>x.Number | none=>0):=by
  unfold Dg
  rw[Jx (fun x:Ao=>!x.Closed) (fun x=>x.Number) (fun k x _=>rfl)]
  cases b.Periods.find? fun x=>!x.Closed<;>rfl
theorem Wo {ps:List Ao} {x:Ao} (h:(ps.find? fun x=>!x.Closed)=some x):x.Closed=false∧∃ i,ps[i]? =some x∧∀ (j:Nat) (y:Ao),j<i→ps[j]? =some y→y.Closed=true:=by
  obtain⟨h1,xs,ys,rfl,h2⟩:=List.find?_eq_some_iff_append.1 h
  refine⟨by simpa using h1,xs.length,by simp,fun j y hj hy=>?_⟩
  rw[List.getElem?_append_left hj]at hy
  simpa using h2 y (bO hy)
def shut (x:Ao):Ao:=⟨x.Number,x.Span,true,[]⟩
theorem Yw:Cl [] []=some []:=by
  have e:Hb []=[]:=by rw[Pu (by decide)]
  simp[Cl,Ct,Cs,Bo,L6,Out.on,mkeys,okB,chk]
theorem Yv:Fe []=some []:=by decide +kernel
theorem Wv {ps:List Ao} {cs:List Ar} (h:POk ps) (hc:cs.length≤80) {x:Ao} {i:Nat} (hf:(ps.find? fun x=>!x.Closed)=some x) (hi:ps[i]? =some x) :
    Di ⟨ps,[],cs⟩ x.Number [] []=some (⟨ps.set i (shut x),[],cs⟩,0):=by
  have hl:=h.1
  obtain⟨hn,_,_,wg⟩:=h.2.1 i x hi
  have ab:=(bW.1 hi).1
  have w1:IntKind.i64.wrap (x.Number - 1)=(i:Int):=by rw[wrap_i64]<;>omega
  have hF:=R2 ⟨ps,[],cs⟩
  simp only[hf]at hF
  have a0:C4 []=some true:=rfl
  have t0:D3 []=some 0:=rfl
  unfold Di
  rw[bM (by omega),cond_false,bM (by simp;omega),cond_false,hF,bP,bM (by simp),cond_false,a0,bP,t0,bP]
  simp[Bk,Bh,Bj,A3,Eh (n:=ps.length) (by omega),Eh (n:=cs.length) (by omega),Eh (n:=0) (by omega),Qe h.shares,Out.on,Yw,Yv,w1,Br hi,shut]
theorem Wu {ps:List Ao} (h:POk ps) {x:Ao} {i:Nat} (hi:ps[i]? =some x) (hb:∀ (j:Nat) (y:Ao),j<i→ps[j]? =some y→y.Closed=true):POk (ps.set i (shut x)):=by
  have ab:=(bW.1 hi).1
  obtain⟨hn,hf,ht,wg⟩:=h.2.1 i x hi
  refine⟨by simpa using h.1,fun k y hy=>?_,fun a b y z ks hy hz hc=>?_⟩
  ·rw[List.getElem?_set]at hy
   split at hy
   ·rename_i e;subst e
    (try rw[if_pos ab]at hy);cases hy
    exact⟨hn,hf,ht,rfl⟩
   ·exact h.2.1 k y hy
  ·rw[List.getElem?_set]at hy hz
   by_cases ea:i=a
   ·subst ea
    rw[if_pos rfl,if_pos ab]at hy;cases hy;rfl
   ·rw[if_neg ea]at hy
    by_cases eb:i=b
    ·subst eb
     exact hb a y ks hy
    ·rw[if_neg eb]at hz
     exact h.2.2 a b y z ks hy hz hc
end Go.Proofs.YtooopbnnhbacjaaGreat
