/- Our own texts: a layer of abstract values over the model, the walks of the functions, the plain laws; joined and shortened by a small program of our own (wip/dce2.py, wip/pack.py). -/
import Derived.Test.YtooopbnnhbacjaaGreatA2
namespace Go.Proofs.YtooopbnnhbacjaaGreat
open Go Go.Ab
attribute [local irreducible] AWP Bg B9 Aq Go.Ab.Sub alist dlist Ca Bt Ew Mg
set_option maxRecDepth 100000
set_option maxHeartbeats 4000000
set_option linter.unusedSimpArgs false
set_option linter.unusedVariables false
noncomputable section
def Ha (i:Int) (k_:Int) (capa:List Int):Option (Int):=
  (Ch capa k_).bind fun kg=>(Ch capa i).bind fun ao=>(cmp_Compare_int kg ao).bind fun y3=>some y3
theorem Kp (i:Int) (k_:Int) (capa:List Int) {r:Int} (h:Ha i k_ capa=some r):Aq Tryz.prog 38 [.int .i64 i,.int .i64 k_,.eptr [.sl 1 (capa.map B5)]] (·= .int .i64 r):=by
  refine Aq.nle (Aq.intro Tryz.func38 rfl rfl (by show _≤15;simp) ?_)
  unfold Ha at h
  (try simp +decide -implicitDefEqProofs only[go_sem])
  refine AWP.seq ?_
  refine AWP.region rfl ?_;intro K g
  (try simp +decide -implicitDefEqProofs only[go_sem])
  refine g _ _ ?_
  refine Aa ?_
  refine AWP.seq ?_
  refine AWP.draw Tryz.mixed (by kernel_rfl) ?_;intro K g
  (try simp +decide -implicitDefEqProofs only[go_sem])
  obtain⟨kg,jl,h⟩:=A2 h
  refine Ca.of (f:=B5) (l:=capa) jl ?_
  (try simp +decide -implicitDefEqProofs only[go_sem])
  obtain⟨ao,l6,h⟩:=A2 h
  refine Ca.of (f:=B5) (l:=capa) l6 ?_
  (try simp +decide -implicitDefEqProofs only[go_sem])
  obtain⟨y3,ec,h⟩:=A2 h
  refine B9.pure Tryz.call30 (Er kg ao ec) rfl ?_
  (try simp +decide -implicitDefEqProofs only[go_sem])
  refine g _ _ _ (by kernel_rfl) ?_
  refine Aa ?_
  refine AWP.ret ?_
  obtain rfl:=Ag h
  simp +decide -implicitDefEqProofs only[go_sem,Ae,Ac.int.injEq,Int.natCast_zero,List.replicate_zero,List.length_take,List.length_drop,Ac.own.injEq,reduceCtorEq,Int.reduceAdd,Bc,Bd,A8,Bb,A9,Tryz.results38]
def Ho (amount:Int) (weights:List Int):Option ((List Int)×Int):=
  (Jl amount weights).bind fun y1=>(bif (decide (y1.2≠(0:Int)))then some ([],y1.2)else chk weights.length (chk weights.length (chk weights.length ((bif (decide ((0:Int)<((weights.length:Nat):Int)))then (Ch weights (0:Int)).bind fun ao=>(Hn amount ao y1.1).bind fun y3=>(Ch (List.replicate weights.length (0:Int)) (0:Int)).bind fun bw=>(bif (decide ((1:Int)<((weights.length:Nat):Int)))then (Ch weights (1:Int)).bind fun dn=>(Hn amount dn y1.1).bind fun y9=>(Ch ((List.replicate weights.length (0:Int)).set 0 y3.1) (1:Int)).bind fun cq=>(Ch ((List.replicate weights.length (0:Int)).set 0 y3.2) (1:Int)).bind fun fk=>(Ch ((List.replicate weights.length (0:Int)).set 0 (0:Int)) (1:Int)).bind fun dp=>(bif (decide ((2:Int)<((weights.length:Nat):Int)))then none else(bif (decide ((20:Int)≤((weights.length:Nat):Int)))then none else(bif (decide ((1:Int)<((weights.length:Nat):Int)))then (Ch (((List.replicate weights.length (0:Int)).set 0 (0:Int)).set 1 (1:Int)) (0:Int)).bind fun cp=>(Ha (1:Int) cp (((List.replicate weights.length (0:Int)).set 0 y3.2).set 1 y9.2)).bind fun iz=>(bif (decide (iz<(0:Int)))then (Ch ((((List.replicate weights.length (0:Int)).set 0 (0:Int)).set 1 (1:Int)).set 1 cp) (0:Int)).bind fun dt=>(bif (decide ((2:Int)<((weights.length:Nat):Int)))then none else(bif (decide ((20:Int)<((weights.length:Nat):Int)))then none else okB (decide ((0:Int)≤(IntKind.i64.wrap ((IntKind.i64.wrap (amount - y3.1)) - y9.1))∧(IntKind.i64.wrap ((IntKind.i64.wrap (amount - y3.1)) - y9.1))≤((weights.length:Nat):Int))) ((bif (decide ((0:Int)<(((IntKind.i64.wrap ((IntKind.i64.wrap (amount - y3.1)) - y9.1)).toNat:Nat):Int)))then (Ch ((((((List.replicate weights.length (0:Int)).set 0 (0:Int)).set 1 (1:Int)).set 1 cp).set 0 (1:Int)).take (IntKind.i64.wrap ((IntKind.i64.wrap (amount - y3.1)) - y9.1)).toNat) (0:Int)).bind fun dy=>(Ch (((List.replicate weights.length (0:Int)).set 0 y3.1).set 1 y9.1) dy).bind fun bu=>(bif (decide ((1:Int)<(((IntKind.i64.wrap ((IntKind.i64.wrap (amount - y3.1)) - y9.1)).toNat:Nat):Int)))then none else some (((((List.replicate weights.length (0:Int)).set 0 y3.1).set 1 y9.1).set dy.toNat (IntKind.i64.wrap (bu+(1:Int)))),(0:Int)))else none))))else (bif (decide ((2:Int)<((weights.length:Nat):Int)))then none else(bif (decide ((20:Int)<((weights.length:Nat):Int)))then none else okB (decide ((0:Int)≤(IntKind.i64.wrap ((IntKind.i64.wrap (amount - y3.1)) - y9.1))∧(IntKind.i64.wrap ((IntKind.i64.wrap (amount - y3.1)) - y9.1))≤((weights.length:Nat):Int))) ((bif (decide ((0:Int)<(((IntKind.i64.wrap ((IntKind.i64.wrap (amount - y3.1)) - y9.1)).toNat:Nat):Int)))then (Ch ((((List.replicate weights.length (0:Int)).set 0 (0:Int)).set 1 (1:Int)).take (IntKind.i64.wrap ((IntKind.i64.wrap (amount - y3.1)) - y9.1)).toNat) (0:Int)).bind fun bt=>(Ch (((List.replicate weights.length (0:Int)).set 0 y3.1).set 1 y9.1) bt).bind fun lu=>(bif (decide ((1:Int)<(((IntKind.i64.wrap ((IntKind.i64.wrap (amount - y3.1)) - y9.1)).toNat:Nat):Int)))then none else some (((((List.replicate weights.length (0:Int)).set 0 y3.1).set 1 y9.1).set bt.toNat (IntKind.i64.wrap (lu+(1:Int)))),(0:Int)))else none)))))else none)))else none)else none)))))
theorem Lm (amount:Int) (weights:List Int) {r:(List Int)×Int} (h:Ho amount weights=some r):Ci Tryz.prog 12 [.int .i64 amount,.sl 1 (weights.map B5)] (·= .tuple [.sl 1 (r.1.map B5),.int .i64 r.2]):=by
  refine Ci.nle (Ci.intro Tryz.func12 rfl rfl (by show _≤85;simp) ?_)
  unfold Ho at h
  (try simp +decide -implicitDefEqProofs only[go_sem,Int.reduceAdd,Int.reduceMul,Int.reduceNeg,Int.reduceSub,bS,List.length_set,List.take_of_length_le,Nat.le_refl,Af])
  refine AWP.seq ?_
  refine AWP.region rfl ?_;intro K g
  (try simp +decide -implicitDefEqProofs only[go_sem,Int.reduceAdd,Int.reduceMul,Int.reduceNeg,Int.reduceSub,bS,List.length_set,List.take_of_length_le,Nat.le_refl,Af])
  refine g _ _ ?_
  refine Aa ?_
  refine AWP.seq ?_
  refine AWP.region rfl ?_;intro K g
  (try simp +decide -implicitDefEqProofs only[go_sem,Int.reduceAdd,Int.reduceMul,Int.reduceNeg,Int.reduceSub,bS,List.length_set,List.take_of_length_le,Nat.le_refl,Af])
  obtain⟨y1,ch,h⟩:=A2 h
  refine Bg.pure Tryz.call35 (Mi amount weights ch) rfl fun _ hr=>?_
  subst hr
  (try simp +decide -implicitDefEqProofs only[go_sem,Int.reduceAdd,Int.reduceMul,Int.reduceNeg,Int.reduceSub,bS,List.length_set,List.take_of_length_le,Nat.le_refl,Af])
  refine g _ _ ?_
  refine Aa ?_
  refine AWP.seq ?_
  refine AWP.seq ?_
  refine AWP.region rfl ?_;intro K g
  (try simp +decide -implicitDefEqProofs only[go_sem,Int.reduceAdd,Int.reduceMul,Int.reduceNeg,Int.reduceSub,bS,List.length_set,List.take_of_length_le,Nat.le_refl,Af])
  refine g _ _ ?_
  refine Aa ?_
  refine AWP.cond (Ai (fun hc=>?_) (fun hc=>?_))
  ·replace h:=Au h hc
   refine AWP.seq ?_
   refine AWP.region rfl ?_;intro K g
   (try simp +decide -implicitDefEqProofs only[go_sem,Int.reduceAdd,Int.reduceMul,Int.reduceNeg,Int.reduceSub,bS,List.length_set,List.take_of_length_le,Nat.le_refl,Af])
   refine g _ _ ?_
   refine Aa ?_
   refine AWP.ret ?_
   refine Ad ?_
   obtain rfl:=Ag h
   simp +decide -implicitDefEqProofs only[go_sem,Ae,Ac.int.injEq,Int.natCast_zero,List.replicate_zero,List.length_take,List.length_drop,Ac.own.injEq,reduceCtorEq,Int.reduceAdd,Bc,Bd,A8,Bb,A9,Tryz.results12,Int.reduceAdd,Int.reduceMul,Int.reduceNeg,Int.reduceSub,bS,List.length_set,List.take_of_length_le,Nat.le_refl,Af]
  replace h:=Av h hc
  refine AWP.skip ?_
  refine Aa ?_
  refine AWP.seq ?_
  refine AWP.region rfl ?_;intro K g
  (try simp +decide -implicitDefEqProofs only[go_sem,Int.reduceAdd,Int.reduceMul,Int.reduceNeg,Int.reduceSub,bS,List.length_set,List.take_of_length_le,Nat.le_refl,Af])
  intro hm
  obtain⟨hk,h⟩:=D6 h
  (repeat refine rp ?_);try simp +decide -implicitDefEqProofs only[go_sem]
  refine g _ _ ?_
  refine Aa ?_
  refine AWP.seq ?_
  refine AWP.region rfl ?_;intro K g
  (try simp +decide -implicitDefEqProofs only[go_sem,Int.reduceAdd,Int.reduceMul,Int.reduceNeg,Int.reduceSub,bS,List.length_set,List.take_of_length_le,Nat.le_refl,Af])
  intro hm
  obtain⟨hk,h⟩:=D6 h
  (repeat refine rp ?_);try simp +decide -implicitDefEqProofs only[go_sem]
  refine g _ _ ?_
  refine Aa ?_
  refine AWP.seq ?_
  refine AWP.region rfl ?_;intro K g
  (try simp +decide -implicitDefEqProofs only[go_sem,Int.reduceAdd,Int.reduceMul,Int.reduceNeg,Int.reduceSub,bS,List.length_set,List.take_of_length_le,Nat.le_refl,Af])
  intro hm
  obtain⟨hk,h⟩:=D6 h
  (repeat refine rp ?_);try simp +decide -implicitDefEqProofs only[go_sem]
  refine g _ _ ?_
  refine Aa ?_
  refine AWP.seq ?_
  refine AWP.region rfl ?_;intro K g
  (try simp +decide -implicitDefEqProofs only[go_sem,Int.reduceAdd,Int.reduceMul,Int.reduceNeg,Int.reduceSub,bS,List.length_set,List.take_of_length_le,Nat.le_refl,Af])
  refine g _ _ ?_
  refine Aa ?_
  refine AWP.seq ?_
  refine AWP.seq ?_
  refine AWP.region rfl ?_;intro K g
  (try simp +decide -implicitDefEqProofs only[go_sem,Int.reduceAdd,Int.reduceMul,Int.reduceNeg,Int.reduceSub,bS,List.length_set,List.take_of_length_le,Nat.le_refl,Af])
  intro hm
  refine g _ _ ?_
  refine Aa ?_
  refine AWP.block ?_
  refine AWP.rounds 3 ?_
  refine Bx.step ?_
  refine AWP.seq ?_
  refine AWP.region rfl ?_;intro K g
  (try simp +decide -implicitDefEqProofs only[go_sem,Int.reduceAdd,Int.reduceMul,Int.reduceNeg,Int.reduceSub,bS,List.length_set,List.take_of_length_le,Nat.le_refl,Af])
  refine g _ _ ?_
  refine Aa ?_
  refine AWP.seq ?_
  refine AWP.cond (Ai (fun hc=>?_) (fun hc=>?_))
  rotate_left
  ·replace h:=Av h hc
   refine AWP.exit ?_
   cases h
  replace h:=Au h hc
  refine AWP.skip ?_
  refine Aa ?_
  refine AWP.seq ?_
  refine AWP.block ?_
  refine AWP.seq ?_
  refine AWP.region rfl ?_;intro K g
  (try simp +decide -implicitDefEqProofs only[go_sem,Int.reduceAdd,Int.reduceMul,Int.reduceNeg,Int.reduceSub,bS,List.length_set,List.take_of_length_le,Nat.le_refl,Af])
  obtain⟨ao,l6,h⟩:=A2 h
  refine Ca.of (f:=B5) (l:=weights) l6 ?_
  (try simp +decide -implicitDefEqProofs only[go_sem,Int.reduceAdd,Int.reduceMul,Int.reduceNeg,Int.reduceSub,bS,List.length_set,List.take_of_length_le,Nat.le_refl,Af])
  refine g _ _ ?_
  refine Aa ?_
  refine AWP.seq ?_
  refine AWP.draw Tryz.mixed (by kernel_rfl) ?_;intro K g
  (try simp +decide -implicitDefEqProofs only[go_sem,Int.reduceAdd,Int.reduceMul,Int.reduceNeg,Int.reduceSub,bS,List.length_set,List.take_of_length_le,Nat.le_refl,Af])
  obtain⟨y3,ec,h⟩:=A2 h
  refine B9.pure Tryz.call36 (Ii amount ao y1.1 ec) rfl ?_
  (try simp +decide -implicitDefEqProofs only[go_sem,Int.reduceAdd,Int.reduceMul,Int.reduceNeg,Int.reduceSub,bS,List.length_set,List.take_of_length_le,Nat.le_refl,Af])
  obtain⟨bw,bz,h⟩:=A2 h
  refine Dt bz (by first | rfl | exact(Aw _).symm | (simp only[bR,List.length_cons,List.length_nil,List.length_set,bS]<;>omega) | (simp only[List.length_take,List.length_drop,List.length_set,bS]<;>omega)) ?_
  (try simp +decide -implicitDefEqProofs only[go_sem,Int.reduceAdd,Int.reduceMul,Int.reduceNeg,Int.reduceSub,bS,List.length_set,List.take_of_length_le,Nat.le_refl,Af])
  refine Bt.ofNat (f:=B5) (l:=(List.replicate weights.length (0:Int))) (n:=0) bz ?_
  have u0:=Ce (y:=y3.1) bz
  (try simp +decide -implicitDefEqProofs only[go_sem,Int.reduceAdd,Int.reduceMul,Int.reduceNeg,Int.reduceSub,bS,List.length_set,List.take_of_length_le,Nat.le_refl,Af])
  refine Dt bz (by first | rfl | exact(Aw _).symm | (simp only[bR,List.length_cons,List.length_nil,List.length_set,bS]<;>omega) | (simp only[List.length_take,List.length_drop,List.length_set,bS]<;>omega)) ?_
  (try simp +decide -implicitDefEqProofs only[go_sem,Int.reduceAdd,Int.reduceMul,Int.reduceNeg,Int.reduceSub,bS,List.length_set,List.take_of_length_le,Nat.le_refl,Af])
  refine Bt.ofNat (f:=B5) (l:=(List.replicate weights.length (0:Int))) (n:=0) bz ?_
  have yt:=Ce (y:=y3.2) bz
  (try simp +decide -implicitDefEqProofs only[go_sem,Int.reduceAdd,Int.reduceMul,Int.reduceNeg,Int.reduceSub,bS,List.length_set,List.take_of_length_le,Nat.le_refl,Af])
  refine g _ _ _ (by kernel_rfl) ?_
  refine Aa ?_
  refine AWP.seq ?_
  refine AWP.region rfl ?_;intro K g
  (try simp +decide -implicitDefEqProofs only[go_sem,Int.reduceAdd,Int.reduceMul,Int.reduceNeg,Int.reduceSub,bS,List.length_set,List.take_of_length_le,Nat.le_refl,Af])
  refine Dt bz (by first | rfl | exact(Aw _).symm | (simp only[bR,List.length_cons,List.length_nil,List.length_set,bS]<;>omega) | (simp only[List.length_take,List.length_drop,List.length_set,bS]<;>omega)) ?_
  (try simp +decide -implicitDefEqProofs only[go_sem,Int.reduceAdd,Int.reduceMul,Int.reduceNeg,Int.reduceSub,bS,List.length_set,List.take_of_length_le,Nat.le_refl,Af])
  refine Bt.ofNat (f:=B5) (l:=(List.replicate weights.length (0:Int))) (n:=0) bz ?_
  have yr:=Ce (y:=0) bz
  (try simp +decide -implicitDefEqProofs only[go_sem,Int.reduceAdd,Int.reduceMul,Int.reduceNeg,Int.reduceSub,bS,List.length_set,List.take_of_length_le,Nat.le_refl,Af])
  refine g _ _ ?_
  refine Aa ?_
  refine AWP.region rfl ?_;intro K g
  (try simp +decide -implicitDefEqProofs only[go_sem,Int.reduceAdd,Int.reduceMul,Int.reduceNeg,Int.reduceSub,bS,List.length_set,List.take_of_length_le,Nat.le_refl,Af])
  refine Dt u0 (by first | rfl | exact(Aw _).symm | (simp only[bR,List.length_cons,List.length_nil,List.length_set,bS]<;>omega) | (simp only[List.length_take,List.length_drop,List.length_set,bS]<;>omega)) ?_
  (try simp +decide -implicitDefEqProofs only[go_sem,Int.reduceAdd,Int.reduceMul,Int.reduceNeg,Int.reduceSub,bS,List.length_set,List.take_of_length_le,Nat.le_refl,Af])
  refine Bt.ofNat (f:=B5) (l:=((List.replicate weights.length (0:Int)).set 0 y3.1)) (n:=0) u0 ?_
  (try simp +decide -implicitDefEqProofs only[go_sem,Int.reduceAdd,Int.reduceMul,Int.reduceNeg,Int.reduceSub,bS,List.length_set,List.take_of_length_le,Nat.le_refl,Af])
  refine g _ _ ?_
  refine Al ?_
  refine Aa ?_
  refine AWP.region rfl ?_;intro K g
  (try simp +decide -implicitDefEqProofs only[go_sem,Int.reduceAdd,Int.reduceMul,Int.reduceNeg,Int.reduceSub,bS,List.length_set,List.take_of_length_le,Nat.le_refl,Af])
  refine g _ _ ?_
  refine Aa ?_
  refine Bx.step ?_
  refine AWP.seq ?_
  refine AWP.region rfl ?_;intro K g
  (try simp +decide -implicitDefEqProofs only[go_sem,Int.reduceAdd,Int.reduceMul,Int.reduceNeg,Int.reduceSub,bS,List.length_set,List.take_of_length_le,Nat.le_refl,Af])
  refine g _ _ ?_
  refine Aa ?_
  refine AWP.seq ?_
  refine AWP.cond (Ai (fun hc=>?_) (fun hc=>?_))
  rotate_left
  ·replace h:=Av h hc
   refine AWP.exit ?_
   cases h
  replace h:=Au h hc
  refine AWP.skip ?_
  refine Aa ?_
  refine AWP.seq ?_
  refine AWP.block ?_
  refine AWP.seq ?_
  refine AWP.region rfl ?_;intro K g
  (try simp +decide -implicitDefEqProofs only[go_sem,Int.reduceAdd,Int.reduceMul,Int.reduceNeg,Int.reduceSub,bS,List.length_set,List.take_of_length_le,Nat.le_refl,Af])
  obtain⟨dn,dv,h⟩:=A2 h
  refine Ca.of (f:=B5) (l:=weights) dv ?_
  (try simp +decide -implicitDefEqProofs only[go_sem,Int.reduceAdd,Int.reduceMul,Int.reduceNeg,Int.reduceSub,bS,List.length_set,List.take_of_length_le,Nat.le_refl,Af])
  refine g _ _ ?_
  refine Aa ?_
  refine AWP.seq ?_
  refine AWP.draw Tryz.mixed (by kernel_rfl) ?_;intro K g
  (try simp +decide -implicitDefEqProofs only[go_sem,Int.reduceAdd,Int.reduceMul,Int.reduceNeg,Int.reduceSub,bS,List.length_set,List.take_of_length_le,Nat.le_refl,Af])
  obtain⟨y9,og,h⟩:=A2 h
  refine B9.pure Tryz.call36 (Ii amount dn y1.1 og) rfl ?_
  (try simp +decide -implicitDefEqProofs only[go_sem,Int.reduceAdd,Int.reduceMul,Int.reduceNeg,Int.reduceSub,bS,List.length_set,List.take_of_length_le,Nat.le_refl,Af])
  obtain⟨cq,ft,h⟩:=A2 h
  refine Dt ft (by first | rfl | exact(Aw _).symm | (simp only[bR,List.length_cons,List.length_nil,List.length_set,bS]<;>omega) | (simp only[List.length_take,List.length_drop,List.length_set,bS]<;>omega)) ?_
  (try simp +decide -implicitDefEqProofs only[go_sem,Int.reduceAdd,Int.reduceMul,Int.reduceNeg,Int.reduceSub,bS,List.length_set,List.take_of_length_le,Nat.le_refl,Af])
  refine Bt.ofNat (f:=B5) (l:=((List.replicate weights.length (0:Int)).set 0 y3.1)) (n:=1) ft ?_
  have mg:=Ce (y:=y9.1) ft
  (try simp +decide -implicitDefEqProofs only[go_sem,Int.reduceAdd,Int.reduceMul,Int.reduceNeg,Int.reduceSub,bS,List.length_set,List.take_of_length_le,Nat.le_refl,Af])
  obtain⟨fk,jj,h⟩:=A2 h
  refine Dt jj (by first | rfl | exact(Aw _).symm | (simp only[bR,List.length_cons,List.length_nil,List.length_set,bS]<;>omega) | (simp only[List.length_take,List.length_drop,List.length_set,bS]<;>omega)) ?_
  (try simp +decide -implicitDefEqProofs only[go_sem,Int.reduceAdd,Int.reduceMul,Int.reduceNeg,Int.reduceSub,bS,List.length_set,List.take_of_length_le,Nat.le_refl,Af])
  refine Bt.ofNat (f:=B5) (l:=((List.replicate weights.length (0:Int)).set 0 y3.2)) (n:=1) jj ?_
  have wo:=Ce (y:=y9.2) jj
  (try simp +decide -implicitDefEqProofs only[go_sem,Int.reduceAdd,Int.reduceMul,Int.reduceNeg,Int.reduceSub,bS,List.length_set,List.take_of_length_le,Nat.le_refl,Af])
  refine g _ _ _ (by kernel_rfl) ?_
  refine Aa ?_
  refine AWP.seq ?_
  refine AWP.region rfl ?_;intro K g
  (try simp +decide -implicitDefEqProofs only[go_sem,Int.reduceAdd,Int.reduceMul,Int.reduceNeg,Int.reduceSub,bS,List.length_set,List.take_of_length_le,Nat.le_refl,Af])
  obtain⟨dp,ed,h⟩:=A2 h
  refine Dt ed (by first | rfl | exact(Aw _).symm | (simp only[bR,List.length_cons,List.length_nil,List.length_set,bS]<;>omega) | (simp only[List.length_take,List.length_drop,List.length_set,bS]<;>omega)) ?_
  (try simp +decide -implicitDefEqProofs only[go_sem,Int.reduceAdd,Int.reduceMul,Int.reduceNeg,Int.reduceSub,bS,List.length_set,List.take_of_length_le,Nat.le_refl,Af])
  refine Bt.ofNat (f:=B5) (l:=((List.replicate weights.length (0:Int)).set 0 (0:Int))) (n:=1) ed ?_
  have ey:=Ce (y:=1) ed
  (try simp +decide -implicitDefEqProofs only[go_sem,Int.reduceAdd,Int.reduceMul,Int.reduceNeg,Int.reduceSub,bS,List.length_set,List.take_of_length_le,Nat.le_refl,Af])
  refine g _ _ ?_
  refine Aa ?_
  refine AWP.region rfl ?_;intro K g
  (try simp +decide -implicitDefEqProofs only[go_sem,Int.reduceAdd,Int.reduceMul,Int.reduceNeg,Int.reduceSub,bS,List.length_set,List.take_of_length_le,Nat.le_refl,Af])
  refine Dt mg (by first | rfl | exact(Aw _).symm | (simp only[bR,List.length_cons,List.length_nil,List.length_set,bS]<;>omega) | (simp only[List.length_take,List.length_drop,List.length_set,bS]<;>omega)) ?_
  (try simp +decide -implicitDefEqProofs only[go_sem,Int.reduceAdd,Int.reduceMul,Int.reduceNeg,Int.reduceSub,bS,List.length_set,List.take_of_length_le,Nat.le_refl,Af])
  refine Bt.ofNat (f:=B5) (l:=(((List.replicate weights.length (0:Int)).set 0 y3.1).set 1 y9.1)) (n:=1) mg ?_
  (try simp +decide -implicitDefEqProofs only[go_sem,Int.reduceAdd,Int.reduceMul,Int.reduceNeg,Int.reduceSub,bS,List.length_set,List.take_of_length_le,Nat.le_refl,Af])
  refine g _ _ ?_
  refine Al ?_
  refine Aa ?_
  refine AWP.region rfl ?_;intro K g
  (try simp +decide -implicitDefEqProofs only[go_sem,Int.reduceAdd,Int.reduceMul,Int.reduceNeg,Int.reduceSub,bS,List.length_set,List.take_of_length_le,Nat.le_refl,Af])
  refine g _ _ ?_
  refine Aa ?_
  refine Bx.step ?_
  refine AWP.seq ?_
  refine AWP.region rfl ?_;intro K g
  (try simp +decide -implicitDefEqProofs only[go_sem,Int.reduceAdd,Int.reduceMul,Int.reduceNeg,Int.reduceSub,bS,List.length_set,List.take_of_length_le,Nat.le_refl,Af])
  refine g _ _ ?_
  refine Aa ?_
  refine AWP.seq ?_
  refine AWP.cond (Ai (fun hc=>?_) (fun hc=>?_))
  ·replace h:=Au h hc
   refine AWP.skip ?_
   cases h
  replace h:=Av h hc
  refine AWP.exit ?_
  refine An ?_
  refine An ?_
  refine A6 ?_
  refine Aa ?_
  refine AWP.seq ?_
  refine AWP.sub (Sub.Cm 1 rfl) ?_
  (try simp +decide -implicitDefEqProofs only[go_sem,Int.reduceAdd,Int.reduceMul,Int.reduceNeg,Int.reduceSub,bS,List.length_set,List.take_of_length_le,Nat.le_refl,Af])
  try simp only[show List.take weights.length (((List.replicate weights.length (0:Int)).set 0 y3.2).set 1 y9.2)=(((List.replicate weights.length (0:Int)).set 0 y3.2).set 1 y9.2) from List.take_of_length_le (by simp)]
  refine AWP.sub (Sub.Uz 2 rfl rfl) ?_
  (try simp +decide -implicitDefEqProofs only[go_sem,Int.reduceAdd,Int.reduceMul,Int.reduceNeg,Int.reduceSub,bS,List.length_set,List.take_of_length_le,Nat.le_refl,Af])
  refine AWP.region rfl ?_;intro K g
  (try simp +decide -implicitDefEqProofs only[go_sem,Int.reduceAdd,Int.reduceMul,Int.reduceNeg,Int.reduceSub,bS,List.length_set,List.take_of_length_le,Nat.le_refl,Af])
  refine Bg.inline Tryz.call37 Tryz.func37 rfl rfl (by show _≤9;simp) ?_
  (try simp +decide -implicitDefEqProofs only[go_sem,Int.reduceAdd,Int.reduceMul,Int.reduceNeg,Int.reduceSub,bS,List.length_set,List.take_of_length_le,Nat.le_refl,Af])
  refine AWP.region rfl ?_;intro K g
  (try simp +decide -implicitDefEqProofs only[go_sem,Int.reduceAdd,Int.reduceMul,Int.reduceNeg,Int.reduceSub,bS,List.length_set,List.take_of_length_le,Nat.le_refl,Af])
  intro hm
  refine Bg.inline Tryz.call62 Tryz.func62 rfl rfl (by show _≤63;simp) ?_
  (try simp +decide -implicitDefEqProofs only[go_sem,Int.reduceAdd,Int.reduceMul,Int.reduceNeg,Int.reduceSub,bS,List.length_set,List.take_of_length_le,Nat.le_refl,Af])
  refine AWP.seq ?_
  refine AWP.region rfl ?_;intro K g
  (try simp +decide -implicitDefEqProofs only[go_sem,Int.reduceAdd,Int.reduceMul,Int.reduceNeg,Int.reduceSub,bS,List.length_set,List.take_of_length_le,Nat.le_refl,Af])
  refine g _ _ ?_;clear g K
  refine Aa ?_
  refine AWP.seq ?_
  refine AWP.region rfl ?_;intro K g
  (try simp +decide -implicitDefEqProofs only[go_sem,Int.reduceAdd,Int.reduceMul,Int.reduceNeg,Int.reduceSub,bS,List.length_set,List.take_of_length_le,Nat.le_refl,Af])
  refine g _ _ ?_;clear g K
  refine Aa ?_
  refine AWP.seq ?_
  refine AWP.block ?_
  refine AWP.rounds 1 ?_
  refine Bx.step ?_
  refine AWP.seq ?_
  refine AWP.seq ?_
  refine AWP.region rfl ?_;intro K g
  (try simp +decide -implicitDefEqProofs only[go_sem,Int.reduceAdd,Int.reduceMul,Int.reduceNeg,Int.reduceSub,bS,List.length_set,List.take_of_length_le,Nat.le_refl,Af])
  refine g _ _ ?_;clear g K
  refine Aa ?_
  refine AWP.cond (Ai (fun hc=>?_) (fun hc=>?_))
  ·replace h:=Au h hc
   refine AWP.skip ?_
   cases h
  replace h:=Av h hc
  refine AWP.exit ?_
  refine An ?_
  refine An ?_
  refine A6 ?_
  refine Aa ?_
  refine AWP.seq ?_
  refine AWP.region rfl ?_;intro K g
  (try simp +decide -implicitDefEqProofs only[go_sem,Int.reduceAdd,Int.reduceMul,Int.reduceNeg,Int.reduceSub,bS,List.length_set,List.take_of_length_le,Nat.le_refl,Af])
  refine Bg.inline Tryz.call89 Tryz.func89 rfl rfl (by show _≤53;simp) ?_
  (try simp +decide -implicitDefEqProofs only[go_sem,Int.reduceAdd,Int.reduceMul,Int.reduceNeg,Int.reduceSub,bS,List.length_set,List.take_of_length_le,Nat.le_refl,Af])
  refine AWP.seq ?_
  refine AWP.region rfl ?_;intro K g
  (try simp +decide -implicitDefEqProofs only[go_sem,Int.reduceAdd,Int.reduceMul,Int.reduceNeg,Int.reduceSub,bS,List.length_set,List.take_of_length_le,Nat.le_refl,Af])
  refine g _ _ ?_;clear g K
  refine Aa ?_
  refine AWP.block ?_
  refine AWP.rounds 2 ?_
  refine Bx.step ?_
  refine AWP.seq ?_
  refine AWP.seq ?_
  refine AWP.region rfl ?_;intro K g
  (try simp +decide -implicitDefEqProofs only[go_sem,Int.reduceAdd,Int.reduceMul,Int.reduceNeg,Int.reduceSub,bS,List.length_set,List.take_of_length_le,Nat.le_refl,Af])
  refine g _ _ ?_;clear g K
  refine Aa ?_
  refine AWP.cond (Ai (fun hc=>?_) (fun hc=>?_))
  rotate_left
  ·replace h:=Av h hc
   refine AWP.exit ?_
   cases h
  replace h:=Au h hc
  refine AWP.skip ?_
  refine Aa ?_
  refine AWP.seq ?_
  refine AWP.block ?_
  refine AWP.seq ?_
  refine AWP.region rfl ?_;intro K g
  (try simp +decide -implicitDefEqProofs only[go_sem,Int.reduceAdd,Int.reduceMul,Int.reduceNeg,Int.reduceSub,bS,List.length_set,List.take_of_length_le,Nat.le_refl,Af])
  refine g _ _ ?_;clear g K
  refine Aa ?_
  refine AWP.block ?_
  refine AWP.rounds 2 ?_
  refine Bx.step ?_
  refine AWP.seq ?_
  refine AWP.seq ?_
  refine AWP.draw Tryz.mixed (by kernel_rfl) ?_;intro K g
  (try simp +decide -implicitDefEqProofs only[go_sem,Int.reduceAdd,Int.reduceMul,Int.reduceNeg,Int.reduceSub,bS,List.length_set,List.take_of_length_le,Nat.le_refl,Af])
  refine Dt ey (by first | rfl | exact(Aw _).symm | (simp only[bR,List.length_cons,List.length_nil,List.length_set,bS]<;>omega) | (simp only[List.length_take,List.length_drop,List.length_set,bS]<;>omega)) ?_
  (try simp +decide -implicitDefEqProofs only[go_sem,Int.reduceAdd,Int.reduceMul,Int.reduceNeg,Int.reduceSub,bS,List.length_set,List.take_of_length_le,Nat.le_refl,Af])
  refine Bt.ofNat (f:=B5) (l:=(((List.replicate weights.length (0:Int)).set 0 (0:Int)).set 1 (1:Int))) (n:=1) ey ?_
  (try simp +decide -implicitDefEqProofs only[go_sem,Int.reduceAdd,Int.reduceMul,Int.reduceNeg,Int.reduceSub,bS,List.length_set,List.take_of_length_le,Nat.le_refl,Af])
  obtain⟨cp,cx,h⟩:=A2 h
  refine Dt cx (by first | rfl | exact(Aw _).symm | (simp only[bR,List.length_cons,List.length_nil,List.length_set,bS]<;>omega) | (simp only[List.length_take,List.length_drop,List.length_set,bS]<;>omega)) ?_
  (try simp +decide -implicitDefEqProofs only[go_sem,Int.reduceAdd,Int.reduceMul,Int.reduceNeg,Int.reduceSub,bS,List.length_set,List.take_of_length_le,Nat.le_refl,Af])
  refine Bt.ofNat (f:=B5) (l:=(((List.replicate weights.length (0:Int)).set 0 (0:Int)).set 1 (1:Int))) (n:=0) cx ?_
  (try simp +decide -implicitDefEqProofs only[go_sem,Int.reduceAdd,Int.reduceMul,Int.reduceNeg,Int.reduceSub,bS,List.length_set,List.take_of_length_le,Nat.le_refl,Af])
  obtain⟨iz,jg,h⟩:=A2 h
  refine B9.V2 Tryz.call38 (Kp (1:Int) cp (((List.replicate weights.length (0:Int)).set 0 y3.2).set 1 y9.2) jg) rfl ?_
  (try simp +decide -implicitDefEqProofs only[go_sem,Int.reduceAdd,Int.reduceMul,Int.reduceNeg,Int.reduceSub,bS,List.length_set,List.take_of_length_le,Nat.le_refl,Af])
  refine g _ _ _ (by kernel_rfl) ?_;clear g K
  refine Aa ?_
  refine AWP.cond (Ai (fun hc=>?_) (fun hc=>?_))
  ·replace h:=Au h hc
   refine AWP.skip ?_
   refine Aa ?_
   refine AWP.seq ?_
   refine AWP.block ?_
   refine AWP.draw Tryz.mixed (by kernel_rfl) ?_;intro K g
   (try simp +decide -implicitDefEqProofs only[go_sem,Int.reduceAdd,Int.reduceMul,Int.reduceNeg,Int.reduceSub,bS,List.length_set,List.take_of_length_le,Nat.le_refl,Af])
   refine Dt cx (by first | rfl | exact(Aw _).symm | (simp only[bR,List.length_cons,List.length_nil,List.length_set,bS]<;>omega) | (simp only[List.length_take,List.length_drop,List.length_set,bS]<;>omega)) ?_
   (try simp +decide -implicitDefEqProofs only[go_sem,Int.reduceAdd,Int.reduceMul,Int.reduceNeg,Int.reduceSub,bS,List.length_set,List.take_of_length_le,Nat.le_refl,Af])
   refine Bt.ofNat (f:=B5) (l:=(((List.replicate weights.length (0:Int)).set 0 (0:Int)).set 1 (1:Int))) (n:=0) cx ?_
   (try simp +decide -implicitDefEqProofs only[go_sem,Int.reduceAdd,Int.reduceMul,Int.reduceNeg,Int.reduceSub,bS,List.length_set,List.take_of_length_le,Nat.le_refl,Af])
   refine Dt ey (by first | rfl | exact(Aw _).symm | (simp only[bR,List.length_cons,List.length_nil,List.length_set,bS]<;>omega) | (simp only[List.length_take,List.length_drop,List.length_set,bS]<;>omega)) ?_
   (try simp +decide -implicitDefEqProofs only[go_sem,Int.reduceAdd,Int.reduceMul,Int.reduceNeg,Int.reduceSub,bS,List.length_set,List.take_of_length_le,Nat.le_refl,Af])
   refine Bt.ofNat (f:=B5) (l:=(((List.replicate weights.length (0:Int)).set 0 (0:Int)).set 1 (1:Int))) (n:=1) ey ?_
   (try simp +decide -implicitDefEqProofs only[go_sem,Int.reduceAdd,Int.reduceMul,Int.reduceNeg,Int.reduceSub,bS,List.length_set,List.take_of_length_le,Nat.le_refl,Af])
   refine Dt ey (by first | rfl | exact(Aw _).symm | (simp only[bR,List.length_cons,List.length_nil,List.length_set,bS]<;>omega) | (simp only[List.length_take,List.length_drop,List.length_set,bS]<;>omega)) ?_
   (try simp +decide -implicitDefEqProofs only[go_sem,Int.reduceAdd,Int.reduceMul,Int.reduceNeg,Int.reduceSub,bS,List.length_set,List.take_of_length_le,Nat.le_refl,Af])
   refine Bt.ofNat (f:=B5) (l:=(((List.replicate weights.length (0:Int)).set 0 (0:Int)).set 1 (1:Int))) (n:=1) ey ?_
   have ju:=Ce (y:=cp) ey
   (try simp +decide -implicitDefEqProofs only[go_sem,Int.reduceAdd,Int.reduceMul,Int.reduceNeg,Int.reduceSub,bS,List.length_set,List.take_of_length_le,Nat.le_refl,Af])
   obtain⟨dt,cw,h⟩:=A2 h
   refine Dt cw (by first | rfl | exact(Aw _).symm | (simp only[bR,List.length_cons,List.length_nil,List.length_set,bS]<;>omega) | (simp only[List.length_take,List.length_drop,List.length_set,bS]<;>omega)) ?_
   (try simp +decide -implicitDefEqProofs only[go_sem,Int.reduceAdd,Int.reduceMul,Int.reduceNeg,Int.reduceSub,bS,List.length_set,List.take_of_length_le,Nat.le_refl,Af])
   refine Bt.ofNat (f:=B5) (l:=((((List.replicate weights.length (0:Int)).set 0 (0:Int)).set 1 (1:Int)).set 1 cp)) (n:=0) cw ?_
   have wj:=Ce (y:=1) cw
   (try simp +decide -implicitDefEqProofs only[go_sem,Int.reduceAdd,Int.reduceMul,Int.reduceNeg,Int.reduceSub,bS,List.length_set,List.take_of_length_le,Nat.le_refl,Af])
   refine g _ _ _ (by kernel_rfl) ?_;clear g K
   refine Al ?_
   refine Aa ?_
   refine AWP.region rfl ?_;intro K g
   (try simp +decide -implicitDefEqProofs only[go_sem,Int.reduceAdd,Int.reduceMul,Int.reduceNeg,Int.reduceSub,bS,List.length_set,List.take_of_length_le,Nat.le_refl,Af])
   refine g _ _ ?_;clear g K
   refine Aa ?_
   refine Bx.step ?_
   refine AWP.seq ?_
   refine AWP.seq ?_
   refine AWP.draw Tryz.mixed (by kernel_rfl) ?_;intro K g
   (try simp +decide -implicitDefEqProofs only[go_sem,Int.reduceAdd,Int.reduceMul,Int.reduceNeg,Int.reduceSub,bS,List.length_set,List.take_of_length_le,Nat.le_refl,Af])
   refine g _ _ _ (by kernel_rfl) ?_;clear g K
   refine Aa ?_
   refine AWP.cond (Bu ?_)
   refine AWP.exit ?_
   refine An ?_
   refine An ?_
   refine A6 ?_
   refine Al ?_
   refine Aa ?_
   refine AWP.region rfl ?_;intro K g
   (try simp +decide -implicitDefEqProofs only[go_sem,Int.reduceAdd,Int.reduceMul,Int.reduceNeg,Int.reduceSub,bS,List.length_set,List.take_of_length_le,Nat.le_refl,Af])
   refine g _ _ ?_;clear g K
   refine Aa ?_
   refine Bx.step ?_
   refine AWP.seq ?_
   refine AWP.seq ?_
   refine AWP.region rfl ?_;intro K g
   (try simp +decide -implicitDefEqProofs only[go_sem,Int.reduceAdd,Int.reduceMul,Int.reduceNeg,Int.reduceSub,bS,List.length_set,List.take_of_length_le,Nat.le_refl,Af])
   refine g _ _ ?_;clear g K
   refine Aa ?_
   refine AWP.cond (Ai (fun hc=>?_) (fun hc=>?_))
   ·replace h:=Au h hc
    refine AWP.skip ?_
    cases h
   replace h:=Av h hc
   refine AWP.exit ?_
   refine An ?_
   refine An ?_
   refine A6 ?_
   (try simp +decide -implicitDefEqProofs only[go_sem,Tryz.results89,Int.reduceAdd,Int.reduceMul,Int.reduceNeg,Int.reduceSub,bS,List.length_set,List.take_of_length_le,Nat.le_refl,Af])
   refine g _ _ ?_;clear g K
   refine Aa ?_
   refine AWP.block ?_
   refine AWP.rounds 1 ?_
   refine Bx.step ?_
   refine AWP.seq ?_
   refine AWP.seq ?_
   refine AWP.region rfl ?_;intro K g
   (try simp +decide -implicitDefEqProofs only[go_sem,Int.reduceAdd,Int.reduceMul,Int.reduceNeg,Int.reduceSub,bS,List.length_set,List.take_of_length_le,Nat.le_refl,Af])
   refine g _ _ ?_;clear g K
   refine Aa ?_
   refine AWP.cond (Ai (fun hc=>?_) (fun hc=>?_))
   ·replace h:=Au h hc
    refine AWP.skip ?_
    cases h
   replace h:=Av h hc
   refine AWP.exit ?_
   refine An ?_
   refine An ?_
   refine A6 ?_
   (try simp +decide -implicitDefEqProofs only[go_sem,Tryz.results62,Int.reduceAdd,Int.reduceMul,Int.reduceNeg,Int.reduceSub,bS,List.length_set,List.take_of_length_le,Nat.le_refl,Af])
   refine g _ _ ?_;clear g K
   (try simp +decide -implicitDefEqProofs only[go_sem,Tryz.results37,Int.reduceAdd,Int.reduceMul,Int.reduceNeg,Int.reduceSub,bS,List.length_set,List.take_of_length_le,Nat.le_refl,Af])
   refine g _ _ ?_
   refine Aa ?_
   refine AWP.seq ?_
   refine AWP.seq ?_
   refine AWP.region rfl ?_;intro K g
   (try simp +decide -implicitDefEqProofs only[go_sem,Int.reduceAdd,Int.reduceMul,Int.reduceNeg,Int.reduceSub,bS,List.length_set,List.take_of_length_le,Nat.le_refl,Af])
   obtain⟨hk,h⟩:=H8 h
   (repeat(refine⟨by omega,?_⟩))
   intro hm
   refine g _ _ ?_
   refine Aa ?_
   refine AWP.sub (Sub.window 71 rfl rfl) ?_
   (try simp +decide -implicitDefEqProofs only[go_sem,Int.reduceAdd,Int.reduceMul,Int.reduceNeg,Int.reduceSub,bS,List.length_set,List.take_of_length_le,Nat.le_refl,Af])
   refine AWP.block ?_
   refine AWP.rounds 2 ?_
   refine Bx.step ?_
   refine AWP.seq ?_
   refine AWP.region rfl ?_;intro K g
   (try simp +decide -implicitDefEqProofs only[go_sem,Int.reduceAdd,Int.reduceMul,Int.reduceNeg,Int.reduceSub,bS,List.length_set,List.take_of_length_le,Nat.le_refl,Af])
   refine g _ _ ?_
   refine Aa ?_
   refine AWP.seq ?_
   refine AWP.cond (Ai (fun hc=>?_) (fun hc=>?_))
   rotate_left
   ·replace h:=Av h hc
    refine AWP.exit ?_
    cases h
   replace h:=Au h hc
   refine AWP.skip ?_
   refine Aa ?_
   refine AWP.seq ?_
   refine AWP.block ?_
   refine AWP.seq ?_
   refine AWP.region rfl ?_;intro K g
   (try simp +decide -implicitDefEqProofs only[go_sem,Int.reduceAdd,Int.reduceMul,Int.reduceNeg,Int.reduceSub,bS,List.length_set,List.take_of_length_le,Nat.le_refl,Af])
   obtain⟨dy,la,h⟩:=A2 h
   refine Dt la (by first | rfl | exact(Aw _).symm | (simp only[bR,List.length_cons,List.length_nil,List.length_set,bS]<;>omega) | (simp only[List.length_take,List.length_drop,List.length_set,bS]<;>omega)) ?_
   (try simp +decide -implicitDefEqProofs only[go_sem,Int.reduceAdd,Int.reduceMul,Int.reduceNeg,Int.reduceSub,bS,List.length_set,List.take_of_length_le,Nat.le_refl,Af])
   refine Bt.ofNat (f:=B5) (l:=((((((List.replicate weights.length (0:Int)).set 0 (0:Int)).set 1 (1:Int)).set 1 cp).set 0 (1:Int)).take (IntKind.i64.wrap ((IntKind.i64.wrap (amount - y3.1)) - y9.1)).toNat)) (n:=0) la ?_
   (try simp +decide -implicitDefEqProofs only[go_sem,Int.reduceAdd,Int.reduceMul,Int.reduceNeg,Int.reduceSub,bS,List.length_set,List.take_of_length_le,Nat.le_refl,Af])
   refine g _ _ ?_
   refine Aa ?_
   refine AWP.region rfl ?_;intro K g
   (try simp +decide -implicitDefEqProofs only[go_sem,Int.reduceAdd,Int.reduceMul,Int.reduceNeg,Int.reduceSub,bS,List.length_set,List.take_of_length_le,Nat.le_refl,Af])
   obtain⟨bu,fp,h⟩:=A2 h
   refine C5 fp (by first | rfl | exact(Aw _).symm | (simp only[bR,List.length_cons,List.length_nil,List.length_set,bS]<;>omega) | (simp only[List.length_take,List.length_drop,List.length_set,bS]<;>omega)) ?_
   (try simp +decide -implicitDefEqProofs only[go_sem,Int.reduceAdd,Int.reduceMul,Int.reduceNeg,Int.reduceSub,bS,List.length_set,List.take_of_length_le,Nat.le_refl,Af])
   refine Bt.of (f:=B5) (l:=(((List.replicate weights.length (0:Int)).set 0 y3.1).set 1 y9.1)) (n:=dy) fp ?_
   (try simp +decide -implicitDefEqProofs only[go_sem,Int.reduceAdd,Int.reduceMul,Int.reduceNeg,Int.reduceSub,bS,List.length_set,List.take_of_length_le,Nat.le_refl,Af])
   refine C5 fp (by first | rfl | exact(Aw _).symm | (simp only[bR,List.length_cons,List.length_nil,List.length_set,bS]<;>omega) | (simp only[List.length_take,List.length_drop,List.length_set,bS]<;>omega)) ?_
   (try simp +decide -implicitDefEqProofs only[go_sem,Int.reduceAdd,Int.reduceMul,Int.reduceNeg,Int.reduceSub,bS,List.length_set,List.take_of_length_le,Nat.le_refl,Af])
   refine Bt.of (f:=B5) (l:=(((List.replicate weights.length (0:Int)).set 0 y3.1).set 1 y9.1)) (n:=dy) fp ?_
   have se:=Ce (y:=(IntKind.i64.wrap (bu+1))) fp
   (try simp +decide -implicitDefEqProofs only[go_sem,Int.reduceAdd,Int.reduceMul,Int.reduceNeg,Int.reduceSub,bS,List.length_set,List.take_of_length_le,Nat.le_refl,Af])
   refine g _ _ ?_
   refine Al ?_
   refine Aa ?_
   refine AWP.region rfl ?_;intro K g
   (try simp +decide -implicitDefEqProofs only[go_sem,Int.reduceAdd,Int.reduceMul,Int.reduceNeg,Int.reduceSub,bS,List.length_set,List.take_of_length_le,Nat.le_refl,Af])
   refine g _ _ ?_
   refine Aa ?_
   refine Bx.step ?_
   refine AWP.seq ?_
   refine AWP.region rfl ?_;intro K g
   (try simp +decide -implicitDefEqProofs only[go_sem,Int.reduceAdd,Int.reduceMul,Int.reduceNeg,Int.reduceSub,bS,List.length_set,List.take_of_length_le,Nat.le_refl,Af])
   refine g _ _ ?_
   refine Aa ?_
   refine AWP.seq ?_
   refine AWP.cond (Ai (fun hc=>?_) (fun hc=>?_))
   ·replace h:=Au h hc
    refine AWP.skip ?_
    cases h
   replace h:=Av h hc
   refine AWP.exit ?_
   refine An ?_
   refine An ?_
   refine A6 ?_
   refine Aa ?_
   refine AWP.seq ?_
   refine AWP.region rfl ?_;intro K g
   (try simp +decide -implicitDefEqProofs only[go_sem,Int.reduceAdd,Int.reduceMul,Int.reduceNeg,Int.reduceSub,bS,List.length_set,List.take_of_length_le,Nat.le_refl,Af])
   refine g _ _ ?_
   refine Aa ?_
   refine AWP.ret ?_
   obtain rfl:=Ag h
   simp +decide -implicitDefEqProofs only[go_sem,Ae,Ac.int.injEq,Int.natCast_zero,List.replicate_zero,List.length_take,List.length_drop,Ac.own.injEq,reduceCtorEq,Int.reduceAdd,Bc,Bd,A8,Bb,A9,Tryz.results12,Int.reduceAdd,Int.reduceMul,Int.reduceNeg,Int.reduceSub,bS,List.length_set,List.take_of_length_le,Nat.le_refl,Af]
  replace h:=Av h hc
  refine AWP.exit ?_
  refine An ?_
  refine An ?_
  refine A6 ?_
  refine Al ?_
  refine Aa ?_
  refine AWP.region rfl ?_;intro K g
  (try simp +decide -implicitDefEqProofs only[go_sem,Int.reduceAdd,Int.reduceMul,Int.reduceNeg,Int.reduceSub,bS,List.length_set,List.take_of_length_le,Nat.le_refl,Af])
  refine g _ _ ?_;clear g K
  refine Aa ?_
  refine Bx.step ?_
  refine AWP.seq ?_
  refine AWP.seq ?_
  refine AWP.region rfl ?_;intro K g
  (try simp +decide -implicitDefEqProofs only[go_sem,Int.reduceAdd,Int.reduceMul,Int.reduceNeg,Int.reduceSub,bS,List.length_set,List.take_of_length_le,Nat.le_refl,Af])
  refine g _ _ ?_;clear g K
  refine Aa ?_
  refine AWP.cond (Ai (fun hc=>?_) (fun hc=>?_))
  ·replace h:=Au h hc
   refine AWP.skip ?_
   cases h
  replace h:=Av h hc
  refine AWP.exit ?_
  refine An ?_
  refine An ?_
  refine A6 ?_
  (try simp +decide -implicitDefEqProofs only[go_sem,Tryz.results89,Int.reduceAdd,Int.reduceMul,Int.reduceNeg,Int.reduceSub,bS,List.length_set,List.take_of_length_le,Nat.le_refl,Af])
  refine g _ _ ?_;clear g K
  refine Aa ?_
  refine AWP.block ?_
  refine AWP.rounds 1 ?_
  refine Bx.step ?_
  refine AWP.seq ?_
  refine AWP.seq ?_
  refine AWP.region rfl ?_;intro K g
  (try simp +decide -implicitDefEqProofs only[go_sem,Int.reduceAdd,Int.reduceMul,Int.reduceNeg,Int.reduceSub,bS,List.length_set,List.take_of_length_le,Nat.le_refl,Af])
  refine g _ _ ?_;clear g K
  refine Aa ?_
  refine AWP.cond (Ai (fun hc=>?_) (fun hc=>?_))
  ·replace h:=Au h hc
   refine AWP.skip ?_
   cases h
  replace h:=Av h hc
  refine AWP.exit ?_
  refine An ?_
  refine An ?_
  refine A6 ?_
  (try simp +decide -implicitDefEqProofs only[go_sem,Tryz.results62,Int.reduceAdd,Int.reduceMul,Int.reduceNeg,Int.reduceSub,bS,List.length_set,List.take_of_length_le,Nat.le_refl,Af])
  refine g _ _ ?_;clear g K
  (try simp +decide -implicitDefEqProofs only[go_sem,Tryz.results37,Int.reduceAdd,Int.reduceMul,Int.reduceNeg,Int.reduceSub,bS,List.length_set,List.take_of_length_le,Nat.le_refl,Af])
  refine g _ _ ?_
  refine Aa ?_
  refine AWP.seq ?_
  refine AWP.seq ?_
  refine AWP.region rfl ?_;intro K g
  (try simp +decide -implicitDefEqProofs only[go_sem,Int.reduceAdd,Int.reduceMul,Int.reduceNeg,Int.reduceSub,bS,List.length_set,List.take_of_length_le,Nat.le_refl,Af])
  obtain⟨hk,h⟩:=H8 h
  (repeat(refine⟨by omega,?_⟩))
  intro hm
  refine g _ _ ?_
  refine Aa ?_
  refine AWP.sub (Sub.window 71 rfl rfl) ?_
  (try simp +decide -implicitDefEqProofs only[go_sem,Int.reduceAdd,Int.reduceMul,Int.reduceNeg,Int.reduceSub,bS,List.length_set,List.take_of_length_le,Nat.le_refl,Af])
  refine AWP.block ?_
  refine AWP.rounds 2 ?_
  refine Bx.step ?_
  refine AWP.seq ?_
  refine AWP.region rfl ?_;intro K g
  (try simp +decide -implicitDefEqProofs only[go_sem,Int.reduceAdd,Int.reduceMul,Int.reduceNeg,Int.reduceSub,bS,List.length_set,List.take_of_length_le,Nat.le_refl,Af])
  refine g _ _ ?_
  refine Aa ?_
  refine AWP.seq ?_
  refine AWP.cond (Ai (fun hc=>?_) (fun hc=>?_))
  rotate_left
  ·replace h:=Av h hc
   refine AWP.exit ?_
   cases h
  replace h:=Au h hc
  refine AWP.skip ?_
  refine Aa ?_
  refine AWP.seq ?_
  refine AWP.block ?_
  refine AWP.seq ?_
  refine AWP.region rfl ?_;intro K g
  (try simp +decide -implicitDefEqProofs only[go_sem,Int.reduceAdd,Int.reduceMul,Int.reduceNeg,Int.reduceSub,bS,List.length_set,List.take_of_length_le,Nat.le_refl,Af])
  obtain⟨bt,er,h⟩:=A2 h
  refine Dt er (by first | rfl | exact(Aw _).symm | (simp only[bR,List.length_cons,List.length_nil,List.length_set,bS]<;>omega) | (simp only[List.length_take,List.length_drop,List.length_set,bS]<;>omega)) ?_
  (try simp +decide -implicitDefEqProofs only[go_sem,Int.reduceAdd,Int.reduceMul,Int.reduceNeg,Int.reduceSub,bS,List.length_set,List.take_of_length_le,Nat.le_refl,Af])
  refine Bt.ofNat (f:=B5) (l:=((((List.replicate weights.length (0:Int)).set 0 (0:Int)).set 1 (1:Int)).take (IntKind.i64.wrap ((IntKind.i64.wrap (amount - y3.1)) - y9.1)).toNat)) (n:=0) er ?_
  (try simp +decide -implicitDefEqProofs only[go_sem,Int.reduceAdd,Int.reduceMul,Int.reduceNeg,Int.reduceSub,bS,List.length_set,List.take_of_length_le,Nat.le_refl,Af])
  refine g _ _ ?_
  refine Aa ?_
  refine AWP.region rfl ?_;intro K g
  (try simp +decide -implicitDefEqProofs only[go_sem,Int.reduceAdd,Int.reduceMul,Int.reduceNeg,Int.reduceSub,bS,List.length_set,List.take_of_length_le,Nat.le_refl,Af])
  obtain⟨lu,fo,h⟩:=A2 h
  refine C5 fo (by first | rfl | exact(Aw _).symm | (simp only[bR,List.length_cons,List.length_nil,List.length_set,bS]<;>omega) | (simp only[List.length_take,List.length_drop,List.length_set,bS]<;>omega)) ?_
  (try simp +decide -implicitDefEqProofs only[go_sem,Int.reduceAdd,Int.reduceMul,Int.reduceNeg,Int.reduceSub,bS,List.length_set,List.take_of_length_le,Nat.le_refl,Af])
  refine Bt.of (f:=B5) (l:=(((List.replicate weights.length (0:Int)).set 0 y3.1).set 1 y9.1)) (n:=bt) fo ?_
  (try simp +decide -implicitDefEqProofs only[go_sem,Int.reduceAdd,Int.reduceMul,Int.reduceNeg,Int.reduceSub,bS,List.length_set,List.take_of_length_le,Nat.le_refl,Af])
  refine C5 fo (by first | rfl | exact(Aw _).symm | (simp only[bR,List.length_cons,List.length_nil,List.length_set,bS]<;>omega) | (simp only[List.length_take,List.length_drop,List.length_set,bS]<;>omega)) ?_
  (try simp +decide -implicitDefEqProofs only[go_sem,Int.reduceAdd,Int.reduceMul,Int.reduceNeg,Int.reduceSub,bS,List.length_set,List.take_of_length_le,Nat.le_refl,Af])
  refine Bt.of (f:=B5) (l:=(((List.replicate weights.length (0:Int)).set 0 y3.1).set 1 y9.1)) (n:=bt) fo ?_
  have wi:=Ce (y:=(IntKind.i64.wrap (lu+1))) fo
  (try simp +decide -implicitDefEqProofs only[go_sem,Int.reduceAdd,Int.reduceMul,Int.reduceNeg,Int.reduceSub,bS,List.length_set,List.take_of_length_le,Nat.le_refl,Af])
  refine g _ _ ?_
  refine Al ?_
  refine Aa ?_
  refine AWP.region rfl ?_;intro K g
  (try simp +decide -implicitDefEqProofs only[go_sem,Int.reduceAdd,Int.reduceMul,Int.reduceNeg,Int.reduceSub,bS,List.length_set,List.take_of_length_le,Nat.le_refl,Af])
  refine g _ _ ?_
  refine Aa ?_
  refine Bx.step ?_
  refine AWP.seq ?_
  refine AWP.region rfl ?_;intro K g
  (try simp +decide -implicitDefEqProofs only[go_sem,Int.reduceAdd,Int.reduceMul,Int.reduceNeg,Int.reduceSub,bS,List.length_set,List.take_of_length_le,Nat.le_refl,Af])
  refine g _ _ ?_
  refine Aa ?_
  refine AWP.seq ?_
  refine AWP.cond (Ai (fun hc=>?_) (fun hc=>?_))
  ·replace h:=Au h hc
   refine AWP.skip ?_
   cases h
  replace h:=Av h hc
  refine AWP.exit ?_
  refine An ?_
  refine An ?_
  refine A6 ?_
  refine Aa ?_
  refine AWP.seq ?_
  refine AWP.region rfl ?_;intro K g
  (try simp +decide -implicitDefEqProofs only[go_sem,Int.reduceAdd,Int.reduceMul,Int.reduceNeg,Int.reduceSub,bS,List.length_set,List.take_of_length_le,Nat.le_refl,Af])
  refine g _ _ ?_
  refine Aa ?_
  refine AWP.ret ?_
  obtain rfl:=Ag h
  simp +decide -implicitDefEqProofs only[go_sem,Ae,Ac.int.injEq,Int.natCast_zero,List.replicate_zero,List.length_take,List.length_drop,Ac.own.injEq,reduceCtorEq,Int.reduceAdd,Bc,Bd,A8,Bb,A9,Tryz.results12,Int.reduceAdd,Int.reduceMul,Int.reduceNeg,Int.reduceSub,bS,List.length_set,List.take_of_length_le,Nat.le_refl,Af]
def He (l:List Ao):Option (Int):=
  (bif (decide (((l.length:Nat):Int)=0))then some 0 else(Ch l (IntKind.i64.wrap (((l.length:Nat):Int) - 1))).bind fun kg=>some kg.Span.To)
theorem Nt (l:List Ao) {r:Int} (h:He l=some r):Aq Tryz.prog 15 [.sl 5 (l.map Ay)] (·= .int .i64 r):=by
  refine Aq.nle (Aq.intro Tryz.func15 rfl rfl (by show _≤14;simp) ?_)
  unfold He at h
  (try simp +decide -implicitDefEqProofs only[go_sem])
  refine AWP.seq ?_
  refine AWP.region rfl ?_;intro K g
  (try simp +decide -implicitDefEqProofs only[go_sem])
  refine g _ _ ?_
  refine Aa ?_
  refine AWP.seq ?_
  refine AWP.seq ?_
  refine AWP.region rfl ?_;intro K g
  (try simp +decide -implicitDefEqProofs only[go_sem])
  intro hm
  refine g _ _ ?_
  refine Aa ?_
  refine AWP.cond (Ai (fun hc=>?_) (fun hc=>?_))
  ·replace h:=Au h hc
   refine AWP.seq ?_
   refine AWP.region rfl ?_;intro K g
   (try simp +decide -implicitDefEqProofs only[go_sem])
   refine g _ _ ?_
   refine Aa ?_
   refine AWP.ret ?_
   refine Ad ?_
   obtain rfl:=Ag h
   simp +decide -implicitDefEqProofs only[go_sem,Ae,Ac.int.injEq,Int.natCast_zero,List.replicate_zero,List.length_take,List.length_drop,Ac.own.injEq,reduceCtorEq,Int.reduceAdd,Bc,Bd,A8,Bb,A9,Tryz.results15]
  replace h:=Av h hc
  refine AWP.skip ?_
  refine Aa ?_
  refine AWP.seq ?_
  refine AWP.region rfl ?_;intro K g
  (try simp +decide -implicitDefEqProofs only[go_sem])
  intro hm
  obtain⟨kg,jl,h⟩:=A2 h
  refine Ca.of (f:=Ay) (l:=l) jl ?_
  (try simp +decide -implicitDefEqProofs only[go_sem])
  refine g _ _ ?_
  refine Aa ?_
  refine AWP.ret ?_
  obtain rfl:=Ag h
  simp +decide -implicitDefEqProofs only[go_sem,Ae,Ac.int.injEq,Int.natCast_zero,List.replicate_zero,List.length_take,List.length_drop,Ac.own.injEq,reduceCtorEq,Int.reduceAdd,Bc,Bd,A8,Bb,A9,Tryz.results15]
def Bk (s_:List Ao):Option (List Ao):=chk s_.length (some s_)
theorem B4 (s_:List Ao) {r:List Ao} (h:Bk s_=some r):F3 Tryz.prog 39 [.sl 5 (s_.map Ay)] 5 (r.map Ay):=by
  have hk:=(D6 h).1
  have hr:r=s_:=Ag (D6 h).2
  rw[hr];clear hr h
  refine F3.of ?_
  refine Ef.weak (R:=fun q H=>∃ v rest,q= .own 0 v 0 (s_.map Ay).length∧H= .row v 5 (s_.map Ay)::rest) (Ef.intro Tryz.func39 rfl rfl (by show _≤8;simp) ?_) (fun q H hq=>?_)
  ·(try simp +decide -implicitDefEqProofs only[go_sem])
   refine AWP.seq ?_
   refine AWP.region rfl ?_;intro K g
   (try simp +decide -implicitDefEqProofs only[go_sem])
   refine g _ _ ?_
   refine Aa ?_
   refine AWP.seq ?_
   refine AWP.seq ?_
   refine AWP.region rfl ?_;intro K g
   (try simp +decide -implicitDefEqProofs only[go_sem])
   intro bnil hb
   (try simp +decide -implicitDefEqProofs only[go_sem])
   refine g _ _ ?_
   refine Aa ?_
   refine AWP.cond (Ai (fun hc=>?_) (fun hc=>?_))
   ·have b7:s_=[]:=Classical.byContradiction fun ar=>by have:=hb (by simpa using ar);simp[this]at hc
    subst b7
    refine AWP.seq ?_
    refine AWP.region rfl ?_;intro K g
    (try simp +decide -implicitDefEqProofs only[go_sem])
    refine g _ _ ?_
    refine Aa ?_
    refine AWP.ghost 2 5 rfl (by decide) ?_
    (try simp +decide -implicitDefEqProofs only[go_sem])
    refine AWP.ret ?_
    refine Ad ?_
    (try simp +decide -implicitDefEqProofs only[go_sem,Tryz.results39])
    refine⟨_,_,?_,rfl⟩
    (try simp +decide -implicitDefEqProofs only[go_sem,bT,bR,List.length_cons,List.length_nil,List.length_set,bS]);try rfl
   clear hc
   refine AWP.skip ?_
   refine Aa ?_
   refine AWP.seq ?_
   refine AWP.region rfl ?_;intro K g
   (try simp +decide -implicitDefEqProofs only[go_sem])
   (repeat refine rp ?_);try simp +decide -implicitDefEqProofs only[go_sem]
   refine g _ _ ?_
   refine Aa ?_
   refine AWP.ret ?_
   (try simp +decide -implicitDefEqProofs only[go_sem,Tryz.results39])
   refine⟨_,_,?_,rfl⟩
   (try simp +decide -implicitDefEqProofs only[go_sem,bT,bR,List.length_cons,List.length_nil,List.length_set,bS]);try rfl
  obtain⟨v,rest,rfl,rfl⟩:=hq
  exact⟨[.row v 5 (s_.map Ay)],⟨⟨rfl,rfl,rfl⟩,by cases rest<;>trivial⟩,rfl,rfl,⟨v,rfl,rfl⟩⟩
def Bh (s_:List Bi):Option (List Bi):=chk s_.length (some s_)
theorem Bs (s_:List Bi) {r:List Bi} (h:Bh s_=some r):F3 Tryz.prog 40 [.sl 4 (s_.map Az)] 4 (r.map Az):=by
  have hk:=(D6 h).1
  have hr:r=s_:=Ag (D6 h).2
  rw[hr];clear hr h
  refine F3.of ?_
  refine Ef.weak (R:=fun q H=>∃ v rest,q= .own 0 v 0 (s_.map Az).length∧H= .row v 4 (s_.map Az)::rest) (Ef.intro Tryz.func40 rfl rfl (by show _≤8;simp) ?_) (fun q H hq=>?_)
  ·(try simp +decide -implicitDefEqProofs only[go_sem])
   refine AWP.seq ?_
   refine AWP.region rfl ?_;intro K g
   (try simp +decide -implicitDefEqProofs only[go_sem])
   refine g _ _ ?_
   refine Aa ?_
   refine AWP.seq ?_
   refine AWP.seq ?_
   refine AWP.region rfl ?_;intro K g
   (try simp +decide -implicitDefEqProofs only[go_sem])
   intro bnil hb
   (try simp +decide -implicitDefEqProofs only[go_sem])
   refine g _ _ ?_
   refine Aa ?_
   refine AWP.cond (Ai (fun hc=>?_) (fun hc=>?_))
   ·have b7:s_=[]:=Classical.byContradiction fun ar=>by have:=hb (by simpa using ar);simp[this]at hc
    subst b7
    refine AWP.seq ?_
    refine AWP.region rfl ?_;intro K g
    (try simp +decide -implicitDefEqProofs only[go_sem])
    refine g _ _ ?_
    refine Aa ?_
    refine AWP.ghost 2 4 rfl (by decide) ?_
    (try simp +decide -implicitDefEqProofs only[go_sem])
    refine AWP.ret ?_
    refine Ad ?_
    (try simp +decide -implicitDefEqProofs only[go_sem,Tryz.results40])
    refine⟨_,_,?_,rfl⟩
    (try simp +decide -implicitDefEqProofs only[go_sem,bT,bR,List.length_cons,List.length_nil,List.length_set,bS]);try rfl
   clear hc
   refine AWP.skip ?_
   refine Aa ?_
   refine AWP.seq ?_
   refine AWP.region rfl ?_;intro K g
   (try simp +decide -implicitDefEqProofs only[go_sem])
   (repeat refine rp ?_);try simp +decide -implicitDefEqProofs only[go_sem]
   refine g _ _ ?_
   refine Aa ?_
   refine AWP.ret ?_
   (try simp +decide -implicitDefEqProofs only[go_sem,Tryz.results40])
   refine⟨_,_,?_,rfl⟩
   (try simp +decide -implicitDefEqProofs only[go_sem,bT,bR,List.length_cons,List.length_nil,List.length_set,bS]);try rfl
  obtain⟨v,rest,rfl,rfl⟩:=hq
  exact⟨[.row v 4 (s_.map Az)],⟨⟨rfl,rfl,rfl⟩,by cases rest<;>trivial⟩,rfl,rfl,⟨v,rfl,rfl⟩⟩
def Bj (s_:List Ar):Option (List Ar):=chk s_.length (some s_)
theorem B0 (s_:List Ar) {r:List Ar} (h:Bj s_=some r):F3 Tryz.prog 41 [.sl 8 (s_.map A5)] 8 (r.map A5):=by
  have hk:=(D6 h).1
  have hr:r=s_:=Ag (D6 h).2
  rw[hr];clear hr h
  refine F3.of ?_
  refine Ef.weak (R:=fun q H=>∃ v rest,q= .own 0 v 0 (s_.map A5).length∧H= .row v 8 (s_.map A5)::rest) (Ef.intro Tryz.func41 rfl rfl (by show _≤8;simp) ?_) (fun q H hq=>?_)
  ·(try simp +decide -implicitDefEqProofs only[go_sem])
   refine AWP.seq ?_
   refine AWP.region rfl ?_;intro K g
   (try simp +decide -implicitDefEqProofs only[go_sem])
   refine g _ _ ?_
   refine Aa ?_
   refine AWP.seq ?_
   refine AWP.seq ?_
   refine AWP.region rfl ?_;intro K g
   (try simp +decide -implicitDefEqProofs only[go_sem])
   intro bnil hb
   (try simp +decide -implicitDefEqProofs only[go_sem])
   refine g _ _ ?_
   refine Aa ?_
   refine AWP.cond (Ai (fun hc=>?_) (fun hc=>?_))
   ·have b7:s_=[]:=Classical.byContradiction fun ar=>by have:=hb (by simpa using ar);simp[this]at hc
    subst b7
    refine AWP.seq ?_
    refine AWP.region rfl ?_;intro K g
    (try simp +decide -implicitDefEqProofs only[go_sem])
    refine g _ _ ?_
    refine Aa ?_
    refine AWP.ghost 2 8 rfl (by decide) ?_
    (try simp +decide -implicitDefEqProofs only[go_sem])
    refine AWP.ret ?_
    refine Ad ?_
    (try simp +decide -implicitDefEqProofs only[go_sem,Tryz.results41])
    refine⟨_,_,?_,rfl⟩
    (try simp +decide -implicitDefEqProofs only[go_sem,bT,bR,List.length_cons,List.length_nil,List.length_set,bS]);try rfl
   clear hc
   refine AWP.skip ?_
   refine Aa ?_
   refine AWP.seq ?_
   refine AWP.region rfl ?_;intro K g
   (try simp +decide -implicitDefEqProofs only[go_sem])
   (repeat refine rp ?_);try simp +decide -implicitDefEqProofs only[go_sem]
   refine g _ _ ?_
   refine Aa ?_
   refine AWP.ret ?_
   (try simp +decide -implicitDefEqProofs only[go_sem,Tryz.results41])
   refine⟨_,_,?_,rfl⟩
   (try simp +decide -implicitDefEqProofs only[go_sem,bT,bR,List.length_cons,List.length_nil,List.length_set,bS]);try rfl
  obtain⟨v,rest,rfl,rfl⟩:=hq
  exact⟨[.row v 8 (s_.map A5)],⟨⟨rfl,rfl,rfl⟩,by cases rest<;>trivial⟩,rfl,rfl,⟨v,rfl,rfl⟩⟩
def A3 (s_:List Ax):Option (List Ax):=chk s_.length (some s_)
theorem Ex (s_:List Ax) {r:List Ax} (h:A3 s_=some r):F3 Tryz.prog 22 [.sl 2 (s_.map Am)] 2 (r.map Am):=by
  have hk:=(D6 h).1
  have hr:r=s_:=Ag (D6 h).2
  rw[hr];clear hr h
  refine F3.of ?_
  refine Ef.weak (R:=fun q H=>∃ v rest,q= .own 0 v 0 (s_.map Am).length∧H= .row v 2 (s_.map Am)::rest) (Ef.intro Tryz.func22 rfl rfl (by show _≤8;simp) ?_) (fun q H hq=>?_)
  ·(try simp +decide -implicitDefEqProofs only[go_sem])
   refine AWP.seq ?_
   refine AWP.region rfl ?_;intro K g
   (try simp +decide -implicitDefEqProofs only[go_sem])
   refine g _ _ ?_
   refine Aa ?_
   refine AWP.seq ?_
   refine AWP.seq ?_
   refine AWP.region rfl ?_;intro K g
   (try simp +decide -implicitDefEqProofs only[go_sem])
   intro bnil hb
   (try simp +decide -implicitDefEqProofs only[go_sem])
   refine g _ _ ?_
   refine Aa ?_
   refine AWP.cond (Ai (fun hc=>?_) (fun hc=>?_))
   ·have b7:s_=[]:=Classical.byContradiction fun ar=>by have:=hb (by simpa using ar);simp[this]at hc
    subst b7
    refine AWP.seq ?_
    refine AWP.region rfl ?_;intro K g
    (try simp +decide -implicitDefEqProofs only[go_sem])
    refine g _ _ ?_
    refine Aa ?_
    refine AWP.ghost 2 2 rfl (by decide) ?_
    (try simp +decide -implicitDefEqProofs only[go_sem])
    refine AWP.ret ?_
    refine Ad ?_
    (try simp +decide -implicitDefEqProofs only[go_sem,Tryz.results22])
    refine⟨_,_,?_,rfl⟩
    (try simp +decide -implicitDefEqProofs only[go_sem,bT,bR,List.length_cons,List.length_nil,List.length_set,bS]);try rfl
   clear hc
   refine AWP.skip ?_
   refine Aa ?_
   refine AWP.seq ?_
   refine AWP.region rfl ?_;intro K g
   (try simp +decide -implicitDefEqProofs only[go_sem])
   (repeat refine rp ?_);try simp +decide -implicitDefEqProofs only[go_sem]
   refine g _ _ ?_
   refine Aa ?_
   refine AWP.ret ?_
   (try simp +decide -implicitDefEqProofs only[go_sem,Tryz.results22])
   refine⟨_,_,?_,rfl⟩
   (try simp +decide -implicitDefEqProofs only[go_sem,bT,bR,List.length_cons,List.length_nil,List.length_set,bS]);try rfl
  obtain⟨v,rest,rfl,rfl⟩:=hq
  exact⟨[.row v 2 (s_.map Am)],⟨⟨rfl,rfl,rfl⟩,by cases rest<;>trivial⟩,rfl,rfl,⟨v,rfl,rfl⟩⟩
theorem Ei (s_:List Ax) {r:List Ax} (h:A3 s_=some r):Ci Tryz.prog 22 [.sl 2 (s_.map Am)] (·= .sl 2 (r.map Am)):=Ci.nle (Ef.fresh (Ef.mono (Ex s_ h) fun q H=>by rintro⟨rfl,rfl⟩;simp +decide -implicitDefEqProofs only[go_sem,Ae,Ac.int.injEq,Int.natCast_zero,List.replicate_zero,List.length_take,List.length_drop,Ac.own.injEq,reduceCtorEq,Int.reduceAdd,Bc,Bd,A8,Bb,A9,bT]))
theorem Bq (s_:List Ax) {r:List Ax} (h:A3 s_=some r):Aq Tryz.prog 22 [.sl 2 (s_.map Am)] (·= .sl 2 (r.map Am)):=(Ei s_ h).pure
def Ed (k6:Nat) (dn:Ao) (sv:(List Ao)):Option (Out ((List Ao)) (Be×Int)):=
  (Ch sv ((k6:Nat):Int)).bind fun dx=>(A3 dx.Shares).bind fun kd=>some (Out.next (sv.set k6 (Ao.mk dx.Number dx.Span dx.Closed kd)))
def D4 (b:Be) (to_:Int):Option (Be×Int):=
  (bif (decide (64≤((b.Periods.length:Nat):Int)))then some ((Be.mk [] [] []),9)else (He b.Periods).bind fun y1=>(bif (decide (to_≤y1))then some ((Be.mk [] [] []),11)else (bif (decide (20000000<to_))then some ((Be.mk [] [] []),11)else (Bk b.Periods).bind fun y2=>(Bh b.Postings).bind fun y3=>(Bj b.Rides).bind fun y4=>(Bo Ed 0 y2 y2).bind fun o6=>o6.on fun s6=>chk (s6.length+1) (some ((Be.mk (s6++[(Ao.mk (IntKind.i64.wrap (((b.Periods.length:Nat):Int)+1)) (Gp.mk y1 to_) false [])]) y3 y4),0)))))
theorem Hy (b:Be) (to_:Int) {r:Be×Int} (h:D4 b to_=some r):Aq Tryz.prog 6 [.agg (Cu b),.int .i64 to_] (·= .tuple [.agg (Cu r.1),.int .i64 r.2]):=by
  refine Aq.nle (Aq.intro Tryz.func6 rfl rfl (by show _≤40;simp) ?_)
  unfold D4 at h
  (try simp +decide -implicitDefEqProofs only[go_sem])
  refine AWP.seq ?_
  refine AWP.region rfl ?_;intro K g
  (try simp +decide -implicitDefEqProofs only[go_sem])
  refine g _ _ ?_
  refine Aa ?_
  refine AWP.seq ?_
  refine AWP.seq ?_
  refine AWP.region rfl ?_;intro K g
  (try simp +decide -implicitDefEqProofs only[go_sem])
  intro hm
  refine g _ _ ?_
  refine Aa ?_
  refine AWP.cond (Ai (fun hc=>?_) (fun hc=>?_))
  ·replace h:=Au h hc
   refine AWP.seq ?_
   refine AWP.region rfl ?_;intro K g
   (try simp +decide -implicitDefEqProofs only[go_sem])
   refine g _ _ ?_
   refine Aa ?_
   refine AWP.ret ?_
   refine Ad ?_
   obtain rfl:=Ag h
   simp +decide -implicitDefEqProofs only[go_sem,Ae,Ac.int.injEq,Int.natCast_zero,List.replicate_zero,List.length_take,List.length_drop,Ac.own.injEq,reduceCtorEq,Int.reduceAdd,Bc,Bd,A8,Bb,A9,Tryz.results6]
  replace h:=Av h hc
  refine AWP.skip ?_
  refine Aa ?_
  refine AWP.seq ?_
  refine AWP.region rfl ?_;intro K g
  (try simp +decide -implicitDefEqProofs only[go_sem])
  obtain⟨y1,ch,h⟩:=A2 h
  refine Bg.pure Tryz.call15 (Nt b.Periods ch) rfl fun _ hr=>?_
  subst hr
  (try simp +decide -implicitDefEqProofs only[go_sem])
  refine g _ _ ?_
  refine Aa ?_
  refine AWP.seq ?_
  refine AWP.seq ?_
  refine AWP.region rfl ?_;intro K g
  (try simp +decide -implicitDefEqProofs only[go_sem])
  refine Ak (fun hc=>?_) (fun hc=>?_)
  ·replace h:=Av h hc
   (try simp +decide -implicitDefEqProofs only[go_sem,hc])
   refine g _ _ ?_
   refine Aa ?_
   refine AWP.cond (Ai (fun hc=>?_) (fun hc=>?_))
   ·replace h:=Au h hc
    refine AWP.seq ?_
    refine AWP.region rfl ?_;intro K g
    (try simp +decide -implicitDefEqProofs only[go_sem])
    refine g _ _ ?_
    refine Aa ?_
    refine AWP.ret ?_
    refine Ad ?_
    obtain rfl:=Ag h
    simp +decide -implicitDefEqProofs only[go_sem,Ae,Ac.int.injEq,Int.natCast_zero,List.replicate_zero,List.length_take,List.length_drop,Ac.own.injEq,reduceCtorEq,Int.reduceAdd,Bc,Bd,A8,Bb,A9,Tryz.results6]
   replace h:=Av h hc
   refine AWP.skip ?_
   refine Aa ?_
   refine AWP.seq ?_
   refine AWP.region rfl ?_;intro K g
   (try simp +decide -implicitDefEqProofs only[go_sem])
   refine Bg.inline Tryz.call16 Tryz.func16 rfl rfl (by show _≤35;simp) ?_
   (try simp +decide -implicitDefEqProofs only[go_sem])
   refine AWP.seq ?_
   refine AWP.region rfl ?_;intro K g
   (try simp +decide -implicitDefEqProofs only[go_sem])
   refine g _ _ ?_;clear g K
   refine Aa ?_
   refine AWP.seq ?_
   refine AWP.draw Tryz.mixed (by kernel_rfl) ?_;intro K g
   (try simp +decide -implicitDefEqProofs only[go_sem])
   obtain⟨y2,dd,h⟩:=A2 h
   refine B9.row Tryz.call39 (B4 b.Periods dd) rfl ?_
   (try simp +decide -implicitDefEqProofs only[go_sem,bT])
   obtain⟨y3,ec,h⟩:=A2 h
   refine B9.row Tryz.call40 (Bs b.Postings ec) rfl ?_
   (try simp +decide -implicitDefEqProofs only[go_sem,bT])
   obtain⟨y4,gj,h⟩:=A2 h
   refine B9.row Tryz.call41 (B0 b.Rides gj) rfl ?_
   (try simp +decide -implicitDefEqProofs only[go_sem,bT])
   refine g _ _ _ (by kernel_rfl) ?_;clear g K
   refine Aa ?_
   refine AWP.seq ?_
   refine AWP.seq ?_
   refine AWP.region rfl ?_;intro K g
   (try simp +decide -implicitDefEqProofs only[go_sem])
   intro hm
   refine g _ _ ?_;clear g K
   refine Aa ?_
   refine AWP.block ?_
   obtain⟨o6,fc,ug⟩:=A2 h
   clear h
   refine AWP.Cv (ι:=Nat×((List Ao))×(Nat)) (fun zz=>[(2,.ptr 3 0),(3,.ptr 7 0),(17,.int .i64 ((y2.length:Nat):Int)),(18,.int .i64 ((zz.1:Nat):Int))]) (fun zz=>[.box [.sl 5 (b.Periods.map Ay),.sl 4 (b.Postings.map Az),.sl 8 (b.Rides.map A5)],.box [.nils,.nils,.nils],.gone,.box [.nils,.nils,.nils],.row zz.2.2 5 (zz.2.1.map Ay),.row 0 4 (y3.map Az),.row 0 8 (y4.map A5),.box [.own 4 zz.2.2 0 zz.2.1.length,.own 5 0 0 y3.length,.own 6 0 0 y4.length]]) (fun zz=>zz.1≤y2.length∧Bo Ed zz.1 ((y2).drop zz.1) zz.2.1=some o6) (fun zz=>y2.length - zz.1) (0,y2,0) ⟨Nat.zero_le _,fc⟩ (by(simp +decide -implicitDefEqProofs only[go_sem,Ae,Ac.int.injEq,Int.natCast_zero,List.replicate_zero,List.length_take,List.length_drop,Ac.own.injEq,reduceCtorEq,Int.reduceAdd]<;>omega)) (by(simp +decide -implicitDefEqProofs only[go_sem,Ae,Ac.int.injEq,Int.natCast_zero,List.replicate_zero,List.length_take,List.length_drop,Ac.own.injEq,reduceCtorEq,Int.reduceAdd]<;>omega)) (fun x=>⟨rfl,rfl,rfl⟩) ?_
   clear fc
   rintro⟨k6,o4_5,lv⟩ ⟨ta,fc⟩
   dsimp only at ta fc ⊢
   refine AWP.seq ?_
   refine AWP.region rfl ?_;intro K g
   (try simp +decide -implicitDefEqProofs only[go_sem])
   refine g _ _ ?_;clear g K
   refine Aa ?_
   refine AWP.seq ?_
   refine AWP.cond (Ai (fun hc=>?_) (fun hc=>?_))
   ·have mn:k6<y2.length:=by have:=bK hc;omega
    obtain⟨dn,b6,rn,h,fc⟩:=Bw fc mn
    have yn:=Br rn
    have oy:IntKind.i64.wrap (((k6:Nat):Int)+1)=(((k6:Nat):Int)+1):=by rw[wrap_i64]<;>omega
    unfold Ed at h;try dsimp only at h
    refine AWP.skip ?_
    refine Aa ?_
    refine AWP.seq ?_
    refine AWP.block ?_
    refine AWP.seq ?_
    refine AWP.region rfl ?_;intro K g
    (try simp +decide -implicitDefEqProofs only[go_sem])
    refine g _ _ ?_;clear g K
    refine Aa ?_
    refine AWP.draw Tryz.mixed (by kernel_rfl) ?_;intro K g
    (try simp +decide -implicitDefEqProofs only[go_sem])
    obtain⟨dx,gk,h⟩:=A2 h
    refine C5 gk (by first | rfl | exact(Aw _).symm | (simp only[bR,List.length_cons,List.length_nil,List.length_set,bS]<;>omega) | (simp only[List.length_take,List.length_drop,List.length_set,bS]<;>omega)) ?_
    (try simp +decide -implicitDefEqProofs only[go_sem])
    refine Bt.ofNat (f:=Ay) (l:=o4_5) (n:=k6) gk ?_
    (try simp +decide -implicitDefEqProofs only[go_sem])
    obtain⟨kd,l4,h⟩:=A2 h
    refine B9.pure Tryz.call22 (Bq dx.Shares l4) rfl ?_
    (try simp +decide -implicitDefEqProofs only[go_sem])
    refine C5 gk (by first | rfl | exact(Aw _).symm | (simp only[bR,List.length_cons,List.length_nil,List.length_set,bS]<;>omega) | (simp only[List.length_take,List.length_drop,List.length_set,bS]<;>omega)) ?_
    (try simp +decide -implicitDefEqProofs only[go_sem])
    refine Bt.ofNat (f:=Ay) (l:=o4_5) (n:=k6) gk ?_
    have mg:=Ce (y:=(Ao.mk dx.Number dx.Span dx.Closed kd)) gk
    (try simp +decide -implicitDefEqProofs only[go_sem])
    refine g _ _ _ (by kernel_rfl) ?_;clear g K
    refine Al ?_
    refine Aa ?_
    refine AWP.region rfl ?_;intro K g
    (try simp +decide -implicitDefEqProofs only[go_sem])
    refine g _ _ ?_;clear g K
    refine Aa ?_
    obtain rfl:=Ag h
    refine⟨(k6+1,(o4_5.set k6 (Ao.mk dx.Number dx.Span dx.Closed kd)),lv),⟨by dsimp only;omega,Bf fc⟩,by dsimp only;omega,?_,?_⟩
    ·(simp +decide -implicitDefEqProofs only[go_sem,Ae,Ac.int.injEq,Int.natCast_zero,List.replicate_zero,List.length_take,List.length_drop,Ac.own.injEq,reduceCtorEq,Int.reduceAdd,oy]<;>omega)
    (simp +decide -implicitDefEqProofs only[go_sem,Ae,Ac.int.injEq,Int.natCast_zero,List.replicate_zero,List.length_take,List.length_drop,Ac.own.injEq,reduceCtorEq,Int.reduceAdd,oy]<;>omega)
   obtain rfl:=B8 fc (fun hl=>by have:=bJ hc;omega)
   have h:=B7 ug;try dsimp only at h
   have ba:y2.length=k6:=by have:=bJ hc;omega
   subst ba
   refine AWP.exit ?_
   refine An ?_
   refine An ?_
   refine A6 ?_
   refine Aa ?_
   refine AWP.seq ?_
   refine AWP.region rfl ?_;intro K g
   (try simp +decide -implicitDefEqProofs only[go_sem])
   refine g _ _ ?_;clear g K
   refine Aa ?_
   refine AWP.ret ?_
   (try simp +decide -implicitDefEqProofs only[go_sem,Tryz.results16])
   refine g _ _ ?_
   refine Aa ?_
   refine AWP.seq ?_
   refine AWP.region rfl ?_;intro K g
   (try simp +decide -implicitDefEqProofs only[go_sem])
   intro hm
   obtain⟨hk,h⟩:=D6 h
   (repeat refine rp ?_);try simp +decide -implicitDefEqProofs only[go_sem]
   refine g _ _ ?_
   refine Aa ?_
   refine AWP.sub (Sub.denil 9 ([(Ao.mk (IntKind.i64.wrap (((b.Periods.length:Nat):Int)+(1:Int))) (Gp.mk y1 to_) false [])].map Ay) rfl (by simp +decide -implicitDefEqProofs only[go_sem,Ae,Ac.int.injEq,Int.natCast_zero,List.replicate_zero,List.length_take,List.length_drop,Ac.own.injEq,reduceCtorEq,Int.reduceAdd,Bc,Bd,A8,Bb,A9,Te,A9,A8])) ?_
   (try simp +decide -implicitDefEqProofs only[go_sem])
   refine AWP.sub (Sub.denil 4 ((o4_5++[(Ao.mk (IntKind.i64.wrap (((b.Periods.length:Nat):Int)+(1:Int))) (Gp.mk y1 to_) false [])]).map Ay) rfl (by rw[List.map_append];refine Rp _ ?_;simp +decide -implicitDefEqProofs only[go_sem,Ae,Ac.int.injEq,Int.natCast_zero,List.replicate_zero,List.length_take,List.length_drop,Ac.own.injEq,reduceCtorEq,Int.reduceAdd,Bc,Bd,A8,Bb,A9,Te,A9,A8])) ?_
   (try simp +decide -implicitDefEqProofs only[go_sem])
   refine AWP.seq ?_
   refine AWP.region rfl ?_;intro K g
   (try simp +decide -implicitDefEqProofs only[go_sem])
   refine g _ _ ?_
   refine Aa ?_
   refine AWP.ret ?_
   obtain rfl:=Ag h
   simp +decide -implicitDefEqProofs only[go_sem,Ae,Ac.int.injEq,Int.natCast_zero,List.replicate_zero,List.length_take,List.length_drop,Ac.own.injEq,reduceCtorEq,Int.reduceAdd,Bc,Bd,A8,Bb,A9,Tryz.results6]
  replace h:=Au h hc
  (try simp +decide -implicitDefEqProofs only[go_sem,hc,Bool.not_false])
  refine g _ _ ?_
  refine Aa ?_
  refine AWP.cond (A7 ?_)
  refine AWP.seq ?_
  refine AWP.region rfl ?_;intro K g
  (try simp +decide -implicitDefEqProofs only[go_sem])
  refine g _ _ ?_
  refine Aa ?_
  refine AWP.ret ?_
  refine Ad ?_
  obtain rfl:=Ag h
  simp +decide -implicitDefEqProofs only[go_sem,Ae,Ac.int.injEq,Int.natCast_zero,List.replicate_zero,List.length_take,List.length_drop,Ac.own.injEq,reduceCtorEq,Int.reduceAdd,Bc,Bd,A8,Bb,A9,Tryz.results6]
def Gs (k0:Nat) (ao:Ao) (sv:Unit):Option (Out (Unit) (Int)):=
  (bif (!ao.Closed)then some (Out.ret ao.Number)else some (Out.next ()))
def Dg (b:Be):Option (Int):=
  (Bo Gs 0 b.Periods ()).bind fun o0=>o0.on fun s0=>some 0
theorem Ft (b:Be) {r:Int} (h:Dg b=some r):Aq Tryz.prog 7 [.agg (Cu b)] (·= .int .i64 r):=by
  refine Aq.nle (Aq.intro Tryz.func7 rfl rfl (by show _≤18;simp) ?_)
  unfold Dg at h
  (try simp +decide -implicitDefEqProofs only[go_sem])
  refine AWP.seq ?_
  refine AWP.region rfl ?_;intro K g
  (try simp +decide -implicitDefEqProofs only[go_sem])
  refine g _ _ ?_
  refine Aa ?_
  refine AWP.seq ?_
  refine AWP.seq ?_
  refine AWP.region rfl ?_;intro K g
  (try simp +decide -implicitDefEqProofs only[go_sem])
  intro hm
  refine g _ _ ?_
  refine Aa ?_
  refine AWP.block ?_
  obtain⟨o0,ae,bg⟩:=A2 h
  clear h
  refine AWP.Cv (ι:=Nat×(Unit)×(Unit)) (fun zz=>[(6,.sl 5 (b.Periods.map Ay)),(7,.int .i64 ((b.Periods.length:Nat):Int)),(8,.int .i64 ((zz.1:Nat):Int))]) (fun zz=>[]) (fun zz=>zz.1≤b.Periods.length∧Bo Gs zz.1 ((b.Periods).drop zz.1) zz.2.1=some o0) (fun zz=>b.Periods.length - zz.1) (0,(),()) ⟨Nat.zero_le _,ae⟩ (by(simp +decide -implicitDefEqProofs only[go_sem,Ae,Ac.int.injEq,Int.natCast_zero,List.replicate_zero,List.length_take,List.length_drop,Ac.own.injEq,reduceCtorEq,Int.reduceAdd]<;>omega)) (by(simp +decide -implicitDefEqProofs only[go_sem,Ae,Ac.int.injEq,Int.natCast_zero,List.replicate_zero,List.length_take,List.length_drop,Ac.own.injEq,reduceCtorEq,Int.reduceAdd]<;>omega)) (fun x=>⟨rfl,rfl,rfl⟩) ?_
  clear ae
  rintro⟨k0,⟨⟩,⟨⟩⟩ ⟨cn,ae⟩
  dsimp only at cn ae ⊢
  refine AWP.seq ?_
  refine AWP.region rfl ?_;intro K g
  (try simp +decide -implicitDefEqProofs only[go_sem])
  refine g _ _ ?_
  refine Aa ?_
  refine AWP.seq ?_
  refine AWP.cond (Ai (fun hc=>?_) (fun hc=>?_))
  rotate_left
  ·obtain rfl:=B8 ae (fun hl=>by have:=bJ hc;omega)
   have h:=B7 bg;try dsimp only at h
   have ba:b.Periods.length=k0:=by have:=bJ hc;omega
   subst ba
   refine AWP.exit ?_
   refine An ?_
   refine An ?_
   refine A6 ?_
   refine Aa ?_
   refine AWP.seq ?_
   refine AWP.region rfl ?_;intro K g
   (try simp +decide -implicitDefEqProofs only[go_sem])
   refine g _ _ ?_
   refine Aa ?_
   refine AWP.ret ?_
   obtain rfl:=Ag h
   simp +decide -implicitDefEqProofs only[go_sem,Ae,Ac.int.injEq,Int.natCast_zero,List.replicate_zero,List.length_take,List.length_drop,Ac.own.injEq,reduceCtorEq,Int.reduceAdd,Bc,Bd,A8,Bb,A9,Tryz.results7]
  have bj:k0<b.Periods.length:=by have:=bK hc;omega
  obtain⟨ao,b0,bn,h,ae⟩:=Bw ae bj
  have b7:=Br bn
  have bo:IntKind.i64.wrap (((k0:Nat):Int)+1)=(((k0:Nat):Int)+1):=by rw[wrap_i64]<;>omega
  unfold Gs at h;try dsimp only at h
  refine AWP.skip ?_
  refine Aa ?_
  refine AWP.seq ?_
  refine AWP.block ?_
  refine AWP.seq ?_
  refine AWP.region rfl ?_;intro K g
  (try simp +decide -implicitDefEqProofs only[go_sem])
  refine Ca.of (f:=Ay) (l:=b.Periods) b7 ?_
  (try simp +decide -implicitDefEqProofs only[go_sem])
  refine g _ _ ?_
  refine Aa ?_
  refine AWP.seq ?_
  refine AWP.region rfl ?_;intro K g
  (try simp +decide -implicitDefEqProofs only[go_sem])
  refine g _ _ ?_
  refine Aa ?_
  refine AWP.cond (Ai (fun hc=>?_) (fun hc=>?_))
  ·replace h:=Au h hc
   refine AWP.seq ?_
   refine AWP.region rfl ?_;intro K g
   (try simp +decide -implicitDefEqProofs only[go_sem])
   refine g _ _ ?_
   refine Aa ?_
   refine AWP.ret ?_
   refine Aj ?_
   refine Ad ?_
   refine Ad ?_
   obtain rfl:=Ag h
   obtain rfl:=Ba ae
   replace h:=Bp bg
   refine Aj ?_
   refine Ad ?_
   obtain rfl:=Ag h
   simp +decide -implicitDefEqProofs only[go_sem,Ae,Ac.int.injEq,Int.natCast_zero,List.replicate_zero,List.length_take,List.length_drop,Ac.own.injEq,reduceCtorEq,Int.reduceAdd,Bc,Bd,A8,Bb,A9,Tryz.results7]
  replace h:=Av h hc
  refine AWP.skip ?_
  refine Al ?_
  refine Aa ?_
  refine AWP.region rfl ?_;intro K g
  (try simp +decide -implicitDefEqProofs only[go_sem])
  refine g _ _ ?_
  refine Aa ?_
  obtain rfl:=Ag h
  refine⟨(k0+1,(),()),⟨by dsimp only;omega,Bf ae⟩,by dsimp only;omega,?_,?_⟩
  ·(simp +decide -implicitDefEqProofs only[go_sem,Ae,Ac.int.injEq,Int.natCast_zero,List.replicate_zero,List.length_take,List.length_drop,Ac.own.injEq,reduceCtorEq,Int.reduceAdd,bo]<;>omega)
  (simp +decide -implicitDefEqProofs only[go_sem,Ae,Ac.int.injEq,Int.natCast_zero,List.replicate_zero,List.length_take,List.length_drop,Ac.own.injEq,reduceCtorEq,Int.reduceAdd,bo]<;>omega)
def Fb (l:List Ax) (k0:Nat) (ao:Ax) (sv:Unit):Option (Out (Unit) (Bool)):=
  (bif (decide (ao.Operator<1))then some (Out.ret false)else (bif (decide (8<ao.Operator))then some (Out.ret false)else (bif (decide (ao.Amount<0))then some (Out.ret false)else (bif (decide (137438953472<ao.Amount))then some (Out.ret false)else (bif (decide (0<((k0:Nat):Int)))then (Ch l (IntKind.i64.wrap (((k0:Nat):Int) - 1))).bind fun cg=>(bif (decide (ao.Operator≤cg.Operator))then some (Out.ret false)else some (Out.next ()))else some (Out.next ()))))))
def C4 (l:List Ax):Option (Bool):=
  (Bo (Fb l) 0 l ()).bind fun o0=>o0.on fun s0=>some true
theorem Gn (l:List Ax) {r:Bool} (h:C4 l=some r):Aq Tryz.prog 17 [.sl 2 (l.map Am)] (·= .bool r):=by
  refine Aq.nle (Aq.intro Tryz.func17 rfl rfl (by show _≤44;simp) ?_)
  unfold C4 at h
  (try simp +decide -implicitDefEqProofs only[go_sem])
  refine AWP.seq ?_
  refine AWP.region rfl ?_;intro K g
  (try simp +decide -implicitDefEqProofs only[go_sem])
  refine g _ _ ?_
  refine Aa ?_
  refine AWP.seq ?_
  refine AWP.seq ?_
  refine AWP.region rfl ?_;intro K g
  (try simp +decide -implicitDefEqProofs only[go_sem])
  intro hm
  refine g _ _ ?_
  refine Aa ?_
  refine AWP.block ?_
  obtain⟨o0,ae,bg⟩:=A2 h
  clear h
  refine AWP.Cv (ι:=Nat×(Unit)×(Unit)) (fun zz=>[(0,.sl 2 (l.map Am)),(5,.sl 2 (l.map Am)),(6,.int .i64 ((l.length:Nat):Int)),(7,.int .i64 ((zz.1:Nat):Int))]) (fun zz=>[]) (fun zz=>zz.1≤l.length∧Bo (Fb l) zz.1 ((l).drop zz.1) zz.2.1=some o0) (fun zz=>l.length - zz.1) (0,(),()) ⟨Nat.zero_le _,ae⟩ (by(simp +decide -implicitDefEqProofs only[go_sem,Ae,Ac.int.injEq,Int.natCast_zero,List.replicate_zero,List.length_take,List.length_drop,Ac.own.injEq,reduceCtorEq,Int.reduceAdd]<;>omega)) (by(simp +decide -implicitDefEqProofs only[go_sem,Ae,Ac.int.injEq,Int.natCast_zero,List.replicate_zero,List.length_take,List.length_drop,Ac.own.injEq,reduceCtorEq,Int.reduceAdd]<;>omega)) (fun x=>⟨rfl,rfl,rfl⟩) ?_
  clear ae
  rintro⟨k0,⟨⟩,⟨⟩⟩ ⟨cn,ae⟩
  dsimp only at cn ae ⊢
  refine AWP.seq ?_
  refine AWP.region rfl ?_;intro K g
  (try simp +decide -implicitDefEqProofs only[go_sem])
  refine g _ _ ?_
  refine Aa ?_
  refine AWP.seq ?_
  refine AWP.cond (Ai (fun hc=>?_) (fun hc=>?_))
  rotate_left
  ·obtain rfl:=B8 ae (fun hl=>by have:=bJ hc;omega)
   have h:=B7 bg;try dsimp only at h
   have ba:l.length=k0:=by have:=bJ hc;omega
   subst ba
   refine AWP.exit ?_
   refine An ?_
   refine An ?_
   refine A6 ?_
   refine Aa ?_
   refine AWP.seq ?_
   refine AWP.region rfl ?_;intro K g
   (try simp +decide -implicitDefEqProofs only[go_sem])
   refine g _ _ ?_
   refine Aa ?_
   refine AWP.ret ?_
   obtain rfl:=Ag h
   simp +decide -implicitDefEqProofs only[go_sem,Ae,Ac.int.injEq,Int.natCast_zero,List.replicate_zero,List.length_take,List.length_drop,Ac.own.injEq,reduceCtorEq,Int.reduceAdd,Bc,Bd,A8,Bb,A9,Tryz.results17]
  have bj:k0<l.length:=by have:=bK hc;omega
  obtain⟨ao,b0,bn,h,ae⟩:=Bw ae bj
  have b7:=Br bn
  have bo:IntKind.i64.wrap (((k0:Nat):Int)+1)=(((k0:Nat):Int)+1):=by rw[wrap_i64]<;>omega
  unfold Fb at h;try dsimp only at h
  refine AWP.skip ?_
  refine Aa ?_
  refine AWP.seq ?_
  refine AWP.block ?_
  refine AWP.seq ?_
  refine AWP.region rfl ?_;intro K g
  (try simp +decide -implicitDefEqProofs only[go_sem])
  refine Ca.of (f:=Am) (l:=l) b7 ?_
  (try simp +decide -implicitDefEqProofs only[go_sem])
  refine g _ _ ?_
  refine Aa ?_
  refine AWP.seq ?_
  refine AWP.seq ?_
  refine AWP.region rfl ?_;intro K g
  (try simp +decide -implicitDefEqProofs only[go_sem])
  refine Ak (fun hc=>?_) (fun hc=>?_)
  ·replace h:=Av h hc
   (try simp +decide -implicitDefEqProofs only[go_sem,hc])
   refine Ak (fun hc=>?_) (fun hc=>?_)
   ·replace h:=Av h hc
    (try simp +decide -implicitDefEqProofs only[go_sem,hc])
    refine Ak (fun hc=>?_) (fun hc=>?_)
    ·replace h:=Av h hc
     (try simp +decide -implicitDefEqProofs only[go_sem,hc])
     refine g _ _ ?_
     refine Aa ?_
     refine AWP.cond (Ai (fun hc=>?_) (fun hc=>?_))
     ·replace h:=Au h hc
      refine AWP.seq ?_
      refine AWP.region rfl ?_;intro K g
      (try simp +decide -implicitDefEqProofs only[go_sem])
      refine g _ _ ?_
      refine Aa ?_
      refine AWP.ret ?_
      refine Ad ?_
      refine Aj ?_
      refine Ad ?_
      refine Ad ?_
      obtain rfl:=Ag h
      obtain rfl:=Ba ae
      replace h:=Bp bg
      refine Aj ?_
      refine Ad ?_
      obtain rfl:=Ag h
      simp +decide -implicitDefEqProofs only[go_sem,Ae,Ac.int.injEq,Int.natCast_zero,List.replicate_zero,List.length_take,List.length_drop,Ac.own.injEq,reduceCtorEq,Int.reduceAdd,Bc,Bd,A8,Bb,A9,Tryz.results17]
     replace h:=Av h hc
     refine AWP.skip ?_
     refine Aa ?_
     refine AWP.seq ?_
     refine AWP.draw Tryz.mixed (by kernel_rfl) ?_;intro K g
     (try simp +decide -implicitDefEqProofs only[go_sem])
     refine Ak (fun hc=>?_) (fun hc=>?_)
     ·replace h:=Au h hc
      (try simp +decide -implicitDefEqProofs only[go_sem,hc])
      obtain⟨cg,ji,h⟩:=A2 h
      refine Ca.of (f:=Am) (l:=l) ji ?_
      (try simp +decide -implicitDefEqProofs only[go_sem])
      refine g _ _ _ (by kernel_rfl) ?_
      refine Aa ?_
      refine AWP.cond (Ai (fun hc=>?_) (fun hc=>?_))
      ·replace h:=Au h hc
       refine AWP.seq ?_
       refine AWP.region rfl ?_;intro K g
       (try simp +decide -implicitDefEqProofs only[go_sem])
       refine g _ _ ?_
       refine Aa ?_
       refine AWP.ret ?_
       refine Aj ?_
       refine Ad ?_
       refine Ad ?_
       obtain rfl:=Ag h
       obtain rfl:=Ba ae
       replace h:=Bp bg
       refine Aj ?_
       refine Ad ?_
       obtain rfl:=Ag h
       simp +decide -implicitDefEqProofs only[go_sem,Ae,Ac.int.injEq,Int.natCast_zero,List.replicate_zero,List.length_take,List.length_drop,Ac.own.injEq,reduceCtorEq,Int.reduceAdd,Bc,Bd,A8,Bb,A9,Tryz.results17]
      replace h:=Av h hc
      refine AWP.skip ?_
      refine Al ?_
      refine Aa ?_
      refine AWP.region rfl ?_;intro K g
      (try simp +decide -implicitDefEqProofs only[go_sem])
      refine g _ _ ?_
      refine Aa ?_
      obtain rfl:=Ag h
      refine⟨(k0+1,(),()),⟨by dsimp only;omega,Bf ae⟩,by dsimp only;omega,?_,?_⟩
      ·(simp +decide -implicitDefEqProofs only[go_sem,Ae,Ac.int.injEq,Int.natCast_zero,List.replicate_zero,List.length_take,List.length_drop,Ac.own.injEq,reduceCtorEq,Int.reduceAdd,bo]<;>omega)
      (simp +decide -implicitDefEqProofs only[go_sem,Ae,Ac.int.injEq,Int.natCast_zero,List.replicate_zero,List.length_take,List.length_drop,Ac.own.injEq,reduceCtorEq,Int.reduceAdd,bo]<;>omega)
     replace h:=Av h hc
     (try simp +decide -implicitDefEqProofs only[go_sem,hc,Bool.not_true])
     refine g _ _ _ (by kernel_rfl) ?_
     refine Aa ?_
     refine AWP.cond (Bu ?_)
     refine AWP.skip ?_
     refine Al ?_
     refine Aa ?_
     refine AWP.region rfl ?_;intro K g
     (try simp +decide -implicitDefEqProofs only[go_sem])
     refine g _ _ ?_
     refine Aa ?_
     obtain rfl:=Ag h
     refine⟨(k0+1,(),()),⟨by dsimp only;omega,Bf ae⟩,by dsimp only;omega,?_,?_⟩
     ·(simp +decide -implicitDefEqProofs only[go_sem,Ae,Ac.int.injEq,Int.natCast_zero,List.replicate_zero,List.length_take,List.length_drop,Ac.own.injEq,reduceCtorEq,Int.reduceAdd,bo]<;>omega)
     (simp +decide -implicitDefEqProofs only[go_sem,Ae,Ac.int.injEq,Int.natCast_zero,List.replicate_zero,List.length_take,List.length_drop,Ac.own.injEq,reduceCtorEq,Int.reduceAdd,bo]<;>omega)
    replace h:=Au h hc
    (try simp +decide -implicitDefEqProofs only[go_sem,hc,Bool.not_false])
    refine g _ _ ?_
    refine Aa ?_
    refine AWP.cond (A7 ?_)
    refine AWP.seq ?_
    refine AWP.region rfl ?_;intro K g
    (try simp +decide -implicitDefEqProofs only[go_sem])
    refine g _ _ ?_
    refine Aa ?_
    refine AWP.ret ?_
    refine Ad ?_
    refine Aj ?_
    refine Ad ?_
    refine Ad ?_
    obtain rfl:=Ag h
    obtain rfl:=Ba ae
    replace h:=Bp bg
    refine Aj ?_
    refine Ad ?_
    obtain rfl:=Ag h
    simp +decide -implicitDefEqProofs only[go_sem,Ae,Ac.int.injEq,Int.natCast_zero,List.replicate_zero,List.length_take,List.length_drop,Ac.own.injEq,reduceCtorEq,Int.reduceAdd,Bc,Bd,A8,Bb,A9,Tryz.results17]
   replace h:=Au h hc
   (try simp +decide -implicitDefEqProofs only[go_sem,hc,Bool.not_false])
   refine g _ _ ?_
   refine Aa ?_
   refine AWP.cond (A7 ?_)
   refine AWP.seq ?_
   refine AWP.region rfl ?_;intro K g
   (try simp +decide -implicitDefEqProofs only[go_sem])
   refine g _ _ ?_
   refine Aa ?_
   refine AWP.ret ?_
   refine Ad ?_
   refine Aj ?_
   refine Ad ?_
   refine Ad ?_
   obtain rfl:=Ag h
   obtain rfl:=Ba ae
   replace h:=Bp bg
   refine Aj ?_
   refine Ad ?_
   obtain rfl:=Ag h
   simp +decide -implicitDefEqProofs only[go_sem,Ae,Ac.int.injEq,Int.natCast_zero,List.replicate_zero,List.length_take,List.length_drop,Ac.own.injEq,reduceCtorEq,Int.reduceAdd,Bc,Bd,A8,Bb,A9,Tryz.results17]
  replace h:=Au h hc
  (try simp +decide -implicitDefEqProofs only[go_sem,hc,Bool.not_false])
  refine g _ _ ?_
  refine Aa ?_
  refine AWP.cond (A7 ?_)
  refine AWP.seq ?_
  refine AWP.region rfl ?_;intro K g
  (try simp +decide -implicitDefEqProofs only[go_sem])
  refine g _ _ ?_
  refine Aa ?_
  refine AWP.ret ?_
  refine Ad ?_
  refine Aj ?_
  refine Ad ?_
  refine Ad ?_
  obtain rfl:=Ag h
  obtain rfl:=Ba ae
  replace h:=Bp bg
  refine Aj ?_
  refine Ad ?_
  obtain rfl:=Ag h
  simp +decide -implicitDefEqProofs only[go_sem,Ae,Ac.int.injEq,Int.natCast_zero,List.replicate_zero,List.length_take,List.length_drop,Ac.own.injEq,reduceCtorEq,Int.reduceAdd,Bc,Bd,A8,Bb,A9,Tryz.results17]
def Gr (k1:Nat) (cg:Ax) (sv:Int):Option (Out (Int) (Int)):=
  some (Out.next (IntKind.i64.wrap (sv+cg.Amount)))
def D3 (l:List Ax):Option (Int):=
  (Bo Gr 0 l 0).bind fun o1=>o1.on fun s1=>some s1
theorem Hu (l:List Ax) {r:Int} (h:D3 l=some r):Aq Tryz.prog 18 [.sl 2 (l.map Am)] (·= .int .i64 r):=by
  refine Aq.nle (Aq.intro Tryz.func18 rfl rfl (by show _≤18;simp) ?_)
  unfold D3 at h
  (try simp +decide -implicitDefEqProofs only[go_sem])
  refine AWP.seq ?_
  refine AWP.region rfl ?_;intro K g
  (try simp +decide -implicitDefEqProofs only[go_sem])
  refine g _ _ ?_
  refine Aa ?_
  refine AWP.seq ?_
  refine AWP.region rfl ?_;intro K g
  (try simp +decide -implicitDefEqProofs only[go_sem])
  refine g _ _ ?_
  refine Aa ?_
  refine AWP.seq ?_
  refine AWP.seq ?_
  refine AWP.region rfl ?_;intro K g
  (try simp +decide -implicitDefEqProofs only[go_sem])
  intro hm
  refine g _ _ ?_
  refine Aa ?_
  refine AWP.block ?_
  obtain⟨o1,cb,fb⟩:=A2 h
  clear h
  refine AWP.Cv (ι:=Nat×(Int)×(Unit)) (fun zz=>[(3,.int .i64 zz.2.1),(6,.sl 2 (l.map Am)),(7,.int .i64 ((l.length:Nat):Int)),(8,.int .i64 ((zz.1:Nat):Int))]) (fun zz=>[]) (fun zz=>zz.1≤l.length∧Bo Gr zz.1 ((l).drop zz.1) zz.2.1=some o1) (fun zz=>l.length - zz.1) (0,(0:Int),()) ⟨Nat.zero_le _,cb⟩ (by(simp +decide -implicitDefEqProofs only[go_sem,Ae,Ac.int.injEq,Int.natCast_zero,List.replicate_zero,List.length_take,List.length_drop,Ac.own.injEq,reduceCtorEq,Int.reduceAdd]<;>omega)) (by(simp +decide -implicitDefEqProofs only[go_sem,Ae,Ac.int.injEq,Int.natCast_zero,List.replicate_zero,List.length_take,List.length_drop,Ac.own.injEq,reduceCtorEq,Int.reduceAdd]<;>omega)) (fun x=>⟨rfl,rfl,rfl⟩) ?_
  clear cb
  rintro⟨k1,sum1,⟨⟩⟩ ⟨iv,cb⟩
  dsimp only at iv cb ⊢
  refine AWP.seq ?_
  refine AWP.region rfl ?_;intro K g
  (try simp +decide -implicitDefEqProofs only[go_sem])
  refine g _ _ ?_
  refine Aa ?_
  refine AWP.seq ?_
  refine AWP.cond (Ai (fun hc=>?_) (fun hc=>?_))
  ·have j0:k1<l.length:=by have:=bK hc;omega
   obtain⟨cg,b1,jn,h,cb⟩:=Bw cb j0
   have nq:=Br jn
   have ir:IntKind.i64.wrap (((k1:Nat):Int)+1)=(((k1:Nat):Int)+1):=by rw[wrap_i64]<;>omega
   unfold Gr at h;try dsimp only at h
   refine AWP.skip ?_
   refine Aa ?_
   refine AWP.seq ?_
   refine AWP.block ?_
   refine AWP.seq ?_
   refine AWP.region rfl ?_;intro K g
   (try simp +decide -implicitDefEqProofs only[go_sem])
   refine Ca.of (f:=Am) (l:=l) nq ?_
   (try simp +decide -implicitDefEqProofs only[go_sem])
   refine g _ _ ?_
   refine Aa ?_
   refine AWP.region rfl ?_;intro K g
   (try simp +decide -implicitDefEqProofs only[go_sem])
   refine g _ _ ?_
   refine Al ?_
   refine Aa ?_
   refine AWP.region rfl ?_;intro K g
   (try simp +decide -implicitDefEqProofs only[go_sem])
   refine g _ _ ?_
   refine Aa ?_
   obtain rfl:=Ag h
   refine⟨(k1+1,(IntKind.i64.wrap (sum1+cg.Amount)),()),⟨by dsimp only;omega,Bf cb⟩,by dsimp only;omega,?_,?_⟩
   ·(simp +decide -implicitDefEqProofs only[go_sem,Ae,Ac.int.injEq,Int.natCast_zero,List.replicate_zero,List.length_take,List.length_drop,Ac.own.injEq,reduceCtorEq,Int.reduceAdd,ir]<;>omega)
   (simp +decide -implicitDefEqProofs only[go_sem,Ae,Ac.int.injEq,Int.natCast_zero,List.replicate_zero,List.length_take,List.length_drop,Ac.own.injEq,reduceCtorEq,Int.reduceAdd,ir]<;>omega)
  obtain rfl:=B8 cb (fun hl=>by have:=bJ hc;omega)
  have h:=B7 fb;try dsimp only at h
  have ba:l.length=k1:=by have:=bJ hc;omega
  subst ba
  refine AWP.exit ?_
  refine An ?_
  refine An ?_
  refine A6 ?_
  refine Aa ?_
  refine AWP.seq ?_
  refine AWP.region rfl ?_;intro K g
  (try simp +decide -implicitDefEqProofs only[go_sem])
  refine g _ _ ?_
  refine Aa ?_
  refine AWP.ret ?_
  obtain rfl:=Ag h
  simp +decide -implicitDefEqProofs only[go_sem,Ae,Ac.int.injEq,Int.natCast_zero,List.replicate_zero,List.length_take,List.length_drop,Ac.own.injEq,reduceCtorEq,Int.reduceAdd,Bc,Bd,A8,Bb,A9,Tryz.results18]
def B3 (amounts3:List (Int×Int)) (k6:Nat) (_x:Unit) (sv:(List Ax)):Option (Out ((List Ax)) ((List Ax))):=
  (Ch (Hb (mkeys amounts3)) ((k6:Nat):Int)).bind fun dn=>chk (sv.length+1) (some (Out.next (sv++[(Ax.mk dn (mget 0 amounts3 dn))])))
def Cs (amounts3:List (Int×Int)):Option ((List Ax)):=
  okB (decide (∀ k∈mkeys amounts3, -9223372036854775808≤k∧k≤9223372036854775807)) (chk amounts3.length ((L6 (B3 amounts3) (mkeys amounts3).length []).bind fun o6=>o6.on fun s6=>some s6))
def Ds (k9:Nat) (ah:Ax) (sv:(List (Int×Int))):Option (Out ((List (Int×Int))) ((List Ax))):=
  some (Out.next (mset sv ah.Operator (IntKind.i64.wrap ((mget 0 sv ah.Operator) - ah.Amount))))
def Ct (received:List Ax) (amounts1:List (Int×Int)):Option ((List Ax)):=
  (Bo Ds 0 received amounts1).bind fun o9=>o9.on fun s9=>Cs s9
def Dr (ff:Nat) (dp:Ax) (sv:(List (Int×Int))):Option (Out ((List (Int×Int))) ((List Ax))):=
  some (Out.next (mset sv dp.Operator (IntKind.i64.wrap ((mget 0 sv dp.Operator)+dp.Amount))))
def Cl (due:List Ax) (received:List Ax):Option ((List Ax)):=
  (Bo Dr 0 due []).bind fun o12=>o12.on fun s12=>Ct received s12
theorem Iu (due:List Ax) (received:List Ax) {r:(List Ax)} (h:Cl due received=some r):Ci Tryz.prog 20 [.sl 2 (due.map Am),.sl 2 (received.map Am)] (·= .sl 2 (r.map Am)):=by
  refine Ci.nle (Ci.intro Tryz.func20 rfl rfl (by show _≤60;simp) ?_)
  unfold Cl at h
  (try simp +decide -implicitDefEqProofs only[go_sem,Aw])
  refine AWP.seq ?_
  refine AWP.region rfl ?_;intro K g
  (try simp +decide -implicitDefEqProofs only[go_sem,Aw])
  refine g _ _ ?_
  refine Aa ?_
  refine AWP.seq ?_
  refine AWP.region rfl ?_;intro K g
  (try simp +decide -implicitDefEqProofs only[go_sem,Aw])
  refine g _ _ ?_
  refine Aa ?_
  refine AWP.It (ι:=((List (Int×Int)))×(Unit)) (fun zz=>[(1,.sl 2 (received.map Am)),(5,.map 0)]) (fun zz=>[.mp (mpE Nw zz.1)]) (fun zz=>Ct received zz.1=some r) (fun zz=>⟨rfl,rfl,rfl⟩) ?_ ?_
  ·refine AWP.seq ?_
   refine AWP.region rfl ?_;intro K g
   (try simp +decide -implicitDefEqProofs only[go_sem,Aw])
   intro hm
   refine g _ _ ?_
   refine Aa ?_
   refine AWP.block ?_
   obtain⟨o12,cm,nf⟩:=A2 h
   clear h
   refine AWP.Cv (ι:=Nat×((List (Int×Int)))×(Unit)) (fun zz=>[(1,.sl 2 (received.map Am)),(5,.map 0),(14,.sl 2 (due.map Am)),(15,.int .i64 ((due.length:Nat):Int)),(16,.int .i64 ((zz.1:Nat):Int))]) (fun zz=>[.mp (mpE Nw zz.2.1)]) (fun zz=>zz.1≤due.length∧Bo Dr zz.1 ((due).drop zz.1) zz.2.1=some o12) (fun zz=>due.length - zz.1) (0,[],()) ⟨Nat.zero_le _,cm⟩ (by(simp +decide -implicitDefEqProofs only[go_sem,Ae,Ac.int.injEq,Int.natCast_zero,List.replicate_zero,List.length_take,List.length_drop,Ac.own.injEq,reduceCtorEq,Int.reduceAdd,Aw]<;>omega)) (by(simp +decide -implicitDefEqProofs only[go_sem,Ae,Ac.int.injEq,Int.natCast_zero,List.replicate_zero,List.length_take,List.length_drop,Ac.own.injEq,reduceCtorEq,Int.reduceAdd,Aw]<;>omega)) (fun x=>⟨rfl,rfl,rfl⟩) ?_
   clear cm
   rintro⟨ff,amounts12,⟨⟩⟩ ⟨mq,cm⟩
   dsimp only at mq cm ⊢
   refine AWP.seq ?_
   refine AWP.region rfl ?_;intro K g
   (try simp +decide -implicitDefEqProofs only[go_sem,Aw])
   refine g _ _ ?_
   refine Aa ?_
   refine AWP.seq ?_
   refine AWP.cond (Ai (fun hc=>?_) (fun hc=>?_))
   rotate_left
   ·obtain rfl:=B8 cm (fun hl=>by have:=bJ hc;omega)
    have h:=B7 nf;try dsimp only at h
    have ba:due.length=ff:=by have:=bJ hc;omega
    subst ba
    refine AWP.exit ?_
    refine An ?_
    refine An ?_
    refine A6 ?_
    refine Aa ?_
    exact⟨(amounts12,()),h,by(simp +decide -implicitDefEqProofs only[go_sem,Ae,Ac.int.injEq,Int.natCast_zero,List.replicate_zero,List.length_take,List.length_drop,Ac.own.injEq,reduceCtorEq,Int.reduceAdd,Aw]<;>omega),by(simp +decide -implicitDefEqProofs only[go_sem,Ae,Ac.int.injEq,Int.natCast_zero,List.replicate_zero,List.length_take,List.length_drop,Ac.own.injEq,reduceCtorEq,Int.reduceAdd,Aw]<;>omega)⟩
   have jy:ff<due.length:=by have:=bK hc;omega
   obtain⟨dp,b12,jo,h,cm⟩:=Bw cm jy
   have ov:=Br jo
   have jr:IntKind.i64.wrap (((ff:Nat):Int)+1)=(((ff:Nat):Int)+1):=by rw[wrap_i64]<;>omega
   unfold Dr at h;try dsimp only at h
   refine AWP.skip ?_
   refine Aa ?_
   refine AWP.seq ?_
   refine AWP.block ?_
   refine AWP.seq ?_
   refine AWP.region rfl ?_;intro K g
   (try simp +decide -implicitDefEqProofs only[go_sem,Aw])
   refine Ca.of (f:=Am) (l:=due) ov ?_
   (try simp +decide -implicitDefEqProofs only[go_sem,Aw])
   refine g _ _ ?_
   refine Aa ?_
   refine AWP.region rfl ?_;intro K g
   (try simp +decide -implicitDefEqProofs only[go_sem,Aw])
   refine Ew.of (f:=Nw) (m:=amounts12) (d:=0) rfl ?_
   (try simp +decide -implicitDefEqProofs only[go_sem,Aw])
   refine g _ _ ?_
   refine Al ?_
   refine Aa ?_
   refine AWP.region rfl ?_;intro K g
   (try simp +decide -implicitDefEqProofs only[go_sem,Aw])
   refine g _ _ ?_
   refine Aa ?_
   obtain rfl:=Ag h
   refine⟨(ff+1,(mset amounts12 dp.Operator (IntKind.i64.wrap ((mget 0 amounts12 dp.Operator)+dp.Amount))),()),⟨by dsimp only;omega,Bf cm⟩,by dsimp only;omega,?_,?_⟩
   ·(simp +decide -implicitDefEqProofs only[go_sem,Ae,Ac.int.injEq,Int.natCast_zero,List.replicate_zero,List.length_take,List.length_drop,Ac.own.injEq,reduceCtorEq,Int.reduceAdd,jr,Aw]<;>omega)
   (simp +decide -implicitDefEqProofs only[go_sem,Ae,Ac.int.injEq,Int.natCast_zero,List.replicate_zero,List.length_take,List.length_drop,Ac.own.injEq,reduceCtorEq,Int.reduceAdd,jr,Aw]<;>omega)
  rintro⟨amounts1,⟨⟩⟩ h
  try dsimp only at h ⊢
  unfold Ct at h;try dsimp only at h
  refine AWP.It (ι:=((List (Int×Int)))×(Unit)) (fun zz=>[(5,.map 0)]) (fun zz=>[.mp (mpE Nw zz.1)]) (fun zz=>Cs zz.1=some r) (fun zz=>⟨rfl,rfl,rfl⟩) ?_ ?_
  ·refine AWP.seq ?_
   refine AWP.region rfl ?_;intro K g
   (try simp +decide -implicitDefEqProofs only[go_sem,Aw])
   intro hm
   refine g _ _ ?_
   refine Aa ?_
   refine AWP.block ?_
   obtain⟨o9,ll,yg⟩:=A2 h
   clear h
   refine AWP.Cv (ι:=Nat×((List (Int×Int)))×(Unit)) (fun zz=>[(5,.map 0),(28,.sl 2 (received.map Am)),(29,.int .i64 ((received.length:Nat):Int)),(30,.int .i64 ((zz.1:Nat):Int))]) (fun zz=>[.mp (mpE Nw zz.2.1)]) (fun zz=>zz.1≤received.length∧Bo Ds zz.1 ((received).drop zz.1) zz.2.1=some o9) (fun zz=>received.length - zz.1) (0,amounts1,()) ⟨Nat.zero_le _,ll⟩ (by(simp +decide -implicitDefEqProofs only[go_sem,Ae,Ac.int.injEq,Int.natCast_zero,List.replicate_zero,List.length_take,List.length_drop,Ac.own.injEq,reduceCtorEq,Int.reduceAdd,Aw]<;>omega)) (by(simp +decide -implicitDefEqProofs only[go_sem,Ae,Ac.int.injEq,Int.natCast_zero,List.replicate_zero,List.length_take,List.length_drop,Ac.own.injEq,reduceCtorEq,Int.reduceAdd,Aw]<;>omega)) (fun x=>⟨rfl,rfl,rfl⟩) ?_
   clear ll
   rintro⟨k9,amounts9,⟨⟩⟩ ⟨xh,ll⟩
   dsimp only at xh ll ⊢
   refine AWP.seq ?_
   refine AWP.region rfl ?_;intro K g
   (try simp +decide -implicitDefEqProofs only[go_sem,Aw])
   refine g _ _ ?_
   refine Aa ?_
   refine AWP.seq ?_
   refine AWP.cond (Ai (fun hc=>?_) (fun hc=>?_))
   rotate_left
   ·obtain rfl:=B8 ll (fun hl=>by have:=bJ hc;omega)
    have h:=B7 yg;try dsimp only at h
    have ba:received.length=k9:=by have:=bJ hc;omega
    subst ba
    refine AWP.exit ?_
    refine An ?_
    refine An ?_
    refine A6 ?_
    refine Aa ?_
    exact⟨(amounts9,()),h,by(simp +decide -implicitDefEqProofs only[go_sem,Ae,Ac.int.injEq,Int.natCast_zero,List.replicate_zero,List.length_take,List.length_drop,Ac.own.injEq,reduceCtorEq,Int.reduceAdd,Aw]<;>omega),by(simp +decide -implicitDefEqProofs only[go_sem,Ae,Ac.int.injEq,Int.natCast_zero,List.replicate_zero,List.length_take,List.length_drop,Ac.own.injEq,reduceCtorEq,Int.reduceAdd,Aw]<;>omega)⟩
   have sr:k9<received.length:=by have:=bK hc;omega
   obtain⟨ah,b9,rl,h,ll⟩:=Bw ll sr
   have vx:=Br rl
   have uw:IntKind.i64.wrap (((k9:Nat):Int)+1)=(((k9:Nat):Int)+1):=by rw[wrap_i64]<;>omega
   unfold Ds at h;try dsimp only at h
   refine AWP.skip ?_
   refine Aa ?_
   refine AWP.seq ?_
   refine AWP.block ?_
   refine AWP.seq ?_
   refine AWP.region rfl ?_;intro K g
   (try simp +decide -implicitDefEqProofs only[go_sem,Aw])
   refine Ca.of (f:=Am) (l:=received) vx ?_
   (try simp +decide -implicitDefEqProofs only[go_sem,Aw])
   refine g _ _ ?_
   refine Aa ?_
   refine AWP.region rfl ?_;intro K g
   (try simp +decide -implicitDefEqProofs only[go_sem,Aw])
   refine Ew.of (f:=Nw) (m:=amounts9) (d:=0) rfl ?_
   (try simp +decide -implicitDefEqProofs only[go_sem,Aw])
   refine g _ _ ?_
   refine Al ?_
   refine Aa ?_
   refine AWP.region rfl ?_;intro K g
   (try simp +decide -implicitDefEqProofs only[go_sem,Aw])
   refine g _ _ ?_
   refine Aa ?_
   obtain rfl:=Ag h
   refine⟨(k9+1,(mset amounts9 ah.Operator (IntKind.i64.wrap ((mget 0 amounts9 ah.Operator) - ah.Amount))),()),⟨by dsimp only;omega,Bf ll⟩,by dsimp only;omega,?_,?_⟩
   ·(simp +decide -implicitDefEqProofs only[go_sem,Ae,Ac.int.injEq,Int.natCast_zero,List.replicate_zero,List.length_take,List.length_drop,Ac.own.injEq,reduceCtorEq,Int.reduceAdd,uw,Aw]<;>omega)
   (simp +decide -implicitDefEqProofs only[go_sem,Ae,Ac.int.injEq,Int.natCast_zero,List.replicate_zero,List.length_take,List.length_drop,Ac.own.injEq,reduceCtorEq,Int.reduceAdd,uw,Aw]<;>omega)
  rintro⟨amounts3,⟨⟩⟩ h
  try dsimp only at h ⊢
  unfold Cs at h;try dsimp only at h
  refine AWP.seq ?_
  refine AWP.region rfl ?_;intro K g
  (try simp +decide -implicitDefEqProofs only[go_sem,Aw])
  refine g _ _ ?_
  refine Aa ?_
  refine AWP.seq ?_
  refine AWP.seq ?_
  refine AWP.region rfl ?_;intro K g
  (try simp +decide -implicitDefEqProofs only[go_sem,Aw])
  refine Bg.Jd Tryz.call48 Tryz.keys48 rfl ?_
  (try simp +decide -implicitDefEqProofs only[go_sem,Aw])
  obtain⟨cn,h⟩:=H8 h
  obtain⟨hk,h⟩:=D6 h
  refine Bg.Ra Tryz.call47 Tryz.sortedKeys47 rfl rfl cn hk ?_
  (try simp +decide -implicitDefEqProofs only[go_sem,Aw])
  intro hm
  refine g _ _ ?_
  refine Aa ?_
  refine AWP.block ?_
  refine AWP.ghost 10 2 rfl (by decide) ?_
  obtain⟨o6,fc,ug⟩:=A2 h
  clear h
  obtain⟨yv,fc⟩:=Qu fc
  refine AWP.Cv (ι:=Nat×((List Ax))×(Nat)) (fun zz=>[(5,.map 0),(10,.own 3 zz.2.2 0 zz.2.1.length),(44,.own 2 0 0 (mkeys amounts3).length),(45,.int .i64 (((mkeys amounts3).length:Nat):Int)),(46,.int .i64 ((zz.1:Nat):Int))]) (fun zz=>[.mp (mpE Nw amounts3),.gone,.row 0 1 ((Hb (mkeys amounts3)).map B5),.row zz.2.2 2 (zz.2.1.map Am)]) (fun zz=>zz.1≤(mkeys amounts3).length∧Bo (B3 amounts3) zz.1 ((List.replicate (mkeys amounts3).length ()).drop zz.1) zz.2.1=some o6) (fun zz=>(mkeys amounts3).length - zz.1) (0,[],0) ⟨Nat.zero_le _,fc⟩ (by(simp +decide -implicitDefEqProofs only[go_sem,Ae,Ac.int.injEq,Int.natCast_zero,List.replicate_zero,List.length_take,List.length_drop,Ac.own.injEq,reduceCtorEq,Int.reduceAdd,Aw]<;>omega)) (by(simp +decide -implicitDefEqProofs only[go_sem,Ae,Ac.int.injEq,Int.natCast_zero,List.replicate_zero,List.length_take,List.length_drop,Ac.own.injEq,reduceCtorEq,Int.reduceAdd,Aw]<;>omega)) (fun x=>⟨rfl,rfl,rfl⟩) ?_
  clear fc
  rintro⟨k6,qz,lv⟩ ⟨ta,fc⟩
  dsimp only at ta fc ⊢
  refine AWP.seq ?_
  refine AWP.region rfl ?_;intro K g
  (try simp +decide -implicitDefEqProofs only[go_sem,Aw])
  refine g _ _ ?_
  refine Aa ?_
  refine AWP.seq ?_
  refine AWP.cond (Ai (fun hc=>?_) (fun hc=>?_))
  rotate_left
  ·obtain rfl:=B8 fc (fun hl=>by rw[bS]at hl;have:=bJ hc;omega)
   have h:=B7 ug;try dsimp only at h
   have ba:(mkeys amounts3).length=k6:=by have:=bJ hc;omega
   subst ba
   refine AWP.exit ?_
   refine An ?_
   refine An ?_
   refine A6 ?_
   refine Aa ?_
   refine AWP.seq ?_
   refine AWP.region rfl ?_;intro K g
   (try simp +decide -implicitDefEqProofs only[go_sem,Aw])
   refine g _ _ ?_
   refine Aa ?_
   refine AWP.ret ?_
   obtain rfl:=Ag h
   simp +decide -implicitDefEqProofs only[go_sem,Ae,Ac.int.injEq,Int.natCast_zero,List.replicate_zero,List.length_take,List.length_drop,Ac.own.injEq,reduceCtorEq,Int.reduceAdd,Bc,Bd,A8,Bb,A9,Tryz.results20,Aw]
  have mn:k6<(mkeys amounts3).length:=by have:=bK hc;omega
  obtain⟨_,b6,_,h,fc⟩:=Bw fc (by rw[bS];exact mn)
  have oy:IntKind.i64.wrap (((k6:Nat):Int)+1)=(((k6:Nat):Int)+1):=by rw[wrap_i64]<;>omega
  unfold B3 at h;try dsimp only at h
  refine AWP.skip ?_
  refine Aa ?_
  refine AWP.seq ?_
  refine AWP.block ?_
  refine AWP.seq ?_
  refine AWP.region rfl ?_;intro K g
  (try simp +decide -implicitDefEqProofs only[go_sem,Aw])
  obtain⟨dn,dv,h⟩:=A2 h
  refine C5 dv (by first | rfl | exact(Aw _).symm | (simp only[bR,List.length_cons,List.length_nil,List.length_set,bS]<;>omega) | (simp only[List.length_take,List.length_drop,List.length_set,bS]<;>omega)) ?_
  (try simp +decide -implicitDefEqProofs only[go_sem,Aw])
  refine Bt.ofNat (f:=B5) (l:=(Hb (mkeys amounts3))) (n:=k6) dv ?_
  (try simp +decide -implicitDefEqProofs only[go_sem,Aw])
  refine g _ _ ?_
  refine Aa ?_
  refine AWP.region rfl ?_;intro K g
  (try simp +decide -implicitDefEqProofs only[go_sem,Aw])
  refine Ew.of (f:=Nw) (m:=amounts3) (d:=0) rfl ?_
  (try simp +decide -implicitDefEqProofs only[go_sem,Aw])
  obtain⟨hk,h⟩:=D6 h
  (repeat refine rp ?_);try simp +decide -implicitDefEqProofs only[go_sem]
  refine g _ _ ?_
  refine Al ?_
  refine Aa ?_
  refine AWP.region rfl ?_;intro K g
  (try simp +decide -implicitDefEqProofs only[go_sem,Aw])
  refine g _ _ ?_
  refine Aa ?_
  obtain rfl:=Ag h
  refine⟨(k6+1,(qz++[(Ax.mk dn (mget 0 amounts3 dn))]),(lv+1)),⟨by dsimp only;omega,Bf fc⟩,by dsimp only;omega,?_,?_⟩
  ·(simp +decide -implicitDefEqProofs only[go_sem,Ae,Ac.int.injEq,Int.natCast_zero,List.replicate_zero,List.length_take,List.length_drop,Ac.own.injEq,reduceCtorEq,Int.reduceAdd,oy,Aw]<;>omega)
  (simp +decide -implicitDefEqProofs only[go_sem,Ae,Ac.int.injEq,Int.natCast_zero,List.replicate_zero,List.length_take,List.length_drop,Ac.own.injEq,reduceCtorEq,Int.reduceAdd,oy,Aw]<;>omega)
theorem Jg (due:List Ax) (received:List Ax) {r:(List Ax)} (h:Cl due received=some r):Aq Tryz.prog 20 [.sl 2 (due.map Am),.sl 2 (received.map Am)] (·= .sl 2 (r.map Am)):=(Iu due received h).pure
def F8 (n_:Int):Option (Bool):=
  (bif (decide (1≤n_))then some (decide (n_≤8))else some false)
theorem Jh (n_:Int) {r:Bool} (h:F8 n_=some r):Aq Tryz.prog 91 [.int .i64 n_] (·= .bool r):=by
  refine Aq.nle (Aq.intro Tryz.func91 rfl rfl (by show _≤9;simp) ?_)
  unfold F8 at h
  (try simp +decide -implicitDefEqProofs only[go_sem])
  refine AWP.seq ?_
  refine AWP.region rfl ?_;intro K g
  (try simp +decide -implicitDefEqProofs only[go_sem])
  refine g _ _ ?_
  refine Aa ?_
  refine AWP.seq ?_
  refine AWP.region rfl ?_;intro K g
  (try simp +decide -implicitDefEqProofs only[go_sem])
  refine Ak (fun hc=>?_) (fun hc=>?_)
  ·replace h:=Au h hc
   (try simp +decide -implicitDefEqProofs only[go_sem,hc])
   refine g _ _ ?_
   refine Aa ?_
   refine AWP.ret ?_
   obtain rfl:=Ag h
   simp +decide -implicitDefEqProofs only[go_sem,Ae,Ac.int.injEq,Int.natCast_zero,List.replicate_zero,List.length_take,List.length_drop,Ac.own.injEq,reduceCtorEq,Int.reduceAdd,Bc,Bd,A8,Bb,A9,Tryz.results91]
  replace h:=Av h hc
  (try simp +decide -implicitDefEqProofs only[go_sem,hc,Bool.not_true])
  refine g _ _ ?_
  refine Aa ?_
  refine AWP.ret ?_
  obtain rfl:=Ag h
  simp +decide -implicitDefEqProofs only[go_sem,Ae,Ac.int.injEq,Int.natCast_zero,List.replicate_zero,List.length_take,List.length_drop,Ac.own.injEq,reduceCtorEq,Int.reduceAdd,Bc,Bd,A8,Bb,A9,Tryz.results91]
def F9 (l:List Ax) (k1:Nat) (cg:Ax) (sv:Int):Option (Out (Int) (Int)):=
  (F8 cg.Operator).bind fun y4=>(bif (!y4)then some (Out.ret 2)else (bif (decide (cg.Amount<(-137438953472)))then some (Out.ret 2)else (bif (decide (137438953472<cg.Amount))then some (Out.ret 2)else (bif (decide (0<((k1:Nat):Int)))then (Ch l (IntKind.i64.wrap (((k1:Nat):Int) - 1))).bind fun il=>(bif (decide (cg.Operator≤il.Operator))then some (Out.ret 11)else some (Out.next (IntKind.i64.wrap (sv+cg.Amount))))else some (Out.next (IntKind.i64.wrap (sv+cg.Amount)))))))
def H9 (l:List Ax):Option (Int):=
  (bif (decide (8<((l.length:Nat):Int)))then some 4 else(Bo (F9 l) 0 l 0).bind fun o1=>o1.on fun s1=>(bif (decide (s1≠0))then some 1 else some 0))
theorem Lb (l:List Ax) {r:Int} (h:H9 l=some r):Aq Tryz.prog 63 [.sl 2 (l.map Am)] (·= .int .i64 r):=by
  refine Aq.nle (Aq.intro Tryz.func63 rfl rfl (by show _≤50;simp) ?_)
  unfold H9 at h
  (try simp +decide -implicitDefEqProofs only[go_sem])
  refine AWP.seq ?_
  refine AWP.region rfl ?_;intro K g
  (try simp +decide -implicitDefEqProofs only[go_sem])
  refine g _ _ ?_
  refine Aa ?_
  refine AWP.seq ?_
  refine AWP.seq ?_
  refine AWP.region rfl ?_;intro K g
  (try simp +decide -implicitDefEqProofs only[go_sem])
  intro hm
  refine g _ _ ?_
  refine Aa ?_
  refine AWP.cond (Ai (fun hc=>?_) (fun hc=>?_))
  ·replace h:=Au h hc
   refine AWP.seq ?_
   refine AWP.region rfl ?_;intro K g
   (try simp +decide -implicitDefEqProofs only[go_sem])
   refine g _ _ ?_
   refine Aa ?_
   refine AWP.ret ?_
   refine Ad ?_
   obtain rfl:=Ag h
   simp +decide -implicitDefEqProofs only[go_sem,Ae,Ac.int.injEq,Int.natCast_zero,List.replicate_zero,List.length_take,List.length_drop,Ac.own.injEq,reduceCtorEq,Int.reduceAdd,Bc,Bd,A8,Bb,A9,Tryz.results63]
  replace h:=Av h hc
  refine AWP.skip ?_
  refine Aa ?_
  refine AWP.seq ?_
  refine AWP.region rfl ?_;intro K g
  (try simp +decide -implicitDefEqProofs only[go_sem])
  refine g _ _ ?_
  refine Aa ?_
  refine AWP.seq ?_
  refine AWP.seq ?_
  refine AWP.region rfl ?_;intro K g
  (try simp +decide -implicitDefEqProofs only[go_sem])
  intro hm
  refine g _ _ ?_
  refine Aa ?_
  refine AWP.block ?_
  obtain⟨o1,cb,fb⟩:=A2 h
  clear h
  refine AWP.Cv (ι:=Nat×(Int)×(Unit)) (fun zz=>[(0,.sl 2 (l.map Am)),(3,.int .i64 zz.2.1),(9,.sl 2 (l.map Am)),(10,.int .i64 ((l.length:Nat):Int)),(11,.int .i64 ((zz.1:Nat):Int))]) (fun zz=>[]) (fun zz=>zz.1≤l.length∧Bo (F9 l) zz.1 ((l).drop zz.1) zz.2.1=some o1) (fun zz=>l.length - zz.1) (0,(0:Int),()) ⟨Nat.zero_le _,cb⟩ (by(simp +decide -implicitDefEqProofs only[go_sem,Ae,Ac.int.injEq,Int.natCast_zero,List.replicate_zero,List.length_take,List.length_drop,Ac.own.injEq,reduceCtorEq,Int.reduceAdd]<;>omega)) (by(simp +decide -implicitDefEqProofs only[go_sem,Ae,Ac.int.injEq,Int.natCast_zero,List.replicate_zero,List.length_take,List.length_drop,Ac.own.injEq,reduceCtorEq,Int.reduceAdd]<;>omega)) (fun x=>⟨rfl,rfl,rfl⟩) ?_
  clear cb
  rintro⟨k1,sum1,⟨⟩⟩ ⟨iv,cb⟩
  dsimp only at iv cb ⊢
  refine AWP.seq ?_
  refine AWP.region rfl ?_;intro K g
  (try simp +decide -implicitDefEqProofs only[go_sem])
  refine g _ _ ?_
  refine Aa ?_
  refine AWP.seq ?_
  refine AWP.cond (Ai (fun hc=>?_) (fun hc=>?_))
  rotate_left
  ·obtain rfl:=B8 cb (fun hl=>by have:=bJ hc;omega)
   have h:=B7 fb;try dsimp only at h
   have ba:l.length=k1:=by have:=bJ hc;omega
   subst ba
   refine AWP.exit ?_
   refine An ?_
   refine An ?_
   refine A6 ?_
   refine Aa ?_
   refine AWP.seq ?_
   refine AWP.seq ?_
   refine AWP.region rfl ?_;intro K g
   (try simp +decide -implicitDefEqProofs only[go_sem])
   refine g _ _ ?_
   refine Aa ?_
   refine AWP.cond (Ai (fun hc=>?_) (fun hc=>?_))
   ·replace h:=Au h hc
    refine AWP.seq ?_
    refine AWP.region rfl ?_;intro K g
    (try simp +decide -implicitDefEqProofs only[go_sem])
    refine g _ _ ?_
    refine Aa ?_
    refine AWP.ret ?_
    refine Ad ?_
    obtain rfl:=Ag h
    simp +decide -implicitDefEqProofs only[go_sem,Ae,Ac.int.injEq,Int.natCast_zero,List.replicate_zero,List.length_take,List.length_drop,Ac.own.injEq,reduceCtorEq,Int.reduceAdd,Bc,Bd,A8,Bb,A9,Tryz.results63]
   replace h:=Av h hc
   refine AWP.skip ?_
   refine Aa ?_
   refine AWP.seq ?_
   refine AWP.region rfl ?_;intro K g
   (try simp +decide -implicitDefEqProofs only[go_sem])
   refine g _ _ ?_
   refine Aa ?_
   refine AWP.ret ?_
   obtain rfl:=Ag h
   simp +decide -implicitDefEqProofs only[go_sem,Ae,Ac.int.injEq,Int.natCast_zero,List.replicate_zero,List.length_take,List.length_drop,Ac.own.injEq,reduceCtorEq,Int.reduceAdd,Bc,Bd,A8,Bb,A9,Tryz.results63]
  have j0:k1<l.length:=by have:=bK hc;omega
  obtain⟨cg,b1,jn,h,cb⟩:=Bw cb j0
  have nq:=Br jn
  have ir:IntKind.i64.wrap (((k1:Nat):Int)+1)=(((k1:Nat):Int)+1):=by rw[wrap_i64]<;>omega
  unfold F9 at h;try dsimp only at h
  refine AWP.skip ?_
  refine Aa ?_
  refine AWP.seq ?_
  refine AWP.block ?_
  refine AWP.seq ?_
  refine AWP.region rfl ?_;intro K g
  (try simp +decide -implicitDefEqProofs only[go_sem])
  refine Ca.of (f:=Am) (l:=l) nq ?_
  (try simp +decide -implicitDefEqProofs only[go_sem])
  refine g _ _ ?_
  refine Aa ?_
  refine AWP.seq ?_
  refine AWP.seq ?_
  refine AWP.region rfl ?_;intro K g
  (try simp +decide -implicitDefEqProofs only[go_sem])
  obtain⟨y4,gj,h⟩:=A2 h
  refine Bg.pure Tryz.call91 (Jh cg.Operator gj) rfl fun _ hr=>?_
  subst hr
  (try simp +decide -implicitDefEqProofs only[go_sem])
  refine Ak (fun hc=>?_) (fun hc=>?_)
  ·replace h:=Av h hc
   (try simp +decide -implicitDefEqProofs only[go_sem,hc])
   refine Ak (fun hc=>?_) (fun hc=>?_)
   ·replace h:=Av h hc
    (try simp +decide -implicitDefEqProofs only[go_sem,hc])
    refine g _ _ ?_
    refine Aa ?_
    refine AWP.cond (Ai (fun hc=>?_) (fun hc=>?_))
    ·replace h:=Au h hc
     refine AWP.seq ?_
     refine AWP.region rfl ?_;intro K g
     (try simp +decide -implicitDefEqProofs only[go_sem])
     refine g _ _ ?_
     refine Aa ?_
     refine AWP.ret ?_
     refine Ad ?_
     refine Aj ?_
     refine Ad ?_
     refine Ad ?_
     obtain rfl:=Ag h
     obtain rfl:=Ba cb
     replace h:=Bp fb
     refine Aj ?_
     refine Ad ?_
     obtain rfl:=Ag h
     simp +decide -implicitDefEqProofs only[go_sem,Ae,Ac.int.injEq,Int.natCast_zero,List.replicate_zero,List.length_take,List.length_drop,Ac.own.injEq,reduceCtorEq,Int.reduceAdd,Bc,Bd,A8,Bb,A9,Tryz.results63]
    replace h:=Av h hc
    refine AWP.skip ?_
    refine Aa ?_
    refine AWP.seq ?_
    refine AWP.seq ?_
    refine AWP.draw Tryz.mixed (by kernel_rfl) ?_;intro K g
    (try simp +decide -implicitDefEqProofs only[go_sem])
    refine Ak (fun hc=>?_) (fun hc=>?_)
    ·replace h:=Au h hc
     (try simp +decide -implicitDefEqProofs only[go_sem,hc])
     obtain⟨il,im,h⟩:=A2 h
     refine Ca.of (f:=Am) (l:=l) im ?_
     (try simp +decide -implicitDefEqProofs only[go_sem])
     refine g _ _ _ (by kernel_rfl) ?_
     refine Aa ?_
     refine AWP.cond (Ai (fun hc=>?_) (fun hc=>?_))
     ·replace h:=Au h hc
      refine AWP.seq ?_
      refine AWP.region rfl ?_;intro K g
      (try simp +decide -implicitDefEqProofs only[go_sem])
      refine g _ _ ?_
      refine Aa ?_
      refine AWP.ret ?_
      refine Ad ?_
      refine Aj ?_
      refine Ad ?_
      refine Ad ?_
      obtain rfl:=Ag h
      obtain rfl:=Ba cb
      replace h:=Bp fb
      refine Aj ?_
      refine Ad ?_
      obtain rfl:=Ag h
      simp +decide -implicitDefEqProofs only[go_sem,Ae,Ac.int.injEq,Int.natCast_zero,List.replicate_zero,List.length_take,List.length_drop,Ac.own.injEq,reduceCtorEq,Int.reduceAdd,Bc,Bd,A8,Bb,A9,Tryz.results63]
     replace h:=Av h hc
     refine AWP.skip ?_
     refine Aa ?_
     refine AWP.region rfl ?_;intro K g
     (try simp +decide -implicitDefEqProofs only[go_sem])
     refine g _ _ ?_
     refine Al ?_
     refine Aa ?_
     refine AWP.region rfl ?_;intro K g
     (try simp +decide -implicitDefEqProofs only[go_sem])
     refine g _ _ ?_
     refine Aa ?_
     obtain rfl:=Ag h
     refine⟨(k1+1,(IntKind.i64.wrap (sum1+cg.Amount)),()),⟨by dsimp only;omega,Bf cb⟩,by dsimp only;omega,?_,?_⟩
     ·(simp +decide -implicitDefEqProofs only[go_sem,Ae,Ac.int.injEq,Int.natCast_zero,List.replicate_zero,List.length_take,List.length_drop,Ac.own.injEq,reduceCtorEq,Int.reduceAdd,ir]<;>omega)
     (simp +decide -implicitDefEqProofs only[go_sem,Ae,Ac.int.injEq,Int.natCast_zero,List.replicate_zero,List.length_take,List.length_drop,Ac.own.injEq,reduceCtorEq,Int.reduceAdd,ir]<;>omega)
    replace h:=Av h hc
    (try simp +decide -implicitDefEqProofs only[go_sem,hc,Bool.not_true])
    refine g _ _ _ (by kernel_rfl) ?_
    refine Aa ?_
    refine AWP.cond (Bu ?_)
    refine AWP.skip ?_
    refine Aa ?_
    refine AWP.region rfl ?_;intro K g
    (try simp +decide -implicitDefEqProofs only[go_sem])
    refine g _ _ ?_
    refine Al ?_
    refine Aa ?_
    refine AWP.region rfl ?_;intro K g
    (try simp +decide -implicitDefEqProofs only[go_sem])
    refine g _ _ ?_
    refine Aa ?_
    obtain rfl:=Ag h
    refine⟨(k1+1,(IntKind.i64.wrap (sum1+cg.Amount)),()),⟨by dsimp only;omega,Bf cb⟩,by dsimp only;omega,?_,?_⟩
    ·(simp +decide -implicitDefEqProofs only[go_sem,Ae,Ac.int.injEq,Int.natCast_zero,List.replicate_zero,List.length_take,List.length_drop,Ac.own.injEq,reduceCtorEq,Int.reduceAdd,ir]<;>omega)
    (simp +decide -implicitDefEqProofs only[go_sem,Ae,Ac.int.injEq,Int.natCast_zero,List.replicate_zero,List.length_take,List.length_drop,Ac.own.injEq,reduceCtorEq,Int.reduceAdd,ir]<;>omega)
   replace h:=Au h hc
   (try simp +decide -implicitDefEqProofs only[go_sem,hc,Bool.not_false])
   refine g _ _ ?_
   refine Aa ?_
   refine AWP.cond (A7 ?_)
   refine AWP.seq ?_
   refine AWP.region rfl ?_;intro K g
   (try simp +decide -implicitDefEqProofs only[go_sem])
   refine g _ _ ?_
   refine Aa ?_
   refine AWP.ret ?_
   refine Ad ?_
   refine Aj ?_
   refine Ad ?_
   refine Ad ?_
   obtain rfl:=Ag h
   obtain rfl:=Ba cb
   replace h:=Bp fb
   refine Aj ?_
   refine Ad ?_
   obtain rfl:=Ag h
   simp +decide -implicitDefEqProofs only[go_sem,Ae,Ac.int.injEq,Int.natCast_zero,List.replicate_zero,List.length_take,List.length_drop,Ac.own.injEq,reduceCtorEq,Int.reduceAdd,Bc,Bd,A8,Bb,A9,Tryz.results63]
  replace h:=Au h hc
  (try simp +decide -implicitDefEqProofs only[go_sem,hc,Bool.not_false])
  refine g _ _ ?_
  refine Aa ?_
  refine AWP.cond (A7 ?_)
  refine AWP.seq ?_
  refine AWP.region rfl ?_;intro K g
  (try simp +decide -implicitDefEqProofs only[go_sem])
  refine g _ _ ?_
  refine Aa ?_
  refine AWP.ret ?_
  refine Ad ?_
  refine Aj ?_
  refine Ad ?_
  refine Ad ?_
  obtain rfl:=Ag h
  obtain rfl:=Ba cb
  replace h:=Bp fb
  refine Aj ?_
  refine Ad ?_
  obtain rfl:=Ag h
  simp +decide -implicitDefEqProofs only[go_sem,Ae,Ac.int.injEq,Int.natCast_zero,List.replicate_zero,List.length_take,List.length_drop,Ac.own.injEq,reduceCtorEq,Int.reduceAdd,Bc,Bd,A8,Bb,A9,Tryz.results63]
def Fv (s_:Ax):Option (Bool):=
  some (decide (s_.Amount=0))
theorem Ix (s_:Ax) {r:Bool} (h:Fv s_=some r):Aq Tryz.prog 65 [.agg (Am s_)] (·= .bool r):=by
  refine Aq.nle (Aq.intro Tryz.func65 rfl rfl (by show _≤6;simp) ?_)
  unfold Fv at h
  (try simp +decide -implicitDefEqProofs only[go_sem])
  refine AWP.seq ?_
  refine AWP.region rfl ?_;intro K g
  (try simp +decide -implicitDefEqProofs only[go_sem])
  refine g _ _ ?_
  refine Aa ?_
  refine AWP.seq ?_
  refine AWP.region rfl ?_;intro K g
  (try simp +decide -implicitDefEqProofs only[go_sem])
  refine g _ _ ?_
  refine Aa ?_
  refine AWP.ret ?_
  obtain rfl:=Ag h
  simp +decide -implicitDefEqProofs only[go_sem,Ae,Ac.int.injEq,Int.natCast_zero,List.replicate_zero,List.length_take,List.length_drop,Ac.own.injEq,reduceCtorEq,Int.reduceAdd,Bc,Bd,A8,Bb,A9,Tryz.results65]
def Fw (y2:(List Ax)) (k2:Nat) (bw:Ax) (sv:Unit):Option (Out (Unit) ((List Ax))):=
  (Fv bw).bind fun y5=>(bif y5 then((bif (decide (((k2:Nat):Int)=(-1)))then some y2 else none)).bind fun q5=>some (Out.ret q5)else some (Out.next ()))
def Hf (l:List Ax):Option ((List Ax)):=
  (H9 l).bind fun y1=>(bif (decide (y1≠0))then some []else (A3 l).bind fun y2=>(Bo (Fw y2) 0 y2 ()).bind fun o2=>o2.on fun s2=>some y2)
theorem Kq (l:List Ax) {r:(List Ax)} (h:Hf l=some r):Aq Tryz.prog 42 [.sl 2 (l.map Am)] (·= .sl 2 (r.map Am)):=by
  refine Aq.nle (Aq.intro Tryz.func42 rfl rfl (by show _≤9;simp) ?_)
  unfold Hf at h
  (try simp +decide -implicitDefEqProofs only[go_sem])
  refine AWP.seq ?_
  refine AWP.region rfl ?_;intro K g
  (try simp +decide -implicitDefEqProofs only[go_sem])
  refine g _ _ ?_
  refine Aa ?_
  refine AWP.seq ?_
  refine AWP.seq ?_
  refine AWP.region rfl ?_;intro K g
  (try simp +decide -implicitDefEqProofs only[go_sem])
  obtain⟨y1,ch,h⟩:=A2 h
  refine Bg.pure Tryz.call63 (Lb l ch) rfl fun _ hr=>?_
  subst hr
  (try simp +decide -implicitDefEqProofs only[go_sem])
  refine g _ _ ?_
  refine Aa ?_
  refine AWP.cond (Ai (fun hc=>?_) (fun hc=>?_))
  ·replace h:=Au h hc
   refine AWP.seq ?_
   refine AWP.region rfl ?_;intro K g
   (try simp +decide -implicitDefEqProofs only[go_sem])
   refine g _ _ ?_
   refine Aa ?_
   refine AWP.ret ?_
   refine Ad ?_
   obtain rfl:=Ag h
   simp +decide -implicitDefEqProofs only[go_sem,Ae,Ac.int.injEq,Int.natCast_zero,List.replicate_zero,List.length_take,List.length_drop,Ac.own.injEq,reduceCtorEq,Int.reduceAdd,Bc,Bd,A8,Bb,A9,Tryz.results42]
  replace h:=Av h hc
  refine AWP.skip ?_
  refine Aa ?_
  refine AWP.seq ?_
  refine AWP.region rfl ?_;intro K g
  (try simp +decide -implicitDefEqProofs only[go_sem])
  obtain⟨y2,dd,h⟩:=A2 h
  refine Bg.pure Tryz.call22 (Bq l dd) rfl fun _ hr=>?_
  subst hr
  (try simp +decide -implicitDefEqProofs only[go_sem])
  refine Bg.inline Tryz.call64 Tryz.func64 rfl rfl (by show _≤42;simp) ?_
  (try simp +decide -implicitDefEqProofs only[go_sem])
  refine AWP.seq ?_
  refine AWP.region rfl ?_;intro K g
  (try simp +decide -implicitDefEqProofs only[go_sem])
  refine g _ _ ?_;clear g K
  refine Aa ?_
  refine AWP.seq ?_
  refine AWP.region rfl ?_;intro K g
  (try simp +decide -implicitDefEqProofs only[go_sem])
  refine Bg.inline Tryz.call66 Tryz.func66 rfl rfl (by show _≤19;simp) ?_
  (try simp +decide -implicitDefEqProofs only[go_sem])
  refine AWP.seq ?_
  refine AWP.region rfl ?_;intro K g
  (try simp +decide -implicitDefEqProofs only[go_sem])
  refine g _ _ ?_;clear g K
  refine Aa ?_
  refine AWP.seq ?_
  refine AWP.seq ?_
  refine AWP.region rfl ?_;intro K g
  (try simp +decide -implicitDefEqProofs only[go_sem])
  intro hm
  refine g _ _ ?_;clear g K
  refine Aa ?_
  refine AWP.block ?_
  obtain⟨o2,br,gf⟩:=A2 h
  clear h
  refine AWP.Cv (ι:=Nat×(Unit)×(Unit)) (fun zz=>[(0,.sl 2 (y2.map Am)),(1,.func 65 []),(7,.int .i64 ((y2.length:Nat):Int)),(8,.int .i64 ((zz.1:Nat):Int))]) (fun zz=>[]) (fun zz=>zz.1≤y2.length∧Bo (Fw y2) zz.1 ((y2).drop zz.1) zz.2.1=some o2) (fun zz=>y2.length - zz.1) (0,(),()) ⟨Nat.zero_le _,br⟩ (by(simp +decide -implicitDefEqProofs only[go_sem,Ae,Ac.int.injEq,Int.natCast_zero,List.replicate_zero,List.length_take,List.length_drop,Ac.own.injEq,reduceCtorEq,Int.reduceAdd]<;>omega)) (by(simp +decide -implicitDefEqProofs only[go_sem,Ae,Ac.int.injEq,Int.natCast_zero,List.replicate_zero,List.length_take,List.length_drop,Ac.own.injEq,reduceCtorEq,Int.reduceAdd]<;>omega)) (fun x=>⟨rfl,rfl,rfl⟩) ?_
  clear br
  rintro⟨k2,⟨⟩,⟨⟩⟩ ⟨db,br⟩
  dsimp only at db br ⊢
  refine AWP.seq ?_
  refine AWP.region rfl ?_;intro K g
  (try simp +decide -implicitDefEqProofs only[go_sem])
  refine g _ _ ?_;clear g K
  refine Aa ?_
  refine AWP.seq ?_
  refine AWP.cond (Ai (fun hc=>?_) (fun hc=>?_))
  rotate_left
  ·obtain rfl:=B8 br (fun hl=>by have:=bJ hc;omega)
   have h:=B7 gf;try dsimp only at h
   have ba:y2.length=k2:=by have:=bJ hc;omega
   subst ba
   refine AWP.exit ?_
   refine An ?_
   refine An ?_
   refine A6 ?_
   refine Aa ?_
   refine AWP.seq ?_
   refine AWP.region rfl ?_;intro K g
   (try simp +decide -implicitDefEqProofs only[go_sem])
   refine g _ _ ?_;clear g K
   refine Aa ?_
   refine AWP.ret ?_
   (try simp +decide -implicitDefEqProofs only[go_sem,Tryz.results66])
   refine g _ _ ?_;clear g K
   refine Aa ?_
   refine AWP.seq ?_
   refine AWP.seq ?_
   refine AWP.region rfl ?_;intro K g
   (try simp +decide -implicitDefEqProofs only[go_sem])
   refine g _ _ ?_;clear g K
   refine Aa ?_
   refine AWP.cond (A7 ?_)
   refine AWP.seq ?_
   refine AWP.region rfl ?_;intro K g
   (try simp +decide -implicitDefEqProofs only[go_sem])
   refine g _ _ ?_;clear g K
   refine Aa ?_
   refine AWP.ret ?_
   refine Ad ?_
   (try simp +decide -implicitDefEqProofs only[go_sem,Tryz.results64])
   refine g _ _ ?_
   refine Aa ?_
   refine AWP.ret ?_
   obtain rfl:=Ag h
   simp +decide -implicitDefEqProofs only[go_sem,Ae,Ac.int.injEq,Int.natCast_zero,List.replicate_zero,List.length_take,List.length_drop,Ac.own.injEq,reduceCtorEq,Int.reduceAdd,Bc,Bd,A8,Bb,A9,Tryz.results42]
  have da:k2<y2.length:=by have:=bK hc;omega
  obtain⟨bw,b2,jm,h,br⟩:=Bw br da
  have np:=Br jm
  have iq:IntKind.i64.wrap (((k2:Nat):Int)+1)=(((k2:Nat):Int)+1):=by rw[wrap_i64]<;>omega
  unfold Fw at h;try dsimp only at h
  refine AWP.skip ?_
  refine Aa ?_
  refine AWP.seq ?_
  refine AWP.block ?_
  refine AWP.seq ?_
  refine AWP.region rfl ?_;intro K g
  (try simp +decide -implicitDefEqProofs only[go_sem])
  refine g _ _ ?_;clear g K
  refine Aa ?_
  refine AWP.seq ?_
  refine AWP.region rfl ?_;intro K g
  (try simp +decide -implicitDefEqProofs only[go_sem])
  refine Ca.of (f:=Am) (l:=y2) np ?_
  (try simp +decide -implicitDefEqProofs only[go_sem])
  obtain⟨y5,fm,h⟩:=A2 h
  refine Bg.pure Tryz.call65 (Ix bw fm) rfl fun _ hr=>?_
  subst hr
  (try simp +decide -implicitDefEqProofs only[go_sem])
  refine g _ _ ?_;clear g K
  refine Aa ?_
  refine AWP.cond (Ai (fun hc=>?_) (fun hc=>?_))
  ·replace h:=Au h hc
   refine AWP.seq ?_
   refine AWP.region rfl ?_;intro K g
   (try simp +decide -implicitDefEqProofs only[go_sem])
   refine g _ _ ?_;clear g K
   refine Aa ?_
   refine AWP.ret ?_
   refine Aj ?_
   refine Ad ?_
   refine Ad ?_
   obtain⟨q5,hq,h⟩:=A2 h
   obtain rfl:=Ag h
   obtain rfl:=Ba br
   replace h:=hq.trans (Bp gf)
   refine Aj ?_
   refine Ad ?_
   (try simp +decide -implicitDefEqProofs only[go_sem,Tryz.results66])
   refine g _ _ ?_;clear g K
   refine Aa ?_
   refine AWP.seq ?_
   refine AWP.seq ?_
   refine AWP.region rfl ?_;intro K g
   (try simp +decide -implicitDefEqProofs only[go_sem])
   refine g _ _ ?_;clear g K
   refine Aa ?_
   refine AWP.cond (Ai (fun hc=>?_) (fun hc=>?_))
   ·replace h:=Au h hc
    refine AWP.seq ?_
    refine AWP.region rfl ?_;intro K g
    (try simp +decide -implicitDefEqProofs only[go_sem])
    refine g _ _ ?_;clear g K
    refine Aa ?_
    refine AWP.ret ?_
    refine Ad ?_
    (try simp +decide -implicitDefEqProofs only[go_sem,Tryz.results64])
    refine g _ _ ?_
    refine Aa ?_
    refine AWP.ret ?_
    obtain rfl:=Ag h
    simp +decide -implicitDefEqProofs only[go_sem,Ae,Ac.int.injEq,Int.natCast_zero,List.replicate_zero,List.length_take,List.length_drop,Ac.own.injEq,reduceCtorEq,Int.reduceAdd,Bc,Bd,A8,Bb,A9,Tryz.results42]
   replace h:=Av h hc
   cases h
  replace h:=Av h hc
  refine AWP.skip ?_
  refine Al ?_
  refine Aa ?_
  refine AWP.region rfl ?_;intro K g
  (try simp +decide -implicitDefEqProofs only[go_sem])
  refine g _ _ ?_;clear g K
  refine Aa ?_
  obtain rfl:=Ag h
  refine⟨(k2+1,(),()),⟨by dsimp only;omega,Bf br⟩,by dsimp only;omega,?_,?_⟩
  ·(simp +decide -implicitDefEqProofs only[go_sem,Ae,Ac.int.injEq,Int.natCast_zero,List.replicate_zero,List.length_take,List.length_drop,Ac.own.injEq,reduceCtorEq,Int.reduceAdd,iq]<;>omega)
  (simp +decide -implicitDefEqProofs only[go_sem,Ae,Ac.int.injEq,Int.natCast_zero,List.replicate_zero,List.length_take,List.length_drop,Ac.own.injEq,reduceCtorEq,Int.reduceAdd,iq]<;>omega)
def Fx (az:Int) (dk:Nat) (fk:Ax) (sv:(List Int)×(List Int)):Option (Out ((List Int)×(List Int)) (Out (Int×(List Int)×(List Int)) ((List Int)×(List Int)))):=
  okB (decide (0≤((dk:Nat):Int)∧((dk:Nat):Int)≤Na .i64)) ((bif (decide ((N1 .i64 (Mj az ((dk:Nat):Int)) 1)=1))then okB (decide (0≤((dk:Nat):Int)∧((dk:Nat):Int)≤Na .i64)) ((Ch sv.1 (Cq .i64 az (IntKind.i64.wrap (Fk 1 ((dk:Nat):Int))))).bind fun aa=>(Ch sv.1 az).bind fun dp=>(Ch sv.2 az).bind fun cp=>(Ch sv.2 (Cq .i64 az (IntKind.i64.wrap (Fk 1 ((dk:Nat):Int))))).bind fun ay=>some (Out.next ((sv.1.set az.toNat (IntKind.i64.wrap (aa+fk.Amount))),(sv.2.set az.toNat (if cp<ay then ay else cp)))))else some (Out.next (sv.1,sv.2))))
def Fy (l:List Ax) (sv:Int×(List Int)×(List Int)):Option (Out (Int×(List Int)×(List Int)) ((List Int)×(List Int))):=
  (bif (decide (sv.1<((sv.2.1.length:Nat):Int)))then (Bo (Fx sv.1) 0 l (sv.2.1,sv.2.2)).bind fun o10=>o10.on fun s10=>(Ch s10.1 sv.1).bind fun dt=>(bif (decide (dt=0))then (Ch s10.2 sv.1).bind fun bx=>some (Out.next ((IntKind.i64.wrap (sv.1+1)),s10.1,(s10.2.set sv.1.toNat (IntKind.i64.wrap (bx+1)))))else some (Out.next ((IntKind.i64.wrap (sv.1+1)),s10.1,s10.2)))else some (Out.ret (sv.2.1,sv.2.2)))
def Fz (l:List Ax):Option ((List Int)×(List Int)):=
  okB (decide (0≤((l.length:Nat):Int)∧((l.length:Nat):Int)≤Na .i64)) (Xt (IntKind.i64.wrap (Fk (1:Int) ((l.length:Nat):Int))) (okB (decide (0≤((l.length:Nat):Int)∧((l.length:Nat):Int)≤Na .i64)) (Xt (IntKind.i64.wrap (Fk (1:Int) ((l.length:Nat):Int))) ((N5 (Fy l) fuel ((1:Int),(List.replicate (IntKind.i64.wrap (Fk (1:Int) ((l.length:Nat):Int))).toNat (0:Int)),(List.replicate (IntKind.i64.wrap (Fk (1:Int) ((l.length:Nat):Int))).toNat (0:Int)))).bind fun o5=>o5.on fun _=>none))))
theorem Js (l:List Ax) {r:(List Int)×(List Int)} (h:Fz l=some r):Ci Tryz.prog 43 [.sl 2 (l.map Am)] (·= .tuple [.sl 1 (r.1.map B5),.sl 1 (r.2.map B5)]):=by
  refine Ci.nle (Ci.intro Tryz.func43 rfl rfl (by show _≤74;simp) ?_)
  unfold Fz at h
  (try simp +decide -implicitDefEqProofs only[go_sem])
  refine AWP.seq ?_
  refine AWP.region rfl ?_;intro K g
  (try simp +decide -implicitDefEqProofs only[go_sem])
  refine g _ _ ?_
  refine Aa ?_
  refine AWP.seq ?_
  refine AWP.region rfl ?_;intro K g
  (try simp +decide -implicitDefEqProofs only[go_sem])
  intro hm
  obtain⟨hk,h⟩:=H8 h
  first | refine⟨hk,?_⟩ | refine⟨hk.2,?_⟩ | skip
  obtain⟨hk,db,h⟩:=Uh h
  (repeat refine rp ?_);try simp +decide -implicitDefEqProofs only[go_sem]
  refine g _ _ ?_
  refine Aa ?_
  refine AWP.seq ?_
  refine AWP.region rfl ?_;intro K g
  (try simp +decide -implicitDefEqProofs only[go_sem])
  intro hm
  obtain⟨hk,h⟩:=H8 h
  first | refine⟨hk,?_⟩ | refine⟨hk.2,?_⟩ | skip
  obtain⟨hk,db,h⟩:=Uh h
  (repeat refine rp ?_);try simp +decide -implicitDefEqProofs only[go_sem]
  refine g _ _ ?_
  refine Aa ?_
  refine AWP.seq ?_
  refine AWP.seq ?_
  refine AWP.region rfl ?_;intro K g
  (try simp +decide -implicitDefEqProofs only[go_sem])
  refine g _ _ ?_
  refine Aa ?_
  refine AWP.block ?_
  obtain⟨o5,dj,n0⟩:=A2 h
  clear h
  refine AWP.Cv (ι:=Nat×(Int×(List Int)×(List Int))×(Nat×Nat)) (fun zz=>[(0,.sl 2 (l.map Am)),(2,.own 0 zz.2.2.1 0 zz.2.1.2.1.length),(3,.own 1 zz.2.2.2 0 zz.2.1.2.2.length),(4,.int .i64 zz.2.1.1)]) (fun zz=>[.row zz.2.2.1 1 (zz.2.1.2.1.map B5),.row zz.2.2.2 1 (zz.2.1.2.2.map B5)]) (fun zz=>N5 (Fy l) zz.1 zz.2.1=some o5) (fun zz=>zz.1) (fuel,((1:Int),(List.replicate (IntKind.i64.wrap (Fk (1:Int) ((l.length:Nat):Int))).toNat (0:Int)),(List.replicate (IntKind.i64.wrap (Fk (1:Int) ((l.length:Nat):Int))).toNat (0:Int))),(0,0)) dj (by(simp +decide -implicitDefEqProofs only[go_sem,Ae,Ac.int.injEq,Int.natCast_zero,List.replicate_zero,List.length_take,List.length_drop,Ac.own.injEq,reduceCtorEq,Int.reduceAdd]<;>omega)) (by(simp +decide -implicitDefEqProofs only[go_sem,Ae,Ac.int.injEq,Int.natCast_zero,List.replicate_zero,List.length_take,List.length_drop,Ac.own.injEq,reduceCtorEq,Int.reduceAdd]<;>omega)) (fun x=>⟨rfl,rfl,rfl⟩) ?_
  clear dj
  rintro⟨n5,⟨az,sums2,most4⟩,⟨qy,ly⟩⟩ dj
  dsimp only at dj ⊢
  obtain⟨m5,b5,rfl,h,dj⟩:=S0 dj
  unfold Fy at h;try dsimp only at h
  refine AWP.seq ?_
  refine AWP.seq ?_
  refine AWP.region rfl ?_;intro K g
  (try simp +decide -implicitDefEqProofs only[go_sem])
  intro hm
  refine g _ _ ?_
  refine Aa ?_
  refine AWP.cond (Ai (fun hc=>?_) (fun hc=>?_))
  rotate_left
  ·replace h:=Av h hc
   refine AWP.exit ?_
   refine An ?_
   refine An ?_
   obtain rfl:=Ag h
   obtain rfl:=Ba dj
   replace h:=Bp n0
   refine A6 ?_
   refine Aa ?_
   refine AWP.seq ?_
   refine AWP.region rfl ?_;intro K g
   (try simp +decide -implicitDefEqProofs only[go_sem])
   refine g _ _ ?_
   refine Aa ?_
   refine AWP.ret ?_
   obtain rfl:=Ag h
   simp +decide -implicitDefEqProofs only[go_sem,Ae,Ac.int.injEq,Int.natCast_zero,List.replicate_zero,List.length_take,List.length_drop,Ac.own.injEq,reduceCtorEq,Int.reduceAdd,Bc,Bd,A8,Bb,A9,Tryz.results43]
  replace h:=Au h hc
  refine AWP.skip ?_
  refine Aa ?_
  refine AWP.seq ?_
  refine AWP.block ?_
  refine AWP.seq ?_
  refine AWP.seq ?_
  refine AWP.region rfl ?_;intro K g
  (try simp +decide -implicitDefEqProofs only[go_sem])
  intro hm
  refine g _ _ ?_
  refine Aa ?_
  refine AWP.block ?_
  obtain⟨o10,cj,ng⟩:=A2 h
  clear h
  refine AWP.Cv (ι:=Nat×((List Int)×(List Int))×(Nat×Nat)) (fun zz=>[(0,.sl 2 (l.map Am)),(2,.own 0 zz.2.2.1 0 zz.2.1.1.length),(3,.own 1 zz.2.2.2 0 zz.2.1.2.length),(4,.int .i64 az),(22,.sl 2 (l.map Am)),(23,.int .i64 ((l.length:Nat):Int)),(24,.int .i64 ((zz.1:Nat):Int))]) (fun zz=>[.row zz.2.2.1 1 (zz.2.1.1.map B5),.row zz.2.2.2 1 (zz.2.1.2.map B5)]) (fun zz=>zz.1≤l.length∧Bo (Fx az) zz.1 ((l).drop zz.1) zz.2.1=some o10) (fun zz=>l.length - zz.1) (0,(sums2,most4),(qy,ly)) ⟨Nat.zero_le _,cj⟩ (by(simp +decide -implicitDefEqProofs only[go_sem,Ae,Ac.int.injEq,Int.natCast_zero,List.replicate_zero,List.length_take,List.length_drop,Ac.own.injEq,reduceCtorEq,Int.reduceAdd]<;>omega)) (by(simp +decide -implicitDefEqProofs only[go_sem,Ae,Ac.int.injEq,Int.natCast_zero,List.replicate_zero,List.length_take,List.length_drop,Ac.own.injEq,reduceCtorEq,Int.reduceAdd]<;>omega)) (fun x=>⟨rfl,rfl,rfl⟩) ?_
  clear cj
  rintro⟨dk,⟨sums7,most9⟩,⟨kh,ep⟩⟩ ⟨mu,cj⟩
  dsimp only at mu cj ⊢
  refine AWP.seq ?_
  refine AWP.region rfl ?_;intro K g
  (try simp +decide -implicitDefEqProofs only[go_sem])
  refine g _ _ ?_
  refine Aa ?_
  refine AWP.seq ?_
  refine AWP.cond (Ai (fun hc=>?_) (fun hc=>?_))
  rotate_left
  ·obtain rfl:=B8 cj (fun hl=>by have:=bJ hc;omega)
   have h:=B7 ng;try dsimp only at h
   have ba:l.length=dk:=by have:=bJ hc;omega
   subst ba
   refine AWP.exit ?_
   refine An ?_
   refine An ?_
   refine A6 ?_
   refine Aa ?_
   refine AWP.seq ?_
   refine AWP.region rfl ?_;intro K g
   (try simp +decide -implicitDefEqProofs only[go_sem])
   obtain⟨dt,cw,h⟩:=A2 h
   refine C5 cw (by first | rfl | exact(Aw _).symm | (simp only[bR,List.length_cons,List.length_nil,List.length_set,bS]<;>omega) | (simp only[List.length_take,List.length_drop,List.length_set,bS]<;>omega)) ?_
   (try simp +decide -implicitDefEqProofs only[go_sem])
   refine Bt.of (f:=B5) (l:=sums7) (n:=az) cw ?_
   (try simp +decide -implicitDefEqProofs only[go_sem])
   refine g _ _ ?_
   refine Aa ?_
   refine AWP.cond (Ai (fun hc=>?_) (fun hc=>?_))
   ·replace h:=Au h hc
    refine AWP.region rfl ?_;intro K g
    (try simp +decide -implicitDefEqProofs only[go_sem])
    obtain⟨bx,de,h⟩:=A2 h
    refine C5 de (by first | rfl | exact(Aw _).symm | (simp only[bR,List.length_cons,List.length_nil,List.length_set,bS]<;>omega) | (simp only[List.length_take,List.length_drop,List.length_set,bS]<;>omega)) ?_
    (try simp +decide -implicitDefEqProofs only[go_sem])
    refine Bt.of (f:=B5) (l:=most9) (n:=az) de ?_
    (try simp +decide -implicitDefEqProofs only[go_sem])
    refine C5 de (by first | rfl | exact(Aw _).symm | (simp only[bR,List.length_cons,List.length_nil,List.length_set,bS]<;>omega) | (simp only[List.length_take,List.length_drop,List.length_set,bS]<;>omega)) ?_
    (try simp +decide -implicitDefEqProofs only[go_sem])
    refine Bt.of (f:=B5) (l:=most9) (n:=az) de ?_
    have km:=Ce (y:=(IntKind.i64.wrap (bx+1))) de
    (try simp +decide -implicitDefEqProofs only[go_sem])
    refine g _ _ ?_
    refine Al ?_
    refine Aa ?_
    refine AWP.region rfl ?_;intro K g
    (try simp +decide -implicitDefEqProofs only[go_sem])
    refine g _ _ ?_
    refine Aa ?_
    obtain rfl:=Ag h
    refine⟨(m5,((IntKind.i64.wrap (az+1)),sums7,(most9.set az.toNat (IntKind.i64.wrap (bx+1)))),(kh,ep)),Bf dj,by dsimp only;omega,?_,?_⟩
    ·(simp +decide -implicitDefEqProofs only[go_sem,Ae,Ac.int.injEq,Int.natCast_zero,List.replicate_zero,List.length_take,List.length_drop,Ac.own.injEq,reduceCtorEq,Int.reduceAdd]<;>omega)
    (simp +decide -implicitDefEqProofs only[go_sem,Ae,Ac.int.injEq,Int.natCast_zero,List.replicate_zero,List.length_take,List.length_drop,Ac.own.injEq,reduceCtorEq,Int.reduceAdd]<;>omega)
   replace h:=Av h hc
   refine AWP.skip ?_
   refine Al ?_
   refine Aa ?_
   refine AWP.region rfl ?_;intro K g
   (try simp +decide -implicitDefEqProofs only[go_sem])
   refine g _ _ ?_
   refine Aa ?_
   obtain rfl:=Ag h
   refine⟨(m5,((IntKind.i64.wrap (az+1)),sums7,most9),(kh,ep)),Bf dj,by dsimp only;omega,?_,?_⟩
   ·(simp +decide -implicitDefEqProofs only[go_sem,Ae,Ac.int.injEq,Int.natCast_zero,List.replicate_zero,List.length_take,List.length_drop,Ac.own.injEq,reduceCtorEq,Int.reduceAdd]<;>omega)
   (simp +decide -implicitDefEqProofs only[go_sem,Ae,Ac.int.injEq,Int.natCast_zero,List.replicate_zero,List.length_take,List.length_drop,Ac.own.injEq,reduceCtorEq,Int.reduceAdd]<;>omega)
  have jz:dk<l.length:=by have:=bK hc;omega
  obtain⟨fk,b10,jq,h,cj⟩:=Bw cj jz
  have ox:=Br jq
  have gm:IntKind.i64.wrap (((dk:Nat):Int)+1)=(((dk:Nat):Int)+1):=by rw[wrap_i64]<;>omega
  unfold Fx at h;try dsimp only at h
  refine AWP.skip ?_
  refine Aa ?_
  refine AWP.seq ?_
  refine AWP.block ?_
  refine AWP.seq ?_
  refine AWP.region rfl ?_;intro K g
  (try simp +decide -implicitDefEqProofs only[go_sem])
  refine Ca.of (f:=Am) (l:=l) ox ?_
  (try simp +decide -implicitDefEqProofs only[go_sem])
  refine g _ _ ?_
  refine Aa ?_
  refine AWP.seq ?_
  refine AWP.region rfl ?_;intro K g
  (try simp +decide -implicitDefEqProofs only[go_sem])
  obtain⟨hk,h⟩:=H8 h
  first | refine⟨hk,?_⟩ | refine⟨hk.2,?_⟩ | skip
  refine g _ _ ?_
  refine Aa ?_
  refine AWP.cond (Ai (fun hc=>?_) (fun hc=>?_))
  ·replace h:=Au h hc
   refine AWP.seq ?_
   refine AWP.region rfl ?_;intro K g
   (try simp +decide -implicitDefEqProofs only[go_sem])
   obtain⟨hk,h⟩:=H8 h
   first | refine⟨hk,?_⟩ | refine⟨hk.2,?_⟩ | skip
   refine g _ _ ?_
   refine Aa ?_
   refine AWP.seq ?_
   refine AWP.draw Tryz.mixed (by kernel_rfl) ?_;intro K g
   (try simp +decide -implicitDefEqProofs only[go_sem])
   obtain⟨aa,bs,h⟩:=A2 h
   refine C5 bs (by first | rfl | exact(Aw _).symm | (simp only[bR,List.length_cons,List.length_nil,List.length_set,bS]<;>omega) | (simp only[List.length_take,List.length_drop,List.length_set,bS]<;>omega)) ?_
   (try simp +decide -implicitDefEqProofs only[go_sem])
   refine Bt.of (f:=B5) (l:=sums7) (n:=(Cq .i64 az (IntKind.i64.wrap (Fk 1 ((dk:Nat):Int))))) bs ?_
   (try simp +decide -implicitDefEqProofs only[go_sem])
   obtain⟨dp,ed,h⟩:=A2 h
   refine C5 ed (by first | rfl | exact(Aw _).symm | (simp only[bR,List.length_cons,List.length_nil,List.length_set,bS]<;>omega) | (simp only[List.length_take,List.length_drop,List.length_set,bS]<;>omega)) ?_
   (try simp +decide -implicitDefEqProofs only[go_sem])
   refine Bt.of (f:=B5) (l:=sums7) (n:=az) ed ?_
   have ey:=Ce (y:=(IntKind.i64.wrap (aa+fk.Amount))) ed
   (try simp +decide -implicitDefEqProofs only[go_sem])
   refine g _ _ _ (by kernel_rfl) ?_
   refine Aa ?_
   refine AWP.draw Tryz.mixed (by kernel_rfl) ?_;intro K g
   (try simp +decide -implicitDefEqProofs only[go_sem])
   obtain⟨cp,cx,h⟩:=A2 h
   refine C5 cx (by first | rfl | exact(Aw _).symm | (simp only[bR,List.length_cons,List.length_nil,List.length_set,bS]<;>omega) | (simp only[List.length_take,List.length_drop,List.length_set,bS]<;>omega)) ?_
   (try simp +decide -implicitDefEqProofs only[go_sem])
   refine Bt.of (f:=B5) (l:=most9) (n:=az) cx ?_
   (try simp +decide -implicitDefEqProofs only[go_sem])
   obtain⟨ay,eu,h⟩:=A2 h
   refine C5 eu (by first | rfl | exact(Aw _).symm | (simp only[bR,List.length_cons,List.length_nil,List.length_set,bS]<;>omega) | (simp only[List.length_take,List.length_drop,List.length_set,bS]<;>omega)) ?_
   (try simp +decide -implicitDefEqProofs only[go_sem])
   refine Bt.of (f:=B5) (l:=most9) (n:=(Cq .i64 az (IntKind.i64.wrap (Fk 1 ((dk:Nat):Int))))) eu ?_
   (try simp +decide -implicitDefEqProofs only[go_sem])
   refine C5 cx (by first | rfl | exact(Aw _).symm | (simp only[bR,List.length_cons,List.length_nil,List.length_set,bS]<;>omega) | (simp only[List.length_take,List.length_drop,List.length_set,bS]<;>omega)) ?_
   (try simp +decide -implicitDefEqProofs only[go_sem])
   refine Bt.of (f:=B5) (l:=most9) (n:=az) cx ?_
   have ju:=Ce (y:=(if cp<ay then ay else cp)) cx
   (try simp +decide -implicitDefEqProofs only[go_sem])
   refine g _ _ _ (by kernel_rfl) ?_
   refine Al ?_
   refine Aa ?_
   refine AWP.region rfl ?_;intro K g
   (try simp +decide -implicitDefEqProofs only[go_sem])
   refine g _ _ ?_
   refine Aa ?_
   obtain rfl:=Ag h
   refine⟨(dk+1,((sums7.set az.toNat (IntKind.i64.wrap (aa+fk.Amount))),(most9.set az.toNat (if cp<ay then ay else cp))),(kh,ep)),⟨by dsimp only;omega,Bf cj⟩,by dsimp only;omega,?_,?_⟩
   ·(simp +decide -implicitDefEqProofs only[go_sem,Ae,Ac.int.injEq,Int.natCast_zero,List.replicate_zero,List.length_take,List.length_drop,Ac.own.injEq,reduceCtorEq,Int.reduceAdd,gm]<;>omega)
   (simp +decide -implicitDefEqProofs only[go_sem,Ae,Ac.int.injEq,Int.natCast_zero,List.replicate_zero,List.length_take,List.length_drop,Ac.own.injEq,reduceCtorEq,Int.reduceAdd,gm]<;>omega)
  replace h:=Av h hc
  refine AWP.skip ?_
  refine Al ?_
  refine Aa ?_
  refine AWP.region rfl ?_;intro K g
  (try simp +decide -implicitDefEqProofs only[go_sem])
  refine g _ _ ?_
  refine Aa ?_
  obtain rfl:=Ag h
  refine⟨(dk+1,(sums7,most9),(kh,ep)),⟨by dsimp only;omega,Bf cj⟩,by dsimp only;omega,?_,?_⟩
  ·(simp +decide -implicitDefEqProofs only[go_sem,Ae,Ac.int.injEq,Int.natCast_zero,List.replicate_zero,List.length_take,List.length_drop,Ac.own.injEq,reduceCtorEq,Int.reduceAdd,gm]<;>omega)
  (simp +decide -implicitDefEqProofs only[go_sem,Ae,Ac.int.injEq,Int.natCast_zero,List.replicate_zero,List.length_take,List.length_drop,Ac.own.injEq,reduceCtorEq,Int.reduceAdd,gm]<;>omega)
theorem Kr (l:List Ax) {r:(List Int)×(List Int)} (h:Fz l=some r):Aq Tryz.prog 43 [.sl 2 (l.map Am)] (·= .tuple [.sl 1 (r.1.map B5),.sl 1 (r.2.map B5)]):=(Js l h).pure
def C0 (s_:Ax):Option (Bool):=
  some (decide (s_.Amount<0))
theorem C6 (s_:Ax) {r:Bool} (h:C0 s_=some r):Aq Tryz.prog 67 [.agg (Am s_)] (·= .bool r):=by
  refine Aq.nle (Aq.intro Tryz.func67 rfl rfl (by show _≤6;simp) ?_)
  unfold C0 at h
  (try simp +decide -implicitDefEqProofs only[go_sem])
  refine AWP.seq ?_
  refine AWP.region rfl ?_;intro K g
  (try simp +decide -implicitDefEqProofs only[go_sem])
  refine g _ _ ?_
  refine Aa ?_
  refine AWP.seq ?_
  refine AWP.region rfl ?_;intro K g
  (try simp +decide -implicitDefEqProofs only[go_sem])
  refine g _ _ ?_
  refine Aa ?_
  refine AWP.ret ?_
  obtain rfl:=Ag h
  simp +decide -implicitDefEqProofs only[go_sem,Ae,Ac.int.injEq,Int.natCast_zero,List.replicate_zero,List.length_take,List.length_drop,Ac.own.injEq,reduceCtorEq,Int.reduceAdd,Bc,Bd,A8,Bb,A9,Tryz.results67]
def Dk (s_:Ax):Option (Bool):=
  some (decide (0<s_.Amount))
theorem D5 (s_:Ax) {r:Bool} (h:Dk s_=some r):Aq Tryz.prog 68 [.agg (Am s_)] (·= .bool r):=by
  refine Aq.nle (Aq.intro Tryz.func68 rfl rfl (by show _≤6;simp) ?_)
  unfold Dk at h
  (try simp +decide -implicitDefEqProofs only[go_sem])
  refine AWP.seq ?_
  refine AWP.region rfl ?_;intro K g
  (try simp +decide -implicitDefEqProofs only[go_sem])
  refine g _ _ ?_
  refine Aa ?_
  refine AWP.seq ?_
  refine AWP.region rfl ?_;intro K g
  (try simp +decide -implicitDefEqProofs only[go_sem])
  refine g _ _ ?_
  refine Aa ?_
  refine AWP.ret ?_
  obtain rfl:=Ag h
  simp +decide -implicitDefEqProofs only[go_sem,Ae,Ac.int.injEq,Int.natCast_zero,List.replicate_zero,List.length_take,List.length_drop,Ac.own.injEq,reduceCtorEq,Int.reduceAdd,Bc,Bd,A8,Bb,A9,Tryz.results68]
def Fe (l:List Ax):Option ((List C8)):=
  (Hf l).bind fun y1=>(Fz y1).bind fun y2=>(bif (decide ((IntKind.i64.wrap (((y2.1.length:Nat):Int) - 1))≠0))then (Ch y2.2 (IntKind.i64.wrap (((y2.1.length:Nat):Int) - 1))).bind fun cg=>(Ch y2.1 (IntKind.i64.wrap (((y2.1.length:Nat):Int) - 1))).bind fun bw=>(bif (decide (bw=0))then (bif (decide (0<((y1.length:Nat):Int)))then (bif (decide ((Cq .i64 (IntKind.i64.wrap (((y2.1.length:Nat):Int) - 1)) (IntKind.i64.wrap (Fk 1 0)))≠(IntKind.i64.wrap (((y2.1.length:Nat):Int) - 1))))then (Ch y2.2 (Cq .i64 (IntKind.i64.wrap (((y2.1.length:Nat):Int) - 1)) (IntKind.i64.wrap (Fk 1 0)))).bind fun il=>(bif (decide (il=(IntKind.i64.wrap (cg - 1))))then (Ch y1 0).bind fun eh=>(Ch y2.1 (Cq .i64 (IntKind.i64.wrap (((y2.1.length:Nat):Int) - 1)) (IntKind.i64.wrap (Fk 1 0)))).bind fun je=>(bif (decide (je=0))then none else(bif (decide ((Cq .i64 (IntKind.i64.wrap (((y2.1.length:Nat):Int) - 1)) (IntKind.i64.wrap (Fk 1 0)))≠0))then (bif (decide (je=0))then none else(bif (decide (0<((y1.length:Nat):Int)))then (bif (decide ((Cq .i64 (Cq .i64 (IntKind.i64.wrap (((y2.1.length:Nat):Int) - 1)) (IntKind.i64.wrap (Fk 1 0))) (IntKind.i64.wrap (Fk 1 0)))≠(Cq .i64 (IntKind.i64.wrap (((y2.1.length:Nat):Int) - 1)) (IntKind.i64.wrap (Fk 1 0)))))then none else(bif (decide (1<((y1.length:Nat):Int)))then (bif (decide ((Cq .i64 (Cq .i64 (IntKind.i64.wrap (((y2.1.length:Nat):Int) - 1)) (IntKind.i64.wrap (Fk 1 0))) (IntKind.i64.wrap (Fk 1 1)))≠(Cq .i64 (IntKind.i64.wrap (((y2.1.length:Nat):Int) - 1)) (IntKind.i64.wrap (Fk 1 0)))))then (Ch y2.2 (Cq .i64 (Cq .i64 (IntKind.i64.wrap (((y2.1.length:Nat):Int) - 1)) (IntKind.i64.wrap (Fk 1 0))) (IntKind.i64.wrap (Fk 1 1)))).bind fun dn=>(bif (decide (dn=il))then (Ch y1 1).bind fun dx=>(Ch y2.1 (Cq .i64 (Cq .i64 (IntKind.i64.wrap (((y2.1.length:Nat):Int) - 1)) (IntKind.i64.wrap (Fk 1 0))) (IntKind.i64.wrap (Fk 1 1)))).bind fun cq=>(bif (decide (cq=0))then (Ch [eh,dx] 0).bind fun ah=>(C0 ah).bind fun uv=>(bif uv then none else(Ch [eh,dx] 1).bind fun aa=>(C0 aa).bind fun kb=>(bif kb then(Dk ah).bind fun uu=>(bif uu then(Ch [eh,(Ax.mk aa.Operator (IntKind.i64.wrap (aa.Amount+(if ah.Amount<(IntKind.i64.wrap (-aa.Amount))then ah.Amount else(IntKind.i64.wrap (-aa.Amount))))))] 0).bind fun ay=>(Ch [(Ax.mk ay.Operator (IntKind.i64.wrap (ay.Amount - (if ah.Amount<(IntKind.i64.wrap (-aa.Amount))then ah.Amount else(IntKind.i64.wrap (-aa.Amount)))))),(Ax.mk aa.Operator (IntKind.i64.wrap (aa.Amount+(if ah.Amount<(IntKind.i64.wrap (-aa.Amount))then ah.Amount else(IntKind.i64.wrap (-aa.Amount))))))] 1).bind fun dt=>(C0 (Ax.mk ay.Operator (IntKind.i64.wrap (ay.Amount - (if ah.Amount<(IntKind.i64.wrap (-aa.Amount))then ah.Amount else(IntKind.i64.wrap (-aa.Amount))))))).bind fun ur=>(bif ur then none else(C0 dt).bind fun uq=>(bif uq then none else(Dk (Ax.mk ay.Operator (IntKind.i64.wrap (ay.Amount - (if ah.Amount<(IntKind.i64.wrap (-aa.Amount))then ah.Amount else(IntKind.i64.wrap (-aa.Amount))))))).bind fun iy=>(bif iy then none else(Dk dt).bind fun uo=>(bif uo then none else(bif (decide ((Cq .i64 (Cq .i64 (IntKind.i64.wrap (((y2.1.length:Nat):Int) - 1)) (IntKind.i64.wrap (Fk 1 0))) (IntKind.i64.wrap (Fk 1 1)))≠0))then none else some [(C8.mk dt.Operator ay.Operator (if ah.Amount<(IntKind.i64.wrap (-aa.Amount))then ah.Amount else(IntKind.i64.wrap (-aa.Amount))))])))))else none)else none))else none)else none)else none)else none))else none))else none))else none)else none)else none)else none)else some [])
theorem Lv (l:List Ax) {r:(List C8)} (h:Fe l=some r):Ci Tryz.prog 19 [.sl 2 (l.map Am)] (·= .sl 3 (r.map Ep)):=by
  refine Ci.nle (Ci.intro Tryz.func19 rfl rfl (by show _≤75;simp) ?_)
  unfold Fe at h
  (try simp +decide -implicitDefEqProofs only[go_sem,Int.reduceAdd,Int.reduceMul,Int.reduceNeg,Int.reduceSub,bS,List.length_set,List.set_cons_succ,List.set_cons_zero,List.take_of_length_le,Nat.le_refl,Af])
  refine AWP.seq ?_
  refine AWP.region rfl ?_;intro K g
  (try simp +decide -implicitDefEqProofs only[go_sem,Int.reduceAdd,Int.reduceMul,Int.reduceNeg,Int.reduceSub,bS,List.length_set,List.set_cons_succ,List.set_cons_zero,List.take_of_length_le,Nat.le_refl,Af])
  refine g _ _ ?_
  refine Aa ?_
  refine AWP.seq ?_
  refine AWP.region rfl ?_;intro K g
  (try simp +decide -implicitDefEqProofs only[go_sem,Int.reduceAdd,Int.reduceMul,Int.reduceNeg,Int.reduceSub,bS,List.length_set,List.set_cons_succ,List.set_cons_zero,List.take_of_length_le,Nat.le_refl,Af])
  obtain⟨y1,ch,h⟩:=A2 h
  refine Bg.pure Tryz.call42 (Kq l ch) rfl fun _ hr=>?_
  subst hr
  (try simp +decide -implicitDefEqProofs only[go_sem,Int.reduceAdd,Int.reduceMul,Int.reduceNeg,Int.reduceSub,bS,List.length_set,List.set_cons_succ,List.set_cons_zero,List.take_of_length_le,Nat.le_refl,Af])
  refine g _ _ ?_
  refine Aa ?_
  refine AWP.seq ?_
  refine AWP.region rfl ?_;intro K g
  (try simp +decide -implicitDefEqProofs only[go_sem,Int.reduceAdd,Int.reduceMul,Int.reduceNeg,Int.reduceSub,bS,List.length_set,List.set_cons_succ,List.set_cons_zero,List.take_of_length_le,Nat.le_refl,Af])
  obtain⟨y2,dd,h⟩:=A2 h
  refine Bg.pure Tryz.call43 (Kr y1 dd) rfl fun _ hr=>?_
  subst hr
  (try simp +decide -implicitDefEqProofs only[go_sem,Int.reduceAdd,Int.reduceMul,Int.reduceNeg,Int.reduceSub,bS,List.length_set,List.set_cons_succ,List.set_cons_zero,List.take_of_length_le,Nat.le_refl,Af])
  refine g _ _ ?_
  refine Aa ?_
  refine AWP.seq ?_
  refine AWP.region rfl ?_;intro K g
  (try simp +decide -implicitDefEqProofs only[go_sem,Int.reduceAdd,Int.reduceMul,Int.reduceNeg,Int.reduceSub,bS,List.length_set,List.set_cons_succ,List.set_cons_zero,List.take_of_length_le,Nat.le_refl,Af])
  refine g _ _ ?_
  refine Aa ?_
  refine AWP.seq ?_
  refine AWP.region rfl ?_;intro K g
  (try simp +decide -implicitDefEqProofs only[go_sem,Int.reduceAdd,Int.reduceMul,Int.reduceNeg,Int.reduceSub,bS,List.length_set,List.set_cons_succ,List.set_cons_zero,List.take_of_length_le,Nat.le_refl,Af])
  refine g _ _ ?_
  refine Aa ?_
  refine AWP.seq ?_
  refine AWP.region rfl ?_;intro K g
  (try simp +decide -implicitDefEqProofs only[go_sem,Int.reduceAdd,Int.reduceMul,Int.reduceNeg,Int.reduceSub,bS,List.length_set,List.set_cons_succ,List.set_cons_zero,List.take_of_length_le,Nat.le_refl,Af])
  intro hm
  refine g _ _ ?_
  refine Aa ?_
  refine AWP.seq ?_
  refine AWP.block ?_
  refine AWP.rounds 3 ?_
  refine Bx.step ?_
  refine AWP.seq ?_
  refine AWP.seq ?_
  refine AWP.region rfl ?_;intro K g
  (try simp +decide -implicitDefEqProofs only[go_sem,Int.reduceAdd,Int.reduceMul,Int.reduceNeg,Int.reduceSub,bS,List.length_set,List.set_cons_succ,List.set_cons_zero,List.take_of_length_le,Nat.le_refl,Af])
  refine g _ _ ?_
  refine Aa ?_
  refine AWP.cond (Ai (fun hc=>?_) (fun hc=>?_))
  rotate_left
  ·replace h:=Av h hc
   refine AWP.exit ?_
   refine An ?_
   refine An ?_
   refine A6 ?_
   refine Aa ?_
   refine AWP.seq ?_
   refine AWP.region rfl ?_;intro K g
   (try simp +decide -implicitDefEqProofs only[go_sem,Int.reduceAdd,Int.reduceMul,Int.reduceNeg,Int.reduceSub,bS,List.length_set,List.set_cons_succ,List.set_cons_zero,List.take_of_length_le,Nat.le_refl,Af])
   refine Bg.X6 Tryz.call45 Tryz.sortK45 ?_
   (try simp +decide -implicitDefEqProofs only[go_sem,Int.reduceAdd,Int.reduceMul,Int.reduceNeg,Int.reduceSub,bS,List.length_set,List.set_cons_succ,List.set_cons_zero,List.take_of_length_le,Nat.le_refl,Af])
   refine g _ _ ?_
   refine Aa ?_
   refine AWP.seq ?_
   refine AWP.region rfl ?_;intro K g
   (try simp +decide -implicitDefEqProofs only[go_sem,Int.reduceAdd,Int.reduceMul,Int.reduceNeg,Int.reduceSub,bS,List.length_set,List.set_cons_succ,List.set_cons_zero,List.take_of_length_le,Nat.le_refl,Af])
   refine g _ _ ?_
   refine Aa ?_
   refine AWP.ret ?_
   obtain rfl:=Ag h
   simp +decide -implicitDefEqProofs only[go_sem,Ae,Ac.int.injEq,Int.natCast_zero,List.replicate_zero,List.length_take,List.length_drop,Ac.own.injEq,reduceCtorEq,Int.reduceAdd,Bc,Bd,A8,Bb,A9,Tryz.results19,Int.reduceAdd,Int.reduceMul,Int.reduceNeg,Int.reduceSub,bS,List.length_set,List.set_cons_succ,List.set_cons_zero,List.take_of_length_le,Nat.le_refl,Af]
  replace h:=Au h hc
  refine AWP.skip ?_
  refine Aa ?_
  refine AWP.block ?_
  refine AWP.seq ?_
  refine AWP.region rfl ?_;intro K g
  (try simp +decide -implicitDefEqProofs only[go_sem,Int.reduceAdd,Int.reduceMul,Int.reduceNeg,Int.reduceSub,bS,List.length_set,List.set_cons_succ,List.set_cons_zero,List.take_of_length_le,Nat.le_refl,Af])
  obtain⟨cg,ji,h⟩:=A2 h
  refine Ca.of (f:=B5) (l:=y2.2) ji ?_
  (try simp +decide -implicitDefEqProofs only[go_sem,Int.reduceAdd,Int.reduceMul,Int.reduceNeg,Int.reduceSub,bS,List.length_set,List.set_cons_succ,List.set_cons_zero,List.take_of_length_le,Nat.le_refl,Af])
  refine g _ _ ?_
  refine Aa ?_
  refine AWP.seq ?_
  refine AWP.seq ?_
  refine AWP.region rfl ?_;intro K g
  (try simp +decide -implicitDefEqProofs only[go_sem,Int.reduceAdd,Int.reduceMul,Int.reduceNeg,Int.reduceSub,bS,List.length_set,List.set_cons_succ,List.set_cons_zero,List.take_of_length_le,Nat.le_refl,Af])
  obtain⟨bw,bz,h⟩:=A2 h
  refine Ca.of (f:=B5) (l:=y2.1) bz ?_
  (try simp +decide -implicitDefEqProofs only[go_sem,Int.reduceAdd,Int.reduceMul,Int.reduceNeg,Int.reduceSub,bS,List.length_set,List.set_cons_succ,List.set_cons_zero,List.take_of_length_le,Nat.le_refl,Af])
  refine g _ _ ?_
  refine Aa ?_
  refine AWP.cond (Ai (fun hc=>?_) (fun hc=>?_))
  rotate_left
  ·replace h:=Av h hc
   cases h
  replace h:=Au h hc
  refine AWP.region rfl ?_;intro K g
  (try simp +decide -implicitDefEqProofs only[go_sem,Int.reduceAdd,Int.reduceMul,Int.reduceNeg,Int.reduceSub,bS,List.length_set,List.set_cons_succ,List.set_cons_zero,List.take_of_length_le,Nat.le_refl,Af])
  refine g _ _ ?_
  refine Aa ?_
  refine AWP.seq ?_
  refine AWP.seq ?_
  refine AWP.region rfl ?_;intro K g
  (try simp +decide -implicitDefEqProofs only[go_sem,Int.reduceAdd,Int.reduceMul,Int.reduceNeg,Int.reduceSub,bS,List.length_set,List.set_cons_succ,List.set_cons_zero,List.take_of_length_le,Nat.le_refl,Af])
  intro hm
  refine g _ _ ?_
  refine Aa ?_
  refine AWP.block ?_
  refine AWP.rounds 3 ?_
  refine Bx.step ?_
  refine AWP.seq ?_
  refine AWP.region rfl ?_;intro K g
  (try simp +decide -implicitDefEqProofs only[go_sem,Int.reduceAdd,Int.reduceMul,Int.reduceNeg,Int.reduceSub,bS,List.length_set,List.set_cons_succ,List.set_cons_zero,List.take_of_length_le,Nat.le_refl,Af])
  refine g _ _ ?_
  refine Aa ?_
  refine AWP.seq ?_
  refine AWP.cond (Ai (fun hc=>?_) (fun hc=>?_))
  rotate_left
  ·replace h:=Av h hc
   refine AWP.exit ?_
   cases h
  replace h:=Au h hc
  refine AWP.skip ?_
  refine Aa ?_
  refine AWP.seq ?_
  refine AWP.block ?_
  refine AWP.seq ?_
  refine AWP.region rfl ?_;intro K g
  (try simp +decide -implicitDefEqProofs only[go_sem,Int.reduceAdd,Int.reduceMul,Int.reduceNeg,Int.reduceSub,bS,List.length_set,List.set_cons_succ,List.set_cons_zero,List.take_of_length_le,Nat.le_refl,Af])
  refine g _ _ ?_
  refine Aa ?_
  refine AWP.seq ?_
  refine AWP.region rfl ?_;intro K g
  (try simp +decide -implicitDefEqProofs only[go_sem,Int.reduceAdd,Int.reduceMul,Int.reduceNeg,Int.reduceSub,bS,List.length_set,List.set_cons_succ,List.set_cons_zero,List.take_of_length_le,Nat.le_refl,Af])
  refine g _ _ ?_
  refine Aa ?_
  refine AWP.seq ?_
  refine AWP.region rfl ?_;intro K g
  (try simp +decide -implicitDefEqProofs only[go_sem,Int.reduceAdd,Int.reduceMul,Int.reduceNeg,Int.reduceSub,bS,List.length_set,List.set_cons_succ,List.set_cons_zero,List.take_of_length_le,Nat.le_refl,Af])
  refine Ak (fun hc=>?_) (fun hc=>?_)
  ·replace h:=Au h hc
   (try simp +decide -implicitDefEqProofs only[go_sem,hc,Int.reduceAdd,Int.reduceMul,Int.reduceNeg,Int.reduceSub,bS,List.length_set,List.set_cons_succ,List.set_cons_zero,List.take_of_length_le,Nat.le_refl,Af])
   obtain⟨il,im,h⟩:=A2 h
   refine Ca.of (f:=B5) (l:=y2.2) im ?_
   (try simp +decide -implicitDefEqProofs only[go_sem,Int.reduceAdd,Int.reduceMul,Int.reduceNeg,Int.reduceSub,bS,List.length_set,List.set_cons_succ,List.set_cons_zero,List.take_of_length_le,Nat.le_refl,Af])
   refine g _ _ ?_
   refine Aa ?_
   refine AWP.cond (Ai (fun hc=>?_) (fun hc=>?_))
   rotate_left
   ·replace h:=Av h hc
    cases h
   replace h:=Au h hc
   refine AWP.seq ?_
   refine AWP.region rfl ?_;intro K g
   (try simp +decide -implicitDefEqProofs only[go_sem,Int.reduceAdd,Int.reduceMul,Int.reduceNeg,Int.reduceSub,bS,List.length_set,List.set_cons_succ,List.set_cons_zero,List.take_of_length_le,Nat.le_refl,Af])
   obtain⟨eh,gl,h⟩:=A2 h
   refine Ca.of (f:=Am) (l:=y1) gl ?_
   (try simp +decide -implicitDefEqProofs only[go_sem,Int.reduceAdd,Int.reduceMul,Int.reduceNeg,Int.reduceSub,bS,List.length_set,List.set_cons_succ,List.set_cons_zero,List.take_of_length_le,Nat.le_refl,Af])
   refine g _ _ ?_
   refine Aa ?_
   refine AWP.seq ?_
   refine AWP.region rfl ?_;intro K g
   (try simp +decide -implicitDefEqProofs only[go_sem,Int.reduceAdd,Int.reduceMul,Int.reduceNeg,Int.reduceSub,bS,List.length_set,List.set_cons_succ,List.set_cons_zero,List.take_of_length_le,Nat.le_refl,Af])
   refine g _ _ ?_
   refine Aa ?_
   refine AWP.exit ?_
   refine Lq (by decide) ?_
   refine An ?_
   refine An ?_
   refine A6 ?_
   refine Aa ?_
   refine AWP.seq ?_
   refine AWP.region rfl ?_;intro K g
   (try simp +decide -implicitDefEqProofs only[go_sem,Int.reduceAdd,Int.reduceMul,Int.reduceNeg,Int.reduceSub,bS,List.length_set,List.set_cons_succ,List.set_cons_zero,List.take_of_length_le,Nat.le_refl,Af])
   obtain⟨je,oj,h⟩:=A2 h
   refine Ca.of (f:=B5) (l:=y2.1) oj ?_
   (try simp +decide -implicitDefEqProofs only[go_sem,Int.reduceAdd,Int.reduceMul,Int.reduceNeg,Int.reduceSub,bS,List.length_set,List.set_cons_succ,List.set_cons_zero,List.take_of_length_le,Nat.le_refl,Af])
   refine g _ _ ?_
   refine Aa ?_
   refine AWP.cond (Ai (fun hc=>?_) (fun hc=>?_))
   ·replace h:=Au h hc
    cases h
   replace h:=Av h hc
   refine AWP.skip ?_
   refine Al ?_
   refine Aa ?_
   refine Bx.step ?_
   refine AWP.seq ?_
   refine AWP.seq ?_
   refine AWP.region rfl ?_;intro K g
   (try simp +decide -implicitDefEqProofs only[go_sem,Int.reduceAdd,Int.reduceMul,Int.reduceNeg,Int.reduceSub,bS,List.length_set,List.set_cons_succ,List.set_cons_zero,List.take_of_length_le,Nat.le_refl,Af])
   refine g _ _ ?_
   refine Aa ?_
   refine AWP.cond (Ai (fun hc=>?_) (fun hc=>?_))
   rotate_left
   ·replace h:=Av h hc
    refine AWP.exit ?_
    cases h
   replace h:=Au h hc
   refine AWP.skip ?_
   refine Aa ?_
   refine AWP.block ?_
   refine AWP.seq ?_
   refine AWP.region rfl ?_;intro K g
   (try simp +decide -implicitDefEqProofs only[go_sem,Int.reduceAdd,Int.reduceMul,Int.reduceNeg,Int.reduceSub,bS,List.length_set,List.set_cons_succ,List.set_cons_zero,List.take_of_length_le,Nat.le_refl,Af])
   refine Ca.of (f:=B5) (l:=y2.2) im ?_
   (try simp +decide -implicitDefEqProofs only[go_sem,Int.reduceAdd,Int.reduceMul,Int.reduceNeg,Int.reduceSub,bS,List.length_set,List.set_cons_succ,List.set_cons_zero,List.take_of_length_le,Nat.le_refl,Af])
   refine g _ _ ?_
   refine Aa ?_
   refine AWP.seq ?_
   refine AWP.seq ?_
   refine AWP.region rfl ?_;intro K g
   (try simp +decide -implicitDefEqProofs only[go_sem,Int.reduceAdd,Int.reduceMul,Int.reduceNeg,Int.reduceSub,bS,List.length_set,List.set_cons_succ,List.set_cons_zero,List.take_of_length_le,Nat.le_refl,Af])
   refine Ca.of (f:=B5) (l:=y2.1) oj ?_
   (try simp +decide -implicitDefEqProofs only[go_sem,Int.reduceAdd,Int.reduceMul,Int.reduceNeg,Int.reduceSub,bS,List.length_set,List.set_cons_succ,List.set_cons_zero,List.take_of_length_le,Nat.le_refl,Af])
   refine g _ _ ?_
   refine Aa ?_
   refine AWP.cond (Ai (fun hc=>?_) (fun hc=>?_))
   ·replace h:=Au h hc
    cases h
   replace h:=Av h hc
   refine AWP.skip ?_
   refine Aa ?_
   refine AWP.seq ?_
   refine AWP.seq ?_
   refine AWP.region rfl ?_;intro K g
   (try simp +decide -implicitDefEqProofs only[go_sem,Int.reduceAdd,Int.reduceMul,Int.reduceNeg,Int.reduceSub,bS,List.length_set,List.set_cons_succ,List.set_cons_zero,List.take_of_length_le,Nat.le_refl,Af])
   intro hm
   refine g _ _ ?_
   refine Aa ?_
   refine AWP.block ?_
   refine AWP.rounds 3 ?_
   refine Bx.step ?_
   refine AWP.seq ?_
   refine AWP.region rfl ?_;intro K g
   (try simp +decide -implicitDefEqProofs only[go_sem,Int.reduceAdd,Int.reduceMul,Int.reduceNeg,Int.reduceSub,bS,List.length_set,List.set_cons_succ,List.set_cons_zero,List.take_of_length_le,Nat.le_refl,Af])
   refine g _ _ ?_
   refine Aa ?_
   refine AWP.seq ?_
   refine AWP.cond (Ai (fun hc=>?_) (fun hc=>?_))
   rotate_left
   ·replace h:=Av h hc
    refine AWP.exit ?_
    cases h
   replace h:=Au h hc
   refine AWP.skip ?_
   refine Aa ?_
   refine AWP.seq ?_
   refine AWP.block ?_
   refine AWP.seq ?_
   refine AWP.region rfl ?_;intro K g
   (try simp +decide -implicitDefEqProofs only[go_sem,Int.reduceAdd,Int.reduceMul,Int.reduceNeg,Int.reduceSub,bS,List.length_set,List.set_cons_succ,List.set_cons_zero,List.take_of_length_le,Nat.le_refl,Af])
   refine g _ _ ?_
   refine Aa ?_
   refine AWP.seq ?_
   refine AWP.region rfl ?_;intro K g
   (try simp +decide -implicitDefEqProofs only[go_sem,Int.reduceAdd,Int.reduceMul,Int.reduceNeg,Int.reduceSub,bS,List.length_set,List.set_cons_succ,List.set_cons_zero,List.take_of_length_le,Nat.le_refl,Af])
   refine g _ _ ?_
   refine Aa ?_
   refine AWP.seq ?_
   refine AWP.region rfl ?_;intro K g
   (try simp +decide -implicitDefEqProofs only[go_sem,Int.reduceAdd,Int.reduceMul,Int.reduceNeg,Int.reduceSub,bS,List.length_set,List.set_cons_succ,List.set_cons_zero,List.take_of_length_le,Nat.le_refl,Af])
   refine Ak (fun hc=>?_) (fun hc=>?_)
   ·replace h:=Au h hc
    (try simp +decide -implicitDefEqProofs only[go_sem,hc,Int.reduceAdd,Int.reduceMul,Int.reduceNeg,Int.reduceSub,bS,List.length_set,List.set_cons_succ,List.set_cons_zero,List.take_of_length_le,Nat.le_refl,Af])
    cases h
   replace h:=Av h hc
   (try simp +decide -implicitDefEqProofs only[go_sem,hc,Bool.not_true,Int.reduceAdd,Int.reduceMul,Int.reduceNeg,Int.reduceSub,bS,List.length_set,List.set_cons_succ,List.set_cons_zero,List.take_of_length_le,Nat.le_refl,Af])
   refine g _ _ ?_
   refine Aa ?_
   refine AWP.cond (Bu ?_)
   refine AWP.skip ?_
   refine Al ?_
   refine Aa ?_
   refine AWP.region rfl ?_;intro K g
   (try simp +decide -implicitDefEqProofs only[go_sem,Int.reduceAdd,Int.reduceMul,Int.reduceNeg,Int.reduceSub,bS,List.length_set,List.set_cons_succ,List.set_cons_zero,List.take_of_length_le,Nat.le_refl,Af])
   refine g _ _ ?_
   refine Aa ?_
   refine Bx.step ?_
   refine AWP.seq ?_
   refine AWP.region rfl ?_;intro K g
   (try simp +decide -implicitDefEqProofs only[go_sem,Int.reduceAdd,Int.reduceMul,Int.reduceNeg,Int.reduceSub,bS,List.length_set,List.set_cons_succ,List.set_cons_zero,List.take_of_length_le,Nat.le_refl,Af])
   refine g _ _ ?_
   refine Aa ?_
   refine AWP.seq ?_
   refine AWP.cond (Ai (fun hc=>?_) (fun hc=>?_))
   rotate_left
   ·replace h:=Av h hc
    refine AWP.exit ?_
    cases h
   replace h:=Au h hc
   refine AWP.skip ?_
   refine Aa ?_
   refine AWP.seq ?_
   refine AWP.block ?_
   refine AWP.seq ?_
   refine AWP.region rfl ?_;intro K g
   (try simp +decide -implicitDefEqProofs only[go_sem,Int.reduceAdd,Int.reduceMul,Int.reduceNeg,Int.reduceSub,bS,List.length_set,List.set_cons_succ,List.set_cons_zero,List.take_of_length_le,Nat.le_refl,Af])
   refine g _ _ ?_
   refine Aa ?_
   refine AWP.seq ?_
   refine AWP.region rfl ?_;intro K g
   (try simp +decide -implicitDefEqProofs only[go_sem,Int.reduceAdd,Int.reduceMul,Int.reduceNeg,Int.reduceSub,bS,List.length_set,List.set_cons_succ,List.set_cons_zero,List.take_of_length_le,Nat.le_refl,Af])
   refine g _ _ ?_
   refine Aa ?_
   refine AWP.seq ?_
   refine AWP.region rfl ?_;intro K g
   (try simp +decide -implicitDefEqProofs only[go_sem,Int.reduceAdd,Int.reduceMul,Int.reduceNeg,Int.reduceSub,bS,List.length_set,List.set_cons_succ,List.set_cons_zero,List.take_of_length_le,Nat.le_refl,Af])
   refine Ak (fun hc=>?_) (fun hc=>?_)
   ·replace h:=Au h hc
    (try simp +decide -implicitDefEqProofs only[go_sem,hc,Int.reduceAdd,Int.reduceMul,Int.reduceNeg,Int.reduceSub,bS,List.length_set,List.set_cons_succ,List.set_cons_zero,List.take_of_length_le,Nat.le_refl,Af])
    obtain⟨dn,dv,h⟩:=A2 h
    refine Ca.of (f:=B5) (l:=y2.2) dv ?_
    (try simp +decide -implicitDefEqProofs only[go_sem,Int.reduceAdd,Int.reduceMul,Int.reduceNeg,Int.reduceSub,bS,List.length_set,List.set_cons_succ,List.set_cons_zero,List.take_of_length_le,Nat.le_refl,Af])
    refine g _ _ ?_
    refine Aa ?_
    refine AWP.cond (Ai (fun hc=>?_) (fun hc=>?_))
    rotate_left
    ·replace h:=Av h hc
     cases h
    replace h:=Au h hc
    refine AWP.seq ?_
    refine AWP.region rfl ?_;intro K g
    (try simp +decide -implicitDefEqProofs only[go_sem,Int.reduceAdd,Int.reduceMul,Int.reduceNeg,Int.reduceSub,bS,List.length_set,List.set_cons_succ,List.set_cons_zero,List.take_of_length_le,Nat.le_refl,Af])
    obtain⟨dx,gk,h⟩:=A2 h
    refine Ca.of (f:=Am) (l:=y1) gk ?_
    (try simp +decide -implicitDefEqProofs only[go_sem,Int.reduceAdd,Int.reduceMul,Int.reduceNeg,Int.reduceSub,bS,List.length_set,List.set_cons_succ,List.set_cons_zero,List.take_of_length_le,Nat.le_refl,Af])
    refine g _ _ ?_
    refine Aa ?_
    refine AWP.seq ?_
    refine AWP.region rfl ?_;intro K g
    (try simp +decide -implicitDefEqProofs only[go_sem,Int.reduceAdd,Int.reduceMul,Int.reduceNeg,Int.reduceSub,bS,List.length_set,List.set_cons_succ,List.set_cons_zero,List.take_of_length_le,Nat.le_refl,Af])
    refine g _ _ ?_
    refine Aa ?_
    refine AWP.exit ?_
    refine Lq (by decide) ?_
    refine An ?_
    refine An ?_
    refine A6 ?_
    refine Aa ?_
    refine AWP.seq ?_
    refine AWP.region rfl ?_;intro K g
    (try simp +decide -implicitDefEqProofs only[go_sem,Int.reduceAdd,Int.reduceMul,Int.reduceNeg,Int.reduceSub,bS,List.length_set,List.set_cons_succ,List.set_cons_zero,List.take_of_length_le,Nat.le_refl,Af])
    obtain⟨cq,ft,h⟩:=A2 h
    refine Ca.of (f:=B5) (l:=y2.1) ft ?_
    (try simp +decide -implicitDefEqProofs only[go_sem,Int.reduceAdd,Int.reduceMul,Int.reduceNeg,Int.reduceSub,bS,List.length_set,List.set_cons_succ,List.set_cons_zero,List.take_of_length_le,Nat.le_refl,Af])
    refine g _ _ ?_
    refine Aa ?_
    refine AWP.cond (Ai (fun hc=>?_) (fun hc=>?_))
    rotate_left
    ·replace h:=Av h hc
     cases h
    replace h:=Au h hc
    refine AWP.seq ?_
    refine AWP.region rfl ?_;intro K g
    (try simp +decide -implicitDefEqProofs only[go_sem,Int.reduceAdd,Int.reduceMul,Int.reduceNeg,Int.reduceSub,bS,List.length_set,List.set_cons_succ,List.set_cons_zero,List.take_of_length_le,Nat.le_refl,Af])
    refine Bg.inline Tryz.call44 Tryz.func44 rfl rfl (by show _≤63;simp) ?_
    (try simp +decide -implicitDefEqProofs only[go_sem,Int.reduceAdd,Int.reduceMul,Int.reduceNeg,Int.reduceSub,bS,List.length_set,List.set_cons_succ,List.set_cons_zero,List.take_of_length_le,Nat.le_refl,Af])
    refine AWP.seq ?_
    refine AWP.region rfl ?_;intro K g
    (try simp +decide -implicitDefEqProofs only[go_sem,Int.reduceAdd,Int.reduceMul,Int.reduceNeg,Int.reduceSub,bS,List.length_set,List.set_cons_succ,List.set_cons_zero,List.take_of_length_le,Nat.le_refl,Af])
    refine g _ _ ?_;clear g K
    refine Aa ?_
    refine AWP.seq ?_
    refine AWP.region rfl ?_;intro K g
    (try simp +decide -implicitDefEqProofs only[go_sem,Int.reduceAdd,Int.reduceMul,Int.reduceNeg,Int.reduceSub,bS,List.length_set,List.set_cons_succ,List.set_cons_zero,List.take_of_length_le,Nat.le_refl,Af])
    refine g _ _ ?_;clear g K
    refine Aa ?_
    refine AWP.block ?_
    refine AWP.rounds 3 ?_
    refine Bx.step ?_
    refine AWP.block ?_
    refine AWP.seq ?_
    refine AWP.region rfl ?_;intro K g
    (try simp +decide -implicitDefEqProofs only[go_sem,Int.reduceAdd,Int.reduceMul,Int.reduceNeg,Int.reduceSub,bS,List.length_set,List.set_cons_succ,List.set_cons_zero,List.take_of_length_le,Nat.le_refl,Af])
    refine Bg.inline Tryz.call66 Tryz.func66 rfl rfl (by show _≤19;simp) ?_
    (try simp +decide -implicitDefEqProofs only[go_sem,Int.reduceAdd,Int.reduceMul,Int.reduceNeg,Int.reduceSub,bS,List.length_set,List.set_cons_succ,List.set_cons_zero,List.take_of_length_le,Nat.le_refl,Af])
    refine AWP.seq ?_
    refine AWP.region rfl ?_;intro K g
    (try simp +decide -implicitDefEqProofs only[go_sem,Int.reduceAdd,Int.reduceMul,Int.reduceNeg,Int.reduceSub,bS,List.length_set,List.set_cons_succ,List.set_cons_zero,List.take_of_length_le,Nat.le_refl,Af])
    refine g _ _ ?_;clear g K
    refine Aa ?_
    refine AWP.seq ?_
    refine AWP.seq ?_
    refine AWP.region rfl ?_;intro K g
    (try simp +decide -implicitDefEqProofs only[go_sem,Int.reduceAdd,Int.reduceMul,Int.reduceNeg,Int.reduceSub,bS,List.length_set,List.set_cons_succ,List.set_cons_zero,List.take_of_length_le,Nat.le_refl,Af])
    refine g _ _ ?_;clear g K
    refine Aa ?_
    refine AWP.block ?_
    refine AWP.rounds 3 ?_
    refine Bx.step ?_
    refine AWP.seq ?_
    refine AWP.region rfl ?_;intro K g
    (try simp +decide -implicitDefEqProofs only[go_sem,Int.reduceAdd,Int.reduceMul,Int.reduceNeg,Int.reduceSub,bS,List.length_set,List.set_cons_succ,List.set_cons_zero,List.take_of_length_le,Nat.le_refl,Af])
    refine g _ _ ?_;clear g K
    refine Aa ?_
    refine AWP.seq ?_
    refine AWP.cond (A7 ?_)
    refine AWP.skip ?_
    refine Aa ?_
    refine AWP.seq ?_
    refine AWP.block ?_
    refine AWP.seq ?_
    refine AWP.region rfl ?_;intro K g
    (try simp +decide -implicitDefEqProofs only[go_sem,Int.reduceAdd,Int.reduceMul,Int.reduceNeg,Int.reduceSub,bS,List.length_set,List.set_cons_succ,List.set_cons_zero,List.take_of_length_le,Nat.le_refl,Af])
    refine g _ _ ?_;clear g K
    refine Aa ?_
    refine AWP.seq ?_
    refine AWP.region rfl ?_;intro K g
    (try simp +decide -implicitDefEqProofs only[go_sem,Int.reduceAdd,Int.reduceMul,Int.reduceNeg,Int.reduceSub,bS,List.length_set,List.set_cons_succ,List.set_cons_zero,List.take_of_length_le,Nat.le_refl,Af])
    obtain⟨ah,jk,h⟩:=A2 h
    refine Bt.Fc (f:=Am) (l:=[eh,dx]) (n:=0) (by first | rfl | (simp[Am,List.map_set];done)) jk ?_
    (try simp +decide -implicitDefEqProofs only[go_sem,Int.reduceAdd,Int.reduceMul,Int.reduceNeg,Int.reduceSub,bS,List.length_set,List.set_cons_succ,List.set_cons_zero,List.take_of_length_le,Nat.le_refl,Af])
    obtain⟨uv,rk,h⟩:=A2 h
    refine Bg.pure Tryz.call67 (C6 ah rk) rfl fun _ hr=>?_
    subst hr
    (try simp +decide -implicitDefEqProofs only[go_sem,Int.reduceAdd,Int.reduceMul,Int.reduceNeg,Int.reduceSub,bS,List.length_set,List.set_cons_succ,List.set_cons_zero,List.take_of_length_le,Nat.le_refl,Af])
    refine g _ _ ?_;clear g K
    refine Aa ?_
    refine AWP.cond (Ai (fun hc=>?_) (fun hc=>?_))
    ·replace h:=Au h hc
     cases h
    replace h:=Av h hc
    refine AWP.skip ?_
    refine Al ?_
    refine Aa ?_
    refine AWP.region rfl ?_;intro K g
    (try simp +decide -implicitDefEqProofs only[go_sem,Int.reduceAdd,Int.reduceMul,Int.reduceNeg,Int.reduceSub,bS,List.length_set,List.set_cons_succ,List.set_cons_zero,List.take_of_length_le,Nat.le_refl,Af])
    refine g _ _ ?_;clear g K
    refine Aa ?_
    refine Bx.step ?_
    refine AWP.seq ?_
    refine AWP.region rfl ?_;intro K g
    (try simp +decide -implicitDefEqProofs only[go_sem,Int.reduceAdd,Int.reduceMul,Int.reduceNeg,Int.reduceSub,bS,List.length_set,List.set_cons_succ,List.set_cons_zero,List.take_of_length_le,Nat.le_refl,Af])
    refine g _ _ ?_;clear g K
    refine Aa ?_
    refine AWP.seq ?_
    refine AWP.cond (A7 ?_)
    refine AWP.skip ?_
    refine Aa ?_
    refine AWP.seq ?_
    refine AWP.block ?_
    refine AWP.seq ?_
    refine AWP.region rfl ?_;intro K g
    (try simp +decide -implicitDefEqProofs only[go_sem,Int.reduceAdd,Int.reduceMul,Int.reduceNeg,Int.reduceSub,bS,List.length_set,List.set_cons_succ,List.set_cons_zero,List.take_of_length_le,Nat.le_refl,Af])
    refine g _ _ ?_;clear g K
    refine Aa ?_
    refine AWP.seq ?_
    refine AWP.region rfl ?_;intro K g
    (try simp +decide -implicitDefEqProofs only[go_sem,Int.reduceAdd,Int.reduceMul,Int.reduceNeg,Int.reduceSub,bS,List.length_set,List.set_cons_succ,List.set_cons_zero,List.take_of_length_le,Nat.le_refl,Af])
    obtain⟨aa,bs,h⟩:=A2 h
    refine Bt.Fc (f:=Am) (l:=[eh,dx]) (n:=1) (by first | rfl | (simp[Am,List.map_set];done)) bs ?_
    (try simp +decide -implicitDefEqProofs only[go_sem,Int.reduceAdd,Int.reduceMul,Int.reduceNeg,Int.reduceSub,bS,List.length_set,List.set_cons_succ,List.set_cons_zero,List.take_of_length_le,Nat.le_refl,Af])
    obtain⟨kb,jh,h⟩:=A2 h
    refine Bg.pure Tryz.call67 (C6 aa jh) rfl fun _ hr=>?_
    subst hr
    (try simp +decide -implicitDefEqProofs only[go_sem,Int.reduceAdd,Int.reduceMul,Int.reduceNeg,Int.reduceSub,bS,List.length_set,List.set_cons_succ,List.set_cons_zero,List.take_of_length_le,Nat.le_refl,Af])
    refine g _ _ ?_;clear g K
    refine Aa ?_
    refine AWP.cond (Ai (fun hc=>?_) (fun hc=>?_))
    rotate_left
    ·replace h:=Av h hc
     cases h
    replace h:=Au h hc
    refine AWP.seq ?_
    refine AWP.region rfl ?_;intro K g
    (try simp +decide -implicitDefEqProofs only[go_sem,Int.reduceAdd,Int.reduceMul,Int.reduceNeg,Int.reduceSub,bS,List.length_set,List.set_cons_succ,List.set_cons_zero,List.take_of_length_le,Nat.le_refl,Af])
    refine g _ _ ?_;clear g K
    refine Aa ?_
    refine AWP.ret ?_
    refine Aj ?_
    refine Ad ?_
    refine Ad ?_
    refine Aj ?_
    refine Ad ?_
    (try simp +decide -implicitDefEqProofs only[go_sem,Tryz.results66,Int.reduceAdd,Int.reduceMul,Int.reduceNeg,Int.reduceSub,bS,List.length_set,List.set_cons_succ,List.set_cons_zero,List.take_of_length_le,Nat.le_refl,Af])
    refine g _ _ ?_;clear g K
    refine Aa ?_
    refine AWP.seq ?_
    refine AWP.region rfl ?_;intro K g
    (try simp +decide -implicitDefEqProofs only[go_sem,Int.reduceAdd,Int.reduceMul,Int.reduceNeg,Int.reduceSub,bS,List.length_set,List.set_cons_succ,List.set_cons_zero,List.take_of_length_le,Nat.le_refl,Af])
    refine Bg.inline Tryz.call66 Tryz.func66 rfl rfl (by show _≤19;simp) ?_
    (try simp +decide -implicitDefEqProofs only[go_sem,Int.reduceAdd,Int.reduceMul,Int.reduceNeg,Int.reduceSub,bS,List.length_set,List.set_cons_succ,List.set_cons_zero,List.take_of_length_le,Nat.le_refl,Af])
    refine AWP.seq ?_
    refine AWP.region rfl ?_;intro K g
    (try simp +decide -implicitDefEqProofs only[go_sem,Int.reduceAdd,Int.reduceMul,Int.reduceNeg,Int.reduceSub,bS,List.length_set,List.set_cons_succ,List.set_cons_zero,List.take_of_length_le,Nat.le_refl,Af])
    refine g _ _ ?_;clear g K
    refine Aa ?_
    refine AWP.seq ?_
    refine AWP.seq ?_
    refine AWP.region rfl ?_;intro K g
    (try simp +decide -implicitDefEqProofs only[go_sem,Int.reduceAdd,Int.reduceMul,Int.reduceNeg,Int.reduceSub,bS,List.length_set,List.set_cons_succ,List.set_cons_zero,List.take_of_length_le,Nat.le_refl,Af])
    refine g _ _ ?_;clear g K
    refine Aa ?_
    refine AWP.block ?_
    refine AWP.rounds 3 ?_
    refine Bx.step ?_
    refine AWP.seq ?_
    refine AWP.region rfl ?_;intro K g
    (try simp +decide -implicitDefEqProofs only[go_sem,Int.reduceAdd,Int.reduceMul,Int.reduceNeg,Int.reduceSub,bS,List.length_set,List.set_cons_succ,List.set_cons_zero,List.take_of_length_le,Nat.le_refl,Af])
    refine g _ _ ?_;clear g K
    refine Aa ?_
    refine AWP.seq ?_
    refine AWP.cond (A7 ?_)
    refine AWP.skip ?_
    refine Aa ?_
    refine AWP.seq ?_
    refine AWP.block ?_
    refine AWP.seq ?_
    refine AWP.region rfl ?_;intro K g
    (try simp +decide -implicitDefEqProofs only[go_sem,Int.reduceAdd,Int.reduceMul,Int.reduceNeg,Int.reduceSub,bS,List.length_set,List.set_cons_succ,List.set_cons_zero,List.take_of_length_le,Nat.le_refl,Af])
    refine g _ _ ?_;clear g K
    refine Aa ?_
    refine AWP.seq ?_
    refine AWP.region rfl ?_;intro K g
    (try simp +decide -implicitDefEqProofs only[go_sem,Int.reduceAdd,Int.reduceMul,Int.reduceNeg,Int.reduceSub,bS,List.length_set,List.set_cons_succ,List.set_cons_zero,List.take_of_length_le,Nat.le_refl,Af])
    refine Bt.Fc (f:=Am) (l:=[eh,dx]) (n:=0) (by first | rfl | (simp[Am,List.map_set];done)) jk ?_
    (try simp +decide -implicitDefEqProofs only[go_sem,Int.reduceAdd,Int.reduceMul,Int.reduceNeg,Int.reduceSub,bS,List.length_set,List.set_cons_succ,List.set_cons_zero,List.take_of_length_le,Nat.le_refl,Af])
    obtain⟨uu,rj,h⟩:=A2 h
    refine Bg.pure Tryz.call68 (D5 ah rj) rfl fun _ hr=>?_
    subst hr
    (try simp +decide -implicitDefEqProofs only[go_sem,Int.reduceAdd,Int.reduceMul,Int.reduceNeg,Int.reduceSub,bS,List.length_set,List.set_cons_succ,List.set_cons_zero,List.take_of_length_le,Nat.le_refl,Af])
    refine g _ _ ?_;clear g K
    refine Aa ?_
    refine AWP.cond (Ai (fun hc=>?_) (fun hc=>?_))
    rotate_left
    ·replace h:=Av h hc
     cases h
    replace h:=Au h hc
    refine AWP.seq ?_
    refine AWP.region rfl ?_;intro K g
    (try simp +decide -implicitDefEqProofs only[go_sem,Int.reduceAdd,Int.reduceMul,Int.reduceNeg,Int.reduceSub,bS,List.length_set,List.set_cons_succ,List.set_cons_zero,List.take_of_length_le,Nat.le_refl,Af])
    refine g _ _ ?_;clear g K
    refine Aa ?_
    refine AWP.ret ?_
    refine Aj ?_
    refine Ad ?_
    refine Ad ?_
    refine Aj ?_
    refine Ad ?_
    (try simp +decide -implicitDefEqProofs only[go_sem,Tryz.results66,Int.reduceAdd,Int.reduceMul,Int.reduceNeg,Int.reduceSub,bS,List.length_set,List.set_cons_succ,List.set_cons_zero,List.take_of_length_le,Nat.le_refl,Af])
    refine g _ _ ?_;clear g K
    refine Aa ?_
    refine AWP.seq ?_
    refine AWP.seq ?_
    refine AWP.region rfl ?_;intro K g
    (try simp +decide -implicitDefEqProofs only[go_sem,Int.reduceAdd,Int.reduceMul,Int.reduceNeg,Int.reduceSub,bS,List.length_set,List.set_cons_succ,List.set_cons_zero,List.take_of_length_le,Nat.le_refl,Af])
    refine g _ _ ?_;clear g K
    refine Aa ?_
    refine AWP.cond (Bu ?_)
    refine AWP.skip ?_
    refine Aa ?_
    refine AWP.seq ?_
    refine AWP.draw Tryz.mixed (by kernel_rfl) ?_;intro K g
    (try simp +decide -implicitDefEqProofs only[go_sem,Int.reduceAdd,Int.reduceMul,Int.reduceNeg,Int.reduceSub,bS,List.length_set,List.set_cons_succ,List.set_cons_zero,List.take_of_length_le,Nat.le_refl,Af])
    refine Bt.Fc (f:=Am) (l:=[eh,dx]) (n:=1) (by first | rfl | (simp[Am,List.map_set];done)) bs ?_
    (try simp +decide -implicitDefEqProofs only[go_sem,Int.reduceAdd,Int.reduceMul,Int.reduceNeg,Int.reduceSub,bS,List.length_set,List.set_cons_succ,List.set_cons_zero,List.take_of_length_le,Nat.le_refl,Af])
    refine Bt.Fc (f:=Am) (l:=[eh,dx]) (n:=0) (by first | rfl | (simp[Am,List.map_set];done)) jk ?_
    (try simp +decide -implicitDefEqProofs only[go_sem,Int.reduceAdd,Int.reduceMul,Int.reduceNeg,Int.reduceSub,bS,List.length_set,List.set_cons_succ,List.set_cons_zero,List.take_of_length_le,Nat.le_refl,Af])
    refine g _ _ _ (by kernel_rfl) ?_;clear g K
    refine Aa ?_
    refine AWP.seq ?_
    refine AWP.region rfl ?_;intro K g
    (try simp +decide -implicitDefEqProofs only[go_sem,Int.reduceAdd,Int.reduceMul,Int.reduceNeg,Int.reduceSub,bS,List.length_set,List.set_cons_succ,List.set_cons_zero,List.take_of_length_le,Nat.le_refl,Af])
    refine Bt.Fc (f:=Am) (l:=[eh,dx]) (n:=1) (by first | rfl | (simp[Am,List.map_set];done)) bs ?_
    (try simp +decide -implicitDefEqProofs only[go_sem,Int.reduceAdd,Int.reduceMul,Int.reduceNeg,Int.reduceSub,bS,List.length_set,List.set_cons_succ,List.set_cons_zero,List.take_of_length_le,Nat.le_refl,Af])
    refine Bt.Fc (f:=Am) (l:=[eh,dx]) (n:=1) (by first | rfl | (simp[Am,List.map_set];done)) bs ?_
    have wm:=Ce (y:=(Ax.mk aa.Operator (IntKind.i64.wrap (aa.Amount+(if ah.Amount<(IntKind.i64.wrap (-aa.Amount))then ah.Amount else(IntKind.i64.wrap (-aa.Amount))))))) bs
    (try simp +decide -implicitDefEqProofs only[go_sem,Int.reduceAdd,Int.reduceMul,Int.reduceNeg,Int.reduceSub,bS,List.length_set,List.set_cons_succ,List.set_cons_zero,List.take_of_length_le,Nat.le_refl,Af])
    refine g _ _ ?_;clear g K
    refine Aa ?_
    refine AWP.seq ?_
    refine AWP.region rfl ?_;intro K g
    (try simp +decide -implicitDefEqProofs only[go_sem,Int.reduceAdd,Int.reduceMul,Int.reduceNeg,Int.reduceSub,bS,List.length_set,List.set_cons_succ,List.set_cons_zero,List.take_of_length_le,Nat.le_refl,Af])
    obtain⟨ay,eu,h⟩:=A2 h
    refine Bt.Fc (f:=Am) (l:=[eh,(Ax.mk aa.Operator (IntKind.i64.wrap (aa.Amount+(if ah.Amount<(IntKind.i64.wrap (-aa.Amount))then ah.Amount else(IntKind.i64.wrap (-aa.Amount))))))]) (n:=0) (by first | rfl | (simp[Am,List.map_set];done)) eu ?_
    (try simp +decide -implicitDefEqProofs only[go_sem,Int.reduceAdd,Int.reduceMul,Int.reduceNeg,Int.reduceSub,bS,List.length_set,List.set_cons_succ,List.set_cons_zero,List.take_of_length_le,Nat.le_refl,Af])
    refine Bt.Fc (f:=Am) (l:=[eh,(Ax.mk aa.Operator (IntKind.i64.wrap (aa.Amount+(if ah.Amount<(IntKind.i64.wrap (-aa.Amount))then ah.Amount else(IntKind.i64.wrap (-aa.Amount))))))]) (n:=0) (by first | rfl | (simp[Am,List.map_set];done)) eu ?_
    have ju:=Ce (y:=(Ax.mk ay.Operator (IntKind.i64.wrap (ay.Amount - (if ah.Amount<(IntKind.i64.wrap (-aa.Amount))then ah.Amount else(IntKind.i64.wrap (-aa.Amount))))))) eu
    (try simp +decide -implicitDefEqProofs only[go_sem,Int.reduceAdd,Int.reduceMul,Int.reduceNeg,Int.reduceSub,bS,List.length_set,List.set_cons_succ,List.set_cons_zero,List.take_of_length_le,Nat.le_refl,Af])
    refine g _ _ ?_;clear g K
    refine Aa ?_
    refine AWP.draw Tryz.mixed (by kernel_rfl) ?_;intro K g
    (try simp +decide -implicitDefEqProofs only[go_sem,Int.reduceAdd,Int.reduceMul,Int.reduceNeg,Int.reduceSub,bS,List.length_set,List.set_cons_succ,List.set_cons_zero,List.take_of_length_le,Nat.le_refl,Af])
    obtain⟨dt,cw,h⟩:=A2 h
    refine Bt.Fc (f:=Am) (l:=[(Ax.mk ay.Operator (IntKind.i64.wrap (ay.Amount - (if ah.Amount<(IntKind.i64.wrap (-aa.Amount))then ah.Amount else(IntKind.i64.wrap (-aa.Amount)))))),(Ax.mk aa.Operator (IntKind.i64.wrap (aa.Amount+(if ah.Amount<(IntKind.i64.wrap (-aa.Amount))then ah.Amount else(IntKind.i64.wrap (-aa.Amount))))))]) (n:=1) (by first | rfl | (simp[Am,List.map_set];done)) cw ?_
    (try simp +decide -implicitDefEqProofs only[go_sem,Int.reduceAdd,Int.reduceMul,Int.reduceNeg,Int.reduceSub,bS,List.length_set,List.set_cons_succ,List.set_cons_zero,List.take_of_length_le,Nat.le_refl,Af])
    refine Bt.Fc (f:=Am) (l:=[(Ax.mk ay.Operator (IntKind.i64.wrap (ay.Amount - (if ah.Amount<(IntKind.i64.wrap (-aa.Amount))then ah.Amount else(IntKind.i64.wrap (-aa.Amount)))))),(Ax.mk aa.Operator (IntKind.i64.wrap (aa.Amount+(if ah.Amount<(IntKind.i64.wrap (-aa.Amount))then ah.Amount else(IntKind.i64.wrap (-aa.Amount))))))]) (n:=0) (by first | rfl | (simp[Am,List.map_set];done)) ju ?_
    (try simp +decide -implicitDefEqProofs only[go_sem,Int.reduceAdd,Int.reduceMul,Int.reduceNeg,Int.reduceSub,bS,List.length_set,List.set_cons_succ,List.set_cons_zero,List.take_of_length_le,Nat.le_refl,Af])
    refine g _ _ _ (by kernel_rfl) ?_;clear g K
    refine Al ?_
    refine Aa ?_
    refine Bx.step ?_
    refine AWP.block ?_
    refine AWP.seq ?_
    refine AWP.region rfl ?_;intro K g
    (try simp +decide -implicitDefEqProofs only[go_sem,Int.reduceAdd,Int.reduceMul,Int.reduceNeg,Int.reduceSub,bS,List.length_set,List.set_cons_succ,List.set_cons_zero,List.take_of_length_le,Nat.le_refl,Af])
    refine Bg.inline Tryz.call66 Tryz.func66 rfl rfl (by show _≤19;simp) ?_
    (try simp +decide -implicitDefEqProofs only[go_sem,Int.reduceAdd,Int.reduceMul,Int.reduceNeg,Int.reduceSub,bS,List.length_set,List.set_cons_succ,List.set_cons_zero,List.take_of_length_le,Nat.le_refl,Af])
    refine AWP.seq ?_
    refine AWP.region rfl ?_;intro K g
    (try simp +decide -implicitDefEqProofs only[go_sem,Int.reduceAdd,Int.reduceMul,Int.reduceNeg,Int.reduceSub,bS,List.length_set,List.set_cons_succ,List.set_cons_zero,List.take_of_length_le,Nat.le_refl,Af])
    refine g _ _ ?_;clear g K
    refine Aa ?_
    refine AWP.seq ?_
    refine AWP.seq ?_
    refine AWP.region rfl ?_;intro K g
    (try simp +decide -implicitDefEqProofs only[go_sem,Int.reduceAdd,Int.reduceMul,Int.reduceNeg,Int.reduceSub,bS,List.length_set,List.set_cons_succ,List.set_cons_zero,List.take_of_length_le,Nat.le_refl,Af])
    refine g _ _ ?_;clear g K
    refine Aa ?_
    refine AWP.block ?_
    refine AWP.rounds 3 ?_
    refine Bx.step ?_
    refine AWP.seq ?_
    refine AWP.region rfl ?_;intro K g
    (try simp +decide -implicitDefEqProofs only[go_sem,Int.reduceAdd,Int.reduceMul,Int.reduceNeg,Int.reduceSub,bS,List.length_set,List.set_cons_succ,List.set_cons_zero,List.take_of_length_le,Nat.le_refl,Af])
    refine g _ _ ?_;clear g K
    refine Aa ?_
    refine AWP.seq ?_
    refine AWP.cond (A7 ?_)
    refine AWP.skip ?_
    refine Aa ?_
    refine AWP.seq ?_
    refine AWP.block ?_
    refine AWP.seq ?_
    refine AWP.region rfl ?_;intro K g
    (try simp +decide -implicitDefEqProofs only[go_sem,Int.reduceAdd,Int.reduceMul,Int.reduceNeg,Int.reduceSub,bS,List.length_set,List.set_cons_succ,List.set_cons_zero,List.take_of_length_le,Nat.le_refl,Af])
    refine g _ _ ?_;clear g K
    refine Aa ?_
    refine AWP.seq ?_
    refine AWP.region rfl ?_;intro K g
    (try simp +decide -implicitDefEqProofs only[go_sem,Int.reduceAdd,Int.reduceMul,Int.reduceNeg,Int.reduceSub,bS,List.length_set,List.set_cons_succ,List.set_cons_zero,List.take_of_length_le,Nat.le_refl,Af])
    refine Bt.Fc (f:=Am) (l:=[(Ax.mk ay.Operator (IntKind.i64.wrap (ay.Amount - (if ah.Amount<(IntKind.i64.wrap (-aa.Amount))then ah.Amount else(IntKind.i64.wrap (-aa.Amount)))))),(Ax.mk aa.Operator (IntKind.i64.wrap (aa.Amount+(if ah.Amount<(IntKind.i64.wrap (-aa.Amount))then ah.Amount else(IntKind.i64.wrap (-aa.Amount))))))]) (n:=0) (by first | rfl | (simp[Am,List.map_set];done)) ju ?_
    (try simp +decide -implicitDefEqProofs only[go_sem,Int.reduceAdd,Int.reduceMul,Int.reduceNeg,Int.reduceSub,bS,List.length_set,List.set_cons_succ,List.set_cons_zero,List.take_of_length_le,Nat.le_refl,Af])
    obtain⟨ur,rh,h⟩:=A2 h
    refine Bg.pure Tryz.call67 (C6 (Ax.mk ay.Operator (IntKind.i64.wrap (ay.Amount - (if ah.Amount<(IntKind.i64.wrap (-aa.Amount))then ah.Amount else(IntKind.i64.wrap (-aa.Amount)))))) rh) rfl fun _ hr=>?_
    subst hr
    (try simp +decide -implicitDefEqProofs only[go_sem,Int.reduceAdd,Int.reduceMul,Int.reduceNeg,Int.reduceSub,bS,List.length_set,List.set_cons_succ,List.set_cons_zero,List.take_of_length_le,Nat.le_refl,Af])
    refine g _ _ ?_;clear g K
    refine Aa ?_
    refine AWP.cond (Ai (fun hc=>?_) (fun hc=>?_))
    ·replace h:=Au h hc
     cases h
    replace h:=Av h hc
    refine AWP.skip ?_
    refine Al ?_
    refine Aa ?_
    refine AWP.region rfl ?_;intro K g
    (try simp +decide -implicitDefEqProofs only[go_sem,Int.reduceAdd,Int.reduceMul,Int.reduceNeg,Int.reduceSub,bS,List.length_set,List.set_cons_succ,List.set_cons_zero,List.take_of_length_le,Nat.le_refl,Af])
    refine g _ _ ?_;clear g K
    refine Aa ?_
    refine Bx.step ?_
    refine AWP.seq ?_
    refine AWP.region rfl ?_;intro K g
    (try simp +decide -implicitDefEqProofs only[go_sem,Int.reduceAdd,Int.reduceMul,Int.reduceNeg,Int.reduceSub,bS,List.length_set,List.set_cons_succ,List.set_cons_zero,List.take_of_length_le,Nat.le_refl,Af])
    refine g _ _ ?_;clear g K
    refine Aa ?_
    refine AWP.seq ?_
    refine AWP.cond (A7 ?_)
    refine AWP.skip ?_
    refine Aa ?_
    refine AWP.seq ?_
    refine AWP.block ?_
    refine AWP.seq ?_
    refine AWP.region rfl ?_;intro K g
    (try simp +decide -implicitDefEqProofs only[go_sem,Int.reduceAdd,Int.reduceMul,Int.reduceNeg,Int.reduceSub,bS,List.length_set,List.set_cons_succ,List.set_cons_zero,List.take_of_length_le,Nat.le_refl,Af])
    refine g _ _ ?_;clear g K
    refine Aa ?_
    refine AWP.seq ?_
    refine AWP.region rfl ?_;intro K g
    (try simp +decide -implicitDefEqProofs only[go_sem,Int.reduceAdd,Int.reduceMul,Int.reduceNeg,Int.reduceSub,bS,List.length_set,List.set_cons_succ,List.set_cons_zero,List.take_of_length_le,Nat.le_refl,Af])
    refine Bt.Fc (f:=Am) (l:=[(Ax.mk ay.Operator (IntKind.i64.wrap (ay.Amount - (if ah.Amount<(IntKind.i64.wrap (-aa.Amount))then ah.Amount else(IntKind.i64.wrap (-aa.Amount)))))),(Ax.mk aa.Operator (IntKind.i64.wrap (aa.Amount+(if ah.Amount<(IntKind.i64.wrap (-aa.Amount))then ah.Amount else(IntKind.i64.wrap (-aa.Amount))))))]) (n:=1) (by first | rfl | (simp[Am,List.map_set];done)) cw ?_
    (try simp +decide -implicitDefEqProofs only[go_sem,Int.reduceAdd,Int.reduceMul,Int.reduceNeg,Int.reduceSub,bS,List.length_set,List.set_cons_succ,List.set_cons_zero,List.take_of_length_le,Nat.le_refl,Af])
    obtain⟨uq,rf,h⟩:=A2 h
    refine Bg.pure Tryz.call67 (C6 dt rf) rfl fun _ hr=>?_
    subst hr
    (try simp +decide -implicitDefEqProofs only[go_sem,Int.reduceAdd,Int.reduceMul,Int.reduceNeg,Int.reduceSub,bS,List.length_set,List.set_cons_succ,List.set_cons_zero,List.take_of_length_le,Nat.le_refl,Af])
    refine g _ _ ?_;clear g K
    refine Aa ?_
    refine AWP.cond (Ai (fun hc=>?_) (fun hc=>?_))
    ·replace h:=Au h hc
     cases h
    replace h:=Av h hc
    refine AWP.skip ?_
    refine Al ?_
    refine Aa ?_
    refine AWP.region rfl ?_;intro K g
    (try simp +decide -implicitDefEqProofs only[go_sem,Int.reduceAdd,Int.reduceMul,Int.reduceNeg,Int.reduceSub,bS,List.length_set,List.set_cons_succ,List.set_cons_zero,List.take_of_length_le,Nat.le_refl,Af])
    refine g _ _ ?_;clear g K
    refine Aa ?_
    refine Bx.step ?_
    refine AWP.seq ?_
    refine AWP.region rfl ?_;intro K g
    (try simp +decide -implicitDefEqProofs only[go_sem,Int.reduceAdd,Int.reduceMul,Int.reduceNeg,Int.reduceSub,bS,List.length_set,List.set_cons_succ,List.set_cons_zero,List.take_of_length_le,Nat.le_refl,Af])
    refine g _ _ ?_;clear g K
    refine Aa ?_
    refine AWP.seq ?_
    refine AWP.cond (Bu ?_)
    refine AWP.exit ?_
    refine An ?_
    refine An ?_
    refine A6 ?_
    refine Aa ?_
    refine AWP.seq ?_
    refine AWP.region rfl ?_;intro K g
    (try simp +decide -implicitDefEqProofs only[go_sem,Int.reduceAdd,Int.reduceMul,Int.reduceNeg,Int.reduceSub,bS,List.length_set,List.set_cons_succ,List.set_cons_zero,List.take_of_length_le,Nat.le_refl,Af])
    refine g _ _ ?_;clear g K
    refine Aa ?_
    refine AWP.ret ?_
    (try simp +decide -implicitDefEqProofs only[go_sem,Tryz.results66,Int.reduceAdd,Int.reduceMul,Int.reduceNeg,Int.reduceSub,bS,List.length_set,List.set_cons_succ,List.set_cons_zero,List.take_of_length_le,Nat.le_refl,Af])
    refine g _ _ ?_;clear g K
    refine Aa ?_
    refine AWP.seq ?_
    refine AWP.region rfl ?_;intro K g
    (try simp +decide -implicitDefEqProofs only[go_sem,Int.reduceAdd,Int.reduceMul,Int.reduceNeg,Int.reduceSub,bS,List.length_set,List.set_cons_succ,List.set_cons_zero,List.take_of_length_le,Nat.le_refl,Af])
    refine Bg.inline Tryz.call66 Tryz.func66 rfl rfl (by show _≤19;simp) ?_
    (try simp +decide -implicitDefEqProofs only[go_sem,Int.reduceAdd,Int.reduceMul,Int.reduceNeg,Int.reduceSub,bS,List.length_set,List.set_cons_succ,List.set_cons_zero,List.take_of_length_le,Nat.le_refl,Af])
    refine AWP.seq ?_
    refine AWP.region rfl ?_;intro K g
    (try simp +decide -implicitDefEqProofs only[go_sem,Int.reduceAdd,Int.reduceMul,Int.reduceNeg,Int.reduceSub,bS,List.length_set,List.set_cons_succ,List.set_cons_zero,List.take_of_length_le,Nat.le_refl,Af])
    refine g _ _ ?_;clear g K
    refine Aa ?_
    refine AWP.seq ?_
    refine AWP.seq ?_
    refine AWP.region rfl ?_;intro K g
    (try simp +decide -implicitDefEqProofs only[go_sem,Int.reduceAdd,Int.reduceMul,Int.reduceNeg,Int.reduceSub,bS,List.length_set,List.set_cons_succ,List.set_cons_zero,List.take_of_length_le,Nat.le_refl,Af])
    refine g _ _ ?_;clear g K
    refine Aa ?_
    refine AWP.block ?_
    refine AWP.rounds 3 ?_
    refine Bx.step ?_
    refine AWP.seq ?_
    refine AWP.region rfl ?_;intro K g
    (try simp +decide -implicitDefEqProofs only[go_sem,Int.reduceAdd,Int.reduceMul,Int.reduceNeg,Int.reduceSub,bS,List.length_set,List.set_cons_succ,List.set_cons_zero,List.take_of_length_le,Nat.le_refl,Af])
    refine g _ _ ?_;clear g K
    refine Aa ?_
    refine AWP.seq ?_
    refine AWP.cond (A7 ?_)
    refine AWP.skip ?_
    refine Aa ?_
    refine AWP.seq ?_
    refine AWP.block ?_
    refine AWP.seq ?_
    refine AWP.region rfl ?_;intro K g
    (try simp +decide -implicitDefEqProofs only[go_sem,Int.reduceAdd,Int.reduceMul,Int.reduceNeg,Int.reduceSub,bS,List.length_set,List.set_cons_succ,List.set_cons_zero,List.take_of_length_le,Nat.le_refl,Af])
    refine g _ _ ?_;clear g K
    refine Aa ?_
    refine AWP.seq ?_
    refine AWP.region rfl ?_;intro K g
    (try simp +decide -implicitDefEqProofs only[go_sem,Int.reduceAdd,Int.reduceMul,Int.reduceNeg,Int.reduceSub,bS,List.length_set,List.set_cons_succ,List.set_cons_zero,List.take_of_length_le,Nat.le_refl,Af])
    refine Bt.Fc (f:=Am) (l:=[(Ax.mk ay.Operator (IntKind.i64.wrap (ay.Amount - (if ah.Amount<(IntKind.i64.wrap (-aa.Amount))then ah.Amount else(IntKind.i64.wrap (-aa.Amount)))))),(Ax.mk aa.Operator (IntKind.i64.wrap (aa.Amount+(if ah.Amount<(IntKind.i64.wrap (-aa.Amount))then ah.Amount else(IntKind.i64.wrap (-aa.Amount))))))]) (n:=0) (by first | rfl | (simp[Am,List.map_set];done)) ju ?_
    (try simp +decide -implicitDefEqProofs only[go_sem,Int.reduceAdd,Int.reduceMul,Int.reduceNeg,Int.reduceSub,bS,List.length_set,List.set_cons_succ,List.set_cons_zero,List.take_of_length_le,Nat.le_refl,Af])
    obtain⟨iy,jf,h⟩:=A2 h
    refine Bg.pure Tryz.call68 (D5 (Ax.mk ay.Operator (IntKind.i64.wrap (ay.Amount - (if ah.Amount<(IntKind.i64.wrap (-aa.Amount))then ah.Amount else(IntKind.i64.wrap (-aa.Amount)))))) jf) rfl fun _ hr=>?_
    subst hr
    (try simp +decide -implicitDefEqProofs only[go_sem,Int.reduceAdd,Int.reduceMul,Int.reduceNeg,Int.reduceSub,bS,List.length_set,List.set_cons_succ,List.set_cons_zero,List.take_of_length_le,Nat.le_refl,Af])
    refine g _ _ ?_;clear g K
    refine Aa ?_
    refine AWP.cond (Ai (fun hc=>?_) (fun hc=>?_))
    ·replace h:=Au h hc
     cases h
    replace h:=Av h hc
    refine AWP.skip ?_
    refine Al ?_
    refine Aa ?_
    refine AWP.region rfl ?_;intro K g
    (try simp +decide -implicitDefEqProofs only[go_sem,Int.reduceAdd,Int.reduceMul,Int.reduceNeg,Int.reduceSub,bS,List.length_set,List.set_cons_succ,List.set_cons_zero,List.take_of_length_le,Nat.le_refl,Af])
    refine g _ _ ?_;clear g K
    refine Aa ?_
    refine Bx.step ?_
    refine AWP.seq ?_
    refine AWP.region rfl ?_;intro K g
    (try simp +decide -implicitDefEqProofs only[go_sem,Int.reduceAdd,Int.reduceMul,Int.reduceNeg,Int.reduceSub,bS,List.length_set,List.set_cons_succ,List.set_cons_zero,List.take_of_length_le,Nat.le_refl,Af])
    refine g _ _ ?_;clear g K
    refine Aa ?_
    refine AWP.seq ?_
    refine AWP.cond (A7 ?_)
    refine AWP.skip ?_
    refine Aa ?_
    refine AWP.seq ?_
    refine AWP.block ?_
    refine AWP.seq ?_
    refine AWP.region rfl ?_;intro K g
    (try simp +decide -implicitDefEqProofs only[go_sem,Int.reduceAdd,Int.reduceMul,Int.reduceNeg,Int.reduceSub,bS,List.length_set,List.set_cons_succ,List.set_cons_zero,List.take_of_length_le,Nat.le_refl,Af])
    refine g _ _ ?_;clear g K
    refine Aa ?_
    refine AWP.seq ?_
    refine AWP.region rfl ?_;intro K g
    (try simp +decide -implicitDefEqProofs only[go_sem,Int.reduceAdd,Int.reduceMul,Int.reduceNeg,Int.reduceSub,bS,List.length_set,List.set_cons_succ,List.set_cons_zero,List.take_of_length_le,Nat.le_refl,Af])
    refine Bt.Fc (f:=Am) (l:=[(Ax.mk ay.Operator (IntKind.i64.wrap (ay.Amount - (if ah.Amount<(IntKind.i64.wrap (-aa.Amount))then ah.Amount else(IntKind.i64.wrap (-aa.Amount)))))),(Ax.mk aa.Operator (IntKind.i64.wrap (aa.Amount+(if ah.Amount<(IntKind.i64.wrap (-aa.Amount))then ah.Amount else(IntKind.i64.wrap (-aa.Amount))))))]) (n:=1) (by first | rfl | (simp[Am,List.map_set];done)) cw ?_
    (try simp +decide -implicitDefEqProofs only[go_sem,Int.reduceAdd,Int.reduceMul,Int.reduceNeg,Int.reduceSub,bS,List.length_set,List.set_cons_succ,List.set_cons_zero,List.take_of_length_le,Nat.le_refl,Af])
    obtain⟨uo,re,h⟩:=A2 h
    refine Bg.pure Tryz.call68 (D5 dt re) rfl fun _ hr=>?_
    subst hr
    (try simp +decide -implicitDefEqProofs only[go_sem,Int.reduceAdd,Int.reduceMul,Int.reduceNeg,Int.reduceSub,bS,List.length_set,List.set_cons_succ,List.set_cons_zero,List.take_of_length_le,Nat.le_refl,Af])
    refine g _ _ ?_;clear g K
    refine Aa ?_
    refine AWP.cond (Ai (fun hc=>?_) (fun hc=>?_))
    ·replace h:=Au h hc
     cases h
    replace h:=Av h hc
    refine AWP.skip ?_
    refine Al ?_
    refine Aa ?_
    refine AWP.region rfl ?_;intro K g
    (try simp +decide -implicitDefEqProofs only[go_sem,Int.reduceAdd,Int.reduceMul,Int.reduceNeg,Int.reduceSub,bS,List.length_set,List.set_cons_succ,List.set_cons_zero,List.take_of_length_le,Nat.le_refl,Af])
    refine g _ _ ?_;clear g K
    refine Aa ?_
    refine Bx.step ?_
    refine AWP.seq ?_
    refine AWP.region rfl ?_;intro K g
    (try simp +decide -implicitDefEqProofs only[go_sem,Int.reduceAdd,Int.reduceMul,Int.reduceNeg,Int.reduceSub,bS,List.length_set,List.set_cons_succ,List.set_cons_zero,List.take_of_length_le,Nat.le_refl,Af])
    refine g _ _ ?_;clear g K
    refine Aa ?_
    refine AWP.seq ?_
    refine AWP.cond (Bu ?_)
    refine AWP.exit ?_
    refine An ?_
    refine An ?_
    refine A6 ?_
    refine Aa ?_
    refine AWP.seq ?_
    refine AWP.region rfl ?_;intro K g
    (try simp +decide -implicitDefEqProofs only[go_sem,Int.reduceAdd,Int.reduceMul,Int.reduceNeg,Int.reduceSub,bS,List.length_set,List.set_cons_succ,List.set_cons_zero,List.take_of_length_le,Nat.le_refl,Af])
    refine g _ _ ?_;clear g K
    refine Aa ?_
    refine AWP.ret ?_
    (try simp +decide -implicitDefEqProofs only[go_sem,Tryz.results66,Int.reduceAdd,Int.reduceMul,Int.reduceNeg,Int.reduceSub,bS,List.length_set,List.set_cons_succ,List.set_cons_zero,List.take_of_length_le,Nat.le_refl,Af])
    refine g _ _ ?_;clear g K
    refine Aa ?_
    refine AWP.seq ?_
    refine AWP.seq ?_
    refine AWP.region rfl ?_;intro K g
    (try simp +decide -implicitDefEqProofs only[go_sem,Int.reduceAdd,Int.reduceMul,Int.reduceNeg,Int.reduceSub,bS,List.length_set,List.set_cons_succ,List.set_cons_zero,List.take_of_length_le,Nat.le_refl,Af])
    refine g _ _ ?_;clear g K
    refine Aa ?_
    refine AWP.cond (A7 ?_)
    refine AWP.seq ?_
    refine AWP.region rfl ?_;intro K g
    (try simp +decide -implicitDefEqProofs only[go_sem,Int.reduceAdd,Int.reduceMul,Int.reduceNeg,Int.reduceSub,bS,List.length_set,List.set_cons_succ,List.set_cons_zero,List.take_of_length_le,Nat.le_refl,Af])
    refine g _ _ ?_;clear g K
    refine Aa ?_
    refine AWP.ret ?_
    refine Ad ?_
    refine Aj ?_
    refine Ad ?_
    refine Aj ?_
    (try simp +decide -implicitDefEqProofs only[go_sem,Tryz.results44,Int.reduceAdd,Int.reduceMul,Int.reduceNeg,Int.reduceSub,bS,List.length_set,List.set_cons_succ,List.set_cons_zero,List.take_of_length_le,Nat.le_refl,Af])
    refine g _ _ ?_
    refine Aa ?_
    refine AWP.region rfl ?_;intro K g
    (try simp +decide -implicitDefEqProofs only[go_sem,Int.reduceAdd,Int.reduceMul,Int.reduceNeg,Int.reduceSub,bS,List.length_set,List.set_cons_succ,List.set_cons_zero,List.take_of_length_le,Nat.le_refl,Af])
    refine g _ _ ?_
    refine Al ?_
    refine Aa ?_
    refine Bx.step ?_
    refine AWP.seq ?_
    refine AWP.seq ?_
    refine AWP.region rfl ?_;intro K g
    (try simp +decide -implicitDefEqProofs only[go_sem,Int.reduceAdd,Int.reduceMul,Int.reduceNeg,Int.reduceSub,bS,List.length_set,List.set_cons_succ,List.set_cons_zero,List.take_of_length_le,Nat.le_refl,Af])
    refine g _ _ ?_
    refine Aa ?_
    refine AWP.cond (Ai (fun hc=>?_) (fun hc=>?_))
    ·replace h:=Au h hc
     refine AWP.skip ?_
     cases h
    replace h:=Av h hc
    refine AWP.exit ?_
    refine An ?_
    refine An ?_
    refine A6 ?_
    refine Aa ?_
    refine AWP.seq ?_
    refine AWP.region rfl ?_;intro K g
    (try simp +decide -implicitDefEqProofs only[go_sem,Int.reduceAdd,Int.reduceMul,Int.reduceNeg,Int.reduceSub,bS,List.length_set,List.set_cons_succ,List.set_cons_zero,List.take_of_length_le,Nat.le_refl,Af])
    refine Bg.X5 (encI:=Nv) (l:=[(C8.mk dt.Operator ay.Operator (if ah.Amount<(IntKind.i64.wrap (-aa.Amount))then ah.Amount else(IntKind.i64.wrap (-aa.Amount))))]) Tryz.call45 Tryz.sortK45 (fun _=>rfl) (fun _=>rfl) (by decide) Ep (fun _=>rfl) rfl (by first | rfl | (simp;done) | first | rfl | exact(Aw _).symm | (simp only[bR,List.length_cons,List.length_nil,List.length_set,bS]<;>omega) | (simp only[List.length_take,List.length_drop,List.length_set,bS]<;>omega)) (by simp) ?_
    (try simp +decide -implicitDefEqProofs only[go_sem,Int.reduceAdd,Int.reduceMul,Int.reduceNeg,Int.reduceSub,bS,List.length_set,List.set_cons_succ,List.set_cons_zero,List.take_of_length_le,Nat.le_refl,Af])
    refine g _ _ ?_
    refine Aa ?_
    refine AWP.seq ?_
    refine AWP.region rfl ?_;intro K g
    (try simp +decide -implicitDefEqProofs only[go_sem,Int.reduceAdd,Int.reduceMul,Int.reduceNeg,Int.reduceSub,bS,List.length_set,List.set_cons_succ,List.set_cons_zero,List.take_of_length_le,Nat.le_refl,Af])
    refine g _ _ ?_
    refine Aa ?_
    refine AWP.ret ?_
    obtain rfl:=Ag h
    simp +decide -implicitDefEqProofs only[go_sem,Ae,Ac.int.injEq,Int.natCast_zero,List.replicate_zero,List.length_take,List.length_drop,Ac.own.injEq,reduceCtorEq,Int.reduceAdd,Bc,Bd,A8,Bb,A9,Tryz.results19,Int.reduceAdd,Int.reduceMul,Int.reduceNeg,Int.reduceSub,bS,List.length_set,List.set_cons_succ,List.set_cons_zero,List.take_of_length_le,Nat.le_refl,Af]
   replace h:=Av h hc
   (try simp +decide -implicitDefEqProofs only[go_sem,hc,Bool.not_true,Int.reduceAdd,Int.reduceMul,Int.reduceNeg,Int.reduceSub,bS,List.length_set,List.set_cons_succ,List.set_cons_zero,List.take_of_length_le,Nat.le_refl,Af])
   cases h
  replace h:=Av h hc
  (try simp +decide -implicitDefEqProofs only[go_sem,hc,Bool.not_true,Int.reduceAdd,Int.reduceMul,Int.reduceNeg,Int.reduceSub,bS,List.length_set,List.set_cons_succ,List.set_cons_zero,List.take_of_length_le,Nat.le_refl,Af])
  cases h
theorem Mt (l:List Ax) {r:(List C8)} (h:Fe l=some r):Aq Tryz.prog 19 [.sl 2 (l.map Am)] (·= .sl 3 (r.map Ep)):=(Lv l h).pure
def E0 (n_:Int):Option (Bool):=
  (bif (decide (0≤n_))then some (decide (n_≤9999))else some false)
theorem F5 (n_:Int) {r:Bool} (h:E0 n_=some r):Aq Tryz.prog 73 [.int .i64 n_] (·= .bool r):=by
  refine Aq.nle (Aq.intro Tryz.func73 rfl rfl (by show _≤9;simp) ?_)
  unfold E0 at h
  (try simp +decide -implicitDefEqProofs only[go_sem])
  refine AWP.seq ?_
  refine AWP.region rfl ?_;intro K g
  (try simp +decide -implicitDefEqProofs only[go_sem])
  refine g _ _ ?_
  refine Aa ?_
  refine AWP.seq ?_
  refine AWP.region rfl ?_;intro K g
  (try simp +decide -implicitDefEqProofs only[go_sem])
  refine Ak (fun hc=>?_) (fun hc=>?_)
  ·replace h:=Au h hc
   (try simp +decide -implicitDefEqProofs only[go_sem,hc])
   refine g _ _ ?_
   refine Aa ?_
   refine AWP.ret ?_
   obtain rfl:=Ag h
   simp +decide -implicitDefEqProofs only[go_sem,Ae,Ac.int.injEq,Int.natCast_zero,List.replicate_zero,List.length_take,List.length_drop,Ac.own.injEq,reduceCtorEq,Int.reduceAdd,Bc,Bd,A8,Bb,A9,Tryz.results73]
  replace h:=Av h hc
  (try simp +decide -implicitDefEqProofs only[go_sem,hc,Bool.not_true])
  refine g _ _ ?_
  refine Aa ?_
  refine AWP.ret ?_
  obtain rfl:=Ag h
  simp +decide -implicitDefEqProofs only[go_sem,Ae,Ac.int.injEq,Int.natCast_zero,List.replicate_zero,List.length_take,List.length_drop,Ac.own.injEq,reduceCtorEq,Int.reduceAdd,Bc,Bd,A8,Bb,A9,Tryz.results73]
def Gv (k1:Nat) (cg:Bi) (sv:(List (Int×Bool))):Option (Out ((List (Int×Bool))) (Int)):=
  (bif (decide (cg.Ref<1))then some (Out.ret 2)else (bif (decide (1000000000<cg.Ref))then some (Out.ret 2)else (E0 cg.From).bind fun y4=>(bif (!y4)then some (Out.ret 2)else (E0 cg.To).bind fun y5=>(bif (!y5)then some (Out.ret 2)else (bif (decide (cg.Amount<1))then some (Out.ret 2)else (bif (decide (1099511627776<cg.Amount))then some (Out.ret 2)else (bif (decide (cg.From=cg.To))then some (Out.ret 1)else (bif (mget false sv cg.Ref)then some (Out.ret 7)else some (Out.next (mset sv cg.Ref true))))))))))
def F1 (l:List Bi):Option (Int):=
  (bif (decide (2000<((l.length:Nat):Int)))then some 4 else(Bo Gv 0 l []).bind fun o1=>o1.on fun s1=>some 0)
theorem F0 (l:List Bi) {r:Int} (h:F1 l=some r):Aq Tryz.prog 49 [.sl 4 (l.map Az)] (·= .int .i64 r):=by
  refine Aq.nle (Aq.intro Tryz.func49 rfl rfl (by show _≤59;simp) ?_)
  unfold F1 at h
  (try simp +decide -implicitDefEqProofs only[go_sem])
  refine AWP.seq ?_
  refine AWP.region rfl ?_;intro K g
  (try simp +decide -implicitDefEqProofs only[go_sem])
  refine g _ _ ?_
  refine Aa ?_
  refine AWP.seq ?_
  refine AWP.seq ?_
  refine AWP.region rfl ?_;intro K g
  (try simp +decide -implicitDefEqProofs only[go_sem])
  intro hm
  refine g _ _ ?_
  refine Aa ?_
  refine AWP.cond (Ai (fun hc=>?_) (fun hc=>?_))
  ·replace h:=Au h hc
   refine AWP.seq ?_
   refine AWP.region rfl ?_;intro K g
   (try simp +decide -implicitDefEqProofs only[go_sem])
   refine g _ _ ?_
   refine Aa ?_
   refine AWP.ret ?_
   refine Ad ?_
   obtain rfl:=Ag h
   simp +decide -implicitDefEqProofs only[go_sem,Ae,Ac.int.injEq,Int.natCast_zero,List.replicate_zero,List.length_take,List.length_drop,Ac.own.injEq,reduceCtorEq,Int.reduceAdd,Bc,Bd,A8,Bb,A9,Tryz.results49]
  replace h:=Av h hc
  refine AWP.skip ?_
  refine Aa ?_
  refine AWP.seq ?_
  refine AWP.region rfl ?_;intro K g
  (try simp +decide -implicitDefEqProofs only[go_sem])
  refine g _ _ ?_
  refine Aa ?_
  refine AWP.seq ?_
  refine AWP.seq ?_
  refine AWP.region rfl ?_;intro K g
  (try simp +decide -implicitDefEqProofs only[go_sem])
  intro hm
  refine g _ _ ?_
  refine Aa ?_
  refine AWP.block ?_
  obtain⟨o1,cb,fb⟩:=A2 h
  clear h
  refine AWP.Cv (ι:=Nat×((List (Int×Bool)))×(Unit)) (fun zz=>[(3,.map 0),(10,.sl 4 (l.map Az)),(11,.int .i64 ((l.length:Nat):Int)),(12,.int .i64 ((zz.1:Nat):Int))]) (fun zz=>[.mp (mpE Qf zz.2.1)]) (fun zz=>zz.1≤l.length∧Bo Gv zz.1 ((l).drop zz.1) zz.2.1=some o1) (fun zz=>l.length - zz.1) (0,[],()) ⟨Nat.zero_le _,cb⟩ (by(simp +decide -implicitDefEqProofs only[go_sem,Ae,Ac.int.injEq,Int.natCast_zero,List.replicate_zero,List.length_take,List.length_drop,Ac.own.injEq,reduceCtorEq,Int.reduceAdd]<;>omega)) (by(simp +decide -implicitDefEqProofs only[go_sem,Ae,Ac.int.injEq,Int.natCast_zero,List.replicate_zero,List.length_take,List.length_drop,Ac.own.injEq,reduceCtorEq,Int.reduceAdd]<;>omega)) (fun x=>⟨rfl,rfl,rfl⟩) ?_
  clear cb
  rintro⟨k1,seen1,⟨⟩⟩ ⟨iv,cb⟩
  dsimp only at iv cb ⊢
  refine AWP.seq ?_
  refine AWP.region rfl ?_;intro K g
  (try simp +decide -implicitDefEqProofs only[go_sem])
  refine g _ _ ?_
  refine Aa ?_
  refine AWP.seq ?_
  refine AWP.cond (Ai (fun hc=>?_) (fun hc=>?_))
  rotate_left
  ·obtain rfl:=B8 cb (fun hl=>by have:=bJ hc;omega)
   have h:=B7 fb;try dsimp only at h
   have ba:l.length=k1:=by have:=bJ hc;omega
   subst ba
   refine AWP.exit ?_
   refine An ?_
   refine An ?_
   refine A6 ?_
   refine Aa ?_
   refine AWP.seq ?_
   refine AWP.region rfl ?_;intro K g
   (try simp +decide -implicitDefEqProofs only[go_sem])
   refine g _ _ ?_
   refine Aa ?_
   refine AWP.ret ?_
   obtain rfl:=Ag h
   simp +decide -implicitDefEqProofs only[go_sem,Ae,Ac.int.injEq,Int.natCast_zero,List.replicate_zero,List.length_take,List.length_drop,Ac.own.injEq,reduceCtorEq,Int.reduceAdd,Bc,Bd,A8,Bb,A9,Tryz.results49]
  have j0:k1<l.length:=by have:=bK hc;omega
  obtain⟨cg,b1,jn,h,cb⟩:=Bw cb j0
  have nq:=Br jn
  have ir:IntKind.i64.wrap (((k1:Nat):Int)+1)=(((k1:Nat):Int)+1):=by rw[wrap_i64]<;>omega
  unfold Gv at h;try dsimp only at h
  refine AWP.skip ?_
  refine Aa ?_
  refine AWP.seq ?_
  refine AWP.block ?_
  refine AWP.seq ?_
  refine AWP.region rfl ?_;intro K g
  (try simp +decide -implicitDefEqProofs only[go_sem])
  refine Ca.of (f:=Az) (l:=l) nq ?_
  (try simp +decide -implicitDefEqProofs only[go_sem])
  refine g _ _ ?_
  refine Aa ?_
  refine AWP.seq ?_
  refine AWP.seq ?_
  refine AWP.region rfl ?_;intro K g
  (try simp +decide -implicitDefEqProofs only[go_sem])
  refine Ak (fun hc=>?_) (fun hc=>?_)
  ·replace h:=Av h hc
   (try simp +decide -implicitDefEqProofs only[go_sem,hc])
   refine Ak (fun hc=>?_) (fun hc=>?_)
   ·replace h:=Av h hc
    (try simp +decide -implicitDefEqProofs only[go_sem,hc])
    obtain⟨y4,gj,h⟩:=A2 h
    refine Bg.pure Tryz.call73 (F5 cg.From gj) rfl fun _ hr=>?_
    subst hr
    (try simp +decide -implicitDefEqProofs only[go_sem])
    refine Ak (fun hc=>?_) (fun hc=>?_)
    ·replace h:=Av h hc
     (try simp +decide -implicitDefEqProofs only[go_sem,hc])
     obtain⟨y5,fm,h⟩:=A2 h
     refine Bg.pure Tryz.call73 (F5 cg.To fm) rfl fun _ hr=>?_
     subst hr
     (try simp +decide -implicitDefEqProofs only[go_sem])
     refine Ak (fun hc=>?_) (fun hc=>?_)
     ·replace h:=Av h hc
      (try simp +decide -implicitDefEqProofs only[go_sem,hc])
      refine Ak (fun hc=>?_) (fun hc=>?_)
      ·replace h:=Av h hc
       (try simp +decide -implicitDefEqProofs only[go_sem,hc])
       refine g _ _ ?_
       refine Aa ?_
       refine AWP.cond (Ai (fun hc=>?_) (fun hc=>?_))
       ·replace h:=Au h hc
        refine AWP.seq ?_
        refine AWP.region rfl ?_;intro K g
        (try simp +decide -implicitDefEqProofs only[go_sem])
        refine g _ _ ?_
        refine Aa ?_
        refine AWP.ret ?_
        refine Ad ?_
        refine Aj ?_
        refine Ad ?_
        refine Ad ?_
        obtain rfl:=Ag h
        obtain rfl:=Ba cb
        replace h:=Bp fb
        refine Aj ?_
        refine Ad ?_
        obtain rfl:=Ag h
        simp +decide -implicitDefEqProofs only[go_sem,Ae,Ac.int.injEq,Int.natCast_zero,List.replicate_zero,List.length_take,List.length_drop,Ac.own.injEq,reduceCtorEq,Int.reduceAdd,Bc,Bd,A8,Bb,A9,Tryz.results49]
       replace h:=Av h hc
       refine AWP.skip ?_
       refine Aa ?_
       refine AWP.seq ?_
       refine AWP.seq ?_
       refine AWP.region rfl ?_;intro K g
       (try simp +decide -implicitDefEqProofs only[go_sem])
       refine g _ _ ?_
       refine Aa ?_
       refine AWP.cond (Ai (fun hc=>?_) (fun hc=>?_))
       ·replace h:=Au h hc
        refine AWP.seq ?_
        refine AWP.region rfl ?_;intro K g
        (try simp +decide -implicitDefEqProofs only[go_sem])
        refine g _ _ ?_
        refine Aa ?_
        refine AWP.ret ?_
        refine Ad ?_
        refine Aj ?_
        refine Ad ?_
        refine Ad ?_
        obtain rfl:=Ag h
        obtain rfl:=Ba cb
        replace h:=Bp fb
        refine Aj ?_
        refine Ad ?_
        obtain rfl:=Ag h
        simp +decide -implicitDefEqProofs only[go_sem,Ae,Ac.int.injEq,Int.natCast_zero,List.replicate_zero,List.length_take,List.length_drop,Ac.own.injEq,reduceCtorEq,Int.reduceAdd,Bc,Bd,A8,Bb,A9,Tryz.results49]
       replace h:=Av h hc
       refine AWP.skip ?_
       refine Aa ?_
       refine AWP.seq ?_
       refine AWP.seq ?_
       refine AWP.region rfl ?_;intro K g
       (try simp +decide -implicitDefEqProofs only[go_sem])
       refine Ew.of (f:=Qf) (m:=seen1) (d:=false) rfl ?_
       (try simp +decide -implicitDefEqProofs only[go_sem])
       refine g _ _ ?_
       refine Aa ?_
       refine AWP.cond (Ai (fun hc=>?_) (fun hc=>?_))
       ·replace h:=Au h hc
        refine AWP.seq ?_
        refine AWP.region rfl ?_;intro K g
        (try simp +decide -implicitDefEqProofs only[go_sem])
        refine g _ _ ?_
        refine Aa ?_
        refine AWP.ret ?_
        refine Ad ?_
        refine Aj ?_
        refine Ad ?_
        refine Ad ?_
        obtain rfl:=Ag h
        obtain rfl:=Ba cb
        replace h:=Bp fb
        refine Aj ?_
        refine Ad ?_
        obtain rfl:=Ag h
        simp +decide -implicitDefEqProofs only[go_sem,Ae,Ac.int.injEq,Int.natCast_zero,List.replicate_zero,List.length_take,List.length_drop,Ac.own.injEq,reduceCtorEq,Int.reduceAdd,Bc,Bd,A8,Bb,A9,Tryz.results49]
       replace h:=Av h hc
       refine AWP.skip ?_
       refine Aa ?_
       refine AWP.region rfl ?_;intro K g
       (try simp +decide -implicitDefEqProofs only[go_sem])
       refine g _ _ ?_
       refine Al ?_
       refine Aa ?_
       refine AWP.region rfl ?_;intro K g
       (try simp +decide -implicitDefEqProofs only[go_sem])
       refine g _ _ ?_
       refine Aa ?_
       obtain rfl:=Ag h
       refine⟨(k1+1,(mset seen1 cg.Ref true),()),⟨by dsimp only;omega,Bf cb⟩,by dsimp only;omega,?_,?_⟩
       ·(simp +decide -implicitDefEqProofs only[go_sem,Ae,Ac.int.injEq,Int.natCast_zero,List.replicate_zero,List.length_take,List.length_drop,Ac.own.injEq,reduceCtorEq,Int.reduceAdd,ir]<;>omega)
       (simp +decide -implicitDefEqProofs only[go_sem,Ae,Ac.int.injEq,Int.natCast_zero,List.replicate_zero,List.length_take,List.length_drop,Ac.own.injEq,reduceCtorEq,Int.reduceAdd,ir]<;>omega)
      replace h:=Au h hc
      (try simp +decide -implicitDefEqProofs only[go_sem,hc,Bool.not_false])
      refine g _ _ ?_
      refine Aa ?_
      refine AWP.cond (A7 ?_)
      refine AWP.seq ?_
      refine AWP.region rfl ?_;intro K g
      (try simp +decide -implicitDefEqProofs only[go_sem])
      refine g _ _ ?_
      refine Aa ?_
      refine AWP.ret ?_
      refine Ad ?_
      refine Aj ?_
      refine Ad ?_
      refine Ad ?_
      obtain rfl:=Ag h
      obtain rfl:=Ba cb
      replace h:=Bp fb
      refine Aj ?_
      refine Ad ?_
      obtain rfl:=Ag h
      simp +decide -implicitDefEqProofs only[go_sem,Ae,Ac.int.injEq,Int.natCast_zero,List.replicate_zero,List.length_take,List.length_drop,Ac.own.injEq,reduceCtorEq,Int.reduceAdd,Bc,Bd,A8,Bb,A9,Tryz.results49]
     replace h:=Au h hc
     (try simp +decide -implicitDefEqProofs only[go_sem,hc,Bool.not_false])
     refine g _ _ ?_
     refine Aa ?_
     refine AWP.cond (A7 ?_)
     refine AWP.seq ?_
     refine AWP.region rfl ?_;intro K g
     (try simp +decide -implicitDefEqProofs only[go_sem])
     refine g _ _ ?_
     refine Aa ?_
     refine AWP.ret ?_
     refine Ad ?_
     refine Aj ?_
     refine Ad ?_
     refine Ad ?_
     obtain rfl:=Ag h
     obtain rfl:=Ba cb
     replace h:=Bp fb
     refine Aj ?_
     refine Ad ?_
     obtain rfl:=Ag h
     simp +decide -implicitDefEqProofs only[go_sem,Ae,Ac.int.injEq,Int.natCast_zero,List.replicate_zero,List.length_take,List.length_drop,Ac.own.injEq,reduceCtorEq,Int.reduceAdd,Bc,Bd,A8,Bb,A9,Tryz.results49]
    replace h:=Au h hc
    (try simp +decide -implicitDefEqProofs only[go_sem,hc,Bool.not_false])
    refine g _ _ ?_
    refine Aa ?_
    refine AWP.cond (A7 ?_)
    refine AWP.seq ?_
    refine AWP.region rfl ?_;intro K g
    (try simp +decide -implicitDefEqProofs only[go_sem])
    refine g _ _ ?_
    refine Aa ?_
    refine AWP.ret ?_
    refine Ad ?_
    refine Aj ?_
    refine Ad ?_
    refine Ad ?_
    obtain rfl:=Ag h
    obtain rfl:=Ba cb
    replace h:=Bp fb
    refine Aj ?_
    refine Ad ?_
    obtain rfl:=Ag h
    simp +decide -implicitDefEqProofs only[go_sem,Ae,Ac.int.injEq,Int.natCast_zero,List.replicate_zero,List.length_take,List.length_drop,Ac.own.injEq,reduceCtorEq,Int.reduceAdd,Bc,Bd,A8,Bb,A9,Tryz.results49]
   replace h:=Au h hc
   (try simp +decide -implicitDefEqProofs only[go_sem,hc,Bool.not_false])
   refine g _ _ ?_
   refine Aa ?_
   refine AWP.cond (A7 ?_)
   refine AWP.seq ?_
   refine AWP.region rfl ?_;intro K g
   (try simp +decide -implicitDefEqProofs only[go_sem])
   refine g _ _ ?_
   refine Aa ?_
   refine AWP.ret ?_
   refine Ad ?_
   refine Aj ?_
   refine Ad ?_
   refine Ad ?_
   obtain rfl:=Ag h
   obtain rfl:=Ba cb
   replace h:=Bp fb
   refine Aj ?_
   refine Ad ?_
   obtain rfl:=Ag h
   simp +decide -implicitDefEqProofs only[go_sem,Ae,Ac.int.injEq,Int.natCast_zero,List.replicate_zero,List.length_take,List.length_drop,Ac.own.injEq,reduceCtorEq,Int.reduceAdd,Bc,Bd,A8,Bb,A9,Tryz.results49]
  replace h:=Au h hc
  (try simp +decide -implicitDefEqProofs only[go_sem,hc,Bool.not_false])
  refine g _ _ ?_
  refine Aa ?_
  refine AWP.cond (A7 ?_)
  refine AWP.seq ?_
  refine AWP.region rfl ?_;intro K g
  (try simp +decide -implicitDefEqProofs only[go_sem])
  refine g _ _ ?_
  refine Aa ?_
  refine AWP.ret ?_
  refine Ad ?_
  refine Aj ?_
  refine Ad ?_
  refine Ad ?_
  obtain rfl:=Ag h
  obtain rfl:=Ba cb
  replace h:=Bp fb
  refine Aj ?_
  refine Ad ?_
  obtain rfl:=Ag h
  simp +decide -implicitDefEqProofs only[go_sem,Ae,Ac.int.injEq,Int.natCast_zero,List.replicate_zero,List.length_take,List.length_drop,Ac.own.injEq,reduceCtorEq,Int.reduceAdd,Bc,Bd,A8,Bb,A9,Tryz.results49]
def Cb (v:Bi) (k0:Nat) (ao:Bi) (sv:Unit):Option (Out (Unit) (Int)):=
  (bif ((decide (v.Ref=ao.Ref))&&((decide (v.From=ao.From))&&((decide (v.To=ao.To))&&(decide (v.Amount=ao.Amount)))))then some (Out.ret ((k0:Nat):Int))else some (Out.next ()))
def Cg (s_:List Bi) (v:Bi):Option (Int):=
  (Bo (Cb v) 0 s_ ()).bind fun o0=>o0.on fun s0=>some (-1)
theorem D1 (s_:List Bi) (v:Bi) {r:Int} (h:Cg s_ v=some r):Aq Tryz.prog 74 [.sl 4 (s_.map Az),.agg (Az v)] (·= .int .i64 r):=by
  refine Aq.nle (Aq.intro Tryz.func74 rfl rfl (by show _≤19;simp) ?_)
  unfold Cg at h
  (try simp +decide -implicitDefEqProofs only[go_sem])
  refine AWP.seq ?_
  refine AWP.region rfl ?_;intro K g
  (try simp +decide -implicitDefEqProofs only[go_sem])
  refine g _ _ ?_
  refine Aa ?_
  refine AWP.seq ?_
  refine AWP.seq ?_
  refine AWP.region rfl ?_;intro K g
  (try simp +decide -implicitDefEqProofs only[go_sem])
  intro hm
  refine g _ _ ?_
  refine Aa ?_
  refine AWP.block ?_
  obtain⟨o0,ae,bg⟩:=A2 h
  clear h
  refine AWP.Cv (ι:=Nat×(Unit)×(Unit)) (fun zz=>[(0,.sl 4 (s_.map Az)),(3,.ptr 0 0),(7,.int .i64 ((s_.length:Nat):Int)),(8,.int .i64 ((zz.1:Nat):Int))]) (fun zz=>[.box [.int .i64 v.Ref,.int .i64 v.From,.int .i64 v.To,.int .i64 v.Amount]]) (fun zz=>zz.1≤s_.length∧Bo (Cb v) zz.1 ((s_).drop zz.1) zz.2.1=some o0) (fun zz=>s_.length - zz.1) (0,(),()) ⟨Nat.zero_le _,ae⟩ (by(simp +decide -implicitDefEqProofs only[go_sem,Ae,Ac.int.injEq,Int.natCast_zero,List.replicate_zero,List.length_take,List.length_drop,Ac.own.injEq,reduceCtorEq,Int.reduceAdd]<;>omega)) (by(simp +decide -implicitDefEqProofs only[go_sem,Ae,Ac.int.injEq,Int.natCast_zero,List.replicate_zero,List.length_take,List.length_drop,Ac.own.injEq,reduceCtorEq,Int.reduceAdd]<;>omega)) (fun x=>⟨rfl,rfl,rfl⟩) ?_
  clear ae
  rintro⟨k0,⟨⟩,⟨⟩⟩ ⟨cn,ae⟩
  dsimp only at cn ae ⊢
  refine AWP.seq ?_
  refine AWP.region rfl ?_;intro K g
  (try simp +decide -implicitDefEqProofs only[go_sem])
  refine g _ _ ?_
  refine Aa ?_
  refine AWP.seq ?_
  refine AWP.cond (Ai (fun hc=>?_) (fun hc=>?_))
  rotate_left
  ·obtain rfl:=B8 ae (fun hl=>by have:=bJ hc;omega)
   have h:=B7 bg;try dsimp only at h
   have ba:s_.length=k0:=by have:=bJ hc;omega
   subst ba
   refine AWP.exit ?_
   refine An ?_
   refine An ?_
   refine A6 ?_
   refine Aa ?_
   refine AWP.seq ?_
   refine AWP.region rfl ?_;intro K g
   (try simp +decide -implicitDefEqProofs only[go_sem])
   refine g _ _ ?_
   refine Aa ?_
   refine AWP.ret ?_
   obtain rfl:=Ag h
   simp +decide -implicitDefEqProofs only[go_sem,Ae,Ac.int.injEq,Int.natCast_zero,List.replicate_zero,List.length_take,List.length_drop,Ac.own.injEq,reduceCtorEq,Int.reduceAdd,Bc,Bd,A8,Bb,A9,Tryz.results74]
  have bj:k0<s_.length:=by have:=bK hc;omega
  obtain⟨ao,b0,bn,h,ae⟩:=Bw ae bj
  have b7:=Br bn
  have bo:IntKind.i64.wrap (((k0:Nat):Int)+1)=(((k0:Nat):Int)+1):=by rw[wrap_i64]<;>omega
  unfold Cb at h;try dsimp only at h
  refine AWP.skip ?_
  refine Aa ?_
  refine AWP.seq ?_
  refine AWP.block ?_
  refine AWP.seq ?_
  refine AWP.region rfl ?_;intro K g
  (try simp +decide -implicitDefEqProofs only[go_sem])
  refine g _ _ ?_
  refine Aa ?_
  refine AWP.seq ?_
  refine AWP.draw Tryz.mixed (by kernel_rfl) ?_;intro K g
  (try simp +decide -implicitDefEqProofs only[go_sem])
  refine Ca.of (f:=Az) (l:=s_) b7 ?_
  (try simp +decide -implicitDefEqProofs only[go_sem])
  refine g _ _ _ (by kernel_rfl) ?_
  refine Aa ?_
  refine AWP.cond (Ai (fun hc=>?_) (fun hc=>?_))
  ·replace h:=Au h hc
   refine AWP.seq ?_
   refine AWP.region rfl ?_;intro K g
   (try simp +decide -implicitDefEqProofs only[go_sem])
   refine g _ _ ?_
   refine Aa ?_
   refine AWP.ret ?_
   refine Aj ?_
   refine Ad ?_
   refine Ad ?_
   obtain rfl:=Ag h
   obtain rfl:=Ba ae
   replace h:=Bp bg
   refine Aj ?_
   refine Ad ?_
   obtain rfl:=Ag h
   simp +decide -implicitDefEqProofs only[go_sem,Ae,Ac.int.injEq,Int.natCast_zero,List.replicate_zero,List.length_take,List.length_drop,Ac.own.injEq,reduceCtorEq,Int.reduceAdd,Bc,Bd,A8,Bb,A9,Tryz.results74]
  replace h:=Av h hc
  refine AWP.skip ?_
  refine Al ?_
  refine Aa ?_
  refine AWP.region rfl ?_;intro K g
  (try simp +decide -implicitDefEqProofs only[go_sem])
  refine g _ _ ?_
  refine Aa ?_
  obtain rfl:=Ag h
  refine⟨(k0+1,(),()),⟨by dsimp only;omega,Bf ae⟩,by dsimp only;omega,?_,?_⟩
  ·(simp +decide -implicitDefEqProofs only[go_sem,Ae,Ac.int.injEq,Int.natCast_zero,List.replicate_zero,List.length_take,List.length_drop,Ac.own.injEq,reduceCtorEq,Int.reduceAdd,bo]<;>omega)
  (simp +decide -implicitDefEqProofs only[go_sem,Ae,Ac.int.injEq,Int.natCast_zero,List.replicate_zero,List.length_take,List.length_drop,Ac.own.injEq,reduceCtorEq,Int.reduceAdd,bo]<;>omega)
def Cc (s_:List Bi) (v:Bi):Option (Bool):=
  (Cg s_ v).bind fun y1=>some (decide (0≤y1))
theorem Dp (s_:List Bi) (v:Bi) {r:Bool} (h:Cc s_ v=some r):Aq Tryz.prog 50 [.sl 4 (s_.map Az),.agg (Az v)] (·= .bool r):=by
  refine Aq.nle (Aq.intro Tryz.func50 rfl rfl (by show _≤9;simp) ?_)
  unfold Cc at h
  (try simp +decide -implicitDefEqProofs only[go_sem])
  refine AWP.seq ?_
  refine AWP.region rfl ?_;intro K g
  (try simp +decide -implicitDefEqProofs only[go_sem])
  refine g _ _ ?_
  refine Aa ?_
  refine AWP.seq ?_
  refine AWP.region rfl ?_;intro K g
  (try simp +decide -implicitDefEqProofs only[go_sem])
  obtain⟨y1,ch,h⟩:=A2 h
  refine Bg.pure Tryz.call74 (D1 s_ v ch) rfl fun _ hr=>?_
  subst hr
  (try simp +decide -implicitDefEqProofs only[go_sem])
  refine g _ _ ?_
  refine Aa ?_
  refine AWP.ret ?_
  obtain rfl:=Ag h
  simp +decide -implicitDefEqProofs only[go_sem,Ae,Ac.int.injEq,Int.natCast_zero,List.replicate_zero,List.length_take,List.length_drop,Ac.own.injEq,reduceCtorEq,Int.reduceAdd,Bc,Bd,A8,Bb,A9,Tryz.results50]
end
end Go.Proofs.YtooopbnnhbacjaaGreat
