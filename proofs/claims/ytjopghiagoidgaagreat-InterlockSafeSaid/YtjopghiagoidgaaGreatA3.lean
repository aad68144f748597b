/- Our own texts: a layer of abstract values over the model, the walks of the functions, the plain laws; joined and shortened by a small program of our own (wip/dce2.py, wip/pack.py). -/
import Derived.Test.YtjopghiagoidgaaGreatA2
import Derived.Calls
import Derived.Tactics2
import Derived.Below
import Derived.Deep.LoopGhost
import Derived.KernelRfl
import Derived.Laws.Shifts
import Derived.Laws.CopyRow
import Derived.Laws.AppendOwn
import Derived.Laws.MakeOwn
import Derived.Laws.StructEq
import Derived.Maps.RangeRun
import Derived.Lib.SliceRun
import Derived.TacticsIn
import Derived.OrdersIn
import Derived.Sort.LoopGhostIn
import Derived.RangeFuncRecord
import Derived.Orders
import Derived.ProofKit
import Derived.OpenShut
import Derived.ShutString
import Derived.ChangeOld
import Derived.Carry
import Derived.WideShapes
import Derived.ChangeArms
import Derived.ChangeShapes
import Derived.Handed
import Derived.JoinedOf
import Derived.Sort.Grow
import Derived.Lib.SlicesCompact
import Derived.Lib.SlKeysI
import Derived.Maps.Own
import Derived.WideKeyRuns
import Derived.Laws.IdiomCopy
import Derived.Lib.Overlaps
import Derived.Test.YtjopghiagoidgaaGreatChecked
import Derived.Shelf.RegionOpenPlain
import Derived.WalkKit
import Derived.Lib.Walk
import Derived.Lib.JoinLaws
import Derived.Lib.AppendZeros
import Derived.Lib.AppendZerosOnto
import Derived.Laws.NewBlocks
import Derived.Laws.Externs
import Derived.Test.YtjopghiagoidgaaGreatProg
import Derived.Shelf.SortM.Plain
import Derived.Shelf.SortM.SortNone
import Derived.Shelf.SlIterI.Nil
import Derived.Shelf.Slices.CompactI
namespace Go.Proofs.YtjopghiagoidgaaGreat
open Go Go.Shelf Go.RowKit Go.Lib
set_option linter.unusedSimpArgs false
set_option linter.unusedVariables false
theorem wB (w:World) {o:Oper} {a:Act} {K:Act→World→Prop} {Q:Exit→Act→World→Prop} {P:Program} (d s:Operand) (t t':TypeId)
    (ho:o.op= .call {callee:=.builtin .copy,args:=#[d,s],argTypes:=#[t,t']}) (v u:Value) (hd:a.eval d=v) (hs:a.eval s=u) {v':Value} {w':World}
    (hr:(Builtin.copy_ #[t,t'] o.type #[v,u]).run P w= .ok v' w') (h:K (a.put o.dst v') w'):o.wp P a w K Q:=by
  unfold Oper.wp execOp
  simp only[ho,resolve,invoke,builtin,Sem.run_bind,Sem.run_pure,Result.andThen_ok,List.map_toArray,List.map_cons,List.map_nil,hd,hs,hr]
  exact h
theorem gX {P:Program} (w:World) {ops:Array Oper} {rest:List Oper} {o:Oper} {a:Act} {Q:Exit→Act→World→Prop} (hgd:o.guard=none) (d s:Operand) (t t':TypeId)
    (ho:o.op= .call {callee:=.builtin .copy,args:=#[d,s],argTypes:=#[t,t']}) (v u:Value) (hd:a.eval d=v) (hs:a.eval s=u) {v':Value} {w':World}
    (hr:(Builtin.copy_ #[t,t'] o.type #[v,u]).run P w= .ok v' w') (h:wpList P ops Q rest (a.put o.dst v') w'):wpList P ops Q (o::rest) a w:=
  wpList_plain hgd fun _ hK=>wB w d s t t' ho v u hd hs hr (hK _ _ h)
theorem nF {P:Program} {ops:Array Oper} {o:Oper} {a:Act} {w:World} {K:Act→World→Prop} {Q:Exit→Act→World→Prop} {E:Prop}
    (hg:o.guard=none) (d x:Operand) (dT sT:TypeId) (tm:o.op=Op.call {callee:=Callee.builtin Builtin.copy,args:=#[d,x],argTypes:=#[dT,sT]})
    (v u:Value) (hd:a.eval d=v) (hx:a.eval x=u) {v':Value} {w':World} (hr:(Builtin.copy_ #[dT,sT] o.type #[v,u]).run P w= .ok v' w') (hK:K (a.put o.dst v') w') :
    if Region.wanted o (yielded ops a.tmps)=true then Oper.wp P o a w K Q else E:=by
  have hw:Region.wanted o (yielded ops a.tmps)=true:=by simp[Region.wanted,hg]
  rw[if_pos hw]
  unfold Oper.wp
  simp[execOp,tm,resolve,invoke,builtin,hd,hx,hr,Result.andThen]
  exact hK
theorem fZ (b:Nat) (vs:List Value) (o:Nat) (w:World) (h:∀ j,j<vs.length→(w.cell? ⟨b,o+j,none⟩).isSome=true) (k:Nat) (hk:(w.cell? ⟨b,k,none⟩).isSome=true):((w.setCells b o vs).cell? ⟨b,k,none⟩).isSome=true:=by
  by_cases ig:o≤k∧k<o+vs.length
  ·have:=World.cell?_setCells_in b vs o w h (k - o) (by omega)
   rw[show o+(k - o)=k by omega]at this
   rw[this];rfl
  ·rw[World.cell?_setCells_out b vs o w ⟨b,k,none⟩ (fun _ _=>by show k<o∨o+vs.length≤k;omega)]
   exact hk
theorem Vl {P:Program} (w:World) (dT sT ty elem:TypeId) (b o dLen dCap:Nat) (a:Addr) (sLen sCap sz m:Nat) (cs:List Value)
    (hu:P.underlying dT=some (.slice elem)) (hs:(P.info? elem).map (·.size)=some sz) (hm:m=Nat.min sLen dLen) (hn:cs.length=m*sz)
    (sb:∀ j v,cs[j]? =some v→w.cell? (a.add j)=some v) (hc:∀ j,j<cs.length→(w.cell? ⟨b,o+j,none⟩).isSome=true) (hf:∀ j,j<cs.length→w.frozen? ⟨b,o+j,none⟩=false) (h1:∀ v∈cs,v.oneCell'=true) :
    (Builtin.copy_ #[dT,sT] ty #[.slice (some ⟨b,o,none⟩) dLen dCap,.slice (some a) sLen sCap]).run P w= .ok (goInt m) (w.setCells b o cs):=by
  have hl:=run_loadCells_list (P:=P) w a cs sb
  have iw:=run_storeCells_cells (P:=P) b o cs 0 w (by simpa using hc) (by simpa using hf) h1
  cases hq:P.info? elem with
  | none=>simp[hq]at hs
  | some i=>
    have hi:i.size=sz:=by simpa[hq]using hs
    simp[Builtin.copy_,run_underlying hu,Builtin.lenOf,Builtin.firstCells,sizeOf,typeInfo,hq,hi,← hm,← hn,hl,iw]
theorem i70:(Tryz.prog.info? 70).map (fun i=>(i.zero,i.size,i.bytes))=some (some (.agg #[.int .i64 0,.bool false,.int .i64 0]),3,24):=by kernel_rfl
theorem s70:(Tryz.prog.info? 70).map (·.size)=some 3:=by kernel_rfl
set_option maxHeartbeats 4000000 in
set_option maxRecDepth 100000 in
theorem x5 (b off n c i vb voff vc:Nat) (cs vs:List Value) (w:World) (hi:i<n) (hnc:n≤c) (dw:c<n+1) (wo:(n+1)*24≤140737488355328)
    (dx:cs.length=n*3) (jz:vs.length=3)
    (ia:∀ j v,cs[j]? =some v→w.cell? ⟨b,off+j,none⟩=some v)
    (eg:∀ j v,vs[j]? =some v→w.cell? ⟨vb,voff+j,none⟩=some v) (h1c:∀ v∈cs,v.oneCell'=true) (h1v:∀ v∈vs,v.oneCell'=true) :
    Calls Tryz.prog 58 #[.slice (some ⟨b,off,none⟩) n c,.int .i64 i,.slice (some ⟨vb,voff,none⟩) 1 vc] w fun e w'=>
      e= .returned (.slice (some ⟨w.heap.size,0,none⟩) (n+1) (grownCap w (n+1) c 70))∧
      w'=(((w.alloc (.cells ((cs.take (i*3)).toArray++Builtin.zeroCells #[.int .i64 0,.bool false,.int .i64 0] (n+1 - i)++Builtin.zeroCells #[.int .i64 0,.bool false,.int .i64 0] (grownCap w (n+1) c 70 - (n+1))) 70)).drew.setCells w.heap.size (i*3) vs).drew).setCells w.heap.size ((i+1)*3) (cs.drop (i*3)):=by
  have t0:=Tryz.underlying0;have a0:=Tryz.isAgg0;have z0:=Tryz.sizeOf0;have v0:=Tryz.zeroValue0;have t3:=Tryz.underlying3;have a3:=Tryz.isAgg3;have z3:=Tryz.sizeOf3;have v3:=Tryz.zeroValue3;have t4:=Tryz.underlying4;have a4:=Tryz.isAgg4;have z4:=Tryz.sizeOf4;have v4:=Tryz.zeroValue4;have t41:=Tryz.underlying41;have a41:=Tryz.isAgg41;have z41:=Tryz.sizeOf41;have v41:=Tryz.zeroValue41;have z70:=Tryz.sizeOf70;have a70:=Tryz.isAgg70
  have u0:=run_underlying Tryz.underlying0;have u3:=run_underlying Tryz.underlying3;have u4:=run_underlying Tryz.underlying4;have u41:=run_underlying Tryz.underlying41
  have mixed:=Tryz.mixed
  obtain⟨i0,hi0,hz0,tc,hzb⟩:=info_parts i70
  have hz1:¬ ((1:Int)=0):=by omega
  have hz2:¬ ((i:Int)=(n:Int)):=by omega
  have hz3:(c:Int)<(n:Int)+1:=by omega
  have hbw:b<w.heap.size:=block_lt_of_cell (ia 0 _ (Aks (by omega)))
  have hvw:vb<w.heap.size:=block_lt_of_cell (eg 0 _ (Aks (by omega)))
  have hkk:(n:Int)+1 - (i:Int)=((n+1 - i:Nat):Int):=by omega
  have hik:i+(n+1 - i)=n+1:=by omega
  have hold:(Builtin.firstCells i0.size i (.slice (some ⟨b,off,none⟩) i c)).run Tryz.prog w.drew= .ok (cs.take (i*3)).toArray w.drew:=by
    rw[tc]
    exact run_firstCells_some w.drew 3 i ⟨b,off,none⟩ i c (cs.take (i*3)) (by rw[List.length_take];omega) (fun j v hj=>by
      rw[Addr.add_lit]
      rw[List.getElem?_take]at hj
      split at hj
      ·exact ia j v hj
      ·cases hj)
  have hrz:∀ ty,(Builtin.append_ #[41,3] ty #[.slice (some ⟨b,off,none⟩) i c,.int .i64 ((n:Int)+1 - (i:Int))]).run Tryz.prog w =
   .ok (.slice (some ⟨w.heap.size,0,none⟩) (n+1) (grownCap w (n+1) c 70)) (w.drew.alloc (.cells ((cs.take (i*3)).toArray++Builtin.zeroCells #[.int .i64 0,.bool false,.int .i64 0] (n+1 - i)++Builtin.zeroCells #[.int .i64 0,.bool false,.int .i64 0] (grownCap w (n+1) c 70 - (n+1))) 70)):=fun ty=>by
    have h:=Lib.run_append_grow_zeros w 41 3 ty 70 i0 _ .i64 .i64 Tryz.underlying41 Tryz.underlying3 hi0 hz0 (some ⟨b,off,none⟩) i c (cs.take (i*3)) hold (n+1 - i) (by omega) (by omega) (by omega) (by omega) (by rw[hzb];omega) (by rw[hzb,hik];exact growslice_fits dw wo)
    rw[hik]at h
    rw[hkk]
    exact h
  obtain⟨G,hG⟩:∃ G,G=grownCap w (n+1) c 70:=⟨_,rfl⟩
  obtain⟨ROW,wx⟩:∃ ROW:Array Value,ROW=(cs.take (i*3)).toArray++Builtin.zeroCells #[.int .i64 0,.bool false,.int .i64 0] (n+1 - i)++Builtin.zeroCells #[.int .i64 0,.bool false,.int .i64 0] (G - (n+1)):=⟨_,rfl⟩
  rw[← hG]at hrz ⊢
  rw[← wx]at hrz ⊢
  have hGn:n+1≤G:=by rw[hG];exact grownCap_ge w _ _ _
  have hRl:(n+1)*3≤ROW.size:=by
    rw[wx]
    simp only[Array.size_append,List.size_toArray,List.length_take,size_zeroCells]
    show _≤_+(n+1 - i)*3+(G - (n+1))*3
    omega
  obtain⟨W1,ny⟩:∃ W1,W1=w.drew.alloc (.cells ROW 70):=⟨_,rfl⟩
  rw[← ny]at hrz
  have hN:∀ j,j<(n+1)*3→(W1.cell? ⟨w.heap.size,j,none⟩).isSome=true:=fun j hj=>by
    rw[ny,World.cell?_alloc_at (w:=w.drew) ROW _ w.heap.size j rfl,Array.getElem?_eq_getElem (by omega)];rfl
  have hNf:∀ j,W1.frozen? ⟨w.heap.size,j,none⟩=false:=fun j=>by rw[ny];exact World.frozen?_alloc_at (w:=w.drew) ROW _ w.heap.size j rfl
  have hOb:∀ j v,w.cell? ⟨b,j,none⟩=some v→W1.cell? ⟨b,j,none⟩=some v:=fun j v h=>by rw[ny,World.cell?_alloc_past (w:=w.drew) _ b j hbw];exact h
  have hOv:∀ j v,w.cell? ⟨vb,j,none⟩=some v→W1.cell? ⟨vb,j,none⟩=some v:=fun j v h=>by rw[ny,World.cell?_alloc_past (w:=w.drew) _ vb j hvw];exact h
  have hcpA:∀ (W:World),(∀ x,W.cell? x=W1.cell? x)→(∀ x,W.frozen? x=W1.frozen? x)→∀ ty dc,(Builtin.copy_ #[41,41] ty #[.slice (some ⟨w.heap.size,i*3,none⟩) (n+1 - i) dc,.slice (some ⟨vb,voff,none⟩) 1 vc]).run Tryz.prog W= .ok (goInt 1) (W.setCells w.heap.size (i*3) vs):=fun W tx hWf ty dc=>by
    have:=Vl (P:=Tryz.prog) W 41 41 ty 70 w.heap.size (i*3) (n+1 - i) dc ⟨vb,voff,none⟩ 1 vc 3 1 vs Tryz.underlying41 s70 (by simp only[Nat.min_def];split<;>omega) (by omega)
      (fun j v hj=>by rw[Addr.add_lit,tx];exact hOv _ v (eg j v hj))
      (fun j hj=>by rw[tx];exact hN _ (by omega)) (fun j hj=>by rw[hWf];exact hNf _) h1v
    exact this
  have hG63:G≤9223372036854775807:=by
    have:=grownCap_le_maxLen w (n+1) c 70 (by unfold maxLen;omega)
    rw[← hG]at this
    unfold maxLen at this
    omega
  have hGi:¬ (G=i):=by omega
  have hGim:¬ (G=i+1):=by omega
  have hci:¬ (c=i):=by omega
  have hbN:b≠w.heap.size:=by omega
  have lq:(cs.drop (i*3)).length=(n - i)*3:=by rw[List.length_drop,dx];omega
  have hcpB:∀ (W:World),(∀ x,W.cell? x=(W1.setCells w.heap.size (i*3) vs).cell? x)→(∀ x,W.frozen? x=(W1.setCells w.heap.size (i*3) vs).frozen? x)→∀ ty dc sc,(Builtin.copy_ #[41,41] ty #[.slice (some ⟨w.heap.size,(i+1)*3,none⟩) (n+1 - (i+1)) dc,.slice (some ⟨b,off+i*3,none⟩) (n - i) sc]).run Tryz.prog W= .ok (goInt (n - i:Nat)) (W.setCells w.heap.size ((i+1)*3) (cs.drop (i*3))):=fun W tx hWf ty dc sc=>
    Vl (P:=Tryz.prog) W 41 41 ty 70 w.heap.size ((i+1)*3) (n+1 - (i+1)) dc ⟨b,off+i*3,none⟩ (n - i) sc 3 (n - i) (cs.drop (i*3)) Tryz.underlying41 s70 (by simp only[Nat.min_def];split<;>omega) lq
     (fun j v hj=>by
       rw[Addr.add_lit,tx,World.cell?_setCells_out _ _ _ _ _ (fun h _=>absurd h hbN),Nat.add_assoc]
       exact hOb _ v (ia (i*3+j) v (by rwa [List.getElem?_drop]at hj)))
     (fun j hj=>by rw[tx];exact fZ _ _ _ _ (fun t ht=>hN _ (by omega)) _ (hN _ (by omega)))
     (fun j hj=>by rw[hWf,World.frozen?_setCells];exact hNf _) (fun v hv=>h1c v (List.mem_of_mem_drop hv))
  subst ny
  have hE1:∀ x,((w.alloc (.cells ROW 70)).drew).cell? x=(w.drew.alloc (.cells ROW 70)).cell? x:=fun x=>rfl
  have hE2:∀ x,((w.alloc (.cells ROW 70)).drew).frozen? x=(w.drew.alloc (.cells ROW 70)).frozen? x:=fun x=>rfl
  have hF1:∀ x,(((w.alloc (.cells ROW 70)).drew.setCells w.heap.size (i*3) vs).drew).cell? x=((w.drew.alloc (.cells ROW 70)).setCells w.heap.size (i*3) vs).cell? x:=fun x=>rfl
  have hF2:∀ x,(((w.alloc (.cells ROW 70)).drew.setCells w.heap.size (i*3) vs).drew).frozen? x=((w.drew.alloc (.cells ROW 70)).setCells w.heap.size (i*3) vs).frozen? x:=fun x=>rfl
  have cq:IntKind.i64.wrap ((i:Int)+1)=(i:Int)+1:=by rw[IntKind.wrap_i64];omega
  have rj:(0:Int)≤(i:Int)+1:=by omega
  have ig:i≤n:=by omega
  have htn:((i:Int)+1).toNat=i+1:=by omega
  have hb3:(i:Int)≤(n:Int):=by omega
  clear hkk hik hold wx hG hRl
  go_enter Tryz.func58,Tryz.ntmps58
  go_wp2_with (first
    | (at_builtin;refine Lib.wpList_append_run _ rfl _ _ _ _ rfl _ _ rfl rfl _ _ (hrz _) ?_)
    | (at_builtin;refine gX _ rfl _ _ 41 41 rfl _ _ rfl rfl (hcpA _ hE1 hE2 _ _) ?_)
    | (at_builtin;refine gX _ rfl _ _ 41 41 rfl _ _ rfl rfl (hcpB _ (fun _=>rfl) (fun _=>rfl) _ _ _) ?_))
  go_region_law_o (refine nF rfl _ _ 41 41 rfl (.slice (some ⟨w.heap.size,(i+1)*3,none⟩) (n+1 - (i+1)) (G - (i+1))) (.slice (some ⟨b,off+i*3,none⟩) (n - i) (c - i)) (by simp[Act.eval,Act.put]) (by simp[Act.eval,Act.put]) (hcpB _ hF1 hF2 3 (G - (i+1)) (c - i)) ?_)
  go_wp2
  go_ret
  exact⟨rfl,rfl⟩
set_option maxHeartbeats 4000000 in
set_option maxRecDepth 100000 in
theorem vR (b off n c i vb voff vc:Nat) (cs vs:List Value) (w:World) (hi:i<n) (dw:n+1≤c) (hc63:c≤9223372036854775807) (hvb:vb≠b)
    (dx:cs.length=n*3) (jz:vs.length=3)
    (ia:∀ j v,cs[j]? =some v→w.cell? ⟨b,off+j,none⟩=some v) (cm:∀ j,j<(n+1)*3→(w.cell? ⟨b,off+j,none⟩).isSome=true) (hfz:∀ j,j<(n+1)*3→w.frozen? ⟨b,off+j,none⟩=false)
    (eg:∀ j v,vs[j]? =some v→w.cell? ⟨vb,voff+j,none⟩=some v) (h1c:∀ v∈cs,v.oneCell'=true) (h1v:∀ v∈vs,v.oneCell'=true)
    (tA tB:TypeId) (kA kB:Nat) (hsa:w.shape? vb=some (tA,kA)) (hsb:w.shape? b=some (tB,kB)) (hkB:kB≠0) (hfa:w.frozen? ⟨vb,voff,none⟩=false) (hfe:w.frozen? ⟨vb,kA,none⟩=false) :
    Calls Tryz.prog 58 #[.slice (some ⟨b,off,none⟩) n c,.int .i64 i,.slice (some ⟨vb,voff,none⟩) 1 vc] w fun e w'=>
      e= .returned (.slice (some ⟨b,off,none⟩) (n+1) c)∧w'=(w.drew.setCells b (off+(i+1)*3) (cs.drop (i*3))).setCells b (off+i*3) vs:=by
  have t0:=Tryz.underlying0;have a0:=Tryz.isAgg0;have z0:=Tryz.sizeOf0;have v0:=Tryz.zeroValue0;have t3:=Tryz.underlying3;have a3:=Tryz.isAgg3;have z3:=Tryz.sizeOf3;have v3:=Tryz.zeroValue3;have t4:=Tryz.underlying4;have a4:=Tryz.isAgg4;have z4:=Tryz.sizeOf4;have v4:=Tryz.zeroValue4;have t41:=Tryz.underlying41;have a41:=Tryz.isAgg41;have z41:=Tryz.sizeOf41;have v41:=Tryz.zeroValue41;have z70:=Tryz.sizeOf70;have a70:=Tryz.isAgg70
  have u0:=run_underlying Tryz.underlying0;have u3:=run_underlying Tryz.underlying3;have u4:=run_underlying Tryz.underlying4;have u41:=run_underlying Tryz.underlying41
  have hz1:¬ ((1:Int)=0):=by omega
  have hz2:¬ ((i:Int)=(n:Int)):=by omega
  have hov:∀ lb cb,(callFunc 142 #[.slice (some ⟨vb,voff,none⟩) 1 vc,.slice (some ⟨b,off+(i+1)*3,none⟩) lb cb]).run Tryz.prog w= .ok (.value (.bool false)) w:=fun lb cb=>by
    rw[run_callFunc_extern Tryz.func142 (by kernel_rfl) (by kernel_rfl) (by kernel_rfl) (e:=Extern.SlicesOverlaps.overlaps #[41,41] #[4]) (by kernel_rfl),
     Lib.run_overlaps_apart w 41 4 70 Tryz.underlying41 3 Tryz.sizeOf70 ⟨vb,voff,none⟩ ⟨b,off+(i+1)*3,none⟩ 1 vc lb cb hvb tA tB kA kB hsa hsb hkB hfa hfe]
    rfl
  have lq:(cs.drop (i*3)).length=(n - i)*3:=by rw[List.length_drop,dx];omega
  have mixed:=Tryz.mixed
  have cq:IntKind.i64.wrap ((i:Int)+1)=(i:Int)+1:=by rw[IntKind.wrap_i64];omega
  have bq:IntKind.i64.wrap ((n:Int)+1)=(n:Int)+1:=by rw[IntKind.wrap_i64];omega
  have rj:(0:Int)≤(i:Int)+1:=by omega
  have ig:i≤n:=by omega
  have htn:((i:Int)+1).toNat=i+1:=by omega
  have nb:¬ (c=i+1):=by omega
  have hb3:(i:Int)≤(n:Int)+1:=by omega
  have hb4:¬ (c=i):=by omega
  have hcp1:∀ ty dc sc,(Builtin.copy_ #[41,41] ty #[.slice (some ⟨b,off+(i+1)*3,none⟩) (n - i) dc,.slice (some ⟨b,off+i*3,none⟩) (n+1 - i) sc]).run Tryz.prog w.drew= .ok (goInt (n - i:Nat)) (w.drew.setCells b (off+(i+1)*3) (cs.drop (i*3))):=fun ty dc sc=>
    Vl (P:=Tryz.prog) w.drew 41 41 ty 70 b (off+(i+1)*3) (n - i) dc ⟨b,off+i*3,none⟩ (n+1 - i) sc 3 (n - i) (cs.drop (i*3)) Tryz.underlying41 s70 (by simp only[Nat.min_def];split<;>omega) lq
     (fun j v hj=>by rw[Addr.add_lit,Nat.add_assoc];exact ia (i*3+j) v (by rwa [List.getElem?_drop]at hj))
     (fun j hj=>by rw[Nat.add_assoc];exact cm _ (by omega)) (fun j hj=>by rw[Nat.add_assoc];exact hfz _ (by omega)) (fun v hv=>h1c v (List.mem_of_mem_drop hv))
  obtain⟨W1,ny⟩:∃ W1,W1=w.drew.setCells b (off+(i+1)*3) (cs.drop (i*3)):=⟨_,rfl⟩
  have hsp1:∀ k,k<(n+1)*3→(W1.cell? ⟨b,off+k,none⟩).isSome=true:=fun k hk=>by
    rw[ny]
    exact fZ b _ _ _ (fun j hj=>by rw[Nat.add_assoc];exact cm _ (by omega)) _ (cm k hk)
  have hcp2:∀ (W:World),(∀ x,W.cell? x=W1.cell? x)→(∀ x,W.frozen? x=W1.frozen? x)→∀ ty dc,(Builtin.copy_ #[41,41] ty #[.slice (some ⟨b,off+i*3,none⟩) (n+1 - i) dc,.slice (some ⟨vb,voff,none⟩) 1 vc]).run Tryz.prog W= .ok (goInt 1) (W.setCells b (off+i*3) vs):=fun W tx hWf ty dc=>by
    have:=Vl (P:=Tryz.prog) W 41 41 ty 70 b (off+i*3) (n+1 - i) dc ⟨vb,voff,none⟩ 1 vc 3 1 vs Tryz.underlying41 s70 (by simp only[Nat.min_def];split<;>omega) (by omega)
      (fun j v hj=>by
        rw[Addr.add_lit,tx,ny,World.cell?_setCells_out b _ _ _ _ (fun h _=>absurd h hvb)]
        exact eg j v hj)
      (fun j hj=>by rw[tx,Nat.add_assoc];exact hsp1 _ (by omega)) (fun j hj=>by rw[hWf,ny,World.frozen?_setCells,Nat.add_assoc];exact hfz _ (by omega)) h1v
    exact this
  rw[← ny]at hcp1
  go_enter Tryz.func58,Tryz.ntmps58
  go_wp2_with (simp only[hov])
  go_region_law_o (refine nF rfl _ _ 41 41 rfl _ _ (by simp[Act.eval,Act.put]) (by simp[Act.eval,Act.put]) (hcp1 _ _ _) ?_)
  go_wp2_with (at_builtin;refine gX _ rfl _ _ 41 41 rfl _ _ rfl rfl (hcp2 _ (fun _=>rfl) (fun _=>rfl) _ _) ?_)
  go_ret
  first | exact⟨rfl,rfl⟩ | exact⟨rfl,by rw[ny]⟩
theorem Tryz.inserts58:Go.Ab.jF Tryz.prog 58 70 3 24:=
  ⟨fun b off n c i vb voff vc cs vs w hi hnc dw wo dx jz ia eg h1c h1v=>(x5 b off n c i vb voff vc cs vs w hi hnc dw wo dx jz ia eg h1c h1v).mono fun ed w' ⟨he,hw⟩=>
    ⟨grownCap w (n+1) c 70,_,he,grownCap_ge _ _ _ _,grownCap_le_maxLen _ _ _ _ (by unfold maxLen;omega),by
      have:=grownCap_ge w (n+1) c 70
      simp only[Array.size_append,List.size_toArray,List.length_take,size_zeroCells]
      show _+(n+1 - i)*3+(_ - (n+1))*3=_
      omega,fun j u hj=>by
      have af:=(Ak1.1 hj).1
      rw[Array.append_assoc,Array.getElem?_append_left (by simpa using af)]
      rw[List.getElem?_toArray];exact hj,hw⟩,
   vR⟩
end Go.Proofs.YtjopghiagoidgaaGreat
set_option linter.all false
namespace Go.Proofs.YtjopghiagoidgaaGreat
open Go Go.Ab Go.Shelf Go.RowKit Go.Sort
def Tryz.lkeys_ren:Go.Shelf.Ren:=⟨fun | 7=>282 | 10=>288 | n=>n,fun | 3=>4 | 23=>205 | 26=>3 | 27=>272 | 28=>273 | 33=>109 | n=>n,fun | n=>n⟩
theorem Tryz.lkeys:SlLaysZI.n7 Tryz.prog Tryz.lkeys_ren:={
  mixed:=by kernel_rfl
  f7:=⟨Tryz.f282.name,by kernel_rfl,Tryz.func282.trans (congrArg some (by kernel_rfl))⟩
  f10:=⟨Tryz.f288.name,by kernel_rfl,Tryz.func288.trans (congrArg some (by kernel_rfl))⟩
  t0:=Tryz.underlying0
  a0:=Tryz.isAgg0
  z0:=Tryz.sizeOf0
  v0:=Tryz.zeroValue0
  t4:=Tryz.underlying4
  a4:=Tryz.isAgg4
  z4:=Tryz.sizeOf4
  v4:=Tryz.zeroValue4
  t23:=Tryz.underlying205
  a23:=Tryz.isAgg205
  z23:=Tryz.sizeOf205
  v23:=Tryz.zeroValue205
  t26:=Tryz.underlying3
  a26:=Tryz.isAgg3
  z26:=Tryz.sizeOf3
  v26:=Tryz.zeroValue3
  t27:=Tryz.underlying272
  a27:=Tryz.isAgg272
  z27:=Tryz.sizeOf272
  v27:=Tryz.zeroValue272
  t28:=Tryz.underlying273
  a28:=Tryz.isAgg273
  z28:=Tryz.sizeOf273
  v28:=Tryz.zeroValue273
  t33:=Tryz.underlying109
  a33:=Tryz.isAgg109
  z33:=Tryz.sizeOf109
  v33:=Tryz.zeroValue109
}
def Tryz.lsorted_ren:Go.Shelf.Ren:=⟨fun | 6=>281 | 8=>287 | 9=>68 | 11=>289 | 12=>148 | 13=>149 | 14=>226 | 15=>227 | 16=>228 | 17=>229 | 18=>230 | 19=>231 | 20=>232 | 21=>233 | 22=>234 | 23=>235 | 24=>236 | 25=>272 | 26=>273 | 27=>274 | 28=>275 | 29=>276 | 30=>277 | 31=>284 | n=>n,fun | 24=>25 | 26=>3 | 28=>273 | 33=>109 | 37=>65 | 39=>231 | 40=>232 | 45=>237 | 48=>240 | 50=>242 | 51=>261 | 55=>265 | 57=>276 | 58=>277 | n=>n,fun | n=>n⟩
theorem Tryz.lsorted:SlLaysZI.n6 Tryz.prog Tryz.lsorted_ren:={
  mixed:=by kernel_rfl
  f6:=⟨Tryz.f281.name,by kernel_rfl,Tryz.func281.trans (congrArg some (by kernel_rfl))⟩
  f8:=⟨Tryz.f287.name,by kernel_rfl,Tryz.func287.trans (congrArg some (by kernel_rfl))⟩
  f11:=⟨Tryz.f289.name,by kernel_rfl,Tryz.func289.trans (congrArg some (by kernel_rfl))⟩
  t0:=Tryz.underlying0
  a0:=Tryz.isAgg0
  z0:=Tryz.sizeOf0
  v0:=Tryz.zeroValue0
  t24:=Tryz.underlying25
  a24:=Tryz.isAgg25
  z24:=Tryz.sizeOf25
  v24:=Tryz.zeroValue25
  t26:=Tryz.underlying3
  a26:=Tryz.isAgg3
  z26:=Tryz.sizeOf3
  v26:=Tryz.zeroValue3
  t28:=Tryz.underlying273
  a28:=Tryz.isAgg273
  z28:=Tryz.sizeOf273
  v28:=Tryz.zeroValue273
  i26:=by kernel_rfl
}
def Tryz.lsort_ren:Go.Shelf.Ren:=⟨fun | 5=>68 | 7=>148 | 8=>149 | 10=>226 | 11=>227 | 12=>228 | 13=>229 | 14=>230 | 15=>231 | 16=>232 | 17=>233 | 18=>234 | 19=>235 | 20=>236 | 30=>272 | 31=>273 | 32=>274 | 33=>275 | 34=>276 | 35=>277 | 40=>284 | n=>n,fun | 22=>25 | 23=>25 | 25=>3 | 32=>65 | 35=>231 | 36=>232 | 41=>237 | 44=>240 | 46=>242 | 53=>261 | 57=>265 | 63=>276 | 64=>277 | n=>n,fun | n=>n⟩
theorem Tryz.lsort:SlLaysM.n5 Tryz.prog Tryz.lsort_ren:={
  mixed:=by kernel_rfl
  f5:=⟨Tryz.f68.name,by kernel_rfl,Tryz.func68.trans (congrArg some (by kernel_rfl))⟩
  f7:=⟨Tryz.f148.name,by kernel_rfl,Tryz.func148.trans (congrArg some (by kernel_rfl))⟩
  f8:=Tryz.func149.trans (congrArg some (by kernel_rfl))
  f10:=⟨Tryz.f226.name,by kernel_rfl,Tryz.func226.trans (congrArg some (by kernel_rfl))⟩
  f11:=⟨Tryz.f227.name,by kernel_rfl,Tryz.func227.trans (congrArg some (by kernel_rfl))⟩
  f12:=⟨Tryz.f228.name,by kernel_rfl,Tryz.func228.trans (congrArg some (by kernel_rfl))⟩
  f13:=⟨Tryz.f229.name,by kernel_rfl,Tryz.func229.trans (congrArg some (by kernel_rfl))⟩
  f14:=⟨Tryz.f230.name,by kernel_rfl,Tryz.func230.trans (congrArg some (by kernel_rfl))⟩
  f15:=⟨Tryz.f231.name,by kernel_rfl,Tryz.func231.trans (congrArg some (by kernel_rfl))⟩
  f16:=⟨Tryz.f232.name,by kernel_rfl,Tryz.func232.trans (congrArg some (by kernel_rfl))⟩
  f17:=⟨Tryz.f233.name,by kernel_rfl,Tryz.func233.trans (congrArg some (by kernel_rfl))⟩
  f18:=⟨Tryz.f234.name,by kernel_rfl,Tryz.func234.trans (congrArg some (by kernel_rfl))⟩
  f19:=Tryz.func235.trans (congrArg some (by kernel_rfl))
  f20:=Tryz.func236.trans (congrArg some (by kernel_rfl))
  f30:=⟨Tryz.f272.name,by kernel_rfl,Tryz.func272.trans (congrArg some (by kernel_rfl))⟩
  f31:=Tryz.func273.trans (congrArg some (by kernel_rfl))
  f32:=Tryz.func274.trans (congrArg some (by kernel_rfl))
  f33:=⟨Tryz.f275.name,by kernel_rfl,Tryz.func275.trans (congrArg some (by kernel_rfl))⟩
  f34:=⟨Tryz.f276.name,by kernel_rfl,Tryz.func276.trans (congrArg some (by kernel_rfl))⟩
  f35:=⟨Tryz.f277.name,by kernel_rfl,Tryz.func277.trans (congrArg some (by kernel_rfl))⟩
  f40:=⟨Tryz.f284.name,by kernel_rfl,Tryz.func284.trans (congrArg some (by kernel_rfl))⟩
  t0:=Tryz.underlying0
  a0:=Tryz.isAgg0
  z0:=Tryz.sizeOf0
  v0:=Tryz.zeroValue0
  t3:=Tryz.underlying3
  a3:=Tryz.isAgg3
  z3:=Tryz.sizeOf3
  v3:=Tryz.zeroValue3
  t4:=Tryz.underlying4
  a4:=Tryz.isAgg4
  z4:=Tryz.sizeOf4
  v4:=Tryz.zeroValue4
  t5:=Tryz.underlying5
  a5:=Tryz.isAgg5
  z5:=Tryz.sizeOf5
  v5:=Tryz.zeroValue5
  t9:=Tryz.underlying9
  a9:=Tryz.isAgg9
  z9:=Tryz.sizeOf9
  v9:=Tryz.zeroValue9
  t22:=Tryz.underlying25
  a22:=Tryz.isAgg25
  z22:=Tryz.sizeOf25
  v22:=Tryz.zeroValue25
  t23:=Tryz.underlying25
  a23:=Tryz.isAgg25
  z23:=Tryz.sizeOf25
  v23:=Tryz.zeroValue25
  t25:=Tryz.underlying3
  a25:=Tryz.isAgg3
  z25:=Tryz.sizeOf3
  v25:=Tryz.zeroValue3
  t32:=Tryz.underlying65
  a32:=Tryz.isAgg65
  z32:=Tryz.sizeOf65
  v32:=Tryz.zeroValue65
  t35:=Tryz.underlying231
  a35:=Tryz.isAgg231
  z35:=Tryz.sizeOf231
  v35:=Tryz.zeroValue231
  t36:=Tryz.underlying232
  a36:=Tryz.isAgg232
  z36:=Tryz.sizeOf232
  v36:=Tryz.zeroValue232
  t41:=Tryz.underlying237
  a41:=Tryz.isAgg237
  z41:=Tryz.sizeOf237
  v41:=Tryz.zeroValue237
  t44:=Tryz.underlying240
  a44:=Tryz.isAgg240
  z44:=Tryz.sizeOf240
  v44:=Tryz.zeroValue240
  t46:=Tryz.underlying242
  a46:=Tryz.isAgg242
  z46:=Tryz.sizeOf242
  v46:=Tryz.zeroValue242
  t53:=Tryz.underlying261
  a53:=Tryz.isAgg261
  z53:=Tryz.sizeOf261
  v53:=Tryz.zeroValue261
  t57:=Tryz.underlying265
  a57:=Tryz.isAgg265
  z57:=Tryz.sizeOf265
  v57:=Tryz.zeroValue265
  t63:=Tryz.underlying276
  a63:=Tryz.isAgg276
  z63:=Tryz.sizeOf276
  v63:=Tryz.zeroValue276
  t64:=Tryz.underlying277
  a64:=Tryz.isAgg277
  z64:=Tryz.sizeOf277
  v64:=Tryz.zeroValue277
}
def Tryz.lcompact_ren:Go.Shelf.Ren:=⟨fun | 20=>69 | n=>n,fun | 22=>25 | n=>n,fun | n=>n⟩
theorem Tryz.lcompact:Lays2.n20 Tryz.prog Tryz.lcompact_ren:={
  mixed:=by kernel_rfl
  f20:=Tryz.func69.trans (congrArg some (by kernel_rfl))
  t0:=Tryz.underlying0
  a0:=Tryz.isAgg0
  z0:=Tryz.sizeOf0
  v0:=Tryz.zeroValue0
  t3:=Tryz.underlying3
  a3:=Tryz.isAgg3
  z3:=Tryz.sizeOf3
  v3:=Tryz.zeroValue3
  t4:=Tryz.underlying4
  a4:=Tryz.isAgg4
  z4:=Tryz.sizeOf4
  v4:=Tryz.zeroValue4
  t22:=Tryz.underlying25
  a22:=Tryz.isAgg25
  z22:=Tryz.sizeOf25
  v22:=Tryz.zeroValue25
  i3:=by kernel_rfl
}
theorem Tryz.sorts68:zN Tryz.prog 68:=⟨fun blk off cap ss W hH qo bu=>AnyM.slices_Sort_int Tryz.lsort blk off cap ss W hH qo bu,fun p cap W=>AnyM.slices_Sort_int_none Tryz.lsort p cap W⟩
theorem Tryz.lsortsIn (m:Nat):AnyZI.SortsIn Tryz.prog Tryz.lsorted_ren Fence.wide m:=
  ⟨fun blk off cap ss W hH qo bu=>callsIn_wide.2 (AnyM.slices_Sort_int Tryz.lsort blk off cap ss W hH qo bu),
   fun p cap W=>callsIn_wide.2 (AnyM.slices_Sort_int_none Tryz.lsort p cap W)⟩
theorem Tryz.keys282:Abe Tryz.prog 282 288 205:=⟨fun mb W=>(callsIn_wide (n:=5)).1 (AnyZI.keys_in Tryz.lkeys Fence.wide 5 trivial rfl mb W)⟩
theorem Tryz.sortedKeys281:X2 Tryz.prog 281 288 3:=⟨Tryz.underlying3,fun b Bm nn D0 R W aq hBm hown hmax wm=>by
  refine(callsIn_wide (n:=5)).1 ?_
  have hseq:SeqGives Fence.wide 2 Tryz.prog 288 #[.pointer (some ⟨Bm,0,none⟩)] encZ (fun ss=>ss.Perm (intKeys D0)) (Maps.size D0) W:=
    AnyZI.keys_gives (ρ:=Tryz.lkeys_ren) {Tryz.lkeys with} Fence.wide _ trivial rfl (by omega) Bm b nn D0 W hBm aq hown
  have cS:=AnyZI.sorted_in Tryz.lsorted Fence.wide 5 trivial trivial trivial trivial rfl (by omega) (Tryz.lsortsIn _) (enters_of Tryz.func68 (by kernel_rfl) rfl) 288 #[.pointer (some ⟨Bm,0,none⟩)] trivial (enters_of Tryz.func288 (by kernel_rfl) rfl) _ _ hmax wm _ hseq
  change CallsIn _ _ Tryz.prog 281 _ _ _ at cS
  exact cS.mono fun e w' ⟨v,ss,h1,h2,h3,_,h5⟩=>⟨v,ss,h1,h2,h3,h5⟩⟩
theorem Tryz.compacts69:lV Tryz.prog 69:=⟨fun blk off cap zs w h1 h2 h3=>Any.slices_Compact_int Tryz.lcompact blk off cap zs w h1 h2 h3,fun a cap w=>Any.slices_Compact_int_empty Tryz.lcompact a cap w⟩
end Go.Proofs.YtjopghiagoidgaaGreat
namespace Go.Proofs.YtjopghiagoidgaaGreat
open Go Go.Ab
structure Cr where
  ID:Int
  Alt:Int
  deriving DecidableEq,Inhabited
def A5 (x:Cr):List Ac:=[.int .i64 x.ID,.int .i64 x.Alt]
theorem bD (l:List Cr):((l.map A5).all fun x=>x.all Ac.f0)=true:=by simp[A5,Ac.f0]
attribute [go_sem] bD
def dU (x:Cr):Prop:=I64 x.ID∧I64 x.Alt
attribute [go_sem] A5
structure Co where
  ID:Int
  Operator:Int
  From:Int
  To:Int
  Length:Int
  Speed:Int
  Seats:Int
  Spacing:Int
  deriving DecidableEq,Inhabited
def A6 (x:Co):List Ac:=[.int .i64 x.ID,.int .i64 x.Operator,.int .i64 x.From,.int .i64 x.To,.int .i64 x.Length,.int .i64 x.Speed,.int .i64 x.Seats,.int .i64 x.Spacing]
theorem bE (l:List Co):((l.map A6).all fun x=>x.all Ac.f0)=true:=by simp[A6,Ac.f0]
attribute [go_sem] bE
def dV (x:Co):Prop:=I64 x.ID∧I64 x.Operator∧I64 x.From∧I64 x.To∧I64 x.Length∧I64 x.Speed∧I64 x.Seats∧I64 x.Spacing
attribute [go_sem] A6
structure Cq where
  ID:Int
  Operator:Int
  From:Int
  To:Int
  Grade:Int
  Zone:Int
  Length:Int
  deriving DecidableEq,Inhabited
def Ba (x:Cq):List Ac:=[.int .i64 x.ID,.int .i64 x.Operator,.int .i64 x.From,.int .i64 x.To,.int .i64 x.Grade,.int .i64 x.Zone,.int .i64 x.Length]
theorem dO (l:List Cq):((l.map Ba).all fun x=>x.all Ac.f0)=true:=by simp[Ba,Ac.f0]
attribute [go_sem] dO
def jE (x:Cq):Prop:=I64 x.ID∧I64 x.Operator∧I64 x.From∧I64 x.To∧I64 x.Grade∧I64 x.Zone∧I64 x.Length
attribute [go_sem] Ba
structure Bd where
  Nodes:List Cr
  Lifts:List Co
  Runs:List Cq
  Bases:List Int
  deriving DecidableEq,Inhabited
def Ct (x:Bd):List Ac:=[.sl 2 (x.Nodes.map A5),.sl 8 (x.Lifts.map A6),.sl 7 (x.Runs.map Ba),.sl 1 (x.Bases.map Bb)]
def qT (x:Bd):Prop:=OkL dU x.Nodes∧OkL dV x.Lifts∧OkL jE x.Runs∧OkL I64 x.Bases
attribute [go_sem] Ct
structure Cs where
  Lift:Int
  Mode:Int
  deriving DecidableEq,Inhabited
def Av (x:Cs):List Ac:=[.int .i64 x.Lift,.int .i64 x.Mode]
theorem We (l:List Cs):((l.map Av).all fun x=>x.all Ac.f0)=true:=by simp[Av,Ac.f0]
attribute [go_sem] We
def T1 (x:Cs):Prop:=I64 x.Lift∧I64 x.Mode
attribute [go_sem] Av
structure Bn where
  Kind:Int
  Target:Int
  By:Int
  Since:Int
  deriving DecidableEq,Inhabited
def Au (x:Bn):List Ac:=[.int .i64 x.Kind,.int .i64 x.Target,.int .i64 x.By,.int .i64 x.Since]
theorem Xv (l:List Bn):((l.map Au).all fun x=>x.all Ac.f0)=true:=by simp[Au,Ac.f0]
attribute [go_sem] Xv
def Vw (x:Bn):Prop:=I64 x.Kind∧I64 x.Target∧I64 x.By∧I64 x.Since
attribute [go_sem] Au
structure F2 where
  Item:Int
  By:Int
  At:Int
  deriving DecidableEq,Inhabited
def Cl (x:F2):List Ac:=[.int .i64 x.Item,.int .i64 x.By,.int .i64 x.At]
theorem bC (l:List F2):((l.map Cl).all fun x=>x.all Ac.f0)=true:=by simp[Cl,Ac.f0]
attribute [go_sem] bC
def dS (x:F2):Prop:=I64 x.Item∧I64 x.By∧I64 x.At
attribute [go_sem] Cl
structure Bq where
  Items:List Int
  Every:Int
  Signs:List F2
  deriving DecidableEq,Inhabited
def Fu (x:Bq):List Ac:=[.sl 1 (x.Items.map Bb),.int .i64 x.Every,.sl 3 (x.Signs.map Cl)]
def X5 (x:Bq):Prop:=OkL I64 x.Items∧I64 x.Every∧OkL dS x.Signs
attribute [go_sem] Fu
structure Ch where
  Run:Int
  List_:Bq
  deriving DecidableEq,Inhabited
def Aq (x:Ch):List Ac:=[.int .i64 x.Run,.sl 1 (x.List_.Items.map Bb),.int .i64 x.List_.Every,.sl 3 (x.List_.Signs.map Cl)]
theorem aT (l:List Ch) (a0:Int) (a1:List Int) (a2:Int) (a3:List F2):l.map Aq++[[.int .i64 a0,.sl 1 (a1.map Bb),.int .i64 a2,.sl 3 (a3.map Cl)]]=(l++[(Ch.mk a0 (Bq.mk a1 a2 a3))]).map Aq:=by simp[Aq]
def Vt (x:Ch):Prop:=I64 x.Run∧X5 x.List_
attribute [go_sem] Aq aT
structure C4 where
  ID:Int
  Run:Int
  At:Int
  deriving DecidableEq,Inhabited
def Ay (x:C4):List Ac:=[.int .i64 x.ID,.int .i64 x.Run,.int .i64 x.At]
theorem Yy (l:List C4):((l.map Ay).all fun x=>x.all Ac.f0)=true:=by simp[Ay,Ac.f0]
attribute [go_sem] Yy
def X4 (x:C4):Prop:=I64 x.ID∧I64 x.Run∧I64 x.At
attribute [go_sem] Ay
structure B9 where
  Bl:List Ch
  Hazards:List C4
  deriving DecidableEq,Inhabited
def I9 (x:B9):List Ac:=[.sl 4 (x.Bl.map Aq),.sl 3 (x.Hazards.map Ay)]
def eT (x:B9):Prop:=OkL Vt x.Bl∧OkL X4 x.Hazards
attribute [go_sem] I9
structure C5 where
  Run:Int
  Groomed:Int
  Traffic:Int
  deriving DecidableEq,Inhabited
def A1 (x:C5):List Ac:=[.int .i64 x.Run,.int .i64 x.Groomed,.int .i64 x.Traffic]
theorem Xr (l:List C5):((l.map A1).all fun x=>x.all Ac.f0)=true:=by simp[A1,Ac.f0]
attribute [go_sem] Xr
def Vr (x:C5):Prop:=I64 x.Run∧I64 x.Groomed∧I64 x.Traffic
attribute [go_sem] A1
structure F3 where
  Natural:Int
  Machine:Int
  Density:Int
  deriving DecidableEq,Inhabited
def Pe (x:F3):List Ac:=[.int .i64 x.Natural,.int .i64 x.Machine,.int .i64 x.Density]
def lR (x:F3):Prop:=I64 x.Natural∧I64 x.Machine∧I64 x.Density
attribute [go_sem] Pe
structure C7 where
  Run:Int
  Area:Int
  Pack:F3
  deriving DecidableEq,Inhabited
def Az (x:C7):List Ac:=[.int .i64 x.Run,.int .i64 x.Area,.int .i64 x.Pack.Natural,.int .i64 x.Pack.Machine,.int .i64 x.Pack.Density]
theorem Xs (l:List C7):((l.map Az).all fun x=>x.all Ac.f0)=true:=by simp[Az,Ac.f0]
attribute [go_sem] Xs
def Vs (x:C7):Prop:=I64 x.Run∧I64 x.Area∧lR x.Pack
attribute [go_sem] Az
structure Be where
  ID:Int
  Zones:List Int
  Lifts:List Int
  Limit:Int
  Load:Int
  Controlled:Int
  deriving DecidableEq,Inhabited
def A3 (x:Be):List Ac:=[.int .i64 x.ID,.sl 1 (x.Zones.map Bb),.sl 1 (x.Lifts.map Bb),.int .i64 x.Limit,.int .i64 x.Load,.int .i64 x.Controlled]
theorem fF (l:List Be) (a0:Int) (a1:List Int) (a2:List Int) (a3:Int) (a4:Int) (a5:Int):l.map A3++[[.int .i64 a0,.sl 1 (a1.map Bb),.sl 1 (a2.map Bb),.int .i64 a3,.int .i64 a4,.int .i64 a5]]=(l++[(Be.mk a0 a1 a2 a3 a4 a5)]).map A3:=by simp[A3]
def Z5 (x:Be):Prop:=I64 x.ID∧OkL I64 x.Zones∧OkL I64 x.Lifts∧I64 x.Limit∧I64 x.Load∧I64 x.Controlled
attribute [go_sem] A3 fF
structure Hc where
  From:Int
  To:Int
  deriving DecidableEq,Inhabited
def Sc (x:Hc):List Ac:=[.int .i64 x.From,.int .i64 x.To]
def T3 (x:Hc):Prop:=I64 x.From∧I64 x.To
attribute [go_sem] Sc
structure Bi where
  Version:Int
  Span:Hc
  Low:Int
  High:Int
  Zones:List Int
  Level:Int
  deriving DecidableEq,Inhabited
def Ar (x:Bi):List Ac:=[.int .i64 x.Version,.int .i64 x.Span.From,.int .i64 x.Span.To,.int .i64 x.Low,.int .i64 x.High,.sl 1 (x.Zones.map Bb),.int .i64 x.Level]
theorem Zu (l:List Bi) (a0:Int) (a1:Int) (a2:Int) (a3:Int) (a4:Int) (a5:List Int) (a6:Int):l.map Ar++[[.int .i64 a0,.int .i64 a1,.int .i64 a2,.int .i64 a3,.int .i64 a4,.sl 1 (a5.map Bb),.int .i64 a6]]=(l++[(Bi.mk a0 (Hc.mk a1 a2) a3 a4 a5 a6)]).map Ar:=by simp[Ar]
def T4 (x:Bi):Prop:=I64 x.Version∧T3 x.Span∧I64 x.Low∧I64 x.High∧OkL I64 x.Zones∧I64 x.Level
attribute [go_sem] Ar Zu
structure Bh where
  ID:Int
  Slide:Int
  By:Int
  State:Int
  Since:Int
  Window:Hc
  deriving DecidableEq,Inhabited
def Ap (x:Bh):List Ac:=[.int .i64 x.ID,.int .i64 x.Slide,.int .i64 x.By,.int .i64 x.State,.int .i64 x.Since,.int .i64 x.Window.From,.int .i64 x.Window.To]
theorem Xt (l:List Bh):((l.map Ap).all fun x=>x.all Ac.f0)=true:=by simp[Ap,Ac.f0]
attribute [go_sem] Xt
def Vu (x:Bh):Prop:=I64 x.ID∧I64 x.Slide∧I64 x.By∧I64 x.State∧I64 x.Since∧T3 x.Window
attribute [go_sem] Ap
structure A8 where
  Groomer:Int
  From:Int
  To:Int
  Runs:List Int
  deriving DecidableEq,Inhabited
def Ak (x:A8):List Ac:=[.int .i64 x.Groomer,.int .i64 x.From,.int .i64 x.To,.sl 1 (x.Runs.map Bb)]
theorem Yt (l:List A8) (a0:Int) (a1:Int) (a2:Int) (a3:List Int):l.map Ak++[[.int .i64 a0,.int .i64 a1,.int .i64 a2,.sl 1 (a3.map Bb)]]=(l++[(A8.mk a0 a1 a2 a3)]).map Ak:=by simp[Ak]
def Si (x:A8):Prop:=I64 x.Groomer∧I64 x.From∧I64 x.To∧OkL I64 x.Runs
attribute [go_sem] Ak Yt
structure Cb where
  ID:Int
  Node:Int
  Fuel:Int
  State:Int
  To:Int
  Run:Int
  Until:Int
  Winch:Bool
  deriving DecidableEq,Inhabited
def Ax (x:Cb):List Ac:=[.int .i64 x.ID,.int .i64 x.Node,.int .i64 x.Fuel,.int .i64 x.State,.int .i64 x.To,.int .i64 x.Run,.int .i64 x.Until,.bool x.Winch]
theorem Xu (l:List Cb):((l.map Ax).all fun x=>x.all Ac.f0)=true:=by simp[Ax,Ac.f0]
attribute [go_sem] Xu
def Vv (x:Cb):Prop:=I64 x.ID∧I64 x.Node∧I64 x.Fuel∧I64 x.State∧I64 x.To∧I64 x.Run∧I64 x.Until∧True
attribute [go_sem] Ax
structure A4 where
  Run:Int
  Open:Bool
  Since:Int
  deriving DecidableEq,Inhabited
def Aw (x:A4):List Ac:=[.int .i64 x.Run,.bool x.Open,.int .i64 x.Since]
theorem dH (l:List A4) (a0:Int) (a1:Bool) (a2:Int):l.map Aw++[[.int .i64 a0,.bool a1,.int .i64 a2]]=(l++[(A4.mk a0 a1 a2)]).map Aw:=by simp[Aw]
theorem dG (l:List A4) (i:Nat) (a0:Int) (a1:Bool) (a2:Int):(l.map Aw).set i [.int .i64 a0,.bool a1,.int .i64 a2]=(l.set i (A4.mk a0 a1 a2)).map Aw:=by simp[Aw]
def X3 (x:A4):Prop:=I64 x.Run∧True∧I64 x.Since
attribute [go_sem] Aw dH dG
structure Af where
  Map:Bd
  Lifts:List Cs
  Closures:List Bn
  Patrol:B9
  Surfaces:List C5
  Packs:List C7
  Slides:List Be
  Bulletin:List Bi
  Missions:List Bh
  Winches:List A8
  Groomers:List Cb
  Status:List A4
  Depth:Int
  Time:Int
  deriving DecidableEq,Inhabited
def Ce (x:Af):List Ac:=[.sl 2 (x.Map.Nodes.map A5),.sl 8 (x.Map.Lifts.map A6),.sl 7 (x.Map.Runs.map Ba),.sl 1 (x.Map.Bases.map Bb),.sl 2 (x.Lifts.map Av),.sl 4 (x.Closures.map Au),.sl 4 (x.Patrol.Bl.map Aq),.sl 3 (x.Patrol.Hazards.map Ay),.sl 3 (x.Surfaces.map A1),.sl 5 (x.Packs.map Az),.sl 6 (x.Slides.map A3),.sl 7 (x.Bulletin.map Ar),.sl 7 (x.Missions.map Ap),.sl 4 (x.Winches.map Ak),.sl 8 (x.Groomers.map Ax),.sl 3 (x.Status.map Aw),.int .i64 x.Depth,.int .i64 x.Time]
def Sj (x:Af):Prop:=qT x.Map∧OkL T1 x.Lifts∧OkL Vw x.Closures∧eT x.Patrol∧OkL Vr x.Surfaces∧OkL Vs x.Packs∧OkL Z5 x.Slides∧OkL T4 x.Bulletin∧OkL Vu x.Missions∧OkL Si x.Winches∧OkL Vv x.Groomers∧OkL X3 x.Status∧I64 x.Depth∧I64 x.Time
attribute [go_sem] Ce
structure A7 where
  ID:Int
  From:Int
  To:Int
  Cost:Int
  deriving DecidableEq,Inhabited
def Cg (x:A7):List Ac:=[.int .i64 x.ID,.int .i64 x.From,.int .i64 x.To,.int .i64 x.Cost]
theorem iU (l:List A7) (a0:Int) (a1:Int) (a2:Int) (a3:Int):l.map Cg++[[.int .i64 a0,.int .i64 a1,.int .i64 a2,.int .i64 a3]]=(l++[(A7.mk a0 a1 a2 a3)]).map Cg:=by simp[Cg]
theorem iT (l:List A7) (i:Nat) (a0:Int) (a1:Int) (a2:Int) (a3:Int):(l.map Cg).set i [.int .i64 a0,.int .i64 a1,.int .i64 a2,.int .i64 a3]=(l.set i (A7.mk a0 a1 a2 a3)).map Cg:=by simp[Cg]
theorem bF (l:List A7):((l.map Cg).all fun x=>x.all Ac.f0)=true:=by simp[Cg,Ac.f0]
attribute [go_sem] bF
attribute [go_sem] Cg iU iT
structure Ni where
  kind:Int
  target:Int
  by_:Int
  deriving DecidableEq,Inhabited
def Tx (x:Ni):List Ac:=[.int .i64 x.kind,.int .i64 x.target,.int .i64 x.by_]
attribute [go_sem] Tx
attribute [go_sem] Nat.reduceAdd Nat.reduceMul Nat.reduceSub Int.reduceToNat
def Kr (x:List A7):List Ac:=[.sl 4 (x.map Cg)]
attribute [go_sem] Kr
end Go.Proofs.YtjopghiagoidgaaGreat
namespace Go.Proofs.YtjopghiagoidgaaGreat
open Go Go.Ab
attribute [local irreducible] AWP Al Cf Ad Go.Ab.Sub alist dlist Bo Dm Ex Hn
set_option maxRecDepth 100000
set_option maxHeartbeats 4000000
set_option linter.unusedSimpArgs false
set_option linter.unusedVariables false
noncomputable section
def Tr:Option (Af):=
 some (Af.mk (Bd.mk [(Cr.mk 1 1000),(Cr.mk 2 2000),(Cr.mk 3 1500)] [(Co.mk 1 1 1 2 1000 5000 4 50)] [(Cq.mk 1 1 2 3 2 1 800),(Cq.mk 2 1 3 1 2 1 800)] [(1:Int)]) [(Cs.mk 1 1)] [] (B9.mk [(Ch.mk 1 (Bq.mk [] 60 [])),(Ch.mk 2 (Bq.mk [] 60 []))] []) [] [(C7.mk 1 100 (F3.mk 0 450 450)),(C7.mk 2 100 (F3.mk 0 450 450))] [] [] [] [] [] [] 300 0)
theorem Zq {r:Af} (h:Tr=some r):Ad Tryz.prog 36 [] (·= .agg (Ce r)):=by
 refine Ad.nle (Ad.intro Tryz.func36 rfl rfl (by show _≤28;simp) ?_)
 unfold Tr at h
 refine nS (sq ?_)
 refine ar rfl (qn (sq ?_))
 refine ar rfl (qn (sq ?_))
 refine ar rfl (qn ?_)
 refine AWP.sub (Sub.denil 7 ([(Ch.mk (1:Int) (Bq.mk [] (60:Int) [])),(Ch.mk (2:Int) (Bq.mk [] (60:Int) []))].map Aq) rfl (by simp +decide -implicitDefEqProofs only[go_sem,Eg,Ac.int.injEq,Int.natCast_zero,List.replicate_zero,List.length_take,List.length_drop,Ac.own.injEq,reduceCtorEq,Int.reduceAdd,Sl,Sm,Pd,Sk,Pc,xN,Pc,Pd])) ?_
 refine nS (rt ?_)
 cases h;exact en Tryz.results36
def Rl (id_:Int) (k0:Nat) (ab:Cq) (sv:Unit):Option (Out (Unit) (Cq×Bool)):=
 (bif (decide (ab.ID=id_))then some (Out.ret (ab,true))else some (Out.next ()))
def Fb (m:Bd) (id_:Int):Option (Cq×Bool):=
 (An (Rl id_) 0 m.Runs ()).bind fun o0=>o0.on fun s0=>some ((Cq.mk 0 0 0 0 0 0 0),false)
theorem Ei (m:Bd) (id_:Int) {r:Cq×Bool} (h:Fb m id_=some r):Ad Tryz.prog 53 [.agg (Ct m),.int .i64 id_] (·= .tuple [.agg (Ba r.1),.bool r.2]):=by
 refine Ad.nle (Ad.intro Tryz.func53 rfl rfl (by show _≤22;simp) ?_)
 unfold Fb at h
 refine nS (sq ?_)
 refine ar rfl (qn (sq (sq ?_)))
 refine rg rfl fun K j=>?_
 intro hm
 refine j _ _ (qn (bk ?_))
 obtain⟨o0,aa,ae⟩:=Ah h
 clear h
 refine AWP.Bw (ι:=Nat×(Unit)×(Unit)) (fun zz=>[(1,.int .i64 id_),(4,.ptr 1 0),(9,.sl 7 (m.Runs.map Ba)),(10,.int .i64 ((m.Runs.length:Nat):Int)),(11,.int .i64 ((zz.1:Nat):Int))]) (fun zz=>[.gone,.box [.int .i64 0,.int .i64 0,.int .i64 0,.int .i64 0,.int .i64 0,.int .i64 0,.int .i64 0]]) (fun zz=>zz.1≤m.Runs.length∧An (Rl id_) zz.1 ((m.Runs).drop zz.1) zz.2.1=some o0) (fun zz=>m.Runs.length - zz.1) (0,(),()) ⟨Nat.zero_le _,aa⟩ cu cu (fun x=>⟨rfl,rfl,rfl⟩) ?_
 clear aa
 rintro⟨k0,⟨⟩,⟨⟩⟩ ⟨bg,aa⟩
 dsimp only at bg aa ⊢
 refine sq (ar rfl (qn (sq ?_)))
 refine AWP.cond (Am (fun hc=>?_) (fun hc=>?_))
 rotate_left
 ·obtain rfl:=Bg aa (fun hl=>by have:=Ako hc;omega)
  have h:=Bf ae;try dsimp only at h
  have ag:m.Runs.length=k0:=by have:=Ako hc;omega
  subst ag
  refine xt (qe (qe (bs (qn (sq (ar rfl (qn (rt ?_))))))))
  cases h;exact en Tryz.results53
 have ah:k0<m.Runs.length:=by have:=Akp hc;omega
 obtain⟨ab,b0,aj,h,aa⟩:=Bc aa ah
 have aw:=A9 aj
 have ak:=wk (k:=k0) (by omega)
 unfold Rl at h;try dsimp only at h
 refine sk (qn (sq (bk (sq (rg rfl fun K j=>?_)))))
 refine Bo.of (f:=Ba) (l:=m.Runs) aw ?_
 refine nS ?_
 refine j _ _ (qn (sq ?_))
 refine ar rfl (qn ?_)
 revert h;refine ca rfl (fun hc h=>?_) fun hc h=>?_
 ·refine sq (ar rfl (qn (rt (br (qr (qr ?_))))))
  obtain rfl:=Aa h
  obtain rfl:=Ae aa
  replace h:=Ao ae
  refine br (qr ?_)
  cases h;exact en Tryz.results53
 refine sk (bn (qn (ar rfl (qn ?_))))
 obtain rfl:=Aa h
 refine⟨(k0+1,(),()),⟨by dsimp only;omega,Aj aa⟩,by dsimp only;omega,?_,?_⟩
 ·exact cuw ak
 exact cuw ak
def Ga (k2:Nat) (au:A4) (sv:(List Int)):Option (Out ((List Int)) ((List Int))):=
 (bif au.Open then chk (sv.length+1) (some (Out.next (sv++[au.Run])))else some (Out.next sv))
def De (f_:Af):Option ((List Int)):=
 (An Ga 0 f_.Status []).bind fun o2=>o2.on fun s2=>some s2
theorem Qx (f_:Af) {r:(List Int)} (h:De f_=some r):Bu Tryz.prog 20 [.agg (Ce f_)] (·= .sl 1 (r.map Bb)):=by
 refine Bu.nle (Bu.intro Tryz.func20 rfl rfl (by show _≤22;simp) ?_)
 unfold De at h
 refine nS (sq ?_)
 refine ar rfl (qn (sq ?_))
 refine ar rfl (qn (sq (sq ?_)))
 refine rg rfl fun K j=>?_
 intro hm
 refine j _ _ (qn (bk ?_))
 refine AWP.ghost 3 1 rfl (by decide) ?_
 obtain⟨o2,ao,ek⟩:=Ah h
 clear h
 refine AWP.Bw (ι:=Nat×((List Int))×(Nat)) (fun zz=>[(3,.own 1 zz.2.2 0 zz.2.1.length),(7,.sl 3 (f_.Status.map Aw)),(8,.int .i64 ((f_.Status.length:Nat):Int)),(9,.int .i64 ((zz.1:Nat):Int))]) (fun zz=>[.gone,.row zz.2.2 1 (zz.2.1.map Bb)]) (fun zz=>zz.1≤f_.Status.length∧An Ga zz.1 ((f_.Status).drop zz.1) zz.2.1=some o2) (fun zz=>f_.Status.length - zz.1) (0,[],0) ⟨Nat.zero_le _,ao⟩ cu cu (fun x=>⟨rfl,rfl,rfl⟩) ?_
 clear ao
 rintro⟨k2,bo,cg⟩ ⟨dp,ao⟩
 dsimp only at dp ao ⊢
 refine sq (ar rfl (qn (sq ?_)))
 refine AWP.cond (Am (fun hc=>?_) (fun hc=>?_))
 rotate_left
 ·obtain rfl:=Bg ao (fun hl=>by have:=Ako hc;omega)
  have h:=Bf ek;try dsimp only at h
  have ag:f_.Status.length=k2:=by have:=Ako hc;omega
  subst ag
  refine xt (qe (qe (bs (qn (sq (ar rfl (qn (rt ?_))))))))
  cases h;exact en Tryz.results20
 have ck:k2<f_.Status.length:=by have:=Akp hc;omega
 obtain⟨au,b2,dh,h,ao⟩:=Bc ao ck
 have ie:=A9 dh
 have bq:=wk (k:=k2) (by omega)
 unfold Ga at h;try dsimp only at h
 refine sk (qn (sq (bk (sq (rg rfl fun K j=>?_)))))
 refine Bo.of (f:=Aw) (l:=f_.Status) ie ?_
 refine nS ?_
 refine j _ _ (qn (sq ?_))
 refine ar rfl (qn ?_)
 revert h;refine ca rfl (fun hc h=>?_) fun hc h=>?_
 ·refine rg rfl fun K j=>?_
  obtain⟨hk,h⟩:=Bx h
  (repeat refine rp ?_);try simp +decide -implicitDefEqProofs only[go_sem]
  refine j _ _ (bn (qn ?_))
  refine ar rfl (qn ?_)
  obtain rfl:=Aa h
  refine⟨(k2+1,(bo++[au.Run]),(cg+1)),⟨by dsimp only;omega,Aj ao⟩,by dsimp only;omega,?_,?_⟩
  ·exact cuw bq
  exact cuw bq
 refine sk (bn (qn (ar rfl (qn ?_))))
 obtain rfl:=Aa h
 refine⟨(k2+1,bo,cg),⟨by dsimp only;omega,Aj ao⟩,by dsimp only;omega,?_,?_⟩
 ·exact cuw bq
 exact cuw bq
theorem E7 (f_:Af) {r:(List Int)} (h:De f_=some r):Ad Tryz.prog 20 [.agg (Ce f_)] (·= .sl 1 (r.map Bb)):=(Qx f_ h).pure
theorem aK (f_:Af) {r:(List Int)} (h:De f_=some r):Dj Tryz.prog 20 [.agg (Ce f_)] 1 (r.map Bb):=by
 refine Dj.of ?_
 refine Cv.weak (R:=fun q H=>∃ v0 rest,q= .own 0 v0 0 (r.map Bb).length∧H= .row v0 1 (r.map Bb)::rest) (Cv.intro Tryz.func20 rfl rfl (by show _≤22;simp) ?_) (fun q H hq=>?_)
 ·unfold De at h
  refine nS (sq ?_)
  refine ar rfl (qn (sq ?_))
  refine ar rfl (qn (sq (sq ?_)))
  refine rg rfl fun K j=>?_
  intro hm
  refine j _ _ (qn (bk ?_))
  refine AWP.ghost 3 1 rfl (by decide) ?_
  obtain⟨o2,ao,ek⟩:=Ah h
  clear h
  refine AWP.Bw (ι:=Nat×((List Int))×(Nat)) (fun zz=>[(3,.own 1 zz.2.2 0 zz.2.1.length),(7,.sl 3 (f_.Status.map Aw)),(8,.int .i64 ((f_.Status.length:Nat):Int)),(9,.int .i64 ((zz.1:Nat):Int))]) (fun zz=>[.gone,.row zz.2.2 1 (zz.2.1.map Bb)]) (fun zz=>zz.1≤f_.Status.length∧An Ga zz.1 ((f_.Status).drop zz.1) zz.2.1=some o2) (fun zz=>f_.Status.length - zz.1) (0,[],0) ⟨Nat.zero_le _,ao⟩ cu cu (fun x=>⟨rfl,rfl,rfl⟩) ?_
  clear ao
  rintro⟨k2,bo,cg⟩ ⟨dp,ao⟩
  dsimp only at dp ao ⊢
  refine sq (ar rfl (qn (sq ?_)))
  refine AWP.cond (Am (fun hc=>?_) (fun hc=>?_))
  rotate_left
  ·obtain rfl:=Bg ao (fun hl=>by have:=Ako hc;omega)
   have h:=Bf ek;try dsimp only at h
   have ag:f_.Status.length=k2:=by have:=Ako hc;omega
   subst ag
   refine xt (qe (qe (bs (qn (sq (ar rfl (qn ?_)))))))
   refine AWP.sub (Sub.swap 1 0 rfl rfl rfl) ?_
   refine nS (rt ?_)
   obtain rfl:=Aa h
   refine nSc Tryz.results20 ?_
   refine⟨_,_,?_,rfl⟩
   (try simp +decide -implicitDefEqProofs only[go_sem,Aky,Akw,List.length_cons,List.length_nil,List.length_set,Akx]);try rfl
  have ck:k2<f_.Status.length:=by have:=Akp hc;omega
  obtain⟨au,b2,dh,h,ao⟩:=Bc ao ck
  have ie:=A9 dh
  have bq:=wk (k:=k2) (by omega)
  unfold Ga at h;try dsimp only at h
  refine sk (qn (sq (bk (sq (rg rfl fun K j=>?_)))))
  refine Bo.of (f:=Aw) (l:=f_.Status) ie ?_
  refine nS ?_
  refine j _ _ (qn (sq ?_))
  refine ar rfl (qn ?_)
  revert h;refine ca rfl (fun hc h=>?_) fun hc h=>?_
  ·refine rg rfl fun K j=>?_
   obtain⟨hk,h⟩:=Bx h
   (repeat refine rp ?_);try simp +decide -implicitDefEqProofs only[go_sem]
   refine j _ _ (bn (qn ?_))
   refine ar rfl (qn ?_)
   obtain rfl:=Aa h
   refine⟨(k2+1,(bo++[au.Run]),(cg+1)),⟨by dsimp only;omega,Aj ao⟩,by dsimp only;omega,?_,?_⟩
   ·exact cuw bq
   exact cuw bq
  refine sk (bn (qn (ar rfl (qn ?_))))
  obtain rfl:=Aa h
  refine⟨(k2+1,bo,cg),⟨by dsimp only;omega,Aj ao⟩,by dsimp only;omega,?_,?_⟩
  ·exact cuw bq
  exact cuw bq
 obtain⟨v0,rest,rfl,rfl⟩:=hq
 refine⟨[.row v0 1 (r.map Bb)],?_,?_,?_,⟨v0,rfl,rfl⟩⟩
 all_goals exact cu
def Ec (v:Int) (k0:Nat) (ab:Int) (sv:Unit):Option (Out (Unit) (Int)):=
 (bif (decide (v=ab))then some (Out.ret ((k0:Nat):Int))else some (Out.next ()))
def Gk (s_:List Int) (v:Int):Option (Int):=
 (An (Ec v) 0 s_ ()).bind fun o0=>o0.on fun s0=>some (-1)
theorem Rm (s_:List Int) (v:Int) {r:Int} (h:Gk s_ v=some r):Ad Tryz.prog 121 [.sl 1 (s_.map Bb),.int .i64 v] (·= .int .i64 r):=by
 refine Ad.nle (Ad.intro Tryz.func121 rfl rfl (by show _≤19;simp) ?_)
 unfold Gk at h
 refine nS (sq ?_)
 refine ar rfl (qn (sq (sq ?_)))
 refine rg rfl fun K j=>?_
 intro hm
 refine j _ _ (qn (bk ?_))
 obtain⟨o0,aa,ae⟩:=Ah h
 clear h
 refine AWP.Bw (ι:=Nat×(Unit)×(Unit)) (fun zz=>[(0,.sl 1 (s_.map Bb)),(1,.int .i64 v),(7,.int .i64 ((s_.length:Nat):Int)),(8,.int .i64 ((zz.1:Nat):Int))]) (fun zz=>[]) (fun zz=>zz.1≤s_.length∧An (Ec v) zz.1 ((s_).drop zz.1) zz.2.1=some o0) (fun zz=>s_.length - zz.1) (0,(),()) ⟨Nat.zero_le _,aa⟩ cu cu (fun x=>⟨rfl,rfl,rfl⟩) ?_
 clear aa
 rintro⟨k0,⟨⟩,⟨⟩⟩ ⟨bg,aa⟩
 dsimp only at bg aa ⊢
 refine sq (ar rfl (qn (sq ?_)))
 refine AWP.cond (Am (fun hc=>?_) (fun hc=>?_))
 rotate_left
 ·obtain rfl:=Bg aa (fun hl=>by have:=Ako hc;omega)
  have h:=Bf ae;try dsimp only at h
  have ag:s_.length=k0:=by have:=Ako hc;omega
  subst ag
  refine xt (qe (qe (bs (qn (sq (ar rfl (qn (rt ?_))))))))
  cases h;exact en Tryz.results121
 have ah:k0<s_.length:=by have:=Akp hc;omega
 obtain⟨ab,b0,aj,h,aa⟩:=Bc aa ah
 have aw:=A9 aj
 have ak:=wk (k:=k0) (by omega)
 unfold Ec at h;try dsimp only at h
 refine sk (qn (sq (bk (sq (ar rfl (qn (sq ?_)))))))
 refine rg rfl fun K j=>?_
 refine Bo.of (f:=Bb) (l:=s_) aw ?_
 refine nS ?_
 refine j _ _ (qn ?_)
 revert h;refine ca rfl (fun hc h=>?_) fun hc h=>?_
 ·refine sq (ar rfl (qn (rt (br (qr (qr ?_))))))
  obtain rfl:=Aa h
  obtain rfl:=Ae aa
  replace h:=Ao ae
  refine br (qr ?_)
  cases h;exact en Tryz.results121
 refine sk (bn (qn (ar rfl (qn ?_))))
 obtain rfl:=Aa h
 refine⟨(k0+1,(),()),⟨by dsimp only;omega,Aj aa⟩,by dsimp only;omega,?_,?_⟩
 ·exact cuw ak
 exact cuw ak
def Br (s_:List Int) (v:Int):Option (Bool):=
 (Gk s_ v).bind fun y1=>some (decide (0≤y1))
theorem Bt (s_:List Int) (v:Int) {r:Bool} (h:Br s_ v=some r):Ad Tryz.prog 54 [.sl 1 (s_.map Bb),.int .i64 v] (·= .bool r):=by
 refine Ad.nle (Ad.intro Tryz.func54 rfl rfl (by show _≤9;simp) ?_)
 unfold Br at h
 refine nS (sq ?_)
 refine ar rfl (qn (sq ?_))
 refine rg rfl fun K j=>?_
 obtain⟨y1,bp,h⟩:=Ah h
 refine Al.pure Tryz.call121 (Rm s_ v bp) rfl fun _ hr=>?_
 subst hr
 refine nS ?_
 refine j _ _ (qn (rt ?_))
 cases h;exact en Tryz.results54
def Kf (kind:Int) (target:Int) (k0:Nat) (ab:Bn) (sv:Unit):Option (Out (Unit) (Bool)):=
 (bif (decide (ab.Kind=kind))then (bif (decide (ab.Target=target))then some (Out.ret (decide (0≤((k0:Nat):Int))))else some (Out.next ()))else some (Out.next ()))
def Ic (l:List Bn) (kind:Int) (target:Int):Option (Bool):=
 (An (Kf kind target) 0 l ()).bind fun o0=>o0.on fun s0=>some false
theorem Qy (l:List Bn) (kind:Int) (target:Int) {r:Bool} (h:Ic l kind target=some r):Ad Tryz.prog 198 [.sl 4 (l.map Au),.int .i64 kind,.int .i64 target] (·= .bool r):=by
 refine Ad.nle (Ad.intro Tryz.func198 rfl rfl (by show _≤10;simp) ?_)
 unfold Ic at h
 refine nS (sq ?_)
 refine ar rfl (qn (sq ?_))
 refine rg rfl fun K j=>?_
 refine Al.inline Tryz.call259 Tryz.func259 rfl rfl (by show _≤9;simp) ?_
 refine nS (sq ?_)
 refine ar rfl (qn (sq ?_))
 refine rg rfl fun K j=>?_
 refine Al.inline Tryz.call239 Tryz.func239 rfl rfl (by show _≤19;simp) ?_
 refine nS (sq ?_)
 refine ar rfl (qn (sq (sq ?_)))
 refine rg rfl fun K j=>?_
 intro hm
 refine j _ _ (qn (bk ?_));clear j K
 obtain⟨o0,aa,ae⟩:=Ah h
 clear h
 refine AWP.Bw (ι:=Nat×(Unit)×(Unit)) (fun zz=>[(0,.sl 4 (l.map Au)),(1,.func 260 [.ptr 0 0,.ptr 1 0]),(7,.int .i64 ((l.length:Nat):Int)),(8,.int .i64 ((zz.1:Nat):Int))]) (fun zz=>[.box [.int .i64 kind],.box [.int .i64 target]]) (fun zz=>zz.1≤l.length∧An (Kf kind target) zz.1 ((l).drop zz.1) zz.2.1=some o0) (fun zz=>l.length - zz.1) (0,(),()) ⟨Nat.zero_le _,aa⟩ cu cu (fun x=>⟨rfl,rfl,rfl⟩) ?_
 clear aa
 rintro⟨k0,⟨⟩,⟨⟩⟩ ⟨bg,aa⟩
 dsimp only at bg aa ⊢
 refine sq (ar rfl (qn (sq ?_)))
 refine AWP.cond (Am (fun hc=>?_) (fun hc=>?_))
 rotate_left
 ·obtain rfl:=Bg aa (fun hl=>by have:=Ako hc;omega)
  have h:=Bf ae;try dsimp only at h
  have ag:l.length=k0:=by have:=Ako hc;omega
  subst ag
  refine xt (qe (qe (bs (qn (sq (ar rfl (qn (rt ?_))))))))
  refine nSc Tryz.results239 ?_
  refine j _ _ (qn (rt ?_));clear j K
  refine nSc Tryz.results259 ?_
  refine j _ _ (qn (rt ?_))
  cases h;exact en Tryz.results198
 have ah:k0<l.length:=by have:=Akp hc;omega
 obtain⟨ab,b0,aj,h,aa⟩:=Bc aa ah
 have aw:=A9 aj
 have ak:=wk (k:=k0) (by omega)
 unfold Kf at h;try dsimp only at h
 refine sk (qn (sq (bk (sq (ar rfl (qn (sq ?_)))))))
 refine rg rfl fun K j=>?_
 refine Bo.of (f:=Au) (l:=l) aw ?_
 refine nS ?_
 refine Al.inline Tryz.call260 Tryz.func260 rfl rfl (by show _≤15;simp) ?_
 refine nS (sq ?_)
 refine ar rfl (qn (sq ?_))
 refine rg rfl fun K j=>?_
 revert h;refine gt (fun hc h=>?_) fun hc h=>?_
 ·refine j _ _ (qn (rt ?_));clear j K
  refine nSc Tryz.results260 ?_
  refine j _ _ (qn ?_);clear j K
  revert h;refine ca rfl (fun hc h=>?_) fun hc h=>?_
  ·refine sq (ar rfl (qn (rt (br (qr (qr ?_))))))
   obtain rfl:=Aa h
   obtain rfl:=Ae aa
   replace h:=Ao ae
   refine br (qr (nSc Tryz.results239 ?_))
   refine j _ _ (qn (rt ?_));clear j K
   refine nSc Tryz.results259 ?_
   refine j _ _ (qn (rt ?_))
   cases h;exact en Tryz.results198
  refine sk (bn (qn (ar rfl (qn ?_))))
  obtain rfl:=Aa h
  refine⟨(k0+1,(),()),⟨by dsimp only;omega,Aj aa⟩,by dsimp only;omega,?_,?_⟩
  ·exact cuw ak
  exact cuw ak
 refine j _ _ (qn (rt ?_));clear j K
 refine nSc Tryz.results260 ?_
 refine j _ _ (qn ?_);clear j K
 refine AWP.cond (Bj ?_)
 refine sk (bn (qn (ar rfl (qn ?_))))
 obtain rfl:=Aa h
 refine⟨(k0+1,(),()),⟨by dsimp only;omega,Aj aa⟩,by dsimp only;omega,?_,?_⟩
 ·exact cuw ak
 exact cuw ak
def Qc (m:Bd) (l:List Bn) (run:Int):Option (Bool):=
 (Fb m run).bind fun y1=>(bif y1.2 then(Ic l 1 run).bind fun y2=>(bif y2 then some true else(Ic l 3 y1.1.Zone).bind fun y3=>some y3)else some false)
theorem dJ (m:Bd) (l:List Bn) (run:Int) {r:Bool} (h:Qc m l run=some r):Ad Tryz.prog 102 [.agg (Ct m),.sl 4 (l.map Au),.int .i64 run] (·= .bool r):=by
 refine Ad.nle (Ad.intro Tryz.func102 rfl rfl (by show _≤27;simp) ?_)
 unfold Qc at h
 refine nS (sq ?_)
 refine ar rfl (qn (sq ?_))
 refine rg rfl fun K j=>?_
 obtain⟨y1,bp,h⟩:=Ah h
 refine Al.pure Tryz.call53 (Ei m run bp) rfl fun _ hr=>?_
 subst hr
 refine nS ?_
 refine j _ _ (qn (sq ?_))
 refine rg rfl fun K j=>?_
 revert h;refine gt (fun hc h=>?_) fun hc h=>?_
 ·obtain⟨y2,dn,h⟩:=Ah h
  refine Al.pure Tryz.call198 (Qy l 1 run dn) rfl fun _ hr=>?_
  subst hr
  refine nS ?_
  revert h;refine gf (fun hc h=>?_) fun hc h=>?_
  ·obtain⟨y3,bx,h⟩:=Ah h
   refine Al.pure Tryz.call198 (Qy l 3 y1.1.Zone bx) rfl fun _ hr=>?_
   subst hr
   refine nS ?_
   refine j _ _ (qn (rt ?_))
   cases h;exact en Tryz.results102
  refine j _ _ (qn (rt ?_))
  cases h;exact en Tryz.results102
 refine j _ _ (qn (rt ?_))
 cases h;exact en Tryz.results102
def Pr (run:Int) (k0:Nat) (ab:Cb) (sv:Unit):Option (Out (Unit) (Bool)):=
 (bif (decide (ab.State=2))then (bif (decide (ab.Run=run))then some (Out.ret (decide (0≤((k0:Nat):Int))))else some (Out.next ()))else some (Out.next ()))
def R9 (l:List Cb) (run:Int):Option (Bool):=
 (An (Pr run) 0 l ()).bind fun o0=>o0.on fun s0=>some false
theorem fD (l:List Cb) (run:Int) {r:Bool} (h:R9 l run=some r):Ad Tryz.prog 103 [.sl 8 (l.map Ax),.int .i64 run] (·= .bool r):=by
 refine Ad.nle (Ad.intro Tryz.func103 rfl rfl (by show _≤8;simp) ?_)
 unfold R9 at h
 refine nS (sq ?_)
 refine ar rfl (qn (sq ?_))
 refine rg rfl fun K j=>?_
 refine Al.inline Tryz.call199 Tryz.func199 rfl rfl (by show _≤9;simp) ?_
 refine nS (sq ?_)
 refine ar rfl (qn (sq ?_))
 refine rg rfl fun K j=>?_
 refine Al.inline Tryz.call261 Tryz.func261 rfl rfl (by show _≤19;simp) ?_
 refine nS (sq ?_)
 refine ar rfl (qn (sq (sq ?_)))
 refine rg rfl fun K j=>?_
 intro hm
 refine j _ _ (qn (bk ?_));clear j K
 obtain⟨o0,aa,ae⟩:=Ah h
 clear h
 refine AWP.Bw (ι:=Nat×(Unit)×(Unit)) (fun zz=>[(0,.sl 8 (l.map Ax)),(1,.func 200 [.ptr 0 0]),(7,.int .i64 ((l.length:Nat):Int)),(8,.int .i64 ((zz.1:Nat):Int))]) (fun zz=>[.box [.int .i64 run]]) (fun zz=>zz.1≤l.length∧An (Pr run) zz.1 ((l).drop zz.1) zz.2.1=some o0) (fun zz=>l.length - zz.1) (0,(),()) ⟨Nat.zero_le _,aa⟩ cu cu (fun x=>⟨rfl,rfl,rfl⟩) ?_
 clear aa
 rintro⟨k0,⟨⟩,⟨⟩⟩ ⟨bg,aa⟩
 dsimp only at bg aa ⊢
 refine sq (ar rfl (qn (sq ?_)))
 refine AWP.cond (Am (fun hc=>?_) (fun hc=>?_))
 rotate_left
 ·obtain rfl:=Bg aa (fun hl=>by have:=Ako hc;omega)
  have h:=Bf ae;try dsimp only at h
  have ag:l.length=k0:=by have:=Ako hc;omega
  subst ag
  refine xt (qe (qe (bs (qn (sq (ar rfl (qn (rt ?_))))))))
  refine nSc Tryz.results261 ?_
  refine j _ _ (qn (rt ?_));clear j K
  refine nSc Tryz.results199 ?_
  refine j _ _ (qn (rt ?_))
  cases h;exact en Tryz.results103
 have ah:k0<l.length:=by have:=Akp hc;omega
 obtain⟨ab,b0,aj,h,aa⟩:=Bc aa ah
 have aw:=A9 aj
 have ak:=wk (k:=k0) (by omega)
 unfold Pr at h;try dsimp only at h
 refine sk (qn (sq (bk (sq (ar rfl (qn (sq ?_)))))))
 refine rg rfl fun K j=>?_
 refine Bo.of (f:=Ax) (l:=l) aw ?_
 refine nS ?_
 refine Al.inline Tryz.call200 Tryz.func200 rfl rfl (by show _≤13;simp) ?_
 refine nS (sq ?_)
 refine ar rfl (qn (sq ?_))
 refine rg rfl fun K j=>?_
 revert h;refine gt (fun hc h=>?_) fun hc h=>?_
 ·refine j _ _ (qn (rt ?_));clear j K
  refine nSc Tryz.results200 ?_
  refine j _ _ (qn ?_);clear j K
  revert h;refine ca rfl (fun hc h=>?_) fun hc h=>?_
  ·refine sq (ar rfl (qn (rt (br (qr (qr ?_))))))
   obtain rfl:=Aa h
   obtain rfl:=Ae aa
   replace h:=Ao ae
   refine br (qr (nSc Tryz.results261 ?_))
   refine j _ _ (qn (rt ?_));clear j K
   refine nSc Tryz.results199 ?_
   refine j _ _ (qn (rt ?_))
   cases h;exact en Tryz.results103
  refine sk (bn (qn (ar rfl (qn ?_))))
  obtain rfl:=Aa h
  refine⟨(k0+1,(),()),⟨by dsimp only;omega,Aj aa⟩,by dsimp only;omega,?_,?_⟩
  ·exact cuw ak
  exact cuw ak
 refine j _ _ (qn (rt ?_));clear j K
 refine nSc Tryz.results200 ?_
 refine j _ _ (qn ?_);clear j K
 refine AWP.cond (Bj ?_)
 refine sk (bn (qn (ar rfl (qn ?_))))
 obtain rfl:=Aa h
 refine⟨(k0+1,(),()),⟨by dsimp only;omega,Aj aa⟩,by dsimp only;omega,?_,?_⟩
 ·exact cuw ak
 exact cuw ak
def Kk (t:Int) (k2:Nat) (au:A8) (sv:(List Int)):Option (Out ((List Int)) ((List Int))):=
 (bif (decide (au.From≤t))then (bif (decide (t<au.To))then chk (sv.length+au.Runs.length) (some (Out.next (sv++au.Runs)))else some (Out.next sv))else some (Out.next sv))
def Pu (l:List A8) (t:Int):Option ((List Int)):=
 (An (Kk t) 0 l []).bind fun o2=>o2.on fun s2=>chk s2.length (chk s2.length (some (Cu (Dk s2))))
theorem bL (l:List A8) (t:Int) {r:(List Int)} (h:Pu l t=some r):Ad Tryz.prog 104 [.sl 4 (l.map Ak),.int .i64 t] (·= .sl 1 (r.map Bb)):=by
 refine Ad.nle (Ad.Abq Tryz.func104 rfl rfl (by show _≤19;simp) ?_)
 unfold Pu at h
 refine nS ?_
 refine j6.pre ?_
 refine ar rfl (qn ?_)
 refine j6.pre ?_
 refine ar rfl (qn ?_)
 refine j6.seqq ?_
 refine qW.seq ?_
 refine rg rfl fun K j=>?_
 refine Al.inline Tryz.call201 Tryz.func201 rfl rfl (by show _≤6;simp) ?_
 refine nS (sq ?_)
 refine ar rfl (qn (sq ?_))
 refine ar rfl (qn (rt ?_))
 refine nSc Tryz.results201 ?_
 refine j _ _ (qn ?_)
 refine qW.range [(4,.nils),(5,.ptr 0 0),(9,.func 262 [.ptr 1 0,.ptr 2 0])] cu cu rfl fun D A0 B0 fo hB0=>?_
 refine nS ?_
 refine Al.inline Tryz.call262 Tryz.func262 rfl rfl (by show _≤29;simp) ?_
 refine nS (sq ?_)
 refine rg rfl fun K j=>?_
 intro hm
 refine j _ _ (qn (bk ?_))
 refine AWP.sub (Sub.Abt 0 0 1 rfl rfl (by decide)) ?_
 refine nS ?_
 obtain⟨o2,ao,ek⟩:=Ah h
 clear h
 refine AWP.Bw (ι:=Nat×((List Int))×(Nat)) (fun zz=>[(0,.yld 3),(2,.ptr 2 0),(6,.sl 4 (l.map Ak)),(7,.int .i64 ((l.length:Nat):Int)),(8,.int .i64 ((zz.1:Nat):Int))]) (fun zz=>[.box [.own 4 zz.2.2 0 zz.2.1.length],.box [.sl 4 (l.map Ak)],.box [.int .i64 t],.lp D 19 [(4,.nils),(5,.ptr 0 0),(9,.func 262 [.ptr 1 0,.ptr 2 0])] #[10] A0 B0 .ready none,.row zz.2.2 1 (zz.2.1.map Bb)]) (fun zz=>zz.1≤l.length∧An (Kk t) zz.1 ((l).drop zz.1) zz.2.1=some o2) (fun zz=>l.length - zz.1) (0,[],0) ⟨Nat.zero_le _,ao⟩ cu cu (fun x=>⟨rfl,rfl,rfl⟩) ?_
 clear ao
 rintro⟨k2,o4_1,cg⟩ ⟨dp,ao⟩
 dsimp only at dp ao ⊢
 refine sq (ar rfl (qn (sq ?_)))
 refine AWP.cond (Am (fun hc=>?_) (fun hc=>?_))
 rotate_left
 ·obtain rfl:=Bg ao (fun hl=>by have:=Ako hc;omega)
  have h:=Bf ek;try dsimp only at h
  have ag:l.length=k2:=by have:=Ako hc;omega
  subst ag
  refine xt (qe (qe (bs (nSc Tryz.results262 ?_))))
  refine qrange.all rfl ?_
  refine nS (sq ?_)
  refine rg rfl fun K j=>?_
  obtain⟨hk,h⟩:=Bx h
  refine Al.Dk Tryz.call68 Tryz.sorts68 rfl (by first | rfl | exact(Cy _).symm | (simp only[Akw,List.length_cons,List.length_nil,List.length_set,Akx]<;>omega)) hk ?_
  refine nS ?_
  refine j _ _ (qn (sq ?_))
  refine rg rfl fun K j=>?_
  obtain⟨hk,h⟩:=Bx h
  refine Al.Cu Tryz.call69 Tryz.compacts69 rfl (by first | rfl | exact(Cy _).symm | (simp only[Akw,List.length_cons,List.length_nil,List.length_set,Akx]<;>omega)) hk ?_
  refine nS ?_
  refine j _ _ (qn (rt ?_))
  refine qmD.mk (r:=3) rfl ?_
  cases h;exact en Tryz.results104
 have ck:k2<l.length:=by have:=Akp hc;omega
 obtain⟨au,b2,dh,h,ao⟩:=Bc ao ck
 have ie:=A9 dh
 have bq:=wk (k:=k2) (by omega)
 unfold Kk at h;try dsimp only at h
 refine sk (qn (sq (bk (sq (rg rfl fun K j=>?_)))))
 refine Bo.of (f:=Ak) (l:=l) ie ?_
 refine nS ?_
 refine j _ _ (qn (sq ?_))
 refine rg rfl fun K j=>?_
 revert h;refine gt (fun hc h=>?_) fun hc h=>?_
 ·revert h;refine gt (fun hc h=>?_) fun hc h=>?_
  ·refine Al.yield rfl rfl rfl fo hB0 rfl fun md=>?_
   (try simp +decide -implicitDefEqProofs only[go_sem,mA])
   refine ar rfl ?_
   refine qyA.mk rfl ?_
   refine nS (bk ?_)
   refine rg rfl fun K j=>?_
   obtain⟨hk,h⟩:=Bx h
   (repeat refine rp ?_);try simp +decide -implicitDefEqProofs only[go_sem]
   refine j _ _ (bn ?_);clear j K
   refine qyB.next rfl ?_
   refine nS ?_
   refine j _ _ (qn ?_)
   refine AWP.cond (Bj ?_)
   refine sk (bn (qn (ar rfl (qn ?_))))
   obtain rfl:=Aa h
   refine⟨(k2+1,(o4_1++au.Runs),(cg+1)),⟨by dsimp only;omega,Aj ao⟩,by dsimp only;omega,?_,?_⟩
   ·exact cuw bq
   exact cuw bq
  refine j _ _ (qn ?_)
  refine AWP.cond (Bj ?_)
  refine sk (bn (qn (ar rfl (qn ?_))))
  obtain rfl:=Aa h
  refine⟨(k2+1,o4_1,cg),⟨by dsimp only;omega,Aj ao⟩,by dsimp only;omega,?_,?_⟩
  ·exact cuw bq
  exact cuw bq
 refine j _ _ (qn ?_)
 refine AWP.cond (Bj ?_)
 refine sk (bn (qn (ar rfl (qn ?_))))
 obtain rfl:=Aa h
 refine⟨(k2+1,o4_1,cg),⟨by dsimp only;omega,Aj ao⟩,by dsimp only;omega,?_,?_⟩
 ·exact cuw bq
 exact cuw bq
def E3 (t5_1:Bool):Option (Bool):=
 (bif t5_1 then some true else some false)
def Jb (m:Bh):Option (Bool):=
 (bif (decide (m.State=1))then E3 (decide (m.State=1))else (bif (decide (m.State=2))then E3 (decide (m.State=2))else (bif (decide (m.State=3))then E3 (decide (m.State=3))else E3 (decide (m.State=4)))))
theorem S7 (m:Bh) {r:Bool} (h:Jb m=some r):Ad Tryz.prog 249 [.agg (Ap m)] (·= .bool r):=by
 refine Ad.nle (Ad.intro Tryz.func249 rfl rfl (by show _≤10;simp) ?_)
 unfold Jb at h
 refine nS (sq ?_)
 refine ar rfl (qn (sq (sq ?_)))
 refine ar rfl (qn (bk ?_))
 refine AWP.Mz (ι:=(Bool)×(Unit)) (fun zz=>[(5,.bool zz.1)]) (fun zz=>[]) (fun zz=>E3 zz.1=some r) (fun zz=>⟨rfl,rfl,rfl⟩) ?_ ?_
 ·refine sq (ar rfl (qn ?_))
  revert h;refine ca rfl (fun hc h=>?_) fun hc h=>?_
  ·refine sk (qn ?_)
   exact⟨((decide (m.State=1)),()),h,cu,cu⟩
  refine sq (ar rfl (qn ?_))
  revert h;refine ca rfl (fun hc h=>?_) fun hc h=>?_
  ·refine sk (qn ?_)
   exact⟨((decide (m.State=2)),()),h,cu,cu⟩
  refine sq (ar rfl (qn ?_))
  revert h;refine ca rfl (fun hc h=>?_) fun hc h=>?_
  ·refine sk (qn ?_)
   exact⟨((decide (m.State=3)),()),h,cu,cu⟩
  refine ar rfl (qn ?_)
  exact⟨((decide (m.State=4)),()),h,cu,cu⟩
 rintro⟨t5_1,⟨⟩⟩ h
 try dsimp only at h ⊢
 unfold E3 at h;try dsimp only at h
 revert h;refine ca rfl (fun hc h=>?_) fun hc h=>?_
 ·refine sq (ar rfl (qn (rt (br (qr ?_)))))
  cases h;exact en Tryz.results249
 refine sk (bn (qn (sq (ar rfl (qn (rt ?_))))))
 cases h;exact en Tryz.results249
def M8 (k2:Nat) (au:Bh) (sv:(List Int)):Option (Out ((List Int)) ((List Int))):=
 (Jb au).bind fun y5=>(bif y5 then chk (sv.length+1) (some (Out.next (sv++[au.Slide])))else some (Out.next sv))
def L8 (l:List Bh):Option ((List Int)):=
 (An M8 0 l []).bind fun o2=>o2.on fun s2=>chk s2.length (some (Dk s2))
theorem Zy (l:List Bh) {r:(List Int)} (h:L8 l=some r):Bu Tryz.prog 202 [.sl 7 (l.map Ap)] (·= .sl 1 (r.map Bb)):=by
 refine Bu.nle (Bu.intro Tryz.func202 rfl rfl (by show _≤23;simp) ?_)
 unfold L8 at h
 refine nS (sq ?_)
 refine ar rfl (qn (sq ?_))
 refine ar rfl (qn (sq (sq ?_)))
 refine rg rfl fun K j=>?_
 intro hm
 refine j _ _ (qn (bk ?_))
 refine AWP.ghost 3 1 rfl (by decide) ?_
 obtain⟨o2,ao,ek⟩:=Ah h
 clear h
 refine AWP.Bw (ι:=Nat×((List Int))×(Nat)) (fun zz=>[(3,.own 0 zz.2.2 0 zz.2.1.length),(6,.sl 7 (l.map Ap)),(7,.int .i64 ((l.length:Nat):Int)),(8,.int .i64 ((zz.1:Nat):Int))]) (fun zz=>[.row zz.2.2 1 (zz.2.1.map Bb)]) (fun zz=>zz.1≤l.length∧An M8 zz.1 ((l).drop zz.1) zz.2.1=some o2) (fun zz=>l.length - zz.1) (0,[],0) ⟨Nat.zero_le _,ao⟩ cu cu (fun x=>⟨rfl,rfl,rfl⟩) ?_
 clear ao
 rintro⟨k2,bo,cg⟩ ⟨dp,ao⟩
 dsimp only at dp ao ⊢
 refine sq (ar rfl (qn (sq ?_)))
 refine AWP.cond (Am (fun hc=>?_) (fun hc=>?_))
 rotate_left
 ·obtain rfl:=Bg ao (fun hl=>by have:=Ako hc;omega)
  have h:=Bf ek;try dsimp only at h
  have ag:l.length=k2:=by have:=Ako hc;omega
  subst ag
  refine xt (qe (qe (bs (qn (sq (rg rfl fun K j=>?_))))))
  obtain⟨hk,h⟩:=Bx h
  refine Al.Dk Tryz.call68 Tryz.sorts68 rfl (by first | rfl | exact(Cy _).symm | (simp only[Akw,List.length_cons,List.length_nil,List.length_set,Akx]<;>omega)) hk ?_
  refine nS ?_
  refine j _ _ (qn (sq ?_))
  refine ar rfl (qn (rt ?_))
  cases h;exact en Tryz.results202
 have ck:k2<l.length:=by have:=Akp hc;omega
 obtain⟨au,b2,dh,h,ao⟩:=Bc ao ck
 have ie:=A9 dh
 have bq:=wk (k:=k2) (by omega)
 unfold M8 at h;try dsimp only at h
 refine sk (qn (sq (bk (sq (rg rfl fun K j=>?_)))))
 refine Bo.of (f:=Ap) (l:=l) ie ?_
 refine nS ?_
 refine j _ _ (qn (sq ?_))
 refine rg rfl fun K j=>?_
 obtain⟨y5,db,h⟩:=Ah h
 refine Al.pure Tryz.call249 (S7 au db) rfl fun _ hr=>?_
 subst hr
 refine nS ?_
 refine j _ _ (qn ?_)
 revert h;refine ca rfl (fun hc h=>?_) fun hc h=>?_
 ·refine rg rfl fun K j=>?_
  obtain⟨hk,h⟩:=Bx h
  (repeat refine rp ?_);try simp +decide -implicitDefEqProofs only[go_sem]
  refine j _ _ (bn (qn ?_))
  refine ar rfl (qn ?_)
  obtain rfl:=Aa h
  refine⟨(k2+1,(bo++[au.Slide]),(cg+1)),⟨by dsimp only;omega,Aj ao⟩,by dsimp only;omega,?_,?_⟩
  ·exact cuw bq
  exact cuw bq
 refine sk (bn (qn (ar rfl (qn ?_))))
 obtain rfl:=Aa h
 refine⟨(k2+1,bo,cg),⟨by dsimp only;omega,Aj ao⟩,by dsimp only;omega,?_,?_⟩
 ·exact cuw bq
 exact cuw bq
theorem bA (l:List Bh) {r:(List Int)} (h:L8 l=some r):Ad Tryz.prog 202 [.sl 7 (l.map Ap)] (·= .sl 1 (r.map Bb)):=(Zy l h).pure
def G3 (zone:Int) (y1:(List Int)) (k1:Nat) (bb:Be) (sv:Unit):Option (Out (Unit) (Bool)):=
 (Br y1 bb.ID).bind fun y4=>(bif y4 then(Br bb.Zones zone).bind fun y5=>(bif y5 then some (Out.ret (decide (0≤((k1:Nat):Int))))else some (Out.next ()))else some (Out.next ()))
def G4 (f_:Af) (zone:Int):Option (Bool):=
 (L8 f_.Missions).bind fun y1=>(An (G3 zone y1) 0 f_.Slides ()).bind fun o1=>o1.on fun s1=>some false
theorem Vg (f_:Af) (zone:Int) {r:Bool} (h:G4 f_ zone=some r):Ad Tryz.prog 105 [.agg (Ce f_),.int .i64 zone] (·= .bool r):=by
 refine Ad.nle (Ad.intro Tryz.func105 rfl rfl (by show _≤13;simp) ?_)
 unfold G4 at h
 refine nS (sq ?_)
 refine ar rfl (qn (sq ?_))
 refine rg rfl fun K j=>?_
 obtain⟨y1,bp,h⟩:=Ah h
 refine Al.pure Tryz.call202 (bA f_.Missions bp) rfl fun _ hr=>?_
 subst hr
 refine nS ?_
 refine j _ _ (qn (sq ?_))
 refine rg rfl fun K j=>?_
 refine Al.inline Tryz.call203 Tryz.func203 rfl rfl (by show _≤9;simp) ?_
 refine nS (sq ?_)
 refine ar rfl (qn (sq ?_))
 refine rg rfl fun K j=>?_
 refine Al.inline Tryz.call245 Tryz.func245 rfl rfl (by show _≤19;simp) ?_
 refine nS (sq ?_)
 refine ar rfl (qn (sq (sq ?_)))
 refine rg rfl fun K j=>?_
 intro hm
 refine j _ _ (qn (bk ?_));clear j K
 obtain⟨o1,az,dj⟩:=Ah h
 clear h
 refine AWP.Bw (ι:=Nat×(Unit)×(Unit)) (fun zz=>[(0,.sl 6 (f_.Slides.map A3)),(1,.func 204 [.ptr 2 0,.ptr 1 0]),(7,.int .i64 ((f_.Slides.length:Nat):Int)),(8,.int .i64 ((zz.1:Nat):Int))]) (fun zz=>[.box [.sl 2 (f_.Map.Nodes.map A5),.sl 8 (f_.Map.Lifts.map A6),.sl 7 (f_.Map.Runs.map Ba),.sl 1 (f_.Map.Bases.map Bb),.sl 2 (f_.Lifts.map Av),.sl 4 (f_.Closures.map Au),.sl 4 (f_.Patrol.Bl.map Aq),.sl 3 (f_.Patrol.Hazards.map Ay),.sl 3 (f_.Surfaces.map A1),.sl 5 (f_.Packs.map Az),.sl 6 (f_.Slides.map A3),.sl 7 (f_.Bulletin.map Ar),.sl 7 (f_.Missions.map Ap),.sl 4 (f_.Winches.map Ak),.sl 8 (f_.Groomers.map Ax),.sl 3 (f_.Status.map Aw),.int .i64 f_.Depth,.int .i64 f_.Time],.box [.int .i64 zone],.box [.sl 1 (y1.map Bb)]]) (fun zz=>zz.1≤f_.Slides.length∧An (G3 zone y1) zz.1 ((f_.Slides).drop zz.1) zz.2.1=some o1) (fun zz=>f_.Slides.length - zz.1) (0,(),()) ⟨Nat.zero_le _,az⟩ cu cu (fun x=>⟨rfl,rfl,rfl⟩) ?_
 clear az
 rintro⟨k1,⟨⟩,⟨⟩⟩ ⟨jd,az⟩
 dsimp only at jd az ⊢
 refine sq (ar rfl (qn (sq ?_)))
 refine AWP.cond (Am (fun hc=>?_) (fun hc=>?_))
 rotate_left
 ·obtain rfl:=Bg az (fun hl=>by have:=Ako hc;omega)
  have h:=Bf dj;try dsimp only at h
  have ag:f_.Slides.length=k1:=by have:=Ako hc;omega
  subst ag
  refine xt (qe (qe (bs (qn (sq (ar rfl (qn (rt ?_))))))))
  refine nSc Tryz.results245 ?_
  refine j _ _ (qn (rt ?_));clear j K
  refine nSc Tryz.results203 ?_
  refine j _ _ (qn (rt ?_))
  cases h;exact en Tryz.results105
 have dy:k1<f_.Slides.length:=by have:=Akp hc;omega
 obtain⟨bb,b1,ei,h,az⟩:=Bc az dy
 have jc:=A9 ei
 have cq:=wk (k:=k1) (by omega)
 unfold G3 at h;try dsimp only at h
 refine sk (qn (sq (bk (sq (ar rfl (qn (sq ?_)))))))
 refine rg rfl fun K j=>?_
 refine Bo.of (f:=A3) (l:=f_.Slides) jc ?_
 refine nS ?_
 refine Al.inline Tryz.call204 Tryz.func204 rfl rfl (by show _≤15;simp) ?_
 refine nS (sq ?_)
 refine ar rfl (qn (sq ?_))
 refine rg rfl fun K j=>?_
 obtain⟨y4,cn,h⟩:=Ah h
 refine Al.pure Tryz.call54 (Bt y1 bb.ID cn) rfl fun _ hr=>?_
 subst hr
 refine nS ?_
 revert h;refine gt (fun hc h=>?_) fun hc h=>?_
 ·obtain⟨y5,db,h⟩:=Ah h
  refine Al.pure Tryz.call54 (Bt bb.Zones zone db) rfl fun _ hr=>?_
  subst hr
  refine nS ?_
  refine j _ _ (qn (rt ?_));clear j K
  refine nSc Tryz.results204 ?_
  refine j _ _ (qn ?_);clear j K
  revert h;refine ca rfl (fun hc h=>?_) fun hc h=>?_
  ·refine sq (ar rfl (qn (rt (br (qr (qr ?_))))))
   obtain rfl:=Aa h
   obtain rfl:=Ae az
   replace h:=Ao dj
   refine br (qr (nSc Tryz.results245 ?_))
   refine j _ _ (qn (rt ?_));clear j K
   refine nSc Tryz.results203 ?_
   refine j _ _ (qn (rt ?_))
   cases h;exact en Tryz.results105
  refine sk (bn (qn (ar rfl (qn ?_))))
  obtain rfl:=Aa h
  refine⟨(k1+1,(),()),⟨by dsimp only;omega,Aj az⟩,by dsimp only;omega,?_,?_⟩
  ·exact cuw cq
  exact cuw cq
 refine j _ _ (qn (rt ?_));clear j K
 refine nSc Tryz.results204 ?_
 refine j _ _ (qn ?_);clear j K
 refine AWP.cond (Bj ?_)
 refine sk (bn (qn (ar rfl (qn ?_))))
 obtain rfl:=Aa h
 refine⟨(k1+1,(),()),⟨by dsimp only;omega,Aj az⟩,by dsimp only;omega,?_,?_⟩
 ·exact cuw cq
 exact cuw cq
def Mx (zone:Int) (k2:Nat) (au:Cq) (sv:(List Int)):Option (Out ((List Int)) ((List Int))):=
 (bif (decide (au.Zone=zone))then chk (sv.length+1) (some (Out.next (sv++[au.ID])))else some (Out.next sv))
def Ll (m:Bd) (zone:Int):Option ((List Int)):=
 (An (Mx zone) 0 m.Runs []).bind fun o2=>o2.on fun s2=>some s2
theorem Zb (m:Bd) (zone:Int) {r:(List Int)} (h:Ll m zone=some r):Bu Tryz.prog 95 [.agg (Ct m),.int .i64 zone] (·= .sl 1 (r.map Bb)):=by
 refine Bu.nle (Bu.intro Tryz.func95 rfl rfl (by show _≤26;simp) ?_)
 unfold Ll at h
 refine nS (sq ?_)
 refine ar rfl (qn (sq ?_))
 refine ar rfl (qn (sq (sq ?_)))
 refine rg rfl fun K j=>?_
 intro hm
 refine j _ _ (qn (bk ?_))
 refine AWP.ghost 5 1 rfl (by decide) ?_
 obtain⟨o2,ao,ek⟩:=Ah h
 clear h
 refine AWP.Bw (ι:=Nat×((List Int))×(Nat)) (fun zz=>[(1,.int .i64 zone),(5,.own 1 zz.2.2 0 zz.2.1.length),(9,.sl 7 (m.Runs.map Ba)),(10,.int .i64 ((m.Runs.length:Nat):Int)),(11,.int .i64 ((zz.1:Nat):Int))]) (fun zz=>[.gone,.row zz.2.2 1 (zz.2.1.map Bb)]) (fun zz=>zz.1≤m.Runs.length∧An (Mx zone) zz.1 ((m.Runs).drop zz.1) zz.2.1=some o2) (fun zz=>m.Runs.length - zz.1) (0,[],0) ⟨Nat.zero_le _,ao⟩ cu cu (fun x=>⟨rfl,rfl,rfl⟩) ?_
 clear ao
 rintro⟨k2,bo,cg⟩ ⟨dp,ao⟩
 dsimp only at dp ao ⊢
 refine sq (ar rfl (qn (sq ?_)))
 refine AWP.cond (Am (fun hc=>?_) (fun hc=>?_))
 rotate_left
 ·obtain rfl:=Bg ao (fun hl=>by have:=Ako hc;omega)
  have h:=Bf ek;try dsimp only at h
  have ag:m.Runs.length=k2:=by have:=Ako hc;omega
  subst ag
  refine xt (qe (qe (bs (qn (sq (ar rfl (qn (rt ?_))))))))
  cases h;exact en Tryz.results95
 have ck:k2<m.Runs.length:=by have:=Akp hc;omega
 obtain⟨au,b2,dh,h,ao⟩:=Bc ao ck
 have ie:=A9 dh
 have bq:=wk (k:=k2) (by omega)
 unfold Mx at h;try dsimp only at h
 refine sk (qn (sq (bk (sq (rg rfl fun K j=>?_)))))
 refine Bo.of (f:=Ba) (l:=m.Runs) ie ?_
 refine nS ?_
 refine j _ _ (qn (sq ?_))
 refine ar rfl (qn ?_)
 revert h;refine ca rfl (fun hc h=>?_) fun hc h=>?_
 ·refine rg rfl fun K j=>?_
  obtain⟨hk,h⟩:=Bx h
  (repeat refine rp ?_);try simp +decide -implicitDefEqProofs only[go_sem]
  refine j _ _ (bn (qn ?_))
  refine ar rfl (qn ?_)
  obtain rfl:=Aa h
  refine⟨(k2+1,(bo++[au.ID]),(cg+1)),⟨by dsimp only;omega,Aj ao⟩,by dsimp only;omega,?_,?_⟩
  ·exact cuw bq
  exact cuw bq
 refine sk (bn (qn (ar rfl (qn ?_))))
 obtain rfl:=Aa h
 refine⟨(k2+1,bo,cg),⟨by dsimp only;omega,Aj ao⟩,by dsimp only;omega,?_,?_⟩
 ·exact cuw bq
 exact cuw bq
theorem Z9 (m:Bd) (zone:Int) {r:(List Int)} (h:Ll m zone=some r):Ad Tryz.prog 95 [.agg (Ct m),.int .i64 zone] (·= .sl 1 (r.map Bb)):=(Zb m zone h).pure
def Qi (id_:Int) (k0:Nat) (ab:Cr) (sv:Unit):Option (Out (Unit) (Cr×Bool)):=
 (bif (decide (ab.ID=id_))then some (Out.ret (ab,true))else some (Out.next ()))
def Ef (m:Bd) (id_:Int):Option (Cr×Bool):=
 (An (Qi id_) 0 m.Nodes ()).bind fun o0=>o0.on fun s0=>some ((Cr.mk 0 0),false)
theorem Dz (m:Bd) (id_:Int) {r:Cr×Bool} (h:Ef m id_=some r):Ad Tryz.prog 96 [.agg (Ct m),.int .i64 id_] (·= .tuple [.agg (A5 r.1),.bool r.2]):=by
 refine Ad.nle (Ad.intro Tryz.func96 rfl rfl (by show _≤22;simp) ?_)
 unfold Ef at h
 refine nS (sq ?_)
 refine ar rfl (qn (sq (sq ?_)))
 refine rg rfl fun K j=>?_
 intro hm
 refine j _ _ (qn (bk ?_))
 obtain⟨o0,aa,ae⟩:=Ah h
 clear h
 refine AWP.Bw (ι:=Nat×(Unit)×(Unit)) (fun zz=>[(1,.int .i64 id_),(4,.ptr 1 0),(9,.sl 2 (m.Nodes.map A5)),(10,.int .i64 ((m.Nodes.length:Nat):Int)),(11,.int .i64 ((zz.1:Nat):Int))]) (fun zz=>[.gone,.box [.int .i64 0,.int .i64 0]]) (fun zz=>zz.1≤m.Nodes.length∧An (Qi id_) zz.1 ((m.Nodes).drop zz.1) zz.2.1=some o0) (fun zz=>m.Nodes.length - zz.1) (0,(),()) ⟨Nat.zero_le _,aa⟩ cu cu (fun x=>⟨rfl,rfl,rfl⟩) ?_
 clear aa
 rintro⟨k0,⟨⟩,⟨⟩⟩ ⟨bg,aa⟩
 dsimp only at bg aa ⊢
 refine sq (ar rfl (qn (sq ?_)))
 refine AWP.cond (Am (fun hc=>?_) (fun hc=>?_))
 rotate_left
 ·obtain rfl:=Bg aa (fun hl=>by have:=Ako hc;omega)
  have h:=Bf ae;try dsimp only at h
  have ag:m.Nodes.length=k0:=by have:=Ako hc;omega
  subst ag
  refine xt (qe (qe (bs (qn (sq (ar rfl (qn (rt ?_))))))))
  cases h;exact en Tryz.results96
 have ah:k0<m.Nodes.length:=by have:=Akp hc;omega
 obtain⟨ab,b0,aj,h,aa⟩:=Bc aa ah
 have aw:=A9 aj
 have ak:=wk (k:=k0) (by omega)
 unfold Qi at h;try dsimp only at h
 refine sk (qn (sq (bk (sq (rg rfl fun K j=>?_)))))
 refine Bo.of (f:=A5) (l:=m.Nodes) aw ?_
 refine nS ?_
 refine j _ _ (qn (sq ?_))
 refine ar rfl (qn ?_)
 revert h;refine ca rfl (fun hc h=>?_) fun hc h=>?_
 ·refine sq (ar rfl (qn (rt (br (qr (qr ?_))))))
  obtain rfl:=Aa h
  obtain rfl:=Ae aa
  replace h:=Ao ae
  refine br (qr ?_)
  cases h;exact en Tryz.results96
 refine sk (bn (qn (ar rfl (qn ?_))))
 obtain rfl:=Aa h
 refine⟨(k0+1,(),()),⟨by dsimp only;omega,Aj aa⟩,by dsimp only;omega,?_,?_⟩
 ·exact cuw ak
 exact cuw ak
def Ev (m:Bd) (k4:Nat) (cx:Int) (sv:Int×Int×Bool):Option (Out (Int×Int×Bool) (Int×Int×Bool)):=
 (Fb m cx).bind fun y7=>(Ef m y7.1.From).bind fun y8=>(Ef m y7.1.To).bind fun y9=>(bif (!sv.2.2)then some (Out.next ((if y9.1.Alt<y9.1.Alt then y9.1.Alt else y9.1.Alt),(if y8.1.Alt<y8.1.Alt then y8.1.Alt else y8.1.Alt),true))else some (Out.next ((if y9.1.Alt<sv.1 then y9.1.Alt else sv.1),(if sv.2.1<y8.1.Alt then y8.1.Alt else sv.2.1),sv.2.2)))
def Fw (m:Bd) (zone:Int):Option (Int×Int×Bool):=
 (Ll m zone).bind fun y1=>(An (Ev m) 0 y1 (0,0,false)).bind fun o4=>o4.on fun s4=>some (s4.1,(s4.2.1,s4.2.2))
theorem Tu (m:Bd) (zone:Int) {r:Int×Int×Bool} (h:Fw m zone=some r):Ad Tryz.prog 44 [.agg (Ct m),.int .i64 zone] (·= .tuple [.int .i64 r.1,.int .i64 r.2.1,.bool r.2.2]):=by
 refine Ad.nle (Ad.intro Tryz.func44 rfl rfl (by show _≤61;simp) ?_)
 unfold Fw at h
 refine nS (sq ?_)
 refine ar rfl (qn (sq (sq ?_)))
 refine rg rfl fun K j=>?_
 obtain⟨y1,bp,h⟩:=Ah h
 refine Al.pure Tryz.call95 (Z9 m zone bp) rfl fun _ hr=>?_
 subst hr
 refine nS ?_
 intro hm
 refine j _ _ (qn (bk ?_))
 obtain⟨o4,cp,mo⟩:=Ah h
 clear h
 refine AWP.Bw (ι:=Nat×(Int×Int×Bool)×(Unit)) (fun zz=>[(2,.ptr 0 0),(4,.int .i64 zz.2.1.1),(5,.int .i64 zz.2.1.2.1),(6,.bool zz.2.1.2.2),(17,.sl 1 (y1.map Bb)),(18,.int .i64 ((y1.length:Nat):Int)),(19,.int .i64 ((zz.1:Nat):Int))]) (fun zz=>[.box [.sl 2 (m.Nodes.map A5),.sl 8 (m.Lifts.map A6),.sl 7 (m.Runs.map Ba),.sl 1 (m.Bases.map Bb)]]) (fun zz=>zz.1≤y1.length∧An (Ev m) zz.1 ((y1).drop zz.1) zz.2.1=some o4) (fun zz=>y1.length - zz.1) (0,(0,0,false),()) ⟨Nat.zero_le _,cp⟩ cu cu (fun x=>⟨rfl,rfl,rfl⟩) ?_
 clear cp
 rintro⟨k4,⟨low2,tr,ok4⟩,⟨⟩⟩ ⟨si,cp⟩
 dsimp only at si cp ⊢
 refine sq (ar rfl (qn (sq ?_)))
 refine AWP.cond (Am (fun hc=>?_) (fun hc=>?_))
 rotate_left
 ·obtain rfl:=Bg cp (fun hl=>by have:=Ako hc;omega)
  have h:=Bf mo;try dsimp only at h
  have ag:y1.length=k4:=by have:=Ako hc;omega
  subst ag
  refine xt (qe (qe (bs (qn (sq (ar rfl (qn (rt ?_))))))))
  cases h;exact en Tryz.results44
 have js:k4<y1.length:=by have:=Akp hc;omega
 obtain⟨cx,b4,ma,h,cp⟩:=Bc cp js
 have vi:=A9 ma
 have ij:=wk (k:=k4) (by omega)
 unfold Ev at h;try dsimp only at h
 refine sk (qn (sq (bk (sq (rg rfl fun K j=>?_)))))
 refine Bo.of (f:=Bb) (l:=y1) vi ?_
 refine nS ?_
 refine j _ _ (qn (sq ?_))
 refine rg rfl fun K j=>?_
 obtain⟨y7,eo,h⟩:=Ah h
 refine Al.pure Tryz.call53 (Ei m cx eo) rfl fun _ hr=>?_
 subst hr
 refine nS ?_
 refine j _ _ (qn (sq ?_))
 refine rg rfl fun K j=>?_
 obtain⟨y8,fp,h⟩:=Ah h
 refine Al.pure Tryz.call96 (Dz m y7.1.From fp) rfl fun _ hr=>?_
 subst hr
 refine nS ?_
 refine j _ _ (qn (sq ?_))
 refine rg rfl fun K j=>?_
 obtain⟨y9,ic,h⟩:=Ah h
 refine Al.pure Tryz.call96 (Dz m y7.1.To ic) rfl fun _ hr=>?_
 subst hr
 refine nS ?_
 refine j _ _ (qn (sq (sq ?_)))
 refine ar rfl (qn ?_)
 revert h;refine ca rfl (fun hc h=>?_) fun hc h=>?_
 ·refine AWP.draw Tryz.mixed (by kernel_rfl) ?_;intro K j
  refine nS ?_
  refine j _ _ _ (by kernel_rfl) ?_
  refine qn (sq (ar rfl (qn ?_)))
  refine ar rfl (bn (qn ?_))
  refine ar rfl (qn ?_)
  obtain rfl:=Aa h
  refine⟨(k4+1,((if y9.1.Alt<y9.1.Alt then y9.1.Alt else y9.1.Alt),(if y8.1.Alt<y8.1.Alt then y8.1.Alt else y8.1.Alt),true),()),⟨by dsimp only;omega,Aj cp⟩,by dsimp only;omega,?_,?_⟩
  ·exact cuw ij
  exact cuw ij
 refine sk (qn (sq (ar rfl (qn ?_))))
 refine ar rfl (bn (qn ?_))
 refine ar rfl (qn ?_)
 obtain rfl:=Aa h
 refine⟨(k4+1,((if y9.1.Alt<low2 then y9.1.Alt else low2),(if tr<y8.1.Alt then y8.1.Alt else tr),ok4),()),⟨by dsimp only;omega,Aj cp⟩,by dsimp only;omega,?_,?_⟩
 ·exact cuw ij
 exact cuw ij
def L7 (span:Hc) (t:Int):Option (Bool):=
 (bif (decide (span.From≤t))then some (decide (t<span.To))else some false)
theorem S6 (span:Hc) (t:Int) {r:Bool} (h:L7 span t=some r):Ad Tryz.prog 197 [.agg (Sc span),.int .i64 t] (·= .bool r):=by
 refine Ad.nle (Ad.intro Tryz.func197 rfl rfl (by show _≤15;simp) ?_)
 unfold L7 at h
 refine nS (sq ?_)
 refine ar rfl (qn (sq ?_))
 refine rg rfl fun K j=>?_
 revert h;refine gt (fun hc h=>?_) fun hc h=>?_
 ·refine j _ _ (qn (rt ?_))
  cases h;exact en Tryz.results197
 refine j _ _ (qn (rt ?_))
 cases h;exact en Tryz.results197
def Fx (t:Int) (k1:Nat) (bb:Bi) (sv:Int):Option (Out (Int) (Int)):=
 (L7 bb.Span t).bind fun y4=>(bif y4 then(bif (decide (sv<bb.Version))then some (Out.next bb.Version)else some (Out.next sv))else some (Out.next sv))
def Ii (l:List Bi) (t:Int):Option (Int):=
 (An (Fx t) 0 l 0).bind fun o1=>o1.on fun s1=>some s1
theorem Wc (l:List Bi) (t:Int) {r:Int} (h:Ii l t=some r):Ad Tryz.prog 195 [.sl 7 (l.map Ar),.int .i64 t] (·= .int .i64 r):=by
 refine Ad.nle (Ad.intro Tryz.func195 rfl rfl (by show _≤28;simp) ?_)
 unfold Ii at h
 refine nS (sq ?_)
 refine ar rfl (qn (sq ?_))
 refine ar rfl (qn (sq (sq ?_)))
 refine rg rfl fun K j=>?_
 intro hm
 refine j _ _ (qn (bk ?_))
 obtain⟨o1,az,dj⟩:=Ah h
 clear h
 refine AWP.Bw (ι:=Nat×(Int)×(Unit)) (fun zz=>[(1,.int .i64 t),(5,.int .i64 zz.2.1),(8,.sl 7 (l.map Ar)),(9,.int .i64 ((l.length:Nat):Int)),(10,.int .i64 ((zz.1:Nat):Int))]) (fun zz=>[]) (fun zz=>zz.1≤l.length∧An (Fx t) zz.1 ((l).drop zz.1) zz.2.1=some o1) (fun zz=>l.length - zz.1) (0,0,()) ⟨Nat.zero_le _,az⟩ cu cu (fun x=>⟨rfl,rfl,rfl⟩) ?_
 clear az
 rintro⟨k1,version1,⟨⟩⟩ ⟨jd,az⟩
 dsimp only at jd az ⊢
 refine sq (ar rfl (qn (sq ?_)))
 refine AWP.cond (Am (fun hc=>?_) (fun hc=>?_))
 rotate_left
 ·obtain rfl:=Bg az (fun hl=>by have:=Ako hc;omega)
  have h:=Bf dj;try dsimp only at h
  have ag:l.length=k1:=by have:=Ako hc;omega
  subst ag
  refine xt (qe (qe (bs (qn (sq (ar rfl (qn (rt ?_))))))))
  cases h;exact en Tryz.results195
 have dy:k1<l.length:=by have:=Akp hc;omega
 obtain⟨bb,b1,ei,h,az⟩:=Bc az dy
 have jc:=A9 ei
 have cq:=wk (k:=k1) (by omega)
 unfold Fx at h;try dsimp only at h
 refine sk (qn (sq (bk (sq (rg rfl fun K j=>?_)))))
 refine Bo.of (f:=Ar) (l:=l) jc ?_
 refine nS ?_
 refine j _ _ (qn (sq ?_))
 refine rg rfl fun K j=>?_
 obtain⟨y4,cn,h⟩:=Ah h
 refine Al.pure Tryz.call197 (S6 bb.Span t cn) rfl fun _ hr=>?_
 subst hr
 refine nS ?_
 revert h;refine gt (fun hc h=>?_) fun hc h=>?_
 ·refine j _ _ (qn ?_)
  revert h;refine ca rfl (fun hc h=>?_) fun hc h=>?_
  ·refine ar rfl (bn (qn ?_))
   refine ar rfl (qn ?_)
   obtain rfl:=Aa h
   refine⟨(k1+1,bb.Version,()),⟨by dsimp only;omega,Aj az⟩,by dsimp only;omega,?_,?_⟩
   ·exact cuw cq
   exact cuw cq
  refine sk (bn (qn (ar rfl (qn ?_))))
  obtain rfl:=Aa h
  refine⟨(k1+1,version1,()),⟨by dsimp only;omega,Aj az⟩,by dsimp only;omega,?_,?_⟩
  ·exact cuw cq
  exact cuw cq
 refine j _ _ (qn ?_)
 refine AWP.cond (Bj ?_)
 refine sk (bn (qn (ar rfl (qn ?_))))
 obtain rfl:=Aa h
 refine⟨(k1+1,version1,()),⟨by dsimp only;omega,Aj az⟩,by dsimp only;omega,?_,?_⟩
 ·exact cuw cq
 exact cuw cq
def Kg (zone:Int) (low:Int) (high:Int) (t:Int) (y1:Int) (k2:Nat) (au:Bi) (sv:Int):Option (Out (Int) (Int)):=
 (bif (decide (au.Version=y1))then (L7 au.Span t).bind fun y5=>(bif y5 then(Br au.Zones zone).bind fun y6=>(bif y6 then(bif (decide (au.Low<high))then (bif (decide (low<au.High))then (bif (decide (sv<au.Level))then some (Out.next au.Level)else some (Out.next sv))else some (Out.next sv))else some (Out.next sv))else some (Out.next sv))else some (Out.next sv))else some (Out.next sv))
def Ih (l:List Bi) (zone:Int) (low:Int) (high:Int) (t:Int):Option (Int):=
 (Ii l t).bind fun y1=>(An (Kg zone low high t y1) 0 l 0).bind fun o2=>o2.on fun s2=>some s2
theorem Yv (l:List Bi) (zone:Int) (low:Int) (high:Int) (t:Int) {r:Int} (h:Ih l zone low high t=some r):Ad Tryz.prog 45 [.sl 7 (l.map Ar),.int .i64 zone,.int .i64 low,.int .i64 high,.int .i64 t] (·= .int .i64 r):=by
 refine Ad.nle (Ad.intro Tryz.func45 rfl rfl (by show _≤55;simp) ?_)
 unfold Ih at h
 refine nS (sq ?_)
 refine ar rfl (qn (sq ?_))
 refine rg rfl fun K j=>?_
 refine Al.inline Tryz.call97 Tryz.func97 rfl rfl (by show _≤10;simp) ?_
 refine nS (sq ?_)
 refine ar rfl (qn (sq ?_))
 refine rg rfl fun K j=>?_
 obtain⟨y1,bp,h⟩:=Ah h
 refine Al.pure Tryz.call195 (Wc l t bp) rfl fun _ hr=>?_
 subst hr
 refine nS ?_
 refine j _ _ (qn (sq ?_));clear j K
 refine ar rfl (qn (rt ?_))
 refine nSc Tryz.results97 ?_
 refine j _ _ (qn (sq ?_))
 refine ar rfl (qn (sq (sq ?_)))
 refine rg rfl fun K j=>?_
 intro hm
 refine j _ _ (qn (bk ?_))
 obtain⟨o2,ao,ek⟩:=Ah h
 clear h
 refine AWP.Bw (ι:=Nat×(Int)×(Unit)) (fun zz=>[(1,.int .i64 zone),(2,.int .i64 low),(3,.int .i64 high),(11,.func 196 [.ptr 1 0,.ptr 0 0]),(12,.int .i64 zz.2.1),(18,.sl 7 (l.map Ar)),(19,.int .i64 ((l.length:Nat):Int)),(20,.int .i64 ((zz.1:Nat):Int))]) (fun zz=>[.box [.int .i64 t],.box [.int .i64 y1]]) (fun zz=>zz.1≤l.length∧An (Kg zone low high t y1) zz.1 ((l).drop zz.1) zz.2.1=some o2) (fun zz=>l.length - zz.1) (0,0,()) ⟨Nat.zero_le _,ao⟩ cu cu (fun x=>⟨rfl,rfl,rfl⟩) ?_
 clear ao
 rintro⟨k2,level2,⟨⟩⟩ ⟨dp,ao⟩
 dsimp only at dp ao ⊢
 refine sq (ar rfl (qn (sq ?_)))
 refine AWP.cond (Am (fun hc=>?_) (fun hc=>?_))
 rotate_left
 ·obtain rfl:=Bg ao (fun hl=>by have:=Ako hc;omega)
  have h:=Bf ek;try dsimp only at h
  have ag:l.length=k2:=by have:=Ako hc;omega
  subst ag
  refine xt (qe (qe (bs (qn (sq (ar rfl (qn (rt ?_))))))))
  cases h;exact en Tryz.results45
 have ck:k2<l.length:=by have:=Akp hc;omega
 obtain⟨au,b2,dh,h,ao⟩:=Bc ao ck
 have ie:=A9 dh
 have bq:=wk (k:=k2) (by omega)
 unfold Kg at h;try dsimp only at h
 refine sk (qn (sq (bk (sq (rg rfl fun K j=>?_)))))
 refine Bo.of (f:=Ar) (l:=l) ie ?_
 refine nS ?_
 refine j _ _ (qn (sq ?_))
 refine rg rfl fun K j=>?_
 refine Al.inline Tryz.call196 Tryz.func196 rfl rfl (by show _≤15;simp) ?_
 refine nS (sq ?_)
 refine ar rfl (qn (sq ?_))
 refine rg rfl fun K j=>?_
 revert h;refine gt (fun hc h=>?_) fun hc h=>?_
 ·obtain⟨y5,db,h⟩:=Ah h
  refine Al.pure Tryz.call197 (S6 au.Span t db) rfl fun _ hr=>?_
  subst hr
  refine nS ?_
  refine j _ _ (qn (rt ?_));clear j K
  refine nSc Tryz.results196 ?_
  revert h;refine gt (fun hc h=>?_) fun hc h=>?_
  ·obtain⟨y6,ey,h⟩:=Ah h
   refine Al.pure Tryz.call54 (Bt au.Zones zone ey) rfl fun _ hr=>?_
   subst hr
   refine nS ?_
   revert h;refine gt (fun hc h=>?_) fun hc h=>?_
   ·revert h;refine gt (fun hc h=>?_) fun hc h=>?_
    ·revert h;refine gt (fun hc h=>?_) fun hc h=>?_
     ·refine j _ _ (qn ?_)
      revert h;refine ca rfl (fun hc h=>?_) fun hc h=>?_
      ·refine ar rfl (bn (qn ?_))
       refine ar rfl (qn ?_)
       obtain rfl:=Aa h
       refine⟨(k2+1,au.Level,()),⟨by dsimp only;omega,Aj ao⟩,by dsimp only;omega,?_,?_⟩
       ·exact cuw bq
       exact cuw bq
      refine sk (bn (qn (ar rfl (qn ?_))))
      obtain rfl:=Aa h
      refine⟨(k2+1,level2,()),⟨by dsimp only;omega,Aj ao⟩,by dsimp only;omega,?_,?_⟩
      ·exact cuw bq
      exact cuw bq
     refine j _ _ (qn ?_)
     refine AWP.cond (Bj ?_)
     refine sk (bn (qn (ar rfl (qn ?_))))
     obtain rfl:=Aa h
     refine⟨(k2+1,level2,()),⟨by dsimp only;omega,Aj ao⟩,by dsimp only;omega,?_,?_⟩
     ·exact cuw bq
     exact cuw bq
    refine j _ _ (qn ?_)
    refine AWP.cond (Bj ?_)
    refine sk (bn (qn (ar rfl (qn ?_))))
    obtain rfl:=Aa h
    refine⟨(k2+1,level2,()),⟨by dsimp only;omega,Aj ao⟩,by dsimp only;omega,?_,?_⟩
    ·exact cuw bq
    exact cuw bq
   refine j _ _ (qn ?_)
   refine AWP.cond (Bj ?_)
   refine sk (bn (qn (ar rfl (qn ?_))))
   obtain rfl:=Aa h
   refine⟨(k2+1,level2,()),⟨by dsimp only;omega,Aj ao⟩,by dsimp only;omega,?_,?_⟩
   ·exact cuw bq
   exact cuw bq
  refine j _ _ (qn ?_)
  refine AWP.cond (Bj ?_)
  refine sk (bn (qn (ar rfl (qn ?_))))
  obtain rfl:=Aa h
  refine⟨(k2+1,level2,()),⟨by dsimp only;omega,Aj ao⟩,by dsimp only;omega,?_,?_⟩
  ·exact cuw bq
  exact cuw bq
 refine j _ _ (qn (rt ?_));clear j K
 refine nSc Tryz.results196 ?_
 refine j _ _ (qn ?_)
 refine AWP.cond (Bj ?_)
 refine sk (bn (qn (ar rfl (qn ?_))))
 obtain rfl:=Aa h
 refine⟨(k2+1,level2,()),⟨by dsimp only;omega,Aj ao⟩,by dsimp only;omega,?_,?_⟩
 ·exact cuw bq
 exact cuw bq
def E2 (f_:Af) (k2:Nat) (_x:Unit) (sv:(List Int)):Option (Out ((List Int)) ((List Int))):=
 (Fw f_.Map (((k2:Nat):Int)+1)).bind fun y4=>(bif y4.2.2 then(Ih f_.Bulletin (((k2:Nat):Int)+1) y4.1 y4.2.1 f_.Time).bind fun y5=>chk (sv.length+1) (some (Out.next (sv++[y5])))else chk (sv.length+1) (some (Out.next (sv++[(0:Int)]))))
def E8 (f_:Af):Option ((List Int)):=
 Aax 32 ((Ki (E2 f_) 32 []).bind fun o2=>o2.on fun s2=>some s2)
theorem Vh (f_:Af) {r:(List Int)} (h:E8 f_=some r):Bu Tryz.prog 16 [.agg (Ce f_)] (·= .sl 1 (r.map Bb)):=by
 refine Bu.nle (Bu.intro Tryz.func16 rfl rfl (by show _≤36;simp) ?_)
 unfold E8 at h
 refine nS (sq ?_)
 refine ar rfl (qn (sq ?_))
 refine rg rfl fun K j=>?_
 obtain⟨hk,dp,h⟩:=Aaw h
 (repeat refine rp ?_);try simp +decide -implicitDefEqProofs only[go_sem]
 refine j _ _ (qn (sq (sq ?_)))
 refine ar rfl (qn (bk ?_))
 obtain⟨o2,ao,ek⟩:=Ah h
 clear h
 obtain⟨hn2,ao⟩:=S3 ao
 refine AWP.Bw (ι:=Nat×((List Int))×(Nat)) (fun zz=>[(1,.ptr 0 0),(3,.own 1 zz.2.2 0 zz.2.1.length),(4,.int .i64 (((zz.1:Nat):Int)+(1:Int)))]) (fun zz=>[.box [.sl 2 (f_.Map.Nodes.map A5),.sl 8 (f_.Map.Lifts.map A6),.sl 7 (f_.Map.Runs.map Ba),.sl 1 (f_.Map.Bases.map Bb),.sl 2 (f_.Lifts.map Av),.sl 4 (f_.Closures.map Au),.sl 4 (f_.Patrol.Bl.map Aq),.sl 3 (f_.Patrol.Hazards.map Ay),.sl 3 (f_.Surfaces.map A1),.sl 5 (f_.Packs.map Az),.sl 6 (f_.Slides.map A3),.sl 7 (f_.Bulletin.map Ar),.sl 7 (f_.Missions.map Ap),.sl 4 (f_.Winches.map Ak),.sl 8 (f_.Groomers.map Ax),.sl 3 (f_.Status.map Aw),.int .i64 f_.Depth,.int .i64 f_.Time],.row zz.2.2 1 (zz.2.1.map Bb)]) (fun zz=>zz.1≤32∧An (E2 f_) zz.1 ((List.replicate 32 ()).drop zz.1) zz.2.1=some o2) (fun zz=>32 - zz.1) (0,[],0) ⟨Nat.zero_le _,ao⟩ cu cu (fun x=>⟨rfl,rfl,rfl⟩) ?_
 clear ao
 rintro⟨k2,bo,cg⟩ ⟨dp,ao⟩
 dsimp only at dp ao ⊢
 refine sq (sq (ar rfl (qn ?_)))
 refine AWP.cond (Am (fun hc=>?_) (fun hc=>?_))
 rotate_left
 ·obtain rfl:=Bg ao (fun hl=>by rw[Akx]at hl;have:=Ako hc;omega)
  have h:=Bf ek;try dsimp only at h
  have ag:32=k2:=by have:=Ako hc;omega
  subst ag
  refine xt (qe (qe (bs (qn (sq (ar rfl (qn (rt ?_))))))))
  cases h;exact en Tryz.results16
 have ck:k2<32:=by have:=Akp hc;omega
 obtain⟨_,b2,_,h,ao⟩:=Bc ao (by rw[Akx];exact ck)
 have bq:IntKind.i64.wrap ((((k2:Nat):Int)+1)+1)=(((k2:Nat):Int)+1+1):=by rw[wrap_i64]<;>omega
 unfold E2 at h;try dsimp only at h
 refine sk (qn (sq (bk (sq (ar rfl (qn (sq (sq ?_))))))))
 refine rg rfl fun K j=>?_
 obtain⟨y4,cn,h⟩:=Ah h
 refine Al.pure Tryz.call44 (Tu f_.Map (((k2:Nat):Int)+1) cn) rfl fun _ hr=>?_
 subst hr
 refine nS ?_
 refine j _ _ (qn (sq ?_))
 refine ar rfl (qn ?_)
 revert h;refine ca rfl (fun hc h=>?_) fun hc h=>?_
 ·refine rg rfl fun K j=>?_
  obtain⟨y5,db,h⟩:=Ah h
  refine Al.pure Tryz.call45 (Yv f_.Bulletin (((k2:Nat):Int)+1) y4.1 y4.2.1 f_.Time db) rfl fun _ hr=>?_
  subst hr
  refine nS ?_
  refine j _ _ (qn ?_)
  refine rg rfl fun K j=>?_
  obtain⟨hk,h⟩:=Bx h
  (repeat refine rp ?_);try simp +decide -implicitDefEqProofs only[go_sem]
  refine j _ _ (bn (qn ?_))
  refine ar rfl (qn ?_)
  obtain rfl:=Aa h
  refine⟨(k2+1,(bo++[y5]),(cg+1)),⟨by dsimp only;omega,Aj ao⟩,by dsimp only;omega,?_,?_⟩
  ·exact cuw bq
  exact cuw bq
 refine sk (qn (rg rfl fun K j=>?_))
 obtain⟨hk,h⟩:=Bx h
 (repeat refine rp ?_);try simp +decide -implicitDefEqProofs only[go_sem]
 refine j _ _ (bn (qn ?_))
 refine ar rfl (qn ?_)
 obtain rfl:=Aa h
 refine⟨(k2+1,(bo++[(0:Int)]),(cg+1)),⟨by dsimp only;omega,Aj ao⟩,by dsimp only;omega,?_,?_⟩
 ·exact cuw bq
 exact cuw bq
theorem V9 (f_:Af) {r:(List Int)} (h:E8 f_=some r):Ad Tryz.prog 16 [.agg (Ce f_)] (·= .sl 1 (r.map Bb)):=(Vh f_ h).pure
def Gh (levels:List Int) (k1:Nat) (bb:Int) (sv:Int):Option (Out (Int) (Int)):=
 (bif (decide (1≤bb))then (bif (decide (bb≤((levels.length:Nat):Int)))then (Dv levels (IntKind.i64.wrap (bb - 1))).bind fun au=>(bif (decide (((k1:Nat):Int)=0))then some (Out.next au)else (bif (decide (sv<au))then some (Out.next au)else some (Out.next sv)))else (bif (decide (((k1:Nat):Int)=0))then some (Out.next 0)else (bif (decide (sv<0))then some (Out.next 0)else some (Out.next sv))))else (bif (decide (((k1:Nat):Int)=0))then some (Out.next 0)else (bif (decide (sv<0))then some (Out.next 0)else some (Out.next sv))))
def M9 (s_:Be) (levels:List Int):Option (Int):=
 (An (Gh levels) 0 s_.Zones 0).bind fun o1=>o1.on fun s1=>some s1
theorem Xq (s_:Be) (levels:List Int) {r:Int} (h:M9 s_ levels=some r):Ad Tryz.prog 263 [.agg (A3 s_),.sl 1 (levels.map Bb)] (·= .int .i64 r):=by
 refine Ad.nle (Ad.intro Tryz.func263 rfl rfl (by show _≤40;simp) ?_)
 unfold M9 at h
 refine nS (sq ?_)
 refine ar rfl (qn (sq ?_))
 refine ar rfl (qn (sq (sq ?_)))
 refine rg rfl fun K j=>?_
 intro hm
 refine j _ _ (qn (bk ?_))
 obtain⟨o1,az,dj⟩:=Ah h
 clear h
 refine AWP.Bw (ι:=Nat×(Int)×(Unit)) (fun zz=>[(1,.sl 1 (levels.map Bb)),(5,.int .i64 zz.2.1),(10,.sl 1 (s_.Zones.map Bb)),(11,.int .i64 ((s_.Zones.length:Nat):Int)),(12,.int .i64 ((zz.1:Nat):Int))]) (fun zz=>[]) (fun zz=>zz.1≤s_.Zones.length∧An (Gh levels) zz.1 ((s_.Zones).drop zz.1) zz.2.1=some o1) (fun zz=>s_.Zones.length - zz.1) (0,0,()) ⟨Nat.zero_le _,az⟩ cu cu (fun x=>⟨rfl,rfl,rfl⟩) ?_
 clear az
 rintro⟨k1,greatest1,⟨⟩⟩ ⟨jd,az⟩
 dsimp only at jd az ⊢
 refine sq (ar rfl (qn (sq ?_)))
 refine AWP.cond (Am (fun hc=>?_) (fun hc=>?_))
 rotate_left
 ·obtain rfl:=Bg az (fun hl=>by have:=Ako hc;omega)
  have h:=Bf dj;try dsimp only at h
  have ag:s_.Zones.length=k1:=by have:=Ako hc;omega
  subst ag
  refine xt (qe (qe (bs (qn (sq (ar rfl (qn (rt ?_))))))))
  cases h;exact en Tryz.results263
 have dy:k1<s_.Zones.length:=by have:=Akp hc;omega
 obtain⟨bb,b1,ei,h,az⟩:=Bc az dy
 have jc:=A9 ei
 have cq:=wk (k:=k1) (by omega)
 unfold Gh at h;try dsimp only at h
 refine sk (qn (sq (bk (sq (rg rfl fun K j=>?_)))))
 refine Bo.of (f:=Bb) (l:=s_.Zones) jc ?_
 refine nS ?_
 refine j _ _ (qn (sq ?_))
 refine ar rfl (qn (sq (sq ?_)))
 refine rg rfl fun K j=>?_
 revert h;refine gt (fun hc h=>?_) fun hc h=>?_
 ·intro hm
  refine j _ _ (qn ?_)
  revert h;refine ca rfl (fun hc h=>?_) fun hc h=>?_
  ·refine rg rfl fun K j=>?_
   obtain⟨au,gp,h⟩:=Ah h
   refine Bo.of (f:=Bb) (l:=levels) gp ?_
   refine nS ?_
   refine j _ _ (qn (sq ?_))
   refine rg rfl fun K j=>?_
   revert h;refine gf (fun hc h=>?_) fun hc h=>?_
   ·refine j _ _ (qn ?_)
    revert h;refine ca rfl (fun hc h=>?_) fun hc h=>?_
    ·refine ar rfl (bn (qn ?_))
     refine ar rfl (qn ?_)
     obtain rfl:=Aa h
     refine⟨(k1+1,au,()),⟨by dsimp only;omega,Aj az⟩,by dsimp only;omega,?_,?_⟩
     ·exact cuw cq
     exact cuw cq
    refine sk (bn (qn (ar rfl (qn ?_))))
    obtain rfl:=Aa h
    refine⟨(k1+1,greatest1,()),⟨by dsimp only;omega,Aj az⟩,by dsimp only;omega,?_,?_⟩
    ·exact cuw cq
    exact cuw cq
   refine j _ _ (qn ?_)
   refine AWP.cond (Ai ?_)
   refine ar rfl (bn (qn ?_))
   refine ar rfl (qn ?_)
   obtain rfl:=Aa h
   refine⟨(k1+1,au,()),⟨by dsimp only;omega,Aj az⟩,by dsimp only;omega,?_,?_⟩
   ·exact cuw cq
   exact cuw cq
  refine sk (qn (sq (rg rfl fun K j=>?_)))
  revert h;refine gf (fun hc h=>?_) fun hc h=>?_
  ·refine j _ _ (qn ?_)
   revert h;refine ca rfl (fun hc h=>?_) fun hc h=>?_
   ·refine ar rfl (bn (qn ?_))
    refine ar rfl (qn ?_)
    obtain rfl:=Aa h
    refine⟨(k1+1,0,()),⟨by dsimp only;omega,Aj az⟩,by dsimp only;omega,?_,?_⟩
    ·exact cuw cq
    exact cuw cq
   refine sk (bn (qn (ar rfl (qn ?_))))
   obtain rfl:=Aa h
   refine⟨(k1+1,greatest1,()),⟨by dsimp only;omega,Aj az⟩,by dsimp only;omega,?_,?_⟩
   ·exact cuw cq
   exact cuw cq
  refine j _ _ (qn ?_)
  refine AWP.cond (Ai ?_)
  refine ar rfl (bn (qn ?_))
  refine ar rfl (qn ?_)
  obtain rfl:=Aa h
  refine⟨(k1+1,0,()),⟨by dsimp only;omega,Aj az⟩,by dsimp only;omega,?_,?_⟩
  ·exact cuw cq
  exact cuw cq
 refine j _ _ (qn ?_)
 refine AWP.cond (Bj ?_)
 refine sk (qn (sq (rg rfl fun K j=>?_)))
 revert h;refine gf (fun hc h=>?_) fun hc h=>?_
 ·refine j _ _ (qn ?_)
  revert h;refine ca rfl (fun hc h=>?_) fun hc h=>?_
  ·refine ar rfl (bn (qn ?_))
   refine ar rfl (qn ?_)
   obtain rfl:=Aa h
   refine⟨(k1+1,0,()),⟨by dsimp only;omega,Aj az⟩,by dsimp only;omega,?_,?_⟩
   ·exact cuw cq
   exact cuw cq
  refine sk (bn (qn (ar rfl (qn ?_))))
  obtain rfl:=Aa h
  refine⟨(k1+1,greatest1,()),⟨by dsimp only;omega,Aj az⟩,by dsimp only;omega,?_,?_⟩
  ·exact cuw cq
  exact cuw cq
 refine j _ _ (qn ?_)
 refine AWP.cond (Ai ?_)
 refine ar rfl (bn (qn ?_))
 refine ar rfl (qn ?_)
 obtain rfl:=Aa h
 refine⟨(k1+1,0,()),⟨by dsimp only;omega,Aj az⟩,by dsimp only;omega,?_,?_⟩
 ·exact cuw cq
 exact cuw cq
def Gg (s_:Be) (levels:List Int):Option (Bool):=
 (bif (decide (s_.Limit≤s_.Load))then some true else(M9 s_ levels).bind fun y1=>(bif (decide (y1=3))then some (decide ((IntKind.i64.wrap (Int.tdiv s_.Limit 2))≤s_.Load))else (bif (decide (y1=4))then some (decide ((IntKind.i64.wrap (Int.tdiv s_.Limit 4))≤s_.Load))else some (decide (4<y1)))))
theorem Ur (s_:Be) (levels:List Int) {r:Bool} (h:Gg s_ levels=some r):Ad Tryz.prog 205 [.agg (A3 s_),.sl 1 (levels.map Bb)] (·= .bool r):=by
 refine Ad.nle (Ad.intro Tryz.func205 rfl rfl (by show _≤33;simp) ?_)
 unfold Gg at h
 refine nS (sq ?_)
 refine ar rfl (qn (sq (sq ?_)))
 refine ar rfl (qn ?_)
 revert h;refine ca rfl (fun hc h=>?_) fun hc h=>?_
 ·refine sq (ar rfl (qn (rt (qr ?_))))
  cases h;exact en Tryz.results205
 refine sk (qn (sq (rg rfl fun K j=>?_)))
 obtain⟨y1,bp,h⟩:=Ah h
 refine Al.pure Tryz.call263 (Xq s_ levels bp) rfl fun _ hr=>?_
 subst hr
 refine nS ?_
 refine j _ _ (qn (sq ?_))
 refine ar rfl (qn (bk (sq ?_)))
 refine ar rfl (qn ?_)
 revert h;refine ca rfl (fun hc h=>?_) fun hc h=>?_
 ·refine sq (ar rfl (qn (rt (br ?_))))
  cases h;exact en Tryz.results205
 refine sq (ar rfl (qn ?_))
 revert h;refine ca rfl (fun hc h=>?_) fun hc h=>?_
 ·refine sq (ar rfl (qn (rt (br ?_))))
  cases h;exact en Tryz.results205
 refine sq (ar rfl (qn (rt (br ?_))))
 cases h;exact en Tryz.results205
def Jd (levels:List Int) (k2:Nat) (au:Be) (sv:(List Int)):Option (Out ((List Int)) ((List Int))):=
 (Gg au levels).bind fun y5=>(bif y5 then chk (sv.length+au.Zones.length) (some (Out.next (sv++au.Zones)))else some (Out.next sv))
def Gt (l:List Be) (levels:List Int):Option ((List Int)):=
 (An (Jd levels) 0 l []).bind fun o2=>o2.on fun s2=>chk s2.length (chk s2.length (some (Cu (Dk s2))))
theorem Wd (l:List Be) (levels:List Int) {r:(List Int)} (h:Gt l levels=some r):Bu Tryz.prog 106 [.sl 6 (l.map A3),.sl 1 (levels.map Bb)] (·= .sl 1 (r.map Bb)):=by
 refine Bu.nle (Bu.intro Tryz.func106 rfl rfl (by show _≤26;simp) ?_)
 unfold Gt at h
 refine nS (sq ?_)
 refine ar rfl (qn (sq ?_))
 refine ar rfl (qn (sq (sq ?_)))
 refine rg rfl fun K j=>?_
 intro hm
 refine j _ _ (qn (bk ?_))
 refine AWP.ghost 5 1 rfl (by decide) ?_
 obtain⟨o2,ao,ek⟩:=Ah h
 clear h
 refine AWP.Bw (ι:=Nat×((List Int))×(Nat)) (fun zz=>[(1,.sl 1 (levels.map Bb)),(5,.own 0 zz.2.2 0 zz.2.1.length),(8,.sl 6 (l.map A3)),(9,.int .i64 ((l.length:Nat):Int)),(10,.int .i64 ((zz.1:Nat):Int))]) (fun zz=>[.row zz.2.2 1 (zz.2.1.map Bb)]) (fun zz=>zz.1≤l.length∧An (Jd levels) zz.1 ((l).drop zz.1) zz.2.1=some o2) (fun zz=>l.length - zz.1) (0,[],0) ⟨Nat.zero_le _,ao⟩ cu cu (fun x=>⟨rfl,rfl,rfl⟩) ?_
 clear ao
 rintro⟨k2,bo,cg⟩ ⟨dp,ao⟩
 dsimp only at dp ao ⊢
 refine sq (ar rfl (qn (sq ?_)))
 refine AWP.cond (Am (fun hc=>?_) (fun hc=>?_))
 rotate_left
 ·obtain rfl:=Bg ao (fun hl=>by have:=Ako hc;omega)
  have h:=Bf ek;try dsimp only at h
  have ag:l.length=k2:=by have:=Ako hc;omega
  subst ag
  refine xt (qe (qe (bs (qn (sq (rg rfl fun K j=>?_))))))
  obtain⟨hk,h⟩:=Bx h
  refine Al.Dk Tryz.call68 Tryz.sorts68 rfl (by first | rfl | exact(Cy _).symm | (simp only[Akw,List.length_cons,List.length_nil,List.length_set,Akx]<;>omega)) hk ?_
  refine nS ?_
  refine j _ _ (qn (sq ?_))
  refine rg rfl fun K j=>?_
  obtain⟨hk,h⟩:=Bx h
  refine Al.Cu Tryz.call69 Tryz.compacts69 rfl (by first | rfl | exact(Cy _).symm | (simp only[Akw,List.length_cons,List.length_nil,List.length_set,Akx]<;>omega)) hk ?_
  refine nS ?_
  refine j _ _ (qn (rt ?_))
  cases h;exact en Tryz.results106
 have ck:k2<l.length:=by have:=Akp hc;omega
 obtain⟨au,b2,dh,h,ao⟩:=Bc ao ck
 have ie:=A9 dh
 have bq:=wk (k:=k2) (by omega)
 unfold Jd at h;try dsimp only at h
 refine sk (qn (sq (bk (sq (rg rfl fun K j=>?_)))))
 refine Bo.of (f:=A3) (l:=l) ie ?_
 refine nS ?_
 refine j _ _ (qn (sq ?_))
 refine rg rfl fun K j=>?_
 obtain⟨y5,db,h⟩:=Ah h
 refine Al.pure Tryz.call205 (Ur au levels db) rfl fun _ hr=>?_
 subst hr
 refine nS ?_
 refine j _ _ (qn ?_)
 revert h;refine ca rfl (fun hc h=>?_) fun hc h=>?_
 ·refine rg rfl fun K j=>?_
  obtain⟨hk,h⟩:=Bx h
  (repeat refine rp ?_);try simp +decide -implicitDefEqProofs only[go_sem]
  refine j _ _ (bn (qn ?_))
  refine ar rfl (qn ?_)
  obtain rfl:=Aa h
  refine⟨(k2+1,(bo++au.Zones),(cg+1)),⟨by dsimp only;omega,Aj ao⟩,by dsimp only;omega,?_,?_⟩
  ·exact cuw bq
  exact cuw bq
 refine sk (bn (qn (ar rfl (qn ?_))))
 obtain rfl:=Aa h
 refine⟨(k2+1,bo,cg),⟨by dsimp only;omega,Aj ao⟩,by dsimp only;omega,?_,?_⟩
 ·exact cuw bq
 exact cuw bq
theorem Xo (l:List Be) (levels:List Int) {r:(List Int)} (h:Gt l levels=some r):Ad Tryz.prog 106 [.sl 6 (l.map A3),.sl 1 (levels.map Bb)] (·= .sl 1 (r.map Bb)):=(Wd l levels h).pure
def R2 (run:Int) (k0:Nat) (ab:Ch) (sv:Unit):Option (Out (Unit) (Int)):=
 (bif (decide (ab.Run=run))then some (Out.ret ((k0:Nat):Int))else some (Out.next ()))
def K9 (p:B9) (run:Int):Option (Int):=
 (An (R2 run) 0 p.Bl ()).bind fun o0=>o0.on fun s0=>some (-1)
theorem Uk (p:B9) (run:Int) {r:Int} (h:K9 p run=some r):Ad Tryz.prog 162 [.agg (I9 p),.int .i64 run] (·= .int .i64 r):=by
 refine Ad.nle (Ad.intro Tryz.func162 rfl rfl (by show _≤9;simp) ?_)
 unfold K9 at h
 refine nS (sq ?_)
 refine ar rfl (qn (sq ?_))
 refine rg rfl fun K j=>?_
 refine Al.inline Tryz.call243 Tryz.func243 rfl rfl (by show _≤19;simp) ?_
 refine nS (sq ?_)
 refine ar rfl (qn (sq (sq ?_)))
 refine rg rfl fun K j=>?_
 intro hm
 refine j _ _ (qn (bk ?_));clear j K
 obtain⟨o0,aa,ae⟩:=Ah h
 clear h
 refine AWP.Bw (ι:=Nat×(Unit)×(Unit)) (fun zz=>[(0,.sl 4 (p.Bl.map Aq)),(1,.func 244 [.ptr 1 0]),(7,.int .i64 ((p.Bl.length:Nat):Int)),(8,.int .i64 ((zz.1:Nat):Int))]) (fun zz=>[.box [.sl 4 (p.Bl.map Aq),.sl 3 (p.Hazards.map Ay)],.box [.int .i64 run]]) (fun zz=>zz.1≤p.Bl.length∧An (R2 run) zz.1 ((p.Bl).drop zz.1) zz.2.1=some o0) (fun zz=>p.Bl.length - zz.1) (0,(),()) ⟨Nat.zero_le _,aa⟩ cu cu (fun x=>⟨rfl,rfl,rfl⟩) ?_
 clear aa
 rintro⟨k0,⟨⟩,⟨⟩⟩ ⟨bg,aa⟩
 dsimp only at bg aa ⊢
 refine sq (ar rfl (qn (sq ?_)))
 refine AWP.cond (Am (fun hc=>?_) (fun hc=>?_))
 rotate_left
 ·obtain rfl:=Bg aa (fun hl=>by have:=Ako hc;omega)
  have h:=Bf ae;try dsimp only at h
  have ag:p.Bl.length=k0:=by have:=Ako hc;omega
  subst ag
  refine xt (qe (qe (bs (qn (sq (ar rfl (qn (rt ?_))))))))
  refine nSc Tryz.results243 ?_
  refine j _ _ (qn (rt ?_))
  cases h;exact en Tryz.results162
 have ah:k0<p.Bl.length:=by have:=Akp hc;omega
 obtain⟨ab,b0,aj,h,aa⟩:=Bc aa ah
 have aw:=A9 aj
 have ak:=wk (k:=k0) (by omega)
 unfold R2 at h;try dsimp only at h
 refine sk (qn (sq (bk (sq (ar rfl (qn (sq ?_)))))))
 refine rg rfl fun K j=>?_
 refine Bo.of (f:=Aq) (l:=p.Bl) aw ?_
 refine nS ?_
 refine Al.inline Tryz.call244 Tryz.func244 rfl rfl (by show _≤8;simp) ?_
 refine nS (sq ?_)
 refine ar rfl (qn (sq ?_))
 refine ar rfl (qn (rt ?_))
 refine nSc Tryz.results244 ?_
 refine j _ _ (qn ?_);clear j K
 revert h;refine ca rfl (fun hc h=>?_) fun hc h=>?_
 ·refine sq (ar rfl (qn (rt (br (qr (qr ?_))))))
  obtain rfl:=Aa h
  obtain rfl:=Ae aa
  replace h:=Ao ae
  refine br (qr (nSc Tryz.results243 ?_))
  refine j _ _ (qn (rt ?_))
  cases h;exact en Tryz.results162
 refine sk (bn (qn (ar rfl (qn ?_))))
 obtain rfl:=Aa h
 refine⟨(k0+1,(),()),⟨by dsimp only;omega,Aj aa⟩,by dsimp only;omega,?_,?_⟩
 ·exact cuw ak
 exact cuw ak
def Jq (l:Bq) (t:Int) (bo:List Int) (au:Int) (k4:Nat) (cx:F2) (sv:Unit):Option (Out (Unit) (Out ((List Int)) ((List Int)))):=
 (bif (decide (cx.Item=au))then (bif (decide (cx.At≤t))then (bif (decide (t<(IntKind.i64.wrap (cx.At+l.Every))))then ((bif (!(decide (0≤((k4:Nat):Int))))then chk (bo.length+1) (some (Out.next (bo++[au])))else some (Out.next bo))).bind fun q6=>some (Out.ret q6)else some (Out.next ()))else some (Out.next ()))else some (Out.next ()))
def Jr (l:Bq) (t:Int) (k2:Nat) (au:Int) (sv:(List Int)):Option (Out ((List Int)) ((List Int))):=
 (An (Jq l t sv au) 0 l.Signs ()).bind fun o4=>o4.on fun s4=>chk (sv.length+1) (some (Out.next (sv++[au])))
def L3 (l:Bq) (t:Int):Option ((List Int)):=
 (An (Jr l t) 0 l.Items []).bind fun o2=>o2.on fun s2=>some s2
theorem Zr (l:Bq) (t:Int) {r:(List Int)} (h:L3 l t=some r):Bu Tryz.prog 264 [.agg (Fu l),.int .i64 t] (·= .sl 1 (r.map Bb)):=by
 refine Bu.nle (Bu.intro Tryz.func264 rfl rfl (by show _≤28;simp) ?_)
 unfold L3 at h
 refine nS (sq ?_)
 refine ar rfl (qn (sq ?_))
 refine ar rfl (qn (sq (sq ?_)))
 refine rg rfl fun K j=>?_
 intro hm
 refine j _ _ (qn (bk ?_))
 refine AWP.ghost 5 1 rfl (by decide) ?_
 obtain⟨o2,ao,ek⟩:=Ah h
 clear h
 refine AWP.Bw (ι:=Nat×((List Int))×(Nat)) (fun zz=>[(2,.ptr 0 0),(3,.ptr 1 0),(5,.own 2 zz.2.2 0 zz.2.1.length),(10,.sl 1 (l.Items.map Bb)),(11,.int .i64 ((l.Items.length:Nat):Int)),(12,.int .i64 ((zz.1:Nat):Int))]) (fun zz=>[.box [.sl 1 (l.Items.map Bb),.int .i64 l.Every,.sl 3 (l.Signs.map Cl)],.box [.int .i64 t],.row zz.2.2 1 (zz.2.1.map Bb)]) (fun zz=>zz.1≤l.Items.length∧An (Jr l t) zz.1 ((l.Items).drop zz.1) zz.2.1=some o2) (fun zz=>l.Items.length - zz.1) (0,[],0) ⟨Nat.zero_le _,ao⟩ cu cu (fun x=>⟨rfl,rfl,rfl⟩) ?_
 clear ao
 rintro⟨k2,bo,cg⟩ ⟨dp,ao⟩
 dsimp only at dp ao ⊢
 refine sq (ar rfl (qn (sq ?_)))
 refine AWP.cond (Am (fun hc=>?_) (fun hc=>?_))
 rotate_left
 ·obtain rfl:=Bg ao (fun hl=>by have:=Ako hc;omega)
  have h:=Bf ek;try dsimp only at h
  have ag:l.Items.length=k2:=by have:=Ako hc;omega
  subst ag
  refine xt (qe (qe (bs (qn (sq (ar rfl (qn (rt ?_))))))))
  cases h;exact en Tryz.results264
 have ck:k2<l.Items.length:=by have:=Akp hc;omega
 obtain⟨au,b2,dh,h,ao⟩:=Bc ao ck
 have ie:=A9 dh
 have bq:=wk (k:=k2) (by omega)
 unfold Jr at h;try dsimp only at h
 refine sk (qn (sq (bk (sq (rg rfl fun K j=>?_)))))
 refine Bo.of (f:=Bb) (l:=l.Items) ie ?_
 refine nS ?_
 refine j _ _ (qn (sq ?_))
 refine ar rfl (qn (sq ?_))
 refine rg rfl fun K j=>?_
 refine Al.inline Tryz.call280 Tryz.func280 rfl rfl (by show _≤9;simp) ?_
 refine nS (sq ?_)
 refine ar rfl (qn (sq ?_))
 refine rg rfl fun K j=>?_
 refine Al.inline Tryz.call286 Tryz.func286 rfl rfl (by show _≤19;simp) ?_
 refine nS (sq ?_)
 refine ar rfl (qn (sq (sq ?_)))
 refine rg rfl fun K j=>?_
 intro hm
 refine j _ _ (qn (bk ?_));clear j K
 obtain⟨o4,cp,mo⟩:=Ah h
 clear h
 refine AWP.Bw (ι:=Nat×(Unit)×(Unit)) (fun zz=>[(0,.sl 3 (l.Signs.map Cl)),(1,.func 279 [.ptr 3 0,.ptr 1 0,.ptr 0 0]),(7,.int .i64 ((l.Signs.length:Nat):Int)),(8,.int .i64 ((zz.1:Nat):Int))]) (fun zz=>[.box [.sl 1 (l.Items.map Bb),.int .i64 l.Every,.sl 3 (l.Signs.map Cl)],.box [.int .i64 t],.row cg 1 (bo.map Bb),.box [.int .i64 au]]) (fun zz=>zz.1≤l.Signs.length∧An (Jq l t bo au) zz.1 ((l.Signs).drop zz.1) zz.2.1=some o4) (fun zz=>l.Signs.length - zz.1) (0,(),()) ⟨Nat.zero_le _,cp⟩ cu cu (fun x=>⟨rfl,rfl,rfl⟩) ?_
 clear cp
 rintro⟨k4,⟨⟩,⟨⟩⟩ ⟨si,cp⟩
 dsimp only at si cp ⊢
 refine sq (ar rfl (qn (sq ?_)))
 refine AWP.cond (Am (fun hc=>?_) (fun hc=>?_))
 rotate_left
 ·obtain rfl:=Bg cp (fun hl=>by have:=Ako hc;omega)
  have h:=Bf mo;try dsimp only at h
  have ag:l.Signs.length=k4:=by have:=Ako hc;omega
  subst ag
  refine xt (qe (qe (bs (qn (sq (ar rfl (qn (rt ?_))))))))
  refine nSc Tryz.results286 ?_
  refine j _ _ (qn (rt ?_));clear j K
  refine nSc Tryz.results280 ?_
  refine j _ _ (qn ?_)
  refine AWP.cond (Ai ?_)
  refine rg rfl fun K j=>?_
  obtain⟨hk,h⟩:=Bx h
  (repeat refine rp ?_);try simp +decide -implicitDefEqProofs only[go_sem]
  refine j _ _ (bn (qn ?_))
  refine ar rfl (qn ?_)
  obtain rfl:=Aa h
  refine⟨(k2+1,(bo++[au]),(cg+1)),⟨by dsimp only;omega,Aj ao⟩,by dsimp only;omega,?_,?_⟩
  ·exact cuw bq
  exact cuw bq
 have js:k4<l.Signs.length:=by have:=Akp hc;omega
 obtain⟨cx,b4,ma,h,cp⟩:=Bc cp js
 have vi:=A9 ma
 have ij:=wk (k:=k4) (by omega)
 unfold Jq at h;try dsimp only at h
 refine sk (qn (sq (bk (sq (ar rfl (qn (sq ?_)))))))
 refine rg rfl fun K j=>?_
 refine Bo.of (f:=Cl) (l:=l.Signs) vi ?_
 refine nS ?_
 refine Al.inline Tryz.call279 Tryz.func279 rfl rfl (by show _≤25;simp) ?_
 refine nS (sq ?_)
 refine ar rfl (qn (sq ?_))
 refine rg rfl fun K j=>?_
 revert h;refine gt (fun hc h=>?_) fun hc h=>?_
 ·revert h;refine gt (fun hc h=>?_) fun hc h=>?_
  ·refine j _ _ (qn (rt ?_));clear j K
   refine nSc Tryz.results279 ?_
   refine j _ _ (qn ?_);clear j K
   revert h;refine ca rfl (fun hc h=>?_) fun hc h=>?_
   ·refine sq (ar rfl (qn (rt (br (qr (qr ?_))))))
    obtain⟨q6,hq,h⟩:=Ah h
    obtain rfl:=Aa h
    obtain rfl:=Ae cp
    replace h:=hq.trans (Ao mo)
    refine br (qr (nSc Tryz.results286 ?_))
    refine j _ _ (qn (rt ?_));clear j K
    refine nSc Tryz.results280 ?_
    refine j _ _ (qn ?_)
    revert h;refine ca rfl (fun hc h=>?_) fun hc h=>?_
    ·refine rg rfl fun K j=>?_
     obtain⟨hk,h⟩:=Bx h
     (repeat refine rp ?_);try simp +decide -implicitDefEqProofs only[go_sem]
     refine j _ _ (bn (qn ?_))
     refine ar rfl (qn ?_)
     obtain rfl:=Aa h
     refine⟨(k2+1,(bo++[au]),(cg+1)),⟨by dsimp only;omega,Aj ao⟩,by dsimp only;omega,?_,?_⟩
     ·exact cuw bq
     exact cuw bq
    refine sk (bn (qn (ar rfl (qn ?_))))
    obtain rfl:=Aa h
    refine⟨(k2+1,bo,cg),⟨by dsimp only;omega,Aj ao⟩,by dsimp only;omega,?_,?_⟩
    ·exact cuw bq
    exact cuw bq
   refine sk (bn (qn (ar rfl (qn ?_))))
   obtain rfl:=Aa h
   refine⟨(k4+1,(),()),⟨by dsimp only;omega,Aj cp⟩,by dsimp only;omega,?_,?_⟩
   ·exact cuw ij
   exact cuw ij
  refine j _ _ (qn (rt ?_));clear j K
  refine nSc Tryz.results279 ?_
  refine j _ _ (qn ?_);clear j K
  refine AWP.cond (Bj ?_)
  refine sk (bn (qn (ar rfl (qn ?_))))
  obtain rfl:=Aa h
  refine⟨(k4+1,(),()),⟨by dsimp only;omega,Aj cp⟩,by dsimp only;omega,?_,?_⟩
  ·exact cuw ij
  exact cuw ij
 refine j _ _ (qn (rt ?_));clear j K
 refine nSc Tryz.results279 ?_
 refine j _ _ (qn ?_);clear j K
 refine AWP.cond (Bj ?_)
 refine sk (bn (qn (ar rfl (qn ?_))))
 obtain rfl:=Aa h
 refine⟨(k4+1,(),()),⟨by dsimp only;omega,Aj cp⟩,by dsimp only;omega,?_,?_⟩
 ·exact cuw ij
 exact cuw ij
theorem aL (l:Bq) (t:Int) {r:(List Int)} (h:L3 l t=some r):Ad Tryz.prog 264 [.agg (Fu l),.int .i64 t] (·= .sl 1 (r.map Bb)):=(Zr l t h).pure
def Ow (l:Bq) (t:Int):Option (Bool):=
 (L3 l t).bind fun y1=>some (decide (((y1.length:Nat):Int)=0))
theorem aM (l:Bq) (t:Int) {r:Bool} (h:Ow l t=some r):Ad Tryz.prog 206 [.agg (Fu l),.int .i64 t] (·= .bool r):=by
 refine Ad.nle (Ad.intro Tryz.func206 rfl rfl (by show _≤10;simp) ?_)
 unfold Ow at h
 refine nS (sq ?_)
 refine ar rfl (qn (sq ?_))
 refine rg rfl fun K j=>?_
 obtain⟨y1,bp,h⟩:=Ah h
 refine Al.pure Tryz.call264 (aL l t bp) rfl fun _ hr=>?_
 subst hr
 refine nS ?_
 intro hm
 refine j _ _ (qn (rt ?_))
 cases h;exact en Tryz.results206
def M6 (run:Int) (k3:Nat) (ch:C4) (sv:Unit):Option (Out (Unit) (Bool)):=
 (bif (decide (ch.Run=run))then some (Out.ret (!(decide (0≤((k3:Nat):Int)))))else some (Out.next ()))
def Lu (p:B9) (run:Int) (t:Int):Option (Bool):=
 (K9 p run).bind fun y1=>(bif (decide (y1<0))then some false else(Dv p.Bl y1).bind fun ab=>(Ow ab.List_ t).bind fun y3=>(bif (!y3)then some false else(An (M6 run) 0 p.Hazards ()).bind fun o3=>o3.on fun s3=>some true))
theorem aG (p:B9) (run:Int) (t:Int) {r:Bool} (h:Lu p run t=some r):Ad Tryz.prog 107 [.agg (I9 p),.int .i64 run,.int .i64 t] (·= .bool r):=by
 refine Ad.nle (Ad.intro Tryz.func107 rfl rfl (by show _≤29;simp) ?_)
 unfold Lu at h
 refine nS (sq ?_)
 refine ar rfl (qn (sq ?_))
 refine rg rfl fun K j=>?_
 obtain⟨y1,bp,h⟩:=Ah h
 refine Al.pure Tryz.call162 (Uk p run bp) rfl fun _ hr=>?_
 subst hr
 refine nS ?_
 refine j _ _ (qn (sq (sq ?_)))
 refine rg rfl fun K j=>?_
 revert h;refine gf (fun hc h=>?_) fun hc h=>?_
 rotate_left
 ·refine j _ _ (qn ?_)
  refine AWP.cond (Ai ?_)
  refine sq (ar rfl (qn (rt (qr ?_))))
  cases h;exact en Tryz.results107
 obtain⟨ab,hx_2,h⟩:=Ah h
 refine Bo.of (f:=Aq) (l:=p.Bl) hx_2 ?_
 refine nS ?_
 obtain⟨y3,bx,h⟩:=Ah h
 refine Al.pure Tryz.call206 (aM ab.List_ t bx) rfl fun _ hr=>?_
 subst hr
 refine nS ?_
 refine j _ _ (qn ?_)
 revert h;refine ca rfl (fun hc h=>?_) fun hc h=>?_
 ·refine sq (ar rfl (qn (rt (qr ?_))))
  cases h;exact en Tryz.results107
 refine sk (qn (sq (rg rfl fun K j=>?_)))
 refine Al.inline Tryz.call207 Tryz.func207 rfl rfl (by show _≤9;simp) ?_
 refine nS (sq ?_)
 refine ar rfl (qn (sq ?_))
 refine rg rfl fun K j=>?_
 refine Al.inline Tryz.call241 Tryz.func241 rfl rfl (by show _≤19;simp) ?_
 refine nS (sq ?_)
 refine ar rfl (qn (sq (sq ?_)))
 refine rg rfl fun K j=>?_
 intro hm
 refine j _ _ (qn (bk ?_));clear j K
 obtain⟨o3,bw,gw⟩:=Ah h
 clear h
 refine AWP.Bw (ι:=Nat×(Unit)×(Unit)) (fun zz=>[(0,.sl 3 (p.Hazards.map Ay)),(1,.func 208 [.ptr 1 0]),(7,.int .i64 ((p.Hazards.length:Nat):Int)),(8,.int .i64 ((zz.1:Nat):Int))]) (fun zz=>[.box [.sl 4 (p.Bl.map Aq),.sl 3 (p.Hazards.map Ay)],.box [.int .i64 run]]) (fun zz=>zz.1≤p.Hazards.length∧An (M6 run) zz.1 ((p.Hazards).drop zz.1) zz.2.1=some o3) (fun zz=>p.Hazards.length - zz.1) (0,(),()) ⟨Nat.zero_le _,bw⟩ cu cu (fun x=>⟨rfl,rfl,rfl⟩) ?_
 clear bw
 rintro⟨k3,⟨⟩,⟨⟩⟩ ⟨nw,bw⟩
 dsimp only at nw bw ⊢
 refine sq (ar rfl (qn (sq ?_)))
 refine AWP.cond (Am (fun hc=>?_) (fun hc=>?_))
 rotate_left
 ·obtain rfl:=Bg bw (fun hl=>by have:=Ako hc;omega)
  have h:=Bf gw;try dsimp only at h
  have ag:p.Hazards.length=k3:=by have:=Ako hc;omega
  subst ag
  refine xt (qe (qe (bs (qn (sq (ar rfl (qn (rt ?_))))))))
  refine nSc Tryz.results241 ?_
  refine j _ _ (qn (rt ?_));clear j K
  refine nSc Tryz.results207 ?_
  refine j _ _ (qn (rt ?_))
  cases h;exact en Tryz.results107
 have fe:k3<p.Hazards.length:=by have:=Akp hc;omega
 obtain⟨ch,b3,mc,h,bw⟩:=Bc bw fe
 have ns:=A9 mc
 have iz:=wk (k:=k3) (by omega)
 unfold M6 at h;try dsimp only at h
 refine sk (qn (sq (bk (sq (ar rfl (qn (sq ?_)))))))
 refine rg rfl fun K j=>?_
 refine Bo.of (f:=Ay) (l:=p.Hazards) ns ?_
 refine nS ?_
 refine Al.inline Tryz.call208 Tryz.func208 rfl rfl (by show _≤8;simp) ?_
 refine nS (sq ?_)
 refine ar rfl (qn (sq ?_))
 refine ar rfl (qn (rt ?_))
 refine nSc Tryz.results208 ?_
 refine j _ _ (qn ?_);clear j K
 revert h;refine ca rfl (fun hc h=>?_) fun hc h=>?_
 ·refine sq (ar rfl (qn (rt (br (qr (qr ?_))))))
  obtain rfl:=Aa h
  obtain rfl:=Ae bw
  replace h:=Ao gw
  refine br (qr (nSc Tryz.results241 ?_))
  refine j _ _ (qn (rt ?_));clear j K
  refine nSc Tryz.results207 ?_
  refine j _ _ (qn (rt ?_))
  cases h;exact en Tryz.results107
 refine sk (bn (qn (ar rfl (qn ?_))))
 obtain rfl:=Aa h
 refine⟨(k3+1,(),()),⟨by dsimp only;omega,Aj bw⟩,by dsimp only;omega,?_,?_⟩
 ·exact cuw iz
 exact cuw iz
def Ji (n_:Int) (least:Int) (most:Int):Option (Bool):=
 (bif (decide (least≤n_))then some (decide (n_≤most))else some false)
theorem Ko (n_:Int) (least:Int) (most:Int) {r:Bool} (h:Ji n_ least most=some r):Ad Tryz.prog 176 [.int .i64 n_,.int .i64 least,.int .i64 most] (·= .bool r):=by
 refine Ad.nle (Ad.intro Tryz.func176 rfl rfl (by show _≤15;simp) ?_)
 unfold Ji at h
 refine nS (sq ?_)
 refine ar rfl (qn (sq ?_))
 refine rg rfl fun K j=>?_
 revert h;refine gt (fun hc h=>?_) fun hc h=>?_
 ·refine j _ _ (qn (rt ?_))
  cases h;exact en Tryz.results176
 refine j _ _ (qn (rt ?_))
 cases h;exact en Tryz.results176
def Kp (p:F3):Option (Bool):=
 (Ji p.Natural 0 20000).bind fun y1=>(bif y1 then(Ji p.Machine 0 20000).bind fun y2=>(bif y2 then(Ji p.Density 50 900).bind fun y3=>some y3 else some false)else some false)
theorem Qt (p:F3) {r:Bool} (h:Kp p=some r):Ad Tryz.prog 84 [.agg (Pe p)] (·= .bool r):=by
 refine Ad.nle (Ad.intro Tryz.func84 rfl rfl (by show _≤16;simp) ?_)
 unfold Kp at h
 refine nS (sq ?_)
 refine ar rfl (qn (sq ?_))
 refine rg rfl fun K j=>?_
 obtain⟨y1,bp,h⟩:=Ah h
 refine Al.pure Tryz.call176 (Ko p.Natural 0 20000 bp) rfl fun _ hr=>?_
 subst hr
 refine nS ?_
 revert h;refine gt (fun hc h=>?_) fun hc h=>?_
 ·obtain⟨y2,dn,h⟩:=Ah h
  refine Al.pure Tryz.call176 (Ko p.Machine 0 20000 dn) rfl fun _ hr=>?_
  subst hr
  refine nS ?_
  revert h;refine gt (fun hc h=>?_) fun hc h=>?_
  ·obtain⟨y3,bx,h⟩:=Ah h
   refine Al.pure Tryz.call176 (Ko p.Density 50 900 bx) rfl fun _ hr=>?_
   subst hr
   refine nS ?_
   refine j _ _ (qn (rt ?_))
   cases h;exact en Tryz.results84
  refine j _ _ (qn (rt ?_))
  cases h;exact en Tryz.results84
 refine j _ _ (qn (rt ?_))
 cases h;exact en Tryz.results84
def N3 (p:F3):Option (Int):=
 some (IntKind.i64.wrap (p.Natural+p.Machine))
theorem Yq (p:F3) {r:Int} (h:N3 p=some r):Ad Tryz.prog 265 [.agg (Pe p)] (·= .int .i64 r):=by
 refine Ad.nle (Ad.intro Tryz.func265 rfl rfl (by show _≤8;simp) ?_)
 unfold N3 at h
 refine nS (sq ?_)
 refine ar rfl (qn (sq ?_))
 refine ar rfl (qn (rt ?_))
 cases h;exact en Tryz.results265
def Kq (p:F3):Option (Int×Int):=
 (Kp p).bind fun y1=>(bif (!y1)then some (0,1)else (N3 p).bind fun y2=>nz p.Density (some ((IntKind.i64.wrap (Int.tdiv (IntKind.i64.wrap (y2*1000)) p.Density)),0)))
theorem Yr (p:F3) {r:Int×Int} (h:Kq p=some r):Ad Tryz.prog 211 [.agg (Pe p)] (·= .tuple [.int .i64 r.1,.int .i64 r.2]):=by
 refine Ad.nle (Ad.intro Tryz.func211 rfl rfl (by show _≤13;simp) ?_)
 unfold Kq at h
 refine nS (sq ?_)
 refine ar rfl (qn (sq (sq ?_)))
 refine rg rfl fun K j=>?_
 obtain⟨y1,bp,h⟩:=Ah h
 refine Al.pure Tryz.call84 (Qt p bp) rfl fun _ hr=>?_
 subst hr
 refine nS ?_
 refine j _ _ (qn ?_)
 revert h;refine ca rfl (fun hc h=>?_) fun hc h=>?_
 ·refine sq (ar rfl (qn (rt (qr ?_))))
  cases h;exact en Tryz.results211
 refine sk (qn (sq ?_))
 refine AWP.draw Tryz.mixed (by kernel_rfl) ?_;intro K j
 refine nS ?_
 obtain⟨y2,dn,h⟩:=Ah h
 refine Cf.pure Tryz.call265 (Yq p dn) rfl ?_
 refine nS ?_
 obtain⟨hk,h⟩:=oI h
 refine⟨hk,?_⟩
 refine j _ _ _ (by kernel_rfl) ?_
 refine qn (rt ?_)
 cases h;exact en Tryz.results211
def G2 (f_:Af) (run:Int) (k0:Nat) (ab:C7) (sv:Unit):Option (Out (Unit) (Bool)):=
 (bif (decide (ab.Run=run))then ((bif (decide (((k0:Nat):Int)<0))then some false else(Kq ab.Pack).bind fun y3=>(bif (decide (y3.2=0))then some (decide (f_.Depth≤y3.1))else some false))).bind fun q3=>some (Out.ret q3)else some (Out.next ()))
def Fo (f_:Af) (run:Int):Option (Bool):=
 (An (G2 f_ run) 0 f_.Packs ()).bind fun o0=>o0.on fun s0=>some false
theorem Vf (f_:Af) (run:Int) {r:Bool} (h:Fo f_ run=some r):Ad Tryz.prog 108 [.agg (Ce f_),.int .i64 run] (·= .bool r):=by
 refine Ad.nle (Ad.intro Tryz.func108 rfl rfl (by show _≤32;simp) ?_)
 unfold Fo at h
 refine nS (sq ?_)
 refine ar rfl (qn (sq ?_))
 refine rg rfl fun K j=>?_
 refine Al.inline Tryz.call209 Tryz.func209 rfl rfl (by show _≤19;simp) ?_
 refine nS (sq ?_)
 refine ar rfl (qn (sq (sq ?_)))
 refine rg rfl fun K j=>?_
 intro hm
 refine j _ _ (qn (bk ?_));clear j K
 obtain⟨o0,aa,ae⟩:=Ah h
 clear h
 refine AWP.Bw (ι:=Nat×(Unit)×(Unit)) (fun zz=>[(0,.sl 5 (f_.Packs.map Az)),(1,.func 210 [.ptr 1 0]),(7,.int .i64 ((f_.Packs.length:Nat):Int)),(8,.int .i64 ((zz.1:Nat):Int))]) (fun zz=>[.box [.sl 2 (f_.Map.Nodes.map A5),.sl 8 (f_.Map.Lifts.map A6),.sl 7 (f_.Map.Runs.map Ba),.sl 1 (f_.Map.Bases.map Bb),.sl 2 (f_.Lifts.map Av),.sl 4 (f_.Closures.map Au),.sl 4 (f_.Patrol.Bl.map Aq),.sl 3 (f_.Patrol.Hazards.map Ay),.sl 3 (f_.Surfaces.map A1),.sl 5 (f_.Packs.map Az),.sl 6 (f_.Slides.map A3),.sl 7 (f_.Bulletin.map Ar),.sl 7 (f_.Missions.map Ap),.sl 4 (f_.Winches.map Ak),.sl 8 (f_.Groomers.map Ax),.sl 3 (f_.Status.map Aw),.int .i64 f_.Depth,.int .i64 f_.Time],.box [.int .i64 run]]) (fun zz=>zz.1≤f_.Packs.length∧An (G2 f_ run) zz.1 ((f_.Packs).drop zz.1) zz.2.1=some o0) (fun zz=>f_.Packs.length - zz.1) (0,(),()) ⟨Nat.zero_le _,aa⟩ cu cu (fun x=>⟨rfl,rfl,rfl⟩) ?_
 clear aa
 rintro⟨k0,⟨⟩,⟨⟩⟩ ⟨bg,aa⟩
 dsimp only at bg aa ⊢
 refine sq (ar rfl (qn (sq ?_)))
 refine AWP.cond (Am (fun hc=>?_) (fun hc=>?_))
 rotate_left
 ·obtain rfl:=Bg aa (fun hl=>by have:=Ako hc;omega)
  have h:=Bf ae;try dsimp only at h
  have ag:f_.Packs.length=k0:=by have:=Ako hc;omega
  subst ag
  refine xt (qe (qe (bs (qn (sq (ar rfl (qn (rt ?_))))))))
  refine nSc Tryz.results209 ?_
  refine j _ _ (qn (sq (sq ?_)))
  refine ar rfl (qn ?_)
  refine AWP.cond (Ai ?_)
  refine sq (ar rfl (qn (rt (qr ?_))))
  cases h;exact en Tryz.results108
 have ah:k0<f_.Packs.length:=by have:=Akp hc;omega
 obtain⟨ab,b0,aj,h,aa⟩:=Bc aa ah
 have aw:=A9 aj
 have ak:=wk (k:=k0) (by omega)
 unfold G2 at h;try dsimp only at h
 refine sk (qn (sq (bk (sq (ar rfl (qn (sq ?_)))))))
 refine rg rfl fun K j=>?_
 refine Bo.of (f:=Az) (l:=f_.Packs) aw ?_
 refine nS ?_
 refine Al.inline Tryz.call210 Tryz.func210 rfl rfl (by show _≤8;simp) ?_
 refine nS (sq ?_)
 refine ar rfl (qn (sq ?_))
 refine ar rfl (qn (rt ?_))
 refine nSc Tryz.results210 ?_
 refine j _ _ (qn ?_);clear j K
 revert h;refine ca rfl (fun hc h=>?_) fun hc h=>?_
 ·refine sq (ar rfl (qn (rt (br (qr (qr ?_))))))
  obtain⟨q3,hq,h⟩:=Ah h
  obtain rfl:=Aa h
  obtain rfl:=Ae aa
  replace h:=hq.trans (Ao ae)
  refine br (qr (nSc Tryz.results209 ?_))
  refine j _ _ (qn (sq (sq ?_)))
  refine ar rfl (qn ?_)
  revert h;refine ca rfl (fun hc h=>?_) fun hc h=>?_
  ·refine sq (ar rfl (qn (rt (qr ?_))))
   cases h;exact en Tryz.results108
  refine sk (qn (sq (rg rfl fun K j=>?_)))
  refine Bo.of (f:=Az) (l:=f_.Packs) aw ?_
  refine nS ?_
  obtain⟨y3,bx,h⟩:=Ah h
  refine Al.pure Tryz.call211 (Yr ab.Pack bx) rfl fun _ hr=>?_
  subst hr
  refine nS ?_
  refine j _ _ (qn (sq ?_))
  refine rg rfl fun K j=>?_
  revert h;refine gt (fun hc h=>?_) fun hc h=>?_
  ·refine j _ _ (qn (rt ?_))
   cases h;exact en Tryz.results108
  refine j _ _ (qn (rt ?_))
  cases h;exact en Tryz.results108
 refine sk (bn (qn (ar rfl (qn ?_))))
 obtain rfl:=Aa h
 refine⟨(k0+1,(),()),⟨by dsimp only;omega,Aj aa⟩,by dsimp only;omega,?_,?_⟩
 ·exact cuw ak
 exact cuw ak
def Ez (f_:Af) (run:Int) (y1:Cq×Bool) (t24_3:Bool):Option (Int):=
 (bif t24_3 then some 15 else(E8 f_).bind fun y5=>(Gt f_.Slides y5).bind fun y6=>(Br y6 y1.1.Zone).bind fun y7=>(bif y7 then some 10 else(Lu f_.Patrol run f_.Time).bind fun y8=>(bif (!y8)then some 14 else(Fo f_ run).bind fun y9=>(bif (!y9)then some 5 else some 0))))
def Dd (f_:Af) (run:Int):Option (Int):=
 (Fb f_.Map run).bind fun y1=>(bif (!y1.2)then some 8 else(Qc f_.Map f_.Closures run).bind fun y2=>(bif y2 then some 13 else(R9 f_.Groomers run).bind fun cf=>(bif cf then Ez f_ run y1 cf else(Pu f_.Winches f_.Time).bind fun dd=>(Br dd run).bind fun dm=>(bif dm then Ez f_ run y1 dm else(G4 f_ y1.1.Zone).bind fun er=>Ez f_ run y1 er))))
theorem J5 (f_:Af) (run:Int) {r:Int} (h:Dd f_ run=some r):Ad Tryz.prog 48 [.agg (Ce f_),.int .i64 run] (·= .int .i64 r):=by
 refine Ad.nle (Ad.intro Tryz.func48 rfl rfl (by show _≤62;simp) ?_)
 unfold Dd at h
 refine nS (sq ?_)
 refine ar rfl (qn (sq ?_))
 refine rg rfl fun K j=>?_
 obtain⟨y1,bp,h⟩:=Ah h
 refine Al.pure Tryz.call53 (Ei f_.Map run bp) rfl fun _ hr=>?_
 subst hr
 refine nS ?_
 refine j _ _ (qn (sq (bk (sq ?_))))
 refine ar rfl (qn ?_)
 revert h;refine ca rfl (fun hc h=>?_) fun hc h=>?_
 ·refine sq (ar rfl (qn (rt (br (qr ?_)))))
  cases h;exact en Tryz.results48
 refine sq (rg rfl fun K j=>?_)
 obtain⟨y2,dn,h⟩:=Ah h
 refine Al.pure Tryz.call102 (dJ f_.Map f_.Closures run dn) rfl fun _ hr=>?_
 subst hr
 refine nS ?_
 refine j _ _ (qn ?_)
 revert h;refine ca rfl (fun hc h=>?_) fun hc h=>?_
 ·refine sq (ar rfl (qn (rt (br (qr ?_)))))
  cases h;exact en Tryz.results48
 refine AWP.Mz (ι:=(Bool)×(Unit)) (fun zz=>[(1,.int .i64 run),(2,.ptr 0 0),(5,.ptr 1 0),(24,.bool zz.1)]) (fun zz=>[.box [.sl 2 (f_.Map.Nodes.map A5),.sl 8 (f_.Map.Lifts.map A6),.sl 7 (f_.Map.Runs.map Ba),.sl 1 (f_.Map.Bases.map Bb),.sl 2 (f_.Lifts.map Av),.sl 4 (f_.Closures.map Au),.sl 4 (f_.Patrol.Bl.map Aq),.sl 3 (f_.Patrol.Hazards.map Ay),.sl 3 (f_.Surfaces.map A1),.sl 5 (f_.Packs.map Az),.sl 6 (f_.Slides.map A3),.sl 7 (f_.Bulletin.map Ar),.sl 7 (f_.Missions.map Ap),.sl 4 (f_.Winches.map Ak),.sl 8 (f_.Groomers.map Ax),.sl 3 (f_.Status.map Aw),.int .i64 f_.Depth,.int .i64 f_.Time],.box [.int .i64 y1.1.ID,.int .i64 y1.1.Operator,.int .i64 y1.1.From,.int .i64 y1.1.To,.int .i64 y1.1.Grade,.int .i64 y1.1.Zone,.int .i64 y1.1.Length]]) (fun zz=>Ez f_ run y1 zz.1=some r) (fun zz=>⟨rfl,rfl,rfl⟩) ?_ ?_
 ·refine sq ?_
  refine rg rfl fun K j=>?_
  obtain⟨cf,dt,h⟩:=Ah h
  refine Al.pure Tryz.call103 (fD f_.Groomers run dt) rfl fun _ hr=>?_
  subst hr
  refine nS ?_
  refine j _ _ (qn ?_)
  revert h;refine ca rfl (fun hc h=>?_) fun hc h=>?_
  ·refine sk (qn ?_)
   exact⟨(cf,()),h,cu,cu⟩
  refine sq (rg rfl fun K j=>?_)
  obtain⟨dd,eh,h⟩:=Ah h
  refine Al.pure Tryz.call104 (bL f_.Winches f_.Time eh) rfl fun _ hr=>?_
  subst hr
  refine nS ?_
  obtain⟨dm,ez,h⟩:=Ah h
  refine Al.pure Tryz.call54 (Bt dd run ez) rfl fun _ hr=>?_
  subst hr
  refine nS ?_
  refine j _ _ (qn ?_)
  revert h;refine ca rfl (fun hc h=>?_) fun hc h=>?_
  ·refine sk (qn ?_)
   exact⟨(dm,()),h,cu,cu⟩
  refine rg rfl fun K j=>?_
  obtain⟨er,iu,h⟩:=Ah h
  refine Al.pure Tryz.call105 (Vg f_ y1.1.Zone iu) rfl fun _ hr=>?_
  subst hr
  refine nS ?_
  refine j _ _ (qn ?_)
  exact⟨(er,()),h,cu,cu⟩
 rintro⟨t24_3,⟨⟩⟩ h
 try dsimp only at h ⊢
 unfold Ez at h;try dsimp only at h
 revert h;refine ca rfl (fun hc h=>?_) fun hc h=>?_
 ·refine sq (ar rfl (qn (rt (br (qr ?_)))))
  cases h;exact en Tryz.results48
 refine sq ?_
 refine AWP.draw Tryz.mixed (by kernel_rfl) ?_;intro K j
 refine nS ?_
 obtain⟨y5,db,h⟩:=Ah h
 refine Cf.pure Tryz.call16 (V9 f_ db) rfl ?_
 refine nS ?_
 obtain⟨y6,ey,h⟩:=Ah h
 refine Cf.pure Tryz.call106 (Xo f_.Slides y5 ey) rfl ?_
 refine nS ?_
 obtain⟨y7,eo,h⟩:=Ah h
 refine Cf.pure Tryz.call54 (Bt y6 y1.1.Zone eo) rfl ?_
 refine nS ?_
 refine j _ _ _ (by kernel_rfl) ?_
 refine qn ?_
 revert h;refine ca rfl (fun hc h=>?_) fun hc h=>?_
 ·refine sq (ar rfl (qn (rt (br (qr ?_)))))
  cases h;exact en Tryz.results48
 refine sq (rg rfl fun K j=>?_)
 obtain⟨y8,fp,h⟩:=Ah h
 refine Al.pure Tryz.call107 (aG f_.Patrol run f_.Time fp) rfl fun _ hr=>?_
 subst hr
 refine nS ?_
 refine j _ _ (qn ?_)
 revert h;refine ca rfl (fun hc h=>?_) fun hc h=>?_
 ·refine sq (ar rfl (qn (rt (br (qr ?_)))))
  cases h;exact en Tryz.results48
 refine sq (rg rfl fun K j=>?_)
 obtain⟨y9,ic,h⟩:=Ah h
 refine Al.pure Tryz.call108 (Vf f_ run ic) rfl fun _ hr=>?_
 subst hr
 refine nS ?_
 refine j _ _ (qn ?_)
 revert h;refine ca rfl (fun hc h=>?_) fun hc h=>?_
 ·refine sq (ar rfl (qn (rt (br (qr ?_)))))
  cases h;exact en Tryz.results48
 refine sk (bn (qn (sq (ar rfl (qn (rt ?_))))))
 cases h;exact en Tryz.results48
def Hr (k2:Nat) (au:Cs) (sv:(List Int)):Option (Out ((List Int)) ((List Int))):=
 (bif (decide (au.Mode=1))then chk (sv.length+1) (some (Out.next (sv++[au.Lift])))else some (Out.next sv))
def F8 (f_:Af):Option ((List Int)):=
 (An Hr 0 f_.Lifts []).bind fun o2=>o2.on fun s2=>some s2
theorem Ve (f_:Af) {r:(List Int)} (h:F8 f_=some r):Bu Tryz.prog 110 [.agg (Ce f_)] (·= .sl 1 (r.map Bb)):=by
 refine Bu.nle (Bu.intro Tryz.func110 rfl rfl (by show _≤23;simp) ?_)
 unfold F8 at h
 refine nS (sq ?_)
 refine ar rfl (qn (sq ?_))
 refine ar rfl (qn (sq (sq ?_)))
 refine rg rfl fun K j=>?_
 intro hm
 refine j _ _ (qn (bk ?_))
 refine AWP.ghost 3 1 rfl (by decide) ?_
 obtain⟨o2,ao,ek⟩:=Ah h
 clear h
 refine AWP.Bw (ι:=Nat×((List Int))×(Nat)) (fun zz=>[(3,.own 1 zz.2.2 0 zz.2.1.length),(7,.sl 2 (f_.Lifts.map Av)),(8,.int .i64 ((f_.Lifts.length:Nat):Int)),(9,.int .i64 ((zz.1:Nat):Int))]) (fun zz=>[.gone,.row zz.2.2 1 (zz.2.1.map Bb)]) (fun zz=>zz.1≤f_.Lifts.length∧An Hr zz.1 ((f_.Lifts).drop zz.1) zz.2.1=some o2) (fun zz=>f_.Lifts.length - zz.1) (0,[],0) ⟨Nat.zero_le _,ao⟩ cu cu (fun x=>⟨rfl,rfl,rfl⟩) ?_
 clear ao
 rintro⟨k2,bo,cg⟩ ⟨dp,ao⟩
 dsimp only at dp ao ⊢
 refine sq (ar rfl (qn (sq ?_)))
 refine AWP.cond (Am (fun hc=>?_) (fun hc=>?_))
 rotate_left
 ·obtain rfl:=Bg ao (fun hl=>by have:=Ako hc;omega)
  have h:=Bf ek;try dsimp only at h
  have ag:f_.Lifts.length=k2:=by have:=Ako hc;omega
  subst ag
  refine xt (qe (qe (bs (qn (sq (ar rfl (qn (rt ?_))))))))
  cases h;exact en Tryz.results110
 have ck:k2<f_.Lifts.length:=by have:=Akp hc;omega
 obtain⟨au,b2,dh,h,ao⟩:=Bc ao ck
 have ie:=A9 dh
 have bq:=wk (k:=k2) (by omega)
 unfold Hr at h;try dsimp only at h
 refine sk (qn (sq (bk (sq (rg rfl fun K j=>?_)))))
 refine Bo.of (f:=Av) (l:=f_.Lifts) ie ?_
 refine nS ?_
 refine j _ _ (qn (sq ?_))
 refine ar rfl (qn ?_)
 revert h;refine ca rfl (fun hc h=>?_) fun hc h=>?_
 ·refine rg rfl fun K j=>?_
  obtain⟨hk,h⟩:=Bx h
  (repeat refine rp ?_);try simp +decide -implicitDefEqProofs only[go_sem]
  refine j _ _ (bn (qn ?_))
  refine ar rfl (qn ?_)
  obtain rfl:=Aa h
  refine⟨(k2+1,(bo++[au.Lift]),(cg+1)),⟨by dsimp only;omega,Aj ao⟩,by dsimp only;omega,?_,?_⟩
  ·exact cuw bq
  exact cuw bq
 refine sk (bn (qn (ar rfl (qn ?_))))
 obtain rfl:=Aa h
 refine⟨(k2+1,bo,cg),⟨by dsimp only;omega,Aj ao⟩,by dsimp only;omega,?_,?_⟩
 ·exact cuw bq
 exact cuw bq
theorem V8 (f_:Af) {r:(List Int)} (h:F8 f_=some r):Ad Tryz.prog 110 [.agg (Ce f_)] (·= .sl 1 (r.map Bb)):=(Ve f_ h).pure
def Pm (lifts:List Int) (k2:Nat) (au:Co) (sv:(List A7)):Option (Out ((List A7)) ((List A7))):=
 (Br lifts au.ID).bind fun y5=>(bif y5 then chk (sv.length+1) (some (Out.next (sv++[(A7.mk au.ID au.From au.To au.Length)])))else some (Out.next sv))
def O6 (m:Bd) (lifts:List Int):Option ((List A7)):=
 (An (Pm lifts) 0 m.Lifts []).bind fun o2=>o2.on fun s2=>some s2
theorem bP (m:Bd) (lifts:List Int) {r:(List A7)} (h:O6 m lifts=some r):Bu Tryz.prog 267 [.agg (Ct m),.sl 1 (lifts.map Bb)] (·= .sl 4 (r.map Cg)):=by
 refine Bu.nle (Bu.intro Tryz.func267 rfl rfl (by show _≤33;simp) ?_)
 unfold O6 at h
 refine nS (sq ?_)
 refine ar rfl (qn (sq ?_))
 refine ar rfl (qn (sq (sq ?_)))
 refine rg rfl fun K j=>?_
 intro hm
 refine j _ _ (qn (bk ?_))
 refine AWP.ghost 5 4 rfl (by decide) ?_
 obtain⟨o2,ao,ek⟩:=Ah h
 clear h
 refine AWP.Bw (ι:=Nat×((List A7))×(Nat)) (fun zz=>[(1,.sl 1 (lifts.map Bb)),(5,.own 1 zz.2.2 0 zz.2.1.length),(9,.sl 8 (m.Lifts.map A6)),(10,.int .i64 ((m.Lifts.length:Nat):Int)),(11,.int .i64 ((zz.1:Nat):Int))]) (fun zz=>[.gone,.row zz.2.2 4 (zz.2.1.map Cg)]) (fun zz=>zz.1≤m.Lifts.length∧An (Pm lifts) zz.1 ((m.Lifts).drop zz.1) zz.2.1=some o2) (fun zz=>m.Lifts.length - zz.1) (0,[],0) ⟨Nat.zero_le _,ao⟩ cu cu (fun x=>⟨rfl,rfl,rfl⟩) ?_
 clear ao
 rintro⟨k2,bo,cg⟩ ⟨dp,ao⟩
 dsimp only at dp ao ⊢
 refine sq (ar rfl (qn (sq ?_)))
 refine AWP.cond (Am (fun hc=>?_) (fun hc=>?_))
 rotate_left
 ·obtain rfl:=Bg ao (fun hl=>by have:=Ako hc;omega)
  have h:=Bf ek;try dsimp only at h
  have ag:m.Lifts.length=k2:=by have:=Ako hc;omega
  subst ag
  refine xt (qe (qe (bs (qn (sq (ar rfl (qn (rt ?_))))))))
  cases h;exact en Tryz.results267
 have ck:k2<m.Lifts.length:=by have:=Akp hc;omega
 obtain⟨au,b2,dh,h,ao⟩:=Bc ao ck
 have ie:=A9 dh
 have bq:=wk (k:=k2) (by omega)
 unfold Pm at h;try dsimp only at h
 refine sk (qn (sq (bk (sq (rg rfl fun K j=>?_)))))
 refine Bo.of (f:=A6) (l:=m.Lifts) ie ?_
 refine nS ?_
 refine j _ _ (qn (sq ?_))
 refine rg rfl fun K j=>?_
 obtain⟨y5,db,h⟩:=Ah h
 refine Al.pure Tryz.call54 (Bt lifts au.ID db) rfl fun _ hr=>?_
 subst hr
 refine nS ?_
 refine j _ _ (qn ?_)
 revert h;refine ca rfl (fun hc h=>?_) fun hc h=>?_
 ·refine rg rfl fun K j=>?_
  obtain⟨hk,h⟩:=Bx h
  (repeat refine rp ?_);try simp +decide -implicitDefEqProofs only[go_sem]
  refine j _ _ (bn (qn ?_))
  refine ar rfl (qn ?_)
  obtain rfl:=Aa h
  refine⟨(k2+1,(bo++[(A7.mk au.ID au.From au.To au.Length)]),(cg+1)),⟨by dsimp only;omega,Aj ao⟩,by dsimp only;omega,?_,?_⟩
  ·exact cuw bq
  exact cuw bq
 refine sk (bn (qn (ar rfl (qn ?_))))
 obtain rfl:=Aa h
 refine⟨(k2+1,bo,cg),⟨by dsimp only;omega,Aj ao⟩,by dsimp only;omega,?_,?_⟩
 ·exact cuw bq
 exact cuw bq
theorem eW (m:Bd) (lifts:List Int) {r:(List A7)} (h:O6 m lifts=some r):Ad Tryz.prog 267 [.agg (Ct m),.sl 1 (lifts.map Bb)] (·= .sl 4 (r.map Cg)):=(bP m lifts h).pure
def My (runs:List Int) (k2:Nat) (au:Cq) (sv:(List A7)):Option (Out ((List A7)) ((List A7))):=
 (Br runs au.ID).bind fun y5=>(bif y5 then chk (sv.length+1) (some (Out.next (sv++[(A7.mk au.ID au.From au.To au.Length)])))else some (Out.next sv))
def I5 (m:Bd) (runs:List Int):Option ((List A7)):=
 (An (My runs) 0 m.Runs []).bind fun o2=>o2.on fun s2=>some s2
theorem Zd (m:Bd) (runs:List Int) {r:(List A7)} (h:I5 m runs=some r):Bu Tryz.prog 215 [.agg (Ct m),.sl 1 (runs.map Bb)] (·= .sl 4 (r.map Cg)):=by
 refine Bu.nle (Bu.intro Tryz.func215 rfl rfl (by show _≤33;simp) ?_)
 unfold I5 at h
 refine nS (sq ?_)
 refine ar rfl (qn (sq ?_))
 refine ar rfl (qn (sq (sq ?_)))
 refine rg rfl fun K j=>?_
 intro hm
 refine j _ _ (qn (bk ?_))
 refine AWP.ghost 5 4 rfl (by decide) ?_
 obtain⟨o2,ao,ek⟩:=Ah h
 clear h
 refine AWP.Bw (ι:=Nat×((List A7))×(Nat)) (fun zz=>[(1,.sl 1 (runs.map Bb)),(5,.own 1 zz.2.2 0 zz.2.1.length),(9,.sl 7 (m.Runs.map Ba)),(10,.int .i64 ((m.Runs.length:Nat):Int)),(11,.int .i64 ((zz.1:Nat):Int))]) (fun zz=>[.gone,.row zz.2.2 4 (zz.2.1.map Cg)]) (fun zz=>zz.1≤m.Runs.length∧An (My runs) zz.1 ((m.Runs).drop zz.1) zz.2.1=some o2) (fun zz=>m.Runs.length - zz.1) (0,[],0) ⟨Nat.zero_le _,ao⟩ cu cu (fun x=>⟨rfl,rfl,rfl⟩) ?_
 clear ao
 rintro⟨k2,bo,cg⟩ ⟨dp,ao⟩
 dsimp only at dp ao ⊢
 refine sq (ar rfl (qn (sq ?_)))
 refine AWP.cond (Am (fun hc=>?_) (fun hc=>?_))
 rotate_left
 ·obtain rfl:=Bg ao (fun hl=>by have:=Ako hc;omega)
  have h:=Bf ek;try dsimp only at h
  have ag:m.Runs.length=k2:=by have:=Ako hc;omega
  subst ag
  refine xt (qe (qe (bs (qn (sq (ar rfl (qn (rt ?_))))))))
  cases h;exact en Tryz.results215
 have ck:k2<m.Runs.length:=by have:=Akp hc;omega
 obtain⟨au,b2,dh,h,ao⟩:=Bc ao ck
 have ie:=A9 dh
 have bq:=wk (k:=k2) (by omega)
 unfold My at h;try dsimp only at h
 refine sk (qn (sq (bk (sq (rg rfl fun K j=>?_)))))
 refine Bo.of (f:=Ba) (l:=m.Runs) ie ?_
 refine nS ?_
 refine j _ _ (qn (sq ?_))
 refine rg rfl fun K j=>?_
 obtain⟨y5,db,h⟩:=Ah h
 refine Al.pure Tryz.call54 (Bt runs au.ID db) rfl fun _ hr=>?_
 subst hr
 refine nS ?_
 refine j _ _ (qn ?_)
 revert h;refine ca rfl (fun hc h=>?_) fun hc h=>?_
 ·refine rg rfl fun K j=>?_
  obtain⟨hk,h⟩:=Bx h
  (repeat refine rp ?_);try simp +decide -implicitDefEqProofs only[go_sem]
  refine j _ _ (bn (qn ?_))
  refine ar rfl (qn ?_)
  obtain rfl:=Aa h
  refine⟨(k2+1,(bo++[(A7.mk au.ID au.From au.To au.Length)]),(cg+1)),⟨by dsimp only;omega,Aj ao⟩,by dsimp only;omega,?_,?_⟩
  ·exact cuw bq
  exact cuw bq
 refine sk (bn (qn (ar rfl (qn ?_))))
 obtain rfl:=Aa h
 refine⟨(k2+1,bo,cg),⟨by dsimp only;omega,Aj ao⟩,by dsimp only;omega,?_,?_⟩
 ·exact cuw bq
 exact cuw bq
theorem Ss (m:Bd) (runs:List Int) {r:(List A7)} (h:I5 m runs=some r):Ad Tryz.prog 215 [.agg (Ct m),.sl 1 (runs.map Bb)] (·= .sl 4 (r.map Cg)):=(Zd m runs h).pure
def Lj (k6:Nat) (dz:A7) (sv:(List A7)):Option (Out ((List A7)) (Out ((List A7)) ((List A7)))):=
 chk (sv.length+1) (some (Out.next (sv++[(A7.mk ((sv.length:Nat):Int) dz.From dz.To dz.Cost)])))
def Nz (k2:Nat) (au:List A7) (sv:(List A7)):Option (Out ((List A7)) ((List A7))):=
 (An Lj 0 au sv).bind fun o6=>o6.on fun s6=>some (Out.next s6)
def Nj (lists:List (List A7)):Option ((List A7)):=
 (An Nz 0 lists []).bind fun o2=>o2.on fun s2=>some s2
theorem Vy (lists:List (List A7)) {r:(List A7)} (h:Nj lists=some r):Bu Tryz.prog 214 [.sl 1 (lists.map Kr)] (·= .sl 4 (r.map Cg)):=by
 refine Bu.nle (Bu.intro Tryz.func214 rfl rfl (by show _≤30;simp) ?_)
 unfold Nj at h
 refine nS (sq ?_)
 refine ar rfl (qn (sq ?_))
 refine ar rfl (qn (sq (sq ?_)))
 refine rg rfl fun K j=>?_
 intro hm
 refine j _ _ (qn (bk ?_))
 refine AWP.ghost 3 4 rfl (by decide) ?_
 obtain⟨o2,ao,ek⟩:=Ah h
 clear h
 refine AWP.Bw (ι:=Nat×((List A7))×(Nat)) (fun zz=>[(3,.own 0 zz.2.2 0 zz.2.1.length),(8,.sl 1 (lists.map Kr)),(9,.int .i64 ((lists.length:Nat):Int)),(10,.int .i64 ((zz.1:Nat):Int))]) (fun zz=>[.row zz.2.2 4 (zz.2.1.map Cg)]) (fun zz=>zz.1≤lists.length∧An Nz zz.1 ((lists).drop zz.1) zz.2.1=some o2) (fun zz=>lists.length - zz.1) (0,[],0) ⟨Nat.zero_le _,ao⟩ cu cu (fun x=>⟨rfl,rfl,rfl⟩) ?_
 clear ao
 rintro⟨k2,bo,cg⟩ ⟨dp,ao⟩
 dsimp only at dp ao ⊢
 refine sq (ar rfl (qn (sq ?_)))
 refine AWP.cond (Am (fun hc=>?_) (fun hc=>?_))
 rotate_left
 ·obtain rfl:=Bg ao (fun hl=>by have:=Ako hc;omega)
  have h:=Bf ek;try dsimp only at h
  have ag:lists.length=k2:=by have:=Ako hc;omega
  subst ag
  refine xt (qe (qe (bs (qn (sq (ar rfl (qn (rt ?_))))))))
  cases h;exact en Tryz.results214
 have ck:k2<lists.length:=by have:=Akp hc;omega
 obtain⟨au,b2,dh,h,ao⟩:=Bc ao ck
 have ie:=A9 dh
 have bq:=wk (k:=k2) (by omega)
 unfold Nz at h;try dsimp only at h
 refine sk (qn (sq (bk (sq (rg rfl fun K j=>?_)))))
 refine Bo.of (f:=Kr) (l:=lists) ie ?_
 refine nS ?_
 refine j _ _ (qn (sq ?_))
 refine rg rfl fun K j=>?_
 intro hm
 refine j _ _ (qn (bk ?_))
 obtain⟨o6,fm,rl⟩:=Ah h
 clear h
 refine AWP.Bw (ι:=Nat×((List A7))×(Nat)) (fun zz=>[(3,.own 0 zz.2.2 0 zz.2.1.length),(8,.sl 1 (lists.map Kr)),(9,.int .i64 ((lists.length:Nat):Int)),(10,.int .i64 ((k2:Nat):Int)),(14,.sl 4 (au.map Cg)),(15,.int .i64 ((au.length:Nat):Int)),(16,.int .i64 ((zz.1:Nat):Int))]) (fun zz=>[.row zz.2.2 4 (zz.2.1.map Cg)]) (fun zz=>zz.1≤au.length∧An Lj zz.1 ((au).drop zz.1) zz.2.1=some o6) (fun zz=>au.length - zz.1) (0,bo,cg) ⟨Nat.zero_le _,fm⟩ cu cu (fun x=>⟨rfl,rfl,rfl⟩) ?_
 clear fm
 rintro⟨k6,um,nr⟩ ⟨hk6,fm⟩
 dsimp only at hk6 fm ⊢
 refine sq (ar rfl (qn (sq ?_)))
 refine AWP.cond (Am (fun hc=>?_) (fun hc=>?_))
 ·have vy:k6<au.length:=by have:=Akp hc;omega
  obtain⟨dz,b6,vg,h,fm⟩:=Bc fm vy
  have vh:=A9 vg
  have vm:=wk (k:=k6) (by omega)
  unfold Lj at h;try dsimp only at h
  refine sk (qn (sq (bk (sq (rg rfl fun K j=>?_)))))
  refine Bo.of (f:=Cg) (l:=au) vh ?_
  refine nS ?_
  refine j _ _ (qn (sq ?_))
  refine rg rfl fun K j=>?_
  intro hm
  refine j _ _ (qn ?_)
  refine rg rfl fun K j=>?_
  obtain⟨hk,h⟩:=Bx h
  (repeat refine rp ?_);try simp +decide -implicitDefEqProofs only[go_sem]
  refine j _ _ (bn (qn ?_))
  refine ar rfl (qn ?_)
  obtain rfl:=Aa h
  refine⟨(k6+1,(um++[(A7.mk ((um.length:Nat):Int) dz.From dz.To dz.Cost)]),(nr+1)),⟨by dsimp only;omega,Aj fm⟩,by dsimp only;omega,?_,?_⟩
  ·exact cuw vm
  exact cuw vm
 obtain rfl:=Bg fm (fun hl=>by have:=Ako hc;omega)
 have h:=Bf rl;try dsimp only at h
 have ag:au.length=k6:=by have:=Ako hc;omega
 subst ag
 refine xt (qe (qe (bs (bn (qn (ar rfl (qn ?_)))))))
 obtain rfl:=Aa h
 refine⟨(k2+1,um,nr),⟨by dsimp only;omega,Aj ao⟩,by dsimp only;omega,?_,?_⟩
 ·exact cuw bq
 exact cuw bq
def Cc (s_:List Int):Option (List Int):=chk s_.length (some s_)
theorem Gn (s_:List Int) {r:List Int} (h:Cc s_=some r):Dj Tryz.prog 67 [.sl 1 (s_.map Bb)] 1 (r.map Bb):=by
 have hk:=(Bx h).1
 have hr:r=s_:=Aa (Bx h).2
 rw[hr];clear hr h
 refine Dj.of ?_
 refine Cv.weak (R:=fun q H=>∃ v rest,q= .own 0 v 0 (s_.map Bb).length∧H= .row v 1 (s_.map Bb)::rest) (Cv.intro Tryz.func67 rfl rfl (by show _≤8;simp) ?_) (fun q H hq=>?_)
 ·refine nS (sq ?_)
  refine ar rfl (qn (sq (sq ?_)))
  refine rg rfl fun K j=>?_
  intro bnil hb
  refine nS ?_
  refine j _ _ (qn ?_)
  refine AWP.cond (Am (fun hc=>?_) (fun hc=>?_))
  ·have aw:s_=[]:=Classical.byContradiction fun bc=>by have:=hb (by simpa using bc);simp[this]at hc
   subst aw
   refine sq (ar rfl (qn ?_))
   refine AWP.ghost 2 1 rfl (by decide) ?_
   refine nS (rt (qr ?_))
   refine nSc Tryz.results67 ?_
   refine⟨_,_,?_,rfl⟩
   (try simp +decide -implicitDefEqProofs only[go_sem,Aky,Akw,List.length_cons,List.length_nil,List.length_set,Akx]);try rfl
  clear hc
  refine sk (qn (sq (rg rfl fun K j=>?_)))
  (repeat refine rp ?_);try simp +decide -implicitDefEqProofs only[go_sem]
  refine j _ _ (qn (rt ?_))
  refine nSc Tryz.results67 ?_
  refine⟨_,_,?_,rfl⟩
  (try simp +decide -implicitDefEqProofs only[go_sem,Aky,Akw,List.length_cons,List.length_nil,List.length_set,Akx]);try rfl
 obtain⟨v,rest,rfl,rfl⟩:=hq
 exact⟨[.row v 1 (s_.map Bb)],⟨⟨rfl,rfl,rfl⟩,by cases rest<;>trivial⟩,rfl,rfl,⟨v,rfl,rfl⟩⟩
theorem Q3 (s_:List Int) {r:List Int} (h:Cc s_=some r):Bu Tryz.prog 67 [.sl 1 (s_.map Bb)] (·= .sl 1 (r.map Bb)):=Bu.nle (Cv.fresh (Cv.mono (Gn s_ h) fun q H=>by rintro⟨rfl,rfl⟩;simp +decide -implicitDefEqProofs only[go_sem,Eg,Ac.int.injEq,Int.natCast_zero,List.replicate_zero,List.length_take,List.length_drop,Ac.own.injEq,reduceCtorEq,Int.reduceAdd,Sl,Sm,Pd,Sk,Pc,Aky]))
theorem Cx (s_:List Int) {r:List Int} (h:Cc s_=some r):Ad Tryz.prog 67 [.sl 1 (s_.map Bb)] (·= .sl 1 (r.map Bb)):=(Q3 s_ h).pure
def Ck (l:List A7):List (Int×List Int):=l.foldl (fun g e=>gadd g e.From e.To) []
theorem Xa (l:List A7):∀ n,n≤l.length→∀ p∈Ck (l.take n),1≤p.2.length∧p.2.length≤n:=by
 intro n
 induction n with
 | zero=>intro _ p hp;simp[Ck]at hp
 | succ n ih=>
  intro h
  have hx:l[n]? =some l[n]:=Aks (by omega)
  have e:Ck (l.take (n+1))=gadd (Ck (l.take n)) l[n].From l[n].To:=by
   unfold Ck;rw[List.take_add_one,hx,List.foldl_append];rfl
  rw[e]
  exact yF (ih (by omega)) _ _
theorem Wa {l:List A7} {k:Nat} {e:A7} (h:l[k]? =some e):Ck (l.take (k+1))=gadd (Ck (l.take k)) e.From e.To:=by
 unfold Ck;rw[List.take_add_one,h,List.foldl_append];rfl
def Gf (l:List A7) (sv:(List (Int×Bool))×(List Int)):Option (Out ((List (Int×Bool))×(List Int)) ((List Int))):=
 (bif (decide (0<((sv.2.length:Nat):Int)))then (Dv sv.2 (IntKind.i64.wrap (((sv.2.length:Nat):Int) - 1))).bind fun cx=>okB (decide (0≤(IntKind.i64.wrap (((sv.2.length:Nat):Int) - 1))∧(IntKind.i64.wrap (((sv.2.length:Nat):Int) - 1))≤((sv.2.length:Nat):Int))) ((bif (!(mget false sv.1 cx))then chk ((IntKind.i64.wrap (((sv.2.length:Nat):Int) - 1)).toNat+(mget [] (Ck l) cx).length) (some (Out.next ((mset sv.1 cx true),((sv.2.take (IntKind.i64.wrap (((sv.2.length:Nat):Int) - 1)).toNat)++(mget [] (Ck l) cx)))))else some (Out.next (sv.1,(sv.2.take (IntKind.i64.wrap (((sv.2.length:Nat):Int) - 1)).toNat)))))else (okB (decide (∀ k∈mkeys sv.1, -9223372036854775808≤k∧k≤9223372036854775807)) (chk sv.1.length (some (Dk (mkeys sv.1))))).bind fun q6=>some (Out.ret q6))
def G7 (l:List A7) (from_:List Int):Option ((List Int)):=
 chk l.length ((Cc from_).bind fun y1=>(D6 (Gf l) fuel ([],y1)).bind fun o4=>o4.on fun _=>none)
theorem V5 (l:List A7) (from_:List Int) {r:(List Int)} (h:G7 l from_=some r):Dj Tryz.prog 266 [.sl 4 (l.map Cg),.sl 1 (from_.map Bb)] 1 (r.map Bb):=by
 refine Dj.of ?_
 refine Cv.weak (R:=fun q H=>∃ v0 rest,q= .own 0 v0 0 (r.map Bb).length∧H= .row v0 1 (r.map Bb)::rest) (Cv.intro Tryz.func266 rfl rfl (by show _≤61;simp) ?_) (fun q H hq=>?_)
 ·unfold G7 at h
  refine nS (sq ?_)
  refine ar rfl (qn (sq ?_))
  refine ar rfl (qn (sq (sq ?_)))
  refine rg rfl fun K j=>?_
  intro hm
  refine j _ _ (qn ?_)
  obtain⟨hl,h⟩:=Bx h
  refine bk ?_
  refine AWP.tR (ι:=Nat×List (Int×List Int)) (fun zz=>[(0,.sl 4 (l.map Cg)),(1,.sl 1 (from_.map Bb)),(5,.map 0),(12,.sl 4 (l.map Cg)),(13,.int .i64 ((l.length:Nat):Int)),(14,.int .i64 ((zz.1:Nat):Int))]) (fun zz=>.mpo false (gE 1 zz.2)::gR zz.2) (fun zz=>zz.1≤l.length∧zz.2=Ck (l.take zz.1)) (fun zz=>l.length - zz.1) (0,[]) ⟨Nat.zero_le _,rfl⟩
   (by(simp (implicitDefEqProofs:=false) (decide:=true) only[go_sem,Nat.reduceAdd,Nat.reduceMul,Nat.reduceSub,Int.reduceToNat,Eg,Int.natCast_zero,List.replicate_zero,List.length_take,List.length_drop,Ac.own.injEq,reduceCtorEq,Int.reduceAdd]<;>omega)) (by exact⟨⟨rfl,rfl⟩,trivial⟩)
   (fun zz=>⟨by simp[Nt,Ac.Qe,Ac.Xn,Ac.Yw,Ac.Zz],Abx zz.2 (by rw[List.length_cons,mO];omega),rfl⟩) ?_
  rintro⟨k,g⟩ ⟨hk,hg⟩
  dsimp only at hk hg ⊢
  refine sq (ar rfl (qn (sq ?_)))
  refine AWP.cond (Am (fun hc=>?_) (fun hc=>?_))
  ·have af:k<l.length:=by have:=Akp hc;omega
   have aw:l[k]? =some l[k]:=Aks af
   have hx:=aN af
   generalize l[k]=e at hx aw
   have hw:IntKind.i64.wrap (((k:Nat):Int)+1)=(((k+1:Nat)):Int):=O3 (by omega)
   refine sk (qn (sq (bk (sq (rg rfl fun K j=>?_)))))
   refine Bo.of (f:=Cg) (l:=l) hx ?_
   (try simp +decide -implicitDefEqProofs only[go_sem])
   (try simp (implicitDefEqProofs:=false) (decide:=true) only[go_sem,Nat.reduceAdd,Nat.reduceMul,Nat.reduceSub,Int.reduceToNat,apN,ga0,ga1,ga2,sa0,sa1,sa2,List.drop_succ_cons,List.drop_zero,List.headD_cons])
   refine j _ _ (qn ?_)
   have vv:((gR g).length+1+1=(gR g).length+3+1)=False:=by simp
   have vu:((gR g).length+1+1+1=(gR g).length+3+1)=False:=by simp
   have vt:((gR g).length+1+1=(gR g).length+1+1+1+1)=False:=by simp
   have vr:((gR g).length+1+1+1=(gR g).length+1+1+1+1)=False:=by simp
   have hinv:=Xa l k hk
   rw[← hg]at hinv
   have qa:=Wa aw
   rw[← hg]at qa
   refine AWP.draw Tryz.mixed (by kernel_rfl) ?_;intro K j
   (try simp (implicitDefEqProofs:=false) (decide:=true) only[go_sem,Nat.reduceAdd,Nat.reduceMul,Nat.reduceSub,Int.reduceToNat,apN,ga0,ga1,ga2,sa0,sa1,sa2,List.drop_succ_cons,List.drop_zero,List.headD_cons])
   refine Ex.mk' (fun v hv=>?_) (fun hn=>?_)
   ·obtain⟨i,xs,hi,hv2,cr,qp,hgset⟩:=qH g 1 e.From v hv
    have hil:i<(gR g).length:=by rw[mO];exact(Ak1.1 hi).1
    have jq:∀ (B:List A2),(gR g++B)[i]? =some (.row (xs.length - 1) 1 (xs.map Bb)):=fun B=>by
     rw[List.getElem?_append_left hil];unfold gR;rw[List.getElem?_map,hi];rfl
    have gu:∀ (x:A2) (B:List A2),(gR g++B).set i x=(gR g).set i x++B:=fun x B=>List.set_append_left _ _ hil
    have qz:=hinv _ (Akt hi)
    subst hv2
    clear hv
    (try simp (implicitDefEqProofs:=false) (decide:=true) only[go_sem,Nat.reduceAdd,Nat.reduceMul,Nat.reduceSub,Int.reduceToNat,apN,ga0,ga1,ga2,sa0,sa1,sa2,List.drop_succ_cons,List.drop_zero,List.headD_cons,vv,vu,vt,vr])
    (try simp only[jq])
    (try simp (implicitDefEqProofs:=false) (decide:=true) only[go_sem,Nat.reduceAdd,Nat.reduceMul,Nat.reduceSub,Int.reduceToNat,apN,ga0,ga1,ga2,sa0,sa1,sa2,List.drop_succ_cons,List.drop_zero,List.headD_cons,vv,vu,vt,vr])
    refine⟨by simp only at qz;omega,by simp only at qz;omega,?_⟩
    refine j _ _ _ (kP (fun n=>if n=0 then 0 else if n=1 then(gR g).length+1 else if n=2 then(gR g).length+1+1 else if n=3 then(gR g).length+1+1+1 else i+1) 5
     [(11,[0],true),(10,[3,4,2],true),(9,[2],true),(8,[1],false),(6,[0],false),(5,[1],false),(2,[1],false)] (by kernel_rfl) (fun a b ha hb=>?_) (by kernel_rfl)) ?_
    ·have ha':a=0∨a=1∨a=2∨a=3∨a=4:=by omega
     have ee:b=0∨b=1∨b=2∨b=3∨b=4:=by omega
     rcases ha' with rfl | rfl | rfl | rfl | rfl<;>rcases ee with rfl | rfl | rfl | rfl | rfl<;>simp<;>omega
    clear j K
    refine bn (qn (ar rfl (qn ?_)))
    have tp:(xs++[e.To]).length=xs.length+1:=by simp
    have iy:xs.length - 1+1=xs.length+1 - 1:=by simp only at qz;omega
    have e1:=qp (xs++[e.To])
    have e2:=hgset (xs++[e.To])
    rw[tp]at e1 e2
    refine⟨(k+1,gadd g e.From e.To),⟨by dsimp only;omega,qa.symm⟩,by dsimp only;omega,_,_,Sub.refl',?_,?_⟩
    ·(simp (implicitDefEqProofs:=false) (decide:=true) only[go_sem,Nat.reduceAdd,Nat.reduceMul,Nat.reduceSub,Int.reduceToNat,Eg,Int.natCast_zero,List.replicate_zero,List.length_take,List.length_drop,Ac.own.injEq,reduceCtorEq,Int.reduceAdd,hw]<;>omega)
    rw[gu,iy,e1,e2]
    unfold gadd
    rw[cr]
    exact w7 _ _
   (try simp (implicitDefEqProofs:=false) (decide:=true) only[go_sem,Nat.reduceAdd,Nat.reduceMul,Nat.reduceSub,Int.reduceToNat,apN,ga0,ga1,ga2,sa0,sa1,sa2,List.drop_succ_cons,List.drop_zero,List.headD_cons,vv,vu,vt,vr])
   refine j _ _ _ (kP (fun n=>if n=0 then 0 else if n=1 then(gR g).length+1 else if n=2 then(gR g).length+1+1 else(gR g).length+1+1+1) 4
    [(11,[0],true),(10,[3,2],true),(9,[2],true),(8,[1],false),(6,[0],false),(5,[1],false),(2,[1],false)] (by kernel_rfl) (fun a b ha hb=>?_) (by kernel_rfl)) ?_
   ·have ha':a=0∨a=1∨a=2∨a=3:=by omega
    have ee:b=0∨b=1∨b=2∨b=3:=by omega
    rcases ha' with rfl | rfl | rfl | rfl<;>rcases ee with rfl | rfl | rfl | rfl<;>simp<;>omega
   clear j K
   refine bn (qn (ar rfl (qn ?_)))
   obtain⟨cr,qp,hmset⟩:=Y8 g 1 e.From hn
   have hgd:gadd g e.From e.To=g++[(e.From,[e.To])]:=by unfold gadd;rw[cr,hmset];rfl
   have hm1:(A2.mpo false (aset (gE 1 g) e.From (Ac.own ((gR g).length+1+1+1) 0 0 1))::(gR g++[A2.box [Ac.int IntKind.i64 e.ID,Ac.int IntKind.i64 e.From,Ac.int IntKind.i64 e.To,Ac.int IntKind.i64 e.Cost],A2.row 0 1 [[Ac.int IntKind.i64 e.To]],A2.row 0 1 [[Ac.int IntKind.i64 e.To]]]))[(gR g).length+1]? =some (A2.box [Ac.int IntKind.i64 e.ID,Ac.int IntKind.i64 e.From,Ac.int IntKind.i64 e.To,Ac.int IntKind.i64 e.Cost]):=by
    rw[List.getElem?_cons_succ];exact ga0 _ _ _
   have hm3:(A2.mpo false (aset (gE 1 g) e.From (Ac.own ((gR g).length+1+1+1) 0 0 1))::(gR g++[A2.box [Ac.int IntKind.i64 e.ID,Ac.int IntKind.i64 e.From,Ac.int IntKind.i64 e.To,Ac.int IntKind.i64 e.Cost],A2.row 0 1 [[Ac.int IntKind.i64 e.To]],A2.row 0 1 [[Ac.int IntKind.i64 e.To]]]))[(gR g).length+1+1+1]? =some (A2.row 0 1 [[Ac.int IntKind.i64 e.To]]):=by
    rw[List.getElem?_cons_succ];exact ga2 _ _ _ _ _
   refine⟨(k+1,gadd g e.From e.To),⟨by dsimp only;omega,qa.symm⟩,by dsimp only;omega,_,_,Sub.swap ((gR g).length+1) ((gR g).length+1+1+1) hm1 hm3 rfl,?_,?_⟩
   ·(simp (implicitDefEqProofs:=false) (decide:=true) only[go_sem,Nat.reduceAdd,Nat.reduceMul,Nat.reduceSub,Int.reduceToNat,Eg,Int.natCast_zero,List.replicate_zero,List.length_take,List.length_drop,Ac.own.injEq,reduceCtorEq,Int.reduceAdd,hw]<;>omega)
   have hsw:swp ((gR g).length+1) ((gR g).length+1+1+1) ((gR g).length+1+1+1)=(gR g).length+1:=by unfold swp;rw[if_neg (by omega),if_pos rfl]
   have hre:Ud (swp ((gR g).length+1) ((gR g).length+1+1+1)) (gE 1 g)=gE 1 g:=tN g 1 fun i h1 h2=>by
    rw[← mO]at h2
    unfold swp;rw[if_neg (by omega),if_neg (by omega)]
   unfold Wi
   simp only[V7,eY,nT,tM,qp,nW,hre,Ud,ren,hsw,List.set_cons_succ,sa0,sa2,rens]
   rw[hgd,yG,mO]
   have:gR (g++[(e.From,[e.To])])=gR g++[A2.row 0 1 [[Ac.int IntKind.i64 e.To]]]:=by simp[gR,Bb]
   refine⟨?_,?_⟩
   ·exact⟨rfl,rfl⟩
   rw[this]
   have:=fW (gR g++[A2.row 0 1 [[Ac.int IntKind.i64 e.To]]]) [A2.row 0 1 [[Ac.int IntKind.i64 e.To]],A2.box [Ac.int IntKind.i64 e.ID,Ac.int IntKind.i64 e.From,Ac.int IntKind.i64 e.To,Ac.int IntKind.i64 e.Cost]] (by
    intro o ho
    rcases Akz.1 ho with ho | ho
    ·exact iH g o ho
    ·simp at ho;subst ho;simp)
   rw[apN]at this
   exact this
  have ag:k=l.length:=by have:=Ako hc;omega
  subst ag
  rw[List.take_length]at hg
  refine xt (qe (qe (bs (qn ?_))))
  refine AWP.sub (Sub.weak (fr':=[(1,.sl 1 (from_.map Bb)),(5,.map 0)]) (H':=.mpo false (gE 1 g)::gR g) (w7 g [] |> fun h=>by rwa [List.append_nil]at h) (by(simp (implicitDefEqProofs:=false) (decide:=true) only[go_sem,Nat.reduceAdd,Nat.reduceMul,Nat.reduceSub,Int.reduceToNat,Eg,Int.natCast_zero,List.replicate_zero,List.length_take,List.length_drop,Ac.own.injEq,reduceCtorEq,Int.reduceAdd]<;>omega)) (.inl rfl)) ?_
  refine AWP.sub (Sub.groups (fun _ _ _ _=>rfl) (by(simp (implicitDefEqProofs:=false) (decide:=true) only[go_sem,Nat.reduceAdd,Nat.reduceMul,Nat.reduceSub,Int.reduceToNat,Eg,Int.natCast_zero,List.replicate_zero,List.length_take,List.length_drop,Ac.own.injEq,reduceCtorEq,Int.reduceAdd]<;>omega)) rfl rfl g) ?_
  subst hg
  refine sq (ar rfl (qn (sq ?_)))
  refine rg rfl fun K j=>?_
  obtain⟨y1,bp,h⟩:=Ah h
  refine Al.row Tryz.call67 (Gn from_ bp) rfl 2 rfl ?_
  (try simp +decide -implicitDefEqProofs only[go_sem,Aky])
  refine j _ _ (qn (sq (bk ?_)))
  obtain⟨o4,cp,mo⟩:=Ah h
  clear h
  refine AWP.Bw (ι:=Nat×((List (Int×Bool))×(List Int))×(Nat)) (fun zz=>[(5,.map 0),(8,.map 1),(9,.own 2 zz.2.2 0 zz.2.1.2.length)]) (fun zz=>[.mp (mpE E5 (Ck l)),.mp (mpE eN zz.2.1.1),.row zz.2.2 1 (zz.2.1.2.map Bb)]) (fun zz=>D6 (Gf l) zz.1 zz.2.1=some o4) (fun zz=>zz.1) (fuel,([],y1),0) cp cu cu (fun x=>⟨rfl,rfl,rfl⟩) ?_
  clear cp
  rintro⟨n4,⟨reached2,open_3⟩,ya⟩ cp
  dsimp only at cp ⊢
  obtain⟨m4,b4,rfl,h,cp⟩:=Km cp
  unfold Gf at h;try dsimp only at h
  refine sq (sq (rg rfl fun K j=>?_))
  intro hm
  refine j _ _ (qn ?_)
  revert h;refine ca rfl (fun hc h=>?_) fun hc h=>?_
  rotate_left
  ·refine xt (qe (qe ?_))
   obtain⟨q6,hq,h⟩:=Ah h
   obtain rfl:=Aa h
   obtain rfl:=Ae cp
   replace h:=hq.trans (Ao mo)
   refine bs (qn (sq (rg rfl fun K j=>?_)))
   refine Al.V4 Tryz.call282 Tryz.keys282 rfl ?_
   refine nS ?_
   obtain⟨bg,h⟩:=Fz h
   obtain⟨hk,h⟩:=Bx h
   refine Al.nG Tryz.call281 Tryz.sortedKeys281 rfl rfl bg hk ?_
   refine nS ?_
   refine j _ _ (qn ?_)
   refine AWP.sub (Sub.swap 4 0 rfl rfl rfl) ?_
   refine nS (rt ?_)
   obtain rfl:=Aa h
   refine nSc Tryz.results266 ?_
   refine⟨_,_,?_,rfl⟩
   (try simp +decide -implicitDefEqProofs only[go_sem,Aky,Akw,List.length_cons,List.length_nil,List.length_set,Akx]);try rfl
  refine sk (qn (bk (sq (rg rfl fun K j=>?_))))
  intro hm
  obtain⟨cx,gm,h⟩:=Ah h
  refine Lb gm (by first | rfl | exact(Cy _).symm | (simp only[Akw,List.length_cons,List.length_nil,List.length_set,Akx]<;>omega)) ?_
  refine nS ?_
  refine Dm.of (f:=Bb) (l:=open_3) (n:=(IntKind.i64.wrap (((open_3.length:Nat):Int) - 1))) gm ?_
  refine nS ?_
  refine j _ _ (qn (sq ?_))
  refine rg rfl fun K j=>?_
  intro hm
  obtain⟨hk,h⟩:=Fz h
  (repeat(refine⟨by omega,?_⟩))
  refine j _ _ (qn ?_)
  refine AWP.sub (Sub.window 9 rfl rfl) ?_
  refine nS (sq ?_)
  refine rg rfl fun K j=>?_
  refine Ex.of (f:=eN) (m:=reached2) (d:=false) rfl ?_
  refine nS ?_
  refine j _ _ (qn ?_)
  revert h;refine ca rfl (fun hc h=>?_) fun hc h=>?_
  ·refine sq (ar rfl (qn ?_))
   refine rg rfl fun K j=>?_
   refine Ex.of (f:=E5) (m:=(Ck l)) (d:=[]) rfl ?_
   refine nS ?_
   obtain⟨hk,h⟩:=Bx h
   (repeat refine rp ?_);try simp +decide -implicitDefEqProofs only[go_sem]
   refine j _ _ (bn (qn ?_))
   obtain rfl:=Aa h
   refine⟨(m4,((mset reached2 cx true),((open_3.take (IntKind.i64.wrap (((open_3.length:Nat):Int) - 1)).toNat)++(mget [] (Ck l) cx))),((ya+1)+1)),Aj cp,by dsimp only;omega,?_,?_⟩
   ·exact cu
   exact cu
  refine sk (bn (qn ?_))
  obtain rfl:=Aa h
  refine⟨(m4,(reached2,(open_3.take (IntKind.i64.wrap (((open_3.length:Nat):Int) - 1)).toNat)),(ya+1)),Aj cp,by dsimp only;omega,?_,?_⟩
  ·exact cu
  exact cu
 obtain⟨v0,rest,rfl,rfl⟩:=hq
 refine⟨[.row v0 1 (r.map Bb)],?_,?_,?_,⟨v0,rfl,rfl⟩⟩
 all_goals exact cu
def Hy (m:Bd) (lifts:List Int) (runs:List Int):Option ((List Int)):=
 (O6 m lifts).bind fun y1=>(I5 m runs).bind fun y2=>(Nj [y1,y2]).bind fun y3=>(G7 y3 m.Bases).bind fun y4=>some y4
theorem Wh (m:Bd) (lifts:List Int) (runs:List Int) {r:(List Int)} (h:Hy m lifts runs=some r):Bu Tryz.prog 212 [.agg (Ct m),.sl 1 (lifts.map Bb),.sl 1 (runs.map Bb)] (·= .sl 1 (r.map Bb)):=by
 refine Bu.nle (Bu.intro Tryz.func212 rfl rfl (by show _≤18;simp) ?_)
 unfold Hy at h
 refine nS (sq ?_)
 refine ar rfl (qn (sq ?_))
 refine AWP.draw Tryz.mixed (by kernel_rfl) ?_;intro K j
 refine nS ?_
 obtain⟨y1,bp,h⟩:=Ah h
 refine Cf.pure Tryz.call267 (eW m lifts bp) rfl ?_
 refine nS ?_
 obtain⟨y2,dn,h⟩:=Ah h
 refine Cf.pure Tryz.call215 (Ss m runs dn) rfl ?_
 refine nS ?_
 obtain⟨y3,bx,h⟩:=Ah h
 refine Cf.kD Tryz.call214 (Vy [y1,y2] bx) (by simp +decide -implicitDefEqProofs only[go_sem]) ?_
 refine nS ?_
 obtain⟨y4,cn,h⟩:=Ah h
 refine Cf.row Tryz.call266 (V5 y3 m.Bases cn) rfl ?_
 (try simp +decide -implicitDefEqProofs only[go_sem,Aky])
 refine j _ _ _ (by kernel_rfl) ?_
 refine qn (rt ?_)
 cases h;exact en Tryz.results212
theorem Yo (m:Bd) (lifts:List Int) (runs:List Int) {r:(List Int)} (h:Hy m lifts runs=some r):Ad Tryz.prog 212 [.agg (Ct m),.sl 1 (lifts.map Bb),.sl 1 (runs.map Bb)] (·= .sl 1 (r.map Bb)):=(Wh m lifts runs h).pure
def Rk (m:Bd) (lifts:List Int) (runs:List Int) (run:Int):Option (Bool):=
 (Fb m run).bind fun y1=>(bif y1.2 then(Hy m lifts runs).bind fun y2=>(Br y2 y1.1.From).bind fun y3=>some y3 else some false)
theorem eV (m:Bd) (lifts:List Int) (runs:List Int) (run:Int) {r:Bool} (h:Rk m lifts runs run=some r):Ad Tryz.prog 109 [.agg (Ct m),.sl 1 (lifts.map Bb),.sl 1 (runs.map Bb),.int .i64 run] (·= .bool r):=by
 refine Ad.nle (Ad.intro Tryz.func109 rfl rfl (by show _≤27;simp) ?_)
 unfold Rk at h
 refine nS (sq ?_)
 refine ar rfl (qn (sq ?_))
 refine rg rfl fun K j=>?_
 obtain⟨y1,bp,h⟩:=Ah h
 refine Al.pure Tryz.call53 (Ei m run bp) rfl fun _ hr=>?_
 subst hr
 refine nS ?_
 refine j _ _ (qn (sq ?_))
 refine AWP.draw Tryz.mixed (by kernel_rfl) ?_;intro K j
 refine nS ?_
 revert h;refine gt (fun hc h=>?_) fun hc h=>?_
 ·obtain⟨y2,dn,h⟩:=Ah h
  refine Cf.pure Tryz.call212 (Yo m lifts runs dn) rfl ?_
  refine nS ?_
  obtain⟨y3,bx,h⟩:=Ah h
  refine Cf.pure Tryz.call54 (Bt y2 y1.1.From bx) rfl ?_
  refine nS ?_
  refine j _ _ _ (by kernel_rfl) ?_
  refine qn (rt ?_)
  cases h;exact en Tryz.results109
 refine j _ _ _ (by kernel_rfl) ?_
 refine qn (rt ?_)
 cases h;exact en Tryz.results109
def E4 (s_:List A7):Option (List A7):=chk s_.length (some s_)
theorem Ml (s_:List A7) {r:List A7} (h:E4 s_=some r):Dj Tryz.prog 268 [.sl 4 (s_.map Cg)] 4 (r.map Cg):=by
 have hk:=(Bx h).1
 have hr:r=s_:=Aa (Bx h).2
 rw[hr];clear hr h
 refine Dj.of ?_
 refine Cv.weak (R:=fun q H=>∃ v rest,q= .own 0 v 0 (s_.map Cg).length∧H= .row v 4 (s_.map Cg)::rest) (Cv.intro Tryz.func268 rfl rfl (by show _≤8;simp) ?_) (fun q H hq=>?_)
 ·refine nS (sq ?_)
  refine ar rfl (qn (sq (sq ?_)))
  refine rg rfl fun K j=>?_
  intro bnil hb
  refine nS ?_
  refine j _ _ (qn ?_)
  refine AWP.cond (Am (fun hc=>?_) (fun hc=>?_))
  ·have aw:s_=[]:=Classical.byContradiction fun bc=>by have:=hb (by simpa using bc);simp[this]at hc
   subst aw
   refine sq (ar rfl (qn ?_))
   refine AWP.ghost 2 4 rfl (by decide) ?_
   refine nS (rt (qr ?_))
   refine nSc Tryz.results268 ?_
   refine⟨_,_,?_,rfl⟩
   (try simp +decide -implicitDefEqProofs only[go_sem,Aky,Akw,List.length_cons,List.length_nil,List.length_set,Akx]);try rfl
  clear hc
  refine sk (qn (sq (rg rfl fun K j=>?_)))
  (repeat refine rp ?_);try simp +decide -implicitDefEqProofs only[go_sem]
  refine j _ _ (qn (rt ?_))
  refine nSc Tryz.results268 ?_
  refine⟨_,_,?_,rfl⟩
  (try simp +decide -implicitDefEqProofs only[go_sem,Aky,Akw,List.length_cons,List.length_nil,List.length_set,Akx]);try rfl
 obtain⟨v,rest,rfl,rfl⟩:=hq
 exact⟨[.row v 4 (s_.map Cg)],⟨⟨rfl,rfl,rfl⟩,by cases rest<;>trivial⟩,rfl,rfl,⟨v,rfl,rfl⟩⟩
def Mt (k3:Nat) (ch:A7) (sv:(List A7)):Option (Out ((List A7)) ((List Int))):=
 (Dv sv ((k3:Nat):Int)).bind fun cx=>some (Out.next ((sv.set k3 (A7.mk cx.ID ch.To cx.To cx.Cost)).set k3 (A7.mk cx.ID ch.To ch.From cx.Cost)))
def Sa (l:List A7) (to_:List Int):Option ((List Int)):=
 (E4 l).bind fun y1=>(An Mt 0 l y1).bind fun o3=>o3.on fun s3=>(G7 s3 to_).bind fun y9=>some y9
theorem iD (l:List A7) (to_:List Int) {r:(List Int)} (h:Sa l to_=some r):Dj Tryz.prog 213 [.sl 4 (l.map Cg),.sl 1 (to_.map Bb)] 1 (r.map Bb):=by
 refine Dj.of ?_
 refine Cv.weak (R:=fun q H=>∃ v0 rest,q= .own 0 v0 0 (r.map Bb).length∧H= .row v0 1 (r.map Bb)::rest) (Cv.intro Tryz.func213 rfl rfl (by show _≤33;simp) ?_) (fun q H hq=>?_)
 ·unfold Sa at h
  refine nS (sq ?_)
  refine ar rfl (qn (sq ?_))
  refine rg rfl fun K j=>?_
  obtain⟨y1,bp,h⟩:=Ah h
  refine Al.row Tryz.call268 (Ml l bp) rfl 0 rfl ?_
  (try simp +decide -implicitDefEqProofs only[go_sem,Aky])
  refine j _ _ (qn (sq (sq ?_)))
  refine rg rfl fun K j=>?_
  intro hm
  refine j _ _ (qn (bk ?_))
  obtain⟨o3,bw,gw⟩:=Ah h
  clear h
  refine AWP.Bw (ι:=Nat×((List A7))×(Nat)) (fun zz=>[(1,.sl 1 (to_.map Bb)),(5,.own 0 zz.2.2 0 zz.2.1.length),(10,.sl 4 (l.map Cg)),(11,.int .i64 ((l.length:Nat):Int)),(12,.int .i64 ((zz.1:Nat):Int))]) (fun zz=>[.row zz.2.2 4 (zz.2.1.map Cg)]) (fun zz=>zz.1≤l.length∧An Mt zz.1 ((l).drop zz.1) zz.2.1=some o3) (fun zz=>l.length - zz.1) (0,y1,0) ⟨Nat.zero_le _,bw⟩ cu cu (fun x=>⟨rfl,rfl,rfl⟩) ?_
  clear bw
  rintro⟨k3,turned2,ver3⟩ ⟨nw,bw⟩
  dsimp only at nw bw ⊢
  refine sq (ar rfl (qn (sq ?_)))
  refine AWP.cond (Am (fun hc=>?_) (fun hc=>?_))
  ·have fe:k3<l.length:=by have:=Akp hc;omega
   obtain⟨ch,b3,mc,h,bw⟩:=Bc bw fe
   have ns:=A9 mc
   have iz:=wk (k:=k3) (by omega)
   unfold Mt at h;try dsimp only at h
   refine sk (qn (sq (bk (sq (rg rfl fun K j=>?_)))))
   refine Bo.of (f:=Cg) (l:=l) ns ?_
   refine nS ?_
   refine j _ _ (qn ?_)
   refine AWP.draw Tryz.mixed (by kernel_rfl) ?_;intro K j
   refine nS ?_
   obtain⟨cx,gm,h⟩:=Ah h
   refine Lb gm (by first | rfl | exact(Cy _).symm | (simp only[Akw,List.length_cons,List.length_nil,List.length_set,Akx]<;>omega)) ?_
   refine nS ?_
   refine Dm.ofNat (f:=Cg) (l:=turned2) (n:=k3) gm ?_
   have hs7:=Uo (y:=(A7.mk cx.ID ch.To cx.To cx.Cost)) gm
   refine nS ?_
   refine Lb hs7 (by first | rfl | exact(Cy _).symm | (simp only[Akw,List.length_cons,List.length_nil,List.length_set,Akx]<;>omega)) ?_
   refine nS ?_
   refine Dm.ofNat (f:=Cg) (l:=(turned2.set k3 (A7.mk cx.ID ch.To cx.To cx.Cost))) (n:=k3) hs7 ?_
   have hs8:=Uo (y:=(A7.mk cx.ID ch.To ch.From cx.Cost)) hs7
   refine nS ?_
   refine j _ _ _ (by kernel_rfl) ?_
   refine bn (qn (ar rfl (qn ?_)))
   obtain rfl:=Aa h
   refine⟨(k3+1,((turned2.set k3 (A7.mk cx.ID ch.To cx.To cx.Cost)).set k3 (A7.mk cx.ID ch.To ch.From cx.Cost)),ver3),⟨by dsimp only;omega,Aj bw⟩,by dsimp only;omega,?_,?_⟩
   ·exact cuw iz
   exact cuw iz
  obtain rfl:=Bg bw (fun hl=>by have:=Ako hc;omega)
  have h:=Bf gw;try dsimp only at h
  have ag:l.length=k3:=by have:=Ako hc;omega
  subst ag
  refine xt (qe (qe (bs (qn (sq (rg rfl fun K j=>?_))))))
  obtain⟨y9,ic,h⟩:=Ah h
  refine Al.zU Tryz.call266 (V5 turned2 to_ ic) (by simp +decide -implicitDefEqProofs only[go_sem]) (by simp +decide -implicitDefEqProofs only[go_sem]) 1 rfl ?_
  (try simp +decide -implicitDefEqProofs only[go_sem,Aky])
  refine j _ _ (qn ?_)
  refine AWP.sub (Sub.swap 1 0 rfl rfl rfl) ?_
  refine nS (rt ?_)
  obtain rfl:=Aa h
  refine nSc Tryz.results213 ?_
  refine⟨_,_,?_,rfl⟩
  (try simp +decide -implicitDefEqProofs only[go_sem,Aky,Akw,List.length_cons,List.length_nil,List.length_set,Akx]);try rfl
 obtain⟨v0,rest,rfl,rfl⟩:=hq
 refine⟨[.row v0 1 (r.map Bb)],?_,?_,?_,⟨v0,rfl,rfl⟩⟩
 all_goals exact cu
def Rc (m:Bd) (runs:List Int):Option ((List Int)):=
 (I5 m runs).bind fun y1=>(Nj [y1]).bind fun y2=>(Sa y2 m.Bases).bind fun y3=>some y3
theorem eU (m:Bd) (runs:List Int) {r:(List Int)} (h:Rc m runs=some r):Bu Tryz.prog 111 [.agg (Ct m),.sl 1 (runs.map Bb)] (·= .sl 1 (r.map Bb)):=by
 refine Bu.nle (Bu.intro Tryz.func111 rfl rfl (by show _≤13;simp) ?_)
 unfold Rc at h
 refine nS (sq ?_)
 refine ar rfl (qn (sq ?_))
 refine AWP.draw Tryz.mixed (by kernel_rfl) ?_;intro K j
 refine nS ?_
 obtain⟨y1,bp,h⟩:=Ah h
 refine Cf.pure Tryz.call215 (Ss m runs bp) rfl ?_
 refine nS ?_
 obtain⟨y2,dn,h⟩:=Ah h
 refine Cf.kD Tryz.call214 (Vy [y1] dn) (by simp +decide -implicitDefEqProofs only[go_sem]) ?_
 refine nS ?_
 obtain⟨y3,bx,h⟩:=Ah h
 refine Cf.row Tryz.call213 (iD y2 m.Bases bx) rfl ?_
 (try simp +decide -implicitDefEqProofs only[go_sem,Aky])
 refine j _ _ _ (by kernel_rfl) ?_
 refine qn (rt ?_)
 cases h;exact en Tryz.results111
theorem fS (m:Bd) (runs:List Int) {r:(List Int)} (h:Rc m runs=some r):Ad Tryz.prog 111 [.agg (Ct m),.sl 1 (runs.map Bb)] (·= .sl 1 (r.map Bb)):=(eU m runs h).pure
def El (f_:Af) (open_:List Int) (run:Int):Option (Bool):=
 (Fb f_.Map run).bind fun y1=>(F8 f_).bind fun y2=>(Rk f_.Map y2 open_ run).bind fun y3=>(bif y3 then(Rc f_.Map open_).bind fun y4=>(Br y4 y1.1.To).bind fun y5=>some y5 else some false)
theorem Gm (f_:Af) (open_:List Int) (run:Int) {r:Bool} (h:El f_ open_ run=some r):Ad Tryz.prog 49 [.agg (Ce f_),.sl 1 (open_.map Bb),.int .i64 run] (·= .bool r):=by
 refine Ad.nle (Ad.intro Tryz.func49 rfl rfl (by show _≤32;simp) ?_)
 unfold El at h
 refine nS (sq ?_)
 refine ar rfl (qn (sq ?_))
 refine rg rfl fun K j=>?_
 obtain⟨y1,bp,h⟩:=Ah h
 refine Al.pure Tryz.call53 (Ei f_.Map run bp) rfl fun _ hr=>?_
 subst hr
 refine nS ?_
 refine j _ _ (qn (sq ?_))
 refine AWP.draw Tryz.mixed (by kernel_rfl) ?_;intro K j
 refine nS ?_
 obtain⟨y2,dn,h⟩:=Ah h
 refine Cf.pure Tryz.call110 (V8 f_ dn) rfl ?_
 refine nS ?_
 obtain⟨y3,bx,h⟩:=Ah h
 refine Cf.pure Tryz.call109 (eV f_.Map y2 open_ run bx) rfl ?_
 refine nS ?_
 revert h;refine gt (fun hc h=>?_) fun hc h=>?_
 ·obtain⟨y4,cn,h⟩:=Ah h
  refine Cf.pure Tryz.call111 (fS f_.Map open_ cn) rfl ?_
  refine nS ?_
  obtain⟨y5,db,h⟩:=Ah h
  refine Cf.pure Tryz.call54 (Bt y4 y1.1.To db) rfl ?_
  refine nS ?_
  refine j _ _ _ (by kernel_rfl) ?_
  refine qn (rt ?_)
  cases h;exact en Tryz.results49
 refine j _ _ _ (by kernel_rfl) ?_
 refine qn (rt ?_)
 cases h;exact en Tryz.results49
def Cw (f_:Af) (open_:List Int) (run:Int):Option (Int):=
 (Dd f_ run).bind fun y1=>(bif (decide (y1≠0))then some y1 else(El f_ open_ run).bind fun y2=>(bif (!y2)then some 16 else some 0))
theorem Dt (f_:Af) (open_:List Int) (run:Int) {r:Int} (h:Cw f_ open_ run=some r):Ad Tryz.prog 18 [.agg (Ce f_),.sl 1 (open_.map Bb),.int .i64 run] (·= .int .i64 r):=by
 refine Ad.nle (Ad.intro Tryz.func18 rfl rfl (by show _≤19;simp) ?_)
 unfold Cw at h
 refine nS (sq ?_)
 refine ar rfl (qn (sq (sq ?_)))
 refine rg rfl fun K j=>?_
 obtain⟨y1,bp,h⟩:=Ah h
 refine Al.pure Tryz.call48 (J5 f_ run bp) rfl fun _ hr=>?_
 subst hr
 refine nS ?_
 refine j _ _ (qn (sq ?_))
 refine ar rfl (qn ?_)
 revert h;refine ca rfl (fun hc h=>?_) fun hc h=>?_
 ·refine sq (ar rfl (qn (rt (qr ?_))))
  cases h;exact en Tryz.results18
 refine sk (qn (sq (sq (rg rfl fun K j=>?_))))
 obtain⟨y2,dn,h⟩:=Ah h
 refine Al.pure Tryz.call49 (Gm f_ open_ run dn) rfl fun _ hr=>?_
 subst hr
 refine nS ?_
 refine j _ _ (qn ?_)
 revert h;refine ca rfl (fun hc h=>?_) fun hc h=>?_
 ·refine sq (ar rfl (qn (rt (qr ?_))))
  cases h;exact en Tryz.results18
 refine sk (qn (sq (ar rfl (qn (rt ?_)))))
 cases h;exact en Tryz.results18
def Ci (s_:List Cr):Option (List Cr):=chk s_.length (some s_)
theorem Mj (s_:List Cr) {r:List Cr} (h:Ci s_=some r):Dj Tryz.prog 122 [.sl 2 (s_.map A5)] 2 (r.map A5):=by
 have hk:=(Bx h).1
 have hr:r=s_:=Aa (Bx h).2
 rw[hr];clear hr h
 refine Dj.of ?_
 refine Cv.weak (R:=fun q H=>∃ v rest,q= .own 0 v 0 (s_.map A5).length∧H= .row v 2 (s_.map A5)::rest) (Cv.intro Tryz.func122 rfl rfl (by show _≤8;simp) ?_) (fun q H hq=>?_)
 ·refine nS (sq ?_)
  refine ar rfl (qn (sq (sq ?_)))
  refine rg rfl fun K j=>?_
  intro bnil hb
  refine nS ?_
  refine j _ _ (qn ?_)
  refine AWP.cond (Am (fun hc=>?_) (fun hc=>?_))
  ·have aw:s_=[]:=Classical.byContradiction fun bc=>by have:=hb (by simpa using bc);simp[this]at hc
   subst aw
   refine sq (ar rfl (qn ?_))
   refine AWP.ghost 2 2 rfl (by decide) ?_
   refine nS (rt (qr ?_))
   refine nSc Tryz.results122 ?_
   refine⟨_,_,?_,rfl⟩
   (try simp +decide -implicitDefEqProofs only[go_sem,Aky,Akw,List.length_cons,List.length_nil,List.length_set,Akx]);try rfl
  clear hc
  refine sk (qn (sq (rg rfl fun K j=>?_)))
  (repeat refine rp ?_);try simp +decide -implicitDefEqProofs only[go_sem]
  refine j _ _ (qn (rt ?_))
  refine nSc Tryz.results122 ?_
  refine⟨_,_,?_,rfl⟩
  (try simp +decide -implicitDefEqProofs only[go_sem,Aky,Akw,List.length_cons,List.length_nil,List.length_set,Akx]);try rfl
 obtain⟨v,rest,rfl,rfl⟩:=hq
 exact⟨[.row v 2 (s_.map A5)],⟨⟨rfl,rfl,rfl⟩,by cases rest<;>trivial⟩,rfl,rfl,⟨v,rfl,rfl⟩⟩
theorem Lp (s_:List Cr) {r:List Cr} (h:Ci s_=some r):Bu Tryz.prog 122 [.sl 2 (s_.map A5)] (·= .sl 2 (r.map A5)):=Bu.nle (Cv.fresh (Cv.mono (Mj s_ h) fun q H=>by rintro⟨rfl,rfl⟩;simp +decide -implicitDefEqProofs only[go_sem,Eg,Ac.int.injEq,Int.natCast_zero,List.replicate_zero,List.length_take,List.length_drop,Ac.own.injEq,reduceCtorEq,Int.reduceAdd,Sl,Sm,Pd,Sk,Pc,Aky]))
theorem D7 (s_:List Cr) {r:List Cr} (h:Ci s_=some r):Ad Tryz.prog 122 [.sl 2 (s_.map A5)] (·= .sl 2 (r.map A5)):=(Lp s_ h).pure
def Cj (s_:List Co):Option (List Co):=chk s_.length (some s_)
theorem Mk (s_:List Co) {r:List Co} (h:Cj s_=some r):Dj Tryz.prog 123 [.sl 8 (s_.map A6)] 8 (r.map A6):=by
 have hk:=(Bx h).1
 have hr:r=s_:=Aa (Bx h).2
 rw[hr];clear hr h
 refine Dj.of ?_
 refine Cv.weak (R:=fun q H=>∃ v rest,q= .own 0 v 0 (s_.map A6).length∧H= .row v 8 (s_.map A6)::rest) (Cv.intro Tryz.func123 rfl rfl (by show _≤8;simp) ?_) (fun q H hq=>?_)
 ·refine nS (sq ?_)
  refine ar rfl (qn (sq (sq ?_)))
  refine rg rfl fun K j=>?_
  intro bnil hb
  refine nS ?_
  refine j _ _ (qn ?_)
  refine AWP.cond (Am (fun hc=>?_) (fun hc=>?_))
  ·have aw:s_=[]:=Classical.byContradiction fun bc=>by have:=hb (by simpa using bc);simp[this]at hc
   subst aw
   refine sq (ar rfl (qn ?_))
   refine AWP.ghost 2 8 rfl (by decide) ?_
   refine nS (rt (qr ?_))
   refine nSc Tryz.results123 ?_
   refine⟨_,_,?_,rfl⟩
   (try simp +decide -implicitDefEqProofs only[go_sem,Aky,Akw,List.length_cons,List.length_nil,List.length_set,Akx]);try rfl
  clear hc
  refine sk (qn (sq (rg rfl fun K j=>?_)))
  (repeat refine rp ?_);try simp +decide -implicitDefEqProofs only[go_sem]
  refine j _ _ (qn (rt ?_))
  refine nSc Tryz.results123 ?_
  refine⟨_,_,?_,rfl⟩
  (try simp +decide -implicitDefEqProofs only[go_sem,Aky,Akw,List.length_cons,List.length_nil,List.length_set,Akx]);try rfl
 obtain⟨v,rest,rfl,rfl⟩:=hq
 exact⟨[.row v 8 (s_.map A6)],⟨⟨rfl,rfl,rfl⟩,by cases rest<;>trivial⟩,rfl,rfl,⟨v,rfl,rfl⟩⟩
theorem Lq (s_:List Co) {r:List Co} (h:Cj s_=some r):Bu Tryz.prog 123 [.sl 8 (s_.map A6)] (·= .sl 8 (r.map A6)):=Bu.nle (Cv.fresh (Cv.mono (Mk s_ h) fun q H=>by rintro⟨rfl,rfl⟩;simp +decide -implicitDefEqProofs only[go_sem,Eg,Ac.int.injEq,Int.natCast_zero,List.replicate_zero,List.length_take,List.length_drop,Ac.own.injEq,reduceCtorEq,Int.reduceAdd,Sl,Sm,Pd,Sk,Pc,Aky]))
theorem D8 (s_:List Co) {r:List Co} (h:Cj s_=some r):Ad Tryz.prog 123 [.sl 8 (s_.map A6)] (·= .sl 8 (r.map A6)):=(Lq s_ h).pure
def Cm (s_:List Cq):Option (List Cq):=chk s_.length (some s_)
theorem Nw (s_:List Cq) {r:List Cq} (h:Cm s_=some r):Dj Tryz.prog 124 [.sl 7 (s_.map Ba)] 7 (r.map Ba):=by
 have hk:=(Bx h).1
 have hr:r=s_:=Aa (Bx h).2
 rw[hr];clear hr h
 refine Dj.of ?_
 refine Cv.weak (R:=fun q H=>∃ v rest,q= .own 0 v 0 (s_.map Ba).length∧H= .row v 7 (s_.map Ba)::rest) (Cv.intro Tryz.func124 rfl rfl (by show _≤8;simp) ?_) (fun q H hq=>?_)
 ·refine nS (sq ?_)
  refine ar rfl (qn (sq (sq ?_)))
  refine rg rfl fun K j=>?_
  intro bnil hb
  refine nS ?_
  refine j _ _ (qn ?_)
  refine AWP.cond (Am (fun hc=>?_) (fun hc=>?_))
  ·have aw:s_=[]:=Classical.byContradiction fun bc=>by have:=hb (by simpa using bc);simp[this]at hc
   subst aw
   refine sq (ar rfl (qn ?_))
   refine AWP.ghost 2 7 rfl (by decide) ?_
   refine nS (rt (qr ?_))
   refine nSc Tryz.results124 ?_
   refine⟨_,_,?_,rfl⟩
   (try simp +decide -implicitDefEqProofs only[go_sem,Aky,Akw,List.length_cons,List.length_nil,List.length_set,Akx]);try rfl
  clear hc
  refine sk (qn (sq (rg rfl fun K j=>?_)))
  (repeat refine rp ?_);try simp +decide -implicitDefEqProofs only[go_sem]
  refine j _ _ (qn (rt ?_))
  refine nSc Tryz.results124 ?_
  refine⟨_,_,?_,rfl⟩
  (try simp +decide -implicitDefEqProofs only[go_sem,Aky,Akw,List.length_cons,List.length_nil,List.length_set,Akx]);try rfl
 obtain⟨v,rest,rfl,rfl⟩:=hq
 exact⟨[.row v 7 (s_.map Ba)],⟨⟨rfl,rfl,rfl⟩,by cases rest<;>trivial⟩,rfl,rfl,⟨v,rfl,rfl⟩⟩
theorem Mi (s_:List Cq) {r:List Cq} (h:Cm s_=some r):Bu Tryz.prog 124 [.sl 7 (s_.map Ba)] (·= .sl 7 (r.map Ba)):=Bu.nle (Cv.fresh (Cv.mono (Nw s_ h) fun q H=>by rintro⟨rfl,rfl⟩;simp +decide -implicitDefEqProofs only[go_sem,Eg,Ac.int.injEq,Int.natCast_zero,List.replicate_zero,List.length_take,List.length_drop,Ac.own.injEq,reduceCtorEq,Int.reduceAdd,Sl,Sm,Pd,Sk,Pc,Aky]))
theorem Eh (s_:List Cq) {r:List Cq} (h:Cm s_=some r):Ad Tryz.prog 124 [.sl 7 (s_.map Ba)] (·= .sl 7 (r.map Ba)):=(Mi s_ h).pure
def Bv (s_:List Cs):Option (List Cs):=chk s_.length (some s_)
theorem Iq (s_:List Cs) {r:List Cs} (h:Bv s_=some r):Dj Tryz.prog 125 [.sl 2 (s_.map Av)] 2 (r.map Av):=by
 have hk:=(Bx h).1
 have hr:r=s_:=Aa (Bx h).2
 rw[hr];clear hr h
 refine Dj.of ?_
 refine Cv.weak (R:=fun q H=>∃ v rest,q= .own 0 v 0 (s_.map Av).length∧H= .row v 2 (s_.map Av)::rest) (Cv.intro Tryz.func125 rfl rfl (by show _≤8;simp) ?_) (fun q H hq=>?_)
 ·refine nS (sq ?_)
  refine ar rfl (qn (sq (sq ?_)))
  refine rg rfl fun K j=>?_
  intro bnil hb
  refine nS ?_
  refine j _ _ (qn ?_)
  refine AWP.cond (Am (fun hc=>?_) (fun hc=>?_))
  ·have aw:s_=[]:=Classical.byContradiction fun bc=>by have:=hb (by simpa using bc);simp[this]at hc
   subst aw
   refine sq (ar rfl (qn ?_))
   refine AWP.ghost 2 2 rfl (by decide) ?_
   refine nS (rt (qr ?_))
   refine nSc Tryz.results125 ?_
   refine⟨_,_,?_,rfl⟩
   (try simp +decide -implicitDefEqProofs only[go_sem,Aky,Akw,List.length_cons,List.length_nil,List.length_set,Akx]);try rfl
  clear hc
  refine sk (qn (sq (rg rfl fun K j=>?_)))
  (repeat refine rp ?_);try simp +decide -implicitDefEqProofs only[go_sem]
  refine j _ _ (qn (rt ?_))
  refine nSc Tryz.results125 ?_
  refine⟨_,_,?_,rfl⟩
  (try simp +decide -implicitDefEqProofs only[go_sem,Aky,Akw,List.length_cons,List.length_nil,List.length_set,Akx]);try rfl
 obtain⟨v,rest,rfl,rfl⟩:=hq
 exact⟨[.row v 2 (s_.map Av)],⟨⟨rfl,rfl,rfl⟩,by cases rest<;>trivial⟩,rfl,rfl,⟨v,rfl,rfl⟩⟩
theorem Ho (s_:List Cs) {r:List Cs} (h:Bv s_=some r):Bu Tryz.prog 125 [.sl 2 (s_.map Av)] (·= .sl 2 (r.map Av)):=Bu.nle (Cv.fresh (Cv.mono (Iq s_ h) fun q H=>by rintro⟨rfl,rfl⟩;simp +decide -implicitDefEqProofs only[go_sem,Eg,Ac.int.injEq,Int.natCast_zero,List.replicate_zero,List.length_take,List.length_drop,Ac.own.injEq,reduceCtorEq,Int.reduceAdd,Sl,Sm,Pd,Sk,Pc,Aky]))
theorem Di (s_:List Cs) {r:List Cs} (h:Bv s_=some r):Ad Tryz.prog 125 [.sl 2 (s_.map Av)] (·= .sl 2 (r.map Av)):=(Ho s_ h).pure
def B7 (s_:List Bn):Option (List Bn):=chk s_.length (some s_)
theorem Jo (s_:List Bn) {r:List Bn} (h:B7 s_=some r):Dj Tryz.prog 126 [.sl 4 (s_.map Au)] 4 (r.map Au):=by
 have hk:=(Bx h).1
 have hr:r=s_:=Aa (Bx h).2
 rw[hr];clear hr h
 refine Dj.of ?_
 refine Cv.weak (R:=fun q H=>∃ v rest,q= .own 0 v 0 (s_.map Au).length∧H= .row v 4 (s_.map Au)::rest) (Cv.intro Tryz.func126 rfl rfl (by show _≤8;simp) ?_) (fun q H hq=>?_)
 ·refine nS (sq ?_)
  refine ar rfl (qn (sq (sq ?_)))
  refine rg rfl fun K j=>?_
  intro bnil hb
  refine nS ?_
  refine j _ _ (qn ?_)
  refine AWP.cond (Am (fun hc=>?_) (fun hc=>?_))
  ·have aw:s_=[]:=Classical.byContradiction fun bc=>by have:=hb (by simpa using bc);simp[this]at hc
   subst aw
   refine sq (ar rfl (qn ?_))
   refine AWP.ghost 2 4 rfl (by decide) ?_
   refine nS (rt (qr ?_))
   refine nSc Tryz.results126 ?_
   refine⟨_,_,?_,rfl⟩
   (try simp +decide -implicitDefEqProofs only[go_sem,Aky,Akw,List.length_cons,List.length_nil,List.length_set,Akx]);try rfl
  clear hc
  refine sk (qn (sq (rg rfl fun K j=>?_)))
  (repeat refine rp ?_);try simp +decide -implicitDefEqProofs only[go_sem]
  refine j _ _ (qn (rt ?_))
  refine nSc Tryz.results126 ?_
  refine⟨_,_,?_,rfl⟩
  (try simp +decide -implicitDefEqProofs only[go_sem,Aky,Akw,List.length_cons,List.length_nil,List.length_set,Akx]);try rfl
 obtain⟨v,rest,rfl,rfl⟩:=hq
 exact⟨[.row v 4 (s_.map Au)],⟨⟨rfl,rfl,rfl⟩,by cases rest<;>trivial⟩,rfl,rfl,⟨v,rfl,rfl⟩⟩
theorem It (s_:List Bn) {r:List Bn} (h:B7 s_=some r):Bu Tryz.prog 126 [.sl 4 (s_.map Au)] (·= .sl 4 (r.map Au)):=Bu.nle (Cv.fresh (Cv.mono (Jo s_ h) fun q H=>by rintro⟨rfl,rfl⟩;simp +decide -implicitDefEqProofs only[go_sem,Eg,Ac.int.injEq,Int.natCast_zero,List.replicate_zero,List.length_take,List.length_drop,Ac.own.injEq,reduceCtorEq,Int.reduceAdd,Sl,Sm,Pd,Sk,Pc,Aky]))
theorem Ds (s_:List Bn) {r:List Bn} (h:B7 s_=some r):Ad Tryz.prog 126 [.sl 4 (s_.map Au)] (·= .sl 4 (r.map Au)):=(It s_ h).pure
def Dg (s_:List F2):Option (List F2):=chk s_.length (some s_)
theorem Mh (s_:List F2) {r:List F2} (h:Dg s_=some r):Dj Tryz.prog 129 [.sl 3 (s_.map Cl)] 3 (r.map Cl):=by
 have hk:=(Bx h).1
 have hr:r=s_:=Aa (Bx h).2
 rw[hr];clear hr h
 refine Dj.of ?_
 refine Cv.weak (R:=fun q H=>∃ v rest,q= .own 0 v 0 (s_.map Cl).length∧H= .row v 3 (s_.map Cl)::rest) (Cv.intro Tryz.func129 rfl rfl (by show _≤8;simp) ?_) (fun q H hq=>?_)
 ·refine nS (sq ?_)
  refine ar rfl (qn (sq (sq ?_)))
  refine rg rfl fun K j=>?_
  intro bnil hb
  refine nS ?_
  refine j _ _ (qn ?_)
  refine AWP.cond (Am (fun hc=>?_) (fun hc=>?_))
  ·have aw:s_=[]:=Classical.byContradiction fun bc=>by have:=hb (by simpa using bc);simp[this]at hc
   subst aw
   refine sq (ar rfl (qn ?_))
   refine AWP.ghost 2 3 rfl (by decide) ?_
   refine nS (rt (qr ?_))
   refine nSc Tryz.results129 ?_
   refine⟨_,_,?_,rfl⟩
   (try simp +decide -implicitDefEqProofs only[go_sem,Aky,Akw,List.length_cons,List.length_nil,List.length_set,Akx]);try rfl
  clear hc
  refine sk (qn (sq (rg rfl fun K j=>?_)))
  (repeat refine rp ?_);try simp +decide -implicitDefEqProofs only[go_sem]
  refine j _ _ (qn (rt ?_))
  refine nSc Tryz.results129 ?_
  refine⟨_,_,?_,rfl⟩
  (try simp +decide -implicitDefEqProofs only[go_sem,Aky,Akw,List.length_cons,List.length_nil,List.length_set,Akx]);try rfl
 obtain⟨v,rest,rfl,rfl⟩:=hq
 exact⟨[.row v 3 (s_.map Cl)],⟨⟨rfl,rfl,rfl⟩,by cases rest<;>trivial⟩,rfl,rfl,⟨v,rfl,rfl⟩⟩
theorem Lo (s_:List F2) {r:List F2} (h:Dg s_=some r):Bu Tryz.prog 129 [.sl 3 (s_.map Cl)] (·= .sl 3 (r.map Cl)):=Bu.nle (Cv.fresh (Cv.mono (Mh s_ h) fun q H=>by rintro⟨rfl,rfl⟩;simp +decide -implicitDefEqProofs only[go_sem,Eg,Ac.int.injEq,Int.natCast_zero,List.replicate_zero,List.length_take,List.length_drop,Ac.own.injEq,reduceCtorEq,Int.reduceAdd,Sl,Sm,Pd,Sk,Pc,Aky]))
theorem Mb (s_:List F2) {r:List F2} (h:Dg s_=some r):Ad Tryz.prog 129 [.sl 3 (s_.map Cl)] (·= .sl 3 (r.map Cl)):=(Lo s_ h).pure
def Db (l:Ch):Option (Ch):=
 (Cc l.List_.Items).bind fun y1=>(Dg l.List_.Signs).bind fun y2=>some (Ch.mk l.Run (Bq.mk y1 l.List_.Every y2))
theorem Hk (l:Ch) {r:Ch} (h:Db l=some r):Ad Tryz.prog 128 [.agg (Aq l)] (·= .agg (Aq r)):=by
 refine Ad.nle (Ad.intro Tryz.func128 rfl rfl (by show _≤16;simp) ?_)
 unfold Db at h
 refine nS (sq ?_)
 refine ar rfl (qn (sq ?_))
 refine rg rfl fun K j=>?_
 obtain⟨y1,bp,h⟩:=Ah h
 refine Al.pure Tryz.call67 (Cx l.List_.Items bp) rfl fun _ hr=>?_
 subst hr
 refine nS ?_
 refine j _ _ (qn (sq ?_))
 refine rg rfl fun K j=>?_
 obtain⟨y2,dn,h⟩:=Ah h
 refine Al.pure Tryz.call129 (Mb l.List_.Signs dn) rfl fun _ hr=>?_
 subst hr
 refine nS ?_
 refine j _ _ (qn (sq ?_))
 refine ar rfl (qn (rt ?_))
 cases h;exact en Tryz.results128
def B8 (s_:List C4):Option (List C4):=chk s_.length (some s_)
theorem Kh (s_:List C4) {r:List C4} (h:B8 s_=some r):Dj Tryz.prog 130 [.sl 3 (s_.map Ay)] 3 (r.map Ay):=by
 have hk:=(Bx h).1
 have hr:r=s_:=Aa (Bx h).2
 rw[hr];clear hr h
 refine Dj.of ?_
 refine Cv.weak (R:=fun q H=>∃ v rest,q= .own 0 v 0 (s_.map Ay).length∧H= .row v 3 (s_.map Ay)::rest) (Cv.intro Tryz.func130 rfl rfl (by show _≤8;simp) ?_) (fun q H hq=>?_)
 ·refine nS (sq ?_)
  refine ar rfl (qn (sq (sq ?_)))
  refine rg rfl fun K j=>?_
  intro bnil hb
  refine nS ?_
  refine j _ _ (qn ?_)
  refine AWP.cond (Am (fun hc=>?_) (fun hc=>?_))
  ·have aw:s_=[]:=Classical.byContradiction fun bc=>by have:=hb (by simpa using bc);simp[this]at hc
   subst aw
   refine sq (ar rfl (qn ?_))
   refine AWP.ghost 2 3 rfl (by decide) ?_
   refine nS (rt (qr ?_))
   refine nSc Tryz.results130 ?_
   refine⟨_,_,?_,rfl⟩
   (try simp +decide -implicitDefEqProofs only[go_sem,Aky,Akw,List.length_cons,List.length_nil,List.length_set,Akx]);try rfl
  clear hc
  refine sk (qn (sq (rg rfl fun K j=>?_)))
  (repeat refine rp ?_);try simp +decide -implicitDefEqProofs only[go_sem]
  refine j _ _ (qn (rt ?_))
  refine nSc Tryz.results130 ?_
  refine⟨_,_,?_,rfl⟩
  (try simp +decide -implicitDefEqProofs only[go_sem,Aky,Akw,List.length_cons,List.length_nil,List.length_set,Akx]);try rfl
 obtain⟨v,rest,rfl,rfl⟩:=hq
 exact⟨[.row v 3 (s_.map Ay)],⟨⟨rfl,rfl,rfl⟩,by cases rest<;>trivial⟩,rfl,rfl,⟨v,rfl,rfl⟩⟩
theorem Jm (s_:List C4) {r:List C4} (h:B8 s_=some r):Bu Tryz.prog 130 [.sl 3 (s_.map Ay)] (·= .sl 3 (r.map Ay)):=Bu.nle (Cv.fresh (Cv.mono (Kh s_ h) fun q H=>by rintro⟨rfl,rfl⟩;simp +decide -implicitDefEqProofs only[go_sem,Eg,Ac.int.injEq,Int.natCast_zero,List.replicate_zero,List.length_take,List.length_drop,Ac.own.injEq,reduceCtorEq,Int.reduceAdd,Sl,Sm,Pd,Sk,Pc,Aky]))
theorem Dy (s_:List C4) {r:List C4} (h:B8 s_=some r):Ad Tryz.prog 130 [.sl 3 (s_.map Ay)] (·= .sl 3 (r.map Ay)):=(Jm s_ h).pure
def B3 (s_:List C5):Option (List C5):=chk s_.length (some s_)
theorem Jj (s_:List C5) {r:List C5} (h:B3 s_=some r):Dj Tryz.prog 131 [.sl 3 (s_.map A1)] 3 (r.map A1):=by
 have hk:=(Bx h).1
 have hr:r=s_:=Aa (Bx h).2
 rw[hr];clear hr h
 refine Dj.of ?_
 refine Cv.weak (R:=fun q H=>∃ v rest,q= .own 0 v 0 (s_.map A1).length∧H= .row v 3 (s_.map A1)::rest) (Cv.intro Tryz.func131 rfl rfl (by show _≤8;simp) ?_) (fun q H hq=>?_)
 ·refine nS (sq ?_)
  refine ar rfl (qn (sq (sq ?_)))
  refine rg rfl fun K j=>?_
  intro bnil hb
  refine nS ?_
  refine j _ _ (qn ?_)
  refine AWP.cond (Am (fun hc=>?_) (fun hc=>?_))
  ·have aw:s_=[]:=Classical.byContradiction fun bc=>by have:=hb (by simpa using bc);simp[this]at hc
   subst aw
   refine sq (ar rfl (qn ?_))
   refine AWP.ghost 2 3 rfl (by decide) ?_
   refine nS (rt (qr ?_))
   refine nSc Tryz.results131 ?_
   refine⟨_,_,?_,rfl⟩
   (try simp +decide -implicitDefEqProofs only[go_sem,Aky,Akw,List.length_cons,List.length_nil,List.length_set,Akx]);try rfl
  clear hc
  refine sk (qn (sq (rg rfl fun K j=>?_)))
  (repeat refine rp ?_);try simp +decide -implicitDefEqProofs only[go_sem]
  refine j _ _ (qn (rt ?_))
  refine nSc Tryz.results131 ?_
  refine⟨_,_,?_,rfl⟩
  (try simp +decide -implicitDefEqProofs only[go_sem,Aky,Akw,List.length_cons,List.length_nil,List.length_set,Akx]);try rfl
 obtain⟨v,rest,rfl,rfl⟩:=hq
 exact⟨[.row v 3 (s_.map A1)],⟨⟨rfl,rfl,rfl⟩,by cases rest<;>trivial⟩,rfl,rfl,⟨v,rfl,rfl⟩⟩
theorem Im (s_:List C5) {r:List C5} (h:B3 s_=some r):Bu Tryz.prog 131 [.sl 3 (s_.map A1)] (·= .sl 3 (r.map A1)):=Bu.nle (Cv.fresh (Cv.mono (Jj s_ h) fun q H=>by rintro⟨rfl,rfl⟩;simp +decide -implicitDefEqProofs only[go_sem,Eg,Ac.int.injEq,Int.natCast_zero,List.replicate_zero,List.length_take,List.length_drop,Ac.own.injEq,reduceCtorEq,Int.reduceAdd,Sl,Sm,Pd,Sk,Pc,Aky]))
theorem Dn (s_:List C5) {r:List C5} (h:B3 s_=some r):Ad Tryz.prog 131 [.sl 3 (s_.map A1)] (·= .sl 3 (r.map A1)):=(Im s_ h).pure
def B4 (s_:List C7):Option (List C7):=chk s_.length (some s_)
theorem Jk (s_:List C7) {r:List C7} (h:B4 s_=some r):Dj Tryz.prog 132 [.sl 5 (s_.map Az)] 5 (r.map Az):=by
 have hk:=(Bx h).1
 have hr:r=s_:=Aa (Bx h).2
 rw[hr];clear hr h
 refine Dj.of ?_
 refine Cv.weak (R:=fun q H=>∃ v rest,q= .own 0 v 0 (s_.map Az).length∧H= .row v 5 (s_.map Az)::rest) (Cv.intro Tryz.func132 rfl rfl (by show _≤8;simp) ?_) (fun q H hq=>?_)
 ·refine nS (sq ?_)
  refine ar rfl (qn (sq (sq ?_)))
  refine rg rfl fun K j=>?_
  intro bnil hb
  refine nS ?_
  refine j _ _ (qn ?_)
  refine AWP.cond (Am (fun hc=>?_) (fun hc=>?_))
  ·have aw:s_=[]:=Classical.byContradiction fun bc=>by have:=hb (by simpa using bc);simp[this]at hc
   subst aw
   refine sq (ar rfl (qn ?_))
   refine AWP.ghost 2 5 rfl (by decide) ?_
   refine nS (rt (qr ?_))
   refine nSc Tryz.results132 ?_
   refine⟨_,_,?_,rfl⟩
   (try simp +decide -implicitDefEqProofs only[go_sem,Aky,Akw,List.length_cons,List.length_nil,List.length_set,Akx]);try rfl
  clear hc
  refine sk (qn (sq (rg rfl fun K j=>?_)))
  (repeat refine rp ?_);try simp +decide -implicitDefEqProofs only[go_sem]
  refine j _ _ (qn (rt ?_))
  refine nSc Tryz.results132 ?_
  refine⟨_,_,?_,rfl⟩
  (try simp +decide -implicitDefEqProofs only[go_sem,Aky,Akw,List.length_cons,List.length_nil,List.length_set,Akx]);try rfl
 obtain⟨v,rest,rfl,rfl⟩:=hq
 exact⟨[.row v 5 (s_.map Az)],⟨⟨rfl,rfl,rfl⟩,by cases rest<;>trivial⟩,rfl,rfl,⟨v,rfl,rfl⟩⟩
theorem Io (s_:List C7) {r:List C7} (h:B4 s_=some r):Bu Tryz.prog 132 [.sl 5 (s_.map Az)] (·= .sl 5 (r.map Az)):=Bu.nle (Cv.fresh (Cv.mono (Jk s_ h) fun q H=>by rintro⟨rfl,rfl⟩;simp +decide -implicitDefEqProofs only[go_sem,Eg,Ac.int.injEq,Int.natCast_zero,List.replicate_zero,List.length_take,List.length_drop,Ac.own.injEq,reduceCtorEq,Int.reduceAdd,Sl,Sm,Pd,Sk,Pc,Aky]))
theorem Dp (s_:List C7) {r:List C7} (h:B4 s_=some r):Ad Tryz.prog 132 [.sl 5 (s_.map Az)] (·= .sl 5 (r.map Az)):=(Io s_ h).pure
def Da (s_:Be):Option (Be):=
 (Cc s_.Zones).bind fun y1=>(Cc s_.Lifts).bind fun y2=>some (Be.mk s_.ID y1 y2 s_.Limit s_.Load s_.Controlled)
theorem Hj (s_:Be) {r:Be} (h:Da s_=some r):Ad Tryz.prog 134 [.agg (A3 s_)] (·= .agg (A3 r)):=by
 refine Ad.nle (Ad.intro Tryz.func134 rfl rfl (by show _≤12;simp) ?_)
 unfold Da at h
 refine nS (sq ?_)
 refine ar rfl (qn (sq ?_))
 refine rg rfl fun K j=>?_
 obtain⟨y1,bp,h⟩:=Ah h
 refine Al.pure Tryz.call67 (Cx s_.Zones bp) rfl fun _ hr=>?_
 subst hr
 refine nS ?_
 refine j _ _ (qn (sq ?_))
 refine rg rfl fun K j=>?_
 obtain⟨y2,dn,h⟩:=Ah h
 refine Al.pure Tryz.call67 (Cx s_.Lifts dn) rfl fun _ hr=>?_
 subst hr
 refine nS ?_
 refine j _ _ (qn (sq ?_))
 refine ar rfl (qn (rt ?_))
 cases h;exact en Tryz.results134
def C9 (b:Bi):Option (Bi):=
 (Cc b.Zones).bind fun y1=>some (Bi.mk b.Version b.Span b.Low b.High y1 b.Level)
theorem Hi (b:Bi) {r:Bi} (h:C9 b=some r):Ad Tryz.prog 136 [.agg (Ar b)] (·= .agg (Ar r)):=by
 refine Ad.nle (Ad.intro Tryz.func136 rfl rfl (by show _≤8;simp) ?_)
 unfold C9 at h
 refine nS (sq ?_)
 refine ar rfl (qn (sq ?_))
 refine rg rfl fun K j=>?_
 obtain⟨y1,bp,h⟩:=Ah h
 refine Al.pure Tryz.call67 (Cx b.Zones bp) rfl fun _ hr=>?_
 subst hr
 refine nS ?_
 refine j _ _ (qn (sq ?_))
 refine ar rfl (qn (rt ?_))
 cases h;exact en Tryz.results136
def B5 (s_:List Bh):Option (List Bh):=chk s_.length (some s_)
theorem Jl (s_:List Bh) {r:List Bh} (h:B5 s_=some r):Dj Tryz.prog 137 [.sl 7 (s_.map Ap)] 7 (r.map Ap):=by
 have hk:=(Bx h).1
 have hr:r=s_:=Aa (Bx h).2
 rw[hr];clear hr h
 refine Dj.of ?_
 refine Cv.weak (R:=fun q H=>∃ v rest,q= .own 0 v 0 (s_.map Ap).length∧H= .row v 7 (s_.map Ap)::rest) (Cv.intro Tryz.func137 rfl rfl (by show _≤8;simp) ?_) (fun q H hq=>?_)
 ·refine nS (sq ?_)
  refine ar rfl (qn (sq (sq ?_)))
  refine rg rfl fun K j=>?_
  intro bnil hb
  refine nS ?_
  refine j _ _ (qn ?_)
  refine AWP.cond (Am (fun hc=>?_) (fun hc=>?_))
  ·have aw:s_=[]:=Classical.byContradiction fun bc=>by have:=hb (by simpa using bc);simp[this]at hc
   subst aw
   refine sq (ar rfl (qn ?_))
   refine AWP.ghost 2 7 rfl (by decide) ?_
   refine nS (rt (qr ?_))
   refine nSc Tryz.results137 ?_
   refine⟨_,_,?_,rfl⟩
   (try simp +decide -implicitDefEqProofs only[go_sem,Aky,Akw,List.length_cons,List.length_nil,List.length_set,Akx]);try rfl
  clear hc
  refine sk (qn (sq (rg rfl fun K j=>?_)))
  (repeat refine rp ?_);try simp +decide -implicitDefEqProofs only[go_sem]
  refine j _ _ (qn (rt ?_))
  refine nSc Tryz.results137 ?_
  refine⟨_,_,?_,rfl⟩
  (try simp +decide -implicitDefEqProofs only[go_sem,Aky,Akw,List.length_cons,List.length_nil,List.length_set,Akx]);try rfl
 obtain⟨v,rest,rfl,rfl⟩:=hq
 exact⟨[.row v 7 (s_.map Ap)],⟨⟨rfl,rfl,rfl⟩,by cases rest<;>trivial⟩,rfl,rfl,⟨v,rfl,rfl⟩⟩
theorem Ip (s_:List Bh) {r:List Bh} (h:B5 s_=some r):Bu Tryz.prog 137 [.sl 7 (s_.map Ap)] (·= .sl 7 (r.map Ap)):=Bu.nle (Cv.fresh (Cv.mono (Jl s_ h) fun q H=>by rintro⟨rfl,rfl⟩;simp +decide -implicitDefEqProofs only[go_sem,Eg,Ac.int.injEq,Int.natCast_zero,List.replicate_zero,List.length_take,List.length_drop,Ac.own.injEq,reduceCtorEq,Int.reduceAdd,Sl,Sm,Pd,Sk,Pc,Aky]))
theorem Dq (s_:List Bh) {r:List Bh} (h:B5 s_=some r):Ad Tryz.prog 137 [.sl 7 (s_.map Ap)] (·= .sl 7 (r.map Ap)):=(Ip s_ h).pure
def C8 (w:A8):Option (A8):=
 (Cc w.Runs).bind fun y1=>some (A8.mk w.Groomer w.From w.To y1)
theorem Hh (w:A8) {r:A8} (h:C8 w=some r):Ad Tryz.prog 139 [.agg (Ak w)] (·= .agg (Ak r)):=by
 refine Ad.nle (Ad.intro Tryz.func139 rfl rfl (by show _≤8;simp) ?_)
 unfold C8 at h
 refine nS (sq ?_)
 refine ar rfl (qn (sq ?_))
 refine rg rfl fun K j=>?_
 obtain⟨y1,bp,h⟩:=Ah h
 refine Al.pure Tryz.call67 (Cx w.Runs bp) rfl fun _ hr=>?_
 subst hr
 refine nS ?_
 refine j _ _ (qn (sq ?_))
 refine ar rfl (qn (rt ?_))
 cases h;exact en Tryz.results139
def B6 (s_:List Cb):Option (List Cb):=chk s_.length (some s_)
theorem Jn (s_:List Cb) {r:List Cb} (h:B6 s_=some r):Dj Tryz.prog 140 [.sl 8 (s_.map Ax)] 8 (r.map Ax):=by
 have hk:=(Bx h).1
 have hr:r=s_:=Aa (Bx h).2
 rw[hr];clear hr h
 refine Dj.of ?_
 refine Cv.weak (R:=fun q H=>∃ v rest,q= .own 0 v 0 (s_.map Ax).length∧H= .row v 8 (s_.map Ax)::rest) (Cv.intro Tryz.func140 rfl rfl (by show _≤8;simp) ?_) (fun q H hq=>?_)
 ·refine nS (sq ?_)
  refine ar rfl (qn (sq (sq ?_)))
  refine rg rfl fun K j=>?_
  intro bnil hb
  refine nS ?_
  refine j _ _ (qn ?_)
  refine AWP.cond (Am (fun hc=>?_) (fun hc=>?_))
  ·have aw:s_=[]:=Classical.byContradiction fun bc=>by have:=hb (by simpa using bc);simp[this]at hc
   subst aw
   refine sq (ar rfl (qn ?_))
   refine AWP.ghost 2 8 rfl (by decide) ?_
   refine nS (rt (qr ?_))
   refine nSc Tryz.results140 ?_
   refine⟨_,_,?_,rfl⟩
   (try simp +decide -implicitDefEqProofs only[go_sem,Aky,Akw,List.length_cons,List.length_nil,List.length_set,Akx]);try rfl
  clear hc
  refine sk (qn (sq (rg rfl fun K j=>?_)))
  (repeat refine rp ?_);try simp +decide -implicitDefEqProofs only[go_sem]
  refine j _ _ (qn (rt ?_))
  refine nSc Tryz.results140 ?_
  refine⟨_,_,?_,rfl⟩
  (try simp +decide -implicitDefEqProofs only[go_sem,Aky,Akw,List.length_cons,List.length_nil,List.length_set,Akx]);try rfl
 obtain⟨v,rest,rfl,rfl⟩:=hq
 exact⟨[.row v 8 (s_.map Ax)],⟨⟨rfl,rfl,rfl⟩,by cases rest<;>trivial⟩,rfl,rfl,⟨v,rfl,rfl⟩⟩
theorem Ir (s_:List Cb) {r:List Cb} (h:B6 s_=some r):Bu Tryz.prog 140 [.sl 8 (s_.map Ax)] (·= .sl 8 (r.map Ax)):=Bu.nle (Cv.fresh (Cv.mono (Jn s_ h) fun q H=>by rintro⟨rfl,rfl⟩;simp +decide -implicitDefEqProofs only[go_sem,Eg,Ac.int.injEq,Int.natCast_zero,List.replicate_zero,List.length_take,List.length_drop,Ac.own.injEq,reduceCtorEq,Int.reduceAdd,Sl,Sm,Pd,Sk,Pc,Aky]))
theorem Dr (s_:List Cb) {r:List Cb} (h:B6 s_=some r):Ad Tryz.prog 140 [.sl 8 (s_.map Ax)] (·= .sl 8 (r.map Ax)):=(Ir s_ h).pure
def Cn (s_:List A4):Option (List A4):=chk s_.length (some s_)
theorem D3 (s_:List A4) {r:List A4} (h:Cn s_=some r):Dj Tryz.prog 141 [.sl 3 (s_.map Aw)] 3 (r.map Aw):=by
 have hk:=(Bx h).1
 have hr:r=s_:=Aa (Bx h).2
 rw[hr];clear hr h
 refine Dj.of ?_
 refine Cv.weak (R:=fun q H=>∃ v rest,q= .own 0 v 0 (s_.map Aw).length∧H= .row v 3 (s_.map Aw)::rest) (Cv.intro Tryz.func141 rfl rfl (by show _≤8;simp) ?_) (fun q H hq=>?_)
 ·refine nS (sq ?_)
  refine ar rfl (qn (sq (sq ?_)))
  refine rg rfl fun K j=>?_
  intro bnil hb
  refine nS ?_
  refine j _ _ (qn ?_)
  refine AWP.cond (Am (fun hc=>?_) (fun hc=>?_))
  ·have aw:s_=[]:=Classical.byContradiction fun bc=>by have:=hb (by simpa using bc);simp[this]at hc
   subst aw
   refine sq (ar rfl (qn ?_))
   refine AWP.ghost 2 3 rfl (by decide) ?_
   refine nS (rt (qr ?_))
   refine nSc Tryz.results141 ?_
   refine⟨_,_,?_,rfl⟩
   (try simp +decide -implicitDefEqProofs only[go_sem,Aky,Akw,List.length_cons,List.length_nil,List.length_set,Akx]);try rfl
  clear hc
  refine sk (qn (sq (rg rfl fun K j=>?_)))
  (repeat refine rp ?_);try simp +decide -implicitDefEqProofs only[go_sem]
  refine j _ _ (qn (rt ?_))
  refine nSc Tryz.results141 ?_
  refine⟨_,_,?_,rfl⟩
  (try simp +decide -implicitDefEqProofs only[go_sem,Aky,Akw,List.length_cons,List.length_nil,List.length_set,Akx]);try rfl
 obtain⟨v,rest,rfl,rfl⟩:=hq
 exact⟨[.row v 3 (s_.map Aw)],⟨⟨rfl,rfl,rfl⟩,by cases rest<;>trivial⟩,rfl,rfl,⟨v,rfl,rfl⟩⟩
def Oq (f_:Af) (run:Int) (y8:(List Cr)) (y9:(List Co)) (cf:(List Cq)) (dd:(List Int)) (dm:(List Cs)) (er:(List Bn)) (dr:List Ch) (lj:(List C4)) (ly:(List C5)) (jl:(List C7)) (da:List Be) (ew:List Bi) (lv:(List Bh)) (ga:List A8) (qw:(List Cb)) (fg:(List A4)) (sv:Int):Option (Out (Int) (Af×Int)):=
 (bif (decide (sv<((fg.length:Nat):Int)))then (Dv fg sv).bind fun xy=>(bif (decide (xy.Run<run))then some (Out.next (IntKind.i64.wrap (sv+1)))else ((bif (decide (sv=((fg.length:Nat):Int)))then okB (decide (0≤sv∧sv≤((fg.length:Nat):Int))) ((bif (decide (sv=((fg.length:Nat):Int)))then chk (fg.length+1) (some ((Af.mk (Bd.mk y8 y9 cf dd) dm er (B9.mk dr lj) ly jl da ew lv ga qw (fg++[(A4.mk run true f_.Time)]) f_.Depth f_.Time),0))else none))else okB (decide (0≤sv∧sv<((fg.length:Nat):Int))) (chk (fg.length+1) (some ((Af.mk (Bd.mk y8 y9 cf dd) dm er (B9.mk dr lj) ly jl da ew lv ga qw (c6 fg sv.toNat (A4.mk run true f_.Time)) f_.Depth f_.Time),0))))).bind fun q44=>some (Out.ret q44))else (bif false then some (Out.next (IntKind.i64.wrap (sv+1)))else ((bif (decide (sv=((fg.length:Nat):Int)))then okB (decide (0≤sv∧sv≤((fg.length:Nat):Int))) ((bif (decide (sv=((fg.length:Nat):Int)))then chk (fg.length+1) (some ((Af.mk (Bd.mk y8 y9 cf dd) dm er (B9.mk dr lj) ly jl da ew lv ga qw (fg++[(A4.mk run true f_.Time)]) f_.Depth f_.Time),0))else none))else okB (decide (0≤sv∧sv<((fg.length:Nat):Int))) (chk (fg.length+1) (some ((Af.mk (Bd.mk y8 y9 cf dd) dm er (B9.mk dr lj) ly jl da ew lv ga qw (c6 fg sv.toNat (A4.mk run true f_.Time)) f_.Depth f_.Time),0))))).bind fun q45=>some (Out.ret q45)))
def J9 (yf:Nat) (ug:A8) (sv:(List A8)):Option (Out ((List A8)) (Af×Int)):=
 (C8 ug).bind fun y37=>chk (sv.length+1) (some (Out.next (sv++[y37])))
def Ka (yh:Nat) (ui:Bi) (sv:(List Bi)):Option (Out ((List Bi)) (Af×Int)):=
 (C9 ui).bind fun y31=>chk (sv.length+1) (some (Out.next (sv++[y31])))
def Kb (pf:Nat) (jm:Be) (sv:(List Be)):Option (Out ((List Be)) (Af×Int)):=
 (Da jm).bind fun ua=>chk (sv.length+1) (some (Out.next (sv++[ua])))
def Kc (yj:Nat) (np:Ch) (sv:(List Ch)):Option (Out ((List Ch)) (Af×Int)):=
 (Db np).bind fun xd=>chk (sv.length+1) (some (Out.next (sv++[xd])))
def Fp (f_:Af) (run:Int) (y2:(List Int)) (k3:Nat):Option (Af×Int):=
 chk (y2.length+1) ((Cw f_ (y2++[run]) run).bind fun y7=>(bif (decide (y7≠0))then some ((Af.mk (Bd.mk [] [] [] []) [] [] (B9.mk [] []) [] [] [] [] [] [] [] [] 0 0),y7)else (Ci f_.Map.Nodes).bind fun y8=>(Cj f_.Map.Lifts).bind fun y9=>(Cm f_.Map.Runs).bind fun cf=>(Cc f_.Map.Bases).bind fun dd=>(Bv f_.Lifts).bind fun dm=>(B7 f_.Closures).bind fun er=>chk f_.Patrol.Bl.length ((An Kc 0 f_.Patrol.Bl []).bind fun o15=>o15.on fun s15=>(B8 f_.Patrol.Hazards).bind fun lj=>(B3 f_.Surfaces).bind fun ly=>(B4 f_.Packs).bind fun jl=>chk f_.Slides.length ((An Kb 0 f_.Slides []).bind fun o23=>o23.on fun s23=>chk f_.Bulletin.length ((An Ka 0 f_.Bulletin []).bind fun o28=>o28.on fun s28=>(B5 f_.Missions).bind fun lv=>chk f_.Winches.length ((An J9 0 f_.Winches []).bind fun o34=>o34.on fun s34=>(B6 f_.Groomers).bind fun qw=>(Cn f_.Status).bind fun fg=>(bif (decide (0≤((k3:Nat):Int)))then (Dv fg ((k3:Nat):Int)).bind fun uf=>some ((Af.mk (Bd.mk y8 y9 cf dd) dm er (B9.mk s15 lj) ly jl s23 s28 lv s34 qw (fg.set k3 (A4.mk run true f_.Time)) f_.Depth f_.Time),0)else (D6 (Oq f_ run y8 y9 cf dd dm er s15 lj ly jl s23 s28 lv s34 qw fg) fuel 0).bind fun o42=>o42.on fun _=>none)))))))
def E6 (f_:Af) (run:Int) (nk:(List Cr)) (nj:(List Co)) (ni:(List Cq)) (nh:(List Int)) (ng:(List Cs)) (nf:(List Bn)) (dq:List Ch) (og:(List C4)) (oe:(List C5)) (oc:(List C7)) (ea:List Be) (eu:List Bi) (qv:(List Bh)) (fy:List A8) (rm:(List Cb)) (gl:(List A4)) (sv:Int):Option (Out (Int) (Af×Int)):=
 (bif (decide (sv<((gl.length:Nat):Int)))then (Dv gl sv).bind fun xx=>(bif (decide (xx.Run<run))then some (Out.next (IntKind.i64.wrap (sv+1)))else ((bif (decide (sv=((gl.length:Nat):Int)))then okB (decide (0≤sv∧sv≤((gl.length:Nat):Int))) ((bif (decide (sv=((gl.length:Nat):Int)))then chk (gl.length+1) (some ((Af.mk (Bd.mk nk nj ni nh) ng nf (B9.mk dq og) oe oc ea eu qv fy rm (gl++[(A4.mk run true f_.Time)]) f_.Depth f_.Time),0))else none))else okB (decide (0≤sv∧sv<((gl.length:Nat):Int))) (chk (gl.length+1) (some ((Af.mk (Bd.mk nk nj ni nh) ng nf (B9.mk dq og) oe oc ea eu qv fy rm (c6 gl sv.toNat (A4.mk run true f_.Time)) f_.Depth f_.Time),0))))).bind fun q83=>some (Out.ret q83))else (bif false then some (Out.next (IntKind.i64.wrap (sv+1)))else ((bif (decide (sv=((gl.length:Nat):Int)))then okB (decide (0≤sv∧sv≤((gl.length:Nat):Int))) ((bif (decide (sv=((gl.length:Nat):Int)))then chk (gl.length+1) (some ((Af.mk (Bd.mk nk nj ni nh) ng nf (B9.mk dq og) oe oc ea eu qv fy rm (gl++[(A4.mk run true f_.Time)]) f_.Depth f_.Time),0))else none))else okB (decide (0≤sv∧sv<((gl.length:Nat):Int))) (chk (gl.length+1) (some ((Af.mk (Bd.mk nk nj ni nh) ng nf (B9.mk dq og) oe oc ea eu qv fy rm (c6 gl sv.toNat (A4.mk run true f_.Time)) f_.Depth f_.Time),0))))).bind fun q84=>some (Out.ret q84)))
def I7 (yb:Nat) (ub:A8) (sv:(List A8)):Option (Out ((List A8)) (Af×Int)):=
 (C8 ub).bind fun y78=>chk (sv.length+1) (some (Out.next (sv++[y78])))
def I8 (yc:Nat) (uc:Bi) (sv:(List Bi)):Option (Out ((List Bi)) (Af×Int)):=
 (C9 uc).bind fun y72=>chk (sv.length+1) (some (Out.next (sv++[y72])))
def J7 (yd:Nat) (ud:Be) (sv:(List Be)):Option (Out ((List Be)) (Af×Int)):=
 (Da ud).bind fun y67=>chk (sv.length+1) (some (Out.next (sv++[y67])))
def J8 (ye:Nat) (ue:Ch) (sv:(List Ch)):Option (Out ((List Ch)) (Af×Int)):=
 (Db ue).bind fun y59=>chk (sv.length+1) (some (Out.next (sv++[y59])))
def G6 (f_:Af) (run:Int) (y2:(List Int)) (k3:Nat) (ch:A4) (sv:Unit):Option (Out (Unit) (Af×Int)):=
 (bif (decide (ch.Run=run))then ((bif (decide (((k3:Nat):Int)<0))then (bif (decide (64≤((f_.Status.length:Nat):Int)))then some ((Af.mk (Bd.mk [] [] [] []) [] [] (B9.mk [] []) [] [] [] [] [] [] [] [] 0 0),9)else Fp f_ run y2 k3)else Fp f_ run y2 k3)).bind fun q46=>some (Out.ret q46)else some (Out.next ()))
def Ee (f_:Af) (run:Int):Option (Af×Int):=
 (Fb f_.Map run).bind fun y1=>(bif (!y1.2)then some ((Af.mk (Bd.mk [] [] [] []) [] [] (B9.mk [] []) [] [] [] [] [] [] [] [] 0 0),8)else (De f_).bind fun y2=>(Br y2 run).bind fun y3=>(bif y3 then some ((Af.mk (Bd.mk [] [] [] []) [] [] (B9.mk [] []) [] [] [] [] [] [] [] [] 0 0),7)else (An (G6 f_ run y2) 0 f_.Status ()).bind fun o3=>o3.on fun s3=>(bif (decide (64≤((f_.Status.length:Nat):Int)))then some ((Af.mk (Bd.mk [] [] [] []) [] [] (B9.mk [] []) [] [] [] [] [] [] [] [] 0 0),9)else chk (y2.length+1) ((Cw f_ (y2++[run]) run).bind fun y48=>(bif (decide (y48≠0))then some ((Af.mk (Bd.mk [] [] [] []) [] [] (B9.mk [] []) [] [] [] [] [] [] [] [] 0 0),y48)else (Ci f_.Map.Nodes).bind fun nk=>(Cj f_.Map.Lifts).bind fun nj=>(Cm f_.Map.Runs).bind fun ni=>(Cc f_.Map.Bases).bind fun nh=>(Bv f_.Lifts).bind fun ng=>(B7 f_.Closures).bind fun nf=>chk f_.Patrol.Bl.length ((An J8 0 f_.Patrol.Bl []).bind fun o56=>o56.on fun s56=>(B8 f_.Patrol.Hazards).bind fun og=>(B3 f_.Surfaces).bind fun oe=>(B4 f_.Packs).bind fun oc=>chk f_.Slides.length ((An J7 0 f_.Slides []).bind fun o64=>o64.on fun s64=>chk f_.Bulletin.length ((An I8 0 f_.Bulletin []).bind fun o69=>o69.on fun s69=>(B5 f_.Missions).bind fun qv=>chk f_.Winches.length ((An I7 0 f_.Winches []).bind fun o75=>o75.on fun s75=>(B6 f_.Groomers).bind fun rm=>(Cn f_.Status).bind fun gl=>(D6 (E6 f_ run nk nj ni nh ng nf s56 og oe oc s64 s69 qv s75 rm gl) fuel 0).bind fun o81=>o81.on fun _=>none)))))))))
theorem Mc (f_:Af) (run:Int) {r:Af×Int} (h:Ee f_ run=some r):Ad Tryz.prog 24 [.agg (Ce f_),.int .i64 run] (·= .tuple [.agg (Ce r.1),.int .i64 r.2]):=by
 refine Ad.nle (Ad.intro Tryz.func24 rfl rfl (by show _≤93;simp) ?_)
 unfold Ee at h
 refine nS (sq ?_)
 refine ar rfl (qn (sq (sq ?_)))
 refine rg rfl fun K j=>?_
 obtain⟨y1,bp,h⟩:=Ah h
 refine Al.pure Tryz.call53 (Ei f_.Map run bp) rfl fun _ hr=>?_
 subst hr
 refine nS ?_
 refine j _ _ (qn (sq ?_))
 refine ar rfl (qn ?_)
 revert h;refine ca rfl (fun hc h=>?_) fun hc h=>?_
 ·refine sq (ar rfl (qn (rt (qr ?_))))
  cases h;exact en Tryz.results24
 refine sk (qn (sq (rg rfl fun K j=>?_)))
 obtain⟨y2,dn,h⟩:=Ah h
 refine Al.row Tryz.call20 (aK f_ dn) rfl 4 rfl ?_
 (try simp +decide -implicitDefEqProofs only[go_sem,Aky])
 refine j _ _ (qn (sq (sq ?_)))
 refine rg rfl fun K j=>?_
 obtain⟨y3,bx,h⟩:=Ah h
 refine Al.snap Tryz.call54 (Bt y2 run bx) (by simp +decide -implicitDefEqProofs only[go_sem]) (by rintro _ rfl;rfl) fun _ hr=>?_
 subst hr
 refine nS ?_
 refine j _ _ (qn ?_)
 revert h;refine ca rfl (fun hc h=>?_) fun hc h=>?_
 ·refine sq (ar rfl (qn (rt (qr ?_))))
  cases h;exact en Tryz.results24
 refine sk (qn (sq (rg rfl fun K j=>?_)))
 refine Al.inline Tryz.call55 Tryz.func55 rfl rfl (by show _≤19;simp) ?_
 refine nS (sq ?_)
 refine ar rfl (qn (sq (sq ?_)))
 refine rg rfl fun K j=>?_
 intro hm
 refine j _ _ (qn (bk ?_));clear j K
 obtain⟨o3,bw,gw⟩:=Ah h
 clear h
 refine AWP.Bw (ι:=Nat×(Unit)×(Unit)) (fun zz=>[(0,.sl 3 (f_.Status.map Aw)),(1,.func 56 [.ptr 1 0]),(7,.int .i64 ((f_.Status.length:Nat):Int)),(8,.int .i64 ((zz.1:Nat):Int))]) (fun zz=>[.box [.sl 2 (f_.Map.Nodes.map A5),.sl 8 (f_.Map.Lifts.map A6),.sl 7 (f_.Map.Runs.map Ba),.sl 1 (f_.Map.Bases.map Bb),.sl 2 (f_.Lifts.map Av),.sl 4 (f_.Closures.map Au),.sl 4 (f_.Patrol.Bl.map Aq),.sl 3 (f_.Patrol.Hazards.map Ay),.sl 3 (f_.Surfaces.map A1),.sl 5 (f_.Packs.map Az),.sl 6 (f_.Slides.map A3),.sl 7 (f_.Bulletin.map Ar),.sl 7 (f_.Missions.map Ap),.sl 4 (f_.Winches.map Ak),.sl 8 (f_.Groomers.map Ax),.sl 3 (f_.Status.map Aw),.int .i64 f_.Depth,.int .i64 f_.Time],.box [.int .i64 run],.box [.nils,.nils,.nils,.nils,.nils,.nils,.nils,.nils,.nils,.nils,.nils,.nils,.nils,.nils,.nils,.nils,.int .i64 0,.int .i64 0],.box [.int .i64 y1.1.ID,.int .i64 y1.1.Operator,.int .i64 y1.1.From,.int .i64 y1.1.To,.int .i64 y1.1.Grade,.int .i64 y1.1.Zone,.int .i64 y1.1.Length],.row 0 1 (y2.map Bb)]) (fun zz=>zz.1≤f_.Status.length∧An (G6 f_ run y2) zz.1 ((f_.Status).drop zz.1) zz.2.1=some o3) (fun zz=>f_.Status.length - zz.1) (0,(),()) ⟨Nat.zero_le _,bw⟩ cu cu (fun x=>⟨rfl,rfl,rfl⟩) ?_
 clear bw
 rintro⟨k3,⟨⟩,⟨⟩⟩ ⟨nw,bw⟩
 dsimp only at nw bw ⊢
 refine sq (ar rfl (qn (sq ?_)))
 refine AWP.cond (Am (fun hc=>?_) (fun hc=>?_))
 rotate_left
 ·obtain rfl:=Bg bw (fun hl=>by have:=Ako hc;omega)
  have h:=Bf gw;try dsimp only at h
  have ag:f_.Status.length=k3:=by have:=Ako hc;omega
  subst ag
  refine xt (qe (qe (bs (qn (sq (ar rfl (qn (rt ?_))))))))
  refine nSc Tryz.results55 ?_
  refine j _ _ (qn (sq (sq ?_)))
  refine rg rfl fun K j=>?_
  intro hm
  refine j _ _ (qn ?_)
  revert h;refine ca rfl (fun hc h=>?_) fun hc h=>?_
  ·refine sq (ar rfl (qn (rt (qr ?_))))
   cases h;exact en Tryz.results24
  refine sk (qn (sq (sq ?_)))
  refine AWP.draw Tryz.mixed (by kernel_rfl) ?_;intro K j
  refine nS ?_
  obtain⟨hk,h⟩:=Bx h
  (repeat refine rp ?_);try simp +decide -implicitDefEqProofs only[go_sem]
  obtain⟨y48,hy48,h⟩:=Ah h
  refine Cf.snap Tryz.call18 (Dt f_ (y2++[run]) run hy48) (by simp +decide -implicitDefEqProofs only[go_sem]) rfl ?_
  refine nS ?_
  refine j _ _ _ (by kernel_rfl) ?_
  refine qn (sq (ar rfl (qn ?_)))
  revert h;refine ca rfl (fun hc h=>?_) fun hc h=>?_
  ·refine sq (ar rfl (qn (rt (qr ?_))))
   cases h;exact en Tryz.results24
  refine sk (qn (sq (rg rfl fun K j=>?_)))
  refine Al.inline Tryz.call57 Tryz.func57 rfl rfl (by show _≤74;simp) ?_
  refine nS (sq ?_)
  refine ar rfl (qn (sq ?_))
  refine AWP.draw Tryz.mixed (by kernel_rfl) ?_;intro K j
  refine nS ?_
  obtain⟨nk,hy49,h⟩:=Ah h
  refine Cf.pure Tryz.call122 (D7 f_.Map.Nodes hy49) rfl ?_
  refine nS ?_
  obtain⟨nj,hy50,h⟩:=Ah h
  refine Cf.pure Tryz.call123 (D8 f_.Map.Lifts hy50) rfl ?_
  refine nS ?_
  obtain⟨ni,hy51,h⟩:=Ah h
  refine Cf.pure Tryz.call124 (Eh f_.Map.Runs hy51) rfl ?_
  refine nS ?_
  obtain⟨nh,hy52,h⟩:=Ah h
  refine Cf.pure Tryz.call67 (Cx f_.Map.Bases hy52) rfl ?_
  refine nS ?_
  refine j _ _ _ (by kernel_rfl) ?_;clear j K
  refine qn (sq (rg rfl fun K j=>?_))
  obtain⟨ng,hy53,h⟩:=Ah h
  refine Al.pure Tryz.call125 (Di f_.Lifts hy53) rfl fun _ hr=>?_
  subst hr
  refine nS ?_
  refine j _ _ (qn (sq ?_));clear j K
  refine rg rfl fun K j=>?_
  obtain⟨nf,hy54,h⟩:=Ah h
  refine Al.pure Tryz.call126 (Ds f_.Closures hy54) rfl fun _ hr=>?_
  subst hr
  refine nS ?_
  refine j _ _ (qn (sq ?_));clear j K
  refine rg rfl fun K j=>?_
  refine Al.inline Tryz.call127 Tryz.func127 rfl rfl (by show _≤25;simp) ?_
  refine nS (sq ?_)
  refine ar rfl (qn (sq ?_))
  refine rg rfl fun K j=>?_
  intro hm
  obtain⟨hk,h⟩:=Bx h
  (repeat refine rp ?_);try simp +decide -implicitDefEqProofs only[go_sem]
  refine j _ _ (qn (sq (sq ?_)));clear j K
  refine rg rfl fun K j=>?_
  intro hm
  refine j _ _ (qn (bk ?_));clear j K
  obtain⟨o56,kx,hO56⟩:=Ah h
  clear h
  refine AWP.Bw (ι:=Nat×((List Ch))×(Nat)) (fun zz=>[(1,.func 128 []),(5,.own 14 zz.2.2 0 zz.2.1.length),(11,.sl 4 (f_.Patrol.Bl.map Aq)),(12,.int .i64 ((f_.Patrol.Bl.length:Nat):Int)),(13,.int .i64 ((zz.1:Nat):Int))]) (fun zz=>[.box [.sl 2 (f_.Map.Nodes.map A5),.sl 8 (f_.Map.Lifts.map A6),.sl 7 (f_.Map.Runs.map Ba),.sl 1 (f_.Map.Bases.map Bb),.sl 2 (f_.Lifts.map Av),.sl 4 (f_.Closures.map Au),.sl 4 (f_.Patrol.Bl.map Aq),.sl 3 (f_.Patrol.Hazards.map Ay),.sl 3 (f_.Surfaces.map A1),.sl 5 (f_.Packs.map Az),.sl 6 (f_.Slides.map A3),.sl 7 (f_.Bulletin.map Ar),.sl 7 (f_.Missions.map Ap),.sl 4 (f_.Winches.map Ak),.sl 8 (f_.Groomers.map Ax),.sl 3 (f_.Status.map Aw),.int .i64 f_.Depth,.int .i64 f_.Time],.box [.int .i64 run],.box [.nils,.nils,.nils,.nils,.nils,.nils,.nils,.nils,.nils,.nils,.nils,.nils,.nils,.nils,.nils,.nils,.int .i64 0,.int .i64 0],.box [.int .i64 y1.1.ID,.int .i64 y1.1.Operator,.int .i64 y1.1.From,.int .i64 y1.1.To,.int .i64 y1.1.Grade,.int .i64 y1.1.Zone,.int .i64 y1.1.Length],.row 1 1 ((y2++[run]).map Bb),.row 0 1 ([run].map Bb),.gone,.gone,.box [.sl 2 (nk.map A5),.sl 8 (nj.map A6),.sl 7 (ni.map Ba),.sl 1 (nh.map Bb),.sl 2 (ng.map Av),.sl 4 (nf.map Au),.sl 4 (f_.Patrol.Bl.map Aq),.sl 3 (f_.Patrol.Hazards.map Ay),.sl 3 (f_.Surfaces.map A1),.sl 5 (f_.Packs.map Az),.sl 6 (f_.Slides.map A3),.sl 7 (f_.Bulletin.map Ar),.sl 7 (f_.Missions.map Ap),.sl 4 (f_.Winches.map Ak),.sl 8 (f_.Groomers.map Ax),.sl 3 (f_.Status.map Aw),.int .i64 f_.Depth,.int .i64 f_.Time],.box [.nils,.nils,.nils,.nils,.nils,.nils,.nils,.nils,.nils,.nils,.nils,.nils,.nils,.nils,.nils,.nils,.int .i64 0,.int .i64 0],.gone,.gone,.gone,.gone,.row zz.2.2 4 (zz.2.1.map Aq)]) (fun zz=>zz.1≤f_.Patrol.Bl.length∧An J8 zz.1 ((f_.Patrol.Bl).drop zz.1) zz.2.1=some o56) (fun zz=>f_.Patrol.Bl.length - zz.1) (0,[],0) ⟨Nat.zero_le _,kx⟩ cu cu (fun x=>⟨rfl,rfl,rfl⟩) ?_
  clear kx
  rintro⟨ye,dq,fu⟩ ⟨hk56,kx⟩
  dsimp only at hk56 kx ⊢
  refine sq (ar rfl (qn (sq ?_)))
  refine AWP.cond (Am (fun hc=>?_) (fun hc=>?_))
  ·have hlt56:ye<f_.Patrol.Bl.length:=by have:=Akp hc;omega
   obtain⟨ue,b56,yt,h,kx⟩:=Bc kx hlt56
   have hx56:=A9 yt
   have zk:=wk (k:=ye) (by omega)
   unfold J8 at h;try dsimp only at h
   refine sk (qn (sq (bk (sq (rg rfl fun K j=>?_)))))
   refine Bo.of (f:=Aq) (l:=f_.Patrol.Bl) hx56 ?_
   refine nS ?_
   refine j _ _ (qn ?_);clear j K
   refine rg rfl fun K j=>?_
   obtain⟨y59,hy59,h⟩:=Ah h
   refine Al.pure Tryz.call128 (Hk ue hy59) rfl fun _ hr=>?_
   subst hr
   refine nS ?_
   obtain⟨hk,h⟩:=Bx h
   (repeat refine rp ?_);try simp +decide -implicitDefEqProofs only[go_sem]
   refine j _ _ (bn (qn ?_));clear j K
   refine ar rfl (qn ?_)
   obtain rfl:=Aa h
   refine⟨(ye+1,(dq++[y59]),(fu+1)),⟨by dsimp only;omega,Aj kx⟩,by dsimp only;omega,?_,?_⟩
   ·exact cuw zk
   exact cuw zk
  obtain rfl:=Bg kx (fun hl=>by have:=Ako hc;omega)
  have h:=Bf hO56;try dsimp only at h
  have ag:f_.Patrol.Bl.length=ye:=by have:=Ako hc;omega
  subst ag
  refine xt (qe (qe (bs (qn (sq (ar rfl (qn (rt ?_))))))))
  refine nSc Tryz.results127 ?_
  refine j _ _ (qn (sq ?_));clear j K
  refine rg rfl fun K j=>?_
  obtain⟨og,hy60,h⟩:=Ah h
  refine Al.pure Tryz.call130 (Dy f_.Patrol.Hazards hy60) rfl fun _ hr=>?_
  subst hr
  refine nS ?_
  refine j _ _ (qn (sq ?_));clear j K
  refine rg rfl fun K j=>?_
  obtain⟨oe,hy61,h⟩:=Ah h
  refine Al.pure Tryz.call131 (Dn f_.Surfaces hy61) rfl fun _ hr=>?_
  subst hr
  refine nS ?_
  refine j _ _ (qn (sq ?_));clear j K
  refine rg rfl fun K j=>?_
  obtain⟨oc,hy62,h⟩:=Ah h
  refine Al.pure Tryz.call132 (Dp f_.Packs hy62) rfl fun _ hr=>?_
  subst hr
  refine nS ?_
  refine j _ _ (qn (sq ?_));clear j K
  refine rg rfl fun K j=>?_
  refine Al.inline Tryz.call133 Tryz.func133 rfl rfl (by show _≤25;simp) ?_
  refine nS (sq ?_)
  refine ar rfl (qn (sq ?_))
  refine rg rfl fun K j=>?_
  intro hm
  obtain⟨hk,h⟩:=Bx h
  (repeat refine rp ?_);try simp +decide -implicitDefEqProofs only[go_sem]
  refine j _ _ (qn (sq (sq ?_)));clear j K
  refine rg rfl fun K j=>?_
  intro hm
  refine j _ _ (qn (bk ?_));clear j K
  obtain⟨o64,kv,hO64⟩:=Ah h
  clear h
  refine AWP.Bw (ι:=Nat×((List Be))×(Nat)) (fun zz=>[(1,.func 134 []),(5,.own 15 zz.2.2 0 zz.2.1.length),(11,.sl 6 (f_.Slides.map A3)),(12,.int .i64 ((f_.Slides.length:Nat):Int)),(13,.int .i64 ((zz.1:Nat):Int))]) (fun zz=>[.box [.sl 2 (f_.Map.Nodes.map A5),.sl 8 (f_.Map.Lifts.map A6),.sl 7 (f_.Map.Runs.map Ba),.sl 1 (f_.Map.Bases.map Bb),.sl 2 (f_.Lifts.map Av),.sl 4 (f_.Closures.map Au),.sl 4 (f_.Patrol.Bl.map Aq),.sl 3 (f_.Patrol.Hazards.map Ay),.sl 3 (f_.Surfaces.map A1),.sl 5 (f_.Packs.map Az),.sl 6 (f_.Slides.map A3),.sl 7 (f_.Bulletin.map Ar),.sl 7 (f_.Missions.map Ap),.sl 4 (f_.Winches.map Ak),.sl 8 (f_.Groomers.map Ax),.sl 3 (f_.Status.map Aw),.int .i64 f_.Depth,.int .i64 f_.Time],.box [.int .i64 run],.box [.nils,.nils,.nils,.nils,.nils,.nils,.nils,.nils,.nils,.nils,.nils,.nils,.nils,.nils,.nils,.nils,.int .i64 0,.int .i64 0],.box [.int .i64 y1.1.ID,.int .i64 y1.1.Operator,.int .i64 y1.1.From,.int .i64 y1.1.To,.int .i64 y1.1.Grade,.int .i64 y1.1.Zone,.int .i64 y1.1.Length],.row 1 1 ((y2++[run]).map Bb),.row 0 1 ([run].map Bb),.gone,.gone,.box [.sl 2 (nk.map A5),.sl 8 (nj.map A6),.sl 7 (ni.map Ba),.sl 1 (nh.map Bb),.sl 2 (ng.map Av),.sl 4 (nf.map Au),.own 14 fu 0 dq.length,.sl 3 (og.map Ay),.sl 3 (oe.map A1),.sl 5 (oc.map Az),.sl 6 (f_.Slides.map A3),.sl 7 (f_.Bulletin.map Ar),.sl 7 (f_.Missions.map Ap),.sl 4 (f_.Winches.map Ak),.sl 8 (f_.Groomers.map Ax),.sl 3 (f_.Status.map Aw),.int .i64 f_.Depth,.int .i64 f_.Time],.box [.nils,.nils,.nils,.nils,.nils,.nils,.nils,.nils,.nils,.nils,.nils,.nils,.nils,.nils,.nils,.nils,.int .i64 0,.int .i64 0],.gone,.gone,.gone,.gone,.row fu 4 (dq.map Aq),.row zz.2.2 6 (zz.2.1.map A3)]) (fun zz=>zz.1≤f_.Slides.length∧An J7 zz.1 ((f_.Slides).drop zz.1) zz.2.1=some o64) (fun zz=>f_.Slides.length - zz.1) (0,[],0) ⟨Nat.zero_le _,kv⟩ cu cu (fun x=>⟨rfl,rfl,rfl⟩) ?_
  clear kv
  rintro⟨yd,ea,il⟩ ⟨hk64,kv⟩
  dsimp only at hk64 kv ⊢
  refine sq (ar rfl (qn (sq ?_)))
  refine AWP.cond (Am (fun hc=>?_) (fun hc=>?_))
  ·have hlt64:yd<f_.Slides.length:=by have:=Akp hc;omega
   obtain⟨ud,b64,yr,h,kv⟩:=Bc kv hlt64
   have hx64:=A9 yr
   have zj:=wk (k:=yd) (by omega)
   unfold J7 at h;try dsimp only at h
   refine sk (qn (sq (bk (sq (rg rfl fun K j=>?_)))))
   refine Bo.of (f:=A3) (l:=f_.Slides) hx64 ?_
   refine nS ?_
   refine j _ _ (qn ?_);clear j K
   refine rg rfl fun K j=>?_
   obtain⟨y67,hy67,h⟩:=Ah h
   refine Al.pure Tryz.call134 (Hj ud hy67) rfl fun _ hr=>?_
   subst hr
   refine nS ?_
   obtain⟨hk,h⟩:=Bx h
   (repeat refine rp ?_);try simp +decide -implicitDefEqProofs only[go_sem]
   refine j _ _ (bn (qn ?_));clear j K
   refine ar rfl (qn ?_)
   obtain rfl:=Aa h
   refine⟨(yd+1,(ea++[y67]),(il+1)),⟨by dsimp only;omega,Aj kv⟩,by dsimp only;omega,?_,?_⟩
   ·exact cuw zj
   exact cuw zj
  obtain rfl:=Bg kv (fun hl=>by have:=Ako hc;omega)
  have h:=Bf hO64;try dsimp only at h
  have ag:f_.Slides.length=yd:=by have:=Ako hc;omega
  subst ag
  refine xt (qe (qe (bs (qn (sq (ar rfl (qn (rt ?_))))))))
  refine nSc Tryz.results133 ?_
  refine j _ _ (qn (sq ?_));clear j K
  refine rg rfl fun K j=>?_
  refine Al.inline Tryz.call135 Tryz.func135 rfl rfl (by show _≤25;simp) ?_
  refine nS (sq ?_)
  refine ar rfl (qn (sq ?_))
  refine rg rfl fun K j=>?_
  intro hm
  obtain⟨hk,h⟩:=Bx h
  (repeat refine rp ?_);try simp +decide -implicitDefEqProofs only[go_sem]
  refine j _ _ (qn (sq (sq ?_)));clear j K
  refine rg rfl fun K j=>?_
  intro hm
  refine j _ _ (qn (bk ?_));clear j K
  obtain⟨o69,ku,hO69⟩:=Ah h
  clear h
  refine AWP.Bw (ι:=Nat×((List Bi))×(Nat)) (fun zz=>[(1,.func 136 []),(5,.own 16 zz.2.2 0 zz.2.1.length),(11,.sl 7 (f_.Bulletin.map Ar)),(12,.int .i64 ((f_.Bulletin.length:Nat):Int)),(13,.int .i64 ((zz.1:Nat):Int))]) (fun zz=>[.box [.sl 2 (f_.Map.Nodes.map A5),.sl 8 (f_.Map.Lifts.map A6),.sl 7 (f_.Map.Runs.map Ba),.sl 1 (f_.Map.Bases.map Bb),.sl 2 (f_.Lifts.map Av),.sl 4 (f_.Closures.map Au),.sl 4 (f_.Patrol.Bl.map Aq),.sl 3 (f_.Patrol.Hazards.map Ay),.sl 3 (f_.Surfaces.map A1),.sl 5 (f_.Packs.map Az),.sl 6 (f_.Slides.map A3),.sl 7 (f_.Bulletin.map Ar),.sl 7 (f_.Missions.map Ap),.sl 4 (f_.Winches.map Ak),.sl 8 (f_.Groomers.map Ax),.sl 3 (f_.Status.map Aw),.int .i64 f_.Depth,.int .i64 f_.Time],.box [.int .i64 run],.box [.nils,.nils,.nils,.nils,.nils,.nils,.nils,.nils,.nils,.nils,.nils,.nils,.nils,.nils,.nils,.nils,.int .i64 0,.int .i64 0],.box [.int .i64 y1.1.ID,.int .i64 y1.1.Operator,.int .i64 y1.1.From,.int .i64 y1.1.To,.int .i64 y1.1.Grade,.int .i64 y1.1.Zone,.int .i64 y1.1.Length],.row 1 1 ((y2++[run]).map Bb),.row 0 1 ([run].map Bb),.gone,.gone,.box [.sl 2 (nk.map A5),.sl 8 (nj.map A6),.sl 7 (ni.map Ba),.sl 1 (nh.map Bb),.sl 2 (ng.map Av),.sl 4 (nf.map Au),.own 14 fu 0 dq.length,.sl 3 (og.map Ay),.sl 3 (oe.map A1),.sl 5 (oc.map Az),.own 15 il 0 ea.length,.sl 7 (f_.Bulletin.map Ar),.sl 7 (f_.Missions.map Ap),.sl 4 (f_.Winches.map Ak),.sl 8 (f_.Groomers.map Ax),.sl 3 (f_.Status.map Aw),.int .i64 f_.Depth,.int .i64 f_.Time],.box [.nils,.nils,.nils,.nils,.nils,.nils,.nils,.nils,.nils,.nils,.nils,.nils,.nils,.nils,.nils,.nils,.int .i64 0,.int .i64 0],.gone,.gone,.gone,.gone,.row fu 4 (dq.map Aq),.row il 6 (ea.map A3),.row zz.2.2 7 (zz.2.1.map Ar)]) (fun zz=>zz.1≤f_.Bulletin.length∧An I8 zz.1 ((f_.Bulletin).drop zz.1) zz.2.1=some o69) (fun zz=>f_.Bulletin.length - zz.1) (0,[],0) ⟨Nat.zero_le _,ku⟩ cu cu (fun x=>⟨rfl,rfl,rfl⟩) ?_
  clear ku
  rintro⟨yc,eu,kg⟩ ⟨hk69,ku⟩
  dsimp only at hk69 ku ⊢
  refine sq (ar rfl (qn (sq ?_)))
  refine AWP.cond (Am (fun hc=>?_) (fun hc=>?_))
  ·have hlt69:yc<f_.Bulletin.length:=by have:=Akp hc;omega
   obtain⟨uc,b69,yq,h,ku⟩:=Bc ku hlt69
   have hx69:=A9 yq
   have zi:=wk (k:=yc) (by omega)
   unfold I8 at h;try dsimp only at h
   refine sk (qn (sq (bk (sq (rg rfl fun K j=>?_)))))
   refine Bo.of (f:=Ar) (l:=f_.Bulletin) hx69 ?_
   refine nS ?_
   refine j _ _ (qn ?_);clear j K
   refine rg rfl fun K j=>?_
   obtain⟨y72,hy72,h⟩:=Ah h
   refine Al.pure Tryz.call136 (Hi uc hy72) rfl fun _ hr=>?_
   subst hr
   refine nS ?_
   obtain⟨hk,h⟩:=Bx h
   (repeat refine rp ?_);try simp +decide -implicitDefEqProofs only[go_sem]
   refine j _ _ (bn (qn ?_));clear j K
   refine ar rfl (qn ?_)
   obtain rfl:=Aa h
   refine⟨(yc+1,(eu++[y72]),(kg+1)),⟨by dsimp only;omega,Aj ku⟩,by dsimp only;omega,?_,?_⟩
   ·exact cuw zi
   exact cuw zi
  obtain rfl:=Bg ku (fun hl=>by have:=Ako hc;omega)
  have h:=Bf hO69;try dsimp only at h
  have ag:f_.Bulletin.length=yc:=by have:=Ako hc;omega
  subst ag
  refine xt (qe (qe (bs (qn (sq (ar rfl (qn (rt ?_))))))))
  refine nSc Tryz.results135 ?_
  refine j _ _ (qn (sq ?_));clear j K
  refine rg rfl fun K j=>?_
  obtain⟨qv,hy73,h⟩:=Ah h
  refine Al.pure Tryz.call137 (Dq f_.Missions hy73) rfl fun _ hr=>?_
  subst hr
  refine nS ?_
  refine j _ _ (qn (sq ?_));clear j K
  refine rg rfl fun K j=>?_
  refine Al.inline Tryz.call138 Tryz.func138 rfl rfl (by show _≤25;simp) ?_
  refine nS (sq ?_)
  refine ar rfl (qn (sq ?_))
  refine rg rfl fun K j=>?_
  intro hm
  obtain⟨hk,h⟩:=Bx h
  (repeat refine rp ?_);try simp +decide -implicitDefEqProofs only[go_sem]
  refine j _ _ (qn (sq (sq ?_)));clear j K
  refine rg rfl fun K j=>?_
  intro hm
  refine j _ _ (qn (bk ?_));clear j K
  obtain⟨o75,kt,hO75⟩:=Ah h
  clear h
  refine AWP.Bw (ι:=Nat×((List A8))×(Nat)) (fun zz=>[(1,.func 139 []),(5,.own 17 zz.2.2 0 zz.2.1.length),(11,.sl 4 (f_.Winches.map Ak)),(12,.int .i64 ((f_.Winches.length:Nat):Int)),(13,.int .i64 ((zz.1:Nat):Int))]) (fun zz=>[.box [.sl 2 (f_.Map.Nodes.map A5),.sl 8 (f_.Map.Lifts.map A6),.sl 7 (f_.Map.Runs.map Ba),.sl 1 (f_.Map.Bases.map Bb),.sl 2 (f_.Lifts.map Av),.sl 4 (f_.Closures.map Au),.sl 4 (f_.Patrol.Bl.map Aq),.sl 3 (f_.Patrol.Hazards.map Ay),.sl 3 (f_.Surfaces.map A1),.sl 5 (f_.Packs.map Az),.sl 6 (f_.Slides.map A3),.sl 7 (f_.Bulletin.map Ar),.sl 7 (f_.Missions.map Ap),.sl 4 (f_.Winches.map Ak),.sl 8 (f_.Groomers.map Ax),.sl 3 (f_.Status.map Aw),.int .i64 f_.Depth,.int .i64 f_.Time],.box [.int .i64 run],.box [.nils,.nils,.nils,.nils,.nils,.nils,.nils,.nils,.nils,.nils,.nils,.nils,.nils,.nils,.nils,.nils,.int .i64 0,.int .i64 0],.box [.int .i64 y1.1.ID,.int .i64 y1.1.Operator,.int .i64 y1.1.From,.int .i64 y1.1.To,.int .i64 y1.1.Grade,.int .i64 y1.1.Zone,.int .i64 y1.1.Length],.row 1 1 ((y2++[run]).map Bb),.row 0 1 ([run].map Bb),.gone,.gone,.box [.sl 2 (nk.map A5),.sl 8 (nj.map A6),.sl 7 (ni.map Ba),.sl 1 (nh.map Bb),.sl 2 (ng.map Av),.sl 4 (nf.map Au),.own 14 fu 0 dq.length,.sl 3 (og.map Ay),.sl 3 (oe.map A1),.sl 5 (oc.map Az),.own 15 il 0 ea.length,.own 16 kg 0 eu.length,.sl 7 (qv.map Ap),.sl 4 (f_.Winches.map Ak),.sl 8 (f_.Groomers.map Ax),.sl 3 (f_.Status.map Aw),.int .i64 f_.Depth,.int .i64 f_.Time],.box [.nils,.nils,.nils,.nils,.nils,.nils,.nils,.nils,.nils,.nils,.nils,.nils,.nils,.nils,.nils,.nils,.int .i64 0,.int .i64 0],.gone,.gone,.gone,.gone,.row fu 4 (dq.map Aq),.row il 6 (ea.map A3),.row kg 7 (eu.map Ar),.row zz.2.2 4 (zz.2.1.map Ak)]) (fun zz=>zz.1≤f_.Winches.length∧An I7 zz.1 ((f_.Winches).drop zz.1) zz.2.1=some o75) (fun zz=>f_.Winches.length - zz.1) (0,[],0) ⟨Nat.zero_le _,kt⟩ cu cu (fun x=>⟨rfl,rfl,rfl⟩) ?_
  clear kt
  rintro⟨yb,fy,ox⟩ ⟨hk75,kt⟩
  dsimp only at hk75 kt ⊢
  refine sq (ar rfl (qn (sq ?_)))
  refine AWP.cond (Am (fun hc=>?_) (fun hc=>?_))
  ·have hlt75:yb<f_.Winches.length:=by have:=Akp hc;omega
   obtain⟨ub,b75,yp,h,kt⟩:=Bc kt hlt75
   have hx75:=A9 yp
   have zh:=wk (k:=yb) (by omega)
   unfold I7 at h;try dsimp only at h
   refine sk (qn (sq (bk (sq (rg rfl fun K j=>?_)))))
   refine Bo.of (f:=Ak) (l:=f_.Winches) hx75 ?_
   refine nS ?_
   refine j _ _ (qn ?_);clear j K
   refine rg rfl fun K j=>?_
   obtain⟨y78,hy78,h⟩:=Ah h
   refine Al.pure Tryz.call139 (Hh ub hy78) rfl fun _ hr=>?_
   subst hr
   refine nS ?_
   obtain⟨hk,h⟩:=Bx h
   (repeat refine rp ?_);try simp +decide -implicitDefEqProofs only[go_sem]
   refine j _ _ (bn (qn ?_));clear j K
   refine ar rfl (qn ?_)
   obtain rfl:=Aa h
   refine⟨(yb+1,(fy++[y78]),(ox+1)),⟨by dsimp only;omega,Aj kt⟩,by dsimp only;omega,?_,?_⟩
   ·exact cuw zh
   exact cuw zh
  obtain rfl:=Bg kt (fun hl=>by have:=Ako hc;omega)
  have h:=Bf hO75;try dsimp only at h
  have ag:f_.Winches.length=yb:=by have:=Ako hc;omega
  subst ag
  refine xt (qe (qe (bs (qn (sq (ar rfl (qn (rt ?_))))))))
  refine nSc Tryz.results138 ?_
  refine j _ _ (qn (sq ?_));clear j K
  refine rg rfl fun K j=>?_
  obtain⟨rm,hy79,h⟩:=Ah h
  refine Al.pure Tryz.call140 (Dr f_.Groomers hy79) rfl fun _ hr=>?_
  subst hr
  refine nS ?_
  refine j _ _ (qn (sq ?_));clear j K
  refine rg rfl fun K j=>?_
  obtain⟨gl,hy80,h⟩:=Ah h
  refine Al.row Tryz.call141 (D3 f_.Status hy80) rfl 18 rfl ?_
  (try simp +decide -implicitDefEqProofs only[go_sem,Aky])
  refine j _ _ (qn (sq ?_));clear j K
  refine ar rfl (qn (rt ?_))
  refine nSc Tryz.results57 ?_
  refine j _ _ (qn (sq ?_))
  refine ar rfl (qn (sq (sq ?_)))
  refine ar rfl (qn ?_)
  refine AWP.cond (Bj ?_)
  refine sk (qn (sq (ar rfl (qn (sq (bk ?_))))))
  obtain⟨o81,jh,hO81⟩:=Ah h
  clear h
  refine AWP.Bw (ι:=Nat×(Int)×(Unit)) (fun zz=>[(3,.ptr 1 0),(4,.ptr 2 0),(11,.ptr 19 0),(12,.ptr 20 0),(13,.int .i64 zz.2.1)]) (fun zz=>[.gone,.box [.int .i64 run],.box [.nils,.nils,.nils,.nils,.nils,.nils,.nils,.nils,.nils,.nils,.nils,.nils,.nils,.nils,.nils,.nils,.int .i64 0,.int .i64 0],.gone,.gone,.gone,.gone,.gone,.gone,.gone,.gone,.gone,.gone,.gone,.row fu 4 (dq.map Aq),.row il 6 (ea.map A3),.row kg 7 (eu.map Ar),.row ox 4 (fy.map Ak),.row 0 3 (gl.map Aw),.box [.sl 2 (nk.map A5),.sl 8 (nj.map A6),.sl 7 (ni.map Ba),.sl 1 (nh.map Bb),.sl 2 (ng.map Av),.sl 4 (nf.map Au),.own 14 fu 0 dq.length,.sl 3 (og.map Ay),.sl 3 (oe.map A1),.sl 5 (oc.map Az),.own 15 il 0 ea.length,.own 16 kg 0 eu.length,.sl 7 (qv.map Ap),.own 17 ox 0 fy.length,.sl 8 (rm.map Ax),.own 18 0 0 gl.length,.int .i64 f_.Depth,.int .i64 f_.Time],.box [.int .i64 run,.bool true,.int .i64 f_.Time]]) (fun zz=>D6 (E6 f_ run nk nj ni nh ng nf dq og oe oc ea eu qv fy rm gl) zz.1 zz.2.1=some o81) (fun zz=>zz.1) (fuel,0,()) jh cu cu (fun x=>⟨rfl,rfl,rfl⟩) ?_
  clear jh
  rintro⟨n81,place81,⟨⟩⟩ jh
  dsimp only at jh ⊢
  obtain⟨m81,b81,rfl,h,jh⟩:=Km jh
  unfold E6 at h;try dsimp only at h
  refine sq (sq ?_)
  refine AWP.draw Tryz.mixed (by kernel_rfl) ?_;intro K j
  refine nS ?_
  intro hm
  revert h;refine gt (fun hc h=>?_) fun hc h=>?_
  ·obtain⟨xx,td,h⟩:=Ah h
   refine Lb td (by first | rfl | exact(Cy _).symm | (simp only[Akw,List.length_cons,List.length_nil,List.length_set,Akx]<;>omega)) ?_
   refine nS ?_
   refine Dm.of (f:=Aw) (l:=gl) (n:=place81) td ?_
   refine nS ?_
   refine j _ _ _ (by kernel_rfl) ?_
   refine qn ?_
   revert h;refine ca rfl (fun hc h=>?_) fun hc h=>?_
   ·refine sk (qn (bk (ar rfl (bn (qn ?_)))))
    obtain rfl:=Aa h
    refine⟨(m81,(IntKind.i64.wrap (place81+1)),()),Aj jh,by dsimp only;omega,?_,?_⟩
    ·exact cu
    exact cu
   refine xt (qe (qe ?_))
   obtain⟨q83,hq,h⟩:=Ah h
   obtain rfl:=Aa h
   obtain rfl:=Ae jh
   replace h:=hq.trans (Ao hO81)
   refine bs (qn (sq (rg rfl fun K j=>?_)))
   rcases mT h with⟨hc,h⟩ | ⟨hc,h⟩
   ·refine Al.inline Tryz.call58 Tryz.func58 rfl rfl (by show _≤95;simp) ?_
    refine nS (sq ?_)
    refine ar rfl (qn (sq ?_))
    refine rg rfl fun K j=>?_
    obtain⟨hk,h⟩:=Fz h
    (repeat(refine⟨by omega,?_⟩))
    refine j _ _ (qn (sq ?_));clear j K
    refine ar rfl (qn (sq (sq ?_)))
    refine ar rfl (qn ?_)
    refine AWP.cond (Bj ?_)
    refine sk (qn (sq (rg rfl fun K j=>?_)))
    intro hm
    refine j _ _ (qn (sq (sq ?_)));clear j K
    refine ar rfl (qn ?_)
    revert h;refine ca rfl (fun hc h=>?_) fun hc h=>?_
    ·refine sq ?_
     refine rg rfl fun K j=>?_
     obtain⟨hk,h⟩:=Bx h
     (repeat refine rp ?_);try simp +decide -implicitDefEqProofs only[go_sem]
     refine j _ _ (qn (rt (qr ?_)));clear j K
     refine nSc Tryz.results58 ?_
     refine j _ _ (qn (sq ?_))
     refine ar rfl (qn (rt ?_))
     cases h;exact en Tryz.results24
    refine sk (qn (sq (sq (rg rfl fun K j=>?_))))
    cases h
   obtain⟨bg,h⟩:=Fz h
   obtain⟨hk,h⟩:=Bx h
   refine Al.fM Aw gl (A4.mk run true f_.Time) Tryz.call58 Tryz.inserts58 rfl rfl rfl (by decide) bg (by omega) ?_
   refine nS ?_
   refine j _ _ (qn (sq ?_))
   refine ar rfl (qn (rt ?_))
   cases h;exact en Tryz.results24
  refine j _ _ _ (by kernel_rfl) ?_
  refine qn ?_
  revert h;refine ca rfl (fun hc h=>?_) fun hc h=>?_
  ·refine sk (qn (bk (ar rfl (bn (qn ?_)))))
   obtain rfl:=Aa h
   refine⟨(m81,(IntKind.i64.wrap (place81+1)),()),Aj jh,by dsimp only;omega,?_,?_⟩
   ·exact cu
   exact cu
  refine xt (qe (qe ?_))
  obtain⟨q84,hq,h⟩:=Ah h
  obtain rfl:=Aa h
  obtain rfl:=Ae jh
  replace h:=hq.trans (Ao hO81)
  refine bs (qn (sq (rg rfl fun K j=>?_)))
  rcases mT h with⟨hc,h⟩ | ⟨hc,h⟩
  ·refine Al.inline Tryz.call58 Tryz.func58 rfl rfl (by show _≤95;simp) ?_
   refine nS (sq ?_)
   refine ar rfl (qn (sq ?_))
   refine rg rfl fun K j=>?_
   obtain⟨hk,h⟩:=Fz h
   (repeat(refine⟨by omega,?_⟩))
   refine j _ _ (qn (sq ?_));clear j K
   refine ar rfl (qn (sq (sq ?_)))
   refine ar rfl (qn ?_)
   refine AWP.cond (Bj ?_)
   refine sk (qn (sq (rg rfl fun K j=>?_)))
   intro hm
   refine j _ _ (qn (sq (sq ?_)));clear j K
   refine ar rfl (qn ?_)
   revert h;refine ca rfl (fun hc h=>?_) fun hc h=>?_
   ·refine sq ?_
    refine rg rfl fun K j=>?_
    obtain⟨hk,h⟩:=Bx h
    (repeat refine rp ?_);try simp +decide -implicitDefEqProofs only[go_sem]
    refine j _ _ (qn (rt (qr ?_)));clear j K
    refine nSc Tryz.results58 ?_
    refine j _ _ (qn (sq ?_))
    refine ar rfl (qn (rt ?_))
    cases h;exact en Tryz.results24
   refine sk (qn (sq (sq (rg rfl fun K j=>?_))))
   cases h
  obtain⟨bg,h⟩:=Fz h
  obtain⟨hk,h⟩:=Bx h
  refine Al.fM Aw gl (A4.mk run true f_.Time) Tryz.call58 Tryz.inserts58 rfl rfl rfl (by decide) bg (by omega) ?_
  refine nS ?_
  refine j _ _ (qn (sq ?_))
  refine ar rfl (qn (rt ?_))
  cases h;exact en Tryz.results24
 have fe:k3<f_.Status.length:=by have:=Akp hc;omega
 obtain⟨ch,b3,mc,h,bw⟩:=Bc bw fe
 have ns:=A9 mc
 have iz:=wk (k:=k3) (by omega)
 unfold G6 at h;try dsimp only at h
 refine sk (qn (sq (bk (sq (ar rfl (qn (sq ?_)))))))
 refine rg rfl fun K j=>?_
 refine Bo.of (f:=Aw) (l:=f_.Status) ns ?_
 refine nS ?_
 refine Al.inline Tryz.call56 Tryz.func56 rfl rfl (by show _≤8;simp) ?_
 refine nS (sq ?_)
 refine ar rfl (qn (sq ?_))
 refine ar rfl (qn (rt ?_))
 refine nSc Tryz.results56 ?_
 refine j _ _ (qn ?_);clear j K
 revert h;refine ca rfl (fun hc h=>?_) fun hc h=>?_
 ·refine sq (ar rfl (qn (rt (br (qr (qr ?_))))))
  obtain⟨q46,hq,h⟩:=Ah h
  obtain rfl:=Aa h
  obtain rfl:=Ae bw
  replace h:=hq.trans (Ao gw)
  refine br (qr (nSc Tryz.results55 ?_))
  refine j _ _ (qn ?_)
  refine AWP.Mz (ι:=(Unit)×(Unit)) (fun zz=>[(2,.ptr 0 0),(3,.ptr 1 0),(4,.ptr 2 0),(8,.own 4 0 0 y2.length),(9,.int .i64 ((k3:Nat):Int))]) (fun zz=>[.box [.sl 2 (f_.Map.Nodes.map A5),.sl 8 (f_.Map.Lifts.map A6),.sl 7 (f_.Map.Runs.map Ba),.sl 1 (f_.Map.Bases.map Bb),.sl 2 (f_.Lifts.map Av),.sl 4 (f_.Closures.map Au),.sl 4 (f_.Patrol.Bl.map Aq),.sl 3 (f_.Patrol.Hazards.map Ay),.sl 3 (f_.Surfaces.map A1),.sl 5 (f_.Packs.map Az),.sl 6 (f_.Slides.map A3),.sl 7 (f_.Bulletin.map Ar),.sl 7 (f_.Missions.map Ap),.sl 4 (f_.Winches.map Ak),.sl 8 (f_.Groomers.map Ax),.sl 3 (f_.Status.map Aw),.int .i64 f_.Depth,.int .i64 f_.Time],.box [.int .i64 run],.box [.nils,.nils,.nils,.nils,.nils,.nils,.nils,.nils,.nils,.nils,.nils,.nils,.nils,.nils,.nils,.nils,.int .i64 0,.int .i64 0],.gone,.row 0 1 (y2.map Bb)]) (fun zz=>Fp f_ run y2 k3=some r) (fun zz=>⟨rfl,rfl,rfl⟩) ?_ ?_
  ·refine sq ?_
   refine rg rfl fun K j=>?_
   revert h;refine gt (fun hc h=>?_) fun hc h=>?_
   ·intro hm
    refine j _ _ (qn ?_)
    revert h;refine ca rfl (fun hc h=>?_) fun hc h=>?_
    ·refine sq (ar rfl (qn (rt (qr ?_))))
     cases h;exact en Tryz.results24
    refine sk (qn ?_)
    exact⟨((),()),h,cu,cu⟩
   refine j _ _ (qn ?_)
   refine AWP.cond (Bj ?_)
   refine sk (qn ?_)
   exact⟨((),()),h,cu,cu⟩
  rintro⟨⟨⟩,⟨⟩⟩ h
  try dsimp only at h ⊢
  unfold Fp at h;try dsimp only at h
  refine sq (sq ?_)
  refine AWP.draw Tryz.mixed (by kernel_rfl) ?_;intro K j
  refine nS ?_
  obtain⟨hk,h⟩:=Bx h
  (repeat refine rp ?_);try simp +decide -implicitDefEqProofs only[go_sem]
  obtain⟨y7,eo,h⟩:=Ah h
  refine Cf.snap Tryz.call18 (Dt f_ (y2++[run]) run eo) (by simp +decide -implicitDefEqProofs only[go_sem]) rfl ?_
  refine nS ?_
  refine j _ _ _ (by kernel_rfl) ?_
  refine qn (sq (ar rfl (qn ?_)))
  revert h;refine ca rfl (fun hc h=>?_) fun hc h=>?_
  ·refine sq (ar rfl (qn (rt (qr ?_))))
   cases h;exact en Tryz.results24
  refine sk (qn (sq (rg rfl fun K j=>?_)))
  refine Al.inline Tryz.call57 Tryz.func57 rfl rfl (by show _≤74;simp) ?_
  refine nS (sq ?_)
  refine ar rfl (qn (sq ?_))
  refine AWP.draw Tryz.mixed (by kernel_rfl) ?_;intro K j
  refine nS ?_
  obtain⟨y8,fp,h⟩:=Ah h
  refine Cf.pure Tryz.call122 (D7 f_.Map.Nodes fp) rfl ?_
  refine nS ?_
  obtain⟨y9,ic,h⟩:=Ah h
  refine Cf.pure Tryz.call123 (D8 f_.Map.Lifts ic) rfl ?_
  refine nS ?_
  obtain⟨cf,dt,h⟩:=Ah h
  refine Cf.pure Tryz.call124 (Eh f_.Map.Runs dt) rfl ?_
  refine nS ?_
  obtain⟨dd,eh,h⟩:=Ah h
  refine Cf.pure Tryz.call67 (Cx f_.Map.Bases eh) rfl ?_
  refine nS ?_
  refine j _ _ _ (by kernel_rfl) ?_;clear j K
  refine qn (sq (rg rfl fun K j=>?_))
  obtain⟨dm,ez,h⟩:=Ah h
  refine Al.pure Tryz.call125 (Di f_.Lifts ez) rfl fun _ hr=>?_
  subst hr
  refine nS ?_
  refine j _ _ (qn (sq ?_));clear j K
  refine rg rfl fun K j=>?_
  obtain⟨er,iu,h⟩:=Ah h
  refine Al.pure Tryz.call126 (Ds f_.Closures iu) rfl fun _ hr=>?_
  subst hr
  refine nS ?_
  refine j _ _ (qn (sq ?_));clear j K
  refine rg rfl fun K j=>?_
  refine Al.inline Tryz.call127 Tryz.func127 rfl rfl (by show _≤25;simp) ?_
  refine nS (sq ?_)
  refine ar rfl (qn (sq ?_))
  refine rg rfl fun K j=>?_
  intro hm
  obtain⟨hk,h⟩:=Bx h
  (repeat refine rp ?_);try simp +decide -implicitDefEqProofs only[go_sem]
  refine j _ _ (qn (sq (sq ?_)));clear j K
  refine rg rfl fun K j=>?_
  intro hm
  refine j _ _ (qn (bk ?_));clear j K
  obtain⟨o15,lg,hO15⟩:=Ah h
  clear h
  refine AWP.Bw (ι:=Nat×((List Ch))×(Nat)) (fun zz=>[(1,.func 128 []),(5,.own 14 zz.2.2 0 zz.2.1.length),(11,.sl 4 (f_.Patrol.Bl.map Aq)),(12,.int .i64 ((f_.Patrol.Bl.length:Nat):Int)),(13,.int .i64 ((zz.1:Nat):Int))]) (fun zz=>[.box [.sl 2 (f_.Map.Nodes.map A5),.sl 8 (f_.Map.Lifts.map A6),.sl 7 (f_.Map.Runs.map Ba),.sl 1 (f_.Map.Bases.map Bb),.sl 2 (f_.Lifts.map Av),.sl 4 (f_.Closures.map Au),.sl 4 (f_.Patrol.Bl.map Aq),.sl 3 (f_.Patrol.Hazards.map Ay),.sl 3 (f_.Surfaces.map A1),.sl 5 (f_.Packs.map Az),.sl 6 (f_.Slides.map A3),.sl 7 (f_.Bulletin.map Ar),.sl 7 (f_.Missions.map Ap),.sl 4 (f_.Winches.map Ak),.sl 8 (f_.Groomers.map Ax),.sl 3 (f_.Status.map Aw),.int .i64 f_.Depth,.int .i64 f_.Time],.box [.int .i64 run],.box [.nils,.nils,.nils,.nils,.nils,.nils,.nils,.nils,.nils,.nils,.nils,.nils,.nils,.nils,.nils,.nils,.int .i64 0,.int .i64 0],.gone,.row 1 1 ((y2++[run]).map Bb),.row 0 1 ([run].map Bb),.gone,.gone,.box [.sl 2 (y8.map A5),.sl 8 (y9.map A6),.sl 7 (cf.map Ba),.sl 1 (dd.map Bb),.sl 2 (dm.map Av),.sl 4 (er.map Au),.sl 4 (f_.Patrol.Bl.map Aq),.sl 3 (f_.Patrol.Hazards.map Ay),.sl 3 (f_.Surfaces.map A1),.sl 5 (f_.Packs.map Az),.sl 6 (f_.Slides.map A3),.sl 7 (f_.Bulletin.map Ar),.sl 7 (f_.Missions.map Ap),.sl 4 (f_.Winches.map Ak),.sl 8 (f_.Groomers.map Ax),.sl 3 (f_.Status.map Aw),.int .i64 f_.Depth,.int .i64 f_.Time],.box [.nils,.nils,.nils,.nils,.nils,.nils,.nils,.nils,.nils,.nils,.nils,.nils,.nils,.nils,.nils,.nils,.int .i64 0,.int .i64 0],.gone,.gone,.gone,.gone,.row zz.2.2 4 (zz.2.1.map Aq)]) (fun zz=>zz.1≤f_.Patrol.Bl.length∧An Kc zz.1 ((f_.Patrol.Bl).drop zz.1) zz.2.1=some o15) (fun zz=>f_.Patrol.Bl.length - zz.1) (0,[],0) ⟨Nat.zero_le _,lg⟩ cu cu (fun x=>⟨rfl,rfl,rfl⟩) ?_
  clear lg
  rintro⟨yj,dr,fw⟩ ⟨hk15,lg⟩
  dsimp only at hk15 lg ⊢
  refine sq (ar rfl (qn (sq ?_)))
  refine AWP.cond (Am (fun hc=>?_) (fun hc=>?_))
  ·have hlt15:yj<f_.Patrol.Bl.length:=by have:=Akp hc;omega
   obtain⟨np,b15,ze,h,lg⟩:=Bc lg hlt15
   have hx15:=A9 ze
   have zr:=wk (k:=yj) (by omega)
   unfold Kc at h;try dsimp only at h
   refine sk (qn (sq (bk (sq (rg rfl fun K j=>?_)))))
   refine Bo.of (f:=Aq) (l:=f_.Patrol.Bl) hx15 ?_
   refine nS ?_
   refine j _ _ (qn ?_);clear j K
   refine rg rfl fun K j=>?_
   obtain⟨xd,uy,h⟩:=Ah h
   refine Al.pure Tryz.call128 (Hk np uy) rfl fun _ hr=>?_
   subst hr
   refine nS ?_
   obtain⟨hk,h⟩:=Bx h
   (repeat refine rp ?_);try simp +decide -implicitDefEqProofs only[go_sem]
   refine j _ _ (bn (qn ?_));clear j K
   refine ar rfl (qn ?_)
   obtain rfl:=Aa h
   refine⟨(yj+1,(dr++[xd]),(fw+1)),⟨by dsimp only;omega,Aj lg⟩,by dsimp only;omega,?_,?_⟩
   ·exact cuw zr
   exact cuw zr
  obtain rfl:=Bg lg (fun hl=>by have:=Ako hc;omega)
  have h:=Bf hO15;try dsimp only at h
  have ag:f_.Patrol.Bl.length=yj:=by have:=Ako hc;omega
  subst ag
  refine xt (qe (qe (bs (qn (sq (ar rfl (qn (rt ?_))))))))
  refine nSc Tryz.results127 ?_
  refine j _ _ (qn (sq ?_));clear j K
  refine rg rfl fun K j=>?_
  obtain⟨lj,ux,h⟩:=Ah h
  refine Al.pure Tryz.call130 (Dy f_.Patrol.Hazards ux) rfl fun _ hr=>?_
  subst hr
  refine nS ?_
  refine j _ _ (qn (sq ?_));clear j K
  refine rg rfl fun K j=>?_
  obtain⟨ly,hy20,h⟩:=Ah h
  refine Al.pure Tryz.call131 (Dn f_.Surfaces hy20) rfl fun _ hr=>?_
  subst hr
  refine nS ?_
  refine j _ _ (qn (sq ?_));clear j K
  refine rg rfl fun K j=>?_
  obtain⟨jl,uw,h⟩:=Ah h
  refine Al.pure Tryz.call132 (Dp f_.Packs uw) rfl fun _ hr=>?_
  subst hr
  refine nS ?_
  refine j _ _ (qn (sq ?_));clear j K
  refine rg rfl fun K j=>?_
  refine Al.inline Tryz.call133 Tryz.func133 rfl rfl (by show _≤25;simp) ?_
  refine nS (sq ?_)
  refine ar rfl (qn (sq ?_))
  refine rg rfl fun K j=>?_
  intro hm
  obtain⟨hk,h⟩:=Bx h
  (repeat refine rp ?_);try simp +decide -implicitDefEqProofs only[go_sem]
  refine j _ _ (qn (sq (sq ?_)));clear j K
  refine rg rfl fun K j=>?_
  intro hm
  refine j _ _ (qn (bk ?_));clear j K
  obtain⟨o23,dg,qs⟩:=Ah h
  clear h
  refine AWP.Bw (ι:=Nat×((List Be))×(Nat)) (fun zz=>[(1,.func 134 []),(5,.own 15 zz.2.2 0 zz.2.1.length),(11,.sl 6 (f_.Slides.map A3)),(12,.int .i64 ((f_.Slides.length:Nat):Int)),(13,.int .i64 ((zz.1:Nat):Int))]) (fun zz=>[.box [.sl 2 (f_.Map.Nodes.map A5),.sl 8 (f_.Map.Lifts.map A6),.sl 7 (f_.Map.Runs.map Ba),.sl 1 (f_.Map.Bases.map Bb),.sl 2 (f_.Lifts.map Av),.sl 4 (f_.Closures.map Au),.sl 4 (f_.Patrol.Bl.map Aq),.sl 3 (f_.Patrol.Hazards.map Ay),.sl 3 (f_.Surfaces.map A1),.sl 5 (f_.Packs.map Az),.sl 6 (f_.Slides.map A3),.sl 7 (f_.Bulletin.map Ar),.sl 7 (f_.Missions.map Ap),.sl 4 (f_.Winches.map Ak),.sl 8 (f_.Groomers.map Ax),.sl 3 (f_.Status.map Aw),.int .i64 f_.Depth,.int .i64 f_.Time],.box [.int .i64 run],.box [.nils,.nils,.nils,.nils,.nils,.nils,.nils,.nils,.nils,.nils,.nils,.nils,.nils,.nils,.nils,.nils,.int .i64 0,.int .i64 0],.gone,.row 1 1 ((y2++[run]).map Bb),.row 0 1 ([run].map Bb),.gone,.gone,.box [.sl 2 (y8.map A5),.sl 8 (y9.map A6),.sl 7 (cf.map Ba),.sl 1 (dd.map Bb),.sl 2 (dm.map Av),.sl 4 (er.map Au),.own 14 fw 0 dr.length,.sl 3 (lj.map Ay),.sl 3 (ly.map A1),.sl 5 (jl.map Az),.sl 6 (f_.Slides.map A3),.sl 7 (f_.Bulletin.map Ar),.sl 7 (f_.Missions.map Ap),.sl 4 (f_.Winches.map Ak),.sl 8 (f_.Groomers.map Ax),.sl 3 (f_.Status.map Aw),.int .i64 f_.Depth,.int .i64 f_.Time],.box [.nils,.nils,.nils,.nils,.nils,.nils,.nils,.nils,.nils,.nils,.nils,.nils,.nils,.nils,.nils,.nils,.int .i64 0,.int .i64 0],.gone,.gone,.gone,.gone,.row fw 4 (dr.map Aq),.row zz.2.2 6 (zz.2.1.map A3)]) (fun zz=>zz.1≤f_.Slides.length∧An Kb zz.1 ((f_.Slides).drop zz.1) zz.2.1=some o23) (fun zz=>f_.Slides.length - zz.1) (0,[],0) ⟨Nat.zero_le _,dg⟩ cu cu (fun x=>⟨rfl,rfl,rfl⟩) ?_
  clear dg
  rintro⟨pf,da,df⟩ ⟨wa,dg⟩
  dsimp only at wa dg ⊢
  refine sq (ar rfl (qn (sq ?_)))
  refine AWP.cond (Am (fun hc=>?_) (fun hc=>?_))
  ·have qc:pf<f_.Slides.length:=by have:=Akp hc;omega
   obtain⟨jm,b23,pr,h,dg⟩:=Bc dg qc
   have vj:=A9 pr
   have pt:=wk (k:=pf) (by omega)
   unfold Kb at h;try dsimp only at h
   refine sk (qn (sq (bk (sq (rg rfl fun K j=>?_)))))
   refine Bo.of (f:=A3) (l:=f_.Slides) vj ?_
   refine nS ?_
   refine j _ _ (qn ?_);clear j K
   refine rg rfl fun K j=>?_
   obtain⟨ua,uv,h⟩:=Ah h
   refine Al.pure Tryz.call134 (Hj jm uv) rfl fun _ hr=>?_
   subst hr
   refine nS ?_
   obtain⟨hk,h⟩:=Bx h
   (repeat refine rp ?_);try simp +decide -implicitDefEqProofs only[go_sem]
   refine j _ _ (bn (qn ?_));clear j K
   refine ar rfl (qn ?_)
   obtain rfl:=Aa h
   refine⟨(pf+1,(da++[ua]),(df+1)),⟨by dsimp only;omega,Aj dg⟩,by dsimp only;omega,?_,?_⟩
   ·exact cuw pt
   exact cuw pt
  obtain rfl:=Bg dg (fun hl=>by have:=Ako hc;omega)
  have h:=Bf qs;try dsimp only at h
  have ag:f_.Slides.length=pf:=by have:=Ako hc;omega
  subst ag
  refine xt (qe (qe (bs (qn (sq (ar rfl (qn (rt ?_))))))))
  refine nSc Tryz.results133 ?_
  refine j _ _ (qn (sq ?_));clear j K
  refine rg rfl fun K j=>?_
  refine Al.inline Tryz.call135 Tryz.func135 rfl rfl (by show _≤25;simp) ?_
  refine nS (sq ?_)
  refine ar rfl (qn (sq ?_))
  refine rg rfl fun K j=>?_
  intro hm
  obtain⟨hk,h⟩:=Bx h
  (repeat refine rp ?_);try simp +decide -implicitDefEqProofs only[go_sem]
  refine j _ _ (qn (sq (sq ?_)));clear j K
  refine rg rfl fun K j=>?_
  intro hm
  refine j _ _ (qn (bk ?_));clear j K
  obtain⟨o28,ld,hO28⟩:=Ah h
  clear h
  refine AWP.Bw (ι:=Nat×((List Bi))×(Nat)) (fun zz=>[(1,.func 136 []),(5,.own 16 zz.2.2 0 zz.2.1.length),(11,.sl 7 (f_.Bulletin.map Ar)),(12,.int .i64 ((f_.Bulletin.length:Nat):Int)),(13,.int .i64 ((zz.1:Nat):Int))]) (fun zz=>[.box [.sl 2 (f_.Map.Nodes.map A5),.sl 8 (f_.Map.Lifts.map A6),.sl 7 (f_.Map.Runs.map Ba),.sl 1 (f_.Map.Bases.map Bb),.sl 2 (f_.Lifts.map Av),.sl 4 (f_.Closures.map Au),.sl 4 (f_.Patrol.Bl.map Aq),.sl 3 (f_.Patrol.Hazards.map Ay),.sl 3 (f_.Surfaces.map A1),.sl 5 (f_.Packs.map Az),.sl 6 (f_.Slides.map A3),.sl 7 (f_.Bulletin.map Ar),.sl 7 (f_.Missions.map Ap),.sl 4 (f_.Winches.map Ak),.sl 8 (f_.Groomers.map Ax),.sl 3 (f_.Status.map Aw),.int .i64 f_.Depth,.int .i64 f_.Time],.box [.int .i64 run],.box [.nils,.nils,.nils,.nils,.nils,.nils,.nils,.nils,.nils,.nils,.nils,.nils,.nils,.nils,.nils,.nils,.int .i64 0,.int .i64 0],.gone,.row 1 1 ((y2++[run]).map Bb),.row 0 1 ([run].map Bb),.gone,.gone,.box [.sl 2 (y8.map A5),.sl 8 (y9.map A6),.sl 7 (cf.map Ba),.sl 1 (dd.map Bb),.sl 2 (dm.map Av),.sl 4 (er.map Au),.own 14 fw 0 dr.length,.sl 3 (lj.map Ay),.sl 3 (ly.map A1),.sl 5 (jl.map Az),.own 15 df 0 da.length,.sl 7 (f_.Bulletin.map Ar),.sl 7 (f_.Missions.map Ap),.sl 4 (f_.Winches.map Ak),.sl 8 (f_.Groomers.map Ax),.sl 3 (f_.Status.map Aw),.int .i64 f_.Depth,.int .i64 f_.Time],.box [.nils,.nils,.nils,.nils,.nils,.nils,.nils,.nils,.nils,.nils,.nils,.nils,.nils,.nils,.nils,.nils,.int .i64 0,.int .i64 0],.gone,.gone,.gone,.gone,.row fw 4 (dr.map Aq),.row df 6 (da.map A3),.row zz.2.2 7 (zz.2.1.map Ar)]) (fun zz=>zz.1≤f_.Bulletin.length∧An Ka zz.1 ((f_.Bulletin).drop zz.1) zz.2.1=some o28) (fun zz=>f_.Bulletin.length - zz.1) (0,[],0) ⟨Nat.zero_le _,ld⟩ cu cu (fun x=>⟨rfl,rfl,rfl⟩) ?_
  clear ld
  rintro⟨yh,ew,kh⟩ ⟨hk28,ld⟩
  dsimp only at hk28 ld ⊢
  refine sq (ar rfl (qn (sq ?_)))
  refine AWP.cond (Am (fun hc=>?_) (fun hc=>?_))
  ·have hlt28:yh<f_.Bulletin.length:=by have:=Akp hc;omega
   obtain⟨ui,b28,za,h,ld⟩:=Bc ld hlt28
   have hx28:=A9 za
   have zn:=wk (k:=yh) (by omega)
   unfold Ka at h;try dsimp only at h
   refine sk (qn (sq (bk (sq (rg rfl fun K j=>?_)))))
   refine Bo.of (f:=Ar) (l:=f_.Bulletin) hx28 ?_
   refine nS ?_
   refine j _ _ (qn ?_);clear j K
   refine rg rfl fun K j=>?_
   obtain⟨y31,hy31,h⟩:=Ah h
   refine Al.pure Tryz.call136 (Hi ui hy31) rfl fun _ hr=>?_
   subst hr
   refine nS ?_
   obtain⟨hk,h⟩:=Bx h
   (repeat refine rp ?_);try simp +decide -implicitDefEqProofs only[go_sem]
   refine j _ _ (bn (qn ?_));clear j K
   refine ar rfl (qn ?_)
   obtain rfl:=Aa h
   refine⟨(yh+1,(ew++[y31]),(kh+1)),⟨by dsimp only;omega,Aj ld⟩,by dsimp only;omega,?_,?_⟩
   ·exact cuw zn
   exact cuw zn
  obtain rfl:=Bg ld (fun hl=>by have:=Ako hc;omega)
  have h:=Bf hO28;try dsimp only at h
  have ag:f_.Bulletin.length=yh:=by have:=Ako hc;omega
  subst ag
  refine xt (qe (qe (bs (qn (sq (ar rfl (qn (rt ?_))))))))
  refine nSc Tryz.results135 ?_
  refine j _ _ (qn (sq ?_));clear j K
  refine rg rfl fun K j=>?_
  obtain⟨lv,uu,h⟩:=Ah h
  refine Al.pure Tryz.call137 (Dq f_.Missions uu) rfl fun _ hr=>?_
  subst hr
  refine nS ?_
  refine j _ _ (qn (sq ?_));clear j K
  refine rg rfl fun K j=>?_
  refine Al.inline Tryz.call138 Tryz.func138 rfl rfl (by show _≤25;simp) ?_
  refine nS (sq ?_)
  refine ar rfl (qn (sq ?_))
  refine rg rfl fun K j=>?_
  intro hm
  obtain⟨hk,h⟩:=Bx h
  (repeat refine rp ?_);try simp +decide -implicitDefEqProofs only[go_sem]
  refine j _ _ (qn (sq (sq ?_)));clear j K
  refine rg rfl fun K j=>?_
  intro hm
  refine j _ _ (qn (bk ?_));clear j K
  obtain⟨o34,ky,hO34⟩:=Ah h
  clear h
  refine AWP.Bw (ι:=Nat×((List A8))×(Nat)) (fun zz=>[(1,.func 139 []),(5,.own 17 zz.2.2 0 zz.2.1.length),(11,.sl 4 (f_.Winches.map Ak)),(12,.int .i64 ((f_.Winches.length:Nat):Int)),(13,.int .i64 ((zz.1:Nat):Int))]) (fun zz=>[.box [.sl 2 (f_.Map.Nodes.map A5),.sl 8 (f_.Map.Lifts.map A6),.sl 7 (f_.Map.Runs.map Ba),.sl 1 (f_.Map.Bases.map Bb),.sl 2 (f_.Lifts.map Av),.sl 4 (f_.Closures.map Au),.sl 4 (f_.Patrol.Bl.map Aq),.sl 3 (f_.Patrol.Hazards.map Ay),.sl 3 (f_.Surfaces.map A1),.sl 5 (f_.Packs.map Az),.sl 6 (f_.Slides.map A3),.sl 7 (f_.Bulletin.map Ar),.sl 7 (f_.Missions.map Ap),.sl 4 (f_.Winches.map Ak),.sl 8 (f_.Groomers.map Ax),.sl 3 (f_.Status.map Aw),.int .i64 f_.Depth,.int .i64 f_.Time],.box [.int .i64 run],.box [.nils,.nils,.nils,.nils,.nils,.nils,.nils,.nils,.nils,.nils,.nils,.nils,.nils,.nils,.nils,.nils,.int .i64 0,.int .i64 0],.gone,.row 1 1 ((y2++[run]).map Bb),.row 0 1 ([run].map Bb),.gone,.gone,.box [.sl 2 (y8.map A5),.sl 8 (y9.map A6),.sl 7 (cf.map Ba),.sl 1 (dd.map Bb),.sl 2 (dm.map Av),.sl 4 (er.map Au),.own 14 fw 0 dr.length,.sl 3 (lj.map Ay),.sl 3 (ly.map A1),.sl 5 (jl.map Az),.own 15 df 0 da.length,.own 16 kh 0 ew.length,.sl 7 (lv.map Ap),.sl 4 (f_.Winches.map Ak),.sl 8 (f_.Groomers.map Ax),.sl 3 (f_.Status.map Aw),.int .i64 f_.Depth,.int .i64 f_.Time],.box [.nils,.nils,.nils,.nils,.nils,.nils,.nils,.nils,.nils,.nils,.nils,.nils,.nils,.nils,.nils,.nils,.int .i64 0,.int .i64 0],.gone,.gone,.gone,.gone,.row fw 4 (dr.map Aq),.row df 6 (da.map A3),.row kh 7 (ew.map Ar),.row zz.2.2 4 (zz.2.1.map Ak)]) (fun zz=>zz.1≤f_.Winches.length∧An J9 zz.1 ((f_.Winches).drop zz.1) zz.2.1=some o34) (fun zz=>f_.Winches.length - zz.1) (0,[],0) ⟨Nat.zero_le _,ky⟩ cu cu (fun x=>⟨rfl,rfl,rfl⟩) ?_
  clear ky
  rintro⟨yf,ga,oz⟩ ⟨hk34,ky⟩
  dsimp only at hk34 ky ⊢
  refine sq (ar rfl (qn (sq ?_)))
  refine AWP.cond (Am (fun hc=>?_) (fun hc=>?_))
  ·have hlt34:yf<f_.Winches.length:=by have:=Akp hc;omega
   obtain⟨ug,b34,yy,h,ky⟩:=Bc ky hlt34
   have hx34:=A9 yy
   have zl:=wk (k:=yf) (by omega)
   unfold J9 at h;try dsimp only at h
   refine sk (qn (sq (bk (sq (rg rfl fun K j=>?_)))))
   refine Bo.of (f:=Ak) (l:=f_.Winches) hx34 ?_
   refine nS ?_
   refine j _ _ (qn ?_);clear j K
   refine rg rfl fun K j=>?_
   obtain⟨y37,hy37,h⟩:=Ah h
   refine Al.pure Tryz.call139 (Hh ug hy37) rfl fun _ hr=>?_
   subst hr
   refine nS ?_
   obtain⟨hk,h⟩:=Bx h
   (repeat refine rp ?_);try simp +decide -implicitDefEqProofs only[go_sem]
   refine j _ _ (bn (qn ?_));clear j K
   refine ar rfl (qn ?_)
   obtain rfl:=Aa h
   refine⟨(yf+1,(ga++[y37]),(oz+1)),⟨by dsimp only;omega,Aj ky⟩,by dsimp only;omega,?_,?_⟩
   ·exact cuw zl
   exact cuw zl
  obtain rfl:=Bg ky (fun hl=>by have:=Ako hc;omega)
  have h:=Bf hO34;try dsimp only at h
  have ag:f_.Winches.length=yf:=by have:=Ako hc;omega
  subst ag
  refine xt (qe (qe (bs (qn (sq (ar rfl (qn (rt ?_))))))))
  refine nSc Tryz.results138 ?_
  refine j _ _ (qn (sq ?_));clear j K
  refine rg rfl fun K j=>?_
  obtain⟨qw,hy38,h⟩:=Ah h
  refine Al.pure Tryz.call140 (Dr f_.Groomers hy38) rfl fun _ hr=>?_
  subst hr
  refine nS ?_
  refine j _ _ (qn (sq ?_));clear j K
  refine rg rfl fun K j=>?_
  obtain⟨fg,ur,h⟩:=Ah h
  refine Al.row Tryz.call141 (D3 f_.Status ur) rfl 18 rfl ?_
  (try simp +decide -implicitDefEqProofs only[go_sem,Aky])
  refine j _ _ (qn (sq ?_));clear j K
  refine ar rfl (qn (rt ?_))
  refine nSc Tryz.results57 ?_
  refine j _ _ (qn (sq ?_))
  refine ar rfl (qn (sq (sq ?_)))
  refine ar rfl (qn ?_)
  revert h;refine ca rfl (fun hc h=>?_) fun hc h=>?_
  ·refine sq ?_
   refine rg rfl fun K j=>?_
   obtain⟨uf,pn,h⟩:=Ah h
   refine Lb pn (by first | rfl | exact(Cy _).symm | (simp only[Akw,List.length_cons,List.length_nil,List.length_set,Akx]<;>omega)) ?_
   refine nS ?_
   refine Dm.ofNat (f:=Aw) (l:=fg) (n:=k3) pn ?_
   have hs41:=Uo (y:=(A4.mk run true f_.Time)) pn
   refine nS ?_
   refine j _ _ (qn (sq ?_))
   refine ar rfl (qn (rt (qr ?_)))
   cases h;exact en Tryz.results24
  refine sk (qn (sq (ar rfl (qn (sq (bk ?_))))))
  obtain⟨o42,ji,hO42⟩:=Ah h
  clear h
  refine AWP.Bw (ι:=Nat×(Int)×(Unit)) (fun zz=>[(3,.ptr 1 0),(4,.ptr 2 0),(11,.ptr 19 0),(12,.ptr 20 0),(13,.int .i64 zz.2.1)]) (fun zz=>[.gone,.box [.int .i64 run],.box [.nils,.nils,.nils,.nils,.nils,.nils,.nils,.nils,.nils,.nils,.nils,.nils,.nils,.nils,.nils,.nils,.int .i64 0,.int .i64 0],.gone,.gone,.gone,.gone,.gone,.gone,.gone,.gone,.gone,.gone,.gone,.row fw 4 (dr.map Aq),.row df 6 (da.map A3),.row kh 7 (ew.map Ar),.row oz 4 (ga.map Ak),.row 0 3 (fg.map Aw),.box [.sl 2 (y8.map A5),.sl 8 (y9.map A6),.sl 7 (cf.map Ba),.sl 1 (dd.map Bb),.sl 2 (dm.map Av),.sl 4 (er.map Au),.own 14 fw 0 dr.length,.sl 3 (lj.map Ay),.sl 3 (ly.map A1),.sl 5 (jl.map Az),.own 15 df 0 da.length,.own 16 kh 0 ew.length,.sl 7 (lv.map Ap),.own 17 oz 0 ga.length,.sl 8 (qw.map Ax),.own 18 0 0 fg.length,.int .i64 f_.Depth,.int .i64 f_.Time],.box [.int .i64 run,.bool true,.int .i64 f_.Time]]) (fun zz=>D6 (Oq f_ run y8 y9 cf dd dm er dr lj ly jl da ew lv ga qw fg) zz.1 zz.2.1=some o42) (fun zz=>zz.1) (fuel,0,()) ji cu cu (fun x=>⟨rfl,rfl,rfl⟩) ?_
  clear ji
  rintro⟨n42,place42,⟨⟩⟩ ji
  dsimp only at ji ⊢
  obtain⟨m42,b42,rfl,h,ji⟩:=Km ji
  unfold Oq at h;try dsimp only at h
  refine sq (sq ?_)
  refine AWP.draw Tryz.mixed (by kernel_rfl) ?_;intro K j
  refine nS ?_
  intro hm
  revert h;refine gt (fun hc h=>?_) fun hc h=>?_
  ·obtain⟨xy,tf,h⟩:=Ah h
   refine Lb tf (by first | rfl | exact(Cy _).symm | (simp only[Akw,List.length_cons,List.length_nil,List.length_set,Akx]<;>omega)) ?_
   refine nS ?_
   refine Dm.of (f:=Aw) (l:=fg) (n:=place42) tf ?_
   refine nS ?_
   refine j _ _ _ (by kernel_rfl) ?_
   refine qn ?_
   revert h;refine ca rfl (fun hc h=>?_) fun hc h=>?_
   ·refine sk (qn (bk (ar rfl (bn (qn ?_)))))
    obtain rfl:=Aa h
    refine⟨(m42,(IntKind.i64.wrap (place42+1)),()),Aj ji,by dsimp only;omega,?_,?_⟩
    ·exact cu
    exact cu
   refine xt (qe (qe ?_))
   obtain⟨q44,hq,h⟩:=Ah h
   obtain rfl:=Aa h
   obtain rfl:=Ae ji
   replace h:=hq.trans (Ao hO42)
   refine bs (qn (sq (rg rfl fun K j=>?_)))
   rcases mT h with⟨hc,h⟩ | ⟨hc,h⟩
   ·refine Al.inline Tryz.call58 Tryz.func58 rfl rfl (by show _≤95;simp) ?_
    refine nS (sq ?_)
    refine ar rfl (qn (sq ?_))
    refine rg rfl fun K j=>?_
    obtain⟨hk,h⟩:=Fz h
    (repeat(refine⟨by omega,?_⟩))
    refine j _ _ (qn (sq ?_));clear j K
    refine ar rfl (qn (sq (sq ?_)))
    refine ar rfl (qn ?_)
    refine AWP.cond (Bj ?_)
    refine sk (qn (sq (rg rfl fun K j=>?_)))
    intro hm
    refine j _ _ (qn (sq (sq ?_)));clear j K
    refine ar rfl (qn ?_)
    revert h;refine ca rfl (fun hc h=>?_) fun hc h=>?_
    ·refine sq ?_
     refine rg rfl fun K j=>?_
     obtain⟨hk,h⟩:=Bx h
     (repeat refine rp ?_);try simp +decide -implicitDefEqProofs only[go_sem]
     refine j _ _ (qn (rt (qr ?_)));clear j K
     refine nSc Tryz.results58 ?_
     refine j _ _ (qn (sq ?_))
     refine ar rfl (qn (rt ?_))
     cases h;exact en Tryz.results24
    refine sk (qn (sq (sq (rg rfl fun K j=>?_))))
    cases h
   obtain⟨bg,h⟩:=Fz h
   obtain⟨hk,h⟩:=Bx h
   refine Al.fM Aw fg (A4.mk run true f_.Time) Tryz.call58 Tryz.inserts58 rfl rfl rfl (by decide) bg (by omega) ?_
   refine nS ?_
   refine j _ _ (qn (sq ?_))
   refine ar rfl (qn (rt ?_))
   cases h;exact en Tryz.results24
  refine j _ _ _ (by kernel_rfl) ?_
  refine qn ?_
  revert h;refine ca rfl (fun hc h=>?_) fun hc h=>?_
  ·refine sk (qn (bk (ar rfl (bn (qn ?_)))))
   obtain rfl:=Aa h
   refine⟨(m42,(IntKind.i64.wrap (place42+1)),()),Aj ji,by dsimp only;omega,?_,?_⟩
   ·exact cu
   exact cu
  refine xt (qe (qe ?_))
  obtain⟨q45,hq,h⟩:=Ah h
  obtain rfl:=Aa h
  obtain rfl:=Ae ji
  replace h:=hq.trans (Ao hO42)
  refine bs (qn (sq (rg rfl fun K j=>?_)))
  rcases mT h with⟨hc,h⟩ | ⟨hc,h⟩
  ·refine Al.inline Tryz.call58 Tryz.func58 rfl rfl (by show _≤95;simp) ?_
   refine nS (sq ?_)
   refine ar rfl (qn (sq ?_))
   refine rg rfl fun K j=>?_
   obtain⟨hk,h⟩:=Fz h
   (repeat(refine⟨by omega,?_⟩))
   refine j _ _ (qn (sq ?_));clear j K
   refine ar rfl (qn (sq (sq ?_)))
   refine ar rfl (qn ?_)
   refine AWP.cond (Bj ?_)
   refine sk (qn (sq (rg rfl fun K j=>?_)))
   intro hm
   refine j _ _ (qn (sq (sq ?_)));clear j K
   refine ar rfl (qn ?_)
   revert h;refine ca rfl (fun hc h=>?_) fun hc h=>?_
   ·refine sq ?_
    refine rg rfl fun K j=>?_
    obtain⟨hk,h⟩:=Bx h
    (repeat refine rp ?_);try simp +decide -implicitDefEqProofs only[go_sem]
    refine j _ _ (qn (rt (qr ?_)));clear j K
    refine nSc Tryz.results58 ?_
    refine j _ _ (qn (sq ?_))
    refine ar rfl (qn (rt ?_))
    cases h;exact en Tryz.results24
   refine sk (qn (sq (sq (rg rfl fun K j=>?_))))
   cases h
  obtain⟨bg,h⟩:=Fz h
  obtain⟨hk,h⟩:=Bx h
  refine Al.fM Aw fg (A4.mk run true f_.Time) Tryz.call58 Tryz.inserts58 rfl rfl rfl (by decide) bg (by omega) ?_
  refine nS ?_
  refine j _ _ (qn (sq ?_))
  refine ar rfl (qn (rt ?_))
  cases h;exact en Tryz.results24
 refine sk (bn (qn (ar rfl (qn ?_))))
 obtain rfl:=Aa h
 refine⟨(k3+1,(),()),⟨by dsimp only;omega,Aj bw⟩,by dsimp only;omega,?_,?_⟩
 ·exact cuw iz
 exact cuw iz
def Cz (n_:Int) (least:Int) (most:Int):Option (Bool):=
 (bif (decide (least≤n_))then some (decide (n_≤most))else some false)
theorem Cp (n_:Int) (least:Int) (most:Int) {r:Bool} (h:Cz n_ least most=some r):Ad Tryz.prog 238 [.int .i64 n_,.int .i64 least,.int .i64 most] (·= .bool r):=by
 refine Ad.nle (Ad.intro Tryz.func238 rfl rfl (by show _≤15;simp) ?_)
 unfold Cz at h
 refine nS (sq ?_)
 refine ar rfl (qn (sq ?_))
 refine rg rfl fun K j=>?_
 revert h;refine gt (fun hc h=>?_) fun hc h=>?_
 ·refine j _ _ (qn (rt ?_))
  cases h;exact en Tryz.results238
 refine j _ _ (qn (rt ?_))
 cases h;exact en Tryz.results238
def J0 (m:Bd) (k0:Nat) (ab:Cr) (sv:Unit):Option (Out (Unit) (Int)):=
 (Cz ab.ID 1 9999).bind fun y3=>(bif (!y3)then some (Out.ret 2)else (Cz ab.Alt 0 5000).bind fun y4=>(bif (!y4)then some (Out.ret 2)else (bif (decide (0<((k0:Nat):Int)))then (Dv m.Nodes (IntKind.i64.wrap (((k0:Nat):Int) - 1))).bind fun ch=>(bif (decide (ab.ID≤ch.ID))then some (Out.ret 7)else some (Out.next ()))else some (Out.next ()))))
def Nb (m:Bd):Option (Int):=
 (An (J0 m) 0 m.Nodes ()).bind fun o0=>o0.on fun s0=>some 0
theorem T8 (m:Bd) {r:Int} (h:Nb m=some r):Ad Tryz.prog 153 [.agg (Ct m)] (·= .int .i64 r):=by
 refine Ad.nle (Ad.intro Tryz.func153 rfl rfl (by show _≤38;simp) ?_)
 unfold Nb at h
 refine nS (sq ?_)
 refine ar rfl (qn (sq (sq ?_)))
 refine rg rfl fun K j=>?_
 intro hm
 refine j _ _ (qn (bk ?_))
 obtain⟨o0,aa,ae⟩:=Ah h
 clear h
 refine AWP.Bw (ι:=Nat×(Unit)×(Unit)) (fun zz=>[(1,.ptr 0 0),(6,.sl 2 (m.Nodes.map A5)),(7,.int .i64 ((m.Nodes.length:Nat):Int)),(8,.int .i64 ((zz.1:Nat):Int))]) (fun zz=>[.box [.sl 2 (m.Nodes.map A5),.sl 8 (m.Lifts.map A6),.sl 7 (m.Runs.map Ba),.sl 1 (m.Bases.map Bb)]]) (fun zz=>zz.1≤m.Nodes.length∧An (J0 m) zz.1 ((m.Nodes).drop zz.1) zz.2.1=some o0) (fun zz=>m.Nodes.length - zz.1) (0,(),()) ⟨Nat.zero_le _,aa⟩ cu cu (fun x=>⟨rfl,rfl,rfl⟩) ?_
 clear aa
 rintro⟨k0,⟨⟩,⟨⟩⟩ ⟨bg,aa⟩
 dsimp only at bg aa ⊢
 refine sq (ar rfl (qn (sq ?_)))
 refine AWP.cond (Am (fun hc=>?_) (fun hc=>?_))
 rotate_left
 ·obtain rfl:=Bg aa (fun hl=>by have:=Ako hc;omega)
  have h:=Bf ae;try dsimp only at h
  have ag:m.Nodes.length=k0:=by have:=Ako hc;omega
  subst ag
  refine xt (qe (qe (bs (qn (sq (ar rfl (qn (rt ?_))))))))
  cases h;exact en Tryz.results153
 have ah:k0<m.Nodes.length:=by have:=Akp hc;omega
 obtain⟨ab,b0,aj,h,aa⟩:=Bc aa ah
 have aw:=A9 aj
 have ak:=wk (k:=k0) (by omega)
 unfold J0 at h;try dsimp only at h
 refine sk (qn (sq (bk (sq (rg rfl fun K j=>?_)))))
 refine Bo.of (f:=A5) (l:=m.Nodes) aw ?_
 refine nS ?_
 refine j _ _ (qn (sq (sq ?_)))
 refine rg rfl fun K j=>?_
 obtain⟨y3,bx,h⟩:=Ah h
 refine Al.pure Tryz.call238 (Cp ab.ID 1 9999 bx) rfl fun _ hr=>?_
 subst hr
 refine nS ?_
 revert h;refine gf (fun hc h=>?_) fun hc h=>?_
 rotate_left
 ·refine j _ _ (qn ?_)
  refine AWP.cond (Ai ?_)
  refine sq (ar rfl (qn (rt (qr (br (qr (qr ?_)))))))
  obtain rfl:=Aa h
  obtain rfl:=Ae aa
  replace h:=Ao ae
  refine br (qr ?_)
  cases h;exact en Tryz.results153
 obtain⟨y4,cn,h⟩:=Ah h
 refine Al.pure Tryz.call238 (Cp ab.Alt 0 5000 cn) rfl fun _ hr=>?_
 subst hr
 refine nS ?_
 refine j _ _ (qn ?_)
 revert h;refine ca rfl (fun hc h=>?_) fun hc h=>?_
 ·refine sq (ar rfl (qn (rt (qr (br (qr (qr ?_)))))))
  obtain rfl:=Aa h
  obtain rfl:=Ae aa
  replace h:=Ao ae
  refine br (qr ?_)
  cases h;exact en Tryz.results153
 refine sk (qn (sq ?_))
 refine AWP.draw Tryz.mixed (by kernel_rfl) ?_;intro K j
 refine nS ?_
 revert h;refine gt (fun hc h=>?_) fun hc h=>?_
 ·obtain⟨ch,gn,h⟩:=Ah h
  refine Bo.of (f:=A5) (l:=m.Nodes) gn ?_
  refine nS ?_
  refine j _ _ _ (by kernel_rfl) ?_
  refine qn ?_
  revert h;refine ca rfl (fun hc h=>?_) fun hc h=>?_
  ·refine sq (ar rfl (qn (rt (br (qr (qr ?_))))))
   obtain rfl:=Aa h
   obtain rfl:=Ae aa
   replace h:=Ao ae
   refine br (qr ?_)
   cases h;exact en Tryz.results153
  refine sk (bn (qn (ar rfl (qn ?_))))
  obtain rfl:=Aa h
  refine⟨(k0+1,(),()),⟨by dsimp only;omega,Aj aa⟩,by dsimp only;omega,?_,?_⟩
  ·exact cuw ak
  exact cuw ak
 refine j _ _ _ (by kernel_rfl) ?_
 refine qn ?_
 refine AWP.cond (Bj ?_)
 refine sk (bn (qn (ar rfl (qn ?_))))
 obtain rfl:=Aa h
 refine⟨(k0+1,(),()),⟨by dsimp only;omega,Aj aa⟩,by dsimp only;omega,?_,?_⟩
 ·exact cuw ak
 exact cuw ak
end
end Go.Proofs.YtjopghiagoidgaaGreat
