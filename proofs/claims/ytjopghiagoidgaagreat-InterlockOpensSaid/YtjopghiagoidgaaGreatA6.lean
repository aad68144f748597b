/- Our own texts: a layer of abstract values over the model, the walks of the functions, the plain laws; joined and shortened by a small program of our own (wip/dce2.py, wip/pack.py). -/
import Derived.Test.YtjopghiagoidgaaGreatA5
namespace Go.Proofs.YtjopghiagoidgaaGreat
open Go Go.Ab
set_option linter.unusedSimpArgs false
set_option linter.unusedVariables false
theorem D5 {α:Type} {step:Nat→α→Unit→Option (Out Unit Bool)} {l:List α} {rest:Option Bool} (hs:∀ (i:Nat) (x:α),l[i]? =some x→step i x ()=some (.next ())):((Al step 0 l ()).bind fun o=>o.on fun _=>rest)=rest:=by
  have:Al step 0 l ()=some (.next ()):=Wu.2 fun i x hx=>by rw[Nat.zero_add];exact hs i x hx
  rw[this];rfl
theorem jN (a:List Int):Qh a a=some true:=by
  unfold Qh
  rw[Aop (by simp),cond_false]
  exact D5 fun i x hx=>by unfold Vm;rw[Cm hx];simp
theorem tT (a:List Int):Ky a a=some true:=by
  unfold Ky
  rw[Aop (by simp),cond_false]
  exact D5 fun i x hx=>by unfold O7;rw[Cm hx];simp
theorem tS (a:List Int):Kw a a=some true:=by
  unfold Kw
  rw[Aop (by simp),cond_false]
  exact D5 fun i x hx=>by unfold O4;rw[Cm hx];simp
theorem Abw (a:Av):My a a=some true:=by
  unfold My
  rw[Aop (by simp),cond_false,Aop (by simp),cond_false,Aop (by simp),cond_false,eJ,Aos,Aoo rfl,Bool.not_true,cond_false]
  rw[D5 fun i x hx=>by unfold Qc;rw[Cm hx];simp]
  unfold Lr
  rw[D5 fun i x hx=>by unfold Qd;rw[Cm hx];simp]
  unfold Lq
  exact D5 fun i x hx=>by unfold Qe;rw[Cm hx];simp
theorem wR (a:Af):Rg a a=some true:=by
  unfold Rg
  rw[Aop (by simp),cond_false,Aop (by simp),cond_false,Aop (by simp),cond_false,Aop (by simp),cond_false,Aop (by simp),cond_false]
  rw[D5 fun i x hx=>by unfold Tg;rw[Cm hx];simp]
  unfold Ov
  rw[D5 fun i x hx=>by unfold Th;rw[Cm hx];simp]
  unfold Ou
  rw[D5 fun i x hx=>by unfold Ti;rw[Cm hx];simp]
  unfold Ot
  rw[D5 fun i x hx=>by unfold Tj;rw[Cm hx];simp]
  unfold Oq
  exact D5 fun i x hx=>by unfold Tk;rw[Cm hx];simp
theorem r8 (a:List Au):Hw a a=some true:=by
  unfold Hw
  rw[Aop (by simp),cond_false]
  exact D5 fun i x hx=>by unfold Mf;rw[Cm hx];simp
theorem w9 (a:Ba):Ty a a=some true:=by
  unfold Ty
  rw[Aop (by simp),cond_false,Aop (by simp),cond_false,tT,Aos,Bool.not_true,cond_false]
  exact D5 fun i x hx=>by unfold Vp;rw[Cm hx];simp
theorem tC (a:Bk):Tn a a=some true:=by
  unfold Tn
  rw[Aop (by simp),cond_false,Aop (by simp),cond_false]
  rw[D5 fun i x hx=>by unfold Vk;rw[Cm hx,Aos,w9];simp]
  unfold Q0
  exact D5 fun i x hx=>by unfold Vl;rw[Cm hx];simp
theorem wI (a:List Ct):Jm a a=some true:=by
  unfold Jm
  rw[Aop (by simp),cond_false]
  exact D5 fun i x hx=>by unfold Np;rw[Cm hx];simp
theorem sB (a:List Aw):Hz a a=some true:=by
  unfold Hz
  rw[Aop (by simp),cond_false]
  exact D5 fun i x hx=>by unfold Mg Q1;rw[Cm hx,Aos,jN,jN];simp
theorem oJ (a:List A2):Tv a a=some true:=by
  unfold Tv
  rw[Aop (by simp),cond_false]
  refine D5 fun i x hx=>?_
  have:Wf x x=some true:=by
    unfold Wf
    simp only[ne_eq,not_true_eq_false,decide_false,decide_true,cond_false,Bool.and_self,Bool.not_true]
    exact D5 fun i y hy=>by unfold W3;rw[Cm hy];simp
  unfold Vn
  rw[Cm hx,Aos,this];rfl
theorem vN (a:List Am):Tx a a=some true:=by
  unfold Tx
  rw[Aop (by simp),cond_false]
  exact D5 fun i x hx=>by unfold Vo;rw[Cm hx,Aos,tS];simp
theorem nB (a:Af):Gr a a=some true:=by
  unfold Gr
  rw[Aop (by simp),cond_false,Aop (by simp),cond_false,Abw,wR,r8,tC,wI,sB,oJ,vN]
  rfl
def Wt (run t:Int) (l:List Au):List Au:=(l.filter fun x=>decide (x.Run<run))++[⟨run,true,t⟩]++l.filter fun x=>decide (run<x.Run)
theorem aA {l:List Au} (h:Ie Au.Run l) {i j:Nat} {x y:Au} (hx:l[i]? =some x) (hy:l[j]? =some y) (qg:i<j):x.Run<y.Run:=
  W46.aH (lT h) (i:=i) (j:=j) (by rw[List.getElem?_map,hx];rfl) (by rw[List.getElem?_map,hy];rfl) qg
theorem mI {α:Type} {l:List α} {k:Nat} {x:α} (h:x∈l.take k):∃ i,i<k∧l[i]? =some x:=by
  obtain⟨i,hi⟩:=List.mem_iff_getElem?.1 h
  rw[List.getElem?_take]at hi
  split at hi
  ·exact⟨i,‹_›,hi⟩
  ·cases hi
theorem tM {α:Type} {l:List α} {k:Nat} {x:α} (h:x∈l.drop k):∃ i,k≤i∧l[i]? =some x:=by
  obtain⟨i,hi⟩:=List.mem_iff_getElem?.1 h
  rw[List.getElem?_drop]at hi
  exact⟨k+i,by omega,hi⟩
theorem lD {l:List Au} {run t:Int} {p q:Nat} (hpq:p≤q) (h1:∀ x∈l.take p,x.Run<run) (h2:∀ i x,p≤i→i<q→l[i]? =some x→x.Run=run) (h3:∀ x∈l.drop q,run<x.Run):Wt run t l=l.take p++[⟨run,true,t⟩]++l.drop q:=by
  have e:l=l.take p++(l.drop p).take (q - p)++l.drop q:=by
    rw[List.append_assoc]
    have:l.drop q=(l.drop p).drop (q - p):=by rw[List.drop_drop];congr 1;omega
    rw[this,List.take_append_drop,List.take_append_drop]
  have hm:∀ x∈(l.drop p).take (q - p),x.Run=run:=fun x hx=>by
    obtain⟨i,hi,hx⟩:=mI hx
    rw[List.getElem?_drop]at hx
    exact h2 (p+i) x (by omega) (by omega) hx
  have f1:l.filter (fun x=>decide (x.Run<run))=l.take p:=by
    conv=>lhs;rw[e]
    rw[List.filter_append,List.filter_append,List.filter_eq_self.2 (fun x hx=>by simpa using h1 x hx),List.filter_eq_nil_iff.2 (fun x hx=>by have:=hm x hx;simp;omega),List.filter_eq_nil_iff.2 (fun x hx=>by have:=h3 x hx;simp;omega),List.append_nil,List.append_nil]
  have f2:l.filter (fun x=>decide (run<x.Run))=l.drop q:=by
    conv=>lhs;rw[e]
    rw[List.filter_append,List.filter_append,(List.filter_eq_self (l:=l.drop q) (p:=fun x:Au=>decide (run<x.Run))).2 (fun x hx=>by simpa using h3 x hx),List.filter_eq_nil_iff.2 (fun x hx=>by have:=h1 x hx;simp;omega),List.filter_eq_nil_iff.2 (fun x hx=>by have:=hm x hx;simp;omega),List.nil_append,List.nil_append]
  unfold Wt
  rw[f1,f2]
theorem tV (run t:Int) (l:List Au):(Wt run t l).length≤l.length+1:=by
  unfold Wt
  rw[Aou,Aou,List.length_singleton]
  have:(l.filter fun x=>decide (x.Run<run)).length+(l.filter fun x=>decide (run<x.Run)).length≤l.length:=by
    induction l with
    | nil=>simp
    | cons x l ih=>
      by_cases h1:x.Run<run
      ·rw[List.filter_cons_of_pos (by simpa using h1),List.filter_cons_of_neg (p:=fun x:Au=>decide (run<x.Run)) (by simp;omega)]
       simp;omega
      ·by_cases h2:run<x.Run
       ·rw[List.filter_cons_of_neg (by simpa using h1),List.filter_cons_of_pos (p:=fun x:Au=>decide (run<x.Run)) (by simpa using h2)]
        simp;omega
       ·rw[List.filter_cons_of_neg (by simpa using h1),List.filter_cons_of_neg (p:=fun x:Au=>decide (run<x.Run)) (by simpa using h2)]
        simp;omega
  omega
theorem vV (f:Af) (run:Int) (qi:f.Status.length≤64) (hR:Ie Au.Run f.Status):∃ s,Al (M0 f run) 0 f.Status (false,[])=some (.next s)∧((s.1=false∧s.2++[⟨run,true,f.Time⟩]=Wt run f.Time f.Status∧s.2.length≤f.Status.length)∨(s.1=true∧s.2=Wt run f.Time f.Status)):=by
  have key:∀ (k:Nat),Wt run f.Time (f.Status.take k)=(f.Status.take k).filter (fun x=>decide (x.Run<run))++[⟨run,true,f.Time⟩]++(f.Status.take k).filter fun x=>decide (run<x.Run):=fun k=>rfl
  obtain⟨s,h1,h2⟩:=Eb (ρ:=Af×Int) (step:=M0 f run) (l:=f.Status) (s:=(false,[])) (fun k s=>(s.1=false∧(∀ x∈f.Status.take k,x.Run<run)∧s.2=f.Status.take k)∨(s.1=true∧(∃ y∈f.Status.take k,run≤y.Run)∧s.2=Wt run f.Time (f.Status.take k))) (.inl ⟨rfl,by simp,by simp⟩) (fun k x s hk hI=>by
    have ah:=(Aoz.1 hk).1
    have htk:(f.Status.take k).length=k:=by rw[List.length_take];omega
    obtain⟨s1,s2⟩:=s
    dsimp only at hI
    unfold M0
    dsimp only
    rcases hI with⟨rfl,i2,rfl⟩ | ⟨rfl,⟨y,hy,cx⟩,rfl⟩
    ·have f1:(f.Status.take k).filter (fun x=>decide (x.Run<run))=f.Status.take k:=List.filter_eq_self.2 fun x hx=>by simpa using i2 x hx
     have f2:(f.Status.take k).filter (fun x=>decide (run<x.Run))=[]:=List.filter_eq_nil_iff.2 fun x hx=>by have:=i2 x hx;simp;omega
     by_cases c1:run≤x.Run
     ·rw[Aoo c1,Bool.not_false,cond_true,cond_true,Bs (by omega)]
      have e:Wt run f.Time (f.Status.take (k+1))=f.Status.take k++[⟨run,true,f.Time⟩]++[x].filter (fun x=>decide (run<x.Run)):=by
        unfold Wt
        rw[Bi hk,List.filter_append,List.filter_append,f1,f2,List.filter_cons_of_neg (p:=fun x:Au=>decide (x.Run<run)) (by simp;omega),List.filter_nil,List.append_nil,List.nil_append]
      by_cases c2:x.Run=run
      ·rw[Aop (p:=x.Run≠run) (fun h=>h c2),cond_false]
       refine⟨_,rfl,.inr ⟨rfl,⟨x,by rw[Bi hk];simp,c1⟩,?_⟩⟩
       rw[e,List.filter_cons_of_neg (by simp;omega),List.filter_nil,List.append_nil]
      ·rw[Aoo (p:=x.Run≠run) c2,cond_true,Bs (by omega)]
       refine⟨_,rfl,.inr ⟨rfl,⟨x,by rw[Bi hk];simp,c1⟩,?_⟩⟩
       rw[e,List.filter_cons_of_pos (by simp;omega),List.filter_nil]
     ·rw[Aop c1,Bool.not_false,cond_true,cond_false,Aoo (p:=x.Run≠run) (by omega),cond_true,Bs (by omega)]
      refine⟨_,rfl,.inl ⟨rfl,fun z hz=>?_,by rw[Bi hk]⟩⟩
      rw[Bi hk,Aox,List.mem_singleton]at hz
      rcases hz with hz | rfl
      ·exact i2 z hz
      ·omega
    ·obtain⟨i,hi,hyi⟩:=mI hy
     have tx:=aA hR hyi hk hi
     have hl:=tV run f.Time (f.Status.take k)
     rw[Bool.not_true,cond_false,Aoo (p:=x.Run≠run) (by omega),cond_true,Bs (by omega)]
     refine⟨_,rfl,.inr ⟨rfl,⟨y,by rw[Bi hk];exact List.mem_append_left _ hy,cx⟩,?_⟩⟩
     unfold Wt
     rw[Bi hk,List.filter_append,List.filter_append,List.filter_cons_of_neg (p:=fun x:Au=>decide (x.Run<run)) (by simp;omega),List.filter_nil,List.append_nil,List.filter_cons_of_pos (by simp;omega),List.filter_nil]
     simp)
  rw[List.take_length]at h2
  refine⟨s,h1,?_⟩
  rcases h2 with⟨a,b,c⟩ | ⟨a,b,c⟩
  ·refine .inl ⟨a,?_,by rw[c];exact Nat.le_refl _⟩
   rw[c,lD (p:=f.Status.length) (q:=f.Status.length) (Nat.le_refl _) (by rw[List.take_length];exact b) (fun i x h1 h2=>by omega) (by simp),List.take_length,List.drop_length,List.append_nil]
  ·exact .inr ⟨a,c⟩
noncomputable def jL (f:Af) (run:Int):Int:=if (He f.Map run).2=false then 8 else if run∈Ru f.Status then 7 else(C6 f (Ru f.Status++[run]) run).getD 0
noncomputable def jK (f:Af) (run:Int):Af×Int:=if jL f run=0 then(dG f (Wt run f.Time f.Status),0)else (z54,jL f run)
theorem zI {f:Af} {run e:Int} (h:(He f.Map run).2=true) (ij:run ∉ Ru f.Status) (he:C6 f (Ru f.Status++[run]) run=some e):jL f run=e:=by
  unfold jL
  rw[if_neg (by rw[h];simp),if_neg ij,he];rfl
theorem mA {f:Af} {run:Int} (h:(He f.Map run).2=false):jK f run=(z54,8):=by
  have:jL f run=8:=by unfold jL;rw[if_pos h]
  unfold jK
  rw[this];rfl
theorem jJ {f:Af} {run:Int} (h:(He f.Map run).2=true) (ij:run∈Ru f.Status):jK f run=(z54,7):=by
  have:jL f run=7:=by unfold jL;rw[if_neg (by rw[h];simp),if_pos ij]
  unfold jK
  rw[this];rfl
theorem pE {f:Af} {run e:Int} (h:(He f.Map run).2=true) (ij:run ∉ Ru f.Status) (he:C6 f (Ru f.Status++[run]) run=some e):jK f run=if e=0 then(dG f (Wt run f.Time f.Status),0)else (z54,e):=by
  unfold jK
  rw[zI h ij he]
theorem vW {f:Af} (F:FOK f) (qi:f.Status.length≤40) (run:Int):Tm f run=some (jK f run):=by
  have hS:=F.statL
  have hn:=eG f.Status
  unfold Tm
  rw[Z9,Aos]
  cases h:(He f.Map run).2 with
  | false=>rw[mA h];rfl
  | true=>
    rw[Bool.not_true,cond_false,qN (by omega),Aos,Yo,Aos]
    by_cases ij:run∈Ru f.Status
    ·rw[Aoo ij,jJ h ij];rfl
    ·rw[Aop ij,cond_false]
     obtain⟨s,h1,h2⟩:=vV f run (by omega) F.statR
     obtain⟨e,e1,e2,_⟩:=qL F (Ru f.Status++[run]) run
     have hil:=tV run f.Time f.Status
     rw[pE h ij e1,h1,Aos]
     show Mz f run (Ru f.Status) s.1 s.2=_
     unfold Mz
     rw[e2]
     rcases h2 with⟨a,b,c⟩ | ⟨a,b⟩
     ·rw[a,Bool.not_false,cond_true,Bs (by omega),Aop (by omega),cond_false,Bs (by omega),Bs (by omega),Aos,b]
      by_cases e0:e=0
      ·subst e0;rfl
      ·rw[Aoo (p:=e≠0) e0,if_neg e0];rfl
     ·rw[a,Bool.not_true,cond_false,b,Aop (by omega),cond_false,Bs (by omega),Bs (by omega),Aos]
      by_cases e0:e=0
      ·subst e0;rfl
      ·rw[Aoo (p:=e≠0) e0,if_neg e0];rfl
theorem wH {f:Af} {run:Int} (qi:f.Status.length≤64) (hR:Ie Au.Run f.Status) (hno:∀ x∈f.Status,x.Run≠run) {step:Int→Option (Out Int (Af×Int))}
    (hs:step=E3 f run f.Map.Nodes f.Map.Lifts f.Map.Runs f.Map.Bases f.Lifts f.Closures f.Patrol.Ci f.Patrol.Hazards f.Surfaces f.Packs f.Slides f.Bulletin f.Missions f.Winches f.Groomers f.Status) :
    Dx step fuel 0=some (.ret (dG f (Wt run f.Time f.Status),0)):=by
  subst hs
  obtain⟨r,h1,h2⟩:=Hc (step:=E3 f run f.Map.Nodes f.Map.Lifts f.Map.Runs f.Map.Bases f.Lifts f.Closures f.Patrol.Ci f.Patrol.Hazards f.Surfaces f.Packs f.Slides f.Bulletin f.Missions f.Winches f.Groomers f.Status) (fun v=>∃ p:Nat,v=(p:Int)∧p≤f.Status.length∧∀ x∈f.Status.take p,x.Run<run) (fun r=>r=(dG f (Wt run f.Time f.Status),0)) (fun v=>(f.Status.length - v).toNat) (by
    rintro v ⟨p,rfl,hp,hI⟩
    unfold E3
    by_cases ah:p<f.Status.length
    ·have hx:f.Status[p]? =some (f.Status[p]'ah):=Aoq ah
     generalize f.Status[p]'ah=x at hx
     rw[Aoo (by omega),cond_true,Cm hx,Aos]
     by_cases c:x.Run<run
     ·rw[Aoo c,cond_true,S5 (by omega)]
      refine .inl ⟨_,rfl,⟨p+1,rfl,by omega,fun z hz=>?_⟩,by omega⟩
      rw[Bi hx,Aox,List.mem_singleton]at hz
      rcases hz with hz | rfl
      ·exact hI z hz
      ·exact c
     ·rw[Aop c,cond_false,Aop (p:=((p:Nat):Int)=((f.Status.length:Nat):Int)) (by omega),cond_false,Ns (by omega),Bs (by omega),Int.toNat_natCast]
      refine .inr ⟨_,rfl,?_⟩
      have hxr:=hno x (Aor hx)
      have:iC f.Status p ⟨run,true,f.Time⟩=Wt run f.Time f.Status:=by
        unfold iC
        rw[lD (p:=p) (q:=p) (Nat.le_refl _) hI (fun i z h1 h2=>by omega) (fun z hz=>by
         obtain⟨i,hi,hz⟩:=tM hz
         by_cases e:i=p
         ·rw[e,hx]at hz;obtain rfl:=Aoy hz;omega
         ·have:=aA hR hx hz (by omega);omega)]
      rw[this];rfl
    ·have e:p=f.Status.length:=by omega
     subst e
     rw[Aop (by omega),cond_false,cond_false,Aoo rfl,cond_true,Ns (by omega),cond_true,Bs (by omega)]
     refine .inr ⟨_,rfl,?_⟩
     rw[List.take_length]at hI
     have:f.Status++[⟨run,true,f.Time⟩]=Wt run f.Time f.Status:=by
       rw[lD (p:=f.Status.length) (q:=f.Status.length) (Nat.le_refl _) (by rw[List.take_length];exact hI) (fun i x h1 h2=>by omega) (by simp),List.take_length,List.drop_length,List.append_nil]
     rw[this];rfl) fuel 0 ⟨0,rfl,by omega,by simp⟩ (by unfold fuel;omega)
  rw[h1,h2]
theorem zG {f:Af} (F:FOK f) (W:rV f) {run:Int} (k:Nat) {x:Au} (hk:f.Status[k]? =some x) (hx:x.Run=run) {e:Int} (he:C6 f (Ru f.Status++[run]) run=some e) :
    Fi f run (Ru f.Status) k=some (if e=0 then(dG f (Wt run f.Time f.Status),0)else (z54,e)):=by
  have M:=F.map
  have hS:=F.statL
  have hn:=eG f.Status
  have:=M.lenN
  have:=M.lenL
  have:=M.lenR
  have:=M.lenB
  have:=F.liftsL
  have:=F.packsL
  have:=F.listsL
  have:=F.misL
  have:=W.closures
  have:=W.jk
  have:=W.surfaces
  have:=W.slides
  have:=W.bulletin
  have:=W.winches
  have:=W.groomers
  have q1:=Gt (ρ:=Af×Int) (step:=Pr) (c:=De) (l:=f.Patrol.Ci) (by omega) (fun k x s=>rfl) (fun x hx=>Acx (F.lists x hx))
  have q2:=Gt (ρ:=Af×Int) (step:=Pq) (c:=Dd) (l:=f.Slides) (by omega) (fun k x s=>rfl) (fun x hx=>Acw (F.slides.at hx).2)
  have q3:=Gt (ρ:=Af×Int) (step:=Pp) (c:=Dc) (l:=f.Bulletin) (by omega) (fun k x s=>rfl) (fun x hx=>Acv (F.bul x hx))
  have q4:=Gt (ρ:=Af×Int) (step:=Po) (c:=Db) (l:=f.Winches) (by omega) (fun k x s=>rfl) (fun x hx=>Acu (F.ropes.rope x hx).runs.len)
  unfold Fi
  rw[Bs (by omega),he,Aos]
  by_cases e0:e=0
  rotate_left
  ·rw[Aoo (p:=e≠0) e0,if_neg e0];rfl
  rw[Aop (p:=e≠0) (fun h=>h e0),cond_false,if_pos e0]
  unfold Cb Cc Ch Bu B1 B6 Bv Bw Bx Bz Cl
  rw[Bs (n:=f.Map.Nodes.length) (by omega),Aos,Bs (n:=f.Map.Lifts.length) (by omega),Aos,Bs (n:=f.Map.Runs.length) (by omega),Aos,L7 (by omega),Aos,
   Bs (n:=f.Lifts.length) (by omega),Aos,Bs (n:=f.Closures.length) (by omega),Aos,Bs (n:=f.Patrol.Ci.length) (by omega),q1,Aos]
  show(chk f.Patrol.Hazards.length (some f.Patrol.Hazards)).bind _=_
  rw[Bs (n:=f.Patrol.Hazards.length) (by omega),Aos,Bs (n:=f.Surfaces.length) (by omega),Aos,Bs (n:=f.Packs.length) (by omega),Aos,Bs (n:=f.Slides.length) (by omega),q2,Aos]
  show chk f.Bulletin.length _=_
  rw[Bs (n:=f.Bulletin.length) (by omega),q3,Aos]
  show(chk f.Missions.length (some f.Missions)).bind _=_
  rw[Bs (n:=f.Missions.length) (by omega),Aos,Bs (n:=f.Winches.length) (by omega),q4,Aos]
  show(chk f.Groomers.length (some f.Groomers)).bind _=_
  rw[Bs (n:=f.Groomers.length) (by omega),Aos,Bs (n:=f.Status.length) (by omega),Aos,Aoo (Int.natCast_nonneg k),cond_true,Cm hk,Aos]
  have ah:=(Aoz.1 hk).1
  have:f.Status.set k ⟨run,true,f.Time⟩=Wt run f.Time f.Status:=by
    rw[lD (p:=k) (q:=k+1) (by omega) (fun z hz=>by
       obtain⟨i,hi,hz⟩:=mI hz
       have:=aA F.statR hz hk hi;omega) (fun i z h1 h2 hz=>by
       have:i=k:=by omega
       subst this;rw[hk]at hz;obtain rfl:=Aoy hz;exact hx) (fun z hz=>by
       obtain⟨i,hi,hz⟩:=tM hz
       have:=aA F.statR hk hz (by omega);omega)]
    rw[List.set_eq_take_append_cons_drop,if_pos ah,List.append_assoc];rfl
  rw[this];rfl
theorem zH {f:Af} (F:FOK f) (W:rV f) (qi:f.Status.length≤40) (run:Int):Eu f run=some (jK f run):=by
  have M:=F.map
  have hS:=F.statL
  have hn:=eG f.Status
  unfold Eu
  rw[St,Aos]
  cases h:(He f.Map run).2 with
  | false=>rw[mA h];rfl
  | true=>
    rw[Bool.not_true,cond_false,gZ (by omega),Aos,contains_eq,Aos]
    by_cases ij:run∈Ru f.Status
    ·rw[Aoo ij,jJ h ij];rfl
    ·rw[Aop ij,cond_false]
     obtain⟨e,e1,_,_⟩:=qL F (Ru f.Status++[run]) run
     rw[pE h ij e1]
     rcases E5 (step:=J2 f run (Ru f.Status)) (l:=f.Status) (s:=()) (fun k _=>∀ x∈f.Status.take k,x.Run≠run) (fun r=>r=if e=0 then(dG f (Wt run f.Time f.Status),0)else (z54,e)) (by simp) (fun k x s hk hI=>by
         unfold J2
         by_cases hx:x.Run=run
         ·rw[Aoo hx,cond_true,Aop (p:=((k:Nat):Int)<0) (by omega),cond_false,zG F W k hk hx e1]
          exact .inr ⟨_,rfl,rfl⟩
         ·rw[Aop hx]
          refine .inl ⟨_,rfl,fun z hz=>?_⟩
          rw[Bi hk,Aox,List.mem_singleton]at hz
          rcases hz with hz | rfl
          ·exact hI z hz
          ·exact hx)with ⟨s',g1,g2⟩ | ⟨r,g1,rfl⟩
     rotate_left
     ·rw[g1];rfl
     rw[List.take_length]at g2
     rw[g1,Aos,Out.on,Aop (p:=(64:Int)≤((f.Status.length:Nat):Int)) (by omega),cond_false,Bs (by omega),e1,Aos]
     by_cases e0:e=0
     rotate_left
     ·rw[Aoo (p:=e≠0) e0,if_neg e0];rfl
     rw[Aop (p:=e≠0) (fun h=>h e0),cond_false,if_pos e0]
     have:=M.lenN
     have:=M.lenL
     have:=M.lenR
     have:=M.lenB
     have:=F.liftsL
     have:=F.packsL
     have:=F.listsL
     have:=F.misL
     have:=W.closures
     have:=W.jk
     have:=W.surfaces
     have:=W.slides
     have:=W.bulletin
     have:=W.winches
     have:=W.groomers
     have q1:=Gt (ρ:=Af×Int) (step:=Pm) (c:=De) (l:=f.Patrol.Ci) (by omega) (fun k x s=>rfl) (fun x hx=>Acx (F.lists x hx))
     have q2:=Gt (ρ:=Af×Int) (step:=Pl) (c:=Dd) (l:=f.Slides) (by omega) (fun k x s=>rfl) (fun x hx=>Acw (F.slides.at hx).2)
     have q3:=Gt (ρ:=Af×Int) (step:=Nu) (c:=Dc) (l:=f.Bulletin) (by omega) (fun k x s=>rfl) (fun x hx=>Acv (F.bul x hx))
     have q4:=Gt (ρ:=Af×Int) (step:=Nt) (c:=Db) (l:=f.Winches) (by omega) (fun k x s=>rfl) (fun x hx=>Acu (F.ropes.rope x hx).runs.len)
     unfold Cb Cc Ch Bu B1 B6 Bv Bw Bx Bz Cl
     rw[Bs (n:=f.Map.Nodes.length) (by omega),Aos,Bs (n:=f.Map.Lifts.length) (by omega),Aos,Bs (n:=f.Map.Runs.length) (by omega),Aos,L7 (by omega),Aos,
      Bs (n:=f.Lifts.length) (by omega),Aos,Bs (n:=f.Closures.length) (by omega),Aos,Bs (n:=f.Patrol.Ci.length) (by omega),q1,Aos]
     show(chk f.Patrol.Hazards.length (some f.Patrol.Hazards)).bind _=_
     rw[Bs (n:=f.Patrol.Hazards.length) (by omega),Aos,Bs (n:=f.Surfaces.length) (by omega),Aos,Bs (n:=f.Packs.length) (by omega),Aos,Bs (n:=f.Slides.length) (by omega),q2,Aos]
     show chk f.Bulletin.length _=_
     rw[Bs (n:=f.Bulletin.length) (by omega),q3,Aos]
     show(chk f.Missions.length (some f.Missions)).bind _=_
     rw[Bs (n:=f.Missions.length) (by omega),Aos,Bs (n:=f.Winches.length) (by omega),q4,Aos]
     show(chk f.Groomers.length (some f.Groomers)).bind _=_
     rw[Bs (n:=f.Groomers.length) (by omega),Aos,Bs (n:=f.Status.length) (by omega),Aos]
     rw[wH (f:=f) (run:=run) (by omega) F.statR g2 rfl]
     rfl
theorem Um (f:Af) (run:Int) (h:Ul f) (hr:I64 run):G0 f run=some true:=by
  unfold G0
  refine D2 Aej (bff rfl ?_)
  rcases nW h []with hb | ⟨hb,hl,W,F,qi⟩
  ·exact D2 hb rfl
  refine D2 hb (bff rfl ?_)
  refine D2 (zH F W (by omega) run) (D2 (vW F (by omega) run) ?_)
  refine bff (by simp) (D2 (nB _) (bff rfl ?_))
  refine D2 (oQ F W) (D2 (lR F) (D2 (eJ _ _) (bft (by simp) ?_)))
  exact D2 (nB _) rfl
end Go.Proofs.YtjopghiagoidgaaGreat
