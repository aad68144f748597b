/- Our own texts: a layer of abstract values over the model, the walks of the functions, the plain laws; joined and shortened by a small program of our own (wip/dce2.py, wip/pack.py). -/
import Derived.Test.YtjopghiagoidgaaGreatA5
import Derived.Calls
import Derived.Tactics2
import Derived.Below
import Derived.Deep.LoopGhost
import Derived.KernelRfl
import Derived.Laws.Shifts
import Derived.Laws.CopyRow
import Derived.Laws.AppendOwn
import Derived.Laws.MakeOwn
import Derived.Laws.StructEq
import Derived.Maps.RangeRun
import Derived.Lib.SliceRun
import Derived.TacticsIn
import Derived.OrdersIn
import Derived.Sort.LoopGhostIn
import Derived.RangeFuncRecord
import Derived.Orders
import Derived.ProofKit
import Derived.OpenShut
import Derived.ShutString
import Derived.ChangeOld
import Derived.Carry
import Derived.WideShapes
import Derived.ChangeArms
import Derived.ChangeShapes
import Derived.Handed
import Derived.JoinedOf
import Derived.Sort.Grow
import Derived.Lib.SlicesCompact
import Derived.Lib.SlKeysI
import Derived.Maps.Own
import Derived.WideKeyRuns
import Derived.Test.YtjopghiagoidgaaGreatChecked
import Derived.Test.YtjopghiagoidgaaGreatProg
import Derived.Shelf.SortM.Plain
import Derived.Shelf.SortM.SortNone
import Derived.Shelf.SlIterI.Nil
import Derived.Shelf.Slices.CompactI
namespace Go.Proofs.YtjopghiagoidgaaGreat
open Go Go.Ab
set_option linter.unusedSimpArgs false
set_option linter.unusedVariables false
def kH (s:Gx) (t:Int):Bool:=decide (s.From≤t∧t<s.To)
theorem tL (s:Gx) (t:Int):Mb s t=some (kH s t):=by unfold Mb kH;exact bt
theorem eA (b:Bp) (t:Int):Lx b t=some (kH b.Span t):=by unfold Lx kH;exact bt
theorem zH (l:List Bp) (t:Int):Tot (Gy l t):=by
  unfold Gy
  refine Tot.bind (Tot.Am fun i x s _=>?_) fun o _=>Tot.on fun _=>Tot.some _
  unfold Fs
  rw[eA,Option.bind_some]
  exact Tot.bif (fun _=>Tot.some _) fun _=>Tot.some _
theorem Aar (l:List Bp) (t:Int):H0 l t=Gy l t:=by
  have:Fh t=Fs t:=by
    funext k x sv
    unfold Fh Fs
    rw[tL,eA,Option.bind_some,Option.bind_some]
    cases kH x.Span t with
    | false=>rfl
    | true=>
      rw[cond_true,cond_true]
      by_cases h:sv<x.Version
      ·rw[Ajq h,if_pos h];rfl
      ·rw[Ajr h,if_neg h];rfl
  unfold H0 Gy;rw[this]
theorem xG (l:List Int) (n:Int):Yd l n=some (decide (n∈l)):=Xe fun k x hx=>rfl
theorem lR (l:List Bp) (zone low high t:Int):Ag (Hz l zone low high t) (Qo l zone low high t):=by
  obtain⟨c,hc⟩:=zH l t
  unfold Hz Qo
  rw[Aar,hc,Option.bind_some]
  refine Ag.bind (Ag.Am fun i x s hx=>?_) fun o _ _=>Ag.on fun _ _=>Ag.some _
  unfold J8 Ou
  simp only[tL,eA,hc,xG,contains_eq,Option.bind_some]
  generalize decide (x.Version=c)=b1
  generalize kH x.Span t=b2
  generalize decide (zone∈x.Zones)=b3
  generalize decide (x.Low<high)=b4
  generalize decide (low<x.High)=b5
  by_cases h:s<x.Level
  ·rw[Ajq h,if_pos h]
   cases b1<;>cases b2<;>cases b3<;>cases b4<;>cases b5<;>exact ⟨_,rfl,rfl⟩
  ·rw[Ajr h,if_neg h]
   cases b1<;>cases b2<;>cases b3<;>cases b4<;>cases b5<;>exact ⟨_,rfl,rfl⟩
def Li (m:Bd) (n:Int):Int:=(Cw m n).1.Alt
theorem Aaz (m:Bd) (n:Int):Jo m n=some (Li m n):=by unfold Jo Li;rw[G0];rfl
def uQ (m:Bd) (x:Cf) (s:Int):Int:=if Li m x.To<s then Li m x.To else s
def iR (m:Bd) (x:Cf) (s:Int):Int:=if s<Li m x.From then Li m x.From else s
def FF (m:Bd) (l:List Cf):Int×Int:=l.foldl (fun s x=>(uQ m x s.1,iR m x s.2)) (9999, -1)
theorem tS (m:Bd) (l:List Cf) (x:Cf):FF m (l++[x])=(uQ m x (FF m l).1,iR m x (FF m l).2):=by unfold FF;rw[List.foldl_append];rfl
theorem nG {m:Bd} (M:Lm m) {x:Cf} (hx:x∈m.Runs):(0≤Li m x.To∧Li m x.To≤5000)∧0≤Li m x.From∧Li m x.From≤5000:=by
  have h:=(M.runs x hx).2
  have h1:=Zz h.1
  have h2:=Zz h.2.1
  exact⟨(M.nodes _ h1.1).2,(M.nodes _ h2.1).2⟩
theorem kK (f:Ak) (k:Nat):Am (Gc f k) 0 f.Map.Runs (9999, -1)=some (.next (FF f.Map (f.Map.Runs.filter fun x=>decide (x.Zone=(k:Int)+1)))):=by
  obtain⟨s',h1,h2⟩:=Dv (ρ:=Out (List Int) (List Int)) (step:=Gc f k) (l:=f.Map.Runs) (s:=(9999, -1)) (fun j s=>s=FF f.Map ((f.Map.Runs.take j).filter fun x=>decide (x.Zone=(k:Int)+1))) rfl (fun j x s hj hI=>by
    unfold Gc
    simp only[Aaz,Option.bind_some]
    rw[B3 hj,List.filter_append]
    by_cases hz:x.Zone=(k:Int)+1
    ·rw[Ajr (p:=x.Zone≠(k:Int)+1) (fun h=>h hz),cond_false,List.filter_cons_of_pos (by simpa using hz),List.filter_nil,tS,← hI]
     unfold uQ iR
     by_cases h1:Li f.Map x.To<s.1
     ·rw[Ajq h1,cond_true,if_pos h1]
      by_cases h2:s.2<Li f.Map x.From
      ·rw[Ajq h2,if_pos h2];exact⟨_,rfl,rfl⟩
      ·rw[Ajr h2,if_neg h2];exact⟨_,rfl,rfl⟩
     ·rw[Ajr h1,cond_false,if_neg h1]
      by_cases h2:s.2<Li f.Map x.From
      ·rw[Ajq h2,if_pos h2];exact⟨_,rfl,rfl⟩
      ·rw[Ajr h2,if_neg h2];exact⟨_,rfl,rfl⟩
    ·rw[Ajq (p:=x.Zone≠(k:Int)+1) hz,List.filter_cons_of_neg (by simpa using hz),List.filter_nil,List.append_nil]
     exact⟨_,rfl,hI⟩)
  rw[h1,h2,List.take_length]
theorem nH {m:Bd} (M:Lm m) {x:Cf} (hx:x∈m.Runs):Kb m x.ID=(x,true):=by
  have h:(Kb m x.ID).2=true:=u7 hx
  have h1:=cH h
  have h2:=qU M.runsR h1.1 hx h1.2
  exact Prod.ext h2 h
theorem v8 {m:Bd} (M:Lm m) (z:Int):Lp m z=some ((m.Runs.filter fun x=>decide (x.Zone=z)).map Cf.ID):=by
  unfold Lp
  rw[C4 (step:=M3 z) (p:=fun x=>decide (x.Zone=z)) (g:=Cf.ID) (by have:=M.lenR;omega) (fun k x s _=>rfl)]
  rfl
theorem zR {m:Bd} (M:Lm m) (z:Int):Fg m z=some (bif (m.Runs.filter fun x=>decide (x.Zone=z)).isEmpty then(0,0,false)else ((FF m (m.Runs.filter fun x=>decide (x.Zone=z))).1,(FF m (m.Runs.filter fun x=>decide (x.Zone=z))).2,true)):=by
  unfold Fg
  rw[v8 M,Option.bind_some]
  generalize hR:(m.Runs.filter fun x=>decide (x.Zone=z))=R
  have hsub:∀ x∈R,x∈m.Runs:=fun x hx=>by rw[← hR]at hx;exact(List.mem_filter.1 hx).1
  obtain⟨s',h1,h2⟩:=Dv (ρ:=Int×Int×Bool) (step:=Ef m) (l:=R.map Cf.ID) (s:=((0:Int),(0:Int),false)) (fun j s=>s=bif (R.take j).isEmpty then(0,0,false)else ((FF m (R.take j)).1,(FF m (R.take j)).2,true)) rfl (fun j id s hj hI=>by
    rw[List.getElem?_map]at hj
    obtain⟨x,hx,rfl⟩:=Option.map_eq_some_iff.1 hj
    have hm:=hsub x (Ajt hx)
    have ha:=nG M hm
    unfold Ef
    simp only[S3,wA,Option.bind_some,nH M hm]
    rw[B3 hx,tS]
    have hne:(R.take j++[x]).isEmpty=false:=by simp
    rw[hne,cond_false]
    change ∃ s',(bif (!s.2.2)then some (Out.next ((if Li m x.To<Li m x.To then Li m x.To else Li m x.To),(if Li m x.From<Li m x.From then Li m x.From else Li m x.From),true))else some (Out.next ((if Li m x.To<s.1 then Li m x.To else s.1),(if s.2.1<Li m x.From then Li m x.From else s.2.1),s.2.2)))=_∧_
    cases hE:(R.take j).isEmpty with
    | true=>
      rw[hE]at hI
      have e0:R.take j=[]:=by simpa using hE
      subst hI
      rw[e0]
      refine⟨_,rfl,?_⟩
      have e1:uQ m x 9999=Li m x.To:=if_pos (by omega)
      have e2:iR m x (-1)=Li m x.From:=if_pos (by omega)
      show((if Li m x.To<Li m x.To then Li m x.To else Li m x.To),(if Li m x.From<Li m x.From then Li m x.From else Li m x.From),true)=(uQ m x 9999,iR m x (-1),true)
      rw[e1,e2];simp only[ite_self]
    | false=>
      rw[hE]at hI
      subst hI
      exact⟨_,rfl,rfl⟩)
  rw[h1]
  rw[List.length_map,List.take_length]at h2
  rw[h2]
  cases R.isEmpty<;>rfl
theorem zV {m:Bd} (M:Lm m) {R:List Cf} (hR:∀ x∈R,x∈m.Runs):R≠[]→0≤(FF m R).2:=by
  have key:∀ (l:List Cf) (s:Int×Int),(∀ x∈l,x∈m.Runs)→(l≠[]∨0≤s.2)→0≤(l.foldl (fun s x=>(uQ m x s.1,iR m x s.2)) s).2:=by
    intro l
    induction l with
    | nil=>intro s _ h;rcases h with h | h;exact absurd rfl h;exact h
    | cons x l ih=>
      intro s hl h
      rw[List.foldl_cons]
      refine ih _ (fun y hy=>hl y (List.mem_cons_of_mem _ hy)) (.inr ?_)
      have:=(nG M (hl x (by simp))).2
      dsimp only;unfold iR
      split<;>omega
  intro h
  exact key R _ hR (.inl h)
theorem kY {f:Ak} (M:Lm f.Map):∃ L,D8 f=some L∧Gi f=some L∧L.length=32:=by
  have hstep:∀ k s,Er f k () s=Es f k () s:=by
    intro k s
    unfold Er Es
    rw[zR M,kK,Option.bind_some,Option.bind_some]
    show(bif (bif _ then _ else _:Int×Int×Bool).2.2 then _ else _)=(bif _ then _ else _)
    generalize hR:(f.Map.Runs.filter fun x=>decide (x.Zone=(k:Int)+1))=R
    have hsub:∀ x∈R,x∈f.Map.Runs:=fun x hx=>by rw[← hR]at hx;exact(List.mem_filter.1 hx).1
    cases R with
    | nil=>rfl
    | cons x R=>
      have hh:=zV M hsub (by simp)
      rw[Ajq hh]
      show(Hz _ _ _ _ _).bind _=_
      rw[(lR f.Bulletin _ _ _ _).eq]
      rfl
  obtain⟨s',h1,h2⟩:=bH (ρ:=List Int) (n:=32) (step:=Es f) (s:=[]) (by omega) (fun k s=>s.length=k) rfl (fun k s hk hI=>by
    unfold Es
    rw[kK,Option.bind_some]
    show ∃ s',(bif _ then _ else _)=_∧_
    cases decide ((0:Int)≤(FF f.Map (f.Map.Runs.filter fun x=>decide (x.Zone=(k:Int)+1))).2)with
    | true=>
      obtain⟨n,_,hn⟩:=lR f.Bulletin ((k:Int)+1) (FF f.Map (f.Map.Runs.filter fun x=>decide (x.Zone=(k:Int)+1))).1 (FF f.Map (f.Map.Runs.filter fun x=>decide (x.Zone=(k:Int)+1))).2 f.Time
      rw[cond_true,hn,Option.bind_some,Cj (by omega)]
      exact⟨_,rfl,by simp[hI]⟩
    | false=>
      rw[cond_false,Cj (by omega)]
      exact⟨_,rfl,by simp[hI]⟩)
  have he:Kc (Er f) 32 []=Kc (Es f) 32 []:=by
    unfold Kc
    rw[if_pos (by decide),if_pos (by decide)]
    exact S50.L9 fun i x s _=>hstep i s
  refine⟨s',?_,?_,h2⟩
  ·unfold D8
   rw[zJ (by omega),he,h1];rfl
  ·unfold Gi
   rw[h1];rfl
theorem yR {σ:Type} {o:Option (Out σ Int)} {rest:σ→Option Int} (h:Dh (·≠0) o) (e:(o.bind fun x=>x.on rest)=some 0):∃ s,o=some (.next s)∧rest s=some 0:=by
  obtain⟨x,h1,h2⟩:=Ah e
  cases x with
  | ret r=>obtain rfl:=Option.some.inj h2;exact absurd rfl (h 0 h1)
  | next s=>exact ⟨s,h1,h2⟩
theorem N4 {α:Type} {step:Nat→α→Unit→Option (Out Unit Int)} {l:List α} {rest:Unit→Option Int} (hr:∀ i x s,Dh (·≠0) (step i x s)) (e:((Am step 0 l ()).bind fun o=>o.on rest)=some 0):(∀ i x,l[i]? =some x→step i x ()=some (.next ()))∧rest ()=some 0:=by
  obtain⟨s,h1,h2⟩:=yR (Dh.Am hr) e
  refine⟨fun i x hx=>?_,h2⟩
  have:=Yl.1 h1 i x hx
  rwa [Nat.zero_add]at this
theorem bz {c:Bool} {e:Int} {b:Option Int} (h:(bif c then some e else b)=some 0) (he:e≠0):c=false∧b=some 0:=by
  cases c with
  | false=>exact ⟨rfl,h⟩
  | true=>exact absurd (Option.some.inj h) he
theorem bn {c:Bool} {e:Int} {b:Option (Out Unit Int)} (h:(bif c then some (.ret e)else b)=some (.next ())):c=false∧b=some (.next ()):=by
  cases c with
  | false=>exact ⟨rfl,h⟩
  | true=>cases h
theorem bnot {p:Prop} [Decidable p] (h:(!decide p)=false):p:=by simpa using h
theorem Aas {l:List Bn} (e:Ig l=some 0):∀ c∈l,1≤c.By∧c.By≤6:=by
  unfold Ig at e
  obtain⟨_,e⟩:=bz e (by decide)
  obtain⟨h,_⟩:=N4 (fun i x s=>by
    unfold Hl
    repeat' first | exact Dh.ret (by decide) | exact Dh.next _ | refine Dh.okB ?_ | refine Dh.bif (fun _=>?_) (fun _=>?_) | refine Dh.bind fun _ _=>?_) e
  intro c hc
  obtain⟨i,hi⟩:=List.mem_iff_getElem?.1 hc
  have:=h i c hi
  unfold Hl at this
  rw[rJ,Option.bind_some]at this
  have:=bnot (bn this).1
  omega
theorem w5 {p:Cb} (e:Ie p=some 0):p.Bw.length≤64∧p.Hazards.length≤200∧∀ x∈p.Bw,x.List_.Items.length≤64∧x.List_.Signs.length≤200:=by
  unfold Ie at e
  obtain⟨h1,e⟩:=bz e (by decide)
  obtain⟨h2,e⟩:=bz e (by decide)
  have h1:=Ajo h1
  have h2:=Ajo h2
  obtain⟨h,_⟩:=N4 (fun i x s=>by
    unfold Hk
    repeat' first | exact Dh.ret (by decide) | exact Dh.ret (Ajp ‹_›) | exact Dh.next _ | refine Dh.bif (fun _=>?_) (fun _=>?_) | refine Dh.bind fun _ _=>?_) e
  refine⟨by omega,by omega,fun x hx=>?_⟩
  obtain⟨i,hi⟩:=List.mem_iff_getElem?.1 hx
  have:=h i x hi
  unfold Hk at this
  obtain⟨_,this⟩:=bn this
  obtain⟨_,this⟩:=bn this
  have fin:∀ {o:Option (Out Unit Int)},o=some (.next ())→o=((Gj x.List_).bind fun y10=>bif decide (y10≠(0:Int))then some (Out.ret y10)else some (Out.next ()))→x.List_.Items.length≤64∧x.List_.Signs.length≤200:=by
    intro o ho h
    rw[ho]at h
    obtain⟨y,hy,h⟩:=Ah h.symm
    have hy0:=(bn h).1
    have:y=0:=by simpa using hy0
    subst this
    exact oP hy
  cases hc:decide ((0:Int)<((i:Nat):Int))with
  | true=>
    rw[hc]at this
    obtain⟨y,_,this⟩:=Ah this
    exact fin (bn this).2 rfl
  | false=>
    rw[hc]at this
    exact fin this rfl
theorem Aai {l:List Bi} (e:Ih l=some 0):l.length≤64∧∀ m∈l,1≤m.Slide∧m.Slide≤9999:=by
  unfold Ih at e
  obtain⟨h1,e⟩:=bz e (by decide)
  have h1:=Ajo h1
  obtain⟨h,_⟩:=N4 (fun i x s=>by
    unfold Hm
    repeat' first | exact Dh.ret (by decide) | exact Dh.next _ | refine Dh.okB ?_ | refine Dh.bif (fun _=>?_) (fun _=>?_) | refine Dh.bind fun _ _=>?_) e
  refine⟨by omega,fun c hc=>?_⟩
  obtain⟨i,hi⟩:=List.mem_iff_getElem?.1 hc
  have:=h i c hi
  unfold Hm at this
  simp only[mN,Option.bind_some]at this
  exact bnot (bn (bn this).2).1
theorem m8 {l:List Int} (hl:l.length≤9223372036854775807) (e:Kx l=some true):l.length≤32:=by
  unfold Kx at e
  obtain⟨o,h1,h2⟩:=Ah e
  cases o with
  | ret r=>
    have:r=false:=Dh.Am (P:=fun r=>r=false) (fun i x s=>by
      unfold Hp
      repeat' first | exact Dh.ret rfl | exact Dh.next _ | refine Dh.bif (fun _=>?_) (fun _=>?_) | refine Dh.bind fun _ _=>?_) r h1
    subst this;cases h2
  | next s=>
    have hs:=Yl.1 h1
    have key:∀ (i:Nat) (x:Int),l[i]? =some x→(1≤x∧x≤32)∧∀ y,0<i→l[i - 1]? =some y→y<x:=by
      intro i x hx
      have hlt:=(List.getElem?_eq_some_iff.1 hx).1
      have h:=hs i x hx
      rw[Nat.zero_add]at h
      unfold Hp at h
      have bf':∀ {c:Bool} {b:Option (Out Unit Bool)},(bif c then some (.ret false)else b)=some (.next ())→c=false∧b=some (.next ()):=fun {c b} h=>by
        cases c with
        | false=>exact ⟨rfl,h⟩
        | true=>cases h
      obtain⟨c1,h⟩:=bf' h
      obtain⟨c2,h⟩:=bf' h
      have c1:=Ajo c1
      have c2:=Ajo c2
      refine⟨by omega,fun y h0 hy=>?_⟩
      rw[Ajq (by omega),cond_true,Rx h0 (by omega),Ay hy,Option.bind_some]at h
      have:=Ajo (bf' h).1
      omega
    have hinc:Inc l:=W46.rN fun k x y hx hy=>(key (k+1) x hx).2 y (by omega) (by simpa using hy)
    by_cases e0:l.length=0
    ·omega
    ·have hx:l[l.length - 1]? =some (l[l.length - 1]'(by omega)):=Ajs (by omega)
     have g1:=W46.iO hinc (fun x hx=>by obtain⟨i,hi⟩:=List.mem_iff_getElem?.1 hx;exact(key i x hi).1.1) _ _ hx
     have g2:=(key _ _ hx).1.2
     omega
theorem Aat {l:List Bp} (hl:∀ b∈l,b.Zones.length≤9223372036854775807) (e:Ii l=some 0):∀ b∈l,b.Zones.length≤32:=by
  unfold Ii at e
  obtain⟨_,e⟩:=bz e (by decide)
  obtain⟨h,_⟩:=N4 (fun i x s=>by
    unfold E0
    repeat' first | exact Dh.ret (by decide) | exact Dh.next _ | refine Dh.bif (fun _=>?_) (fun _=>?_) | refine Dh.bind fun _ _=>?_) e
  intro b hb
  obtain⟨i,hi⟩:=List.mem_iff_getElem?.1 hb
  have:=h i b hi
  unfold E0 at this
  obtain⟨y,h1,h2⟩:=Ah (bn (bn (bn (bn (bn (bn (bn (bn (bn (bn this).2).2).2).2).2).2).2).2).2).2
  have hy:=(bn h2).1
  have:y=true:=by simpa using hy
  subst this
  exact m8 (hl b hb) h1
theorem wR {f:Ak} (e:Km f=some 0):Ij f.Map=some 0∧Ig f.Closures=some 0∧Ie f.Patrol=some 0∧Qp f.Surfaces=some 0∧Nz f.Slides=some 0∧Ii f.Bulletin=some 0∧Ih f.Missions=some 0∧N1 f.Winches=some 0∧N2 f.Groomers=some 0:=by
  unfold Km at e
  obtain⟨y1,h1,e⟩:=Ah e
  obtain⟨y2,h2,e⟩:=Ah e
  obtain⟨y3,h3,e⟩:=Ah e
  obtain⟨y4,h4,e⟩:=Ah e
  obtain⟨y5,h5,e⟩:=Ah e
  obtain⟨y6,h6,e⟩:=Ah e
  obtain⟨y7,h7,e⟩:=Ah e
  obtain⟨y8,h8,e⟩:=Ah e
  obtain⟨y9,h9,e⟩:=Ah e
  unfold Kc at e
  rw[if_pos (by decide)]at e
  obtain⟨h,_⟩:=N4 (fun i x s=>by
    unfold Fy
    refine Dh.bind fun y hy=>?_
    exact Dh.bif (fun hc=>Dh.ret (Ajp hc)) fun _=>Dh.next _) e
  have key:∀ (k:Nat) y,k<9→[y1,y2,y3,y4,y5,y6,y7,y8,y9][k]? =some y→y=0:=by
    intro k y hk hy
    have:=h k () (by rw[List.getElem?_replicate,if_pos hk])
    unfold Fy at this
    rw[Ay hy,Option.bind_some]at this
    simpa using(bn this).1
  have k1:=key 0 y1 (by decide) rfl
  have k2:=key 1 y2 (by decide) rfl
  have k3:=key 2 y3 (by decide) rfl
  have k4:=key 3 y4 (by decide) rfl
  have k5:=key 4 y5 (by decide) rfl
  have k6:=key 5 y6 (by decide) rfl
  have k7:=key 6 y7 (by decide) rfl
  have k8:=key 7 y8 (by decide) rfl
  have k9:=key 8 y9 (by decide) rfl
  subst k1 k2 k3 k4 k5 k6 k7 k8 k9
  exact⟨h1,h2,h3,h4,h5,h6,h7,h8,h9⟩
structure FOK (f:Ak):Prop where
  map:Lm f.Map
  clo:∀ c∈f.Closures,1≤c.By∧c.By≤6
  lists:∀ x∈f.Patrol.Bw,x.List_.Items.length≤64∧x.List_.Signs.length≤200
  listsL:f.Patrol.Bw.length≤64
  slides:S50.bZ f.Slides
  misL:f.Missions.length≤64
  mis:∀ m∈f.Missions,1≤m.Slide∧m.Slide≤9999
  ropes:W46.gN f.Winches
  bul:∀ b∈f.Bulletin,b.Zones.length≤32
  packs:∀ p∈f.Packs,(0≤p.Pack.Natural∧p.Pack.Natural≤20000)∧(0≤p.Pack.Machine∧p.Pack.Machine≤20000)∧50≤p.Pack.Density∧p.Pack.Density≤900
  liftsL:f.Lifts.length≤32
  packsL:f.Packs.length≤64
  statL:f.Status.length≤64
  stat:∀ x∈f.Status,(Kb f.Map x.Run).2=true
  statR:Ll Bo.Run f.Status
theorem xO {f:Ak} (hi:vU f) (hs:f.Slides.length≤9223372036854775807) (e:Ic f=some 0):FOK f:=by
  unfold Ic at e
  obtain⟨y,hp,e⟩:=Ah e
  have hy:y=0:=by
    by_cases h:y=0
    ·exact h
    ·rw[Ajq (p:=y≠0) h]at e
     exact Option.some.inj e
  subst hy
  rw[show decide ((0:Int)≠0)=false from rfl,cond_false]at e
  obtain⟨p1,p2,p3,p4,p5,p6,p7,p8,p9⟩:=wR hp
  obtain⟨l1,e⟩:=bz e (by decide)
  obtain⟨l2,e⟩:=bz e (by decide)
  obtain⟨l3,e⟩:=bz e (by decide)
  have l1:=Ajo l1
  have l2:=Ajo l2
  have l3:=Ajo l3
  obtain⟨_,e⟩:=N4 (fun i x s=>by
    unfold Oh
    repeat' first | exact Dh.ret (by decide) | exact Dh.next _ | refine Dh.bif (fun _=>?_) (fun _=>?_) | refine Dh.bind fun _ _=>?_) e
  unfold Ko at e
  obtain⟨hpk,e⟩:=N4 (fun i x s=>by
    unfold Kp
    repeat' first | exact Dh.ret (by decide) | exact Dh.next _ | refine Dh.bif (fun _=>?_) (fun _=>?_) | refine Dh.bind fun _ _=>?_) e
  unfold Kn at e
  obtain⟨hst,_⟩:=N4 (fun i x s=>by
    unfold Kq
    repeat' first | exact Dh.ret (by decide) | exact Dh.next _ | refine Dh.bif (fun _=>?_) (fun _=>?_) | refine Dh.bind fun _ _=>?_) e
  obtain⟨r10,a1,a2⟩:=qX f.Map
  rw[p1]at a1;obtain rfl:=Option.some.inj a1
  obtain⟨r50,b1,b2,b3⟩:=S50.Wu f.Slides ⟨hs,hi.zones⟩
  rw[p5]at b2;obtain rfl:=Option.some.inj b2
  obtain⟨r46,c1,c2,c3⟩:=W46.nK hi.runs
  rw[p8]at c1;obtain rfl:=Option.some.inj c1
  have hP:=w5 p3
  have hM:=Aai p7
  have stat:∀ (i:Nat) (x:Bo),f.Status[i]? =some x→(Kb f.Map x.Run).2=true∧∀ y,0<i→f.Status[i - 1]? =some y→y.Run<x.Run:=by
    intro i x hx
    have hlt:=(List.getElem?_eq_some_iff.1 hx).1
    have h:=hst i x hx
    unfold Kq at h
    rw[aN,Option.bind_some]at h
    by_cases h0:(0:Int)<((i:Nat):Int)
    ·rw[Ajq h0,cond_true]at h
     obtain⟨y,h1,h2⟩:=dR hlt (by omega) (by omega)
     rw[h1,Option.bind_some]at h
     obtain⟨g1,h⟩:=bn h
     have g2:=(bn h).1
     refine⟨by simpa using g2,fun z _ hz=>?_⟩
     rw[h2]at hz;obtain rfl:=Option.some.inj hz
     have:=Ajo g1;omega
    ·rw[Ajr h0,cond_false]at h
     have g2:=(bn h).1
     exact⟨by simpa using g2,fun z h _=>by omega⟩
  refine⟨a2.1 rfl,Aas p2,hP.2.2,hP.1,b3.1 rfl,hM.1,hM.2,c3.1 rfl,Aat hi.bzones p6,fun p hp=>?_,by omega,by omega,by omega,fun x hx=>?_,?_⟩
  ·obtain⟨i,hi⟩:=List.mem_iff_getElem?.1 hp
   have:=hpk i p hi
   unfold Kp at this
   obtain⟨_,this⟩:=bn this
   obtain⟨_,this⟩:=bn this
   rw[mE,Option.bind_some]at this
   exact bnot (bn this).1
  ·obtain⟨i,hi⟩:=List.mem_iff_getElem?.1 hx
   exact(stat i x hi).1
  ·exact fun k x y hx hy=>(stat (k+1) x hx).2 y (by omega) (by simpa using hy)
theorem tH {f:Ak} (h:Sy f):vU f:=by
  obtain⟨_,_,_,h4,_,_,h7,h8,_,h10,_⟩:=h
  exact⟨fun x hx=>⟨(h4.1.2 x hx).2.1.1,(h4.1.2 x hx).2.2.2.1⟩,fun x hx=>⟨(h7.2 x hx).2.1.1,(h7.2 x hx).2.2.1.1⟩,fun x hx=>(h8.2 x hx).2.2.2.2.1.1,fun x hx=>(h10.2 x hx).2.2.2.1⟩
def signed (l:Bq) (t x:Int) (s:Fk):Bool:=decide (s.Item=x)&&(decide (s.At≤t)&&decide (t<IntKind.i64.wrap (s.At+l.Every)))
def opens (l:Bq) (t:Int):List Int:=l.Items.filter fun x=>!l.Signs.any (signed l t x)
theorem w9 {l:Bq} (t:Int) (h:l.Items.length≤1000):L8 l t=some (opens l t):=by
  unfold L8
  rw[C4 (step:=Ji l t) (p:=fun x=>!l.Signs.any (signed l t x)) (g:=id) (by omega) (fun k x s hx=>by
   unfold Ji
   rw[Fo (step:=Jh l t s x) (signed l t x) (fun _=>Out.next s) (fun k' y _=>by
    unfold Jh signed
    rw[Ajq (Int.natCast_nonneg k')]
    cases decide (y.Item=x)<;>cases decide (y.At≤t)<;>cases decide (t<IntKind.i64.wrap (y.At+l.Every))<;>rfl)]
   cases hf:l.Signs.find? (signed l t x)with
   | none=>
     have:l.Signs.any (signed l t x)=false:=by rw[List.any_eq_false];exact List.find?_eq_none.1 hf
     rw[this];rfl
   | some y=>
     have:l.Signs.any (signed l t x)=true:=by rw[List.any_eq_true];exact⟨y,List.mem_of_find?_eq_some hf,List.find?_some hf⟩
     rw[this];rfl)]
  rw[List.map_id];rfl
theorem yM (l:Bq) (x t:Int):∃ r,Uw l x t=some r∧decide (r=t)= !l.Signs.any (signed l t x):=by
  unfold Uw
  obtain⟨s',h1,h2,h3⟩:=Dv (ρ:=Int) (step:=Ov l x t) (l:=l.Signs) (s:=t) (fun k s=>t≤s∧(s=t↔∀ y∈l.Signs.take k,signed l t x y=false)) ⟨Int.le_refl _,by simp⟩ (fun k y s hk ⟨i1,i2⟩=>by
    have fin:∀ s2,t≤s2→(s2=t↔s=t∧signed l t x y=false)→(t≤s2∧(s2=t↔∀ z∈l.Signs.take (k+1),signed l t x z=false)):=fun s2 a b=>by
      refine⟨a,?_⟩
      rw[b,i2,B3 hk]
      constructor
      ·rintro⟨h1,h2⟩ z hz
       rw[List.mem_append,List.mem_singleton]at hz
       rcases hz with hz | rfl
       ·exact h1 z hz
       ·exact h2
      ·intro h
       exact⟨fun z hz=>h z (List.mem_append_left _ hz),h y (by simp)⟩
    unfold Ov
    by_cases c1:y.Item=x
    ·by_cases c2:y.At≤t
     ·by_cases c3:t<IntKind.i64.wrap (y.At+l.Every)
      ·rw[Ajq c1,Ajq c2,Ajq c3]
       refine⟨_,rfl,fin _ (by split<;>omega) ?_⟩
       have:signed l t x y=true:=by unfold signed;rw[Ajq c1,Ajq c2,Ajq c3];rfl
       rw[this]
       constructor
       ·intro h;split at h<;>omega
       ·rintro⟨_,h⟩;cases h
      ·rw[Ajq c1,Ajq c2,Ajr c3]
       refine⟨_,rfl,fin _ i1 ?_⟩
       have:signed l t x y=false:=by unfold signed;rw[Ajq c1,Ajq c2,Ajr c3];rfl
       rw[this];simp
     ·rw[Ajq c1,Ajr c2]
      refine⟨_,rfl,fin _ i1 ?_⟩
      have:signed l t x y=false:=by unfold signed;rw[Ajr c2];simp
      rw[this];simp
    ·rw[Ajr c1]
     refine⟨_,rfl,fin _ i1 ?_⟩
     have:signed l t x y=false:=by unfold signed;rw[Ajr c1];rfl
     rw[this];simp)
  rw[List.take_length]at h3
  rw[h1]
  refine⟨s',rfl,?_⟩
  rw[Bool.eq_iff_iff,decide_eq_true_iff,h3,Bool.not_eq_true',List.any_eq_false]
  simp
theorem qS {l:Bq} (t:Int) (h:l.Items.length≤1000):Pu l t=some (opens l t):=by
  unfold Pu
  rw[C4 (step:=Mu l t) (p:=fun x=>!l.Signs.any (signed l t x)) (g:=id) (by omega) (fun k x s hx=>by
   unfold Mu
   obtain⟨r,h1,h2⟩:=yM l x t
   rw[h1,Option.bind_some,h2];rfl)]
  rw[List.map_id];rfl
theorem zG {l:Bq} (t:Int) (h:l.Items.length≤1000):Pc l t=Pv l t∧Tot (Pv l t):=by
  unfold Pc Pv
  rw[w9 t h,qS t h]
  exact⟨rfl,Tot.some _⟩
theorem wO {p:Cb} (run t:Int) (h:∀ x∈p.Bw,x.List_.Items.length≤64):Ag (L3 p run t) (Nw p run t):=by
  obtain⟨r,h1,h2⟩:=tC (step:=Nv run) (l:=p.Bw) (fun x=>decide (x.Run=run)) (fun k x _=>by unfold Nv;rfl)
  have e2:Oi p run=some r:=h1
  have e1:Le p run=some r:=h1
  unfold L3 Nw
  rw[e1,e2,Option.bind_some,Option.bind_some]
  rcases h2 with⟨rfl,_⟩ | ⟨k,x,rfl,hx,_⟩
  ·exact Ag.some _
  ·rw[Ajr (p:=((k:Nat):Int)<0) (by omega),cond_false,cond_false,Ay hx,Option.bind_some,Option.bind_some]
   obtain⟨d1,d2⟩:=zG (l:=x.List_) t (by have:=h x (Ajt hx);omega)
   rw[d1]
   refine Ag.bind (Ag.refl d2) fun y _ _=>Ag.bif rfl (fun _=>Ag.some _) fun _=>?_
   refine Ag.bind (Ag.Am fun i z s _=>?_) fun o _ _=>Ag.on fun _ _=>Ag.some _
   unfold Nb Om
   rw[Ajq (Int.natCast_nonneg i)]
   exact Ag.bif rfl (fun _=>Ag.some _) fun _=>Ag.some _
theorem xU {p:Fe} (h:(0≤p.Natural∧p.Natural≤20000)∧(0≤p.Machine∧p.Machine≤20000)∧50≤p.Density∧p.Density≤900):∃ d,Kj p=some (d,0)∧Qt p=some (d,0):=by
  unfold Kj Qt Og
  rw[kR,mE,Ajq h]
  simp only[Option.bind_some,Bool.not_true,cond_false]
  rw[iE (by omega)]
  exact⟨_,rfl,rfl⟩
theorem rU {f:Ak} (F:FOK f) (run:Int):Ag (E8 f run) (Pq f run):=by
  unfold E8 Pq
  refine Ag.bind (Ag.Am fun i x s hx=>?_) fun o _ _=>Ag.on fun _ _=>Ag.some _
  unfold Gp Qa
  refine Ag.bif rfl (fun _=>?_) fun _=>Ag.some _
  obtain⟨d,h1,h2⟩:=xU (F.packs x (Ajt hx))
  rw[h1,h2,Ajr (p:=((i:Nat):Int)<0) (by omega)]
  exact⟨_,rfl,rfl⟩
theorem FOK.few {f:Ak} (F:FOK f):W46.Few f.Winches:=⟨by have:=F.ropes.len;omega,fun w hw=>by have:=(F.ropes.rope w hw).runs.len;omega⟩
theorem u0 {most:Int} {l:List Int} (h:S50.Ts most l) (hm:most≤100):l.length≤100:=by
  by_cases e:l.length=0
  ·omega
  ·have hx:l[l.length - 1]? =some (l[l.length - 1]'(by omega)):=Ajs (by omega)
   have h1:=W46.iO h.2 (fun x hx=>(h.1 x hx).1) _ _ hx
   have h2:=(h.1 _ (Ajt hx)).2
   omega
theorem FOK.small {f:Ak} (F:FOK f):S50.Small f.Slides:=⟨by have:=F.slides.1;omega,fun s hs=>⟨u0 (F.slides.at hs).2.2.1 (by decide),trivial⟩⟩
theorem yL {f:Ak} (F:FOK f) (run zone:Int) :
    Ag ((D8 f).bind fun y5=>(Gf f.Slides y5).bind fun y6=>(Bt y6 zone).bind fun y7=>(bif y7 then some (10:Int)else (L3 f.Patrol run f.Time).bind fun y8=>(bif (!y8)then some (14:Int)else (E8 f run).bind fun y9=>(bif (!y9)then some (5:Int)else some (0:Int)))))
     ((Gi f).bind fun y6=>(Ny f.Slides y6).bind fun y7=>(Hj y7 zone).bind fun y8=>(bif y8 then some (10:Int)else (Nw f.Patrol run f.Time).bind fun y9=>(bif (!y9)then some (14:Int)else (Pq f run).bind fun y10=>(bif (!y10)then some (5:Int)else some (0:Int))))):=by
  obtain⟨L,h1,h2,h3⟩:=kY F.map
  rw[h1,h2,Option.bind_some,Option.bind_some,S50.vW F.small (fun x hx=>(F.slides.at hx).1) (by omega),S50.nR F.small F.slides (by omega),Option.bind_some,Option.bind_some,contains_eq,Zn,Option.bind_some,Option.bind_some]
  refine Ag.bif rfl (fun _=>Ag.some _) fun _=>?_
  refine Ag.bind (wO run f.Time fun x hx=>(F.lists x hx).1) fun y _ _=>Ag.bif rfl (fun _=>Ag.some _) fun _=>?_
  exact Ag.bind (rU F run) fun y _ _=>Ag.bif rfl (fun _=>Ag.some _) fun _=>Ag.some _
theorem Tn {f:Ak} {run:Int} (h:(Kb f.Map run).2=false):Cz f run=some 8:=by
  unfold Cz
  rw[S3,Option.bind_some,h];rfl
theorem eE {f:Ak} (F:FOK f) {run:Int} (h:(Kb f.Map run).2=true):Ag (Cz f run) (Nt f (Kb f.Map run).1):=by
  have hID:=(cH h).2
  unfold Cz Nt
  rw[S3,Option.bind_some,h,Bool.not_true,cond_false,hID]
  rw[zI f.Map f.Closures run h,wP F.clo run h,Option.bind_some,Option.bind_some]
  refine Ag.bif rfl (fun _=>Ag.some _) fun _=>?_
  rw[Aap,yK,Option.bind_some,Option.bind_some,W46.wD F.few,W46.uF F.ropes,Option.bind_some,Option.bind_some,contains_eq,Zn,Option.bind_some,Option.bind_some]
  rw[rZ f _ (by have:=F.misL;omega),nW f _ F.mis,Option.bind_some,Option.bind_some]
  unfold Eo
  have R:=yL F run (Kb f.Map run).1.Zone
  cases gon f.Groomers run with
  | true=>exact Ag.some _
  | false=>
    cases decide (run∈norm (W46.Kl f.Winches f.Time))with
    | true=>exact Ag.some _
    | false=>
      cases blasted f (Kb f.Map run).1.Zone with
      | true=>exact Ag.some _
      | false=>exact R
theorem jI {f:Ak} (F:FOK f) (run:Int):Tot (Cz f run):=by
  cases h:(Kb f.Map run).2 with
  | false=>exact ⟨8,Tn h⟩
  | true=>obtain ⟨e,h1,_⟩:=eE F h;exact⟨e,h1⟩
def Ff (f:Ak) (run:Int):Bool:=decide (Cz f run=some 0)
theorem xK {f:Ak} {run:Int} (h:Ff f run=true):(Kb f.Map run).2=true:=by
  cases e:(Kb f.Map run).2 with
  | true=>rfl
  | false=>unfold Ff at h;rw[Tn e]at h;cases h
theorem Yk {f:Ak} {run e:Int} (h:Cz f run=some e):Ff f run=decide (e=0):=by
  unfold Ff;rw[h];simp
def pub (f:Ak):List Int:=(f.Lifts.filter fun x=>decide (x.Mode=1)).map Cr.Lift
theorem dK {f:Ak} (F:FOK f):Fu f=some (pub f)∧Gh f=some (pub f):=by
  have:=F.liftsL
  constructor
  ·unfold Fu
   rw[C4 (step:=G8) (p:=fun x=>decide (x.Mode=1)) (g:=Cr.Lift) (by omega) (fun k x s _=>rfl)];rfl
  ·unfold Gh
   rw[C4 (step:=M5) (p:=fun x=>decide (x.Mode=1)) (g:=Cr.Lift) (by omega) (fun k x s _=>rfl)];rfl
theorem dY {m:Bd} (M:Lm m) (lifts runs:List Int) (run:Int):∃ b,R9 m lifts runs run=some b∧K7 m lifts runs run=some b∧(b=true↔(Kb m run).2=true∧RR m lifts runs (Kb m run).1.From):=by
  obtain⟨a,e1,f1⟩:=mA M lifts runs
  obtain⟨a',e2,f2⟩:=jU M lifts runs
  obtain rfl:=f1.unique f2
  unfold R9 K7
  rw[S3,aN,Option.bind_some,Option.bind_some]
  cases h:(Kb m run).2 with
  | false=>exact ⟨false,rfl,rfl,by simp⟩
  | true=>exact ⟨decide ((Kb m run).1.From∈a),by simp[e1,contains_eq],by simp[e2,gG],by simp[f1.mem]⟩
def Lnk (f:Ak) (op:List Int) (run:Int):Prop:=((Kb f.Map run).2=true∧RR f.Map (pub f) op (Kb f.Map run).1.From)∧HH f.Map op (Kb f.Map run).1.To
noncomputable def lnk (f:Ak) (op:List Int) (run:Int):Bool:=@decide (Lnk f op run) (Classical.propDecidable _)
theorem U3 {f:Ak} {op:List Int} {run:Int}:lnk f op run=true↔Lnk f op run:=by unfold lnk;exact @decide_eq_true_iff _ (Classical.propDecidable _)
theorem kX {f:Ak} (F:FOK f) (op:List Int) (run:Int):D7 f op run=some (lnk f op run):=by
  obtain⟨b,h1,_,h3⟩:=dY F.map (pub f) op run
  obtain⟨r,g1,g2⟩:=y0 F.map op
  unfold D7
  rw[S3,Option.bind_some,(dK F).1,Option.bind_some,h1,Option.bind_some,g1,Option.bind_some,contains_eq,Option.bind_some]
  cases b with
  | false=>
    have:lnk f op run=false:=by
      rw[Bool.eq_false_iff];intro h;have:=h3.2 (U3.1 h).1;cases this
    rw[this];rfl
  | true=>
    rw[cond_true]
    congr 1
    rw[Bool.eq_iff_iff,decide_eq_true_iff,U3,g2.mem]
    exact⟨fun h=>⟨h3.1 rfl,h⟩,fun h=>h.2⟩
theorem qT {f:Ak} (F:FOK f) (op:List Int) {run:Int} {α:Type} (A B:Option α):((Gh f).bind fun y3=>(K7 f.Map y3 op run).bind fun y4=>(bif (!y4)then A else(Nn f.Map op).bind fun y5=>(Hj y5 (Kb f.Map run).1.To).bind fun y6=>(bif (!y6)then A else B)))=(bif lnk f op run then B else A):=by
  obtain⟨b,_,h1,h3⟩:=dY F.map (pub f) op run
  obtain⟨r,g1,g2⟩:=nM F.map op
  rw[(dK F).2,Option.bind_some,h1,Option.bind_some,g1,Option.bind_some,Zn,Option.bind_some]
  cases b with
  | false=>
    have:lnk f op run=false:=by
      rw[Bool.eq_false_iff];intro h;have:=h3.2 (U3.1 h).1;cases this
    rw[this];rfl
  | true=>
    have:lnk f op run=decide ((Kb f.Map run).1.To∈r):=by
      rw[Bool.eq_iff_iff,decide_eq_true_iff,U3,g2.mem]
      exact⟨fun h=>h.2,fun h=>⟨h3.1 rfl,h⟩⟩
    rw[this]
    cases decide ((Kb f.Map run).1.To∈r)<;>rfl
noncomputable def zX (f:Ak) (op:List Int) (run:Int):Bool:=Ff f run&&lnk f op run
theorem qJ {f:Ak} (F:FOK f) (op:List Int) (run:Int):∃ e,C0 f op run=some e∧Nu f op run=some e∧decide (e=0)=zX f op run:=by
  unfold C0 Nu zX
  rw[aN,Option.bind_some]
  cases h:(Kb f.Map run).2 with
  | false=>
    rw[Yk (Tn h),Tn h]
    exact⟨8,rfl,rfl,rfl⟩
  | true=>
    obtain⟨e,h1,h2⟩:=eE F h
    rw[Yk h1,h1,h2,Option.bind_some,Bool.not_true,cond_false,Option.bind_some]
    by_cases h0:e=0
    ·subst h0
     rw[show decide ((0:Int)≠0)=false from rfl,cond_false,cond_false,qT F op,kX F,Option.bind_some]
     cases lnk f op run with
     | true=>exact ⟨0,rfl,rfl,rfl⟩
     | false=>exact ⟨16,rfl,rfl,rfl⟩
    ·rw[Ajq (p:=e≠0) h0,Ajr h0]
     exact⟨e,rfl,rfl,by rw[Ajr h0];rfl⟩
theorem zB {L:List Int→Int→Bool} (s:List Int):gfp L (stp L s)=gfp L s:=by
  have h1:stp L (iter L ((stp L s).length+1) s)=iter L ((stp L s).length+1) s:=Tg (L:=L) _ (stp L s) (Nat.le_refl _)
  exact eX h1
theorem P2 {l:List Int} (h:l.length≤549755813888):B9 l=some l:=by unfold B9;rw[Cj h]
theorem yX {f:Ak} (F:FOK f) {s:List Int} (h:s.length≤1000):Am (E9 f s) 0 s []=some (.next (stp (lnk f) s)):=by
  rw[C4 (step:=E9 f s) (p:=lnk f s) (g:=id) (by omega) (fun k x t _=>by unfold E9;rw[kX F,Option.bind_some];rfl),List.map_id];rfl
theorem kZ {f:Ak} (F:FOK f) {s:List Int} (h:s.length≤1000):Dt (Dn f) fuel s=some (.ret (gfp (lnk f) s)):=by
  obtain⟨r,h1,h2⟩:=Ik (step:=Dn f) (fun t=>t.length≤1000∧gfp (lnk f) t=gfp (lnk f) s) (fun r=>r=gfp (lnk f) s) (fun t=>t.length) (by
    rintro t ⟨i1,i2⟩
    have hl:=(gF (L:=lnk f) t).length_le
    unfold Dn
    rw[yX F i1,Option.bind_some]
    show(∃ s',(bif _ then _ else _)=_∧_)∨(∃ r,(bif _ then _ else _)=_∧_)
    by_cases e:(stp (lnk f) t).length=t.length
    ·rw[Ajq (by omega)]
     refine .inr ⟨_,rfl,?_⟩
     have e2:=sQ e
     rw[e2,← i2]
     exact(Xb e2 _).symm
    ·rw[Ajr (by omega)]
     exact .inl ⟨_,rfl,⟨by omega,by rw[zB,i2]⟩,by omega⟩) fuel s ⟨h,rfl⟩ (by unfold fuel;omega)
  rw[h1,h2]
theorem w8 {f:Ak} (F:FOK f) {s:List Int} (h:s.length≤1000) {k:Nat} {x:Int} (hk:s[k]? =some x) (hx:Ff f x=false) (hb:(s.take k).filter (Ff f)=s.take k) :
    Dt (Du f) fuel ((k:Int),(k:Int)+1,s)=some (.ret (gfp (lnk f) (s.filter (Ff f)))):=by
  have hlt:=(List.getElem?_eq_some_iff.1 hk).1
  obtain⟨r,h1,h2⟩:=Ik (step:=Du f) (fun v=>∃ i j:Nat,v.1=(i:Int)∧v.2.1=(j:Int)∧i<j∧j≤s.length∧v.2.2.length=s.length∧v.2.2.take i=(s.take j).filter (Ff f)∧v.2.2.drop j=s.drop j) (fun r=>r=gfp (lnk f) (s.filter (Ff f))) (fun v=>(s.length - v.2.1).toNat) (by
    rintro⟨iv,jv,l⟩ ⟨i,j,rfl,rfl,hij,hj,hl,ht,hd⟩
    dsimp only at *
    unfold Du
    dsimp only
    by_cases hjn:j<l.length
    ·rw[Ajq (by omega),cond_true]
     have hy:l[j]? =some (l[j]'hjn):=Ajs hjn
     generalize l[j]'hjn=y at hy
     have hys:s[j]? =some y:=by
       have:(l.drop j)[0]? =some y:=by rw[List.getElem?_drop];exact hy
       rw[hd,List.getElem?_drop]at this;exact this
     obtain⟨e,he⟩:=jI F y
     rw[Ay hy,Option.bind_some,he,Option.bind_some]
     have hfr:(!decide (e≠0))=Ff f y:=by rw[Yk he];by_cases e0:e=0<;>simp[e0]
     have wi:IntKind.i64.wrap ((i:Int)+1)=((i+1:Nat):Int):=Ry (by omega)
     have wj:IntKind.i64.wrap ((j:Int)+1)=((j+1:Nat):Int):=Ry (by omega)
     have hts:(s.take (j+1)).filter (Ff f)=(s.take j).filter (Ff f)++[y].filter (Ff f):=by rw[B3 hys,List.filter_append]
     rw[hfr,wi,wj]
     have hd2:∀ l':List Int,l'.drop j=s.drop j→l'.drop (j+1)=s.drop (j+1):=fun l' h=>by
       have:=congrArg (List.drop 1) h
       rwa [List.drop_drop,List.drop_drop]at this
     cases hf:Ff f y with
     | false=>
       rw[cond_false]
       refine .inl ⟨_,rfl,⟨i,j+1,rfl,rfl,by omega,by omega,hl,?_,hd2 _ hd⟩,by dsimp only;omega⟩
       rw[hts,ht,List.filter_cons_of_neg (by rw[hf];decide),List.filter_nil,List.append_nil]
     | true=>
       rw[cond_true]
       have hi:l[i]? =some (l[i]'(by omega)):=Ajs (by omega)
       rw[Ay hi,Option.bind_some]
       refine .inl ⟨_,rfl,⟨i+1,j+1,rfl,rfl,by omega,by omega,by simp[hl],?_,?_⟩,by dsimp only;omega⟩
       ·rw[hts,List.filter_cons_of_pos hf,List.filter_nil,← ht,Int.toNat_natCast]
        have hi2:(l.set i y)[i]? =some y:=by rw[List.getElem?_set_self (by omega)]
        rw[B3 hi2,List.take_set_of_le (Nat.le_refl _)]
       ·rw[Int.toNat_natCast]
        refine hd2 _ ?_
        rw[List.drop_set_of_lt hij];exact hd
    ·have e:j=s.length:=by omega
     subst e
     rw[Ajr (by omega),cond_false,Py (by omega),Py (by omega),Int.toNat_natCast]
     rw[List.take_length]at ht
     have hti:((l.take i)++(List.replicate (l.length - i) (0:Int))).take i=s.filter (Ff f):=by
       rw[List.take_append_of_le_length (by rw[List.length_take];omega),List.take_take,Nat.min_self,ht]
     rw[hti]
     have:=kZ F (s:=s.filter (Ff f)) (by have:=List.length_filter_le (Ff f) s;omega)
     have e5:J5 f=Dn f:=rfl
     rw[e5,this]
     exact .inr ⟨_,rfl,rfl⟩) fuel ((k:Int),(k:Int)+1,s) ⟨k,k+1,rfl,rfl,by omega,by omega,rfl,(by dsimp only;rw[B3 hk,List.filter_append,hb,List.filter_cons_of_neg (by rw[hx];decide),List.filter_nil,List.append_nil]),rfl⟩ (by unfold fuel;dsimp only;omega)
  ·rw[h1,h2]
noncomputable def aZ (f:Ak) (runs:List Int):List Int:=gfp (lnk f) ((norm runs).filter (Ff f))
theorem wV (xs:List Int):(norm xs).length≤xs.length:=Jq (W8 xs).nodup fun x hx=>(W7 xs x).1 hx
theorem tB {f:Ak} (F:FOK f) {runs:List Int} (h:runs.length≤1000):E5 f runs=some (aZ f runs):=by
  have hl:=wV runs
  unfold E5
  rw[P2 (by omega),Option.bind_some,Cj (by omega),Cj (by omega)]
  show((Am (Fa f runs) 0 (norm runs) ()).bind fun o1=>o1.on fun s1=>(Dt (Dn f) fuel (norm runs)).bind fun o33=>o33.on fun _=>none)=_
  rcases Fb (step:=Fa f runs) (l:=norm runs) (s:=()) (fun k _=>((norm runs).take k).filter (Ff f)=(norm runs).take k) (fun r=>r=aZ f runs) rfl (fun k x u hk hI=>by
    have hlt:=(List.getElem?_eq_some_iff.1 hk).1
    obtain⟨e,he⟩:=jI F x
    unfold Fa
    rw[he,Option.bind_some]
    by_cases e0:e=0
    ·rw[Ajr (p:=e≠0) (fun h=>h e0)]
     refine .inl ⟨_,rfl,?_⟩
     have hf:Ff f x=true:=by rw[Yk he,Ajq e0]
     rw[B3 hk,List.filter_append,hI,List.filter_cons_of_pos hf,List.filter_nil]
    ·rw[Ajq (p:=e≠0) e0,cond_true,Ajr (p:=((k:Nat):Int)= -1) (by omega),cond_false]
     have hf:Ff f x=false:=by rw[Yk he,Ajr e0]
     have key:=w8 F (s:=norm runs) (by omega) hk hf hI
     have hw:IntKind.i64.wrap (((k:Nat):Int)+1)=(k:Int)+1:=by rw[Ry (by omega)];rfl
     change (∃ s',((Dt (Du f) fuel (((k:Nat):Int),IntKind.i64.wrap (((k:Nat):Int)+1),norm runs)).bind fun o16=>o16.on fun _=>none).bind (fun q30=>some (Out.ret q30))=_∧_)∨(∃ r,((Dt (Du f) fuel (((k:Nat):Int),IntKind.i64.wrap (((k:Nat):Int)+1),norm runs)).bind fun o16=>o16.on fun _=>none).bind (fun q30=>some (Out.ret q30))=_∧_)
     rw[hw,key]
     exact .inr ⟨_,rfl,rfl⟩)with ⟨s',h1,h2⟩ | ⟨r,h1,rfl⟩
  ·rw[List.take_length]at h2
   rw[h1]
   show(Dt (Dn f) fuel (norm runs)).bind _=_
   rw[kZ F (by omega)]
   unfold aZ
   rw[h2];rfl
  ·rw[h1];rfl
theorem qV {α:Type} {idf:α→Int} {l:List α} (h:Ll idf l):Inc (l.map idf):=W46.rN fun k x y hx hy=>by
  rw[List.getElem?_map]at hx hy
  obtain⟨a,ha,rfl⟩:=Option.map_eq_some_iff.1 hx
  obtain⟨b,hb,rfl⟩:=Option.map_eq_some_iff.1 hy
  exact h k a b ha hb
theorem u1 {l:List Int} (h:Inc l) (p:Int→Bool):Inc (l.filter p):=List.Pairwise.filter p h
theorem Aan {l l':List Int} (h:Inc l) (hs:l'.Sublist l):Inc l':=List.Pairwise.sublist hs h
theorem uX {L:List Int→Int→Bool} (n:Nat) (s:List Int):iter L (n+1) s=stp L (iter L n s):=by rw[iN n 1 s];rfl
theorem nJ {f:Ak} (F:FOK f) (runs:List Int):Zs f runs=some (aZ f runs):=by
  have hR:=F.map.lenR
  unfold Zs
  rw[C4 (step:=Tw f runs) (p:=fun x=>decide (x.ID∈runs)&&Ff f x.ID) (g:=Cf.ID) (by omega) (fun k x t hx=>by
   unfold Tw
   have hm:=nH F.map hx
   have h1:=eE F (run:=x.ID) (by rw[hm])
   rw[hm]at h1
   obtain⟨e,h2,h3⟩:=h1
   rw[Zn,Option.bind_some,h3,Option.bind_some,Yk h2]
   cases decide (x.ID∈runs)<;>rfl)]
  show Tv f _=_
  generalize hnow:(f.Map.Runs.filter fun x=>decide (x.ID∈runs)&&Ff f x.ID).map Cf.ID=now
  have hlen:now.length≤f.Map.Runs.length:=by rw[← hnow,List.length_map];exact List.length_filter_le _ _
  have heq:now=(norm runs).filter (Ff f):=by
    refine Rs ?_ (u1 (W8 runs) _) fun x=>?_
    ·rw[← hnow]
     exact Aan (qV F.map.runsR) (List.filter_sublist.map _)
    ·rw[← hnow,List.mem_map,List.mem_filter,W7]
     constructor
     ·rintro⟨y,hy,rfl⟩
      rw[List.mem_filter,Bool.and_eq_true,decide_eq_true_iff]at hy
      exact hy.2
     ·rintro⟨h1,h2⟩
      have hr:=cH (xK h2)
      refine⟨(Kb f.Map x).1,List.mem_filter.2 ⟨hr.1,?_⟩,hr.2⟩
      rw[hr.2,Ajq h1,h2];rfl
  unfold Tv
  obtain⟨s',h1,h2⟩:=bH (ρ:=List Int) (n:=f.Map.Runs.length+1) (step:=Ty f) (s:=now) (by omega) (fun k s=>s=iter (lnk f) k now) rfl (fun k s hk hI=>by
    have hs:s.length≤64:=by rw[hI];exact Nat.le_trans (oO _ _).length_le (by omega)
    refine⟨stp (lnk f) s,?_,by rw[hI,← uX]⟩
    obtain⟨r,g1,g2⟩:=nM F.map s
    unfold Ty
    rw[(dK F).2,Option.bind_some,g1,Option.bind_some]
    rw[C4 (step:=Tx f s (pub f) r) (p:=lnk f s) (g:=id) (by omega) (fun k x t hx=>by
     obtain⟨b,_,f1,f3⟩:=dY F.map (pub f) s x
     unfold Tx
     rw[aN,Option.bind_some,f1,Option.bind_some,Zn,Option.bind_some]
     cases b with
     | false=>
       have:lnk f s x=false:=by
         rw[Bool.eq_false_iff];intro h;have:=f3.2 (U3.1 h).1;cases this
       rw[this];rfl
     | true=>
       have:lnk f s x=decide ((Kb f.Map x).1.To∈r):=by
         rw[Bool.eq_iff_iff,decide_eq_true_iff,U3,g2.mem]
         exact⟨fun h=>h.2,fun h=>⟨f3.1 rfl,h⟩⟩
       rw[this];rfl),List.map_id]
    rfl)
  rw[h1,h2]
  show some (iter (lnk f) (f.Map.Runs.length+1) now)=_
  rw[eX (Tg (f.Map.Runs.length+1) now (by omega)),heq];rfl
theorem bA (a b:List Int):Kr a b=some (decide (a=b)):=
  wI fun k x y hx hy=>by unfold Qc;rw[Ay hy];rfl
theorem iP {most:Int} {l:List Int} (h:S50.Ts most l):(l.length:Int)≤most∨l.length=0:=by
  by_cases e:l.length=0
  ·exact .inr e
  ·left
   have hx:l[l.length - 1]? =some (l[l.length - 1]'(by omega)):=Ajs (by omega)
   have h1:=W46.iO h.2 (fun x hx=>(h.1 x hx).1) _ _ hx
   have h2:=(h.1 _ (Ajt hx)).2
   omega
theorem Yq {α ρ:Type} {step:Nat→α→List α→Option (Out (List α) ρ)} {c:α→Option α} {l:List α} (hl:l.length≤1000) (hs:∀ k x s,step k x s=(c x).bind fun y=>chk (s.length+1) (some (.next (s++[y])))) (hc:∀ x∈l,c x=some x):Am step 0 l []=some (.next l):=by
  rw[C4 (p:=fun _=>true) (g:=id) (by omega) (fun k x s hx=>by rw[hs,hc x hx];rfl),List.map_id,List.filter_eq_self.2 (fun _ _=>rfl)]
theorem Abt {x:Ck} (h:x.List_.Items.length≤64∧x.List_.Signs.length≤200):En x=some x:=by
  unfold En C6
  rw[P2 (by omega),Option.bind_some,Cj (by omega)];rfl
theorem Abs {x:Bf} (h:S50.Bw x):Em x=some x:=by
  have h1:=iP h.2.1
  have h2:=iP h.2.2
  unfold Em
  rw[P2 (by omega),Option.bind_some,P2 (by omega)];rfl
theorem Abr {x:Bp} (h:x.Zones.length≤32):El x=some x:=by
  unfold El
  rw[P2 (by omega)];rfl
theorem Abq {x:A8} (h:x.Runs.length≤9999):Ek x=some x:=by
  unfold Ek
  rw[P2 (by omega)];rfl
def iF (l:List Bo):List Int:=(l.filter fun x=>x.Open).map Bo.Run
theorem wU (l:List Bo):(iF l).length≤l.length:=by unfold iF;rw[List.length_map];exact List.length_filter_le _ _
theorem dL {f:Ak} (h:f.Status.length≤1000):Dk f=some (iF f.Status):=by
  unfold Dk
  rw[C4 (step:=Fv) (p:=fun x=>x.Open) (g:=Bo.Run) (by omega) (fun k x s _=>rfl)];rfl
theorem l4 {f:Ak} (h:f.Status.length≤1000):Ps f=some (iF f.Status):=dL h
def Pl (K:List Int) (x:Bo):Bool:=x.Open&&!decide (x.Run∈K)
def jS (K:List Int) (t:Int) (x:Bo):Bo:=bif Pl K x then⟨x.Run,false,t⟩else x
def vX (f:Ak) (l:List Bo):Ak:=Ak.mk f.Map f.Lifts f.Closures f.Patrol f.Surfaces f.Packs f.Slides f.Bulletin f.Missions f.Winches f.Groomers l f.Depth f.Time
theorem vY (f:Ak) (K:List Int) {l:List Bo} (hl:l.length≤1000):Am (Ep f K) 0 l (l,[])=some (.next (l.map (jS K f.Time),(l.filter (Pl K)).map Bo.Run)):=by
  obtain⟨s',h1,h2⟩:=Dv (ρ:=Ak×List Int) (step:=Ep f K) (l:=l) (s:=(l,[])) (fun k s=>s=((l.take k).map (jS K f.Time)++l.drop k,((l.take k).filter (Pl K)).map Bo.Run)) (by simp) (fun k x s hk hI=>by
    have hlt:=(List.getElem?_eq_some_iff.1 hk).1
    have hlen:((l.take k).map (jS K f.Time)).length=k:=by simp;omega
    have hx:s.1[k]? =some x:=by
      rw[hI];dsimp only
      rw[List.getElem?_append_right (by omega),hlen,Nat.sub_self,List.getElem?_drop];exact hk
    have hs2:s.2.length≤k:=by
      rw[hI];dsimp only
      rw[List.length_map]
      have:=List.length_filter_le (Pl K) (l.take k)
      rw[List.length_take]at this;omega
    have hset:∀ y:Bo,s.1.set k y=(l.take k).map (jS K f.Time)++y::l.drop (k+1):=fun y=>by
      rw[hI];dsimp only
      rw[List.set_append_right _ _ (by omega),hlen,Nat.sub_self,List.drop_eq_getElem_cons hlt];rfl
    have hsame:s.1=(l.take k).map (jS K f.Time)++x::l.drop (k+1):=by
      rw[hI];dsimp only
      rw[List.drop_eq_getElem_cons hlt]
      rw[Ajs hlt]at hk
      rw[Option.some.inj hk]
    unfold Ep
    rw[Ay hx,Option.bind_some,contains_eq,Option.bind_some]
    rw[B3 hk,List.map_append,List.filter_append,List.map_append,List.append_assoc]
    have hu:jS K f.Time x=bif Pl K x then⟨x.Run,false,f.Time⟩else x:=rfl
    have hsh:Pl K x=(x.Open&&!decide (x.Run∈K)):=rfl
    cases ho:x.Open with
    | false=>
      rw[ho]at hsh
      have hsh:Pl K x=false:=hsh
      rw[cond_false,List.filter_cons_of_neg (by rw[hsh];decide)]
      rw[hsh]at hu
      refine⟨_,rfl,?_⟩
      rw[Prod.mk.injEq]
      exact⟨by rw[hsame];simp[hu],by rw[hI];simp⟩
    | true=>
      rw[ho,Bool.true_and]at hsh
      rw[cond_true]
      cases hd:decide (x.Run∈K)with
      | true=>
        rw[hd]at hsh
        have hsh:Pl K x=false:=hsh
        rw[List.filter_cons_of_neg (by rw[hsh];decide)]
        rw[hsh]at hu
        refine⟨_,rfl,?_⟩
        rw[Prod.mk.injEq]
        exact⟨by rw[hsame];simp[hu],by rw[hI];simp⟩
      | false=>
        rw[hd]at hsh
        have hsh:Pl K x=true:=hsh
        rw[List.filter_cons_of_pos hsh]
        rw[hsh]at hu
        rw[Bool.not_false,cond_true,Cj (by omega)]
        refine⟨_,rfl,?_⟩
        rw[Prod.mk.injEq]
        exact⟨by rw[List.set_set,hset];simp[hu],by rw[hI];simp⟩)
  rw[List.take_length,List.drop_length,List.append_nil]at h2
  rw[h1,h2]
theorem tW {f:Ak} (F:FOK f) (W:sK f):Hs f=some (vX f (f.Status.map (jS (aZ f (iF f.Status)) f.Time)),(f.Status.filter (Pl (aZ f (iF f.Status)))).map Bo.Run):=by
  have M:=F.map
  have hS:=F.statL
  have hn:=wU f.Status
  have:=M.lenN
  have:=M.lenL
  have:=M.lenR
  have:=M.lenB
  have:=F.liftsL
  have:=F.packsL
  have:=F.listsL
  have:=F.misL
  have:=W.closures
  have:=W.hazards
  have:=W.surfaces
  have:=W.slides
  have:=W.bulletin
  have:=W.winches
  have:=W.groomers
  have q1:=Yq (ρ:=Ak×List Int) (step:=Hc) (c:=En) (l:=f.Patrol.Bw) (by omega) (fun k x s=>rfl) (fun x hx=>Abt (F.lists x hx))
  have q2:=Yq (ρ:=Ak×List Int) (step:=Hb) (c:=Em) (l:=f.Slides) (by omega) (fun k x s=>rfl) (fun x hx=>Abs (F.slides.at hx).2)
  have q3:=Yq (ρ:=Ak×List Int) (step:=Ha) (c:=El) (l:=f.Bulletin) (by omega) (fun k x s=>rfl) (fun x hx=>Abr (F.bul x hx))
  have q4:=Yq (ρ:=Ak×List Int) (step:=G9) (c:=Ek) (l:=f.Winches) (by omega) (fun k x s=>rfl) (fun x hx=>Abq (F.ropes.rope x hx).runs.len)
  unfold Hs
  rw[dL (by omega),Option.bind_some,tB F (by omega),Option.bind_some]
  unfold C7 C8 Df Cg Cq Cu Cm Cn Co Cp Dx
  rw[Cj (n:=f.Map.Nodes.length) (by omega),Option.bind_some,Cj (n:=f.Map.Lifts.length) (by omega),Option.bind_some,Cj (n:=f.Map.Runs.length) (by omega),Option.bind_some,P2 (by omega),Option.bind_some,
   Cj (n:=f.Lifts.length) (by omega),Option.bind_some,Cj (n:=f.Closures.length) (by omega),Option.bind_some,Cj (n:=f.Patrol.Bw.length) (by omega),q1,Option.bind_some]
  show(chk f.Patrol.Hazards.length (some f.Patrol.Hazards)).bind _=_
  rw[Cj (n:=f.Patrol.Hazards.length) (by omega),Option.bind_some,Cj (n:=f.Surfaces.length) (by omega),Option.bind_some,Cj (n:=f.Packs.length) (by omega),Option.bind_some,Cj (n:=f.Slides.length) (by omega),q2,Option.bind_some]
  show chk f.Bulletin.length _=_
  rw[Cj (n:=f.Bulletin.length) (by omega),q3,Option.bind_some]
  show(chk f.Missions.length (some f.Missions)).bind _=_
  rw[Cj (n:=f.Missions.length) (by omega),Option.bind_some,Cj (n:=f.Winches.length) (by omega),q4,Option.bind_some]
  show(chk f.Groomers.length (some f.Groomers)).bind _=_
  rw[Cj (n:=f.Groomers.length) (by omega),Option.bind_some,Cj (n:=f.Status.length) (by omega),Option.bind_some,vY f _ (by omega)]
  rfl
theorem qR {f:Ak} (F:FOK f):Vd f=some (vX f (f.Status.map (jS (aZ f (iF f.Status)) f.Time)),(f.Status.filter (Pl (aZ f (iF f.Status)))).map Bo.Run):=by
  have hS:=F.statL
  unfold Vd
  rw[l4 (by omega),Option.bind_some,nJ F,Option.bind_some]
  generalize aZ f (iF f.Status)=K
  obtain⟨s',h1,h2⟩:=Dv (ρ:=Ak×List Int) (step:=Q8 f K) (l:=f.Status) (s:=([],[])) (fun k s=>s=((f.Status.take k).map (jS K f.Time),((f.Status.take k).filter (Pl K)).map Bo.Run)) rfl (fun k x s hk hI=>by
    have hlt:=(List.getElem?_eq_some_iff.1 hk).1
    have hs1:s.1.length≤k:=by rw[hI];simp;omega
    have hs2:s.2.length≤k:=by
      rw[hI];dsimp only
      rw[List.length_map]
      have:=List.length_filter_le (Pl K) (f.Status.take k)
      rw[List.length_take]at this;omega
    unfold Q8
    rw[Zn,Option.bind_some,B3 hk,List.map_append,List.filter_append,List.map_append]
    have hu:jS K f.Time x=bif Pl K x then⟨x.Run,false,f.Time⟩else x:=rfl
    have hsh:Pl K x=(x.Open&&!decide (x.Run∈K)):=rfl
    obtain⟨xr,xo,xs⟩:=x
    dsimp only at *
    cases xo with
    | false=>
      have hsh:Pl K ⟨xr,false,xs⟩=false:=hsh
      rw[cond_false,Cj (by omega),List.filter_cons_of_neg (by rw[hsh];decide)]
      rw[hsh]at hu
      refine⟨_,rfl,?_⟩
      rw[Prod.mk.injEq]
      exact⟨by rw[hI];simp[hu],by rw[hI];simp⟩
    | true=>
      rw[Bool.true_and]at hsh
      rw[cond_true]
      cases hd:decide (xr∈K)with
      | true=>
        rw[hd]at hsh
        have hsh:Pl K ⟨xr,true,xs⟩=false:=hsh
        rw[List.filter_cons_of_neg (by rw[hsh];decide)]
        rw[hsh]at hu
        rw[Bool.not_true,cond_false,Cj (by omega)]
        refine⟨_,rfl,?_⟩
        rw[Prod.mk.injEq]
        exact⟨by rw[hI];simp[hu],by rw[hI];simp⟩
      | false=>
        rw[hd]at hsh
        have hsh:Pl K ⟨xr,true,xs⟩=true:=hsh
        rw[List.filter_cons_of_pos hsh]
        rw[hsh]at hu
        rw[Bool.not_false,cond_true,Cj (by omega),Cj (by omega)]
        refine⟨_,rfl,?_⟩
        rw[Prod.mk.injEq]
        exact⟨by rw[hI];simp[hu],by rw[hI];simp⟩)
  rw[List.take_length]at h2
  rw[h1,h2];rfl
theorem bff {α:Type} {c:Bool} {a b r:α} (hc:c=false) (h:b=r):(bif c then a else b)=r:=by subst hc;exact h
theorem bft {α:Type} {c:Bool} {a b r:α} (hc:c=true) (h:a=r):(bif c then a else b)=r:=by subst hc;exact h
theorem sV {f:Ak} (F:FOK f):Ag (E4 f) (Pr f):=by
  have:=F.statL
  unfold E4 Pr
  rw[dL (by omega),l4 (by omega),Option.bind_some,Option.bind_some]
  refine Ag.bind (Ag.Am fun i x s _=>?_) fun o _ _=>Ag.on fun _ _=>Ag.some _
  obtain⟨e,h1,h2,_⟩:=qJ F (iF f.Status) x
  unfold J3 Qb
  rw[h1,h2]
  exact Ag.bif rfl (fun _=>Ag.some _) fun _=>Ag.some _
theorem kJ {f:Ak} (F:FOK f) {b:Bool} (h:Pr f=some b):E4 f=some b:=by rw[(sV F).eq,h]
theorem Un {f:Ak} (F:FOK f) {op:List Int} {run e:Int} (h:Nu f op run=some e):C0 f op run=some e:=by
  obtain⟨e',h1,h2,_⟩:=qJ F op run
  rw[h]at h2;rw[h1,Option.some.inj h2]
def z54:Ak:=Ak.mk (Bd.mk [] [] [] []) [] [] (Cb.mk [] []) [] [] [] [] [] [] [] [] (0:Int) (0:Int)
theorem n0 {f:Ak} (F:FOK f) (hs:f.Status=[]) {run e:Int} (hr:(Kb f.Map run).2=true) (he:e≠0) (h:Nu f [run] run=some e):Ht f run=some (z54,e):=by
  unfold Ht
  rw[S3,Option.bind_some,hr,dL (by rw[hs];decide),Option.bind_some,contains_eq,Option.bind_some,hs]
  refine bff rfl (bff rfl ?_)
  refine De (x:=.next ()) rfl ?_
  rw[Out.on]
  refine bff rfl ?_
  rw[Cj (by decide)]
  show(C0 f [run] run).bind _=_
  rw[Un F h,Option.bind_some]
  exact bft (Ajq he) rfl
def Eb:Ak:=(Ak.mk (Bd.mk [(Cl.mk (1:Int) (1000:Int)),(Cl.mk (2:Int) (2000:Int)),(Cl.mk (3:Int) (1500:Int))] [(Ce.mk (1:Int) (1:Int) (1:Int) (2:Int) (1000:Int) (5000:Int) (4:Int) (50:Int))] [(Cf.mk (1:Int) (1:Int) (2:Int) (3:Int) (2:Int) (1:Int) (800:Int)),(Cf.mk (2:Int) (1:Int) (3:Int) (1:Int) (2:Int) (1:Int) (800:Int))] [(1:Int)]) [(Cr.mk (1:Int) (1:Int))] [] (Cb.mk [(Ck.mk (1:Int) (Bq.mk [] (60:Int) [])),(Ck.mk (2:Int) (Bq.mk [] (60:Int) []))] []) [] [(C5.mk (1:Int) (100:Int) (Fe.mk (0:Int) (450:Int) (450:Int))),(C5.mk (2:Int) (100:Int) (Fe.mk (0:Int) (450:Int) (450:Int)))] [] [] [] [] [] [] (300:Int) (0:Int))
def Aa5:List Bo:=[(Bo.mk (1:Int) true (0:Int)),(Bo.mk (2:Int) true (0:Int))]
def exA:Ak:=vX Eb Aa5
def exB:Ak:=Ak.mk Eb.Map Eb.Lifts [(Bn.mk (1:Int) (2:Int) (1:Int) (0:Int))] Eb.Patrol Eb.Surfaces Eb.Packs Eb.Slides Eb.Bulletin Eb.Missions Eb.Winches Eb.Groomers Aa5 Eb.Depth Eb.Time
def exH:Ak:=Ak.mk Eb.Map Eb.Lifts Eb.Closures (Cb.mk Eb.Patrol.Bw [(Cv.mk (1:Int) (1:Int) (0:Int))]) Eb.Surfaces Eb.Packs Eb.Slides Eb.Bulletin Eb.Missions Eb.Winches Eb.Groomers Eb.Status Eb.Depth Eb.Time
def exD:Ak:=Ak.mk Eb.Map Eb.Lifts Eb.Closures Eb.Patrol Eb.Surfaces Eb.Packs Eb.Slides Eb.Bulletin Eb.Missions Eb.Winches Eb.Groomers Eb.Status (1001:Int) Eb.Time
def exS:Ak:=Ak.mk Eb.Map Eb.Lifts Eb.Closures Eb.Patrol Eb.Surfaces Eb.Packs [(Bf.mk (1:Int) [(1:Int)] [] (100:Int) (100:Int) (-1:Int))] Eb.Bulletin Eb.Missions Eb.Winches Eb.Groomers Eb.Status Eb.Depth Eb.Time
theorem exI {f:Ak} (h1:f.Patrol.Bw=Eb.Patrol.Bw) (h2:f.Slides=[]∨f.Slides=[(Bf.mk (1:Int) [(1:Int)] [] (100:Int) (100:Int) (-1:Int))]) (h3:f.Bulletin=[]) (h4:f.Winches=[]):vU f∧f.Slides.length≤9223372036854775807:=by
  refine⟨⟨?_,?_,?_,?_⟩,?_⟩
  ·rw[h1];simp[Eb]
  ·rcases h2 with h2 | h2<;>rw[h2]<;>simp
  ·rw[h3];simp
  ·rw[h4];simp
  ·rcases h2 with h2 | h2<;>rw[h2]<;>simp
theorem u9 {f:Ak} (h:vU f∧f.Slides.length≤9223372036854775807) (e:Ic f=some 0):FOK f:=xO h.1 h.2 e
theorem F0:FOK Eb:=u9 (exI rfl (.inl rfl) rfl rfl) (by decide +kernel)
theorem FA:FOK exA:=u9 (exI rfl (.inl rfl) rfl rfl) (by decide +kernel)
theorem FB:FOK exB:=u9 (exI rfl (.inl rfl) rfl rfl) (by decide +kernel)
theorem FH:FOK exH:=u9 (exI rfl (.inl rfl) rfl rfl) (by decide +kernel)
theorem FD:FOK exD:=u9 (exI rfl (.inl rfl) rfl rfl) (by decide +kernel)
theorem FS:FOK exS:=u9 (exI rfl (.inr rfl) rfl rfl) (by decide +kernel)
theorem W0:sK Eb:=⟨by decide,by decide,by decide,by decide,by decide,by decide,by decide,by decide,by decide⟩
theorem WB:sK exB:=⟨by decide,by decide,by decide,by decide,by decide,by decide,by decide,by decide,by decide⟩
theorem zS:Qx=some true:=by
  have o1:=n0 F0 rfl (run:=1) (e:=16) (by decide +kernel) (by decide) (by decide +kernel)
  have o2:=n0 F0 rfl (run:=2) (e:=16) (by decide +kernel) (by decide) (by decide +kernel)
  have hR:Ge Eb=some 0:=by
    rw[(lI Eb W0 (exI rfl (.inl rfl) rfl rfl).1 (by decide) (by decide) (by decide)).eq];decide +kernel
  have hK:E5 Eb [1,2]=some [1,2]:=by
    rw[tB F0 (by decide),← nJ F0];decide +kernel
  have hU:=tW FB WB
  rw[← qR FB]at hU
  have hU2:(Vd exB).map (fun p=>(p.2,iF p.1.Status,decide (p.1.Status.length≤1000)))=some ([1,2],[],true):=by decide +kernel
  obtain⟨p,hp,hq⟩:=Option.map_eq_some_iff.1 hU2
  rw[hp]at hU
  rw[Prod.mk.injEq,Prod.mk.injEq]at hq
  unfold Qx
  refine De (x:=Eb) rfl ?_
  refine De o1 ?_
  refine De o2 ?_
  refine De hR ?_
  refine bff rfl (bff rfl (bff rfl ?_))
  refine De hK ?_
  refine De (bA _ _) ?_
  refine bff rfl ?_
  refine De (kJ FA (b:=true) (by decide +kernel)) ?_
  refine bff rfl ?_
  refine De (x:=[1,2]) rfl ?_
  refine De (bA _ _) ?_
  refine bff rfl ?_
  refine De hU ?_
  refine De (kJ FB (b:=false) (by decide +kernel)) ?_
  refine bff rfl ?_
  refine De (bA _ _) ?_
  rw[hq.1]
  refine bff rfl ?_
  refine De (dL (Ajp hq.2.2)) ?_
  rw[hq.2.1]
  refine bff rfl ?_
  refine De (Un FH (e:=14) (by decide +kernel)) ?_
  refine bft rfl ?_
  refine De (Un FD (e:=5) (by decide +kernel)) ?_
  refine bft rfl ?_
  refine De (Un FS (e:=10) (by decide +kernel)) ?_
  refine bft rfl ?_
  refine De (Un F0 (e:=8) (by decide +kernel)) ?_
  refine bft rfl ?_
  refine De (Un F0 (e:=0) (by decide +kernel)) ?_
  rfl
theorem uC (f:Ak):Tot (Lg f):=by
  unfold Lg
  repeat' first | exact Tot.some _ | refine Tot.bif (fun _=>?_) (fun _=>?_)
theorem bfs {c:Bool} {b:Option Bool} (h:(bif c then some false else b)=some true):c=false∧b=some true:=by
  cases c with
  | false=>exact ⟨rfl,h⟩
  | true=>cases h
theorem bts {c:Bool} {b:Option Bool} (h:(bif c then b else some false)=some true):c=true∧b=some true:=by
  cases c with
  | true=>exact ⟨rfl,h⟩
  | false=>cases h
theorem wF {f:Ak} (h:Lg f=some true):sK f∧f.Lifts.length≤12∧f.Packs.length≤12∧f.Status.length≤12:=by
  unfold Lg at h
  obtain⟨_,h⟩:=bfs h
  obtain⟨_,h⟩:=bfs h
  obtain⟨_,h⟩:=bfs h
  obtain⟨_,h⟩:=bfs h
  obtain⟨a1,h⟩:=bfs h
  obtain⟨a2,h⟩:=bfs h
  obtain⟨a3,h⟩:=bfs h
  obtain⟨a4,h⟩:=bfs h
  obtain⟨a5,h⟩:=bfs h
  obtain⟨a6,h⟩:=bfs h
  obtain⟨a7,h⟩:=bfs h
  obtain⟨a8,h⟩:=bfs h
  obtain⟨a9,h⟩:=bts h
  obtain⟨a10,h⟩:=bts h
  obtain⟨a11,h⟩:=bts h
  have a12:=Ajp (Option.some.inj h)
  have a1:=Ajo a1
  have a2:=Ajo a2
  have a3:=Ajo a3
  have a4:=Ajo a4
  have a5:=Ajo a5
  have a6:=Ajo a6
  have a7:=Ajo a7
  have a8:=Ajo a8
  have a9:=Ajp a9
  have a10:=Ajp a10
  have a11:=Ajp a11
  exact⟨⟨by omega,by omega,by omega,by omega,by omega,by omega,by omega,by omega,by omega⟩,by omega,by omega,by omega⟩
theorem nL {f:Ak} (h:Sy f) (l:List Int):N5 f l=some false∨(N5 f l=some true∧l.length≤40∧sK f∧FOK f):=by
  unfold N5
  cases hl:decide (((l.length:Nat):Int)≤40)with
  | false=>exact .inl rfl
  | true=>
    have hl:=Ajp hl
    obtain⟨b,hb⟩:=uC f
    rw[hb,cond_true,Option.bind_some]
    cases b with
    | false=>exact .inl rfl
    | true=>
      obtain⟨W,w1,w2,w3⟩:=wF hb
      obtain⟨e,_,he⟩:=lI f W (tH h) (by omega) (by omega) (by omega)
      rw[he,cond_true,Option.bind_some]
      by_cases e0:e=0
      ·subst e0
       exact .inr ⟨rfl,by omega,W,xO (tH h) h.2.2.2.2.2.2.1.1 he⟩
      ·rw[Ajr e0];exact .inl rfl
theorem T5 (f:Ak) (op:List Int) (run:Int) (h:Sy f) (ho:OkL I64 op) (hr:I64 run):G7 f op run=some true:=by
  unfold G7
  refine De zS (bff rfl ?_)
  rcases nL h op with hb | ⟨hb,hl,W,F⟩
  ·exact De hb rfl
  ·refine De hb (bff rfl ?_)
   have hS:=F.statL
   obtain⟨L,a1,a2,_⟩:=kY F.map
   obtain⟨e,b1,b2,_⟩:=qJ F op run
   obtain⟨s,c1,c2⟩:=sV F
   refine De a1 (De a2 (De (bA _ _) (bft (Ajq rfl) ?_)))
   refine De b1 (De b2 (bft (Ajq rfl) ?_))
   refine De (dL (by omega)) (De (l4 (by omega)) (De (bA _ _) (bft (Ajq rfl) ?_)))
   refine De c1 (De c2 ?_)
   rw[beq_self_eq_true]
end Go.Proofs.YtjopghiagoidgaaGreat
