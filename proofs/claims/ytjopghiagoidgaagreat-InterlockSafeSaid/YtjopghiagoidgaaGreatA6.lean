/- Our own texts: a layer of abstract values over the model, the walks of the functions, the plain laws; joined and shortened by a small program of our own (wip/dce2.py, wip/pack.py). -/
import Derived.Test.YtjopghiagoidgaaGreatA5
import Derived.Calls
import Derived.Tactics2
import Derived.Below
import Derived.Deep.LoopGhost
import Derived.KernelRfl
import Derived.Laws.Shifts
import Derived.Laws.CopyRow
import Derived.Laws.AppendOwn
import Derived.Laws.MakeOwn
import Derived.Laws.StructEq
import Derived.Maps.RangeRun
import Derived.Lib.SliceRun
import Derived.TacticsIn
import Derived.OrdersIn
import Derived.Sort.LoopGhostIn
import Derived.RangeFuncRecord
import Derived.Orders
import Derived.ProofKit
import Derived.OpenShut
import Derived.ShutString
import Derived.ChangeOld
import Derived.Carry
import Derived.WideShapes
import Derived.ChangeArms
import Derived.ChangeShapes
import Derived.Handed
import Derived.JoinedOf
import Derived.Sort.Grow
import Derived.Lib.SlicesCompact
import Derived.Lib.SlKeysI
import Derived.Maps.Own
import Derived.WideKeyRuns
import Derived.Laws.IdiomCopy
import Derived.Lib.Overlaps
import Derived.Test.YtjopghiagoidgaaGreatChecked
import Derived.Shelf.RegionOpenPlain
import Derived.WalkKit
import Derived.Lib.Walk
import Derived.Lib.JoinLaws
import Derived.Lib.AppendZeros
import Derived.Lib.AppendZerosOnto
import Derived.Laws.NewBlocks
import Derived.Laws.Externs
import Derived.Test.YtjopghiagoidgaaGreatProg
import Derived.Shelf.SortM.Plain
import Derived.Shelf.SortM.SortNone
import Derived.Shelf.SlIterI.Nil
import Derived.Shelf.Slices.CompactI
namespace Go.Proofs.YtjopghiagoidgaaGreat
open Go Go.Ab
set_option linter.unusedSimpArgs false
set_option linter.unusedVariables false
theorem Aaa {σ:Type} {o:Option (Out σ Int)} {rest:σ→Option Int} (h:Dw (·≠0) o) (e:(o.bind fun x=>x.on rest)=some 0):∃ s,o=some (.next s)∧rest s=some 0:=by
  obtain⟨x,h1,h2⟩:=Ah e
  cases x with
  | ret r=>obtain rfl:=Ak0 h2;exact absurd rfl (h 0 h1)
  | next s=>exact ⟨s,h1,h2⟩
theorem Nr {α:Type} {step:Nat→α→Unit→Option (Out Unit Int)} {l:List α} {rest:Unit→Option Int} (hr:∀ i x s,Dw (·≠0) (step i x s)) (e:((An step 0 l ()).bind fun o=>o.on rest)=some 0):(∀ i x,l[i]? =some x→step i x ()=some (.next ()))∧rest ()=some 0:=by
  obtain⟨s,h1,h2⟩:=Aaa (Dw.An hr) e
  refine⟨fun i x hx=>?_,h2⟩
  have:=Up.1 h1 i x hx
  rwa [Nat.zero_add]at this
theorem bz {c:Bool} {e:Int} {b:Option Int} (h:(bif c then some e else b)=some 0) (he:e≠0):c=false∧b=some 0:=by
  cases c with
  | false=>exact ⟨rfl,h⟩
  | true=>exact absurd (Ak0 h) he
theorem bn {c:Bool} {e:Int} {b:Option (Out Unit Int)} (h:(bif c then some (.ret e)else b)=some (.next ())):c=false∧b=some (.next ()):=by
  cases c with
  | false=>exact ⟨rfl,h⟩
  | true=>cases h
theorem bnot {p:Prop} [Decidable p] (h:(!decide p)=false):p:=by simpa using h
theorem Abv {l:List Bn} (e:Ix l=some 0):∀ c∈l,1≤c.By∧c.By≤6:=by
  unfold Ix at e
  obtain⟨_,e⟩:=bz e (by decide)
  obtain⟨h,_⟩:=Nr (fun i x s=>by
    unfold H4
    repeat' first | exact Dw.ret (by decide) | exact Dw.next _ | refine Dw.okB ?_ | refine Dw.bif (fun _=>?_) (fun _=>?_) | refine Dw.bind fun _ _=>?_) e
  intro c hc
  obtain⟨i,hi⟩:=List.mem_iff_getElem?.1 hc
  have:=h i c hi
  unfold H4 at this
  rw[rY,Aku]at this
  have:=bnot (bn this).1
  omega
theorem xU {p:B9} (e:Iw p=some 0):p.Bl.length≤64∧p.Hazards.length≤200∧∀ x∈p.Bl,x.List_.Items.length≤64∧x.List_.Signs.length≤200:=by
  unfold Iw at e
  obtain⟨h1,e⟩:=bz e (by decide)
  obtain⟨h2,e⟩:=bz e (by decide)
  have h1:=Ako h1
  have h2:=Ako h2
  obtain⟨h,_⟩:=Nr (fun i x s=>by
    unfold H3
    repeat' first | exact Dw.ret (by decide) | exact Dw.ret (Akp ‹_›) | exact Dw.next _ | refine Dw.bif (fun _=>?_) (fun _=>?_) | refine Dw.bind fun _ _=>?_) e
  refine⟨by omega,by omega,fun x hx=>?_⟩
  obtain⟨i,hi⟩:=List.mem_iff_getElem?.1 hx
  have:=h i x hi
  unfold H3 at this
  obtain⟨_,this⟩:=bn this
  obtain⟨_,this⟩:=bn this
  have fin:∀ {o:Option (Out Unit Int)},o=some (.next ())→o=((Gx x.List_).bind fun cf=>bif decide (cf≠(0:Int))then some (Out.ret cf)else some (Out.next ()))→x.List_.Items.length≤64∧x.List_.Signs.length≤200:=by
    intro o ho h
    rw[ho]at h
    obtain⟨y,hy,h⟩:=Ah h.symm
    have hy0:=(bn h).1
    have:y=0:=by simpa using hy0
    subst this
    exact pA hy
  cases hc:decide ((0:Int)<((i:Nat):Int))with
  | true=>
    rw[hc]at this
    obtain⟨y,_,this⟩:=Ah this
    exact fin (bn this).2 rfl
  | false=>
    rw[hc]at this
    exact fin this rfl
theorem Abm {l:List Bh} (e:Iy l=some 0):l.length≤64∧∀ m∈l,1≤m.Slide∧m.Slide≤9999:=by
  unfold Iy at e
  obtain⟨h1,e⟩:=bz e (by decide)
  have h1:=Ako h1
  obtain⟨h,_⟩:=Nr (fun i x s=>by
    unfold H5
    repeat' first | exact Dw.ret (by decide) | exact Dw.next _ | refine Dw.okB ?_ | refine Dw.bif (fun _=>?_) (fun _=>?_) | refine Dw.bind fun _ _=>?_) e
  refine⟨by omega,fun c hc=>?_⟩
  obtain⟨i,hi⟩:=List.mem_iff_getElem?.1 hc
  have:=h i c hi
  unfold H5 at this
  simp only[mM,Aku]at this
  exact bnot (bn (bn this).2).1
theorem nA {l:List Int} (hl:l.length≤9223372036854775807) (e:K0 l=some true):l.length≤32:=by
  unfold K0 at e
  obtain⟨o,h1,h2⟩:=Ah e
  cases o with
  | ret r=>
    have:r=false:=Dw.An (P:=fun r=>r=false) (fun i x s=>by
      unfold H8
      repeat' first | exact Dw.ret rfl | exact Dw.next _ | refine Dw.bif (fun _=>?_) (fun _=>?_) | refine Dw.bind fun _ _=>?_) r h1
    subst this;cases h2
  | next s=>
    have hs:=Up.1 h1
    have key:∀ (i:Nat) (x:Int),l[i]? =some x→(1≤x∧x≤32)∧∀ y,0<i→l[i - 1]? =some y→y<x:=by
      intro i x hx
      have af:=(Ak1.1 hx).1
      have h:=hs i x hx
      rw[Nat.zero_add]at h
      unfold H8 at h
      have bf':∀ {c:Bool} {b:Option (Out Unit Bool)},(bif c then some (.ret false)else b)=some (.next ())→c=false∧b=some (.next ()):=fun {c b} h=>by
        cases c with
        | false=>exact ⟨rfl,h⟩
        | true=>cases h
      obtain⟨c1,h⟩:=bf' h
      obtain⟨c2,h⟩:=bf' h
      have c1:=Ako c1
      have c2:=Ako c2
      refine⟨by omega,fun y h0 hy=>?_⟩
      rw[Akq (by omega),cond_true,Ra h0 (by omega),A9 hy,Aku]at h
      have:=Ako (bf' h).1
      omega
    have wb:Inc l:=W46.r7 fun k x y hx hy=>(key (k+1) x hx).2 y (by omega) (by simpa using hy)
    by_cases e0:l.length=0
    ·omega
    ·have hx:l[l.length - 1]? =some (l[l.length - 1]'(by omega)):=Aks (by omega)
     have g1:=W46.hY wb (fun x hx=>by obtain⟨i,hi⟩:=List.mem_iff_getElem?.1 hx;exact(key i x hi).1.1) _ _ hx
     have g2:=(key _ _ hx).1.2
     omega
theorem Abw {l:List Bi} (hl:∀ b∈l,b.Zones.length≤9223372036854775807) (e:Iz l=some 0):∀ b∈l,b.Zones.length≤32:=by
  unfold Iz at e
  obtain⟨_,e⟩:=bz e (by decide)
  obtain⟨h,_⟩:=Nr (fun i x s=>by
    unfold Fe
    repeat' first | exact Dw.ret (by decide) | exact Dw.next _ | refine Dw.bif (fun _=>?_) (fun _=>?_) | refine Dw.bind fun _ _=>?_) e
  intro b hb
  obtain⟨i,hi⟩:=List.mem_iff_getElem?.1 hb
  have:=h i b hi
  unfold Fe at this
  obtain⟨y,h1,h2⟩:=Ah (bn (bn (bn (bn (bn (bn (bn (bn (bn (bn this).2).2).2).2).2).2).2).2).2).2
  have hy:=(bn h2).1
  have:y=true:=by simpa using hy
  subst this
  exact nA (hl b hb) h1
theorem xJ {f:Af} (e:Kt f=some 0):I4 f.Map=some 0∧Ix f.Closures=some 0∧Iw f.Patrol=some 0∧Pz f.Surfaces=some 0∧No f.Slides=some 0∧Iz f.Bulletin=some 0∧Iy f.Missions=some 0∧Np f.Winches=some 0∧Nq f.Groomers=some 0:=by
  unfold Kt at e
  obtain⟨y1,h1,e⟩:=Ah e
  obtain⟨y2,h2,e⟩:=Ah e
  obtain⟨y3,h3,e⟩:=Ah e
  obtain⟨y4,h4,e⟩:=Ah e
  obtain⟨y5,h5,e⟩:=Ah e
  obtain⟨y6,h6,e⟩:=Ah e
  obtain⟨y7,h7,e⟩:=Ah e
  obtain⟨y8,h8,e⟩:=Ah e
  obtain⟨y9,h9,e⟩:=Ah e
  unfold Ki at e
  rw[if_pos (by decide)]at e
  obtain⟨h,_⟩:=Nr (fun i x s=>by
    unfold Gc
    refine Dw.bind fun y hy=>?_
    exact Dw.bif (fun hc=>Dw.ret (Akp hc)) fun _=>Dw.next _) e
  have key:∀ (k:Nat) y,k<9→[y1,y2,y3,y4,y5,y6,y7,y8,y9][k]? =some y→y=0:=by
    intro k y hk hy
    have:=h k () (by rw[List.getElem?_replicate,if_pos hk])
    unfold Gc at this
    rw[A9 hy,Aku]at this
    simpa using(bn this).1
  have k1:=key 0 y1 (by decide) rfl
  have k2:=key 1 y2 (by decide) rfl
  have k3:=key 2 y3 (by decide) rfl
  have k4:=key 3 y4 (by decide) rfl
  have k5:=key 4 y5 (by decide) rfl
  have k6:=key 5 y6 (by decide) rfl
  have k7:=key 6 y7 (by decide) rfl
  have k8:=key 7 y8 (by decide) rfl
  have k9:=key 8 y9 (by decide) rfl
  subst k1 k2 k3 k4 k5 k6 k7 k8 k9
  exact⟨h1,h2,h3,h4,h5,h6,h7,h8,h9⟩
structure FOK (f:Af):Prop where
  map:Li f.Map
  clo:∀ c∈f.Closures,1≤c.By∧c.By≤6
  lists:∀ x∈f.Patrol.Bl,x.List_.Items.length≤64∧x.List_.Signs.length≤200
  listsL:f.Patrol.Bl.length≤64
  slides:S50.bI f.Slides
  misL:f.Missions.length≤64
  mis:∀ m∈f.Missions,1≤m.Slide∧m.Slide≤9999
  ropes:W46.fR f.Winches
  bul:∀ b∈f.Bulletin,b.Zones.length≤32
  packs:∀ p∈f.Packs,(0≤p.Pack.Natural∧p.Pack.Natural≤20000)∧(0≤p.Pack.Machine∧p.Pack.Machine≤20000)∧50≤p.Pack.Density∧p.Pack.Density≤900
  liftsL:f.Lifts.length≤32
  packsL:f.Packs.length≤64
  statL:f.Status.length≤64
  stat:∀ x∈f.Status,(Gv f.Map x.Run).2=true
  statR:Fv A4.Run f.Status
theorem yM {f:Af} (hi:wS f) (hs:f.Slides.length≤9223372036854775807) (e:Iv f=some 0):FOK f:=by
  unfold Iv at e
  obtain⟨y,hp,e⟩:=Ah e
  have hy:y=0:=by
    by_cases h:y=0
    ·exact h
    ·rw[Akq (p:=y≠0) h]at e
     exact Ak0 e
  subst hy
  rw[show decide ((0:Int)≠0)=false from rfl,cond_false]at e
  obtain⟨p1,p2,p3,p4,p5,p6,p7,p8,p9⟩:=xJ hp
  obtain⟨l1,e⟩:=bz e (by decide)
  obtain⟨l2,e⟩:=bz e (by decide)
  obtain⟨l3,e⟩:=bz e (by decide)
  have l1:=Ako l1
  have l2:=Ako l2
  have l3:=Ako l3
  obtain⟨_,e⟩:=Nr (fun i x s=>by
    unfold N6
    repeat' first | exact Dw.ret (by decide) | exact Dw.next _ | refine Dw.bif (fun _=>?_) (fun _=>?_) | refine Dw.bind fun _ _=>?_) e
  unfold Kv at e
  obtain⟨hpk,e⟩:=Nr (fun i x s=>by
    unfold Kw
    repeat' first | exact Dw.ret (by decide) | exact Dw.next _ | refine Dw.bif (fun _=>?_) (fun _=>?_) | refine Dw.bind fun _ _=>?_) e
  unfold Ku at e
  obtain⟨iw,_⟩:=Nr (fun i x s=>by
    unfold Kx
    repeat' first | exact Dw.ret (by decide) | exact Dw.next _ | refine Dw.bif (fun _=>?_) (fun _=>?_) | refine Dw.bind fun _ _=>?_) e
  obtain⟨r10,a1,a2⟩:=rI f.Map
  rw[p1]at a1;obtain rfl:=Ak0 a1
  obtain⟨r50,b1,b2,b3⟩:=S50.Wm f.Slides ⟨hs,hi.zones⟩
  rw[p5]at b2;obtain rfl:=Ak0 b2
  obtain⟨r46,c1,c2,c3⟩:=W46.nO hi.runs
  rw[p8]at c1;obtain rfl:=Ak0 c1
  have hP:=xU p3
  have hM:=Abm p7
  have stat:∀ (i:Nat) (x:A4),f.Status[i]? =some x→(Gv f.Map x.Run).2=true∧∀ y,0<i→f.Status[i - 1]? =some y→y.Run<x.Run:=by
    intro i x hx
    have af:=(Ak1.1 hx).1
    have h:=iw i x hx
    unfold Kx at h
    rw[aB,Aku]at h
    by_cases h0:(0:Int)<((i:Nat):Int)
    ·rw[Akq h0,cond_true]at h
     obtain⟨y,h1,h2⟩:=c8 af (by omega) (by omega)
     rw[h1,Aku]at h
     obtain⟨g1,h⟩:=bn h
     have g2:=(bn h).1
     refine⟨by simpa using g2,fun z _ hz=>?_⟩
     rw[h2]at hz;obtain rfl:=Ak0 hz
     have:=Ako g1;omega
    ·rw[Akr h0,cond_false]at h
     have g2:=(bn h).1
     exact⟨by simpa using g2,fun z h _=>by omega⟩
  refine⟨a2.1 rfl,Abv p2,hP.2.2,hP.1,b3.1 rfl,hM.1,hM.2,c3.1 rfl,Abw hi.bzones p6,fun p hp=>?_,by omega,by omega,by omega,fun x hx=>?_,?_⟩
  ·obtain⟨i,hi⟩:=List.mem_iff_getElem?.1 hp
   have:=hpk i p hi
   unfold Kw at this
   obtain⟨_,this⟩:=bn this
   obtain⟨_,this⟩:=bn this
   rw[mB,Aku]at this
   exact bnot (bn this).1
  ·obtain⟨i,hi⟩:=List.mem_iff_getElem?.1 hx
   exact(stat i x hi).1
  ·exact fun k x y hx hy=>(stat (k+1) x hx).2 y (by omega) (by simpa using hy)
theorem tZ {f:Af} (h:Sj f):wS f:=by
  obtain⟨_,_,_,h4,_,_,h7,h8,_,ob,_⟩:=h
  exact⟨fun x hx=>⟨(h4.1.2 x hx).2.1.1,(h4.1.2 x hx).2.2.2.1⟩,fun x hx=>⟨(h7.2 x hx).2.1.1,(h7.2 x hx).2.2.1.1⟩,fun x hx=>(h8.2 x hx).2.2.2.2.1.1,fun x hx=>(ob.2 x hx).2.2.2.1⟩
def signed (l:Bq) (t x:Int) (s:F2):Bool:=decide (s.Item=x)&&(decide (s.At≤t)&&decide (t<IntKind.i64.wrap (s.At+l.Every)))
def opens (l:Bq) (t:Int):List Int:=l.Items.filter fun x=>!l.Signs.any (signed l t x)
theorem xZ {l:Bq} (t:Int) (h:l.Items.length≤1000):L3 l t=some (opens l t):=by
  unfold L3
  rw[Df (step:=Jr l t) (p:=fun x=>!l.Signs.any (signed l t x)) (g:=id) (by omega) (fun k x s hx=>by
   unfold Jr
   rw[Fk (step:=Jq l t s x) (signed l t x) (fun _=>Out.next s) (fun k' y _=>by
    unfold Jq signed
    rw[Akq (Int.natCast_nonneg k')]
    cases decide (y.Item=x)<;>cases decide (y.At≤t)<;>cases decide (t<IntKind.i64.wrap (y.At+l.Every))<;>rfl)]
   cases hf:l.Signs.find? (signed l t x)with
   | none=>
     have:l.Signs.any (signed l t x)=false:=by rw[List.any_eq_false];exact List.find?_eq_none.1 hf
     rw[this];rfl
   | some y=>
     have:l.Signs.any (signed l t x)=true:=by rw[List.any_eq_true];exact⟨y,List.mem_of_find?_eq_some hf,List.find?_some hf⟩
     rw[this];rfl)]
  rw[List.map_id];rfl
theorem zZ (l:Bq) (x t:Int):∃ r,cM l x t=some r∧decide (r=t)= !l.Signs.any (signed l t x):=by
  unfold cM
  obtain⟨s',h1,h2,h3⟩:=Eb (ρ:=Int) (step:=U0 l x t) (l:=l.Signs) (s:=t) (fun k s=>t≤s∧(s=t↔∀ y∈l.Signs.take k,signed l t x y=false)) ⟨Int.le_refl _,by simp⟩ (fun k y s hk ⟨i1,i2⟩=>by
    have fin:∀ s2,t≤s2→(s2=t↔s=t∧signed l t x y=false)→(t≤s2∧(s2=t↔∀ z∈l.Signs.take (k+1),signed l t x z=false)):=fun s2 a b=>by
      refine⟨a,?_⟩
      rw[b,i2,Bz hk]
      constructor
      ·rintro⟨h1,h2⟩ z hz
       rw[Akz,List.mem_singleton]at hz
       rcases hz with hz | rfl
       ·exact h1 z hz
       ·exact h2
      ·intro h
       exact⟨fun z hz=>h z (List.mem_append_left _ hz),h y (by simp)⟩
    unfold U0
    by_cases c1:y.Item=x
    ·by_cases c2:y.At≤t
     ·by_cases c3:t<IntKind.i64.wrap (y.At+l.Every)
      ·rw[Akq c1,Akq c2,Akq c3]
       refine⟨_,rfl,fin _ (by split<;>omega) ?_⟩
       have:signed l t x y=true:=by unfold signed;rw[Akq c1,Akq c2,Akq c3];rfl
       rw[this]
       constructor
       ·intro h;split at h<;>omega
       ·rintro⟨_,h⟩;cases h
      ·rw[Akq c1,Akq c2,Akr c3]
       refine⟨_,rfl,fin _ i1 ?_⟩
       have:signed l t x y=false:=by unfold signed;rw[Akq c1,Akq c2,Akr c3];rfl
       rw[this];simp
     ·rw[Akq c1,Akr c2]
      refine⟨_,rfl,fin _ i1 ?_⟩
      have:signed l t x y=false:=by unfold signed;rw[Akr c2];simp
      rw[this];simp
    ·rw[Akr c1]
     refine⟨_,rfl,fin _ i1 ?_⟩
     have:signed l t x y=false:=by unfold signed;rw[Akr c1];rfl
     rw[this];simp)
  rw[List.take_length]at h3
  rw[h1]
  refine⟨s',rfl,?_⟩
  rw[Bool.eq_iff_iff,decide_eq_true_iff,h3,Bool.not_eq_true',List.any_eq_false]
  simp
theorem rE {l:Bq} (t:Int) (h:l.Items.length≤1000):Zj l t=some (opens l t):=by
  unfold Zj
  rw[Df (step:=Tk l t) (p:=fun x=>!l.Signs.any (signed l t x)) (g:=id) (by omega) (fun k x s hx=>by
   unfold Tk
   obtain⟨r,h1,h2⟩:=zZ l x t
   rw[h1,Aku,h2];rfl)]
  rw[List.map_id];rfl
theorem Aas {l:Bq} (t:Int) (h:l.Items.length≤1000):Ow l t=U2 l t∧Tot (U2 l t):=by
  unfold Ow U2
  rw[xZ t h,rE t h]
  exact⟨rfl,Tot.some _⟩
theorem xG {p:B9} (run t:Int) (h:∀ x∈p.Bl,x.List_.Items.length≤64):Ag (Lu p run t) (Sw p run t):=by
  obtain⟨r,h1,h2⟩:=tU (step:=Nm run) (l:=p.Bl) (fun x=>decide (x.Run=run)) (fun k x _=>by unfold Nm;rfl)
  have e2:N7 p run=some r:=h1
  have e1:K9 p run=some r:=h1
  unfold Lu Sw
  rw[e1,e2,Aku,Aku]
  rcases h2 with⟨rfl,_⟩ | ⟨k,x,rfl,hx,_⟩
  ·exact Ag.some _
  ·rw[Akr (p:=((k:Nat):Int)<0) (by omega),cond_false,cond_false,A9 hx,Aku,Aku]
   obtain⟨d1,d2⟩:=Aas (l:=x.List_) t (by have:=h x (Akt hx);omega)
   rw[d1]
   refine Ag.bind (Ag.refl d2) fun y _ _=>Ag.bif rfl (fun _=>Ag.some _) fun _=>?_
   refine Ag.bind (Ag.An fun i z s _=>?_) fun o _ _=>Ag.on fun _ _=>Ag.some _
   unfold M6 Wq
   rw[Akq (Int.natCast_nonneg i)]
   exact Ag.bif rfl (fun _=>Ag.some _) fun _=>Ag.some _
theorem yU {p:F3} (h:(0≤p.Natural∧p.Natural≤20000)∧(0≤p.Machine∧p.Machine≤20000)∧50≤p.Density∧p.Density≤900):∃ d,Kq p=some (d,0)∧Wy p=some (d,0):=by
  unfold Kq Wy N3
  rw[kO,mB,Akq h]
  simp only[Aku,Bool.not_true,cond_false]
  rw[gM (by omega)]
  exact⟨_,rfl,rfl⟩
theorem sC {f:Af} (F:FOK f) (run:Int):Ag (Fo f run) (Uw f run):=by
  unfold Fo Uw
  refine Ag.bind (Ag.An fun i x s hx=>?_) fun o _ _=>Ag.on fun _ _=>Ag.some _
  unfold G2 Y1
  refine Ag.bif rfl (fun _=>?_) fun _=>Ag.some _
  obtain⟨d,h1,h2⟩:=yU (F.packs x (Akt hx))
  rw[h1,h2,Akr (p:=((i:Nat):Int)<0) (by omega)]
  exact⟨_,rfl,rfl⟩
theorem FOK.few {f:Af} (F:FOK f):W46.Few f.Winches:=⟨by have:=F.ropes.len;omega,fun w hw=>by have:=(F.ropes.rope w hw).runs.len;omega⟩
theorem vU {most:Int} {l:List Int} (h:S50.Tc most l) (hm:most≤100):l.length≤100:=by
  by_cases e:l.length=0
  ·omega
  ·have hx:l[l.length - 1]? =some (l[l.length - 1]'(by omega)):=Aks (by omega)
   have h1:=W46.hY h.2 (fun x hx=>(h.1 x hx).1) _ _ hx
   have h2:=(h.1 _ (Akt hx)).2
   omega
theorem FOK.small {f:Af} (F:FOK f):S50.Small f.Slides:=⟨by have:=F.slides.1;omega,fun s hs=>⟨vU (F.slides.at hs).2.2.1 (by decide),trivial⟩⟩
theorem zY {f:Af} (F:FOK f) (run zone:Int) :
    Ag ((E8 f).bind fun y5=>(Gt f.Slides y5).bind fun y6=>(Br y6 zone).bind fun y7=>(bif y7 then some (10:Int)else (Lu f.Patrol run f.Time).bind fun y8=>(bif (!y8)then some (14:Int)else (Fo f run).bind fun y9=>(bif (!y9)then some (5:Int)else some (0:Int)))))
     ((Q5 f).bind fun y6=>(Wt f.Slides y6).bind fun y7=>(Gw y7 zone).bind fun y8=>(bif y8 then some (10:Int)else (Sw f.Patrol run f.Time).bind fun y9=>(bif (!y9)then some (14:Int)else (Uw f run).bind fun cf=>(bif (!cf)then some (5:Int)else some (0:Int))))):=by
  obtain⟨L,h1,h2,h3⟩:=vL F.map
  rw[h1,h2,Aku,Aku,S50.wU F.small (fun x hx=>(F.slides.at hx).1) (by omega),S50.nX F.small F.slides (by omega),Aku,Aku,contains_eq,Wl,Aku,Aku]
  refine Ag.bif rfl (fun _=>Ag.some _) fun _=>?_
  refine Ag.bind (xG run f.Time fun x hx=>(F.lists x hx).1) fun y _ _=>Ag.bif rfl (fun _=>Ag.some _) fun _=>?_
  exact Ag.bind (sC F run) fun y _ _=>Ag.bif rfl (fun _=>Ag.some _) fun _=>Ag.some _
theorem S8 {f:Af} {run:Int} (h:(Gv f.Map run).2=false):Dd f run=some 8:=by
  unfold Dd
  rw[Q0,Aku,h];rfl
theorem dM {f:Af} (F:FOK f) {run:Int} (h:(Gv f.Map run).2=true):Ag (Dd f run) (Sv f (Gv f.Map run).1):=by
  have hID:=(bR h).2
  unfold Dd Sv
  rw[Q0,Aku,h,Bool.not_true,cond_false,hID]
  rw[Aau f.Map f.Closures run h,xH F.clo run h,Aku,Aku]
  refine Ag.bif rfl (fun _=>Ag.some _) fun _=>?_
  rw[Abs,zX,Aku,Aku,W46.w5 F.few,W46.uX F.ropes,Aku,Aku,contains_eq,Wl,Aku,Aku]
  rw[sH f _ (by have:=F.misL;omega),oA f _ F.mis,Aku,Aku]
  unfold Ez
  have R:=zY F run (Gv f.Map run).1.Zone
  cases gon f.Groomers run with
  | true=>exact Ag.some _
  | false=>
    cases decide (run∈norm (W46.Ks f.Winches f.Time))with
    | true=>exact Ag.some _
    | false=>
      cases blasted f (Gv f.Map run).1.Zone with
      | true=>exact Ag.some _
      | false=>exact R
theorem iW {f:Af} (F:FOK f) (run:Int):Tot (Dd f run):=by
  cases h:(Gv f.Map run).2 with
  | false=>exact ⟨8,S8 h⟩
  | true=>obtain ⟨e,h1,_⟩:=dM F h;exact⟨e,h1⟩
def Fj (f:Af) (run:Int):Bool:=decide (Dd f run=some 0)
theorem yI {f:Af} {run:Int} (h:Fj f run=true):(Gv f.Map run).2=true:=by
  cases e:(Gv f.Map run).2 with
  | true=>rfl
  | false=>unfold Fj at h;rw[S8 e]at h;cases h
theorem Ye {f:Af} {run e:Int} (h:Dd f run=some e):Fj f run=decide (e=0):=by
  unfold Fj;rw[h];simp
def pub (f:Af):List Int:=(f.Lifts.filter fun x=>decide (x.Mode=1)).map Cs.Lift
theorem cT {f:Af} (F:FOK f):F8 f=some (pub f)∧N5 f=some (pub f):=by
  have:=F.liftsL
  constructor
  ·unfold F8
   rw[Df (step:=Hr) (p:=fun x=>decide (x.Mode=1)) (g:=Cs.Lift) (by omega) (fun k x s _=>rfl)];rfl
  ·unfold N5
   rw[Df (step:=Vz) (p:=fun x=>decide (x.Mode=1)) (g:=Cs.Lift) (by omega) (fun k x s _=>rfl)];rfl
theorem dF {m:Bd} (M:Li m) (lifts runs:List Int) (run:Int):∃ b,Rk m lifts runs run=some b∧P3 m lifts runs run=some b∧(b=true↔(Gv m run).2=true∧RR m lifts runs (Gv m run).1.From):=by
  obtain⟨a,e1,f1⟩:=l8 M lifts runs
  obtain⟨a',e2,f2⟩:=jI M lifts runs
  obtain rfl:=f1.unique f2
  unfold Rk P3
  rw[Q0,aB,Aku,Aku]
  cases h:(Gv m run).2 with
  | false=>exact ⟨false,rfl,rfl,by simp⟩
  | true=>exact ⟨decide ((Gv m run).1.From∈a),by simp[e1,contains_eq],by simp[e2,fJ],by simp[f1.mem]⟩
def Lnk (f:Af) (op:List Int) (run:Int):Prop:=((Gv f.Map run).2=true∧RR f.Map (pub f) op (Gv f.Map run).1.From)∧HH f.Map op (Gv f.Map run).1.To
noncomputable def lnk (f:Af) (op:List Int) (run:Int):Bool:=@decide (Lnk f op run) (Classical.propDecidable _)
theorem R6 {f:Af} {op:List Int} {run:Int}:lnk f op run=true↔Lnk f op run:=by unfold lnk;exact @decide_eq_true_iff _ (Classical.propDecidable _)
theorem xT {f:Af} {op op':List Int} {run:Int} (h:∀ x∈op,x∈op') (hl:lnk f op run=true):lnk f op' run=true:=by
  rw[R6]at *
  refine⟨⟨hl.1.1,Rch.mono (fun e he=>?_) (fun n hn=>hn) hl.1.2⟩,Rch.mono (fun e he=>?_) (fun n hn=>hn) hl.2⟩
  ·rcases Akz.1 he with he | he
   ·exact Akz.2 (.inl he)
   ·exact Akz.2 (.inr (lL h e he))
  ·exact gU.2 (lL h _ (gU.1 he))
theorem kU {f:Af} (F:FOK f) (op:List Int) (run:Int):El f op run=some (lnk f op run):=by
  obtain⟨b,h1,_,h3⟩:=dF F.map (pub f) op run
  obtain⟨r,g1,g2⟩:=Aal F.map op
  unfold El
  rw[Q0,Aku,(cT F).1,Aku,h1,Aku,g1,Aku,contains_eq,Aku]
  cases b with
  | false=>
    have:lnk f op run=false:=by
      rw[Bool.eq_false_iff];intro h;have:=h3.2 (R6.1 h).1;cases this
    rw[this];rfl
  | true=>
    rw[cond_true]
    congr 1
    rw[Bool.eq_iff_iff,decide_eq_true_iff,R6,g2.mem]
    exact⟨fun h=>⟨h3.1 rfl,h⟩,fun h=>h.2⟩
theorem rF {f:Af} (F:FOK f) (op:List Int) {run:Int} {α:Type} (A B:Option α):((N5 f).bind fun y3=>(P3 f.Map y3 op run).bind fun y4=>(bif (!y4)then A else(Ru f.Map op).bind fun y5=>(Gw y5 (Gv f.Map run).1.To).bind fun y6=>(bif (!y6)then A else B)))=(bif lnk f op run then B else A):=by
  obtain⟨b,_,h1,h3⟩:=dF F.map (pub f) op run
  obtain⟨r,g1,g2⟩:=nP F.map op
  rw[(cT F).2,Aku,h1,Aku,g1,Aku,Wl,Aku]
  cases b with
  | false=>
    have:lnk f op run=false:=by
      rw[Bool.eq_false_iff];intro h;have:=h3.2 (R6.1 h).1;cases this
    rw[this];rfl
  | true=>
    have:lnk f op run=decide ((Gv f.Map run).1.To∈r):=by
      rw[Bool.eq_iff_iff,decide_eq_true_iff,R6,g2.mem]
      exact⟨fun h=>h.2,fun h=>⟨h3.1 rfl,h⟩⟩
    rw[this]
    cases decide ((Gv f.Map run).1.To∈r)<;>rfl
noncomputable def Qv (f:Af) (op:List Int) (run:Int):Bool:=Fj f run&&lnk f op run
theorem bN {f:Af} (F:FOK f) (op:List Int) (run:Int):∃ e,Cw f op run=some e∧Uf f op run=some e∧decide (e=0)=Qv f op run:=by
  unfold Cw Uf Qv
  rw[aB,Aku]
  cases h:(Gv f.Map run).2 with
  | false=>
    rw[Ye (S8 h),S8 h]
    exact⟨8,rfl,rfl,rfl⟩
  | true=>
    obtain⟨e,h1,h2⟩:=dM F h
    rw[Ye h1,h1,h2,Aku,Bool.not_true,cond_false,Aku]
    by_cases h0:e=0
    ·subst h0
     rw[show decide ((0:Int)≠0)=false from rfl,cond_false,cond_false,rF F op,kU F,Aku]
     cases lnk f op run with
     | true=>exact ⟨0,rfl,rfl,rfl⟩
     | false=>exact ⟨16,rfl,rfl,rfl⟩
    ·rw[Akq (p:=e≠0) h0,Akr h0]
     exact⟨e,rfl,rfl,by rw[Akr h0];rfl⟩
theorem Aan {L:List Int→Int→Bool} (s:List Int):gfp L (stp L s)=gfp L s:=by
  have h1:stp L (iter L ((stp L s).length+1) s)=iter L ((stp L s).length+1) s:=S0 (L:=L) _ (stp L s) (Nat.le_refl _)
  exact eI h1
theorem L6 {l:List Int} (h:l.length≤549755813888):Cc l=some l:=by unfold Cc;rw[B1 h]
theorem Aah {f:Af} (F:FOK f) {s:List Int} (h:s.length≤1000):An (Fq f s) 0 s []=some (.next (stp (lnk f) s)):=by
  rw[Df (step:=Fq f s) (p:=lnk f s) (g:=id) (by omega) (fun k x t _=>by unfold Fq;rw[kU F,Aku];rfl),List.map_id];rfl
theorem kV {f:Af} (F:FOK f) {s:List Int} (h:s.length≤1000):D6 (D1 f) fuel s=some (.ret (gfp (lnk f) s)):=by
  obtain⟨r,h1,h2⟩:=Hd (step:=D1 f) (fun t=>t.length≤1000∧gfp (lnk f) t=gfp (lnk f) s) (fun r=>r=gfp (lnk f) s) (fun t=>t.length) (by
    rintro t ⟨i1,i2⟩
    have hl:=(fI (L:=lnk f) t).length_le
    unfold D1
    rw[Aah F i1,Aku]
    show(∃ s',(bif _ then _ else _)=_∧_)∨(∃ r,(bif _ then _ else _)=_∧_)
    by_cases e:(stp (lnk f) t).length=t.length
    ·rw[Akq (by omega)]
     refine .inr ⟨_,rfl,?_⟩
     have e2:=tG e
     rw[e2,← i2]
     exact(W5 e2 _).symm
    ·rw[Akr (by omega)]
     exact .inl ⟨_,rfl,⟨by omega,by rw[Aan,i2]⟩,by omega⟩) fuel s ⟨h,rfl⟩ (by unfold fuel;omega)
  rw[h1,h2]
theorem xY {f:Af} (F:FOK f) {s:List Int} (h:s.length≤1000) {k:Nat} {x:Int} (hk:s[k]? =some x) (hx:Fj f x=false) (hb:(s.take k).filter (Fj f)=s.take k) :
    D6 (D9 f) fuel ((k:Int),(k:Int)+1,s)=some (.ret (gfp (lnk f) (s.filter (Fj f)))):=by
  have af:=(Ak1.1 hk).1
  obtain⟨r,h1,h2⟩:=Hd (step:=D9 f) (fun v=>∃ i j:Nat,v.1=(i:Int)∧v.2.1=(j:Int)∧i<j∧j≤s.length∧v.2.2.length=s.length∧v.2.2.take i=(s.take j).filter (Fj f)∧v.2.2.drop j=s.drop j) (fun r=>r=gfp (lnk f) (s.filter (Fj f))) (fun v=>(s.length - v.2.1).toNat) (by
    rintro⟨iv,jv,l⟩ ⟨i,j,rfl,rfl,oq,hj,hl,ht,hd⟩
    dsimp only at *
    unfold D9
    dsimp only
    by_cases hjn:j<l.length
    ·rw[Akq (by omega),cond_true]
     have hy:l[j]? =some (l[j]'hjn):=Aks hjn
     generalize l[j]'hjn=y at hy
     have xf:s[j]? =some y:=by
       have:(l.drop j)[0]? =some y:=by rw[List.getElem?_drop];exact hy
       rw[hd,List.getElem?_drop]at this;exact this
     obtain⟨e,he⟩:=iW F y
     rw[A9 hy,Aku,he,Aku]
     have xl:(!decide (e≠0))=Fj f y:=by rw[Ye he];by_cases e0:e=0<;>simp[e0]
     have wi:IntKind.i64.wrap ((i:Int)+1)=((i+1:Nat):Int):=O3 (by omega)
     have wj:IntKind.i64.wrap ((j:Int)+1)=((j+1:Nat):Int):=O3 (by omega)
     have hts:(s.take (j+1)).filter (Fj f)=(s.take j).filter (Fj f)++[y].filter (Fj f):=by rw[Bz xf,List.filter_append]
     rw[xl,wi,wj]
     have hd2:∀ l':List Int,l'.drop j=s.drop j→l'.drop (j+1)=s.drop (j+1):=fun l' h=>by
       have:=congrArg (List.drop 1) h
       rwa [List.drop_drop,List.drop_drop]at this
     cases hf:Fj f y with
     | false=>
       rw[cond_false]
       refine .inl ⟨_,rfl,⟨i,j+1,rfl,rfl,by omega,by omega,hl,?_,hd2 _ hd⟩,by dsimp only;omega⟩
       rw[hts,ht,List.filter_cons_of_neg (by rw[hf];decide),List.filter_nil,List.append_nil]
     | true=>
       rw[cond_true]
       have hi:l[i]? =some (l[i]'(by omega)):=Aks (by omega)
       rw[A9 hi,Aku]
       refine .inl ⟨_,rfl,⟨i+1,j+1,rfl,rfl,by omega,by omega,by simp[hl],?_,?_⟩,by dsimp only;omega⟩
       ·rw[hts,List.filter_cons_of_pos hf,List.filter_nil,← ht,Int.toNat_natCast]
        have mz:(l.set i y)[i]? =some y:=by rw[List.getElem?_set_self (by omega)]
        rw[Bz mz,List.take_set_of_le (Nat.le_refl _)]
       ·rw[Int.toNat_natCast]
        refine hd2 _ ?_
        rw[List.drop_set_of_lt oq];exact hd
    ·have e:j=s.length:=by omega
     subst e
     rw[Akr (by omega),cond_false,Nh (by omega),Nh (by omega),Int.toNat_natCast]
     rw[List.take_length]at ht
     have hti:((l.take i)++(List.replicate (l.length - i) (0:Int))).take i=s.filter (Fj f):=by
       rw[List.take_append_of_le_length (by rw[List.length_take];omega),List.take_take,Nat.min_self,ht]
     rw[hti]
     have:=kV F (s:=s.filter (Fj f)) (by have:=List.length_filter_le (Fj f) s;omega)
     have e5:Kd f=D1 f:=rfl
     rw[e5,this]
     exact .inr ⟨_,rfl,rfl⟩) fuel ((k:Int),(k:Int)+1,s) ⟨k,k+1,rfl,rfl,by omega,by omega,rfl,(by dsimp only;rw[Bz hk,List.filter_append,hb,List.filter_cons_of_neg (by rw[hx];decide),List.filter_nil,List.append_nil]),rfl⟩ (by unfold fuel;dsimp only;omega)
  ·rw[h1,h2]
noncomputable def Qw (f:Af) (runs:List Int):List Int:=gfp (lnk f) ((norm runs).filter (Fj f))
theorem xM (xs:List Int):(norm xs).length≤xs.length:=Gq (Um xs).nodup fun x hx=>(Ul xs x).1 hx
theorem tT {f:Af} (F:FOK f) {runs:List Int} (h:runs.length≤1000):Fi f runs=some (Qw f runs):=by
  have hl:=xM runs
  unfold Fi
  rw[L6 (by omega),Aku,B1 (by omega),B1 (by omega)]
  show((An (Fs f runs) 0 (norm runs) ()).bind fun o1=>o1.on fun s1=>(D6 (D1 f) fuel (norm runs)).bind fun o33=>o33.on fun _=>none)=_
  rcases E9 (step:=Fs f runs) (l:=norm runs) (s:=()) (fun k _=>((norm runs).take k).filter (Fj f)=(norm runs).take k) (fun r=>r=Qw f runs) rfl (fun k x u hk hI=>by
    have af:=(Ak1.1 hk).1
    obtain⟨e,he⟩:=iW F x
    unfold Fs
    rw[he,Aku]
    by_cases e0:e=0
    ·rw[Akr (p:=e≠0) (fun h=>h e0)]
     refine .inl ⟨_,rfl,?_⟩
     have hf:Fj f x=true:=by rw[Ye he,Akq e0]
     rw[Bz hk,List.filter_append,hI,List.filter_cons_of_pos hf,List.filter_nil]
    ·rw[Akq (p:=e≠0) e0,cond_true,Akr (p:=((k:Nat):Int)= -1) (by omega),cond_false]
     have hf:Fj f x=false:=by rw[Ye he,Akr e0]
     have key:=xY F (s:=norm runs) (by omega) hk hf hI
     have hw:IntKind.i64.wrap (((k:Nat):Int)+1)=(k:Int)+1:=by rw[O3 (by omega)];rfl
     change (∃ s',((D6 (D9 f) fuel (((k:Nat):Int),IntKind.i64.wrap (((k:Nat):Int)+1),norm runs)).bind fun o16=>o16.on fun _=>none).bind (fun q30=>some (Out.ret q30))=_∧_)∨(∃ r,((D6 (D9 f) fuel (((k:Nat):Int),IntKind.i64.wrap (((k:Nat):Int)+1),norm runs)).bind fun o16=>o16.on fun _=>none).bind (fun q30=>some (Out.ret q30))=_∧_)
     rw[hw,key]
     exact .inr ⟨_,rfl,rfl⟩)with ⟨s',h1,h2⟩ | ⟨r,h1,rfl⟩
  ·rw[List.take_length]at h2
   rw[h1]
   show(D6 (D1 f) fuel (norm runs)).bind _=_
   rw[kV F (by omega)]
   unfold Qw
   rw[h2];rfl
  ·rw[h1];rfl
theorem Uu {α:Type} {idf:α→Int} {l:List α} (h:Fv idf l):Inc (l.map idf):=W46.r7 fun k x y hx hy=>by
  rw[List.getElem?_map]at hx hy
  obtain⟨a,ha,rfl⟩:=Option.map_eq_some_iff.1 hx
  obtain⟨b,hb,rfl⟩:=Option.map_eq_some_iff.1 hy
  exact h k a b ha hb
theorem c7 {l:List Int} (h:Inc l) (p:Int→Bool):Inc (l.filter p):=List.Pairwise.filter p h
theorem hZ {l l':List Int} (h:Inc l) (hs:l'.Sublist l):Inc l':=List.Pairwise.sublist hs h
theorem vQ {L:List Int→Int→Bool} (n:Nat) (s:List Int):iter L (n+1) s=stp L (iter L n s):=by rw[hX n 1 s];rfl
theorem nN {f:Af} (F:FOK f) (runs:List Int):Zi f runs=some (Qw f runs):=by
  have hR:=F.map.lenR
  unfold Zi
  rw[Df (step:=Th f runs) (p:=fun x=>decide (x.ID∈runs)&&Fj f x.ID) (g:=Cq.ID) (by omega) (fun k x t hx=>by
   unfold Th
   have hm:=nL F.map hx
   have h1:=dM F (run:=x.ID) (by rw[hm])
   rw[hm]at h1
   obtain⟨e,h2,h3⟩:=h1
   rw[Wl,Aku,h3,Aku,Ye h2]
   cases decide (x.ID∈runs)<;>rfl)]
  show Tg f _=_
  generalize pz:(f.Map.Runs.filter fun x=>decide (x.ID∈runs)&&Fj f x.ID).map Cq.ID=now
  have hlen:now.length≤f.Map.Runs.length:=by rw[← pz,Aky];exact List.length_filter_le _ _
  have heq:now=(norm runs).filter (Fj f):=by
    refine Pq ?_ (c7 (Um runs) _) fun x=>?_
    ·rw[← pz]
     exact hZ (Uu F.map.runsR) (List.filter_sublist.map _)
    ·rw[← pz,List.mem_map,List.mem_filter,Ul]
     constructor
     ·rintro⟨y,hy,rfl⟩
      rw[List.mem_filter,Bool.and_eq_true,decide_eq_true_iff]at hy
      exact hy.2
     ·rintro⟨h1,h2⟩
      have hr:=bR (yI h2)
      refine⟨(Gv f.Map x).1,List.mem_filter.2 ⟨hr.1,?_⟩,hr.2⟩
      rw[hr.2,Akq h1,h2];rfl
  unfold Tg
  obtain⟨s',h1,h2⟩:=aQ (ρ:=List Int) (n:=f.Map.Runs.length+1) (step:=Tj f) (s:=now) (by omega) (fun k s=>s=iter (lnk f) k now) rfl (fun k s hk hI=>by
    have hs:s.length≤64:=by rw[hI];exact Nat.le_trans (gZ _ _).length_le (by omega)
    refine⟨stp (lnk f) s,?_,by rw[hI,← vQ]⟩
    obtain⟨r,g1,g2⟩:=nP F.map s
    unfold Tj
    rw[(cT F).2,Aku,g1,Aku]
    rw[Df (step:=Ti f s (pub f) r) (p:=lnk f s) (g:=id) (by omega) (fun k x t hx=>by
     obtain⟨b,_,f1,f3⟩:=dF F.map (pub f) s x
     unfold Ti
     rw[aB,Aku,f1,Aku,Wl,Aku]
     cases b with
     | false=>
       have:lnk f s x=false:=by
         rw[Bool.eq_false_iff];intro h;have:=f3.2 (R6.1 h).1;cases this
       rw[this];rfl
     | true=>
       have:lnk f s x=decide ((Gv f.Map x).1.To∈r):=by
         rw[Bool.eq_iff_iff,decide_eq_true_iff,R6,g2.mem]
         exact⟨fun h=>h.2,fun h=>⟨f3.1 rfl,h⟩⟩
       rw[this];rfl),List.map_id]
    rfl)
  rw[h1,h2]
  show some (iter (lnk f) (f.Map.Runs.length+1) now)=_
  rw[eI (S0 (f.Map.Runs.length+1) now (by omega)),heq];rfl
theorem oY {f:Af} {runs:List Int} {x:Int} (h:x∈Qw f runs):x∈runs∧Fj f x=true:=by
  have:=List.mem_filter.1 ((tV _).subset h)
  rw[Ul]at this;exact this
theorem oZ (f:Af) (runs:List Int):Inc (Qw f runs):=hZ (c7 (Um runs) _) (tV _)
theorem xX {f:Af} {runs:List Int} {x:Int} (h:x∈Qw f runs):Qv f (Qw f runs) x=true:=by
  unfold Qv;rw[(oY h).2];exact yD h
theorem mJ (a b:List Int):O7 a b=some (decide (a=b)):=
  xB fun k x y hx hy=>by unfold Po;rw[A9 hy];rfl
theorem iA {most:Int} {l:List Int} (h:S50.Tc most l):(l.length:Int)≤most∨l.length=0:=by
  by_cases e:l.length=0
  ·exact .inr e
  ·left
   have hx:l[l.length - 1]? =some (l[l.length - 1]'(by omega)):=Aks (by omega)
   have h1:=W46.hY h.2 (fun x hx=>(h.1 x hx).1) _ _ hx
   have h2:=(h.1 _ (Akt hx)).2
   omega
theorem Gs {α ρ:Type} {step:Nat→α→List α→Option (Out (List α) ρ)} {c:α→Option α} {l:List α} (hl:l.length≤1000) (hs:∀ k x s,step k x s=(c x).bind fun y=>chk (s.length+1) (some (.next (s++[y])))) (hc:∀ x∈l,c x=some x):An step 0 l []=some (.next l):=by
  rw[Df (p:=fun _=>true) (g:=id) (by omega) (fun k x s hx=>by rw[hs,hc x hx];rfl),List.map_id,List.filter_eq_self.2 (fun _ _=>rfl)]
theorem y0 {x:Ch} (h:x.List_.Items.length≤64∧x.List_.Signs.length≤200):Db x=some x:=by
  unfold Db Dg
  rw[L6 (by omega),Aku,B1 (by omega)];rfl
theorem yZ {x:Be} (h:S50.Bl x):Da x=some x:=by
  have h1:=iA h.2.1
  have h2:=iA h.2.2
  unfold Da
  rw[L6 (by omega),Aku,L6 (by omega)];rfl
theorem yY {x:Bi} (h:x.Zones.length≤32):C9 x=some x:=by
  unfold C9
  rw[L6 (by omega)];rfl
theorem yX {x:A8} (h:x.Runs.length≤9999):C8 x=some x:=by
  unfold C8
  rw[L6 (by omega)];rfl
def Fm (l:List A4):List Int:=(l.filter fun x=>x.Open).map A4.Run
theorem aI (l:List A4):(Fm l).length≤l.length:=by unfold Fm;rw[Aky];exact List.length_filter_le _ _
theorem Tp {f:Af} (h:f.Status.length≤1000):De f=some (Fm f.Status):=by
  unfold De
  rw[Df (step:=Ga) (p:=fun x=>x.Open) (g:=A4.Run) (by omega) (fun k x s _=>rfl)];rfl
theorem tL {f:Af} (h:f.Status.length≤1000):bW f=some (Fm f.Status):=Tp h
theorem oK {l:List A4} (h:Fv A4.Run l):Inc (Fm l):=hZ (Uu h) (List.filter_sublist.map _)
def L9 (K:List Int) (x:A4):Bool:=x.Open&&!decide (x.Run∈K)
def O4 (K:List Int) (t:Int) (x:A4):A4:=bif L9 K x then⟨x.Run,false,t⟩else x
def Jg (f:Af) (l:List A4):Af:=Af.mk f.Map f.Lifts f.Closures f.Patrol f.Surfaces f.Packs f.Slides f.Bulletin f.Missions f.Winches f.Groomers l f.Depth f.Time
theorem wV (f:Af) (K:List Int) {l:List A4} (hl:l.length≤1000):An (E0 f K) 0 l (l,[])=some (.next (l.map (O4 K f.Time),(l.filter (L9 K)).map A4.Run)):=by
  obtain⟨s',h1,h2⟩:=Eb (ρ:=Af×List Int) (step:=E0 f K) (l:=l) (s:=(l,[])) (fun k s=>s=((l.take k).map (O4 K f.Time)++l.drop k,((l.take k).filter (L9 K)).map A4.Run)) (by simp) (fun k x s hk hI=>by
    have af:=(Ak1.1 hk).1
    have hlen:((l.take k).map (O4 K f.Time)).length=k:=by simp;omega
    have hx:s.1[k]? =some x:=by
      rw[hI];dsimp only
      rw[List.getElem?_append_right (by omega),hlen,Nat.sub_self,List.getElem?_drop];exact hk
    have mg:s.2.length≤k:=by
      rw[hI];dsimp only
      rw[Aky]
      have:=List.length_filter_le (L9 K) (l.take k)
      rw[List.length_take]at this;omega
    have gu:∀ y:A4,s.1.set k y=(l.take k).map (O4 K f.Time)++y::l.drop (k+1):=fun y=>by
      rw[hI];dsimp only
      rw[List.set_append_right _ _ (by omega),hlen,Nat.sub_self,List.drop_eq_getElem_cons af];rfl
    have ti:s.1=(l.take k).map (O4 K f.Time)++x::l.drop (k+1):=by
      rw[hI];dsimp only
      rw[List.drop_eq_getElem_cons af]
      rw[Aks af]at hk
      rw[Ak0 hk]
    unfold E0
    rw[A9 hx,Aku,contains_eq,Aku]
    rw[Bz hk,List.map_append,List.filter_append,List.map_append,List.append_assoc]
    have hu:O4 K f.Time x=bif L9 K x then⟨x.Run,false,f.Time⟩else x:=rfl
    have fi:L9 K x=(x.Open&&!decide (x.Run∈K)):=rfl
    cases ho:x.Open with
    | false=>
      rw[ho]at fi
      have fi:L9 K x=false:=fi
      rw[cond_false,List.filter_cons_of_neg (by rw[fi];decide)]
      rw[fi]at hu
      refine⟨_,rfl,?_⟩
      rw[Prod.mk.injEq]
      exact⟨by rw[ti];simp[hu],by rw[hI];simp⟩
    | true=>
      rw[ho,Bool.true_and]at fi
      rw[cond_true]
      cases hd:decide (x.Run∈K)with
      | true=>
        rw[hd]at fi
        have fi:L9 K x=false:=fi
        rw[List.filter_cons_of_neg (by rw[fi];decide)]
        rw[fi]at hu
        refine⟨_,rfl,?_⟩
        rw[Prod.mk.injEq]
        exact⟨by rw[ti];simp[hu],by rw[hI];simp⟩
      | false=>
        rw[hd]at fi
        have fi:L9 K x=true:=fi
        rw[List.filter_cons_of_pos fi]
        rw[fi]at hu
        rw[Bool.not_false,cond_true,B1 (by omega)]
        refine⟨_,rfl,?_⟩
        rw[Prod.mk.injEq]
        exact⟨by rw[List.set_set,gu];simp[hu],by rw[hI];simp⟩)
  rw[List.take_length,List.drop_length,List.append_nil]at h2
  rw[h1,h2]
theorem j8 {f:Af} (F:FOK f) (W:jG f):F9 f=some (Jg f (f.Status.map (O4 (Qw f (Fm f.Status)) f.Time)),(f.Status.filter (L9 (Qw f (Fm f.Status)))).map A4.Run):=by
  have M:=F.map
  have hS:=F.statL
  have hn:=aI f.Status
  have:=M.lenN
  have:=M.lenL
  have:=M.lenR
  have:=M.lenB
  have:=F.liftsL
  have:=F.packsL
  have:=F.listsL
  have:=F.misL
  have:=W.closures
  have:=W.gg
  have:=W.surfaces
  have:=W.slides
  have:=W.bulletin
  have:=W.winches
  have:=W.groomers
  have q1:=Gs (ρ:=Af×List Int) (step:=Hv) (c:=Db) (l:=f.Patrol.Bl) (by omega) (fun k x s=>rfl) (fun x hx=>y0 (F.lists x hx))
  have q2:=Gs (ρ:=Af×List Int) (step:=Hu) (c:=Da) (l:=f.Slides) (by omega) (fun k x s=>rfl) (fun x hx=>yZ (F.slides.at hx).2)
  have q3:=Gs (ρ:=Af×List Int) (step:=Ht) (c:=C9) (l:=f.Bulletin) (by omega) (fun k x s=>rfl) (fun x hx=>yY (F.bul x hx))
  have q4:=Gs (ρ:=Af×List Int) (step:=Hs) (c:=C8) (l:=f.Winches) (by omega) (fun k x s=>rfl) (fun x hx=>yX (F.ropes.rope x hx).runs.len)
  unfold F9
  rw[Tp (by omega),Aku,tT F (by omega),Aku]
  unfold Ci Cj Cm Bv B7 B8 B3 B4 B5 B6 Cn
  rw[B1 (n:=f.Map.Nodes.length) (by omega),Aku,B1 (n:=f.Map.Lifts.length) (by omega),Aku,B1 (n:=f.Map.Runs.length) (by omega),Aku,L6 (by omega),Aku,
   B1 (n:=f.Lifts.length) (by omega),Aku,B1 (n:=f.Closures.length) (by omega),Aku,B1 (n:=f.Patrol.Bl.length) (by omega),q1,Aku]
  show(chk f.Patrol.Hazards.length (some f.Patrol.Hazards)).bind _=_
  rw[B1 (n:=f.Patrol.Hazards.length) (by omega),Aku,B1 (n:=f.Surfaces.length) (by omega),Aku,B1 (n:=f.Packs.length) (by omega),Aku,B1 (n:=f.Slides.length) (by omega),q2,Aku]
  show chk f.Bulletin.length _=_
  rw[B1 (n:=f.Bulletin.length) (by omega),q3,Aku]
  show(chk f.Missions.length (some f.Missions)).bind _=_
  rw[B1 (n:=f.Missions.length) (by omega),Aku,B1 (n:=f.Winches.length) (by omega),q4,Aku]
  show(chk f.Groomers.length (some f.Groomers)).bind _=_
  rw[B1 (n:=f.Groomers.length) (by omega),Aku,B1 (n:=f.Status.length) (by omega),Aku,wV f _ (by omega)]
  rfl
theorem rD {f:Af} (F:FOK f):Ux f=some (Jg f (f.Status.map (O4 (Qw f (Fm f.Status)) f.Time)),(f.Status.filter (L9 (Qw f (Fm f.Status)))).map A4.Run):=by
  have hS:=F.statL
  unfold Ux
  rw[tL (by omega),Aku,nN F,Aku]
  generalize Qw f (Fm f.Status)=K
  obtain⟨s',h1,h2⟩:=Eb (ρ:=Af×List Int) (step:=Qk f K) (l:=f.Status) (s:=([],[])) (fun k s=>s=((f.Status.take k).map (O4 K f.Time),((f.Status.take k).filter (L9 K)).map A4.Run)) rfl (fun k x s hk hI=>by
    have af:=(Ak1.1 hk).1
    have gb:s.1.length≤k:=by rw[hI];simp;omega
    have mg:s.2.length≤k:=by
      rw[hI];dsimp only
      rw[Aky]
      have:=List.length_filter_le (L9 K) (f.Status.take k)
      rw[List.length_take]at this;omega
    unfold Qk
    rw[Wl,Aku,Bz hk,List.map_append,List.filter_append,List.map_append]
    have hu:O4 K f.Time x=bif L9 K x then⟨x.Run,false,f.Time⟩else x:=rfl
    have fi:L9 K x=(x.Open&&!decide (x.Run∈K)):=rfl
    obtain⟨xr,xo,xs⟩:=x
    dsimp only at *
    cases xo with
    | false=>
      have fi:L9 K ⟨xr,false,xs⟩=false:=fi
      rw[cond_false,B1 (by omega),List.filter_cons_of_neg (by rw[fi];decide)]
      rw[fi]at hu
      refine⟨_,rfl,?_⟩
      rw[Prod.mk.injEq]
      exact⟨by rw[hI];simp[hu],by rw[hI];simp⟩
    | true=>
      rw[Bool.true_and]at fi
      rw[cond_true]
      cases hd:decide (xr∈K)with
      | true=>
        rw[hd]at fi
        have fi:L9 K ⟨xr,true,xs⟩=false:=fi
        rw[List.filter_cons_of_neg (by rw[fi];decide)]
        rw[fi]at hu
        rw[Bool.not_true,cond_false,B1 (by omega)]
        refine⟨_,rfl,?_⟩
        rw[Prod.mk.injEq]
        exact⟨by rw[hI];simp[hu],by rw[hI];simp⟩
      | false=>
        rw[hd]at fi
        have fi:L9 K ⟨xr,true,xs⟩=true:=fi
        rw[List.filter_cons_of_pos fi]
        rw[fi]at hu
        rw[Bool.not_false,cond_true,B1 (by omega),B1 (by omega)]
        refine⟨_,rfl,?_⟩
        rw[Prod.mk.injEq]
        exact⟨by rw[hI];simp[hu],by rw[hI];simp⟩)
  rw[List.take_length]at h2
  rw[h1,h2];rfl
theorem bff {α:Type} {c:Bool} {a b r:α} (hc:c=false) (h:b=r):(bif c then a else b)=r:=by subst hc;exact h
theorem bft {α:Type} {c:Bool} {a b r:α} (hc:c=true) (h:a=r):(bif c then a else b)=r:=by subst hc;exact h
theorem zS {f:Af} (F:FOK f):Ag (C6 f) (Zh f):=by
  have:=F.statL
  unfold C6 Zh
  rw[Tp (by omega),tL (by omega),Aku,Aku]
  refine Ag.bind (Ag.An fun i x s _=>?_) fun o _ _=>Ag.on fun _ _=>Ag.some _
  obtain⟨e,h1,h2,_⟩:=bN F (Fm f.Status) x
  unfold G5 Y2
  rw[h1,h2]
  exact Ag.bif rfl (fun _=>Ag.some _) fun _=>Ag.some _
theorem kE {f:Af} (F:FOK f) {b:Bool} (h:Zh f=some b):C6 f=some b:=by rw[(zS F).eq,h]
theorem T6 {f:Af} (F:FOK f) {op:List Int} {run e:Int} (h:Uf f op run=some e):Cw f op run=some e:=by
  obtain⟨e',h1,h2,_⟩:=bN F op run
  rw[h]at h2;rw[h1,Ak0 h2]
def z54:Af:=Af.mk (Bd.mk [] [] [] []) [] [] (B9.mk [] []) [] [] [] [] [] [] [] [] (0:Int) (0:Int)
theorem oE {f:Af} (F:FOK f) (hs:f.Status=[]) {run e:Int} (hr:(Gv f.Map run).2=true) (he:e≠0) (h:Uf f [run] run=some e):Ee f run=some (z54,e):=by
  unfold Ee
  rw[Q0,Aku,hr,Tp (by rw[hs];decide),Aku,contains_eq,Aku,hs]
  refine bff rfl (bff rfl ?_)
  refine Du (x:=.next ()) rfl ?_
  rw[Out.on]
  refine bff rfl ?_
  rw[B1 (by decide)]
  show(Cw f [run] run).bind _=_
  rw[T6 F h,Aku]
  exact bft (Akq he) rfl
def Ep:Af:=(Af.mk (Bd.mk [(Cr.mk (1:Int) (1000:Int)),(Cr.mk (2:Int) (2000:Int)),(Cr.mk (3:Int) (1500:Int))] [(Co.mk (1:Int) (1:Int) (1:Int) (2:Int) (1000:Int) (5000:Int) (4:Int) (50:Int))] [(Cq.mk (1:Int) (1:Int) (2:Int) (3:Int) (2:Int) (1:Int) (800:Int)),(Cq.mk (2:Int) (1:Int) (3:Int) (1:Int) (2:Int) (1:Int) (800:Int))] [(1:Int)]) [(Cs.mk (1:Int) (1:Int))] [] (B9.mk [(Ch.mk (1:Int) (Bq.mk [] (60:Int) [])),(Ch.mk (2:Int) (Bq.mk [] (60:Int) []))] []) [] [(C7.mk (1:Int) (100:Int) (F3.mk (0:Int) (450:Int) (450:Int))),(C7.mk (2:Int) (100:Int) (F3.mk (0:Int) (450:Int) (450:Int)))] [] [] [] [] [] [] (300:Int) (0:Int))
def Aca:List A4:=[(A4.mk (1:Int) true (0:Int)),(A4.mk (2:Int) true (0:Int))]
def exA:Af:=Jg Ep Aca
def exB:Af:=Af.mk Ep.Map Ep.Lifts [(Bn.mk (1:Int) (2:Int) (1:Int) (0:Int))] Ep.Patrol Ep.Surfaces Ep.Packs Ep.Slides Ep.Bulletin Ep.Missions Ep.Winches Ep.Groomers Aca Ep.Depth Ep.Time
def exH:Af:=Af.mk Ep.Map Ep.Lifts Ep.Closures (B9.mk Ep.Patrol.Bl [(C4.mk (1:Int) (1:Int) (0:Int))]) Ep.Surfaces Ep.Packs Ep.Slides Ep.Bulletin Ep.Missions Ep.Winches Ep.Groomers Ep.Status Ep.Depth Ep.Time
def exD:Af:=Af.mk Ep.Map Ep.Lifts Ep.Closures Ep.Patrol Ep.Surfaces Ep.Packs Ep.Slides Ep.Bulletin Ep.Missions Ep.Winches Ep.Groomers Ep.Status (1001:Int) Ep.Time
def exS:Af:=Af.mk Ep.Map Ep.Lifts Ep.Closures Ep.Patrol Ep.Surfaces Ep.Packs [(Be.mk (1:Int) [(1:Int)] [] (100:Int) (100:Int) (-1:Int))] Ep.Bulletin Ep.Missions Ep.Winches Ep.Groomers Ep.Status Ep.Depth Ep.Time
theorem exI {f:Af} (h1:f.Patrol.Bl=Ep.Patrol.Bl) (h2:f.Slides=[]∨f.Slides=[(Be.mk (1:Int) [(1:Int)] [] (100:Int) (100:Int) (-1:Int))]) (h3:f.Bulletin=[]) (h4:f.Winches=[]):wS f∧f.Slides.length≤9223372036854775807:=by
  refine⟨⟨?_,?_,?_,?_⟩,?_⟩
  ·rw[h1];simp[Ep]
  ·rcases h2 with h2 | h2<;>rw[h2]<;>simp
  ·rw[h3];simp
  ·rw[h4];simp
  ·rcases h2 with h2 | h2<;>rw[h2]<;>simp
theorem vY {f:Af} (h:wS f∧f.Slides.length≤9223372036854775807) (e:Iv f=some 0):FOK f:=yM h.1 h.2 e
theorem F0:FOK Ep:=vY (exI rfl (.inl rfl) rfl rfl) (by decide +kernel)
theorem FA:FOK exA:=vY (exI rfl (.inl rfl) rfl rfl) (by decide +kernel)
theorem FB:FOK exB:=vY (exI rfl (.inl rfl) rfl rfl) (by decide +kernel)
theorem FH:FOK exH:=vY (exI rfl (.inl rfl) rfl rfl) (by decide +kernel)
theorem FD:FOK exD:=vY (exI rfl (.inl rfl) rfl rfl) (by decide +kernel)
theorem FS:FOK exS:=vY (exI rfl (.inr rfl) rfl rfl) (by decide +kernel)
theorem W0:jG Ep:=⟨by decide,by decide,by decide,by decide,by decide,by decide,by decide,by decide,by decide⟩
theorem WB:jG exB:=⟨by decide,by decide,by decide,by decide,by decide,by decide,by decide,by decide,by decide⟩
theorem Aa4:P8=some true:=by
  have o1:=oE F0 rfl (run:=1) (e:=16) (by decide +kernel) (by decide) (by decide +kernel)
  have o2:=oE F0 rfl (run:=2) (e:=16) (by decide +kernel) (by decide) (by decide +kernel)
  have hR:Gr Ep=some 0:=by
    rw[(lE Ep W0 (exI rfl (.inl rfl) rfl rfl).1 (by decide) (by decide) (by decide)).eq];decide +kernel
  have hK:Fi Ep [1,2]=some [1,2]:=by
    rw[tT F0 (by decide),← nN F0];decide +kernel
  have hU:=j8 FB WB
  rw[← rD FB]at hU
  have hU2:(Ux exB).map (fun p=>(p.2,Fm p.1.Status,decide (p.1.Status.length≤1000)))=some ([1,2],[],true):=by decide +kernel
  obtain⟨p,hp,hq⟩:=Option.map_eq_some_iff.1 hU2
  rw[hp]at hU
  rw[Prod.mk.injEq,Prod.mk.injEq]at hq
  unfold P8
  refine Du (x:=Ep) rfl ?_
  refine Du o1 ?_
  refine Du o2 ?_
  refine Du hR ?_
  refine bff rfl (bff rfl (bff rfl ?_))
  refine Du hK ?_
  refine Du (mJ _ _) ?_
  refine bff rfl ?_
  refine Du (kE FA (b:=true) (by decide +kernel)) ?_
  refine bff rfl ?_
  refine Du (x:=[1,2]) rfl ?_
  refine Du (mJ _ _) ?_
  refine bff rfl ?_
  refine Du hU ?_
  refine Du (kE FB (b:=false) (by decide +kernel)) ?_
  refine bff rfl ?_
  refine Du (mJ _ _) ?_
  rw[hq.1]
  refine bff rfl ?_
  refine Du (Tp (Akp hq.2.2)) ?_
  rw[hq.2.1]
  refine bff rfl ?_
  refine Du (T6 FH (e:=14) (by decide +kernel)) ?_
  refine bft rfl ?_
  refine Du (T6 FD (e:=5) (by decide +kernel)) ?_
  refine bft rfl ?_
  refine Du (T6 FS (e:=10) (by decide +kernel)) ?_
  refine bft rfl ?_
  refine Du (T6 F0 (e:=8) (by decide +kernel)) ?_
  refine bft rfl ?_
  refine Du (T6 F0 (e:=0) (by decide +kernel)) ?_
  rfl
theorem uU (f:Af):Tot (Lc f):=by
  unfold Lc
  repeat' first | exact Tot.some _ | refine Tot.bif (fun _=>?_) (fun _=>?_)
theorem bfs {c:Bool} {b:Option Bool} (h:(bif c then some false else b)=some true):c=false∧b=some true:=by
  cases c with
  | false=>exact ⟨rfl,h⟩
  | true=>cases h
theorem bts {c:Bool} {b:Option Bool} (h:(bif c then b else some false)=some true):c=true∧b=some true:=by
  cases c with
  | true=>exact ⟨rfl,h⟩
  | false=>cases h
theorem w8 {f:Af} (h:Lc f=some true):jG f∧f.Lifts.length≤12∧f.Packs.length≤12∧f.Status.length≤12:=by
  unfold Lc at h
  obtain⟨_,h⟩:=bfs h
  obtain⟨_,h⟩:=bfs h
  obtain⟨_,h⟩:=bfs h
  obtain⟨_,h⟩:=bfs h
  obtain⟨a1,h⟩:=bfs h
  obtain⟨a2,h⟩:=bfs h
  obtain⟨a3,h⟩:=bfs h
  obtain⟨a4,h⟩:=bfs h
  obtain⟨a5,h⟩:=bfs h
  obtain⟨a6,h⟩:=bfs h
  obtain⟨a7,h⟩:=bfs h
  obtain⟨a8,h⟩:=bfs h
  obtain⟨a9,h⟩:=bts h
  obtain⟨a10,h⟩:=bts h
  obtain⟨a11,h⟩:=bts h
  have a12:=Akp (Ak0 h)
  have a1:=Ako a1
  have a2:=Ako a2
  have a3:=Ako a3
  have a4:=Ako a4
  have a5:=Ako a5
  have a6:=Ako a6
  have a7:=Ako a7
  have a8:=Ako a8
  have a9:=Akp a9
  have a10:=Akp a10
  have a11:=Akp a11
  exact⟨⟨by omega,by omega,by omega,by omega,by omega,by omega,by omega,by omega,by omega⟩,by omega,by omega,by omega⟩
theorem jK {f:Af} (h:Sj f) (l:List Int):Ns f l=some false∨(Ns f l=some true∧l.length≤40∧jG f∧FOK f∧f.Status.length≤12):=by
  unfold Ns
  cases hl:decide (((l.length:Nat):Int)≤40)with
  | false=>exact .inl rfl
  | true=>
    have hl:=Akp hl
    obtain⟨b,hb⟩:=uU f
    rw[hb,cond_true,Aku]
    cases b with
    | false=>exact .inl rfl
    | true=>
      obtain⟨W,w1,w2,w3⟩:=w8 hb
      obtain⟨e,_,he⟩:=lE f W (tZ h) (by omega) (by omega) (by omega)
      rw[he,cond_true,Aku]
      by_cases e0:e=0
      ·subst e0
       exact .inr ⟨rfl,by omega,W,yM (tZ h) h.2.2.2.2.2.2.1.1 he,w3⟩
      ·rw[Akr e0];exact .inl rfl
theorem oJ (K:List Int) (t:Int):∀ (l:List A4),Fm (l.map (O4 K t))=(Fm l).filter fun x=>decide (x∈K)
  | []=>rfl
  | x::l=>by
    have ih:=oJ K t l
    unfold Fm at *
    obtain⟨xr,xo,xs⟩:=x
    cases xo with
    | false=>
      have hu:O4 K t ⟨xr,false,xs⟩=⟨xr,false,xs⟩:=rfl
      rw[List.map_cons,hu,List.filter_cons_of_neg (by simp),List.filter_cons_of_neg (by simp)]
      exact ih
    | true=>
      by_cases hx:xr∈K
      ·have hu:O4 K t ⟨xr,true,xs⟩=⟨xr,true,xs⟩:=by unfold O4 L9;rw[Akq (p:=(A4.mk xr true xs).Run∈K) hx];rfl
       rw[List.map_cons,hu,List.filter_cons_of_pos rfl,List.filter_cons_of_pos rfl,List.map_cons,List.map_cons,List.filter_cons_of_pos (by simpa using hx),ih]
      ·have hu:O4 K t ⟨xr,true,xs⟩=⟨xr,false,t⟩:=by unfold O4 L9;rw[Akr (p:=(A4.mk xr true xs).Run∈K) hx];rfl
       rw[List.map_cons,hu,List.filter_cons_of_neg (by simp),List.filter_cons_of_pos rfl,List.map_cons,List.filter_cons_of_neg (by simpa using hx),ih]
theorem Aab {f:Af} (F:FOK f) (t:Int):Fm (f.Status.map (O4 (Qw f (Fm f.Status)) t))=Qw f (Fm f.Status):=by
  rw[oJ]
  refine Pq (c7 (oK F.statR) _) (oZ f _) fun x=>?_
  rw[List.mem_filter,decide_eq_true_iff]
  exact⟨fun h=>h.2,fun h=>⟨(oY h).1,h⟩⟩
def Mr (run t:Int) (l:List A4):List A4:=(l.filter fun x=>decide (x.Run<run))++[⟨run,true,t⟩]++l.filter fun x=>decide (run<x.Run)
theorem bS {l:List A4} (h:Fv A4.Run l) {i j:Nat} {x y:A4} (hx:l[i]? =some x) (hy:l[j]? =some y) (oq:i<j):x.Run<y.Run:=
  W46.Vi (Uu h) (i:=i) (j:=j) (by rw[List.getElem?_map,hx];rfl) (by rw[List.getElem?_map,hy];rfl) oq
theorem oR {α:Type} {l:List α} {k:Nat} {x:α} (h:x∈l.take k):∃ i,i<k∧l[i]? =some x:=by
  obtain⟨i,hi⟩:=List.mem_iff_getElem?.1 h
  rw[List.getElem?_take]at hi
  split at hi
  ·exact⟨i,‹_›,hi⟩
  ·cases hi
theorem oT {α:Type} {l:List α} {k:Nat} {x:α} (h:x∈l.drop k):∃ i,k≤i∧l[i]? =some x:=by
  obtain⟨i,hi⟩:=List.mem_iff_getElem?.1 h
  rw[List.getElem?_drop]at hi
  exact⟨k+i,by omega,hi⟩
theorem mK {l:List A4} {run t:Int} {p q:Nat} (hpq:p≤q) (h1:∀ x∈l.take p,x.Run<run) (h2:∀ i x,p≤i→i<q→l[i]? =some x→x.Run=run) (h3:∀ x∈l.drop q,run<x.Run):Mr run t l=l.take p++[⟨run,true,t⟩]++l.drop q:=by
  have e:l=l.take p++(l.drop p).take (q - p)++l.drop q:=by
    rw[List.append_assoc]
    have:l.drop q=(l.drop p).drop (q - p):=by rw[List.drop_drop];congr 1;omega
    rw[this,List.take_append_drop,List.take_append_drop]
  have hm:∀ x∈(l.drop p).take (q - p),x.Run=run:=fun x hx=>by
    obtain⟨i,hi,hx⟩:=oR hx
    rw[List.getElem?_drop]at hx
    exact h2 (p+i) x (by omega) (by omega) hx
  have f1:l.filter (fun x=>decide (x.Run<run))=l.take p:=by
    conv=>lhs;rw[e]
    rw[List.filter_append,List.filter_append,List.filter_eq_self.2 (fun x hx=>by simpa using h1 x hx),List.filter_eq_nil_iff.2 (fun x hx=>by have:=hm x hx;simp;omega),List.filter_eq_nil_iff.2 (fun x hx=>by have:=h3 x hx;simp;omega),List.append_nil,List.append_nil]
  have f2:l.filter (fun x=>decide (run<x.Run))=l.drop q:=by
    conv=>lhs;rw[e]
    rw[List.filter_append,List.filter_append,(List.filter_eq_self (l:=l.drop q) (p:=fun x:A4=>decide (run<x.Run))).2 (fun x hx=>by simpa using h3 x hx),List.filter_eq_nil_iff.2 (fun x hx=>by have:=h1 x hx;simp;omega),List.filter_eq_nil_iff.2 (fun x hx=>by have:=hm x hx;simp;omega),List.nil_append,List.nil_append]
  unfold Mr
  rw[f1,f2]
theorem x7 (run t:Int) (l:List A4):(Mr run t l).length≤l.length+1:=by
  unfold Mr
  rw[Akw,Akw,List.length_singleton]
  have:(l.filter fun x=>decide (x.Run<run)).length+(l.filter fun x=>decide (run<x.Run)).length≤l.length:=by
    induction l with
    | nil=>simp
    | cons x l ih=>
      by_cases h1:x.Run<run
      ·rw[List.filter_cons_of_pos (by simpa using h1),List.filter_cons_of_neg (p:=fun x:A4=>decide (run<x.Run)) (by simp;omega)]
       simp;omega
      ·by_cases h2:run<x.Run
       ·rw[List.filter_cons_of_neg (by simpa using h1),List.filter_cons_of_pos (p:=fun x:A4=>decide (run<x.Run)) (by simpa using h2)]
        simp;omega
       ·rw[List.filter_cons_of_neg (by simpa using h1),List.filter_cons_of_neg (p:=fun x:A4=>decide (run<x.Run)) (by simpa using h2)]
        simp;omega
  omega
noncomputable def Y4 (f:Af) (run:Int):Int:=if (Gv f.Map run).2=false then 8 else if run∈Fm f.Status then 7 else(Cw f (Fm f.Status++[run]) run).getD 0
noncomputable def eG (f:Af) (run:Int):Af×Int:=if Y4 f run=0 then(Jg f (Mr run f.Time f.Status),0)else (z54,Y4 f run)
theorem vB {f:Af} {run e:Int} (h:(Gv f.Map run).2=true) (ig:run ∉ Fm f.Status) (he:Cw f (Fm f.Status++[run]) run=some e):Y4 f run=e:=by
  unfold Y4
  rw[if_neg (by rw[h];simp),if_neg ig,he];rfl
theorem rR {f:Af} {run:Int} (h:(Gv f.Map run).2=false):eG f run=(z54,8):=by
  have:Y4 f run=8:=by unfold Y4;rw[if_pos h]
  unfold eG
  rw[this];rfl
theorem oF {f:Af} {run:Int} (h:(Gv f.Map run).2=true) (ig:run∈Fm f.Status):eG f run=(z54,7):=by
  have:Y4 f run=7:=by unfold Y4;rw[if_neg (by rw[h];simp),if_pos ig]
  unfold eG
  rw[this];rfl
theorem vA {f:Af} {run e:Int} (h:(Gv f.Map run).2=true) (ig:run ∉ Fm f.Status) (he:Cw f (Fm f.Status++[run]) run=some e):eG f run=if e=0 then(Jg f (Mr run f.Time f.Status),0)else (z54,e):=by
  unfold eG
  rw[vB h ig he]
theorem rQ {f:Af} {run:Int} (qu:f.Status.length≤64) (hR:Fv A4.Run f.Status) (hno:∀ x∈f.Status,x.Run≠run) {step:Int→Option (Out Int (Af×Int))}
    (hs:step=E6 f run f.Map.Nodes f.Map.Lifts f.Map.Runs f.Map.Bases f.Lifts f.Closures f.Patrol.Bl f.Patrol.Hazards f.Surfaces f.Packs f.Slides f.Bulletin f.Missions f.Winches f.Groomers f.Status) :
    D6 step fuel 0=some (.ret (Jg f (Mr run f.Time f.Status),0)):=by
  subst hs
  obtain⟨r,h1,h2⟩:=Hd (step:=E6 f run f.Map.Nodes f.Map.Lifts f.Map.Runs f.Map.Bases f.Lifts f.Closures f.Patrol.Bl f.Patrol.Hazards f.Surfaces f.Packs f.Slides f.Bulletin f.Missions f.Winches f.Groomers f.Status) (fun v=>∃ p:Nat,v=(p:Int)∧p≤f.Status.length∧∀ x∈f.Status.take p,x.Run<run) (fun r=>r=(Jg f (Mr run f.Time f.Status),0)) (fun v=>(f.Status.length - v).toNat) (by
    rintro v ⟨p,rfl,hp,hI⟩
    unfold E6
    by_cases af:p<f.Status.length
    ·have hx:f.Status[p]? =some (f.Status[p]'af):=Aks af
     generalize f.Status[p]'af=x at hx
     rw[Akq (by omega),cond_true,A9 hx,Aku]
     by_cases c:x.Run<run
     ·rw[Akq c,cond_true,O3 (by omega)]
      refine .inl ⟨_,rfl,⟨p+1,rfl,by omega,fun z hz=>?_⟩,by omega⟩
      rw[Bz hx,Akz,List.mem_singleton]at hz
      rcases hz with hz | rfl
      ·exact hI z hz
      ·exact c
     ·rw[Akr c,cond_false,Akr (p:=((p:Nat):Int)=((f.Status.length:Nat):Int)) (by omega),cond_false,Nh (by omega),B1 (by omega),Int.toNat_natCast]
      refine .inr ⟨_,rfl,?_⟩
      have hxr:=hno x (Akt hx)
      have:c6 f.Status p ⟨run,true,f.Time⟩=Mr run f.Time f.Status:=by
        unfold c6
        rw[mK (p:=p) (q:=p) (Nat.le_refl _) hI (fun i z h1 h2=>by omega) (fun z hz=>by
         obtain⟨i,hi,hz⟩:=oT hz
         by_cases e:i=p
         ·rw[e,hx]at hz;obtain rfl:=Ak0 hz;omega
         ·have:=bS hR hx hz (by omega);omega)]
      rw[this];rfl
    ·have e:p=f.Status.length:=by omega
     subst e
     rw[Akr (by omega),cond_false,cond_false,Akq rfl,cond_true,Nh (by omega),cond_true,B1 (by omega)]
     refine .inr ⟨_,rfl,?_⟩
     rw[List.take_length]at hI
     have:f.Status++[⟨run,true,f.Time⟩]=Mr run f.Time f.Status:=by
       rw[mK (p:=f.Status.length) (q:=f.Status.length) (Nat.le_refl _) (by rw[List.take_length];exact hI) (fun i x h1 h2=>by omega) (by simp),List.take_length,List.drop_length,List.append_nil]
     rw[this];rfl) fuel 0 ⟨0,rfl,by omega,by simp⟩ (by unfold fuel;omega)
  rw[h1,h2]
theorem u7 {f:Af} (F:FOK f) (W:jG f) {run:Int} (k:Nat) {x:A4} (hk:f.Status[k]? =some x) (hx:x.Run=run) {e:Int} (he:Cw f (Fm f.Status++[run]) run=some e) :
    Fp f run (Fm f.Status) k=some (if e=0 then(Jg f (Mr run f.Time f.Status),0)else (z54,e)):=by
  have M:=F.map
  have hS:=F.statL
  have hn:=aI f.Status
  have:=M.lenN
  have:=M.lenL
  have:=M.lenR
  have:=M.lenB
  have:=F.liftsL
  have:=F.packsL
  have:=F.listsL
  have:=F.misL
  have:=W.closures
  have:=W.gg
  have:=W.surfaces
  have:=W.slides
  have:=W.bulletin
  have:=W.winches
  have:=W.groomers
  have q1:=Gs (ρ:=Af×Int) (step:=Kc) (c:=Db) (l:=f.Patrol.Bl) (by omega) (fun k x s=>rfl) (fun x hx=>y0 (F.lists x hx))
  have q2:=Gs (ρ:=Af×Int) (step:=Kb) (c:=Da) (l:=f.Slides) (by omega) (fun k x s=>rfl) (fun x hx=>yZ (F.slides.at hx).2)
  have q3:=Gs (ρ:=Af×Int) (step:=Ka) (c:=C9) (l:=f.Bulletin) (by omega) (fun k x s=>rfl) (fun x hx=>yY (F.bul x hx))
  have q4:=Gs (ρ:=Af×Int) (step:=J9) (c:=C8) (l:=f.Winches) (by omega) (fun k x s=>rfl) (fun x hx=>yX (F.ropes.rope x hx).runs.len)
  unfold Fp
  rw[B1 (by omega),he,Aku]
  by_cases e0:e=0
  rotate_left
  ·rw[Akq (p:=e≠0) e0,if_neg e0];rfl
  rw[Akr (p:=e≠0) (fun h=>h e0),cond_false,if_pos e0]
  unfold Ci Cj Cm Bv B7 B8 B3 B4 B5 B6 Cn
  rw[B1 (n:=f.Map.Nodes.length) (by omega),Aku,B1 (n:=f.Map.Lifts.length) (by omega),Aku,B1 (n:=f.Map.Runs.length) (by omega),Aku,L6 (by omega),Aku,
   B1 (n:=f.Lifts.length) (by omega),Aku,B1 (n:=f.Closures.length) (by omega),Aku,B1 (n:=f.Patrol.Bl.length) (by omega),q1,Aku]
  show(chk f.Patrol.Hazards.length (some f.Patrol.Hazards)).bind _=_
  rw[B1 (n:=f.Patrol.Hazards.length) (by omega),Aku,B1 (n:=f.Surfaces.length) (by omega),Aku,B1 (n:=f.Packs.length) (by omega),Aku,B1 (n:=f.Slides.length) (by omega),q2,Aku]
  show chk f.Bulletin.length _=_
  rw[B1 (n:=f.Bulletin.length) (by omega),q3,Aku]
  show(chk f.Missions.length (some f.Missions)).bind _=_
  rw[B1 (n:=f.Missions.length) (by omega),Aku,B1 (n:=f.Winches.length) (by omega),q4,Aku]
  show(chk f.Groomers.length (some f.Groomers)).bind _=_
  rw[B1 (n:=f.Groomers.length) (by omega),Aku,B1 (n:=f.Status.length) (by omega),Aku,Akq (Int.natCast_nonneg k),cond_true,A9 hk,Aku]
  have af:=(Ak1.1 hk).1
  have:f.Status.set k ⟨run,true,f.Time⟩=Mr run f.Time f.Status:=by
    rw[mK (p:=k) (q:=k+1) (by omega) (fun z hz=>by
       obtain⟨i,hi,hz⟩:=oR hz
       have:=bS F.statR hz hk hi;omega) (fun i z h1 h2 hz=>by
       have:i=k:=by omega
       subst this;rw[hk]at hz;obtain rfl:=Ak0 hz;exact hx) (fun z hz=>by
       obtain⟨i,hi,hz⟩:=oT hz
       have:=bS F.statR hk hz (by omega);omega)]
    rw[List.set_eq_take_append_cons_drop,if_pos af,List.append_assoc];rfl
  rw[this];rfl
theorem u9 {f:Af} (F:FOK f) (W:jG f) (qu:f.Status.length≤40) (run:Int):Ee f run=some (eG f run):=by
  have M:=F.map
  have hS:=F.statL
  have hn:=aI f.Status
  unfold Ee
  rw[Q0,Aku]
  cases h:(Gv f.Map run).2 with
  | false=>rw[rR h];rfl
  | true=>
    rw[Bool.not_true,cond_false,Tp (by omega),Aku,contains_eq,Aku]
    by_cases ig:run∈Fm f.Status
    ·rw[Akq ig,oF h ig];rfl
    ·rw[Akr ig,cond_false]
     obtain⟨e,e1,_,_⟩:=bN F (Fm f.Status++[run]) run
     rw[vA h ig e1]
     rcases E9 (step:=G6 f run (Fm f.Status)) (l:=f.Status) (s:=()) (fun k _=>∀ x∈f.Status.take k,x.Run≠run) (fun r=>r=if e=0 then(Jg f (Mr run f.Time f.Status),0)else (z54,e)) (by simp) (fun k x s hk hI=>by
         unfold G6
         by_cases hx:x.Run=run
         ·rw[Akq hx,cond_true,Akr (p:=((k:Nat):Int)<0) (by omega),cond_false,u7 F W k hk hx e1]
          exact .inr ⟨_,rfl,rfl⟩
         ·rw[Akr hx]
          refine .inl ⟨_,rfl,fun z hz=>?_⟩
          rw[Bz hk,Akz,List.mem_singleton]at hz
          rcases hz with hz | rfl
          ·exact hI z hz
          ·exact hx)with ⟨s',g1,g2⟩ | ⟨r,g1,rfl⟩
     rotate_left
     ·rw[g1];rfl
     rw[List.take_length]at g2
     rw[g1,Aku,Out.on,Akr (p:=(64:Int)≤((f.Status.length:Nat):Int)) (by omega),cond_false,B1 (by omega),e1,Aku]
     by_cases e0:e=0
     rotate_left
     ·rw[Akq (p:=e≠0) e0,if_neg e0];rfl
     rw[Akr (p:=e≠0) (fun h=>h e0),cond_false,if_pos e0]
     have:=M.lenN
     have:=M.lenL
     have:=M.lenR
     have:=M.lenB
     have:=F.liftsL
     have:=F.packsL
     have:=F.listsL
     have:=F.misL
     have:=W.closures
     have:=W.gg
     have:=W.surfaces
     have:=W.slides
     have:=W.bulletin
     have:=W.winches
     have:=W.groomers
     have q1:=Gs (ρ:=Af×Int) (step:=J8) (c:=Db) (l:=f.Patrol.Bl) (by omega) (fun k x s=>rfl) (fun x hx=>y0 (F.lists x hx))
     have q2:=Gs (ρ:=Af×Int) (step:=J7) (c:=Da) (l:=f.Slides) (by omega) (fun k x s=>rfl) (fun x hx=>yZ (F.slides.at hx).2)
     have q3:=Gs (ρ:=Af×Int) (step:=I8) (c:=C9) (l:=f.Bulletin) (by omega) (fun k x s=>rfl) (fun x hx=>yY (F.bul x hx))
     have q4:=Gs (ρ:=Af×Int) (step:=I7) (c:=C8) (l:=f.Winches) (by omega) (fun k x s=>rfl) (fun x hx=>yX (F.ropes.rope x hx).runs.len)
     unfold Ci Cj Cm Bv B7 B8 B3 B4 B5 B6 Cn
     rw[B1 (n:=f.Map.Nodes.length) (by omega),Aku,B1 (n:=f.Map.Lifts.length) (by omega),Aku,B1 (n:=f.Map.Runs.length) (by omega),Aku,L6 (by omega),Aku,
      B1 (n:=f.Lifts.length) (by omega),Aku,B1 (n:=f.Closures.length) (by omega),Aku,B1 (n:=f.Patrol.Bl.length) (by omega),q1,Aku]
     show(chk f.Patrol.Hazards.length (some f.Patrol.Hazards)).bind _=_
     rw[B1 (n:=f.Patrol.Hazards.length) (by omega),Aku,B1 (n:=f.Surfaces.length) (by omega),Aku,B1 (n:=f.Packs.length) (by omega),Aku,B1 (n:=f.Slides.length) (by omega),q2,Aku]
     show chk f.Bulletin.length _=_
     rw[B1 (n:=f.Bulletin.length) (by omega),q3,Aku]
     show(chk f.Missions.length (some f.Missions)).bind _=_
     rw[B1 (n:=f.Missions.length) (by omega),Aku,B1 (n:=f.Winches.length) (by omega),q4,Aku]
     show(chk f.Groomers.length (some f.Groomers)).bind _=_
     rw[B1 (n:=f.Groomers.length) (by omega),Aku,B1 (n:=f.Status.length) (by omega),Aku]
     rw[rQ (f:=f) (run:=run) (by omega) F.statR g2 rfl]
     rfl
theorem iP {f:Af} (F:FOK f) {l:List A4} (h1:l.length≤64) (h2:∀ x∈l,(Gv f.Map x.Run).2=true) (h3:Fv A4.Run l):FOK (Jg f l):=
  ⟨F.map,F.clo,F.lists,F.listsL,F.slides,F.misL,F.mis,F.ropes,F.bul,F.packs,F.liftsL,F.packsL,h1,h2,h3⟩
theorem yO {f:Af} (W:jG f) (l:List A4):jG (Jg f l):=⟨W.closures,W.lists,W.gg,W.surfaces,W.slides,W.bulletin,W.missions,W.winches,W.groomers⟩
theorem xQ (f:Af) (l:List A4) (op:List Int) (run:Int):Qv (Jg f l) op run=Qv f op run:=rfl
theorem oU {f:Af} {op op':List Int} {run:Int} (h:∀ x∈op,x∈op') (hm:Qv f op run=true):Qv f op' run=true:=by
  unfold Qv at *
  rw[Bool.and_eq_true]at *
  exact⟨hm.1,xT h hm.2⟩
theorem gA {f:Af} (F:FOK f):C6 f=some ((Fm f.Status).all (Qv f (Fm f.Status))):=by
  have:=F.statL
  unfold C6
  rw[Tp (by omega),Aku]
  refine zH _ fun k x _=>?_
  obtain⟨e,h1,_,h2⟩:=bN F (Fm f.Status) x
  unfold G5
  rw[h1,Aku,← h2]
  by_cases e0:e=0
  ·rw[Akq e0,Akr (p:=e≠0) (fun h=>h e0)];rfl
  ·rw[Akr e0,Akq (p:=e≠0) e0];rfl
theorem jJ {l:List A4} (h:Inc (l.map A4.Run)):Fv A4.Run l:=fun k x y hx hy=>W46.Vi h (by rw[List.getElem?_map,hy];rfl) (by rw[List.getElem?_map,hx];rfl) (Nat.lt_succ_self k)
theorem lW (K:List Int) (t:Int) (x:A4):(O4 K t x).Run=x.Run:=by unfold O4;cases L9 K x<;>rfl
theorem pB {l:List A4} (h:Fv A4.Run l) (run t:Int):Fv A4.Run (Mr run t l):=by
  refine jJ ?_
  have hi:=Uu h
  unfold Mr
  rw[List.map_append,List.map_append]
  refine List.pairwise_append.2 ⟨List.pairwise_append.2 ⟨hZ hi (List.filter_sublist.map _),List.pairwise_singleton _ _,fun a ha b hb=>?_⟩,hZ hi (List.filter_sublist.map _),fun a ha b hb=>?_⟩
  ·obtain⟨x,hx,rfl⟩:=List.mem_map.1 ha
   have:=(List.mem_filter.1 hx).2
   simp at this hb;subst hb;exact this
  ·obtain⟨y,hy,rfl⟩:=List.mem_map.1 hb
   have h2:=(List.mem_filter.1 hy).2
   simp at h2
   rcases Akz.1 ha with ha | ha
   ·obtain⟨x,hx,rfl⟩:=List.mem_map.1 ha
    have:=(List.mem_filter.1 hx).2
    simp at this;omega
   ·simp at ha;subst ha;exact h2
theorem oS {l:List A4} {run t:Int} {x:A4} (h:x∈Mr run t l):x=⟨run,true,t⟩∨(x∈l∧x.Run≠run):=by
  unfold Mr at h
  rw[Akz,Akz,List.mem_singleton]at h
  rcases h with(h | h) | h
  ·have:=List.mem_filter.1 h;exact .inr ⟨this.1,by have:=this.2;simp at this;omega⟩
  ·exact .inl h
  ·have:=List.mem_filter.1 h;exact .inr ⟨this.1,by have:=this.2;simp at this;omega⟩
theorem x6 {l:List A4} {run t:Int} {x:A4} (h:x∈l) (hx:x.Run≠run):x∈Mr run t l:=by
  unfold Mr
  rw[Akz,Akz]
  by_cases c:x.Run<run
  ·exact .inl (.inl (List.mem_filter.2 ⟨h,by simpa using c⟩))
  ·exact .inr (List.mem_filter.2 ⟨h,by simp;omega⟩)
theorem W2 {l:List A4} {r:Int}:r∈Fm l↔∃ x∈l,x.Open=true∧x.Run=r:=by
  unfold Fm;simp only[List.mem_map,List.mem_filter,and_assoc]
theorem Aac {l:List A4} {run t:Int} (ig:run ∉ Fm l) (r:Int):r∈Fm (Mr run t l)↔r=run∨r∈Fm l:=by
  constructor
  ·intro h
   obtain⟨x,hx,ho,rfl⟩:=W2.1 h
   rcases oS hx with rfl | ⟨hx,_⟩
   ·exact .inl rfl
   ·exact .inr (W2.2 ⟨x,hx,ho,rfl⟩)
  ·rintro(rfl | h)
   ·exact W2.2 ⟨⟨r,true,t⟩,by unfold Mr;simp,rfl,rfl⟩
   ·obtain⟨x,hx,ho,rfl⟩:=W2.1 h
    exact W2.2 ⟨x,x6 hx (fun e=>ig (e ▸ h)),ho,rfl⟩
theorem Ts (f:Af) (run:Int) (h:Sj f) (hr:I64 run):Hq f run=some true:=by
  unfold Hq
  refine Du Aa4 (bff rfl ?_)
  rcases jK h []with hb | ⟨hb,hl,W,F,qu⟩
  ·exact Du hb rfl
  refine Du hb (bff rfl ?_)
  have hS:=F.statL
  have hN:C6 (Jg f [])=some true:=by
    rw[gA (iP F (by simp) (by simp) (fun k x y hx hy=>by simp at hx))];rfl
  refine Du (j8 F W) ?_
  generalize hK:Qw f (Fm f.Status)=K
  have hKK:∀ x∈K,Qv f K x=true:=fun x hx=>by rw[← hK]at hx ⊢;exact xX hx
  have pz:Fm (f.Status.map (O4 K f.Time))=K:=by rw[← hK];exact Aab F f.Time
  have hKinc:Inc K:=by rw[← hK];exact oZ f _
  have hGR:Fv A4.Run (f.Status.map (O4 K f.Time)):=fun k x y hx hy=>by
    rw[List.getElem?_map]at hx hy
    obtain⟨a,ha,rfl⟩:=Option.map_eq_some_iff.1 hx
    obtain⟨b,hb,rfl⟩:=Option.map_eq_some_iff.1 hy
    rw[lW,lW]
    exact F.statR k a b ha hb
  have G:FOK (Jg f (f.Status.map (O4 K f.Time))):=iP F (by rw[Aky];exact hS) (fun x hx=>by
    obtain⟨a,ha,rfl⟩:=List.mem_map.1 hx
    rw[lW];exact F.stat a ha) hGR
  have GW:=yO W (f.Status.map (O4 K f.Time))
  have hgs:(Jg f (f.Status.map (O4 K f.Time))).Status=f.Status.map (O4 K f.Time):=rfl
  have tt:(Jg f (f.Status.map (O4 K f.Time))).Status.length≤12:=by rw[hgs,Aky];exact qu
  generalize hg:Jg f (f.Status.map (O4 K f.Time))=g at G GW hgs tt
  have gz:Fm g.Status=K:=by rw[hgs];exact pz
  have qg:∀ op x,Qv g op x=Qv f op x:=fun op x=>by rw[← hg];rfl
  have gj:(Fm g.Status).all (Qv g (Fm g.Status))=true:=by
    rw[gz];exact List.all_eq_true.2 fun x hx=>by rw[qg];exact hKK x hx
  have tj:=gA G
  rw[gj]at tj
  refine Du tj (bff rfl ?_)
  refine Du (Tp (f:=g) (by omega)) ?_
  rw[gz]
  generalize fi:(f.Status.filter (L9 K)).map A4.Run=sh
  have hloop:An (Eu (g,sh) K) 0 K ()=some (.next ()):=Up.2 fun i x hx=>by
    obtain⟨e,e1,_,e2⟩:=bN G K x
    rw[qg,hKK x (Akt hx),decide_eq_true_iff]at e2
    unfold Eu
    rw[e1,Aku,e2];rfl
  refine Du hloop ?_
  show(Ee g run).bind _=some true
  refine Du (u9 G GW (by omega) run) ?_
  have hfin:∀ z:Af,z=Jg f []→(C6 z).bind (fun lk=>some lk)=some true:=fun z hz=>by rw[hz,hN];rfl
  unfold eG
  by_cases he:Y4 g run=0
  rotate_left
  ·rw[if_neg he]
   refine bff (Akr he) ?_
   exact hfin _ rfl
  rw[if_pos he]
  refine bft rfl ?_
  unfold Y4 at he
  split at he
  ·cases he
  rename_i bh
  have bh:(Gv g.Map run).2=true:=by simpa using bh
  split at he
  ·cases he
  rename_i hnin
  obtain⟨e,e1,_,e2⟩:=bN G (Fm g.Status++[run]) run
  rw[e1]at he
  have he:e=0:=he
  rw[he,Akq rfl]at e2
  have e2:Qv g (Fm g.Status++[run]) run=true:=e2.symm
  have hHl:=x7 run g.Time g.Status
  have hHR:=pB G.statR run g.Time
  have H:FOK (Jg g (Mr run g.Time g.Status)):=iP G (by omega) (fun x hx=>by
    rcases oS hx with rfl | ⟨hx,_⟩
    ·exact bh
    ·exact G.stat x hx) hHR
  have vq:=Aac (t:=g.Time) hnin
  have hHall:(Fm (Jg g (Mr run g.Time g.Status)).Status).all (Qv (Jg g (Mr run g.Time g.Status)) (Fm (Jg g (Mr run g.Time g.Status)).Status))=true:=by
    refine List.all_eq_true.2 fun x hx=>?_
    rw[xQ]
    rcases(vq x).1 hx with rfl | hx
    ·refine oU (fun y hy=>(vq y).2 ?_) e2
     rw[Akz,List.mem_singleton]at hy
     exact hy.symm
    ·refine oU (op:=K) (fun y hy=>(vq y).2 (.inr (by rw[gz];exact hy))) ?_
     rw[gz]at hx
     rw[qg];exact hKK x hx
  have mg:=gA H
  rw[hHall]at mg
  refine Du mg (bff rfl ?_)
  have tz:(Jg g (Mr run g.Time g.Status)).Status.length≤1000:=by show(Mr run g.Time g.Status).length≤1000;omega
  refine Du (Tp tz) (Du (Wl _ _) ?_)
  have hin2:run∈Fm (Jg g (Mr run g.Time g.Status)).Status:=(vq run).2 (.inl rfl)
  refine bff (by rw[Akq hin2];rfl) ?_
  refine Du (Tp tz) ?_
  have hlen:(Fm (Jg g (Mr run g.Time g.Status)).Status).length=K.length+1:=by
    have n1:(Fm (Mr run g.Time g.Status)).Nodup:=(oK hHR).nodup
    have n2:(run::K).Nodup:=List.nodup_cons.2 ⟨by rw[← gz];exact hnin,hKinc.nodup⟩
    have a1:=Gq n1 (b:=run::K) (fun x hx=>by
      rcases(vq x).1 hx with rfl | hx
      ·exact List.mem_cons_self
      ·exact List.mem_cons_of_mem _ (by rw[← gz];exact hx))
    have a2:=Gq n2 (b:=Fm (Mr run g.Time g.Status)) (fun x hx=>by
      rcases List.mem_cons.1 hx with rfl | hx
      ·exact(vq x).2 (.inl rfl)
      ·exact(vq x).2 (.inr (by rw[gz];exact hx)))
    rw[List.length_cons]at a1 a2
    show(Fm (Mr run g.Time g.Status)).length=_
    omega
  have hKl:K.length≤12:=by rw[← gz];exact Nat.le_trans (aI _) tt
  rw[hlen]
  refine bff (by rw[O3 (by omega)];simp) ?_
  exact hfin _ rfl
end Go.Proofs.YtjopghiagoidgaaGreat
