/- Our own texts: a layer of abstract values over the model, the walks of the functions, the plain laws; joined and shortened by a small program of our own (wip/dce2.py, wip/pack.py). -/
import Derived.Test.YtjopghiagoidgaaGreatA3
namespace Go.Proofs.YtjopghiagoidgaaGreat
open Go Go.Ab
attribute [local irreducible] AWP Ah Br Ad Go.Ab.Sub alist dlist A1 Dg Ev Ho
set_option maxRecDepth 100000
set_option maxHeartbeats 4000000
set_option linter.unusedSimpArgs false
set_option linter.unusedVariables false
noncomputable section
def H7 (b:A2):Option (Bool):=
 (bif (decide (b.Version<1))then some false else(bif (decide (1000000<b.Version))then some false else(bif (decide (b.Span.From<0))then some false else(bif (decide (b.Span.To≤b.Span.From))then some false else(bif (decide (20000000<b.Span.To))then some false else(bif (decide (b.Low<0))then some false else(bif (decide (b.High≤b.Low))then some false else(bif (decide (6000<b.High))then some false else(bif (decide (1≤b.Level))then some (decide (b.Level≤5))else some false)))))))))
theorem Yd (b:A2) {r:Bool} (h:H7 b=some r):Ad Tryz.prog 166 [.agg (Ap b)] (·= .bool r):=by
 refine Ad.nle (Ad.intro Tryz.func166 rfl rfl (by show _≤53;simp) ?_)
 unfold H7 at h
 refine nS (sq ?_)
 refine B5 rfl ?_
 refine rg rfl fun K j=>?_
 refine gF' h ?_ ?_<;>intro hc h
 ·refine j _ _ (qn (ct rfl (gw8 rfl ?_)))
  cases h;exact en Tryz.results166
 refine j _ _ (qn (cA h rfl ?_ ?_))<;>intro hc h
 ·refine gw8 rfl ?_
  cases h;exact en Tryz.results166
 refine gw6 (rG rfl fun K j=>?_)
 refine gF' h ?_ ?_<;>intro hc h
 ·refine j (ct rfl (gw8 rfl ?_))
  cases h;exact en Tryz.results166
 refine gF' h ?_ ?_<;>intro hc h
 ·refine j (ct rfl (gw8 rfl ?_))
  cases h;exact en Tryz.results166
 refine j (cA h rfl ?_ ?_)<;>intro hc h
 ·refine gw8 rfl ?_
  cases h;exact en Tryz.results166
 refine gw6 (rG rfl fun K j=>?_)
 refine gF h ?_ ?_<;>intro hc h
 ·refine gF h ?_ ?_<;>intro hc h
  ·refine j (cA h rfl ?_ ?_)<;>intro hc h
   ·refine gw8 rfl ?_
    cases h;exact en Tryz.results166
   refine Co (rG rfl fun K j=>?_)
   refine gT h ?_ ?_<;>intro hc h
   ·refine j (rt ?_)
    cases h;exact en Tryz.results166
   refine j (rt ?_)
   cases h;exact en Tryz.results166
  refine j (ct rfl (gw8 rfl ?_))
  cases h;exact en Tryz.results166
 refine j (ct rfl (gw8 rfl ?_))
 cases h;exact en Tryz.results166
def Pw (zones:List Int) (k0:Nat) (ab:Int) (sv:Unit):Option (Out (Unit) (Bool)):=
 (bif (decide (ab<1))then some (Out.ret false)else (bif (decide (32<ab))then some (Out.ret false)else (bif (decide (0<((k0:Nat):Int)))then (Da zones (IntKind.i64.wrap (((k0:Nat):Int) - 1))).bind fun ak=>(bif (decide (ab≤ak))then some (Out.ret false)else some (Out.next ()))else some (Out.next ()))))
def Mo (zones:List Int):Option (Bool):=
 (Al (Pw zones) 0 zones ()).bind fun o0=>o0.on fun s0=>some (decide (0<((zones.length:Nat):Int)))
theorem Vy (zones:List Int) {r:Bool} (h:Mo zones=some r):Ad Tryz.prog 167 [.sl 1 (zones.map An)] (·= .bool r):=by
 refine Ad.nle (Ad.intro Tryz.func167 rfl rfl (by show _≤35;simp) ?_)
 unfold Mo at h
 refine nS (sq ?_)
 refine B5 rfl ?_
 refine rg rfl fun K j=>?_
 intro hm
 refine j _ _ (qn (bk ?_))
 obtain⟨o0,aa,ae⟩:=Ae h
 clear h
 refine AWP.Bh aa () (fun zz=>[(0,.sl 1 (zones.map An)),(5,.sl 1 (zones.map An)),(6,.int .i64 ((zones.length:Nat):Int)),(7,.int .i64 ((zz.1:Nat):Int))]) (fun zz=>[]) ?_
 rintro k0 ⟨⟩ ⟨⟩ bb aa
 dsimp only
 refine Cy rfl ?_
 refine cD rfl ?_ ?_<;>intro hc
 ·obtain rfl:=fnD aa hc
  have h:=Ao ae;try dsimp only at h
  have af:=leD bb hc
  subst af
  refine gw4 (rG rfl fun K j=>?_)
  intro hm
  refine j (rt ?_)
  cases h;exact en Tryz.results167
 obtain⟨ab,b0,ag,bh,ao,h,aa⟩:=fcD aa hc
 have ay:=wk (k:=k0) (by omega)
 unfold Pw at h;try dsimp only at h
 refine gw9 (rG rfl fun K j=>?_)
 refine A1.of (f:=An) (l:=zones) ao ?_
 refine nS ?_
 refine j (rG rfl fun K j=>?_)
 refine gF' h ?_ ?_<;>intro hc h
 ·refine j (ct rfl (Cs rfl ?_))
  cases x0 h aa ae;exact en Tryz.results167
 refine gF' h ?_ ?_<;>intro hc h
 ·refine j (ct rfl (Cs rfl ?_))
  cases x0 h aa ae;exact en Tryz.results167
 refine gT h ?_ ?_<;>intro hc h
 ·obtain⟨ak,cd,h⟩:=Ae h
  refine A1.of (f:=An) (l:=zones) cd ?_
  refine nS ?_
  refine j (cA h rfl ?_ ?_)<;>intro hc h
  ·refine Cs rfl ?_
   cases x0 h aa ae;exact en Tryz.results167
  refine gw5 rfl ?_
  refine lE ag aa h () ?_ ?_<;>exact cuw ay
 refine j (cf rfl (gw5 rfl ?_))
 refine lE ag aa h () ?_ ?_<;>exact cuw ay
def Fk (l:List A2) (k0:Nat) (ab:A2) (sv:Unit):Option (Out (Unit) (Int)):=
 (H7 ab).bind fun y3=>(bif (!y3)then some (Out.ret 2)else (Mo ab.Zones).bind fun y4=>(bif (!y4)then some (Out.ret 1)else (bif (decide (0<((k0:Nat):Int)))then (Da l (IntKind.i64.wrap (((k0:Nat):Int) - 1))).bind fun cm=>(bif (decide (ab.Version<cm.Version))then some (Out.ret 11)else some (Out.next ()))else some (Out.next ()))))
def H8 (l:List A2):Option (Int):=
 (bif (decide (64<((l.length:Nat):Int)))then some 4 else(Al (Fk l) 0 l ()).bind fun o0=>o0.on fun s0=>some 0)
theorem bC (l:List A2) {r:Int} (h:H8 l=some r):Ad Tryz.prog 79 [.sl 7 (l.map Ap)] (·= .int .i64 r):=by
 refine Ad.nle (Ad.intro Tryz.func79 rfl rfl (by show _≤36;simp) ?_)
 unfold H8 at h
 refine nS (sq ?_)
 refine B5 rfl ?_
 refine rg rfl fun K j=>?_
 intro hm
 refine j _ _ (qn (cA h rfl ?_ ?_))<;>intro hc h
 ·refine gw8 rfl ?_
  cases h;exact en Tryz.results79
 refine gw6 (rG rfl fun K j=>?_)
 intro hm
 refine j (bk ?_)
 obtain⟨o0,aa,ae⟩:=Ae h
 clear h
 refine AWP.Bh aa () (fun zz=>[(0,.sl 7 (l.map Ap)),(8,.sl 7 (l.map Ap)),(9,.int .i64 ((l.length:Nat):Int)),(10,.int .i64 ((zz.1:Nat):Int))]) (fun zz=>[]) ?_
 rintro k0 ⟨⟩ ⟨⟩ bb aa
 dsimp only
 refine Cy rfl ?_
 refine cD rfl ?_ ?_<;>intro hc
 ·obtain rfl:=fnD aa hc
  have h:=Ao ae;try dsimp only at h
  have af:=leD bb hc
  subst af
  refine Cr rfl ?_
  cases h;exact en Tryz.results79
 obtain⟨ab,b0,ag,bh,ao,h,aa⟩:=fcD aa hc
 have ay:=wk (k:=k0) (by omega)
 unfold Fk at h;try dsimp only at h
 refine gw9 (rG rfl fun K j=>?_)
 refine A1.of (f:=Ap) (l:=l) ao ?_
 refine nS ?_
 refine j (sq (rG rfl fun K j=>?_))
 obtain⟨y3,bu,h⟩:=Ae h
 refine Ah.pure Tryz.call166 (Yd ab bu) rfl fun _ hr=>?_
 subst hr
 refine nS ?_
 refine j (cA h rfl ?_ ?_)<;>intro hc h
 ·refine Cd rfl ?_
  cases x0 h aa ae;exact en Tryz.results79
 refine gw6 (rG rfl fun K j=>?_)
 obtain⟨y4,ch,h⟩:=Ae h
 refine Ah.pure Tryz.call167 (Vy ab.Zones ch) rfl fun _ hr=>?_
 subst hr
 refine nS ?_
 refine j (cA h rfl ?_ ?_)<;>intro hc h
 ·refine Cd rfl ?_
  cases x0 h aa ae;exact en Tryz.results79
 refine gw6 (dR Tryz.mixed fun K j=>?_)
 refine nS ?_
 refine gT h ?_ ?_<;>intro hc h
 ·obtain⟨cm,iu,h⟩:=Ae h
  refine A1.of (f:=Ap) (l:=l) iu ?_
  refine nS ?_
  refine j _ _ _ (by kernel_rfl) (qn (cA h rfl ?_ ?_))<;>intro hc h
  ·refine Cs rfl ?_
   cases x0 h aa ae;exact en Tryz.results79
  refine gw5 rfl ?_
  refine lE ag aa h () ?_ ?_<;>exact cuw ay
 refine j _ _ _ (by kernel_rfl) (qn (cf rfl (gw5 rfl ?_)))
 refine lE ag aa h () ?_ ?_<;>exact cuw ay
def M9 (m:A5):Option (Bool):=
 (bif (decide (m.ID<1))then some false else(bif (decide (9999<m.ID))then some false else(bif (decide (m.Slide<1))then some false else(bif (decide (9999<m.Slide))then some false else(bif (decide (m.By<1))then some false else(bif (decide (9999<m.By))then some false else(bif (decide (m.State<0))then some false else(bif (decide (6<m.State))then some false else(bif (decide (m.Since<0))then some false else(bif (decide (20000000<m.Since))then some false else(bif (decide (0≤m.Window.From))then (bif (decide (m.Window.From<m.Window.To))then some (decide (m.Window.To≤20000000))else some false)else some false)))))))))))
theorem c7 (m:A5) {r:Bool} (h:M9 m=some r):Ad Tryz.prog 168 [.agg (Aq m)] (·= .bool r):=by
 refine Ad.nle (Ad.intro Tryz.func168 rfl rfl (by show _≤68;simp) ?_)
 unfold M9 at h
 refine nS (sq ?_)
 refine B5 rfl ?_
 refine rg rfl fun K j=>?_
 refine gF' h ?_ ?_<;>intro hc h
 ·refine j _ _ (qn (ct rfl (gw8 rfl ?_)))
  cases h;exact en Tryz.results168
 refine gF' h ?_ ?_<;>intro hc h
 ·refine j _ _ (qn (ct rfl (gw8 rfl ?_)))
  cases h;exact en Tryz.results168
 refine gF' h ?_ ?_<;>intro hc h
 ·refine j _ _ (qn (ct rfl (gw8 rfl ?_)))
  cases h;exact en Tryz.results168
 refine gF' h ?_ ?_<;>intro hc h
 ·refine j _ _ (qn (ct rfl (gw8 rfl ?_)))
  cases h;exact en Tryz.results168
 refine gF' h ?_ ?_<;>intro hc h
 ·refine j _ _ (qn (ct rfl (gw8 rfl ?_)))
  cases h;exact en Tryz.results168
 refine j _ _ (qn (cA h rfl ?_ ?_))<;>intro hc h
 ·refine gw8 rfl ?_
  cases h;exact en Tryz.results168
 refine gw6 (rG rfl fun K j=>?_)
 refine gF' h ?_ ?_<;>intro hc h
 ·refine j (ct rfl (gw8 rfl ?_))
  cases h;exact en Tryz.results168
 refine gF' h ?_ ?_<;>intro hc h
 ·refine j (ct rfl (gw8 rfl ?_))
  cases h;exact en Tryz.results168
 refine gF h ?_ ?_<;>intro hc h
 ·refine j (cA h rfl ?_ ?_)<;>intro hc h
  ·refine gw8 rfl ?_
   cases h;exact en Tryz.results168
  refine Co (rG rfl fun K j=>?_)
  refine gT h ?_ ?_<;>intro hc h
  ·refine gT h ?_ ?_<;>intro hc h
   ·refine j (rt ?_)
    cases h;exact en Tryz.results168
   refine j (rt ?_)
   cases h;exact en Tryz.results168
  refine j (rt ?_)
  cases h;exact en Tryz.results168
 refine j (ct rfl (gw8 rfl ?_))
 cases h;exact en Tryz.results168
def bQ (id_:Int) (k0:Nat) (ab:A5) (sv:Unit):Option (Out (Unit) (Int)):=
 (bif (decide (ab.ID=id_))then some (Out.ret ((k0:Nat):Int))else some (Out.next ()))
def Xi (l:List A5) (id_:Int):Option (Int):=
 (Al (bQ id_) 0 l ()).bind fun o0=>o0.on fun s0=>some (-1)
theorem kV (l:List A5) (id_:Int) {r:Int} (h:Xi l id_=some r):Ad Tryz.prog 169 [.sl 7 (l.map Aq),.int .i64 id_] (·= .int .i64 r):=by
 refine Ad.nle (Ad.intro Tryz.func169 rfl rfl (by show _≤8;simp) ?_)
 unfold Xi at h
 refine nS (sq ?_)
 refine gw7 rfl ?_
 refine rg rfl fun K j=>?_
 refine Ah.inline Tryz.call247 Tryz.func247 rfl rfl (by show _≤19;simp) ?_
 refine nS (sq ?_)
 refine B5 rfl ?_
 refine rg rfl fun K j=>?_
 intro hm
 refine j _ _ (qn (bk ?_));clear j K
 obtain⟨o0,aa,ae⟩:=Ae h
 clear h
 refine AWP.Bh aa () (fun zz=>[(0,.sl 7 (l.map Aq)),(1,.func 248 [.ptr 0 0]),(7,.int .i64 ((l.length:Nat):Int)),(8,.int .i64 ((zz.1:Nat):Int))]) (fun zz=>[.box [.int .i64 id_]]) ?_
 rintro k0 ⟨⟩ ⟨⟩ bb aa
 dsimp only
 refine Cy rfl ?_
 refine cD rfl ?_ ?_<;>intro hc
 ·obtain rfl:=fnD aa hc
  have h:=Ao ae;try dsimp only at h
  have af:=leD bb hc
  subst af
  refine Cr rfl ?_
  refine nSc Tryz.results247 ?_
  refine j _ _ (Cu ?_)
  cases h;exact en Tryz.results169
 obtain⟨ab,b0,ag,bh,ao,h,aa⟩:=fcD aa hc
 have ay:=wk (k:=k0) (by omega)
 unfold bQ at h;try dsimp only at h
 refine gw9 (Cy rfl ?_)
 refine rg rfl fun K j=>?_
 refine A1.of (f:=Aq) (l:=l) ao ?_
 refine nS ?_
 refine Ah.inline Tryz.call248 Tryz.func248 rfl rfl (by show _≤8;simp) ?_
 refine nS (sq ?_)
 refine gw7 rfl ?_
 refine ar rfl (Cu ?_)
 refine nSc Tryz.results248 ?_
 refine j _ _ (qn ?_);clear j K
 refine cA h rfl ?_ ?_<;>intro hc h
 ·refine gw1 rfl (br (qr (qr ?_)))
  replace h:=x0 h aa ae
  refine br (qr (nSc Tryz.results247 ?_))
  refine j _ _ (Cu ?_)
  cases h;exact en Tryz.results169
 refine gw5 rfl ?_
 refine lE ag aa h () ?_ ?_<;>exact cuw ay
def Qt (m:A5):Option (Bool):=
 (bif (decide (m.State=0))then some true else(I4 m).bind fun y1=>some y1)
theorem X6 (m:A5) {r:Bool} (h:Qt m=some r):Ad Tryz.prog 170 [.agg (Aq m)] (·= .bool r):=by
 refine Ad.nle (Ad.intro Tryz.func170 rfl rfl (by show _≤10;simp) ?_)
 unfold Qt at h
 refine nS (sq ?_)
 refine gw7 rfl ?_
 refine rg rfl fun K j=>?_
 refine gF h ?_ ?_<;>intro hc h
 ·obtain⟨y1,bp,h⟩:=Ae h
  refine Ah.pure Tryz.call249 (U9 m bp) rfl fun _ hr=>?_
  subst hr
  refine nS ?_
  refine j _ _ (Cu ?_)
  cases h;exact en Tryz.results170
 refine j _ _ (Cu ?_)
 cases h;exact en Tryz.results170
def Ib (l:List A5) (k0:Nat) (ab:A5) (k4:Nat) (_x:Unit) (sv:Unit):Option (Out (Unit) (Out (Unit) (Int))):=
 (Da (l.take k0) ((k4:Nat):Int)).bind fun cp=>(Qt ab).bind fun y7=>(bif y7 then(Qt cp).bind fun y8=>(bif y8 then(bif (decide (cp.Slide=ab.Slide))then some (Out.ret (Out.ret 15))else some (Out.next ()))else some (Out.next ()))else some (Out.next ()))
def Ug (l:List A5) (k0:Nat) (ab:A5) (sv:Unit):Option (Out (Unit) (Int)):=
 (M9 ab).bind fun y3=>(bif (!y3)then some (Out.ret 2)else okB (decide (0≤((k0:Nat):Int)∧((k0:Nat):Int)≤((l.length:Nat):Int))) ((Xi (l.take k0) ab.ID).bind fun y4=>(bif (decide (0≤y4))then some (Out.ret 7)else okB (decide (0≤((k0:Nat):Int)∧((k0:Nat):Int)≤((l.length:Nat):Int))) ((J8 (Ib l k0 ab) k0 ()).bind fun o4=>o4.on fun s4=>some (Out.next ())))))
def R1 (l:List A5):Option (Int):=
 (bif (decide (64<((l.length:Nat):Int)))then some 4 else(Al (Ug l) 0 l ()).bind fun o0=>o0.on fun s0=>some 0)
theorem iQ (l:List A5) {r:Int} (h:R1 l=some r):Ad Tryz.prog 80 [.sl 7 (l.map Aq)] (·= .int .i64 r):=by
 refine Ad.nle (Ad.intro Tryz.func80 rfl rfl (by show _≤50;simp) ?_)
 unfold R1 at h
 refine nS (sq ?_)
 refine B5 rfl ?_
 refine rg rfl fun K j=>?_
 intro hm
 refine j _ _ (qn (cA h rfl ?_ ?_))<;>intro hc h
 ·refine gw8 rfl ?_
  cases h;exact en Tryz.results80
 refine gw6 (rG rfl fun K j=>?_)
 intro hm
 refine j (bk ?_)
 obtain⟨o0,aa,ae⟩:=Ae h
 clear h
 refine AWP.Bh aa () (fun zz=>[(0,.sl 7 (l.map Aq)),(10,.sl 7 (l.map Aq)),(11,.int .i64 ((l.length:Nat):Int)),(12,.int .i64 ((zz.1:Nat):Int))]) (fun zz=>[]) ?_
 rintro k0 ⟨⟩ ⟨⟩ bb aa
 dsimp only
 refine Cy rfl ?_
 refine cD rfl ?_ ?_<;>intro hc
 ·obtain rfl:=fnD aa hc
  have h:=Ao ae;try dsimp only at h
  have af:=leD bb hc
  subst af
  refine Cr rfl ?_
  cases h;exact en Tryz.results80
 obtain⟨ab,b0,ag,bh,ao,h,aa⟩:=fcD aa hc
 have ay:=wk (k:=k0) (by omega)
 unfold Ug at h;try dsimp only at h
 refine gw9 (rG rfl fun K j=>?_)
 refine A1.of (f:=Aq) (l:=l) ao ?_
 refine nS ?_
 refine j (sq (rG rfl fun K j=>?_))
 obtain⟨y3,bu,h⟩:=Ae h
 refine Ah.pure Tryz.call168 (c7 ab bu) rfl fun _ hr=>?_
 subst hr
 refine nS ?_
 refine j (cA h rfl ?_ ?_)<;>intro hc h
 ·refine Cd rfl ?_
  cases x0 h aa ae;exact en Tryz.results80
 refine gw6 (sq (dR Tryz.mixed fun K j=>?_))
 refine nS ?_
 obtain⟨hk,h⟩:=Fv h
 intro hm
 (repeat(refine⟨by omega,?_⟩))
 obtain⟨y4,ch,h⟩:=Ae h
 refine Br.pure Tryz.call169 (kV (l.take k0) ab.ID ch) rfl ?_
 refine nS ?_
 refine j _ _ _ (by kernel_rfl) (qn (cA h rfl ?_ ?_))<;>intro hc h
 ·refine Cd rfl ?_
  cases x0 h aa ae;exact en Tryz.results80
 refine Co (rG rfl fun K j=>?_)
 obtain⟨hk,h⟩:=Fv h
 intro hm
 (repeat(refine⟨by omega,?_⟩))
 intro hm
 refine j (bk ?_)
 obtain⟨o4,ck,jl⟩:=Ae h
 clear h
 obtain⟨hn4,ck⟩:=Ng ck
 refine AWP.Ma (ι:=Nat×(Unit)×(Unit)) (fun zz=>[(0,.sl 7 (l.map Aq)),(4,.ptr 0 0),(10,.sl 7 (l.map Aq)),(11,.int .i64 ((l.length:Nat):Int)),(12,.int .i64 ((k0:Nat):Int)),(29,.sl 7 ((l.take k0).map Aq)),(30,.int .i64 ((k0:Nat):Int)),(31,.int .i64 ((zz.1:Nat):Int))]) (fun zz=>[.box (Aq ab)]) (fun zz=>zz.1≤k0∧Al (Ib l k0 ab) zz.1 ((List.replicate k0 ()).drop zz.1) zz.2.1=some o4) (fun zz=>k0 - zz.1) (0,(),()) ⟨Nat.zero_le _,ck⟩ cu cu (fun x=>⟨rfl,rfl,rfl⟩) ?_
 clear ck
 rintro⟨k4,⟨⟩,⟨⟩⟩ ⟨oy,ck⟩
 dsimp only at oy ck ⊢
 refine Cy rfl ?_
 refine cD rfl ?_ ?_<;>intro hc
 ·obtain rfl:=J5 ck (fun hl=>by rw[Aov]at hl;have:=Aom hc;omega)
  have h:=Ao jl;try dsimp only at h
  have af:k0=k4:=by have:=Aom hc;omega
  subst af
  refine xt (qe (qe (bs (Eo rfl ?_))))
  refine lE ag aa h () ?_ ?_<;>exact cuw ay
 have gj:k4<k0:=by have:=Aon hc;omega
 obtain⟨_,b4,_,h,ck⟩:=G6 ck (by rw[Aov];exact gj)
 have kf:=wk (k:=k4) (by omega)
 unfold Ib at h;try dsimp only at h
 refine gw9 (rG rfl fun K j=>?_)
 obtain⟨cp,gv,h⟩:=Ae h
 refine A1.of (f:=Aq) (l:=(l.take k0)) gv ?_
 refine nS ?_
 refine j (rG rfl fun K j=>?_)
 obtain⟨y7,eg,h⟩:=Ae h
 refine Ah.pure Tryz.call170 (X6 ab eg) rfl fun _ hr=>?_
 subst hr
 refine nS ?_
 refine gT h ?_ ?_<;>intro hc h
 ·obtain⟨y8,ej,h⟩:=Ae h
  refine Ah.pure Tryz.call170 (X6 cp ej) rfl fun _ hr=>?_
  subst hr
  refine nS ?_
  refine gT h ?_ ?_<;>intro hc h
  ·refine j (cA h rfl ?_ ?_)<;>intro hc h
   ·refine gw1 rfl (br (qr (qr (br (gw2 ?_)))))
    cases x0 (x0 h ck jl) aa ae;exact en Tryz.results80
   refine gw5 rfl ?_
   obtain rfl:=Aa h
   refine⟨(k4+1,(),()),⟨by dsimp only;omega,Cj ck⟩,by dsimp only;omega,?_,?_⟩
   ·exact cuw kf
   exact cuw kf
  refine j (cf rfl (gw5 rfl ?_))
  obtain rfl:=Aa h
  refine⟨(k4+1,(),()),⟨by dsimp only;omega,Cj ck⟩,by dsimp only;omega,?_,?_⟩
  ·exact cuw kf
  exact cuw kf
 refine j (cf rfl (gw5 rfl ?_))
 obtain rfl:=Aa h
 refine⟨(k4+1,(),()),⟨by dsimp only;omega,Cj ck⟩,by dsimp only;omega,?_,?_⟩
 ·exact cuw kf
 exact cuw kf
def Xu (l:List Int) (k0:Nat) (ab:Int) (sv:Unit):Option (Out (Unit) (Bool)):=
 (bif (decide (ab<1))then some (Out.ret false)else (bif (decide (9999<ab))then some (Out.ret false)else (bif (decide (0<((k0:Nat):Int)))then (Da l (IntKind.i64.wrap (((k0:Nat):Int) - 1))).bind fun ak=>(bif (decide (ab≤ak))then some (Out.ret false)else some (Out.next ()))else some (Out.next ()))))
def Sr (l:List Int):Option (Bool):=
 (Al (Xu l) 0 l ()).bind fun o0=>o0.on fun s0=>some (decide (0<((l.length:Nat):Int)))
theorem dI (l:List Int) {r:Bool} (h:Sr l=some r):Ad Tryz.prog 171 [.sl 1 (l.map An)] (·= .bool r):=by
 refine Ad.nle (Ad.intro Tryz.func171 rfl rfl (by show _≤35;simp) ?_)
 unfold Sr at h
 refine nS (sq ?_)
 refine B5 rfl ?_
 refine rg rfl fun K j=>?_
 intro hm
 refine j _ _ (qn (bk ?_))
 obtain⟨o0,aa,ae⟩:=Ae h
 clear h
 refine AWP.Bh aa () (fun zz=>[(0,.sl 1 (l.map An)),(5,.sl 1 (l.map An)),(6,.int .i64 ((l.length:Nat):Int)),(7,.int .i64 ((zz.1:Nat):Int))]) (fun zz=>[]) ?_
 rintro k0 ⟨⟩ ⟨⟩ bb aa
 dsimp only
 refine Cy rfl ?_
 refine cD rfl ?_ ?_<;>intro hc
 ·obtain rfl:=fnD aa hc
  have h:=Ao ae;try dsimp only at h
  have af:=leD bb hc
  subst af
  refine gw4 (rG rfl fun K j=>?_)
  intro hm
  refine j (rt ?_)
  cases h;exact en Tryz.results171
 obtain⟨ab,b0,ag,bh,ao,h,aa⟩:=fcD aa hc
 have ay:=wk (k:=k0) (by omega)
 unfold Xu at h;try dsimp only at h
 refine gw9 (rG rfl fun K j=>?_)
 refine A1.of (f:=An) (l:=l) ao ?_
 refine nS ?_
 refine j (rG rfl fun K j=>?_)
 refine gF' h ?_ ?_<;>intro hc h
 ·refine j (ct rfl (Cs rfl ?_))
  cases x0 h aa ae;exact en Tryz.results171
 refine gF' h ?_ ?_<;>intro hc h
 ·refine j (ct rfl (Cs rfl ?_))
  cases x0 h aa ae;exact en Tryz.results171
 refine gT h ?_ ?_<;>intro hc h
 ·obtain⟨ak,cd,h⟩:=Ae h
  refine A1.of (f:=An) (l:=l) cd ?_
  refine nS ?_
  refine j (cA h rfl ?_ ?_)<;>intro hc h
  ·refine Cs rfl ?_
   cases x0 h aa ae;exact en Tryz.results171
  refine gw5 rfl ?_
  refine lE ag aa h () ?_ ?_<;>exact cuw ay
 refine j (cf rfl (gw5 rfl ?_))
 refine lE ag aa h () ?_ ?_<;>exact cuw ay
def cmp_isNaN_int (x_:Int):Option (Bool):=
 some false
theorem Ue (x_:Int) {r:Bool} (h:cmp_isNaN_int x_=some r):Ad Tryz.prog 277 [.int .i64 x_] (·= .bool r):=by
 refine Ad.nle (Ad.intro Tryz.func277 rfl rfl (by show _≤6;simp) ?_)
 unfold cmp_isNaN_int at h
 refine nS (sq ?_)
 refine gw7 rfl ?_
 refine ar rfl (Cu ?_)
 cases h;exact en Tryz.results277
def cmp_Less_int (x_:Int) (y:Int):Option (Bool):=
 (cmp_isNaN_int x_).bind fun y1=>(bif y1 then(cmp_isNaN_int y).bind fun y2=>(bif (!y2)then some true else some (decide (x_<y)))else some (decide (x_<y)))
theorem eW (x_:Int) (y:Int) {r:Bool} (h:cmp_Less_int x_ y=some r):Ad Tryz.prog 232 [.int .i64 x_,.int .i64 y] (·= .bool r):=by
 refine Ad.nle (Ad.intro Tryz.func232 rfl rfl (by show _≤17;simp) ?_)
 unfold cmp_Less_int at h
 refine nS (sq ?_)
 refine gw7 rfl ?_
 refine rg rfl fun K j=>?_
 obtain⟨y1,bp,h⟩:=Ae h
 refine Ah.pure Tryz.call277 (Ue x_ bp) rfl fun _ hr=>?_
 subst hr
 refine nS ?_
 refine gT h ?_ ?_<;>intro hc h
 ·obtain⟨y2,cx,h⟩:=Ae h
  refine Ah.pure Tryz.call277 (Ue y cx) rfl fun _ hr=>?_
  subst hr
  refine nS ?_
  refine gF h ?_ ?_<;>intro hc h
  ·refine j _ _ (Cu ?_)
   cases h;exact en Tryz.results232
  refine j _ _ (Cu ?_)
  cases h;exact en Tryz.results232
 refine j _ _ (Cu ?_)
 cases h;exact en Tryz.results232
def Lk (x_:Int):Option (Bool):=
 some false
theorem P4 (x_:Int) {r:Bool} (h:Lk x_=some r):Ad Tryz.prog 285 [.int .i64 x_] (·= .bool r):=by
 refine Ad.nle (Ad.intro Tryz.func285 rfl rfl (by show _≤6;simp) ?_)
 unfold Lk at h
 refine nS (sq ?_)
 refine gw7 rfl ?_
 refine ar rfl (Cu ?_)
 cases h;exact en Tryz.results285
def Dk (x_:List Int) (target:Int) (sv:Int×Int):Option (Out (Int×Int) (Int×Bool)):=
 (bif (decide (sv.1<sv.2))then (Da x_ (IntKind.i64.wrap (lP (IntKind.u64.wrap (IntKind.i64.wrap (sv.1+sv.2))) 1))).bind fun aw=>(cmp_Less_int aw target).bind fun y5=>(bif y5 then some (Out.next ((IntKind.i64.wrap ((IntKind.i64.wrap (lP (IntKind.u64.wrap (IntKind.i64.wrap (sv.1+sv.2))) 1))+1)),sv.2))else some (Out.next (sv.1,(IntKind.i64.wrap (lP (IntKind.u64.wrap (IntKind.i64.wrap (sv.1+sv.2))) 1)))))else ((bif (decide (sv.1<((x_.length:Nat):Int)))then (Da x_ sv.1).bind fun cp=>(bif (decide (cp=target))then some (sv.1,true)else (Lk cp).bind fun y7=>(bif y7 then(Lk target).bind fun y8=>some (sv.1,y8)else some (sv.1,false)))else some (sv.1,false))).bind fun q8=>some (Out.ret q8))
def Dw (x_:List Int) (target:Int):Option (Int×Bool):=
 (Dx (Dk x_ target) fuel (0,((x_.length:Nat):Int))).bind fun o2=>o2.on fun _=>none
theorem Oe (x_:List Int) (target:Int) {r:Int×Bool} (h:Dw x_ target=some r):Ad Tryz.prog 278 [.sl 1 (x_.map An),.int .i64 target] (·= .tuple [.int .i64 r.1,.bool r.2]):=by
 refine Ad.nle (Ad.intro Tryz.func278 rfl rfl (by show _≤54;simp) ?_)
 unfold Dw at h
 refine nS (sq ?_)
 refine gw7 rfl ?_
 refine rg rfl fun K j=>?_
 intro hm
 refine j _ _ (qn (Cy rfl (bk ?_)))
 obtain⟨o2,aj,dn⟩:=Ae h
 clear h
 refine AWP.Ma (ι:=Nat×(Int×Int)×(Unit)) (fun zz=>[(0,.sl 1 (x_.map An)),(1,.int .i64 target),(6,.int .i64 ((x_.length:Nat):Int)),(7,.int .i64 zz.2.1.1),(8,.int .i64 zz.2.1.2)]) (fun zz=>[]) (fun zz=>Dx (Dk x_ target) zz.1 zz.2.1=some o2) (fun zz=>zz.1) (fuel,(0,((x_.length:Nat):Int)),()) aj cu cu (fun x=>⟨rfl,rfl,rfl⟩) ?_
 clear aj
 rintro⟨n2,⟨i1,j2⟩,⟨⟩⟩ aj
 dsimp only at aj ⊢
 obtain⟨m2,b2,rfl,h,aj⟩:=Fp aj
 unfold Dk at h;try dsimp only at h
 refine sq (B8 rfl ?_)
 refine cA h rfl ?_ ?_<;>intro hc h
 ·refine Co (bk (Cy rfl ?_))
  refine rg rfl fun K j=>?_
  obtain⟨aw,fg,h⟩:=Ae h
  refine A1.of (f:=An) (l:=x_) fg ?_
  refine nS ?_
  obtain⟨y5,cw,h⟩:=Ae h
  refine Ah.pure Tryz.call232 (eW aw target cw) rfl fun _ hr=>?_
  subst hr
  refine nS ?_
  refine j _ _ (qn (cA h rfl ?_ ?_))<;>intro hc h
  ·refine ar rfl (bn (qn ?_))
   obtain rfl:=Aa h
   refine⟨(m2,((IntKind.i64.wrap ((IntKind.i64.wrap (lP (IntKind.u64.wrap (IntKind.i64.wrap (i1+j2))) 1))+1)),j2),()),Cj aj,by dsimp only;omega,?_,?_⟩
   ·exact cu
   exact cu
  refine ar rfl (bn (qn ?_))
  obtain rfl:=Aa h
  refine⟨(m2,(i1,(IntKind.i64.wrap (lP (IntKind.u64.wrap (IntKind.i64.wrap (i1+j2))) 1))),()),Cj aj,by dsimp only;omega,?_,?_⟩
  ·exact cu
  exact cu
 refine xt (qe (qe ?_))
 obtain⟨q8,hq,h⟩:=Ae h
 obtain rfl:=Aa h
 obtain rfl:=G7 aj
 replace h:=hq.trans (Pg dn)
 refine bs (qn (rG rfl fun K j=>?_))
 refine gT' h ?_ ?_<;>intro hc h
 ·refine j (rt ?_)
  cases h;exact en Tryz.results278
 obtain⟨cp,gv,h⟩:=Ae h
 refine A1.of (f:=An) (l:=x_) gv ?_
 refine nS ?_
 refine gF h ?_ ?_<;>intro hc h
 ·refine A1.of (f:=An) (l:=x_) gv ?_
  refine nS ?_
  obtain⟨y7,eg,h⟩:=Ae h
  refine Ah.pure Tryz.call285 (P4 cp eg) rfl fun _ hr=>?_
  subst hr
  refine nS ?_
  refine gT h ?_ ?_<;>intro hc h
  ·obtain⟨y8,ej,h⟩:=Ae h
   refine Ah.pure Tryz.call285 (P4 target ej) rfl fun _ hr=>?_
   subst hr
   refine nS ?_
   refine j (rt ?_)
   cases h;exact en Tryz.results278
  refine j (rt ?_)
  cases h;exact en Tryz.results278
 refine j (rt ?_)
 cases h;exact en Tryz.results278
def Og (w:Am) (run:Int):Option (Bool):=
 (Dw w.Runs run).bind fun y1=>some y1.2
theorem dH (w:Am) (run:Int) {r:Bool} (h:Og w run=some r):Ad Tryz.prog 253 [.agg (Aj w),.int .i64 run] (·= .bool r):=by
 refine Ad.nle (Ad.intro Tryz.func253 rfl rfl (by show _≤15;simp) ?_)
 unfold Og at h
 refine nS (sq ?_)
 refine gw7 rfl ?_
 refine rg rfl fun K j=>?_
 obtain⟨y1,bp,h⟩:=Ae h
 refine Ah.pure Tryz.call278 (Oe w.Runs run bp) rfl fun _ hr=>?_
 subst hr
 refine nS ?_
 refine j _ _ (qn (gw1 rfl ?_))
 cases h;exact en Tryz.results253
def J1 (w:Am) (k0:Nat) (ab:Int) (sv:Unit):Option (Out (Unit) (Bool)):=
 (Og w ab).bind fun y3=>(bif y3 then some (Out.ret (decide (0≤((k0:Nat):Int))))else some (Out.next ()))
def J9 (v:Am) (w:Am):Option (Bool):=
 (bif (decide (w.To≤v.From))then some false else(bif (decide (v.To≤w.From))then some false else(bif (decide (v.Groomer=w.Groomer))then some true else(Al (J1 w) 0 v.Runs ()).bind fun o0=>o0.on fun s0=>some false)))
theorem aT (v:Am) (w:Am) {r:Bool} (h:J9 v w=some r):Ad Tryz.prog 174 [.agg (Aj v),.agg (Aj w)] (·= .bool r):=by
 refine Ad.nle (Ad.intro Tryz.func174 rfl rfl (by show _≤28;simp) ?_)
 unfold J9 at h
 refine nS (sq ?_)
 refine B5 rfl ?_
 refine rg rfl fun K j=>?_
 refine gF' h ?_ ?_<;>intro hc h
 ·refine j _ _ (qn (ct rfl (gw8 rfl ?_)))
  cases h;exact en Tryz.results174
 refine j _ _ (qn (cA h rfl ?_ ?_))<;>intro hc h
 ·refine gw8 rfl ?_
  cases h;exact en Tryz.results174
 refine Co (rG rfl fun K j=>?_)
 refine gF' h ?_ ?_<;>intro hc h
 ·refine j (rt ?_)
  cases h;exact en Tryz.results174
 refine Ah.inline Tryz.call251 Tryz.func251 rfl rfl (by show _≤9;simp) ?_
 refine nS (sq ?_)
 refine gw7 rfl ?_
 refine rg rfl fun K j=>?_
 refine Ah.inline Tryz.call150 Tryz.func150 rfl rfl (by show _≤19;simp) ?_
 refine nS (sq ?_)
 refine B5 rfl ?_
 refine rg rfl fun K j=>?_
 intro hm
 refine j _ _ (qn (bk ?_));clear j K
 obtain⟨o0,aa,ae⟩:=Ae h
 clear h
 refine AWP.Bh aa () (fun zz=>[(0,.sl 1 (v.Runs.map An)),(1,.func 252 [.ptr 1 0]),(7,.int .i64 ((v.Runs.length:Nat):Int)),(8,.int .i64 ((zz.1:Nat):Int))]) (fun zz=>[.box (Aj v),.box (Aj w)]) ?_
 rintro k0 ⟨⟩ ⟨⟩ bb aa
 dsimp only
 refine Cy rfl ?_
 refine cD rfl ?_ ?_<;>intro hc
 ·obtain rfl:=fnD aa hc
  have h:=Ao ae;try dsimp only at h
  have af:=leD bb hc
  subst af
  refine Cr rfl ?_
  refine nSc Tryz.results150 ?_
  refine j _ _ (qn (rt ?_));clear j K
  refine nSc Tryz.results251 ?_
  refine j (rt ?_)
  cases h;exact en Tryz.results174
 obtain⟨ab,b0,ag,bh,ao,h,aa⟩:=fcD aa hc
 have ay:=wk (k:=k0) (by omega)
 unfold J1 at h;try dsimp only at h
 refine gw9 (Cy rfl ?_)
 refine rg rfl fun K j=>?_
 refine A1.of (f:=An) (l:=v.Runs) ao ?_
 refine nS ?_
 refine Ah.inline Tryz.call252 Tryz.func252 rfl rfl (by show _≤7;simp) ?_
 refine nS (sq ?_)
 refine gw7 rfl ?_
 refine rg rfl fun K j=>?_
 obtain⟨y3,bu,h⟩:=Ae h
 refine Ah.pure Tryz.call253 (dH w ab bu) rfl fun _ hr=>?_
 subst hr
 refine nS ?_
 refine j _ _ (qn (rt ?_));clear j K
 refine nSc Tryz.results252 ?_
 refine j _ _ (qn ?_);clear j K
 refine cA h rfl ?_ ?_<;>intro hc h
 ·refine gw1 rfl (br (qr (qr ?_)))
  replace h:=x0 h aa ae
  refine br (qr (nSc Tryz.results150 ?_))
  refine j _ _ (qn (rt ?_));clear j K
  refine nSc Tryz.results251 ?_
  refine j (rt ?_)
  cases h;exact en Tryz.results174
 refine gw5 rfl ?_
 refine lE ag aa h () ?_ ?_<;>exact cuw ay
def Ka (l:List Am) (k0:Nat) (ab:Am) (k3:Nat) (_x:Unit) (sv:Unit):Option (Out (Unit) (Out (Unit) (Int))):=
 (Da (l.take k0) ((k3:Nat):Int)).bind fun cm=>(J9 cm ab).bind fun y6=>(bif y6 then((bif (decide (0≤((k3:Nat):Int)))then some (Out.ret 15)else some (Out.next ()))).bind fun q6=>some (Out.ret q6)else some (Out.next ()))
def Kb (l:List Am) (k0:Nat) (ab:Am) (sv:Unit):Option (Out (Unit) (Int)):=
 (bif (decide (ab.Groomer<1))then some (Out.ret 2)else (bif (decide (9999<ab.Groomer))then some (Out.ret 2)else (bif (decide (ab.From<0))then some (Out.ret 2)else (bif (decide (ab.To≤ab.From))then some (Out.ret 2)else (bif (decide (20000000<ab.To))then some (Out.ret 2)else (Sr ab.Runs).bind fun y3=>(bif (!y3)then some (Out.ret 1)else okB (decide (0≤((k0:Nat):Int)∧((k0:Nat):Int)≤((l.length:Nat):Int))) ((J8 (Ka l k0 ab) k0 ()).bind fun o3=>o3.on fun s3=>some (Out.next ()))))))))
def Rb (l:List Am):Option (Int):=
 (bif (decide (16<((l.length:Nat):Int)))then some 4 else(Al (Kb l) 0 l ()).bind fun o0=>o0.on fun s0=>some 0)
theorem fL (l:List Am) {r:Int} (h:Rb l=some r):Ad Tryz.prog 81 [.sl 4 (l.map Aj)] (·= .int .i64 r):=by
 refine Ad.nle (Ad.intro Tryz.func81 rfl rfl (by show _≤50;simp) ?_)
 unfold Rb at h
 refine nS (sq ?_)
 refine B5 rfl ?_
 refine rg rfl fun K j=>?_
 intro hm
 refine j _ _ (qn (cA h rfl ?_ ?_))<;>intro hc h
 ·refine gw8 rfl ?_
  cases h;exact en Tryz.results81
 refine gw6 (rG rfl fun K j=>?_)
 intro hm
 refine j (bk ?_)
 obtain⟨o0,aa,ae⟩:=Ae h
 clear h
 refine AWP.Bh aa () (fun zz=>[(0,.sl 4 (l.map Aj)),(8,.sl 4 (l.map Aj)),(9,.int .i64 ((l.length:Nat):Int)),(10,.int .i64 ((zz.1:Nat):Int))]) (fun zz=>[]) ?_
 rintro k0 ⟨⟩ ⟨⟩ bb aa
 dsimp only
 refine Cy rfl ?_
 refine cD rfl ?_ ?_<;>intro hc
 ·obtain rfl:=fnD aa hc
  have h:=Ao ae;try dsimp only at h
  have af:=leD bb hc
  subst af
  refine Cr rfl ?_
  cases h;exact en Tryz.results81
 obtain⟨ab,b0,ag,bh,ao,h,aa⟩:=fcD aa hc
 have ay:=wk (k:=k0) (by omega)
 unfold Kb at h;try dsimp only at h
 refine gw9 (rG rfl fun K j=>?_)
 refine A1.of (f:=Aj) (l:=l) ao ?_
 refine nS ?_
 refine j (sq (rG rfl fun K j=>?_))
 refine gF' h ?_ ?_<;>intro hc h
 ·refine j (ct rfl (Cd rfl ?_))
  cases x0 h aa ae;exact en Tryz.results81
 refine gF' h ?_ ?_<;>intro hc h
 ·refine j (ct rfl (Cd rfl ?_))
  cases x0 h aa ae;exact en Tryz.results81
 refine gF' h ?_ ?_<;>intro hc h
 ·refine j (ct rfl (Cd rfl ?_))
  cases x0 h aa ae;exact en Tryz.results81
 refine gF' h ?_ ?_<;>intro hc h
 ·refine j (ct rfl (Cd rfl ?_))
  cases x0 h aa ae;exact en Tryz.results81
 refine j (cA h rfl ?_ ?_)<;>intro hc h
 ·refine Cd rfl ?_
  cases x0 h aa ae;exact en Tryz.results81
 refine gw6 (rG rfl fun K j=>?_)
 obtain⟨y3,bu,h⟩:=Ae h
 refine Ah.pure Tryz.call171 (dI ab.Runs bu) rfl fun _ hr=>?_
 subst hr
 refine nS ?_
 refine j (cA h rfl ?_ ?_)<;>intro hc h
 ·refine Cd rfl ?_
  cases x0 h aa ae;exact en Tryz.results81
 refine Co (rG rfl fun K j=>?_)
 obtain⟨hk,h⟩:=Fv h
 intro hm
 (repeat(refine⟨by omega,?_⟩))
 refine Ah.inline Tryz.call172 Tryz.func172 rfl rfl (by show _≤9;simp) ?_
 refine nS (sq ?_)
 refine gw7 rfl ?_
 refine rg rfl fun K j=>?_
 refine Ah.inline Tryz.call250 Tryz.func250 rfl rfl (by show _≤19;simp) ?_
 refine nS (sq ?_)
 refine B5 rfl ?_
 refine rg rfl fun K j=>?_
 intro hm
 refine j _ _ (qn (bk ?_));clear j K
 obtain⟨o3,bo,ew⟩:=Ae h
 clear h
 obtain⟨hn3,bo⟩:=Ng bo
 refine AWP.Ma (ι:=Nat×(Unit)×(Unit)) (fun zz=>[(0,.sl 4 ((l.take k0).map Aj)),(1,.func 173 [.ptr 0 0]),(7,.int .i64 ((k0:Nat):Int)),(8,.int .i64 ((zz.1:Nat):Int))]) (fun zz=>[.box (Aj ab)]) (fun zz=>zz.1≤k0∧Al (Ka l k0 ab) zz.1 ((List.replicate k0 ()).drop zz.1) zz.2.1=some o3) (fun zz=>k0 - zz.1) (0,(),()) ⟨Nat.zero_le _,bo⟩ cu cu (fun x=>⟨rfl,rfl,rfl⟩) ?_
 clear bo
 rintro⟨k3,⟨⟩,⟨⟩⟩ ⟨jz,bo⟩
 dsimp only at jz bo ⊢
 refine Cy rfl ?_
 refine cD rfl ?_ ?_<;>intro hc
 ·obtain rfl:=J5 bo (fun hl=>by rw[Aov]at hl;have:=Aom hc;omega)
  have h:=Ao ew;try dsimp only at h
  have af:k0=k3:=by have:=Aom hc;omega
  subst af
  refine Cr rfl ?_
  refine nSc Tryz.results250 ?_
  refine j _ _ (qn (rt ?_));clear j K
  refine nSc Tryz.results172 ?_
  refine j (cf rfl (gw5 rfl ?_))
  refine lE ag aa h () ?_ ?_<;>exact cuw ay
 have da:k3<k0:=by have:=Aon hc;omega
 obtain⟨_,b3,_,h,bo⟩:=G6 bo (by rw[Aov];exact da)
 have gi:=wk (k:=k3) (by omega)
 unfold Ka at h;try dsimp only at h
 refine gw9 (Cy rfl ?_)
 refine rg rfl fun K j=>?_
 obtain⟨cm,iu,h⟩:=Ae h
 refine A1.of (f:=Aj) (l:=(l.take k0)) iu ?_
 refine nS ?_
 refine Ah.inline Tryz.call173 Tryz.func173 rfl rfl (by show _≤7;simp) ?_
 refine nS (sq ?_)
 refine gw7 rfl ?_
 refine rg rfl fun K j=>?_
 obtain⟨y6,ec,h⟩:=Ae h
 refine Ah.pure Tryz.call174 (aT cm ab ec) rfl fun _ hr=>?_
 subst hr
 refine nS ?_
 refine j _ _ (qn (rt ?_));clear j K
 refine nSc Tryz.results173 ?_
 refine j _ _ (qn ?_);clear j K
 refine cA h rfl ?_ ?_<;>intro hc h
 ·refine gw1 rfl (br (qr (qr ?_)))
  obtain⟨q6,hq,h⟩:=Ae h
  obtain rfl:=Aa h
  obtain rfl:=G7 bo
  replace h:=hq.trans (Pg ew)
  refine br (qr (nSc Tryz.results250 ?_))
  refine j _ _ (qn (rt ?_));clear j K
  refine nSc Tryz.results172 ?_
  refine j (cA h rfl ?_ ?_)<;>intro hc h
  ·refine Cs rfl ?_
   cases x0 h aa ae;exact en Tryz.results81
  refine gw5 rfl ?_
  refine lE ag aa h () ?_ ?_<;>exact cuw ay
 refine gw5 rfl ?_
 obtain rfl:=Aa h
 refine⟨(k3+1,(),()),⟨by dsimp only;omega,Cj bo⟩,by dsimp only;omega,?_,?_⟩
 ·exact cuw gi
 exact cuw gi
def Jo (g_:B3):Option (Bool):=
 (bif (decide (g_.ID<1))then some false else(bif (decide (9999<g_.ID))then some false else(bif (decide (g_.Node<1))then some false else(bif (decide (9999<g_.Node))then some false else(bif (decide (g_.Fuel<0))then some false else(bif (decide (1000000<g_.Fuel))then some false else(bif (decide (g_.State<0))then some false else(bif (decide (2<g_.State))then some false else(bif (decide (g_.Until<0))then some false else(bif (decide (20000000<g_.Until))then some false else(bif (decide (0≤g_.To))then (bif (decide (g_.To≤9999))then (bif (decide (0≤g_.Run))then some (decide (g_.Run≤9999))else some false)else some false)else some false)))))))))))
theorem Zc (g_:B3) {r:Bool} (h:Jo g_=some r):Ad Tryz.prog 175 [.agg (A7 g_)] (·= .bool r):=by
 refine Ad.nle (Ad.intro Tryz.func175 rfl rfl (by show _≤67;simp) ?_)
 unfold Jo at h
 refine nS (sq ?_)
 refine B5 rfl ?_
 refine rg rfl fun K j=>?_
 refine gF' h ?_ ?_<;>intro hc h
 ·refine j _ _ (qn (ct rfl (gw8 rfl ?_)))
  cases h;exact en Tryz.results175
 refine gF' h ?_ ?_<;>intro hc h
 ·refine j _ _ (qn (ct rfl (gw8 rfl ?_)))
  cases h;exact en Tryz.results175
 refine gF' h ?_ ?_<;>intro hc h
 ·refine j _ _ (qn (ct rfl (gw8 rfl ?_)))
  cases h;exact en Tryz.results175
 refine gF' h ?_ ?_<;>intro hc h
 ·refine j _ _ (qn (ct rfl (gw8 rfl ?_)))
  cases h;exact en Tryz.results175
 refine gF' h ?_ ?_<;>intro hc h
 ·refine j _ _ (qn (ct rfl (gw8 rfl ?_)))
  cases h;exact en Tryz.results175
 refine j _ _ (qn (cA h rfl ?_ ?_))<;>intro hc h
 ·refine gw8 rfl ?_
  cases h;exact en Tryz.results175
 refine gw6 (rG rfl fun K j=>?_)
 refine gF' h ?_ ?_<;>intro hc h
 ·refine j (ct rfl (gw8 rfl ?_))
  cases h;exact en Tryz.results175
 refine gF' h ?_ ?_<;>intro hc h
 ·refine j (ct rfl (gw8 rfl ?_))
  cases h;exact en Tryz.results175
 refine gF h ?_ ?_<;>intro hc h
 ·refine j (cA h rfl ?_ ?_)<;>intro hc h
  ·refine gw8 rfl ?_
   cases h;exact en Tryz.results175
  refine Co (rG rfl fun K j=>?_)
  refine gT h ?_ ?_<;>intro hc h
  ·refine gT h ?_ ?_<;>intro hc h
   ·refine gT h ?_ ?_<;>intro hc h
    ·refine j (rt ?_)
     cases h;exact en Tryz.results175
    refine j (rt ?_)
    cases h;exact en Tryz.results175
   refine j (rt ?_)
   cases h;exact en Tryz.results175
  refine j (rt ?_)
  cases h;exact en Tryz.results175
 refine j (ct rfl (gw8 rfl ?_))
 cases h;exact en Tryz.results175
def L5 (k1:Nat) (ak:B3) (sv:(List (Int×Bool))):Option (Out ((List (Int×Bool))) (Int)):=
 (Jo ak).bind fun y4=>(bif (!y4)then some (Out.ret 2)else (bif (mget false sv ak.ID)then some (Out.ret 7)else (bif ((decide (ak.To≠0)) !=(decide (ak.State=1)))then some (Out.ret 10)else (bif ((decide (ak.Run≠0)) !=(decide (ak.State=2)))then some (Out.ret 10)else some (Out.next (mset sv ak.ID true))))))
def M6 (l:List B3):Option (Int):=
 (bif (decide (16<((l.length:Nat):Int)))then some 4 else(Al L5 0 l []).bind fun o1=>o1.on fun s1=>some 0)
theorem cW (l:List B3) {r:Int} (h:M6 l=some r):Ad Tryz.prog 82 [.sl 8 (l.map A7)] (·= .int .i64 r):=by
 refine Ad.nle (Ad.intro Tryz.func82 rfl rfl (by show _≤43;simp) ?_)
 unfold M6 at h
 refine nS (sq ?_)
 refine B5 rfl ?_
 refine rg rfl fun K j=>?_
 intro hm
 refine j _ _ (qn (cA h rfl ?_ ?_))<;>intro hc h
 ·refine gw8 rfl ?_
  cases h;exact en Tryz.results82
 refine gw6 (B5 rfl ?_)
 refine rg rfl fun K j=>?_
 intro hm
 refine j _ _ (qn (bk ?_))
 obtain⟨o1,aq,db⟩:=Ae h
 clear h
 refine AWP.Bh aq () (fun zz=>[(3,.map 0),(10,.sl 8 (l.map A7)),(11,.int .i64 ((l.length:Nat):Int)),(12,.int .i64 ((zz.1:Nat):Int))]) (fun zz=>[.mp (mpE jT zz.2.1)]) ?_
 rintro k1 seen1 ⟨⟩ ga aq
 dsimp only
 refine Cy rfl ?_
 refine cD rfl ?_ ?_<;>intro hc
 ·obtain rfl:=fnD aq hc
  have h:=Ao db;try dsimp only at h
  have af:=leD ga hc
  subst af
  refine Cr rfl ?_
  cases h;exact en Tryz.results82
 obtain⟨ak,b1,bl,fx,fk,h,aq⟩:=fcD aq hc
 have cz:=wk (k:=k1) (by omega)
 unfold L5 at h;try dsimp only at h
 refine gw9 (rG rfl fun K j=>?_)
 refine A1.of (f:=A7) (l:=l) fk ?_
 refine nS ?_
 refine j (sq (rG rfl fun K j=>?_))
 obtain⟨y4,ch,h⟩:=Ae h
 refine Ah.pure Tryz.call175 (Zc ak ch) rfl fun _ hr=>?_
 subst hr
 refine nS ?_
 refine j (cA h rfl ?_ ?_)<;>intro hc h
 ·refine Cd rfl ?_
  cases x0 h aq db;exact en Tryz.results82
 refine gw6 (rG rfl fun K j=>?_)
 refine Ev.of (f:=jT) (m:=seen1) (d:=false) rfl ?_
 refine nS ?_
 refine j (cA h rfl ?_ ?_)<;>intro hc h
 ·refine Cd rfl ?_
  cases x0 h aq db;exact en Tryz.results82
 refine Co (Cy rfl ?_)
 refine rg rfl fun K j=>?_
 refine gF h ?_ ?_<;>intro hc h
 ·refine j _ _ (qn (cA h rfl ?_ ?_))<;>intro hc h
  ·refine Cs rfl ?_
   cases x0 h aq db;exact en Tryz.results82
  refine gw5 rfl ?_
  refine lE bl aq h () ?_ ?_<;>exact cuw cz
 refine j _ _ (qn (ct rfl (Cs rfl ?_)))
 cases x0 h aq db;exact en Tryz.results82
def Fb (f_:Af):Option (Int):=
 (Mq f_.Map).bind fun y1=>(bif (decide (y1≠0))then some y1 else(M8 f_.Closures).bind fun y2=>(bif (decide (y2≠0))then some y2 else(Pe f_.Patrol).bind fun y3=>(bif (decide (y3≠0))then some y3 else(Mr f_.Surfaces).bind fun y4=>(bif (decide (y4≠0))then some y4 else(Jq f_.Slides).bind fun y5=>(bif (decide (y5≠0))then some y5 else(H8 f_.Bulletin).bind fun y6=>(bif (decide (y6≠0))then some y6 else(R1 f_.Missions).bind fun y7=>(bif (decide (y7≠0))then some y7 else(Rb f_.Winches).bind fun y8=>(bif (decide (y8≠0))then some y8 else(M6 f_.Groomers).bind fun y9=>some y9))))))))
theorem Uo (f_:Af) {r:Int} (h:Fb f_=some r):Ad Tryz.prog 37 [.agg (Ai f_)] (·= .int .i64 r):=by
 refine Ad.nle (Ad.intro Tryz.func37 rfl rfl (by show _≤62;simp) ?_)
 unfold Fb at h
 refine nS (sq ?_)
 refine B5 rfl ?_
 refine rg rfl fun K j=>?_
 obtain⟨y1,bp,h⟩:=Ae h
 refine Ah.pure Tryz.call74 (bW f_.Map bp) rfl fun _ hr=>?_
 subst hr
 refine nS ?_
 refine j _ _ (qn (B8 rfl ?_))
 refine cA h rfl ?_ ?_<;>intro hc h
 ·refine gw8 rfl ?_
  cases h;exact en Tryz.results37
 refine gw6 (rG rfl fun K j=>?_)
 obtain⟨y2,cx,h⟩:=Ae h
 refine Ah.pure Tryz.call75 (c6 f_.Closures cx) rfl fun _ hr=>?_
 subst hr
 refine nS ?_
 refine j (B8 rfl ?_)
 refine cA h rfl ?_ ?_<;>intro hc h
 ·refine gw8 rfl ?_
  cases h;exact en Tryz.results37
 refine gw6 (rG rfl fun K j=>?_)
 obtain⟨y3,bu,h⟩:=Ae h
 refine Ah.pure Tryz.call76 (eD f_.Patrol bu) rfl fun _ hr=>?_
 subst hr
 refine nS ?_
 refine j (B8 rfl ?_)
 refine cA h rfl ?_ ?_<;>intro hc h
 ·refine gw8 rfl ?_
  cases h;exact en Tryz.results37
 refine gw6 (rG rfl fun K j=>?_)
 obtain⟨y4,ch,h⟩:=Ae h
 refine Ah.pure Tryz.call77 (bY f_.Surfaces ch) rfl fun _ hr=>?_
 subst hr
 refine nS ?_
 refine j (B8 rfl ?_)
 refine cA h rfl ?_ ?_<;>intro hc h
 ·refine gw8 rfl ?_
  cases h;exact en Tryz.results37
 refine gw6 (rG rfl fun K j=>?_)
 obtain⟨y5,cw,h⟩:=Ae h
 refine Ah.pure Tryz.call78 (Zs f_.Slides cw) rfl fun _ hr=>?_
 subst hr
 refine nS ?_
 refine j (B8 rfl ?_)
 refine cA h rfl ?_ ?_<;>intro hc h
 ·refine gw8 rfl ?_
  cases h;exact en Tryz.results37
 refine gw6 (rG rfl fun K j=>?_)
 obtain⟨y6,ec,h⟩:=Ae h
 refine Ah.pure Tryz.call79 (bC f_.Bulletin ec) rfl fun _ hr=>?_
 subst hr
 refine nS ?_
 refine j (B8 rfl ?_)
 refine cA h rfl ?_ ?_<;>intro hc h
 ·refine gw8 rfl ?_
  cases h;exact en Tryz.results37
 refine gw6 (rG rfl fun K j=>?_)
 obtain⟨y7,eg,h⟩:=Ae h
 refine Ah.pure Tryz.call80 (iQ f_.Missions eg) rfl fun _ hr=>?_
 subst hr
 refine nS ?_
 refine j (B8 rfl ?_)
 refine cA h rfl ?_ ?_<;>intro hc h
 ·refine gw8 rfl ?_
  cases h;exact en Tryz.results37
 refine gw6 (rG rfl fun K j=>?_)
 obtain⟨y8,ej,h⟩:=Ae h
 refine Ah.pure Tryz.call81 (fL f_.Winches ej) rfl fun _ hr=>?_
 subst hr
 refine nS ?_
 refine j (B8 rfl ?_)
 refine cA h rfl ?_ ?_<;>intro hc h
 ·refine gw8 rfl ?_
  cases h;exact en Tryz.results37
 refine Co (rG rfl fun K j=>?_)
 obtain⟨y9,fu,h⟩:=Ae h
 refine Ah.pure Tryz.call82 (cW f_.Groomers fu) rfl fun _ hr=>?_
 subst hr
 refine nS ?_
 refine j (rt ?_)
 cases h;exact en Tryz.results37
def Xx (id_:Int) (k0:Nat) (ab:Ck) (sv:Unit):Option (Out (Unit) (Ck×Bool)):=
 (bif (decide (ab.ID=id_))then some (Out.ret (ab,true))else some (Out.next ()))
def Ol (m:Av) (id_:Int):Option (Ck×Bool):=
 (Al (Xx id_) 0 m.Lifts ()).bind fun o0=>o0.on fun s0=>some ((Ck.mk 0 0 0 0 0 0 0 0),false)
theorem Ur (m:Av) (id_:Int) {r:Ck×Bool} (h:Ol m id_=some r):Ad Tryz.prog 83 [.agg (Be m),.int .i64 id_] (·= .tuple [.agg (Bl r.1),.bool r.2]):=by
 refine Ad.nle (Ad.intro Tryz.func83 rfl rfl (by show _≤22;simp) ?_)
 unfold Ol at h
 refine nS (sq ?_)
 refine B5 rfl ?_
 refine rg rfl fun K j=>?_
 intro hm
 refine j _ _ (qn (bk ?_))
 obtain⟨o0,aa,ae⟩:=Ae h
 clear h
 refine AWP.Bh aa () (fun zz=>[(1,.int .i64 id_),(4,.ptr 1 0),(9,.sl 8 (m.Lifts.map Bl)),(10,.int .i64 ((m.Lifts.length:Nat):Int)),(11,.int .i64 ((zz.1:Nat):Int))]) (fun zz=>[.gone,.box [.int .i64 0,.int .i64 0,.int .i64 0,.int .i64 0,.int .i64 0,.int .i64 0,.int .i64 0,.int .i64 0]]) ?_
 rintro k0 ⟨⟩ ⟨⟩ bb aa
 dsimp only
 refine Cy rfl ?_
 refine cD rfl ?_ ?_<;>intro hc
 ·obtain rfl:=fnD aa hc
  have h:=Ao ae;try dsimp only at h
  have af:=leD bb hc
  subst af
  refine Cr rfl ?_
  cases h;exact en Tryz.results83
 obtain⟨ab,b0,ag,bh,ao,h,aa⟩:=fcD aa hc
 have ay:=wk (k:=k0) (by omega)
 unfold Xx at h;try dsimp only at h
 refine gw9 (rG rfl fun K j=>?_)
 refine A1.of (f:=Bl) (l:=m.Lifts) ao ?_
 refine nS ?_
 refine j (B8 rfl ?_)
 refine cA h rfl ?_ ?_<;>intro hc h
 ·refine Cs rfl ?_
  cases x0 h aa ae;exact en Tryz.results83
 refine gw5 rfl ?_
 refine lE ag aa h () ?_ ?_<;>exact cuw ay
def Fg (f_:Af) (k0:Nat) (ab:Cv) (sv:Unit):Option (Out (Unit) (Int)):=
 (bif (decide (0<((k0:Nat):Int)))then (Da f_.Lifts (IntKind.i64.wrap (((k0:Nat):Int) - 1))).bind fun ak=>(bif (decide (ab.Lift≤ak.Lift))then some (Out.ret 11)else (Ol f_.Map ab.Lift).bind fun y4=>(bif (!y4.2)then some (Out.ret 8)else (bif (decide (ab.Mode<0))then some (Out.ret 2)else (bif (decide (3<ab.Mode))then some (Out.ret 2)else some (Out.next ())))))else (Ol f_.Map ab.Lift).bind fun y5=>(bif (!y5.2)then some (Out.ret 8)else (bif (decide (ab.Mode<0))then some (Out.ret 2)else (bif (decide (3<ab.Mode))then some (Out.ret 2)else some (Out.next ())))))
def G2 (f_:Af):Option (Int):=
 (Al (Fg f_) 0 f_.Lifts ()).bind fun o0=>o0.on fun s0=>some 0
theorem Uq (f_:Af) {r:Int} (h:G2 f_=some r):Ad Tryz.prog 38 [.agg (Ai f_)] (·= .int .i64 r):=by
 refine Ad.nle (Ad.intro Tryz.func38 rfl rfl (by show _≤48;simp) ?_)
 unfold G2 at h
 refine nS (sq ?_)
 refine B5 rfl ?_
 refine rg rfl fun K j=>?_
 intro hm
 refine j _ _ (qn (bk ?_))
 obtain⟨o0,aa,ae⟩:=Ae h
 clear h
 refine AWP.Bh aa () (fun zz=>[(1,.ptr 0 0),(8,.sl 2 (f_.Lifts.map A4)),(9,.int .i64 ((f_.Lifts.length:Nat):Int)),(10,.int .i64 ((zz.1:Nat):Int))]) (fun zz=>[.box (Ai f_)]) ?_
 rintro k0 ⟨⟩ ⟨⟩ bb aa
 dsimp only
 refine Cy rfl ?_
 refine cD rfl ?_ ?_<;>intro hc
 ·obtain rfl:=fnD aa hc
  have h:=Ao ae;try dsimp only at h
  have af:=leD bb hc
  subst af
  refine Cr rfl ?_
  cases h;exact en Tryz.results38
 obtain⟨ab,b0,ag,bh,ao,h,aa⟩:=fcD aa hc
 have ay:=wk (k:=k0) (by omega)
 unfold Fg at h;try dsimp only at h
 refine gw9 (rG rfl fun K j=>?_)
 refine A1.of (f:=A4) (l:=f_.Lifts) ao ?_
 refine nS ?_
 refine j (sq (sq (dR Tryz.mixed fun K j=>?_)))
 refine nS ?_
 refine gT h ?_ ?_<;>intro hc h
 ·obtain⟨ak,cd,h⟩:=Ae h
  refine A1.of (f:=A4) (l:=f_.Lifts) cd ?_
  refine nS ?_
  refine j _ _ _ (by kernel_rfl) (qn (cA h rfl ?_ ?_))<;>intro hc h
  ·refine Cd rfl ?_
   cases x0 h aa ae;exact en Tryz.results38
  refine gw6 (rG rfl fun K j=>?_)
  obtain⟨y4,ch,h⟩:=Ae h
  refine Ah.pure Tryz.call83 (Ur f_.Map ab.Lift ch) rfl fun _ hr=>?_
  subst hr
  refine nS ?_
  refine j (B8 rfl ?_)
  refine cA h rfl ?_ ?_<;>intro hc h
  ·refine Cd rfl ?_
   cases x0 h aa ae;exact en Tryz.results38
  refine Co (rG rfl fun K j=>?_)
  refine gF h ?_ ?_<;>intro hc h
  ·refine j (cA h rfl ?_ ?_)<;>intro hc h
   ·refine Cs rfl ?_
    cases x0 h aa ae;exact en Tryz.results38
   refine gw5 rfl ?_
   refine lE ag aa h () ?_ ?_<;>exact cuw ay
  refine j (ct rfl (Cs rfl ?_))
  cases x0 h aa ae;exact en Tryz.results38
 refine j _ _ _ (by kernel_rfl) (qn (cf rfl (gw6 (rG rfl fun K j=>?_))))
 obtain⟨y5,cw,h⟩:=Ae h
 refine Ah.pure Tryz.call83 (Ur f_.Map ab.Lift cw) rfl fun _ hr=>?_
 subst hr
 refine nS ?_
 refine j (B8 rfl ?_)
 refine cA h rfl ?_ ?_<;>intro hc h
 ·refine Cd rfl ?_
  cases x0 h aa ae;exact en Tryz.results38
 refine Co (rG rfl fun K j=>?_)
 refine gF h ?_ ?_<;>intro hc h
 ·refine j (cA h rfl ?_ ?_)<;>intro hc h
  ·refine Cs rfl ?_
   cases x0 h aa ae;exact en Tryz.results38
  refine gw5 rfl ?_
  refine lE ag aa h () ?_ ?_<;>exact cuw ay
 refine j (ct rfl (Cs rfl ?_))
 cases x0 h aa ae;exact en Tryz.results38
def Ff (f_:Af) (k0:Nat) (ab:Ct) (sv:Unit):Option (Out (Unit) (Int)):=
 (bif (decide (ab.Area<1))then some (Out.ret 2)else (bif (decide (10000000<ab.Area))then some (Out.ret 2)else (Kd ab.Pack).bind fun y3=>(bif (!y3)then some (Out.ret 2)else (bif (decide (0<((k0:Nat):Int)))then (Da f_.Packs (IntKind.i64.wrap (((k0:Nat):Int) - 1))).bind fun aw=>(bif (decide (ab.Run≤aw.Run))then some (Out.ret 11)else some (Out.next ()))else some (Out.next ())))))
def G1 (f_:Af):Option (Int):=
 (Al (Ff f_) 0 f_.Packs ()).bind fun o0=>o0.on fun s0=>some 0
theorem Up (f_:Af) {r:Int} (h:G1 f_=some r):Ad Tryz.prog 39 [.agg (Ai f_)] (·= .int .i64 r):=by
 refine Ad.nle (Ad.intro Tryz.func39 rfl rfl (by show _≤42;simp) ?_)
 unfold G1 at h
 refine nS (sq ?_)
 refine B5 rfl ?_
 refine rg rfl fun K j=>?_
 intro hm
 refine j _ _ (qn (bk ?_))
 obtain⟨o0,aa,ae⟩:=Ae h
 clear h
 refine AWP.Bh aa () (fun zz=>[(1,.ptr 0 0),(6,.sl 5 (f_.Packs.map A6)),(7,.int .i64 ((f_.Packs.length:Nat):Int)),(8,.int .i64 ((zz.1:Nat):Int))]) (fun zz=>[.box (Ai f_)]) ?_
 rintro k0 ⟨⟩ ⟨⟩ bb aa
 dsimp only
 refine Cy rfl ?_
 refine cD rfl ?_ ?_<;>intro hc
 ·obtain rfl:=fnD aa hc
  have h:=Ao ae;try dsimp only at h
  have af:=leD bb hc
  subst af
  refine Cr rfl ?_
  cases h;exact en Tryz.results39
 obtain⟨ab,b0,ag,bh,ao,h,aa⟩:=fcD aa hc
 have ay:=wk (k:=k0) (by omega)
 unfold Ff at h;try dsimp only at h
 refine gw9 (rG rfl fun K j=>?_)
 refine A1.of (f:=A6) (l:=f_.Packs) ao ?_
 refine nS ?_
 refine j (sq (rG rfl fun K j=>?_))
 refine gF' h ?_ ?_<;>intro hc h
 ·refine j (ct rfl (Cd rfl ?_))
  cases x0 h aa ae;exact en Tryz.results39
 refine gF' h ?_ ?_<;>intro hc h
 ·refine j (ct rfl (Cd rfl ?_))
  cases x0 h aa ae;exact en Tryz.results39
 obtain⟨y3,bu,h⟩:=Ae h
 refine Ah.pure Tryz.call84 (Sk ab.Pack bu) rfl fun _ hr=>?_
 subst hr
 refine nS ?_
 refine j (cA h rfl ?_ ?_)<;>intro hc h
 ·refine Cd rfl ?_
  cases x0 h aa ae;exact en Tryz.results39
 refine gw6 (dR Tryz.mixed fun K j=>?_)
 refine nS ?_
 refine gT h ?_ ?_<;>intro hc h
 ·obtain⟨aw,fg,h⟩:=Ae h
  refine A1.of (f:=A6) (l:=f_.Packs) fg ?_
  refine nS ?_
  refine j _ _ _ (by kernel_rfl) (qn (cA h rfl ?_ ?_))<;>intro hc h
  ·refine Cs rfl ?_
   cases x0 h aa ae;exact en Tryz.results39
  refine gw5 rfl ?_
  refine lE ag aa h () ?_ ?_<;>exact cuw ay
 refine j _ _ _ (by kernel_rfl) (qn (cf rfl (gw5 rfl ?_)))
 refine lE ag aa h () ?_ ?_<;>exact cuw ay
def E8 (f_:Af) (k0:Nat) (ab:Au) (sv:Unit):Option (Out (Unit) (Int)):=
 (bif (decide (0<((k0:Nat):Int)))then (Da f_.Status (IntKind.i64.wrap (((k0:Nat):Int) - 1))).bind fun ak=>(bif (decide (ab.Run≤ak.Run))then some (Out.ret 11)else (E9 f_.Map ab.Run).bind fun y4=>(bif (!y4.2)then some (Out.ret 8)else (bif (decide (ab.Since<0))then some (Out.ret 2)else (bif (decide (20000000<ab.Since))then some (Out.ret 2)else some (Out.next ())))))else (E9 f_.Map ab.Run).bind fun y5=>(bif (!y5.2)then some (Out.ret 8)else (bif (decide (ab.Since<0))then some (Out.ret 2)else (bif (decide (20000000<ab.Since))then some (Out.ret 2)else some (Out.next ())))))
def Gn (f_:Af):Option (Int):=
 (Al (E8 f_) 0 f_.Status ()).bind fun o0=>o0.on fun s0=>some 0
theorem T7 (f_:Af) {r:Int} (h:Gn f_=some r):Ad Tryz.prog 40 [.agg (Ai f_)] (·= .int .i64 r):=by
 refine Ad.nle (Ad.intro Tryz.func40 rfl rfl (by show _≤48;simp) ?_)
 unfold Gn at h
 refine nS (sq ?_)
 refine B5 rfl ?_
 refine rg rfl fun K j=>?_
 intro hm
 refine j _ _ (qn (bk ?_))
 obtain⟨o0,aa,ae⟩:=Ae h
 clear h
 refine AWP.Bh aa () (fun zz=>[(1,.ptr 0 0),(8,.sl 3 (f_.Status.map Ax)),(9,.int .i64 ((f_.Status.length:Nat):Int)),(10,.int .i64 ((zz.1:Nat):Int))]) (fun zz=>[.box (Ai f_)]) ?_
 rintro k0 ⟨⟩ ⟨⟩ bb aa
 dsimp only
 refine Cy rfl ?_
 refine cD rfl ?_ ?_<;>intro hc
 ·obtain rfl:=fnD aa hc
  have h:=Ao ae;try dsimp only at h
  have af:=leD bb hc
  subst af
  refine Cr rfl ?_
  cases h;exact en Tryz.results40
 obtain⟨ab,b0,ag,bh,ao,h,aa⟩:=fcD aa hc
 have ay:=wk (k:=k0) (by omega)
 unfold E8 at h;try dsimp only at h
 refine gw9 (rG rfl fun K j=>?_)
 refine A1.of (f:=Ax) (l:=f_.Status) ao ?_
 refine nS ?_
 refine j (sq (sq (dR Tryz.mixed fun K j=>?_)))
 refine nS ?_
 refine gT h ?_ ?_<;>intro hc h
 ·obtain⟨ak,cd,h⟩:=Ae h
  refine A1.of (f:=Ax) (l:=f_.Status) cd ?_
  refine nS ?_
  refine j _ _ _ (by kernel_rfl) (qn (cA h rfl ?_ ?_))<;>intro hc h
  ·refine Cd rfl ?_
   cases x0 h aa ae;exact en Tryz.results40
  refine gw6 (rG rfl fun K j=>?_)
  obtain⟨y4,ch,h⟩:=Ae h
  refine Ah.pure Tryz.call53 (Eh f_.Map ab.Run ch) rfl fun _ hr=>?_
  subst hr
  refine nS ?_
  refine j (B8 rfl ?_)
  refine cA h rfl ?_ ?_<;>intro hc h
  ·refine Cd rfl ?_
   cases x0 h aa ae;exact en Tryz.results40
  refine Co (rG rfl fun K j=>?_)
  refine gF h ?_ ?_<;>intro hc h
  ·refine j (cA h rfl ?_ ?_)<;>intro hc h
   ·refine Cs rfl ?_
    cases x0 h aa ae;exact en Tryz.results40
   refine gw5 rfl ?_
   refine lE ag aa h () ?_ ?_<;>exact cuw ay
  refine j (ct rfl (Cs rfl ?_))
  cases x0 h aa ae;exact en Tryz.results40
 refine j _ _ _ (by kernel_rfl) (qn (cf rfl (gw6 (rG rfl fun K j=>?_))))
 obtain⟨y5,cw,h⟩:=Ae h
 refine Ah.pure Tryz.call53 (Eh f_.Map ab.Run cw) rfl fun _ hr=>?_
 subst hr
 refine nS ?_
 refine j (B8 rfl ?_)
 refine cA h rfl ?_ ?_<;>intro hc h
 ·refine Cd rfl ?_
  cases x0 h aa ae;exact en Tryz.results40
 refine Co (rG rfl fun K j=>?_)
 refine gF h ?_ ?_<;>intro hc h
 ·refine j (cA h rfl ?_ ?_)<;>intro hc h
  ·refine Cs rfl ?_
   cases x0 h aa ae;exact en Tryz.results40
  refine gw5 rfl ?_
  refine lE ag aa h () ?_ ?_<;>exact cuw ay
 refine j (ct rfl (Cs rfl ?_))
 cases x0 h aa ae;exact en Tryz.results40
def Gs (f_:Af):Option (Int):=
 (Fb f_).bind fun y1=>(bif (decide (y1≠0))then some y1 else(bif (decide (32<((f_.Lifts.length:Nat):Int)))then some 4 else(bif (decide (64<((f_.Packs.length:Nat):Int)))then some 4 else(bif (decide (64<((f_.Status.length:Nat):Int)))then some 4 else(G2 f_).bind fun y2=>(bif (decide (y2≠0))then some y2 else(G1 f_).bind fun y3=>(bif (decide (y3≠0))then some y3 else(Gn f_).bind fun y4=>(bif (decide (y4≠0))then some y4 else(bif (decide (f_.Depth<0))then some 2 else(bif (decide (10000<f_.Depth))then some 2 else(bif (decide (f_.Time<0))then some 2 else(bif (decide (20000000<f_.Time))then some 2 else some 0)))))))))))
theorem Y9 (f_:Af) {r:Int} (h:Gs f_=some r):Ad Tryz.prog 12 [.agg (Ai f_)] (·= .int .i64 r):=by
 refine Ad.nle (Ad.intro Tryz.func12 rfl rfl (by show _≤61;simp) ?_)
 unfold Gs at h
 refine nS (sq ?_)
 refine B5 rfl ?_
 refine rg rfl fun K j=>?_
 obtain⟨y1,bp,h⟩:=Ae h
 refine Ah.pure Tryz.call37 (Uo f_ bp) rfl fun _ hr=>?_
 subst hr
 refine nS ?_
 refine j _ _ (qn (B8 rfl ?_))
 refine cA h rfl ?_ ?_<;>intro hc h
 ·refine gw8 rfl ?_
  cases h;exact en Tryz.results12
 refine gw6 (rG rfl fun K j=>?_)
 intro hm
 refine gF' h ?_ ?_<;>intro hc h
 ·refine j (ct rfl (gw8 rfl ?_))
  cases h;exact en Tryz.results12
 intro hm
 refine gF' h ?_ ?_<;>intro hc h
 ·refine j (ct rfl (gw8 rfl ?_))
  cases h;exact en Tryz.results12
 intro hm
 refine j (cA h rfl ?_ ?_)<;>intro hc h
 ·refine gw8 rfl ?_
  cases h;exact en Tryz.results12
 refine gw6 (rG rfl fun K j=>?_)
 obtain⟨y2,cx,h⟩:=Ae h
 refine Ah.pure Tryz.call38 (Uq f_ cx) rfl fun _ hr=>?_
 subst hr
 refine nS ?_
 refine j (B8 rfl ?_)
 refine cA h rfl ?_ ?_<;>intro hc h
 ·refine gw8 rfl ?_
  cases h;exact en Tryz.results12
 refine gw6 (rG rfl fun K j=>?_)
 obtain⟨y3,bu,h⟩:=Ae h
 refine Ah.pure Tryz.call39 (Up f_ bu) rfl fun _ hr=>?_
 subst hr
 refine nS ?_
 refine j (B8 rfl ?_)
 refine cA h rfl ?_ ?_<;>intro hc h
 ·refine gw8 rfl ?_
  cases h;exact en Tryz.results12
 refine gw6 (rG rfl fun K j=>?_)
 obtain⟨y4,ch,h⟩:=Ae h
 refine Ah.pure Tryz.call40 (T7 f_ ch) rfl fun _ hr=>?_
 subst hr
 refine nS ?_
 refine j (B8 rfl ?_)
 refine cA h rfl ?_ ?_<;>intro hc h
 ·refine gw8 rfl ?_
  cases h;exact en Tryz.results12
 refine gw6 (rG rfl fun K j=>?_)
 refine gF h ?_ ?_<;>intro hc h
 ·refine gF h ?_ ?_<;>intro hc h
  ·refine gF h ?_ ?_<;>intro hc h
   ·refine j (cA h rfl ?_ ?_)<;>intro hc h
    ·refine gw8 rfl ?_
     cases h;exact en Tryz.results12
    refine Co (gw1 rfl ?_)
    cases h;exact en Tryz.results12
   refine j (ct rfl (gw8 rfl ?_))
   cases h;exact en Tryz.results12
  refine j (ct rfl (gw8 rfl ?_))
  cases h;exact en Tryz.results12
 refine j (ct rfl (gw8 rfl ?_))
 cases h;exact en Tryz.results12
def U3 (f_:Af) (jb:List Int) (k9:Nat) (ji:Int) (sv:(List Int)):Option (Out ((List Int)) (Out ((List Int)) ((List Int)))):=
 (Ei f_ jb ji).bind fun ee=>(bif ee then chk (sv.length+1) (some (Out.next (sv++[ji])))else some (Out.next sv))
def Ps (f_:Af) (sv:(List Int)):Option (Out ((List Int)) ((List Int))):=
 (Al (U3 f_ sv) 0 sv []).bind fun o9=>o9.on fun s9=>(bif (decide (((s9.length:Nat):Int)=((sv.length:Nat):Int)))then some (Out.ret s9)else some (Out.next s9))
def U2 (f_:Af) (fq:List Int) (k26:Nat) (ti:Int) (sv:(List Int)):Option (Out ((List Int)) (Out ((List Int)) ((List Int)))):=
 (Ei f_ fq ti).bind fun y29=>(bif y29 then chk (sv.length+1) (some (Out.next (sv++[ti])))else some (Out.next sv))
def J3 (f_:Af) (sv:(List Int)):Option (Out ((List Int)) ((List Int))):=
 (Al (U2 f_ sv) 0 sv []).bind fun o26=>o26.on fun s26=>(bif (decide (((s26.length:Nat):Int)=((sv.length:Nat):Int)))then some (Out.ret s26)else some (Out.next s26))
def Ee (f_:Af) (sv:Int×Int×(List Int)):Option (Out (Int×Int×(List Int)) ((List Int))):=
 (bif (decide (sv.2.1<((sv.2.2.length:Nat):Int)))then (Da sv.2.2 sv.2.1).bind fun gu=>(Dh f_ gu).bind fun mn=>(bif (!(decide (mn≠(0:Int))))then (Da sv.2.2 sv.1).bind fun mz=>some (Out.next ((IntKind.i64.wrap (sv.1+(1:Int))),(IntKind.i64.wrap (sv.2.1+(1:Int))),(sv.2.2.set sv.1.toNat gu)))else some (Out.next (sv.1,(IntKind.i64.wrap (sv.2.1+(1:Int))),sv.2.2)))else (okB (decide ((0:Int)≤sv.1∧sv.1≤((sv.2.2.length:Nat):Int))) (okB (decide ((0:Int)≤sv.1∧sv.1≤((sv.2.2.length:Nat):Int))) ((Dx (J3 f_) fuel (((sv.2.2.take sv.1.toNat)++(List.replicate (sv.2.2.length - sv.1.toNat) (0:Int))).take sv.1.toNat)).bind fun o23=>o23.on fun _=>none))).bind fun q29=>some (Out.ret q29))
def G4 (f_:Af) (fp:List Int) (k36:Nat) (th:Int) (sv:(List Int)):Option (Out ((List Int)) (Out ((List Int)) ((List Int)))):=
 (Ei f_ fp th).bind fun gh=>(bif gh then chk (sv.length+1) (some (Out.next (sv++[th])))else some (Out.next sv))
def D1 (f_:Af) (sv:(List Int)):Option (Out ((List Int)) ((List Int))):=
 (Al (G4 f_ sv) 0 sv []).bind fun o36=>o36.on fun s36=>(bif (decide (((s36.length:Nat):Int)=((sv.length:Nat):Int)))then some (Out.ret s36)else some (Out.next s36))
def Fj (f_:Af) (y1:(List Int)) (k1:Nat) (ak:Int) (sv:Unit):Option (Out (Unit) ((List Int))):=
 (Dh f_ ak).bind fun y4=>(bif (decide (y4≠0))then ((bif (decide (((k1:Nat):Int)=(-1)))then (Dx (Ps f_) fuel (Cz (Dn y1))).bind fun o6=>o6.on fun _=>none else(Dx (Ee f_) fuel (((k1:Nat):Int),(IntKind.i64.wrap (((k1:Nat):Int)+1)),(Cz (Dn y1)))).bind fun o16=>o16.on fun _=>none)).bind fun q30=>some (Out.ret q30)else some (Out.next ()))
def Fc (f_:Af) (runs:List Int):Option ((List Int)):=
 (B9 runs).bind fun y1=>chk y1.length (chk y1.length ((Al (Fj f_ y1) 0 (Cz (Dn y1)) ()).bind fun o1=>o1.on fun s1=>(Dx (D1 f_) fuel (Cz (Dn y1))).bind fun o33=>o33.on fun _=>none))
theorem Rw (f_:Af) (runs:List Int) {r:(List Int)} (h:Fc f_ runs=some r):A8 Tryz.prog 29 [.agg (Ai f_),.sl 1 (runs.map An)] (·= .sl 1 (r.map An)):=by
 refine A8.nle (A8.intro Tryz.func29 rfl rfl (by show _≤40;simp) ?_)
 unfold Fc at h
 refine nS (sq ?_)
 refine gw7 rfl ?_
 refine rg rfl fun K j=>?_
 obtain⟨y1,bp,h⟩:=Ae h
 refine Ah.row Tryz.call67 (Gq runs bp) rfl 1 rfl ?_
 (try simp +decide -implicitDefEqProofs only[go_sem,Aow])
 refine j _ _ (qn (rG rfl fun K j=>?_))
 obtain⟨hk,h⟩:=Bc h
 refine Ah.Dn Tryz.call68 Tryz.sorts68 rfl (by first | rfl | exact(Cq _).symm | (simp only[Aou,List.length_cons,List.length_nil,List.length_set,Aov]<;>omega)) hk ?_
 refine nS ?_
 refine j (rG rfl fun K j=>?_)
 obtain⟨hk,h⟩:=Bc h
 refine Ah.Cz Tryz.call69 Tryz.compacts69 rfl (by first | rfl | exact(Cq _).symm | (simp only[Aou,List.length_cons,List.length_nil,List.length_set,Aov]<;>omega)) hk ?_
 refine nS ?_
 refine j (rG rfl fun K j=>?_)
 refine Ah.inline Tryz.call70 Tryz.func70 rfl rfl (by show _≤42;simp) ?_
 refine nS (sq ?_)
 refine gw7 rfl ?_
 refine rg rfl fun K j=>?_
 refine Ah.inline Tryz.call150 Tryz.func150 rfl rfl (by show _≤19;simp) ?_
 refine nS (sq ?_)
 refine B5 rfl ?_
 refine rg rfl fun K j=>?_
 intro hm
 refine j _ _ (qn (bk ?_));clear j K
 obtain⟨o1,aq,db⟩:=Ae h
 clear h
 refine AWP.Ma (ι:=Nat×(Unit)×(Unit)) (fun zz=>[(0,.own 1 1 0 (Cz (Dn y1)).length),(1,.func 71 [.ptr 0 0]),(7,.int .i64 (((Cz (Dn y1)).length:Nat):Int)),(8,.int .i64 ((zz.1:Nat):Int))]) (fun zz=>[.box (Ai f_),.row 1 1 ((Cz (Dn y1)).map An)]) (fun zz=>zz.1≤(Cz (Dn y1)).length∧Al (Fj f_ y1) zz.1 (((Cz (Dn y1))).drop zz.1) zz.2.1=some o1) (fun zz=>(Cz (Dn y1)).length - zz.1) (0,(),()) ⟨Nat.zero_le _,aq⟩ cu cu (fun x=>⟨rfl,rfl,rfl⟩) ?_
 clear aq
 rintro⟨k1,⟨⟩,⟨⟩⟩ ⟨ga,aq⟩
 dsimp only at ga aq ⊢
 refine Cy rfl ?_
 refine cD rfl ?_ ?_<;>intro hc
 ·obtain rfl:=J5 aq (fun hl=>by have:=Aom hc;omega)
  have h:=Ao db;try dsimp only at h
  have af:(Cz (Dn y1)).length=k1:=by have:=Aom hc;omega
  subst af
  refine Cr rfl ?_
  refine nSc Tryz.results150 ?_
  refine j _ _ (qn (sq (sq ?_)));clear j K
  refine gw3 rfl ?_
  refine ct rfl (gw8 rfl ?_)
  refine nSc Tryz.results70 ?_
  refine j (bk ?_)
  obtain⟨o33,mi,hO33⟩:=Ae h
  clear h
  refine AWP.tN (ι:=Nat×((List Int))×(Nat)) (fun zz=>[(2,.ptr 0 0),(5,.own 1 zz.2.2 0 zz.2.1.length)]) (fun zz=>[.box (Ai f_),.row zz.2.2 1 (zz.2.1.map An)]) (fun zz=>Dx (D1 f_) zz.1 zz.2.1=some o33) (fun zz=>zz.1) (fuel,(Cz (Dn y1)),1) mi cu cu (fun x=>⟨rfl,rfl,rfl⟩) ?_
  clear mi
  rintro⟨n33,fp,qp⟩ mi
  dsimp only at mi ⊢
  obtain⟨m33,b33,rfl,h,mi⟩:=Fp mi
  unfold D1 at h;try dsimp only at h
  refine bk (sq (B5 rfl ?_))
  refine rg rfl fun K j=>?_
  intro hm
  refine j _ _ (qn (bk ?_))
  refine AWP.ghost 6 1 rfl (by decide) ?_
  obtain⟨o36,np,hO36⟩:=Ae h
  clear h
  refine AWP.Bh np (0:Nat) (fun zz=>[(2,.ptr 0 0),(5,.own 1 qp 0 fp.length),(6,.own 2 zz.2.2 0 zz.2.1.length),(18,.own 1 qp 0 fp.length),(19,.int .i64 ((fp.length:Nat):Int)),(20,.int .i64 ((zz.1:Nat):Int))]) (fun zz=>[.box (Ai f_),.row qp 1 (fp.map An),.row zz.2.2 1 (zz.2.1.map An)]) ?_
  rintro k36 left35 jo hk36 np
  dsimp only
  refine Cy rfl ?_
  refine cC rfl ?_ ?_<;>intro hc
  ·obtain⟨th,b36,vi,hx36_,zn,h,np⟩:=fcD np hc
   have zt:=wk (k:=k36) (by omega)
   unfold G4 at h;try dsimp only at h
   refine gw9 (rG rfl fun K j=>?_)
   refine Ge zn (by first | rfl | exact(Cq _).symm | (simp only[Aou,List.length_cons,List.length_nil,List.length_set,Aov]<;>omega)) ?_
   refine nS ?_
   refine Dg.ofNat (f:=An) (l:=fp) (n:=k36) zn ?_
   refine nS ?_
   refine j (rG rfl fun K j=>?_)
   obtain⟨gh,wg,h⟩:=Ae h
   refine Ah.snap Tryz.call49 (Gp f_ fp th wg) (by simp +decide -implicitDefEqProofs only[go_sem]) (by rintro _ rfl;rfl) fun _ hr=>?_
   subst hr
   refine nS ?_
   refine j (cA h rfl ?_ ?_)<;>intro hc h
   ·refine rg rfl fun K j=>?_
    obtain⟨hk,h⟩:=Bc h
    (repeat refine rp ?_);try simp +decide -implicitDefEqProofs only[go_sem]
    refine j _ _ (Eo rfl ?_)
    refine lE vi np h (jo+1) ?_ ?_<;>exact cuw zt
   refine gw5 rfl ?_
   refine lE vi np h jo ?_ ?_<;>exact cuw zt
  obtain rfl:=fnD np hc
  have h:=Ao hO36;try dsimp only at h
  have af:=leD hk36 hc
  subst af
  refine gw4 (sq (rG rfl fun K j=>?_))
  intro hm
  intro hm
  refine j (cA h rfl ?_ ?_)<;>intro hc h
  ·refine gw8 rfl (br (qr (br ?_)))
   cases x0 h mi hO33;exact en Tryz.results29
  refine Co (ar rfl (bn (qn ?_)))
  obtain rfl:=Aa h
  refine⟨(m33,left35,jo),Cj mi,by dsimp only;omega,_,_,Sub.swap 2 1 rfl rfl rfl,?_,?_⟩
  ·exact cu
  exact cu
 have bl:k1<(Cz (Dn y1)).length:=by have:=Aon hc;omega
 obtain⟨ak,b1,fx,h,aq⟩:=G6 aq bl
 have fk:=Cm fx
 have cz:=wk (k:=k1) (by omega)
 unfold Fj at h;try dsimp only at h
 refine gw9 (Cy rfl ?_)
 refine rg rfl fun K j=>?_
 refine Ge fk (by first | rfl | exact(Cq _).symm | (simp only[Aou,List.length_cons,List.length_nil,List.length_set,Aov]<;>omega)) ?_
 refine nS ?_
 refine Dg.ofNat (f:=An) (l:=(Cz (Dn y1))) (n:=k1) fk ?_
 refine nS ?_
 refine Ah.inline Tryz.call71 Tryz.func71 rfl rfl (by show _≤8;simp) ?_
 refine nS (sq ?_)
 refine gw7 rfl ?_
 refine rg rfl fun K j=>?_
 obtain⟨y4,ch,h⟩:=Ae h
 refine Ah.pure Tryz.call48 (Jz f_ ak ch) rfl fun _ hr=>?_
 subst hr
 refine nS ?_
 refine j _ _ (qn (rt ?_));clear j K
 refine nSc Tryz.results71 ?_
 refine j _ _ (qn ?_);clear j K
 refine cA h rfl ?_ ?_<;>intro hc h
 ·refine gw1 rfl (br (qr (qr ?_)))
  obtain⟨q30,hq,h⟩:=Ae h
  obtain rfl:=Aa h
  obtain rfl:=G7 aq
  replace h:=hq.trans (Pg db)
  refine br (qr (nSc Tryz.results150 ?_))
  refine j _ _ (qn (sq (sq ?_)));clear j K
  refine gw3 rfl ?_
  refine cA h rfl ?_ ?_<;>intro hc h
  ·refine gw8 rfl ?_
   refine nSc Tryz.results70 ?_
   refine j (bk ?_)
   obtain⟨o6,dx,mc⟩:=Ae h
   clear h
   refine AWP.tN (ι:=Nat×((List Int))×(Nat)) (fun zz=>[(2,.ptr 0 0),(5,.own 1 zz.2.2 0 zz.2.1.length)]) (fun zz=>[.box (Ai f_),.row zz.2.2 1 (zz.2.1.map An)]) (fun zz=>Dx (Ps f_) zz.1 zz.2.1=some o6) (fun zz=>zz.1) (fuel,(Cz (Dn y1)),1) dx cu cu (fun x=>⟨rfl,rfl,rfl⟩) ?_
   clear dx
   rintro⟨n6,jb,jn⟩ dx
   dsimp only at dx ⊢
   obtain⟨m6,b6,rfl,h,dx⟩:=Fp dx
   unfold Ps at h;try dsimp only at h
   refine bk (sq (B5 rfl ?_))
   refine rg rfl fun K j=>?_
   intro hm
   refine j _ _ (qn (bk ?_))
   refine AWP.ghost 6 1 rfl (by decide) ?_
   obtain⟨o9,ja,yi⟩:=Ae h
   clear h
   refine AWP.Bh ja (0:Nat) (fun zz=>[(2,.ptr 0 0),(5,.own 1 jn 0 jb.length),(6,.own 2 zz.2.2 0 zz.2.1.length),(18,.own 1 jn 0 jb.length),(19,.int .i64 ((jb.length:Nat):Int)),(20,.int .i64 ((zz.1:Nat):Int))]) (fun zz=>[.box (Ai f_),.row jn 1 (jb.map An),.row zz.2.2 1 (zz.2.1.map An)]) ?_
   rintro k9 left8 wa hk9 ja
   dsimp only
   refine Cy rfl ?_
   refine cC rfl ?_ ?_<;>intro hc
   ·obtain⟨ji,b9,ox,hx9_,hx9,h,ja⟩:=fcD ja hc
    have xf:=wk (k:=k9) (by omega)
    unfold U3 at h;try dsimp only at h
    refine gw9 (rG rfl fun K j=>?_)
    refine Ge hx9 (by first | rfl | exact(Cq _).symm | (simp only[Aou,List.length_cons,List.length_nil,List.length_set,Aov]<;>omega)) ?_
    refine nS ?_
    refine Dg.ofNat (f:=An) (l:=jb) (n:=k9) hx9 ?_
    refine nS ?_
    refine j (rG rfl fun K j=>?_)
    obtain⟨ee,fw,h⟩:=Ae h
    refine Ah.snap Tryz.call49 (Gp f_ jb ji fw) (by simp +decide -implicitDefEqProofs only[go_sem]) (by rintro _ rfl;rfl) fun _ hr=>?_
    subst hr
    refine nS ?_
    refine j (cA h rfl ?_ ?_)<;>intro hc h
    ·refine rg rfl fun K j=>?_
     obtain⟨hk,h⟩:=Bc h
     (repeat refine rp ?_);try simp +decide -implicitDefEqProofs only[go_sem]
     refine j _ _ (Eo rfl ?_)
     refine lE ox ja h (wa+1) ?_ ?_<;>exact cuw xf
    refine gw5 rfl ?_
    refine lE ox ja h wa ?_ ?_<;>exact cuw xf
   obtain rfl:=fnD ja hc
   have h:=Ao yi;try dsimp only at h
   have af:=leD hk9 hc
   subst af
   refine gw4 (sq (rG rfl fun K j=>?_))
   intro hm
   intro hm
   refine j (cA h rfl ?_ ?_)<;>intro hc h
   ·refine gw8 rfl (br (qr (br ?_)))
    cases x0 h dx mc;exact en Tryz.results29
   refine Co (ar rfl (bn (qn ?_)))
   obtain rfl:=Aa h
   refine⟨(m6,left8,wa),Cj dx,by dsimp only;omega,_,_,Sub.swap 2 1 rfl rfl rfl,?_,?_⟩
   ·exact cu
   exact cu
  refine gw6 (B8 rfl (bk ?_))
  obtain⟨o16,gb,uk⟩:=Ae h
  clear h
  refine AWP.Ma (ι:=Nat×(Int×Int×(List Int))×(Nat)) (fun zz=>[(0,.own 1 zz.2.2 0 zz.2.1.2.2.length),(1,.func 71 [.ptr 0 0]),(5,.int .i64 zz.2.1.1),(6,.int .i64 zz.2.1.2.1)]) (fun zz=>[.box (Ai f_),.row zz.2.2 1 (zz.2.1.2.2.map An)]) (fun zz=>Dx (Ee f_) zz.1 zz.2.1=some o16) (fun zz=>zz.1) (fuel,(((k1:Nat):Int),(IntKind.i64.wrap (((k1:Nat):Int)+1)),(Cz (Dn y1))),1) gb cu cu (fun x=>⟨rfl,rfl,rfl⟩) ?_
  clear gb
  rintro⟨n16,⟨i13,j14,s_15⟩,qt⟩ gb
  dsimp only at gb ⊢
  obtain⟨m16,b16,rfl,h,gb⟩:=Fp gb
  unfold Ee at h;try dsimp only at h
  refine sq (sq (rg rfl fun K j=>?_))
  intro hm
  refine j _ _ (qn ?_);clear j K
  refine cA h rfl ?_ ?_<;>intro hc h
  ·refine gw9 (sq (rg rfl fun K j=>?_))
   obtain⟨gu,je,h⟩:=Ae h
   refine Ge je (by first | rfl | exact(Cq _).symm | (simp only[Aou,List.length_cons,List.length_nil,List.length_set,Aov]<;>omega)) ?_
   refine nS ?_
   refine Dg.of (f:=An) (l:=s_15) (n:=j14) je ?_
   refine nS ?_
   refine j _ _ (qn (sq ?_));clear j K
   refine rg rfl fun K j=>?_
   refine Ah.inline Tryz.call71 Tryz.func71 rfl rfl (by show _≤8;simp) ?_
   refine nS (sq ?_)
   refine gw7 rfl ?_
   refine rg rfl fun K j=>?_
   obtain⟨mn,wq,h⟩:=Ae h
   refine Ah.pure Tryz.call48 (Jz f_ gu wq) rfl fun _ hr=>?_
   subst hr
   refine nS ?_
   refine j _ _ (qn (rt ?_));clear j K
   refine nSc Tryz.results71 ?_
   refine j _ _ (qn ?_);clear j K
   refine cA h rfl ?_ ?_<;>intro hc h
   ·refine sq (rg rfl fun K j=>?_)
    obtain⟨mz,js,h⟩:=Ae h
    refine Ge js (by first | rfl | exact(Cq _).symm | (simp only[Aou,List.length_cons,List.length_nil,List.length_set,Aov]<;>omega)) ?_
    refine nS ?_
    refine Dg.of (f:=An) (l:=s_15) (n:=i13) js ?_
    have hs21:=Rx (y:=gu) js
    refine nS ?_
    refine j _ _ (qn ?_);clear j K
    refine ar rfl (bn (qn ?_))
    refine gw3 rfl ?_
    obtain rfl:=Aa h
    refine⟨(m16,((IntKind.i64.wrap (i13+1)),(IntKind.i64.wrap (j14+1)),(s_15.set i13.toNat gu)),qt),Cj gb,by dsimp only;omega,?_,?_⟩
    ·exact cu
    exact cu
   refine gw5 rfl ?_
   obtain rfl:=Aa h
   refine⟨(m16,(i13,(IntKind.i64.wrap (j14+1)),s_15),qt),Cj gb,by dsimp only;omega,?_,?_⟩
   ·exact cu
   exact cu
  refine xt (qe (qe ?_))
  obtain⟨q29,hq,h⟩:=Ae h
  obtain rfl:=Aa h
  obtain rfl:=G7 gb
  replace h:=hq.trans (Pg uk)
  refine bs (qn (sq ?_))
  refine AWP.kY ?_
  refine ALP.cut 3 (ALP.part rfl ?_);intro K j
  refine nS ?_
  obtain⟨hk,h⟩:=Fv h
  (repeat(refine⟨by omega,?_⟩))
  refine j _ _ ?_;clear j K
  refine ALP.clr (l:=s_15) rfl rfl Tryz.underlying25 (by kernel_rfl) rfl (by first | rfl | omega) ?_
  refine nS ?_
  refine ALP.last rfl ?_;intro K j
  refine nS ?_
  refine j _ _ (qn (sq ?_));clear j K
  refine rg rfl fun K j=>?_
  obtain⟨hk,h⟩:=Fv h
  (repeat(refine⟨by omega,?_⟩))
  refine j _ _ (qn ?_);clear j K
  refine AWP.sub (Sub.window 4 rfl rfl) ?_
  refine nS (rt ?_)
  refine nSc Tryz.results70 ?_
  refine j (bk ?_)
  obtain⟨o23,dd,mg⟩:=Ae h
  clear h
  refine AWP.tN (ι:=Nat×((List Int))×(Nat)) (fun zz=>[(2,.ptr 0 0),(5,.own 1 zz.2.2 0 zz.2.1.length)]) (fun zz=>[.box (Ai f_),.row zz.2.2 1 (zz.2.1.map An)]) (fun zz=>Dx (J3 f_) zz.1 zz.2.1=some o23) (fun zz=>zz.1) (fuel,(((s_15.take i13.toNat)++(List.replicate (s_15.length - i13.toNat) (0:Int))).take i13.toNat),(qt+1)) dd cu cu (fun x=>⟨rfl,rfl,rfl⟩) ?_
  clear dd
  rintro⟨n23,fq,dv⟩ dd
  dsimp only at dd ⊢
  obtain⟨m23,b23,rfl,h,dd⟩:=Fp dd
  unfold J3 at h;try dsimp only at h
  refine bk (sq (B5 rfl ?_))
  refine rg rfl fun K j=>?_
  intro hm
  refine j _ _ (qn (bk ?_))
  refine AWP.ghost 6 1 rfl (by decide) ?_
  obtain⟨o26,nq,hO26⟩:=Ae h
  clear h
  refine AWP.Bh nq (0:Nat) (fun zz=>[(2,.ptr 0 0),(5,.own 1 dv 0 fq.length),(6,.own 2 zz.2.2 0 zz.2.1.length),(18,.own 1 dv 0 fq.length),(19,.int .i64 ((fq.length:Nat):Int)),(20,.int .i64 ((zz.1:Nat):Int))]) (fun zz=>[.box (Ai f_),.row dv 1 (fq.map An),.row zz.2.2 1 (zz.2.1.map An)]) ?_
  rintro k26 left25 qs hk26 nq
  dsimp only
  refine Cy rfl ?_
  refine cC rfl ?_ ?_<;>intro hc
  ·obtain⟨ti,b26,vj,hx26_,zo,h,nq⟩:=fcD nq hc
   have zu:=wk (k:=k26) (by omega)
   unfold U2 at h;try dsimp only at h
   refine gw9 (rG rfl fun K j=>?_)
   refine Ge zo (by first | rfl | exact(Cq _).symm | (simp only[Aou,List.length_cons,List.length_nil,List.length_set,Aov]<;>omega)) ?_
   refine nS ?_
   refine Dg.ofNat (f:=An) (l:=fq) (n:=k26) zo ?_
   refine nS ?_
   refine j (rG rfl fun K j=>?_)
   obtain⟨y29,hy29,h⟩:=Ae h
   refine Ah.snap Tryz.call49 (Gp f_ fq ti hy29) (by simp +decide -implicitDefEqProofs only[go_sem]) (by rintro _ rfl;rfl) fun _ hr=>?_
   subst hr
   refine nS ?_
   refine j (cA h rfl ?_ ?_)<;>intro hc h
   ·refine rg rfl fun K j=>?_
    obtain⟨hk,h⟩:=Bc h
    (repeat refine rp ?_);try simp +decide -implicitDefEqProofs only[go_sem]
    refine j _ _ (Eo rfl ?_)
    refine lE vj nq h (qs+1) ?_ ?_<;>exact cuw zu
   refine gw5 rfl ?_
   refine lE vj nq h qs ?_ ?_<;>exact cuw zu
  obtain rfl:=fnD nq hc
  have h:=Ao hO26;try dsimp only at h
  have af:=leD hk26 hc
  subst af
  refine gw4 (sq (rG rfl fun K j=>?_))
  intro hm
  intro hm
  refine j (cA h rfl ?_ ?_)<;>intro hc h
  ·refine gw8 rfl (br (qr (br ?_)))
   cases x0 h dd mg;exact en Tryz.results29
  refine Co (ar rfl (bn (qn ?_)))
  obtain rfl:=Aa h
  refine⟨(m23,left25,qs),Cj dd,by dsimp only;omega,_,_,Sub.swap 2 1 rfl rfl rfl,?_,?_⟩
  ·exact cu
  exact cu
 refine gw5 rfl ?_
 obtain rfl:=Aa h
 refine⟨(k1+1,(),()),⟨by dsimp only;omega,Cj aq⟩,by dsimp only;omega,?_,?_⟩
 ·exact cuw cz
 exact cuw cz
theorem bA (f_:Af) (runs:List Int) {r:(List Int)} (h:Fc f_ runs=some r):Ad Tryz.prog 29 [.agg (Ai f_),.sl 1 (runs.map An)] (·= .sl 1 (r.map An)):=(Rw f_ runs h).pure
def Vj (b:List Int) (k0:Nat) (ab:Int) (sv:Unit):Option (Out (Unit) (Bool)):=
 (Da b ((k0:Nat):Int)).bind fun ak=>(bif (decide (ab≠ak))then some (Out.ret false)else some (Out.next ()))
def Kk (a:List Int) (b:List Int):Option (Bool):=
 (bif (decide (((a.length:Nat):Int)≠((b.length:Nat):Int)))then some false else(Al (Vj b) 0 a ()).bind fun o0=>o0.on fun s0=>some true)
theorem Jj (a:List Int) (b:List Int) {r:Bool} (h:Kk a b=some r):Ad Tryz.prog 15 [.sl 1 (a.map An),.sl 1 (b.map An)] (·= .bool r):=by
 refine Ad.nle (Ad.intro Tryz.func15 rfl rfl (by show _≤26;simp) ?_)
 unfold Kk at h
 refine nS (sq ?_)
 refine B5 rfl ?_
 refine rg rfl fun K j=>?_
 intro hm
 intro hm
 refine j _ _ (qn (cA h rfl ?_ ?_))<;>intro hc h
 ·refine gw8 rfl ?_
  cases h;exact en Tryz.results15
 refine gw6 (B8 rfl (bk ?_))
 obtain⟨o0,aa,ae⟩:=Ae h
 clear h
 refine AWP.Bh aa () (fun zz=>[(0,.sl 1 (a.map An)),(1,.sl 1 (b.map An)),(5,.int .i64 ((zz.1:Nat):Int))]) (fun zz=>[]) ?_
 rintro k0 ⟨⟩ ⟨⟩ bb aa
 dsimp only
 refine sq (rG rfl fun K j=>?_)
 intro hm
 refine j (cD rfl ?_ ?_)<;>intro hc
 ·obtain rfl:=fnD aa hc
  have h:=Ao ae;try dsimp only at h
  have af:=leD bb hc
  subst af
  refine Cr rfl ?_
  cases h;exact en Tryz.results15
 obtain⟨ab,b0,ag,bh,ao,h,aa⟩:=fcD aa hc
 have ay:=wk (k:=k0) (by omega)
 unfold Vj at h;try dsimp only at h
 refine gw9 (sq (dR Tryz.mixed fun K j=>?_))
 refine nS ?_
 refine A1.of (f:=An) (l:=a) ao ?_
 refine nS ?_
 obtain⟨ak,cd,h⟩:=Ae h
 refine A1.of (f:=An) (l:=b) cd ?_
 refine nS ?_
 refine j _ _ _ (by kernel_rfl) (qn (cA h rfl ?_ ?_))<;>intro hc h
 ·refine Cs rfl ?_
  cases x0 h aa ae;exact en Tryz.results15
 refine gw5 rfl ?_
 refine lE ag aa h () ?_ ?_<;>exact cuw ay
def Pk (f_:Af) (y1:(List Int)) (k1:Nat) (ak:Int) (sv:Unit):Option (Out (Unit) (Bool)):=
 (C6 f_ y1 ak).bind fun y4=>(bif (decide (y4≠0))then some (Out.ret false)else some (Out.next ()))
def Gg (f_:Af):Option (Bool):=
 (D9 f_).bind fun y1=>(Al (Pk f_ y1) 0 y1 ()).bind fun o1=>o1.on fun s1=>some true
theorem Sn (f_:Af) {r:Bool} (h:Gg f_=some r):Ad Tryz.prog 22 [.agg (Ai f_)] (·= .bool r):=by
 refine Ad.nle (Ad.intro Tryz.func22 rfl rfl (by show _≤20;simp) ?_)
 unfold Gg at h
 refine nS (sq ?_)
 refine gw7 rfl ?_
 refine rg rfl fun K j=>?_
 obtain⟨y1,bp,h⟩:=Ae h
 refine Ah.pure Tryz.call20 (Nv f_ bp) rfl fun _ hr=>?_
 subst hr
 refine nS ?_
 refine j _ _ (qn (sq (rG rfl fun K j=>?_)))
 intro hm
 refine j (bk ?_)
 obtain⟨o1,aq,db⟩:=Ae h
 clear h
 refine AWP.Bh aq () (fun zz=>[(1,.ptr 0 0),(3,.sl 1 (y1.map An)),(8,.sl 1 (y1.map An)),(9,.int .i64 ((y1.length:Nat):Int)),(10,.int .i64 ((zz.1:Nat):Int))]) (fun zz=>[.box (Ai f_)]) ?_
 rintro k1 ⟨⟩ ⟨⟩ ga aq
 dsimp only
 refine Cy rfl ?_
 refine cD rfl ?_ ?_<;>intro hc
 ·obtain rfl:=fnD aq hc
  have h:=Ao db;try dsimp only at h
  have af:=leD ga hc
  subst af
  refine Cr rfl ?_
  cases h;exact en Tryz.results22
 obtain⟨ak,b1,bl,fx,fk,h,aq⟩:=fcD aq hc
 have cz:=wk (k:=k1) (by omega)
 unfold Pk at h;try dsimp only at h
 refine gw9 (rG rfl fun K j=>?_)
 refine A1.of (f:=An) (l:=y1) fk ?_
 refine nS ?_
 refine j (rG rfl fun K j=>?_)
 obtain⟨y4,ch,h⟩:=Ae h
 refine Ah.pure Tryz.call18 (D7 f_ y1 ak ch) rfl fun _ hr=>?_
 subst hr
 refine nS ?_
 refine j (cA h rfl ?_ ?_)<;>intro hc h
 ·refine Cs rfl ?_
  cases x0 h aq db;exact en Tryz.results22
 refine gw5 rfl ?_
 refine lE bl aq h () ?_ ?_<;>exact cuw cz
def Ft (f_:Af) (y2:(List Int)) (tl:Nat) (vw:Au) (sv:(List Au)×(List Int)):Option (Out ((List Au)×(List Int)) (Af×(List Int))):=
 (Da sv.1 ((tl:Nat):Int)).bind fun il=>(bif il.Open then(Bo y2 il.Run).bind fun y42=>(bif (!y42)then chk (sv.2.length+1) (some (Out.next (((sv.1.set tl (Au.mk il.Run false il.Since)).set tl (Au.mk il.Run false f_.Time)),(sv.2++[il.Run]))))else some (Out.next (sv.1,sv.2)))else some (Out.next (sv.1,sv.2)))
def Mi (k29:Nat) (vy:Am) (sv:(List Am)):Option (Out ((List Am)) (Af×(List Int))):=
 (Db vy).bind fun ns=>chk (sv.length+1) (some (Out.next (sv++[ns])))
def Mj (zg:Nat) (ka:A2) (sv:(List A2)):Option (Out ((List A2)) (Af×(List Int))):=
 (Dc ka).bind fun za=>chk (sv.length+1) (some (Out.next (sv++[za])))
def Mk (k18:Nat) (mz:Aw) (sv:(List Aw)):Option (Out ((List Aw)) (Af×(List Int))):=
 (Dd mz).bind fun ks=>chk (sv.length+1) (some (Out.next (sv++[ks])))
def Ml (tm:Nat) (ei:Cg) (sv:(List Cg)):Option (Out ((List Cg)) (Af×(List Int))):=
 (De ei).bind fun gd=>chk (sv.length+1) (some (Out.next (sv++[gd])))
def F4 (f_:Af):Option (Af×(List Int)):=
 (D9 f_).bind fun y1=>(Fc f_ y1).bind fun y2=>(Cb f_.Map.Nodes).bind fun y3=>(Cc f_.Map.Lifts).bind fun y4=>(Ch f_.Map.Runs).bind fun y5=>(B9 f_.Map.Bases).bind fun y6=>(Bu f_.Lifts).bind fun y7=>(B1 f_.Closures).bind fun y8=>chk f_.Patrol.Ci.length ((Al Ml 0 f_.Patrol.Ci []).bind fun o10=>o10.on fun s10=>(B6 f_.Patrol.Hazards).bind fun kt=>(Bv f_.Surfaces).bind fun pz=>(Bw f_.Packs).bind fun py=>chk f_.Slides.length ((Al Mk 0 f_.Slides []).bind fun o18=>o18.on fun s18=>chk f_.Bulletin.length ((Al Mj 0 f_.Bulletin []).bind fun o23=>o23.on fun s23=>(Bx f_.Missions).bind fun y27=>chk f_.Winches.length ((Al Mi 0 f_.Winches []).bind fun o29=>o29.on fun s29=>(Bz f_.Groomers).bind fun y33=>(Cl f_.Status).bind fun y34=>(Al (Ft f_ y2) 0 y34 (y34,[])).bind fun o38=>o38.on fun s38=>some ((Af.mk (Av.mk y3 y4 y5 y6) y7 y8 (Bk.mk s10 kt) pz py s18 s23 y27 s29 y33 s38.1 f_.Depth f_.Time),s38.2)))))
theorem P6 (f_:Af) {r:Af×(List Int)} (h:F4 f_=some r):Ad Tryz.prog 27 [.agg (Ai f_)] (·= .tuple [.agg (Ai r.1),.sl 1 (r.2.map An)]):=by
 refine Ad.nle (Ad.intro Tryz.func27 rfl rfl (by show _≤52;simp) ?_)
 unfold F4 at h
 refine nS (sq ?_)
 refine gw7 rfl ?_
 refine dR Tryz.mixed fun K j=>?_
 refine nS ?_
 obtain⟨y1,bp,h⟩:=Ae h
 refine Br.pure Tryz.call20 (Nv f_ bp) rfl ?_
 refine nS ?_
 obtain⟨y2,cx,h⟩:=Ae h
 refine Br.pure Tryz.call29 (bA f_ y1 cx) rfl ?_
 refine nS ?_
 refine j _ _ _ (by kernel_rfl) (qn (rG rfl fun K j=>?_))
 refine Ah.inline Tryz.call57 Tryz.func57 rfl rfl (by show _≤74;simp) ?_
 refine nS (sq ?_)
 refine gw7 rfl ?_
 refine dR Tryz.mixed fun K j=>?_
 refine nS ?_
 obtain⟨y3,bu,h⟩:=Ae h
 refine Br.pure Tryz.call122 (Ec f_.Map.Nodes bu) rfl ?_
 refine nS ?_
 obtain⟨y4,ch,h⟩:=Ae h
 refine Br.pure Tryz.call123 (Ed f_.Map.Lifts ch) rfl ?_
 refine nS ?_
 obtain⟨y5,cw,h⟩:=Ae h
 refine Br.pure Tryz.call124 (Eg f_.Map.Runs cw) rfl ?_
 refine nS ?_
 obtain⟨y6,ec,h⟩:=Ae h
 refine Br.pure Tryz.call67 (C4 f_.Map.Bases ec) rfl ?_
 refine nS ?_
 refine j _ _ _ (by kernel_rfl) ?_;clear j K
 refine qn (sq (rg rfl fun K j=>?_))
 obtain⟨y7,eg,h⟩:=Ae h
 refine Ah.pure Tryz.call125 (Dl f_.Lifts eg) rfl fun _ hr=>?_
 subst hr
 refine nS ?_
 refine j _ _ (qn (sq ?_));clear j K
 refine rg rfl fun K j=>?_
 obtain⟨y8,ej,h⟩:=Ae h
 refine Ah.pure Tryz.call126 (Du f_.Closures ej) rfl fun _ hr=>?_
 subst hr
 refine nS ?_
 refine j _ _ (qn (sq ?_));clear j K
 refine rg rfl fun K j=>?_
 refine Ah.inline Tryz.call127 Tryz.func127 rfl rfl (by show _≤25;simp) ?_
 refine nS (sq ?_)
 refine gw7 rfl ?_
 refine rg rfl fun K j=>?_
 intro hm
 obtain⟨hk,h⟩:=Bc h
 (repeat refine rp ?_);try simp +decide -implicitDefEqProofs only[go_sem]
 refine j _ _ (qn (sq (sq ?_)));clear j K
 refine rg rfl fun K j=>?_
 intro hm
 refine j _ _ (qn (bk ?_));clear j K
 obtain⟨o10,eh,pb⟩:=Ae h
 clear h
 refine AWP.Bh eh (0:Nat) (fun zz=>[(1,.func 128 []),(5,.own 10 zz.2.2 0 zz.2.1.length),(11,.sl 4 (f_.Patrol.Ci.map A3)),(12,.int .i64 ((f_.Patrol.Ci.length:Nat):Int)),(13,.int .i64 ((zz.1:Nat):Int))]) (fun zz=>[.box (Ai f_),.box [.nils,.nils,.nils,.nils,.nils,.nils,.nils,.nils,.nils,.nils,.nils,.nils,.nils,.nils,.nils,.nils,.int .i64 0,.int .i64 0],.gone,.gone,.box [.sl 2 (y3.map Bq),.sl 8 (y4.map Bl),.sl 7 (y5.map Bj),.sl 1 (y6.map An),.sl 2 (y7.map A4),.sl 4 (y8.map Ay),.sl 4 (f_.Patrol.Ci.map A3),.sl 3 (f_.Patrol.Hazards.map Bg),.sl 3 (f_.Surfaces.map Bd),.sl 5 (f_.Packs.map A6),.sl 6 (f_.Slides.map Az),.sl 7 (f_.Bulletin.map Ap),.sl 7 (f_.Missions.map Aq),.sl 4 (f_.Winches.map Aj),.sl 8 (f_.Groomers.map A7),.sl 3 (f_.Status.map Ax),.int .i64 f_.Depth,.int .i64 f_.Time],.box [.nils,.nils,.nils,.nils,.nils,.nils,.nils,.nils,.nils,.nils,.nils,.nils,.nils,.nils,.nils,.nils,.int .i64 0,.int .i64 0],.gone,.gone,.gone,.gone,.row zz.2.2 4 (zz.2.1.map A3)]) ?_
 rintro tm ln ek rq eh
 dsimp only
 refine Cy rfl ?_
 refine cC rfl ?_ ?_<;>intro hc
 ·obtain⟨ei,b10,ju,uz,nc,h,eh⟩:=fcD eh hc
  have nf:=wk (k:=tm) (by omega)
  unfold Ml at h;try dsimp only at h
  refine gw9 (sq (rg rfl fun K j=>?_))
  refine A1.of (f:=A3) (l:=f_.Patrol.Ci) nc ?_
  refine nS ?_
  refine j _ _ (qn ?_);clear j K
  refine rg rfl fun K j=>?_
  obtain⟨gd,ir,h⟩:=Ae h
  refine Ah.pure Tryz.call128 (Hl ei ir) rfl fun _ hr=>?_
  subst hr
  refine nS ?_
  obtain⟨hk,h⟩:=Bc h
  (repeat refine rp ?_);try simp +decide -implicitDefEqProofs only[go_sem]
  refine j _ _ (bn (qn ?_));clear j K
  refine gw3 rfl ?_
  refine lE ju eh h (ek+1) ?_ ?_<;>exact cuw nf
 obtain rfl:=fnD eh hc
 have h:=Ao pb;try dsimp only at h
 have af:=leD rq hc
 subst af
 refine Cr rfl ?_
 refine nSc Tryz.results127 ?_
 refine j _ _ (qn (sq ?_));clear j K
 refine rg rfl fun K j=>?_
 obtain⟨kt,kv,h⟩:=Ae h
 refine Ah.pure Tryz.call130 (Dy f_.Patrol.Hazards kv) rfl fun _ hr=>?_
 subst hr
 refine nS ?_
 refine j _ _ (qn (sq ?_));clear j K
 refine rg rfl fun K j=>?_
 obtain⟨pz,qw,h⟩:=Ae h
 refine Ah.pure Tryz.call131 (Dq f_.Surfaces qw) rfl fun _ hr=>?_
 subst hr
 refine nS ?_
 refine j _ _ (qn (sq ?_));clear j K
 refine rg rfl fun K j=>?_
 obtain⟨py,qv,h⟩:=Ae h
 refine Ah.pure Tryz.call132 (Dr f_.Packs qv) rfl fun _ hr=>?_
 subst hr
 refine nS ?_
 refine j _ _ (qn (sq ?_));clear j K
 refine rg rfl fun K j=>?_
 refine Ah.inline Tryz.call133 Tryz.func133 rfl rfl (by show _≤25;simp) ?_
 refine nS (sq ?_)
 refine gw7 rfl ?_
 refine rg rfl fun K j=>?_
 intro hm
 obtain⟨hk,h⟩:=Bc h
 (repeat refine rp ?_);try simp +decide -implicitDefEqProofs only[go_sem]
 refine j _ _ (qn (sq (sq ?_)));clear j K
 refine rg rfl fun K j=>?_
 intro hm
 refine j _ _ (qn (bk ?_));clear j K
 obtain⟨o18,pn,hO18⟩:=Ae h
 clear h
 refine AWP.Bh pn (0:Nat) (fun zz=>[(1,.func 134 []),(5,.own 11 zz.2.2 0 zz.2.1.length),(11,.sl 6 (f_.Slides.map Az)),(12,.int .i64 ((f_.Slides.length:Nat):Int)),(13,.int .i64 ((zz.1:Nat):Int))]) (fun zz=>[.box (Ai f_),.box [.nils,.nils,.nils,.nils,.nils,.nils,.nils,.nils,.nils,.nils,.nils,.nils,.nils,.nils,.nils,.nils,.int .i64 0,.int .i64 0],.gone,.gone,.box [.sl 2 (y3.map Bq),.sl 8 (y4.map Bl),.sl 7 (y5.map Bj),.sl 1 (y6.map An),.sl 2 (y7.map A4),.sl 4 (y8.map Ay),.own 10 ek 0 ln.length,.sl 3 (kt.map Bg),.sl 3 (pz.map Bd),.sl 5 (py.map A6),.sl 6 (f_.Slides.map Az),.sl 7 (f_.Bulletin.map Ap),.sl 7 (f_.Missions.map Aq),.sl 4 (f_.Winches.map Aj),.sl 8 (f_.Groomers.map A7),.sl 3 (f_.Status.map Ax),.int .i64 f_.Depth,.int .i64 f_.Time],.box [.nils,.nils,.nils,.nils,.nils,.nils,.nils,.nils,.nils,.nils,.nils,.nils,.nils,.nils,.nils,.nils,.int .i64 0,.int .i64 0],.gone,.gone,.gone,.gone,.row ek 4 (ln.map A3),.row zz.2.2 6 (zz.2.1.map Az)]) ?_
 rintro k18 kn jq hk18 pn
 dsimp only
 refine Cy rfl ?_
 refine cC rfl ?_ ?_<;>intro hc
 ·obtain⟨mz,b18,hlt18,hx18_,hx18,h,pn⟩:=fcD pn hc
  have hw18:=wk (k:=k18) (by omega)
  unfold Mk at h;try dsimp only at h
  refine gw9 (sq (rg rfl fun K j=>?_))
  refine A1.of (f:=Az) (l:=f_.Slides) hx18 ?_
  refine nS ?_
  refine j _ _ (qn ?_);clear j K
  refine rg rfl fun K j=>?_
  obtain⟨ks,qu,h⟩:=Ae h
  refine Ah.pure Tryz.call134 (Hk mz qu) rfl fun _ hr=>?_
  subst hr
  refine nS ?_
  obtain⟨hk,h⟩:=Bc h
  (repeat refine rp ?_);try simp +decide -implicitDefEqProofs only[go_sem]
  refine j _ _ (bn (qn ?_));clear j K
  refine gw3 rfl ?_
  refine lE hlt18 pn h (jq+1) ?_ ?_<;>exact cuw hw18
 obtain rfl:=fnD pn hc
 have h:=Ao hO18;try dsimp only at h
 have af:=leD hk18 hc
 subst af
 refine Cr rfl ?_
 refine nSc Tryz.results133 ?_
 refine j _ _ (qn (sq ?_));clear j K
 refine rg rfl fun K j=>?_
 refine Ah.inline Tryz.call135 Tryz.func135 rfl rfl (by show _≤25;simp) ?_
 refine nS (sq ?_)
 refine gw7 rfl ?_
 refine rg rfl fun K j=>?_
 intro hm
 obtain⟨hk,h⟩:=Bc h
 (repeat refine rp ?_);try simp +decide -implicitDefEqProofs only[go_sem]
 refine j _ _ (qn (sq (sq ?_)));clear j K
 refine rg rfl fun K j=>?_
 intro hm
 refine j _ _ (qn (bk ?_));clear j K
 obtain⟨o23,dd,mg⟩:=Ae h
 clear h
 refine AWP.Bh dd (0:Nat) (fun zz=>[(1,.func 136 []),(5,.own 12 zz.2.2 0 zz.2.1.length),(11,.sl 7 (f_.Bulletin.map Ap)),(12,.int .i64 ((f_.Bulletin.length:Nat):Int)),(13,.int .i64 ((zz.1:Nat):Int))]) (fun zz=>[.box (Ai f_),.box [.nils,.nils,.nils,.nils,.nils,.nils,.nils,.nils,.nils,.nils,.nils,.nils,.nils,.nils,.nils,.nils,.int .i64 0,.int .i64 0],.gone,.gone,.box [.sl 2 (y3.map Bq),.sl 8 (y4.map Bl),.sl 7 (y5.map Bj),.sl 1 (y6.map An),.sl 2 (y7.map A4),.sl 4 (y8.map Ay),.own 10 ek 0 ln.length,.sl 3 (kt.map Bg),.sl 3 (pz.map Bd),.sl 5 (py.map A6),.own 11 jq 0 kn.length,.sl 7 (f_.Bulletin.map Ap),.sl 7 (f_.Missions.map Aq),.sl 4 (f_.Winches.map Aj),.sl 8 (f_.Groomers.map A7),.sl 3 (f_.Status.map Ax),.int .i64 f_.Depth,.int .i64 f_.Time],.box [.nils,.nils,.nils,.nils,.nils,.nils,.nils,.nils,.nils,.nils,.nils,.nils,.nils,.nils,.nils,.nils,.int .i64 0,.int .i64 0],.gone,.gone,.gone,.gone,.row ek 4 (ln.map A3),.row jq 6 (kn.map Az),.row zz.2.2 7 (zz.2.1.map Ap)]) ?_
 rintro zg dw dv xw dd
 dsimp only
 refine Cy rfl ?_
 refine cC rfl ?_ ?_<;>intro hc
 ·obtain⟨ka,b23,rl,zp,xd,h,dd⟩:=fcD dd hc
  have xh:=wk (k:=zg) (by omega)
  unfold Mj at h;try dsimp only at h
  refine gw9 (sq (rg rfl fun K j=>?_))
  refine A1.of (f:=Ap) (l:=f_.Bulletin) xd ?_
  refine nS ?_
  refine j _ _ (qn ?_);clear j K
  refine rg rfl fun K j=>?_
  obtain⟨za,wm,h⟩:=Ae h
  refine Ah.pure Tryz.call136 (Hj ka wm) rfl fun _ hr=>?_
  subst hr
  refine nS ?_
  obtain⟨hk,h⟩:=Bc h
  (repeat refine rp ?_);try simp +decide -implicitDefEqProofs only[go_sem]
  refine j _ _ (bn (qn ?_));clear j K
  refine gw3 rfl ?_
  refine lE rl dd h (dv+1) ?_ ?_<;>exact cuw xh
 obtain rfl:=fnD dd hc
 have h:=Ao mg;try dsimp only at h
 have af:=leD xw hc
 subst af
 refine Cr rfl ?_
 refine nSc Tryz.results135 ?_
 refine j _ _ (qn (sq ?_));clear j K
 refine rg rfl fun K j=>?_
 obtain⟨y27,hy27,h⟩:=Ae h
 refine Ah.pure Tryz.call137 (Ds f_.Missions hy27) rfl fun _ hr=>?_
 subst hr
 refine nS ?_
 refine j _ _ (qn (sq ?_));clear j K
 refine rg rfl fun K j=>?_
 refine Ah.inline Tryz.call138 Tryz.func138 rfl rfl (by show _≤25;simp) ?_
 refine nS (sq ?_)
 refine gw7 rfl ?_
 refine rg rfl fun K j=>?_
 intro hm
 obtain⟨hk,h⟩:=Bc h
 (repeat refine rp ?_);try simp +decide -implicitDefEqProofs only[go_sem]
 refine j _ _ (qn (sq (sq ?_)));clear j K
 refine rg rfl fun K j=>?_
 intro hm
 refine j _ _ (qn (bk ?_));clear j K
 obtain⟨o29,ph,hO29⟩:=Ae h
 clear h
 refine AWP.Bh ph (0:Nat) (fun zz=>[(1,.func 139 []),(5,.own 13 zz.2.2 0 zz.2.1.length),(11,.sl 4 (f_.Winches.map Aj)),(12,.int .i64 ((f_.Winches.length:Nat):Int)),(13,.int .i64 ((zz.1:Nat):Int))]) (fun zz=>[.box (Ai f_),.box [.nils,.nils,.nils,.nils,.nils,.nils,.nils,.nils,.nils,.nils,.nils,.nils,.nils,.nils,.nils,.nils,.int .i64 0,.int .i64 0],.gone,.gone,.box [.sl 2 (y3.map Bq),.sl 8 (y4.map Bl),.sl 7 (y5.map Bj),.sl 1 (y6.map An),.sl 2 (y7.map A4),.sl 4 (y8.map Ay),.own 10 ek 0 ln.length,.sl 3 (kt.map Bg),.sl 3 (pz.map Bd),.sl 5 (py.map A6),.own 11 jq 0 kn.length,.own 12 dv 0 dw.length,.sl 7 (y27.map Aq),.sl 4 (f_.Winches.map Aj),.sl 8 (f_.Groomers.map A7),.sl 3 (f_.Status.map Ax),.int .i64 f_.Depth,.int .i64 f_.Time],.box [.nils,.nils,.nils,.nils,.nils,.nils,.nils,.nils,.nils,.nils,.nils,.nils,.nils,.nils,.nils,.nils,.int .i64 0,.int .i64 0],.gone,.gone,.gone,.gone,.row ek 4 (ln.map A3),.row jq 6 (kn.map Az),.row dv 7 (dw.map Ap),.row zz.2.2 4 (zz.2.1.map Aj)]) ?_
 rintro k29 uq qq hk29 ph
 dsimp only
 refine Cy rfl ?_
 refine cC rfl ?_ ?_<;>intro hc
 ·obtain⟨vy,b29,hlt29,hx29_,hx29,h,ph⟩:=fcD ph hc
  have hw29:=wk (k:=k29) (by omega)
  unfold Mi at h;try dsimp only at h
  refine gw9 (sq (rg rfl fun K j=>?_))
  refine A1.of (f:=Aj) (l:=f_.Winches) hx29 ?_
  refine nS ?_
  refine j _ _ (qn ?_);clear j K
  refine rg rfl fun K j=>?_
  obtain⟨ns,wh,h⟩:=Ae h
  refine Ah.pure Tryz.call139 (Hi vy wh) rfl fun _ hr=>?_
  subst hr
  refine nS ?_
  obtain⟨hk,h⟩:=Bc h
  (repeat refine rp ?_);try simp +decide -implicitDefEqProofs only[go_sem]
  refine j _ _ (bn (qn ?_));clear j K
  refine gw3 rfl ?_
  refine lE hlt29 ph h (qq+1) ?_ ?_<;>exact cuw hw29
 obtain rfl:=fnD ph hc
 have h:=Ao hO29;try dsimp only at h
 have af:=leD hk29 hc
 subst af
 refine Cr rfl ?_
 refine nSc Tryz.results138 ?_
 refine j _ _ (qn (sq ?_));clear j K
 refine rg rfl fun K j=>?_
 obtain⟨y33,hy33,h⟩:=Ae h
 refine Ah.pure Tryz.call140 (Dt f_.Groomers hy33) rfl fun _ hr=>?_
 subst hr
 refine nS ?_
 refine j _ _ (qn (sq ?_));clear j K
 refine rg rfl fun K j=>?_
 obtain⟨y34,hy34,h⟩:=Ae h
 refine Ah.row Tryz.call141 (D4 f_.Status hy34) rfl 14 rfl ?_
 (try simp +decide -implicitDefEqProofs only[go_sem,Aow])
 refine j _ _ (qn (sq ?_));clear j K
 refine ar rfl (Cu ?_)
 refine nSc Tryz.results57 ?_
 refine j (sq (B5 rfl ?_))
 refine rg rfl fun K j=>?_
 intro hm
 refine j _ _ (qn (bk ?_))
 refine AWP.ghost 6 1 rfl (by decide) ?_
 obtain⟨o38,mh,hO38⟩:=Ae h
 clear h
 refine AWP.Bh mh ((0,0):(Nat×Nat)) (fun zz=>[(1,.ptr 0 0),(2,.ptr 1 0),(4,.sl 1 (y2.map An)),(5,.ptr 15 0),(6,.own 16 zz.2.2.2 0 zz.2.1.2.length),(16,.own 14 zz.2.2.1 0 zz.2.1.1.length),(17,.int .i64 ((y34.length:Nat):Int)),(18,.int .i64 ((zz.1:Nat):Int))]) (fun zz=>[.box (Ai f_),.box [.nils,.nils,.nils,.nils,.nils,.nils,.nils,.nils,.nils,.nils,.nils,.nils,.nils,.nils,.nils,.nils,.int .i64 0,.int .i64 0],.gone,.gone,.gone,.gone,.gone,.gone,.gone,.gone,.row ek 4 (ln.map A3),.row jq 6 (kn.map Az),.row dv 7 (dw.map Ap),.row qq 4 (uq.map Aj),.row zz.2.2.1 3 (zz.2.1.1.map Ax),.box [.sl 2 (y3.map Bq),.sl 8 (y4.map Bl),.sl 7 (y5.map Bj),.sl 1 (y6.map An),.sl 2 (y7.map A4),.sl 4 (y8.map Ay),.own 10 ek 0 ln.length,.sl 3 (kt.map Bg),.sl 3 (pz.map Bd),.sl 5 (py.map A6),.own 11 jq 0 kn.length,.own 12 dv 0 dw.length,.sl 7 (y27.map Aq),.own 13 qq 0 uq.length,.sl 8 (y33.map A7),.own 14 zz.2.2.1 0 zz.2.1.1.length,.int .i64 f_.Depth,.int .i64 f_.Time],.row zz.2.2.2 1 (zz.2.1.2.map An)]) ?_
 rintro tl ⟨t16_35,closed37⟩ ⟨jo,qm⟩ hk38 mh
 dsimp only
 refine Cy rfl ?_
 refine cD rfl ?_ ?_<;>intro hc
 ·obtain rfl:=fnD mh hc
  have h:=Ao hO38;try dsimp only at h
  have af:=leD hk38 hc
  subst af
  refine Cr rfl ?_
  cases h;exact en Tryz.results27
 obtain⟨vw,b38,rk,hx38_,hx38,h,mh⟩:=fcD mh hc
 have xg:=wk (k:=tl) (by omega)
 unfold Ft at h;try dsimp only at h
 refine gw9 (rG rfl fun K j=>?_)
 obtain⟨il,lq,h⟩:=Ae h
 refine Ge lq (by first | rfl | exact(Cq _).symm | (simp only[Aou,List.length_cons,List.length_nil,List.length_set,Aov]<;>omega)) ?_
 refine nS ?_
 refine Dg.ofNat (f:=Ax) (l:=t16_35) (n:=tl) lq ?_
 refine nS ?_
 refine j (rG rfl fun K j=>?_)
 refine gT h ?_ ?_<;>intro hc h
 ·obtain⟨y42,hy42,h⟩:=Ae h
  refine Ah.pure Tryz.call54 (Bt y2 il.Run hy42) rfl fun _ hr=>?_
  subst hr
  refine nS ?_
  refine j (cA h rfl ?_ ?_)<;>intro hc h
  ·refine rG rfl fun K j=>?_
   refine Ge lq (by first | rfl | exact(Cq _).symm | (simp only[Aou,List.length_cons,List.length_nil,List.length_set,Aov]<;>omega)) ?_
   refine nS ?_
   refine Dg.ofNat (f:=Ax) (l:=t16_35) (n:=tl) lq ?_
   have xl:=Rx (y:=(Au.mk il.Run false il.Since)) lq
   refine nS ?_
   refine j (rG rfl fun K j=>?_)
   refine Ge xl (by first | rfl | exact(Cq _).symm | (simp only[Aou,List.length_cons,List.length_nil,List.length_set,Aov]<;>omega)) ?_
   refine nS ?_
   refine Dg.ofNat (f:=Ax) (l:=(t16_35.set tl (Au.mk il.Run false il.Since))) (n:=tl) xl ?_
   have hs44:=Rx (y:=(Au.mk il.Run false f_.Time)) xl
   refine nS ?_
   refine j (rg rfl fun K j=>?_)
   obtain⟨hk,h⟩:=Bc h
   (repeat refine rp ?_);try simp +decide -implicitDefEqProofs only[go_sem]
   refine j _ _ (Eo rfl ?_)
   refine lE rk mh h (jo,(qm+1)) ?_ ?_<;>exact cuw xg
  refine gw5 rfl ?_
  refine lE rk mh h (jo,qm) ?_ ?_<;>exact cuw xg
 refine j (cf rfl (gw5 rfl ?_))
 refine lE rk mh h (jo,qm) ?_ ?_<;>exact cuw xg
def Rv:Option (Bool):=
 (Vt).bind fun y1=>(Eu y1 1).bind fun y2=>(Eu y1 2).bind fun y3=>(Gs y1).bind fun y4=>(bif (decide (y4≠0))then some false else(bif (decide (y2.2≠16))then some false else(bif (decide (y3.2≠16))then some false else(Fc y1 [(1:Int),2]).bind fun y5=>(Kk y5 [(1:Int),2]).bind fun y6=>(bif (!y6)then some false else(Gg (Af.mk y1.Map y1.Lifts y1.Closures y1.Patrol y1.Surfaces y1.Packs y1.Slides y1.Bulletin y1.Missions y1.Winches y1.Groomers [(Au.mk 1 true 0),(Au.mk 2 true 0)] y1.Depth y1.Time)).bind fun y7=>(bif (!y7)then some false else(D9 (Af.mk y1.Map y1.Lifts y1.Closures y1.Patrol y1.Surfaces y1.Packs y1.Slides y1.Bulletin y1.Missions y1.Winches y1.Groomers [(Au.mk 1 true 0),(Au.mk 2 true 0)] y1.Depth y1.Time)).bind fun y8=>(Kk y8 [(1:Int),2]).bind fun y9=>(bif (!y9)then some false else(F4 (Af.mk y1.Map y1.Lifts [(Bb.mk 1 2 1 0)] y1.Patrol y1.Surfaces y1.Packs y1.Slides y1.Bulletin y1.Missions y1.Winches y1.Groomers [(Au.mk 1 true 0),(Au.mk 2 true 0)] y1.Depth y1.Time)).bind fun cr=>(Gg (Af.mk y1.Map y1.Lifts [(Bb.mk 1 2 1 0)] y1.Patrol y1.Surfaces y1.Packs y1.Slides y1.Bulletin y1.Missions y1.Winches y1.Groomers [(Au.mk 1 true 0),(Au.mk 2 true 0)] y1.Depth y1.Time)).bind fun dz=>(bif dz then some false else(Kk cr.2 [(1:Int),2]).bind fun ee=>(bif (!ee)then some false else(D9 cr.1).bind fun gd=>(bif (decide (((gd.length:Nat):Int)≠0))then some false else(C6 (Af.mk y1.Map y1.Lifts y1.Closures (Bk.mk y1.Patrol.Ci [(C5.mk 1 1 0)]) y1.Surfaces y1.Packs y1.Slides y1.Bulletin y1.Missions y1.Winches y1.Groomers y1.Status y1.Depth y1.Time) [(1:Int),2] 1).bind fun kt=>(bif (decide (kt=14))then (C6 (Af.mk y1.Map y1.Lifts y1.Closures y1.Patrol y1.Surfaces y1.Packs y1.Slides y1.Bulletin y1.Missions y1.Winches y1.Groomers y1.Status 1001 y1.Time) [(1:Int),2] 1).bind fun pz=>(bif (decide (pz=5))then (C6 (Af.mk y1.Map y1.Lifts y1.Closures y1.Patrol y1.Surfaces y1.Packs [(Aw.mk 1 [(1:Int)] [] 100 100 (-1))] y1.Bulletin y1.Missions y1.Winches y1.Groomers y1.Status y1.Depth y1.Time) [(1:Int),2] 1).bind fun py=>(bif (decide (py=10))then (C6 y1 [(1:Int),2] 9).bind fun zc=>(bif (decide (zc=8))then (C6 y1 [(1:Int),2] 1).bind fun zb=>some (decide (zb=0))else some false)else some false)else some false)else some false))))))))))
theorem iA {r:Bool} (h:Rv=some r):Ad Tryz.prog 10 [] (·= .bool r):=by
 refine Ad.nle (Ad.intro Tryz.func10 rfl rfl (by show _≤120;simp) ?_)
 unfold Rv at h
 refine nS (sq ?_)
 refine gw7 rfl ?_
 refine rg rfl fun K j=>?_
 obtain⟨y1,bp,h⟩:=Ae h
 refine Ah.pure Tryz.call36 (cU bp) rfl fun _ hr=>?_
 subst hr
 refine nS ?_
 refine j _ _ (qn (rG rfl fun K j=>?_))
 obtain⟨y2,cx,h⟩:=Ae h
 refine Ah.pure Tryz.call24 (Mm y1 1 cx) rfl fun _ hr=>?_
 subst hr
 refine nS ?_
 refine j (rG rfl fun K j=>?_)
 obtain⟨y3,bu,h⟩:=Ae h
 refine Ah.pure Tryz.call24 (Mm y1 2 bu) rfl fun _ hr=>?_
 subst hr
 refine nS ?_
 refine j (sq (rG rfl fun K j=>?_))
 obtain⟨y4,ch,h⟩:=Ae h
 refine Ah.pure Tryz.call12 (Y9 y1 ch) rfl fun _ hr=>?_
 subst hr
 refine nS ?_
 refine gF' h ?_ ?_<;>intro hc h
 ·refine j (ct rfl (gw8 rfl ?_))
  cases h;exact en Tryz.results10
 refine gF' h ?_ ?_<;>intro hc h
 ·refine j (ct rfl (gw8 rfl ?_))
  cases h;exact en Tryz.results10
 refine gF' h ?_ ?_<;>intro hc h
 ·refine j (ct rfl (gw8 rfl ?_))
  cases h;exact en Tryz.results10
 obtain⟨y5,cw,h⟩:=Ae h
 refine Ah.oT Tryz.call29 (Rw y1 [(1:Int),2] cw) (by simp +decide -implicitDefEqProofs only[go_sem]) fun _ hr=>?_
 subst hr
 refine nS ?_
 obtain⟨y6,ec,h⟩:=Ae h
 refine Ah.snap Tryz.call15 (Jj y5 [(1:Int),2] ec) (by simp +decide -implicitDefEqProofs only[go_sem]) (by rintro _ rfl;rfl) fun _ hr=>?_
 subst hr
 refine nS ?_
 refine j (cA h rfl ?_ ?_)<;>intro hc h
 ·refine gw8 rfl ?_
  cases h;exact en Tryz.results10
 refine Co (Cy rfl ?_)
 refine B5 rfl ?_
 refine rg rfl fun K j=>?_
 obtain⟨y7,eg,h⟩:=Ae h
 refine Ah.snap Tryz.call22 (Sn (Af.mk y1.Map y1.Lifts y1.Closures y1.Patrol y1.Surfaces y1.Packs y1.Slides y1.Bulletin y1.Missions y1.Winches y1.Groomers [(Au.mk 1 true 0),(Au.mk 2 true 0)] y1.Depth y1.Time) eg) (by simp +decide -implicitDefEqProofs only[go_sem]) (by rintro _ rfl;rfl) fun _ hr=>?_
 subst hr
 refine nS ?_
 refine gF' h ?_ ?_<;>intro hc h
 ·refine j _ _ (qn (ct rfl (gw8 rfl ?_)))
  cases h;exact en Tryz.results10
 obtain⟨y8,ej,h⟩:=Ae h
 refine Ah.oT Tryz.call20 (Sp (Af.mk y1.Map y1.Lifts y1.Closures y1.Patrol y1.Surfaces y1.Packs y1.Slides y1.Bulletin y1.Missions y1.Winches y1.Groomers [(Au.mk 1 true 0),(Au.mk 2 true 0)] y1.Depth y1.Time) ej) (by simp +decide -implicitDefEqProofs only[go_sem]) fun _ hr=>?_
 subst hr
 refine nS ?_
 obtain⟨y9,fu,h⟩:=Ae h
 refine Ah.snap Tryz.call15 (Jj y8 [(1:Int),2] fu) (by simp +decide -implicitDefEqProofs only[go_sem]) (by rintro _ rfl;rfl) fun _ hr=>?_
 subst hr
 refine nS ?_
 refine j _ _ (qn (cA h rfl ?_ ?_))<;>intro hc h
 ·refine gw8 rfl ?_
  cases h;exact en Tryz.results10
 refine Co (Cy rfl ?_)
 refine AWP.kY ?_
 refine ALP.cut 1 (ALP.part rfl ?_);intro K j
 refine nS ?_
 refine j _ _ ?_
 refine ALP.sub (Sub.D6 8 rfl) ?_
 refine nS ?_
 refine ALP.sub (Sub.D6 6 rfl) ?_
 refine nS ?_
 refine ALP.last rfl ?_;intro K j
 refine nS ?_
 obtain⟨cr,dq,h⟩:=Ae h
 refine Ah.pure Tryz.call27 (P6 (Af.mk y1.Map y1.Lifts [(Bb.mk 1 2 1 0)] y1.Patrol y1.Surfaces y1.Packs y1.Slides y1.Bulletin y1.Missions y1.Winches y1.Groomers [(Au.mk 1 true 0),(Au.mk 2 true 0)] y1.Depth y1.Time) dq) rfl fun _ hr=>?_
 subst hr
 refine nS ?_
 refine j _ _ (qn (sq (rG rfl fun K j=>?_)))
 obtain⟨dz,ff,h⟩:=Ae h
 refine Ah.pure Tryz.call22 (Sn (Af.mk y1.Map y1.Lifts [(Bb.mk 1 2 1 0)] y1.Patrol y1.Surfaces y1.Packs y1.Slides y1.Bulletin y1.Missions y1.Winches y1.Groomers [(Au.mk 1 true 0),(Au.mk 2 true 0)] y1.Depth y1.Time) ff) rfl fun _ hr=>?_
 subst hr
 refine nS ?_
 refine gF' h ?_ ?_<;>intro hc h
 ·refine j (ct rfl (gw8 rfl ?_))
  cases h;exact en Tryz.results10
 obtain⟨ee,fw,h⟩:=Ae h
 refine Ah.snap Tryz.call15 (Jj cr.2 [(1:Int),2] fw) (by simp +decide -implicitDefEqProofs only[go_sem]) (by rintro _ rfl;rfl) fun _ hr=>?_
 subst hr
 refine nS ?_
 refine gF' h ?_ ?_<;>intro hc h
 ·refine j (ct rfl (gw8 rfl ?_))
  cases h;exact en Tryz.results10
 obtain⟨gd,ir,h⟩:=Ae h
 refine Ah.pure Tryz.call20 (Nv cr.1 ir) rfl fun _ hr=>?_
 subst hr
 refine nS ?_
 intro hm
 refine j (cA h rfl ?_ ?_)<;>intro hc h
 ·refine gw8 rfl ?_
  cases h;exact en Tryz.results10
 refine Co (Cy rfl ?_)
 refine gw7 rfl ?_
 refine gw7 rfl ?_
 refine gw7 rfl ?_
 refine gw7 rfl ?_
 refine AWP.kY ?_
 refine ALP.cut 2 (ALP.part rfl ?_);intro K j
 refine nS ?_
 refine j _ _ ?_
 refine ALP.sub (Sub.D6 14 rfl) ?_
 refine nS ?_
 refine ALP.last rfl ?_;intro K j
 refine nS ?_
 refine j _ _ (qn ?_)
 refine AWP.sub (Sub.denil 15 ([(Aw.mk (1:Int) [(1:Int)] [] (100:Int) (100:Int) (-1:Int))].map Az) rfl (by simp +decide -implicitDefEqProofs only[go_sem,Et,Ac.int.injEq,Int.natCast_zero,List.replicate_zero,List.length_take,List.length_drop,Ac.own.injEq,reduceCtorEq,Int.reduceAdd,Wp,Wq,Sf,Wo,Se,Abs,Se,Sf])) ?_
 refine nS (sq ?_)
 refine gw7 rfl ?_
 refine rg rfl fun K j=>?_
 obtain⟨kt,kv,h⟩:=Ae h
 refine Ah.snap Tryz.call18 (D7 (Af.mk y1.Map y1.Lifts y1.Closures (Bk.mk y1.Patrol.Ci [(C5.mk 1 1 0)]) y1.Surfaces y1.Packs y1.Slides y1.Bulletin y1.Missions y1.Winches y1.Groomers y1.Status y1.Depth y1.Time) [(1:Int),2] 1 kv) (by simp +decide -implicitDefEqProofs only[go_sem]) (by rintro _ rfl;rfl) fun _ hr=>?_
 subst hr
 refine nS ?_
 refine gT' h ?_ ?_<;>intro hc h
 ·refine j _ _ (Cu ?_)
  cases h;exact en Tryz.results10
 obtain⟨pz,qw,h⟩:=Ae h
 refine Ah.snap Tryz.call18 (D7 (Af.mk y1.Map y1.Lifts y1.Closures y1.Patrol y1.Surfaces y1.Packs y1.Slides y1.Bulletin y1.Missions y1.Winches y1.Groomers y1.Status 1001 y1.Time) [(1:Int),2] 1 qw) (by simp +decide -implicitDefEqProofs only[go_sem]) (by rintro _ rfl;rfl) fun _ hr=>?_
 subst hr
 refine nS ?_
 refine gT' h ?_ ?_<;>intro hc h
 ·refine j _ _ (Cu ?_)
  cases h;exact en Tryz.results10
 obtain⟨py,qv,h⟩:=Ae h
 refine Ah.snap Tryz.call18 (D7 (Af.mk y1.Map y1.Lifts y1.Closures y1.Patrol y1.Surfaces y1.Packs [(Aw.mk 1 [(1:Int)] [] 100 100 (-1))] y1.Bulletin y1.Missions y1.Winches y1.Groomers y1.Status y1.Depth y1.Time) [(1:Int),2] 1 qv) (by simp +decide -implicitDefEqProofs only[go_sem]) (by rintro _ rfl;rfl) fun _ hr=>?_
 subst hr
 refine nS ?_
 refine gT h ?_ ?_<;>intro hc h
 ·obtain⟨zc,wv,h⟩:=Ae h
  refine Ah.snap Tryz.call18 (D7 y1 [(1:Int),2] 9 wv) (by simp +decide -implicitDefEqProofs only[go_sem]) (by rintro _ rfl;rfl) fun _ hr=>?_
  subst hr
  refine nS ?_
  refine gT h ?_ ?_<;>intro hc h
  ·obtain⟨zb,wu,h⟩:=Ae h
   refine Ah.snap Tryz.call18 (D7 y1 [(1:Int),2] 1 wu) (by simp +decide -implicitDefEqProofs only[go_sem]) (by rintro _ rfl;rfl) fun _ hr=>?_
   subst hr
   refine nS ?_
   refine j _ _ (Cu ?_)
   cases h;exact en Tryz.results10
  refine j _ _ (Cu ?_)
  cases h;exact en Tryz.results10
 refine j _ _ (Cu ?_)
 cases h;exact en Tryz.results10
def K9 (f_:Af):Option (Bool):=
 (bif (decide (12<((f_.Map.Nodes.length:Nat):Int)))then some false else(bif (decide (12<((f_.Map.Lifts.length:Nat):Int)))then some false else(bif (decide (12<((f_.Map.Runs.length:Nat):Int)))then some false else(bif (decide (12<((f_.Map.Bases.length:Nat):Int)))then some false else(bif (decide (12<((f_.Lifts.length:Nat):Int)))then some false else(bif (decide (12<((f_.Closures.length:Nat):Int)))then some false else(bif (decide (12<((f_.Patrol.Ci.length:Nat):Int)))then some false else(bif (decide (12<((f_.Patrol.Hazards.length:Nat):Int)))then some false else(bif (decide (12<((f_.Surfaces.length:Nat):Int)))then some false else(bif (decide (12<((f_.Packs.length:Nat):Int)))then some false else(bif (decide (12<((f_.Slides.length:Nat):Int)))then some false else(bif (decide (12<((f_.Bulletin.length:Nat):Int)))then some false else(bif (decide (((f_.Missions.length:Nat):Int)≤12))then (bif (decide (((f_.Winches.length:Nat):Int)≤12))then (bif (decide (((f_.Groomers.length:Nat):Int)≤12))then some (decide (((f_.Status.length:Nat):Int)≤12))else some false)else some false)else some false)))))))))))))
theorem hY (f_:Af) {r:Bool} (h:K9 f_=some r):Ad Tryz.prog 11 [.agg (Ai f_)] (·= .bool r):=by
 refine Ad.nle (Ad.intro Tryz.func11 rfl rfl (by show _≤99;simp) ?_)
 unfold K9 at h
 refine nS (sq ?_)
 refine B5 rfl ?_
 refine rg rfl fun K j=>?_
 intro hm
 refine gF' h ?_ ?_<;>intro hc h
 ·refine j _ _ (qn (ct rfl (gw8 rfl ?_)))
  cases h;exact en Tryz.results11
 intro hm
 refine gF' h ?_ ?_<;>intro hc h
 ·refine j _ _ (qn (ct rfl (gw8 rfl ?_)))
  cases h;exact en Tryz.results11
 intro hm
 refine gF' h ?_ ?_<;>intro hc h
 ·refine j _ _ (qn (ct rfl (gw8 rfl ?_)))
  cases h;exact en Tryz.results11
 intro hm
 refine gF' h ?_ ?_<;>intro hc h
 ·refine j _ _ (qn (ct rfl (gw8 rfl ?_)))
  cases h;exact en Tryz.results11
 intro hm
 refine gF' h ?_ ?_<;>intro hc h
 ·refine j _ _ (qn (ct rfl (gw8 rfl ?_)))
  cases h;exact en Tryz.results11
 intro hm
 refine j _ _ (qn (cA h rfl ?_ ?_))<;>intro hc h
 ·refine gw8 rfl ?_
  cases h;exact en Tryz.results11
 refine gw6 (rG rfl fun K j=>?_)
 intro hm
 refine gF' h ?_ ?_<;>intro hc h
 ·refine j (ct rfl (gw8 rfl ?_))
  cases h;exact en Tryz.results11
 intro hm
 refine gF' h ?_ ?_<;>intro hc h
 ·refine j (ct rfl (gw8 rfl ?_))
  cases h;exact en Tryz.results11
 intro hm
 refine gF' h ?_ ?_<;>intro hc h
 ·refine j (ct rfl (gw8 rfl ?_))
  cases h;exact en Tryz.results11
 intro hm
 refine gF' h ?_ ?_<;>intro hc h
 ·refine j (ct rfl (gw8 rfl ?_))
  cases h;exact en Tryz.results11
 intro hm
 refine gF' h ?_ ?_<;>intro hc h
 ·refine j (ct rfl (gw8 rfl ?_))
  cases h;exact en Tryz.results11
 intro hm
 refine j (cA h rfl ?_ ?_)<;>intro hc h
 ·refine gw8 rfl ?_
  cases h;exact en Tryz.results11
 refine Co (rG rfl fun K j=>?_)
 intro hm
 refine gT h ?_ ?_<;>intro hc h
 ·intro hm
  refine gT h ?_ ?_<;>intro hc h
  ·intro hm
   refine gT h ?_ ?_<;>intro hc h
   ·intro hm
    refine j (rt ?_)
    cases h;exact en Tryz.results11
   refine j (rt ?_)
   cases h;exact en Tryz.results11
  refine j (rt ?_)
  cases h;exact en Tryz.results11
 refine j (rt ?_)
 cases h;exact en Tryz.results11
def Fa (n_:Int) (lo:Int) (hi:Int):Option (Bool):=
 (bif (decide (lo≤n_))then some (decide (n_≤hi))else some false)
theorem Dp (n_:Int) (lo:Int) (hi:Int) {r:Bool} (h:Fa n_ lo hi=some r):Ad Tryz.prog 254 [.int .i64 n_,.int .i64 lo,.int .i64 hi] (·= .bool r):=by
 refine Ad.nle (Ad.intro Tryz.func254 rfl rfl (by show _≤15;simp) ?_)
 unfold Fa at h
 refine nS (sq ?_)
 refine gw7 rfl ?_
 refine rg rfl fun K j=>?_
 refine gT h ?_ ?_<;>intro hc h
 ·refine j _ _ (Cu ?_)
  cases h;exact en Tryz.results254
 refine j _ _ (Cu ?_)
 cases h;exact en Tryz.results254
def Y1 (l:List Cx) (k0:Nat) (ab:Cx) (sv:Unit):Option (Out (Unit) (Int)):=
 (Fa ab.ID 1 9999).bind fun y3=>(bif (!y3)then some (Out.ret 2)else (Fa ab.Alt 0 5000).bind fun y4=>(bif (!y4)then some (Out.ret 2)else (bif (decide (0<((k0:Nat):Int)))then (Da l (IntKind.i64.wrap (((k0:Nat):Int) - 1))).bind fun cm=>(bif (decide (ab.ID≤cm.ID))then some (Out.ret 7)else some (Out.next ()))else some (Out.next ()))))
def Uz (l:List Cx):Option (Int):=
 (Al (Y1 l) 0 l ()).bind fun o0=>o0.on fun s0=>some 0
theorem gU (l:List Cx) {r:Int} (h:Uz l=some r):Ad Tryz.prog 177 [.sl 2 (l.map Bq)] (·= .int .i64 r):=by
 refine Ad.nle (Ad.intro Tryz.func177 rfl rfl (by show _≤42;simp) ?_)
 unfold Uz at h
 refine nS (sq ?_)
 refine B5 rfl ?_
 refine gw3 rfl (bk ?_)
 obtain⟨o0,aa,ae⟩:=Ae h
 clear h
 refine AWP.Bh aa () (fun zz=>[(0,.sl 2 (l.map Bq)),(3,.int .i64 ((zz.1:Nat):Int))]) (fun zz=>[]) ?_
 rintro k0 ⟨⟩ ⟨⟩ bb aa
 dsimp only
 refine sq (rG rfl fun K j=>?_)
 intro hm
 refine j (cD rfl ?_ ?_)<;>intro hc
 ·obtain rfl:=fnD aa hc
  have h:=Ao ae;try dsimp only at h
  have af:=leD bb hc
  subst af
  refine Cr rfl ?_
  cases h;exact en Tryz.results177
 obtain⟨ab,b0,ag,bh,ao,h,aa⟩:=fcD aa hc
 have ay:=wk (k:=k0) (by omega)
 unfold Y1 at h;try dsimp only at h
 refine gw9 (sq (rG rfl fun K j=>?_))
 refine A1.of (f:=Bq) (l:=l) ao ?_
 refine nS ?_
 obtain⟨y3,bu,h⟩:=Ae h
 refine Ah.pure Tryz.call254 (Dp ab.ID 1 9999 bu) rfl fun _ hr=>?_
 subst hr
 refine nS ?_
 refine gF' h ?_ ?_<;>intro hc h
 ·refine j (ct rfl (Cd rfl ?_))
  cases x0 h aa ae;exact en Tryz.results177
 refine A1.of (f:=Bq) (l:=l) ao ?_
 refine nS ?_
 obtain⟨y4,ch,h⟩:=Ae h
 refine Ah.pure Tryz.call254 (Dp ab.Alt 0 5000 ch) rfl fun _ hr=>?_
 subst hr
 refine nS ?_
 refine j (cA h rfl ?_ ?_)<;>intro hc h
 ·refine Cd rfl ?_
  cases x0 h aa ae;exact en Tryz.results177
 refine gw6 (dR Tryz.mixed fun K j=>?_)
 refine nS ?_
 refine gT h ?_ ?_<;>intro hc h
 ·refine A1.of (f:=Bq) (l:=l) ao ?_
  refine nS ?_
  obtain⟨cm,iu,h⟩:=Ae h
  refine A1.of (f:=Bq) (l:=l) iu ?_
  refine nS ?_
  refine j _ _ _ (by kernel_rfl) (qn (cA h rfl ?_ ?_))<;>intro hc h
  ·refine Cs rfl ?_
   cases x0 h aa ae;exact en Tryz.results177
  refine gw5 rfl ?_
  refine lE ag aa h () ?_ ?_<;>exact cuw ay
 refine j _ _ _ (by kernel_rfl) (qn (cf rfl (gw5 rfl ?_)))
 refine lE ag aa h () ?_ ?_<;>exact cuw ay
def bM (id_:Int) (k0:Nat) (ab:Cx) (sv:Unit):Option (Out (Unit) (Cx×Bool)):=
 (bif (decide (ab.ID=id_))then some (Out.ret (ab,true))else some (Out.next ()))
def Es (m:Av) (id_:Int):Option (Cx×Bool):=
 (Al (bM id_) 0 m.Nodes ()).bind fun o0=>o0.on fun s0=>some ((Cx.mk 0 0),false)
theorem Nb (m:Av) (id_:Int) {r:Cx×Bool} (h:Es m id_=some r):Ad Tryz.prog 98 [.agg (Be m),.int .i64 id_] (·= .tuple [.agg (Bq r.1),.bool r.2]):=by
 refine Ad.nle (Ad.intro Tryz.func98 rfl rfl (by show _≤28;simp) ?_)
 unfold Es at h
 refine nS (sq ?_)
 refine B5 rfl ?_
 refine gw3 rfl (bk ?_)
 obtain⟨o0,aa,ae⟩:=Ae h
 clear h
 refine AWP.Bh aa () (fun zz=>[(1,.int .i64 id_),(2,.ptr 0 0),(4,.ptr 1 0),(6,.int .i64 ((zz.1:Nat):Int))]) (fun zz=>[.box (Be m),.box [.int .i64 0,.int .i64 0]]) ?_
 rintro k0 ⟨⟩ ⟨⟩ bb aa
 dsimp only
 refine sq (rG rfl fun K j=>?_)
 intro hm
 refine j (cD rfl ?_ ?_)<;>intro hc
 ·obtain rfl:=fnD aa hc
  have h:=Ao ae;try dsimp only at h
  have af:=leD bb hc
  subst af
  refine Cr rfl ?_
  cases h;exact en Tryz.results98
 obtain⟨ab,b0,ag,bh,ao,h,aa⟩:=fcD aa hc
 have ay:=wk (k:=k0) (by omega)
 unfold bM at h;try dsimp only at h
 refine gw9 (rG rfl fun K j=>?_)
 refine A1.of (f:=Bq) (l:=m.Nodes) ao ?_
 refine nS ?_
 refine j (cA h rfl ?_ ?_)<;>intro hc h
 ·refine rG rfl fun K j=>?_
  refine A1.of (f:=Bq) (l:=m.Nodes) ao ?_
  refine nS ?_
  refine j (rt (gw2 ?_))
  cases x0 h aa ae;exact en Tryz.results98
 refine gw5 rfl ?_
 refine lE ag aa h () ?_ ?_<;>exact cuw ay
def Gy (m:Av) (from_:Int) (to_:Int):Option (Int):=
 (Es m from_).bind fun y1=>(Es m to_).bind fun y2=>(bif (!y1.2)then some 8 else(bif (!y2.2)then some 8 else(bif (decide (y2.1.Alt≤y1.1.Alt))then some 11 else some 0)))
theorem Lu (m:Av) (from_:Int) (to_:Int) {r:Int} (h:Gy m from_ to_=some r):Ad Tryz.prog 255 [.agg (Be m),.int .i64 from_,.int .i64 to_] (·= .int .i64 r):=by
 refine Ad.nle (Ad.intro Tryz.func255 rfl rfl (by show _≤34;simp) ?_)
 unfold Gy at h
 refine nS (sq ?_)
 refine gw7 rfl ?_
 refine rg rfl fun K j=>?_
 obtain⟨y1,bp,h⟩:=Ae h
 refine Ah.pure Tryz.call98 (Nb m from_ bp) rfl fun _ hr=>?_
 subst hr
 refine nS ?_
 refine j _ _ (qn (rG rfl fun K j=>?_))
 obtain⟨y2,cx,h⟩:=Ae h
 refine Ah.pure Tryz.call98 (Nb m to_ cx) rfl fun _ hr=>?_
 subst hr
 refine nS ?_
 refine j (sq (rG rfl fun K j=>?_))
 refine gF h ?_ ?_<;>intro hc h
 ·refine j (cA h rfl ?_ ?_)<;>intro hc h
  ·refine gw8 rfl ?_
   cases h;exact en Tryz.results255
  refine gw6 (B8 rfl ?_)
  refine cA h rfl ?_ ?_<;>intro hc h
  ·refine gw8 rfl ?_
   cases h;exact en Tryz.results255
  refine Co (gw1 rfl ?_)
  cases h;exact en Tryz.results255
 refine j (ct rfl (gw8 rfl ?_))
 cases h;exact en Tryz.results255
def H3 (x_:Ck):Option (Bool):=
 nz x_.Spacing ((bif (decide ((Int.tmod (IntKind.i64.wrap (2*x_.Length)) x_.Spacing)=0))then nz x_.Spacing ((Fa (IntKind.i64.wrap (Int.tdiv (IntKind.i64.wrap (2*x_.Length)) x_.Spacing)) 1 200).bind fun y1=>some y1)else some false))
theorem Sl (x_:Ck) {r:Bool} (h:H3 x_=some r):Ad Tryz.prog 256 [.agg (Bl x_)] (·= .bool r):=by
 refine Ad.nle (Ad.intro Tryz.func256 rfl rfl (by show _≤19;simp) ?_)
 unfold H3 at h
 refine nS (sq ?_)
 refine gw7 rfl ?_
 refine rg rfl fun K j=>?_
 obtain⟨hk,h⟩:=pG h
 refine⟨hk,?_⟩
 refine gT h ?_ ?_<;>intro hc h
 ·obtain⟨hk,h⟩:=pG h
  refine⟨hk,?_⟩
  obtain⟨y1,bp,h⟩:=Ae h
  refine Ah.pure Tryz.call254 (Dp (IntKind.i64.wrap (Int.tdiv (IntKind.i64.wrap (2*x_.Length)) x_.Spacing)) 1 200 bp) rfl fun _ hr=>?_
  subst hr
  refine nS ?_
  refine j _ _ (Cu ?_)
  cases h;exact en Tryz.results256
 refine j _ _ (Cu ?_)
 cases h;exact en Tryz.results256
def O9 (m:Av) (k0:Nat) (ab:Ck) (sv:Unit):Option (Out (Unit) (Int)):=
 (Fa ab.ID 1 9999).bind fun y3=>(bif (!y3)then some (Out.ret 2)else (Fa ab.Operator 1 8).bind fun y4=>(bif (!y4)then some (Out.ret 2)else (Fa ab.Length 10 6000).bind fun y5=>(bif (!y5)then some (Out.ret 2)else (Fa ab.Speed 500 12000).bind fun y6=>(bif (!y6)then some (Out.ret 2)else (Fa ab.Seats 1 16).bind fun y7=>(bif (!y7)then some (Out.ret 2)else (Fa ab.Spacing 5 1000).bind fun y8=>(bif (!y8)then some (Out.ret 2)else (bif (decide (0<((k0:Nat):Int)))then (Da m.Lifts (IntKind.i64.wrap (((k0:Nat):Int) - 1))).bind fun ey=>(bif (decide (ab.ID≤ey.ID))then some (Out.ret 7)else (Gy m ab.From ab.To).bind fun cr=>(bif (decide (cr≠0))then some (Out.ret cr)else (H3 ab).bind fun dz=>(bif (!dz)then some (Out.ret 1)else some (Out.next ()))))else (Gy m ab.From ab.To).bind fun ee=>(bif (decide (ee≠0))then some (Out.ret ee)else (H3 ab).bind fun gd=>(bif (!gd)then some (Out.ret 1)else some (Out.next ()))))))))))
def Rr (m:Av):Option (Int):=
 (Al (O9 m) 0 m.Lifts ()).bind fun o0=>o0.on fun s0=>some 0
theorem gV (m:Av) {r:Int} (h:Rr m=some r):Ad Tryz.prog 178 [.agg (Be m)] (·= .int .i64 r):=by
 refine Ad.nle (Ad.intro Tryz.func178 rfl rfl (by show _≤78;simp) ?_)
 unfold Rr at h
 refine nS (sq ?_)
 refine B5 rfl ?_
 refine gw3 rfl (bk ?_)
 obtain⟨o0,aa,ae⟩:=Ae h
 clear h
 refine AWP.Bh aa () (fun zz=>[(1,.ptr 0 0),(3,.int .i64 ((zz.1:Nat):Int))]) (fun zz=>[.box (Be m)]) ?_
 rintro k0 ⟨⟩ ⟨⟩ bb aa
 dsimp only
 refine sq (rG rfl fun K j=>?_)
 intro hm
 refine j (cD rfl ?_ ?_)<;>intro hc
 ·obtain rfl:=fnD aa hc
  have h:=Ao ae;try dsimp only at h
  have af:=leD bb hc
  subst af
  refine Cr rfl ?_
  cases h;exact en Tryz.results178
 obtain⟨ab,b0,ag,bh,ao,h,aa⟩:=fcD aa hc
 have ay:=wk (k:=k0) (by omega)
 unfold O9 at h;try dsimp only at h
 refine gw9 (rG rfl fun K j=>?_)
 refine A1.of (f:=Bl) (l:=m.Lifts) ao ?_
 refine nS ?_
 refine j (sq (rG rfl fun K j=>?_))
 obtain⟨y3,bu,h⟩:=Ae h
 refine Ah.pure Tryz.call254 (Dp ab.ID 1 9999 bu) rfl fun _ hr=>?_
 subst hr
 refine nS ?_
 refine gF' h ?_ ?_<;>intro hc h
 ·refine j (ct rfl (Cd rfl ?_))
  cases x0 h aa ae;exact en Tryz.results178
 obtain⟨y4,ch,h⟩:=Ae h
 refine Ah.pure Tryz.call254 (Dp ab.Operator 1 8 ch) rfl fun _ hr=>?_
 subst hr
 refine nS ?_
 refine gF' h ?_ ?_<;>intro hc h
 ·refine j (ct rfl (Cd rfl ?_))
  cases x0 h aa ae;exact en Tryz.results178
 obtain⟨y5,cw,h⟩:=Ae h
 refine Ah.pure Tryz.call254 (Dp ab.Length 10 6000 cw) rfl fun _ hr=>?_
 subst hr
 refine nS ?_
 refine gF' h ?_ ?_<;>intro hc h
 ·refine j (ct rfl (Cd rfl ?_))
  cases x0 h aa ae;exact en Tryz.results178
 obtain⟨y6,ec,h⟩:=Ae h
 refine Ah.pure Tryz.call254 (Dp ab.Speed 500 12000 ec) rfl fun _ hr=>?_
 subst hr
 refine nS ?_
 refine gF' h ?_ ?_<;>intro hc h
 ·refine j (ct rfl (Cd rfl ?_))
  cases x0 h aa ae;exact en Tryz.results178
 obtain⟨y7,eg,h⟩:=Ae h
 refine Ah.pure Tryz.call254 (Dp ab.Seats 1 16 eg) rfl fun _ hr=>?_
 subst hr
 refine nS ?_
 refine gF' h ?_ ?_<;>intro hc h
 ·refine j (ct rfl (Cd rfl ?_))
  cases x0 h aa ae;exact en Tryz.results178
 obtain⟨y8,ej,h⟩:=Ae h
 refine Ah.pure Tryz.call254 (Dp ab.Spacing 5 1000 ej) rfl fun _ hr=>?_
 subst hr
 refine nS ?_
 refine j (cA h rfl ?_ ?_)<;>intro hc h
 ·refine Cd rfl ?_
  cases x0 h aa ae;exact en Tryz.results178
 refine gw6 (sq (dR Tryz.mixed fun K j=>?_))
 refine nS ?_
 refine gT h ?_ ?_<;>intro hc h
 ·obtain⟨ey,qx,h⟩:=Ae h
  refine A1.of (f:=Bl) (l:=m.Lifts) qx ?_
  refine nS ?_
  refine j _ _ _ (by kernel_rfl) (qn (cA h rfl ?_ ?_))<;>intro hc h
  ·refine Cd rfl ?_
   cases x0 h aa ae;exact en Tryz.results178
  refine gw6 (rG rfl fun K j=>?_)
  obtain⟨cr,dq,h⟩:=Ae h
  refine Ah.pure Tryz.call255 (Lu m ab.From ab.To dq) rfl fun _ hr=>?_
  subst hr
  refine nS ?_
  refine j (B8 rfl ?_)
  refine cA h rfl ?_ ?_<;>intro hc h
  ·refine Cd rfl ?_
   cases x0 h aa ae;exact en Tryz.results178
  refine Co (rG rfl fun K j=>?_)
  obtain⟨dz,ff,h⟩:=Ae h
  refine Ah.pure Tryz.call256 (Sl ab ff) rfl fun _ hr=>?_
  subst hr
  refine nS ?_
  refine j (cA h rfl ?_ ?_)<;>intro hc h
  ·refine Cs rfl ?_
   cases x0 h aa ae;exact en Tryz.results178
  refine gw5 rfl ?_
  refine lE ag aa h () ?_ ?_<;>exact cuw ay
 refine j _ _ _ (by kernel_rfl) (qn (cf rfl (gw6 (rG rfl fun K j=>?_))))
 obtain⟨ee,fw,h⟩:=Ae h
 refine Ah.pure Tryz.call255 (Lu m ab.From ab.To fw) rfl fun _ hr=>?_
 subst hr
 refine nS ?_
 refine j (B8 rfl ?_)
 refine cA h rfl ?_ ?_<;>intro hc h
 ·refine Cd rfl ?_
  cases x0 h aa ae;exact en Tryz.results178
 refine Co (rG rfl fun K j=>?_)
 obtain⟨gd,ir,h⟩:=Ae h
 refine Ah.pure Tryz.call256 (Sl ab ir) rfl fun _ hr=>?_
 subst hr
 refine nS ?_
 refine j (cA h rfl ?_ ?_)<;>intro hc h
 ·refine Cs rfl ?_
  cases x0 h aa ae;exact en Tryz.results178
 refine gw5 rfl ?_
 refine lE ag aa h () ?_ ?_<;>exact cuw ay
def Q5 (m:Av) (k0:Nat) (ab:Cn) (sv:Unit):Option (Out (Unit) (Int)):=
 (Fa ab.ID 1 9999).bind fun y3=>(bif (!y3)then some (Out.ret 2)else (Fa ab.Operator 1 8).bind fun y4=>(bif (!y4)then some (Out.ret 2)else (Fa ab.Grade 1 4).bind fun y5=>(bif (!y5)then some (Out.ret 2)else (Fa ab.Zone 1 32).bind fun y6=>(bif (!y6)then some (Out.ret 2)else (Fa ab.Length 10 20000).bind fun y7=>(bif (!y7)then some (Out.ret 2)else (bif (decide (0<((k0:Nat):Int)))then (Da m.Runs (IntKind.i64.wrap (((k0:Nat):Int) - 1))).bind fun dr=>(bif (decide (ab.ID≤dr.ID))then some (Out.ret 7)else (Gy m ab.To ab.From).bind fun y9=>(bif (decide (y9≠0))then some (Out.ret y9)else some (Out.next ())))else (Gy m ab.To ab.From).bind fun cr=>(bif (decide (cr≠0))then some (Out.ret cr)else some (Out.next ()))))))))
def T1 (m:Av):Option (Int):=
 (Al (Q5 m) 0 m.Runs ()).bind fun o0=>o0.on fun s0=>some 0
theorem kM (m:Av) {r:Int} (h:T1 m=some r):Ad Tryz.prog 179 [.agg (Be m)] (·= .int .i64 r):=by
 refine Ad.nle (Ad.intro Tryz.func179 rfl rfl (by show _≤69;simp) ?_)
 unfold T1 at h
 refine nS (sq ?_)
 refine B5 rfl ?_
 refine gw3 rfl (bk ?_)
 obtain⟨o0,aa,ae⟩:=Ae h
 clear h
 refine AWP.Bh aa () (fun zz=>[(1,.ptr 0 0),(3,.int .i64 ((zz.1:Nat):Int))]) (fun zz=>[.box (Be m)]) ?_
 rintro k0 ⟨⟩ ⟨⟩ bb aa
 dsimp only
 refine sq (rG rfl fun K j=>?_)
 intro hm
 refine j (cD rfl ?_ ?_)<;>intro hc
 ·obtain rfl:=fnD aa hc
  have h:=Ao ae;try dsimp only at h
  have af:=leD bb hc
  subst af
  refine Cr rfl ?_
  cases h;exact en Tryz.results179
 obtain⟨ab,b0,ag,bh,ao,h,aa⟩:=fcD aa hc
 have ay:=wk (k:=k0) (by omega)
 unfold Q5 at h;try dsimp only at h
 refine gw9 (rG rfl fun K j=>?_)
 refine A1.of (f:=Bj) (l:=m.Runs) ao ?_
 refine nS ?_
 refine j (sq (rG rfl fun K j=>?_))
 obtain⟨y3,bu,h⟩:=Ae h
 refine Ah.pure Tryz.call254 (Dp ab.ID 1 9999 bu) rfl fun _ hr=>?_
 subst hr
 refine nS ?_
 refine gF' h ?_ ?_<;>intro hc h
 ·refine j (ct rfl (Cd rfl ?_))
  cases x0 h aa ae;exact en Tryz.results179
 obtain⟨y4,ch,h⟩:=Ae h
 refine Ah.pure Tryz.call254 (Dp ab.Operator 1 8 ch) rfl fun _ hr=>?_
 subst hr
 refine nS ?_
 refine gF' h ?_ ?_<;>intro hc h
 ·refine j (ct rfl (Cd rfl ?_))
  cases x0 h aa ae;exact en Tryz.results179
 obtain⟨y5,cw,h⟩:=Ae h
 refine Ah.pure Tryz.call254 (Dp ab.Grade 1 4 cw) rfl fun _ hr=>?_
 subst hr
 refine nS ?_
 refine gF' h ?_ ?_<;>intro hc h
 ·refine j (ct rfl (Cd rfl ?_))
  cases x0 h aa ae;exact en Tryz.results179
 obtain⟨y6,ec,h⟩:=Ae h
 refine Ah.pure Tryz.call254 (Dp ab.Zone 1 32 ec) rfl fun _ hr=>?_
 subst hr
 refine nS ?_
 refine gF' h ?_ ?_<;>intro hc h
 ·refine j (ct rfl (Cd rfl ?_))
  cases x0 h aa ae;exact en Tryz.results179
 obtain⟨y7,eg,h⟩:=Ae h
 refine Ah.pure Tryz.call254 (Dp ab.Length 10 20000 eg) rfl fun _ hr=>?_
 subst hr
 refine nS ?_
 refine j (cA h rfl ?_ ?_)<;>intro hc h
 ·refine Cd rfl ?_
  cases x0 h aa ae;exact en Tryz.results179
 refine gw6 (sq (dR Tryz.mixed fun K j=>?_))
 refine nS ?_
 refine gT h ?_ ?_<;>intro hc h
 ·obtain⟨dr,nb,h⟩:=Ae h
  refine A1.of (f:=Bj) (l:=m.Runs) nb ?_
  refine nS ?_
  refine j _ _ _ (by kernel_rfl) (qn (cA h rfl ?_ ?_))<;>intro hc h
  ·refine Cd rfl ?_
   cases x0 h aa ae;exact en Tryz.results179
  refine Co (rG rfl fun K j=>?_)
  obtain⟨y9,fu,h⟩:=Ae h
  refine Ah.pure Tryz.call255 (Lu m ab.To ab.From fu) rfl fun _ hr=>?_
  subst hr
  refine nS ?_
  refine j (B8 rfl ?_)
  refine cA h rfl ?_ ?_<;>intro hc h
  ·refine Cs rfl ?_
   cases x0 h aa ae;exact en Tryz.results179
  refine gw5 rfl ?_
  refine lE ag aa h () ?_ ?_<;>exact cuw ay
 refine j _ _ _ (by kernel_rfl) (qn (cf rfl (Co (rG rfl fun K j=>?_))))
 obtain⟨cr,dq,h⟩:=Ae h
 refine Ah.pure Tryz.call255 (Lu m ab.To ab.From dq) rfl fun _ hr=>?_
 subst hr
 refine nS ?_
 refine j (B8 rfl ?_)
 refine cA h rfl ?_ ?_<;>intro hc h
 ·refine Cs rfl ?_
  cases x0 h aa ae;exact en Tryz.results179
 refine gw5 rfl ?_
 refine lE ag aa h () ?_ ?_<;>exact cuw ay
def Er (m:Av) (k1:Nat) (_x:Unit) (sv:Unit):Option (Out (Unit) (Int)):=
 (Da m.Bases (((k1:Nat):Int)+1)).bind fun ak=>(Da m.Bases (IntKind.i64.wrap ((((k1:Nat):Int)+1) - 1))).bind fun aw=>(bif (decide (ak≤aw))then some (Out.ret 7)else some (Out.next ()))
def T3 (m:Av):Option (Int):=
 (J8 (Er m) (m.Bases.length - 1) ()).bind fun o1=>o1.on fun s1=>some 0
def T4 (m:Av) (k4:Nat) (cp:Int) (sv:Unit):Option (Out (Unit) (Int)):=
 (Es m cp).bind fun y7=>(bif (!y7.2)then some (Out.ret 8)else some (Out.next ()))
def Rs (m:Av):Option (Int):=
 (bif (decide (((m.Bases.length:Nat):Int)=0))then some 8 else(Al (T4 m) 0 m.Bases ()).bind fun o4=>o4.on fun s4=>T3 m)
theorem gW (m:Av) {r:Int} (h:Rs m=some r):Ad Tryz.prog 180 [.agg (Be m)] (·= .int .i64 r):=by
 refine Ad.nle (Ad.intro Tryz.func180 rfl rfl (by show _≤49;simp) ?_)
 unfold Rs at h
 refine nS (sq ?_)
 refine B5 rfl ?_
 refine rg rfl fun K j=>?_
 intro hm
 refine j _ _ (qn (cA h rfl ?_ ?_))<;>intro hc h
 ·refine gw8 rfl ?_
  cases h;exact en Tryz.results180
 refine Co ?_
 refine AWP.Ek (ι:=(Unit)×(Unit)) (fun zz=>[(1,.ptr 0 0)]) (fun zz=>[.box (Be m)]) (fun zz=>T3 m=some r) (fun zz=>⟨rfl,rfl,rfl⟩) ?_ ?_
 ·refine B8 rfl (bk ?_)
  obtain⟨o4,ck,jl⟩:=Ae h
  clear h
  refine AWP.Bh ck () (fun zz=>[(1,.ptr 0 0),(3,.int .i64 ((zz.1:Nat):Int))]) (fun zz=>[.box (Be m)]) ?_
  rintro k4 ⟨⟩ ⟨⟩ oy ck
  dsimp only
  refine sq (rG rfl fun K j=>?_)
  intro hm
  refine j (cD rfl ?_ ?_)<;>intro hc
  ·obtain rfl:=fnD ck hc
   have h:=Ao jl;try dsimp only at h
   have af:=leD oy hc
   subst af
   refine gw4 ?_
   exact⟨((),()),h,cu,cu⟩
  obtain⟨cp,b4,gj,re,qb,h,ck⟩:=fcD ck hc
  have kf:=wk (k:=k4) (by omega)
  unfold T4 at h;try dsimp only at h
  refine gw9 (sq (dR Tryz.mixed fun K j=>?_))
  refine nS ?_
  refine A1.of (f:=An) (l:=m.Bases) qb ?_
  refine nS ?_
  obtain⟨y7,eg,h⟩:=Ae h
  refine Br.pure Tryz.call98 (Nb m cp eg) rfl ?_
  refine nS ?_
  refine j _ _ _ (by kernel_rfl) (qn (B8 rfl ?_))
  refine cA h rfl ?_ ?_<;>intro hc h
  ·refine Cs rfl ?_
   cases x0 h ck jl;exact en Tryz.results180
  refine gw5 rfl ?_
  refine lE gj ck h () ?_ ?_<;>exact cuw kf
 rintro⟨⟨⟩,⟨⟩⟩ h
 try dsimp only at h ⊢
 unfold T3 at h;try dsimp only at h
 refine sq (B8 rfl (bk ?_))
 obtain⟨o1,aq,db⟩:=Ae h
 clear h
 obtain⟨hn1,aq⟩:=Ng aq
 refine AWP.Ma (ι:=Nat×(Unit)×(Unit)) (fun zz=>[(1,.ptr 0 0),(6,.int .i64 (((zz.1:Nat):Int)+(1:Int)))]) (fun zz=>[.box (Be m)]) (fun zz=>zz.1≤(m.Bases.length - 1)∧Al (Er m) zz.1 ((List.replicate (m.Bases.length - 1) ()).drop zz.1) zz.2.1=some o1) (fun zz=>(m.Bases.length - 1) - zz.1) (0,(),()) ⟨Nat.zero_le _,aq⟩ cu cu (fun x=>⟨rfl,rfl,rfl⟩) ?_
 clear aq
 rintro⟨k1,⟨⟩,⟨⟩⟩ ⟨ga,aq⟩
 dsimp only at ga aq ⊢
 refine sq (rG rfl fun K j=>?_)
 intro hm
 refine j (cD rfl ?_ ?_)<;>intro hc
 ·obtain rfl:=J5 aq (fun hl=>by rw[Aov]at hl;have:=Aom hc;omega)
  have h:=Ao db;try dsimp only at h
  have af:(m.Bases.length - 1)=k1:=by have:=Aom hc;omega
  subst af
  refine Cr rfl ?_
  cases h;exact en Tryz.results180
 have bl:k1<(m.Bases.length - 1):=by have:=Aon hc;omega
 obtain⟨_,b1,_,h,aq⟩:=G6 aq (by rw[Aov];exact bl)
 have cz:IntKind.i64.wrap ((((k1:Nat):Int)+1)+1)=(((k1:Nat):Int)+1+1):=by rw[wrap_i64]<;>omega
 unfold Er at h;try dsimp only at h
 refine gw9 (sq (dR Tryz.mixed fun K j=>?_))
 refine nS ?_
 obtain⟨ak,cd,h⟩:=Ae h
 refine A1.of (f:=An) (l:=m.Bases) cd ?_
 refine nS ?_
 obtain⟨aw,fg,h⟩:=Ae h
 refine A1.of (f:=An) (l:=m.Bases) fg ?_
 refine nS ?_
 refine j _ _ _ (by kernel_rfl) (qn (cA h rfl ?_ ?_))<;>intro hc h
 ·refine Cs rfl ?_
  cases x0 h aq db;exact en Tryz.results180
 refine gw5 rfl ?_
 obtain rfl:=Aa h
 refine⟨(k1+1,(),()),⟨by dsimp only;omega,Cj aq⟩,by dsimp only;omega,?_,?_⟩
 ·exact cuw cz
 exact cuw cz
def Iv (m:Av):Option (Int):=
 (bif (decide (64<((m.Nodes.length:Nat):Int)))then some 4 else(bif (decide (32<((m.Lifts.length:Nat):Int)))then some 4 else(bif (decide (64<((m.Runs.length:Nat):Int)))then some 4 else(bif (decide (64<((m.Bases.length:Nat):Int)))then some 4 else(Uz m.Nodes).bind fun y1=>(bif (decide (y1≠0))then some y1 else(Rr m).bind fun y2=>(bif (decide (y2≠0))then some y2 else(T1 m).bind fun y3=>(bif (decide (y3≠0))then some y3 else(Rs m).bind fun y4=>some y4)))))))
theorem gX (m:Av) {r:Int} (h:Iv m=some r):Ad Tryz.prog 85 [.agg (Be m)] (·= .int .i64 r):=by
 refine Ad.nle (Ad.intro Tryz.func85 rfl rfl (by show _≤46;simp) ?_)
 unfold Iv at h
 refine nS (sq ?_)
 refine B5 rfl ?_
 refine rg rfl fun K j=>?_
 intro hm
 refine gF' h ?_ ?_<;>intro hc h
 ·refine j _ _ (qn (ct rfl (gw8 rfl ?_)))
  cases h;exact en Tryz.results85
 intro hm
 refine gF' h ?_ ?_<;>intro hc h
 ·refine j _ _ (qn (ct rfl (gw8 rfl ?_)))
  cases h;exact en Tryz.results85
 intro hm
 refine gF' h ?_ ?_<;>intro hc h
 ·refine j _ _ (qn (ct rfl (gw8 rfl ?_)))
  cases h;exact en Tryz.results85
 intro hm
 refine j _ _ (qn (cA h rfl ?_ ?_))<;>intro hc h
 ·refine gw8 rfl ?_
  cases h;exact en Tryz.results85
 refine gw6 (rG rfl fun K j=>?_)
 obtain⟨y1,bp,h⟩:=Ae h
 refine Ah.pure Tryz.call177 (gU m.Nodes bp) rfl fun _ hr=>?_
 subst hr
 refine nS ?_
 refine j (B8 rfl ?_)
 refine cA h rfl ?_ ?_<;>intro hc h
 ·refine gw8 rfl ?_
  cases h;exact en Tryz.results85
 refine gw6 (rG rfl fun K j=>?_)
 obtain⟨y2,cx,h⟩:=Ae h
 refine Ah.pure Tryz.call178 (gV m cx) rfl fun _ hr=>?_
 subst hr
 refine nS ?_
 refine j (B8 rfl ?_)
 refine cA h rfl ?_ ?_<;>intro hc h
 ·refine gw8 rfl ?_
  cases h;exact en Tryz.results85
 refine gw6 (rG rfl fun K j=>?_)
 obtain⟨y3,bu,h⟩:=Ae h
 refine Ah.pure Tryz.call179 (kM m bu) rfl fun _ hr=>?_
 subst hr
 refine nS ?_
 refine j (B8 rfl ?_)
 refine cA h rfl ?_ ?_<;>intro hc h
 ·refine gw8 rfl ?_
  cases h;exact en Tryz.results85
 refine Co (rG rfl fun K j=>?_)
 obtain⟨y4,ch,h⟩:=Ae h
 refine Ah.pure Tryz.call180 (gW m ch) rfl fun _ hr=>?_
 subst hr
 refine nS ?_
 refine j (rt ?_)
 cases h;exact en Tryz.results85
def S8 (c:Bb):Option (Bool):=
 (bif (decide (1≤c.Kind))then (bif (decide (c.Kind≤3))then (bif (decide (1≤c.Target))then (bif (decide (c.Target≤9999))then (bif (decide (1≤c.By))then (bif (decide (c.By≤6))then (bif (decide (0≤c.Since))then some (decide (c.Since≤20000000))else some false)else some false)else some false)else some false)else some false)else some false)else some false)
theorem lV (c:Bb) {r:Bool} (h:S8 c=some r):Ad Tryz.prog 181 [.agg (Ay c)] (·= .bool r):=by
 refine Ad.nle (Ad.intro Tryz.func181 rfl rfl (by show _≤41;simp) ?_)
 unfold S8 at h
 refine nS (sq ?_)
 refine gw7 rfl ?_
 refine rg rfl fun K j=>?_
 refine gT' h ?_ ?_<;>intro hc h
 ·refine j _ _ (Cu ?_)
  cases h;exact en Tryz.results181
 refine gT' h ?_ ?_<;>intro hc h
 ·refine j _ _ (Cu ?_)
  cases h;exact en Tryz.results181
 refine gT h ?_ ?_<;>intro hc h
 ·refine gT h ?_ ?_<;>intro hc h
  ·refine gT h ?_ ?_<;>intro hc h
   ·refine gT h ?_ ?_<;>intro hc h
    ·refine gT h ?_ ?_<;>intro hc h
     ·refine j _ _ (Cu ?_)
      cases h;exact en Tryz.results181
     refine j _ _ (Cu ?_)
     cases h;exact en Tryz.results181
    refine j _ _ (Cu ?_)
    cases h;exact en Tryz.results181
   refine j _ _ (Cu ?_)
   cases h;exact en Tryz.results181
  refine j _ _ (Cu ?_)
  cases h;exact en Tryz.results181
 refine j _ _ (Cu ?_)
 cases h;exact en Tryz.results181
def F7 (kind:Int) (target:Int) (by_:Int) (k0:Nat) (ab:Bb) (sv:Unit):Option (Out (Unit) (Int)):=
 (bif (decide (ab.Kind=kind))then (bif (decide (ab.Target=target))then (bif (decide (ab.By=by_))then some (Out.ret ((k0:Nat):Int))else some (Out.next ()))else some (Out.next ()))else some (Out.next ()))
def Fy (l:List Bb) (kind:Int) (target:Int) (by_:Int):Option (Int):=
 (Al (F7 kind target by_) 0 l ()).bind fun o0=>o0.on fun s0=>some (-1)
theorem We (l:List Bb) (kind:Int) (target:Int) (by_:Int) {r:Int} (h:Fy l kind target by_=some r):Ad Tryz.prog 182 [.sl 4 (l.map Ay),.int .i64 kind,.int .i64 target,.int .i64 by_] (·= .int .i64 r):=by
 refine Ad.nle (Ad.intro Tryz.func182 rfl rfl (by show _≤42;simp) ?_)
 unfold Fy at h
 refine nS (sq ?_)
 refine B5 rfl ?_
 refine gw3 rfl (bk ?_)
 obtain⟨o0,aa,ae⟩:=Ae h
 clear h
 refine AWP.Bh aa () (fun zz=>[(0,.sl 4 (l.map Ay)),(1,.int .i64 kind),(2,.int .i64 target),(3,.int .i64 by_),(9,.int .i64 ((zz.1:Nat):Int))]) (fun zz=>[]) ?_
 rintro k0 ⟨⟩ ⟨⟩ bb aa
 dsimp only
 refine sq (rG rfl fun K j=>?_)
 intro hm
 refine j (cD rfl ?_ ?_)<;>intro hc
 ·obtain rfl:=fnD aa hc
  have h:=Ao ae;try dsimp only at h
  have af:=leD bb hc
  subst af
  refine Cr rfl ?_
  cases h;exact en Tryz.results182
 obtain⟨ab,b0,ag,bh,ao,h,aa⟩:=fcD aa hc
 have ay:=wk (k:=k0) (by omega)
 unfold F7 at h;try dsimp only at h
 refine gw9 (rG rfl fun K j=>?_)
 refine A1.of (f:=Ay) (l:=l) ao ?_
 refine nS ?_
 refine gT h ?_ ?_<;>intro hc h
 ·refine A1.of (f:=Ay) (l:=l) ao ?_
  refine nS ?_
  refine gT h ?_ ?_<;>intro hc h
  ·refine A1.of (f:=Ay) (l:=l) ao ?_
   refine nS ?_
   refine j (cA h rfl ?_ ?_)<;>intro hc h
   ·refine Cs rfl ?_
    cases x0 h aa ae;exact en Tryz.results182
   refine gw5 rfl ?_
   refine lE ag aa h () ?_ ?_<;>exact cuw ay
  refine j (cf rfl (gw5 rfl ?_))
  refine lE ag aa h () ?_ ?_<;>exact cuw ay
 refine j (cf rfl (gw5 rfl ?_))
 refine lE ag aa h () ?_ ?_<;>exact cuw ay
def Kn (l:List Bb) (k0:Nat) (ab:Bb) (sv:Unit):Option (Out (Unit) (Int)):=
 (S8 ab).bind fun y3=>(bif (!y3)then some (Out.ret 2)else okB (decide (0≤((k0:Nat):Int)∧((k0:Nat):Int)≤((l.length:Nat):Int))) ((Fy (l.take k0) ab.Kind ab.Target ab.By).bind fun y4=>(bif (decide (0≤y4))then some (Out.ret 7)else some (Out.next ()))))
def Ir (l:List Bb):Option (Int):=
 (bif (decide (200<((l.length:Nat):Int)))then some 4 else(Al (Kn l) 0 l ()).bind fun o0=>o0.on fun s0=>some 0)
theorem fX (l:List Bb) {r:Int} (h:Ir l=some r):Ad Tryz.prog 86 [.sl 4 (l.map Ay)] (·= .int .i64 r):=by
 refine Ad.nle (Ad.intro Tryz.func86 rfl rfl (by show _≤39;simp) ?_)
 unfold Ir at h
 refine nS (sq ?_)
 refine B5 rfl ?_
 refine rg rfl fun K j=>?_
 intro hm
 refine j _ _ (qn (cA h rfl ?_ ?_))<;>intro hc h
 ·refine gw8 rfl ?_
  cases h;exact en Tryz.results86
 refine gw6 (B8 rfl (bk ?_))
 obtain⟨o0,aa,ae⟩:=Ae h
 clear h
 refine AWP.Bh aa () (fun zz=>[(0,.sl 4 (l.map Ay)),(3,.int .i64 ((zz.1:Nat):Int))]) (fun zz=>[]) ?_
 rintro k0 ⟨⟩ ⟨⟩ bb aa
 dsimp only
 refine sq (rG rfl fun K j=>?_)
 intro hm
 refine j (cD rfl ?_ ?_)<;>intro hc
 ·obtain rfl:=fnD aa hc
  have h:=Ao ae;try dsimp only at h
  have af:=leD bb hc
  subst af
  refine Cr rfl ?_
  cases h;exact en Tryz.results86
 obtain⟨ab,b0,ag,bh,ao,h,aa⟩:=fcD aa hc
 have ay:=wk (k:=k0) (by omega)
 unfold Kn at h;try dsimp only at h
 refine gw9 (sq (rG rfl fun K j=>?_))
 refine A1.of (f:=Ay) (l:=l) ao ?_
 refine nS ?_
 obtain⟨y3,bu,h⟩:=Ae h
 refine Ah.pure Tryz.call181 (lV ab bu) rfl fun _ hr=>?_
 subst hr
 refine nS ?_
 refine j (cA h rfl ?_ ?_)<;>intro hc h
 ·refine Cd rfl ?_
  cases x0 h aa ae;exact en Tryz.results86
 refine gw6 (dR Tryz.mixed fun K j=>?_)
 refine nS ?_
 obtain⟨hk,h⟩:=Fv h
 intro hm
 (repeat(refine⟨by omega,?_⟩))
 refine A1.of (f:=Ay) (l:=l) ao ?_
 refine nS ?_
 refine A1.of (f:=Ay) (l:=l) ao ?_
 refine nS ?_
 refine A1.of (f:=Ay) (l:=l) ao ?_
 refine nS ?_
 obtain⟨y4,ch,h⟩:=Ae h
 refine Br.pure Tryz.call182 (We (l.take k0) ab.Kind ab.Target ab.By ch) rfl ?_
 refine nS ?_
 refine j _ _ _ (by kernel_rfl) (qn (cA h rfl ?_ ?_))<;>intro hc h
 ·refine Cs rfl ?_
  cases x0 h aa ae;exact en Tryz.results86
 refine gw5 rfl ?_
 refine lE ag aa h () ?_ ?_<;>exact cuw ay
def Rp (n_:Int) (lo:Int) (hi:Int):Option (Bool):=
 (bif (decide (lo≤n_))then some (decide (n_≤hi))else some false)
theorem Q3 (n_:Int) (lo:Int) (hi:Int) {r:Bool} (h:Rp n_ lo hi=some r):Ad Tryz.prog 257 [.int .i64 n_,.int .i64 lo,.int .i64 hi] (·= .bool r):=by
 refine Ad.nle (Ad.intro Tryz.func257 rfl rfl (by show _≤15;simp) ?_)
 unfold Rp at h
 refine nS (sq ?_)
 refine gw7 rfl ?_
 refine rg rfl fun K j=>?_
 refine gT h ?_ ?_<;>intro hc h
 ·refine j _ _ (Cu ?_)
  cases h;exact en Tryz.results257
 refine j _ _ (Cu ?_)
 cases h;exact en Tryz.results257
def dZ (n_:Int) (k0:Nat) (ab:Int) (sv:Unit):Option (Out (Unit) (Bool)):=
 (bif (decide (ab=n_))then some (Out.ret true)else some (Out.next ()))
def Wi (l:List Int) (n_:Int):Option (Bool):=
 (Al (dZ n_) 0 l ()).bind fun o0=>o0.on fun s0=>some false
theorem Yz (l:List Int) (n_:Int) {r:Bool} (h:Wi l n_=some r):Ad Tryz.prog 258 [.sl 1 (l.map An),.int .i64 n_] (·= .bool r):=by
 refine Ad.nle (Ad.intro Tryz.func258 rfl rfl (by show _≤18;simp) ?_)
 unfold Wi at h
 refine nS (sq ?_)
 refine B5 rfl ?_
 refine gw3 rfl (bk ?_)
 obtain⟨o0,aa,ae⟩:=Ae h
 clear h
 refine AWP.Bh aa () (fun zz=>[(0,.sl 1 (l.map An)),(1,.int .i64 n_),(5,.int .i64 ((zz.1:Nat):Int))]) (fun zz=>[]) ?_
 rintro k0 ⟨⟩ ⟨⟩ bb aa
 dsimp only
 refine sq (rG rfl fun K j=>?_)
 intro hm
 refine j (cD rfl ?_ ?_)<;>intro hc
 ·obtain rfl:=fnD aa hc
  have h:=Ao ae;try dsimp only at h
  have af:=leD bb hc
  subst af
  refine Cr rfl ?_
  cases h;exact en Tryz.results258
 obtain⟨ab,b0,ag,bh,ao,h,aa⟩:=fcD aa hc
 have ay:=wk (k:=k0) (by omega)
 unfold dZ at h;try dsimp only at h
 refine gw9 (rG rfl fun K j=>?_)
 refine A1.of (f:=An) (l:=l) ao ?_
 refine nS ?_
 refine j (cA h rfl ?_ ?_)<;>intro hc h
 ·refine Cs rfl ?_
  cases x0 h aa ae;exact en Tryz.results258
 refine gw5 rfl ?_
 refine lE ag aa h () ?_ ?_<;>exact cuw ay
def T0 (l:Ba) (k2:Nat) (aw:Fm) (sv:Unit):Option (Out (Unit) (Int)):=
 (Wi l.Items aw.Item).bind fun y5=>(bif (!y5)then some (Out.ret 8)else (Rp aw.By 1 9999).bind fun y6=>(bif (!y6)then some (Out.ret 17)else (Rp aw.At 0 20000000).bind fun y7=>(bif (!y7)then some (Out.ret 2)else (bif (decide (0<((k2:Nat):Int)))then (Da l.Signs (IntKind.i64.wrap (((k2:Nat):Int) - 1))).bind fun dr=>(bif (decide (aw.At<dr.At))then some (Out.ret 11)else some (Out.next ()))else some (Out.next ())))))
def O8 (l:Ba):Option (Int):=
 (Al (T0 l) 0 l.Signs ()).bind fun o2=>o2.on fun s2=>some 0
def Tz (l:Ba) (k8:Nat) (eu:Int) (sv:Unit):Option (Out (Unit) (Int)):=
 (Rp eu 1 9999).bind fun dz=>(bif (!dz)then some (Out.ret 2)else okB (decide (0≤((k8:Nat):Int)∧((k8:Nat):Int)≤((l.Items.length:Nat):Int))) ((Wi (l.Items.take k8) eu).bind fun ee=>(bif ee then some (Out.ret 7)else some (Out.next ()))))
def Gx (l:Ba):Option (Int):=
 (bif (decide (64<((l.Items.length:Nat):Int)))then some 4 else(bif (decide (200<((l.Signs.length:Nat):Int)))then some 4 else(Rp l.Every 1 604800).bind fun y1=>(bif (!y1)then some 2 else(Al (Tz l) 0 l.Items ()).bind fun o8=>o8.on fun s8=>O8 l)))
theorem Wh (l:Ba) {r:Int} (h:Gx l=some r):Ad Tryz.prog 183 [.agg (B4 l)] (·= .int .i64 r):=by
 refine Ad.nle (Ad.intro Tryz.func183 rfl rfl (by show _≤88;simp) ?_)
 unfold Gx at h
 refine nS (sq ?_)
 refine B5 rfl ?_
 refine rg rfl fun K j=>?_
 intro hm
 refine gF' h ?_ ?_<;>intro hc h
 ·refine j _ _ (qn (ct rfl (gw8 rfl ?_)))
  cases h;exact en Tryz.results183
 intro hm
 refine j _ _ (qn (cA h rfl ?_ ?_))<;>intro hc h
 ·refine gw8 rfl ?_
  cases h;exact en Tryz.results183
 refine gw6 (rG rfl fun K j=>?_)
 obtain⟨y1,bp,h⟩:=Ae h
 refine Ah.pure Tryz.call257 (Q3 l.Every 1 604800 bp) rfl fun _ hr=>?_
 subst hr
 refine nS ?_
 refine j (cA h rfl ?_ ?_)<;>intro hc h
 ·refine gw8 rfl ?_
  cases h;exact en Tryz.results183
 refine Co ?_
 refine AWP.Ek (ι:=(Unit)×(Unit)) (fun zz=>[(1,.ptr 0 0)]) (fun zz=>[.box (B4 l)]) (fun zz=>O8 l=some r) (fun zz=>⟨rfl,rfl,rfl⟩) ?_ ?_
 ·refine B8 rfl (bk ?_)
  obtain⟨o8,kr,uj⟩:=Ae h
  clear h
  refine AWP.Bh kr () (fun zz=>[(1,.ptr 0 0),(3,.int .i64 ((zz.1:Nat):Int))]) (fun zz=>[.box (B4 l)]) ?_
  rintro k8 ⟨⟩ ⟨⟩ hk8 kr
  dsimp only
  refine sq (rG rfl fun K j=>?_)
  intro hm
  refine j (cD rfl ?_ ?_)<;>intro hc
  ·obtain rfl:=fnD kr hc
   have h:=Ao uj;try dsimp only at h
   have af:=leD hk8 hc
   subst af
   refine gw4 ?_
   exact⟨((),()),h,cu,cu⟩
  obtain⟨eu,b8,tz,hx8_,wz,h,kr⟩:=fcD kr hc
  have hw8:=wk (k:=k8) (by omega)
  unfold Tz at h;try dsimp only at h
  refine gw9 (sq (rG rfl fun K j=>?_))
  refine A1.of (f:=An) (l:=l.Items) wz ?_
  refine nS ?_
  obtain⟨dz,ff,h⟩:=Ae h
  refine Ah.pure Tryz.call257 (Q3 eu 1 9999 ff) rfl fun _ hr=>?_
  subst hr
  refine nS ?_
  refine j (cA h rfl ?_ ?_)<;>intro hc h
  ·refine Cd rfl ?_
   cases x0 h kr uj;exact en Tryz.results183
  refine gw6 (dR Tryz.mixed fun K j=>?_)
  refine nS ?_
  obtain⟨hk,h⟩:=Fv h
  intro hm
  (repeat(refine⟨by omega,?_⟩))
  refine A1.of (f:=An) (l:=l.Items) wz ?_
  refine nS ?_
  obtain⟨ee,fw,h⟩:=Ae h
  refine Br.pure Tryz.call258 (Yz (l.Items.take k8) eu fw) rfl ?_
  refine nS ?_
  refine j _ _ _ (by kernel_rfl) (qn (cA h rfl ?_ ?_))<;>intro hc h
  ·refine Cs rfl ?_
   cases x0 h kr uj;exact en Tryz.results183
  refine gw5 rfl ?_
  refine lE tz kr h () ?_ ?_<;>exact cuw hw8
 rintro⟨⟨⟩,⟨⟩⟩ h
 try dsimp only at h ⊢
 unfold O8 at h;try dsimp only at h
 refine sq (B8 rfl (bk ?_))
 obtain⟨o2,aj,dn⟩:=Ae h
 clear h
 refine AWP.Bh aj () (fun zz=>[(1,.ptr 0 0),(4,.int .i64 ((zz.1:Nat):Int))]) (fun zz=>[.box (B4 l)]) ?_
 rintro k2 ⟨⟩ ⟨⟩ df aj
 dsimp only
 refine sq (rG rfl fun K j=>?_)
 intro hm
 refine j (cD rfl ?_ ?_)<;>intro hc
 ·obtain rfl:=fnD aj hc
  have h:=Ao dn;try dsimp only at h
  have af:=leD df hc
  subst af
  refine Cr rfl ?_
  cases h;exact en Tryz.results183
 obtain⟨aw,b2,az,fo,ep,h,aj⟩:=fcD aj hc
 have cj:=wk (k:=k2) (by omega)
 unfold T0 at h;try dsimp only at h
 refine gw9 (rG rfl fun K j=>?_)
 refine A1.of (f:=Cw) (l:=l.Signs) ep ?_
 refine nS ?_
 refine j (bk (rG rfl fun K j=>?_))
 obtain⟨y5,cw,h⟩:=Ae h
 refine Ah.pure Tryz.call258 (Yz l.Items aw.Item cw) rfl fun _ hr=>?_
 subst hr
 refine nS ?_
 refine j (cA h rfl ?_ ?_)<;>intro hc h
 ·refine gw1 rfl (br (gw2 ?_))
  cases x0 h aj dn;exact en Tryz.results183
 refine rG rfl fun K j=>?_
 obtain⟨y6,ec,h⟩:=Ae h
 refine Ah.pure Tryz.call257 (Q3 aw.By 1 9999 ec) rfl fun _ hr=>?_
 subst hr
 refine nS ?_
 refine j (cA h rfl ?_ ?_)<;>intro hc h
 ·refine gw1 rfl (br (gw2 ?_))
  cases x0 h aj dn;exact en Tryz.results183
 refine rG rfl fun K j=>?_
 obtain⟨y7,eg,h⟩:=Ae h
 refine Ah.pure Tryz.call257 (Q3 aw.At 0 20000000 eg) rfl fun _ hr=>?_
 subst hr
 refine nS ?_
 refine j (cA h rfl ?_ ?_)<;>intro hc h
 ·refine gw1 rfl (br (gw2 ?_))
  cases x0 h aj dn;exact en Tryz.results183
 refine sq (dR Tryz.mixed fun K j=>?_)
 refine nS ?_
 refine gT h ?_ ?_<;>intro hc h
 ·obtain⟨dr,nb,h⟩:=Ae h
  refine A1.of (f:=Cw) (l:=l.Signs) nb ?_
  refine nS ?_
  refine j _ _ _ (by kernel_rfl) (qn (cA h rfl ?_ ?_))<;>intro hc h
  ·refine gw1 rfl (br (gw2 ?_))
   cases x0 h aj dn;exact en Tryz.results183
  refine sk (bn (Eo rfl ?_))
  refine lE az aj h () ?_ ?_<;>exact cuw cj
 refine j _ _ _ (by kernel_rfl) (qn (cf rfl (sk (bn (Eo rfl ?_)))))
 refine lE az aj h () ?_ ?_<;>exact cuw cj
def Ri (run:Int) (k0:Nat) (ab:Cg) (sv:Unit):Option (Out (Unit) (Int)):=
 (bif (decide (ab.Run=run))then some (Out.ret ((k0:Nat):Int))else some (Out.next ()))
def Oy (p:Bk) (run:Int):Option (Int):=
 (Al (Ri run) 0 p.Ci ()).bind fun o0=>o0.on fun s0=>some (-1)
theorem bK (p:Bk) (run:Int) {r:Int} (h:Oy p run=some r):Ad Tryz.prog 184 [.agg (Cf p),.int .i64 run] (·= .int .i64 r):=by
 refine Ad.nle (Ad.intro Tryz.func184 rfl rfl (by show _≤22;simp) ?_)
 unfold Oy at h
 refine nS (sq ?_)
 refine B5 rfl ?_
 refine gw3 rfl (bk ?_)
 obtain⟨o0,aa,ae⟩:=Ae h
 clear h
 refine AWP.Bh aa () (fun zz=>[(1,.int .i64 run),(2,.ptr 0 0),(5,.int .i64 ((zz.1:Nat):Int))]) (fun zz=>[.box (Cf p)]) ?_
 rintro k0 ⟨⟩ ⟨⟩ bb aa
 dsimp only
 refine sq (rG rfl fun K j=>?_)
 intro hm
 refine j (cD rfl ?_ ?_)<;>intro hc
 ·obtain rfl:=fnD aa hc
  have h:=Ao ae;try dsimp only at h
  have af:=leD bb hc
  subst af
  refine Cr rfl ?_
  cases h;exact en Tryz.results184
 obtain⟨ab,b0,ag,bh,ao,h,aa⟩:=fcD aa hc
 have ay:=wk (k:=k0) (by omega)
 unfold Ri at h;try dsimp only at h
 refine gw9 (rG rfl fun K j=>?_)
 refine A1.of (f:=A3) (l:=p.Ci) ao ?_
 refine nS ?_
 refine j (cA h rfl ?_ ?_)<;>intro hc h
 ·refine Cs rfl ?_
  cases x0 h aa ae;exact en Tryz.results184
 refine gw5 rfl ?_
 refine lE ag aa h () ?_ ?_<;>exact cuw ay
def Km (p:Bk) (ak:C5) (k3:Nat) (_x:Unit) (sv:Unit):Option (Out (Unit) (Out (Unit) (Int))):=
 (Da p.Hazards ((k3:Nat):Int)).bind fun cm=>(bif (decide (cm.ID=ak.ID))then some (Out.ret (Out.ret 7))else some (Out.next ()))
def Tp (p:Bk) (k1:Nat) (ak:C5) (sv:Unit):Option (Out (Unit) (Int)):=
 (bif (decide (ak.ID<1))then some (Out.ret 2)else (bif (decide (9999<ak.ID))then some (Out.ret 2)else (bif (decide (ak.At<0))then some (Out.ret 2)else (bif (decide (20000000<ak.At))then some (Out.ret 2)else (J8 (Km p ak) k1 ()).bind fun o3=>o3.on fun s3=>(Oy p ak.Run).bind fun y6=>(bif (decide (y6<0))then some (Out.ret 8)else some (Out.next ()))))))
def Oz (p:Bk):Option (Int):=
 (Al (Tp p) 0 p.Hazards ()).bind fun o1=>o1.on fun s1=>some 0
def Kl (p:Bk) (k6:Nat) (dr:Cg) (sv:Unit):Option (Out (Unit) (Int)):=
 (bif (decide (dr.Run<1))then some (Out.ret 2)else (bif (decide (9999<dr.Run))then some (Out.ret 2)else (bif (decide (0<((k6:Nat):Int)))then (Da p.Ci (IntKind.i64.wrap (((k6:Nat):Int) - 1))).bind fun ey=>(bif (decide (dr.Run≤ey.Run))then some (Out.ret 11)else (Gx dr.List_).bind fun cr=>(bif (decide (cr≠0))then some (Out.ret cr)else some (Out.next ())))else (Gx dr.List_).bind fun dz=>(bif (decide (dz≠0))then some (Out.ret dz)else some (Out.next ())))))
def Iq (p:Bk):Option (Int):=
 (bif (decide (64<((p.Ci.length:Nat):Int)))then some 4 else(bif (decide (200<((p.Hazards.length:Nat):Int)))then some 4 else(Al (Kl p) 0 p.Ci ()).bind fun o6=>o6.on fun s6=>Oz p))
theorem fV (p:Bk) {r:Int} (h:Iq p=some r):Ad Tryz.prog 87 [.agg (Cf p)] (·= .int .i64 r):=by
 refine Ad.nle (Ad.intro Tryz.func87 rfl rfl (by show _≤118;simp) ?_)
 unfold Iq at h
 refine nS (sq ?_)
 refine B5 rfl ?_
 refine rg rfl fun K j=>?_
 intro hm
 refine gF' h ?_ ?_<;>intro hc h
 ·refine j _ _ (qn (ct rfl (gw8 rfl ?_)))
  cases h;exact en Tryz.results87
 intro hm
 refine j _ _ (qn (cA h rfl ?_ ?_))<;>intro hc h
 ·refine gw8 rfl ?_
  cases h;exact en Tryz.results87
 refine Co ?_
 refine AWP.Ek (ι:=(Unit)×(Unit)) (fun zz=>[(1,.ptr 0 0)]) (fun zz=>[.box (Cf p)]) (fun zz=>Oz p=some r) (fun zz=>⟨rfl,rfl,rfl⟩) ?_ ?_
 ·refine B8 rfl (bk ?_)
  obtain⟨o6,dx,mc⟩:=Ae h
  clear h
  refine AWP.Bh dx () (fun zz=>[(1,.ptr 0 0),(3,.int .i64 ((zz.1:Nat):Int))]) (fun zz=>[.box (Cf p)]) ?_
  rintro k6 ⟨⟩ ⟨⟩ uc dx
  dsimp only
  refine sq (rG rfl fun K j=>?_)
  intro hm
  refine j (cD rfl ?_ ?_)<;>intro hc
  ·obtain rfl:=fnD dx hc
   have h:=Ao mc;try dsimp only at h
   have af:=leD uc hc
   subst af
   refine gw4 ?_
   exact⟨((),()),h,cu,cu⟩
  obtain⟨dr,b6,iz,tr,nw,h,dx⟩:=fcD dx hc
  have ou:=wk (k:=k6) (by omega)
  unfold Kl at h;try dsimp only at h
  refine gw9 (sq (rG rfl fun K j=>?_))
  refine A1.of (f:=A3) (l:=p.Ci) nw ?_
  refine nS ?_
  refine gF' h ?_ ?_<;>intro hc h
  ·refine j (ct rfl (Cd rfl ?_))
   cases x0 h dx mc;exact en Tryz.results87
  refine A1.of (f:=A3) (l:=p.Ci) nw ?_
  refine nS ?_
  refine j (cA h rfl ?_ ?_)<;>intro hc h
  ·refine Cd rfl ?_
   cases x0 h dx mc;exact en Tryz.results87
  refine gw6 (sq (dR Tryz.mixed fun K j=>?_))
  refine nS ?_
  refine gT h ?_ ?_<;>intro hc h
  ·refine A1.of (f:=A3) (l:=p.Ci) nw ?_
   refine nS ?_
   obtain⟨ey,qx,h⟩:=Ae h
   refine A1.of (f:=A3) (l:=p.Ci) qx ?_
   refine nS ?_
   refine j _ _ _ (by kernel_rfl) (qn (cA h rfl ?_ ?_))<;>intro hc h
   ·refine Cd rfl ?_
    cases x0 h dx mc;exact en Tryz.results87
   refine Co (rG rfl fun K j=>?_)
   refine A1.of (f:=A3) (l:=p.Ci) nw ?_
   refine nS ?_
   obtain⟨cr,dq,h⟩:=Ae h
   refine Ah.pure Tryz.call183 (Wh dr.List_ dq) rfl fun _ hr=>?_
   subst hr
   refine nS ?_
   refine j (B8 rfl ?_)
   refine cA h rfl ?_ ?_<;>intro hc h
   ·refine Cs rfl ?_
    cases x0 h dx mc;exact en Tryz.results87
   refine gw5 rfl ?_
   refine lE iz dx h () ?_ ?_<;>exact cuw ou
  refine j _ _ _ (by kernel_rfl) (qn (cf rfl (Co (rG rfl fun K j=>?_))))
  refine A1.of (f:=A3) (l:=p.Ci) nw ?_
  refine nS ?_
  obtain⟨dz,ff,h⟩:=Ae h
  refine Ah.pure Tryz.call183 (Wh dr.List_ ff) rfl fun _ hr=>?_
  subst hr
  refine nS ?_
  refine j (B8 rfl ?_)
  refine cA h rfl ?_ ?_<;>intro hc h
  ·refine Cs rfl ?_
   cases x0 h dx mc;exact en Tryz.results87
  refine gw5 rfl ?_
  refine lE iz dx h () ?_ ?_<;>exact cuw ou
 rintro⟨⟨⟩,⟨⟩⟩ h
 try dsimp only at h ⊢
 unfold Oz at h;try dsimp only at h
 refine sq (B8 rfl (bk ?_))
 obtain⟨o1,aq,db⟩:=Ae h
 clear h
 refine AWP.Bh aq () (fun zz=>[(1,.ptr 0 0),(5,.int .i64 ((zz.1:Nat):Int))]) (fun zz=>[.box (Cf p)]) ?_
 rintro k1 ⟨⟩ ⟨⟩ ga aq
 dsimp only
 refine sq (rG rfl fun K j=>?_)
 intro hm
 refine j (cD rfl ?_ ?_)<;>intro hc
 ·obtain rfl:=fnD aq hc
  have h:=Ao db;try dsimp only at h
  have af:=leD ga hc
  subst af
  refine Cr rfl ?_
  cases h;exact en Tryz.results87
 obtain⟨ak,b1,bl,fx,fk,h,aq⟩:=fcD aq hc
 have cz:=wk (k:=k1) (by omega)
 unfold Tp at h;try dsimp only at h
 refine gw9 (rG rfl fun K j=>?_)
 refine A1.of (f:=Bg) (l:=p.Hazards) fk ?_
 refine nS ?_
 refine j (sq (rG rfl fun K j=>?_))
 refine gF' h ?_ ?_<;>intro hc h
 ·refine j (ct rfl (Cd rfl ?_))
  cases x0 h aq db;exact en Tryz.results87
 refine gF' h ?_ ?_<;>intro hc h
 ·refine j (ct rfl (Cd rfl ?_))
  cases x0 h aq db;exact en Tryz.results87
 refine gF' h ?_ ?_<;>intro hc h
 ·refine j (ct rfl (Cd rfl ?_))
  cases x0 h aq db;exact en Tryz.results87
 refine j (cA h rfl ?_ ?_)<;>intro hc h
 ·refine Cd rfl ?_
  cases x0 h aq db;exact en Tryz.results87
 refine gw6 (B8 rfl (bk ?_))
 obtain⟨o3,bo,ew⟩:=Ae h
 clear h
 obtain⟨hn3,bo⟩:=Ng bo
 refine AWP.Ma (ι:=Nat×(Unit)×(Unit)) (fun zz=>[(1,.ptr 0 0),(5,.int .i64 ((k1:Nat):Int)),(6,.ptr 1 0),(7,.int .i64 ((zz.1:Nat):Int))]) (fun zz=>[.box (Cf p),.box (Bg ak)]) (fun zz=>zz.1≤k1∧Al (Km p ak) zz.1 ((List.replicate k1 ()).drop zz.1) zz.2.1=some o3) (fun zz=>k1 - zz.1) (0,(),()) ⟨Nat.zero_le _,bo⟩ cu cu (fun x=>⟨rfl,rfl,rfl⟩) ?_
 clear bo
 rintro⟨k3,⟨⟩,⟨⟩⟩ ⟨jz,bo⟩
 dsimp only at jz bo ⊢
 refine sq (B8 rfl ?_)
 refine cC rfl ?_ ?_<;>intro hc
 ·have da:k3<k1:=by have:=Aon hc;omega
  obtain⟨_,b3,_,h,bo⟩:=G6 bo (by rw[Aov];exact da)
  have gi:=wk (k:=k3) (by omega)
  unfold Km at h;try dsimp only at h
  refine gw9 (sq (dR Tryz.mixed fun K j=>?_))
  refine nS ?_
  obtain⟨cm,iu,h⟩:=Ae h
  refine A1.of (f:=Bg) (l:=p.Hazards) iu ?_
  refine nS ?_
  refine j _ _ _ (by kernel_rfl) (qn (cA h rfl ?_ ?_))<;>intro hc h
  ·refine Cs rfl (gw2 ?_)
   cases x0 (x0 h bo ew) aq db;exact en Tryz.results87
  refine gw5 rfl ?_
  obtain rfl:=Aa h
  refine⟨(k3+1,(),()),⟨by dsimp only;omega,Cj bo⟩,by dsimp only;omega,?_,?_⟩
  ·exact cuw gi
  exact cuw gi
 obtain rfl:=J5 bo (fun hl=>by rw[Aov]at hl;have:=Aom hc;omega)
 have h:=Ao ew;try dsimp only at h
 have af:k1=k3:=by have:=Aom hc;omega
 subst af
 refine gw4 (rG rfl fun K j=>?_)
 obtain⟨y6,ec,h⟩:=Ae h
 refine Ah.pure Tryz.call184 (bK p ak.Run ec) rfl fun _ hr=>?_
 subst hr
 refine nS ?_
 refine j (cA h rfl ?_ ?_)<;>intro hc h
 ·refine Cs rfl ?_
  cases x0 h aq db;exact en Tryz.results87
 refine gw5 rfl ?_
 refine lE bl aq h () ?_ ?_<;>exact cuw cz
def Yu (l:List C7) (k0:Nat) (ab:C7) (sv:Unit):Option (Out (Unit) (Int)):=
 (bif (decide (ab.Run<1))then some (Out.ret 2)else (bif (decide (9999<ab.Run))then some (Out.ret 2)else (bif (decide (ab.Groomed<(-1)))then some (Out.ret 2)else (bif (decide (20000000<ab.Groomed))then some (Out.ret 2)else (bif (decide (ab.Traffic<0))then some (Out.ret 2)else (bif (decide (1000000<ab.Traffic))then some (Out.ret 2)else (bif (decide (0<((k0:Nat):Int)))then (Da l (IntKind.i64.wrap (((k0:Nat):Int) - 1))).bind fun ak=>(bif (decide (ab.Run≤ak.Run))then some (Out.ret 11)else some (Out.next ()))else some (Out.next ()))))))))
def Rm (l:List C7):Option (Int):=
 (bif (decide (64<((l.length:Nat):Int)))then some 4 else(Al (Yu l) 0 l ()).bind fun o0=>o0.on fun s0=>some 0)
theorem gJ (l:List C7) {r:Int} (h:Rm l=some r):Ad Tryz.prog 88 [.sl 3 (l.map Bd)] (·= .int .i64 r):=by
 refine Ad.nle (Ad.intro Tryz.func88 rfl rfl (by show _≤59;simp) ?_)
 unfold Rm at h
 refine nS (sq ?_)
 refine B5 rfl ?_
 refine rg rfl fun K j=>?_
 intro hm
 refine j _ _ (qn (cA h rfl ?_ ?_))<;>intro hc h
 ·refine gw8 rfl ?_
  cases h;exact en Tryz.results88
 refine gw6 (B8 rfl (bk ?_))
 obtain⟨o0,aa,ae⟩:=Ae h
 clear h
 refine AWP.Bh aa () (fun zz=>[(0,.sl 3 (l.map Bd)),(3,.int .i64 ((zz.1:Nat):Int))]) (fun zz=>[]) ?_
 rintro k0 ⟨⟩ ⟨⟩ bb aa
 dsimp only
 refine sq (rG rfl fun K j=>?_)
 intro hm
 refine j (cD rfl ?_ ?_)<;>intro hc
 ·obtain rfl:=fnD aa hc
  have h:=Ao ae;try dsimp only at h
  have af:=leD bb hc
  subst af
  refine Cr rfl ?_
  cases h;exact en Tryz.results88
 obtain⟨ab,b0,ag,bh,ao,h,aa⟩:=fcD aa hc
 have ay:=wk (k:=k0) (by omega)
 unfold Yu at h;try dsimp only at h
 refine gw9 (rG rfl fun K j=>?_)
 refine A1.of (f:=Bd) (l:=l) ao ?_
 refine nS ?_
 refine j (sq (rG rfl fun K j=>?_))
 refine gF' h ?_ ?_<;>intro hc h
 ·refine j (ct rfl (Cd rfl ?_))
  cases x0 h aa ae;exact en Tryz.results88
 refine gF' h ?_ ?_<;>intro hc h
 ·refine j (ct rfl (Cd rfl ?_))
  cases x0 h aa ae;exact en Tryz.results88
 refine gF' h ?_ ?_<;>intro hc h
 ·refine j (ct rfl (Cd rfl ?_))
  cases x0 h aa ae;exact en Tryz.results88
 refine gF' h ?_ ?_<;>intro hc h
 ·refine j (ct rfl (Cd rfl ?_))
  cases x0 h aa ae;exact en Tryz.results88
 refine gF' h ?_ ?_<;>intro hc h
 ·refine j (ct rfl (Cd rfl ?_))
  cases x0 h aa ae;exact en Tryz.results88
 refine j (cA h rfl ?_ ?_)<;>intro hc h
 ·refine Cd rfl ?_
  cases x0 h aa ae;exact en Tryz.results88
 refine gw6 (dR Tryz.mixed fun K j=>?_)
 refine nS ?_
 refine gT h ?_ ?_<;>intro hc h
 ·obtain⟨ak,cd,h⟩:=Ae h
  refine A1.of (f:=Bd) (l:=l) cd ?_
  refine nS ?_
  refine j _ _ _ (by kernel_rfl) (qn (cA h rfl ?_ ?_))<;>intro hc h
  ·refine Cs rfl ?_
   cases x0 h aa ae;exact en Tryz.results88
  refine gw5 rfl ?_
  refine lE ag aa h () ?_ ?_<;>exact cuw ay
 refine j _ _ _ (by kernel_rfl) (qn (cf rfl (gw5 rfl ?_)))
 refine lE ag aa h () ?_ ?_<;>exact cuw ay
def Xy (l:List Int) (most:Int) (k0:Nat) (ab:Int) (sv:Unit):Option (Out (Unit) (Bool)):=
 (bif (decide (ab<1))then some (Out.ret false)else (bif (decide (most<ab))then some (Out.ret false)else (bif (decide (0<((k0:Nat):Int)))then (Da l (IntKind.i64.wrap (((k0:Nat):Int) - 1))).bind fun ak=>(bif (decide (ab≤ak))then some (Out.ret false)else some (Out.next ()))else some (Out.next ()))))
def O0 (l:List Int) (most:Int):Option (Bool):=
 (Al (Xy l most) 0 l ()).bind fun o0=>o0.on fun s0=>some true
theorem Uw (l:List Int) (most:Int) {r:Bool} (h:O0 l most=some r):Ad Tryz.prog 185 [.sl 1 (l.map An),.int .i64 most] (·= .bool r):=by
 refine Ad.nle (Ad.intro Tryz.func185 rfl rfl (by show _≤41;simp) ?_)
 unfold O0 at h
 refine nS (sq ?_)
 refine B5 rfl ?_
 refine gw3 rfl (bk ?_)
 obtain⟨o0,aa,ae⟩:=Ae h
 clear h
 refine AWP.Bh aa () (fun zz=>[(0,.sl 1 (l.map An)),(1,.int .i64 most),(5,.int .i64 ((zz.1:Nat):Int))]) (fun zz=>[]) ?_
 rintro k0 ⟨⟩ ⟨⟩ bb aa
 dsimp only
 refine sq (rG rfl fun K j=>?_)
 intro hm
 refine j (cD rfl ?_ ?_)<;>intro hc
 ·obtain rfl:=fnD aa hc
  have h:=Ao ae;try dsimp only at h
  have af:=leD bb hc
  subst af
  refine Cr rfl ?_
  cases h;exact en Tryz.results185
 obtain⟨ab,b0,ag,bh,ao,h,aa⟩:=fcD aa hc
 have ay:=wk (k:=k0) (by omega)
 unfold Xy at h;try dsimp only at h
 refine gw9 (sq (dR Tryz.mixed fun K j=>?_))
 refine nS ?_
 refine A1.of (f:=An) (l:=l) ao ?_
 refine nS ?_
 refine gF' h ?_ ?_<;>intro hc h
 ·refine j _ _ _ (by kernel_rfl) (qn (ct rfl (Cs rfl ?_)))
  cases x0 h aa ae;exact en Tryz.results185
 refine A1.of (f:=An) (l:=l) ao ?_
 refine nS ?_
 refine gF' h ?_ ?_<;>intro hc h
 ·refine j _ _ _ (by kernel_rfl) (qn (ct rfl (Cs rfl ?_)))
  cases x0 h aa ae;exact en Tryz.results185
 refine gT h ?_ ?_<;>intro hc h
 ·refine A1.of (f:=An) (l:=l) ao ?_
  refine nS ?_
  obtain⟨ak,cd,h⟩:=Ae h
  refine A1.of (f:=An) (l:=l) cd ?_
  refine nS ?_
  refine j _ _ _ (by kernel_rfl) (qn (cA h rfl ?_ ?_))<;>intro hc h
  ·refine Cs rfl ?_
   cases x0 h aa ae;exact en Tryz.results185
  refine gw5 rfl ?_
  refine lE ag aa h () ?_ ?_<;>exact cuw ay
 refine j _ _ _ (by kernel_rfl) (qn (cf rfl (gw5 rfl ?_)))
 refine lE ag aa h () ?_ ?_<;>exact cuw ay
def Ga (l:List Aw) (ab:Aw) (k2:Nat) (_x:Unit) (sv:Unit):Option (Out (Unit) (Out (Unit) (Int))):=
 (Da l ((k2:Nat):Int)).bind fun aw=>(bif (decide (aw.ID=ab.ID))then some (Out.ret (Out.ret 7))else some (Out.next ()))
def Ks (l:List Aw) (k0:Nat) (ab:Aw) (sv:Unit):Option (Out (Unit) (Int)):=
 (bif (decide (ab.ID<1))then some (Out.ret 2)else (bif (decide (9999<ab.ID))then some (Out.ret 2)else (bif (decide (ab.Limit<4))then some (Out.ret 2)else (bif (decide (100000<ab.Limit))then some (Out.ret 2)else (bif (decide (ab.Load<0))then some (Out.ret 2)else (bif (decide (100000<ab.Load))then some (Out.ret 2)else (bif (decide (ab.Controlled<(-1)))then some (Out.ret 2)else (bif (decide (20000000<ab.Controlled))then some (Out.ret 2)else (J8 (Ga l ab) k0 ()).bind fun o2=>o2.on fun s2=>(bif (decide (((ab.Zones.length:Nat):Int)=0))then some (Out.ret 1)else (O0 ab.Zones 32).bind fun y5=>(bif (!y5)then some (Out.ret 1)else (O0 ab.Lifts 9999).bind fun y6=>(bif (!y6)then some (Out.ret 1)else some (Out.next ()))))))))))))
def N5 (l:List Aw):Option (Int):=
 (bif (decide (32<((l.length:Nat):Int)))then some 4 else(Al (Ks l) 0 l ()).bind fun o0=>o0.on fun s0=>some 0)
theorem gC (l:List Aw) {r:Int} (h:N5 l=some r):Ad Tryz.prog 89 [.sl 6 (l.map Az)] (·= .int .i64 r):=by
 refine Ad.nle (Ad.intro Tryz.func89 rfl rfl (by show _≤86;simp) ?_)
 unfold N5 at h
 refine nS (sq ?_)
 refine B5 rfl ?_
 refine rg rfl fun K j=>?_
 intro hm
 refine j _ _ (qn (cA h rfl ?_ ?_))<;>intro hc h
 ·refine gw8 rfl ?_
  cases h;exact en Tryz.results89
 refine gw6 (B8 rfl (bk ?_))
 obtain⟨o0,aa,ae⟩:=Ae h
 clear h
 refine AWP.Bh aa () (fun zz=>[(0,.sl 6 (l.map Az)),(3,.int .i64 ((zz.1:Nat):Int))]) (fun zz=>[]) ?_
 rintro k0 ⟨⟩ ⟨⟩ bb aa
 dsimp only
 refine sq (rG rfl fun K j=>?_)
 intro hm
 refine j (cD rfl ?_ ?_)<;>intro hc
 ·obtain rfl:=fnD aa hc
  have h:=Ao ae;try dsimp only at h
  have af:=leD bb hc
  subst af
  refine Cr rfl ?_
  cases h;exact en Tryz.results89
 obtain⟨ab,b0,ag,bh,ao,h,aa⟩:=fcD aa hc
 have ay:=wk (k:=k0) (by omega)
 unfold Ks at h;try dsimp only at h
 refine gw9 (rG rfl fun K j=>?_)
 refine A1.of (f:=Az) (l:=l) ao ?_
 refine nS ?_
 refine j (sq (rG rfl fun K j=>?_))
 refine gF' h ?_ ?_<;>intro hc h
 ·refine j (ct rfl (Cd rfl ?_))
  cases x0 h aa ae;exact en Tryz.results89
 refine gF' h ?_ ?_<;>intro hc h
 ·refine j (ct rfl (Cd rfl ?_))
  cases x0 h aa ae;exact en Tryz.results89
 refine gF' h ?_ ?_<;>intro hc h
 ·refine j (ct rfl (Cd rfl ?_))
  cases x0 h aa ae;exact en Tryz.results89
 refine gF' h ?_ ?_<;>intro hc h
 ·refine j (ct rfl (Cd rfl ?_))
  cases x0 h aa ae;exact en Tryz.results89
 refine gF' h ?_ ?_<;>intro hc h
 ·refine j (ct rfl (Cd rfl ?_))
  cases x0 h aa ae;exact en Tryz.results89
 refine gF' h ?_ ?_<;>intro hc h
 ·refine j (ct rfl (Cd rfl ?_))
  cases x0 h aa ae;exact en Tryz.results89
 refine gF' h ?_ ?_<;>intro hc h
 ·refine j (ct rfl (Cd rfl ?_))
  cases x0 h aa ae;exact en Tryz.results89
 refine j (cA h rfl ?_ ?_)<;>intro hc h
 ·refine Cd rfl ?_
  cases x0 h aa ae;exact en Tryz.results89
 refine gw6 (B8 rfl (bk ?_))
 obtain⟨o2,aj,dn⟩:=Ae h
 clear h
 obtain⟨vh,aj⟩:=Ng aj
 refine AWP.Ma (ι:=Nat×(Unit)×(Unit)) (fun zz=>[(0,.sl 6 (l.map Az)),(3,.int .i64 ((k0:Nat):Int)),(4,.ptr 0 0),(5,.int .i64 ((zz.1:Nat):Int))]) (fun zz=>[.box (Az ab)]) (fun zz=>zz.1≤k0∧Al (Ga l ab) zz.1 ((List.replicate k0 ()).drop zz.1) zz.2.1=some o2) (fun zz=>k0 - zz.1) (0,(),()) ⟨Nat.zero_le _,aj⟩ cu cu (fun x=>⟨rfl,rfl,rfl⟩) ?_
 clear aj
 rintro⟨k2,⟨⟩,⟨⟩⟩ ⟨df,aj⟩
 dsimp only at df aj ⊢
 refine sq (B8 rfl ?_)
 refine cC rfl ?_ ?_<;>intro hc
 ·have az:k2<k0:=by have:=Aon hc;omega
  obtain⟨_,b2,_,h,aj⟩:=G6 aj (by rw[Aov];exact az)
  have cj:=wk (k:=k2) (by omega)
  unfold Ga at h;try dsimp only at h
  refine gw9 (sq (dR Tryz.mixed fun K j=>?_))
  refine nS ?_
  obtain⟨aw,fg,h⟩:=Ae h
  refine A1.of (f:=Az) (l:=l) fg ?_
  refine nS ?_
  refine j _ _ _ (by kernel_rfl) (qn (cA h rfl ?_ ?_))<;>intro hc h
  ·refine Cs rfl (gw2 ?_)
   cases x0 (x0 h aj dn) aa ae;exact en Tryz.results89
  refine gw5 rfl ?_
  obtain rfl:=Aa h
  refine⟨(k2+1,(),()),⟨by dsimp only;omega,Cj aj⟩,by dsimp only;omega,?_,?_⟩
  ·exact cuw cj
  exact cuw cj
 obtain rfl:=J5 aj (fun hl=>by rw[Aov]at hl;have:=Aom hc;omega)
 have h:=Ao dn;try dsimp only at h
 have af:k0=k2:=by have:=Aom hc;omega
 subst af
 refine gw4 (rG rfl fun K j=>?_)
 intro hm
 refine gF' h ?_ ?_<;>intro hc h
 ·refine j (ct rfl (Cs rfl ?_))
  cases x0 h aa ae;exact en Tryz.results89
 obtain⟨y5,cw,h⟩:=Ae h
 refine Ah.pure Tryz.call185 (Uw ab.Zones 32 cw) rfl fun _ hr=>?_
 subst hr
 refine nS ?_
 refine gF h ?_ ?_<;>intro hc h
 ·obtain⟨y6,ec,h⟩:=Ae h
  refine Ah.pure Tryz.call185 (Uw ab.Lifts 9999 ec) rfl fun _ hr=>?_
  subst hr
  refine nS ?_
  refine j (cA h rfl ?_ ?_)<;>intro hc h
  ·refine Cs rfl ?_
   cases x0 h aa ae;exact en Tryz.results89
  refine gw5 rfl ?_
  refine lE ag aa h () ?_ ?_<;>exact cuw ay
 refine j (ct rfl (Cs rfl ?_))
 cases x0 h aa ae;exact en Tryz.results89
def Kt (l:List Int) (k0:Nat) (ab:Int) (sv:Unit):Option (Out (Unit) (Bool)):=
 (bif (decide (ab<1))then some (Out.ret false)else (bif (decide (32<ab))then some (Out.ret false)else (bif (decide (0<((k0:Nat):Int)))then (Da l (IntKind.i64.wrap (((k0:Nat):Int) - 1))).bind fun ak=>(bif (decide (ab≤ak))then some (Out.ret false)else some (Out.next ()))else some (Out.next ()))))
def Ku (l:List Int):Option (Bool):=
 (Al (Kt l) 0 l ()).bind fun o0=>o0.on fun s0=>some (decide (0<((l.length:Nat):Int)))
theorem gG (l:List Int) {r:Bool} (h:Ku l=some r):Ad Tryz.prog 186 [.sl 1 (l.map An)] (·= .bool r):=by
 refine Ad.nle (Ad.intro Tryz.func186 rfl rfl (by show _≤41;simp) ?_)
 unfold Ku at h
 refine nS (sq ?_)
 refine B5 rfl ?_
 refine gw3 rfl (bk ?_)
 obtain⟨o0,aa,ae⟩:=Ae h
 clear h
 refine AWP.Bh aa () (fun zz=>[(0,.sl 1 (l.map An)),(3,.int .i64 ((zz.1:Nat):Int))]) (fun zz=>[]) ?_
 rintro k0 ⟨⟩ ⟨⟩ bb aa
 dsimp only
 refine sq (rG rfl fun K j=>?_)
 intro hm
 refine j (cD rfl ?_ ?_)<;>intro hc
 ·obtain rfl:=fnD aa hc
  have h:=Ao ae;try dsimp only at h
  have af:=leD bb hc
  subst af
  refine gw4 (rG rfl fun K j=>?_)
  intro hm
  refine j (rt ?_)
  cases h;exact en Tryz.results186
 obtain⟨ab,b0,ag,bh,ao,h,aa⟩:=fcD aa hc
 have ay:=wk (k:=k0) (by omega)
 unfold Kt at h;try dsimp only at h
 refine gw9 (sq (dR Tryz.mixed fun K j=>?_))
 refine nS ?_
 refine A1.of (f:=An) (l:=l) ao ?_
 refine nS ?_
 refine gF' h ?_ ?_<;>intro hc h
 ·refine j _ _ _ (by kernel_rfl) (qn (ct rfl (Cs rfl ?_)))
  cases x0 h aa ae;exact en Tryz.results186
 refine A1.of (f:=An) (l:=l) ao ?_
 refine nS ?_
 refine gF' h ?_ ?_<;>intro hc h
 ·refine j _ _ _ (by kernel_rfl) (qn (ct rfl (Cs rfl ?_)))
  cases x0 h aa ae;exact en Tryz.results186
 refine gT h ?_ ?_<;>intro hc h
 ·refine A1.of (f:=An) (l:=l) ao ?_
  refine nS ?_
  obtain⟨ak,cd,h⟩:=Ae h
  refine A1.of (f:=An) (l:=l) cd ?_
  refine nS ?_
  refine j _ _ _ (by kernel_rfl) (qn (cA h rfl ?_ ?_))<;>intro hc h
  ·refine Cs rfl ?_
   cases x0 h aa ae;exact en Tryz.results186
  refine gw5 rfl ?_
  refine lE ag aa h () ?_ ?_<;>exact cuw ay
 refine j _ _ _ (by kernel_rfl) (qn (cf rfl (gw5 rfl ?_)))
 refine lE ag aa h () ?_ ?_<;>exact cuw ay
def Gb (l:List A2) (k0:Nat) (ab:A2) (sv:Unit):Option (Out (Unit) (Int)):=
 (bif (decide (ab.Version<1))then some (Out.ret 2)else (bif (decide (1000000<ab.Version))then some (Out.ret 2)else (bif (decide (ab.Span.From<0))then some (Out.ret 2)else (bif (decide (ab.Span.To≤ab.Span.From))then some (Out.ret 2)else (bif (decide (20000000<ab.Span.To))then some (Out.ret 2)else (bif (decide (ab.Low<0))then some (Out.ret 2)else (bif (decide (ab.High≤ab.Low))then some (Out.ret 2)else (bif (decide (6000<ab.High))then some (Out.ret 2)else (bif (decide (ab.Level<1))then some (Out.ret 2)else (bif (decide (5<ab.Level))then some (Out.ret 2)else (Ku ab.Zones).bind fun y3=>(bif (!y3)then some (Out.ret 1)else (bif (decide (0<((k0:Nat):Int)))then (Da l (IntKind.i64.wrap (((k0:Nat):Int) - 1))).bind fun aw=>(bif (decide (ab.Version<aw.Version))then some (Out.ret 11)else some (Out.next ()))else some (Out.next ())))))))))))))
def Iu (l:List A2):Option (Int):=
 (bif (decide (64<((l.length:Nat):Int)))then some 4 else(Al (Gb l) 0 l ()).bind fun o0=>o0.on fun s0=>some 0)
theorem gH (l:List A2) {r:Int} (h:Iu l=some r):Ad Tryz.prog 90 [.sl 7 (l.map Ap)] (·= .int .i64 r):=by
 refine Ad.nle (Ad.intro Tryz.func90 rfl rfl (by show _≤91;simp) ?_)
 unfold Iu at h
 refine nS (sq ?_)
 refine B5 rfl ?_
 refine rg rfl fun K j=>?_
 intro hm
 refine j _ _ (qn (cA h rfl ?_ ?_))<;>intro hc h
 ·refine gw8 rfl ?_
  cases h;exact en Tryz.results90
 refine gw6 (B8 rfl (bk ?_))
 obtain⟨o0,aa,ae⟩:=Ae h
 clear h
 refine AWP.Bh aa () (fun zz=>[(0,.sl 7 (l.map Ap)),(3,.int .i64 ((zz.1:Nat):Int))]) (fun zz=>[]) ?_
 rintro k0 ⟨⟩ ⟨⟩ bb aa
 dsimp only
 refine sq (rG rfl fun K j=>?_)
 intro hm
 refine j (cD rfl ?_ ?_)<;>intro hc
 ·obtain rfl:=fnD aa hc
  have h:=Ao ae;try dsimp only at h
  have af:=leD bb hc
  subst af
  refine Cr rfl ?_
  cases h;exact en Tryz.results90
 obtain⟨ab,b0,ag,bh,ao,h,aa⟩:=fcD aa hc
 have ay:=wk (k:=k0) (by omega)
 unfold Gb at h;try dsimp only at h
 refine gw9 (rG rfl fun K j=>?_)
 refine A1.of (f:=Ap) (l:=l) ao ?_
 refine nS ?_
 refine j (sq (rG rfl fun K j=>?_))
 refine gF' h ?_ ?_<;>intro hc h
 ·refine j (ct rfl (Cd rfl ?_))
  cases x0 h aa ae;exact en Tryz.results90
 refine gF' h ?_ ?_<;>intro hc h
 ·refine j (ct rfl (Cd rfl ?_))
  cases x0 h aa ae;exact en Tryz.results90
 refine gF' h ?_ ?_<;>intro hc h
 ·refine j (ct rfl (Cd rfl ?_))
  cases x0 h aa ae;exact en Tryz.results90
 refine gF' h ?_ ?_<;>intro hc h
 ·refine j (ct rfl (Cd rfl ?_))
  cases x0 h aa ae;exact en Tryz.results90
 refine gF' h ?_ ?_<;>intro hc h
 ·refine j (ct rfl (Cd rfl ?_))
  cases x0 h aa ae;exact en Tryz.results90
 refine gF' h ?_ ?_<;>intro hc h
 ·refine j (ct rfl (Cd rfl ?_))
  cases x0 h aa ae;exact en Tryz.results90
 refine gF' h ?_ ?_<;>intro hc h
 ·refine j (ct rfl (Cd rfl ?_))
  cases x0 h aa ae;exact en Tryz.results90
 refine gF' h ?_ ?_<;>intro hc h
 ·refine j (ct rfl (Cd rfl ?_))
  cases x0 h aa ae;exact en Tryz.results90
 refine gF' h ?_ ?_<;>intro hc h
 ·refine j (ct rfl (Cd rfl ?_))
  cases x0 h aa ae;exact en Tryz.results90
 refine j (cA h rfl ?_ ?_)<;>intro hc h
 ·refine Cd rfl ?_
  cases x0 h aa ae;exact en Tryz.results90
 refine gw6 (rG rfl fun K j=>?_)
 obtain⟨y3,bu,h⟩:=Ae h
 refine Ah.pure Tryz.call186 (gG ab.Zones bu) rfl fun _ hr=>?_
 subst hr
 refine nS ?_
 refine j (cA h rfl ?_ ?_)<;>intro hc h
 ·refine Cd rfl ?_
  cases x0 h aa ae;exact en Tryz.results90
 refine gw6 (dR Tryz.mixed fun K j=>?_)
 refine nS ?_
 refine gT h ?_ ?_<;>intro hc h
 ·obtain⟨aw,fg,h⟩:=Ae h
  refine A1.of (f:=Ap) (l:=l) fg ?_
  refine nS ?_
  refine j _ _ _ (by kernel_rfl) (qn (cA h rfl ?_ ?_))<;>intro hc h
  ·refine Cs rfl ?_
   cases x0 h aa ae;exact en Tryz.results90
  refine gw5 rfl ?_
  refine lE ag aa h () ?_ ?_<;>exact cuw ay
 refine j _ _ _ (by kernel_rfl) (qn (cf rfl (gw5 rfl ?_)))
 refine lE ag aa h () ?_ ?_<;>exact cuw ay
def M4 (n_:Int) (lo:Int) (hi:Int):Option (Bool):=
 (bif (decide (lo≤n_))then some (decide (n_≤hi))else some false)
theorem Jt (n_:Int) (lo:Int) (hi:Int) {r:Bool} (h:M4 n_ lo hi=some r):Ad Tryz.prog 187 [.int .i64 n_,.int .i64 lo,.int .i64 hi] (·= .bool r):=by
 refine Ad.nle (Ad.intro Tryz.func187 rfl rfl (by show _≤15;simp) ?_)
 unfold M4 at h
 refine nS (sq ?_)
 refine gw7 rfl ?_
 refine rg rfl fun K j=>?_
 refine gT h ?_ ?_<;>intro hc h
 ·refine j _ _ (Cu ?_)
  cases h;exact en Tryz.results187
 refine j _ _ (Cu ?_)
 cases h;exact en Tryz.results187
def Tt (id_:Int) (k0:Nat) (ab:A5) (sv:Unit):Option (Out (Unit) (Int)):=
 (bif (decide (ab.ID=id_))then some (Out.ret ((k0:Nat):Int))else some (Out.next ()))
def N3 (l:List A5) (id_:Int):Option (Int):=
 (Al (Tt id_) 0 l ()).bind fun o0=>o0.on fun s0=>some (-1)
theorem fZ (l:List A5) (id_:Int) {r:Int} (h:N3 l id_=some r):Ad Tryz.prog 188 [.sl 7 (l.map Aq),.int .i64 id_] (·= .int .i64 r):=by
 refine Ad.nle (Ad.intro Tryz.func188 rfl rfl (by show _≤20;simp) ?_)
 unfold N3 at h
 refine nS (sq ?_)
 refine B5 rfl ?_
 refine gw3 rfl (bk ?_)
 obtain⟨o0,aa,ae⟩:=Ae h
 clear h
 refine AWP.Bh aa () (fun zz=>[(0,.sl 7 (l.map Aq)),(1,.int .i64 id_),(5,.int .i64 ((zz.1:Nat):Int))]) (fun zz=>[]) ?_
 rintro k0 ⟨⟩ ⟨⟩ bb aa
 dsimp only
 refine sq (rG rfl fun K j=>?_)
 intro hm
 refine j (cD rfl ?_ ?_)<;>intro hc
 ·obtain rfl:=fnD aa hc
  have h:=Ao ae;try dsimp only at h
  have af:=leD bb hc
  subst af
  refine Cr rfl ?_
  cases h;exact en Tryz.results188
 obtain⟨ab,b0,ag,bh,ao,h,aa⟩:=fcD aa hc
 have ay:=wk (k:=k0) (by omega)
 unfold Tt at h;try dsimp only at h
 refine gw9 (rG rfl fun K j=>?_)
 refine A1.of (f:=Aq) (l:=l) ao ?_
 refine nS ?_
 refine j (cA h rfl ?_ ?_)<;>intro hc h
 ·refine Cs rfl ?_
  cases x0 h aa ae;exact en Tryz.results188
 refine gw5 rfl ?_
 refine lE ag aa h () ?_ ?_<;>exact cuw ay
def No (m:A5):Option (Bool):=
 (M4 m.State 0 4).bind fun y1=>some y1
theorem R9 (m:A5) {r:Bool} (h:No m=some r):Ad Tryz.prog 189 [.agg (Aq m)] (·= .bool r):=by
 refine Ad.nle (Ad.intro Tryz.func189 rfl rfl (by show _≤6;simp) ?_)
 unfold No at h
 refine nS (sq ?_)
 refine gw7 rfl ?_
 refine rg rfl fun K j=>?_
 obtain⟨y1,bp,h⟩:=Ae h
 refine Ah.pure Tryz.call187 (Jt m.State 0 4 bp) rfl fun _ hr=>?_
 subst hr
 refine nS ?_
 refine j _ _ (Cu ?_)
 cases h;exact en Tryz.results189
def Ts (slide:Int) (k0:Nat) (ab:A5) (sv:Unit):Option (Out (Unit) (Bool)):=
 (No ab).bind fun y3=>(bif y3 then(bif (decide (ab.Slide=slide))then some (Out.ret true)else some (Out.next ()))else some (Out.next ()))
def Rk (l:List A5) (slide:Int):Option (Bool):=
 (Al (Ts slide) 0 l ()).bind fun o0=>o0.on fun s0=>some false
theorem fY (l:List A5) (slide:Int) {r:Bool} (h:Rk l slide=some r):Ad Tryz.prog 190 [.sl 7 (l.map Aq),.int .i64 slide] (·= .bool r):=by
 refine Ad.nle (Ad.intro Tryz.func190 rfl rfl (by show _≤26;simp) ?_)
 unfold Rk at h
 refine nS (sq ?_)
 refine B5 rfl ?_
 refine gw3 rfl (bk ?_)
 obtain⟨o0,aa,ae⟩:=Ae h
 clear h
 refine AWP.Bh aa () (fun zz=>[(0,.sl 7 (l.map Aq)),(1,.int .i64 slide),(5,.int .i64 ((zz.1:Nat):Int))]) (fun zz=>[]) ?_
 rintro k0 ⟨⟩ ⟨⟩ bb aa
 dsimp only
 refine sq (rG rfl fun K j=>?_)
 intro hm
 refine j (cD rfl ?_ ?_)<;>intro hc
 ·obtain rfl:=fnD aa hc
  have h:=Ao ae;try dsimp only at h
  have af:=leD bb hc
  subst af
  refine Cr rfl ?_
  cases h;exact en Tryz.results190
 obtain⟨ab,b0,ag,bh,ao,h,aa⟩:=fcD aa hc
 have ay:=wk (k:=k0) (by omega)
 unfold Ts at h;try dsimp only at h
 refine gw9 (rG rfl fun K j=>?_)
 refine A1.of (f:=Aq) (l:=l) ao ?_
 refine nS ?_
 obtain⟨y3,bu,h⟩:=Ae h
 refine Ah.pure Tryz.call189 (R9 ab bu) rfl fun _ hr=>?_
 subst hr
 refine nS ?_
 refine gT h ?_ ?_<;>intro hc h
 ·refine A1.of (f:=Aq) (l:=l) ao ?_
  refine nS ?_
  refine j (cA h rfl ?_ ?_)<;>intro hc h
  ·refine Cs rfl ?_
   cases x0 h aa ae;exact en Tryz.results190
  refine gw5 rfl ?_
  refine lE ag aa h () ?_ ?_<;>exact cuw ay
 refine j (cf rfl (gw5 rfl ?_))
 refine lE ag aa h () ?_ ?_<;>exact cuw ay
def Ko (l:List A5) (k0:Nat) (ab:A5) (sv:Unit):Option (Out (Unit) (Int)):=
 (M4 ab.ID 1 9999).bind fun y3=>(bif (!y3)then some (Out.ret 2)else (M4 ab.Slide 1 9999).bind fun y4=>(bif (!y4)then some (Out.ret 2)else (M4 ab.By 1 9999).bind fun y5=>(bif (!y5)then some (Out.ret 2)else (M4 ab.State 0 6).bind fun y6=>(bif (!y6)then some (Out.ret 2)else (M4 ab.Since 0 20000000).bind fun y7=>(bif (!y7)then some (Out.ret 2)else (bif (decide (ab.Window.From<0))then some (Out.ret 2)else (bif (decide (ab.Window.To≤ab.Window.From))then some (Out.ret 2)else (bif (decide (20000000<ab.Window.To))then some (Out.ret 2)else okB (decide (0≤((k0:Nat):Int)∧((k0:Nat):Int)≤((l.length:Nat):Int))) ((N3 (l.take k0) ab.ID).bind fun y8=>(bif (decide (0≤y8))then some (Out.ret 7)else (No ab).bind fun y9=>(bif y9 then okB (decide (0≤((k0:Nat):Int)∧((k0:Nat):Int)≤((l.length:Nat):Int))) ((Rk (l.take k0) ab.Slide).bind fun cr=>(bif cr then some (Out.ret 15)else some (Out.next ())))else some (Out.next ()))))))))))))
def It (l:List A5):Option (Int):=
 (bif (decide (64<((l.length:Nat):Int)))then some 4 else(Al (Ko l) 0 l ()).bind fun o0=>o0.on fun s0=>some 0)
theorem gA (l:List A5) {r:Int} (h:It l=some r):Ad Tryz.prog 91 [.sl 7 (l.map Aq)] (·= .int .i64 r):=by
 refine Ad.nle (Ad.intro Tryz.func91 rfl rfl (by show _≤86;simp) ?_)
 unfold It at h
 refine nS (sq ?_)
 refine B5 rfl ?_
 refine rg rfl fun K j=>?_
 intro hm
 refine j _ _ (qn (cA h rfl ?_ ?_))<;>intro hc h
 ·refine gw8 rfl ?_
  cases h;exact en Tryz.results91
 refine gw6 (B8 rfl (bk ?_))
 obtain⟨o0,aa,ae⟩:=Ae h
 clear h
 refine AWP.Bh aa () (fun zz=>[(0,.sl 7 (l.map Aq)),(3,.int .i64 ((zz.1:Nat):Int))]) (fun zz=>[]) ?_
 rintro k0 ⟨⟩ ⟨⟩ bb aa
 dsimp only
 refine sq (rG rfl fun K j=>?_)
 intro hm
 refine j (cD rfl ?_ ?_)<;>intro hc
 ·obtain rfl:=fnD aa hc
  have h:=Ao ae;try dsimp only at h
  have af:=leD bb hc
  subst af
  refine Cr rfl ?_
  cases h;exact en Tryz.results91
 obtain⟨ab,b0,ag,bh,ao,h,aa⟩:=fcD aa hc
 have ay:=wk (k:=k0) (by omega)
 unfold Ko at h;try dsimp only at h
 refine gw9 (rG rfl fun K j=>?_)
 refine A1.of (f:=Aq) (l:=l) ao ?_
 refine nS ?_
 refine j (B8 rfl (bk (sq ?_)))
 refine rg rfl fun K j=>?_
 obtain⟨y3,bu,h⟩:=Ae h
 refine Ah.pure Tryz.call187 (Jt ab.ID 1 9999 bu) rfl fun _ hr=>?_
 subst hr
 refine nS ?_
 refine gF' h ?_ ?_<;>intro hc h
 ·refine j _ _ (qn (ct rfl (gw1 rfl (br (gw2 ?_)))))
  cases x0 h aa ae;exact en Tryz.results91
 obtain⟨y4,ch,h⟩:=Ae h
 refine Ah.pure Tryz.call187 (Jt ab.Slide 1 9999 ch) rfl fun _ hr=>?_
 subst hr
 refine nS ?_
 refine gF' h ?_ ?_<;>intro hc h
 ·refine j _ _ (qn (ct rfl (gw1 rfl (br (gw2 ?_)))))
  cases x0 h aa ae;exact en Tryz.results91
 obtain⟨y5,cw,h⟩:=Ae h
 refine Ah.pure Tryz.call187 (Jt ab.By 1 9999 cw) rfl fun _ hr=>?_
 subst hr
 refine nS ?_
 refine gF' h ?_ ?_<;>intro hc h
 ·refine j _ _ (qn (ct rfl (gw1 rfl (br (gw2 ?_)))))
  cases x0 h aa ae;exact en Tryz.results91
 obtain⟨y6,ec,h⟩:=Ae h
 refine Ah.pure Tryz.call187 (Jt ab.State 0 6 ec) rfl fun _ hr=>?_
 subst hr
 refine nS ?_
 refine gF' h ?_ ?_<;>intro hc h
 ·refine j _ _ (qn (ct rfl (gw1 rfl (br (gw2 ?_)))))
  cases x0 h aa ae;exact en Tryz.results91
 obtain⟨y7,eg,h⟩:=Ae h
 refine Ah.pure Tryz.call187 (Jt ab.Since 0 20000000 eg) rfl fun _ hr=>?_
 subst hr
 refine nS ?_
 refine gF' h ?_ ?_<;>intro hc h
 ·refine j _ _ (qn (ct rfl (gw1 rfl (br (gw2 ?_)))))
  cases x0 h aa ae;exact en Tryz.results91
 refine gF' h ?_ ?_<;>intro hc h
 ·refine j _ _ (qn (ct rfl (gw1 rfl (br (gw2 ?_)))))
  cases x0 h aa ae;exact en Tryz.results91
 refine gF' h ?_ ?_<;>intro hc h
 ·refine j _ _ (qn (ct rfl (gw1 rfl (br (gw2 ?_)))))
  cases x0 h aa ae;exact en Tryz.results91
 refine j _ _ (qn (cA h rfl ?_ ?_))<;>intro hc h
 ·refine gw1 rfl (br (gw2 ?_))
  cases x0 h aa ae;exact en Tryz.results91
 refine sq (dR Tryz.mixed fun K j=>?_)
 refine nS ?_
 obtain⟨hk,h⟩:=Fv h
 intro hm
 (repeat(refine⟨by omega,?_⟩))
 obtain⟨y8,ej,h⟩:=Ae h
 refine Br.pure Tryz.call188 (fZ (l.take k0) ab.ID ej) rfl ?_
 refine nS ?_
 refine j _ _ _ (by kernel_rfl) (qn (cA h rfl ?_ ?_))<;>intro hc h
 ·refine gw1 rfl (br (gw2 ?_))
  cases x0 h aa ae;exact en Tryz.results91
 refine sq (dR Tryz.mixed fun K j=>?_)
 refine nS ?_
 obtain⟨y9,fu,h⟩:=Ae h
 refine Br.pure Tryz.call189 (R9 ab fu) rfl ?_
 refine nS ?_
 refine gT h ?_ ?_<;>intro hc h
 ·obtain⟨hk,h⟩:=Fv h
  intro hm
  (repeat(refine⟨by omega,?_⟩))
  obtain⟨cr,dq,h⟩:=Ae h
  refine Br.pure Tryz.call190 (fY (l.take k0) ab.Slide dq) rfl ?_
  refine nS ?_
  refine j _ _ _ (by kernel_rfl) (qn (cA h rfl ?_ ?_))<;>intro hc h
  ·refine gw1 rfl (br (gw2 ?_))
   cases x0 h aa ae;exact en Tryz.results91
  refine sk (bn (Eo rfl ?_))
  refine lE ag aa h () ?_ ?_<;>exact cuw ay
 refine j _ _ _ (by kernel_rfl) (qn (cf rfl (sk (bn (Eo rfl ?_)))))
 refine lE ag aa h () ?_ ?_<;>exact cuw ay
def Q2 (l:List Int) (k0:Nat) (ab:Int) (sv:Unit):Option (Out (Unit) (Bool)):=
 (bif (decide (ab<1))then some (Out.ret false)else (bif (decide (9999<ab))then some (Out.ret false)else (bif (decide (0<((k0:Nat):Int)))then (Da l (IntKind.i64.wrap (((k0:Nat):Int) - 1))).bind fun ak=>(bif (decide (ab≤ak))then some (Out.ret false)else some (Out.next ()))else some (Out.next ()))))
def Qi (l:List Int):Option (Bool):=
 (Al (Q2 l) 0 l ()).bind fun o0=>o0.on fun s0=>some (decide (0<((l.length:Nat):Int)))
theorem kH (l:List Int) {r:Bool} (h:Qi l=some r):Ad Tryz.prog 191 [.sl 1 (l.map An)] (·= .bool r):=by
 refine Ad.nle (Ad.intro Tryz.func191 rfl rfl (by show _≤41;simp) ?_)
 unfold Qi at h
 refine nS (sq ?_)
 refine B5 rfl ?_
 refine gw3 rfl (bk ?_)
 obtain⟨o0,aa,ae⟩:=Ae h
 clear h
 refine AWP.Bh aa () (fun zz=>[(0,.sl 1 (l.map An)),(3,.int .i64 ((zz.1:Nat):Int))]) (fun zz=>[]) ?_
 rintro k0 ⟨⟩ ⟨⟩ bb aa
 dsimp only
 refine sq (rG rfl fun K j=>?_)
 intro hm
 refine j (cD rfl ?_ ?_)<;>intro hc
 ·obtain rfl:=fnD aa hc
  have h:=Ao ae;try dsimp only at h
  have af:=leD bb hc
  subst af
  refine gw4 (rG rfl fun K j=>?_)
  intro hm
  refine j (rt ?_)
  cases h;exact en Tryz.results191
 obtain⟨ab,b0,ag,bh,ao,h,aa⟩:=fcD aa hc
 have ay:=wk (k:=k0) (by omega)
 unfold Q2 at h;try dsimp only at h
 refine gw9 (sq (dR Tryz.mixed fun K j=>?_))
 refine nS ?_
 refine A1.of (f:=An) (l:=l) ao ?_
 refine nS ?_
 refine gF' h ?_ ?_<;>intro hc h
 ·refine j _ _ _ (by kernel_rfl) (qn (ct rfl (Cs rfl ?_)))
  cases x0 h aa ae;exact en Tryz.results191
 refine A1.of (f:=An) (l:=l) ao ?_
 refine nS ?_
 refine gF' h ?_ ?_<;>intro hc h
 ·refine j _ _ _ (by kernel_rfl) (qn (ct rfl (Cs rfl ?_)))
  cases x0 h aa ae;exact en Tryz.results191
 refine gT h ?_ ?_<;>intro hc h
 ·refine A1.of (f:=An) (l:=l) ao ?_
  refine nS ?_
  obtain⟨ak,cd,h⟩:=Ae h
  refine A1.of (f:=An) (l:=l) cd ?_
  refine nS ?_
  refine j _ _ _ (by kernel_rfl) (qn (cA h rfl ?_ ?_))<;>intro hc h
  ·refine Cs rfl ?_
   cases x0 h aa ae;exact en Tryz.results191
  refine gw5 rfl ?_
  refine lE ag aa h () ?_ ?_<;>exact cuw ay
 refine j _ _ _ (by kernel_rfl) (qn (cf rfl (gw5 rfl ?_)))
 refine lE ag aa h () ?_ ?_<;>exact cuw ay
def dX (n_:Int) (k0:Nat) (ab:Int) (sv:Unit):Option (Out (Unit) (Bool)):=
 (bif (decide (ab=n_))then some (Out.ret true)else some (Out.next ()))
def S9 (l:List Int) (n_:Int):Option (Bool):=
 (Al (dX n_) 0 l ()).bind fun o0=>o0.on fun s0=>some false
theorem Yv (l:List Int) (n_:Int) {r:Bool} (h:S9 l n_=some r):Ad Tryz.prog 217 [.sl 1 (l.map An),.int .i64 n_] (·= .bool r):=by
 refine Ad.nle (Ad.intro Tryz.func217 rfl rfl (by show _≤18;simp) ?_)
 unfold S9 at h
 refine nS (sq ?_)
 refine B5 rfl ?_
 refine gw3 rfl (bk ?_)
 obtain⟨o0,aa,ae⟩:=Ae h
 clear h
 refine AWP.Bh aa () (fun zz=>[(0,.sl 1 (l.map An)),(1,.int .i64 n_),(5,.int .i64 ((zz.1:Nat):Int))]) (fun zz=>[]) ?_
 rintro k0 ⟨⟩ ⟨⟩ bb aa
 dsimp only
 refine sq (rG rfl fun K j=>?_)
 intro hm
 refine j (cD rfl ?_ ?_)<;>intro hc
 ·obtain rfl:=fnD aa hc
  have h:=Ao ae;try dsimp only at h
  have af:=leD bb hc
  subst af
  refine Cr rfl ?_
  cases h;exact en Tryz.results217
 obtain⟨ab,b0,ag,bh,ao,h,aa⟩:=fcD aa hc
 have ay:=wk (k:=k0) (by omega)
 unfold dX at h;try dsimp only at h
 refine gw9 (rG rfl fun K j=>?_)
 refine A1.of (f:=An) (l:=l) ao ?_
 refine nS ?_
 refine j (cA h rfl ?_ ?_)<;>intro hc h
 ·refine Cs rfl ?_
  cases x0 h aa ae;exact en Tryz.results217
 refine gw5 rfl ?_
 refine lE ag aa h () ?_ ?_<;>exact cuw ay
def O2 (b:Am) (k0:Nat) (ab:Int) (sv:Unit):Option (Out (Unit) (Bool)):=
 (S9 b.Runs ab).bind fun y3=>(bif y3 then some (Out.ret true)else some (Out.next ()))
def Rn (a:Am) (b:Am):Option (Bool):=
 (bif (decide (b.To≤a.From))then some false else(bif (decide (a.To≤b.From))then some false else(Al (O2 b) 0 a.Runs ()).bind fun o0=>o0.on fun s0=>some (decide (a.Groomer=b.Groomer))))
theorem gK (a:Am) (b:Am) {r:Bool} (h:Rn a b=some r):Ad Tryz.prog 192 [.agg (Aj a),.agg (Aj b)] (·= .bool r):=by
 refine Ad.nle (Ad.intro Tryz.func192 rfl rfl (by show _≤38;simp) ?_)
 unfold Rn at h
 refine nS (sq ?_)
 refine B5 rfl ?_
 refine rg rfl fun K j=>?_
 refine gF' h ?_ ?_<;>intro hc h
 ·refine j _ _ (qn (ct rfl (gw8 rfl ?_)))
  cases h;exact en Tryz.results192
 refine j _ _ (qn (cA h rfl ?_ ?_))<;>intro hc h
 ·refine gw8 rfl ?_
  cases h;exact en Tryz.results192
 refine gw6 (B8 rfl (bk ?_))
 obtain⟨o0,aa,ae⟩:=Ae h
 clear h
 refine AWP.Bh aa () (fun zz=>[(2,.ptr 0 0),(3,.ptr 1 0),(5,.int .i64 ((zz.1:Nat):Int))]) (fun zz=>[.box (Aj a),.box (Aj b)]) ?_
 rintro k0 ⟨⟩ ⟨⟩ bb aa
 dsimp only
 refine sq (rG rfl fun K j=>?_)
 intro hm
 refine j (cD rfl ?_ ?_)<;>intro hc
 ·obtain rfl:=fnD aa hc
  have h:=Ao ae;try dsimp only at h
  have af:=leD bb hc
  subst af
  refine Cr rfl ?_
  cases h;exact en Tryz.results192
 obtain⟨ab,b0,ag,bh,ao,h,aa⟩:=fcD aa hc
 have ay:=wk (k:=k0) (by omega)
 unfold O2 at h;try dsimp only at h
 refine gw9 (sq (dR Tryz.mixed fun K j=>?_))
 refine nS ?_
 refine A1.of (f:=An) (l:=a.Runs) ao ?_
 refine nS ?_
 obtain⟨y3,bu,h⟩:=Ae h
 refine Br.pure Tryz.call217 (Yv b.Runs ab bu) rfl ?_
 refine nS ?_
 refine j _ _ _ (by kernel_rfl) (qn (cA h rfl ?_ ?_))<;>intro hc h
 ·refine Cs rfl ?_
  cases x0 h aa ae;exact en Tryz.results192
 refine gw5 rfl ?_
 refine lE ag aa h () ?_ ?_<;>exact cuw ay
def Ep (l:List Am) (ab:Am) (k3:Nat) (_x:Unit) (sv:Unit):Option (Out (Unit) (Out (Unit) (Int))):=
 (Da l ((k3:Nat):Int)).bind fun cm=>(Rn cm ab).bind fun y6=>(bif y6 then some (Out.ret (Out.ret 15))else some (Out.next ()))
def Gc (l:List Am) (k0:Nat) (ab:Am) (sv:Unit):Option (Out (Unit) (Int)):=
 (bif (decide (ab.Groomer<1))then some (Out.ret 2)else (bif (decide (9999<ab.Groomer))then some (Out.ret 2)else (bif (decide (ab.From<0))then some (Out.ret 2)else (bif (decide (ab.To≤ab.From))then some (Out.ret 2)else (bif (decide (20000000<ab.To))then some (Out.ret 2)else (Qi ab.Runs).bind fun y3=>(bif (!y3)then some (Out.ret 1)else (J8 (Ep l ab) k0 ()).bind fun o3=>o3.on fun s3=>some (Out.next ())))))))
def N7 (l:List Am):Option (Int):=
 (bif (decide (16<((l.length:Nat):Int)))then some 4 else(Al (Gc l) 0 l ()).bind fun o0=>o0.on fun s0=>some 0)
theorem gM (l:List Am) {r:Int} (h:N7 l=some r):Ad Tryz.prog 92 [.sl 4 (l.map Aj)] (·= .int .i64 r):=by
 refine Ad.nle (Ad.intro Tryz.func92 rfl rfl (by show _≤59;simp) ?_)
 unfold N7 at h
 refine nS (sq ?_)
 refine B5 rfl ?_
 refine rg rfl fun K j=>?_
 intro hm
 refine j _ _ (qn (cA h rfl ?_ ?_))<;>intro hc h
 ·refine gw8 rfl ?_
  cases h;exact en Tryz.results92
 refine gw6 (B8 rfl (bk ?_))
 obtain⟨o0,aa,ae⟩:=Ae h
 clear h
 refine AWP.Bh aa () (fun zz=>[(0,.sl 4 (l.map Aj)),(3,.int .i64 ((zz.1:Nat):Int))]) (fun zz=>[]) ?_
 rintro k0 ⟨⟩ ⟨⟩ bb aa
 dsimp only
 refine sq (rG rfl fun K j=>?_)
 intro hm
 refine j (cD rfl ?_ ?_)<;>intro hc
 ·obtain rfl:=fnD aa hc
  have h:=Ao ae;try dsimp only at h
  have af:=leD bb hc
  subst af
  refine Cr rfl ?_
  cases h;exact en Tryz.results92
 obtain⟨ab,b0,ag,bh,ao,h,aa⟩:=fcD aa hc
 have ay:=wk (k:=k0) (by omega)
 unfold Gc at h;try dsimp only at h
 refine gw9 (rG rfl fun K j=>?_)
 refine A1.of (f:=Aj) (l:=l) ao ?_
 refine nS ?_
 refine j (sq (rG rfl fun K j=>?_))
 refine gF' h ?_ ?_<;>intro hc h
 ·refine j (ct rfl (Cd rfl ?_))
  cases x0 h aa ae;exact en Tryz.results92
 refine gF' h ?_ ?_<;>intro hc h
 ·refine j (ct rfl (Cd rfl ?_))
  cases x0 h aa ae;exact en Tryz.results92
 refine gF' h ?_ ?_<;>intro hc h
 ·refine j (ct rfl (Cd rfl ?_))
  cases x0 h aa ae;exact en Tryz.results92
 refine gF' h ?_ ?_<;>intro hc h
 ·refine j (ct rfl (Cd rfl ?_))
  cases x0 h aa ae;exact en Tryz.results92
 refine j (cA h rfl ?_ ?_)<;>intro hc h
 ·refine Cd rfl ?_
  cases x0 h aa ae;exact en Tryz.results92
 refine gw6 (rG rfl fun K j=>?_)
 obtain⟨y3,bu,h⟩:=Ae h
 refine Ah.pure Tryz.call191 (kH ab.Runs bu) rfl fun _ hr=>?_
 subst hr
 refine nS ?_
 refine j (cA h rfl ?_ ?_)<;>intro hc h
 ·refine Cd rfl ?_
  cases x0 h aa ae;exact en Tryz.results92
 refine Co (B8 rfl (bk ?_))
 obtain⟨o3,bo,ew⟩:=Ae h
 clear h
 obtain⟨hn3,bo⟩:=Ng bo
 refine AWP.Ma (ι:=Nat×(Unit)×(Unit)) (fun zz=>[(0,.sl 4 (l.map Aj)),(3,.int .i64 ((k0:Nat):Int)),(4,.ptr 0 0),(5,.int .i64 ((zz.1:Nat):Int))]) (fun zz=>[.box (Aj ab)]) (fun zz=>zz.1≤k0∧Al (Ep l ab) zz.1 ((List.replicate k0 ()).drop zz.1) zz.2.1=some o3) (fun zz=>k0 - zz.1) (0,(),()) ⟨Nat.zero_le _,bo⟩ cu cu (fun x=>⟨rfl,rfl,rfl⟩) ?_
 clear bo
 rintro⟨k3,⟨⟩,⟨⟩⟩ ⟨jz,bo⟩
 dsimp only at jz bo ⊢
 refine sq (B8 rfl ?_)
 refine cD rfl ?_ ?_<;>intro hc
 ·obtain rfl:=J5 bo (fun hl=>by rw[Aov]at hl;have:=Aom hc;omega)
  have h:=Ao ew;try dsimp only at h
  have af:k0=k3:=by have:=Aom hc;omega
  subst af
  refine xt (qe (qe (bs (Eo rfl ?_))))
  refine lE ag aa h () ?_ ?_<;>exact cuw ay
 have da:k3<k0:=by have:=Aon hc;omega
 obtain⟨_,b3,_,h,bo⟩:=G6 bo (by rw[Aov];exact da)
 have gi:=wk (k:=k3) (by omega)
 unfold Ep at h;try dsimp only at h
 refine gw9 (sq (dR Tryz.mixed fun K j=>?_))
 refine nS ?_
 obtain⟨cm,iu,h⟩:=Ae h
 refine A1.of (f:=Aj) (l:=l) iu ?_
 refine nS ?_
 obtain⟨y6,ec,h⟩:=Ae h
 refine Br.pure Tryz.call192 (gK cm ab ec) rfl ?_
 refine nS ?_
 refine j _ _ _ (by kernel_rfl) (qn (cA h rfl ?_ ?_))<;>intro hc h
 ·refine gw1 rfl (br (qr (qr (br (gw2 ?_)))))
  cases x0 (x0 h bo ew) aa ae;exact en Tryz.results92
 refine gw5 rfl ?_
 obtain rfl:=Aa h
 refine⟨(k3+1,(),()),⟨by dsimp only;omega,Cj bo⟩,by dsimp only;omega,?_,?_⟩
 ·exact cuw gi
 exact cuw gi
def Kx (n_:Int) (lo:Int) (hi:Int):Option (Bool):=
 (bif (decide (lo≤n_))then some (decide (n_≤hi))else some false)
theorem Hg (n_:Int) (lo:Int) (hi:Int) {r:Bool} (h:Kx n_ lo hi=some r):Ad Tryz.prog 193 [.int .i64 n_,.int .i64 lo,.int .i64 hi] (·= .bool r):=by
 refine Ad.nle (Ad.intro Tryz.func193 rfl rfl (by show _≤15;simp) ?_)
 unfold Kx at h
 refine nS (sq ?_)
 refine gw7 rfl ?_
 refine rg rfl fun K j=>?_
 refine gT h ?_ ?_<;>intro hc h
 ·refine j _ _ (Cu ?_)
  cases h;exact en Tryz.results193
 refine j _ _ (Cu ?_)
 cases h;exact en Tryz.results193
def O5 (id_:Int) (k0:Nat) (ab:B3) (sv:Unit):Option (Out (Unit) (Int)):=
 (bif (decide (ab.ID=id_))then some (Out.ret ((k0:Nat):Int))else some (Out.next ()))
def Ro (l:List B3) (id_:Int):Option (Int):=
 (Al (O5 id_) 0 l ()).bind fun o0=>o0.on fun s0=>some (-1)
theorem gN (l:List B3) (id_:Int) {r:Int} (h:Ro l id_=some r):Ad Tryz.prog 194 [.sl 8 (l.map A7),.int .i64 id_] (·= .int .i64 r):=by
 refine Ad.nle (Ad.intro Tryz.func194 rfl rfl (by show _≤20;simp) ?_)
 unfold Ro at h
 refine nS (sq ?_)
 refine B5 rfl ?_
 refine gw3 rfl (bk ?_)
 obtain⟨o0,aa,ae⟩:=Ae h
 clear h
 refine AWP.Bh aa () (fun zz=>[(0,.sl 8 (l.map A7)),(1,.int .i64 id_),(5,.int .i64 ((zz.1:Nat):Int))]) (fun zz=>[]) ?_
 rintro k0 ⟨⟩ ⟨⟩ bb aa
 dsimp only
 refine sq (rG rfl fun K j=>?_)
 intro hm
 refine j (cD rfl ?_ ?_)<;>intro hc
 ·obtain rfl:=fnD aa hc
  have h:=Ao ae;try dsimp only at h
  have af:=leD bb hc
  subst af
  refine Cr rfl ?_
  cases h;exact en Tryz.results194
 obtain⟨ab,b0,ag,bh,ao,h,aa⟩:=fcD aa hc
 have ay:=wk (k:=k0) (by omega)
 unfold O5 at h;try dsimp only at h
 refine gw9 (rG rfl fun K j=>?_)
 refine A1.of (f:=A7) (l:=l) ao ?_
 refine nS ?_
 refine j (cA h rfl ?_ ?_)<;>intro hc h
 ·refine Cs rfl ?_
  cases x0 h aa ae;exact en Tryz.results194
 refine gw5 rfl ?_
 refine lE ag aa h () ?_ ?_<;>exact cuw ay
def O6 (l:List B3) (k0:Nat) (ab:B3) (sv:Unit):Option (Out (Unit) (Int)):=
 (Kx ab.ID 1 9999).bind fun y3=>(bif (!y3)then some (Out.ret 2)else (Kx ab.Node 1 9999).bind fun y4=>(bif (!y4)then some (Out.ret 2)else (Kx ab.Fuel 0 1000000).bind fun y5=>(bif (!y5)then some (Out.ret 2)else (Kx ab.State 0 2).bind fun y6=>(bif (!y6)then some (Out.ret 2)else (Kx ab.Until 0 20000000).bind fun y7=>(bif (!y7)then some (Out.ret 2)else (Kx ab.To 0 9999).bind fun y8=>(bif (!y8)then some (Out.ret 2)else (Kx ab.Run 0 9999).bind fun y9=>(bif (!y9)then some (Out.ret 2)else okB (decide (0≤((k0:Nat):Int)∧((k0:Nat):Int)≤((l.length:Nat):Int))) ((Ro (l.take k0) ab.ID).bind fun cr=>(bif (decide (0≤cr))then some (Out.ret 7)else (bif ((decide (ab.To≠0)) !=(decide (ab.State=1)))then some (Out.ret 10)else (bif ((decide (ab.Run≠0)) !=(decide (ab.State=2)))then some (Out.ret 10)else some (Out.next ()))))))))))))
def N8 (l:List B3):Option (Int):=
 (bif (decide (16<((l.length:Nat):Int)))then some 4 else(Al (O6 l) 0 l ()).bind fun o0=>o0.on fun s0=>some 0)
theorem gO (l:List B3) {r:Int} (h:N8 l=some r):Ad Tryz.prog 93 [.sl 8 (l.map A7)] (·= .int .i64 r):=by
 refine Ad.nle (Ad.intro Tryz.func93 rfl rfl (by show _≤81;simp) ?_)
 unfold N8 at h
 refine nS (sq ?_)
 refine B5 rfl ?_
 refine rg rfl fun K j=>?_
 intro hm
 refine j _ _ (qn (cA h rfl ?_ ?_))<;>intro hc h
 ·refine gw8 rfl ?_
  cases h;exact en Tryz.results93
 refine gw6 (B8 rfl (bk ?_))
 obtain⟨o0,aa,ae⟩:=Ae h
 clear h
 refine AWP.Bh aa () (fun zz=>[(0,.sl 8 (l.map A7)),(3,.int .i64 ((zz.1:Nat):Int))]) (fun zz=>[]) ?_
 rintro k0 ⟨⟩ ⟨⟩ bb aa
 dsimp only
 refine sq (rG rfl fun K j=>?_)
 intro hm
 refine j (cD rfl ?_ ?_)<;>intro hc
 ·obtain rfl:=fnD aa hc
  have h:=Ao ae;try dsimp only at h
  have af:=leD bb hc
  subst af
  refine Cr rfl ?_
  cases h;exact en Tryz.results93
 obtain⟨ab,b0,ag,bh,ao,h,aa⟩:=fcD aa hc
 have ay:=wk (k:=k0) (by omega)
 unfold O6 at h;try dsimp only at h
 refine gw9 (rG rfl fun K j=>?_)
 refine A1.of (f:=A7) (l:=l) ao ?_
 refine nS ?_
 refine j (sq (rG rfl fun K j=>?_))
 obtain⟨y3,bu,h⟩:=Ae h
 refine Ah.pure Tryz.call193 (Hg ab.ID 1 9999 bu) rfl fun _ hr=>?_
 subst hr
 refine nS ?_
 refine gF' h ?_ ?_<;>intro hc h
 ·refine j (ct rfl (Cd rfl ?_))
  cases x0 h aa ae;exact en Tryz.results93
 obtain⟨y4,ch,h⟩:=Ae h
 refine Ah.pure Tryz.call193 (Hg ab.Node 1 9999 ch) rfl fun _ hr=>?_
 subst hr
 refine nS ?_
 refine gF' h ?_ ?_<;>intro hc h
 ·refine j (ct rfl (Cd rfl ?_))
  cases x0 h aa ae;exact en Tryz.results93
 obtain⟨y5,cw,h⟩:=Ae h
 refine Ah.pure Tryz.call193 (Hg ab.Fuel 0 1000000 cw) rfl fun _ hr=>?_
 subst hr
 refine nS ?_
 refine gF' h ?_ ?_<;>intro hc h
 ·refine j (ct rfl (Cd rfl ?_))
  cases x0 h aa ae;exact en Tryz.results93
 obtain⟨y6,ec,h⟩:=Ae h
 refine Ah.pure Tryz.call193 (Hg ab.State 0 2 ec) rfl fun _ hr=>?_
 subst hr
 refine nS ?_
 refine gF' h ?_ ?_<;>intro hc h
 ·refine j (ct rfl (Cd rfl ?_))
  cases x0 h aa ae;exact en Tryz.results93
 obtain⟨y7,eg,h⟩:=Ae h
 refine Ah.pure Tryz.call193 (Hg ab.Until 0 20000000 eg) rfl fun _ hr=>?_
 subst hr
 refine nS ?_
 refine gF' h ?_ ?_<;>intro hc h
 ·refine j (ct rfl (Cd rfl ?_))
  cases x0 h aa ae;exact en Tryz.results93
 obtain⟨y8,ej,h⟩:=Ae h
 refine Ah.pure Tryz.call193 (Hg ab.To 0 9999 ej) rfl fun _ hr=>?_
 subst hr
 refine nS ?_
 refine gF' h ?_ ?_<;>intro hc h
 ·refine j (ct rfl (Cd rfl ?_))
  cases x0 h aa ae;exact en Tryz.results93
 obtain⟨y9,fu,h⟩:=Ae h
 refine Ah.pure Tryz.call193 (Hg ab.Run 0 9999 fu) rfl fun _ hr=>?_
 subst hr
 refine nS ?_
 refine j (cA h rfl ?_ ?_)<;>intro hc h
 ·refine Cd rfl ?_
  cases x0 h aa ae;exact en Tryz.results93
 refine gw6 (sq (dR Tryz.mixed fun K j=>?_))
 refine nS ?_
 obtain⟨hk,h⟩:=Fv h
 intro hm
 (repeat(refine⟨by omega,?_⟩))
 obtain⟨cr,dq,h⟩:=Ae h
 refine Br.pure Tryz.call194 (gN (l.take k0) ab.ID dq) rfl ?_
 refine nS ?_
 refine j _ _ _ (by kernel_rfl) (qn (cA h rfl ?_ ?_))<;>intro hc h
 ·refine Cd rfl ?_
  cases x0 h aa ae;exact en Tryz.results93
 refine Co (rG rfl fun K j=>?_)
 refine gF h ?_ ?_<;>intro hc h
 ·refine j (cA h rfl ?_ ?_)<;>intro hc h
  ·refine Cs rfl ?_
   cases x0 h aa ae;exact en Tryz.results93
  refine gw5 rfl ?_
  refine lE ag aa h () ?_ ?_<;>exact cuw ay
 refine j (ct rfl (Cs rfl ?_))
 cases x0 h aa ae;exact en Tryz.results93
def F6 (y1:Int) (y2:Int) (y3:Int) (y4:Int) (y5:Int) (y6:Int) (y7:Int) (y8:Int) (y9:Int) (k9:Nat) (_x:Unit) (sv:Unit):Option (Out (Unit) (Int)):=
 (Da [y1,y2,y3,y4,y5,y6,y7,y8,y9] ((k9:Nat):Int)).bind fun ji=>(bif (decide (ji≠0))then some (Out.ret ji)else some (Out.next ()))
def Kh (f_:Af):Option (Int):=
 (Iv f_.Map).bind fun y1=>(Ir f_.Closures).bind fun y2=>(Iq f_.Patrol).bind fun y3=>(Rm f_.Surfaces).bind fun y4=>(N5 f_.Slides).bind fun y5=>(Iu f_.Bulletin).bind fun y6=>(It f_.Missions).bind fun y7=>(N7 f_.Winches).bind fun y8=>(N8 f_.Groomers).bind fun y9=>(J8 (F6 y1 y2 y3 y4 y5 y6 y7 y8 y9) 9 ()).bind fun o9=>o9.on fun s9=>some 0
theorem fR (f_:Af) {r:Int} (h:Kh f_=some r):Ad Tryz.prog 41 [.agg (Ai f_)] (·= .int .i64 r):=by
 refine Ad.nle (Ad.intro Tryz.func41 rfl rfl (by show _≤48;simp) ?_)
 unfold Kh at h
 refine nS (sq ?_)
 refine gw7 rfl ?_
 refine dR Tryz.mixed fun K j=>?_
 refine nS ?_
 obtain⟨y1,bp,h⟩:=Ae h
 refine Br.pure Tryz.call85 (gX f_.Map bp) rfl ?_
 refine nS ?_
 obtain⟨y2,cx,h⟩:=Ae h
 refine Br.pure Tryz.call86 (fX f_.Closures cx) rfl ?_
 refine nS ?_
 obtain⟨y3,bu,h⟩:=Ae h
 refine Br.pure Tryz.call87 (fV f_.Patrol bu) rfl ?_
 refine nS ?_
 obtain⟨y4,ch,h⟩:=Ae h
 refine Br.pure Tryz.call88 (gJ f_.Surfaces ch) rfl ?_
 refine nS ?_
 obtain⟨y5,cw,h⟩:=Ae h
 refine Br.pure Tryz.call89 (gC f_.Slides cw) rfl ?_
 refine nS ?_
 obtain⟨y6,ec,h⟩:=Ae h
 refine Br.pure Tryz.call90 (gH f_.Bulletin ec) rfl ?_
 refine nS ?_
 obtain⟨y7,eg,h⟩:=Ae h
 refine Br.pure Tryz.call91 (gA f_.Missions eg) rfl ?_
 refine nS ?_
 obtain⟨y8,ej,h⟩:=Ae h
 refine Br.pure Tryz.call92 (gM f_.Winches ej) rfl ?_
 refine nS ?_
 obtain⟨y9,fu,h⟩:=Ae h
 refine Br.pure Tryz.call93 (gO f_.Groomers fu) rfl ?_
 refine nS ?_
 refine j _ _ _ (by kernel_rfl) (qn (sq (B8 rfl (bk ?_))))
 obtain⟨o9,ja,yi⟩:=Ae h
 clear h
 obtain⟨hn9,ja⟩:=Ng ja
 refine AWP.Ma (ι:=Nat×(Unit)×(Unit)) (fun zz=>[(3,.own 10 0 0 9),(4,.int .i64 ((zz.1:Nat):Int))]) (fun zz=>[.gone,.gone,.gone,.gone,.gone,.gone,.gone,.gone,.gone,.gone,.row 0 1 ([y1,y2,y3,y4,y5,y6,y7,y8,y9].map An)]) (fun zz=>zz.1≤9∧Al (F6 y1 y2 y3 y4 y5 y6 y7 y8 y9) zz.1 ((List.replicate 9 ()).drop zz.1) zz.2.1=some o9) (fun zz=>9 - zz.1) (0,(),()) ⟨Nat.zero_le _,ja⟩ cu cu (fun x=>⟨rfl,rfl,rfl⟩) ?_
 clear ja
 rintro⟨k9,⟨⟩,⟨⟩⟩ ⟨hk9,ja⟩
 dsimp only at hk9 ja ⊢
 refine sq (B8 rfl ?_)
 refine cD rfl ?_ ?_<;>intro hc
 ·obtain rfl:=J5 ja (fun hl=>by rw[Aov]at hl;have:=Aom hc;omega)
  have h:=Ao yi;try dsimp only at h
  have af:9=k9:=by have:=Aom hc;omega
  subst af
  refine Cr rfl ?_
  cases h;exact en Tryz.results41
 have ox:k9<9:=by have:=Aon hc;omega
 obtain⟨_,b9,_,h,ja⟩:=G6 ja (by rw[Aov];exact ox)
 have xf:=wk (k:=k9) (by omega)
 unfold F6 at h;try dsimp only at h
 refine gw9 (rG rfl fun K j=>?_)
 obtain⟨ji,nv,h⟩:=Ae h
 refine Ge nv (by first | rfl | exact(Cq _).symm | (simp only[Aou,List.length_cons,List.length_nil,List.length_set,Aov]<;>omega)) ?_
 refine nS ?_
 refine Dg.ofNat (f:=An) (l:=[y1,y2,y3,y4,y5,y6,y7,y8,y9]) (n:=k9) nv ?_
 refine nS ?_
 refine j (cA h rfl ?_ ?_)<;>intro hc h
 ·refine rG rfl fun K j=>?_
  refine Ge nv (by first | rfl | exact(Cq _).symm | (simp only[Aou,List.length_cons,List.length_nil,List.length_set,Aov]<;>omega)) ?_
  refine nS ?_
  refine Dg.ofNat (f:=An) (l:=[y1,y2,y3,y4,y5,y6,y7,y8,y9]) (n:=k9) nv ?_
  refine nS ?_
  refine j (rt (gw2 ?_))
  cases x0 h ja yi;exact en Tryz.results41
 refine gw5 rfl ?_
 obtain rfl:=Aa h
 refine⟨(k9+1,(),()),⟨by dsimp only;omega,Cj ja⟩,by dsimp only;omega,?_,?_⟩
 ·exact cuw xf
 exact cuw xf
def bN (id_:Int) (k0:Nat) (ab:Ck) (sv:Unit):Option (Out (Unit) (Ck×Bool)):=
 (bif (decide (ab.ID=id_))then some (Out.ret (ab,true))else some (Out.next ()))
def W4 (m:Av) (id_:Int):Option (Ck×Bool):=
 (Al (bN id_) 0 m.Lifts ()).bind fun o0=>o0.on fun s0=>some ((Ck.mk 0 0 0 0 0 0 0 0),false)
theorem X2 (m:Av) (id_:Int) {r:Ck×Bool} (h:W4 m id_=some r):Ad Tryz.prog 42 [.agg (Be m),.int .i64 id_] (·= .tuple [.agg (Bl r.1),.bool r.2]):=by
 refine Ad.nle (Ad.intro Tryz.func42 rfl rfl (by show _≤28;simp) ?_)
 unfold W4 at h
 refine nS (sq ?_)
 refine B5 rfl ?_
 refine gw3 rfl (bk ?_)
 obtain⟨o0,aa,ae⟩:=Ae h
 clear h
 refine AWP.Bh aa () (fun zz=>[(1,.int .i64 id_),(2,.ptr 0 0),(4,.ptr 1 0),(6,.int .i64 ((zz.1:Nat):Int))]) (fun zz=>[.box (Be m),.box [.int .i64 0,.int .i64 0,.int .i64 0,.int .i64 0,.int .i64 0,.int .i64 0,.int .i64 0,.int .i64 0]]) ?_
 rintro k0 ⟨⟩ ⟨⟩ bb aa
 dsimp only
 refine sq (rG rfl fun K j=>?_)
 intro hm
 refine j (cD rfl ?_ ?_)<;>intro hc
 ·obtain rfl:=fnD aa hc
  have h:=Ao ae;try dsimp only at h
  have af:=leD bb hc
  subst af
  refine Cr rfl ?_
  cases h;exact en Tryz.results42
 obtain⟨ab,b0,ag,bh,ao,h,aa⟩:=fcD aa hc
 have ay:=wk (k:=k0) (by omega)
 unfold bN at h;try dsimp only at h
 refine gw9 (rG rfl fun K j=>?_)
 refine A1.of (f:=Bl) (l:=m.Lifts) ao ?_
 refine nS ?_
 refine j (cA h rfl ?_ ?_)<;>intro hc h
 ·refine rG rfl fun K j=>?_
  refine A1.of (f:=Bl) (l:=m.Lifts) ao ?_
  refine nS ?_
  refine j (rt (gw2 ?_))
  cases x0 h aa ae;exact en Tryz.results42
 refine gw5 rfl ?_
 refine lE ag aa h () ?_ ?_<;>exact cuw ay
def Wj (n_:Int) (lo:Int) (hi:Int):Option (Bool):=
 (bif (decide (lo≤n_))then some (decide (n_≤hi))else some false)
theorem Vq (n_:Int) (lo:Int) (hi:Int) {r:Bool} (h:Wj n_ lo hi=some r):Ad Tryz.prog 94 [.int .i64 n_,.int .i64 lo,.int .i64 hi] (·= .bool r):=by
 refine Ad.nle (Ad.intro Tryz.func94 rfl rfl (by show _≤15;simp) ?_)
 unfold Wj at h
 refine nS (sq ?_)
 refine gw7 rfl ?_
 refine rg rfl fun K j=>?_
 refine gT h ?_ ?_<;>intro hc h
 ·refine j _ _ (Cu ?_)
  cases h;exact en Tryz.results94
 refine j _ _ (Cu ?_)
 cases h;exact en Tryz.results94
def Kz (p:Fo):Option (Bool):=
 (Wj p.Natural 0 20000).bind fun y1=>(bif y1 then(Wj p.Machine 0 20000).bind fun y2=>(bif y2 then(Wj p.Density 50 900).bind fun y3=>some y3 else some false)else some false)
theorem Wk (p:Fo) {r:Bool} (h:Kz p=some r):Ad Tryz.prog 43 [.agg (Nw p)] (·= .bool r):=by
 refine Ad.nle (Ad.intro Tryz.func43 rfl rfl (by show _≤16;simp) ?_)
 unfold Kz at h
 refine nS (sq ?_)
 refine gw7 rfl ?_
 refine rg rfl fun K j=>?_
 obtain⟨y1,bp,h⟩:=Ae h
 refine Ah.pure Tryz.call94 (Vq p.Natural 0 20000 bp) rfl fun _ hr=>?_
 subst hr
 refine nS ?_
 refine gT h ?_ ?_<;>intro hc h
 ·obtain⟨y2,cx,h⟩:=Ae h
  refine Ah.pure Tryz.call94 (Vq p.Machine 0 20000 cx) rfl fun _ hr=>?_
  subst hr
  refine nS ?_
  refine gT h ?_ ?_<;>intro hc h
  ·obtain⟨y3,bu,h⟩:=Ae h
   refine Ah.pure Tryz.call94 (Vq p.Density 50 900 bu) rfl fun _ hr=>?_
   subst hr
   refine nS ?_
   refine j _ _ (Cu ?_)
   cases h;exact en Tryz.results43
  refine j _ _ (Cu ?_)
  cases h;exact en Tryz.results43
 refine j _ _ (Cu ?_)
 cases h;exact en Tryz.results43
def eA (id_:Int) (k0:Nat) (ab:Cn) (sv:Unit):Option (Out (Unit) (Cn×Bool)):=
 (bif (decide (ab.ID=id_))then some (Out.ret (ab,true))else some (Out.next ()))
def Ju (m:Av) (id_:Int):Option (Cn×Bool):=
 (Al (eA id_) 0 m.Runs ()).bind fun o0=>o0.on fun s0=>some ((Cn.mk 0 0 0 0 0 0 0),false)
theorem Gd (m:Av) (id_:Int) {r:Cn×Bool} (h:Ju m id_=some r):Ad Tryz.prog 32 [.agg (Be m),.int .i64 id_] (·= .tuple [.agg (Bj r.1),.bool r.2]):=by
 refine Ad.nle (Ad.intro Tryz.func32 rfl rfl (by show _≤28;simp) ?_)
 unfold Ju at h
 refine nS (sq ?_)
 refine B5 rfl ?_
 refine gw3 rfl (bk ?_)
 obtain⟨o0,aa,ae⟩:=Ae h
 clear h
 refine AWP.Bh aa () (fun zz=>[(1,.int .i64 id_),(2,.ptr 0 0),(4,.ptr 1 0),(6,.int .i64 ((zz.1:Nat):Int))]) (fun zz=>[.box (Be m),.box [.int .i64 0,.int .i64 0,.int .i64 0,.int .i64 0,.int .i64 0,.int .i64 0,.int .i64 0]]) ?_
 rintro k0 ⟨⟩ ⟨⟩ bb aa
 dsimp only
 refine sq (rG rfl fun K j=>?_)
 intro hm
 refine j (cD rfl ?_ ?_)<;>intro hc
 ·obtain rfl:=fnD aa hc
  have h:=Ao ae;try dsimp only at h
  have af:=leD bb hc
  subst af
  refine Cr rfl ?_
  cases h;exact en Tryz.results32
 obtain⟨ab,b0,ag,bh,ao,h,aa⟩:=fcD aa hc
 have ay:=wk (k:=k0) (by omega)
 unfold eA at h;try dsimp only at h
 refine gw9 (rG rfl fun K j=>?_)
 refine A1.of (f:=Bj) (l:=m.Runs) ao ?_
 refine nS ?_
 refine j (cA h rfl ?_ ?_)<;>intro hc h
 ·refine rG rfl fun K j=>?_
  refine A1.of (f:=Bj) (l:=m.Runs) ao ?_
  refine nS ?_
  refine j (rt (gw2 ?_))
  cases x0 h aa ae;exact en Tryz.results32
 refine gw5 rfl ?_
 refine lE ag aa h () ?_ ?_<;>exact cuw ay
def Ox (f_:Af) (k3:Nat) (cm:Au) (sv:Unit):Option (Out (Unit) (Int)):=
 (bif (decide (0<((k3:Nat):Int)))then (Da f_.Status (IntKind.i64.wrap (((k3:Nat):Int) - 1))).bind fun cp=>(bif (decide (cm.Run≤cp.Run))then some (Out.ret 11)else (Ju f_.Map cm.Run).bind fun y7=>(bif (!y7.2)then some (Out.ret 8)else (bif (decide (cm.Since<0))then some (Out.ret 2)else (bif (decide (20000000<cm.Since))then some (Out.ret 2)else some (Out.next ())))))else (Ju f_.Map cm.Run).bind fun y8=>(bif (!y8.2)then some (Out.ret 8)else (bif (decide (cm.Since<0))then some (Out.ret 2)else (bif (decide (20000000<cm.Since))then some (Out.ret 2)else some (Out.next ())))))
def Ki (f_:Af):Option (Int):=
 (Al (Ox f_) 0 f_.Status ()).bind fun o3=>o3.on fun s3=>(bif (decide (f_.Depth<0))then some 2 else(bif (decide (10000<f_.Depth))then some 2 else(bif (decide (f_.Time<0))then some 2 else(bif (decide (20000000<f_.Time))then some 2 else some 0))))
def Ow (f_:Af) (k8:Nat) (eu:Ct) (sv:Unit):Option (Out (Unit) (Int)):=
 (bif (decide (eu.Area<1))then some (Out.ret 2)else (bif (decide (10000000<eu.Area))then some (Out.ret 2)else (Kz eu.Pack).bind fun dz=>(bif (!dz)then some (Out.ret 2)else (bif (decide (0<((k8:Nat):Int)))then (Da f_.Packs (IntKind.i64.wrap (((k8:Nat):Int) - 1))).bind fun ei=>(bif (decide (eu.Run≤ei.Run))then some (Out.ret 11)else some (Out.next ()))else some (Out.next ())))))
def Kj (f_:Af):Option (Int):=
 (Al (Ow f_) 0 f_.Packs ()).bind fun o8=>o8.on fun s8=>Ki f_
def Tl (f_:Af) (wc:Nat) (fe:Cv) (sv:Unit):Option (Out (Unit) (Int)):=
 (bif (decide (0<((wc:Nat):Int)))then (Da f_.Lifts (IntKind.i64.wrap (((wc:Nat):Int) - 1))).bind fun lj=>(bif (decide (fe.Lift≤lj.Lift))then some (Out.ret 11)else (W4 f_.Map fe.Lift).bind fun py=>(bif (!py.2)then some (Out.ret 8)else (bif (decide (fe.Mode<0))then some (Out.ret 2)else (bif (decide (3<fe.Mode))then some (Out.ret 2)else some (Out.next ())))))else (W4 f_.Map fe.Lift).bind fun zc=>(bif (!zc.2)then some (Out.ret 8)else (bif (decide (fe.Mode<0))then some (Out.ret 2)else (bif (decide (3<fe.Mode))then some (Out.ret 2)else some (Out.next ())))))
def Ip (f_:Af):Option (Int):=
 (Kh f_).bind fun y1=>(bif (decide (y1≠0))then some y1 else(bif (decide (32<((f_.Lifts.length:Nat):Int)))then some 4 else(bif (decide (64<((f_.Packs.length:Nat):Int)))then some 4 else(bif (decide (64<((f_.Status.length:Nat):Int)))then some 4 else(Al (Tl f_) 0 f_.Lifts ()).bind fun o12=>o12.on fun s12=>Kj f_))))
theorem fT (f_:Af) {r:Int} (h:Ip f_=some r):Ad Tryz.prog 13 [.agg (Ai f_)] (·= .int .i64 r):=by
 refine Ad.nle (Ad.intro Tryz.func13 rfl rfl (by show _≤211;simp) ?_)
 unfold Ip at h
 refine nS (sq ?_)
 refine B5 rfl ?_
 refine rg rfl fun K j=>?_
 obtain⟨y1,bp,h⟩:=Ae h
 refine Ah.pure Tryz.call41 (fR f_ bp) rfl fun _ hr=>?_
 subst hr
 refine nS ?_
 refine j _ _ (qn (B8 rfl ?_))
 refine cA h rfl ?_ ?_<;>intro hc h
 ·refine gw8 rfl ?_
  cases h;exact en Tryz.results13
 refine gw6 (rG rfl fun K j=>?_)
 intro hm
 refine gF' h ?_ ?_<;>intro hc h
 ·refine j (ct rfl (gw8 rfl ?_))
  cases h;exact en Tryz.results13
 intro hm
 refine gF' h ?_ ?_<;>intro hc h
 ·refine j (ct rfl (gw8 rfl ?_))
  cases h;exact en Tryz.results13
 intro hm
 refine j (cA h rfl ?_ ?_)<;>intro hc h
 ·refine gw8 rfl ?_
  cases h;exact en Tryz.results13
 refine Co ?_
 refine AWP.Ek (ι:=(Unit)×(Unit)) (fun zz=>[(1,.ptr 0 0)]) (fun zz=>[.box (Ai f_)]) (fun zz=>Kj f_=some r) (fun zz=>⟨rfl,rfl,rfl⟩) ?_ ?_
 ·refine B8 rfl (bk ?_)
  obtain⟨o12,dy,ki⟩:=Ae h
  clear h
  refine AWP.Bh dy () (fun zz=>[(1,.ptr 0 0),(4,.int .i64 ((zz.1:Nat):Int))]) (fun zz=>[.box (Ai f_)]) ?_
  rintro wc ⟨⟩ ⟨⟩ xx dy
  dsimp only
  refine sq (rG rfl fun K j=>?_)
  intro hm
  refine j (cD rfl ?_ ?_)<;>intro hc
  ·obtain rfl:=fnD dy hc
   have h:=Ao ki;try dsimp only at h
   have af:=leD xx hc
   subst af
   refine gw4 ?_
   exact⟨((),()),h,cu,cu⟩
  obtain⟨fe,b12,ib,zr,kx,h,dy⟩:=fcD dy hc
  have ky:=wk (k:=wc) (by omega)
  unfold Tl at h;try dsimp only at h
  refine gw9 (sq (sq (dR Tryz.mixed fun K j=>?_)))
  refine nS ?_
  refine gT h ?_ ?_<;>intro hc h
  ·refine A1.of (f:=A4) (l:=f_.Lifts) kx ?_
   refine nS ?_
   obtain⟨lj,zk,h⟩:=Ae h
   refine A1.of (f:=A4) (l:=f_.Lifts) zk ?_
   refine nS ?_
   refine j _ _ _ (by kernel_rfl) (qn (cA h rfl ?_ ?_))<;>intro hc h
   ·refine Cd rfl ?_
    cases x0 h dy ki;exact en Tryz.results13
   refine gw6 (sq (dR Tryz.mixed fun K j=>?_))
   refine nS ?_
   refine A1.of (f:=A4) (l:=f_.Lifts) kx ?_
   refine nS ?_
   obtain⟨py,qv,h⟩:=Ae h
   refine Br.pure Tryz.call42 (X2 f_.Map fe.Lift qv) rfl ?_
   refine nS ?_
   refine j _ _ _ (by kernel_rfl) (qn (B8 rfl ?_))
   refine cA h rfl ?_ ?_<;>intro hc h
   ·refine Cd rfl ?_
    cases x0 h dy ki;exact en Tryz.results13
   refine Co (rG rfl fun K j=>?_)
   refine A1.of (f:=A4) (l:=f_.Lifts) kx ?_
   refine nS ?_
   refine gF h ?_ ?_<;>intro hc h
   ·refine A1.of (f:=A4) (l:=f_.Lifts) kx ?_
    refine nS ?_
    refine j (cA h rfl ?_ ?_)<;>intro hc h
    ·refine Cs rfl ?_
     cases x0 h dy ki;exact en Tryz.results13
    refine gw5 rfl ?_
    refine lE ib dy h () ?_ ?_<;>exact cuw ky
   refine j (ct rfl (Cs rfl ?_))
   cases x0 h dy ki;exact en Tryz.results13
  refine j _ _ _ (by kernel_rfl) (qn (cf rfl (gw6 (sq (dR Tryz.mixed fun K j=>?_)))))
  refine nS ?_
  refine A1.of (f:=A4) (l:=f_.Lifts) kx ?_
  refine nS ?_
  obtain⟨zc,wv,h⟩:=Ae h
  refine Br.pure Tryz.call42 (X2 f_.Map fe.Lift wv) rfl ?_
  refine nS ?_
  refine j _ _ _ (by kernel_rfl) (qn (B8 rfl ?_))
  refine cA h rfl ?_ ?_<;>intro hc h
  ·refine Cd rfl ?_
   cases x0 h dy ki;exact en Tryz.results13
  refine Co (rG rfl fun K j=>?_)
  refine A1.of (f:=A4) (l:=f_.Lifts) kx ?_
  refine nS ?_
  refine gF h ?_ ?_<;>intro hc h
  ·refine A1.of (f:=A4) (l:=f_.Lifts) kx ?_
   refine nS ?_
   refine j (cA h rfl ?_ ?_)<;>intro hc h
   ·refine Cs rfl ?_
    cases x0 h dy ki;exact en Tryz.results13
   refine gw5 rfl ?_
   refine lE ib dy h () ?_ ?_<;>exact cuw ky
  refine j (ct rfl (Cs rfl ?_))
  cases x0 h dy ki;exact en Tryz.results13
 rintro⟨⟨⟩,⟨⟩⟩ h
 try dsimp only at h ⊢
 unfold Kj at h;try dsimp only at h
 refine AWP.Ek (ι:=(Unit)×(Unit)) (fun zz=>[(1,.ptr 0 0)]) (fun zz=>[.box (Ai f_)]) (fun zz=>Ki f_=some r) (fun zz=>⟨rfl,rfl,rfl⟩) ?_ ?_
 ·refine B8 rfl (bk ?_)
  obtain⟨o8,kr,uj⟩:=Ae h
  clear h
  refine AWP.Bh kr () (fun zz=>[(1,.ptr 0 0),(7,.int .i64 ((zz.1:Nat):Int))]) (fun zz=>[.box (Ai f_)]) ?_
  rintro k8 ⟨⟩ ⟨⟩ hk8 kr
  dsimp only
  refine sq (rG rfl fun K j=>?_)
  intro hm
  refine j (cD rfl ?_ ?_)<;>intro hc
  ·obtain rfl:=fnD kr hc
   have h:=Ao uj;try dsimp only at h
   have af:=leD hk8 hc
   subst af
   refine gw4 ?_
   exact⟨((),()),h,cu,cu⟩
  obtain⟨eu,b8,tz,hx8_,wz,h,kr⟩:=fcD kr hc
  have hw8:=wk (k:=k8) (by omega)
  unfold Ow at h;try dsimp only at h
  refine gw9 (sq (rG rfl fun K j=>?_))
  refine A1.of (f:=A6) (l:=f_.Packs) wz ?_
  refine nS ?_
  refine gF' h ?_ ?_<;>intro hc h
  ·refine j (ct rfl (Cd rfl ?_))
   cases x0 h kr uj;exact en Tryz.results13
  refine A1.of (f:=A6) (l:=f_.Packs) wz ?_
  refine nS ?_
  refine gF' h ?_ ?_<;>intro hc h
  ·refine j (ct rfl (Cd rfl ?_))
   cases x0 h kr uj;exact en Tryz.results13
  refine A1.of (f:=A6) (l:=f_.Packs) wz ?_
  refine nS ?_
  obtain⟨dz,ff,h⟩:=Ae h
  refine Ah.pure Tryz.call43 (Wk eu.Pack ff) rfl fun _ hr=>?_
  subst hr
  refine nS ?_
  refine j (cA h rfl ?_ ?_)<;>intro hc h
  ·refine Cd rfl ?_
   cases x0 h kr uj;exact en Tryz.results13
  refine gw6 (dR Tryz.mixed fun K j=>?_)
  refine nS ?_
  refine gT h ?_ ?_<;>intro hc h
  ·refine A1.of (f:=A6) (l:=f_.Packs) wz ?_
   refine nS ?_
   obtain⟨ei,rb,h⟩:=Ae h
   refine A1.of (f:=A6) (l:=f_.Packs) rb ?_
   refine nS ?_
   refine j _ _ _ (by kernel_rfl) (qn (cA h rfl ?_ ?_))<;>intro hc h
   ·refine Cs rfl ?_
    cases x0 h kr uj;exact en Tryz.results13
   refine gw5 rfl ?_
   refine lE tz kr h () ?_ ?_<;>exact cuw hw8
  refine j _ _ _ (by kernel_rfl) (qn (cf rfl (gw5 rfl ?_)))
  refine lE tz kr h () ?_ ?_<;>exact cuw hw8
 rintro⟨⟨⟩,⟨⟩⟩ h
 try dsimp only at h ⊢
 unfold Ki at h;try dsimp only at h
 refine sq (B8 rfl (bk ?_))
 obtain⟨o3,bo,ew⟩:=Ae h
 clear h
 refine AWP.Bh bo () (fun zz=>[(1,.ptr 0 0),(8,.int .i64 ((zz.1:Nat):Int))]) (fun zz=>[.box (Ai f_)]) ?_
 rintro k3 ⟨⟩ ⟨⟩ jz bo
 dsimp only
 refine sq (rG rfl fun K j=>?_)
 intro hm
 refine j (cD rfl ?_ ?_)<;>intro hc
 ·obtain rfl:=fnD bo hc
  have h:=Ao ew;try dsimp only at h
  have af:=leD jz hc
  subst af
  refine gw4 (sq (rG rfl fun K j=>?_))
  refine gF h ?_ ?_<;>intro hc h
  ·refine gF h ?_ ?_<;>intro hc h
   ·refine gF h ?_ ?_<;>intro hc h
    ·refine j (cA h rfl ?_ ?_)<;>intro hc h
     ·refine gw8 rfl ?_
      cases h;exact en Tryz.results13
     refine Co (gw1 rfl ?_)
     cases h;exact en Tryz.results13
    refine j (ct rfl (gw8 rfl ?_))
    cases h;exact en Tryz.results13
   refine j (ct rfl (gw8 rfl ?_))
   cases h;exact en Tryz.results13
  refine j (ct rfl (gw8 rfl ?_))
  cases h;exact en Tryz.results13
 obtain⟨cm,b3,da,lr,gn,h,bo⟩:=fcD bo hc
 have gi:=wk (k:=k3) (by omega)
 unfold Ox at h;try dsimp only at h
 refine gw9 (sq (sq (dR Tryz.mixed fun K j=>?_)))
 refine nS ?_
 refine gT h ?_ ?_<;>intro hc h
 ·refine A1.of (f:=Ax) (l:=f_.Status) gn ?_
  refine nS ?_
  obtain⟨cp,gv,h⟩:=Ae h
  refine A1.of (f:=Ax) (l:=f_.Status) gv ?_
  refine nS ?_
  refine j _ _ _ (by kernel_rfl) (qn (cA h rfl ?_ ?_))<;>intro hc h
  ·refine Cd rfl ?_
   cases x0 h bo ew;exact en Tryz.results13
  refine gw6 (sq (dR Tryz.mixed fun K j=>?_))
  refine nS ?_
  refine A1.of (f:=Ax) (l:=f_.Status) gn ?_
  refine nS ?_
  obtain⟨y7,eg,h⟩:=Ae h
  refine Br.pure Tryz.call32 (Gd f_.Map cm.Run eg) rfl ?_
  refine nS ?_
  refine j _ _ _ (by kernel_rfl) (qn (B8 rfl ?_))
  refine cA h rfl ?_ ?_<;>intro hc h
  ·refine Cd rfl ?_
   cases x0 h bo ew;exact en Tryz.results13
  refine Co (rG rfl fun K j=>?_)
  refine A1.of (f:=Ax) (l:=f_.Status) gn ?_
  refine nS ?_
  refine gF h ?_ ?_<;>intro hc h
  ·refine A1.of (f:=Ax) (l:=f_.Status) gn ?_
   refine nS ?_
   refine j (cA h rfl ?_ ?_)<;>intro hc h
   ·refine Cs rfl ?_
    cases x0 h bo ew;exact en Tryz.results13
   refine gw5 rfl ?_
   refine lE da bo h () ?_ ?_<;>exact cuw gi
  refine j (ct rfl (Cs rfl ?_))
  cases x0 h bo ew;exact en Tryz.results13
 refine j _ _ _ (by kernel_rfl) (qn (cf rfl (gw6 (sq (dR Tryz.mixed fun K j=>?_)))))
 refine nS ?_
 refine A1.of (f:=Ax) (l:=f_.Status) gn ?_
 refine nS ?_
 obtain⟨y8,ej,h⟩:=Ae h
 refine Br.pure Tryz.call32 (Gd f_.Map cm.Run ej) rfl ?_
 refine nS ?_
 refine j _ _ _ (by kernel_rfl) (qn (B8 rfl ?_))
 refine cA h rfl ?_ ?_<;>intro hc h
 ·refine Cd rfl ?_
  cases x0 h bo ew;exact en Tryz.results13
 refine Co (rG rfl fun K j=>?_)
 refine A1.of (f:=Ax) (l:=f_.Status) gn ?_
 refine nS ?_
 refine gF h ?_ ?_<;>intro hc h
 ·refine A1.of (f:=Ax) (l:=f_.Status) gn ?_
  refine nS ?_
  refine j (cA h rfl ?_ ?_)<;>intro hc h
  ·refine Cs rfl ?_
   cases x0 h bo ew;exact en Tryz.results13
  refine gw5 rfl ?_
  refine lE da bo h () ?_ ?_<;>exact cuw gi
 refine j (ct rfl (Cs rfl ?_))
 cases x0 h bo ew;exact en Tryz.results13
def Oa (f_:Af) (l:List Int):Option (Bool):=
 (bif (decide (((l.length:Nat):Int)≤40))then (K9 f_).bind fun y1=>(bif y1 then(Ip f_).bind fun y2=>some (decide (y2=0))else some false)else some false)
theorem hZ (f_:Af) (l:List Int) {r:Bool} (h:Oa f_ l=some r):Ad Tryz.prog 14 [.agg (Ai f_),.sl 1 (l.map An)] (·= .bool r):=by
 refine Ad.nle (Ad.intro Tryz.func14 rfl rfl (by show _≤17;simp) ?_)
 unfold Oa at h
 refine nS (sq ?_)
 refine gw7 rfl ?_
 refine rg rfl fun K j=>?_
 intro hm
 refine gT h ?_ ?_<;>intro hc h
 ·obtain⟨y1,bp,h⟩:=Ae h
  refine Ah.pure Tryz.call11 (hY f_ bp) rfl fun _ hr=>?_
  subst hr
  refine nS ?_
  refine gT h ?_ ?_<;>intro hc h
  ·obtain⟨y2,cx,h⟩:=Ae h
   refine Ah.pure Tryz.call13 (fT f_ cx) rfl fun _ hr=>?_
   subst hr
   refine nS ?_
   refine j _ _ (Cu ?_)
   cases h;exact en Tryz.results14
  refine j _ _ (Cu ?_)
  cases h;exact en Tryz.results14
 refine j _ _ (Cu ?_)
 cases h;exact en Tryz.results14
def Js (m:Av) (node:Int):Option (Int):=
 (Es m node).bind fun y1=>some y1.1.Alt
theorem Hv (m:Av) (node:Int) {r:Int} (h:Js m node=some r):Ad Tryz.prog 46 [.agg (Be m),.int .i64 node] (·= .int .i64 r):=by
 refine Ad.nle (Ad.intro Tryz.func46 rfl rfl (by show _≤15;simp) ?_)
 unfold Js at h
 refine nS (sq ?_)
 refine gw7 rfl ?_
 refine rg rfl fun K j=>?_
 obtain⟨y1,bp,h⟩:=Ae h
 refine Ah.pure Tryz.call98 (Nb m node bp) rfl fun _ hr=>?_
 subst hr
 refine nS ?_
 refine j _ _ (qn (gw1 rfl ?_))
 cases h;exact en Tryz.results46
def Lt (b:A2) (t:Int):Option (Bool):=
 (bif (decide (b.Span.From≤t))then some (decide (t<b.Span.To))else some false)
theorem Uy (b:A2) (t:Int) {r:Bool} (h:Lt b t=some r):Ad Tryz.prog 99 [.agg (Ap b),.int .i64 t] (·= .bool r):=by
 refine Ad.nle (Ad.intro Tryz.func99 rfl rfl (by show _≤17;simp) ?_)
 unfold Lt at h
 refine nS (sq ?_)
 refine gw7 rfl ?_
 refine rg rfl fun K j=>?_
 refine gT h ?_ ?_<;>intro hc h
 ·refine j _ _ (Cu ?_)
  cases h;exact en Tryz.results99
 refine j _ _ (Cu ?_)
 cases h;exact en Tryz.results99
def H0 (t:Int) (k1:Nat) (ak:A2) (sv:Int):Option (Out (Int) (Int)):=
 (Lt ak t).bind fun y4=>(bif y4 then some (Out.next (if sv<ak.Version then ak.Version else sv))else some (Out.next sv))
def Hf (l:List A2) (t:Int):Option (Int):=
 (Al (H0 t) 0 l 0).bind fun o1=>o1.on fun s1=>some s1
theorem cM (l:List A2) (t:Int) {r:Int} (h:Hf l t=some r):Ad Tryz.prog 100 [.sl 7 (l.map Ap),.int .i64 t] (·= .int .i64 r):=by
 refine Ad.nle (Ad.intro Tryz.func100 rfl rfl (by show _≤27;simp) ?_)
 unfold Hf at h
 refine nS (sq ?_)
 refine gw7 rfl ?_
 refine B5 rfl ?_
 refine gw3 rfl (bk ?_)
 obtain⟨o1,aq,db⟩:=Ae h
 clear h
 refine AWP.Bh aq () (fun zz=>[(0,.sl 7 (l.map Ap)),(1,.int .i64 t),(5,.int .i64 zz.2.1),(6,.int .i64 ((zz.1:Nat):Int))]) (fun zz=>[]) ?_
 rintro k1 n_1 ⟨⟩ ga aq
 dsimp only
 refine sq (rG rfl fun K j=>?_)
 intro hm
 refine j (cD rfl ?_ ?_)<;>intro hc
 ·obtain rfl:=fnD aq hc
  have h:=Ao db;try dsimp only at h
  have af:=leD ga hc
  subst af
  refine Cr rfl ?_
  cases h;exact en Tryz.results100
 obtain⟨ak,b1,bl,fx,fk,h,aq⟩:=fcD aq hc
 have cz:=wk (k:=k1) (by omega)
 unfold H0 at h;try dsimp only at h
 refine gw9 (rG rfl fun K j=>?_)
 refine A1.of (f:=Ap) (l:=l) fk ?_
 refine nS ?_
 obtain⟨y4,ch,h⟩:=Ae h
 refine Ah.pure Tryz.call99 (Uy ak t ch) rfl fun _ hr=>?_
 subst hr
 refine nS ?_
 refine j (cA h rfl ?_ ?_)<;>intro hc h
 ·refine rg rfl fun K j=>?_
  refine A1.of (f:=Ap) (l:=l) fk ?_
  refine nS ?_
  refine j _ _ (Eo rfl ?_)
  refine lE bl aq h () ?_ ?_<;>exact cuw cz
 refine gw5 rfl ?_
 refine lE bl aq h () ?_ ?_<;>exact cuw cz
def dW (n_:Int) (k0:Nat) (ab:Int) (sv:Unit):Option (Out (Unit) (Bool)):=
 (bif (decide (ab=n_))then some (Out.ret true)else some (Out.next ()))
def aD (l:List Int) (n_:Int):Option (Bool):=
 (Al (dW n_) 0 l ()).bind fun o0=>o0.on fun s0=>some false
theorem lZ (l:List Int) (n_:Int) {r:Bool} (h:aD l n_=some r):Ad Tryz.prog 101 [.sl 1 (l.map An),.int .i64 n_] (·= .bool r):=by
 refine Ad.nle (Ad.intro Tryz.func101 rfl rfl (by show _≤18;simp) ?_)
 unfold aD at h
 refine nS (sq ?_)
 refine B5 rfl ?_
 refine gw3 rfl (bk ?_)
 obtain⟨o0,aa,ae⟩:=Ae h
 clear h
 refine AWP.Bh aa () (fun zz=>[(0,.sl 1 (l.map An)),(1,.int .i64 n_),(5,.int .i64 ((zz.1:Nat):Int))]) (fun zz=>[]) ?_
 rintro k0 ⟨⟩ ⟨⟩ bb aa
 dsimp only
 refine sq (rG rfl fun K j=>?_)
 intro hm
 refine j (cD rfl ?_ ?_)<;>intro hc
 ·obtain rfl:=fnD aa hc
  have h:=Ao ae;try dsimp only at h
  have af:=leD bb hc
  subst af
  refine Cr rfl ?_
  cases h;exact en Tryz.results101
 obtain⟨ab,b0,ag,bh,ao,h,aa⟩:=fcD aa hc
 have ay:=wk (k:=k0) (by omega)
 unfold dW at h;try dsimp only at h
 refine gw9 (rG rfl fun K j=>?_)
 refine A1.of (f:=An) (l:=l) ao ?_
 refine nS ?_
 refine j (cA h rfl ?_ ?_)<;>intro hc h
 ·refine Cs rfl ?_
  cases x0 h aa ae;exact en Tryz.results101
 refine gw5 rfl ?_
 refine lE ag aa h () ?_ ?_<;>exact cuw ay
def Tw (l:List A2) (zone:Int) (low:Int) (high:Int) (t:Int) (k1:Nat) (ak:A2) (sv:Int):Option (Out (Int) (Int)):=
 (Lt ak t).bind fun y4=>(bif y4 then(Hf l t).bind fun y5=>(bif (decide (ak.Version=y5))then (aD ak.Zones zone).bind fun y6=>(bif y6 then(bif (decide (ak.Low<high))then (bif (decide (low<ak.High))then some (Out.next (if sv<ak.Level then ak.Level else sv))else some (Out.next sv))else some (Out.next sv))else some (Out.next sv))else some (Out.next sv))else some (Out.next sv))
def Rl (l:List A2) (zone:Int) (low:Int) (high:Int) (t:Int):Option (Int):=
 (Al (Tw l zone low high t) 0 l 0).bind fun o1=>o1.on fun s1=>some s1
theorem gI (l:List A2) (zone:Int) (low:Int) (high:Int) (t:Int) {r:Int} (h:Rl l zone low high t=some r):Ad Tryz.prog 47 [.sl 7 (l.map Ap),.int .i64 zone,.int .i64 low,.int .i64 high,.int .i64 t] (·= .int .i64 r):=by
 refine Ad.nle (Ad.intro Tryz.func47 rfl rfl (by show _≤58;simp) ?_)
 unfold Rl at h
 refine nS (sq ?_)
 refine gw7 rfl ?_
 refine B5 rfl ?_
 refine gw3 rfl (bk ?_)
 obtain⟨o1,aq,db⟩:=Ae h
 clear h
 refine AWP.Bh aq () (fun zz=>[(0,.sl 7 (l.map Ap)),(1,.int .i64 zone),(2,.int .i64 low),(3,.int .i64 high),(4,.int .i64 t),(11,.int .i64 zz.2.1),(12,.int .i64 ((zz.1:Nat):Int))]) (fun zz=>[]) ?_
 rintro k1 n_1 ⟨⟩ ga aq
 dsimp only
 refine sq (rG rfl fun K j=>?_)
 intro hm
 refine j (cD rfl ?_ ?_)<;>intro hc
 ·obtain rfl:=fnD aq hc
  have h:=Ao db;try dsimp only at h
  have af:=leD ga hc
  subst af
  refine Cr rfl ?_
  cases h;exact en Tryz.results47
 obtain⟨ak,b1,bl,fx,fk,h,aq⟩:=fcD aq hc
 have cz:=wk (k:=k1) (by omega)
 unfold Tw at h;try dsimp only at h
 refine gw9 (rG rfl fun K j=>?_)
 refine A1.of (f:=Ap) (l:=l) fk ?_
 refine nS ?_
 refine j (sq (dR Tryz.mixed fun K j=>?_))
 refine nS ?_
 obtain⟨y4,ch,h⟩:=Ae h
 refine Br.pure Tryz.call99 (Uy ak t ch) rfl ?_
 refine nS ?_
 refine gT h ?_ ?_<;>intro hc h
 ·obtain⟨y5,cw,h⟩:=Ae h
  refine Br.pure Tryz.call100 (cM l t cw) rfl ?_
  refine nS ?_
  refine gT h ?_ ?_<;>intro hc h
  ·obtain⟨y6,ec,h⟩:=Ae h
   refine Br.pure Tryz.call101 (lZ ak.Zones zone ec) rfl ?_
   refine nS ?_
   refine gT h ?_ ?_<;>intro hc h
   ·refine gT h ?_ ?_<;>intro hc h
    ·refine j _ _ _ (by kernel_rfl) (qn (cA h rfl ?_ ?_))<;>intro hc h
     ·refine ar rfl (bn (qn ?_))
      refine gw3 rfl ?_
      refine lE bl aq h () ?_ ?_<;>exact cuw cz
     refine gw5 rfl ?_
     refine lE bl aq h () ?_ ?_<;>exact cuw cz
    refine j _ _ _ (by kernel_rfl) (qn (cf rfl (gw5 rfl ?_)))
    refine lE bl aq h () ?_ ?_<;>exact cuw cz
   refine j _ _ _ (by kernel_rfl) (qn (cf rfl (gw5 rfl ?_)))
   refine lE bl aq h () ?_ ?_<;>exact cuw cz
  refine j _ _ _ (by kernel_rfl) (qn (cf rfl (gw5 rfl ?_)))
  refine lE bl aq h () ?_ ?_<;>exact cuw cz
 refine j _ _ _ (by kernel_rfl) (qn (cf rfl (gw5 rfl ?_)))
 refine lE bl aq h () ?_ ?_<;>exact cuw cz
def Ji (f_:Af) (k2:Nat) (k5:Nat) (du:Cn) (sv:Int×Int):Option (Out (Int×Int) (Out ((List Int)) ((List Int)))):=
 (bif (decide (du.Zone≠(((k2:Nat):Int)+1)))then some (Out.next (sv.1,sv.2))else (Js f_.Map du.To).bind fun y8=>(bif (decide (y8<sv.1))then (Js f_.Map du.To).bind fun y9=>(Js f_.Map du.From).bind fun cr=>(bif (decide (sv.2<cr))then (Js f_.Map du.From).bind fun dz=>some (Out.next (y9,dz))else some (Out.next (y9,sv.2)))else (Js f_.Map du.From).bind fun ee=>(bif (decide (sv.2<ee))then (Js f_.Map du.From).bind fun gd=>some (Out.next (sv.1,gd))else some (Out.next (sv.1,sv.2)))))
def Ez (f_:Af) (k2:Nat) (_x:Unit) (sv:(List Int)):Option (Out ((List Int)) ((List Int))):=
 (Al (Ji f_ k2) 0 f_.Map.Runs (9999,(-1))).bind fun o5=>o5.on fun s5=>(bif (decide (0≤s5.2))then (Rl f_.Bulletin (((k2:Nat):Int)+1) s5.1 s5.2 f_.Time).bind fun kt=>chk (sv.length+1) (some (Out.next (sv++[kt])))else chk (sv.length+1) (some (Out.next (sv++[(0:Int)]))))
def Ix (f_:Af):Option ((List Int)):=
 (J8 (Ez f_) 32 []).bind fun o2=>o2.on fun s2=>some s2
theorem cJ (f_:Af) {r:(List Int)} (h:Ix f_=some r):A8 Tryz.prog 17 [.agg (Ai f_)] (·= .sl 1 (r.map An)):=by
 refine A8.nle (A8.intro Tryz.func17 rfl rfl (by show _≤72;simp) ?_)
 unfold Ix at h
 refine nS (sq ?_)
 refine gw7 rfl ?_
 refine B5 rfl ?_
 refine gw3 rfl (bk ?_)
 obtain⟨o2,aj,dn⟩:=Ae h
 clear h
 obtain⟨vh,aj⟩:=Ng aj
 refine AWP.Ma (ι:=Nat×((List Int))×(Nat)) (fun zz=>[(1,.ptr 0 0),(3,.own 1 zz.2.2 0 zz.2.1.length),(4,.int .i64 (((zz.1:Nat):Int)+(1:Int)))]) (fun zz=>[.box (Ai f_),.row zz.2.2 1 (zz.2.1.map An)]) (fun zz=>zz.1≤32∧Al (Ez f_) zz.1 ((List.replicate 32 ()).drop zz.1) zz.2.1=some o2) (fun zz=>32 - zz.1) (0,[],0) ⟨Nat.zero_le _,aj⟩ cu cu (fun x=>⟨rfl,rfl,rfl⟩) ?_
 clear aj
 rintro⟨k2,bx,bg⟩ ⟨df,aj⟩
 dsimp only at df aj ⊢
 refine sq (B8 rfl ?_)
 refine cD rfl ?_ ?_<;>intro hc
 ·obtain rfl:=J5 aj (fun hl=>by rw[Aov]at hl;have:=Aom hc;omega)
  have h:=Ao dn;try dsimp only at h
  have af:32=k2:=by have:=Aom hc;omega
  subst af
  refine Cr rfl ?_
  cases h;exact en Tryz.results17
 have az:k2<32:=by have:=Aon hc;omega
 obtain⟨_,b2,_,h,aj⟩:=G6 aj (by rw[Aov];exact az)
 have cj:IntKind.i64.wrap ((((k2:Nat):Int)+1)+1)=(((k2:Nat):Int)+1+1):=by rw[wrap_i64]<;>omega
 unfold Ez at h;try dsimp only at h
 refine gw9 (sq (B5 rfl ?_))
 refine gw3 rfl (bk ?_)
 obtain⟨o5,dp,mf⟩:=Ae h
 clear h
 refine AWP.Bh dp () (fun zz=>[(1,.ptr 0 0),(3,.own 1 bg 0 bx.length),(4,.int .i64 (((k2:Nat):Int)+1)),(5,.int .i64 zz.2.1.1),(6,.int .i64 zz.2.1.2),(7,.int .i64 ((zz.1:Nat):Int))]) (fun zz=>[.box (Ai f_),.row bg 1 (bx.map An)]) ?_
 rintro k5 ⟨low4,high5⟩ ⟨⟩ ud dp
 dsimp only
 refine sq (rG rfl fun K j=>?_)
 intro hm
 refine j (cD rfl ?_ ?_)<;>intro hc
 ·obtain rfl:=fnD dp hc
  have h:=Ao mf;try dsimp only at h
  have af:=leD ud hc
  subst af
  refine gw4 (sq (B5 rfl ?_))
  refine gw3 rfl ?_
  refine cA h rfl ?_ ?_<;>intro hc h
  ·refine rg rfl fun K j=>?_
   obtain⟨kt,kv,h⟩:=Ae h
   refine Ah.pure Tryz.call47 (gI f_.Bulletin (((k2:Nat):Int)+1) low4 high5 f_.Time kv) rfl fun _ hr=>?_
   subst hr
   refine nS ?_
   refine j _ _ (qn (rg rfl fun K j=>?_))
   obtain⟨hk,h⟩:=Bc h
   (repeat refine rp ?_);try simp +decide -implicitDefEqProofs only[go_sem]
   refine j _ _ (Eo rfl ?_)
   obtain rfl:=Aa h
   refine⟨(k2+1,(bx++[kt]),(bg+1)),⟨by dsimp only;omega,Cj aj⟩,by dsimp only;omega,?_,?_⟩
   ·exact cuw cj
   exact cuw cj
  refine Co (rg rfl fun K j=>?_)
  obtain⟨hk,h⟩:=Bc h
  (repeat refine rp ?_);try simp +decide -implicitDefEqProofs only[go_sem]
  refine j _ _ (Eo rfl ?_)
  obtain rfl:=Aa h
  refine⟨(k2+1,(bx++[(0:Int)]),(bg+1)),⟨by dsimp only;omega,Cj aj⟩,by dsimp only;omega,?_,?_⟩
  ·exact cuw cj
  exact cuw cj
 obtain⟨du,b5,fh,xb,qa,h,dp⟩:=fcD dp hc
 have ko:=wk (k:=k5) (by omega)
 unfold Ji at h;try dsimp only at h
 refine gw9 (rG rfl fun K j=>?_)
 refine A1.of (f:=Bj) (l:=f_.Map.Runs) qa ?_
 refine nS ?_
 refine j (sq (B8 rfl ?_))
 refine cA h rfl ?_ ?_<;>intro hc h
 ·refine xt (qe (bs (qn (gw3 rfl ?_))))
  refine lE fh dp h () ?_ ?_<;>exact cuw ko
 refine gw6 (rG rfl fun K j=>?_)
 obtain⟨y8,ej,h⟩:=Ae h
 refine Ah.pure Tryz.call46 (Hv f_.Map du.To ej) rfl fun _ hr=>?_
 subst hr
 refine nS ?_
 refine j (cA h rfl ?_ ?_)<;>intro hc h
 ·refine rg rfl fun K j=>?_
  obtain⟨y9,fu,h⟩:=Ae h
  refine Ah.pure Tryz.call46 (Hv f_.Map du.To fu) rfl fun _ hr=>?_
  subst hr
  refine nS ?_
  refine j _ _ (qn (rG rfl fun K j=>?_))
  obtain⟨cr,dq,h⟩:=Ae h
  refine Ah.pure Tryz.call46 (Hv f_.Map du.From dq) rfl fun _ hr=>?_
  subst hr
  refine nS ?_
  refine j (cA h rfl ?_ ?_)<;>intro hc h
  ·refine rg rfl fun K j=>?_
   obtain⟨dz,ff,h⟩:=Ae h
   refine Ah.pure Tryz.call46 (Hv f_.Map du.From ff) rfl fun _ hr=>?_
   subst hr
   refine nS ?_
   refine j _ _ (Eo rfl ?_)
   refine lE fh dp h () ?_ ?_<;>exact cuw ko
  refine gw5 rfl ?_
  refine lE fh dp h () ?_ ?_<;>exact cuw ko
 refine Co (rG rfl fun K j=>?_)
 obtain⟨ee,fw,h⟩:=Ae h
 refine Ah.pure Tryz.call46 (Hv f_.Map du.From fw) rfl fun _ hr=>?_
 subst hr
 refine nS ?_
 refine j (cA h rfl ?_ ?_)<;>intro hc h
 ·refine rg rfl fun K j=>?_
  obtain⟨gd,ir,h⟩:=Ae h
  refine Ah.pure Tryz.call46 (Hv f_.Map du.From ir) rfl fun _ hr=>?_
  subst hr
  refine nS ?_
  refine j _ _ (Eo rfl ?_)
  refine lE fh dp h () ?_ ?_<;>exact cuw ko
 refine gw5 rfl ?_
 refine lE fh dp h () ?_ ?_<;>exact cuw ko
theorem dS (f_:Af) {r:(List Int)} (h:Ix f_=some r):Ad Tryz.prog 17 [.agg (Ai f_)] (·= .sl 1 (r.map An)):=(cJ f_ h).pure
def Rj (l:List Bb) (kind:Int) (target:Int) (k2:Nat) (_x:Unit) (sv:(List Int)):Option (Out ((List Int)) ((List Int))):=
 (Fy l kind target (((k2:Nat):Int)+1)).bind fun y4=>(bif (decide (0≤y4))then chk (sv.length+1) (some (Out.next (sv++[(((k2:Nat):Int)+1)])))else some (Out.next sv))
def Tr (l:List Bb) (kind:Int) (target:Int):Option ((List Int)):=
 (J8 (Rj l kind target) 6 []).bind fun o2=>o2.on fun s2=>some s2
theorem lX (l:List Bb) (kind:Int) (target:Int) {r:(List Int)} (h:Tr l kind target=some r):A8 Tryz.prog 216 [.sl 4 (l.map Ay),.int .i64 kind,.int .i64 target] (·= .sl 1 (r.map An)):=by
 refine A8.nle (A8.intro Tryz.func216 rfl rfl (by show _≤24;simp) ?_)
 unfold Tr at h
 refine nS (sq ?_)
 refine gw7 rfl ?_
 refine B5 rfl ?_
 refine gw3 rfl (bk ?_)
 refine AWP.ghost 7 1 rfl (by decide) ?_
 obtain⟨o2,aj,dn⟩:=Ae h
 clear h
 obtain⟨vh,aj⟩:=Ng aj
 refine AWP.Ma (ι:=Nat×((List Int))×(Nat)) (fun zz=>[(0,.sl 4 (l.map Ay)),(1,.int .i64 kind),(2,.int .i64 target),(7,.own 0 zz.2.2 0 zz.2.1.length),(8,.int .i64 (((zz.1:Nat):Int)+(1:Int)))]) (fun zz=>[.row zz.2.2 1 (zz.2.1.map An)]) (fun zz=>zz.1≤6∧Al (Rj l kind target) zz.1 ((List.replicate 6 ()).drop zz.1) zz.2.1=some o2) (fun zz=>6 - zz.1) (0,[],0) ⟨Nat.zero_le _,aj⟩ cu cu (fun x=>⟨rfl,rfl,rfl⟩) ?_
 clear aj
 rintro⟨k2,bx,bg⟩ ⟨df,aj⟩
 dsimp only at df aj ⊢
 refine sq (B8 rfl ?_)
 refine cD rfl ?_ ?_<;>intro hc
 ·obtain rfl:=J5 aj (fun hl=>by rw[Aov]at hl;have:=Aom hc;omega)
  have h:=Ao dn;try dsimp only at h
  have af:6=k2:=by have:=Aom hc;omega
  subst af
  refine Cr rfl ?_
  cases h;exact en Tryz.results216
 have az:k2<6:=by have:=Aon hc;omega
 obtain⟨_,b2,_,h,aj⟩:=G6 aj (by rw[Aov];exact az)
 have cj:IntKind.i64.wrap ((((k2:Nat):Int)+1)+1)=(((k2:Nat):Int)+1+1):=by rw[wrap_i64]<;>omega
 unfold Rj at h;try dsimp only at h
 refine gw9 (rG rfl fun K j=>?_)
 obtain⟨y4,ch,h⟩:=Ae h
 refine Ah.pure Tryz.call182 (We l kind target (((k2:Nat):Int)+1) ch) rfl fun _ hr=>?_
 subst hr
 refine nS ?_
 refine j (cA h rfl ?_ ?_)<;>intro hc h
 ·refine rg rfl fun K j=>?_
  obtain⟨hk,h⟩:=Bc h
  (repeat refine rp ?_);try simp +decide -implicitDefEqProofs only[go_sem]
  refine j _ _ (Eo rfl ?_)
  obtain rfl:=Aa h
  refine⟨(k2+1,(bx++[(((k2:Nat):Int)+1)]),(bg+1)),⟨by dsimp only;omega,Cj aj⟩,by dsimp only;omega,?_,?_⟩
  ·exact cuw cj
  exact cuw cj
 refine gw5 rfl ?_
 obtain rfl:=Aa h
 refine⟨(k2+1,bx,bg),⟨by dsimp only;omega,Cj aj⟩,by dsimp only;omega,?_,?_⟩
 ·exact cuw cj
 exact cuw cj
theorem bL (l:List Bb) (kind:Int) (target:Int) {r:(List Int)} (h:Tr l kind target=some r):Ad Tryz.prog 216 [.sl 4 (l.map Ay),.int .i64 kind,.int .i64 target] (·= .sl 1 (r.map An)):=(lX l kind target h).pure
def Wd (m:Av) (l:List Bb) (run:Int):Option (Bool):=
 (Ju m run).bind fun y1=>(bif y1.2 then(Tr l 1 run).bind fun y2=>(bif (decide (0<((y2.length:Nat):Int)))then some true else(Tr l 3 y1.1.Zone).bind fun y3=>some (decide (0<((y3.length:Nat):Int))))else some false)
theorem lW (m:Av) (l:List Bb) (run:Int) {r:Bool} (h:Wd m l run=some r):Ad Tryz.prog 112 [.agg (Be m),.sl 4 (l.map Ay),.int .i64 run] (·= .bool r):=by
 refine Ad.nle (Ad.intro Tryz.func112 rfl rfl (by show _≤31;simp) ?_)
 unfold Wd at h
 refine nS (sq ?_)
 refine gw7 rfl ?_
 refine rg rfl fun K j=>?_
 obtain⟨y1,bp,h⟩:=Ae h
 refine Ah.pure Tryz.call32 (Gd m run bp) rfl fun _ hr=>?_
 subst hr
 refine nS ?_
 refine j _ _ (qn (rG rfl fun K j=>?_))
 refine gT h ?_ ?_<;>intro hc h
 ·obtain⟨y2,cx,h⟩:=Ae h
  refine Ah.pure Tryz.call216 (bL l 1 run cx) rfl fun _ hr=>?_
  subst hr
  refine nS ?_
  intro hm
  refine gF h ?_ ?_<;>intro hc h
  ·obtain⟨y3,bu,h⟩:=Ae h
   refine Ah.pure Tryz.call216 (bL l 3 y1.1.Zone bu) rfl fun _ hr=>?_
   subst hr
   refine nS ?_
   intro hm
   refine j (rt ?_)
   cases h;exact en Tryz.results112
  refine j (rt ?_)
  cases h;exact en Tryz.results112
 refine j (rt ?_)
 cases h;exact en Tryz.results112
def Yw (run:Int) (k0:Nat) (ab:B3) (sv:Unit):Option (Out (Unit) (Bool)):=
 (bif (decide (ab.State=2))then (bif (decide (ab.Run=run))then some (Out.ret true)else some (Out.next ()))else some (Out.next ()))
def Yx (l:List B3) (run:Int):Option (Bool):=
 (Al (Yw run) 0 l ()).bind fun o0=>o0.on fun s0=>some false
theorem oB (l:List B3) (run:Int) {r:Bool} (h:Yx l run=some r):Ad Tryz.prog 113 [.sl 8 (l.map A7),.int .i64 run] (·= .bool r):=by
 refine Ad.nle (Ad.intro Tryz.func113 rfl rfl (by show _≤27;simp) ?_)
 unfold Yx at h
 refine nS (sq ?_)
 refine B5 rfl ?_
 refine gw3 rfl (bk ?_)
 obtain⟨o0,aa,ae⟩:=Ae h
 clear h
 refine AWP.Bh aa () (fun zz=>[(0,.sl 8 (l.map A7)),(1,.int .i64 run),(5,.int .i64 ((zz.1:Nat):Int))]) (fun zz=>[]) ?_
 rintro k0 ⟨⟩ ⟨⟩ bb aa
 dsimp only
 refine sq (rG rfl fun K j=>?_)
 intro hm
 refine j (cD rfl ?_ ?_)<;>intro hc
 ·obtain rfl:=fnD aa hc
  have h:=Ao ae;try dsimp only at h
  have af:=leD bb hc
  subst af
  refine Cr rfl ?_
  cases h;exact en Tryz.results113
 obtain⟨ab,b0,ag,bh,ao,h,aa⟩:=fcD aa hc
 have ay:=wk (k:=k0) (by omega)
 unfold Yw at h;try dsimp only at h
 refine gw9 (rG rfl fun K j=>?_)
 refine A1.of (f:=A7) (l:=l) ao ?_
 refine nS ?_
 refine gT h ?_ ?_<;>intro hc h
 ·refine A1.of (f:=A7) (l:=l) ao ?_
  refine nS ?_
  refine j (cA h rfl ?_ ?_)<;>intro hc h
  ·refine Cs rfl ?_
   cases x0 h aa ae;exact en Tryz.results113
  refine gw5 rfl ?_
  refine lE ag aa h () ?_ ?_<;>exact cuw ay
 refine j (cf rfl (gw5 rfl ?_))
 refine lE ag aa h () ?_ ?_<;>exact cuw ay
def O3 (t:Int) (bx:List Int) (k2:Nat) (k3:Nat) (cm:Am) (sv:Unit):Option (Out (Unit) (Out ((List Int)) ((List Int)))):=
 (bif (decide (cm.From≤t))then (bif (decide (t<cm.To))then (S9 cm.Runs (((k2:Nat):Int)+1)).bind fun y6=>(bif y6 then chk (bx.length+1) (some (Out.ret (Out.next (bx++[(((k2:Nat):Int)+1)]))))else some (Out.next ()))else some (Out.next ()))else some (Out.next ()))
def Kv (l:List Am) (t:Int) (k2:Nat) (_x:Unit) (sv:(List Int)):Option (Out ((List Int)) ((List Int))):=
 (Al (O3 t sv k2) 0 l ()).bind fun o3=>o3.on fun s3=>some (Out.next sv)
def N6 (l:List Am) (t:Int):Option ((List Int)):=
 (J8 (Kv l t) 9999 []).bind fun o2=>o2.on fun s2=>some s2
theorem dY (l:List Am) (t:Int) {r:(List Int)} (h:N6 l t=some r):A8 Tryz.prog 114 [.sl 4 (l.map Aj),.int .i64 t] (·= .sl 1 (r.map An)):=by
 refine A8.nle (A8.intro Tryz.func114 rfl rfl (by show _≤48;simp) ?_)
 unfold N6 at h
 refine nS (sq ?_)
 refine gw7 rfl ?_
 refine B5 rfl ?_
 refine gw3 rfl (bk ?_)
 refine AWP.ghost 5 1 rfl (by decide) ?_
 obtain⟨o2,aj,dn⟩:=Ae h
 clear h
 obtain⟨vh,aj⟩:=Ng aj
 refine AWP.Ma (ι:=Nat×((List Int))×(Nat)) (fun zz=>[(0,.sl 4 (l.map Aj)),(1,.int .i64 t),(5,.own 0 zz.2.2 0 zz.2.1.length),(6,.int .i64 (((zz.1:Nat):Int)+(1:Int)))]) (fun zz=>[.row zz.2.2 1 (zz.2.1.map An)]) (fun zz=>zz.1≤9999∧Al (Kv l t) zz.1 ((List.replicate 9999 ()).drop zz.1) zz.2.1=some o2) (fun zz=>9999 - zz.1) (0,[],0) ⟨Nat.zero_le _,aj⟩ cu cu (fun x=>⟨rfl,rfl,rfl⟩) ?_
 clear aj
 rintro⟨k2,bx,bg⟩ ⟨df,aj⟩
 dsimp only at df aj ⊢
 refine sq (B8 rfl ?_)
 refine cD rfl ?_ ?_<;>intro hc
 ·obtain rfl:=J5 aj (fun hl=>by rw[Aov]at hl;have:=Aom hc;omega)
  have h:=Ao dn;try dsimp only at h
  have af:9999=k2:=by have:=Aom hc;omega
  subst af
  refine Cr rfl ?_
  cases h;exact en Tryz.results114
 have az:k2<9999:=by have:=Aon hc;omega
 obtain⟨_,b2,_,h,aj⟩:=G6 aj (by rw[Aov];exact az)
 have cj:IntKind.i64.wrap ((((k2:Nat):Int)+1)+1)=(((k2:Nat):Int)+1+1):=by rw[wrap_i64]<;>omega
 unfold Kv at h;try dsimp only at h
 refine gw9 (B8 rfl (bk ?_))
 obtain⟨o3,bo,ew⟩:=Ae h
 clear h
 refine AWP.Bh bo () (fun zz=>[(0,.sl 4 (l.map Aj)),(1,.int .i64 t),(5,.own 0 bg 0 bx.length),(6,.int .i64 (((k2:Nat):Int)+1)),(7,.int .i64 ((zz.1:Nat):Int))]) (fun zz=>[.row bg 1 (bx.map An)]) ?_
 rintro k3 ⟨⟩ ⟨⟩ jz bo
 dsimp only
 refine sq (rG rfl fun K j=>?_)
 intro hm
 refine j (cD rfl ?_ ?_)<;>intro hc
 ·obtain rfl:=fnD bo hc
  have h:=Ao ew;try dsimp only at h
  have af:=leD jz hc
  subst af
  refine xt (qe (qe (bs (Eo rfl ?_))))
  obtain rfl:=Aa h
  refine⟨(k2+1,bx,bg),⟨by dsimp only;omega,Cj aj⟩,by dsimp only;omega,?_,?_⟩
  ·exact cuw cj
  exact cuw cj
 obtain⟨cm,b3,da,lr,gn,h,bo⟩:=fcD bo hc
 have gi:=wk (k:=k3) (by omega)
 unfold O3 at h;try dsimp only at h
 refine gw9 (rG rfl fun K j=>?_)
 refine A1.of (f:=Aj) (l:=l) gn ?_
 refine nS ?_
 refine gT h ?_ ?_<;>intro hc h
 ·refine A1.of (f:=Aj) (l:=l) gn ?_
  refine nS ?_
  refine gT h ?_ ?_<;>intro hc h
  ·refine A1.of (f:=Aj) (l:=l) gn ?_
   refine nS ?_
   obtain⟨y6,ec,h⟩:=Ae h
   refine Ah.pure Tryz.call217 (Yv cm.Runs (((k2:Nat):Int)+1) ec) rfl fun _ hr=>?_
   subst hr
   refine nS ?_
   refine j (cA h rfl ?_ ?_)<;>intro hc h
   ·refine sq (rg rfl fun K j=>?_)
    obtain⟨hk,h⟩:=Bc h
    (repeat refine rp ?_);try simp +decide -implicitDefEqProofs only[go_sem]
    refine j _ _ (qn (xt (qS (by decide) (qe (qe ?_)))))
    refine bs (Eo rfl ?_)
    replace h:=x0 h bo ew
    obtain rfl:=Aa h
    refine⟨(k2+1,(bx++[(((k2:Nat):Int)+1)]),(bg+1)),⟨by dsimp only;omega,Cj aj⟩,by dsimp only;omega,?_,?_⟩
    ·exact cuw cj
    exact cuw cj
   refine gw5 rfl ?_
   refine lE da bo h () ?_ ?_<;>exact cuw gi
  refine j (cf rfl (gw5 rfl ?_))
  refine lE da bo h () ?_ ?_<;>exact cuw gi
 refine j (cf rfl (gw5 rfl ?_))
 refine lE da bo h () ?_ ?_<;>exact cuw gi
theorem gL (l:List Am) (t:Int) {r:(List Int)} (h:N6 l t=some r):Ad Tryz.prog 114 [.sl 4 (l.map Aj),.int .i64 t] (·= .sl 1 (r.map An)):=(dY l t h).pure
def jI (n_:Int) (k0:Nat) (ab:Int) (sv:Unit):Option (Out (Unit) (Bool)):=
 (bif (decide (ab=n_))then some (Out.ret true)else some (Out.next ()))
def Gw (l:List Int) (n_:Int):Option (Bool):=
 (Al (jI n_) 0 l ()).bind fun o0=>o0.on fun s0=>some false
theorem E7 (l:List Int) (n_:Int) {r:Bool} (h:Gw l n_=some r):Ad Tryz.prog 31 [.sl 1 (l.map An),.int .i64 n_] (·= .bool r):=by
 refine Ad.nle (Ad.intro Tryz.func31 rfl rfl (by show _≤18;simp) ?_)
 unfold Gw at h
 refine nS (sq ?_)
 refine B5 rfl ?_
 refine gw3 rfl (bk ?_)
 obtain⟨o0,aa,ae⟩:=Ae h
 clear h
 refine AWP.Bh aa () (fun zz=>[(0,.sl 1 (l.map An)),(1,.int .i64 n_),(5,.int .i64 ((zz.1:Nat):Int))]) (fun zz=>[]) ?_
 rintro k0 ⟨⟩ ⟨⟩ bb aa
 dsimp only
 refine sq (rG rfl fun K j=>?_)
 intro hm
 refine j (cD rfl ?_ ?_)<;>intro hc
 ·obtain rfl:=fnD aa hc
  have h:=Ao ae;try dsimp only at h
  have af:=leD bb hc
  subst af
  refine Cr rfl ?_
  cases h;exact en Tryz.results31
 obtain⟨ab,b0,ag,bh,ao,h,aa⟩:=fcD aa hc
 have ay:=wk (k:=k0) (by omega)
 unfold jI at h;try dsimp only at h
 refine gw9 (rG rfl fun K j=>?_)
 refine A1.of (f:=An) (l:=l) ao ?_
 refine nS ?_
 refine j (cA h rfl ?_ ?_)<;>intro hc h
 ·refine Cs rfl ?_
  cases x0 h aa ae;exact en Tryz.results31
 refine gw5 rfl ?_
 refine lE ag aa h () ?_ ?_<;>exact cuw ay
def Jk (last1:Int) (k5:Nat) (du:A5) (sv:Int):Option (Out (Int) (Out (Int×(List Int)) ((List Int)))):=
 (No du).bind fun y8=>(bif y8 then(bif (decide (du.State≠0))then (bif (decide (last1<du.Slide))then (bif (decide (sv=0))then some (Out.next du.Slide)else (bif (decide (du.Slide<sv))then some (Out.next du.Slide)else some (Out.next sv)))else some (Out.next sv))else some (Out.next sv))else some (Out.next sv))
def Jl (l:List A5) (sv:Int×(List Int)):Option (Out (Int×(List Int)) ((List Int))):=
 (Al (Jk sv.1) 0 l 0).bind fun o5=>o5.on fun s5=>(bif (decide (s5=0))then some (Out.ret sv.2)else chk (sv.2.length+1) (some (Out.next (s5,(sv.2++[s5])))))
def Ls (l:List A5):Option ((List Int)):=
 (Dx (Jl l) fuel (0,[])).bind fun o3=>o3.on fun _=>none
theorem cK (l:List A5) {r:(List Int)} (h:Ls l=some r):A8 Tryz.prog 218 [.sl 7 (l.map Aq)] (·= .sl 1 (r.map An)):=by
 refine A8.nle (A8.intro Tryz.func218 rfl rfl (by show _≤61;simp) ?_)
 unfold Ls at h
 refine nS (sq ?_)
 refine gw7 rfl ?_
 refine gw7 rfl ?_
 refine gw3 rfl (bk ?_)
 refine AWP.ghost 3 1 rfl (by decide) ?_
 obtain⟨o3,bo,ew⟩:=Ae h
 clear h
 refine AWP.Ma (ι:=Nat×(Int×(List Int))×(Nat)) (fun zz=>[(0,.sl 7 (l.map Aq)),(3,.own 0 zz.2.2 0 zz.2.1.2.length),(4,.int .i64 zz.2.1.1)]) (fun zz=>[.row zz.2.2 1 (zz.2.1.2.map An)]) (fun zz=>Dx (Jl l) zz.1 zz.2.1=some o3) (fun zz=>zz.1) (fuel,(0,[]),0) bo cu cu (fun x=>⟨rfl,rfl,rfl⟩) ?_
 clear bo
 rintro⟨n3,⟨last1,tj⟩,iq⟩ bo
 dsimp only at bo ⊢
 obtain⟨m3,b3,rfl,h,bo⟩:=Fp bo
 unfold Jl at h;try dsimp only at h
 refine bk (sq (B5 rfl ?_))
 refine gw3 rfl (bk ?_)
 obtain⟨o5,dp,mf⟩:=Ae h
 clear h
 refine AWP.Bh dp () (fun zz=>[(0,.sl 7 (l.map Aq)),(3,.own 0 iq 0 tj.length),(4,.int .i64 last1),(5,.int .i64 zz.2.1),(6,.int .i64 ((zz.1:Nat):Int))]) (fun zz=>[.row iq 1 (tj.map An)]) ?_
 rintro k5 next_5 ⟨⟩ ud dp
 dsimp only
 refine sq (rG rfl fun K j=>?_)
 intro hm
 refine j (cD rfl ?_ ?_)<;>intro hc
 ·obtain rfl:=fnD dp hc
  have h:=Ao mf;try dsimp only at h
  have af:=leD ud hc
  subst af
  refine gw4 (sq (B8 rfl ?_))
  refine cA h rfl ?_ ?_<;>intro hc h
  ·refine gw8 rfl (br (qr (br ?_)))
   cases x0 h bo ew;exact en Tryz.results218
  refine Co (rG rfl fun K j=>?_)
  obtain⟨hk,h⟩:=Bc h
  (repeat refine rp ?_);try simp +decide -implicitDefEqProofs only[go_sem]
  refine j (ar rfl (bn (qn ?_)))
  obtain rfl:=Aa h
  refine⟨(m3,(next_5,(tj++[next_5])),(iq+1)),Cj bo,by dsimp only;omega,?_,?_⟩
  ·exact cu
  exact cu
 obtain⟨du,b5,fh,xb,qa,h,dp⟩:=fcD dp hc
 have ko:=wk (k:=k5) (by omega)
 unfold Jk at h;try dsimp only at h
 refine gw9 (rG rfl fun K j=>?_)
 refine A1.of (f:=Aq) (l:=l) qa ?_
 refine nS ?_
 obtain⟨y8,ej,h⟩:=Ae h
 refine Ah.pure Tryz.call189 (R9 du ej) rfl fun _ hr=>?_
 subst hr
 refine nS ?_
 refine gT h ?_ ?_<;>intro hc h
 ·refine A1.of (f:=Aq) (l:=l) qa ?_
  refine nS ?_
  refine gT h ?_ ?_<;>intro hc h
  ·refine A1.of (f:=Aq) (l:=l) qa ?_
   refine nS ?_
   refine gT h ?_ ?_<;>intro hc h
   ·refine gF h ?_ ?_<;>intro hc h
    ·refine A1.of (f:=Aq) (l:=l) qa ?_
     refine nS ?_
     refine j (cA h rfl ?_ ?_)<;>intro hc h
     ·refine rg rfl fun K j=>?_
      refine A1.of (f:=Aq) (l:=l) qa ?_
      refine nS ?_
      refine j _ _ (Eo rfl ?_)
      refine lE fh dp h () ?_ ?_<;>exact cuw ko
     refine gw5 rfl ?_
     refine lE fh dp h () ?_ ?_<;>exact cuw ko
    refine j (ct rfl (rg rfl fun K j=>?_))
    refine A1.of (f:=Aq) (l:=l) qa ?_
    refine nS ?_
    refine j _ _ (Eo rfl ?_)
    refine lE fh dp h () ?_ ?_<;>exact cuw ko
   refine j (cf rfl (gw5 rfl ?_))
   refine lE fh dp h () ?_ ?_<;>exact cuw ko
  refine j (cf rfl (gw5 rfl ?_))
  refine lE fh dp h () ?_ ?_<;>exact cuw ko
 refine j (cf rfl (gw5 rfl ?_))
 refine lE fh dp h () ?_ ?_<;>exact cuw ko
theorem dU (l:List A5) {r:(List Int)} (h:Ls l=some r):Ad Tryz.prog 218 [.sl 7 (l.map Aq)] (·= .sl 1 (r.map An)):=(cK l h).pure
def Qb (zone:Int) (y1:(List Int)) (k1:Nat) (ak:Aw) (sv:Unit):Option (Out (Unit) (Bool)):=
 (Gw y1 ak.ID).bind fun y4=>(bif y4 then(Gw ak.Zones zone).bind fun y5=>(bif y5 then some (Out.ret true)else some (Out.next ()))else some (Out.next ()))
def Mx (f_:Af) (zone:Int):Option (Bool):=
 (Ls f_.Missions).bind fun y1=>(Al (Qb zone y1) 0 f_.Slides ()).bind fun o1=>o1.on fun s1=>some false
theorem cG (f_:Af) (zone:Int) {r:Bool} (h:Mx f_ zone=some r):Ad Tryz.prog 115 [.agg (Ai f_),.int .i64 zone] (·= .bool r):=by
 refine Ad.nle (Ad.intro Tryz.func115 rfl rfl (by show _≤35;simp) ?_)
 unfold Mx at h
 refine nS (sq ?_)
 refine gw7 rfl ?_
 refine rg rfl fun K j=>?_
 obtain⟨y1,bp,h⟩:=Ae h
 refine Ah.pure Tryz.call218 (dU f_.Missions bp) rfl fun _ hr=>?_
 subst hr
 refine nS ?_
 refine j _ _ (qn (sq (B8 rfl (bk ?_))))
 obtain⟨o1,aq,db⟩:=Ae h
 clear h
 refine AWP.Bh aq () (fun zz=>[(1,.int .i64 zone),(2,.ptr 0 0),(5,.sl 1 (y1.map An)),(6,.int .i64 ((zz.1:Nat):Int))]) (fun zz=>[.box (Ai f_)]) ?_
 rintro k1 ⟨⟩ ⟨⟩ ga aq
 dsimp only
 refine sq (rG rfl fun K j=>?_)
 intro hm
 refine j (cD rfl ?_ ?_)<;>intro hc
 ·obtain rfl:=fnD aq hc
  have h:=Ao db;try dsimp only at h
  have af:=leD ga hc
  subst af
  refine Cr rfl ?_
  cases h;exact en Tryz.results115
 obtain⟨ak,b1,bl,fx,fk,h,aq⟩:=fcD aq hc
 have cz:=wk (k:=k1) (by omega)
 unfold Qb at h;try dsimp only at h
 refine gw9 (rG rfl fun K j=>?_)
 refine A1.of (f:=Az) (l:=f_.Slides) fk ?_
 refine nS ?_
 obtain⟨y4,ch,h⟩:=Ae h
 refine Ah.pure Tryz.call31 (E7 y1 ak.ID ch) rfl fun _ hr=>?_
 subst hr
 refine nS ?_
 refine gT h ?_ ?_<;>intro hc h
 ·refine A1.of (f:=Az) (l:=f_.Slides) fk ?_
  refine nS ?_
  obtain⟨y5,cw,h⟩:=Ae h
  refine Ah.pure Tryz.call31 (E7 ak.Zones zone cw) rfl fun _ hr=>?_
  subst hr
  refine nS ?_
  refine j (cA h rfl ?_ ?_)<;>intro hc h
  ·refine Cs rfl ?_
   cases x0 h aq db;exact en Tryz.results115
  refine gw5 rfl ?_
  refine lE bl aq h () ?_ ?_<;>exact cuw cz
 refine j (cf rfl (gw5 rfl ?_))
 refine lE bl aq h () ?_ ?_<;>exact cuw cz
def O1 (levels:List Int) (k1:Nat) (ak:Int) (sv:Int):Option (Out (Int) (Int)):=
 (bif (decide (ak≤((levels.length:Nat):Int)))then (Da levels (IntKind.i64.wrap (ak - 1))).bind fun aw=>(bif (decide (((k1:Nat):Int)=0))then some (Out.next aw)else (bif (decide (sv<aw))then some (Out.next aw)else some (Out.next sv)))else (bif (decide (((k1:Nat):Int)=0))then some (Out.next 0)else (bif (decide (sv<0))then some (Out.next 0)else some (Out.next sv))))
def Ux (s_:Aw) (levels:List Int):Option (Int):=
 (Al (O1 levels) 0 s_.Zones 0).bind fun o1=>o1.on fun s1=>some s1
theorem gD (s_:Aw) (levels:List Int) {r:Int} (h:Ux s_ levels=some r):Ad Tryz.prog 269 [.agg (Az s_),.sl 1 (levels.map An)] (·= .int .i64 r):=by
 refine Ad.nle (Ad.intro Tryz.func269 rfl rfl (by show _≤41;simp) ?_)
 unfold Ux at h
 refine nS (sq ?_)
 refine gw7 rfl ?_
 refine B5 rfl ?_
 refine gw3 rfl (bk ?_)
 obtain⟨o1,aq,db⟩:=Ae h
 clear h
 refine AWP.Bh aq () (fun zz=>[(1,.sl 1 (levels.map An)),(2,.ptr 0 0),(5,.int .i64 zz.2.1),(6,.int .i64 ((zz.1:Nat):Int))]) (fun zz=>[.box (Az s_)]) ?_
 rintro k1 most1 ⟨⟩ ga aq
 dsimp only
 refine sq (rG rfl fun K j=>?_)
 intro hm
 refine j (cD rfl ?_ ?_)<;>intro hc
 ·obtain rfl:=fnD aq hc
  have h:=Ao db;try dsimp only at h
  have af:=leD ga hc
  subst af
  refine Cr rfl ?_
  cases h;exact en Tryz.results269
 obtain⟨ak,b1,bl,fx,fk,h,aq⟩:=fcD aq hc
 have cz:=wk (k:=k1) (by omega)
 unfold O1 at h;try dsimp only at h
 refine gw9 (sq (B5 rfl ?_))
 refine rg rfl fun K j=>?_
 refine A1.of (f:=An) (l:=s_.Zones) fk ?_
 refine nS ?_
 intro hm
 refine j _ _ (qn (cA h rfl ?_ ?_))<;>intro hc h
 ·refine rg rfl fun K j=>?_
  refine A1.of (f:=An) (l:=s_.Zones) fk ?_
  refine nS ?_
  obtain⟨aw,fg,h⟩:=Ae h
  refine A1.of (f:=An) (l:=levels) fg ?_
  refine nS ?_
  refine j _ _ (qn (rG rfl fun K j=>?_))
  refine gF h ?_ ?_<;>intro hc h
  ·refine j (cA h rfl ?_ ?_)<;>intro hc h
   ·refine ar rfl (bn (qn ?_))
    refine gw3 rfl ?_
    refine lE bl aq h () ?_ ?_<;>exact cuw cz
   refine gw5 rfl ?_
   refine lE bl aq h () ?_ ?_<;>exact cuw cz
  refine j (ct rfl (ar rfl (bn (qn ?_))))
  refine gw3 rfl ?_
  refine lE bl aq h () ?_ ?_<;>exact cuw cz
 refine Co (rG rfl fun K j=>?_)
 refine gF h ?_ ?_<;>intro hc h
 ·refine j (cA h rfl ?_ ?_)<;>intro hc h
  ·refine ar rfl (bn (qn ?_))
   refine gw3 rfl ?_
   refine lE bl aq h () ?_ ?_<;>exact cuw cz
  refine gw5 rfl ?_
  refine lE bl aq h () ?_ ?_<;>exact cuw cz
 refine j (ct rfl (ar rfl (bn (qn ?_))))
 refine gw3 rfl ?_
 refine lE bl aq h () ?_ ?_<;>exact cuw cz
def Kr (s_:Aw) (levels:List Int):Option (Bool):=
 (Ux s_ levels).bind fun y1=>(bif (decide (4<y1))then some true else(bif (decide (y1=4))then some (decide ((IntKind.i64.wrap (Int.tdiv s_.Limit 4))≤s_.Load))else (bif (decide (y1=3))then some (decide ((IntKind.i64.wrap (Int.tdiv s_.Limit 2))≤s_.Load))else some (decide (s_.Limit≤s_.Load)))))
theorem aX (s_:Aw) (levels:List Int) {r:Bool} (h:Kr s_ levels=some r):Ad Tryz.prog 219 [.agg (Az s_),.sl 1 (levels.map An)] (·= .bool r):=by
 refine Ad.nle (Ad.intro Tryz.func219 rfl rfl (by show _≤35;simp) ?_)
 unfold Kr at h
 refine nS (sq ?_)
 refine gw7 rfl ?_
 refine rg rfl fun K j=>?_
 obtain⟨y1,bp,h⟩:=Ae h
 refine Ah.pure Tryz.call269 (gD s_ levels bp) rfl fun _ hr=>?_
 subst hr
 refine nS ?_
 refine j _ _ (qn (bk (B8 rfl ?_)))
 refine cA h rfl ?_ ?_<;>intro hc h
 ·refine gw1 rfl (br ?_)
  cases h;exact en Tryz.results219
 refine B8 rfl ?_
 refine cA h rfl ?_ ?_<;>intro hc h
 ·refine gw1 rfl (br ?_)
  cases h;exact en Tryz.results219
 refine B8 rfl ?_
 refine cA h rfl ?_ ?_<;>intro hc h
 ·refine gw1 rfl (br ?_)
  cases h;exact en Tryz.results219
 refine gw1 rfl (br ?_)
 cases h;exact en Tryz.results219
def Kq (at_10:Int) (sv:Int×(List Int)):Option (Out (Int×(List Int)) (Out ((List Int)) (Out ((List Int)) ((List Int))))):=
 (bif (decide (at_10<sv.1))then (Da sv.2 (IntKind.i64.wrap (sv.1 - 1))).bind fun ke=>(Da sv.2 sv.1).bind fun gu=>(Da (sv.2.set sv.1.toNat ke) (IntKind.i64.wrap (sv.1 - 1))).bind fun mz=>some (Out.next ((IntKind.i64.wrap (sv.1 - 1)),((sv.2.set sv.1.toNat ke).set (IntKind.i64.wrap (sv.1 - 1)).toNat gu)))else some (Out.ret (Out.next sv.2)))
def F8 (dg:List Int) (ey:Int) (at_10:Int):Option (Out ((List Int)) (Out ((List Int)) ((List Int)))):=
 chk (dg.length+1) ((Dx (Kq at_10) fuel ((IntKind.i64.wrap ((((dg.length+1):Nat):Int) - 1)),(dg++[ey]))).bind fun o15=>o15.on fun _=>none)
def Hy (dg:List Int) (ey:Int) (at_10:Int):Option (Out ((List Int)) (Out ((List Int)) ((List Int)))):=
 (bif (decide (at_10<((dg.length:Nat):Int)))then (Da dg at_10).bind fun zf=>(bif (decide (zf=ey))then some (Out.next dg)else F8 dg ey at_10)else F8 dg ey at_10)
def Kp (dg:List Int) (ey:Int) (sv:Int):Option (Out (Int) (Out ((List Int)) (Out ((List Int)) ((List Int))))):=
 (bif (decide (sv<((dg.length:Nat):Int)))then (Da dg sv).bind fun ka=>(bif (decide (ka<ey))then some (Out.next (IntKind.i64.wrap (sv+1)))else (Hy dg ey sv).bind fun q25=>some (Out.ret q25))else (bif false then some (Out.next (IntKind.i64.wrap (sv+1)))else (Hy dg ey sv).bind fun q26=>some (Out.ret q26)))
def F9 (k7:Nat) (ey:Int) (sv:(List Int)):Option (Out ((List Int)) (Out ((List Int)) ((List Int)))):=
 (Dx (Kp sv ey) fuel 0).bind fun o23=>o23.on fun _=>none
def Tu (levels:List Int) (k2:Nat) (aw:Aw) (sv:(List Int)):Option (Out ((List Int)) ((List Int))):=
 (Kr aw levels).bind fun y5=>(bif y5 then(Al F9 0 aw.Zones sv).bind fun o7=>o7.on fun s7=>some (Out.next s7)else some (Out.next sv))
def N4 (l:List Aw) (levels:List Int):Option ((List Int)):=
 (Al (Tu levels) 0 l []).bind fun o2=>o2.on fun s2=>some s2
theorem dV (l:List Aw) (levels:List Int) {r:(List Int)} (h:N4 l levels=some r):A8 Tryz.prog 116 [.sl 6 (l.map Az),.sl 1 (levels.map An)] (·= .sl 1 (r.map An)):=by
 refine A8.nle (A8.intro Tryz.func116 rfl rfl (by show _≤27;simp) ?_)
 unfold N4 at h
 refine nS (sq ?_)
 refine gw7 rfl ?_
 refine B5 rfl ?_
 refine gw3 rfl (bk ?_)
 refine AWP.ghost 5 1 rfl (by decide) ?_
 obtain⟨o2,aj,dn⟩:=Ae h
 clear h
 refine AWP.Bh aj (0:Nat) (fun zz=>[(0,.sl 6 (l.map Az)),(1,.sl 1 (levels.map An)),(5,.own 0 zz.2.2 0 zz.2.1.length),(6,.int .i64 ((zz.1:Nat):Int))]) (fun zz=>[.row zz.2.2 1 (zz.2.1.map An)]) ?_
 rintro k2 bx bg df aj
 dsimp only
 refine sq (rG rfl fun K j=>?_)
 intro hm
 refine j (cD rfl ?_ ?_)<;>intro hc
 ·obtain rfl:=fnD aj hc
  have h:=Ao dn;try dsimp only at h
  have af:=leD df hc
  subst af
  refine Cr rfl ?_
  cases h;exact en Tryz.results116
 obtain⟨aw,b2,az,fo,ep,h,aj⟩:=fcD aj hc
 have cj:=wk (k:=k2) (by omega)
 unfold Tu at h;try dsimp only at h
 refine gw9 (rG rfl fun K j=>?_)
 refine A1.of (f:=Az) (l:=l) ep ?_
 refine nS ?_
 obtain⟨y5,cw,h⟩:=Ae h
 refine Ah.pure Tryz.call219 (aX aw levels cw) rfl fun _ hr=>?_
 subst hr
 refine nS ?_
 refine j (cA h rfl ?_ ?_)<;>intro hc h
 ·refine rg rfl fun K j=>?_
  refine A1.of (f:=Az) (l:=l) ep ?_
  refine nS ?_
  refine Ah.inline Tryz.call220 Tryz.func220 rfl rfl (by show _≤78;simp) ?_
  refine nS (sq ?_)
  refine B5 rfl ?_
  refine gw3 rfl (bk ?_)
  obtain⟨o7,nm,hO7⟩:=Ae h
  clear h
  refine AWP.Bh nm (bg:Nat) (fun zz=>[(0,.own 0 zz.2.2 0 zz.2.1.length),(1,.sl 1 (aw.Zones.map An)),(5,.int .i64 ((zz.1:Nat):Int))]) (fun zz=>[.row zz.2.2 1 (zz.2.1.map An)]) ?_
  rintro k7 dg ku hk7 nm
  dsimp only
  refine sq (sq (rg rfl fun K j=>?_))
  intro hm
  refine j _ _ (qn ?_);clear j K
  refine cD rfl ?_ ?_<;>intro hc
  ·obtain rfl:=fnD nm hc
   have h:=Ao hO7;try dsimp only at h
   have af:=leD hk7 hc
   subst af
   refine Cr rfl ?_
   refine nSc Tryz.results220 ?_
   refine j _ _ (Eo rfl ?_)
   refine lE az aj h ku ?_ ?_<;>exact cuw cj
  obtain⟨ey,b7,ua,hx7_,zm,h,nm⟩:=fcD nm hc
  have hw7:=wk (k:=k7) (by omega)
  unfold F9 at h;try dsimp only at h
  refine gw9 (B8 rfl ?_)
  refine AWP.Ek (ι:=(Int)×(Unit)) (fun zz=>[(0,.own 0 ku 0 dg.length),(1,.sl 1 (aw.Zones.map An)),(5,.int .i64 ((k7:Nat):Int)),(6,.int .i64 zz.1)]) (fun zz=>[.row ku 1 (dg.map An)]) (fun zz=>Hy dg ey zz.1=some b7) (fun zz=>⟨rfl,rfl,rfl⟩) ?_ ?_
  ·refine bk ?_
   obtain⟨o23,dd,mg⟩:=Ae h
   clear h
   refine AWP.Ma (ι:=Nat×(Int)×(Unit)) (fun zz=>[(0,.own 0 ku 0 dg.length),(1,.sl 1 (aw.Zones.map An)),(5,.int .i64 ((k7:Nat):Int)),(6,.int .i64 zz.2.1)]) (fun zz=>[.row ku 1 (dg.map An)]) (fun zz=>Dx (Kp dg ey) zz.1 zz.2.1=some o23) (fun zz=>zz.1) (fuel,0,()) dd cu cu (fun x=>⟨rfl,rfl,rfl⟩) ?_
   clear dd
   rintro⟨n23,at_23,⟨⟩⟩ dd
   dsimp only at dd ⊢
   obtain⟨m23,b23,rfl,h,dd⟩:=Fp dd
   unfold Kp at h;try dsimp only at h
   refine sq (sq (dR Tryz.mixed fun K j=>?_))
   refine nS ?_
   intro hm
   refine gT h ?_ ?_<;>intro hc h
   ·obtain⟨ka,uw,h⟩:=Ae h
    refine Ge uw (by first | rfl | exact(Cq _).symm | (simp only[Aou,List.length_cons,List.length_nil,List.length_set,Aov]<;>omega)) ?_
    refine nS ?_
    refine Dg.of (f:=An) (l:=dg) (n:=at_23) uw ?_
    refine nS ?_
    refine A1.of (f:=An) (l:=aw.Zones) zm ?_
    refine nS ?_
    refine j _ _ _ (by kernel_rfl) ?_;clear j K
    refine qn (cA h rfl ?_ ?_)<;>intro hc h
    ·refine Co (bk (ar rfl (bn (qn ?_))))
     obtain rfl:=Aa h
     refine⟨(m23,(IntKind.i64.wrap (at_23+1)),()),Cj dd,by dsimp only;omega,?_,?_⟩
     ·exact cu
     exact cu
    refine xt (qe (qe ?_))
    obtain⟨q25,hq,h⟩:=Ae h
    obtain rfl:=Aa h
    obtain rfl:=G7 dd
    replace h:=hq.trans (Pg mg)
    refine bs (qn ?_)
    exact⟨(at_23,()),h,cu,cu⟩
   refine j _ _ _ (by kernel_rfl) ?_;clear j K
   refine qn (cA h rfl ?_ ?_)<;>intro hc h
   ·refine Co (bk (ar rfl (bn (qn ?_))))
    obtain rfl:=Aa h
    refine⟨(m23,(IntKind.i64.wrap (at_23+1)),()),Cj dd,by dsimp only;omega,?_,?_⟩
    ·exact cu
    exact cu
   refine xt (qe (qe ?_))
   obtain⟨q26,hq,h⟩:=Ae h
   obtain rfl:=Aa h
   obtain rfl:=G7 dd
   replace h:=hq.trans (Pg mg)
   refine bs (qn ?_)
   exact⟨(at_23,()),h,cu,cu⟩
  rintro⟨at_10,⟨⟩⟩ h
  try dsimp only at h ⊢
  unfold Hy at h;try dsimp only at h
  refine AWP.Ek (ι:=(Unit)×(Unit)) (fun zz=>[(0,.own 0 ku 0 dg.length),(1,.sl 1 (aw.Zones.map An)),(5,.int .i64 ((k7:Nat):Int)),(6,.int .i64 at_10)]) (fun zz=>[.row ku 1 (dg.map An)]) (fun zz=>F8 dg ey at_10=some b7) (fun zz=>⟨rfl,rfl,rfl⟩) ?_ ?_
  ·refine sq (dR Tryz.mixed fun K j=>?_)
   refine nS ?_
   intro hm
   refine gT h ?_ ?_<;>intro hc h
   ·obtain⟨zf,ux,h⟩:=Ae h
    refine Ge ux (by first | rfl | exact(Cq _).symm | (simp only[Aou,List.length_cons,List.length_nil,List.length_set,Aov]<;>omega)) ?_
    refine nS ?_
    refine Dg.of (f:=An) (l:=dg) (n:=at_10) ux ?_
    refine nS ?_
    refine A1.of (f:=An) (l:=aw.Zones) zm ?_
    refine nS ?_
    refine j _ _ _ (by kernel_rfl) ?_;clear j K
    refine qn (cA h rfl ?_ ?_)<;>intro hc h
    ·refine xt (qe (bs (qn (gw3 rfl ?_))))
     refine lE ua nm h ku ?_ ?_<;>exact cuw hw7
    refine Co ?_
    exact⟨((),()),h,cu,cu⟩
   refine j _ _ _ (by kernel_rfl) ?_;clear j K
   refine qn (cf rfl (Co ?_))
   exact⟨((),()),h,cu,cu⟩
  rintro⟨⟨⟩,⟨⟩⟩ h
  try dsimp only at h ⊢
  unfold F8 at h;try dsimp only at h
  refine sq (rg rfl fun K j=>?_)
  refine A1.of (f:=An) (l:=aw.Zones) zm ?_
  refine nS ?_
  obtain⟨hk,h⟩:=Bc h
  (repeat refine rp ?_);try simp +decide -implicitDefEqProofs only[go_sem]
  refine j _ _ (qn (sq ?_));clear j K
  refine rg rfl fun K j=>?_
  intro hm
  refine j _ _ (qn (bk ?_));clear j K
  obtain⟨o15,gx,yj⟩:=Ae h
  clear h
  refine AWP.Ma (ι:=Nat×(Int×(List Int))×(Nat)) (fun zz=>[(0,.own 0 zz.2.2 0 zz.2.1.2.length),(1,.sl 1 (aw.Zones.map An)),(5,.int .i64 ((k7:Nat):Int)),(6,.int .i64 at_10),(7,.int .i64 zz.2.1.1)]) (fun zz=>[.row zz.2.2 1 (zz.2.1.2.map An)]) (fun zz=>Dx (Kq at_10) zz.1 zz.2.1=some o15) (fun zz=>zz.1) (fuel,((IntKind.i64.wrap ((((dg.length+1):Nat):Int) - 1)),(dg++[ey])),(ku+1)) gx cu cu (fun x=>⟨rfl,rfl,rfl⟩) ?_
  clear gx
  rintro⟨n15,⟨k_13,dj⟩,fi⟩ gx
  dsimp only at gx ⊢
  obtain⟨m15,b15,rfl,h,gx⟩:=Fp gx
  unfold Kq at h;try dsimp only at h
  refine sq (B8 rfl ?_)
  refine cA h rfl ?_ ?_<;>intro hc h
  ·refine gw9 (dR Tryz.mixed fun K j=>?_)
   refine nS ?_
   obtain⟨ke,uy,h⟩:=Ae h
   refine Ge uy (by first | rfl | exact(Cq _).symm | (simp only[Aou,List.length_cons,List.length_nil,List.length_set,Aov]<;>omega)) ?_
   refine nS ?_
   refine Dg.of (f:=An) (l:=dj) (n:=(IntKind.i64.wrap (k_13 - 1))) uy ?_
   refine nS ?_
   obtain⟨gu,je,h⟩:=Ae h
   refine Ge je (by first | rfl | exact(Cq _).symm | (simp only[Aou,List.length_cons,List.length_nil,List.length_set,Aov]<;>omega)) ?_
   refine nS ?_
   refine Dg.of (f:=An) (l:=dj) (n:=k_13) je ?_
   refine nS ?_
   refine Ge je (by first | rfl | exact(Cq _).symm | (simp only[Aou,List.length_cons,List.length_nil,List.length_set,Aov]<;>omega)) ?_
   refine nS ?_
   refine Dg.of (f:=An) (l:=dj) (n:=k_13) je ?_
   have hs19:=Rx (y:=ke) je
   refine nS ?_
   obtain⟨mz,js,h⟩:=Ae h
   refine Ge js (by first | rfl | exact(Cq _).symm | (simp only[Aou,List.length_cons,List.length_nil,List.length_set,Aov]<;>omega)) ?_
   refine nS ?_
   refine Dg.of (f:=An) (l:=(dj.set k_13.toNat ke)) (n:=(IntKind.i64.wrap (k_13 - 1))) js ?_
   have hs21:=Rx (y:=gu) js
   refine nS ?_
   refine j _ _ _ (by kernel_rfl) ?_;clear j K
   refine Eo rfl ?_
   obtain rfl:=Aa h
   refine⟨(m15,((IntKind.i64.wrap (k_13 - 1)),((dj.set k_13.toNat ke).set (IntKind.i64.wrap (k_13 - 1)).toNat gu)),fi),Cj gx,by dsimp only;omega,?_,?_⟩
   ·exact cu
   exact cu
  refine xt (qe (qe (bs (Eo rfl ?_))))
  replace h:=x0 h gx yj
  refine lE ua nm h fi ?_ ?_<;>exact cuw hw7
 refine gw5 rfl ?_
 refine lE az aj h bg ?_ ?_<;>exact cuw cj
theorem gB (l:List Aw) (levels:List Int) {r:(List Int)} (h:N4 l levels=some r):Ad Tryz.prog 116 [.sl 6 (l.map Az),.sl 1 (levels.map An)] (·= .sl 1 (r.map An)):=(dV l levels h).pure
def Sy (l:Ba) (item:Int) (t:Int) (k1:Nat) (ak:Fm) (sv:Int):Option (Out (Int) (Int)):=
 (bif (decide (ak.Item=item))then (bif (decide (ak.At≤t))then (bif (decide (t<(IntKind.i64.wrap (ak.At+l.Every))))then some (Out.next (if sv<(IntKind.i64.wrap (ak.At+l.Every))then (IntKind.i64.wrap (ak.At+l.Every))else sv))else some (Out.next sv))else some (Out.next sv))else some (Out.next sv))
def Wg (l:Ba) (item:Int) (t:Int):Option (Int):=
 (Al (Sy l item t) 0 l.Signs t).bind fun o1=>o1.on fun s1=>some s1
theorem l4 (l:Ba) (item:Int) (t:Int) {r:Int} (h:Wg l item t=some r):Ad Tryz.prog 283 [.agg (B4 l),.int .i64 item,.int .i64 t] (·= .int .i64 r):=by
 refine Ad.nle (Ad.intro Tryz.func283 rfl rfl (by show _≤50;simp) ?_)
 unfold Wg at h
 refine nS (sq ?_)
 refine gw7 rfl ?_
 refine B5 rfl ?_
 refine gw3 rfl (bk ?_)
 obtain⟨o1,aq,db⟩:=Ae h
 clear h
 refine AWP.Bh aq () (fun zz=>[(1,.int .i64 item),(2,.int .i64 t),(3,.ptr 0 0),(7,.int .i64 zz.2.1),(8,.int .i64 ((zz.1:Nat):Int))]) (fun zz=>[.box (B4 l)]) ?_
 rintro k1 bx ⟨⟩ ga aq
 dsimp only
 refine sq (rG rfl fun K j=>?_)
 intro hm
 refine j (cD rfl ?_ ?_)<;>intro hc
 ·obtain rfl:=fnD aq hc
  have h:=Ao db;try dsimp only at h
  have af:=leD ga hc
  subst af
  refine Cr rfl ?_
  cases h;exact en Tryz.results283
 obtain⟨ak,b1,bl,fx,fk,h,aq⟩:=fcD aq hc
 have cz:=wk (k:=k1) (by omega)
 unfold Sy at h;try dsimp only at h
 refine gw9 (rG rfl fun K j=>?_)
 refine A1.of (f:=Cw) (l:=l.Signs) fk ?_
 refine nS ?_
 refine j (rG rfl fun K j=>?_)
 refine gT h ?_ ?_<;>intro hc h
 ·refine gT h ?_ ?_<;>intro hc h
  ·refine j (cA h rfl ?_ ?_)<;>intro hc h
   ·refine ar rfl (bn (qn ?_))
    refine gw3 rfl ?_
    refine lE bl aq h () ?_ ?_<;>exact cuw cz
   refine gw5 rfl ?_
   refine lE bl aq h () ?_ ?_<;>exact cuw cz
  refine j (cf rfl (gw5 rfl ?_))
  refine lE bl aq h () ?_ ?_<;>exact cuw cz
 refine j (cf rfl (gw5 rfl ?_))
 refine lE bl aq h () ?_ ?_<;>exact cuw cz
def Q4 (l:Ba) (t:Int) (k2:Nat) (aw:Int) (sv:(List Int)):Option (Out ((List Int)) ((List Int))):=
 (Wg l aw t).bind fun y5=>(bif (decide (y5=t))then chk (sv.length+1) (some (Out.next (sv++[aw])))else some (Out.next sv))
def Qj (l:Ba) (t:Int):Option ((List Int)):=
 (Al (Q4 l t) 0 l.Items []).bind fun o2=>o2.on fun s2=>some s2
theorem gP (l:Ba) (t:Int) {r:(List Int)} (h:Qj l t=some r):A8 Tryz.prog 270 [.agg (B4 l),.int .i64 t] (·= .sl 1 (r.map An)):=by
 refine A8.nle (A8.intro Tryz.func270 rfl rfl (by show _≤33;simp) ?_)
 unfold Qj at h
 refine nS (sq ?_)
 refine gw7 rfl ?_
 refine B5 rfl ?_
 refine gw3 rfl (bk ?_)
 refine AWP.ghost 5 1 rfl (by decide) ?_
 obtain⟨o2,aj,dn⟩:=Ae h
 clear h
 refine AWP.Bh aj (0:Nat) (fun zz=>[(1,.int .i64 t),(2,.ptr 0 0),(5,.own 1 zz.2.2 0 zz.2.1.length),(6,.int .i64 ((zz.1:Nat):Int))]) (fun zz=>[.box (B4 l),.row zz.2.2 1 (zz.2.1.map An)]) ?_
 rintro k2 bx bg df aj
 dsimp only
 refine sq (rG rfl fun K j=>?_)
 intro hm
 refine j (cD rfl ?_ ?_)<;>intro hc
 ·obtain rfl:=fnD aj hc
  have h:=Ao dn;try dsimp only at h
  have af:=leD df hc
  subst af
  refine Cr rfl ?_
  cases h;exact en Tryz.results270
 obtain⟨aw,b2,az,fo,ep,h,aj⟩:=fcD aj hc
 have cj:=wk (k:=k2) (by omega)
 unfold Q4 at h;try dsimp only at h
 refine gw9 (sq (dR Tryz.mixed fun K j=>?_))
 refine nS ?_
 refine A1.of (f:=An) (l:=l.Items) ep ?_
 refine nS ?_
 obtain⟨y5,cw,h⟩:=Ae h
 refine Br.pure Tryz.call283 (l4 l aw t cw) rfl ?_
 refine nS ?_
 refine j _ _ _ (by kernel_rfl) (qn (cA h rfl ?_ ?_))<;>intro hc h
 ·refine rg rfl fun K j=>?_
  refine A1.of (f:=An) (l:=l.Items) ep ?_
  refine nS ?_
  obtain⟨hk,h⟩:=Bc h
  (repeat refine rp ?_);try simp +decide -implicitDefEqProofs only[go_sem]
  refine j _ _ (Eo rfl ?_)
  refine lE az aj h (bg+1) ?_ ?_<;>exact cuw cj
 refine gw5 rfl ?_
 refine lE az aj h bg ?_ ?_<;>exact cuw cj
theorem kK (l:Ba) (t:Int) {r:(List Int)} (h:Qj l t=some r):Ad Tryz.prog 270 [.agg (B4 l),.int .i64 t] (·= .sl 1 (r.map An)):=(gP l t h).pure
def Qk (l:Ba) (t:Int):Option (Bool):=
 (Qj l t).bind fun y1=>some (decide (((y1.length:Nat):Int)=0))
theorem kL (l:Ba) (t:Int) {r:Bool} (h:Qk l t=some r):Ad Tryz.prog 221 [.agg (B4 l),.int .i64 t] (·= .bool r):=by
 refine Ad.nle (Ad.intro Tryz.func221 rfl rfl (by show _≤10;simp) ?_)
 unfold Qk at h
 refine nS (sq ?_)
 refine gw7 rfl ?_
 refine rg rfl fun K j=>?_
 obtain⟨y1,bp,h⟩:=Ae h
 refine Ah.pure Tryz.call270 (kK l t bp) rfl fun _ hr=>?_
 subst hr
 refine nS ?_
 intro hm
 refine j _ _ (Cu ?_)
 cases h;exact en Tryz.results221
def Tq (run:Int) (k3:Nat) (cm:C5) (sv:Unit):Option (Out (Unit) (Bool)):=
 (bif (decide (cm.Run=run))then some (Out.ret false)else some (Out.next ()))
def N2 (p:Bk) (run:Int) (t:Int):Option (Bool):=
 (Oy p run).bind fun y1=>(bif (decide (y1<0))then some false else(Da p.Ci y1).bind fun ab=>(Qk ab.List_ t).bind fun y3=>(bif (!y3)then some false else(Al (Tq run) 0 p.Hazards ()).bind fun o3=>o3.on fun s3=>some true))
theorem fW (p:Bk) (run:Int) (t:Int) {r:Bool} (h:N2 p run t=some r):Ad Tryz.prog 117 [.agg (Cf p),.int .i64 run,.int .i64 t] (·= .bool r):=by
 refine Ad.nle (Ad.intro Tryz.func117 rfl rfl (by show _≤40;simp) ?_)
 unfold N2 at h
 refine nS (sq ?_)
 refine gw7 rfl ?_
 refine rg rfl fun K j=>?_
 obtain⟨y1,bp,h⟩:=Ae h
 refine Ah.pure Tryz.call184 (bK p run bp) rfl fun _ hr=>?_
 subst hr
 refine nS ?_
 refine j _ _ (qn (sq (rG rfl fun K j=>?_)))
 refine gF' h ?_ ?_<;>intro hc h
 ·refine j (ct rfl (gw8 rfl ?_))
  cases h;exact en Tryz.results117
 obtain⟨ab,wy,h⟩:=Ae h
 refine A1.of (f:=A3) (l:=p.Ci) wy ?_
 refine nS ?_
 obtain⟨y3,bu,h⟩:=Ae h
 refine Ah.pure Tryz.call221 (kL ab.List_ t bu) rfl fun _ hr=>?_
 subst hr
 refine nS ?_
 refine j (cA h rfl ?_ ?_)<;>intro hc h
 ·refine gw8 rfl ?_
  cases h;exact en Tryz.results117
 refine gw6 (B8 rfl (bk ?_))
 obtain⟨o3,bo,ew⟩:=Ae h
 clear h
 refine AWP.Bh bo () (fun zz=>[(1,.int .i64 run),(3,.ptr 0 0),(8,.int .i64 ((zz.1:Nat):Int))]) (fun zz=>[.box (Cf p)]) ?_
 rintro k3 ⟨⟩ ⟨⟩ jz bo
 dsimp only
 refine sq (rG rfl fun K j=>?_)
 intro hm
 refine j (cD rfl ?_ ?_)<;>intro hc
 ·obtain rfl:=fnD bo hc
  have h:=Ao ew;try dsimp only at h
  have af:=leD jz hc
  subst af
  refine Cr rfl ?_
  cases h;exact en Tryz.results117
 obtain⟨cm,b3,da,lr,gn,h,bo⟩:=fcD bo hc
 have gi:=wk (k:=k3) (by omega)
 unfold Tq at h;try dsimp only at h
 refine gw9 (rG rfl fun K j=>?_)
 refine A1.of (f:=Bg) (l:=p.Hazards) gn ?_
 refine nS ?_
 refine j (cA h rfl ?_ ?_)<;>intro hc h
 ·refine Cs rfl ?_
  cases x0 h bo ew;exact en Tryz.results117
 refine gw5 rfl ?_
 refine lE da bo h () ?_ ?_<;>exact cuw gi
def Rq (p:Fo):Option (Int×Int):=
 (Kz p).bind fun y1=>(bif (!y1)then some (0,1)else nz p.Density (some ((IntKind.i64.wrap (Int.tdiv (IntKind.i64.wrap ((IntKind.i64.wrap (p.Natural+p.Machine))*1000)) p.Density)),0)))
theorem gQ (p:Fo) {r:Int×Int} (h:Rq p=some r):Ad Tryz.prog 222 [.agg (Nw p)] (·= .tuple [.int .i64 r.1,.int .i64 r.2]):=by
 refine Ad.nle (Ad.intro Tryz.func222 rfl rfl (by show _≤16;simp) ?_)
 unfold Rq at h
 refine nS (sq ?_)
 refine B5 rfl ?_
 refine rg rfl fun K j=>?_
 obtain⟨y1,bp,h⟩:=Ae h
 refine Ah.pure Tryz.call43 (Wk p bp) rfl fun _ hr=>?_
 subst hr
 refine nS ?_
 refine j _ _ (qn (cA h rfl ?_ ?_))<;>intro hc h
 ·refine gw8 rfl ?_
  cases h;exact en Tryz.results222
 refine Co (rG rfl fun K j=>?_)
 obtain⟨hk,h⟩:=pG h
 refine⟨hk,?_⟩
 refine j (rt ?_)
 cases h;exact en Tryz.results222
def Vi (f_:Af) (run:Int) (k0:Nat) (ab:Ct) (sv:Unit):Option (Out (Unit) (Bool)):=
 (bif (decide (ab.Run=run))then (Rq ab.Pack).bind fun y3=>some (Out.ret (decide (f_.Depth≤y3.1)))else some (Out.next ()))
def Qa (f_:Af) (run:Int):Option (Bool):=
 (Al (Vi f_ run) 0 f_.Packs ()).bind fun o0=>o0.on fun s0=>some false
theorem j9 (f_:Af) (run:Int) {r:Bool} (h:Qa f_ run=some r):Ad Tryz.prog 118 [.agg (Ai f_),.int .i64 run] (·= .bool r):=by
 refine Ad.nle (Ad.intro Tryz.func118 rfl rfl (by show _≤37;simp) ?_)
 unfold Qa at h
 refine nS (sq ?_)
 refine B5 rfl ?_
 refine gw3 rfl (bk ?_)
 obtain⟨o0,aa,ae⟩:=Ae h
 clear h
 refine AWP.Bh aa () (fun zz=>[(1,.int .i64 run),(2,.ptr 0 0),(5,.int .i64 ((zz.1:Nat):Int))]) (fun zz=>[.box (Ai f_)]) ?_
 rintro k0 ⟨⟩ ⟨⟩ bb aa
 dsimp only
 refine sq (rG rfl fun K j=>?_)
 intro hm
 refine j (cD rfl ?_ ?_)<;>intro hc
 ·obtain rfl:=fnD aa hc
  have h:=Ao ae;try dsimp only at h
  have af:=leD bb hc
  subst af
  refine Cr rfl ?_
  cases h;exact en Tryz.results118
 obtain⟨ab,b0,ag,bh,ao,h,aa⟩:=fcD aa hc
 have ay:=wk (k:=k0) (by omega)
 unfold Vi at h;try dsimp only at h
 refine gw9 (rG rfl fun K j=>?_)
 refine A1.of (f:=A6) (l:=f_.Packs) ao ?_
 refine nS ?_
 refine j (cA h rfl ?_ ?_)<;>intro hc h
 ·refine rG rfl fun K j=>?_
  refine A1.of (f:=A6) (l:=f_.Packs) ao ?_
  refine nS ?_
  obtain⟨y3,bu,h⟩:=Ae h
  refine Ah.pure Tryz.call222 (gQ ab.Pack bu) rfl fun _ hr=>?_
  subst hr
  refine nS ?_
  refine j (Cs rfl ?_)
  cases x0 h aa ae;exact en Tryz.results118
 refine gw5 rfl ?_
 refine lE ag aa h () ?_ ?_<;>exact cuw ay
def N1 (f_:Af) (x_:Cn):Option (Int):=
 (Wd f_.Map f_.Closures x_.ID).bind fun y1=>(bif y1 then some 13 else(Yx f_.Groomers x_.ID).bind fun y2=>(bif y2 then some 15 else(N6 f_.Winches f_.Time).bind fun y3=>(Gw y3 x_.ID).bind fun y4=>(bif y4 then some 15 else(Mx f_ x_.Zone).bind fun y5=>(bif y5 then some 15 else(Ix f_).bind fun y6=>(N4 f_.Slides y6).bind fun y7=>(Gw y7 x_.Zone).bind fun y8=>(bif y8 then some 10 else(N2 f_.Patrol x_.ID f_.Time).bind fun y9=>(bif (!y9)then some 14 else(Qa f_ x_.ID).bind fun cr=>(bif (!cr)then some 5 else some 0)))))))
theorem Wc (f_:Af) (x_:Cn) {r:Int} (h:N1 f_ x_=some r):Ad Tryz.prog 50 [.agg (Ai f_),.agg (Bj x_)] (·= .int .i64 r):=by
 refine Ad.nle (Ad.intro Tryz.func50 rfl rfl (by show _≤54;simp) ?_)
 unfold N1 at h
 refine nS (sq ?_)
 refine B5 rfl ?_
 refine rg rfl fun K j=>?_
 obtain⟨y1,bp,h⟩:=Ae h
 refine Ah.pure Tryz.call112 (lW f_.Map f_.Closures x_.ID bp) rfl fun _ hr=>?_
 subst hr
 refine nS ?_
 refine j _ _ (qn (cA h rfl ?_ ?_))<;>intro hc h
 ·refine gw8 rfl ?_
  cases h;exact en Tryz.results50
 refine gw6 (sq (dR Tryz.mixed fun K j=>?_))
 refine nS ?_
 obtain⟨y2,cx,h⟩:=Ae h
 refine Br.pure Tryz.call113 (oB f_.Groomers x_.ID cx) rfl ?_
 refine nS ?_
 refine gF' h ?_ ?_<;>intro hc h
 ·refine j _ _ _ (by kernel_rfl) (qn (ct rfl (gw8 rfl ?_)))
  cases h;exact en Tryz.results50
 obtain⟨y3,bu,h⟩:=Ae h
 refine Br.pure Tryz.call114 (gL f_.Winches f_.Time bu) rfl ?_
 refine nS ?_
 obtain⟨y4,ch,h⟩:=Ae h
 refine Br.pure Tryz.call31 (E7 y3 x_.ID ch) rfl ?_
 refine nS ?_
 refine gF' h ?_ ?_<;>intro hc h
 ·refine j _ _ _ (by kernel_rfl) (qn (ct rfl (gw8 rfl ?_)))
  cases h;exact en Tryz.results50
 obtain⟨y5,cw,h⟩:=Ae h
 refine Br.pure Tryz.call115 (cG f_ x_.Zone cw) rfl ?_
 refine nS ?_
 refine j _ _ _ (by kernel_rfl) (qn (cA h rfl ?_ ?_))<;>intro hc h
 ·refine gw8 rfl ?_
  cases h;exact en Tryz.results50
 refine gw6 (sq (dR Tryz.mixed fun K j=>?_))
 refine nS ?_
 obtain⟨y6,ec,h⟩:=Ae h
 refine Br.pure Tryz.call17 (dS f_ ec) rfl ?_
 refine nS ?_
 obtain⟨y7,eg,h⟩:=Ae h
 refine Br.pure Tryz.call116 (gB f_.Slides y6 eg) rfl ?_
 refine nS ?_
 obtain⟨y8,ej,h⟩:=Ae h
 refine Br.pure Tryz.call31 (E7 y7 x_.Zone ej) rfl ?_
 refine nS ?_
 refine j _ _ _ (by kernel_rfl) (qn (cA h rfl ?_ ?_))<;>intro hc h
 ·refine gw8 rfl ?_
  cases h;exact en Tryz.results50
 refine gw6 (rG rfl fun K j=>?_)
 obtain⟨y9,fu,h⟩:=Ae h
 refine Ah.pure Tryz.call117 (fW f_.Patrol x_.ID f_.Time fu) rfl fun _ hr=>?_
 subst hr
 refine nS ?_
 refine j (cA h rfl ?_ ?_)<;>intro hc h
 ·refine gw8 rfl ?_
  cases h;exact en Tryz.results50
 refine gw6 (rG rfl fun K j=>?_)
 obtain⟨cr,dq,h⟩:=Ae h
 refine Ah.pure Tryz.call118 (j9 f_ x_.ID dq) rfl fun _ hr=>?_
 subst hr
 refine nS ?_
 refine j (cA h rfl ?_ ?_)<;>intro hc h
 ·refine gw8 rfl ?_
  cases h;exact en Tryz.results50
 refine Co (gw1 rfl ?_)
 cases h;exact en Tryz.results50
def R8 (k2:Nat) (aw:Cv) (sv:(List Int)):Option (Out ((List Int)) ((List Int))):=
 (bif (decide (aw.Mode=1))then chk (sv.length+1) (some (Out.next (sv++[aw.Lift])))else some (Out.next sv))
def Gv (f_:Af):Option ((List Int)):=
 (Al R8 0 f_.Lifts []).bind fun o2=>o2.on fun s2=>some s2
theorem cF (f_:Af) {r:(List Int)} (h:Gv f_=some r):A8 Tryz.prog 52 [.agg (Ai f_)] (·= .sl 1 (r.map An)):=by
 refine A8.nle (A8.intro Tryz.func52 rfl rfl (by show _≤30;simp) ?_)
 unfold Gv at h
 refine nS (sq ?_)
 refine gw7 rfl ?_
 refine B5 rfl ?_
 refine gw3 rfl (bk ?_)
 obtain⟨o2,aj,dn⟩:=Ae h
 clear h
 refine AWP.Bh aj (0:Nat) (fun zz=>[(1,.ptr 0 0),(3,.own 1 zz.2.2 0 zz.2.1.length),(4,.int .i64 ((zz.1:Nat):Int))]) (fun zz=>[.box (Ai f_),.row zz.2.2 1 (zz.2.1.map An)]) ?_
 rintro k2 bx bg df aj
 dsimp only
 refine sq (rG rfl fun K j=>?_)
 intro hm
 refine j (cD rfl ?_ ?_)<;>intro hc
 ·obtain rfl:=fnD aj hc
  have h:=Ao dn;try dsimp only at h
  have af:=leD df hc
  subst af
  refine Cr rfl ?_
  cases h;exact en Tryz.results52
 obtain⟨aw,b2,az,fo,ep,h,aj⟩:=fcD aj hc
 have cj:=wk (k:=k2) (by omega)
 unfold R8 at h;try dsimp only at h
 refine gw9 (rG rfl fun K j=>?_)
 refine A1.of (f:=A4) (l:=f_.Lifts) ep ?_
 refine nS ?_
 refine j (cA h rfl ?_ ?_)<;>intro hc h
 ·refine rg rfl fun K j=>?_
  refine A1.of (f:=A4) (l:=f_.Lifts) ep ?_
  refine nS ?_
  obtain⟨hk,h⟩:=Bc h
  (repeat refine rp ?_);try simp +decide -implicitDefEqProofs only[go_sem]
  refine j _ _ (Eo rfl ?_)
  refine lE az aj h (bg+1) ?_ ?_<;>exact cuw cj
 refine gw5 rfl ?_
 refine lE az aj h bg ?_ ?_<;>exact cuw cj
theorem Uv (f_:Af) {r:(List Int)} (h:Gv f_=some r):Ad Tryz.prog 52 [.agg (Ai f_)] (·= .sl 1 (r.map An)):=(cF f_ h).pure
def eC (n_:Int) (k0:Nat) (ab:Int) (sv:Unit):Option (Out (Unit) (Bool)):=
 (bif (decide (ab=n_))then some (Out.ret true)else some (Out.next ()))
def Qm (l:List Int) (n_:Int):Option (Bool):=
 (Al (eC n_) 0 l ()).bind fun o0=>o0.on fun s0=>some false
theorem Pd (l:List Int) (n_:Int) {r:Bool} (h:Qm l n_=some r):Ad Tryz.prog 119 [.sl 1 (l.map An),.int .i64 n_] (·= .bool r):=by
 refine Ad.nle (Ad.intro Tryz.func119 rfl rfl (by show _≤18;simp) ?_)
 unfold Qm at h
 refine nS (sq ?_)
 refine B5 rfl ?_
 refine gw3 rfl (bk ?_)
 obtain⟨o0,aa,ae⟩:=Ae h
 clear h
 refine AWP.Bh aa () (fun zz=>[(0,.sl 1 (l.map An)),(1,.int .i64 n_),(5,.int .i64 ((zz.1:Nat):Int))]) (fun zz=>[]) ?_
 rintro k0 ⟨⟩ ⟨⟩ bb aa
 dsimp only
 refine sq (rG rfl fun K j=>?_)
 intro hm
 refine j (cD rfl ?_ ?_)<;>intro hc
 ·obtain rfl:=fnD aa hc
  have h:=Ao ae;try dsimp only at h
  have af:=leD bb hc
  subst af
  refine Cr rfl ?_
  cases h;exact en Tryz.results119
 obtain⟨ab,b0,ag,bh,ao,h,aa⟩:=fcD aa hc
 have ay:=wk (k:=k0) (by omega)
 unfold eC at h;try dsimp only at h
 refine gw9 (rG rfl fun K j=>?_)
 refine A1.of (f:=An) (l:=l) ao ?_
 refine nS ?_
 refine j (cA h rfl ?_ ?_)<;>intro hc h
 ·refine Cs rfl ?_
  cases x0 h aa ae;exact en Tryz.results119
 refine gw5 rfl ?_
 refine lE ag aa h () ?_ ?_<;>exact cuw ay
def Vr (runs:List Int) (k2:Nat) (aw:Cn) (sv:(List Ar)):Option (Out ((List Ar)) ((List Ar))):=
 (Qm runs aw.ID).bind fun y5=>(bif y5 then chk (sv.length+1) (some (Out.next (sv++[(Ar.mk aw.ID aw.From aw.To aw.Length)])))else some (Out.next sv))
def Nq (m:Av) (runs:List Int):Option ((List Ar)):=
 (Al (Vr runs) 0 m.Runs []).bind fun o2=>o2.on fun s2=>some s2
theorem gS (m:Av) (runs:List Int) {r:(List Ar)} (h:Nq m runs=some r):A8 Tryz.prog 73 [.agg (Be m),.sl 1 (runs.map An)] (·= .sl 4 (r.map Bf)):=by
 refine A8.nle (A8.intro Tryz.func73 rfl rfl (by show _≤37;simp) ?_)
 unfold Nq at h
 refine nS (sq ?_)
 refine gw7 rfl ?_
 refine B5 rfl ?_
 refine gw3 rfl (bk ?_)
 refine AWP.ghost 5 4 rfl (by decide) ?_
 obtain⟨o2,aj,dn⟩:=Ae h
 clear h
 refine AWP.Bh aj (0:Nat) (fun zz=>[(1,.sl 1 (runs.map An)),(2,.ptr 0 0),(5,.own 1 zz.2.2 0 zz.2.1.length),(6,.int .i64 ((zz.1:Nat):Int))]) (fun zz=>[.box (Be m),.row zz.2.2 4 (zz.2.1.map Bf)]) ?_
 rintro k2 bx bg df aj
 dsimp only
 refine sq (rG rfl fun K j=>?_)
 intro hm
 refine j (cD rfl ?_ ?_)<;>intro hc
 ·obtain rfl:=fnD aj hc
  have h:=Ao dn;try dsimp only at h
  have af:=leD df hc
  subst af
  refine Cr rfl ?_
  cases h;exact en Tryz.results73
 obtain⟨aw,b2,az,fo,ep,h,aj⟩:=fcD aj hc
 have cj:=wk (k:=k2) (by omega)
 unfold Vr at h;try dsimp only at h
 refine gw9 (rG rfl fun K j=>?_)
 refine A1.of (f:=Bj) (l:=m.Runs) ep ?_
 refine nS ?_
 refine j (rG rfl fun K j=>?_)
 obtain⟨y5,cw,h⟩:=Ae h
 refine Ah.pure Tryz.call119 (Pd runs aw.ID cw) rfl fun _ hr=>?_
 subst hr
 refine nS ?_
 refine j (cA h rfl ?_ ?_)<;>intro hc h
 ·refine rg rfl fun K j=>?_
  obtain⟨hk,h⟩:=Bc h
  (repeat refine rp ?_);try simp +decide -implicitDefEqProofs only[go_sem]
  refine j _ _ (Eo rfl ?_)
  refine lE az aj h (bg+1) ?_ ?_<;>exact cuw cj
 refine gw5 rfl ?_
 refine lE az aj h bg ?_ ?_<;>exact cuw cj
theorem X0 (m:Av) (runs:List Int) {r:(List Ar)} (h:Nq m runs=some r):Ad Tryz.prog 73 [.agg (Be m),.sl 1 (runs.map An)] (·= .sl 4 (r.map Bf)):=(gS m runs h).pure
def Sz (n_:Int) (k3:Nat) (cm:Int) (sv:Bool×(List Int)):Option (Out (Bool×(List Int)) ((List Int))):=
 (bif (!sv.1)then (bif (decide (n_≤cm))then (bif (decide (n_<cm))then chk (sv.2.length+1) (chk ((sv.2.length+1)+1) (some (Out.next (true,((sv.2++[n_])++[cm])))))else chk (sv.2.length+1) (some (Out.next (true,(sv.2++[cm])))))else chk (sv.2.length+1) (some (Out.next (sv.1,(sv.2++[cm])))))else chk (sv.2.length+1) (some (Out.next (sv.1,(sv.2++[cm])))))
def Ql (l:List Int) (n_:Int):Option ((List Int)):=
 (Al (Sz n_) 0 l (false,[])).bind fun o3=>o3.on fun s3=>(bif (!s3.1)then chk (s3.2.length+1) (some (s3.2++[n_]))else some s3.2)
theorem kN (l:List Int) (n_:Int) {r:(List Int)} (h:Ql l n_=some r):A8 Tryz.prog 237 [.sl 1 (l.map An),.int .i64 n_] (·= .sl 1 (r.map An)):=by
 refine A8.nle (A8.intro Tryz.func237 rfl rfl (by show _≤48;simp) ?_)
 unfold Ql at h
 refine nS (sq ?_)
 refine gw7 rfl ?_
 refine gw7 rfl ?_
 refine B5 rfl ?_
 refine gw3 rfl (bk ?_)
 refine AWP.ghost 5 1 rfl (by decide) ?_
 obtain⟨o3,bo,ew⟩:=Ae h
 clear h
 refine AWP.Bh bo (0:Nat) (fun zz=>[(0,.sl 1 (l.map An)),(1,.int .i64 n_),(5,.own 0 zz.2.2 0 zz.2.1.2.length),(6,.bool zz.2.1.1),(7,.int .i64 ((zz.1:Nat):Int))]) (fun zz=>[.row zz.2.2 1 (zz.2.1.2.map An)]) ?_
 rintro k3 ⟨done1,tj⟩ iq jz bo
 dsimp only
 refine sq (rG rfl fun K j=>?_)
 intro hm
 refine j (cD rfl ?_ ?_)<;>intro hc
 ·obtain rfl:=fnD bo hc
  have h:=Ao ew;try dsimp only at h
  have af:=leD jz hc
  subst af
  refine gw4 (sq (B8 rfl ?_))
  refine cA h rfl ?_ ?_<;>intro hc h
  ·refine rg rfl fun K j=>?_
   obtain⟨hk,h⟩:=Bc h
   (repeat refine rp ?_);try simp +decide -implicitDefEqProofs only[go_sem]
   refine j _ _ (qn (gw1 rfl ?_))
   cases h;exact en Tryz.results237
  refine Co (gw1 rfl ?_)
  cases h;exact en Tryz.results237
 obtain⟨cm,b3,da,lr,gn,h,bo⟩:=fcD bo hc
 have gi:=wk (k:=k3) (by omega)
 unfold Sz at h;try dsimp only at h
 refine gw9 (sq (rG rfl fun K j=>?_))
 refine gT h ?_ ?_<;>intro hc h
 ·refine A1.of (f:=An) (l:=l) gn ?_
  refine nS ?_
  refine j (cA h rfl ?_ ?_)<;>intro hc h
  ·refine sq (rG rfl fun K j=>?_)
   refine A1.of (f:=An) (l:=l) gn ?_
   refine nS ?_
   refine j (cA h rfl ?_ ?_)<;>intro hc h
   ·refine rg rfl fun K j=>?_
    obtain⟨hk,h⟩:=Bc h
    (repeat refine rp ?_);try simp +decide -implicitDefEqProofs only[go_sem]
    refine j _ _ (qn (gw3 rfl ?_))
    refine rg rfl fun K j=>?_
    refine A1.of (f:=An) (l:=l) gn ?_
    refine nS ?_
    obtain⟨hk,h⟩:=Bc h
    (repeat refine rp ?_);try simp +decide -implicitDefEqProofs only[go_sem]
    refine j _ _ (Eo rfl ?_)
    refine lE da bo h ((iq+1)+1) ?_ ?_<;>exact cuw gi
   refine Co (gw3 rfl ?_)
   refine rg rfl fun K j=>?_
   refine A1.of (f:=An) (l:=l) gn ?_
   refine nS ?_
   obtain⟨hk,h⟩:=Bc h
   (repeat refine rp ?_);try simp +decide -implicitDefEqProofs only[go_sem]
   refine j _ _ (Eo rfl ?_)
   refine lE da bo h (iq+1) ?_ ?_<;>exact cuw gi
  refine Co (rg rfl fun K j=>?_)
  refine A1.of (f:=An) (l:=l) gn ?_
  refine nS ?_
  obtain⟨hk,h⟩:=Bc h
  (repeat refine rp ?_);try simp +decide -implicitDefEqProofs only[go_sem]
  refine j _ _ (Eo rfl ?_)
  refine lE da bo h (iq+1) ?_ ?_<;>exact cuw gi
 refine j (cf rfl (Co (rg rfl fun K j=>?_)))
 refine A1.of (f:=An) (l:=l) gn ?_
 refine nS ?_
 obtain⟨hk,h⟩:=Bc h
 (repeat refine rp ?_);try simp +decide -implicitDefEqProofs only[go_sem]
 refine j _ _ (Eo rfl ?_)
 refine lE da bo h (iq+1) ?_ ?_<;>exact cuw gi
theorem Y2 (l:List Int) (n_:Int) {r:(List Int)} (h:Ql l n_=some r):Ad Tryz.prog 237 [.sl 1 (l.map An),.int .i64 n_] (·= .sl 1 (r.map An)):=(kN l n_ h).pure
def K4 (k6:Nat) (dr:Ar) (sv:(List Int)):Option (Out ((List Int)) (Out ((List Int)×Int) ((List Int)))):=
 (Qm sv dr.From).bind fun y9=>(bif y9 then(Ql sv dr.To).bind fun cr=>some (Out.next cr)else some (Out.next sv))
def K5 (l:List Ar) (sv:(List Int)×Int):Option (Out ((List Int)×Int) ((List Int))):=
 (bif (decide (sv.2<((sv.1.length:Nat):Int)))then (Al K4 0 l sv.1).bind fun o6=>o6.on fun s6=>some (Out.next (s6,((sv.1.length:Nat):Int)))else some (Out.ret sv.1))
def K3 (l:List Ar) (bx:List Int):Option ((List Int)):=
 (Dx (K5 l) fuel (bx,(-1))).bind fun o4=>o4.on fun _=>none
def Pc (k11:Nat) (im:Int) (sv:(List Int)):Option (Out ((List Int)) ((List Int))):=
 (Ql sv im).bind fun kt=>some (Out.next kt)
def K6 (l:List Ar) (from_:List Int):Option ((List Int)):=
 (Al Pc 0 from_ []).bind fun o11=>o11.on fun s11=>K3 l s11
theorem Wm (l:List Ar) (from_:List Int) {r:(List Int)} (h:K6 l from_=some r):Ad Tryz.prog 151 [.sl 4 (l.map Bf),.sl 1 (from_.map An)] (·= .sl 1 (r.map An)):=by
 refine Ad.nle (Ad.intro Tryz.func151 rfl rfl (by show _≤48;simp) ?_)
 unfold K6 at h
 refine nS (sq ?_)
 refine gw7 rfl ?_
 refine gw3 rfl ?_
 refine AWP.Ek (ι:=((List Int))×(Unit)) (fun zz=>[(0,.sl 4 (l.map Bf)),(5,.sl 1 (zz.1.map An))]) (fun zz=>[]) (fun zz=>K3 l zz.1=some r) (fun zz=>⟨rfl,rfl,rfl⟩) ?_ ?_
 ·refine B8 rfl (bk ?_)
  obtain⟨o11,po,hO11⟩:=Ae h
  clear h
  refine AWP.Bh po () (fun zz=>[(0,.sl 4 (l.map Bf)),(1,.sl 1 (from_.map An)),(5,.sl 1 (zz.2.1.map An)),(6,.int .i64 ((zz.1:Nat):Int))]) (fun zz=>[]) ?_
  rintro k11 nu ⟨⟩ hk11 po
  dsimp only
  refine sq (rG rfl fun K j=>?_)
  intro hm
  refine j (cC rfl ?_ ?_)<;>intro hc
  ·obtain⟨im,b11,hlt11,hx11_,hx11,h,po⟩:=fcD po hc
   have hw11:=wk (k:=k11) (by omega)
   unfold Pc at h;try dsimp only at h
   refine gw9 (rg rfl fun K j=>?_)
   refine A1.of (f:=An) (l:=from_) hx11 ?_
   refine nS ?_
   obtain⟨kt,kv,h⟩:=Ae h
   refine Ah.pure Tryz.call237 (Y2 nu im kv) rfl fun _ hr=>?_
   subst hr
   refine nS ?_
   refine j _ _ (Eo rfl ?_)
   refine lE hlt11 po h () ?_ ?_<;>exact cuw hw11
  obtain rfl:=fnD po hc
  have h:=Ao hO11;try dsimp only at h
  have af:=leD hk11 hc
  subst af
  refine gw4 ?_
  exact⟨(nu,()),h,cu,cu⟩
 rintro⟨bx,⟨⟩⟩ h
 try dsimp only at h ⊢
 unfold K3 at h;try dsimp only at h
 refine sq (B8 rfl (bk ?_))
 obtain⟨o4,ck,jl⟩:=Ae h
 clear h
 refine AWP.Ma (ι:=Nat×((List Int)×Int)×(Unit)) (fun zz=>[(0,.sl 4 (l.map Bf)),(5,.sl 1 (zz.2.1.1.map An)),(7,.int .i64 zz.2.1.2)]) (fun zz=>[]) (fun zz=>Dx (K5 l) zz.1 zz.2.1=some o4) (fun zz=>zz.1) (fuel,(bx,(-1)),()) ck cu cu (fun x=>⟨rfl,rfl,rfl⟩) ?_
 clear ck
 rintro⟨n4,⟨wb,was4⟩,⟨⟩⟩ ck
 dsimp only at ck ⊢
 obtain⟨m4,b4,rfl,h,ck⟩:=Fp ck
 unfold K5 at h;try dsimp only at h
 refine sq (rG rfl fun K j=>?_)
 intro hm
 refine j (cB h rfl ?_ ?_)<;>intro hc h
 ·refine Cr rfl ?_
  cases x0 h ck jl;exact en Tryz.results151
 refine Co (bk (rG rfl fun K j=>?_))
 intro hm
 refine j (B8 rfl (bk ?_))
 obtain⟨o6,dx,mc⟩:=Ae h
 clear h
 refine AWP.Bh dx () (fun zz=>[(0,.sl 4 (l.map Bf)),(5,.sl 1 (zz.2.1.map An)),(7,.int .i64 ((wb.length:Nat):Int)),(8,.int .i64 ((zz.1:Nat):Int))]) (fun zz=>[]) ?_
 rintro k6 dg ⟨⟩ uc dx
 dsimp only
 refine sq (rG rfl fun K j=>?_)
 intro hm
 refine j (cD rfl ?_ ?_)<;>intro hc
 ·obtain rfl:=fnD dx hc
  have h:=Ao mc;try dsimp only at h
  have af:=leD uc hc
  subst af
  refine xt (qe (qe (bs (bn (qn ?_)))))
  obtain rfl:=Aa h
  refine⟨(m4,(dg,((wb.length:Nat):Int)),()),Cj ck,by dsimp only;omega,?_,?_⟩
  ·exact cu
  exact cu
 obtain⟨dr,b6,iz,tr,nw,h,dx⟩:=fcD dx hc
 have ou:=wk (k:=k6) (by omega)
 unfold K4 at h;try dsimp only at h
 refine gw9 (rG rfl fun K j=>?_)
 refine A1.of (f:=Bf) (l:=l) nw ?_
 refine nS ?_
 obtain⟨y9,fu,h⟩:=Ae h
 refine Ah.pure Tryz.call119 (Pd dg dr.From fu) rfl fun _ hr=>?_
 subst hr
 refine nS ?_
 refine j (cA h rfl ?_ ?_)<;>intro hc h
 ·refine rg rfl fun K j=>?_
  refine A1.of (f:=Bf) (l:=l) nw ?_
  refine nS ?_
  obtain⟨cr,dq,h⟩:=Ae h
  refine Ah.pure Tryz.call237 (Y2 dg dr.To dq) rfl fun _ hr=>?_
  subst hr
  refine nS ?_
  refine j _ _ (Eo rfl ?_)
  refine lE iz dx h () ?_ ?_<;>exact cuw ou
 refine gw5 rfl ?_
 refine lE iz dx h () ?_ ?_<;>exact cuw ou
def Iy (lifts:List Int) (k3:Nat) (cm:Ck) (sv:(List Ar)):Option (Out ((List Ar)) ((List Int))):=
 (Qm lifts cm.ID).bind fun y6=>(bif y6 then chk (sv.length+1) (some (Out.next (sv++[(Ar.mk 0 cm.From cm.To 0)])))else some (Out.next sv))
def Jn (m:Av) (lifts:List Int) (runs:List Int):Option ((List Int)):=
 (Nq m runs).bind fun y1=>chk y1.length ((Al (Iy lifts) 0 m.Lifts y1).bind fun o3=>o3.on fun s3=>(K6 s3 m.Bases).bind fun y7=>some y7)
theorem Y0 (m:Av) (lifts:List Int) (runs:List Int) {r:(List Int)} (h:Jn m lifts runs=some r):Ad Tryz.prog 120 [.agg (Be m),.sl 1 (lifts.map An),.sl 1 (runs.map An)] (·= .sl 1 (r.map An)):=by
 refine Ad.nle (Ad.intro Tryz.func120 rfl rfl (by show _≤49;simp) ?_)
 unfold Jn at h
 refine nS (sq ?_)
 refine gw7 rfl ?_
 refine gw7 rfl ?_
 refine rg rfl fun K j=>?_
 obtain⟨y1,bp,h⟩:=Ae h
 refine Ah.pure Tryz.call73 (X0 m runs bp) rfl fun _ hr=>?_
 subst hr
 refine nS ?_
 obtain⟨hk,h⟩:=Bc h
 (repeat refine rp ?_);try simp +decide -implicitDefEqProofs only[go_sem]
 refine j _ _ (qn (sq (B8 rfl (bk ?_))))
 obtain⟨o3,bo,ew⟩:=Ae h
 clear h
 refine AWP.Bh bo (0:Nat) (fun zz=>[(1,.sl 1 (lifts.map An)),(3,.ptr 0 0),(7,.own 1 zz.2.2 0 zz.2.1.length),(8,.int .i64 ((zz.1:Nat):Int))]) (fun zz=>[.box (Be m),.row zz.2.2 4 (zz.2.1.map Bf)]) ?_
 rintro k3 l2 iq jz bo
 dsimp only
 refine sq (rG rfl fun K j=>?_)
 intro hm
 refine j (cD rfl ?_ ?_)<;>intro hc
 ·obtain rfl:=fnD bo hc
  have h:=Ao ew;try dsimp only at h
  have af:=leD jz hc
  subst af
  refine gw4 (rG rfl fun K j=>?_)
  obtain⟨y7,eg,h⟩:=Ae h
  refine Ah.D6 1 rfl ?_
  refine nS ?_
  refine Ah.pure Tryz.call151 (Wm l2 m.Bases eg) rfl fun _ hr=>?_
  subst hr
  refine nS ?_
  refine j (rt ?_)
  cases h;exact en Tryz.results120
 obtain⟨cm,b3,da,lr,gn,h,bo⟩:=fcD bo hc
 have gi:=wk (k:=k3) (by omega)
 unfold Iy at h;try dsimp only at h
 refine gw9 (rG rfl fun K j=>?_)
 refine A1.of (f:=Bl) (l:=m.Lifts) gn ?_
 refine nS ?_
 obtain⟨y6,ec,h⟩:=Ae h
 refine Ah.pure Tryz.call119 (Pd lifts cm.ID ec) rfl fun _ hr=>?_
 subst hr
 refine nS ?_
 refine j (cA h rfl ?_ ?_)<;>intro hc h
 ·refine dR Tryz.mixed fun K j=>?_
  refine nS ?_
  refine A1.of (f:=Bl) (l:=m.Lifts) gn ?_
  refine nS ?_
  refine A1.of (f:=Bl) (l:=m.Lifts) gn ?_
  refine nS ?_
  obtain⟨hk,h⟩:=Bc h
  (repeat refine rp ?_);try simp +decide -implicitDefEqProofs only[go_sem]
  refine j _ _ _ (by kernel_rfl) (Eo rfl ?_)
  refine lE da bo h (iq+1) ?_ ?_<;>exact cuw gi
 refine gw5 rfl ?_
 refine lE da bo h iq ?_ ?_<;>exact cuw gi
def K0 (m:Av) (lifts:List Int) (runs:List Int) (run:Int):Option (Bool):=
 (Ju m run).bind fun y1=>(bif y1.2 then(Jn m lifts runs).bind fun y2=>(Qm y2 y1.1.From).bind fun y3=>some y3 else some false)
theorem Wl (m:Av) (lifts:List Int) (runs:List Int) (run:Int) {r:Bool} (h:K0 m lifts runs run=some r):Ad Tryz.prog 51 [.agg (Be m),.sl 1 (lifts.map An),.sl 1 (runs.map An),.int .i64 run] (·= .bool r):=by
 refine Ad.nle (Ad.intro Tryz.func51 rfl rfl (by show _≤27;simp) ?_)
 unfold K0 at h
 refine nS (sq ?_)
 refine gw7 rfl ?_
 refine rg rfl fun K j=>?_
 obtain⟨y1,bp,h⟩:=Ae h
 refine Ah.pure Tryz.call32 (Gd m run bp) rfl fun _ hr=>?_
 subst hr
 refine nS ?_
 refine j _ _ (qn (sq (dR Tryz.mixed fun K j=>?_)))
 refine nS ?_
 refine gT h ?_ ?_<;>intro hc h
 ·obtain⟨y2,cx,h⟩:=Ae h
  refine Br.pure Tryz.call120 (Y0 m lifts runs cx) rfl ?_
  refine nS ?_
  obtain⟨y3,bu,h⟩:=Ae h
  refine Br.pure Tryz.call119 (Pd y2 y1.1.From bu) rfl ?_
  refine nS ?_
  refine j _ _ _ (by kernel_rfl) (Cu ?_)
  cases h;exact en Tryz.results51
 refine j _ _ _ (by kernel_rfl) (Cu ?_)
 cases h;exact en Tryz.results51
def Sa (k2:Nat) (aw:Ar) (sv:(List Ar)):Option (Out ((List Ar)) ((List Ar))):=
 chk (sv.length+1) (some (Out.next (sv++[(Ar.mk aw.ID aw.To aw.From aw.Cost)])))
def Lv (l:List Ar):Option ((List Ar)):=
 (Al Sa 0 l []).bind fun o2=>o2.on fun s2=>some s2
theorem cN (l:List Ar) {r:(List Ar)} (h:Lv l=some r):A8 Tryz.prog 152 [.sl 4 (l.map Bf)] (·= .sl 4 (r.map Bf)):=by
 refine A8.nle (A8.intro Tryz.func152 rfl rfl (by show _≤36;simp) ?_)
 unfold Lv at h
 refine nS (sq ?_)
 refine gw7 rfl ?_
 refine B5 rfl ?_
 refine gw3 rfl (bk ?_)
 refine AWP.ghost 3 4 rfl (by decide) ?_
 obtain⟨o2,aj,dn⟩:=Ae h
 clear h
 refine AWP.Bh aj (0:Nat) (fun zz=>[(0,.sl 4 (l.map Bf)),(3,.own 0 zz.2.2 0 zz.2.1.length),(4,.int .i64 ((zz.1:Nat):Int))]) (fun zz=>[.row zz.2.2 4 (zz.2.1.map Bf)]) ?_
 rintro k2 bx bg df aj
 dsimp only
 refine sq (rG rfl fun K j=>?_)
 intro hm
 refine j (cD rfl ?_ ?_)<;>intro hc
 ·obtain rfl:=fnD aj hc
  have h:=Ao dn;try dsimp only at h
  have af:=leD df hc
  subst af
  refine Cr rfl ?_
  cases h;exact en Tryz.results152
 obtain⟨aw,b2,az,fo,ep,h,aj⟩:=fcD aj hc
 have cj:=wk (k:=k2) (by omega)
 unfold Sa at h;try dsimp only at h
 refine gw9 (dR Tryz.mixed fun K j=>?_)
 refine nS ?_
 refine A1.of (f:=Bf) (l:=l) ep ?_
 refine nS ?_
 refine A1.of (f:=Bf) (l:=l) ep ?_
 refine nS ?_
 refine A1.of (f:=Bf) (l:=l) ep ?_
 refine nS ?_
 refine A1.of (f:=Bf) (l:=l) ep ?_
 refine nS ?_
 obtain⟨hk,h⟩:=Bc h
 (repeat refine rp ?_);try simp +decide -implicitDefEqProofs only[go_sem]
 refine j _ _ _ (by kernel_rfl) (Eo rfl ?_)
 refine lE az aj h (bg+1) ?_ ?_<;>exact cuw cj
theorem eB (l:List Ar) {r:(List Ar)} (h:Lv l=some r):Ad Tryz.prog 152 [.sl 4 (l.map Bf)] (·= .sl 4 (r.map Bf)):=(cN l h).pure
def T5 (l:List Ar) (to_:List Int):Option ((List Int)):=
 (Lv l).bind fun y1=>(K6 y1 to_).bind fun y2=>some y2
theorem kO (l:List Ar) (to_:List Int) {r:(List Int)} (h:T5 l to_=some r):Ad Tryz.prog 72 [.sl 4 (l.map Bf),.sl 1 (to_.map An)] (·= .sl 1 (r.map An)):=by
 refine Ad.nle (Ad.intro Tryz.func72 rfl rfl (by show _≤9;simp) ?_)
 unfold T5 at h
 refine nS (sq ?_)
 refine gw7 rfl ?_
 refine rg rfl fun K j=>?_
 obtain⟨y1,bp,h⟩:=Ae h
 refine Ah.pure Tryz.call152 (eB l bp) rfl fun _ hr=>?_
 subst hr
 refine nS ?_
 obtain⟨y2,cx,h⟩:=Ae h
 refine Ah.pure Tryz.call151 (Wm y1 to_ cx) rfl fun _ hr=>?_
 subst hr
 refine nS ?_
 refine j _ _ (Cu ?_)
 cases h;exact en Tryz.results72
def Nr (m:Av) (runs:List Int):Option ((List Int)):=
 (Nq m runs).bind fun y1=>(T5 y1 m.Bases).bind fun y2=>some y2
theorem X1 (m:Av) (runs:List Int) {r:(List Int)} (h:Nr m runs=some r):Ad Tryz.prog 35 [.agg (Be m),.sl 1 (runs.map An)] (·= .sl 1 (r.map An)):=by
 refine Ad.nle (Ad.intro Tryz.func35 rfl rfl (by show _≤11;simp) ?_)
 unfold Nr at h
 refine nS (sq ?_)
 refine gw7 rfl ?_
 refine dR Tryz.mixed fun K j=>?_
 refine nS ?_
 obtain⟨y1,bp,h⟩:=Ae h
 refine Br.pure Tryz.call73 (X0 m runs bp) rfl ?_
 refine nS ?_
 obtain⟨y2,cx,h⟩:=Ae h
 refine Br.pure Tryz.call72 (kO y1 m.Bases cx) rfl ?_
 refine nS ?_
 refine j _ _ _ (by kernel_rfl) (Cu ?_)
 cases h;exact en Tryz.results35
end
end Go.Proofs.YtjopghiagoidgaaGreat
