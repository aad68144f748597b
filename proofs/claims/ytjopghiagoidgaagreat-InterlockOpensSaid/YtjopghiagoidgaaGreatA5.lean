/- Our own texts: a layer of abstract values over the model, the walks of the functions, the plain laws; joined and shortened by a small program of our own (wip/dce2.py, wip/pack.py). -/
import Derived.Test.YtjopghiagoidgaaGreatA4
namespace Go.Proofs.YtjopghiagoidgaaGreat
open Go Go.Ab
attribute [local irreducible] AWP Ah Br Ad Go.Ab.Sub alist dlist A1 Dg Ev Ho
set_option maxRecDepth 100000
set_option maxHeartbeats 4000000
set_option linter.unusedSimpArgs false
set_option linter.unusedVariables false
noncomputable section
def Lo (f_:Af) (open_:List Int) (run:Int):Option (Int):=
 (Ju f_.Map run).bind fun y1=>(bif (!y1.2)then some 8 else(N1 f_ y1.1).bind fun y2=>(bif (decide (y2≠0))then some y2 else(Gv f_).bind fun y3=>(K0 f_.Map y3 open_ run).bind fun y4=>(bif (!y4)then some 16 else(Nr f_.Map open_).bind fun y5=>(Gw y5 y1.1.To).bind fun y6=>(bif (!y6)then some 16 else some 0))))
theorem Ys (f_:Af) (open_:List Int) (run:Int) {r:Int} (h:Lo f_ open_ run=some r):Ad Tryz.prog 19 [.agg (Ai f_),.sl 1 (open_.map An),.int .i64 run] (·= .int .i64 r):=by
 refine Ad.nle (Ad.intro Tryz.func19 rfl rfl (by show _≤43;simp) ?_)
 unfold Lo at h
 refine nS (sq ?_)
 refine gw7 rfl ?_
 refine rg rfl fun K j=>?_
 obtain⟨y1,bp,h⟩:=Ae h
 refine Ah.pure Tryz.call32 (Gd f_.Map run bp) rfl fun _ hr=>?_
 subst hr
 refine nS ?_
 refine j _ _ (qn (sq (B8 rfl ?_)))
 refine cA h rfl ?_ ?_<;>intro hc h
 ·refine gw8 rfl ?_
  cases h;exact en Tryz.results19
 refine gw6 (rG rfl fun K j=>?_)
 obtain⟨y2,cx,h⟩:=Ae h
 refine Ah.pure Tryz.call50 (Wc f_ y1.1 cx) rfl fun _ hr=>?_
 subst hr
 refine nS ?_
 refine j (B8 rfl ?_)
 refine cA h rfl ?_ ?_<;>intro hc h
 ·refine gw8 rfl ?_
  cases h;exact en Tryz.results19
 refine gw6 (sq (dR Tryz.mixed fun K j=>?_))
 refine nS ?_
 obtain⟨y3,bu,h⟩:=Ae h
 refine Br.pure Tryz.call52 (Uv f_ bu) rfl ?_
 refine nS ?_
 obtain⟨y4,ch,h⟩:=Ae h
 refine Br.pure Tryz.call51 (Wl f_.Map y3 open_ run ch) rfl ?_
 refine nS ?_
 refine gF h ?_ ?_<;>intro hc h
 ·obtain⟨y5,cw,h⟩:=Ae h
  refine Br.pure Tryz.call35 (X1 f_.Map open_ cw) rfl ?_
  refine nS ?_
  obtain⟨y6,ec,h⟩:=Ae h
  refine Br.pure Tryz.call31 (E7 y5 y1.1.To ec) rfl ?_
  refine nS ?_
  refine j _ _ _ (by kernel_rfl) (qn (cA h rfl ?_ ?_))<;>intro hc h
  ·refine gw8 rfl ?_
   cases h;exact en Tryz.results19
  refine Co (gw1 rfl ?_)
  cases h;exact en Tryz.results19
 refine j _ _ _ (by kernel_rfl) (qn (ct rfl (gw8 rfl ?_)))
 cases h;exact en Tryz.results19
def dQ (k2:Nat) (aw:Au) (sv:(List Int)):Option (Out ((List Int)) ((List Int))):=
 (bif aw.Open then chk (sv.length+1) (some (Out.next (sv++[aw.Run])))else some (Out.next sv))
def Qf (f_:Af):Option ((List Int)):=
 (Al dQ 0 f_.Status []).bind fun o2=>o2.on fun s2=>some s2
theorem kD (f_:Af) {r:(List Int)} (h:Qf f_=some r):A8 Tryz.prog 21 [.agg (Ai f_)] (·= .sl 1 (r.map An)):=by
 refine A8.nle (A8.intro Tryz.func21 rfl rfl (by show _≤29;simp) ?_)
 unfold Qf at h
 refine nS (sq ?_)
 refine gw7 rfl ?_
 refine B5 rfl ?_
 refine gw3 rfl (bk ?_)
 obtain⟨o2,aj,dn⟩:=Ae h
 clear h
 refine AWP.Bh aj (0:Nat) (fun zz=>[(1,.ptr 0 0),(3,.own 1 zz.2.2 0 zz.2.1.length),(4,.int .i64 ((zz.1:Nat):Int))]) (fun zz=>[.box (Ai f_),.row zz.2.2 1 (zz.2.1.map An)]) ?_
 rintro k2 bx bg df aj
 dsimp only
 refine sq (rG rfl fun K j=>?_)
 intro hm
 refine j (cD rfl ?_ ?_)<;>intro hc
 ·obtain rfl:=fnD aj hc
  have h:=Ao dn;try dsimp only at h
  have af:=leD df hc
  subst af
  refine Cr rfl ?_
  cases h;exact en Tryz.results21
 obtain⟨aw,b2,az,fo,ep,h,aj⟩:=fcD aj hc
 have cj:=wk (k:=k2) (by omega)
 unfold dQ at h;try dsimp only at h
 refine gw9 (rG rfl fun K j=>?_)
 refine A1.of (f:=Ax) (l:=f_.Status) ep ?_
 refine nS ?_
 refine j (cA h rfl ?_ ?_)<;>intro hc h
 ·refine rg rfl fun K j=>?_
  refine A1.of (f:=Ax) (l:=f_.Status) ep ?_
  refine nS ?_
  obtain⟨hk,h⟩:=Bc h
  (repeat refine rp ?_);try simp +decide -implicitDefEqProofs only[go_sem]
  refine j _ _ (Eo rfl ?_)
  refine lE az aj h (bg+1) ?_ ?_<;>exact cuw cj
 refine gw5 rfl ?_
 refine lE az aj h bg ?_ ?_<;>exact cuw cj
theorem Yt (f_:Af) {r:(List Int)} (h:Qf f_=some r):Ad Tryz.prog 21 [.agg (Ai f_)] (·= .sl 1 (r.map An)):=(kD f_ h).pure
def bJ (f_:Af) (y1:(List Int)) (k1:Nat) (ak:Int) (sv:Unit):Option (Out (Unit) (Bool)):=
 (Lo f_ y1 ak).bind fun y4=>(bif (decide (y4≠0))then some (Out.ret false)else some (Out.next ()))
def cI (f_:Af):Option (Bool):=
 (Qf f_).bind fun y1=>(Al (bJ f_ y1) 0 y1 ()).bind fun o1=>o1.on fun s1=>some true
def Mz (f_:Af) (run:Int) (y2:(List Int)) (done4:Bool) (na:List Au):Option (Af×Int):=
 (bif (!done4)then chk (na.length+1) ((bif (decide (64<(((na.length+1):Nat):Int)))then some ((Af.mk (Av.mk [] [] [] []) [] [] (Bk.mk [] []) [] [] [] [] [] [] [] [] 0 0),9)else chk y2.length (chk (y2.length+1) ((Lo f_ (y2++[run]) run).bind fun y8=>(bif (decide (y8≠0))then some ((Af.mk (Av.mk [] [] [] []) [] [] (Bk.mk [] []) [] [] [] [] [] [] [] [] 0 0),y8)else some ((Af.mk f_.Map f_.Lifts f_.Closures f_.Patrol f_.Surfaces f_.Packs f_.Slides f_.Bulletin f_.Missions f_.Winches f_.Groomers (na++[(Au.mk run true f_.Time)]) f_.Depth f_.Time),0))))))else (bif (decide (64<((na.length:Nat):Int)))then some ((Af.mk (Av.mk [] [] [] []) [] [] (Bk.mk [] []) [] [] [] [] [] [] [] [] 0 0),9)else chk y2.length (chk (y2.length+1) ((Lo f_ (y2++[run]) run).bind fun y9=>(bif (decide (y9≠0))then some ((Af.mk (Av.mk [] [] [] []) [] [] (Bk.mk [] []) [] [] [] [] [] [] [] [] 0 0),y9)else some ((Af.mk f_.Map f_.Lifts f_.Closures f_.Patrol f_.Surfaces f_.Packs f_.Slides f_.Bulletin f_.Missions f_.Winches f_.Groomers na f_.Depth f_.Time),0))))))
def M0 (f_:Af) (run:Int) (wc:Nat) (fe:Au) (sv:Bool×(List Au)):Option (Out (Bool×(List Au)) (Af×Int)):=
 (bif (!sv.1)then (bif (decide (run≤fe.Run))then chk (sv.2.length+1) ((bif (decide (fe.Run≠run))then chk ((sv.2.length+1)+1) (some (Out.next (true,((sv.2++[(Au.mk run true f_.Time)])++[fe]))))else some (Out.next (true,(sv.2++[(Au.mk run true f_.Time)])))))else (bif (decide (fe.Run≠run))then chk (sv.2.length+1) (some (Out.next (sv.1,(sv.2++[fe]))))else some (Out.next (sv.1,sv.2))))else (bif (decide (fe.Run≠run))then chk (sv.2.length+1) (some (Out.next (sv.1,(sv.2++[fe]))))else some (Out.next (sv.1,sv.2))))
def Tm (f_:Af) (run:Int):Option (Af×Int):=
 (Ju f_.Map run).bind fun y1=>(bif (!y1.2)then some ((Af.mk (Av.mk [] [] [] []) [] [] (Bk.mk [] []) [] [] [] [] [] [] [] [] 0 0),8)else (Qf f_).bind fun y2=>(Gw y2 run).bind fun y3=>(bif y3 then some ((Af.mk (Av.mk [] [] [] []) [] [] (Bk.mk [] []) [] [] [] [] [] [] [] [] 0 0),7)else (Al (M0 f_ run) 0 f_.Status (false,[])).bind fun o12=>o12.on fun s12=>Mz f_ run y2 s12.1 s12.2))
theorem kC (f_:Af) (run:Int) {r:Af×Int} (h:Tm f_ run=some r):Ad Tryz.prog 25 [.agg (Ai f_),.int .i64 run] (·= .tuple [.agg (Ai r.1),.int .i64 r.2]):=by
 refine Ad.nle (Ad.intro Tryz.func25 rfl rfl (by show _≤95;simp) ?_)
 unfold Tm at h
 refine nS (sq ?_)
 refine B5 rfl ?_
 refine rg rfl fun K j=>?_
 obtain⟨y1,bp,h⟩:=Ae h
 refine Ah.pure Tryz.call32 (Gd f_.Map run bp) rfl fun _ hr=>?_
 subst hr
 refine nS ?_
 refine j _ _ (qn (B8 rfl ?_))
 refine cA h rfl ?_ ?_<;>intro hc h
 ·refine gw8 rfl ?_
  cases h;exact en Tryz.results25
 refine Co (rG rfl fun K j=>?_)
 obtain⟨y2,cx,h⟩:=Ae h
 refine Ah.pure Tryz.call21 (Yt f_ cx) rfl fun _ hr=>?_
 subst hr
 refine nS ?_
 refine j (sq (rG rfl fun K j=>?_))
 obtain⟨y3,bu,h⟩:=Ae h
 refine Ah.pure Tryz.call31 (E7 y2 run bu) rfl fun _ hr=>?_
 subst hr
 refine nS ?_
 refine j (cA h rfl ?_ ?_)<;>intro hc h
 ·refine gw8 rfl ?_
  cases h;exact en Tryz.results25
 refine Co (Cy rfl ?_)
 refine gw3 rfl ?_
 refine AWP.Ek (ι:=(Bool×(List Au))×(Nat)) (fun zz=>[(1,.int .i64 run),(2,.ptr 0 0),(4,.ptr 1 0),(8,.sl 1 (y2.map An)),(9,.own 3 zz.2 0 zz.1.2.length),(10,.bool zz.1.1)]) (fun zz=>[.box (Ai f_),.box [.nils,.nils,.nils,.nils,.nils,.nils,.nils,.nils,.nils,.nils,.nils,.nils,.nils,.nils,.nils,.nils,.int .i64 0,.int .i64 0],.gone,.row zz.2 3 (zz.1.2.map Ax)]) (fun zz=>Mz f_ run y2 zz.1.1 zz.1.2=some r) (fun zz=>⟨rfl,rfl,rfl⟩) ?_ ?_
 ·refine B8 rfl (bk ?_)
  obtain⟨o12,dy,ki⟩:=Ae h
  clear h
  refine AWP.Bh dy (0:Nat) (fun zz=>[(1,.int .i64 run),(2,.ptr 0 0),(4,.ptr 1 0),(8,.sl 1 (y2.map An)),(9,.own 3 zz.2.2 0 zz.2.1.2.length),(10,.bool zz.2.1.1),(11,.int .i64 ((zz.1:Nat):Int))]) (fun zz=>[.box (Ai f_),.box [.nils,.nils,.nils,.nils,.nils,.nils,.nils,.nils,.nils,.nils,.nils,.nils,.nils,.nils,.nils,.nils,.int .i64 0,.int .i64 0],.gone,.row zz.2.2 3 (zz.2.1.2.map Ax)]) ?_
  rintro wc ⟨done10,nu⟩ jr xx dy
  dsimp only
  refine sq (rG rfl fun K j=>?_)
  intro hm
  refine j (cD rfl ?_ ?_)<;>intro hc
  ·obtain rfl:=fnD dy hc
   have h:=Ao ki;try dsimp only at h
   have af:=leD xx hc
   subst af
   refine gw4 ?_
   exact⟨((done10,nu),jr),h,cu,cu⟩
  obtain⟨fe,b12,ib,zr,kx,h,dy⟩:=fcD dy hc
  have ky:=wk (k:=wc) (by omega)
  unfold M0 at h;try dsimp only at h
  refine gw9 (rG rfl fun K j=>?_)
  refine A1.of (f:=Ax) (l:=f_.Status) kx ?_
  refine nS ?_
  refine j (sq (rG rfl fun K j=>?_))
  refine gT h ?_ ?_<;>intro hc h
  ·refine j (cA h rfl ?_ ?_)<;>intro hc h
   ·refine rG rfl fun K j=>?_
    obtain⟨hk,h⟩:=Bc h
    (repeat refine rp ?_);try simp +decide -implicitDefEqProofs only[go_sem]
    refine j (gw7 rfl ?_)
    refine gw3 rfl ?_
    refine cA h rfl ?_ ?_<;>intro hc h
    ·refine rg rfl fun K j=>?_
     obtain⟨hk,h⟩:=Bc h
     (repeat refine rp ?_);try simp +decide -implicitDefEqProofs only[go_sem]
     refine j _ _ (Eo rfl ?_)
     refine lE ib dy h ((jr+1)+1) ?_ ?_<;>exact cuw ky
    refine gw5 rfl ?_
    refine lE ib dy h (jr+1) ?_ ?_<;>exact cuw ky
   refine Co (B8 rfl ?_)
   refine cA h rfl ?_ ?_<;>intro hc h
   ·refine rg rfl fun K j=>?_
    obtain⟨hk,h⟩:=Bc h
    (repeat refine rp ?_);try simp +decide -implicitDefEqProofs only[go_sem]
    refine j _ _ (Eo rfl ?_)
    refine lE ib dy h (jr+1) ?_ ?_<;>exact cuw ky
   refine gw5 rfl ?_
   refine lE ib dy h jr ?_ ?_<;>exact cuw ky
  refine j (cf rfl (Co (B8 rfl ?_)))
  refine cA h rfl ?_ ?_<;>intro hc h
  ·refine rg rfl fun K j=>?_
   obtain⟨hk,h⟩:=Bc h
   (repeat refine rp ?_);try simp +decide -implicitDefEqProofs only[go_sem]
   refine j _ _ (Eo rfl ?_)
   refine lE ib dy h (jr+1) ?_ ?_<;>exact cuw ky
  refine gw5 rfl ?_
  refine lE ib dy h jr ?_ ?_<;>exact cuw ky
 rintro⟨⟨done4,na⟩,jn⟩ h
 try dsimp only at h ⊢
 unfold Mz at h;try dsimp only at h
 refine sq (B8 rfl ?_)
 refine cA h rfl ?_ ?_<;>intro hc h
 ·refine rg rfl fun K j=>?_
  obtain⟨hk,h⟩:=Bc h
  (repeat refine rp ?_);try simp +decide -implicitDefEqProofs only[go_sem]
  refine j _ _ (qn (sq (rG rfl fun K j=>?_)))
  intro hm
  refine j (cA h rfl ?_ ?_)<;>intro hc h
  ·refine gw8 rfl ?_
   cases h;exact en Tryz.results25
  refine gw6 (sq (dR Tryz.mixed fun K j=>?_))
  refine nS ?_
  obtain⟨hk,h⟩:=Bc h
  (repeat refine rp ?_);try simp +decide -implicitDefEqProofs only[go_sem]
  obtain⟨hk,h⟩:=Bc h
  (repeat refine rp ?_);try simp +decide -implicitDefEqProofs only[go_sem]
  obtain⟨y8,ej,h⟩:=Ae h
  refine Br.snap Tryz.call19 (Ys f_ (y2++[run]) run ej) (by simp +decide -implicitDefEqProofs only[go_sem]) rfl ?_
  refine nS ?_
  refine j _ _ _ (by kernel_rfl) (qn (B8 rfl ?_))
  refine cA h rfl ?_ ?_<;>intro hc h
  ·refine gw8 rfl ?_
   cases h;exact en Tryz.results25
  refine Co (Cy rfl ?_)
  refine ar rfl (Cu ?_)
  cases h;exact en Tryz.results25
 refine gw6 (rG rfl fun K j=>?_)
 intro hm
 refine j (cA h rfl ?_ ?_)<;>intro hc h
 ·refine gw8 rfl ?_
  cases h;exact en Tryz.results25
 refine gw6 (sq (dR Tryz.mixed fun K j=>?_))
 refine nS ?_
 obtain⟨hk,h⟩:=Bc h
 (repeat refine rp ?_);try simp +decide -implicitDefEqProofs only[go_sem]
 obtain⟨hk,h⟩:=Bc h
 (repeat refine rp ?_);try simp +decide -implicitDefEqProofs only[go_sem]
 obtain⟨y9,fu,h⟩:=Ae h
 refine Br.snap Tryz.call19 (Ys f_ (y2++[run]) run fu) (by simp +decide -implicitDefEqProofs only[go_sem]) rfl ?_
 refine nS ?_
 refine j _ _ _ (by kernel_rfl) (qn (B8 rfl ?_))
 refine cA h rfl ?_ ?_<;>intro hc h
 ·refine gw8 rfl ?_
  cases h;exact en Tryz.results25
 refine Co (Cy rfl ?_)
 refine ar rfl (Cu ?_)
 cases h;exact en Tryz.results25
def Qe (b:Av) (k3:Nat) (cm:Cn) (sv:Unit):Option (Out (Unit) (Bool)):=
 (Da b.Runs ((k3:Nat):Int)).bind fun cp=>(bif (!((decide (cm.ID=cp.ID))&&((decide (cm.Operator=cp.Operator))&&((decide (cm.From=cp.From))&&((decide (cm.To=cp.To))&&((decide (cm.Grade=cp.Grade))&&((decide (cm.Zone=cp.Zone))&&(decide (cm.Length=cp.Length)))))))))then some (Out.ret false)else some (Out.next ()))
def Lq (a:Av) (b:Av):Option (Bool):=
 (Al (Qe b) 0 a.Runs ()).bind fun o3=>o3.on fun s3=>some true
def Qd (b:Av) (k6:Nat) (dr:Ck) (sv:Unit):Option (Out (Unit) (Bool)):=
 (Da b.Lifts ((k6:Nat):Int)).bind fun ey=>(bif (!((decide (dr.ID=ey.ID))&&((decide (dr.Operator=ey.Operator))&&((decide (dr.From=ey.From))&&((decide (dr.To=ey.To))&&((decide (dr.Length=ey.Length))&&((decide (dr.Speed=ey.Speed))&&((decide (dr.Seats=ey.Seats))&&(decide (dr.Spacing=ey.Spacing))))))))))then some (Out.ret false)else some (Out.next ()))
def Lr (a:Av) (b:Av):Option (Bool):=
 (Al (Qd b) 0 a.Lifts ()).bind fun o6=>o6.on fun s6=>Lq a b
def Qc (b:Av) (k9:Nat) (ji:Cx) (sv:Unit):Option (Out (Unit) (Bool)):=
 (Da b.Nodes ((k9:Nat):Int)).bind fun ei=>(bif (!((decide (ji.ID=ei.ID))&&(decide (ji.Alt=ei.Alt))))then some (Out.ret false)else some (Out.next ()))
def My (a:Av) (b:Av):Option (Bool):=
 (bif (decide (((a.Nodes.length:Nat):Int)≠((b.Nodes.length:Nat):Int)))then some false else(bif (decide (((a.Lifts.length:Nat):Int)≠((b.Lifts.length:Nat):Int)))then some false else(bif (decide (((a.Runs.length:Nat):Int)≠((b.Runs.length:Nat):Int)))then some false else(Kk a.Bases b.Bases).bind fun y1=>(bif (!y1)then some false else(Al (Qc b) 0 a.Nodes ()).bind fun o9=>o9.on fun s9=>Lr a b))))
theorem cH (a:Av) (b:Av) {r:Bool} (h:My a b=some r):Ad Tryz.prog 59 [.agg (Be a),.agg (Be b)] (·= .bool r):=by
 refine Ad.nle (Ad.intro Tryz.func59 rfl rfl (by show _≤95;simp) ?_)
 unfold My at h
 refine nS (sq ?_)
 refine B5 rfl ?_
 refine rg rfl fun K j=>?_
 intro hm
 intro hm
 refine gF' h ?_ ?_<;>intro hc h
 ·refine j _ _ (qn (ct rfl (gw8 rfl ?_)))
  cases h;exact en Tryz.results59
 intro hm
 intro hm
 refine gF' h ?_ ?_<;>intro hc h
 ·refine j _ _ (qn (ct rfl (gw8 rfl ?_)))
  cases h;exact en Tryz.results59
 intro hm
 intro hm
 refine gF' h ?_ ?_<;>intro hc h
 ·refine j _ _ (qn (ct rfl (gw8 rfl ?_)))
  cases h;exact en Tryz.results59
 obtain⟨y1,bp,h⟩:=Ae h
 refine Ah.pure Tryz.call15 (Jj a.Bases b.Bases bp) rfl fun _ hr=>?_
 subst hr
 refine nS ?_
 refine j _ _ (qn (cA h rfl ?_ ?_))<;>intro hc h
 ·refine gw8 rfl ?_
  cases h;exact en Tryz.results59
 refine Co ?_
 refine AWP.Ek (ι:=(Unit)×(Unit)) (fun zz=>[(2,.ptr 0 0),(3,.ptr 1 0)]) (fun zz=>[.box (Be a),.box (Be b)]) (fun zz=>Lr a b=some r) (fun zz=>⟨rfl,rfl,rfl⟩) ?_ ?_
 ·refine B8 rfl (bk ?_)
  obtain⟨o9,ja,yi⟩:=Ae h
  clear h
  refine AWP.Bh ja () (fun zz=>[(2,.ptr 0 0),(3,.ptr 1 0),(5,.int .i64 ((zz.1:Nat):Int))]) (fun zz=>[.box (Be a),.box (Be b)]) ?_
  rintro k9 ⟨⟩ ⟨⟩ hk9 ja
  dsimp only
  refine sq (rG rfl fun K j=>?_)
  intro hm
  refine j (cD rfl ?_ ?_)<;>intro hc
  ·obtain rfl:=fnD ja hc
   have h:=Ao yi;try dsimp only at h
   have af:=leD hk9 hc
   subst af
   refine gw4 ?_
   exact⟨((),()),h,cu,cu⟩
  obtain⟨ji,b9,ox,hx9_,hx9,h,ja⟩:=fcD ja hc
  have xf:=wk (k:=k9) (by omega)
  unfold Qc at h;try dsimp only at h
  refine gw9 (sq (dR Tryz.mixed fun K j=>?_))
  refine nS ?_
  refine A1.of (f:=Bq) (l:=a.Nodes) hx9 ?_
  refine nS ?_
  obtain⟨ei,rb,h⟩:=Ae h
  refine A1.of (f:=Bq) (l:=b.Nodes) rb ?_
  refine nS ?_
  refine j _ _ _ (by kernel_rfl) (qn (cA h rfl ?_ ?_))<;>intro hc h
  ·refine Cs rfl ?_
   cases x0 h ja yi;exact en Tryz.results59
  refine gw5 rfl ?_
  refine lE ox ja h () ?_ ?_<;>exact cuw xf
 rintro⟨⟨⟩,⟨⟩⟩ h
 try dsimp only at h ⊢
 unfold Lr at h;try dsimp only at h
 refine AWP.Ek (ι:=(Unit)×(Unit)) (fun zz=>[(2,.ptr 0 0),(3,.ptr 1 0)]) (fun zz=>[.box (Be a),.box (Be b)]) (fun zz=>Lq a b=some r) (fun zz=>⟨rfl,rfl,rfl⟩) ?_ ?_
 ·refine B8 rfl (bk ?_)
  obtain⟨o6,dx,mc⟩:=Ae h
  clear h
  refine AWP.Bh dx () (fun zz=>[(2,.ptr 0 0),(3,.ptr 1 0),(6,.int .i64 ((zz.1:Nat):Int))]) (fun zz=>[.box (Be a),.box (Be b)]) ?_
  rintro k6 ⟨⟩ ⟨⟩ uc dx
  dsimp only
  refine sq (rG rfl fun K j=>?_)
  intro hm
  refine j (cD rfl ?_ ?_)<;>intro hc
  ·obtain rfl:=fnD dx hc
   have h:=Ao mc;try dsimp only at h
   have af:=leD uc hc
   subst af
   refine gw4 ?_
   exact⟨((),()),h,cu,cu⟩
  obtain⟨dr,b6,iz,tr,nw,h,dx⟩:=fcD dx hc
  have ou:=wk (k:=k6) (by omega)
  unfold Qd at h;try dsimp only at h
  refine gw9 (sq (dR Tryz.mixed fun K j=>?_))
  refine nS ?_
  refine A1.of (f:=Bl) (l:=a.Lifts) nw ?_
  refine nS ?_
  obtain⟨ey,qx,h⟩:=Ae h
  refine A1.of (f:=Bl) (l:=b.Lifts) qx ?_
  refine nS ?_
  refine j _ _ _ (by kernel_rfl) (qn (cA h rfl ?_ ?_))<;>intro hc h
  ·refine Cs rfl ?_
   cases x0 h dx mc;exact en Tryz.results59
  refine gw5 rfl ?_
  refine lE iz dx h () ?_ ?_<;>exact cuw ou
 rintro⟨⟨⟩,⟨⟩⟩ h
 try dsimp only at h ⊢
 unfold Lq at h;try dsimp only at h
 refine sq (B8 rfl (bk ?_))
 obtain⟨o3,bo,ew⟩:=Ae h
 clear h
 refine AWP.Bh bo () (fun zz=>[(2,.ptr 0 0),(3,.ptr 1 0),(7,.int .i64 ((zz.1:Nat):Int))]) (fun zz=>[.box (Be a),.box (Be b)]) ?_
 rintro k3 ⟨⟩ ⟨⟩ jz bo
 dsimp only
 refine sq (rG rfl fun K j=>?_)
 intro hm
 refine j (cD rfl ?_ ?_)<;>intro hc
 ·obtain rfl:=fnD bo hc
  have h:=Ao ew;try dsimp only at h
  have af:=leD jz hc
  subst af
  refine Cr rfl ?_
  cases h;exact en Tryz.results59
 obtain⟨cm,b3,da,lr,gn,h,bo⟩:=fcD bo hc
 have gi:=wk (k:=k3) (by omega)
 unfold Qe at h;try dsimp only at h
 refine gw9 (sq (dR Tryz.mixed fun K j=>?_))
 refine nS ?_
 refine A1.of (f:=Bj) (l:=a.Runs) gn ?_
 refine nS ?_
 obtain⟨cp,gv,h⟩:=Ae h
 refine A1.of (f:=Bj) (l:=b.Runs) gv ?_
 refine nS ?_
 refine j _ _ _ (by kernel_rfl) (qn (cA h rfl ?_ ?_))<;>intro hc h
 ·refine Cs rfl ?_
  cases x0 h bo ew;exact en Tryz.results59
 refine gw5 rfl ?_
 refine lE da bo h () ?_ ?_<;>exact cuw gi
def Tk (b:Af) (k4:Nat) (cp:B3) (sv:Unit):Option (Out (Unit) (Bool)):=
 (Da b.Groomers ((k4:Nat):Int)).bind fun du=>(bif (!((decide (cp.ID=du.ID))&&((decide (cp.Node=du.Node))&&((decide (cp.Fuel=du.Fuel))&&((decide (cp.State=du.State))&&((decide (cp.To=du.To))&&((decide (cp.Run=du.Run))&&((decide (cp.Until=du.Until))&&(cp.Winch ==du.Winch)))))))))then some (Out.ret false)else some (Out.next ()))
def Oq (a:Af) (b:Af):Option (Bool):=
 (Al (Tk b) 0 a.Groomers ()).bind fun o4=>o4.on fun s4=>some true
def Tj (b:Af) (k7:Nat) (ey:A5) (sv:Unit):Option (Out (Unit) (Bool)):=
 (Da b.Missions ((k7:Nat):Int)).bind fun eu=>(bif (!((decide (ey.ID=eu.ID))&&((decide (ey.Slide=eu.Slide))&&((decide (ey.By=eu.By))&&((decide (ey.State=eu.State))&&((decide (ey.Since=eu.Since))&&((decide (ey.Window.From=eu.Window.From))&&(decide (ey.Window.To=eu.Window.To)))))))))then some (Out.ret false)else some (Out.next ()))
def Ot (a:Af) (b:Af):Option (Bool):=
 (Al (Tj b) 0 a.Missions ()).bind fun o7=>o7.on fun s7=>Oq a b
def Ti (b:Af) (tm:Nat) (ei:C7) (sv:Unit):Option (Out (Unit) (Bool)):=
 (Da b.Surfaces ((tm:Nat):Int)).bind fun im=>(bif (!((decide (ei.Run=im.Run))&&((decide (ei.Groomed=im.Groomed))&&(decide (ei.Traffic=im.Traffic)))))then some (Out.ret false)else some (Out.next ()))
def Ou (a:Af) (b:Af):Option (Bool):=
 (Al (Ti b) 0 a.Surfaces ()).bind fun o10=>o10.on fun s10=>Ot a b
def Th (b:Af) (k13:Nat) (lj:Bb) (sv:Unit):Option (Out (Unit) (Bool)):=
 (Da b.Closures ((k13:Nat):Int)).bind fun qk=>(bif (!((decide (lj.Kind=qk.Kind))&&((decide (lj.Target=qk.Target))&&((decide (lj.By=qk.By))&&(decide (lj.Since=qk.Since))))))then some (Out.ret false)else some (Out.next ()))
def Ov (a:Af) (b:Af):Option (Bool):=
 (Al (Th b) 0 a.Closures ()).bind fun o13=>o13.on fun s13=>Ou a b
def Tg (b:Af) (k16:Nat) (gu:Cv) (sv:Unit):Option (Out (Unit) (Bool)):=
 (Da b.Lifts ((k16:Nat):Int)).bind fun kd=>(bif (!((decide (gu.Lift=kd.Lift))&&(decide (gu.Mode=kd.Mode))))then some (Out.ret false)else some (Out.next ()))
def Rg (a:Af) (b:Af):Option (Bool):=
 (bif (decide (((a.Lifts.length:Nat):Int)≠((b.Lifts.length:Nat):Int)))then some false else(bif (decide (((a.Closures.length:Nat):Int)≠((b.Closures.length:Nat):Int)))then some false else(bif (decide (((a.Surfaces.length:Nat):Int)≠((b.Surfaces.length:Nat):Int)))then some false else(bif (decide (((a.Missions.length:Nat):Int)≠((b.Missions.length:Nat):Int)))then some false else(bif (decide (((a.Groomers.length:Nat):Int)≠((b.Groomers.length:Nat):Int)))then some false else(Al (Tg b) 0 a.Lifts ()).bind fun o16=>o16.on fun s16=>Ov a b)))))
theorem fS (a:Af) (b:Af) {r:Bool} (h:Rg a b=some r):Ad Tryz.prog 60 [.agg (Ai a),.agg (Ai b)] (·= .bool r):=by
 refine Ad.nle (Ad.intro Tryz.func60 rfl rfl (by show _≤143;simp) ?_)
 unfold Rg at h
 refine nS (sq ?_)
 refine B5 rfl ?_
 refine rg rfl fun K j=>?_
 intro hm
 intro hm
 refine gF' h ?_ ?_<;>intro hc h
 ·refine j _ _ (qn (ct rfl (gw8 rfl ?_)))
  cases h;exact en Tryz.results60
 intro hm
 intro hm
 refine gF' h ?_ ?_<;>intro hc h
 ·refine j _ _ (qn (ct rfl (gw8 rfl ?_)))
  cases h;exact en Tryz.results60
 intro hm
 intro hm
 refine gF' h ?_ ?_<;>intro hc h
 ·refine j _ _ (qn (ct rfl (gw8 rfl ?_)))
  cases h;exact en Tryz.results60
 intro hm
 intro hm
 refine gF' h ?_ ?_<;>intro hc h
 ·refine j _ _ (qn (ct rfl (gw8 rfl ?_)))
  cases h;exact en Tryz.results60
 intro hm
 intro hm
 refine j _ _ (qn (cA h rfl ?_ ?_))<;>intro hc h
 ·refine gw8 rfl ?_
  cases h;exact en Tryz.results60
 refine Co ?_
 refine AWP.Ek (ι:=(Unit)×(Unit)) (fun zz=>[(2,.ptr 0 0),(3,.ptr 1 0)]) (fun zz=>[.box (Ai a),.box (Ai b)]) (fun zz=>Ov a b=some r) (fun zz=>⟨rfl,rfl,rfl⟩) ?_ ?_
 ·refine B8 rfl (bk ?_)
  obtain⟨o16,gb,uk⟩:=Ae h
  clear h
  refine AWP.Bh gb () (fun zz=>[(2,.ptr 0 0),(3,.ptr 1 0),(5,.int .i64 ((zz.1:Nat):Int))]) (fun zz=>[.box (Ai a),.box (Ai b)]) ?_
  rintro k16 ⟨⟩ ⟨⟩ hk16 gb
  dsimp only
  refine sq (rG rfl fun K j=>?_)
  intro hm
  refine j (cD rfl ?_ ?_)<;>intro hc
  ·obtain rfl:=fnD gb hc
   have h:=Ao uk;try dsimp only at h
   have af:=leD hk16 hc
   subst af
   refine gw4 ?_
   exact⟨((),()),h,cu,cu⟩
  obtain⟨gu,b16,hlt16,hx16_,hx16,h,gb⟩:=fcD gb hc
  have hw16:=wk (k:=k16) (by omega)
  unfold Tg at h;try dsimp only at h
  refine gw9 (sq (dR Tryz.mixed fun K j=>?_))
  refine nS ?_
  refine A1.of (f:=A4) (l:=a.Lifts) hx16 ?_
  refine nS ?_
  obtain⟨kd,zi,h⟩:=Ae h
  refine A1.of (f:=A4) (l:=b.Lifts) zi ?_
  refine nS ?_
  refine j _ _ _ (by kernel_rfl) (qn (cA h rfl ?_ ?_))<;>intro hc h
  ·refine Cs rfl ?_
   cases x0 h gb uk;exact en Tryz.results60
  refine gw5 rfl ?_
  refine lE hlt16 gb h () ?_ ?_<;>exact cuw hw16
 rintro⟨⟨⟩,⟨⟩⟩ h
 try dsimp only at h ⊢
 unfold Ov at h;try dsimp only at h
 refine AWP.Ek (ι:=(Unit)×(Unit)) (fun zz=>[(2,.ptr 0 0),(3,.ptr 1 0)]) (fun zz=>[.box (Ai a),.box (Ai b)]) (fun zz=>Ou a b=some r) (fun zz=>⟨rfl,rfl,rfl⟩) ?_ ?_
 ·refine B8 rfl (bk ?_)
  obtain⟨o13,nr,hO13⟩:=Ae h
  clear h
  refine AWP.Bh nr () (fun zz=>[(2,.ptr 0 0),(3,.ptr 1 0),(6,.int .i64 ((zz.1:Nat):Int))]) (fun zz=>[.box (Ai a),.box (Ai b)]) ?_
  rintro k13 ⟨⟩ ⟨⟩ hk13 nr
  dsimp only
  refine sq (rG rfl fun K j=>?_)
  intro hm
  refine j (cD rfl ?_ ?_)<;>intro hc
  ·obtain rfl:=fnD nr hc
   have h:=Ao hO13;try dsimp only at h
   have af:=leD hk13 hc
   subst af
   refine gw4 ?_
   exact⟨((),()),h,cu,cu⟩
  obtain⟨lj,b13,hlt13,hx13_,hx13,h,nr⟩:=fcD nr hc
  have hw13:=wk (k:=k13) (by omega)
  unfold Th at h;try dsimp only at h
  refine gw9 (sq (dR Tryz.mixed fun K j=>?_))
  refine nS ?_
  refine A1.of (f:=Ay) (l:=a.Closures) hx13 ?_
  refine nS ?_
  obtain⟨qk,zj,h⟩:=Ae h
  refine A1.of (f:=Ay) (l:=b.Closures) zj ?_
  refine nS ?_
  refine j _ _ _ (by kernel_rfl) (qn (cA h rfl ?_ ?_))<;>intro hc h
  ·refine Cs rfl ?_
   cases x0 h nr hO13;exact en Tryz.results60
  refine gw5 rfl ?_
  refine lE hlt13 nr h () ?_ ?_<;>exact cuw hw13
 rintro⟨⟨⟩,⟨⟩⟩ h
 try dsimp only at h ⊢
 unfold Ou at h;try dsimp only at h
 refine AWP.Ek (ι:=(Unit)×(Unit)) (fun zz=>[(2,.ptr 0 0),(3,.ptr 1 0)]) (fun zz=>[.box (Ai a),.box (Ai b)]) (fun zz=>Ot a b=some r) (fun zz=>⟨rfl,rfl,rfl⟩) ?_ ?_
 ·refine B8 rfl (bk ?_)
  obtain⟨o10,eh,pb⟩:=Ae h
  clear h
  refine AWP.Bh eh () (fun zz=>[(2,.ptr 0 0),(3,.ptr 1 0),(7,.int .i64 ((zz.1:Nat):Int))]) (fun zz=>[.box (Ai a),.box (Ai b)]) ?_
  rintro tm ⟨⟩ ⟨⟩ rq eh
  dsimp only
  refine sq (rG rfl fun K j=>?_)
  intro hm
  refine j (cD rfl ?_ ?_)<;>intro hc
  ·obtain rfl:=fnD eh hc
   have h:=Ao pb;try dsimp only at h
   have af:=leD rq hc
   subst af
   refine gw4 ?_
   exact⟨((),()),h,cu,cu⟩
  obtain⟨ei,b10,ju,uz,nc,h,eh⟩:=fcD eh hc
  have nf:=wk (k:=tm) (by omega)
  unfold Ti at h;try dsimp only at h
  refine gw9 (sq (dR Tryz.mixed fun K j=>?_))
  refine nS ?_
  refine A1.of (f:=Bd) (l:=a.Surfaces) nc ?_
  refine nS ?_
  obtain⟨im,qz,h⟩:=Ae h
  refine A1.of (f:=Bd) (l:=b.Surfaces) qz ?_
  refine nS ?_
  refine j _ _ _ (by kernel_rfl) (qn (cA h rfl ?_ ?_))<;>intro hc h
  ·refine Cs rfl ?_
   cases x0 h eh pb;exact en Tryz.results60
  refine gw5 rfl ?_
  refine lE ju eh h () ?_ ?_<;>exact cuw nf
 rintro⟨⟨⟩,⟨⟩⟩ h
 try dsimp only at h ⊢
 unfold Ot at h;try dsimp only at h
 refine AWP.Ek (ι:=(Unit)×(Unit)) (fun zz=>[(2,.ptr 0 0),(3,.ptr 1 0)]) (fun zz=>[.box (Ai a),.box (Ai b)]) (fun zz=>Oq a b=some r) (fun zz=>⟨rfl,rfl,rfl⟩) ?_ ?_
 ·refine B8 rfl (bk ?_)
  obtain⟨o7,nm,hO7⟩:=Ae h
  clear h
  refine AWP.Bh nm () (fun zz=>[(2,.ptr 0 0),(3,.ptr 1 0),(8,.int .i64 ((zz.1:Nat):Int))]) (fun zz=>[.box (Ai a),.box (Ai b)]) ?_
  rintro k7 ⟨⟩ ⟨⟩ hk7 nm
  dsimp only
  refine sq (rG rfl fun K j=>?_)
  intro hm
  refine j (cD rfl ?_ ?_)<;>intro hc
  ·obtain rfl:=fnD nm hc
   have h:=Ao hO7;try dsimp only at h
   have af:=leD hk7 hc
   subst af
   refine gw4 ?_
   exact⟨((),()),h,cu,cu⟩
  obtain⟨ey,b7,ua,hx7_,zm,h,nm⟩:=fcD nm hc
  have hw7:=wk (k:=k7) (by omega)
  unfold Tj at h;try dsimp only at h
  refine gw9 (sq (dR Tryz.mixed fun K j=>?_))
  refine nS ?_
  refine A1.of (f:=Aq) (l:=a.Missions) zm ?_
  refine nS ?_
  obtain⟨eu,zl,h⟩:=Ae h
  refine A1.of (f:=Aq) (l:=b.Missions) zl ?_
  refine nS ?_
  refine j _ _ _ (by kernel_rfl) (qn (cA h rfl ?_ ?_))<;>intro hc h
  ·refine Cs rfl ?_
   cases x0 h nm hO7;exact en Tryz.results60
  refine gw5 rfl ?_
  refine lE ua nm h () ?_ ?_<;>exact cuw hw7
 rintro⟨⟨⟩,⟨⟩⟩ h
 try dsimp only at h ⊢
 unfold Oq at h;try dsimp only at h
 refine sq (B8 rfl (bk ?_))
 obtain⟨o4,ck,jl⟩:=Ae h
 clear h
 refine AWP.Bh ck () (fun zz=>[(2,.ptr 0 0),(3,.ptr 1 0),(9,.int .i64 ((zz.1:Nat):Int))]) (fun zz=>[.box (Ai a),.box (Ai b)]) ?_
 rintro k4 ⟨⟩ ⟨⟩ oy ck
 dsimp only
 refine sq (rG rfl fun K j=>?_)
 intro hm
 refine j (cD rfl ?_ ?_)<;>intro hc
 ·obtain rfl:=fnD ck hc
  have h:=Ao jl;try dsimp only at h
  have af:=leD oy hc
  subst af
  refine Cr rfl ?_
  cases h;exact en Tryz.results60
 obtain⟨cp,b4,gj,re,qb,h,ck⟩:=fcD ck hc
 have kf:=wk (k:=k4) (by omega)
 unfold Tk at h;try dsimp only at h
 refine gw9 (sq (dR Tryz.mixed fun K j=>?_))
 refine nS ?_
 refine A1.of (f:=A7) (l:=a.Groomers) qb ?_
 refine nS ?_
 obtain⟨du,tq,h⟩:=Ae h
 refine A1.of (f:=A7) (l:=b.Groomers) tq ?_
 refine nS ?_
 refine j _ _ _ (by kernel_rfl) (qn (cA h rfl ?_ ?_))<;>intro hc h
 ·refine Cs rfl ?_
  cases x0 h ck jl;exact en Tryz.results60
 refine gw5 rfl ?_
 refine lE gj ck h () ?_ ?_<;>exact cuw kf
def Mf (b:List Au) (k0:Nat) (ab:Au) (sv:Unit):Option (Out (Unit) (Bool)):=
 (Da b ((k0:Nat):Int)).bind fun ak=>(bif (!((decide (ab.Run=ak.Run))&&((ab.Open ==ak.Open)&&(decide (ab.Since=ak.Since)))))then some (Out.ret false)else some (Out.next ()))
def Hw (a:List Au) (b:List Au):Option (Bool):=
 (bif (decide (((a.length:Nat):Int)≠((b.length:Nat):Int)))then some false else(Al (Mf b) 0 a ()).bind fun o0=>o0.on fun s0=>some true)
theorem X8 (a:List Au) (b:List Au) {r:Bool} (h:Hw a b=some r):Ad Tryz.prog 61 [.sl 3 (a.map Ax),.sl 3 (b.map Ax)] (·= .bool r):=by
 refine Ad.nle (Ad.intro Tryz.func61 rfl rfl (by show _≤26;simp) ?_)
 unfold Hw at h
 refine nS (sq ?_)
 refine B5 rfl ?_
 refine rg rfl fun K j=>?_
 intro hm
 intro hm
 refine j _ _ (qn (cA h rfl ?_ ?_))<;>intro hc h
 ·refine gw8 rfl ?_
  cases h;exact en Tryz.results61
 refine gw6 (B8 rfl (bk ?_))
 obtain⟨o0,aa,ae⟩:=Ae h
 clear h
 refine AWP.Bh aa () (fun zz=>[(0,.sl 3 (a.map Ax)),(1,.sl 3 (b.map Ax)),(5,.int .i64 ((zz.1:Nat):Int))]) (fun zz=>[]) ?_
 rintro k0 ⟨⟩ ⟨⟩ bb aa
 dsimp only
 refine sq (rG rfl fun K j=>?_)
 intro hm
 refine j (cD rfl ?_ ?_)<;>intro hc
 ·obtain rfl:=fnD aa hc
  have h:=Ao ae;try dsimp only at h
  have af:=leD bb hc
  subst af
  refine Cr rfl ?_
  cases h;exact en Tryz.results61
 obtain⟨ab,b0,ag,bh,ao,h,aa⟩:=fcD aa hc
 have ay:=wk (k:=k0) (by omega)
 unfold Mf at h;try dsimp only at h
 refine gw9 (sq (dR Tryz.mixed fun K j=>?_))
 refine nS ?_
 refine A1.of (f:=Ax) (l:=a) ao ?_
 refine nS ?_
 obtain⟨ak,cd,h⟩:=Ae h
 refine A1.of (f:=Ax) (l:=b) cd ?_
 refine nS ?_
 refine j _ _ _ (by kernel_rfl) (qn (cA h rfl ?_ ?_))<;>intro hc h
 ·refine Cs rfl ?_
  cases x0 h aa ae;exact en Tryz.results61
 refine gw5 rfl ?_
 refine lE ag aa h () ?_ ?_<;>exact cuw ay
def O7 (b:List Int) (k0:Nat) (ab:Int) (sv:Unit):Option (Out (Unit) (Bool)):=
 (Da b ((k0:Nat):Int)).bind fun ak=>(bif (decide (ab≠ak))then some (Out.ret false)else some (Out.next ()))
def Ky (a:List Int) (b:List Int):Option (Bool):=
 (bif (decide (((a.length:Nat):Int)≠((b.length:Nat):Int)))then some false else(Al (O7 b) 0 a ()).bind fun o0=>o0.on fun s0=>some true)
theorem aZ (a:List Int) (b:List Int) {r:Bool} (h:Ky a b=some r):Ad Tryz.prog 224 [.sl 1 (a.map An),.sl 1 (b.map An)] (·= .bool r):=by
 refine Ad.nle (Ad.intro Tryz.func224 rfl rfl (by show _≤26;simp) ?_)
 unfold Ky at h
 refine nS (sq ?_)
 refine B5 rfl ?_
 refine rg rfl fun K j=>?_
 intro hm
 intro hm
 refine j _ _ (qn (cA h rfl ?_ ?_))<;>intro hc h
 ·refine gw8 rfl ?_
  cases h;exact en Tryz.results224
 refine gw6 (B8 rfl (bk ?_))
 obtain⟨o0,aa,ae⟩:=Ae h
 clear h
 refine AWP.Bh aa () (fun zz=>[(0,.sl 1 (a.map An)),(1,.sl 1 (b.map An)),(5,.int .i64 ((zz.1:Nat):Int))]) (fun zz=>[]) ?_
 rintro k0 ⟨⟩ ⟨⟩ bb aa
 dsimp only
 refine sq (rG rfl fun K j=>?_)
 intro hm
 refine j (cD rfl ?_ ?_)<;>intro hc
 ·obtain rfl:=fnD aa hc
  have h:=Ao ae;try dsimp only at h
  have af:=leD bb hc
  subst af
  refine Cr rfl ?_
  cases h;exact en Tryz.results224
 obtain⟨ab,b0,ag,bh,ao,h,aa⟩:=fcD aa hc
 have ay:=wk (k:=k0) (by omega)
 unfold O7 at h;try dsimp only at h
 refine gw9 (sq (dR Tryz.mixed fun K j=>?_))
 refine nS ?_
 refine A1.of (f:=An) (l:=a) ao ?_
 refine nS ?_
 obtain⟨ak,cd,h⟩:=Ae h
 refine A1.of (f:=An) (l:=b) cd ?_
 refine nS ?_
 refine j _ _ _ (by kernel_rfl) (qn (cA h rfl ?_ ?_))<;>intro hc h
 ·refine Cs rfl ?_
  cases x0 h aa ae;exact en Tryz.results224
 refine gw5 rfl ?_
 refine lE ag aa h () ?_ ?_<;>exact cuw ay
def Vp (b:Ba) (k1:Nat) (ak:Fm) (sv:Unit):Option (Out (Unit) (Bool)):=
 (Da b.Signs ((k1:Nat):Int)).bind fun aw=>(bif (!((decide (ak.Item=aw.Item))&&((decide (ak.By=aw.By))&&(decide (ak.At=aw.At)))))then some (Out.ret false)else some (Out.next ()))
def Ty (a:Ba) (b:Ba):Option (Bool):=
 (bif (decide (a.Every≠b.Every))then some false else(bif (decide (((a.Signs.length:Nat):Int)≠((b.Signs.length:Nat):Int)))then some false else(Ky a.Items b.Items).bind fun y1=>(bif (!y1)then some false else(Al (Vp b) 0 a.Signs ()).bind fun o1=>o1.on fun s1=>some true)))
theorem kJ (a:Ba) (b:Ba) {r:Bool} (h:Ty a b=some r):Ad Tryz.prog 144 [.agg (B4 a),.agg (B4 b)] (·= .bool r):=by
 refine Ad.nle (Ad.intro Tryz.func144 rfl rfl (by show _≤46;simp) ?_)
 unfold Ty at h
 refine nS (sq ?_)
 refine B5 rfl ?_
 refine rg rfl fun K j=>?_
 refine gF' h ?_ ?_<;>intro hc h
 ·refine j _ _ (qn (ct rfl (gw8 rfl ?_)))
  cases h;exact en Tryz.results144
 intro hm
 intro hm
 refine gF' h ?_ ?_<;>intro hc h
 ·refine j _ _ (qn (ct rfl (gw8 rfl ?_)))
  cases h;exact en Tryz.results144
 obtain⟨y1,bp,h⟩:=Ae h
 refine Ah.pure Tryz.call224 (aZ a.Items b.Items bp) rfl fun _ hr=>?_
 subst hr
 refine nS ?_
 refine j _ _ (qn (cA h rfl ?_ ?_))<;>intro hc h
 ·refine gw8 rfl ?_
  cases h;exact en Tryz.results144
 refine gw6 (B8 rfl (bk ?_))
 obtain⟨o1,aq,db⟩:=Ae h
 clear h
 refine AWP.Bh aq () (fun zz=>[(2,.ptr 0 0),(3,.ptr 1 0),(5,.int .i64 ((zz.1:Nat):Int))]) (fun zz=>[.box (B4 a),.box (B4 b)]) ?_
 rintro k1 ⟨⟩ ⟨⟩ ga aq
 dsimp only
 refine sq (rG rfl fun K j=>?_)
 intro hm
 refine j (cD rfl ?_ ?_)<;>intro hc
 ·obtain rfl:=fnD aq hc
  have h:=Ao db;try dsimp only at h
  have af:=leD ga hc
  subst af
  refine Cr rfl ?_
  cases h;exact en Tryz.results144
 obtain⟨ak,b1,bl,fx,fk,h,aq⟩:=fcD aq hc
 have cz:=wk (k:=k1) (by omega)
 unfold Vp at h;try dsimp only at h
 refine gw9 (sq (dR Tryz.mixed fun K j=>?_))
 refine nS ?_
 refine A1.of (f:=Cw) (l:=a.Signs) fk ?_
 refine nS ?_
 obtain⟨aw,fg,h⟩:=Ae h
 refine A1.of (f:=Cw) (l:=b.Signs) fg ?_
 refine nS ?_
 refine j _ _ _ (by kernel_rfl) (qn (cA h rfl ?_ ?_))<;>intro hc h
 ·refine Cs rfl ?_
  cases x0 h aq db;exact en Tryz.results144
 refine gw5 rfl ?_
 refine lE bl aq h () ?_ ?_<;>exact cuw cz
def Vl (b:Bk) (k1:Nat) (ak:C5) (sv:Unit):Option (Out (Unit) (Bool)):=
 (Da b.Hazards ((k1:Nat):Int)).bind fun aw=>(bif (!((decide (ak.ID=aw.ID))&&((decide (ak.Run=aw.Run))&&(decide (ak.At=aw.At)))))then some (Out.ret false)else some (Out.next ()))
def Q0 (a:Bk) (b:Bk):Option (Bool):=
 (Al (Vl b) 0 a.Hazards ()).bind fun o1=>o1.on fun s1=>some true
def Vk (b:Bk) (k4:Nat) (cp:Cg) (sv:Unit):Option (Out (Unit) (Bool)):=
 (Da b.Ci ((k4:Nat):Int)).bind fun du=>(bif (decide (cp.Run≠du.Run))then some (Out.ret false)else (Ty cp.List_ du.List_).bind fun y8=>(bif (!y8)then some (Out.ret false)else some (Out.next ())))
def Tn (a:Bk) (b:Bk):Option (Bool):=
 (bif (decide (((a.Ci.length:Nat):Int)≠((b.Ci.length:Nat):Int)))then some false else(bif (decide (((a.Hazards.length:Nat):Int)≠((b.Hazards.length:Nat):Int)))then some false else(Al (Vk b) 0 a.Ci ()).bind fun o4=>o4.on fun s4=>Q0 a b))
theorem kF (a:Bk) (b:Bk) {r:Bool} (h:Tn a b=some r):Ad Tryz.prog 62 [.agg (Cf a),.agg (Cf b)] (·= .bool r):=by
 refine Ad.nle (Ad.intro Tryz.func62 rfl rfl (by show _≤77;simp) ?_)
 unfold Tn at h
 refine nS (sq ?_)
 refine B5 rfl ?_
 refine rg rfl fun K j=>?_
 intro hm
 intro hm
 refine gF' h ?_ ?_<;>intro hc h
 ·refine j _ _ (qn (ct rfl (gw8 rfl ?_)))
  cases h;exact en Tryz.results62
 intro hm
 intro hm
 refine j _ _ (qn (cA h rfl ?_ ?_))<;>intro hc h
 ·refine gw8 rfl ?_
  cases h;exact en Tryz.results62
 refine Co ?_
 refine AWP.Ek (ι:=(Unit)×(Unit)) (fun zz=>[(2,.ptr 0 0),(3,.ptr 1 0)]) (fun zz=>[.box (Cf a),.box (Cf b)]) (fun zz=>Q0 a b=some r) (fun zz=>⟨rfl,rfl,rfl⟩) ?_ ?_
 ·refine B8 rfl (bk ?_)
  obtain⟨o4,ck,jl⟩:=Ae h
  clear h
  refine AWP.Bh ck () (fun zz=>[(2,.ptr 0 0),(3,.ptr 1 0),(5,.int .i64 ((zz.1:Nat):Int))]) (fun zz=>[.box (Cf a),.box (Cf b)]) ?_
  rintro k4 ⟨⟩ ⟨⟩ oy ck
  dsimp only
  refine sq (rG rfl fun K j=>?_)
  intro hm
  refine j (cD rfl ?_ ?_)<;>intro hc
  ·obtain rfl:=fnD ck hc
   have h:=Ao jl;try dsimp only at h
   have af:=leD oy hc
   subst af
   refine gw4 ?_
   exact⟨((),()),h,cu,cu⟩
  obtain⟨cp,b4,gj,re,qb,h,ck⟩:=fcD ck hc
  have kf:=wk (k:=k4) (by omega)
  unfold Vk at h;try dsimp only at h
  refine gw9 (sq (dR Tryz.mixed fun K j=>?_))
  refine nS ?_
  refine A1.of (f:=A3) (l:=a.Ci) qb ?_
  refine nS ?_
  obtain⟨du,tq,h⟩:=Ae h
  refine A1.of (f:=A3) (l:=b.Ci) tq ?_
  refine nS ?_
  refine gF h ?_ ?_<;>intro hc h
  ·refine A1.of (f:=A3) (l:=a.Ci) qb ?_
   refine nS ?_
   refine A1.of (f:=A3) (l:=b.Ci) tq ?_
   refine nS ?_
   obtain⟨y8,ej,h⟩:=Ae h
   refine Br.pure Tryz.call144 (kJ cp.List_ du.List_ ej) rfl ?_
   refine nS ?_
   refine j _ _ _ (by kernel_rfl) (qn (cA h rfl ?_ ?_))<;>intro hc h
   ·refine Cs rfl ?_
    cases x0 h ck jl;exact en Tryz.results62
   refine gw5 rfl ?_
   refine lE gj ck h () ?_ ?_<;>exact cuw kf
  refine j _ _ _ (by kernel_rfl) (qn (ct rfl (Cs rfl ?_)))
  cases x0 h ck jl;exact en Tryz.results62
 rintro⟨⟨⟩,⟨⟩⟩ h
 try dsimp only at h ⊢
 unfold Q0 at h;try dsimp only at h
 refine sq (B8 rfl (bk ?_))
 obtain⟨o1,aq,db⟩:=Ae h
 clear h
 refine AWP.Bh aq () (fun zz=>[(2,.ptr 0 0),(3,.ptr 1 0),(6,.int .i64 ((zz.1:Nat):Int))]) (fun zz=>[.box (Cf a),.box (Cf b)]) ?_
 rintro k1 ⟨⟩ ⟨⟩ ga aq
 dsimp only
 refine sq (rG rfl fun K j=>?_)
 intro hm
 refine j (cD rfl ?_ ?_)<;>intro hc
 ·obtain rfl:=fnD aq hc
  have h:=Ao db;try dsimp only at h
  have af:=leD ga hc
  subst af
  refine Cr rfl ?_
  cases h;exact en Tryz.results62
 obtain⟨ak,b1,bl,fx,fk,h,aq⟩:=fcD aq hc
 have cz:=wk (k:=k1) (by omega)
 unfold Vl at h;try dsimp only at h
 refine gw9 (sq (dR Tryz.mixed fun K j=>?_))
 refine nS ?_
 refine A1.of (f:=Bg) (l:=a.Hazards) fk ?_
 refine nS ?_
 obtain⟨aw,fg,h⟩:=Ae h
 refine A1.of (f:=Bg) (l:=b.Hazards) fg ?_
 refine nS ?_
 refine j _ _ _ (by kernel_rfl) (qn (cA h rfl ?_ ?_))<;>intro hc h
 ·refine Cs rfl ?_
  cases x0 h aq db;exact en Tryz.results62
 refine gw5 rfl ?_
 refine lE bl aq h () ?_ ?_<;>exact cuw cz
def Np (b:List Ct) (k0:Nat) (ab:Ct) (sv:Unit):Option (Out (Unit) (Bool)):=
 (Da b ((k0:Nat):Int)).bind fun ak=>(bif (!((decide (ab.Run=ak.Run))&&((decide (ab.Area=ak.Area))&&((decide (ab.Pack.Natural=ak.Pack.Natural))&&((decide (ab.Pack.Machine=ak.Pack.Machine))&&(decide (ab.Pack.Density=ak.Pack.Density)))))))then some (Out.ret false)else some (Out.next ()))
def Jm (a:List Ct) (b:List Ct):Option (Bool):=
 (bif (decide (((a.length:Nat):Int)≠((b.length:Nat):Int)))then some false else(Al (Np b) 0 a ()).bind fun o0=>o0.on fun s0=>some true)
theorem Yy (a:List Ct) (b:List Ct) {r:Bool} (h:Jm a b=some r):Ad Tryz.prog 63 [.sl 5 (a.map A6),.sl 5 (b.map A6)] (·= .bool r):=by
 refine Ad.nle (Ad.intro Tryz.func63 rfl rfl (by show _≤26;simp) ?_)
 unfold Jm at h
 refine nS (sq ?_)
 refine B5 rfl ?_
 refine rg rfl fun K j=>?_
 intro hm
 intro hm
 refine j _ _ (qn (cA h rfl ?_ ?_))<;>intro hc h
 ·refine gw8 rfl ?_
  cases h;exact en Tryz.results63
 refine gw6 (B8 rfl (bk ?_))
 obtain⟨o0,aa,ae⟩:=Ae h
 clear h
 refine AWP.Bh aa () (fun zz=>[(0,.sl 5 (a.map A6)),(1,.sl 5 (b.map A6)),(5,.int .i64 ((zz.1:Nat):Int))]) (fun zz=>[]) ?_
 rintro k0 ⟨⟩ ⟨⟩ bb aa
 dsimp only
 refine sq (rG rfl fun K j=>?_)
 intro hm
 refine j (cD rfl ?_ ?_)<;>intro hc
 ·obtain rfl:=fnD aa hc
  have h:=Ao ae;try dsimp only at h
  have af:=leD bb hc
  subst af
  refine Cr rfl ?_
  cases h;exact en Tryz.results63
 obtain⟨ab,b0,ag,bh,ao,h,aa⟩:=fcD aa hc
 have ay:=wk (k:=k0) (by omega)
 unfold Np at h;try dsimp only at h
 refine gw9 (sq (dR Tryz.mixed fun K j=>?_))
 refine nS ?_
 refine A1.of (f:=A6) (l:=a) ao ?_
 refine nS ?_
 obtain⟨ak,cd,h⟩:=Ae h
 refine A1.of (f:=A6) (l:=b) cd ?_
 refine nS ?_
 refine j _ _ _ (by kernel_rfl) (qn (cA h rfl ?_ ?_))<;>intro hc h
 ·refine Cs rfl ?_
  cases x0 h aa ae;exact en Tryz.results63
 refine gw5 rfl ?_
 refine lE ag aa h () ?_ ?_<;>exact cuw ay
def Vm (b:List Int) (k0:Nat) (ab:Int) (sv:Unit):Option (Out (Unit) (Bool)):=
 (Da b ((k0:Nat):Int)).bind fun ak=>(bif (decide (ab≠ak))then some (Out.ret false)else some (Out.next ()))
def Qh (a:List Int) (b:List Int):Option (Bool):=
 (bif (decide (((a.length:Nat):Int)≠((b.length:Nat):Int)))then some false else(Al (Vm b) 0 a ()).bind fun o0=>o0.on fun s0=>some true)
theorem Xz (a:List Int) (b:List Int) {r:Bool} (h:Qh a b=some r):Ad Tryz.prog 225 [.sl 1 (a.map An),.sl 1 (b.map An)] (·= .bool r):=by
 refine Ad.nle (Ad.intro Tryz.func225 rfl rfl (by show _≤26;simp) ?_)
 unfold Qh at h
 refine nS (sq ?_)
 refine B5 rfl ?_
 refine rg rfl fun K j=>?_
 intro hm
 intro hm
 refine j _ _ (qn (cA h rfl ?_ ?_))<;>intro hc h
 ·refine gw8 rfl ?_
  cases h;exact en Tryz.results225
 refine gw6 (B8 rfl (bk ?_))
 obtain⟨o0,aa,ae⟩:=Ae h
 clear h
 refine AWP.Bh aa () (fun zz=>[(0,.sl 1 (a.map An)),(1,.sl 1 (b.map An)),(5,.int .i64 ((zz.1:Nat):Int))]) (fun zz=>[]) ?_
 rintro k0 ⟨⟩ ⟨⟩ bb aa
 dsimp only
 refine sq (rG rfl fun K j=>?_)
 intro hm
 refine j (cD rfl ?_ ?_)<;>intro hc
 ·obtain rfl:=fnD aa hc
  have h:=Ao ae;try dsimp only at h
  have af:=leD bb hc
  subst af
  refine Cr rfl ?_
  cases h;exact en Tryz.results225
 obtain⟨ab,b0,ag,bh,ao,h,aa⟩:=fcD aa hc
 have ay:=wk (k:=k0) (by omega)
 unfold Vm at h;try dsimp only at h
 refine gw9 (sq (dR Tryz.mixed fun K j=>?_))
 refine nS ?_
 refine A1.of (f:=An) (l:=a) ao ?_
 refine nS ?_
 obtain⟨ak,cd,h⟩:=Ae h
 refine A1.of (f:=An) (l:=b) cd ?_
 refine nS ?_
 refine j _ _ _ (by kernel_rfl) (qn (cA h rfl ?_ ?_))<;>intro hc h
 ·refine Cs rfl ?_
  cases x0 h aa ae;exact en Tryz.results225
 refine gw5 rfl ?_
 refine lE ag aa h () ?_ ?_<;>exact cuw ay
def Q1 (a:Aw) (b:Aw):Option (Bool):=
 (bif (decide (a.ID=b.ID))then (bif (decide (a.Limit=b.Limit))then (bif (decide (a.Load=b.Load))then (bif (decide (a.Controlled=b.Controlled))then (Qh a.Zones b.Zones).bind fun y1=>(bif y1 then(Qh a.Lifts b.Lifts).bind fun y2=>some y2 else some false)else some false)else some false)else some false)else some false)
theorem cL (a:Aw) (b:Aw) {r:Bool} (h:Q1 a b=some r):Ad Tryz.prog 145 [.agg (Az a),.agg (Az b)] (·= .bool r):=by
 refine Ad.nle (Ad.intro Tryz.func145 rfl rfl (by show _≤45;simp) ?_)
 unfold Q1 at h
 refine nS (sq ?_)
 refine gw7 rfl ?_
 refine rg rfl fun K j=>?_
 refine gT' h ?_ ?_<;>intro hc h
 ·refine j _ _ (Cu ?_)
  cases h;exact en Tryz.results145
 refine gT' h ?_ ?_<;>intro hc h
 ·refine j _ _ (Cu ?_)
  cases h;exact en Tryz.results145
 refine gT h ?_ ?_<;>intro hc h
 ·refine gT h ?_ ?_<;>intro hc h
  ·obtain⟨y1,bp,h⟩:=Ae h
   refine Ah.pure Tryz.call225 (Xz a.Zones b.Zones bp) rfl fun _ hr=>?_
   subst hr
   refine nS ?_
   refine gT h ?_ ?_<;>intro hc h
   ·obtain⟨y2,cx,h⟩:=Ae h
    refine Ah.pure Tryz.call225 (Xz a.Lifts b.Lifts cx) rfl fun _ hr=>?_
    subst hr
    refine nS ?_
    refine j _ _ (Cu ?_)
    cases h;exact en Tryz.results145
   refine j _ _ (Cu ?_)
   cases h;exact en Tryz.results145
  refine j _ _ (Cu ?_)
  cases h;exact en Tryz.results145
 refine j _ _ (Cu ?_)
 cases h;exact en Tryz.results145
def Mg (b:List Aw) (k0:Nat) (ab:Aw) (sv:Unit):Option (Out (Unit) (Bool)):=
 (Da b ((k0:Nat):Int)).bind fun ak=>(Q1 ab ak).bind fun y4=>(bif (!y4)then some (Out.ret false)else some (Out.next ()))
def Hz (a:List Aw) (b:List Aw):Option (Bool):=
 (bif (decide (((a.length:Nat):Int)≠((b.length:Nat):Int)))then some false else(Al (Mg b) 0 a ()).bind fun o0=>o0.on fun s0=>some true)
theorem X9 (a:List Aw) (b:List Aw) {r:Bool} (h:Hz a b=some r):Ad Tryz.prog 64 [.sl 6 (a.map Az),.sl 6 (b.map Az)] (·= .bool r):=by
 refine Ad.nle (Ad.intro Tryz.func64 rfl rfl (by show _≤27;simp) ?_)
 unfold Hz at h
 refine nS (sq ?_)
 refine B5 rfl ?_
 refine rg rfl fun K j=>?_
 intro hm
 intro hm
 refine j _ _ (qn (cA h rfl ?_ ?_))<;>intro hc h
 ·refine gw8 rfl ?_
  cases h;exact en Tryz.results64
 refine gw6 (B8 rfl (bk ?_))
 obtain⟨o0,aa,ae⟩:=Ae h
 clear h
 refine AWP.Bh aa () (fun zz=>[(0,.sl 6 (a.map Az)),(1,.sl 6 (b.map Az)),(5,.int .i64 ((zz.1:Nat):Int))]) (fun zz=>[]) ?_
 rintro k0 ⟨⟩ ⟨⟩ bb aa
 dsimp only
 refine sq (rG rfl fun K j=>?_)
 intro hm
 refine j (cD rfl ?_ ?_)<;>intro hc
 ·obtain rfl:=fnD aa hc
  have h:=Ao ae;try dsimp only at h
  have af:=leD bb hc
  subst af
  refine Cr rfl ?_
  cases h;exact en Tryz.results64
 obtain⟨ab,b0,ag,bh,ao,h,aa⟩:=fcD aa hc
 have ay:=wk (k:=k0) (by omega)
 unfold Mg at h;try dsimp only at h
 refine gw9 (sq (dR Tryz.mixed fun K j=>?_))
 refine nS ?_
 refine A1.of (f:=Az) (l:=a) ao ?_
 refine nS ?_
 obtain⟨ak,cd,h⟩:=Ae h
 refine A1.of (f:=Az) (l:=b) cd ?_
 refine nS ?_
 obtain⟨y4,ch,h⟩:=Ae h
 refine Br.pure Tryz.call145 (cL ab ak ch) rfl ?_
 refine nS ?_
 refine j _ _ _ (by kernel_rfl) (qn (cA h rfl ?_ ?_))<;>intro hc h
 ·refine Cs rfl ?_
  cases x0 h aa ae;exact en Tryz.results64
 refine gw5 rfl ?_
 refine lE ag aa h () ?_ ?_<;>exact cuw ay
def W3 (b:A2) (k0:Nat) (ab:Int) (sv:Unit):Option (Out (Unit) (Bool)):=
 (Da b.Zones ((k0:Nat):Int)).bind fun ak=>(bif (decide (ab≠ak))then some (Out.ret false)else some (Out.next ()))
def Wf (a:A2) (b:A2):Option (Bool):=
 (bif (decide (a.Version≠b.Version))then some false else(bif (!((decide (a.Span.From=b.Span.From))&&(decide (a.Span.To=b.Span.To))))then some false else(bif (decide (a.Low≠b.Low))then some false else(bif (decide (a.High≠b.High))then some false else(bif (decide (a.Level≠b.Level))then some false else(bif (decide (((a.Zones.length:Nat):Int)≠((b.Zones.length:Nat):Int)))then some false else(Al (W3 b) 0 a.Zones ()).bind fun o0=>o0.on fun s0=>some true))))))
theorem lY (a:A2) (b:A2) {r:Bool} (h:Wf a b=some r):Ad Tryz.prog 146 [.agg (Ap a),.agg (Ap b)] (·= .bool r):=by
 refine Ad.nle (Ad.intro Tryz.func146 rfl rfl (by show _≤66;simp) ?_)
 unfold Wf at h
 refine nS (sq ?_)
 refine B5 rfl ?_
 refine rg rfl fun K j=>?_
 refine gF' h ?_ ?_<;>intro hc h
 ·refine j _ _ (qn (ct rfl (gw8 rfl ?_)))
  cases h;exact en Tryz.results146
 refine gF' h ?_ ?_<;>intro hc h
 ·refine j _ _ (qn (ct rfl (gw8 rfl ?_)))
  cases h;exact en Tryz.results146
 refine gF' h ?_ ?_<;>intro hc h
 ·refine j _ _ (qn (ct rfl (gw8 rfl ?_)))
  cases h;exact en Tryz.results146
 refine gF' h ?_ ?_<;>intro hc h
 ·refine j _ _ (qn (ct rfl (gw8 rfl ?_)))
  cases h;exact en Tryz.results146
 refine gF' h ?_ ?_<;>intro hc h
 ·refine j _ _ (qn (ct rfl (gw8 rfl ?_)))
  cases h;exact en Tryz.results146
 intro hm
 intro hm
 refine j _ _ (qn (cA h rfl ?_ ?_))<;>intro hc h
 ·refine gw8 rfl ?_
  cases h;exact en Tryz.results146
 refine gw6 (B8 rfl (bk ?_))
 obtain⟨o0,aa,ae⟩:=Ae h
 clear h
 refine AWP.Bh aa () (fun zz=>[(2,.ptr 0 0),(3,.ptr 1 0),(5,.int .i64 ((zz.1:Nat):Int))]) (fun zz=>[.box (Ap a),.box (Ap b)]) ?_
 rintro k0 ⟨⟩ ⟨⟩ bb aa
 dsimp only
 refine sq (rG rfl fun K j=>?_)
 intro hm
 refine j (cD rfl ?_ ?_)<;>intro hc
 ·obtain rfl:=fnD aa hc
  have h:=Ao ae;try dsimp only at h
  have af:=leD bb hc
  subst af
  refine Cr rfl ?_
  cases h;exact en Tryz.results146
 obtain⟨ab,b0,ag,bh,ao,h,aa⟩:=fcD aa hc
 have ay:=wk (k:=k0) (by omega)
 unfold W3 at h;try dsimp only at h
 refine gw9 (sq (dR Tryz.mixed fun K j=>?_))
 refine nS ?_
 refine A1.of (f:=An) (l:=a.Zones) ao ?_
 refine nS ?_
 obtain⟨ak,cd,h⟩:=Ae h
 refine A1.of (f:=An) (l:=b.Zones) cd ?_
 refine nS ?_
 refine j _ _ _ (by kernel_rfl) (qn (cA h rfl ?_ ?_))<;>intro hc h
 ·refine Cs rfl ?_
  cases x0 h aa ae;exact en Tryz.results146
 refine gw5 rfl ?_
 refine lE ag aa h () ?_ ?_<;>exact cuw ay
def Vn (b:List A2) (k0:Nat) (ab:A2) (sv:Unit):Option (Out (Unit) (Bool)):=
 (Da b ((k0:Nat):Int)).bind fun ak=>(Wf ab ak).bind fun y4=>(bif (!y4)then some (Out.ret false)else some (Out.next ()))
def Tv (a:List A2) (b:List A2):Option (Bool):=
 (bif (decide (((a.length:Nat):Int)≠((b.length:Nat):Int)))then some false else(Al (Vn b) 0 a ()).bind fun o0=>o0.on fun s0=>some true)
theorem kG (a:List A2) (b:List A2) {r:Bool} (h:Tv a b=some r):Ad Tryz.prog 65 [.sl 7 (a.map Ap),.sl 7 (b.map Ap)] (·= .bool r):=by
 refine Ad.nle (Ad.intro Tryz.func65 rfl rfl (by show _≤27;simp) ?_)
 unfold Tv at h
 refine nS (sq ?_)
 refine B5 rfl ?_
 refine rg rfl fun K j=>?_
 intro hm
 intro hm
 refine j _ _ (qn (cA h rfl ?_ ?_))<;>intro hc h
 ·refine gw8 rfl ?_
  cases h;exact en Tryz.results65
 refine gw6 (B8 rfl (bk ?_))
 obtain⟨o0,aa,ae⟩:=Ae h
 clear h
 refine AWP.Bh aa () (fun zz=>[(0,.sl 7 (a.map Ap)),(1,.sl 7 (b.map Ap)),(5,.int .i64 ((zz.1:Nat):Int))]) (fun zz=>[]) ?_
 rintro k0 ⟨⟩ ⟨⟩ bb aa
 dsimp only
 refine sq (rG rfl fun K j=>?_)
 intro hm
 refine j (cD rfl ?_ ?_)<;>intro hc
 ·obtain rfl:=fnD aa hc
  have h:=Ao ae;try dsimp only at h
  have af:=leD bb hc
  subst af
  refine Cr rfl ?_
  cases h;exact en Tryz.results65
 obtain⟨ab,b0,ag,bh,ao,h,aa⟩:=fcD aa hc
 have ay:=wk (k:=k0) (by omega)
 unfold Vn at h;try dsimp only at h
 refine gw9 (sq (dR Tryz.mixed fun K j=>?_))
 refine nS ?_
 refine A1.of (f:=Ap) (l:=a) ao ?_
 refine nS ?_
 obtain⟨ak,cd,h⟩:=Ae h
 refine A1.of (f:=Ap) (l:=b) cd ?_
 refine nS ?_
 obtain⟨y4,ch,h⟩:=Ae h
 refine Br.pure Tryz.call146 (lY ab ak ch) rfl ?_
 refine nS ?_
 refine j _ _ _ (by kernel_rfl) (qn (cA h rfl ?_ ?_))<;>intro hc h
 ·refine Cs rfl ?_
  cases x0 h aa ae;exact en Tryz.results65
 refine gw5 rfl ?_
 refine lE ag aa h () ?_ ?_<;>exact cuw ay
def O4 (b:List Int) (k0:Nat) (ab:Int) (sv:Unit):Option (Out (Unit) (Bool)):=
 (Da b ((k0:Nat):Int)).bind fun ak=>(bif (decide (ab≠ak))then some (Out.ret false)else some (Out.next ()))
def Kw (a:List Int) (b:List Int):Option (Bool):=
 (bif (decide (((a.length:Nat):Int)≠((b.length:Nat):Int)))then some false else(Al (O4 b) 0 a ()).bind fun o0=>o0.on fun s0=>some true)
theorem aY (a:List Int) (b:List Int) {r:Bool} (h:Kw a b=some r):Ad Tryz.prog 147 [.sl 1 (a.map An),.sl 1 (b.map An)] (·= .bool r):=by
 refine Ad.nle (Ad.intro Tryz.func147 rfl rfl (by show _≤26;simp) ?_)
 unfold Kw at h
 refine nS (sq ?_)
 refine B5 rfl ?_
 refine rg rfl fun K j=>?_
 intro hm
 intro hm
 refine j _ _ (qn (cA h rfl ?_ ?_))<;>intro hc h
 ·refine gw8 rfl ?_
  cases h;exact en Tryz.results147
 refine gw6 (B8 rfl (bk ?_))
 obtain⟨o0,aa,ae⟩:=Ae h
 clear h
 refine AWP.Bh aa () (fun zz=>[(0,.sl 1 (a.map An)),(1,.sl 1 (b.map An)),(5,.int .i64 ((zz.1:Nat):Int))]) (fun zz=>[]) ?_
 rintro k0 ⟨⟩ ⟨⟩ bb aa
 dsimp only
 refine sq (rG rfl fun K j=>?_)
 intro hm
 refine j (cD rfl ?_ ?_)<;>intro hc
 ·obtain rfl:=fnD aa hc
  have h:=Ao ae;try dsimp only at h
  have af:=leD bb hc
  subst af
  refine Cr rfl ?_
  cases h;exact en Tryz.results147
 obtain⟨ab,b0,ag,bh,ao,h,aa⟩:=fcD aa hc
 have ay:=wk (k:=k0) (by omega)
 unfold O4 at h;try dsimp only at h
 refine gw9 (sq (dR Tryz.mixed fun K j=>?_))
 refine nS ?_
 refine A1.of (f:=An) (l:=a) ao ?_
 refine nS ?_
 obtain⟨ak,cd,h⟩:=Ae h
 refine A1.of (f:=An) (l:=b) cd ?_
 refine nS ?_
 refine j _ _ _ (by kernel_rfl) (qn (cA h rfl ?_ ?_))<;>intro hc h
 ·refine Cs rfl ?_
  cases x0 h aa ae;exact en Tryz.results147
 refine gw5 rfl ?_
 refine lE ag aa h () ?_ ?_<;>exact cuw ay
def Vo (b:List Am) (k0:Nat) (ab:Am) (sv:Unit):Option (Out (Unit) (Bool)):=
 (Da b ((k0:Nat):Int)).bind fun ak=>(bif (decide (ab.Groomer≠ak.Groomer))then some (Out.ret false)else (bif (decide (ab.From≠ak.From))then some (Out.ret false)else (bif (decide (ab.To≠ak.To))then some (Out.ret false)else (Kw ab.Runs ak.Runs).bind fun y4=>(bif (!y4)then some (Out.ret false)else some (Out.next ())))))
def Tx (a:List Am) (b:List Am):Option (Bool):=
 (bif (decide (((a.length:Nat):Int)≠((b.length:Nat):Int)))then some false else(Al (Vo b) 0 a ()).bind fun o0=>o0.on fun s0=>some true)
theorem kI (a:List Am) (b:List Am) {r:Bool} (h:Tx a b=some r):Ad Tryz.prog 66 [.sl 4 (a.map Aj),.sl 4 (b.map Aj)] (·= .bool r):=by
 refine Ad.nle (Ad.intro Tryz.func66 rfl rfl (by show _≤68;simp) ?_)
 unfold Tx at h
 refine nS (sq ?_)
 refine B5 rfl ?_
 refine rg rfl fun K j=>?_
 intro hm
 intro hm
 refine j _ _ (qn (cA h rfl ?_ ?_))<;>intro hc h
 ·refine gw8 rfl ?_
  cases h;exact en Tryz.results66
 refine gw6 (B8 rfl (bk ?_))
 obtain⟨o0,aa,ae⟩:=Ae h
 clear h
 refine AWP.Bh aa () (fun zz=>[(0,.sl 4 (a.map Aj)),(1,.sl 4 (b.map Aj)),(5,.int .i64 ((zz.1:Nat):Int))]) (fun zz=>[]) ?_
 rintro k0 ⟨⟩ ⟨⟩ bb aa
 dsimp only
 refine sq (rG rfl fun K j=>?_)
 intro hm
 refine j (cD rfl ?_ ?_)<;>intro hc
 ·obtain rfl:=fnD aa hc
  have h:=Ao ae;try dsimp only at h
  have af:=leD bb hc
  subst af
  refine Cr rfl ?_
  cases h;exact en Tryz.results66
 obtain⟨ab,b0,ag,bh,ao,h,aa⟩:=fcD aa hc
 have ay:=wk (k:=k0) (by omega)
 unfold Vo at h;try dsimp only at h
 refine gw9 (sq (dR Tryz.mixed fun K j=>?_))
 refine nS ?_
 refine A1.of (f:=Aj) (l:=a) ao ?_
 refine nS ?_
 obtain⟨ak,cd,h⟩:=Ae h
 refine A1.of (f:=Aj) (l:=b) cd ?_
 refine nS ?_
 refine gF' h ?_ ?_<;>intro hc h
 ·refine j _ _ _ (by kernel_rfl) (qn (ct rfl (Cs rfl ?_)))
  cases x0 h aa ae;exact en Tryz.results66
 refine A1.of (f:=Aj) (l:=a) ao ?_
 refine nS ?_
 refine A1.of (f:=Aj) (l:=b) cd ?_
 refine nS ?_
 refine gF' h ?_ ?_<;>intro hc h
 ·refine j _ _ _ (by kernel_rfl) (qn (ct rfl (Cs rfl ?_)))
  cases x0 h aa ae;exact en Tryz.results66
 refine A1.of (f:=Aj) (l:=a) ao ?_
 refine nS ?_
 refine A1.of (f:=Aj) (l:=b) cd ?_
 refine nS ?_
 refine gF h ?_ ?_<;>intro hc h
 ·refine A1.of (f:=Aj) (l:=a) ao ?_
  refine nS ?_
  refine A1.of (f:=Aj) (l:=b) cd ?_
  refine nS ?_
  obtain⟨y4,ch,h⟩:=Ae h
  refine Br.pure Tryz.call147 (aY ab.Runs ak.Runs ch) rfl ?_
  refine nS ?_
  refine j _ _ _ (by kernel_rfl) (qn (cA h rfl ?_ ?_))<;>intro hc h
  ·refine Cs rfl ?_
   cases x0 h aa ae;exact en Tryz.results66
  refine gw5 rfl ?_
  refine lE ag aa h () ?_ ?_<;>exact cuw ay
 refine j _ _ _ (by kernel_rfl) (qn (ct rfl (Cs rfl ?_)))
 cases x0 h aa ae;exact en Tryz.results66
def Gr (a:Af) (b:Af):Option (Bool):=
 (bif (decide (a.Depth≠b.Depth))then some false else(bif (decide (a.Time≠b.Time))then some false else(My a.Map b.Map).bind fun y1=>(bif (!y1)then some false else(Rg a b).bind fun y2=>(bif (!y2)then some false else(Hw a.Status b.Status).bind fun y3=>(bif (!y3)then some false else(Tn a.Patrol b.Patrol).bind fun y4=>(bif y4 then(Jm a.Packs b.Packs).bind fun y5=>(bif y5 then(Hz a.Slides b.Slides).bind fun y6=>(bif y6 then(Tv a.Bulletin b.Bulletin).bind fun y7=>(bif y7 then(Tx a.Winches b.Winches).bind fun y8=>some y8 else some false)else some false)else some false)else some false))))))
theorem Rh (a:Af) (b:Af) {r:Bool} (h:Gr a b=some r):Ad Tryz.prog 26 [.agg (Ai a),.agg (Ai b)] (·= .bool r):=by
 refine Ad.nle (Ad.intro Tryz.func26 rfl rfl (by show _≤72;simp) ?_)
 unfold Gr at h
 refine nS (sq ?_)
 refine B5 rfl ?_
 refine rg rfl fun K j=>?_
 refine gF' h ?_ ?_<;>intro hc h
 ·refine j _ _ (qn (ct rfl (gw8 rfl ?_)))
  cases h;exact en Tryz.results26
 refine gF' h ?_ ?_<;>intro hc h
 ·refine j _ _ (qn (ct rfl (gw8 rfl ?_)))
  cases h;exact en Tryz.results26
 obtain⟨y1,bp,h⟩:=Ae h
 refine Ah.pure Tryz.call59 (cH a.Map b.Map bp) rfl fun _ hr=>?_
 subst hr
 refine nS ?_
 refine gF' h ?_ ?_<;>intro hc h
 ·refine j _ _ (qn (ct rfl (gw8 rfl ?_)))
  cases h;exact en Tryz.results26
 obtain⟨y2,cx,h⟩:=Ae h
 refine Ah.pure Tryz.call60 (fS a b cx) rfl fun _ hr=>?_
 subst hr
 refine nS ?_
 refine gF' h ?_ ?_<;>intro hc h
 ·refine j _ _ (qn (ct rfl (gw8 rfl ?_)))
  cases h;exact en Tryz.results26
 obtain⟨y3,bu,h⟩:=Ae h
 refine Ah.pure Tryz.call61 (X8 a.Status b.Status bu) rfl fun _ hr=>?_
 subst hr
 refine nS ?_
 refine j _ _ (qn (cA h rfl ?_ ?_))<;>intro hc h
 ·refine gw8 rfl ?_
  cases h;exact en Tryz.results26
 refine Co (rG rfl fun K j=>?_)
 obtain⟨y4,ch,h⟩:=Ae h
 refine Ah.pure Tryz.call62 (kF a.Patrol b.Patrol ch) rfl fun _ hr=>?_
 subst hr
 refine nS ?_
 refine gT' h ?_ ?_<;>intro hc h
 ·refine j (rt ?_)
  cases h;exact en Tryz.results26
 obtain⟨y5,cw,h⟩:=Ae h
 refine Ah.pure Tryz.call63 (Yy a.Packs b.Packs cw) rfl fun _ hr=>?_
 subst hr
 refine nS ?_
 refine gT' h ?_ ?_<;>intro hc h
 ·refine j (rt ?_)
  cases h;exact en Tryz.results26
 obtain⟨y6,ec,h⟩:=Ae h
 refine Ah.pure Tryz.call64 (X9 a.Slides b.Slides ec) rfl fun _ hr=>?_
 subst hr
 refine nS ?_
 refine gT h ?_ ?_<;>intro hc h
 ·obtain⟨y7,eg,h⟩:=Ae h
  refine Ah.pure Tryz.call65 (kG a.Bulletin b.Bulletin eg) rfl fun _ hr=>?_
  subst hr
  refine nS ?_
  refine gT h ?_ ?_<;>intro hc h
  ·obtain⟨y8,ej,h⟩:=Ae h
   refine Ah.pure Tryz.call66 (kI a.Winches b.Winches ej) rfl fun _ hr=>?_
   subst hr
   refine nS ?_
   refine j (rt ?_)
   cases h;exact en Tryz.results26
  refine j (rt ?_)
  cases h;exact en Tryz.results26
 refine j (rt ?_)
 cases h;exact en Tryz.results26
def Qz (f_:Af) (now4:List Int) (y7:(List Int)) (y8:(List Int)) (tm:Nat) (ei:Int) (sv:(List Int)):Option (Out ((List Int)) (Out ((List Int)) ((List Int)))):=
 (Ju f_.Map ei).bind fun gd=>(K0 f_.Map y7 now4 ei).bind fun kt=>(bif kt then(Gw y8 gd.1.To).bind fun pz=>(bif pz then chk (sv.length+1) (some (Out.next (sv++[ei])))else some (Out.next sv))else some (Out.next sv))
def M3 (f_:Af) (k5:Nat) (_x:Unit) (sv:(List Int)):Option (Out ((List Int)) ((List Int))):=
 (Gv f_).bind fun y7=>(Nr f_.Map sv).bind fun y8=>(Al (Qz f_ sv y7 y8) 0 sv []).bind fun o10=>o10.on fun s10=>some (Out.next s10)
def M1 (f_:Af) (now1:List Int):Option ((List Int)):=
 (J8 (M3 f_) (f_.Map.Runs.length+1) now1).bind fun o5=>o5.on fun s5=>some s5
def Qy (f_:Af) (runs:List Int) (k17:Nat) (kd:Cn) (sv:(List Int)):Option (Out ((List Int)) ((List Int))):=
 (Gw runs kd.ID).bind fun ml=>(bif ml then(N1 f_ kd).bind fun ks=>(bif (decide (ks=0))then chk (sv.length+1) (some (Out.next (sv++[kd.ID])))else some (Out.next sv))else some (Out.next sv))
def Qg (f_:Af) (runs:List Int):Option ((List Int)):=
 (Al (Qy f_ runs) 0 f_.Map.Runs []).bind fun o17=>o17.on fun s17=>M1 f_ s17
theorem fU (f_:Af) (runs:List Int) {r:(List Int)} (h:Qg f_ runs=some r):A8 Tryz.prog 30 [.agg (Ai f_),.sl 1 (runs.map An)] (·= .sl 1 (r.map An)):=by
 refine A8.nle (A8.intro Tryz.func30 rfl rfl (by show _≤108;simp) ?_)
 unfold Qg at h
 refine nS (sq ?_)
 refine gw7 rfl ?_
 refine gw3 rfl ?_
 refine AWP.Ek (ι:=((List Int))×(Nat)) (fun zz=>[(2,.ptr 0 0),(5,.own 1 zz.2 0 zz.1.length)]) (fun zz=>[.box (Ai f_),.row zz.2 1 (zz.1.map An)]) (fun zz=>M1 f_ zz.1=some r) (fun zz=>⟨rfl,rfl,rfl⟩) ?_ ?_
 ·refine B8 rfl (bk ?_)
  obtain⟨o17,mj,hO17⟩:=Ae h
  clear h
  refine AWP.Bh mj (0:Nat) (fun zz=>[(1,.sl 1 (runs.map An)),(2,.ptr 0 0),(5,.own 1 zz.2.2 0 zz.2.1.length),(6,.int .i64 ((zz.1:Nat):Int))]) (fun zz=>[.box (Ai f_),.row zz.2.2 1 (zz.2.1.map An)]) ?_
  rintro k17 now16 nt hk17 mj
  dsimp only
  refine sq (rG rfl fun K j=>?_)
  intro hm
  refine j (cD rfl ?_ ?_)<;>intro hc
  ·obtain rfl:=fnD mj hc
   have h:=Ao hO17;try dsimp only at h
   have af:=leD hk17 hc
   subst af
   refine gw4 ?_
   exact⟨(now16,nt),h,cu,cu⟩
  obtain⟨kd,b17,rm,hx17_,xe,h,mj⟩:=fcD mj hc
  have xi:=wk (k:=k17) (by omega)
  unfold Qy at h;try dsimp only at h
  refine gw9 (sq (dR Tryz.mixed fun K j=>?_))
  refine nS ?_
  refine A1.of (f:=Bj) (l:=f_.Map.Runs) xe ?_
  refine nS ?_
  obtain⟨ml,wo,h⟩:=Ae h
  refine Br.pure Tryz.call31 (E7 runs kd.ID wo) rfl ?_
  refine nS ?_
  refine gT h ?_ ?_<;>intro hc h
  ·refine A1.of (f:=Bj) (l:=f_.Map.Runs) xe ?_
   refine nS ?_
   obtain⟨ks,qu,h⟩:=Ae h
   refine Br.pure Tryz.call50 (Wc f_ kd qu) rfl ?_
   refine nS ?_
   refine j _ _ _ (by kernel_rfl) (qn (cA h rfl ?_ ?_))<;>intro hc h
   ·refine rg rfl fun K j=>?_
    refine A1.of (f:=Bj) (l:=f_.Map.Runs) xe ?_
    refine nS ?_
    obtain⟨hk,h⟩:=Bc h
    (repeat refine rp ?_);try simp +decide -implicitDefEqProofs only[go_sem]
    refine j _ _ (Eo rfl ?_)
    refine lE rm mj h (nt+1) ?_ ?_<;>exact cuw xi
   refine gw5 rfl ?_
   refine lE rm mj h nt ?_ ?_<;>exact cuw xi
  refine j _ _ _ (by kernel_rfl) (qn (cf rfl (gw5 rfl ?_)))
  refine lE rm mj h nt ?_ ?_<;>exact cuw xi
 rintro⟨now1,bg⟩ h
 try dsimp only at h ⊢
 unfold M1 at h;try dsimp only at h
 refine sq (B8 rfl (bk ?_))
 obtain⟨o5,dp,mf⟩:=Ae h
 clear h
 obtain⟨hn5,dp⟩:=Ng dp
 refine AWP.tN (ι:=Nat×((List Int))×(Nat)) (fun zz=>[(2,.ptr 0 0),(5,.own 1 zz.2.2 0 zz.2.1.length),(7,.int .i64 ((zz.1:Nat):Int))]) (fun zz=>[.box (Ai f_),.row zz.2.2 1 (zz.2.1.map An)]) (fun zz=>zz.1≤(f_.Map.Runs.length+1)∧Al (M3 f_) zz.1 ((List.replicate (f_.Map.Runs.length+1) ()).drop zz.1) zz.2.1=some o5) (fun zz=>(f_.Map.Runs.length+1) - zz.1) (0,now1,bg) ⟨Nat.zero_le _,dp⟩ cu cu (fun x=>⟨rfl,rfl,rfl⟩) ?_
 clear dp
 rintro⟨k5,now4,ver5⟩ ⟨ud,dp⟩
 dsimp only at ud dp ⊢
 refine sq (rG rfl fun K j=>?_)
 intro hm
 refine j (cD rfl ?_ ?_)<;>intro hc
 ·obtain rfl:=J5 dp (fun hl=>by rw[Aov]at hl;have:=Aom hc;omega)
  have h:=Ao mf;try dsimp only at h
  have af:(f_.Map.Runs.length+1)=k5:=by have:=Aom hc;omega
  subst af
  refine Cr rfl ?_
  cases h;exact en Tryz.results30
 have fh:k5<(f_.Map.Runs.length+1):=by have:=Aon hc;omega
 obtain⟨_,b5,_,h,dp⟩:=G6 dp (by rw[Aov];exact fh)
 have ko:=wk (k:=k5) (by omega)
 unfold M3 at h;try dsimp only at h
 refine gw9 (Cy rfl ?_)
 refine rg rfl fun K j=>?_
 obtain⟨y7,eg,h⟩:=Ae h
 refine Ah.pure Tryz.call52 (Uv f_ eg) rfl fun _ hr=>?_
 subst hr
 refine nS ?_
 refine j _ _ (qn (sq ?_))
 refine AWP.kY ?_
 refine ALP.cut 3 (ALP.part rfl ?_);intro K j
 refine nS ?_
 refine j _ _ ?_
 refine ALP.sub (Sub.D6 1 rfl) ?_
 refine nS ?_
 refine ALP.last rfl ?_;intro K j
 refine nS ?_
 obtain⟨y8,ej,h⟩:=Ae h
 refine Ah.pure Tryz.call35 (X1 f_.Map now4 ej) rfl fun _ hr=>?_
 subst hr
 refine nS ?_
 refine j _ _ (qn (sq (B8 rfl (bk ?_))))
 obtain⟨o10,eh,pb⟩:=Ae h
 clear h
 refine AWP.Bh eh (0:Nat) (fun zz=>[(2,.ptr 0 0),(5,.sl 1 (now4.map An)),(7,.int .i64 ((k5:Nat):Int)),(8,.own 2 zz.2.2 0 zz.2.1.length),(9,.sl 1 (y7.map An)),(10,.sl 1 (y8.map An)),(11,.int .i64 ((zz.1:Nat):Int))]) (fun zz=>[.box (Ai f_),.gone,.row zz.2.2 1 (zz.2.1.map An)]) ?_
 rintro tm next_9 ek rq eh
 dsimp only
 refine sq (rG rfl fun K j=>?_)
 intro hm
 refine j (cD rfl ?_ ?_)<;>intro hc
 ·obtain rfl:=fnD eh hc
  have h:=Ao pb;try dsimp only at h
  have af:=leD rq hc
  subst af
  refine gw4 (ar rfl (bn (qn ?_)))
  refine gw3 rfl ?_
  obtain rfl:=Aa h
  refine⟨(k5+1,next_9,ek),⟨by dsimp only;omega,Cj dp⟩,by dsimp only;omega,_,_,Sub.swap 2 1 rfl rfl rfl,?_,?_⟩
  ·exact cuw ko
  exact cuw ko
 obtain⟨ei,b10,ju,uz,nc,h,eh⟩:=fcD eh hc
 have nf:=wk (k:=tm) (by omega)
 unfold Qz at h;try dsimp only at h
 refine gw9 (sq (dR Tryz.mixed fun K j=>?_))
 refine nS ?_
 refine A1.of (f:=An) (l:=now4) nc ?_
 refine nS ?_
 obtain⟨gd,ir,h⟩:=Ae h
 refine Br.pure Tryz.call32 (Gd f_.Map ei ir) rfl ?_
 refine nS ?_
 refine j _ _ _ (by kernel_rfl) (qn (sq (dR Tryz.mixed fun K j=>?_)))
 refine nS ?_
 refine A1.of (f:=An) (l:=now4) nc ?_
 refine nS ?_
 obtain⟨kt,kv,h⟩:=Ae h
 refine Br.pure Tryz.call51 (Wl f_.Map y7 now4 ei kv) rfl ?_
 refine nS ?_
 refine gT h ?_ ?_<;>intro hc h
 ·obtain⟨pz,qw,h⟩:=Ae h
  refine Br.pure Tryz.call31 (E7 y8 gd.1.To qw) rfl ?_
  refine nS ?_
  refine j _ _ _ (by kernel_rfl) (qn (cA h rfl ?_ ?_))<;>intro hc h
  ·refine rg rfl fun K j=>?_
   refine A1.of (f:=An) (l:=now4) nc ?_
   refine nS ?_
   obtain⟨hk,h⟩:=Bc h
   (repeat refine rp ?_);try simp +decide -implicitDefEqProofs only[go_sem]
   refine j _ _ (Eo rfl ?_)
   refine lE ju eh h (ek+1) ?_ ?_<;>exact cuw nf
  refine gw5 rfl ?_
  refine lE ju eh h ek ?_ ?_<;>exact cuw nf
 refine j _ _ _ (by kernel_rfl) (qn (cf rfl (gw5 rfl ?_)))
 refine lE ju eh h ek ?_ ?_<;>exact cuw nf
theorem kE (f_:Af) (runs:List Int) {r:(List Int)} (h:Qg f_ runs=some r):Ad Tryz.prog 30 [.agg (Ai f_),.sl 1 (runs.map An)] (·= .sl 1 (r.map An)):=(fU f_ runs h).pure
def Na (f_:Af) (y2:(List Int)) (k6:Nat) (dr:Au) (sv:(List Au)×(List Int)):Option (Out ((List Au)×(List Int)) (Af×(List Int))):=
 (bif dr.Open then(Gw y2 dr.Run).bind fun y9=>(bif (!y9)then chk (sv.2.length+1) (chk (sv.1.length+1) (some (Out.next ((sv.1++[(Au.mk dr.Run false f_.Time)]),(sv.2++[dr.Run])))))else chk (sv.1.length+1) (some (Out.next ((sv.1++[(Au.mk dr.Run true dr.Since)]),sv.2))))else chk (sv.1.length+1) (some (Out.next ((sv.1++[(Au.mk dr.Run false dr.Since)]),sv.2))))
def Lp (f_:Af):Option (Af×(List Int)):=
 (Qf f_).bind fun y1=>(Qg f_ y1).bind fun y2=>(Al (Na f_ y2) 0 f_.Status ([],[])).bind fun o6=>o6.on fun s6=>some ((Af.mk f_.Map f_.Lifts f_.Closures f_.Patrol f_.Surfaces f_.Packs f_.Slides f_.Bulletin f_.Missions f_.Winches f_.Groomers s6.1 f_.Depth f_.Time),s6.2)
theorem dP (f_:Af) {r:Af×(List Int)} (h:Lp f_=some r):Ad Tryz.prog 28 [.agg (Ai f_)] (·= .tuple [.agg (Ai r.1),.sl 1 (r.2.map An)]):=by
 refine Ad.nle (Ad.intro Tryz.func28 rfl rfl (by show _≤53;simp) ?_)
 unfold Lp at h
 refine nS (sq ?_)
 refine gw7 rfl ?_
 refine dR Tryz.mixed fun K j=>?_
 refine nS ?_
 obtain⟨y1,bp,h⟩:=Ae h
 refine Br.pure Tryz.call21 (Yt f_ bp) rfl ?_
 refine nS ?_
 obtain⟨y2,cx,h⟩:=Ae h
 refine Br.pure Tryz.call30 (kE f_ y1 cx) rfl ?_
 refine nS ?_
 refine j _ _ _ (by kernel_rfl) (qn (Cy rfl ?_))
 refine B5 rfl ?_
 refine gw3 rfl (bk ?_)
 obtain⟨o6,dx,mc⟩:=Ae h
 clear h
 refine AWP.Bh dx ((0,0):(Nat×Nat)) (fun zz=>[(1,.ptr 0 0),(2,.ptr 1 0),(4,.sl 1 (y2.map An)),(5,.own 4 zz.2.2.1 0 zz.2.1.1.length),(6,.own 5 zz.2.2.2 0 zz.2.1.2.length),(7,.int .i64 ((zz.1:Nat):Int))]) (fun zz=>[.box (Ai f_),.box [.nils,.nils,.nils,.nils,.nils,.nils,.nils,.nils,.nils,.nils,.nils,.nils,.nils,.nils,.nils,.nils,.int .i64 0,.int .i64 0],.gone,.gone,.row zz.2.2.1 3 (zz.2.1.1.map Ax),.row zz.2.2.2 1 (zz.2.1.2.map An)]) ?_
 rintro k6 ⟨wb,shut5⟩ ⟨ot,jn⟩ uc dx
 dsimp only
 refine sq (rG rfl fun K j=>?_)
 intro hm
 refine j (cD rfl ?_ ?_)<;>intro hc
 ·obtain rfl:=fnD dx hc
  have h:=Ao mc;try dsimp only at h
  have af:=leD uc hc
  subst af
  refine gw4 (Cy rfl ?_)
  refine ar rfl (Cu ?_)
  cases h;exact en Tryz.results28
 obtain⟨dr,b6,iz,tr,nw,h,dx⟩:=fcD dx hc
 have ou:=wk (k:=k6) (by omega)
 unfold Na at h;try dsimp only at h
 refine gw9 (rG rfl fun K j=>?_)
 refine A1.of (f:=Ax) (l:=f_.Status) nw ?_
 refine nS ?_
 refine j (sq (rG rfl fun K j=>?_))
 refine gT h ?_ ?_<;>intro hc h
 ·obtain⟨y9,fu,h⟩:=Ae h
  refine Ah.pure Tryz.call31 (E7 y2 dr.Run fu) rfl fun _ hr=>?_
  subst hr
  refine nS ?_
  refine j (cA h rfl ?_ ?_)<;>intro hc h
  ·refine Cy rfl ?_
   refine gw3 rfl ?_
   refine rg rfl fun K j=>?_
   obtain⟨hk,h⟩:=Bc h
   (repeat refine rp ?_);try simp +decide -implicitDefEqProofs only[go_sem]
   refine j _ _ (qn (rg rfl fun K j=>?_))
   obtain⟨hk,h⟩:=Bc h
   (repeat refine rp ?_);try simp +decide -implicitDefEqProofs only[go_sem]
   refine j _ _ (Eo rfl ?_)
   refine lE iz dx h ((ot+1),(jn+1)) ?_ ?_<;>exact cuw ou
  refine Co (rg rfl fun K j=>?_)
  obtain⟨hk,h⟩:=Bc h
  (repeat refine rp ?_);try simp +decide -implicitDefEqProofs only[go_sem]
  refine j _ _ (Eo rfl ?_)
  refine lE iz dx h ((ot+1),jn) ?_ ?_<;>exact cuw ou
 refine j (cf rfl (Co (rg rfl fun K j=>?_)))
 obtain⟨hk,h⟩:=Bc h
 (repeat refine rp ?_);try simp +decide -implicitDefEqProofs only[go_sem]
 refine j _ _ (Eo rfl ?_)
 refine lE iz dx h ((ot+1),jn) ?_ ?_<;>exact cuw ou
def G0 (f_:Af) (run:Int):Option (Bool):=
 (Rv).bind fun y1=>(bif (!y1)then some false else(Oa f_ []).bind fun y2=>(bif (!y2)then some true else(Eu f_ run).bind fun y3=>(Tm f_ run).bind fun y4=>(bif (decide (y3.2≠y4.2))then some false else(Gr y3.1 y4.1).bind fun y5=>(bif (!y5)then some false else(F4 f_).bind fun y6=>(Lp f_).bind fun y7=>(Kk y6.2 y7.2).bind fun y8=>(bif y8 then(Gr y6.1 y7.1).bind fun y9=>some y9 else some false)))))
theorem Un (f_:Af) (run:Int) {r:Bool} (h:G0 f_ run=some r):Ad Tryz.prog 5 [.agg (Ai f_),.int .i64 run] (·= .bool r):=by
 refine Ad.nle (Ad.intro Tryz.func5 rfl rfl (by show _≤57;simp) ?_)
 unfold G0 at h
 refine nS (sq ?_)
 refine B5 rfl ?_
 refine rg rfl fun K j=>?_
 obtain⟨y1,bp,h⟩:=Ae h
 refine Ah.pure Tryz.call10 (iA bp) rfl fun _ hr=>?_
 subst hr
 refine nS ?_
 refine j _ _ (qn (cA h rfl ?_ ?_))<;>intro hc h
 ·refine gw8 rfl ?_
  cases h;exact en Tryz.results5
 refine gw6 (rG rfl fun K j=>?_)
 obtain⟨y2,cx,h⟩:=Ae h
 refine Ah.pure Tryz.call14 (Ad.Ajx (args:=[.agg [.sl 2 (f_.Map.Nodes.map Bq),.sl 8 (f_.Map.Lifts.map Bl),.sl 7 (f_.Map.Runs.map Bj),.sl 1 (f_.Map.Bases.map An),.sl 2 (f_.Lifts.map A4),.sl 4 (f_.Closures.map Ay),.sl 4 (f_.Patrol.Ci.map A3),.sl 3 (f_.Patrol.Hazards.map Bg),.sl 3 (f_.Surfaces.map Bd),.sl 5 (f_.Packs.map A6),.sl 6 (f_.Slides.map Az),.sl 7 (f_.Bulletin.map Ap),.sl 7 (f_.Missions.map Aq),.sl 4 (f_.Winches.map Aj),.sl 8 (f_.Groomers.map A7),.sl 3 (f_.Status.map Ax),.int .i64 f_.Depth,.int .i64 f_.Time],.nils]) (by simp +decide -implicitDefEqProofs only[go_sem,Et,Ac.int.injEq,Int.natCast_zero,List.replicate_zero,List.length_take,List.length_drop,Ac.own.injEq,reduceCtorEq,Int.reduceAdd,Wp,Wq,Sf,Wo,Se]) (hZ f_ [] cx)) rfl fun _ hr=>?_
 subst hr
 refine nS ?_
 refine j (cA h rfl ?_ ?_)<;>intro hc h
 ·refine gw8 rfl ?_
  cases h;exact en Tryz.results5
 refine Co (rG rfl fun K j=>?_)
 obtain⟨y3,bu,h⟩:=Ae h
 refine Ah.pure Tryz.call24 (Mm f_ run bu) rfl fun _ hr=>?_
 subst hr
 refine nS ?_
 refine j (rG rfl fun K j=>?_)
 obtain⟨y4,ch,h⟩:=Ae h
 refine Ah.pure Tryz.call25 (kC f_ run ch) rfl fun _ hr=>?_
 subst hr
 refine nS ?_
 refine j (sq (rG rfl fun K j=>?_))
 refine gF' h ?_ ?_<;>intro hc h
 ·refine j (ct rfl (gw8 rfl ?_))
  cases h;exact en Tryz.results5
 obtain⟨y5,cw,h⟩:=Ae h
 refine Ah.pure Tryz.call26 (Rh y3.1 y4.1 cw) rfl fun _ hr=>?_
 subst hr
 refine nS ?_
 refine j (cA h rfl ?_ ?_)<;>intro hc h
 ·refine gw8 rfl ?_
  cases h;exact en Tryz.results5
 refine Co (rG rfl fun K j=>?_)
 obtain⟨y6,ec,h⟩:=Ae h
 refine Ah.pure Tryz.call27 (P6 f_ ec) rfl fun _ hr=>?_
 subst hr
 refine nS ?_
 refine j (rG rfl fun K j=>?_)
 obtain⟨y7,eg,h⟩:=Ae h
 refine Ah.pure Tryz.call28 (dP f_ eg) rfl fun _ hr=>?_
 subst hr
 refine nS ?_
 refine j (rG rfl fun K j=>?_)
 obtain⟨y8,ej,h⟩:=Ae h
 refine Ah.pure Tryz.call15 (Jj y6.2 y7.2 ej) rfl fun _ hr=>?_
 subst hr
 refine nS ?_
 refine gT h ?_ ?_<;>intro hc h
 ·obtain⟨y9,fu,h⟩:=Ae h
  refine Ah.pure Tryz.call26 (Rh y6.1 y7.1 fu) rfl fun _ hr=>?_
  subst hr
  refine nS ?_
  refine j (rt ?_)
  cases h;exact en Tryz.results5
 refine j (rt ?_)
 cases h;exact en Tryz.results5
end
end Go.Proofs.YtjopghiagoidgaaGreat
namespace Go.Proofs.YtjopghiagoidgaaGreat
open Go Go.Ab
set_option linter.unusedSimpArgs false
set_option linter.unusedVariables false
inductive Rch (l:List Ar) (S:Int→Prop):Int→Prop
  | base {n:Int}:S n→Rch l S n
  | step {e:Ar}:e∈l→Rch l S e.From→Rch l S e.To
theorem Rch.mono {l l':List Ar} {S T:Int→Prop} (hl:∀ e∈l,e∈l') (hS:∀ n,S n→T n) {n:Int} (h:Rch l S n):Rch l' T n:=by
  induction h with
  | base h=>exact .base (hS _ h)
  | step he _ ih=>exact .step (hl _ he) ih
structure Q9 (l:List Ar) (f r:List Int):Prop where
  inc:Inc r
  mem:∀ n,n∈r↔Rch l (·∈f) n
theorem Q9.unique {l:List Ar} {f r r':List Int} (h:Q9 l f r) (h':Q9 l f r'):r=r':=
  S0 h.inc h'.inc fun x=>by rw[h.mem,h'.mem]
theorem Q9.of_closed {l:List Ar} {f r:List Int} (h:Inc r) (h1:∀ n∈r,Rch l (·∈f) n) (h2:∀ n∈f,n∈r) (h3:∀ e∈l,e.From∈r→e.To∈r):Q9 l f r:=
  ⟨h,fun n=>⟨h1 n,fun hr=>by
    induction hr with
    | base h=>exact h2 _ h
    | step he _ ih=>exact h3 _ he ih⟩⟩
theorem Ta {l:List Ar} {f:List Int} {n:Int} (h:Rch l (·∈f) n):n∈f++l.map (·.To):=by
  cases h with
  | base h=>exact Aox.2 (.inl h)
  | step he _=>exact Aox.2 (.inr (List.mem_map_of_mem he))
def dJ (e:Ar):Ar:=⟨e.ID,e.To,e.From,e.Cost⟩
def turn (l:List Ar):List Ar:=l.map dJ
theorem Abv {l:List Ar} {e:Ar}:e∈turn l↔dJ e∈l:=by
  unfold turn
  rw[List.mem_map]
  constructor
  ·rintro⟨x,hx,rfl⟩;exact hx
  ·intro h;exact⟨dJ e,h,rfl⟩
def Jr (l:List Ar):Int→List Ar→Int→Prop
  | n,[],t=>n=t
  | n,e::es,t=>e∈l∧e.From=n∧Jr l e.To es t
def ecost (es:List Ar):Int:=(es.map (·.Cost)).sum
theorem Qr (e:Ar) (es:List Ar):ecost (e::es)=e.Cost+ecost es:=by simp[ecost]
theorem pY:∀ (a b:List Ar),ecost (a++b)=ecost a+ecost b
  | [],b=>by simp[ecost]
  | e::a,b=>by rw[List.cons_append,Qr,Qr,pY a b];omega
theorem aQ {l:List Ar}:∀ {a b:List Ar} {n t:Int},Jr l n (a++b) t↔∃ m,Jr l n a m∧Jr l m b t
  | [],b,n,t=>by simp[Jr]
  | e::a,b,n,t=>by
    simp only[List.cons_append,Jr,aQ (a:=a)]
    constructor
    ·rintro⟨h1,h2,m,h3,h4⟩;exact⟨m,⟨h1,h2,h3⟩,h4⟩
    ·rintro⟨m,⟨h1,h2,h3⟩,h4⟩;exact⟨h1,h2,m,h3,h4⟩
theorem Jr.mem {l:List Ar}:∀ {es:List Ar} {n t:Int},Jr l n es t→∀ e∈es,e∈l
  | [],n,t,h,e,he=>by simp at he
  | x::es,n,t,h,e,he=>by
    rcases List.mem_cons.1 he with rfl | he
    ·exact h.1
    ·exact Jr.mem h.2.2 e he
theorem Jr.mono {l l':List Ar} (hs:∀ e∈l,e∈l'):∀ {es:List Ar} {n t:Int},Jr l n es t→Jr l' n es t
  | [],n,t,h=>h
  | x::es,n,t,h=>⟨hs _ h.1,h.2.1,Jr.mono hs h.2.2⟩
def lexle (a b:Int×Nat):Prop:=a.1<b.1∨(a.1=b.1∧a.2≤b.2)
theorem lexle.refl (a:Int×Nat):lexle a a:=.inr ⟨rfl,Nat.le_refl _⟩
theorem lexle.trans {a b c:Int×Nat} (h:lexle a b) (k:lexle b c):lexle a c:=by
  unfold lexle at *;omega
theorem lexle.antisymm {a b:Int×Nat} (h:lexle a b) (k:lexle b a):a=b:=by
  obtain⟨a1,a2⟩:=a;obtain⟨b1,b2⟩:=b
  unfold lexle at *
  simp only at h k
  have h1:a1=b1:=by omega
  have h2:a2=b2:=by omega
  rw[h1,h2]
theorem lexle.add {a b:Int×Nat} (h:lexle a b) (c:Int):lexle (a.1+c,a.2+1) (b.1+c,b.2+1):=by
  unfold lexle at *;simp only;omega
theorem lexle.sub {a b:Int×Nat} {c:Int} (h:lexle (a.1+c,a.2+1) (b.1+c,b.2+1)):lexle a b:=by
  unfold lexle at *;simp only at h;omega
def cst (es:List Ar):Int×Nat:=(ecost es,es.length)
theorem eV (e:Ar) (es:List Ar):cst (e::es)=((cst es).1+e.Cost,(cst es).2+1):=by
  unfold cst;rw[Qr,Int.add_comm];rfl
theorem pZ {α:Type} [DecidableEq α]:∀ {es:List α},¬ es.Nodup→∃ a e b d,es=a++e::(b++e::d)
  | [],h=>absurd List.nodup_nil h
  | x::es,h=>by
    by_cases hx:x∈es
    ·obtain⟨b,d,rfl⟩:=List.append_of_mem hx
     exact⟨[],x,b,d,rfl⟩
    ·have:¬ es.Nodup:=fun hn=>h (List.nodup_cons.2 ⟨hx,hn⟩)
     obtain⟨a,e,b,d,rfl⟩:=pZ this
     exact⟨x::a,e,b,d,rfl⟩
theorem shorten {l:List Ar} (h0:∀ e∈l,0≤e.Cost):∀ (k:Nat) {n t:Int} {es:List Ar},es.length≤k→Jr l n es t→∃ es',Jr l n es' t∧es'.length≤l.length∧lexle (cst es') (cst es)
  | 0,n,t,es,hk,h=>⟨es,h,by omega,.refl _⟩
  | k+1,n,t,es,hk,h=>by
    by_cases hn:es.Nodup
    ·exact⟨es,h,Jv hn (Jr.mem h),.refl _⟩
    ·obtain⟨a,e,b,d,rfl⟩:=pZ hn
     obtain⟨m,h1,h2,h3,h4⟩:=aQ.1 h
     obtain⟨m',h5,h6,h7,h8⟩:=aQ.1 h4
     have hc:Jr l n (a++e::d) t:=aQ.2 ⟨m,h1,h2,h3,h8⟩
     obtain⟨es',g1,g2,g3⟩:=shorten h0 k (by simp at hk ⊢;omega) hc
     refine⟨es',g1,g2,g3.trans ?_⟩
     have hb:0≤ecost b:=by
       have:∀ {b:List Ar},(∀ e∈b,0≤e.Cost)→0≤ecost b:=by
         intro b
         induction b with
         | nil=>intro _;simp[ecost]
         | cons x b ih=>intro h;rw[Qr];have:=h x (by simp);have:=ih fun y hy=>h y (List.mem_cons_of_mem _ hy);omega
       exact this fun x hx=>h0 x (Jr.mem h5 x hx)
     have he:=h0 e h2
     unfold lexle cst
     simp only[pY,Qr,Aou,List.length_cons]
     omega
structure jA (l:List Ar) (t n:Int) (p:Int×Nat):Prop where
  walk:∃ es,Jr l n es t∧p=cst es
  least:∀ es,Jr l n es t→lexle p (cst es)
theorem jA.unique {l:List Ar} {t n:Int} {p q:Int×Nat} (h:jA l t n p) (k:jA l t n q):p=q:=by
  obtain⟨es,h1,h2⟩:=h.walk
  obtain⟨es',k1,k2⟩:=k.walk
  exact(k2 ▸ h.least es' k1).antisymm (h2 ▸ k.least es h1)
theorem jA.Afi {l:List Ar} (h0:∀ e∈l,0≤e.Cost) {t:Int}:jA l t t (0,0):=by
  refine⟨⟨[],rfl,rfl⟩,fun es h=>?_⟩
  have:0≤ecost es:=by
    have:∀ {b:List Ar},(∀ e∈b,0≤e.Cost)→0≤ecost b:=by
      intro b
      induction b with
      | nil=>intro _;simp[ecost]
      | cons x b ih=>intro h;rw[Qr];have:=h x (by simp);have:=ih fun y hy=>h y (List.mem_cons_of_mem _ hy);omega
    exact this fun x hx=>h0 x (Jr.mem h x hx)
  unfold lexle cst;simp only;omega
def Good (l:List Ar) (t n:Int) (e:Ar):Prop:=e∈l∧e.From=n∧∃ p,jA l t e.To p∧jA l t n (p.1+e.Cost,p.2+1)
theorem jA.step {l:List Ar} {t n:Int} {p:Int×Nat} (h:jA l t n p) (hn:n≠t):∃ e,Good l t n e:=by
  obtain⟨es,h1,h2⟩:=h.walk
  cases es with
  | nil=>exact absurd h1 hn
  | cons e es=>
    refine⟨e,h1.1,h1.2.1,cst es,⟨⟨es,h1.2.2,rfl⟩,fun es' h'=>?_⟩,by rw[← eV,← h2];exact h⟩
    have:=h.least (e::es') ⟨h1.1,h1.2.1,h'⟩
    rw[h2,eV,eV]at this
    exact this.sub
inductive S3 (l:List Ar) (t:Int):Int→List Int→Prop
  | done:S3 l t t []
  | step {n:Int} {i:Nat} {e:Ar} {ids:List Int}:n≠t→l[i]? =some e→Good l t n e→(∀ j e',j<i→l[j]? =some e'→¬ Good l t n e')→S3 l t e.To ids→S3 l t n (e.ID::ids)
theorem S3.unique {l:List Ar} {t n:Int} {a b:List Int} (h:S3 l t n a) (k:S3 l t n b):a=b:=by
  induction h generalizing b with
  | done=>
    cases k with
    | done=>rfl
    | step hn=>exact absurd rfl hn
  | @step n i e ids hn hi hg hf _ ih=>
    cases k with
    | done=>exact absurd rfl hn
    | @step _ i' e' ids' ny dt hg' tc gg=>
      have:i=i':=by
        rcases Nat.lt_trichotomy i i' with h | h | h
        ·exact absurd hg (tc i e h hi)
        ·exact h
        ·exact absurd hg' (hf i' e' h dt)
      subst this
      rw[hi]at dt
      obtain rfl:=Aoy dt
      rw[ih gg]
theorem S3.walk {l:List Ar} {t n:Int} {ids:List Int} (h:S3 l t n ids) {p:Int×Nat} (hb:jA l t n p) (h0:∀ e∈l,0≤e.Cost):∃ es,Jr l n es t∧es.map (·.ID)=ids∧cst es=p:=by
  induction h generalizing p with
  | done=>exact ⟨[],rfl,rfl,(jA.Afi h0).unique hb⟩
  | @step n i e ids hn hi hg hf _ ih=>
    obtain⟨g1,g2,q,g3,g4⟩:=hg
    obtain⟨es,e1,e2,e3⟩:=ih g3
    exact⟨e::es,⟨g1,g2,e1⟩,by rw[List.map_cons,e2],by rw[eV,e3];exact g4.unique hb⟩
inductive vI (l:List Ar) (f t:Int):List Int×Int×Bool→Prop
  | none:(∀ es,¬ Jr l f es t)→vI l f t ([],0,false)
  | some {p:Int×Nat} {ids:List Int}:jA l t f p→S3 l t f ids→vI l f t (ids,p.1,true)
theorem vI.unique {l:List Ar} {f t:Int} {r r':List Int×Int×Bool} (h:vI l f t r) (k:vI l f t r'):r=r':=by
  cases h with
  | none h=>
    cases k with
    | none=>rfl
    | some hb=>obtain ⟨es,h1,_⟩:=hb.walk;exact absurd h1 (h es)
  | some hb hp=>
    cases k with
    | none k=>obtain ⟨es,h1,_⟩:=hb.walk;exact absurd h1 (k es)
    | some kb kp=>rw[hb.unique kb,hp.unique kp]
abbrev Tab:=Int→Option (Int×Nat)
def lexlt (a b:Int×Nat):Prop:=a.1<b.1∨(a.1=b.1∧a.2<b.2)
instance (a b:Int×Nat):Decidable (lexlt a b):=by unfold lexlt;infer_instance
def TLe (x y:Option (Int×Nat)):Prop:=∀ b,y=some b→∃ a,x=some a∧lexle a b
theorem TLe.refl (x:Option (Int×Nat)):TLe x x:=fun b h=>⟨b,h,.refl b⟩
theorem TLe.trans {x y z:Option (Int×Nat)} (h:TLe x y) (k:TLe y z):TLe x z:=fun b hb=>by
  obtain⟨a,h1,h2⟩:=k b hb
  obtain⟨c,h3,h4⟩:=h a h1
  exact⟨c,h3,h4.trans h2⟩
def Cov (l:List Ar) (t:Int) (T:Tab) (i:Nat):Prop:=∀ n es,Jr l n es t→es.length≤i→TLe (T n) (some (cst es))
theorem Cov.all {l:List Ar} (h0:∀ e∈l,0≤e.Cost) {t:Int} {T:Tab} {i:Nat} (h:Cov l t T i) (hi:l.length≤i):∀ j,Cov l t T j:=by
  intro j n es hc _
  obtain⟨es',g1,g2,g3⟩:=shorten h0 _ (Nat.le_refl _) hc
  refine(h n es' g1 (by omega)).trans fun b hb=>?_
  obtain rfl:=Aoy hb
  exact⟨_,rfl,g3⟩
structure Exact (l:List Ar) (t:Int) (T:Tab):Prop where
  best:∀ n p,T n=some p↔jA l t n p
  cov:∀ i,Cov l t T i
theorem Exact.none {l:List Ar} {t:Int} {T:Tab} (h:Exact l t T) {n:Int} (hn:T n=none):∀ es,¬ Jr l n es t:=fun es hc=>by
  obtain⟨a,h1,_⟩:=h.cov es.length n es hc (Nat.le_refl _) _ rfl
  rw[hn]at h1;cases h1
theorem back_eq {l:List Ar} (hl:l.length≤100000) (f:List Int):Ua l f=G5 (turn l) f:=by
  unfold Ua E1
  rw[Bs (by omega),Aos]
  obtain⟨s,h1,h2,h3⟩:=Eb (ρ:=List Int) (step:=Q6) (l:=l) (s:=l) (fun k s=>s.length=l.length∧∀ i e,l[i]? =some e→s[i]? =some (if i<k then dJ e else e)) ⟨rfl,fun i e h=>by simpa using h⟩ (fun k x s hk ⟨i1,i2⟩=>by
    have ah:=(Aoz.1 hk).1
    have hx:=i2 k x hk
    rw[if_neg (Nat.lt_irrefl k)]at hx
    refine⟨(s.set k (Ar.mk x.ID x.To x.To x.Cost)).set k (dJ x),?_,by simp[i1],fun i e he=>?_⟩
    ·unfold Q6
     rw[Cm hx,Aos];rfl
    ·rw[List.set_set]
     by_cases h:k=i
     ·subst h
      rw[hk]at he;obtain rfl:=Aoy he
      rw[List.getElem?_set_self (by omega),if_pos (by omega)]
     ·rw[List.getElem?_set_ne h,i2 i e he]
      by_cases h2:i<k
      ·rw[if_pos h2,if_pos (by omega)]
      ·rw[if_neg h2,if_neg (by omega)])
  rw[h1]
  have:s=turn l:=by
    apply List.ext_getElem?
    intro i
    unfold turn
    rw[List.getElem?_map]
    by_cases hi:i<l.length
    ·have he:=Aoq hi
     rw[h3 i _ he,he,if_pos hi];rfl
    ·rw[List.getElem?_eq_none (by omega),List.getElem?_eq_none (by omega)];rfl
  subst this
  show(G5 (turn l) f).bind _=_
  cases G5 (turn l) f<;>rfl
theorem mF (l:List Ar) (n:Int):mget [] (Ce l) n=(l.filter fun e=>decide (e.From=n)).map (·.To):=by
  have key:∀ (l:List Ar) (g:List (Int×List Int)),mget [] (l.foldl (fun g e=>gadd g e.From e.To) g) n=mget [] g n++(l.filter fun e=>decide (e.From=n)).map (·.To):=by
    intro l
    induction l with
    | nil=>intro g;simp
    | cons e l ih=>
      intro g
      rw[List.foldl_cons,ih,zO]
      by_cases h:e.From=n<;>simp[h]
  have:=key l []
  simpa[mget,Ce]using this
theorem oD (l:List Ar) (m:List (Int×Bool)) (i:List Int) (x:Int) (hi:i.length≤549755813888) :
    Gh l (m,i++[x])=bif (!(mget false m x))then chk (i.length+(mget [] (Ce l) x).length) (some (Out.next (mset m x true,i++mget [] (Ce l) x)))else some (Out.next (m,i)):=by
  unfold Gh
  have e1:IntKind.i64.wrap ((((i++[x]).length:Nat):Int) - 1)=((i.length:Nat):Int):=by
    rw[wrap_i64]<;>simp<;>omega
  simp only[e1]
  rw[Aoo (show(0:Int)<(((i++[x]).length:Nat):Int) by simp),cond_true,Cm (x:=x) (by simp),Aos,Ns (by simp;omega)]
  simp[List.take_left]
theorem sU {l:List Ar} {f:List Int} (hl:l.length≤100000) (hf:f.length≤100000) (hE:∀ e∈l,I64 e.To) (hF:∀ n∈f,I64 n):∃ r,G5 l f=some r∧Q9 l f r:=by
  have hlen:∀ n,(mget [] (Ce l) n).length≤l.length:=fun n=>by
    rw[mF,Aow];exact List.length_filter_le _ _
  have hC:(f++l.map (·.To)).length=f.length+l.length:=by simp
  have hB:(f.length+l.length)*(l.length+1)+f.length≤30000000000:=by
    have:=Nat.mul_le_mul (show f.length+l.length≤200000 by omega) (show l.length+1≤100001 by omega)
    omega
  obtain⟨r,h1,h2⟩:=Hc (step:=Gh l)
    (fun s=>(mkeys s.1).Nodup∧(∀ n,mget false s.1 n=true↔n∈mkeys s.1)∧(∀ n∈mkeys s.1,Rch l (·∈f) n)∧(∀ n∈s.2,Rch l (·∈f) n)∧(∀ n∈f,n∈mkeys s.1∨n∈s.2)∧(∀ e∈l,e.From∈mkeys s.1→e.To∈mkeys s.1∨e.To∈s.2)∧
      (f.length+l.length - s.1.length)*(l.length+1)+s.2.length≤30000000000)
    (fun r=>Q9 l f r) (fun s=>(f.length+l.length - s.1.length)*(l.length+1)+s.2.length) (fun s ⟨i1,i2,i3,i4,i5,i6,i7⟩=>by
      obtain⟨m,o⟩:=s
      simp only at i1 i2 i3 i4 i5 i6 i7 ⊢
      have hk:m.length≤f.length+l.length:=by
        have:=Jv i1 (b:=f++l.map (·.To)) fun n hn=>Ta (i3 n hn)
        rw[hC]at this
        simpa[mkeys]using this
      have ho:o=[]∨∃ i x,o=i++[x]:=by
        rcases List.eq_nil_or_concat o with h | ⟨i,x,h⟩
        ·exact .inl h
        ·exact .inr ⟨i,x,by rw[h,List.concat_eq_append]⟩
      rcases ho with rfl | ⟨i,x,rfl⟩
      ·refine .inr ⟨Dn (mkeys m),?_,?_⟩
       ·unfold Gh
        have hr:∀ k∈mkeys m, -9223372036854775808≤k∧k≤9223372036854775807:=fun k hk=>by
          rcases Aox.1 (Ta (i3 k hk))with h | h
          ·exact hF k h
          ·obtain⟨e,he,rfl⟩:=List.mem_map.1 h;exact hE e he
        simp only[List.length_nil,Int.natCast_zero,Int.lt_irrefl,decide_false,cond_false]
        rw[Ns hr,Bs (by omega)];rfl
       ·refine .of_closed (yY i1) (fun n hn=>i3 n ((N0 _ _).1 hn)) (fun n hn=>(N0 _ _).2 ?_) (fun e he hm=>(N0 _ _).2 ?_)
        ·simpa using i5 n hn
        ·simpa using i6 e he ((N0 _ _).1 hm)
      ·simp only[Aou,List.length_cons,List.length_nil]at i7
       rw[oD l m i x (by omega)]
       have hx:=i4 x (by simp)
       cases hb:mget false m x with
       | false=>
         have ez:x ∉ mkeys m:=fun h=>by rw[(i2 x).2 h]at hb;cases hb
         have tx:=hlen x
         have hle:m.length+1≤f.length+l.length:=by
           have hn:(x::mkeys m).Nodup:=List.nodup_cons.2 ⟨ez,i1⟩
           have:=Jv hn (b:=f++l.map (·.To)) fun n hn=>by
             rcases List.mem_cons.1 hn with rfl | hn
             ·exact Ta hx
             ·exact Ta (i3 n hn)
           rw[hC]at this
           simpa[mkeys]using this
         have hml:(mset m x true).length=m.length+1:=by
           have hh:mhas m x=false:=by
             cases h:mhas m x with
             | false=>rfl
             | true=>exact absurd ((mH m x).1 h) ez
           rw[tJ,hh];rfl
         have df:mkeys (mset m x true)=mkeys m++[x]:=by rw[aF,if_neg ez]
         obtain⟨d,hd⟩:∃ d,f.length+l.length=m.length+1+d:=⟨_,(Nat.add_sub_cancel' hle).symm⟩
         have e1:f.length+l.length - m.length=d+1:=by omega
         have e2:f.length+l.length - (m.length+1)=d:=by omega
         rw[e1,Nat.succ_mul]at i7
         simp only[Bool.not_false,cond_true]
         rw[Bs (by omega)]
         refine .inl ⟨_,rfl,⟨wO i1 _ _,fun n=>?_,fun n hn=>?_,fun n hn=>?_,fun n hn=>?_,fun e he hm=>?_,?_⟩,?_⟩
         ·simp only[df,aG,Aox,List.mem_singleton]
          by_cases h:x=n
          ·simp[h]
          ·rw[if_neg h,i2];exact⟨.inl,fun h'=>h'.elim id fun h'=>absurd h'.symm h⟩
         ·simp only[df,Aox,List.mem_singleton]at hn
          rcases hn with hn | rfl
          ·exact i3 n hn
          ·exact hx
         ·rcases Aox.1 hn with hn | hn
          ·exact i4 n (by simp[hn])
          ·rw[mF]at hn
           obtain⟨e,he,rfl⟩:=List.mem_map.1 hn
           have:=List.mem_filter.1 he
           have hfx:=Aon this.2
           exact .step this.1 (hfx ▸ hx)
         ·simp only[df,Aox,List.mem_singleton]
          rcases i5 n hn with h | h
          ·exact .inl (.inl h)
          ·rcases Aox.1 h with h | h
           ·exact .inr (.inl h)
           ·exact .inl (.inr (by simpa using h))
         ·simp only[df,Aox,List.mem_singleton]at hm ⊢
          rcases hm with hm | hm
          ·rcases i6 e he hm with h | h
           ·exact .inl (.inl h)
           ·rcases Aox.1 h with h | h
            ·exact .inr (.inl h)
            ·exact .inl (.inr (by simpa using h))
          ·refine .inr (.inr ?_)
           rw[mF]
           exact List.mem_map.2 ⟨e,List.mem_filter.2 ⟨he,Aoo hm⟩,rfl⟩
         ·simp only[hml,e2,Aou];omega
         ·simp only[hml,e1,e2,Aou,Nat.succ_mul,List.length_cons,List.length_nil];omega
       | true=>
         have hold:=(i2 x).1 hb
         refine .inl ⟨_,rfl,⟨i1,i2,i3,fun n hn=>i4 n (by simp[hn]),fun n hn=>?_,fun e he hm=>?_,?_⟩,?_⟩
         ·rcases i5 n hn with h | h
          ·exact .inl h
          ·rcases Aox.1 h with h | h
           ·exact .inr h
           ·exact .inl (by rw[show n=x by simpa using h];exact hold)
         ·rcases i6 e he hm with h | h
          ·exact .inl h
          ·rcases Aox.1 h with h | h
           ·exact .inr h
           ·exact .inl (by rw[show e.To=x by simpa using h];exact hold)
         ·simp only;omega
         ·simp only[Aou,List.length_cons,List.length_nil];omega)
    fuel ([],f) ⟨by simp[mkeys],by simp[mget,mkeys],by simp[mkeys],fun n hn=>.base hn,fun n hn=>.inr hn,by simp[mkeys],by simpa using hB⟩ (by show _<1099511627776;simp only[List.length_nil,Nat.sub_zero];omega)
  refine⟨r,?_,h2⟩
  unfold G5 B9
  rw[Bs (by omega),Bs (by omega),Aos,h1];rfl
def Ew (n_:Int) (least:Int) (most:Int):Option (Bool):=
  (bif (decide (least≤n_))then some (decide (n_≤most))else some false)
def P7 (m:Av) (k0:Nat) (ab:Cx) (sv:Unit):Option (Out (Unit) (Int)):=
  (Ew ab.ID (1:Int) (9999:Int)).bind fun y3=>(bif (!y3)then some (Out.ret (2:Int))else (Ew ab.Alt (0:Int) (5000:Int)).bind fun y4=>(bif (!y4)then some (Out.ret (2:Int))else (bif (decide ((0:Int)<((k0:Nat):Int)))then (Da m.Nodes (IntKind.i64.wrap (((k0:Nat):Int) - (1:Int)))).bind fun cm=>(bif (decide (ab.ID≤cm.ID))then some (Out.ret (7:Int))else some (Out.next ()))else some (Out.next ()))))
def Vf (m:Av):Option (Int):=
  (Al (P7 m) 0 m.Nodes ()).bind fun o0=>o0.on fun s0=>some (0:Int)
def Li (m:Av) (ab:Ck):Option (Out (Unit) (Int)):=
  (Es m ab.From).bind fun cr=>(Es m ab.To).bind fun dz=>(bif (!cr.2)then some (Out.ret (8:Int))else (bif (!dz.2)then some (Out.ret (8:Int))else (bif (decide (dz.1.Alt≤cr.1.Alt))then some (Out.ret (11:Int))else nz ab.Spacing ((bif (decide ((Int.tmod (IntKind.i64.wrap ((2:Int)*ab.Length)) ab.Spacing)≠(0:Int)))then some (Out.ret (1:Int))else nz ab.Spacing ((Ew (IntKind.i64.wrap (Int.tdiv (IntKind.i64.wrap ((2:Int)*ab.Length)) ab.Spacing)) (1:Int) (200:Int)).bind fun ee=>(bif (!ee)then some (Out.ret (1:Int))else some (Out.next ()))))))))
def Ht (m:Av) (k0:Nat) (ab:Ck) (sv:Unit):Option (Out (Unit) (Int)):=
  (Ew ab.ID (1:Int) (9999:Int)).bind fun y3=>(bif (!y3)then some (Out.ret (2:Int))else (Ew ab.Operator (1:Int) (8:Int)).bind fun y4=>(bif (!y4)then some (Out.ret (2:Int))else (Ew ab.Length (10:Int) (6000:Int)).bind fun y5=>(bif (!y5)then some (Out.ret (2:Int))else (Ew ab.Speed (500:Int) (12000:Int)).bind fun y6=>(bif (!y6)then some (Out.ret (2:Int))else (Ew ab.Seats (1:Int) (16:Int)).bind fun y7=>(bif (!y7)then some (Out.ret (2:Int))else (Ew ab.Spacing (5:Int) (1000:Int)).bind fun y8=>(bif (!y8)then some (Out.ret (2:Int))else (bif (decide ((0:Int)<((k0:Nat):Int)))then (Da m.Lifts (IntKind.i64.wrap (((k0:Nat):Int) - (1:Int)))).bind fun im=>(bif (decide (ab.ID≤im.ID))then some (Out.ret (7:Int))else Li m ab)else Li m ab)))))))
def Qw (m:Av):Option (Int):=
  (Al (Ht m) 0 m.Lifts ()).bind fun o0=>o0.on fun s0=>some (0:Int)
def I9 (m:Av) (k0:Nat) (ab:Cn) (sv:Unit):Option (Out (Unit) (Int)):=
  (Ew ab.ID (1:Int) (9999:Int)).bind fun y3=>(bif (!y3)then some (Out.ret (2:Int))else (Ew ab.Operator (1:Int) (8:Int)).bind fun y4=>(bif (!y4)then some (Out.ret (2:Int))else (Ew ab.Grade (1:Int) (4:Int)).bind fun y5=>(bif (!y5)then some (Out.ret (2:Int))else (Ew ab.Zone (1:Int) (32:Int)).bind fun y6=>(bif (!y6)then some (Out.ret (2:Int))else (Ew ab.Length (10:Int) (20000:Int)).bind fun y7=>(bif (!y7)then some (Out.ret (2:Int))else (bif (decide ((0:Int)<((k0:Nat):Int)))then (Da m.Runs (IntKind.i64.wrap (((k0:Nat):Int) - (1:Int)))).bind fun dr=>(bif (decide (ab.ID≤dr.ID))then some (Out.ret (7:Int))else (Es m ab.From).bind fun y9=>(Es m ab.To).bind fun cr=>(bif (!y9.2)then some (Out.ret (8:Int))else (bif (!cr.2)then some (Out.ret (8:Int))else (bif (decide (y9.1.Alt≤cr.1.Alt))then some (Out.ret (11:Int))else some (Out.next ())))))else (Es m ab.From).bind fun dz=>(Es m ab.To).bind fun ee=>(bif (!dz.2)then some (Out.ret (8:Int))else (bif (!ee.2)then some (Out.ret (8:Int))else (bif (decide (dz.1.Alt≤ee.1.Alt))then some (Out.ret (11:Int))else some (Out.next ()))))))))))
def Su (m:Av):Option (Int):=
  (Al (I9 m) 0 m.Runs ()).bind fun o0=>o0.on fun s0=>some (0:Int)
def Hu (m:Av) (k1:Nat) (ak:Int) (sv:Unit):Option (Out (Unit) (Int)):=
  (bif (decide ((0:Int)<((k1:Nat):Int)))then (Da m.Bases (IntKind.i64.wrap (((k1:Nat):Int) - (1:Int)))).bind fun aw=>(bif (decide (ak≤aw))then some (Out.ret (7:Int))else some (Out.next ()))else some (Out.next ()))
def fM (m:Av):Option (Int):=
  (Al (Hu m) 0 m.Bases ()).bind fun o1=>o1.on fun s1=>some (0:Int)
def F2 (m:Av) (k4:Nat) (cp:Int) (sv:Unit):Option (Out (Unit) (Int)):=
  (Es m cp).bind fun y7=>(bif (!y7.2)then some (Out.ret (8:Int))else some (Out.next ()))
def Vg (m:Av):Option (Int):=
  (bif (decide (((m.Bases.length:Nat):Int)=(0:Int)))then some (8:Int)else (Al (F2 m) 0 m.Bases ()).bind fun o4=>o4.on fun s4=>fM m)
def lL (m:Av):Option (Int):=
  (bif (decide ((64:Int)<((m.Nodes.length:Nat):Int)))then some (4:Int)else (bif (decide ((32:Int)<((m.Lifts.length:Nat):Int)))then some (4:Int)else (bif (decide ((64:Int)<((m.Runs.length:Nat):Int)))then some (4:Int)else (bif (decide ((64:Int)<((m.Bases.length:Nat):Int)))then some (4:Int)else (Vf m).bind fun y1=>(bif (decide (y1≠(0:Int)))then some y1 else(Qw m).bind fun y2=>(bif (decide (y2≠(0:Int)))then some y2 else(Su m).bind fun y3=>(bif (decide (y3≠(0:Int)))then some y3 else(Vg m).bind fun y4=>some y4)))))))
def Zj {α:Type} (idf:α→Int) (d:α) (l:List α) (id:Int):α×Bool:=match l.find? (fun x=>decide (idf x=id))with | some x=>(x,true) | none=>(d,false)
def Df (m:Av) (id:Int):Cx×Bool:=Zj Cx.ID ⟨0,0⟩ m.Nodes id
def Af5 (m:Av) (id:Int):Ck×Bool:=Zj Ck.ID ⟨0,0,0,0,0,0,0,0⟩ m.Lifts id
def He (m:Av) (id:Int):Cn×Bool:=Zj Cn.ID ⟨0,0,0,0,0,0,0⟩ m.Runs id
theorem Zi {α:Type} {idf:α→Int} {d:α} {l:List α} {id:Int} {step:Nat→α→Unit→Option (Out Unit (α×Bool))} (hs:∀ k x,x∈l→step k x ()=bif decide (idf x=id)then some (.ret (x,true))else some (.next ())) :
    ((Al step 0 l ()).bind fun o=>o.on fun _=>some (d,false))=some (Zj idf d l id):=by
  rw[Fz (fun x=>decide (idf x=id)) (fun x=>(x,true)) hs,Zj]
  cases l.find? (fun x=>decide (idf x=id))<;>rfl
theorem m9 {α:Type} {idf:α→Int} {d:α} {l:List α} {id:Int} (h:(Zj idf d l id).2=true):(Zj idf d l id).1∈l∧idf (Zj idf d l id).1=id:=by
  unfold Zj at h ⊢
  split
  ·rename_i x hx
   exact⟨List.mem_of_find?_eq_some hx,by simpa using List.find?_some hx⟩
  ·rename_i hx;rw[hx]at h;cases h
theorem Aad {α:Type} {idf:α→Int} {d:α} {l:List α} {x:α} (h:x∈l):(Zj idf d l (idf x)).2=true:=by
  unfold Zj
  split
  ·rfl
  ·rename_i hx
   have:=List.find?_eq_none.1 hx x h
   simp at this
theorem cR {m:Av} {id:Int} (h:(Df m id).2=true):(Df m id).1∈m.Nodes∧(Df m id).1.ID=id:=m9 h
theorem fP {m:Av} {id:Int} (h:(He m id).2=true):(He m id).1∈m.Runs∧(He m id).1.ID=id:=m9 h
theorem Hh (m:Av) (id:Int):Es m id=some (Df m id):=Zi fun _ _ _=>rfl
theorem S6 (n lo hi:Int):Ew n lo hi=some (decide (lo≤n∧n≤hi)):=by
  unfold Ew
  by_cases h:lo≤n
  ·simp[h]
  ·simp[h]
theorem Aca (n lo hi:Int):Fa n lo hi=some (decide (lo≤n∧n≤hi)):=S6 n lo hi
def Ie {α:Type} (idf:α→Int) (l:List α):Prop:=∀ k x y,l[k+1]? =some x→l[k]? =some y→idf y<idf x
def before {α ρ:Type} (idf:α→Int) (l:List α) (k:Nat) (x:α) (bad good:Option (Out Unit ρ)):Option (Out Unit ρ):=
  bif decide (0<((k:Nat):Int))then (Da l (IntKind.i64.wrap ((k:Int) - 1))).bind fun y=>bif decide (idf x≤idf y)then bad else good else good
theorem aR {α ρ:Type} {idf:α→Int} {l:List α} {k:Nat} {x:α} {bad good:Option (Out Unit ρ)} (hk:l[k]? =some x) (hl:l.length≤100000) :
    ((∀ y,0<k→l[k - 1]? =some y→idf y<idf x)∧before idf l k x bad good=good)∨(¬ (∀ y,0<k→l[k - 1]? =some y→idf y<idf x)∧before idf l k x bad good=bad):=by
  have ah:=(Aoz.1 hk).1
  unfold before
  by_cases h0:0<k
  ·rw[Aoo (by omega),cond_true,S4 h0 (by omega),eN (by omega)]
   have hy:l[k - 1]? =some l[k - 1]:=Aoq (by omega)
   show(_∧(bif decide (idf x≤idf l[k - 1])then bad else good)=_)∨(_∧(bif decide (idf x≤idf l[k - 1])then bad else good)=_)
   by_cases hle:idf x≤idf l[k - 1]
   ·rw[Aoo hle,cond_true]
    refine .inr ⟨fun h=>?_,rfl⟩
    have:=h _ h0 hy
    omega
   ·rw[Aop hle,cond_false]
    refine .inl ⟨fun y _ tp=>?_,rfl⟩
    rw[hy]at tp
    obtain rfl:=Aoy tp
    omega
  ·rw[Aop (by omega),cond_false]
   exact .inl ⟨fun y h=>absurd h h0,rfl⟩
theorem W2 {α:Type} {idf:α→Int} {l:List α}:Ie idf l↔∀ (k:Nat) x,l[k]? =some x→∀ y,0<k→l[k - 1]? =some y→idf y<idf x:=by
  constructor
  ·intro h k x hx y h0 hy
   refine h (k - 1) x y ?_ hy
   rwa [show k - 1+1=k by omega]
  ·intro h k x y hx hy
   exact h (k+1) x hx y (by omega) (by simpa using hy)
def Ade (x:Cx):Prop:=(1≤x.ID∧x.ID≤9999)∧(0≤x.Alt∧x.Alt≤5000)
def fI (m:Av) (a b:Int):Prop:=(Df m a).2=true∧(Df m b).2=true∧(Df m a).1.Alt<(Df m b).1.Alt
def Ael (x:Ck):Prop:=(1≤x.ID∧x.ID≤9999)∧(1≤x.Operator∧x.Operator≤8)∧(10≤x.Length∧x.Length≤6000)∧(500≤x.Speed∧x.Speed≤12000)∧(1≤x.Seats∧x.Seats≤16)∧(5≤x.Spacing∧x.Spacing≤1000)
def fJ (x:Ck):Prop:=(2*x.Length).tmod x.Spacing=0∧1≤(2*x.Length).tdiv x.Spacing∧(2*x.Length).tdiv x.Spacing≤200
def Adf (m:Av) (x:Ck):Prop:=Ael x∧fI m x.From x.To∧fJ x
def Afm (x:Cn):Prop:=(1≤x.ID∧x.ID≤9999)∧(1≤x.Operator∧x.Operator≤8)∧(1≤x.Grade∧x.Grade≤4)∧(1≤x.Zone∧x.Zone≤32)∧(10≤x.Length∧x.Length≤20000)
def Aet (m:Av) (x:Cn):Prop:=Afm x∧fI m x.To x.From
structure Lh (m:Av):Prop where
  lenN:m.Nodes.length≤64
  lenL:m.Lifts.length≤32
  lenR:m.Runs.length≤64
  lenB:m.Bases.length≤64
  nodes:∀ x∈m.Nodes,Ade x
  nodesR:Ie Cx.ID m.Nodes
  lifts:∀ x∈m.Lifts,Adf m x
  liftsR:Ie Ck.ID m.Lifts
  runs:∀ x∈m.Runs,Aet m x
  runsR:Ie Cn.ID m.Runs
  some:m.Bases≠[]
  bases:∀ b∈m.Bases,(Df m b).2=true
  basesR:Ie (fun b:Int=>b) m.Bases
theorem tests {α:Type} {step:Nat→α→Unit→Option (Out Unit Int)} {l:List α} (ok:Nat→α→Prop) (hs:∀ k x,l[k]? =some x→(step k x ()=some (.next ())∧ok k x)∨(∃ r,step k x ()=some (.ret r)∧r≠0∧¬ ok k x)) :
    ∃ r,((Al step 0 l ()).bind fun o=>o.on fun _=>some 0)=some r∧(r=0↔∀ k x,l[k]? =some x→ok k x):=by
  rcases E5 (step:=step) (l:=l) (s:=()) (fun k _=>∀ i x,i<k→l[i]? =some x→ok i x) (fun r=>r≠0∧∃ k x,l[k]? =some x∧¬ ok k x) (fun i x h=>by omega) (fun k x u hk hI=>by
    rcases hs k x hk with⟨h1,h2⟩ | ⟨r,h1,h2,h3⟩
    ·refine .inl ⟨(),h1,fun i y hi hy=>?_⟩
     by_cases h:i=k
     ·subst h;rw[hk]at hy;obtain rfl:=Aoy hy;exact h2
     ·exact hI i y (by omega) hy
    ·exact .inr ⟨r,h1,h2,k,x,hk,h3⟩)with ⟨u,h1,h2⟩ | ⟨r,h1,h2,k,x,hk,h3⟩
  ·refine⟨0,by rw[h1];rfl,fun _ k x hk=>h2 k x (Aoz.1 hk).1 hk,fun _=>rfl⟩
  ·refine⟨r,by rw[h1];rfl,fun h=>absurd h h2,fun h=>absurd (h k x hk) h3⟩
theorem rQ {α:Type} {l:List α} {P:α→Prop} {Q:Nat→α→Prop}:(∀ (k:Nat) x,l[k]? =some x→P x∧Q k x)↔(∀ x∈l,P x)∧∀ (k:Nat) x,l[k]? =some x→Q k x:=by
  constructor
  ·intro h
   refine⟨fun x hx=>?_,fun k x hk=>(h k x hk).2⟩
   obtain⟨k,hk⟩:=List.getElem?_of_mem hx
   exact(h k x hk).1
  ·intro h k x hk
   exact⟨h.1 x (Aor hk),h.2 k x hk⟩
theorem nX (m:Av) (hl:m.Nodes.length≤64):∃ r,Vf m=some r∧(r=0↔(∀ x∈m.Nodes,Ade x)∧Ie Cx.ID m.Nodes):=by
  rw[W2,← rQ]
  refine tests _ fun k x hk=>?_
  have hb:P7 m k x ()=(bif !decide (1≤x.ID∧x.ID≤9999)then some (Out.ret 2)else bif !decide (0≤x.Alt∧x.Alt≤5000)then some (Out.ret 2)else before Cx.ID m.Nodes k x (some (Out.ret 7)) (some (Out.next ()))):=by
    simp only[P7,S6,Aos];rfl
  rw[hb]
  by_cases h1:1≤x.ID∧x.ID≤9999
  ·by_cases h2:0≤x.Alt∧x.Alt≤5000
   ·rw[Aoo h1,Aoo h2]
    rcases aR (idf:=Cx.ID) (bad:=some (Out.ret (7:Int))) (good:=some (Out.next ())) hk (by omega)with ⟨h3,e⟩ | ⟨h3,e⟩
    ·exact .inl ⟨e,⟨h1,h2⟩,h3⟩
    ·exact .inr ⟨7,e,by decide,fun h=>h3 h.2⟩
   ·rw[Aoo h1,Aop h2]
    exact .inr ⟨2,rfl,by decide,fun h=>h2 h.1.2⟩
  ·rw[Aop h1]
   exact .inr ⟨2,rfl,by decide,fun h=>h1 h.1.1⟩
theorem l5 (m:Av):Uz m.Nodes=Vf m:=rfl
theorem Afo {n:Int} (h:10≤n∧n≤6000):IntKind.i64.wrap (2*n)=2*n:=by rw[wrap_i64]<;>omega
theorem vQ {a b:Int} (ha:0≤a) (hb:0<b):0≤a.tdiv b∧a.tdiv b≤a:=by
  rw[Int.tdiv_eq_ediv_of_nonneg ha]
  exact⟨Int.ediv_nonneg ha (by omega),Int.ediv_le_self _ ha⟩
theorem yQ {n s:Int} (h:10≤n∧n≤6000) (hs:5≤s∧s≤1000):IntKind.i64.wrap ((2*n).tdiv s)=(2*n).tdiv s:=by
  have:=vQ (a:=2*n) (b:=s) (by omega) (by omega)
  rw[wrap_i64]<;>omega
def leads (m:Av) (a b:Int) (good:Option (Out Unit Int)):Option (Out Unit Int):=
  bif !(Df m a).2 then some (.ret 8)else bif !(Df m b).2 then some (.ret 8)else bif decide ((Df m b).1.Alt≤(Df m a).1.Alt)then some (.ret 11)else good
theorem tQ (m:Av) (a b:Int) (good:Option (Out Unit Int)):(fI m a b∧leads m a b good=good)∨(¬ fI m a b∧∃ r,leads m a b good=some (.ret r)∧r≠0):=by
  unfold leads fI
  cases h1:(Df m a).2 with
  | false=>exact .inr ⟨by simp,8,rfl,by decide⟩
  | true=>
    cases h2:(Df m b).2 with
    | false=>exact .inr ⟨by simp,8,rfl,by decide⟩
    | true=>
      by_cases h3:(Df m b).1.Alt≤(Df m a).1.Alt
      ·rw[Aoo h3]
       exact .inr ⟨fun h=>by omega,11,rfl,by decide⟩
      ·rw[Aop h3]
       exact .inl ⟨⟨rfl,rfl,by omega⟩,rfl⟩
def carr (x:Ck) (good:Option (Out Unit Int)):Option (Out Unit Int):=
  nz x.Spacing (bif decide ((IntKind.i64.wrap (2*x.Length)).tmod x.Spacing≠0)then some (.ret 1)else nz x.Spacing (bif !decide (1≤IntKind.i64.wrap ((IntKind.i64.wrap (2*x.Length)).tdiv x.Spacing)∧IntKind.i64.wrap ((IntKind.i64.wrap (2*x.Length)).tdiv x.Spacing)≤200)then some (.ret 1)else good))
theorem Aed {x:Ck} (hl:10≤x.Length∧x.Length≤6000) (hs:5≤x.Spacing∧x.Spacing≤1000) (good:Option (Out Unit Int)):(fJ x∧carr x good=good)∨(¬ fJ x∧∃ r,carr x good=some (.ret r)∧r≠0):=by
  unfold carr fJ
  rw[mB (by omega),mB (by omega),Afo hl,yQ hl hs]
  by_cases h1:(2*x.Length).tmod x.Spacing=0
  ·rw[Aop (by simpa using h1)]
   by_cases h2:1≤(2*x.Length).tdiv x.Spacing∧(2*x.Length).tdiv x.Spacing≤200
   ·rw[Aoo h2];exact .inl ⟨⟨h1,h2.1,h2.2⟩,rfl⟩
   ·rw[Aop h2];exact .inr ⟨fun h=>h2 h.2,1,rfl,by decide⟩
  ·rw[Aoo (by simpa using h1)];exact .inr ⟨fun h=>h1 h.1,1,rfl,by decide⟩
theorem nY (m:Av) (hl:m.Lifts.length≤32):∃ r,Qw m=some r∧(r=0↔(∀ x∈m.Lifts,Adf m x)∧Ie Ck.ID m.Lifts):=by
  rw[W2,← rQ]
  refine tests _ fun k x hk=>?_
  have hb:Ht m k x ()=(bif !decide (1≤x.ID∧x.ID≤9999)then some (Out.ret 2)else bif !decide (1≤x.Operator∧x.Operator≤8)then some (Out.ret 2)else bif !decide (10≤x.Length∧x.Length≤6000)then some (Out.ret 2)else
   bif !decide (500≤x.Speed∧x.Speed≤12000)then some (Out.ret 2)else bif !decide (1≤x.Seats∧x.Seats≤16)then some (Out.ret 2)else bif !decide (5≤x.Spacing∧x.Spacing≤1000)then some (Out.ret 2)else
   before Ck.ID m.Lifts k x (some (Out.ret 7)) (leads m x.From x.To (carr x (some (.next ()))))):=by
    simp only[Ht,Li,S6,Hh,Aos];rfl
  rw[hb]
  by_cases h1:1≤x.ID∧x.ID≤9999
  case neg=>rw[Aop h1];exact .inr ⟨2,rfl,by decide,fun h=>h1 h.1.1.1⟩
  by_cases h2:1≤x.Operator∧x.Operator≤8
  case neg=>rw[Aoo h1,Aop h2];exact .inr ⟨2,rfl,by decide,fun h=>h2 h.1.1.2.1⟩
  by_cases h3:10≤x.Length∧x.Length≤6000
  case neg=>rw[Aoo h1,Aoo h2,Aop h3];exact .inr ⟨2,rfl,by decide,fun h=>h3 h.1.1.2.2.1⟩
  by_cases h4:500≤x.Speed∧x.Speed≤12000
  case neg=>rw[Aoo h1,Aoo h2,Aoo h3,Aop h4];exact .inr ⟨2,rfl,by decide,fun h=>h4 h.1.1.2.2.2.1⟩
  by_cases h5:1≤x.Seats∧x.Seats≤16
  case neg=>rw[Aoo h1,Aoo h2,Aoo h3,Aoo h4,Aop h5];exact .inr ⟨2,rfl,by decide,fun h=>h5 h.1.1.2.2.2.2.1⟩
  by_cases h6:5≤x.Spacing∧x.Spacing≤1000
  case neg=>rw[Aoo h1,Aoo h2,Aoo h3,Aoo h4,Aoo h5,Aop h6];exact .inr ⟨2,rfl,by decide,fun h=>h6 h.1.1.2.2.2.2.2⟩
  rw[Aoo h1,Aoo h2,Aoo h3,Aoo h4,Aoo h5,Aoo h6]
  rcases aR (idf:=Ck.ID) (bad:=some (Out.ret (7:Int))) (good:=leads m x.From x.To (carr x (some (.next ())))) hk (by omega)with ⟨h7,e⟩ | ⟨h7,e⟩
  case inr=>exact .inr ⟨7,e,by decide,fun h=>h7 h.2⟩
  rcases tQ m x.From x.To (carr x (some (.next ())))with ⟨h8,e2⟩ | ⟨h8,r,e2,hr⟩
  case inr=>exact .inr ⟨r,e.trans e2,hr,fun h=>h8 h.1.2.1⟩
  rcases Aed h3 h6 (some (.next ()))with ⟨h9,e3⟩ | ⟨h9,r,e3,hr⟩
  case inr=>exact .inr ⟨r,e.trans (e2.trans e3),hr,fun h=>h9 h.1.2.2⟩
  exact .inl ⟨e.trans (e2.trans e3),⟨⟨h1,h2,h3,h4,h5,h6⟩,h8,h9⟩,h7⟩
theorem qO (m:Av) (hl:m.Runs.length≤64):∃ r,Su m=some r∧(r=0↔(∀ x∈m.Runs,Aet m x)∧Ie Cn.ID m.Runs):=by
  rw[W2,← rQ]
  refine tests _ fun k x hk=>?_
  have rn:∀ (good:Option (Out Unit Int)),(bif !(Df m x.From).2 then some (.ret 8)else bif !(Df m x.To).2 then some (.ret 8)else bif decide ((Df m x.From).1.Alt≤(Df m x.To).1.Alt)then some (.ret 11)else good)=leads m x.To x.From good:=by
    intro good
    unfold leads
    cases(Df m x.From).2<;>cases (Df m x.To).2<;>rfl
  have hb:I9 m k x ()=(bif !decide (1≤x.ID∧x.ID≤9999)then some (Out.ret 2)else bif !decide (1≤x.Operator∧x.Operator≤8)then some (Out.ret 2)else bif !decide (1≤x.Grade∧x.Grade≤4)then some (Out.ret 2)else
   bif !decide (1≤x.Zone∧x.Zone≤32)then some (Out.ret 2)else bif !decide (10≤x.Length∧x.Length≤20000)then some (Out.ret 2)else
   before Cn.ID m.Runs k x (some (Out.ret 7)) (leads m x.To x.From (some (.next ())))):=by
    simp only[I9,S6,Hh,Aos,rn];rfl
  rw[hb]
  by_cases h1:1≤x.ID∧x.ID≤9999
  case neg=>rw[Aop h1];exact .inr ⟨2,rfl,by decide,fun h=>h1 h.1.1.1⟩
  by_cases h2:1≤x.Operator∧x.Operator≤8
  case neg=>rw[Aoo h1,Aop h2];exact .inr ⟨2,rfl,by decide,fun h=>h2 h.1.1.2.1⟩
  by_cases h3:1≤x.Grade∧x.Grade≤4
  case neg=>rw[Aoo h1,Aoo h2,Aop h3];exact .inr ⟨2,rfl,by decide,fun h=>h3 h.1.1.2.2.1⟩
  by_cases h4:1≤x.Zone∧x.Zone≤32
  case neg=>rw[Aoo h1,Aoo h2,Aoo h3,Aop h4];exact .inr ⟨2,rfl,by decide,fun h=>h4 h.1.1.2.2.2.1⟩
  by_cases h5:10≤x.Length∧x.Length≤20000
  case neg=>rw[Aoo h1,Aoo h2,Aoo h3,Aoo h4,Aop h5];exact .inr ⟨2,rfl,by decide,fun h=>h5 h.1.1.2.2.2.2⟩
  rw[Aoo h1,Aoo h2,Aoo h3,Aoo h4,Aoo h5]
  rcases aR (idf:=Cn.ID) (bad:=some (Out.ret (7:Int))) (good:=leads m x.To x.From (some (.next ()))) hk (by omega)with ⟨h7,e⟩ | ⟨h7,e⟩
  case inr=>exact .inr ⟨7,e,by decide,fun h=>h7 h.2⟩
  rcases tQ m x.To x.From (some (.next ()))with ⟨h8,e2⟩ | ⟨h8,r,e2,hr⟩
  case inr=>exact .inr ⟨r,e.trans e2,hr,fun h=>h8 h.1.2⟩
  exact .inl ⟨e.trans e2,⟨⟨h1,h2,h3,h4,h5⟩,h8⟩,h7⟩
theorem vP {α:Type} {step:Nat→α→Unit→Option (Out Unit Int)} {l:List α} (e:Int) (ok:Nat→α→Prop) (hs:∀ k x,l[k]? =some x→(step k x ()=some (.next ())∧ok k x)∨(step k x ()=some (.ret e)∧¬ ok k x)) :
    (Al step 0 l ()=some (.next ())∧∀ k x,l[k]? =some x→ok k x)∨(Al step 0 l ()=some (.ret e)∧¬ ∀ k x,l[k]? =some x→ok k x):=by
  rcases E5 (step:=step) (l:=l) (s:=()) (fun k _=>∀ i x,i<k→l[i]? =some x→ok i x) (fun r=>r=e∧∃ k x,l[k]? =some x∧¬ ok k x) (fun i x h=>by omega) (fun k x u hk hI=>by
    rcases hs k x hk with⟨h1,h2⟩ | ⟨h1,h3⟩
    ·refine .inl ⟨(),h1,fun i y hi hy=>?_⟩
     by_cases h:i=k
     ·subst h;rw[hk]at hy;obtain rfl:=Aoy hy;exact h2
     ·exact hI i y (by omega) hy
    ·exact .inr ⟨e,h1,rfl,k,x,hk,h3⟩)with ⟨u,h1,h2⟩ | ⟨r,h1,h2,k,x,hk,h3⟩
  ·exact .inl ⟨h1,fun k x hk=>h2 k x (Aoz.1 hk).1 hk⟩
  ·subst h2;exact .inr ⟨h1,fun h=>h3 (h k x hk)⟩
theorem Afg (m:Av):(Al (F2 m) 0 m.Bases ()=some (.next ())∧∀ b∈m.Bases,(Df m b).2=true)∨(Al (F2 m) 0 m.Bases ()=some (.ret 8)∧¬ ∀ b∈m.Bases,(Df m b).2=true):=by
  have h:=vP (step:=F2 m) (l:=m.Bases) 8 (fun _ b=>(Df m b).2=true) (fun k x hk=>by
    simp only[F2,Hh,Aos]
    cases(Df m x).2<;>simp)
  have e:(∀ (k:Nat) x,m.Bases[k]? =some x→(Df m x).2=true)↔∀ b∈m.Bases,(Df m b).2=true:=
    ⟨fun h b hb=>by obtain⟨k,hk⟩:=List.getElem?_of_mem hb;exact h k b hk,fun h k x hk=>h x (Aor hk)⟩
  rwa [e]at h
theorem Aff (m:Av) (hl:m.Bases.length≤64):(Al (Hu m) 0 m.Bases ()=some (.next ())∧Ie (fun b:Int=>b) m.Bases)∨(Al (Hu m) 0 m.Bases ()=some (.ret 7)∧¬ Ie (fun b:Int=>b) m.Bases):=by
  rw[W2]
  refine vP _ _ fun k x hk=>?_
  rcases aR (idf:=fun b:Int=>b) (bad:=some (Out.ret (7:Int))) (good:=some (Out.next ())) hk (by omega)with ⟨h,e⟩ | ⟨h,e⟩
  ·exact .inl ⟨e,h⟩
  ·exact .inr ⟨e,h⟩
theorem yK (m:Av) (hl:m.Bases.length≤64):(J8 (Er m) (m.Bases.length - 1) ()=some (.next ())∧Ie (fun b:Int=>b) m.Bases)∨(J8 (Er m) (m.Bases.length - 1) ()=some (.ret 7)∧¬ Ie (fun b:Int=>b) m.Bases):=by
  have hn:m.Bases.length - 1≤9223372036854775807:=by omega
  rw[J8,if_pos hn]
  have h:=vP (step:=Er m) (l:=List.replicate (m.Bases.length - 1) ()) 7 (fun k _=>∀ x y,m.Bases[k+1]? =some x→m.Bases[k]? =some y→y<x) (fun k u hk=>by
    have hk:=Vx hk
    have h1:m.Bases[k+1]? =some m.Bases[k+1]:=Aoq (by omega)
    have h2:m.Bases[k]? =some m.Bases[k]:=Aoq (by omega)
    have e1:Da m.Bases ((k:Int)+1)=some m.Bases[k+1]:=S1 (by omega) h1
    have e2:Da m.Bases (IntKind.i64.wrap ((k:Int)+1 - 1))=some m.Bases[k]:=S1 (by rw[wrap_i64]<;>omega) h2
    simp only[Er,e1,e2,Aos]
    by_cases hle:m.Bases[k+1]≤m.Bases[k]
    ·rw[Aoo hle]
     exact .inr ⟨rfl,fun h=>by have:=h _ _ h1 h2;omega⟩
    ·rw[Aop hle]
     refine .inl ⟨rfl,fun x y hx hy=>?_⟩
     rw[h1]at hx;rw[h2]at hy
     obtain rfl:=Aoy hx;obtain rfl:=Aoy hy
     omega)
  have e:(∀ (k:Nat) (u:Unit),(List.replicate (m.Bases.length - 1) ())[k]? =some u→∀ x y,m.Bases[k+1]? =some x→m.Bases[k]? =some y→y<x)↔Ie (fun b:Int=>b) m.Bases:=by
    constructor
    ·intro h k x y hx hy
     have:=(Aoz.1 hx).1
     exact h k () (by rw[List.getElem?_replicate,if_pos (by omega)]) x y hx hy
    ·intro h k _ _ x y hx hy
     exact h k x y hx hy
  rwa [e]at h
theorem nZ (m:Av) (hl:m.Bases.length≤64):∃ r,Vg m=some r∧Rs m=some r∧(r=0↔m.Bases≠[]∧(∀ b∈m.Bases,(Df m b).2=true)∧Ie (fun b:Int=>b) m.Bases):=by
  unfold Vg Rs
  by_cases h0:m.Bases=[]
  ·exact⟨8,by simp[h0],by simp[h0],by simp[h0]⟩
  have hlen:¬ ((m.Bases.length:Nat):Int)=0:=by
    have:=List.length_pos_iff.2 h0;omega
  rw[Aop hlen,cond_false,cond_false]
  have e1:Al (T4 m) 0 m.Bases ()=Al (F2 m) 0 m.Bases ():=rfl
  rw[e1]
  rcases Afg m with⟨h1,h2⟩ | ⟨h1,h2⟩
  case inr=>exact ⟨8,by rw[h1];rfl,by rw[h1];rfl,by simp[h2]⟩
  rcases Aff m hl with⟨h3,h4⟩ | ⟨h3,h4⟩
  ·rcases yK m hl with⟨h5,h6⟩ | ⟨h5,h6⟩
   ·refine⟨0,?_,?_,fun _=>⟨h0,h2,h4⟩,fun _=>rfl⟩
    ·rw[h1];show((Al (Hu m) 0 m.Bases ()).bind fun o=>o.on fun _=>some 0)=_;rw[h3];rfl
    ·rw[h1];show((J8 (Er m) (m.Bases.length - 1) ()).bind fun o=>o.on fun _=>some 0)=_;rw[h5];rfl
   ·exact absurd h4 h6
  ·rcases yK m hl with⟨h5,h6⟩ | ⟨h5,h6⟩
   ·exact absurd h6 h4
   ·refine⟨7,?_,?_,fun h=>by omega,fun h=>absurd h.2.2 h4⟩
    ·rw[h1];show((Al (Hu m) 0 m.Bases ()).bind fun o=>o.on fun _=>some 0)=_;rw[h3];rfl
    ·rw[h1];show((J8 (Er m) (m.Bases.length - 1) ()).bind fun o=>o.on fun _=>some 0)=_;rw[h5];rfl
theorem Abj (m:Av) (a b:Int):Gy m a b=some (if(Df m a).2=false then 8 else if(Df m b).2=false then 8 else if(Df m b).1.Alt≤(Df m a).1.Alt then 11 else 0):=by
  unfold Gy
  simp only[Hh,Aos]
  cases(Df m a).2<;>cases (Df m b).2<;>simp
  by_cases h:(Df m b).1.Alt≤(Df m a).1.Alt
  ·simp[h]
  ·simp[h]
theorem jF (m:Av) (a b:Int) (good:Option (Out Unit Int)):((Gy m a b).bind fun y=>bif decide (y≠0)then some (Out.ret y)else good)=leads m a b good:=by
  rw[Abj]
  unfold leads
  cases(Df m a).2
  ·rfl
  cases(Df m b).2
  ·rfl
  show(bif decide ((if(Df m b).1.Alt≤(Df m a).1.Alt then(11:Int)else 0)≠0)then some (Out.ret (if(Df m b).1.Alt≤(Df m a).1.Alt then(11:Int)else 0))else good)=bif decide ((Df m b).1.Alt≤(Df m a).1.Alt)then some (Out.ret 11)else good
  by_cases h:(Df m b).1.Alt≤(Df m a).1.Alt
  ·rw[if_pos h,Aoo h];rfl
  ·rw[if_neg h,Aop h];rfl
theorem Acs (x:Ck) (good:Option (Out Unit Int)):((H3 x).bind fun y=>bif !y then some (Out.ret 1)else good)=carr x good:=by
  unfold H3 carr
  simp only[Aca]
  by_cases hs:x.Spacing=0
  ·simp[nz,hs]
  rw[mB hs,mB hs,mB hs,mB hs]
  by_cases h:(IntKind.i64.wrap (2*x.Length)).tmod x.Spacing=0
  ·have e1:decide ((IntKind.i64.wrap (2*x.Length)).tmod x.Spacing=0)=true:=Aoo h
   have e2:decide ((IntKind.i64.wrap (2*x.Length)).tmod x.Spacing≠0)=false:=Aop (by simpa using h)
   rw[e1,e2];rfl
  ·have e1:decide ((IntKind.i64.wrap (2*x.Length)).tmod x.Spacing=0)=false:=Aop h
   have e2:decide ((IntKind.i64.wrap (2*x.Length)).tmod x.Spacing≠0)=true:=Aoo h
   rw[e1,e2];rfl
theorem l6 (m:Av):Rr m=Qw m:=by
  have h:O9 m=Ht m:=by
    funext k x u
    simp only[O9,Aca,Aos,jF,Acs,Ht,Li,S6,Hh]
    rfl
  unfold Rr Qw
  rw[h]
theorem oC (m:Av):T1 m=Su m:=by
  have rn:∀ (a b:Int) (good:Option (Out Unit Int)),(bif !(Df m b).2 then some (.ret 8)else bif !(Df m a).2 then some (.ret 8)else bif decide ((Df m b).1.Alt≤(Df m a).1.Alt)then some (.ret 11)else good)=leads m a b good:=by
    intro a b good
    unfold leads
    cases(Df m a).2<;>cases (Df m b).2<;>rfl
  have h:Q5 m=I9 m:=by
    funext k x u
    simp only[Q5,Aca,Aos,jF,I9,S6,Hh,rn]
  unfold T1 Su
  rw[h]
theorem Yp (m:Av):∃ r,lL m=some r∧Iv m=some r∧(r=0↔Lh m):=by
  unfold lL Iv
  by_cases h1:(64:Int)<((m.Nodes.length:Nat):Int)
  ·rw[Aoo h1];exact⟨4,rfl,rfl,fun h=>by omega,fun h=>by have:=h.lenN;omega⟩
  by_cases h2:(32:Int)<((m.Lifts.length:Nat):Int)
  ·rw[Aop h1,Aoo h2];exact⟨4,rfl,rfl,fun h=>by omega,fun h=>by have:=h.lenL;omega⟩
  by_cases h3:(64:Int)<((m.Runs.length:Nat):Int)
  ·rw[Aop h1,Aop h2,Aoo h3];exact⟨4,rfl,rfl,fun h=>by omega,fun h=>by have:=h.lenR;omega⟩
  by_cases h4:(64:Int)<((m.Bases.length:Nat):Int)
  ·rw[Aop h1,Aop h2,Aop h3,Aoo h4];exact⟨4,rfl,rfl,fun h=>by omega,fun h=>by have:=h.lenB;omega⟩
  rw[Aop h1,Aop h2,Aop h3,Aop h4]
  obtain⟨r1,e1,i1⟩:=nX m (by omega)
  obtain⟨r2,e2,i2⟩:=nY m (by omega)
  obtain⟨r3,e3,i3⟩:=qO m (by omega)
  obtain⟨r4,e4,e4',i4⟩:=nZ m (by omega)
  simp only[cond_false,l5,l6,oC,e1,e2,e3,e4,e4',Aos]
  by_cases z1:r1=0
  case neg=>rw[Aoo z1];exact⟨r1,rfl,rfl,fun h=>absurd h z1,fun h=>absurd (i1.2 ⟨h.nodes,h.nodesR⟩) z1⟩
  by_cases z2:r2=0
  case neg=>rw[Aop (by simpa using z1),Aoo z2];exact⟨r2,rfl,rfl,fun h=>absurd h z2,fun h=>absurd (i2.2 ⟨h.lifts,h.liftsR⟩) z2⟩
  by_cases z3:r3=0
  case neg=>rw[Aop (by simpa using z1),Aop (by simpa using z2),Aoo z3];exact⟨r3,rfl,rfl,fun h=>absurd h z3,fun h=>absurd (i3.2 ⟨h.runs,h.runsR⟩) z3⟩
  rw[Aop (by simpa using z1),Aop (by simpa using z2),Aop (by simpa using z3)]
  refine⟨r4,rfl,rfl,fun h=>?_,fun h=>i4.2 ⟨h.some,h.bases,h.basesR⟩⟩
  have g1:=i1.1 z1;have g2:=i2.1 z2;have g3:=i3.1 z3;have g4:=i4.1 h
  exact⟨by omega,by omega,by omega,by omega,g1.1,g1.2,g2.1,g2.2,g3.1,g3.2,g4.1,g4.2.1,g4.2.2⟩
theorem v8 (m:Av):∃ r,Iv m=some r∧(r=0↔Lh m):=by
  obtain⟨r,_,h1,h2⟩:=Yp m
  exact⟨r,h1,h2⟩
theorem kZ (l:List Int) (n:Int):Qm l n=some (decide (n∈l)):=Zb fun k x hx=>rfl
theorem put_eq {l:List Int} (h:Inc l) (hl:l.length≤100000000) (n:Int):∃ r,Ql l n=some r∧Inc r∧(∀ x,x∈r↔x∈l∨x=n):=by
  have yr:=List.pairwise_iff_getElem.1 h
  obtain⟨s,h1,h2,h3,h4,h5,h6⟩:=Eb (ρ:=List Int) (step:=Sz n) (l:=l) (s:=(false,[])) (fun k s=>Inc s.2∧(∀ y∈s.2,(y∈l.take k∨(y=n∧∀ z∈l.drop k,n<z)))∧(∀ x,x∈s.2↔x∈l.take k∨(s.1=true∧x=n))∧(s.1=false→∀ x∈l.take k,x<n)∧s.2.length≤k+1)
    ⟨List.Pairwise.nil,by simp,by simp,by simp,by simp⟩ (fun k x s hk ⟨i1,i2,i3,i4,i5⟩=>by
      obtain⟨d,o⟩:=s
      simp only at i1 i2 i3 i4 i5
      have ah:=(Aoz.1 hk).1
      have hx:l[k]=x:=(Aoz.1 hk).2
      have tk:∀ y∈l.take k,y<x:=fun y hy=>by
        obtain⟨i,hi,rfl⟩:=List.getElem_of_mem hy
        rw[List.length_take]at hi
        rw[List.getElem_take,← hx]
        exact yr i k (by omega) ah (by omega)
      have dk:l.drop k=x::l.drop (k+1):=by rw[List.drop_eq_getElem_cons ah,hx]
      have dk1:∀ z∈l.drop (k+1),x<z:=fun z hz=>by
        obtain⟨i,hi,rfl⟩:=List.getElem_of_mem hz
        rw[List.length_drop]at hi
        rw[List.getElem_drop,← hx]
        exact yr k (k+1+i) ah (by omega) (by omega)
      have ts:=Bi hk
      have olt:∀ y∈o,(d=true→y<x)∧(d=false→y<x∧y<n):=fun y hy=>by
        refine⟨fun _=>?_,fun hd=>?_⟩
        ·rcases i2 y hy with h | ⟨rfl,h⟩
         ·exact tk y h
         ·exact h x (by rw[dk];simp)
        ·rcases(i3 y).1 hy with h | ⟨h,_⟩
         ·exact⟨tk y h,i4 hd y h⟩
         ·rw[hd]at h;cases h
      have app:∀ {o:List Int} {z:Int},Inc o→(∀ y∈o,y<z)→Inc (o++[z]):=fun ho hz=>by
        unfold Inc
        rw[List.pairwise_append]
        refine⟨ho,by simp,fun a ha b hb=>?_⟩
        simp at hb;subst hb;exact hz a ha
      unfold Sz
      simp only
      cases d with
      | true=>
        simp only[Bool.not_true,cond_false]
        rw[Bs (by omega)]
        refine⟨_,rfl,app i1 fun y hy=>(olt y hy).1 rfl,fun y hy=>?_,fun y=>?_,(fun h=>by cases h),by simp;omega⟩
        ·rw[ts]
         rcases Aox.1 hy with hy | hy
         ·rcases i2 y hy with h | ⟨h,h'⟩
          ·exact .inl (Aox.2 (.inl h))
          ·exact .inr ⟨h,fun z hz=>h' z (by rw[dk];exact List.mem_cons_of_mem _ hz)⟩
         ·exact .inl (Aox.2 (.inr hy))
        ·simp only[ts,Aox,i3,List.mem_singleton]
         constructor
         ·rintro((h | h) | h)
          ·exact .inl (.inl h)
          ·exact .inr h
          ·exact .inl (.inr h)
         ·rintro((h | h) | h)
          ·exact .inl (.inl h)
          ·exact .inr h
          ·exact .inl (.inr h)
      | false=>
        simp only[Bool.not_false,cond_true]
        have ld:o.length≤k:=by
          have:=Jv i1.nodup (b:=l.take k) fun z hz=>by
            rcases(i3 z).1 hz with h | ⟨h,_⟩
            ·exact h
            ·cases h
          rw[List.length_take]at this;omega
        by_cases c1:n≤x
        ·rw[Aoo c1,cond_true]
         by_cases c2:n<x
         ·rw[Aoo c2,cond_true,Bs (by omega),Bs (by omega)]
          refine⟨_,rfl,app (app i1 fun y hy=>((olt y hy).2 rfl).2) fun y hy=>?_,fun y hy=>?_,fun y=>?_,(fun h=>by cases h),by simp;omega⟩
          ·rcases Aox.1 hy with hy | hy
           ·exact((olt y hy).2 rfl).1
           ·simp at hy;subst hy;exact c2
          ·rw[ts]
           simp only[Aox,List.mem_singleton]at hy ⊢
           rcases hy with(hy | hy) | hy
           ·rcases i2 y hy with h | ⟨h,h'⟩
            ·exact .inl (.inl h)
            ·exact .inr ⟨h,fun z hz=>h' z (by rw[dk];exact List.mem_cons_of_mem _ hz)⟩
           ·exact .inr ⟨hy,fun z hz=>by have:=dk1 z hz;omega⟩
           ·exact .inl (.inr hy)
          ·simp only[ts,Aox,i3,List.mem_singleton]
           constructor
           ·rintro(((h | ⟨h,_⟩) | h) | h)
            ·exact .inl (.inl h)
            ·cases h
            ·exact .inr ⟨trivial,h⟩
            ·exact .inl (.inr h)
           ·rintro((h | h) | ⟨_,h⟩)
            ·exact .inl (.inl (.inl h))
            ·exact .inr h
            ·exact .inl (.inr h)
         ·have e:x=n:=by omega
          rw[Aop c2,cond_false,Bs (by omega)]
          refine⟨_,rfl,app i1 fun y hy=>((olt y hy).2 rfl).1,fun y hy=>?_,fun y=>?_,(fun h=>by cases h),by simp;omega⟩
          ·rw[ts]
           simp only[Aox,List.mem_singleton]at hy ⊢
           rcases hy with hy | hy
           ·rcases i2 y hy with h | ⟨h,h'⟩
            ·exact .inl (.inl h)
            ·exact .inr ⟨h,fun z hz=>h' z (by rw[dk];exact List.mem_cons_of_mem _ hz)⟩
           ·exact .inl (.inr hy)
          ·simp only[ts,Aox,i3,List.mem_singleton]
           constructor
           ·rintro((h | ⟨h,_⟩) | h)
            ·exact .inl (.inl h)
            ·cases h
            ·exact .inl (.inr h)
           ·rintro((h | h) | ⟨_,h⟩)
            ·exact .inl (.inl h)
            ·exact .inr h
            ·exact .inr (by rw[e];exact h)
        ·rw[Aop c1,cond_false,Bs (by omega)]
         refine⟨_,rfl,app i1 fun y hy=>((olt y hy).2 rfl).1,fun y hy=>?_,fun y=>?_,fun _ y hy=>?_,by simp;omega⟩
         ·rw[ts]
          simp only[Aox,List.mem_singleton]at hy ⊢
          rcases hy with hy | hy
          ·rcases i2 y hy with h | ⟨h,h'⟩
           ·exact .inl (.inl h)
           ·exact .inr ⟨h,fun z hz=>h' z (by rw[dk];exact List.mem_cons_of_mem _ hz)⟩
          ·exact .inl (.inr hy)
         ·simp only[ts,Aox,i3,List.mem_singleton]
          constructor
          ·rintro((h | ⟨h,_⟩) | h)
           ·exact .inl (.inl h)
           ·cases h
           ·exact .inl (.inr h)
          ·rintro((h | h) | ⟨h,_⟩)
           ·exact .inl (.inl h)
           ·exact .inr h
           ·cases h
         ·rw[ts]at hy
          rcases Aox.1 hy with hy | hy
          ·exact i4 rfl y hy
          ·simp at hy;subst hy;omega)
  rw[List.take_length]at h4 h5
  unfold Ql
  rw[h1]
  show ∃ r,(bif (!s.1)then _ else _)=some r∧_
  cases hd:s.1 with
  | true=>
    refine⟨s.2,rfl,h2,fun x=>?_⟩
    rw[h4,hd];simp
  | false=>
    rw[Bool.not_false,cond_true,Bs (by omega)]
    refine⟨_,rfl,?_,fun x=>?_⟩
    ·unfold Inc
     rw[List.pairwise_append]
     refine⟨h2,by simp,fun a ha b hb=>?_⟩
     simp at hb;subst hb
     rcases(h4 a).1 ha with h | ⟨h,_⟩
     ·exact h5 hd a h
     ·rw[hd]at h;cases h
    ·simp only[Aox,List.mem_singleton,h4,hd];simp
theorem Ae0 {l r:List Int} {n:Int} (h:Inc l) (hr:Inc r) (hm:∀ x,x∈r↔x∈l∨x=n) (hn:n∈l):r=l:=
  S0 hr h fun x=>by rw[hm];exact⟨fun h=>h.elim id fun h=>h ▸ hn,.inl⟩
theorem Ado {l r:List Int} {n:Int} (h:Inc l) (hr:Inc r) (hm:∀ x,x∈r↔x∈l∨x=n) (hn:n ∉ l):r.length=l.length+1:=by
  have h1:(n::l).Nodup:=List.nodup_cons.2 ⟨hn,h.nodup⟩
  have a:=Jv h1 (b:=r) fun x hx=>by rw[hm];rcases List.mem_cons.1 hx with h | h;exact .inr h;exact .inl h
  have b:=Jv hr.nodup (b:=n::l) fun x hx=>by rcases(hm x).1 hx with h | h;exact List.mem_cons_of_mem _ h;exact h ▸ List.mem_cons_self
  simp at a b;omega
theorem sY {l:List Ar} {f out:List Int} (h:Inc out) (hr:∀ n∈out,Rch l (·∈f) n) (hC:(f++l.map (·.To)).length≤1000000) :
    ∃ s,Al K4 0 l out=some (.next s)∧Inc s∧(∀ n∈s,Rch l (·∈f) n)∧(∀ n∈out,n∈s)∧((s=out∧∀ e∈l,e.From∈out→e.To∈out)∨out.length<s.length):=by
  obtain⟨s,h1,h2,h3,h4,h5⟩:=Eb (ρ:=Out (List Int×Int) (List Int)) (step:=K4) (l:=l) (s:=out) (fun k s=>Inc s∧(∀ n∈s,Rch l (·∈f) n)∧(∀ n∈out,n∈s)∧((s=out∧∀ e∈l.take k,e.From∈out→e.To∈out)∨out.length<s.length))
    ⟨h,hr,fun n h=>h,.inl ⟨rfl,by simp⟩⟩ (fun k e s hk ⟨i1,i2,i3,i4⟩=>by
      have he:=Aor hk
      unfold K4
      rw[kZ,Aos]
      have hlen:s.length≤1000000:=Nat.le_trans (Jv i1.nodup fun n hn=>Ta (i2 n hn)) hC
      by_cases hf:e.From∈s
      ·obtain⟨r,g1,g2,g3⟩:=put_eq i1 (by omega) e.To
       rw[Aoo hf,cond_true,g1]
       refine⟨r,rfl,g2,fun n hn=>?_,fun n hn=>(g3 n).2 (.inl (i3 n hn)),?_⟩
       ·rcases(g3 n).1 hn with h | rfl
        ·exact i2 n h
        ·exact .step he (i2 _ hf)
       ·by_cases ht:e.To∈s
        ·obtain rfl:=Ae0 i1 g2 g3 ht
         rcases i4 with⟨rfl,h⟩ | h
         ·refine .inl ⟨rfl,fun x hx=>?_⟩
          rw[Bi hk]at hx
          rcases Aox.1 hx with hx | hx
          ·exact h x hx
          ·simp at hx;subst hx;exact fun _=>ht
         ·exact .inr h
        ·have:=Ado i1 g2 g3 ht
         refine .inr ?_
         rcases i4 with⟨rfl,_⟩ | h<;>omega
      ·rw[Aop hf,cond_false]
       refine⟨s,rfl,i1,i2,i3,?_⟩
       rcases i4 with⟨rfl,h⟩ | h
       ·refine .inl ⟨rfl,fun x hx=>?_⟩
        rw[Bi hk]at hx
        rcases Aox.1 hx with hx | hx
        ·exact h x hx
        ·simp at hx;subst hx;exact fun h=>absurd h hf
       ·exact .inr h)
  rw[List.take_length]at h5
  exact⟨s,h1,h2,h3,h4,h5⟩
theorem pA {l:List Ar} {f:List Int} (hl:l.length≤100000) (hf:f.length≤100000):∃ r,K6 l f=some r∧Q9 l f r:=by
  have hC:(f++l.map (·.To)).length≤1000000:=by simp;omega
  obtain⟨s,h1,h2,h3⟩:=Eb (ρ:=List Int) (step:=Pc) (l:=f) (s:=[]) (fun k s=>Inc s∧∀ x,x∈s↔x∈f.take k) ⟨List.Pairwise.nil,by simp⟩ (fun k x s hk ⟨i1,i2⟩=>by
    have hlen:s.length≤100000:=Nat.le_trans (Jv i1.nodup (b:=f) fun n hn=>List.mem_of_mem_take ((i2 n).1 hn)) hf
    obtain⟨r,g1,g2,g3⟩:=put_eq i1 (by omega) x
    refine⟨r,by unfold Pc;rw[g1];rfl,g2,fun y=>?_⟩
    rw[g3,i2,Bi hk];simp)
  rw[List.take_length]at h3
  have s1:∀ n∈s,Rch l (·∈f) n:=fun n hn=>.base ((h3 n).1 hn)
  unfold K6
  rw[h1]
  show ∃ r,K3 l s=some r∧_
  unfold K3
  have hlen:∀ o:List Int,Inc o→(∀ n∈o,Rch l (·∈f) n)→o.length≤1000000:=fun o ho hr=>Nat.le_trans (Jv ho.nodup fun n hn=>Ta (hr n hn)) hC
  obtain⟨r,g1,g2⟩:=Hc (step:=K5 l) (fun st=>Inc st.1∧(∀ n∈st.1,Rch l (·∈f) n)∧(∀ n∈f,n∈st.1)∧st.2≤(st.1.length:Int)∧(st.2=(st.1.length:Int)→∀ e∈l,e.From∈st.1→e.To∈st.1)) (fun r=>Q9 l f r)
    (fun st=>2*(1000000 - st.1.length)+if st.2<(st.1.length:Int)then 1 else 0) (fun st ⟨i1,i2,i3,i4,i5⟩=>by
      obtain⟨o,w⟩:=st
      simp only at i1 i2 i3 i4 i5 ⊢
      unfold K5
      simp only
      by_cases hw:w<(o.length:Int)
      ·obtain⟨s,e1,e2,e3,e4,e5⟩:=sY i1 i2 hC
       rw[Aoo hw,cond_true,e1]
       have:=hlen s e2 e3
       have:=hlen o i1 i2
       refine .inl ⟨_,rfl,⟨e2,e3,fun n hn=>e4 n (i3 n hn),?_,fun hh=>?_⟩,?_⟩
       ·simp only
        rcases e5 with⟨rfl,_⟩ | h<;>omega
       ·rcases e5 with⟨rfl,h⟩ | h
        ·exact h
        ·simp only at hh;omega
       ·simp only
        rw[if_pos hw]
        rcases e5 with⟨rfl,_⟩ | h
        ·rw[if_neg (by omega)];omega
        ·rw[if_pos (by omega)];omega
      ·rw[Aop hw,cond_false]
       exact .inr ⟨o,rfl,.of_closed i1 i2 i3 (i5 (by omega))⟩) fuel (s, -1) ⟨h2,s1,fun n hn=>(h3 n).2 hn,by simp only;omega,fun h=>by simp only at h;omega⟩ (by show _<1099511627776;simp only;split<;>omega)
  rw[g1]
  exact⟨r,rfl,g2⟩
theorem wE {l:List Ar} (hl:l.length≤100000):Lv l=some (turn l):=by
  unfold Lv
  rw[Di (step:=Sa) (fun _=>true) dJ (by omega) (fun k x s hx=>rfl),List.filter_eq_self.2 (fun a _=>rfl)];rfl
theorem Abn {l:List Ar} {f:List Int} (hl:l.length≤100000) (hf:f.length≤100000):∃ r,T5 l f=some r∧Q9 (turn l) f r:=by
  obtain⟨r,h1,h2⟩:=pA (l:=turn l) (f:=f) (by simpa[turn]using hl) hf
  refine⟨r,?_,h2⟩
  unfold T5
  rw[wE hl,Aos,h1];rfl
theorem contains_eq (l:List Int) (v:Int):Bo l v=some (decide (v∈l)):=by
  unfold Bo Gm
  rcases E5 (step:=E6 v) (l:=l) (s:=()) (fun k _=>v ∉ l.take k) (fun r=>v∈l∧0≤r) (by simp) (fun k x u hk hI=>by
    unfold E6
    by_cases e:v=x
    ·rw[Aoo e];exact .inr ⟨_,rfl,e ▸ Aor hk,by omega⟩
    ·rw[Aop e]
     refine .inl ⟨(),rfl,?_⟩
     rw[Bi hk];simp[hI,e])with ⟨u,h1,h2⟩ | ⟨r,h1,h2,h3⟩
  ·rw[List.take_length]at h2
   rw[h1,Aop h2];rfl
  ·rw[h1,Aoo h2]
   show some (decide (0≤r))=some true
   rw[Aoo h3]
def Adh (x:Cn):Ar:=⟨x.ID,x.From,x.To,x.Length⟩
def x7 (x:Ck):Ar:=⟨x.ID,x.From,x.To,x.Length⟩
def Ud (m:Av) (runs:List Int):List Ar:=(m.Runs.filter fun x=>decide (x.ID∈runs)).map Adh
def upE (m:Av) (lifts:List Int):List Ar:=(m.Lifts.filter fun x=>decide (x.ID∈lifts)).map x7
theorem zP {m:Av} {runs:List Int} {e:Ar}:e∈Ud m runs↔∃ x∈m.Runs,x.ID∈runs∧Adh x=e:=by
  unfold Ud
  simp only[List.mem_map,List.mem_filter,decide_eq_true_eq,and_assoc]
theorem qX {m:Av} {lifts:List Int} {e:Ar}:e∈upE m lifts↔∃ x∈m.Lifts,x.ID∈lifts∧x7 x=e:=by
  unfold upE
  simp only[List.mem_map,List.mem_filter,decide_eq_true_eq,and_assoc]
theorem lA {m:Av} (M:Lh m) {n:Int} (h:(Df m n).2=true):1≤n∧n≤9999:=by
  obtain⟨h1,h2⟩:=cR h
  have:=(M.nodes _ h1).1
  rw[h2]at this;exact this
theorem nF {m:Av} (M:Lh m) {runs:List Int} {e:Ar} (h:e∈Ud m runs):(Df m e.From).2=true∧(Df m e.To).2=true∧10≤e.Cost∧e.Cost≤20000:=by
  obtain⟨x,hx,_,rfl⟩:=zP.1 h
  have:=M.runs x hx
  exact⟨this.2.2.1,this.2.1,this.1.2.2.2.2.1,this.1.2.2.2.2.2⟩
theorem Aa4 {m:Av} (M:Lh m) {lifts:List Int} {e:Ar} (h:e∈upE m lifts):(Df m e.From).2=true∧(Df m e.To).2=true:=by
  obtain⟨x,hx,_,rfl⟩:=qX.1 h
  have:=M.lifts x hx
  exact⟨this.2.1.1,this.2.1.2.1⟩
theorem eU {m:Av} (M:Lh m) (runs:List Int):(Ud m runs).length≤64:=by
  unfold Ud;rw[Aow];exact Nat.le_trans (List.length_filter_le _ _) M.lenR
theorem Aex {m:Av} (M:Lh m) (lifts:List Int):(upE m lifts).length≤32:=by
  unfold upE;rw[Aow];exact Nat.le_trans (List.length_filter_le _ _) M.lenL
theorem yE {m:Av} (M:Lh m) (runs:List Int):Iw m runs=some (Ud m runs):=by
  have:=M.lenR
  unfold Iw
  rw[Di (fun x=>decide (x.ID∈runs)) Adh (by omega) (fun k x s hx=>by unfold R7;rw[contains_eq];rfl)];rfl
theorem sV {m:Av} (M:Lh m) (runs:List Int):Nq m runs=some (Ud m runs):=by
  have:=M.lenR
  unfold Nq
  rw[Di (fun x=>decide (x.ID∈runs)) Adh (by omega) (fun k x s hx=>by unfold Vr;rw[kZ];rfl)];rfl
theorem Afp {m:Av} (M:Lh m) (lifts:List Int):P8 m lifts=some (upE m lifts):=by
  have:=M.lenL
  unfold P8
  rw[Di (fun x=>decide (x.ID∈lifts)) x7 (by omega) (fun k x s hx=>by unfold Vh;rw[contains_eq];rfl)];rfl
def J0 (a b:List Ar):Prop:=a.map (fun e=>(e.From,e.To))=b.map (fun e=>(e.From,e.To))
theorem J0.rch {a b:List Ar} (h:J0 a b) {S:Int→Prop} {n:Int} (hr:Rch a S n):Rch b S n:=by
  induction hr with
  | base h=>exact .base h
  | @step e he _ ih=>
    have:(e.From,e.To)∈a.map fun e=>(e.From,e.To):=List.mem_map.2 ⟨e,he,rfl⟩
    rw[h]at this
    obtain⟨e',uf,hh⟩:=List.mem_map.1 this
    rw[Prod.mk.injEq]at hh
    rw[← hh.2]
    exact .step uf (by rw[hh.1];exact ih)
theorem J0.turn {a b:List Ar} (h:J0 a b):J0 (turn a) (turn b):=by
  unfold J0 Proofs.YtjopghiagoidgaaGreat.turn at *
  rw[List.map_map,List.map_map]
  have e:∀ l:List Ar,l.map ((fun e:Ar=>(e.From,e.To))∘dJ)=(l.map fun e=>(e.From,e.To)).map Prod.swap:=fun l=>by rw[List.map_map];rfl
  rw[e,e,h]
theorem iB (l s:List Ar) (hl:s.length+l.length≤100000):∃ s',Al Oi 0 l s=some (.next s')∧J0 s' (s++l):=by
  obtain⟨s',h1,h2⟩:=Eb (ρ:=Out (List Ar) (List Ar)) (step:=Oi) (l:=l) (s:=s) (fun k t=>J0 t (s++l.take k)) (by simp[J0]) (fun k e t hk hI=>by
    have ah:=(Aoz.1 hk).1
    have hlen:=congrArg List.length hI
    simp at hlen
    refine⟨_,by unfold Oi;rw[Bs (by omega)],?_⟩
    unfold J0 at *
    rw[Bi hk,← List.append_assoc,List.map_append,List.map_append,hI];rfl)
  rw[List.take_length]at h2
  exact⟨s',h1,h2⟩
theorem J0.len {a b:List Ar} (h:J0 a b):a.length=b.length:=by
  have:=congrArg List.length h;simpa using this
theorem Af6 {a b:List Ar} (ha:a.length≤1000) (hb:b.length≤1000):∃ r,Nz [a,b]=some r∧J0 r (a++b):=by
  obtain⟨s1,h1,h2⟩:=iB a [] (by simp;omega)
  have l1:=h2.len
  simp at l1
  obtain⟨s2,h3,h4⟩:=iB b s1 (by omega)
  refine⟨s2,?_,?_⟩
  ·unfold Nz Al Ss
   rw[h1]
   simp only[Aos,Out.on,Out.cont,Al,h3]
  ·unfold J0 at *
   rw[h4,List.map_append,h2,List.nil_append,List.map_append]
theorem Af7 {a:List Ar} (ha:a.length≤1000):∃ r,Nz [a]=some r∧J0 r a:=by
  obtain⟨s1,h1,h2⟩:=iB a [] (by simp;omega)
  refine⟨s1,?_,by simpa using h2⟩
  unfold Nz Al Ss
  rw[h1];rfl
def RR (m:Av) (lifts runs:List Int) (n:Int):Prop:=Rch (upE m lifts++Ud m runs) (·∈m.Bases) n
def HH (m:Av) (runs:List Int) (n:Int):Prop:=Rch (turn (Ud m runs)) (·∈m.Bases) n
structure Xt (P:Int→Prop) (r:List Int):Prop where
  inc:Inc r
  mem:∀ n,n∈r↔P n
theorem Xt.unique {P:Int→Prop} {r r':List Int} (h:Xt P r) (h':Xt P r'):r=r':=S0 h.inc h'.inc fun n=>by rw[h.mem,h'.mem]
theorem yJ {m:Av} (M:Lh m):∀ n∈m.Bases,I64 n:=fun n hn=>by have:=lA M (M.bases n hn);exact⟨by omega,by omega⟩
theorem qQ {m:Av} (M:Lh m) (lifts runs:List Int):∃ r,Hs m lifts runs=some r∧Xt (RR m lifts runs) r:=by
  have hb:=M.lenB
  have h1:=Aex M lifts
  have h2:=eU M runs
  obtain⟨j,e1,e2⟩:=Af6 (a:=upE m lifts) (b:=Ud m runs) (by omega) (by omega)
  have hl:=e2.len
  rw[Aou]at hl
  obtain⟨r,e3,e4⟩:=sU (l:=j) (f:=m.Bases) (by omega) (by omega) (fun e he=>by
    have:(e.From,e.To)∈j.map fun e=>(e.From,e.To):=List.mem_map.2 ⟨e,he,rfl⟩
    rw[e2]at this
    obtain⟨e',uf,hh⟩:=List.mem_map.1 this
    rw[Prod.mk.injEq]at hh
    rw[← hh.2]
    rcases Aox.1 uf with uf | uf
    ·have:=lA M (Aa4 M uf).2;exact⟨by omega,by omega⟩
    ·have:=lA M (nF M uf).2.1;exact⟨by omega,by omega⟩) (yJ M)
  refine⟨r,?_,e4.inc,fun n=>?_⟩
  ·unfold Hs
   rw[Afp M,Aos,yE M,Aos,e1,Aos,e3];rfl
  ·rw[e4.mem];exact⟨fun h=>e2.rch h,fun h=>J0.rch e2.symm h⟩
theorem nV {m:Av} (M:Lh m) (lifts runs:List Int):∃ r,Jn m lifts runs=some r∧Xt (RR m lifts runs) r:=by
  have hb:=M.lenB
  have hL:=M.lenL
  have h2:=eU M runs
  obtain⟨s,g1,g2⟩:=Eb (ρ:=List Int) (step:=Iy lifts) (l:=m.Lifts) (s:=Ud m runs) (fun k s=>s=Ud m runs++((m.Lifts.take k).filter fun x=>decide (x.ID∈lifts)).map fun x=>Ar.mk 0 x.From x.To 0) (by simp) (fun k x s hk hI=>by
    have ah:=(Aoz.1 hk).1
    have hlen:s.length≤1000:=by
      rw[hI,Aou,Aow]
      have:=List.length_filter_le (fun x:Ck=>decide (x.ID∈lifts)) (m.Lifts.take k)
      rw[List.length_take]at this;omega
    unfold Iy
    rw[kZ,Aos]
    by_cases hx:x.ID∈lifts
    ·rw[Aoo hx,cond_true,Bs (by omega)]
     refine⟨_,rfl,?_⟩
     rw[Bi hk,List.filter_append,List.filter_cons_of_pos (by simpa using hx),List.filter_nil,List.map_append,hI];simp
    ·rw[Aop hx,cond_false]
     refine⟨_,rfl,?_⟩
     rw[Bi hk,List.filter_append,List.filter_cons_of_neg (by simpa using hx),List.filter_nil,List.append_nil,hI])
  rw[List.take_length]at g2
  have hlen:s.length≤1000:=by
    rw[g2,Aou,Aow]
    have:=List.length_filter_le (fun x:Ck=>decide (x.ID∈lifts)) m.Lifts
    omega
  obtain⟨r,e3,e4⟩:=pA (l:=s) (f:=m.Bases) (by omega) (by omega)
  refine⟨r,?_,e4.inc,fun n=>?_⟩
  ·unfold Jn
   rw[sV M,Aos,Bs (by omega),g1]
   show(K6 s m.Bases).bind _=_
   rw[e3];rfl
  ·rw[e4.mem]
   constructor
   ·intro h
    refine J0.rch (a:=upE m lifts++Ud m runs) rfl ?_
    induction h with
    | base h=>exact .base h
    | step he _ ih=>
      rw[g2]at he
      rcases Aox.1 he with he | he
      ·exact .step (Aox.2 (.inr he)) ih
      ·obtain⟨x,hx,rfl⟩:=List.mem_map.1 he
       have hx:=List.mem_filter.1 hx
       exact Rch.step (e:=x7 x) (Aox.2 (.inl (qX.2 ⟨x,hx.1,by simpa using hx.2,rfl⟩))) ih
   ·intro h
    unfold RR at h
    induction h with
    | base h=>exact .base h
    | step he _ ih=>
      rcases Aox.1 he with he | he
      ·obtain⟨x,hx,hi,rfl⟩:=qX.1 he
       refine Rch.step (e:=Ar.mk 0 x.From x.To 0) ?_ ih
       rw[g2]
       exact Aox.2 (.inr (List.mem_map.2 ⟨x,List.mem_filter.2 ⟨hx,by simpa using hi⟩,rfl⟩))
      ·exact Rch.step (by rw[g2];exact Aox.2 (.inl he)) ih
theorem Ad0 {m:Av} (M:Lh m) (runs:List Int):∃ r,S7 m runs=some r∧Xt (HH m runs) r:=by
  have hb:=M.lenB
  have h2:=eU M runs
  obtain⟨j,e1,e2⟩:=Af7 (a:=Ud m runs) (by omega)
  have hl:=e2.len
  obtain⟨r,e3,e4⟩:=sU (l:=turn j) (f:=m.Bases) (by simp[turn];omega) (by omega) (fun e he=>by
    have he:=Abv.1 he
    have:((dJ e).From,(dJ e).To)∈j.map fun e=>(e.From,e.To):=List.mem_map.2 ⟨_,he,rfl⟩
    rw[e2]at this
    obtain⟨e',uf,hh⟩:=List.mem_map.1 this
    rw[Prod.mk.injEq]at hh
    have:e.To=e'.From:=hh.1.symm
    rw[this]
    have:=lA M (nF M uf).1;exact⟨by omega,by omega⟩) (yJ M)
  refine⟨r,?_,e4.inc,fun n=>?_⟩
  ·unfold S7
   rw[yE M,Aos,e1,Aos,back_eq (by omega),e3];rfl
  ·rw[e4.mem];exact⟨fun h=>e2.turn.rch h,fun h=>J0.rch e2.turn.symm h⟩
theorem sJ {m:Av} (M:Lh m) (runs:List Int):∃ r,Nr m runs=some r∧Xt (HH m runs) r:=by
  have hb:=M.lenB
  have h2:=eU M runs
  obtain⟨r,e3,e4⟩:=Abn (l:=Ud m runs) (f:=m.Bases) (by omega) (by omega)
  refine⟨r,?_,e4.inc,e4.mem⟩
  unfold Nr
  rw[sV M,Aos,e3];rfl
theorem vZ {α:Type} {idf:α→Int} {l:List α} (h:Ie idf l) {a b:α} (ha:a∈l) (hb:b∈l) (e:idf a=idf b):a=b:=by
  have key:∀ (d i:Nat) (hj:i+d+1<l.length),idf (l[i]'(by omega))<idf l[i+d+1]:=by
    intro d
    induction d with
    | zero=>
      intro i hj
      exact h i _ _ (Aoq (by omega)) (Aoq (by omega))
    | succ d ih=>
      intro i hj
      have h1:=ih i (by omega)
      have h2:=h (i+d+1) l[i+(d+1)+1] l[i+d+1] (by rw[Aoq (by omega)];rfl) (Aoq (by omega))
      omega
  obtain⟨i,hi,rfl⟩:=List.getElem_of_mem ha
  obtain⟨j,hj,rfl⟩:=List.getElem_of_mem hb
  rcases Nat.lt_trichotomy i j with h1 | h1 | h1
  ·have:=key (j - i - 1) i (by omega)
   simp only[show i+(j - i - 1)+1=j by omega]at this;omega
  ·subst h1;rfl
  ·have:=key (i - j - 1) j (by omega)
   simp only[show j+(i - j - 1)+1=i by omega]at this;omega
end Go.Proofs.YtjopghiagoidgaaGreat
namespace Go.Proofs.YtjopghiagoidgaaGreat.W46
open Go Go.Ab
set_option linter.unusedSimpArgs false
set_option linter.unusedVariables false
theorem yR {a:Int} (h0:0≤a) (h1:a≤4611686018427387904):IntKind.i64.wrap (lP (IntKind.u64.wrap (IntKind.i64.wrap a)) 1)=a / 2:=by
  have e1:IntKind.i64.wrap a=a:=by rw[wrap_i64]<;>omega
  have e2:IntKind.u64.wrap a=a:=by rw[IntKind.wrap_u64];omega
  have e3:lP a 1=a / 2:=by unfold lP;simp
  rw[e1,e2,e3,wrap_i64]<;>omega
theorem Adv (x y:Int):cmp_Less_int x y=some (decide (x<y)):=rfl
theorem aH {xs:List Int} (hi:Inc xs) {i j:Nat} {x y:Int} (hx:xs[i]? =some x) (hy:xs[j]? =some y) (h:i<j):x<y:=by
  obtain⟨h1,rfl⟩:=Aoz.1 hx
  obtain⟨h2,rfl⟩:=Aoz.1 hy
  exact(List.pairwise_iff_getElem.1 hi) i j h1 h2 h
theorem y0 {xs:List Int} (hi:Inc xs) (hl:xs.length≤549755813888) (t:Int):∃ i,Dw xs t=some (i,decide (t∈xs)):=by
  obtain⟨r,h1,h2⟩:=Hc (step:=Dk xs t)
    (fun s=>0≤s.1∧s.1≤s.2∧s.2≤xs.length∧(∀ (k:Nat) x,(k:Int)<s.1→xs[k]? =some x→x<t)∧(∀ (k:Nat) x,s.2≤(k:Int)→xs[k]? =some x→t≤x))
    (fun r=>r.2=decide (t∈xs)) (fun s=>(s.2 - s.1).toNat) (by
      rintro⟨i,j⟩ ⟨h0,h1,h2,h3,h4⟩
      dsimp only at h0 h1 h2 h3 h4
      unfold Dk
      dsimp only
      by_cases qg:i<j
      ·rw[Aoo qg,cond_true,yR (by omega) (by omega)]
       have hm:((i+j) / 2).toNat<xs.length:=by omega
       have hmm:(i+j) / 2=(((i+j) / 2).toNat:Int):=by omega
       have hx:xs[((i+j) / 2).toNat]? =some xs[((i+j) / 2).toNat]:=Aoq hm
       generalize xs[((i+j) / 2).toNat]=x at hx
       rw[S1 hmm hx,Aos,Adv,Aos]
       by_cases ah:x<t
       ·rw[Aoo ah,cond_true,wrap_i64 (by omega) (by omega)]
        refine .inl ⟨_,rfl,⟨by dsimp only;omega,by dsimp only;omega,h2,fun k y hk hy=>?_,h4⟩,by dsimp only;omega⟩
        dsimp only at hk
        by_cases e:k=((i+j) / 2).toNat
        ·subst e;rw[hx]at hy;obtain rfl:=Aoy hy;exact ah
        ·have:=aH hi hy hx (by omega);omega
       ·rw[Aop ah,cond_false]
        refine .inl ⟨_,rfl,⟨h0,by dsimp only;omega,by dsimp only;omega,h3,fun k y hk hy=>?_⟩,by dsimp only;omega⟩
        dsimp only at hk
        by_cases e:k=((i+j) / 2).toNat
        ·subst e;rw[hx]at hy;obtain rfl:=Aoy hy;omega
        ·have:=aH hi hx hy (by omega);omega
      ·rw[Aop qg,cond_false]
       have e:j=i:=by omega
       subst e
       right
       by_cases hlen:j<(xs.length:Int)
       ·rw[Aoo hlen,cond_true]
        have hjj:j=(j.toNat:Int):=by omega
        have hx:xs[j.toNat]? =some xs[j.toNat]:=Aoq (by omega)
        generalize xs[j.toNat]=x at hx
        rw[S1 hjj hx,Aos]
        by_cases hxt:x=t
        ·rw[Aoo hxt,cond_true]
         subst hxt
         exact⟨_,rfl,(Aoo (Aor hx)).symm⟩
        ·rw[Aop hxt,cond_false]
         refine⟨_,rfl,(Aop fun hm=>?_).symm⟩
         obtain⟨k,hk⟩:=List.mem_iff_getElem?.1 hm
         by_cases h5:(k:Int)<j
         ·have:=h3 k t h5 hk;omega
         ·have h6:=h4 j.toNat x (by omega) hx
          by_cases e:k=j.toNat
          ·subst e;rw[hx]at hk;exact hxt (Aoy hk)
          ·have:=aH hi hx hk (by omega);omega
       ·rw[Aop hlen,cond_false]
        refine⟨_,rfl,(Aop fun hm=>?_).symm⟩
        obtain⟨k,hk⟩:=List.mem_iff_getElem?.1 hm
        have:=(Aoz.1 hk).1
        have:=h3 k t (by omega) hk;omega)
    fuel (0,(xs.length:Int)) ⟨by simp,by simp,by simp,fun k x hk _=>by simp at hk;omega,fun k x hk hx=>by have:=(Aoz.1 hx).1;simp at hk;omega⟩ (by unfold fuel;simp;omega)
  refine⟨r.1,?_⟩
  unfold Dw
  rw[h1,← h2];rfl
theorem yW {w:Am} (hi:Inc w.Runs) (hl:w.Runs.length≤549755813888) (n:Int):Og w n=some (decide (n∈w.Runs)):=by
  obtain⟨i,h⟩:=y0 hi hl n
  unfold Og;rw[h];rfl
structure nP (l:List Int):Prop where
  ne:l≠[]
  inc:Inc l
  lo:∀ x∈l,1≤x
  hi:∀ x∈l,x≤9999
theorem wU {l:List Int} (h:∀ (k:Nat) (x y:Int),l[k+1]? =some x→l[k]? =some y→y<x):Inc l:=by
  unfold Inc
  rw[List.pairwise_iff_getElem]
  have key:∀ (d i:Nat) (hj:i+d+1<l.length),l[i]'(by omega)<l[i+d+1]:=by
    intro d
    induction d with
    | zero=>
      intro i hj
      exact h i _ _ (Aoq (by omega)) (Aoq (by omega))
    | succ d ih=>
      intro i hj
      have h1:=ih i (by omega)
      have h2:=h (i+d+1) l[i+(d+1)+1] l[i+d+1] (by rw[Aoq (by omega)];rfl) (Aoq (by omega))
      omega
  intro i j hi hj ah
  have:=key (j - i - 1) i (by omega)
  simpa[show i+(j - i - 1)+1=j by omega]using this
theorem xY {l:List Int} (hl:l.length≤9223372036854775807):∃ b,Qi l=some b∧(b=true↔nP l):=by
  unfold Qi
  rcases E5 (step:=Q2 l) (l:=l) (s:=()) (fun k _=>∀ (i:Nat) x,i<k→l[i]? =some x→1≤x∧x≤9999∧∀ y,0<i→l[i - 1]? =some y→y<x) (fun r=>r=false∧¬ nP l)
    (fun i x h=>by omega) (fun k x u hk hI=>by
      have ah:=(Aoz.1 hk).1
      unfold Q2
      by_cases h1:x<1
      ·rw[Aoo h1]
       exact .inr ⟨_,rfl,rfl,fun h=>by have:=h.lo x (Aor hk);omega⟩
      rw[Aop h1,cond_false]
      by_cases h2:9999<x
      ·rw[Aoo h2]
       exact .inr ⟨_,rfl,rfl,fun h=>by have:=h.hi x (Aor hk);omega⟩
      rw[Aop h2,cond_false]
      by_cases h3:(0:Int)<(k:Int)
      ·rw[Aoo h3,cond_true,S4 (by omega) (by omega)]
       have hy:l[k - 1]? =some l[k - 1]:=Aoq (by omega)
       generalize l[k - 1]=y at hy
       rw[Cm hy,Aos]
       by_cases h4:x≤y
       ·rw[Aoo h4]
        refine .inr ⟨_,rfl,rfl,fun h=>?_⟩
        have:=aH h.inc hy hk (by omega);omega
       ·rw[Aop h4]
        refine .inl ⟨_,rfl,fun i z hi hz=>?_⟩
        by_cases e:i=k
        ·subst e;rw[hk]at hz;obtain rfl:=Aoy hz
         exact⟨by omega,by omega,fun y' _ tp=>by rw[hy]at tp;obtain rfl:=Aoy tp;omega⟩
        ·exact hI i z (by omega) hz
      ·rw[Aop h3]
       refine .inl ⟨_,rfl,fun i z hi hz=>?_⟩
       have e:i=k:=by omega
       subst e;rw[hk]at hz;obtain rfl:=Aoy hz
       exact⟨by omega,by omega,fun y' h _=>by omega⟩)with ⟨s',h1,h2⟩ | ⟨r,h1,rfl,h2⟩
  ·rw[h1]
   refine⟨_,rfl,?_⟩
   rw[decide_eq_true_eq]
   have iy:∀ x∈l,1≤x∧x≤9999:=fun x hx=>by
     obtain⟨i,hi⟩:=List.mem_iff_getElem?.1 hx
     have:=h2 i x (Aoz.1 hi).1 hi
     exact⟨this.1,this.2.1⟩
   constructor
   ·intro h
    refine⟨fun e=>by rw[e]at h;simp at h,wU fun k x y hx hy=>?_,fun x hx=>(iy x hx).1,fun x hx=>(iy x hx).2⟩
    exact(h2 (k+1) x (Aoz.1 hx).1 hx).2.2 y (by omega) (by simpa using hy)
   ·intro h
    have:=List.length_pos_iff.2 h.ne
    omega
  ·rw[h1]
   exact⟨false,rfl,by simp[h2]⟩
theorem mO {l:List Int} (h:Inc l) (lo:∀ x∈l,1≤x):∀ (k:Nat) (x:Int),l[k]? =some x→(k:Int)+1≤x
  | 0,x,hx=>by have:=lo x (Aor hx);omega
  | k+1,x,hx=>by
    have ah:=(Aoz.1 hx).1
    have hy:l[k]? =some l[k]:=Aoq (by omega)
    have h1:=mO h lo k _ hy
    have h2:=aH h hy hx (by omega)
    omega
theorem nP.len {l:List Int} (h:nP l):l.length≤9999:=by
  by_cases e:l.length=0
  ·omega
  ·have hx:l[l.length - 1]? =some (l[l.length - 1]'(by omega)):=Aoq (by omega)
   have h1:=mO h.inc h.lo _ _ hx
   have h2:=h.hi _ (Aor hx)
   omega
theorem aB (l:List Int):Sr l=Qi l:=rfl
theorem has_eq (l:List Int) (n:Int):S9 l n=some (decide (n∈l)):=by
  unfold S9
  exact Zb fun k x hx=>rfl
def clash (a b:Am):Bool:=decide (a.From<b.To)&&decide (b.From<a.To)&&(decide (a.Groomer=b.Groomer)||a.Runs.any fun x=>decide (x∈b.Runs))
theorem oZ (a b:Am):Rn a b=some (clash a b):=by
  unfold Rn clash
  by_cases h1:b.To≤a.From
  ·rw[Aoo h1,Aop (show ¬ a.From<b.To by omega)];rfl
  rw[Aop h1,Aoo (show a.From<b.To by omega),cond_false]
  by_cases h2:a.To≤b.From
  ·rw[Aoo h2,Aop (show ¬ b.From<a.To by omega)];rfl
  rw[Aop h2,Aoo (show b.From<a.To by omega),cond_false]
  rw[Fz (step:=O2 b) (fun x=>decide (x∈b.Runs)) (fun _=>true) (fun k x hx=>by unfold O2;rw[has_eq];rfl)]
  cases hf:a.Runs.find? fun x=>decide (x∈b.Runs)with
  | some x=>
    have:(a.Runs.any fun x=>decide (x∈b.Runs))=true:=List.any_eq_true.2 ⟨x,List.mem_of_find?_eq_some hf,List.find?_some (p:=fun x=>decide (x∈b.Runs)) hf⟩
    rw[this];simp[Out.on]
  | none=>
    have:(a.Runs.any fun x=>decide (x∈b.Runs))=false:=List.any_eq_false.2 fun x hx=>by simpa using List.find?_eq_none.1 hf x hx
    rw[this];simp[Out.on]
theorem uT {a b:Am} (hi:Inc b.Runs) (hl:b.Runs.length≤549755813888):J9 a b=some (clash a b):=by
  unfold J9 clash
  by_cases h1:b.To≤a.From
  ·rw[Aoo h1,Aop (show ¬ a.From<b.To by omega)];rfl
  rw[Aop h1,Aoo (show a.From<b.To by omega),cond_false]
  by_cases h2:a.To≤b.From
  ·rw[Aoo h2,Aop (show ¬ b.From<a.To by omega)];rfl
  rw[Aop h2,Aoo (show b.From<a.To by omega),cond_false]
  by_cases h3:a.Groomer=b.Groomer
  ·rw[Aoo h3];rfl
  rw[Aop h3,cond_false]
  rw[Fz (step:=J1 b) (fun x=>decide (x∈b.Runs)) (fun _=>true) (fun k x hx=>by
   unfold J1;rw[yW hi hl,Aos,Aoo (show(0:Int)≤(k:Int) by omega)])]
  cases hf:a.Runs.find? fun x=>decide (x∈b.Runs)with
  | some x=>
    have:(a.Runs.any fun x=>decide (x∈b.Runs))=true:=List.any_eq_true.2 ⟨x,List.mem_of_find?_eq_some hf,List.find?_some (p:=fun x=>decide (x∈b.Runs)) hf⟩
    rw[this];simp[Out.on]
  | none=>
    have:(a.Runs.any fun x=>decide (x∈b.Runs))=false:=List.any_eq_false.2 fun x hx=>by simpa using List.find?_eq_none.1 hf x hx
    rw[this];simp[Out.on]
structure Adb (w:Am):Prop where
  g1:1≤w.Groomer
  g2:w.Groomer≤9999
  f0:0≤w.From
  ft:w.From<w.To
  t1:w.To≤20000000
  runs:nP w.Runs
structure lJ (l:List Am):Prop where
  len:l.length≤16
  rope:∀ w∈l,Adb w
  apart:l.Pairwise fun a b=>clash a b=false
theorem Ab9 {l:List Am} {x:Am} {k:Nat} (hk:k≤l.length) (hl:l.length≤16) :
    (J8 (Ep l x) k ()=some (.next ())∧∀ (j:Nat) w,j<k→l[j]? =some w→clash w x=false)∨(J8 (Ep l x) k ()=some (.ret (.ret 15))∧∃ (j:Nat) (w:Am),j<k∧l[j]? =some w∧clash w x=true):=by
  rcases Zh (n:=k) (step:=Ep l x) (s:=()) (by omega) (fun i _=>∀ (j:Nat) w,j<i→l[j]? =some w→clash w x=false) (fun r=>r= .ret 15∧∃ (j:Nat) (w:Am),j<k∧l[j]? =some w∧clash w x=true)
    (fun j w h=>by omega) (fun i s hi hI=>by
      have hw:l[i]? =some l[i]:=Aoq (by omega)
      generalize l[i]=w at hw
      unfold Ep
      rw[Cm hw,Aos,oZ,Aos]
      cases hc:clash w x with
      | true=>exact .inr ⟨_,rfl,rfl,i,w,hi,hw,hc⟩
      | false=>
        refine .inl ⟨(),rfl,fun j w' hj zw=>?_⟩
        by_cases e:j=i
        ·subst e;rw[hw]at zw;obtain rfl:=Aoy zw;exact hc
        ·exact hI j w' (by omega) zw)with ⟨s',h1,h2⟩ | ⟨r,h1,rfl,h2⟩
  ·exact .inl ⟨h1,h2⟩
  ·exact .inr ⟨h1,h2⟩
theorem step_eq {l:List Am} {x:Am} {k:Nat} (hk:l[k]? =some x) (hl:l.length≤16) (hr:x.Runs.length≤9223372036854775807):Kb l k x ()=Gc l k x ():=by
  have ah:=(Aoz.1 hk).1
  unfold Kb Gc
  obtain⟨b,hb,hbr⟩:=xY hr
  rw[aB,hb,Aos,Aos]
  cases b with
  | false=>rfl
  | true=>
    have xy:=(hbr.1 rfl).inc
    have ij:J8 (Ka l k x) k ()=J8 (Ep l x) k ():=by
      unfold J8
      rw[if_pos (by omega),if_pos (by omega)]
      refine L6 fun i u s hi=>?_
      have hik:i<k:=Vx hi
      have hw:l[i]? =some l[i]:=Aoq (by omega)
      generalize l[i]=w at hw
      have zw:(l.take k)[i]? =some w:=by rw[List.getElem?_take,if_pos hik];exact hw
      unfold Ka Ep
      rw[Cm hw,Cm zw,Aos,Aos,uT xy (by have:=(hbr.1 rfl).len;omega),oZ,Aoo (show(0:Int)≤(i:Int) by omega)]
      cases clash w x<;>rfl
    rw[ij,Ns (show(0:Int)≤(k:Int)∧(k:Int)≤(l.length:Int) by omega)]
theorem sI {l:List Am} (hr:∀ w∈l,w.Runs.length≤9223372036854775807):∃ e,N7 l=some e∧Rb l=some e∧(e=0↔lJ l):=by
  unfold Rb N7
  by_cases h16:(16:Int)<(l.length:Int)
  ·rw[Aoo h16]
   exact⟨4,rfl,rfl,by simp,fun h=>by have:=h.len;omega⟩
  rw[Aop h16,cond_false,cond_false]
  rw[L6 (step:=Kb l) (step':=Gc l) fun i x s hi=>step_eq hi (by omega) (hr x (Aor hi))]
  rcases E5 (step:=Gc l) (l:=l) (s:=()) (fun k _=>∀ (i:Nat) w,i<k→l[i]? =some w→Adb w∧∀ (j:Nat) v,j<i→l[j]? =some v→clash v w=false) (fun r=>r≠0∧¬ lJ l)
    (fun i w h=>by omega) (fun k x u hk hI=>by
      have ah:=(Aoz.1 hk).1
      have iy:=Aor hk
      unfold Gc
      by_cases h1:x.Groomer<1
      ·rw[Aoo h1];exact .inr ⟨_,rfl,by simp,fun h=>by have:=(h.rope x iy).g1;omega⟩
      rw[Aop h1,cond_false]
      by_cases h2:9999<x.Groomer
      ·rw[Aoo h2];exact .inr ⟨_,rfl,by simp,fun h=>by have:=(h.rope x iy).g2;omega⟩
      rw[Aop h2,cond_false]
      by_cases h3:x.From<0
      ·rw[Aoo h3];exact .inr ⟨_,rfl,by simp,fun h=>by have:=(h.rope x iy).f0;omega⟩
      rw[Aop h3,cond_false]
      by_cases h4:x.To≤x.From
      ·rw[Aoo h4];exact .inr ⟨_,rfl,by simp,fun h=>by have:=(h.rope x iy).ft;omega⟩
      rw[Aop h4,cond_false]
      by_cases h5:20000000<x.To
      ·rw[Aoo h5];exact .inr ⟨_,rfl,by simp,fun h=>by have:=(h.rope x iy).t1;omega⟩
      rw[Aop h5,cond_false]
      obtain⟨b,hb,hbr⟩:=xY (hr x iy)
      rw[hb,Aos]
      cases b with
      | false=>exact .inr ⟨1,rfl,by simp,fun h=>by have:=hbr.2 (h.rope x iy).runs;cases this⟩
      | true=>
        rcases Ab9 (l:=l) (x:=x) (k:=k) (by omega) (by omega)with ⟨h6,h7⟩ | ⟨h6,j,w,hj,hw,hc⟩
        ·refine .inl ⟨(),by rw[h6];rfl,fun i w hi hw=>?_⟩
         by_cases e:i=k
         ·subst e;rw[hk]at hw;obtain rfl:=Aoy hw
          exact⟨⟨by omega,by omega,by omega,by omega,by omega,hbr.1 rfl⟩,h7⟩
         ·exact hI i w (by omega) hw
        ·refine .inr ⟨15,by rw[h6];rfl,by simp,fun h=>?_⟩
         obtain⟨h8,rfl⟩:=Aoz.1 hw
         obtain⟨h9,rfl⟩:=Aoz.1 hk
         have:=(List.pairwise_iff_getElem.1 h.apart) j k h8 h9 hj
         rw[this]at hc;cases hc)with ⟨s',h1,h2⟩ | ⟨r,h1,h2,h3⟩
  ·rw[h1]
   refine⟨0,rfl,rfl,fun _=>?_,fun _=>rfl⟩
   refine⟨by omega,fun w hw=>?_,?_⟩
   ·obtain⟨i,hi⟩:=List.mem_iff_getElem?.1 hw
    exact(h2 i w (Aoz.1 hi).1 hi).1
   ·rw[List.pairwise_iff_getElem]
    intro i j hi hj qg
    exact(h2 j _ hj (Aoq hj)).2 i _ qg (Aoq hi)
  ·rw[h1]
   exact⟨r,rfl,rfl,fun e=>absurd e h2,fun h=>absurd h h3⟩
structure Few (l:List Am):Prop where
  len:l.length≤40
  runs:∀ w∈l,w.Runs.length≤10000
def atT (l:List Am) (t:Int):List Am:=l.filter fun w=>decide (w.From≤t)&&decide (t<w.To)
def Kg (l:List Am) (t:Int):List Int:=(atT l t).flatMap (·.Runs)
theorem qY {l:List Am} {t:Int} {w:Am}:w∈atT l t↔w∈l∧w.From≤t∧t<w.To:=by simp[atT]
theorem W9 {l:List Am} {t n:Int}:n∈Kg l t↔∃ w∈l,(w.From≤t∧t<w.To)∧n∈w.Runs:=by
  unfold Kg
  rw[List.mem_flatMap]
  constructor
  ·rintro⟨w,hw,hn⟩;exact⟨w,(qY.1 hw).1,(qY.1 hw).2,hn⟩
  ·rintro⟨w,hw,ht,hn⟩;exact⟨w,qY.2 ⟨hw,ht⟩,hn⟩
theorem mM {l:List Am} {t:Int} (h:∀ w∈l,w.Runs.length≤10000):(Kg l t).length≤10000*l.length:=by
  induction l with
  | nil=>simp[Kg,atT]
  | cons w l ih=>
    have ih:=ih fun w hw=>h w (List.mem_cons_of_mem _ hw)
    have hw:=h w (by simp)
    unfold Kg atT at ih ⊢
    rw[List.filter_cons]
    split
    ·rw[List.flatMap_cons,Aou,List.length_cons];omega
    ·rw[List.length_cons];omega
theorem sD (l:List Am) (x:Am) (t:Int):Kg (l++[x]) t=if x.From≤t∧t<x.To then Kg l t++x.Runs else Kg l t:=by
  unfold Kg atT
  rw[List.filter_append]
  by_cases h:x.From≤t∧t<x.To
  ·rw[if_pos h,List.filter_cons_of_pos (by simp[h]),List.filter_nil,List.flatMap_append];simp
  ·rw[if_neg h,List.filter_cons_of_neg (by simpa using h),List.filter_nil,List.append_nil]
theorem Aba {l:List Am} (h:Few l) (t:Int):Ra l t=some (norm (Kg l t)):=by
  unfold Ra
  obtain⟨s',h1,h2⟩:=Eb (step:=Oh t) (l:=l) (s:=[]) (fun k s=>s=Kg (l.take k) t) (by simp[Kg,atT]) (fun k x s hk hI=>by
    have ah:=(Aoz.1 hk).1
    have hlen:s.length≤10000*k:=by
      rw[hI]
      have:=mM (l:=l.take k) (t:=t) fun w hw=>h.runs w (List.mem_of_mem_take hw)
      rw[List.length_take]at this;omega
    have hx:=h.runs x (Aor hk)
    have hl:=h.len
    rw[Bi hk,sD]
    unfold Oh
    by_cases h1:x.From≤t
    ·rw[Aoo h1,cond_true]
     by_cases h2:t<x.To
     ·rw[Aoo h2,cond_true,Bs (by omega),if_pos ⟨h1,h2⟩,hI]
      exact⟨_,rfl,rfl⟩
     ·rw[Aop h2,cond_false,if_neg (fun h=>h2 h.2)]
      exact⟨_,rfl,hI⟩
    ·rw[Aop h1,cond_false,if_neg (fun h=>h1 h.1)]
     exact⟨_,rfl,hI⟩)
  rw[List.take_length]at h2
  have hl:=mM (l:=l) (t:=t) h.runs
  have:=h.len
  rw[h1,Aos]
  show chk s'.length _=_
  rw[h2,Bs (by omega),Bs (by omega)];rfl
theorem zB {l:List Am} (hr:lJ l) (t:Int):N6 l t=some (norm (Kg l t)):=by
  unfold N6
  obtain⟨s',h1,h2,h3,h4⟩:=eQ (ρ:=List Int) (n:=9999) (step:=Kv l t) (s:=[]) (by omega) (fun k s=>Inc s∧s.length≤k∧∀ n,n∈s↔(n≤k∧n∈Kg l t))
    ⟨List.Pairwise.nil,by simp,fun n=>by
      constructor
      ·intro h;simp at h
      ·rintro⟨h,hn⟩
       obtain⟨w,hw,_,hm⟩:=W9.1 hn
       have:=(hr.rope w hw).runs.lo n hm;simp at h;omega⟩ (fun k s hk hI=>by
    obtain⟨i1,i2,i3⟩:=hI
    unfold Kv
    rw[Fz (step:=O3 t s k) (fun w=>decide (w.From≤t)&&(decide (t<w.To)&&decide (((k:Nat):Int)+1∈w.Runs))) (fun _=>.next (s++[((k:Nat):Int)+1])) (fun j w hw=>by
     unfold O3
     rw[has_eq]
     by_cases h1:w.From≤t<;>by_cases h2:t<w.To<;>by_cases h3:((k:Nat):Int)+1∈w.Runs<;>simp[h1,h2,h3,Bs (show s.length+1≤549755813888 by omega)])]
    have old:∀ n,n∈Kg l t→n≤((k+1:Nat):Int)→n≤(k:Int)∨n=(k:Int)+1:=fun n _ h=>by omega
    cases hf:l.find? (fun w=>decide (w.From≤t)&&(decide (t<w.To)&&decide (((k:Nat):Int)+1∈w.Runs)))with
    | some w=>
      have hp:=List.find?_some hf
      have hw:=List.mem_of_find?_eq_some hf
      simp only[Bool.and_eq_true,decide_eq_true_eq]at hp
      have ij:((k:Nat):Int)+1∈Kg l t:=W9.2 ⟨w,hw,⟨hp.1,hp.2.1⟩,hp.2.2⟩
      refine⟨_,rfl,?_,by simp;omega,fun n=>?_⟩
      ·unfold Inc
       rw[List.pairwise_append]
       exact⟨i1,by simp,fun a ha b hb=>by simp at hb;have:=((i3 a).1 ha).1;omega⟩
      ·rw[Aox,i3,List.mem_singleton]
       constructor
       ·rintro(h | rfl)
        ·exact⟨by omega,h.2⟩
        ·exact⟨by omega,ij⟩
       ·rintro⟨h,hn⟩
        rcases old n hn h with h | h
        ·exact .inl ⟨h,hn⟩
        ·exact .inr h
    | none=>
      refine⟨_,rfl,i1,by omega,fun n=>?_⟩
      rw[i3]
      constructor
      ·rintro⟨h,hn⟩;exact⟨by omega,hn⟩
      ·rintro⟨h,hn⟩
       rcases old n hn h with h | rfl
       ·exact⟨h,hn⟩
       ·obtain⟨w,hw,ht,hm⟩:=W9.1 hn
        have:=List.find?_eq_none.1 hf w hw
        simp[ht.1,ht.2,hm]at this)
  rw[h1,Aos]
  show some s'=_
  congr 1
  refine S0 h2 (Y5 _) fun n=>?_
  rw[Y4,h4]
  refine⟨fun h=>h.2,fun h=>⟨?_,h⟩⟩
  obtain⟨w,hw,_,hm⟩:=W9.1 h
  exact(hr.rope w hw).runs.hi n hm
end Go.Proofs.YtjopghiagoidgaaGreat.W46
namespace Go.Proofs.YtjopghiagoidgaaGreat.S50
open Go Go.Ab
set_option linter.unusedSimpArgs false
set_option linter.unusedVariables false
section
variable {α σ ρ:Type}
theorem Ry {step step':Nat→α→σ→Option (Out σ ρ)}:∀ {l:List α} {k:Nat},(∀ i x s,l[i]? =some x→step (k+i) x s=step' (k+i) x s)→∀ s,Al step k l s=Al step' k l s
  | [],k,h,s=>rfl
  | x::r,k,h,s=>by
    have h0:=h 0 x s rfl
    rw[Nat.add_zero]at h0
    rw[Al,Al,h0]
    have ih:∀ s,Al step (k+1) r s=Al step' (k+1) r s:=Ry (l:=r) (k:=k+1) (fun i y s hy=>by
      have:=h (i+1) y s (by simpa using hy)
      rwa [show k+(i+1)=k+1+i by omega]at this)
    cases step' k x s with
    | none=>rfl
    | some o=>cases o with
      | next s'=>exact ih s'
      | ret r=>rfl
theorem L6 {step step':Nat→α→σ→Option (Out σ ρ)} {l:List α} {s:σ} (h:∀ i x s,l[i]? =some x→step i x s=step' i x s):Al step 0 l s=Al step' 0 l s:=
  Ry (k:=0) (fun i x s hx=>by rw[Nat.zero_add];exact h i x s hx) s
end
def Small (l:List Aw):Prop:=l.length≤50∧∀ s∈l,s.Zones.length≤100∧True
def Inc (l:List Int):Prop:=l.Pairwise (·< ·)
def Ve (most:Int) (l:List Int):Prop:=(∀ x∈l,1≤x∧x≤most)∧Inc l
instance (most:Int) (l:List Int):Decidable (Ve most l):=by unfold Ve Inc;infer_instance
theorem rB {l:List Int} (h:∀ k x y,l[k+1]? =some x→l[k]? =some y→y<x):Inc l:=by
  unfold Inc
  rw[List.pairwise_iff_getElem]
  have key:∀ (d i:Nat) (hj:i+d+1<l.length),l[i]'(by omega)<l[i+d+1]:=by
    intro d
    induction d with
    | zero=>
      intro i hj
      exact h i _ _ (Aoq (by omega)) (Aoq (by omega))
    | succ d ih=>
      intro i hj
      have h1:=ih i (by omega)
      have h2:=h (i+d+1) l[i+(d+1)+1] l[i+d+1] (by rw[Aoq (by omega)];rfl) (Aoq (by omega))
      omega
  intro i j hi hj ah
  have:=key (j - i - 1) i (by omega)
  simpa[show i+(j - i - 1)+1=j by omega]using this
theorem z7 {l:List Int} (h:Inc l) {k:Nat} {x y:Int} (hx:l[k+1]? =some x) (hy:l[k]? =some y):y<x:=by
  unfold Inc at h
  rw[List.pairwise_iff_getElem]at h
  obtain⟨h1,rfl⟩:=Aoz.1 hx
  obtain⟨h2,rfl⟩:=Aoz.1 hy
  exact h k (k+1) h2 h1 (by omega)
theorem Vv (l:List Int) (most:Int) (hl:l.length≤9223372036854775807):Ej l most=some (decide (Ve most l)):=by
  unfold Ej
  rcases E5 (step:=Fl l most) (l:=l) (s:=()) (fun k _=>(∀ i x,i<k→l[i]? =some x→1≤x∧x≤most)∧∀ i x y,i+1<k→l[i+1]? =some x→l[i]? =some y→y<x)
    (fun r=>r=false∧¬ Ve most l) ⟨fun i x h=>by omega,fun i x y h=>by omega⟩ (fun k x u hk ⟨qh,pq⟩=>by
      have ah:=(Aoz.1 hk).1
      have hm:=Aor hk
      unfold Fl
      by_cases h1:x<1
      ·rw[Aoo h1];exact .inr ⟨false,rfl,rfl,fun h=>by have:=h.1 x hm;omega⟩
      rw[Aop h1,cond_false]
      by_cases h2:most<x
      ·rw[Aoo h2];exact .inr ⟨false,rfl,rfl,fun h=>by have:=h.1 x hm;omega⟩
      rw[Aop h2,cond_false]
      have hI1':∀ i y,i<k+1→l[i]? =some y→1≤y∧y≤most:=fun i y hi hy=>by
        by_cases e:i=k
        ·subst e;rw[hk]at hy;obtain rfl:=Aoy hy;omega
        ·exact qh i y (by omega) hy
      by_cases h3:(0:Int)<(k:Int)
      ·rw[Aoo h3,cond_true,S4 (by omega) (by omega),eN (k:=k - 1) (by omega),Aos]
       have hp:l[k - 1]? =some l[k - 1]:=Aoq (by omega)
       by_cases h4:x≤l[k - 1]
       ·rw[Aoo h4]
        refine .inr ⟨false,rfl,rfl,fun h=>?_⟩
        have:=z7 h.2 (k:=k - 1) (by rw[Nat.sub_add_cancel (by omega)];exact hk) hp
        omega
       ·rw[Aop h4]
        refine .inl ⟨(),rfl,hI1',fun i a b hi ha hb=>?_⟩
        by_cases e:i+1=k
        ·rw[e,hk]at ha;obtain rfl:=Aoy ha
         obtain rfl:i=k - 1:=by omega
         rw[hp]at hb;obtain rfl:=Aoy hb;omega
        ·exact pq i a b (by omega) ha hb
      ·rw[Aop h3]
       exact .inl ⟨(),rfl,hI1',fun i a b hi ha hb=>by omega⟩)with ⟨u,h1,h2,h3⟩ | ⟨r,h1,h2,h3⟩
  ·have:Ve most l:=⟨fun x hx=>by
     obtain⟨i,hi,rfl⟩:=List.getElem_of_mem hx
     exact h2 i _ hi (Aoq hi),rB fun k x y hx hy=>h3 k x y (Aoz.1 hx).1 hx hy⟩
   rw[h1,Aoo this];rfl
  ·subst h2
   rw[h1,Aop h3];rfl
theorem aB (l:List Int) (most:Int) (hl:l.length≤9223372036854775807):O0 l most=some (decide (Ve most l)):=Vv l most hl
theorem find_eq (l:List Aw) (n:Int):(Ic l n=some (-1)∧∀ x∈l,x.ID≠n)∨(∃ (k:Nat) (x:Aw),Ic l n=some (k:Int)∧l[k]? =some x∧x.ID=n∧∀ j y,j<k→l[j]? =some y→y.ID≠n):=by
  unfold Ic
  rcases E5 (step:=J6 n) (l:=l) (s:=()) (fun k _=>∀ i x,i<k→l[i]? =some x→x.ID≠n)
    (fun r=>∃ (k:Nat) (x:Aw),r=(k:Int)∧l[k]? =some x∧x.ID=n∧∀ j y,j<k→l[j]? =some y→y.ID≠n) (fun i x h=>by omega) (fun k x u hk hI=>by
      unfold J6
      by_cases e:x.ID=n
      ·rw[Aoo e];exact .inr ⟨_,rfl,k,x,rfl,hk,e,hI⟩
      ·rw[Aop e]
       refine .inl ⟨(),rfl,fun i y hi hy=>?_⟩
       by_cases h:i=k
       ·subst h;rw[hk]at hy;obtain rfl:=Aoy hy;exact e
       ·exact hI i y (by omega) hy)with ⟨u,h1,h2⟩ | ⟨r,h1,k,x,rfl,h2,h3,h4⟩
  ·refine .inl ⟨by rw[h1];rfl,fun x hx=>?_⟩
   obtain⟨i,hi,rfl⟩:=List.getElem_of_mem hx
   exact h2 i _ hi (Aoq hi)
  ·exact .inr ⟨k,x,by rw[h1];rfl,h2,h3,h4⟩
def InR (s:Aw):Prop:=1≤s.ID∧s.ID≤9999∧4≤s.Limit∧s.Limit≤100000∧0≤s.Load∧s.Load≤100000∧-1≤s.Controlled∧s.Controlled≤20000000
instance (s:Aw):Decidable (InR s):=by unfold InR;infer_instance
def Ci (s:Aw):Prop:=s.Zones≠[]∧Ve 32 s.Zones∧Ve 9999 s.Lifts
instance (s:Aw):Decidable (Ci s):=by unfold Ci;infer_instance
def qF (l:List Aw) (k:Nat) (s:Aw):Prop:=∃ y∈l.take k,y.ID=s.ID
instance (l:List Aw) (k:Nat) (s:Aw):Decidable (qF l k s):=by unfold qF;infer_instance
def Zl (l:List Aw) (k:Nat) (s:Aw):Option Int:=if ¬ InR s then some 2 else if qF l k s then some 7 else if ¬ Ci s then some 1 else none
def ans (o:Option Int):Option (Out Unit Int):=match o with | none=>some (.next ()) | some e=>some (.ret e)
theorem wV (s:Aw):G8 s=some (decide (InR s)):=by
  unfold G8 InR
  by_cases h1:1≤s.ID<;>by_cases h2:s.ID≤9999<;>by_cases h3:4≤s.Limit<;>by_cases h4:s.Limit≤100000<;>by_cases h5:0≤s.Load<;>by_cases h6:s.Load≤100000<;>by_cases h7: -1≤s.Controlled<;>simp[h1,h2,h3,h4,h5,h6,h7]
theorem pJ (s:Aw):decide (((s.Zones.length:Nat):Int)=(0:Int))=decide (s.Zones=[]):=by
  cases s.Zones<;>simp<;>omega
theorem v7 (l:List Aw) (hl:l.length≤9223372036854775807) (k:Nat) (x:Aw) (hk:l[k]? =some x) (hz:x.Zones.length≤9223372036854775807) (hf:x.Lifts.length≤9223372036854775807) :
    Gj l k x ()=ans (Zl l k x):=by
  have ah:=(Aoz.1 hk).1
  unfold Gj Zl
  rw[wV,Aos]
  by_cases h1:InR x
  ·rw[Aoo h1,Bool.not_true,cond_false,Ns ⟨by omega,by omega⟩,if_neg (by simpa using h1)]
   rcases find_eq (l.take k) x.ID with⟨h2,h3⟩ | ⟨j,y,h2,h3,h4,_⟩
   ·rw[h2,Aos,if_neg (fun⟨y,hy,e⟩=>h3 y hy e)]
    show(bif decide (((x.Zones.length:Nat):Int)=(0:Int))then _ else _)=_
    rw[pJ,Vv _ _ hz,Vv _ _ hf]
    unfold Ci
    by_cases h5:x.Zones=[]<;>by_cases h6:Ve 32 x.Zones<;>by_cases h7:Ve 9999 x.Lifts<;>simp[h5,h6,h7,ans]
   ·rw[h2,Aos,Aoo (Int.natCast_nonneg j),cond_true,if_pos ⟨y,Aor h3,h4⟩];rfl
  ·rw[Aop h1,if_pos h1];rfl
theorem zD (l:List Aw) (k:Nat) (x:Aw) (hk:k<l.length) (hl:l.length≤9223372036854775807) :
    (qF l k x∧J8 (Ga l x) k ()=some (.ret (.ret 7)))∨(¬ qF l k x∧J8 (Ga l x) k ()=some (.next ())):=by
  rcases Zh (step:=Ga l x) (n:=k) (s:=()) (by omega) (fun i _=>∀ j y,j<i→l[j]? =some y→y.ID≠x.ID) (fun r=>r= .ret 7∧qF l k x) (fun j y h=>by omega) (fun i u hi hI=>by
    unfold Ga
    have hy:l[i]? =some l[i]:=Aoq (by omega)
    rw[Cm hy,Aos]
    by_cases e:l[i].ID=x.ID
    ·rw[Aoo e]
     refine .inr ⟨_,rfl,rfl,l[i],Aor (i:=i) ?_,e⟩
     rw[List.getElem?_take,if_pos hi];exact hy
    ·rw[Aop e]
     refine .inl ⟨(),rfl,fun j y hj tp=>?_⟩
     by_cases h:j=i
     ·subst h;rw[hy]at tp;obtain rfl:=Aoy tp;exact e
     ·exact hI j y (by omega) tp)with ⟨u,h1,h2⟩ | ⟨r,h1,h2,h3⟩
  ·refine .inr ⟨fun⟨y,hy,e⟩=>?_,h1⟩
   obtain⟨j,hj,rfl⟩:=List.getElem_of_mem hy
   rw[List.length_take]at hj
   rw[List.getElem_take]at e
   exact h2 j _ (by omega) (Aoq (by omega)) e
  ·subst h2;exact .inl ⟨h3,h1⟩
theorem n0 (l:List Aw) (hl:l.length≤9223372036854775807) (k:Nat) (x:Aw) (hk:l[k]? =some x) (hz:x.Zones.length≤9223372036854775807) (hf:x.Lifts.length≤9223372036854775807) :
    Ks l k x ()=ans (Zl l k x):=by
  have ah:=(Aoz.1 hk).1
  unfold Ks Zl
  by_cases h1:InR x
  ·obtain⟨a1,a2,a3,a4,a5,a6,a7,a8⟩:=h1
   rw[Aop (by omega),cond_false,Aop (by omega),cond_false,Aop (by omega),cond_false,Aop (by omega),cond_false,Aop (by omega),cond_false,
    Aop (by omega),cond_false,Aop (by omega),cond_false,Aop (by omega),cond_false,if_neg (fun hn=>hn (show InR x from⟨a1,a2,a3,a4,a5,a6,a7,a8⟩))]
   rcases zD l k x ah hl with⟨h2,h3⟩ | ⟨h2,h3⟩
   ·rw[h3,if_pos h2];rfl
   ·rw[h3,if_neg h2,Aos]
    show(bif decide (((x.Zones.length:Nat):Int)=(0:Int))then _ else _)=_
    rw[pJ,aB _ _ hz,aB _ _ hf]
    unfold Ci
    by_cases h5:x.Zones=[]<;>by_cases h6:Ve 32 x.Zones<;>by_cases h7:Ve 9999 x.Lifts<;>simp[h5,h6,h7,ans]
  ·rw[if_pos h1]
   by_cases b1:x.ID<1
   ·rw[Aoo b1];rfl
   rw[Aop b1,cond_false]
   by_cases b2:9999<x.ID
   ·rw[Aoo b2];rfl
   rw[Aop b2,cond_false]
   by_cases b3:x.Limit<4
   ·rw[Aoo b3];rfl
   rw[Aop b3,cond_false]
   by_cases b4:100000<x.Limit
   ·rw[Aoo b4];rfl
   rw[Aop b4,cond_false]
   by_cases b5:x.Load<0
   ·rw[Aoo b5];rfl
   rw[Aop b5,cond_false]
   by_cases b6:100000<x.Load
   ·rw[Aoo b6];rfl
   rw[Aop b6,cond_false]
   by_cases b7:x.Controlled < -1
   ·rw[Aoo b7];rfl
   rw[Aop b7,cond_false]
   by_cases b8:20000000<x.Controlled
   ·rw[Aoo b8];rfl
   exact absurd (show InR x from⟨by omega,by omega,by omega,by omega,by omega,by omega,by omega,by omega⟩) h1
def fH (l:List Aw):Prop:=l.length≤32∧∀ k x,l[k]? =some x→Zl l k x=none
def Afn (l:List Aw):Prop:=l.length≤9223372036854775807∧∀ s∈l,s.Zones.length≤9223372036854775807∧s.Lifts.length≤9223372036854775807
theorem Ac4 (l:List Aw) (g:Nat→Aw→Option Int):∃ r,((Al (fun k x (_:Unit)=>ans (g k x)) 0 l ()).bind fun o=>o.on fun _=>some (0:Int))=some r∧((∀ k x,l[k]? =some x→g k x≠some 0)→(r=0↔∀ k x,l[k]? =some x→g k x=none)):=by
  rcases E5 (step:=fun k x (_:Unit)=>ans (g k x)) (l:=l) (s:=()) (fun i _=>∀ k x,k<i→l[k]? =some x→g k x=none) (fun r=>∃ k x,l[k]? =some x∧g k x=some r) (fun k x h=>by omega) (fun k x u hk hI=>by
    cases hg:g k x with
    | none=>
      refine .inl ⟨(),by simp only[hg,ans],fun i y hi hy=>?_⟩
      by_cases e:i=k
      ·subst e;rw[hk]at hy;obtain rfl:=Aoy hy;exact hg
      ·exact hI i y (by omega) hy
    | some e=>exact .inr ⟨e,by simp only[hg,ans],k,x,hk,hg⟩)with ⟨u,h1,h2⟩ | ⟨r,h1,k,x,h2,h3⟩
  ·exact⟨0,by rw[h1];rfl,fun _=>⟨fun _ k x hx=>h2 k x (Aoz.1 hx).1 hx,fun _=>rfl⟩⟩
  ·refine⟨r,by rw[h1];rfl,fun hn=>⟨fun e=>?_,fun h=>?_⟩⟩
   ·subst e;exact absurd h3 (hn k x h2)
   ·rw[h k x h2]at h3;cases h3
theorem Aco (l:List Aw) (k:Nat) (x:Aw):Zl l k x≠some 0:=by
  unfold Zl;split<;>(try split)<;>(try split)<;>simp
theorem Yp (l:List Aw) (h:Afn l):∃ r,Jq l=some r∧N5 l=some r∧(r=0↔fH l):=by
  unfold Jq N5
  by_cases hl:(32:Int)<((l.length:Nat):Int)
  ·rw[Aoo hl]
   exact⟨4,rfl,rfl,fun e=>by omega,fun h=>by have:=h.1;omega⟩
  ·rw[Aop hl,cond_false,cond_false]
   rw[L6 (step:=Gj l) (step':=fun k x (_:Unit)=>ans (Zl l k x)) (fun k x u hx=>v7 l h.1 k x hx (h.2 x (Aor hx)).1 (h.2 x (Aor hx)).2),
    L6 (step:=Ks l) (step':=fun k x (_:Unit)=>ans (Zl l k x)) (fun k x u hx=>n0 l h.1 k x hx (h.2 x (Aor hx)).1 (h.2 x (Aor hx)).2)]
   obtain⟨r,h1,h2⟩:=Ac4 l (Zl l)
   refine⟨r,h1,h1,(h2 fun k x _=>Aco l k x).trans ⟨fun h=>⟨by omega,h⟩,fun h=>h.2⟩⟩
theorem fH.at {l:List Aw} (h:fH l) {x:Aw} (hx:x∈l):InR x∧Ci x:=by
  obtain⟨k,hk,rfl⟩:=List.getElem_of_mem hx
  have:=h.2 k _ (Aoq hk)
  unfold Zl at this
  split at this
  ·cases this
  ·split at this
   ·cases this
   ·split at this
    ·cases this
    ·rename_i a b c;exact⟨by simpa using a,by simpa using c⟩
theorem wrap_small {n:Int} (h: -9223372036854775808≤n) (h2:n≤9223372036854775807):IntKind.i64.wrap n=n:=by simp[IntKind.wrap,IntKind.bits,IntKind.signed]<;>omega
def lvl (levels:List Int) (z:Int):Int:=if 1≤z then(levels[(z - 1).toNat]?).getD 0 else 0
def Y7 (levels:List Int):List Int→Int
  | []=>0
  | z::r=>r.foldl (fun a z=>if a<lvl levels z then lvl levels z else a) (lvl levels z)
theorem zU (levels:List Int) (zs:List Int) (z:Int):Y7 levels (zs++[z])=if zs=[]∨Y7 levels zs<lvl levels z then lvl levels z else Y7 levels zs:=by
  cases zs with
  | nil=>rfl
  | cons y r=>
    simp only[List.cons_append,Y7,List.foldl_append,List.foldl_cons,List.foldl_nil,reduceCtorEq,false_or]
theorem Abx {levels:List Int} {z:Int} (hl:levels.length≤9223372036854775807) (h1:1≤z) (h2:z≤(levels.length:Int)):Da levels (IntKind.i64.wrap (z - 1))=some (lvl levels z):=by
  rw[wrap_small (by omega) (by omega)]
  have ah:(z - 1).toNat<levels.length:=by omega
  unfold lvl
  rw[if_pos h1,Aoq ah]
  exact S1 (k:=(z - 1).toNat) (by omega) (Aoq ah)
theorem qZ {levels:List Int} {z:Int} (h:¬ (1≤z∧z≤(levels.length:Int))):lvl levels z=0:=by
  unfold lvl
  by_cases h1:1≤z
  ·rw[if_pos h1,List.getElem?_eq_none (by omega)];rfl
  ·rw[if_neg h1]
theorem Y6 (k:Nat) (v sv:Int):(bif (decide (((k:Nat):Int)=(0:Int)))then some (Out.next v)else (bif (decide (sv<v))then some (Out.next v)else some (Out.next sv)):Option (Out Int Int))=some (.next (if k=0∨sv<v then v else sv)):=by
  by_cases h1:k=0
  ·rw[Aoo (by omega),if_pos (.inl h1)];rfl
  ·rw[Aop (by omega),cond_false]
   by_cases h2:sv<v
   ·rw[Aoo h2,if_pos (.inr h2)];rfl
   ·rw[Aop h2,if_neg (by omega)];rfl
theorem wS {levels:List Int} (hl:levels.length≤9223372036854775807) (k:Nat) (x sv:Int):I6 levels k x sv=some (.next (if k=0∨sv<lvl levels x then lvl levels x else sv)):=by
  unfold I6
  by_cases h1:1≤x
  ·rw[Aoo h1,cond_true]
   by_cases h2:x≤(levels.length:Int)
   ·rw[Aoo h2,cond_true,Abx hl h1 h2,Aos];exact Y6 k _ sv
   ·rw[Aop h2,cond_false,qZ (fun h=>h2 h.2)];exact Y6 k _ sv
  ·rw[Aop h1,cond_false,qZ (fun h=>h1 h.1)];exact Y6 k _ sv
theorem oA {levels:List Int} (hl:levels.length≤9223372036854775807) (k:Nat) (x sv:Int) (h1:1≤x):O1 levels k x sv=some (.next (if k=0∨sv<lvl levels x then lvl levels x else sv)):=by
  unfold O1
  by_cases h2:x≤(levels.length:Int)
  ·rw[Aoo h2,cond_true,Abx hl h1 h2,Aos];exact Y6 k _ sv
  ·rw[Aop h2,cond_false,qZ (fun h=>h2 h.2)];exact Y6 k _ sv
theorem tP {step:Nat→Int→Int→Option (Out Int Int)} {levels zs:List Int} (hs:∀ k x sv,x∈zs→step k x sv=some (.next (if k=0∨sv<lvl levels x then lvl levels x else sv))) :
    ((Al step 0 zs 0).bind fun o=>o.on fun s=>some s)=some (Y7 levels zs):=by
  obtain⟨s',h1,h2⟩:=Eb (step:=step) (l:=zs) (s:=0) (fun k s=>s=Y7 levels (zs.take k)) rfl (fun k x s hk hI=>by
    have ah:=(Aoz.1 hk).1
    rw[hs k x s (Aor hk)]
    refine⟨_,rfl,?_⟩
    rw[List.take_add_one,hk,hI]
    show _=Y7 levels (zs.take k++[x])
    rw[zU]
    have:zs.take k=[]↔k=0:=by
      constructor
      ·intro h
       have:=congrArg List.length h
       simp at this
       rcases this with h | h
       ·exact h
       ·subst h;simp at ah
      ·intro h;subst h;rfl
    simp only[this])
  rw[h1,h2,List.take_length];rfl
theorem Ab0 (s:Aw) {levels:List Int} (hl:levels.length≤9223372036854775807):Nj s levels=some (Y7 levels s.Zones):=
  tP fun k x sv _=>wS hl k x sv
theorem sR (s:Aw) {levels:List Int} (hl:levels.length≤9223372036854775807) (hz:∀ z∈s.Zones,1≤z):Ux s levels=some (Y7 levels s.Zones):=
  tP fun k x sv hx=>oA hl k x sv (hz x hx)
def bH (s:Aw) (levels:List Int):Prop:=
  s.Limit≤s.Load∨(Y7 levels s.Zones=3∧s.Limit / 2≤s.Load)∨(Y7 levels s.Zones=4∧s.Limit / 4≤s.Load)∨4<Y7 levels s.Zones
instance (s:Aw) (levels:List Int):Decidable (bH s levels):=by unfold bH;infer_instance
theorem lH {n d:Int} (h0:0≤n) (h1:n≤100000) (hd:1≤d):IntKind.i64.wrap (Int.tdiv n d)=n / d:=by
  have h2:n / d≤n:=Int.ediv_le_self d h0
  have h3:0≤n / d:=Int.ediv_nonneg h0 (by omega)
  rw[Int.tdiv_eq_ediv_of_nonneg h0,wrap_small (by omega) (by omega)]
theorem rY {s:Aw} (hr:InR s) {levels:List Int} (hl:levels.length≤9223372036854775807):Gi s levels=some (decide (bH s levels)):=by
  unfold InR at hr
  unfold Gi
  rw[Ab0 s hl,lH (by omega) (by omega) (by omega),lH (by omega) (by omega) (by omega)]
  by_cases h1:s.Limit≤s.Load
  ·rw[Aoo h1,Aoo (show bH s levels from .inl h1)];rfl
  rw[Aop h1,cond_false,Aos]
  by_cases h2:Y7 levels s.Zones=3
  ·rw[Aoo h2,cond_true]
   refine congrArg some (decide_eq_decide.2 ?_)
   unfold bH;omega
  rw[Aop h2,cond_false]
  by_cases h3:Y7 levels s.Zones=4
  ·rw[Aoo h3,cond_true]
   refine congrArg some (decide_eq_decide.2 ?_)
   unfold bH;omega
  rw[Aop h3,cond_false]
  refine congrArg some (decide_eq_decide.2 ?_)
  unfold bH;omega
theorem lU {s:Aw} (hr:InR s) {levels:List Int} (hl:levels.length≤9223372036854775807) (hz:∀ z∈s.Zones,1≤z):Kr s levels=some (decide (bH s levels)):=by
  unfold InR at hr
  unfold Kr
  rw[sR s hl hz,lH (by omega) (by omega) (by omega),lH (by omega) (by omega) (by omega),Aos]
  by_cases h1:4<Y7 levels s.Zones
  ·rw[Aoo h1,Aoo (show bH s levels from .inr (.inr (.inr h1)))];rfl
  rw[Aop h1,cond_false]
  by_cases h3:Y7 levels s.Zones=4
  ·rw[Aoo h3,cond_true]
   refine congrArg some (decide_eq_decide.2 ?_)
   unfold bH;omega
  rw[Aop h3,cond_false]
  by_cases h2:Y7 levels s.Zones=3
  ·rw[Aoo h2,cond_true]
   refine congrArg some (decide_eq_decide.2 ?_)
   unfold bH;omega
  rw[Aop h2,cond_false]
  refine congrArg some (decide_eq_decide.2 ?_)
  unfold bH;omega
theorem S0:∀ {a b:List Int},Inc a→Inc b→(∀ x,x∈a↔x∈b)→a=b
  | [],[],_,_,_=>rfl
  | [],y::s,_,_,h=>absurd ((h y).2 (by simp)) (by simp)
  | x::r,[],_,_,h=>absurd ((h x).1 (by simp)) (by simp)
  | x::r,y::s,ha,hb,h=>by
    obtain⟨yg,ui⟩:=List.pairwise_cons.1 ha
    obtain⟨td,oc⟩:=List.pairwise_cons.1 hb
    have e:x=y:=by
      rcases List.mem_cons.1 ((h x).1 (by simp))with e | h1
      ·exact e
      ·rcases List.mem_cons.1 ((h y).2 (by simp))with e | h2
       ·exact e.symm
       ·have:=yg y h2;have:=td x h1;omega
    subst e
    rw[S0 ui oc (fun z=>?_)]
    constructor
    ·intro hz
     rcases List.mem_cons.1 ((h z).1 (List.mem_cons_of_mem _ hz))with e | h1
     ·have:=yg z hz;omega
     ·exact h1
    ·intro hz
     rcases List.mem_cons.1 ((h z).2 (List.mem_cons_of_mem _ hz))with e | h1
     ·have:=td z hz;omega
     ·exact h1
def norm (xs:List Int):List Int:=Cz (Dn xs)
theorem Sv (xs:List Int):(Dn xs).Pairwise (·≤·):=by
  have:=List.pairwise_mergeSort (le:=fun x y:Int=>decide (x≤y)) (fun a b c h1 h2=>by simp at *;omega) (fun a b=>by simp;omega) xs
  exact this.imp (fun h=>by simpa using h)
theorem N0 (xs:List Int) (a:Int):a∈Dn xs↔a∈xs:=(List.mergeSort_perm xs _).mem_iff
theorem Fx {zs:List Int} {j:Nat} (h:j<zs.length):zs.toArray[j]! =zs[j]:=by simp[h]
theorem Zm {zs:List Int} (a:Int):a∈Cz zs↔a∈zs:=by
  unfold Cz Lib.compact Lib.compactUpTo
  rw[List.mem_map]
  constructor
  ·rintro⟨j,hj,rfl⟩
   have h1:=List.mem_range.1 (List.mem_filter.1 hj).1
   rw[Fx h1];exact List.getElem_mem h1
  ·intro ha
   obtain⟨i,hi,rfl⟩:=List.getElem_of_mem ha
   induction i with
   | zero=>exact ⟨0,List.mem_filter.2 ⟨List.mem_range.2 hi,by simp[Lib.keeps]⟩,Fx hi⟩
   | succ i ih=>
     by_cases e:zs[i+1]=zs[i]
     ·rw[e];exact ih (by omega) (List.getElem_mem _)
     ·refine⟨i+1,List.mem_filter.2 ⟨List.mem_range.2 hi,?_⟩,Fx hi⟩
      unfold Lib.keeps
      rw[Fx hi,Nat.add_sub_cancel,Fx (show i<zs.length by omega)]
      exact Aoo (.inr e)
theorem Zn {zs:List Int} (h:zs.Pairwise (·≤·)):Inc (Cz zs):=by
  unfold Cz Lib.compact Lib.compactUpTo Inc
  rw[List.pairwise_map]
  refine(List.pairwise_lt_range.filter _).imp_of_mem (fun {i j} hi hj ah=>?_)
  obtain⟨ru,hj2⟩:=List.mem_filter.1 hj
  have ru:=List.mem_range.1 ru
  rw[Fx (show i<zs.length by omega),Fx ru]
  unfold Lib.keeps at hj2
  have bj:=Aon hj2
  rw[Fx ru,Fx (show j - 1<zs.length by omega)]at bj
  rw[List.pairwise_iff_getElem]at h
  have h1:=h (j - 1) j (by omega) ru (by omega)
  rcases Nat.lt_or_ge i (j - 1)with hh | hh
  ·have:=h i (j - 1) (by omega) (by omega) hh;omega
  ·have e:i=j - 1:=by omega
   subst e;omega
theorem Y5 (xs:List Int):Inc (norm xs):=Zn (Sv xs)
theorem Y4 (xs:List Int) (a:Int):a∈norm xs↔a∈xs:=by unfold norm;rw[Zm,N0]
theorem gather {step:Nat→Aw→List Int→Option (Out (List Int) (List Int))} {l:List Aw} (f:Aw→List Int) (p:Aw→Bool) (hl:l.length≤50) (hf:∀ x∈l,(f x).length≤100)
    (hs:∀ k x s,x∈l→step k x s=bif p x then chk (s.length+(f x).length) (some (Out.next (s++f x)))else some (Out.next s)) :
    ((Al step 0 l []).bind fun o2=>o2.on fun s2=>chk s2.length (chk s2.length (some (Cz (Dn s2)))))=some (norm ((l.filter p).flatMap f)):=by
  obtain⟨s',h1,h2,h3⟩:=Eb (step:=step) (l:=l) (s:=[]) (fun k s=>s=((l.take k).filter p).flatMap f∧s.length≤100*k) ⟨by simp,by simp⟩ (fun k x s hk ⟨hI,hn⟩=>by
    have ah:=(Aoz.1 hk).1
    have hx:=Aor hk
    have:=hf x hx
    rw[hs k x s hx]
    cases hp:p x with
    | true=>
      rw[cond_true,Bs (by omega)]
      refine⟨_,rfl,?_,by rw[Aou];omega⟩
      rw[List.take_add_one,hk,hI];simp[hp]
    | false=>
      rw[cond_false]
      refine⟨_,rfl,?_,by omega⟩
      rw[List.take_add_one,hk,hI];simp[hp])
  rw[h1]
  show chk s'.length (chk s'.length _)=_
  rw[Bs (by omega),Bs (by omega),h2,List.take_length];rfl
theorem Aa2 {l:List Aw} {levels:List Int} (hs:Small l) (hr:∀ x∈l,InR x) (hl:levels.length≤9223372036854775807):Gu l levels=some (norm ((l.filter fun x=>decide (bH x levels)).flatMap Aw.Zones)):=
  gather Aw.Zones (fun x=>decide (bH x levels)) hs.1 (fun x hx=>(hs.2 x hx).1) (fun k x s hx=>by
    unfold Nx;rw[rY (hr x hx) hl,Aos])
theorem Abb (a b:List Int) (x y:Int):((a++y::x::b).set (a.length+1) y).set a.length x=a++x::y::b:=by
  simp[List.set_append]
theorem Ab6 {at_:Nat} {out:List Int} {x:Int} (hat:at_≤out.length) (hlen:out.length≤100000000) :
    ∃ a b,F8 out x (at_:Int)=some (.next (a++x::b))∧a++b=out∧a.length=at_:=by
  unfold F8
  rw[Bs (by omega),wrap_small (by omega) (by omega)]
  obtain⟨r,h1,a,b,h2,h3,h4⟩:=Hc (step:=Kq (at_:Int)) (fun s=>∃ a b:List Int,s=((a.length:Int),a++x::b)∧a++b=out∧at_≤a.length)
    (fun r=>∃ a b,r= .next (a++x::b)∧a++b=out∧a.length=at_) (fun s=>s.1.toNat) (fun s hI=>by
      obtain⟨a,b,rfl,tf,ha⟩:=hI
      unfold Kq
      show(∃ s',(bif decide ((at_:Int)<((a.length:Nat):Int))then _ else _)=_∧_)∨_
      by_cases ah:at_<a.length
      ·rw[Aoo (by omega),cond_true]
       rcases List.eq_nil_or_concat a with e | ⟨a',y,e⟩
       ·subst e;simp at ah
       ·rw[List.concat_eq_append]at e
        subst e
        have lh:(a'++[y]).length=a'.length+1:=by simp
        rw[lh]at ah ha
        have hle:a'.length+1≤out.length:=by rw[← tf];simp
        have e1:a'++[y]++x::b=a'++y::x::b:=by simp
        have g1:(a'++y::x::b)[a'.length]? =some y:=by simp
        have g2:(a'++y::x::b)[a'.length+1]? =some x:=by simp
        have g3:((a'++y::x::b).set (a'.length+1) y)[a'.length]? =some y:=by rw[List.getElem?_set_ne (by omega)];exact g1
        simp only[lh,e1,S4 (show 0<a'.length+1 by omega) (by omega),Nat.add_sub_cancel,Cm g1,Cm g2,Aos,Int.toNat_natCast,Cm g3,Abb]
        exact .inl ⟨_,rfl,⟨a',y::b,rfl,by rw[← tf];simp,by omega⟩,by omega⟩
      ·rw[Aop (by omega),cond_false]
       exact .inr ⟨_,rfl,a,b,rfl,tf,by omega⟩) fuel ((out.length:Int),out++[x]) ⟨out,[],rfl,by simp,hat⟩ (by show out.length<fuel;unfold fuel;omega)
  refine⟨a,b,?_,h3,h4⟩
  rw[show((((out.length+1:Nat):Int)) - 1)=(out.length:Int) by omega,h1,h2];rfl
theorem zW (k:Nat) (x:Int) {out:List Int} (hi:Inc out) (hlen:out.length≤100000000) :
    ∃ out',F9 k x out=some (.next out')∧Inc out'∧(∀ a,a∈out'↔a∈out∨a=x)∧out'.length≤out.length+1:=by
  unfold F9
  obtain⟨r,h1,out',h2,h3⟩:=Hc (step:=Kp out x) (fun(s:Int)=>∃ n:Nat,s=(n:Int)∧n≤out.length∧∀ i y,i<n→out[i]? =some y→y<x)
    (fun r=>∃ out',r= .next out'∧Inc out'∧(∀ a,a∈out'↔a∈out∨a=x)∧out'.length≤out.length+1) (fun s=>out.length - s.toNat) (fun s hI=>by
      obtain⟨n,rfl,hn,hI⟩:=hI
      have hins:(∀ y,out[n]? =some y→x<y)→∃ out',F8 out x (n:Int)=some (.next out')∧Inc out'∧(∀ a,a∈out'↔a∈out∨a=x)∧out'.length≤out.length+1:=fun hgt=>by
        obtain⟨a,b,g1,g2,g3⟩:=Ab6 (x:=x) hn hlen
        refine⟨_,g1,?_,fun c=>?_,by rw[← g2];simp;omega⟩
        ·subst g2
         unfold Inc at hi ⊢
         obtain⟨p1,p2,p3⟩:=List.pairwise_append.1 hi
         have hb:∀ y∈b,x<y:=fun y hy=>by
           cases b with
           | nil=>cases hy
           | cons z b'=>
             have hz:x<z:=hgt z (by rw[← g3];simp)
             rcases List.mem_cons.1 hy with e | hy
             ·subst e;exact hz
             ·have:=(List.pairwise_cons.1 p2).1 y hy;omega
         have ha:∀ y∈a,y<x:=fun y hy=>by
           obtain⟨i,dt,rfl⟩:=List.getElem_of_mem hy
           exact hI i _ (by omega) (by rw[List.getElem?_append_left dt];exact Aoq dt)
         refine List.pairwise_append.2 ⟨p1,List.pairwise_cons.2 ⟨hb,p2⟩,fun y hy z hz=>?_⟩
         rcases List.mem_cons.1 hz with e | hz
         ·subst e;exact ha y hy
         ·exact p3 y hy z hz
        ·subst g2;simp only[Aox,List.mem_cons]
         constructor
         ·rintro(h | h | h)
          ·exact .inl (.inl h)
          ·exact .inr h
          ·exact .inl (.inr h)
         ·rintro((h | h) | h)
          ·exact .inl h
          ·exact .inr (.inr h)
          ·exact .inr (.inl h)
      unfold Kp
      by_cases ah:n<out.length
      ·rw[Aoo (by omega),cond_true,eN ah,Aos]
       have hg:out[n]? =some out[n]:=Aoq ah
       by_cases hx:out[n]< x
       ·rw[Aoo hx,cond_true,S5 (by omega)]
        refine .inl ⟨_,rfl,⟨n+1,rfl,by omega,fun i y dt hy=>?_⟩,by omega⟩
        by_cases e:i=n
        ·subst e;rw[hg]at hy;obtain rfl:=Aoy hy;exact hx
        ·exact hI i y (by omega) hy
       ·rw[Aop hx,cond_false]
        unfold Hy
        rw[Aoo (by omega),cond_true,eN ah,Aos]
        by_cases e:out[n]=x
        ·rw[Aoo e,cond_true]
         refine .inr ⟨_,rfl,out,rfl,hi,fun a=>⟨.inl,fun h=>?_⟩,by omega⟩
         rcases h with h | h
         ·exact h
         ·rw[h,← e];exact List.getElem_mem ah
        ·rw[Aop e,cond_false]
         obtain⟨out',g1,g2⟩:=hins (fun y hy=>by rw[hg]at hy;obtain rfl:=Aoy hy;omega)
         rw[g1]
         exact .inr ⟨_,rfl,out',rfl,g2⟩
      ·rw[Aop (by omega),cond_false,cond_false]
       unfold Hy
       rw[Aop (by omega),cond_false]
       obtain⟨out',g1,g2⟩:=hins (fun y hy=>by rw[List.getElem?_eq_none (by omega)]at hy;cases hy)
       rw[g1]
       exact .inr ⟨_,rfl,out',rfl,g2⟩) fuel 0 ⟨0,rfl,by omega,fun i y h=>by omega⟩ (by show out.length - 0<fuel;unfold fuel;omega)
  exact⟨out',by rw[h1,h2];rfl,h3⟩
theorem zX (zs:List Int) {out:List Int} (hi:Inc out) (hlen:out.length+zs.length≤100000000) :
    ∃ out',Al F9 0 zs out=some (.next out')∧Inc out'∧(∀ a,a∈out'↔a∈out∨a∈zs)∧out'.length≤out.length+zs.length:=by
  obtain⟨s',h1,h2,h3,h4⟩:=Eb (step:=F9) (l:=zs) (s:=out) (fun k s=>Inc s∧(∀ a,a∈s↔a∈out∨a∈zs.take k)∧s.length≤out.length+k) ⟨hi,by simp,by omega⟩ (fun k x s hk ⟨qh,pq,yy⟩=>by
    have ah:=(Aoz.1 hk).1
    obtain⟨out',g1,g2,g3,g4⟩:=zW k x qh (by omega)
    refine⟨out',g1,g2,fun a=>?_,by omega⟩
    rw[g3,pq,List.take_add_one,hk]
    simp[or_assoc])
  rw[List.take_length]at h3
  exact⟨s',h1,h2,h3,h4⟩
theorem refgather {step:Nat→Aw→List Int→Option (Out (List Int) (List Int))} {l:List Aw} (f:Aw→List Int) (p:Aw→Bool) (hl:l.length≤50) (hf:∀ x∈l,(f x).length≤100)
    (hs:∀ k x s,x∈l→step k x s=bif p x then(Al F9 0 (f x) s).bind fun o7=>o7.on fun s7=>some (Out.next s7)else some (Out.next s)) :
    ((Al step 0 l []).bind fun o2=>o2.on fun s2=>some s2)=some (norm ((l.filter p).flatMap f)):=by
  obtain⟨s',h1,h2,h3,h4⟩:=Eb (step:=step) (l:=l) (s:=[]) (fun k s=>Inc s∧(∀ a,a∈s↔a∈((l.take k).filter p).flatMap f)∧s.length≤100*k) ⟨List.Pairwise.nil,by simp,by simp⟩ (fun k x s hk ⟨qh,pq,yy⟩=>by
    have ah:=(Aoz.1 hk).1
    have hx:=Aor hk
    have:=hf x hx
    rw[hs k x s hx]
    cases hp:p x with
    | true=>
      rw[cond_true]
      obtain⟨out',g1,g2,g3,g4⟩:=zX (f x) qh (by omega)
      refine⟨out',by rw[g1];rfl,g2,fun a=>?_,by omega⟩
      rw[g3,pq,List.take_add_one,hk];simp[hp]
    | false=>
      rw[cond_false]
      refine⟨_,rfl,qh,fun a=>?_,by omega⟩
      rw[pq,List.take_add_one,hk];simp[hp])
  rw[List.take_length]at h3
  rw[h1]
  show some s'=_
  rw[S0 h2 (Y5 _) (fun a=>by rw[h3,Y4])]
theorem sQ {l:List Aw} {levels:List Int} (hs:Small l) (hr:fH l) (hl:levels.length≤9223372036854775807):N4 l levels=some (norm ((l.filter fun x=>decide (bH x levels)).flatMap Aw.Zones)):=
  refgather Aw.Zones (fun x=>decide (bH x levels)) hs.1 (fun x hx=>(hs.2 x hx).1) (fun k x s hx=>by
    unfold Tu;rw[lU (hr.at hx).1 hl (fun z hz=>((hr.at hx).2.2.1.1 z hz).1),Aos])
end Go.Proofs.YtjopghiagoidgaaGreat.S50
namespace Go.Proofs.YtjopghiagoidgaaGreat
open Go Go.Ab
set_option linter.unusedSimpArgs false
set_option linter.unusedVariables false
def Ag {α:Type} (a b:Option α):Prop:=∃ r,a=some r∧b=some r
theorem Ag.some {α:Type} (x:α):Ag (some x) (some x):=⟨x,rfl,rfl⟩
theorem Ag.refl {α:Type} {a:Option α} (h:∃ x,a=Option.some x):Ag a a:=by obtain⟨x,h⟩:=h;exact⟨x,h,h⟩
theorem Ag.symm {α:Type} {a b:Option α} (h:Ag a b):Ag b a:=by obtain⟨x,h,k⟩:=h;exact⟨x,k,h⟩
theorem Ag.trans {α:Type} {a b c:Option α} (h:Ag a b) (k:Ag b c):Ag a c:=by
  obtain⟨x,h1,h2⟩:=h;obtain⟨y,k1,k2⟩:=k
  rw[h2]at k1;obtain rfl:=Aoy k1
  exact⟨x,h1,k2⟩
theorem Ag.eq {α:Type} {a b:Option α} (h:Ag a b):a=b:=by obtain⟨x,h1,h2⟩:=h;rw[h1,h2]
theorem Ag.of {α:Type} {a b:Option α} (h:∃ x,a=Option.some x) (e:a=b):Ag a b:=by obtain⟨x,h⟩:=h;exact⟨x,h,by rw[← e];exact h⟩
theorem Ag.bind {α β:Type} {a b:Option α} {f g:α→Option β} (h:Ag a b) (k:∀ x,a=Option.some x→b=Option.some x→Ag (f x) (g x)):Ag (a.bind f) (b.bind g):=by
  obtain⟨x,h1,h2⟩:=h
  have:=k x h1 h2
  rw[h1,h2];exact this
theorem Ag.bif {α:Type} {c d:Bool} {a b a' b':Option α} (hc:c=d) (h:c=true→Ag a b) (k:c=false→Ag a' b'):Ag (bif c then a else a') (bif d then b else b'):=by
  subst hc
  cases c with
  | true=>exact h rfl
  | false=>exact k rfl
theorem pW {α σ ρ:Type} {step:Nat→α→σ→Option (Out σ ρ)}:∀ {l:List α} {k:Nat},(∀ i x s,l[i]? =Option.some x→∃ o,step (k+i) x s=Option.some o)→∀ s,∃ o,Al step k l s=Option.some o
  | [],k,_,s=>⟨_,rfl⟩
  | x::l,k,h,s=>by
    obtain⟨o,ho⟩:=h 0 x s rfl
    rw[Nat.add_zero]at ho
    rw[Al,ho]
    cases o with
    | ret r=>exact ⟨_,rfl⟩
    | next s'=>exact pW (fun i y s hy=>by have:=h (i+1) y s (by simpa using hy);rwa [show k+(i+1)=k+1+i by omega]at this) s'
theorem Ag.Acl {α σ ρ:Type} {step step':Nat→α→σ→Option (Out σ ρ)}:∀ {l:List α} {k:Nat},(∀ i x s,l[i]? =Option.some x→Ag (step (k+i) x s) (step' (k+i) x s))→∀ s,Ag (Al step k l s) (Al step' k l s)
  | [],k,_,s=>⟨_,rfl,rfl⟩
  | x::l,k,h,s=>by
    obtain⟨o,ho,fz⟩:=h 0 x s rfl
    rw[Nat.add_zero]at ho fz
    rw[Al,Al,ho,fz]
    cases o with
    | ret r=>exact ⟨_,rfl,rfl⟩
    | next s'=>exact Ag.Acl (fun i y s hy=>by have:=h (i+1) y s (by simpa using hy);rwa [show k+(i+1)=k+1+i by omega]at this) s'
theorem Ag.Al {α σ ρ:Type} {step step':Nat→α→σ→Option (Out σ ρ)} {l:List α} {s:σ} (h:∀ i x s,l[i]? =Option.some x→Ag (step i x s) (step' i x s)):Ag (Al step 0 l s) (Al step' 0 l s):=
  Ag.Acl (fun i x s hx=>by rw[Nat.zero_add];exact h i x s hx) s
theorem Ag.on {σ ρ:Type} {o:Out σ ρ} {f g:σ→Option ρ} (h:∀ s,o= .next s→Ag (f s) (g s)):Ag (o.on f) (o.on g):=by
  cases o with
  | ret r=>exact ⟨_,rfl,rfl⟩
  | next s=>exact h s rfl
theorem iD {α:Type} {l:List α} {k:Nat} (hk:k<l.length) (h0:0<k) (hl:l.length≤9223372036854775807):∃ x,Da l (IntKind.i64.wrap ((k:Int) - 1))=Option.some x∧l[k - 1]? =Option.some x:=by
  have hx:l[k - 1]? =Option.some (l[k - 1]'(by omega)):=Aoq (by omega)
  exact⟨_,S1 (S4 h0 (by omega)) hx,hx⟩
def Tot {α:Type} (a:Option α):Prop:=∃ r,a=Option.some r
theorem Tot.some {α:Type} (x:α):Tot (Option.some x):=⟨x,rfl⟩
theorem Tot.bif {α:Type} {c:Bool} {a b:Option α} (h:c=true→Tot a) (k:c=false→Tot b):Tot (bif c then a else b):=by
  cases c with
  | true=>exact h rfl
  | false=>exact k rfl
theorem Tot.bind {α β:Type} {a:Option α} {f:α→Option β} (h:Tot a) (k:∀ x,a=Option.some x→Tot (f x)):Tot (a.bind f):=by
  obtain⟨x,h⟩:=h
  have:=k x h
  rw[h];exact this
theorem Tot.on {σ ρ:Type} {o:Out σ ρ} {f:σ→Option ρ} (h:∀ s,Tot (f s)):Tot (o.on f):=by
  cases o with
  | ret r=>exact ⟨_,rfl⟩
  | next s=>exact h s
theorem Tot.Al {α σ ρ:Type} {step:Nat→α→σ→Option (Out σ ρ)} {l:List α} {s:σ} (h:∀ i x s,l[i]? =Option.some x→Tot (step i x s)):Tot (Al step 0 l s):=
  pW (fun i x s hx=>by rw[Nat.zero_add];exact h i x s hx) s
theorem Tot.pred {α β:Type} {l:List α} {k:Nat} {f:α→Option β} (hk:k<l.length) (h0:decide ((0:Int)<((k:Nat):Int))=true) (hl:l.length≤9223372036854775807) (h:∀ y,Tot (f y)):Tot ((Da l (IntKind.i64.wrap (((k:Nat):Int) - (1:Int)))).bind f):=by
  obtain⟨x,h1,_⟩:=iD hk (by have:=Aon h0;omega) hl
  rw[h1];exact h x
theorem Ag.tF {α:Type} {a b:Option α} (h:Tot a) (e:a=b):Ag a b:=Ag.of h e
def Dv {σ ρ:Type} (P:ρ→Prop) (o:Option (Out σ ρ)):Prop:=∀ r,o=Option.some (.ret r)→P r
theorem Dv.next {σ ρ:Type} {P:ρ→Prop} (s:σ):Dv P (Option.some (Out.next s)):=by intro r h;cases h
theorem Dv.ret {σ ρ:Type} {P:ρ→Prop} {r:ρ} (h:P r):Dv (σ:=σ) P (Option.some (Out.ret r)):=by intro r' h';cases h';exact h
theorem Dv.bif {σ ρ:Type} {P:ρ→Prop} {c:Bool} {a b:Option (Out σ ρ)} (h:c=true→Dv P a) (k:c=false→Dv P b):Dv P (bif c then a else b):=by
  cases c with
  | true=>exact h rfl
  | false=>exact k rfl
theorem Dv.bind {α σ ρ:Type} {P:ρ→Prop} {a:Option α} {f:α→Option (Out σ ρ)} (h:∀ x,a=Option.some x→Dv P (f x)):Dv P (a.bind f):=by
  intro r hr
  obtain⟨x,h1,h2⟩:=Ae hr
  exact h x h1 r h2
theorem Dv.okB {σ ρ:Type} {P:ρ→Prop} {c:Bool} {o:Option (Out σ ρ)} (h:Dv P o):Dv P (okB c o):=by
  cases c with
  | true=>exact h
  | false=>intro r h';cases h'
theorem Dv.Al {α σ ρ:Type} {P:ρ→Prop} {step:Nat→α→σ→Option (Out σ ρ)} (h:∀ i x s,Dv P (step i x s)):∀ {l:List α} {k:Nat} {s:σ},Dv P (Al step k l s)
  | [],k,s=>Dv.next _
  | x::l,k,s=>by
    intro r hr
    rw[Go.Ab.Al]at hr
    obtain⟨o,h1,h2⟩:=Ae hr
    cases o with
    | ret q=>exact h k x s r (by rw[h1];exact h2 ▸ rfl)
    | next s'=>exact Dv.Al h r h2
theorem vU {σ:Type} {o:Option (Out σ Int)} {rest:Option Int} (h:Dv (·≠0) o):((o.bind fun x=>x.on fun _=>Option.some (0:Int)).bind fun y=>bif decide (y≠(0:Int))then Option.some y else rest)=o.bind fun x=>x.on fun _=>rest:=by
  cases o with
  | none=>rfl
  | some x=>
    cases x with
    | next s=>rfl
    | ret r=>
      have:=h r rfl
      show(bif decide (r≠0)then Option.some r else rest)=Option.some r
      rw[Aoo this];rfl
theorem rM {α:Type} {n lo hi:Int} {a b:α}:(bif decide (n<lo)then a else(bif decide (hi<n)then a else b))=(bif !decide (lo≤n∧n≤hi)then a else b):=by
  by_cases h1:n<lo
  ·rw[Aoo h1,Aop (p:=lo≤n∧n≤hi) (by omega)];rfl
  ·by_cases h2:hi<n
   ·rw[Aop h1,Aoo h2,Aop (by omega)];rfl
   ·rw[Aop h1,Aop h2,Aoo (by omega)];rfl
theorem bf {p q:Prop} [Decidable p] [Decidable q]:(bif decide p then Option.some false else Option.some (decide q))=Option.some (decide (¬p∧q)):=by
  by_cases h1:p<;>by_cases h2:q<;>simp[h1,h2]
theorem bt {p q:Prop} [Decidable p] [Decidable q]:(bif decide p then Option.some (decide q)else Option.some false)=Option.some (decide (p∧q)):=by
  by_cases h1:p<;>by_cases h2:q<;>simp[h1,h2]
theorem ba {α:Type} {p q:Prop} [Decidable p] [Decidable q] {a b:α}:(bif !decide p then a else(bif !decide q then a else b))=(bif !decide (p∧q)then a else b):=by
  by_cases h1:p<;>by_cases h2:q<;>simp[h1,h2]
theorem yG {α:Type} {x y:Int} {a b:α}:(bif decide (x<y)then a else b)=(bif !decide (y≤x)then a else b):=by
  by_cases h:x<y
  ·rw[Aoo h,Aop (by omega)];rfl
  ·rw[Aop h,Aoo (by omega)];rfl
theorem Aee {α:Type} {x y:Int} {a b:α}:(bif decide (x≤y)then a else b)=(bif !decide (y<x)then a else b):=by
  by_cases h:x≤y
  ·rw[Aoo h,Aop (by omega)];rfl
  ·rw[Aop h,Aoo (by omega)];rfl
theorem in2 {lo n hi:Int}:(bif (decide (lo≤n))then Option.some (decide (n≤hi))else Option.some false)=Option.some (decide (lo≤n∧n≤hi)):=bt
theorem pV {α σ τ ρ:Type} {step:Nat→α→σ→Option (Out σ ρ)} {step':Nat→α→τ→Option (Out τ ρ)} (l:List α) (R:Nat→σ→τ→Prop)
    (hs:∀ i x s t,l[i]? =Option.some x→R i s t→(∃ s' t',step i x s=Option.some (.next s')∧step' i x t=Option.some (.next t')∧R (i+1) s' t')∨(∃ r,step i x s=Option.some (.ret r)∧step' i x t=Option.some (.ret r))) :
    ∀ (n k:Nat) (s:σ) (t:τ),l.length - k=n→k≤l.length→R k s t→(∃ s' t',Al step k (l.drop k) s=Option.some (.next s')∧Al step' k (l.drop k) t=Option.some (.next t')∧R l.length s' t')∨(∃ r,Al step k (l.drop k) s=Option.some (.ret r)∧Al step' k (l.drop k) t=Option.some (.ret r))
  | 0,k,s,t,hn,hk,hR=>by
    have:k=l.length:=by omega
    subst this
    rw[List.drop_length]
    exact .inl ⟨s,t,rfl,rfl,hR⟩
  | n+1,k,s,t,hn,hk,hR=>by
    have ah:k<l.length:=by omega
    rw[List.drop_eq_getElem_cons ah]
    rcases hs k _ s t (Aoq ah) hR with⟨s',t',h1,h2,h3⟩ | ⟨r,h1,h2⟩
    ·rcases pV l R hs n (k+1) s' t' (by omega) ah h3 with⟨s2,t2,h4,h5,h6⟩ | ⟨r,h4,h5⟩
     ·exact .inl ⟨s2,t2,by rw[Go.Ab.Al,h1];exact h4,by rw[Go.Ab.Al,h2];exact h5,h6⟩
     ·exact .inr ⟨r,by rw[Go.Ab.Al,h1];exact h4,by rw[Go.Ab.Al,h2];exact h5⟩
    ·exact .inr ⟨r,by rw[Go.Ab.Al,h1];rfl,by rw[Go.Ab.Al,h2];rfl⟩
theorem wP (c:Bb):S8 c=some (decide (1≤c.Kind∧c.Kind≤3∧1≤c.Target∧c.Target≤9999∧1≤c.By∧c.By≤6∧0≤c.Since∧c.Since≤20000000)):=by
  unfold S8;simp only[bt]
theorem Acr (l:List Bb) (a b c:Int):Pu l ⟨a,b,c⟩=Fy l a b c:=by
  have:Ni ⟨a,b,c⟩=F7 a b c:=by
    funext k x s
    unfold Ni F7 Jx
    rw[Aos]
    dsimp only
    cases decide (x.Kind=a)<;>cases decide (x.Target=b)<;>cases decide (x.By=c)<;>rfl
  unfold Pu Fy;rw[this]
theorem zE (l:List Bb) (a b c:Int):Tot (Fy l a b c):=by
  unfold Fy
  refine Tot.bind (Tot.Al fun i x s _=>?_) fun o _=>Tot.on fun _=>Tot.some _
  unfold F7
  repeat' first | exact Tot.some _ | refine Tot.bif (fun _=>?_) (fun _=>?_)
theorem w6 (l:List Bb) (hl:l.length≤1000):Ag (M8 l) (Ir l):=by
  unfold M8 Ir
  refine Ag.bif rfl (fun _=>Ag.some _) fun _=>?_
  refine Ag.bind (Ag.Al fun i x s hx=>?_) fun o _ _=>Ag.on fun _ _=>Ag.some _
  have hi:=(Aoz.1 hx).1
  unfold Qs Kn
  refine Ag.bind (a:=Nh x) (b:=S8 x) ⟨_,wP x,wP x⟩ fun y _ _=>?_
  refine Ag.bif rfl (fun _=>Ag.some _) fun _=>?_
  rw[Ns (by omega),Ns (by omega)]
  unfold Jx
  rw[Aos,Acr]
  exact Ag.bind (Ag.refl (zE _ _ _ _)) fun y _ _=>Ag.bif rfl (fun _=>Ag.some _) fun _=>Ag.some _
theorem tW (l:List Int) (n:Int):Wi l n=some (decide (n∈l)):=Zb fun k x hx=>rfl
theorem lF (n lo hi:Int):Rp n lo hi=some (decide (lo≤n∧n≤hi)):=by unfold Rp;exact in2
theorem wT (l:Ba) (h1:l.Items.length≤9223372036854775807) (h2:l.Signs.length≤9223372036854775807):Ag (Jw l) (Gx l):=by
  unfold Jw Gx
  refine Ag.bif rfl (fun _=>Ag.some _) fun jy=>?_
  refine Ag.bif rfl (fun _=>Ag.some _) fun jx=>?_
  have jy:=Aom jy
  have jx:=Aom jx
  rw[rM,lF,Aos]
  refine Ag.bif rfl (fun _=>Ag.some _) fun _=>?_
  refine Ag.bind (Ag.Al fun i x s hx=>?_) fun o _ _=>Ag.on fun _ _=>?_
  ·have hi:=(Aoz.1 hx).1
   unfold Qo Tz
   rw[rM,lF,Aos]
   refine Ag.bif rfl (fun _=>Ag.some _) fun _=>?_
   rw[Ns (by omega),Ns (by omega)]
   simp only[contains_eq,tW,Aos]
   exact Ag.bif rfl (fun _=>Ag.some _) fun _=>Ag.some _
  ·unfold L3 O8
   refine Ag.bind (Ag.Al fun i x s hx=>?_) fun o _ _=>Ag.on fun _ _=>Ag.some _
   have hi:=(Aoz.1 hx).1
   unfold Qp T0
   simp only[contains_eq,tW,Aos]
   refine Ag.bif rfl (fun _=>Ag.some _) fun _=>?_
   rw[rM,lF,Aos]
   refine Ag.bif rfl (fun _=>Ag.some _) fun _=>?_
   rw[rM,lF,Aos]
   refine Ag.bif rfl (fun _=>Ag.some _) fun _=>?_
   refine Ag.bif rfl (fun h0=>?_) fun _=>Ag.some _
   refine Ag.refl ?_
   exact Tot.pred hi h0 (by omega) fun y=>Tot.bif (fun _=>Tot.some _) fun _=>Tot.some _
theorem tU {l:Ba} (h:Gx l=some 0):l.Items.length≤64∧l.Signs.length≤200:=by
  unfold Gx at h
  by_cases h1:((64:Int)<((l.Items.length:Nat):Int))
  ·rw[Aoo h1]at h;cases h
  ·by_cases h2:((200:Int)<((l.Signs.length:Nat):Int))
   ·rw[Aop h1,Aoo h2]at h;cases h
   ·omega
theorem rD (l:List C5) (n:Int):M5 l n=some (match l.findIdx? (fun x=>decide (x.ID=n))with | some k=>(k:Int) | none=> -1):=by
  unfold M5
  have key:∀ (l:List C5) (k:Nat),Al (H4 n) k l ()=match l.findIdx? (fun x=>decide (x.ID=n))with | some j=>some (.ret ((j+k:Nat):Int)) | none=>some (.next ()):=by
    intro l
    induction l with
    | nil=>intro k;rfl
    | cons x l ih=>
      intro k
      rw[Al,List.findIdx?_cons]
      unfold H4
      cases hx:decide (x.ID=n)with
      | true=>simp[Out.cont]
      | false=>
        rw[cond_false,Aos]
        show Al (H4 n) (k+1) l ()=_
        rw[ih (k+1)]
        cases l.findIdx? (fun x=>decide (x.ID=n))with
        | none=>rfl
        | some j=>simp;omega
  rw[key l 0]
  cases l.findIdx? (fun x=>decide (x.ID=n))with
  | none=>rfl
  | some j=>rfl
theorem zF (p:Bk) (h1:p.Ci.length≤1000) (h2:p.Hazards.length≤1000) (h3:∀ x∈p.Ci,x.List_.Items.length≤9223372036854775807∧x.List_.Signs.length≤9223372036854775807):Ag (Pe p) (Iq p):=by
  unfold Pe Iq
  refine Ag.bif rfl (fun _=>Ag.some _) fun _=>?_
  refine Ag.bif rfl (fun _=>Ag.some _) fun _=>?_
  refine Ag.bind (Ag.Al fun i x s hx=>?_) fun o _ _=>Ag.on fun _ _=>?_
  ·have hi:=(Aoz.1 hx).1
   have hI:=wT x.List_ (h3 x (Aor hx)).1 (h3 x (Aor hx)).2
   unfold Sb Kl
   refine Ag.bif rfl (fun _=>Ag.some _) fun _=>?_
   refine Ag.bif rfl (fun _=>Ag.some _) fun _=>?_
   refine Ag.bif rfl (fun h0=>?_) fun _=>?_
   ·obtain⟨y,hy,_⟩:=iD hi (by have:=Aon h0;omega) (by omega)
    refine Ag.bind ⟨y,hy,hy⟩ fun y _ _=>?_
    refine Ag.bif rfl (fun _=>Ag.some _) fun _=>?_
    exact Ag.bind hI fun z _ _=>Ag.bif rfl (fun _=>Ag.some _) fun _=>Ag.some _
   ·exact Ag.bind hI fun z _ _=>Ag.bif rfl (fun _=>Ag.some _) fun _=>Ag.some _
  ·unfold Nc Oz
   refine Ag.bind (Ag.Al fun i x s hx=>?_) fun o _ _=>Ag.on fun _ _=>Ag.some _
   have hi:=(Aoz.1 hx).1
   have hat:Tot (Oy p x.Run):=by
     unfold Oy
     refine Tot.bind (Tot.Al fun i x s _=>?_) fun o _=>Tot.on fun _=>Tot.some _
     unfold Ri
     exact Tot.bif (fun _=>Tot.some _) fun _=>Tot.some _
   unfold Sc Tp
   refine Ag.bif rfl (fun _=>Ag.some _) fun _=>?_
   refine Ag.bif rfl (fun _=>Ag.some _) fun _=>?_
   refine Ag.bif rfl (fun _=>Ag.some _) fun _=>?_
   refine Ag.bif rfl (fun _=>Ag.some _) fun _=>?_
   rw[Ns (by omega),rD,Aos]
   have hat2:Ag ((K7 p x.Run).bind fun y5=>(bif (decide (y5<(0:Int)))then some (Out.ret (8:Int))else some (Out.next ()))) ((Oy p x.Run).bind fun y6=>(bif (decide (y6<(0:Int)))then some (Out.ret (8:Int))else some (Out.next ()))):=
     Ag.bind (a:=K7 p x.Run) (b:=Oy p x.Run) (Ag.refl hat) fun z _ _=>Ag.bif rfl (fun _=>Ag.some _) fun _=>Ag.some _
   rcases Zh (step:=Km p x) (n:=i) (s:=()) (by omega) (fun j _=>∀ y∈p.Hazards.take j,y.ID≠x.ID) (fun r=>r= .ret 7∧∃ y∈p.Hazards.take i,y.ID=x.ID) (by simp) (fun j s hj hI=>by
       have hy:p.Hazards[j]? =some (p.Hazards[j]'(by omega)):=Aoq (by omega)
       generalize (p.Hazards[j]'(by omega))=y at hy
       unfold Km
       rw[S1 rfl hy,Aos]
       by_cases e:y.ID=x.ID
       ·rw[Aoo e]
        exact .inr ⟨_,rfl,rfl,y,Aor (by rw[List.getElem?_take,if_pos hj];exact hy),e⟩
       ·rw[Aop e]
        refine .inl ⟨_,rfl,fun z hz=>?_⟩
        rw[Bi hy,Aox,List.mem_singleton]at hz
        rcases hz with hz | rfl
        ·exact hI z hz
        ·exact e)with ⟨s',e1,e2⟩ | ⟨r,e1,rfl,e2⟩
   ·have e3:(p.Hazards.take i).findIdx? (fun y=>decide (y.ID=x.ID))=none:=by
      rw[List.findIdx?_eq_none_iff];intro y hy;simpa using e2 y hy
    rw[e1,e3]
    exact hat2
   ·rw[e1]
    cases e3:(p.Hazards.take i).findIdx? (fun y=>decide (y.ID=x.ID))with
    | none=>
      rw[List.findIdx?_eq_none_iff]at e3
      obtain⟨y,hy,e⟩:=e2
      have:=e3 y hy;simp[e]at this
    | some j=>
      show Ag (bif decide ((0:Int)≤((j:Nat):Int))then _ else _) _
      rw[Aoo (Int.natCast_nonneg j)]
      exact Ag.some _
theorem vT (l:List C7) (hl:l.length≤1000):Ag (Mr l) (Rm l):=by
  refine Ag.tF ?_ rfl
  unfold Mr
  refine Tot.bif (fun _=>Tot.some _) fun _=>?_
  refine Tot.bind (Tot.Al fun i x s hx=>?_) fun o _=>Tot.on fun _=>Tot.some _
  have hi:=(Aoz.1 hx).1
  unfold P9
  repeat' first | exact Tot.some _ | (refine Tot.pred hi ‹_› (by omega) fun y=>?_) | refine Tot.bif (fun h0=>?_) (fun _=>?_)
theorem rW (l:List Int) (hl:l.length≤9223372036854775807):Tot (Ku l):=by
  unfold Ku
  refine Tot.bind (Tot.Al fun i x s hx=>?_) fun o _=>Tot.on fun _=>Tot.some _
  have hi:=(Aoz.1 hx).1
  unfold Kt
  repeat' first | exact Tot.some _ | (refine Tot.pred hi ‹_› (by omega) fun y=>?_) | refine Tot.bif (fun h0=>?_) (fun _=>?_)
def vL (b:A2):Prop:=1≤b.Version∧b.Version≤1000000∧0≤b.Span.From∧b.Span.From<b.Span.To∧b.Span.To≤20000000∧0≤b.Low∧b.Low<b.High∧b.High≤6000∧1≤b.Level∧b.Level≤5
instance (b:A2):Decidable (vL b):=by unfold vL;infer_instance
theorem Acy (b:A2):H7 b=some (decide (vL b)):=by
  unfold H7;simp only[bf,bt]
  congr 1
  rw[decide_eq_decide];unfold vL;omega
theorem oI (l:List A2) (i:Nat) (x:A2):Fk l i x ()=Gb l i x ():=by
  unfold Fk Gb
  rw[Acy,Aos]
  by_cases h:vL x
  ·obtain⟨h1,h2,h3,h4,h5,h6,h7,h8,h9,pr⟩:=id h
   rw[Aoo h,Aop (p:=x.Version<1) (by omega),Aop (p:=(1000000:Int)<x.Version) (by omega),Aop (p:=x.Span.From<0) (by omega),Aop (p:=x.Span.To≤x.Span.From) (by omega),Aop (p:=(20000000:Int)<x.Span.To) (by omega),Aop (p:=x.Low<0) (by omega),Aop (p:=x.High≤x.Low) (by omega),Aop (p:=(6000:Int)<x.High) (by omega),Aop (p:=x.Level<1) (by omega),Aop (p:=(5:Int)<x.Level) (by omega)]
   rfl
  ·rw[Aop h]
   show some (Out.ret (2:Int))=_
   by_cases h1:x.Version<1
   ·rw[Aoo h1];rfl
   rw[Aop h1]
   by_cases h2:(1000000:Int)<x.Version
   ·rw[Aoo h2];rfl
   rw[Aop h2]
   by_cases h3:x.Span.From<0
   ·rw[Aoo h3];rfl
   rw[Aop h3]
   by_cases h4:x.Span.To≤x.Span.From
   ·rw[Aoo h4];rfl
   rw[Aop h4]
   by_cases h5:(20000000:Int)<x.Span.To
   ·rw[Aoo h5];rfl
   rw[Aop h5]
   by_cases h6:x.Low<0
   ·rw[Aoo h6];rfl
   rw[Aop h6]
   by_cases h7:x.High≤x.Low
   ·rw[Aoo h7];rfl
   rw[Aop h7]
   by_cases h8:(6000:Int)<x.High
   ·rw[Aoo h8];rfl
   rw[Aop h8]
   by_cases h9:x.Level<1
   ·rw[Aoo h9];rfl
   rw[Aop h9]
   by_cases pr:(5:Int)<x.Level
   ·rw[Aoo pr];rfl
   exact absurd ⟨by omega,by omega,by omega,by omega,by omega,by omega,by omega,by omega,by omega,by omega⟩ h
theorem uW (l:List A2) (hl:l.length≤1000) (hz:∀ b∈l,b.Zones.length≤9223372036854775807):Ag (H8 l) (Iu l):=by
  refine Ag.tF ?_ ?_
  ·unfold H8
   refine Tot.bif (fun _=>Tot.some _) fun _=>?_
   refine Tot.bind (Tot.Al fun i x s hx=>?_) fun o _=>Tot.on fun _=>Tot.some _
   have hi:=(Aoz.1 hx).1
   unfold Fk
   rw[Acy,Aos]
   refine Tot.bif (fun _=>Tot.some _) fun _=>?_
   refine Tot.bind (rW x.Zones (hz x (Aor hx))) fun y _=>?_
   refine Tot.bif (fun _=>Tot.some _) fun _=>?_
   refine Tot.bif (fun h0=>?_) fun _=>Tot.some _
   exact Tot.pred hi h0 (by omega) fun y=>Tot.bif (fun _=>Tot.some _) fun _=>Tot.some _
  ·unfold H8 Iu
   have:Fk l=Gb l:=by funext i x s;exact oI l i x
   rw[this]
theorem rC (n lo hi:Int):M4 n lo hi=some (decide (lo≤n∧n≤hi)):=by unfold M4;exact in2
theorem Ady (n lo hi:Int):Kx n lo hi=some (decide (lo≤n∧n≤hi)):=by unfold Kx;exact in2
def qH (m:A5):Prop:=1≤m.ID∧m.ID≤9999∧1≤m.Slide∧m.Slide≤9999∧1≤m.By∧m.By≤9999∧0≤m.State∧m.State≤6∧0≤m.Since∧m.Since≤20000000∧0≤m.Window.From∧m.Window.From<m.Window.To∧m.Window.To≤20000000
instance (m:A5):Decidable (qH m):=by unfold qH;infer_instance
theorem Ae3 (m:A5):M9 m=some (decide (qH m)):=by
  unfold M9;simp only[bf,bt]
  congr 1
  rw[decide_eq_decide];unfold qH;omega
theorem uY (m:A5):Qt m=some (decide (0≤m.State∧m.State≤4)):=by
  unfold Qt I4 E0
  by_cases h0:m.State=0
  ·rw[Aoo h0,Aoo (p:=0≤m.State∧m.State≤4) (by omega)];rfl
  ·by_cases h1:m.State=1
   ·rw[Aop h0,Aoo h1,Aoo (p:=0≤m.State∧m.State≤4) (by omega)];rfl
   ·by_cases h2:m.State=2
    ·rw[Aop h0,Aop h1,Aoo h2,Aoo (p:=0≤m.State∧m.State≤4) (by omega)];rfl
    ·by_cases h3:m.State=3
     ·rw[Aop h0,Aop h1,Aop h2,Aoo h3,Aoo (p:=0≤m.State∧m.State≤4) (by omega)];rfl
     ·by_cases h4:m.State=4
      ·rw[Aop h0,Aop h1,Aop h2,Aop h3,Aoo h4,Aoo (p:=0≤m.State∧m.State≤4) (by omega)];rfl
      ·rw[Aop h0,Aop h1,Aop h2,Aop h3,Aop h4,Aop (p:=0≤m.State∧m.State≤4) (by omega)];rfl
theorem lS (m:A5):No m=some (decide (0≤m.State∧m.State≤4)):=by unfold No;rw[rC];rfl
def opn (m:A5):Bool:=decide (0≤m.State∧m.State≤4)
theorem Aa9 (l:List A5) (s:Int):Rk l s=some (l.any fun x=>opn x&&decide (x.Slide=s)):=by
  unfold Rk
  rw[Fz (fun x=>opn x&&decide (x.Slide=s)) (fun _=>true) (fun k x _=>by
   unfold Ts;rw[lS,Aos];show(bif opn x then _ else _)=_
   cases opn x<;>cases decide (x.Slide=s)<;>rfl)]
  cases h:l.find? (fun x=>opn x&&decide (x.Slide=s))with
  | none=>
    have:(l.any fun x=>opn x&&decide (x.Slide=s))=false:=by
      rw[List.any_eq_false];rw[List.find?_eq_none]at h;exact h
    rw[this];rfl
  | some x=>
    have:(l.any fun x=>opn x&&decide (x.Slide=s))=true:=by
      rw[List.any_eq_true];exact⟨x,List.mem_of_find?_eq_some h,List.find?_some (p:=fun x=>opn x&&decide (x.Slide=s)) h⟩
    rw[this];rfl
theorem xB (l:List A5) (i:Nat) (x:A5) (hi:i<l.length) (hl:l.length≤1000) :
    ((J8 (Ib l i x) i ()).bind fun o4=>o4.on fun s4=>some (Out.next ()))=(some (bif opn x&&((l.take i).any fun y=>opn y&&decide (y.Slide=x.Slide))then Out.ret (15:Int)else Out.next ()):Option (Out Unit Int)):=by
  rcases Zh (step:=Ib l i x) (n:=i) (s:=()) (by omega) (fun j _=>∀ y∈l.take j,¬ (opn x=true∧opn y=true∧y.Slide=x.Slide)) (fun r=>r= .ret 15∧∃ y∈l.take i,opn x=true∧opn y=true∧y.Slide=x.Slide) (by simp) (fun j s hj hI=>by
      have hy:l[j]? =some (l[j]'(by omega)):=Aoq (by omega)
      generalize (l[j]'(by omega))=y at hy
      have hyt:(l.take i)[j]? =some y:=by rw[List.getElem?_take,if_pos hj];exact hy
      unfold Ib
      rw[S1 rfl hyt,Aos,uY,uY,Aos,Aos]
      show(∃ s',(bif opn x then bif opn y then _ else _ else _)=_∧_)∨(∃ r,(bif opn x then bif opn y then _ else _ else _)=_∧_)
      by_cases e:opn x=true∧opn y=true∧y.Slide=x.Slide
      ·rw[e.1,e.2.1,Aoo e.2.2]
       exact .inr ⟨_,rfl,rfl,y,Aor hyt,e.1 ▸ e⟩
      ·refine .inl ⟨(),?_,fun z hz=>?_⟩
       ·cases h1:opn x with
        | false=>rfl
        | true=>
          cases h2:opn y with
          | false=>rfl
          | true=>rw[Aop (fun h3=>e ⟨h1,h2,h3⟩)];rfl
       ·rw[Bi hy,Aox,List.mem_singleton]at hz
        rcases hz with hz | rfl
        ·exact hI z hz
        ·exact e)with ⟨s',e1,e2⟩ | ⟨r,e1,rfl,y,hy,e2,e3,e4⟩
  ·rw[e1]
   have:(opn x&&((l.take i).any fun y=>opn y&&decide (y.Slide=x.Slide)))=false:=by
     rw[Bool.and_eq_false_iff]
     by_cases hx:opn x=true
     ·right
      rw[List.any_eq_false]
      intro y hy h
      simp at h
      exact e2 y hy ⟨hx,h.1,h.2⟩
     ·left;simpa using hx
   rw[this];rfl
  ·rw[e1]
   have:(opn x&&((l.take i).any fun y=>opn y&&decide (y.Slide=x.Slide)))=true:=by
     rw[Bool.and_eq_true]
     exact⟨e2,List.any_eq_true.2 ⟨y,hy,by simp[e3,e4]⟩⟩
   rw[this];rfl
theorem z6 (l:List A5) (n:Int):Tot (N3 l n):=by
  unfold N3
  refine Tot.bind (Tot.Al fun i x s _=>?_) fun o _=>Tot.on fun _=>Tot.some _
  unfold Tt
  exact Tot.bif (fun _=>Tot.some _) fun _=>Tot.some _
theorem Acz (l:List A5) (hl:l.length≤1000):Ag (R1 l) (It l):=by
  unfold R1 It
  refine Ag.bif rfl (fun _=>Ag.some _) fun _=>?_
  refine Ag.bind (Ag.Al fun i x s hx=>?_) fun o _ _=>Ag.on fun _ _=>Ag.some _
  have hi:=(Aoz.1 hx).1
  unfold Ug Ko
  simp only[Ae3,rC,Aos]
  rw[yG (x:=x.Window.From),Aee (x:=x.Window.To),yG (y:=x.Window.To)]
  simp only[ba]
  rw[show decide (qH x)=decide ((1≤x.ID∧x.ID≤9999)∧(1≤x.Slide∧x.Slide≤9999)∧(1≤x.By∧x.By≤9999)∧(0≤x.State∧x.State≤6)∧(0≤x.Since∧x.Since≤20000000)∧0≤x.Window.From∧x.Window.From<x.Window.To∧x.Window.To≤20000000) from by rw[decide_eq_decide];unfold qH;omega]
  refine Ag.bif rfl (fun _=>Ag.some _) fun _=>?_
  have ho:∀ {α:Type} (o:Option α),okB (decide ((0:Int)≤((i:Nat):Int)∧((i:Nat):Int)≤((l.length:Nat):Int))) o=o:=fun o=>Ns (by omega)
  simp only[ho]
  refine Ag.bind (a:=Xi (l.take i) x.ID) (b:=N3 (l.take i) x.ID) (Ag.refl (z6 _ _)) fun y _ _=>?_
  refine Ag.bif rfl (fun _=>Ag.some _) fun _=>?_
  rw[xB l i x hi hl,lS,Aos]
  show Ag _ (bif opn x then _ else _)
  cases h:opn x with
  | false=>exact Ag.some _
  | true=>
    rw[cond_true,Aa9,Aos,Bool.true_and]
    cases((l.take i).any fun y=>opn y&&decide (y.Slide=x.Slide))<;>exact Ag.some _
def qJ (g:B3):Prop:=1≤g.ID∧g.ID≤9999∧1≤g.Node∧g.Node≤9999∧0≤g.Fuel∧g.Fuel≤1000000∧0≤g.State∧g.State≤2∧0≤g.Until∧g.Until≤20000000∧0≤g.To∧g.To≤9999∧0≤g.Run∧g.Run≤9999
instance (m:B3):Decidable (qJ m):=by unfold qJ;infer_instance
theorem Ae8 (m:B3):Jo m=some (decide (qJ m)):=by
  unfold Jo;simp only[bf,bt]
  congr 1
  rw[decide_eq_decide];unfold qJ;omega
theorem tX (l:List B3) (n:Int):∃ r,Ro l n=some r∧(0≤r↔∃ x∈l,x.ID=n):=by
  unfold Ro
  rcases E5 (step:=O5 n) (l:=l) (s:=()) (fun k _=>∀ x∈l.take k,x.ID≠n) (fun r=>0≤r∧∃ x∈l,x.ID=n) (by simp) (fun k x s hk hI=>by
      unfold O5
      by_cases e:x.ID=n
      ·rw[Aoo e];exact .inr ⟨_,rfl,by omega,x,Aor hk,e⟩
      ·rw[Aop e]
       refine .inl ⟨_,rfl,fun z hz=>?_⟩
       rw[Bi hk,Aox,List.mem_singleton]at hz
       rcases hz with hz | rfl
       ·exact hI z hz
       ·exact e)with ⟨s',e1,e2⟩ | ⟨r,e1,e2,e3⟩
  ·rw[List.take_length]at e2
   rw[e1]
   exact⟨_,rfl,by constructor
                  ·intro h;exact absurd h (by decide)
                  ·rintro⟨x,hx,e⟩;exact absurd e (e2 x hx)⟩
  ·rw[e1];exact⟨r,rfl,fun _=>e3,fun _=>e2⟩
theorem wW (l:List B3) (hl:l.length≤1000):Ag (M6 l) (N8 l):=by
  unfold M6 N8
  refine Ag.bif rfl (fun _=>Ag.some _) fun _=>?_
  have key:=pV (step:=L5) (step':=O6 l) l (fun k sv _=>∀ n,mget false sv n=decide (∃ x∈l.take k,x.ID=n)) (fun i x sv t hx hR=>by
    have hi:=(Aoz.1 hx).1
    unfold L5 O6
    simp only[Ae8,Ady,Aos,ba]
    rw[show decide (qJ x)=decide ((1≤x.ID∧x.ID≤9999)∧(1≤x.Node∧x.Node≤9999)∧(0≤x.Fuel∧x.Fuel≤1000000)∧(0≤x.State∧x.State≤2)∧(0≤x.Until∧x.Until≤20000000)∧(0≤x.To∧x.To≤9999)∧0≤x.Run∧x.Run≤9999) from by rw[decide_eq_decide];unfold qJ;omega]
    rw[Ns (by omega)]
    obtain⟨r,h1,h2⟩:=tX (l.take i) x.ID
    rw[h1,Aos,hR,show decide ((0:Int)≤r)=decide (∃ y∈l.take i,y.ID=x.ID) from by rw[decide_eq_decide];exact h2]
    generalize (!decide ((1≤x.ID∧x.ID≤9999)∧(1≤x.Node∧x.Node≤9999)∧(0≤x.Fuel∧x.Fuel≤1000000)∧(0≤x.State∧x.State≤2)∧(0≤x.Until∧x.Until≤20000000)∧(0≤x.To∧x.To≤9999)∧0≤x.Run∧x.Run≤9999))=b1
    generalize oc:decide (∃ y∈l.take i,y.ID=x.ID)=b2
    generalize (decide (x.To≠0) !=decide (x.State=1))=b3
    generalize (decide (x.Run≠0) !=decide (x.State=2))=b4
    cases b1 with
    | true=>exact .inr ⟨_,rfl,rfl⟩
    | false=>
      cases b2 with
      | true=>exact .inr ⟨_,rfl,rfl⟩
      | false=>
        cases b3 with
        | true=>exact .inr ⟨_,rfl,rfl⟩
        | false=>
          cases b4 with
          | true=>exact .inr ⟨_,rfl,rfl⟩
          | false=>
            refine .inl ⟨_,_,rfl,rfl,fun n=>?_⟩
            rw[aG,hR]
            by_cases e:x.ID=n
            ·subst e
             rw[if_pos rfl,eq_comm,decide_eq_true_iff]
             exact⟨x,by rw[Bi hx];simp,rfl⟩
            ·rw[if_neg e,decide_eq_decide,Bi hx]
             constructor
             ·rintro⟨y,hy,e'⟩;exact⟨y,List.mem_append_left _ hy,e'⟩
             ·rintro⟨y,hy,e'⟩
              rw[Aox,List.mem_singleton]at hy
              rcases hy with hy | rfl
              ·exact⟨y,hy,e'⟩
              ·exact absurd e' e) l.length 0 [] () rfl (Nat.zero_le _) (fun n=>by simp[mget])
  rw[List.drop_zero]at key
  rcases key with⟨s',t',h1,h2,_⟩ | ⟨r,h1,h2⟩
  ·rw[h1,h2];exact Ag.some _
  ·rw[h1,h2];exact Ag.some _
theorem Aey (m:Av):lL m=Mq m:=rfl
theorem Ae4 (m:Av):Ag (Mq m) (Iv m):=by
  obtain⟨r,h1,h2,_⟩:=Yp m
  exact⟨r,by rw[← Aey];exact h1,h2⟩
theorem St (m:Av) (id:Int):E9 m id=some (He m id):=Zi fun _ _ _=>rfl
theorem Z9 (m:Av) (id:Int):Ju m id=some (He m id):=Zi fun _ _ _=>rfl
theorem Aa8 (m:Av) (id:Int):Ol m id=some (Af5 m id):=Zi fun _ _ _=>rfl
theorem Aa7 (m:Av) (id:Int):Ef m id=some (Df m id):=Zi fun _ _ _=>rfl
structure rV (f:Af):Prop where
  closures:f.Closures.length≤12
  lists:f.Patrol.Ci.length≤12
  jk:f.Patrol.Hazards.length≤12
  surfaces:f.Surfaces.length≤12
  slides:f.Slides.length≤12
  bulletin:f.Bulletin.length≤12
  missions:f.Missions.length≤12
  winches:f.Winches.length≤12
  groomers:f.Groomers.length≤12
structure Aa0 (f:Af):Prop where
  items:∀ x∈f.Patrol.Ci,x.List_.Items.length≤9223372036854775807∧x.List_.Signs.length≤9223372036854775807
  zones:∀ x∈f.Slides,x.Zones.length≤9223372036854775807∧x.Lifts.length≤9223372036854775807
  bzones:∀ x∈f.Bulletin,x.Zones.length≤9223372036854775807
  runs:∀ x∈f.Winches,x.Runs.length≤9223372036854775807
theorem Abp (f:Af) (h:rV f) (hi:Aa0 f):Ag (Fb f) (Kh f):=by
  obtain⟨y1,a1,b1⟩:=Ae4 f.Map
  obtain⟨y2,a2,b2⟩:=w6 f.Closures (by have:=h.closures;omega)
  obtain⟨y3,a3,b3⟩:=zF f.Patrol (by have:=h.lists;omega) (by have:=h.jk;omega) (fun x hx=>by have:=hi.items x hx;omega)
  obtain⟨y4,a4,b4⟩:=vT f.Surfaces (by have:=h.surfaces;omega)
  obtain⟨y5,a5,b5,_⟩:=S50.Yp f.Slides ⟨by have:=h.slides;omega,hi.zones⟩
  obtain⟨y6,a6,b6⟩:=uW f.Bulletin (by have:=h.bulletin;omega) hi.bzones
  obtain⟨y7,a7,b7⟩:=Acz f.Missions (by have:=h.missions;omega)
  obtain⟨y8,b8,a8,_⟩:=W46.sI hi.runs
  obtain⟨y9,a9,b9⟩:=wW f.Groomers (by have:=h.groomers;omega)
  unfold Fb Kh
  simp only[a1,a2,a3,a4,a5,a6,a7,a8,a9,b1,b2,b3,b4,b5,b6,b7,b8,b9,Aos]
  have st:∀ (k:Nat) y,[y1,y2,y3,y4,y5,y6,y7,y8,y9][k]? =some y→∀ s:Unit,F6 y1 y2 y3 y4 y5 y6 y7 y8 y9 k () s=(bif decide (y≠0)then some (Out.ret y)else some (Out.next ())):=by
    intro k y hk s
    unfold F6
    rw[S1 rfl hk];rfl
  unfold J8
  rw[if_pos (by decide),show List.replicate 9 ()=[(),(),(),(),(),(),(),(),()] from rfl]
  simp only[Al,Nat.zero_add,Nat.reduceAdd]
  simp only[st 0 y1 rfl,st 1 y2 rfl,st 2 y3 rfl,st 3 y4 rfl,st 4 y5 rfl,st 5 y6 rfl,st 6 y7 rfl,st 7 y8 rfl,st 8 y9 rfl]
  by_cases e9:y9=0
  ·subst e9
   cases decide (y1≠0)
   rotate_left
   ·exact⟨_,rfl,rfl⟩
   cases decide (y2≠0)
   rotate_left
   ·exact⟨_,rfl,rfl⟩
   cases decide (y3≠0)
   rotate_left
   ·exact⟨_,rfl,rfl⟩
   cases decide (y4≠0)
   rotate_left
   ·exact⟨_,rfl,rfl⟩
   cases decide (y5≠0)
   rotate_left
   ·exact⟨_,rfl,rfl⟩
   cases decide (y6≠0)
   rotate_left
   ·exact⟨_,rfl,rfl⟩
   cases decide (y7≠0)
   rotate_left
   ·exact⟨_,rfl,rfl⟩
   cases decide (y8≠0)
   rotate_left
   ·exact⟨_,rfl,rfl⟩
   exact⟨_,rfl,rfl⟩
  ·rw[Aoo (p:=y9≠0) e9]
   cases decide (y1≠0)
   rotate_left
   ·exact⟨_,rfl,rfl⟩
   cases decide (y2≠0)
   rotate_left
   ·exact⟨_,rfl,rfl⟩
   cases decide (y3≠0)
   rotate_left
   ·exact⟨_,rfl,rfl⟩
   cases decide (y4≠0)
   rotate_left
   ·exact⟨_,rfl,rfl⟩
   cases decide (y5≠0)
   rotate_left
   ·exact⟨_,rfl,rfl⟩
   cases decide (y6≠0)
   rotate_left
   ·exact⟨_,rfl,rfl⟩
   cases decide (y7≠0)
   rotate_left
   ·exact⟨_,rfl,rfl⟩
   cases decide (y8≠0)
   rotate_left
   ·exact⟨_,rfl,rfl⟩
   exact⟨_,rfl,rfl⟩
theorem pD (p:Fo):Kd p=Kz p:=rfl
theorem qU (p:Fo):Kz p=some (decide ((0≤p.Natural∧p.Natural≤20000)∧(0≤p.Machine∧p.Machine≤20000)∧50≤p.Density∧p.Density≤900)):=by
  unfold Kz Wj
  simp only[bt,Aos]
theorem pU (f:Af) (h:rV f) (hi:Aa0 f) (h1:f.Lifts.length≤100) (h2:f.Packs.length≤100) (h3:f.Status.length≤100):Ag (Gs f) (Ip f):=by
  unfold Gs Ip
  refine Ag.bind (Abp f h hi) fun y _ _=>?_
  refine Ag.bif rfl (fun _=>Ag.some _) fun _=>?_
  refine Ag.bif rfl (fun _=>Ag.some _) fun _=>?_
  refine Ag.bif rfl (fun _=>Ag.some _) fun _=>?_
  refine Ag.bif rfl (fun _=>Ag.some _) fun _=>?_
  unfold G2
  rw[vU (Dv.Al fun i x s=>by
   unfold Fg
   repeat' first | exact Dv.ret (by decide) | exact Dv.next _ | refine Dv.bif (fun _=>?_) (fun _=>?_) | refine Dv.bind fun _ _=>?_)]
  refine Ag.bind (Ag.Al fun i x s hx=>?_) fun o _ _=>Ag.on fun _ _=>?_
  ·have dt:=(Aoz.1 hx).1
   refine Ag.tF ?_ rfl
   unfold Fg
   rw[Aa8,Aos]
   repeat' first | exact Tot.some _ | (refine Tot.pred dt ‹_› (by omega) fun y=>?_) | refine Tot.bif (fun h0=>?_) (fun _=>?_)
  unfold G1 Kj
  rw[vU (Dv.Al fun i x s=>by
   unfold Ff
   repeat' first | exact Dv.ret (by decide) | exact Dv.next _ | refine Dv.bif (fun _=>?_) (fun _=>?_) | refine Dv.bind fun _ _=>?_)]
  refine Ag.bind (Ag.Al fun i x s hx=>?_) fun o _ _=>Ag.on fun _ _=>?_
  ·have dt:=(Aoz.1 hx).1
   refine Ag.tF ?_ rfl
   unfold Ff
   rw[pD,qU,Aos]
   repeat' first | exact Tot.some _ | (refine Tot.pred dt ‹_› (by omega) fun y=>?_) | refine Tot.bif (fun h0=>?_) (fun _=>?_)
  unfold Gn Ki
  rw[vU (Dv.Al fun i x s=>by
   unfold E8
   repeat' first | exact Dv.ret (by decide) | exact Dv.next _ | refine Dv.bif (fun _=>?_) (fun _=>?_) | refine Dv.bind fun _ _=>?_)]
  refine Ag.bind (Ag.Al fun i x s hx=>?_) fun o _ _=>Ag.on fun _ _=>?_
  ·have dt:=(Aoz.1 hx).1
   refine Ag.tF ?_ rfl
   unfold E8
   rw[St,Aos]
   repeat' first | exact Tot.some _ | (refine Tot.pred dt ‹_› (by omega) fun y=>?_) | refine Tot.bif (fun h0=>?_) (fun _=>?_)
  refine Ag.refl ?_
  repeat' first | exact Tot.some _ | refine Tot.bif (fun h0=>?_) (fun _=>?_)
def stp (L:List Int→Int→Bool) (s:List Int):List Int:=s.filter (L s)
def iter (L:List Int→Int→Bool):Nat→List Int→List Int
  | 0,s=>s
  | n+1,s=>iter L n (stp L s)
section
variable {L:List Int→Int→Bool}
theorem kX (s:List Int):(stp L s).Sublist s:=List.filter_sublist
theorem xV {s:List Int} (h:(stp L s).length=s.length):stp L s=s:=(kX s).eq_of_length h
theorem Y8 {s:List Int} (h:stp L s=s):∀ n,iter L n s=s
  | 0=>rfl
  | n+1=>by rw[iter,h];exact Y8 h n
theorem U1:∀ (n:Nat) (s:List Int),s.length≤n→stp L (iter L n s)=iter L n s
  | 0,s,h=>by
    have:s=[]:=List.eq_nil_of_length_eq_zero (by omega)
    subst this;rfl
  | n+1,s,h=>by
    by_cases e:stp L s=s
    ·rw[Y8 e];exact e
    ·have h1:=(kX (L:=L) s).length_le
     have h2:(stp L s).length≠s.length:=fun h=>e (xV h)
     exact U1 n _ (by omega)
theorem mN:∀ (n m:Nat) (s:List Int),iter L (n+m) s=iter L m (iter L n s)
  | 0,m,s=>by rw[Nat.zero_add];rfl
  | n+1,m,s=>by rw[Nat.succ_add];exact mN n m _
theorem iter_eq {s:List Int} {n m:Nat} (hn:stp L (iter L n s)=iter L n s) (hm:stp L (iter L m s)=iter L m s):iter L n s=iter L m s:=by
  have h1:=Y8 hn m
  have h2:=Y8 hm n
  rw[← mN]at h1 h2
  rw[← h1,Nat.add_comm,h2]
theorem tR:∀ (n:Nat) (s:List Int),(iter L n s).Sublist s
  | 0,s=>List.Sublist.refl _
  | n+1,s=>(tR n _).trans (kX s)
def gfp (L:List Int→Int→Bool) (s:List Int):List Int:=iter L s.length s
theorem wX (s:List Int):stp L (gfp L s)=gfp L s:=U1 _ _ (Nat.le_refl _)
theorem jO {s:List Int} {n:Nat} (h:stp L (iter L n s)=iter L n s):iter L n s=gfp L s:=iter_eq h (wX s)
end
theorem Wx {α:Type} {step:Nat→α→Unit→Option (Out Unit Bool)} {l:List α} (p:α→Bool) (hs:∀ k x,x∈l→step k x ()=bif p x then some (.ret true)else some (.next ())) :
    ((Al step 0 l ()).bind fun o=>o.on fun _=>some false)=some (l.any p):=by
  rw[Fz p (fun _=>true) hs]
  cases h:l.find? p with
  | none=>
    have:l.any p=false:=by rw[List.any_eq_false];rw[List.find?_eq_none]at h;exact h
    rw[this];rfl
  | some x=>
    have:l.any p=true:=by rw[List.any_eq_true];exact⟨x,List.mem_of_find?_eq_some h,List.find?_some h⟩
    rw[this];rfl
theorem x9 {α:Type} {step:Nat→α→Unit→Option (Out Unit Int)} {l:List α} (p:α→Bool) (hs:∀ k x,x∈l→step k x ()=bif p x then some (.ret ((k:Nat):Int))else some (.next ())) :
    ∃ r,((Al step 0 l ()).bind fun o=>o.on fun _=>some (-1:Int))=some r∧((r= -1∧∀ x∈l,p x=false)∨∃ (k:Nat) (x:α),r=(k:Int)∧l[k]? =some x∧p x=true):=by
  rcases E5 (step:=step) (l:=l) (s:=()) (fun k _=>∀ x∈l.take k,p x=false) (fun r=>∃ (k:Nat) (x:α),r=(k:Int)∧l[k]? =some x∧p x=true) (by simp) (fun k x s hk hI=>by
      rw[hs k x (Aor hk)]
      cases h:p x with
      | true=>exact .inr ⟨_,rfl,k,x,rfl,hk,h⟩
      | false=>
        refine .inl ⟨_,rfl,fun z hz=>?_⟩
        rw[Bi hk,Aox,List.mem_singleton]at hz
        rcases hz with hz | rfl
        ·exact hI z hz
        ·exact h)with ⟨s',e1,e2⟩ | ⟨r,e1,e2⟩
  ·rw[List.take_length]at e2
   rw[e1];exact⟨_,rfl,.inl ⟨rfl,e2⟩⟩
  ·rw[e1];exact⟨r,rfl,.inr e2⟩
def clo (l:List Bb) (kind target:Int):Bool:=l.any fun c=>decide (c.Kind=kind)&&decide (c.Target=target)
theorem qC (l:List Bb) (kind target:Int):H6 l kind target=some (clo l kind target):=by
  unfold H6 clo
  refine Wx _ fun k x _=>?_
  unfold Pv
  rw[Aoo (Int.natCast_nonneg k)]
  cases decide (x.Kind=kind)<;>cases decide (x.Target=target)<;>rfl
theorem wG (l:List Bb) (a b c:Int):∃ r,Fy l a b c=some r∧(0≤r↔∃ x∈l,x.Kind=a∧x.Target=b∧x.By=c):=by
  unfold Fy
  obtain⟨r,h1,h2⟩:=x9 (step:=F7 a b c) (l:=l) (fun x=>decide (x.Kind=a)&&(decide (x.Target=b)&&decide (x.By=c))) (fun k x _=>by
    unfold F7
    cases decide (x.Kind=a)<;>cases decide (x.Target=b)<;>cases decide (x.By=c)<;>rfl)
  refine⟨r,h1,?_⟩
  rcases h2 with⟨rfl,h2⟩ | ⟨k,x,rfl,h3,h4⟩
  ·constructor
   ·intro h;exact absurd h (by decide)
   ·rintro⟨x,hx,e1,e2,e3⟩
    have:=h2 x hx
    simp[e1,e2,e3]at this
  ·simp at h4
   exact⟨fun _=>⟨x,Aor h3,h4.1,h4.2.1,h4.2.2⟩,fun _=>Int.natCast_nonneg k⟩
theorem of_eq {l:List Bb} (hb:∀ c∈l,1≤c.By∧c.By≤6) (kind target:Int):∃ r,Tr l kind target=some r∧decide ((0:Int)<((r.length:Nat):Int))=clo l kind target:=by
  unfold Tr
  obtain⟨s',h1,h2,h3⟩:=eQ (ρ:=List Int) (n:=6) (step:=Rj l kind target) (s:=[]) (by omega) (fun k s=>s.length≤k∧(s≠[]↔∃ x∈l,x.Kind=kind∧x.Target=target∧x.By≤k)) ⟨by simp,by
      constructor
      ·intro h;exact absurd rfl h
      ·rintro⟨x,hx,_,_,h⟩;have:=(hb x hx).1;omega⟩ (fun k s hk ⟨qh,pq⟩=>by
    obtain⟨r,h1,h2⟩:=wG l kind target (((k:Nat):Int)+1)
    unfold Rj
    rw[h1,Aos]
    by_cases h:0≤r
    ·rw[Aoo h,cond_true,Bs (by omega)]
     refine⟨_,rfl,by simp;omega,?_⟩
     obtain⟨x,hx,e1,e2,e3⟩:=h2.1 h
     exact⟨fun _=>⟨x,hx,e1,e2,by rw[e3];omega⟩,fun _=>by simp⟩
    ·rw[Aop h]
     refine⟨_,rfl,by omega,?_⟩
     rw[pq]
     constructor
     ·rintro⟨x,hx,e1,e2,e3⟩;exact⟨x,hx,e1,e2,by omega⟩
     ·rintro⟨x,hx,e1,e2,e3⟩
      refine⟨x,hx,e1,e2,?_⟩
      by_cases e:x.By=(k:Int)+1
      ·exact absurd (h2.2 ⟨x,hx,e1,e2,e⟩) h
      ·omega)
  rw[h1]
  refine⟨s',rfl,?_⟩
  have:(0:Int)<((s'.length:Nat):Int)↔s'≠[]:=by
    constructor
    ·intro h e;subst e;simp at h
    ·intro h;have:=List.length_pos_iff.2 h;omega
  unfold clo
  rw[Bool.eq_iff_iff,decide_eq_true_iff,this,h3,List.any_eq_true]
  constructor
  ·rintro⟨x,hx,e1,e2,_⟩;exact⟨x,hx,by simp[e1,e2]⟩
  ·rintro⟨x,hx,e⟩;simp at e;exact⟨x,hx,e.1,e.2,(hb x hx).2⟩
theorem Ad9 (m:Av) (l:List Bb) (run:Int) (h:(He m run).2=true):Rz m l run=some (clo l 1 run||clo l 3 (He m run).1.Zone):=by
  unfold Rz
  rw[St,Aos,h,cond_true,qC,qC,Aos]
  cases clo l 1 run<;>rfl
theorem Abm {m:Av} {l:List Bb} (hb:∀ c∈l,1≤c.By∧c.By≤6) (run:Int) (h:(He m run).2=true):Wd m l run=some (clo l 1 run||clo l 3 (He m run).1.Zone):=by
  obtain⟨r1,h1,h2⟩:=of_eq hb 1 run
  obtain⟨r3,h3,h4⟩:=of_eq hb 3 (He m run).1.Zone
  unfold Wd
  rw[Z9,Aos,h,cond_true,h1,Aos,h2,h3,Aos,h4]
  cases clo l 1 run<;>rfl
def gon (l:List B3) (run:Int):Bool:=l.any fun g=>decide (g.State=2)&&decide (g.Run=run)
theorem Ae9 (l:List B3) (run:Int):T9 l run=some (gon l run):=by
  unfold T9 gon
  refine Wx _ fun k x _=>?_
  unfold Vw
  rw[Aoo (Int.natCast_nonneg k)]
  cases decide (x.State=2)<;>cases decide (x.Run=run)<;>rfl
theorem Adl (l:List B3) (run:Int):Yx l run=some (gon l run):=by
  unfold Yx gon
  refine Wx _ fun k x _=>?_
  unfold Yw
  cases decide (x.State=2)<;>cases decide (x.Run=run)<;>rfl
theorem Yo (l:List Int) (n:Int):Gw l n=some (decide (n∈l)):=Zb fun k x hx=>rfl
def act (m:A5):Bool:=decide (1≤m.State∧m.State≤4)
theorem Afl (m:A5):I4 m=some (act m):=by
  unfold I4 E0 act
  by_cases h1:m.State=1
  ·rw[Aoo h1,Aoo (p:=1≤m.State∧m.State≤4) (by omega)];rfl
  ·by_cases h2:m.State=2
   ·rw[Aop h1,Aoo h2,Aoo (p:=1≤m.State∧m.State≤4) (by omega)];rfl
   ·by_cases h3:m.State=3
    ·rw[Aop h1,Aop h2,Aoo h3,Aoo (p:=1≤m.State∧m.State≤4) (by omega)];rfl
    ·by_cases h4:m.State=4
     ·rw[Aop h1,Aop h2,Aop h3,Aoo h4,Aoo (p:=1≤m.State∧m.State≤4) (by omega)];rfl
     ·rw[Aop h1,Aop h2,Aop h3,Aop h4,Aop (p:=1≤m.State∧m.State≤4) (by omega)];rfl
def acts (l:List A5):List Int:=(l.filter act).map A5.Slide
theorem xD {l:List A5} (hl:l.length≤1000):L9 l=some (Dn (acts l)):=by
  unfold L9
  rw[Di (p:=act) (g:=A5.Slide) (by omega) (fun k x s _=>by unfold Si;rw[Afl,Aos])]
  show chk (acts l).length _=_
  rw[Bs (by have:=List.length_filter_le act l;unfold acts;rw[Aow];omega)];rfl
theorem qR (l:List A5) (last:Int) (h0:0≤last) (hr:∀ m∈l,1≤m.Slide):∃ s,Al (Jk last) 0 l 0=some (.next s)∧((s=0∧∀ n∈acts l,n≤last)∨(s∈acts l∧last<s∧∀ n∈acts l,last<n→s≤n)):=by
  obtain⟨s',h1,h2⟩:=Eb (ρ:=Out (Int×List Int) (List Int)) (step:=Jk last) (l:=l) (s:=0) (fun k s=>(s=0∧∀ n∈acts (l.take k),n≤last)∨(s∈acts (l.take k)∧last<s∧∀ n∈acts (l.take k),last<n→s≤n)) (.inl ⟨rfl,by simp[acts]⟩) (fun k x s hk hI=>by
    have hx:=Aor hk
    have fk:=hr x hx
    have e:acts (l.take (k+1))=acts (l.take k)++(if act x=true then [x.Slide]else []):=by
      unfold acts;rw[Bi hk,List.filter_append,List.map_append]
      cases h:act x<;>simp[h]
    unfold Jk
    rw[lS,Aos,e]
    by_cases ha:1≤x.State∧x.State≤4
    ·have yf:act x=true:=Aoo ha
     rw[Aoo (p:=0≤x.State∧x.State≤4) (by omega),Aoo (p:=x.State≠0) (by omega),if_pos yf]
     simp only[cond_true]
     by_cases hl:last<x.Slide
     ·rw[Aoo hl,cond_true]
      by_cases hs:s=0
      ·rw[Aoo hs]
       refine⟨_,rfl,.inr ⟨by simp,hl,fun n hn yu=>?_⟩⟩
       rcases hI with⟨_,hI⟩ | ⟨qh,pq,_⟩
       ·rw[Aox,List.mem_singleton]at hn
        rcases hn with hn | rfl
        ·have:=hI n hn;omega
        ·exact Int.le_refl _
       ·omega
      ·rw[Aop hs,cond_false]
       rcases hI with⟨h,_⟩ | ⟨qh,pq,yy⟩
       ·exact absurd h hs
       by_cases ah:x.Slide<s
       ·rw[Aoo ah]
        refine⟨_,rfl,.inr ⟨by simp,hl,fun n hn yu=>?_⟩⟩
        rw[Aox,List.mem_singleton]at hn
        rcases hn with hn | rfl
        ·have:=yy n hn yu;omega
        ·exact Int.le_refl _
       ·rw[Aop ah]
        refine⟨_,rfl,.inr ⟨List.mem_append_left _ qh,pq,fun n hn yu=>?_⟩⟩
        rw[Aox,List.mem_singleton]at hn
        rcases hn with hn | rfl
        ·exact yy n hn yu
        ·omega
     ·rw[Aop hl]
      refine⟨_,rfl,?_⟩
      rcases hI with⟨h,hI⟩ | ⟨qh,pq,yy⟩
      ·refine .inl ⟨h,fun n hn=>?_⟩
       rw[Aox,List.mem_singleton]at hn
       rcases hn with hn | rfl
       ·exact hI n hn
       ·omega
      ·refine .inr ⟨List.mem_append_left _ qh,pq,fun n hn yu=>?_⟩
       rw[Aox,List.mem_singleton]at hn
       rcases hn with hn | rfl
       ·exact yy n hn yu
       ·omega
    ·have yf:¬ act x=true:=by unfold act;simpa using ha
     rw[if_neg yf,List.append_nil]
     by_cases h1:0≤x.State∧x.State≤4
     ·rw[Aoo h1,Aop (p:=x.State≠0) (by omega)];exact⟨_,rfl,hI⟩
     ·rw[Aop h1];exact⟨_,rfl,hI⟩)
  rw[List.take_length]at h2
  exact⟨s',h1,h2⟩
theorem wD {l:List A5} (hr:∀ m∈l,1≤m.Slide∧m.Slide≤9999):∃ r,Ls l=some r∧∀ n,n∈r↔n∈acts l:=by
  have vn:∀ n∈acts l,1≤n∧n≤9999:=by
    intro n hn
    unfold acts at hn
    obtain⟨m,hm,rfl⟩:=List.mem_map.1 hn
    exact hr m (List.mem_filter.1 hm).1
  unfold Ls
  obtain⟨r,h1,h2⟩:=Hc (step:=Jl l) (fun s=>0≤s.1∧s.1≤9999∧(s.2.length:Int)≤s.1∧∀ n,n∈s.2↔n∈acts l∧n≤s.1) (fun r=>∀ n,n∈r↔n∈acts l) (fun s=>(9999 - s.1).toNat) (by
      rintro⟨last,out⟩ ⟨i0,i1,i2,i3⟩
      dsimp only at i0 i1 i2 i3
      obtain⟨s,e1,e2⟩:=qR l last i0 (fun m hm=>(hr m hm).1)
      unfold Jl
      dsimp only
      rw[e1,Aos]
      show(∃ s',(bif decide (s=0)then _ else _)=_∧_)∨(∃ r,(bif decide (s=0)then _ else _)=_∧_)
      rcases e2 with⟨rfl,e2⟩ | ⟨e2,e3,e4⟩
      ·exact .inr ⟨out,rfl,fun n=>by rw[i3];exact⟨fun h=>h.1,fun h=>⟨h,e2 n h⟩⟩⟩
      ·have hb:=vn s e2
       rw[Aop (by omega),cond_false,Bs (by omega)]
       refine .inl ⟨_,rfl,⟨by dsimp only;omega,by dsimp only;omega,by dsimp only;rw[Aou,List.length_singleton];omega,fun n=>?_⟩,by dsimp only;omega⟩
       dsimp only
       rw[Aox,List.mem_singleton,i3]
       constructor
       ·rintro(⟨h,h'⟩ | rfl)
        ·exact⟨h,by omega⟩
        ·exact⟨e2,Int.le_refl _⟩
       ·rintro⟨h,h'⟩
        by_cases hn:n≤last
        ·exact .inl ⟨h,hn⟩
        ·right;have:=e4 n h (by omega);omega) fuel (0,[]) ⟨by simp,by simp,by simp,fun n=>by simp;intro h;have:=vn n h;omega⟩ (by unfold fuel;dsimp only;omega)
  rw[h1]
  exact⟨r,rfl,h2⟩
def blasted (f:Af) (zone:Int):Bool:=f.Slides.any fun s=>decide (s.ID∈acts f.Missions)&&decide (zone∈s.Zones)
theorem xA (f:Af) (zone:Int) (hl:f.Missions.length≤1000):G3 f zone=some (blasted f zone):=by
  unfold G3 blasted
  rw[xD hl,Aos]
  refine Wx _ fun k x _=>?_
  unfold Lb
  simp only[contains_eq,Aos,N0]
  rw[Aoo (Int.natCast_nonneg k)]
  cases decide (x.ID∈acts f.Missions)<;>cases decide (zone∈x.Zones)<;>rfl
theorem sW (f:Af) (zone:Int) (hr:∀ m∈f.Missions,1≤m.Slide∧m.Slide≤9999):Mx f zone=some (blasted f zone):=by
  obtain⟨r,h1,h2⟩:=wD hr
  unfold Mx blasted
  rw[h1,Aos]
  refine Wx _ fun k x _=>?_
  unfold Qb
  simp only[Yo,Aos,h2]
  cases decide (x.ID∈acts f.Missions)<;>cases decide (zone∈x.Zones)<;>rfl
def oS (s:Hb) (t:Int):Bool:=decide (s.From≤t∧t<s.To)
theorem yH (s:Hb) (t:Int):L8 s t=some (oS s t):=by unfold L8 oS;exact bt
theorem iN (b:A2) (t:Int):Lt b t=some (oS b.Span t):=by unfold Lt oS;exact bt
theorem Ad8 (l:List A2) (t:Int):Tot (Hf l t):=by
  unfold Hf
  refine Tot.bind (Tot.Al fun i x s _=>?_) fun o _=>Tot.on fun _=>Tot.some _
  unfold H0
  rw[iN,Aos]
  exact Tot.bif (fun _=>Tot.some _) fun _=>Tot.some _
theorem Afb (l:List A2) (t:Int):Ia l t=Hf l t:=by
  have:Hr t=H0 t:=by
    funext k x sv
    unfold Hr H0
    rw[yH,iN,Aos,Aos]
    cases oS x.Span t with
    | false=>rfl
    | true=>
      rw[cond_true,cond_true]
      by_cases h:sv<x.Version
      ·rw[Aoo h,if_pos h];rfl
      ·rw[Aop h,if_neg h];rfl
  unfold Ia Hf;rw[this]
theorem Acd (l:List Int) (n:Int):aD l n=some (decide (n∈l)):=Zb fun k x hx=>rfl
theorem qD (l:List A2) (zone low high t:Int):Ag (H9 l zone low high t) (Rl l zone low high t):=by
  obtain⟨c,hc⟩:=Ad8 l t
  unfold H9 Rl
  rw[Afb,hc,Aos]
  refine Ag.bind (Ag.Al fun i x s hx=>?_) fun o _ _=>Ag.on fun _ _=>Ag.some _
  unfold Px Tw
  simp only[yH,iN,hc,Acd,contains_eq,Aos]
  generalize decide (x.Version=c)=b1
  generalize oS x.Span t=b2
  generalize decide (zone∈x.Zones)=b3
  generalize decide (x.Low<high)=b4
  generalize decide (low<x.High)=b5
  by_cases h:s<x.Level
  ·rw[Aoo h,if_pos h]
   cases b1<;>cases b2<;>cases b3<;>cases b4<;>cases b5<;>exact ⟨_,rfl,rfl⟩
  ·rw[Aop h,if_neg h]
   cases b1<;>cases b2<;>cases b3<;>cases b4<;>cases b5<;>exact ⟨_,rfl,rfl⟩
def Ld (m:Av) (n:Int):Int:=(Df m n).1.Alt
theorem Afk (m:Av) (n:Int):Js m n=some (Ld m n):=by unfold Js Ld;rw[Hh];rfl
def zQ (m:Av) (x:Cn) (s:Int):Int:=if Ld m x.To<s then Ld m x.To else s
def mR (m:Av) (x:Cn) (s:Int):Int:=if s<Ld m x.From then Ld m x.From else s
def FF (m:Av) (l:List Cn):Int×Int:=l.foldl (fun s x=>(zQ m x s.1,mR m x s.2)) (9999, -1)
theorem yO (m:Av) (l:List Cn) (x:Cn):FF m (l++[x])=(zQ m x (FF m l).1,mR m x (FF m l).2):=by unfold FF;rw[List.foldl_append];rfl
theorem sE {m:Av} (M:Lh m) {x:Cn} (hx:x∈m.Runs):(0≤Ld m x.To∧Ld m x.To≤5000)∧0≤Ld m x.From∧Ld m x.From≤5000:=by
  have h:=(M.runs x hx).2
  have h1:=cR h.1
  have h2:=cR h.2.1
  exact⟨(M.nodes _ h1.1).2,(M.nodes _ h2.1).2⟩
theorem oW (f:Af) (k:Nat):Al (Ji f k) 0 f.Map.Runs (9999, -1)=some (.next (FF f.Map (f.Map.Runs.filter fun x=>decide (x.Zone=(k:Int)+1)))):=by
  obtain⟨s',h1,h2⟩:=Eb (ρ:=Out (List Int) (List Int)) (step:=Ji f k) (l:=f.Map.Runs) (s:=(9999, -1)) (fun j s=>s=FF f.Map ((f.Map.Runs.take j).filter fun x=>decide (x.Zone=(k:Int)+1))) rfl (fun j x s hj hI=>by
    unfold Ji
    simp only[Afk,Aos]
    rw[Bi hj,List.filter_append]
    by_cases hz:x.Zone=(k:Int)+1
    ·rw[Aop (p:=x.Zone≠(k:Int)+1) (fun h=>h hz),cond_false,List.filter_cons_of_pos (by simpa using hz),List.filter_nil,yO,← hI]
     unfold zQ mR
     by_cases h1:Ld f.Map x.To<s.1
     ·rw[Aoo h1,cond_true,if_pos h1]
      by_cases h2:s.2<Ld f.Map x.From
      ·rw[Aoo h2,if_pos h2];exact⟨_,rfl,rfl⟩
      ·rw[Aop h2,if_neg h2];exact⟨_,rfl,rfl⟩
     ·rw[Aop h1,cond_false,if_neg h1]
      by_cases h2:s.2<Ld f.Map x.From
      ·rw[Aoo h2,if_pos h2];exact⟨_,rfl,rfl⟩
      ·rw[Aop h2,if_neg h2];exact⟨_,rfl,rfl⟩
    ·rw[Aoo (p:=x.Zone≠(k:Int)+1) hz,List.filter_cons_of_neg (by simpa using hz),List.filter_nil,List.append_nil]
     exact⟨_,rfl,hI⟩)
  rw[h1,h2,List.take_length]
theorem sF {m:Av} (M:Lh m) {x:Cn} (hx:x∈m.Runs):He m x.ID=(x,true):=by
  have h:(He m x.ID).2=true:=Aad hx
  have h1:=fP h
  have h2:=vZ M.runsR h1.1 hx h1.2
  exact Prod.ext h2 h
theorem Aa6 {m:Av} (M:Lh m) (z:Int):Lj m z=some ((m.Runs.filter fun x=>decide (x.Zone=z)).map Cn.ID):=by
  unfold Lj
  rw[Di (step:=R6 z) (p:=fun x=>decide (x.Zone=z)) (g:=Cn.ID) (by have:=M.lenR;omega) (fun k x s _=>rfl)]
  rfl
theorem Aei {m:Av} (M:Lh m) (z:Int):Fs m z=some (bif (m.Runs.filter fun x=>decide (x.Zone=z)).isEmpty then(0,0,false)else ((FF m (m.Runs.filter fun x=>decide (x.Zone=z))).1,(FF m (m.Runs.filter fun x=>decide (x.Zone=z))).2,true)):=by
  unfold Fs
  rw[Aa6 M,Aos]
  generalize hR:(m.Runs.filter fun x=>decide (x.Zone=z))=R
  have iw:∀ x∈R,x∈m.Runs:=fun x hx=>by rw[← hR]at hx;exact(List.mem_filter.1 hx).1
  obtain⟨s',h1,h2⟩:=Eb (ρ:=Int×Int×Bool) (step:=Fw m) (l:=R.map Cn.ID) (s:=((0:Int),(0:Int),false)) (fun j s=>s=bif (R.take j).isEmpty then(0,0,false)else ((FF m (R.take j)).1,(FF m (R.take j)).2,true)) rfl (fun j id s hj hI=>by
    rw[List.getElem?_map]at hj
    obtain⟨x,hx,rfl⟩:=Option.map_eq_some_iff.1 hj
    have hm:=iw x (Aor hx)
    have ha:=sE M hm
    unfold Fw
    simp only[St,Aa7,Aos,sF M hm]
    rw[Bi hx,yO]
    have bj:(R.take j++[x]).isEmpty=false:=by simp
    rw[bj,cond_false]
    change ∃ s',(bif (!s.2.2)then some (Out.next ((if Ld m x.To<Ld m x.To then Ld m x.To else Ld m x.To),(if Ld m x.From<Ld m x.From then Ld m x.From else Ld m x.From),true))else some (Out.next ((if Ld m x.To<s.1 then Ld m x.To else s.1),(if s.2.1<Ld m x.From then Ld m x.From else s.2.1),s.2.2)))=_∧_
    cases hE:(R.take j).isEmpty with
    | true=>
      rw[hE]at hI
      have e0:R.take j=[]:=by simpa using hE
      subst hI
      rw[e0]
      refine⟨_,rfl,?_⟩
      have e1:zQ m x 9999=Ld m x.To:=if_pos (by omega)
      have e2:mR m x (-1)=Ld m x.From:=if_pos (by omega)
      show((if Ld m x.To<Ld m x.To then Ld m x.To else Ld m x.To),(if Ld m x.From<Ld m x.From then Ld m x.From else Ld m x.From),true)=(zQ m x 9999,mR m x (-1),true)
      rw[e1,e2];simp only[ite_self]
    | false=>
      rw[hE]at hI
      subst hI
      exact⟨_,rfl,rfl⟩)
  rw[h1]
  rw[Aow,List.take_length]at h2
  rw[h2]
  cases R.isEmpty<;>rfl
theorem Aem {m:Av} (M:Lh m) {R:List Cn} (hR:∀ x∈R,x∈m.Runs):R≠[]→0≤(FF m R).2:=by
  have key:∀ (l:List Cn) (s:Int×Int),(∀ x∈l,x∈m.Runs)→(l≠[]∨0≤s.2)→0≤(l.foldl (fun s x=>(zQ m x s.1,mR m x s.2)) s).2:=by
    intro l
    induction l with
    | nil=>intro s _ h;rcases h with h | h;exact absurd rfl h;exact h
    | cons x l ih=>
      intro s hl h
      rw[List.foldl_cons]
      refine ih _ (fun y hy=>hl y (List.mem_cons_of_mem _ hy)) (.inr ?_)
      have:=(sE M (hl x (by simp))).2
      dsimp only;unfold mR
      split<;>omega
  intro h
  exact key R _ hR (.inl h)
theorem zT {f:Af} (M:Lh f.Map):∃ L,E4 f=some L∧Ix f=some L∧L.length=32:=by
  have hstep:∀ k s,Ey f k () s=Ez f k () s:=by
    intro k s
    unfold Ey Ez
    rw[Aei M,oW,Aos,Aos]
    show(bif (bif _ then _ else _:Int×Int×Bool).2.2 then _ else _)=(bif _ then _ else _)
    generalize hR:(f.Map.Runs.filter fun x=>decide (x.Zone=(k:Int)+1))=R
    have iw:∀ x∈R,x∈f.Map.Runs:=fun x hx=>by rw[← hR]at hx;exact(List.mem_filter.1 hx).1
    cases R with
    | nil=>rfl
    | cons x R=>
      have hh:=Aem M iw (by simp)
      rw[Aoo hh]
      show(H9 _ _ _ _ _).bind _=_
      rw[(qD f.Bulletin _ _ _ _).eq]
      rfl
  obtain⟨s',h1,h2⟩:=eQ (ρ:=List Int) (n:=32) (step:=Ez f) (s:=[]) (by omega) (fun k s=>s.length=k) rfl (fun k s hk hI=>by
    unfold Ez
    rw[oW,Aos]
    show ∃ s',(bif _ then _ else _)=_∧_
    cases decide ((0:Int)≤(FF f.Map (f.Map.Runs.filter fun x=>decide (x.Zone=(k:Int)+1))).2)with
    | true=>
      obtain⟨n,_,hn⟩:=qD f.Bulletin ((k:Int)+1) (FF f.Map (f.Map.Runs.filter fun x=>decide (x.Zone=(k:Int)+1))).1 (FF f.Map (f.Map.Runs.filter fun x=>decide (x.Zone=(k:Int)+1))).2 f.Time
      rw[cond_true,hn,Aos,Bs (by omega)]
      exact⟨_,rfl,by simp[hI]⟩
    | false=>
      rw[cond_false,Bs (by omega)]
      exact⟨_,rfl,by simp[hI]⟩)
  have he:J8 (Ey f) 32 []=J8 (Ez f) 32 []:=by
    unfold J8
    rw[if_pos (by decide),if_pos (by decide)]
    exact S50.L6 fun i x s _=>hstep i s
  refine⟨s',?_,?_,h2⟩
  ·unfold E4
   rw[Aea (by omega),he,h1];rfl
  ·unfold Ix
   rw[h1];rfl
theorem Adr {σ:Type} {o:Option (Out σ Int)} {rest:σ→Option Int} (h:Dv (·≠0) o) (e:(o.bind fun x=>x.on rest)=some 0):∃ s,o=some (.next s)∧rest s=some 0:=by
  obtain⟨x,h1,h2⟩:=Ae e
  cases x with
  | ret r=>obtain rfl:=Aoy h2;exact absurd rfl (h 0 h1)
  | next s=>exact ⟨s,h1,h2⟩
theorem N9 {α:Type} {step:Nat→α→Unit→Option (Out Unit Int)} {l:List α} {rest:Unit→Option Int} (hr:∀ i x s,Dv (·≠0) (step i x s)) (e:((Al step 0 l ()).bind fun o=>o.on rest)=some 0):(∀ i x,l[i]? =some x→step i x ()=some (.next ()))∧rest ()=some 0:=by
  obtain⟨s,h1,h2⟩:=Adr (Dv.Al hr) e
  refine⟨fun i x hx=>?_,h2⟩
  have:=Wu.1 h1 i x hx
  rwa [Nat.zero_add]at this
theorem bz {c:Bool} {e:Int} {b:Option Int} (h:(bif c then some e else b)=some 0) (he:e≠0):c=false∧b=some 0:=by
  cases c with
  | false=>exact ⟨rfl,h⟩
  | true=>exact absurd (Aoy h) he
theorem bn {c:Bool} {e:Int} {b:Option (Out Unit Int)} (h:(bif c then some (.ret e)else b)=some (.next ())):c=false∧b=some (.next ()):=by
  cases c with
  | false=>exact ⟨rfl,h⟩
  | true=>cases h
theorem bnot {p:Prop} [Decidable p] (h:(!decide p)=false):p:=by simpa using h
theorem Afc {l:List Bb} (e:Ir l=some 0):∀ c∈l,1≤c.By∧c.By≤6:=by
  unfold Ir at e
  obtain⟨_,e⟩:=bz e (by decide)
  obtain⟨h,_⟩:=N9 (fun i x s=>by
    unfold Kn
    repeat' first | exact Dv.ret (by decide) | exact Dv.next _ | refine Dv.okB ?_ | refine Dv.bif (fun _=>?_) (fun _=>?_) | refine Dv.bind fun _ _=>?_) e
  intro c hc
  obtain⟨i,hi⟩:=List.mem_iff_getElem?.1 hc
  have:=h i c hi
  unfold Kn at this
  rw[wP,Aos]at this
  have:=bnot (bn this).1
  omega
theorem Abz {p:Bk} (e:Iq p=some 0):p.Ci.length≤64∧p.Hazards.length≤200∧∀ x∈p.Ci,x.List_.Items.length≤64∧x.List_.Signs.length≤200:=by
  unfold Iq at e
  obtain⟨h1,e⟩:=bz e (by decide)
  obtain⟨h2,e⟩:=bz e (by decide)
  have h1:=Aom h1
  have h2:=Aom h2
  obtain⟨h,_⟩:=N9 (fun i x s=>by
    unfold Kl
    repeat' first | exact Dv.ret (by decide) | exact Dv.ret (Aon ‹_›) | exact Dv.next _ | refine Dv.bif (fun _=>?_) (fun _=>?_) | refine Dv.bind fun _ _=>?_) e
  refine⟨by omega,by omega,fun x hx=>?_⟩
  obtain⟨i,hi⟩:=List.mem_iff_getElem?.1 hx
  have:=h i x hi
  unfold Kl at this
  obtain⟨_,this⟩:=bn this
  obtain⟨_,this⟩:=bn this
  have fin:∀ {o:Option (Out Unit Int)},o=some (.next ())→o=((Gx x.List_).bind fun cr=>bif decide (cr≠(0:Int))then some (Out.ret cr)else some (Out.next ()))→x.List_.Items.length≤64∧x.List_.Signs.length≤200:=by
    intro o ho h
    rw[ho]at h
    obtain⟨y,hy,h⟩:=Ae h.symm
    have hy0:=(bn h).1
    have:y=0:=by simpa using hy0
    subst this
    exact tU hy
  cases hc:decide ((0:Int)<((i:Nat):Int))with
  | true=>
    rw[hc]at this
    obtain⟨y,_,this⟩:=Ae this
    exact fin (bn this).2 rfl
  | false=>
    rw[hc]at this
    exact fin this rfl
theorem Ae2 {l:List A5} (e:It l=some 0):l.length≤64∧∀ m∈l,1≤m.Slide∧m.Slide≤9999:=by
  unfold It at e
  obtain⟨h1,e⟩:=bz e (by decide)
  have h1:=Aom h1
  obtain⟨h,_⟩:=N9 (fun i x s=>by
    unfold Ko
    repeat' first | exact Dv.ret (by decide) | exact Dv.next _ | refine Dv.okB ?_ | refine Dv.bif (fun _=>?_) (fun _=>?_) | refine Dv.bind fun _ _=>?_) e
  refine⟨by omega,fun c hc=>?_⟩
  obtain⟨i,hi⟩:=List.mem_iff_getElem?.1 hc
  have:=h i c hi
  unfold Ko at this
  simp only[rC,Aos]at this
  exact bnot (bn (bn this).2).1
theorem rX {l:List Int} (hl:l.length≤9223372036854775807) (e:Ku l=some true):l.length≤32:=by
  unfold Ku at e
  obtain⟨o,h1,h2⟩:=Ae e
  cases o with
  | ret r=>
    have:r=false:=Dv.Al (P:=fun r=>r=false) (fun i x s=>by
      unfold Kt
      repeat' first | exact Dv.ret rfl | exact Dv.next _ | refine Dv.bif (fun _=>?_) (fun _=>?_) | refine Dv.bind fun _ _=>?_) r h1
    subst this;cases h2
  | next s=>
    have hs:=Wu.1 h1
    have key:∀ (i:Nat) (x:Int),l[i]? =some x→(1≤x∧x≤32)∧∀ y,0<i→l[i - 1]? =some y→y<x:=by
      intro i x hx
      have ah:=(Aoz.1 hx).1
      have h:=hs i x hx
      rw[Nat.zero_add]at h
      unfold Kt at h
      have bf':∀ {c:Bool} {b:Option (Out Unit Bool)},(bif c then some (.ret false)else b)=some (.next ())→c=false∧b=some (.next ()):=fun {c b} h=>by
        cases c with
        | false=>exact ⟨rfl,h⟩
        | true=>cases h
      obtain⟨c1,h⟩:=bf' h
      obtain⟨c2,h⟩:=bf' h
      have c1:=Aom c1
      have c2:=Aom c2
      refine⟨by omega,fun y h0 hy=>?_⟩
      rw[Aoo (by omega),cond_true,S4 h0 (by omega),Cm hy,Aos]at h
      have:=Aom (bf' h).1
      omega
    have xy:Inc l:=W46.wU fun k x y hx hy=>(key (k+1) x hx).2 y (by omega) (by simpa using hy)
    by_cases e0:l.length=0
    ·omega
    ·have hx:l[l.length - 1]? =some (l[l.length - 1]'(by omega)):=Aoq (by omega)
     have g1:=W46.mO xy (fun x hx=>by obtain⟨i,hi⟩:=List.mem_iff_getElem?.1 hx;exact(key i x hi).1.1) _ _ hx
     have g2:=(key _ _ hx).1.2
     omega
theorem Afd {l:List A2} (hl:∀ b∈l,b.Zones.length≤9223372036854775807) (e:Iu l=some 0):∀ b∈l,b.Zones.length≤32:=by
  unfold Iu at e
  obtain⟨_,e⟩:=bz e (by decide)
  obtain⟨h,_⟩:=N9 (fun i x s=>by
    unfold Gb
    repeat' first | exact Dv.ret (by decide) | exact Dv.next _ | refine Dv.bif (fun _=>?_) (fun _=>?_) | refine Dv.bind fun _ _=>?_) e
  intro b hb
  obtain⟨i,hi⟩:=List.mem_iff_getElem?.1 hb
  have:=h i b hi
  unfold Gb at this
  obtain⟨y,h1,h2⟩:=Ae (bn (bn (bn (bn (bn (bn (bn (bn (bn (bn this).2).2).2).2).2).2).2).2).2).2
  have hy:=(bn h2).1
  have:y=true:=by simpa using hy
  subst this
  exact rX (hl b hb) h1
theorem Abo {f:Af} (e:Kh f=some 0):Iv f.Map=some 0∧Ir f.Closures=some 0∧Iq f.Patrol=some 0∧Rm f.Surfaces=some 0∧N5 f.Slides=some 0∧Iu f.Bulletin=some 0∧It f.Missions=some 0∧N7 f.Winches=some 0∧N8 f.Groomers=some 0:=by
  unfold Kh at e
  obtain⟨y1,h1,e⟩:=Ae e
  obtain⟨y2,h2,e⟩:=Ae e
  obtain⟨y3,h3,e⟩:=Ae e
  obtain⟨y4,h4,e⟩:=Ae e
  obtain⟨y5,h5,e⟩:=Ae e
  obtain⟨y6,h6,e⟩:=Ae e
  obtain⟨y7,h7,e⟩:=Ae e
  obtain⟨y8,h8,e⟩:=Ae e
  obtain⟨y9,h9,e⟩:=Ae e
  unfold J8 at e
  rw[if_pos (by decide)]at e
  obtain⟨h,_⟩:=N9 (fun i x s=>by
    unfold F6
    refine Dv.bind fun y hy=>?_
    exact Dv.bif (fun hc=>Dv.ret (Aon hc)) fun _=>Dv.next _) e
  have key:∀ (k:Nat) y,k<9→[y1,y2,y3,y4,y5,y6,y7,y8,y9][k]? =some y→y=0:=by
    intro k y hk hy
    have:=h k () (by rw[List.getElem?_replicate,if_pos hk])
    unfold F6 at this
    rw[Cm hy,Aos]at this
    simpa using(bn this).1
  have k1:=key 0 y1 (by decide) rfl
  have k2:=key 1 y2 (by decide) rfl
  have k3:=key 2 y3 (by decide) rfl
  have k4:=key 3 y4 (by decide) rfl
  have k5:=key 4 y5 (by decide) rfl
  have k6:=key 5 y6 (by decide) rfl
  have k7:=key 6 y7 (by decide) rfl
  have k8:=key 7 y8 (by decide) rfl
  have k9:=key 8 y9 (by decide) rfl
  subst k1 k2 k3 k4 k5 k6 k7 k8 k9
  exact⟨h1,h2,h3,h4,h5,h6,h7,h8,h9⟩
structure FOK (f:Af):Prop where
  map:Lh f.Map
  clo:∀ c∈f.Closures,1≤c.By∧c.By≤6
  lists:∀ x∈f.Patrol.Ci,x.List_.Items.length≤64∧x.List_.Signs.length≤200
  listsL:f.Patrol.Ci.length≤64
  slides:S50.fH f.Slides
  misL:f.Missions.length≤64
  mis:∀ m∈f.Missions,1≤m.Slide∧m.Slide≤9999
  ropes:W46.lJ f.Winches
  bul:∀ b∈f.Bulletin,b.Zones.length≤32
  packs:∀ p∈f.Packs,(0≤p.Pack.Natural∧p.Pack.Natural≤20000)∧(0≤p.Pack.Machine∧p.Pack.Machine≤20000)∧50≤p.Pack.Density∧p.Pack.Density≤900
  liftsL:f.Lifts.length≤32
  packsL:f.Packs.length≤64
  statL:f.Status.length≤64
  stat:∀ x∈f.Status,(He f.Map x.Run).2=true
  statR:Ie Au.Run f.Status
theorem Acm {f:Af} (hi:Aa0 f) (hs:f.Slides.length≤9223372036854775807) (e:Ip f=some 0):FOK f:=by
  unfold Ip at e
  obtain⟨y,hp,e⟩:=Ae e
  have hy:y=0:=by
    by_cases h:y=0
    ·exact h
    ·rw[Aoo (p:=y≠0) h]at e
     exact Aoy e
  subst hy
  rw[show decide ((0:Int)≠0)=false from rfl,cond_false]at e
  obtain⟨p1,p2,p3,p4,p5,p6,p7,p8,p9⟩:=Abo hp
  obtain⟨l1,e⟩:=bz e (by decide)
  obtain⟨l2,e⟩:=bz e (by decide)
  obtain⟨l3,e⟩:=bz e (by decide)
  have l1:=Aom l1
  have l2:=Aom l2
  have l3:=Aom l3
  obtain⟨_,e⟩:=N9 (fun i x s=>by
    unfold Tl
    repeat' first | exact Dv.ret (by decide) | exact Dv.next _ | refine Dv.bif (fun _=>?_) (fun _=>?_) | refine Dv.bind fun _ _=>?_) e
  unfold Kj at e
  obtain⟨hpk,e⟩:=N9 (fun i x s=>by
    unfold Ow
    repeat' first | exact Dv.ret (by decide) | exact Dv.next _ | refine Dv.bif (fun _=>?_) (fun _=>?_) | refine Dv.bind fun _ _=>?_) e
  unfold Ki at e
  obtain⟨jt,_⟩:=N9 (fun i x s=>by
    unfold Ox
    repeat' first | exact Dv.ret (by decide) | exact Dv.next _ | refine Dv.bif (fun _=>?_) (fun _=>?_) | refine Dv.bind fun _ _=>?_) e
  obtain⟨r10,a1,a2⟩:=v8 f.Map
  rw[p1]at a1;obtain rfl:=Aoy a1
  obtain⟨r50,b1,b2,b3⟩:=S50.Yp f.Slides ⟨hs,hi.zones⟩
  rw[p5]at b2;obtain rfl:=Aoy b2
  obtain⟨r46,c1,c2,c3⟩:=W46.sI hi.runs
  rw[p8]at c1;obtain rfl:=Aoy c1
  have hP:=Abz p3
  have hM:=Ae2 p7
  have stat:∀ (i:Nat) (x:Au),f.Status[i]? =some x→(He f.Map x.Run).2=true∧∀ y,0<i→f.Status[i - 1]? =some y→y.Run<x.Run:=by
    intro i x hx
    have ah:=(Aoz.1 hx).1
    have h:=jt i x hx
    unfold Ox at h
    rw[Z9,Aos]at h
    by_cases h0:(0:Int)<((i:Nat):Int)
    ·rw[Aoo h0,cond_true]at h
     obtain⟨y,h1,h2⟩:=iD ah (by omega) (by omega)
     rw[h1,Aos]at h
     obtain⟨g1,h⟩:=bn h
     have g2:=(bn h).1
     refine⟨by simpa using g2,fun z _ hz=>?_⟩
     rw[h2]at hz;obtain rfl:=Aoy hz
     have:=Aom g1;omega
    ·rw[Aop h0,cond_false]at h
     have g2:=(bn h).1
     exact⟨by simpa using g2,fun z h _=>by omega⟩
  refine⟨a2.1 rfl,Afc p2,hP.2.2,hP.1,b3.1 rfl,hM.1,hM.2,c3.1 rfl,Afd hi.bzones p6,fun p hp=>?_,by omega,by omega,by omega,fun x hx=>?_,?_⟩
  ·obtain⟨i,hi⟩:=List.mem_iff_getElem?.1 hp
   have:=hpk i p hi
   unfold Ow at this
   obtain⟨_,this⟩:=bn this
   obtain⟨_,this⟩:=bn this
   rw[qU,Aos]at this
   exact bnot (bn this).1
  ·obtain⟨i,hi⟩:=List.mem_iff_getElem?.1 hx
   exact(stat i x hi).1
  ·exact fun k x y hx hy=>(stat (k+1) x hx).2 y (by omega) (by simpa using hy)
theorem yD {f:Af} (h:Ul f):Aa0 f:=by
  obtain⟨_,_,_,h4,_,_,h7,h8,_,pr,_⟩:=h
  exact⟨fun x hx=>⟨(h4.1.2 x hx).2.1.1,(h4.1.2 x hx).2.2.2.1⟩,fun x hx=>⟨(h7.2 x hx).2.1.1,(h7.2 x hx).2.2.1.1⟩,fun x hx=>(h8.2 x hx).2.2.2.2.1.1,fun x hx=>(pr.2 x hx).2.2.2.1⟩
def signed (l:Ba) (t x:Int) (s:Fm):Bool:=decide (s.Item=x)&&(decide (s.At≤t)&&decide (t<IntKind.i64.wrap (s.At+l.Every)))
def opens (l:Ba) (t:Int):List Int:=l.Items.filter fun x=>!l.Signs.any (signed l t x)
theorem Ab3 {l:Ba} (t:Int) (h:l.Items.length≤1000):L4 l t=some (opens l t):=by
  unfold L4
  rw[Di (step:=Nf l t) (p:=fun x=>!l.Signs.any (signed l t x)) (g:=id) (by omega) (fun k x s hx=>by
   unfold Nf
   rw[Fz (step:=Nd l t s x) (signed l t x) (fun _=>Out.next s) (fun k' y _=>by
    unfold Nd signed
    rw[Aoo (Int.natCast_nonneg k')]
    cases decide (y.Item=x)<;>cases decide (y.At≤t)<;>cases decide (t<IntKind.i64.wrap (y.At+l.Every))<;>rfl)]
   cases hf:l.Signs.find? (signed l t x)with
   | none=>
     have:l.Signs.any (signed l t x)=false:=by rw[List.any_eq_false];exact List.find?_eq_none.1 hf
     rw[this];rfl
   | some y=>
     have:l.Signs.any (signed l t x)=true:=by rw[List.any_eq_true];exact⟨y,List.mem_of_find?_eq_some hf,List.find?_some hf⟩
     rw[this];rfl)]
  rw[List.map_id];rfl
theorem Adn (l:Ba) (x t:Int):∃ r,Wg l x t=some r∧decide (r=t)= !l.Signs.any (signed l t x):=by
  unfold Wg
  obtain⟨s',h1,h2,h3⟩:=Eb (ρ:=Int) (step:=Sy l x t) (l:=l.Signs) (s:=t) (fun k s=>t≤s∧(s=t↔∀ y∈l.Signs.take k,signed l t x y=false)) ⟨Int.le_refl _,by simp⟩ (fun k y s hk ⟨i1,i2⟩=>by
    have fin:∀ s2,t≤s2→(s2=t↔s=t∧signed l t x y=false)→(t≤s2∧(s2=t↔∀ z∈l.Signs.take (k+1),signed l t x z=false)):=fun s2 a b=>by
      refine⟨a,?_⟩
      rw[b,i2,Bi hk]
      constructor
      ·rintro⟨h1,h2⟩ z hz
       rw[Aox,List.mem_singleton]at hz
       rcases hz with hz | rfl
       ·exact h1 z hz
       ·exact h2
      ·intro h
       exact⟨fun z hz=>h z (List.mem_append_left _ hz),h y (by simp)⟩
    unfold Sy
    by_cases c1:y.Item=x
    ·by_cases c2:y.At≤t
     ·by_cases c3:t<IntKind.i64.wrap (y.At+l.Every)
      ·rw[Aoo c1,Aoo c2,Aoo c3]
       refine⟨_,rfl,fin _ (by split<;>omega) ?_⟩
       have:signed l t x y=true:=by unfold signed;rw[Aoo c1,Aoo c2,Aoo c3];rfl
       rw[this]
       constructor
       ·intro h;split at h<;>omega
       ·rintro⟨_,h⟩;cases h
      ·rw[Aoo c1,Aoo c2,Aop c3]
       refine⟨_,rfl,fin _ i1 ?_⟩
       have:signed l t x y=false:=by unfold signed;rw[Aoo c1,Aoo c2,Aop c3];rfl
       rw[this];simp
     ·rw[Aoo c1,Aop c2]
      refine⟨_,rfl,fin _ i1 ?_⟩
      have:signed l t x y=false:=by unfold signed;rw[Aop c2];simp
      rw[this];simp
    ·rw[Aop c1]
     refine⟨_,rfl,fin _ i1 ?_⟩
     have:signed l t x y=false:=by unfold signed;rw[Aop c1];rfl
     rw[this];simp)
  rw[List.take_length]at h3
  rw[h1]
  refine⟨s',rfl,?_⟩
  rw[Bool.eq_iff_iff,decide_eq_true_iff,h3,Bool.not_eq_true',List.any_eq_false]
  simp
theorem vX {l:Ba} (t:Int) (h:l.Items.length≤1000):Qj l t=some (opens l t):=by
  unfold Qj
  rw[Di (step:=Q4 l t) (p:=fun x=>!l.Signs.any (signed l t x)) (g:=id) (by omega) (fun k x s hx=>by
   unfold Q4
   obtain⟨r,h1,h2⟩:=Adn l x t
   rw[h1,Aos,h2];rfl)]
  rw[List.map_id];rfl
theorem Ad7 {l:Ba} (t:Int) (h:l.Items.length≤1000):Pt l t=Qk l t∧Tot (Qk l t):=by
  unfold Pt Qk
  rw[Ab3 t h,vX t h]
  exact⟨rfl,Tot.some _⟩
theorem Abl {p:Bk} (run t:Int) (h:∀ x∈p.Ci,x.List_.Items.length≤64):Ag (Lw p run t) (N2 p run t):=by
  obtain⟨r,h1,h2⟩:=x9 (step:=Ri run) (l:=p.Ci) (fun x=>decide (x.Run=run)) (fun k x _=>by unfold Ri;rfl)
  have e2:Oy p run=some r:=h1
  have e1:K7 p run=some r:=h1
  unfold Lw N2
  rw[e1,e2,Aos,Aos]
  rcases h2 with⟨rfl,_⟩ | ⟨k,x,rfl,hx,_⟩
  ·exact Ag.some _
  ·rw[Aop (p:=((k:Nat):Int)<0) (by omega),cond_false,cond_false,Cm hx,Aos,Aos]
   obtain⟨d1,d2⟩:=Ad7 (l:=x.List_) t (by have:=h x (Aor hx);omega)
   rw[d1]
   refine Ag.bind (Ag.refl d2) fun y _ _=>Ag.bif rfl (fun _=>Ag.some _) fun _=>?_
   refine Ag.bind (Ag.Al fun i z s _=>?_) fun o _ _=>Ag.on fun _ _=>Ag.some _
   unfold Sd Tq
   rw[Aoo (Int.natCast_nonneg i)]
   exact Ag.bif rfl (fun _=>Ag.some _) fun _=>Ag.some _
theorem Acq {p:Fo} (h:(0≤p.Natural∧p.Natural≤20000)∧(0≤p.Machine∧p.Machine≤20000)∧50≤p.Density∧p.Density≤900):∃ d,Ke p=some (d,0)∧Rq p=some (d,0):=by
  unfold Ke Rq On
  rw[pD,qU,Aoo h]
  simp only[Aos,Bool.not_true,cond_false]
  rw[mB (by omega)]
  exact⟨_,rfl,rfl⟩
theorem w4 {f:Af} (F:FOK f) (run:Int):Ag (Fh f run) (Qa f run):=by
  unfold Fh Qa
  refine Ag.bind (Ag.Al fun i x s hx=>?_) fun o _ _=>Ag.on fun _ _=>Ag.some _
  unfold La Vi
  refine Ag.bif rfl (fun _=>?_) fun _=>Ag.some _
  obtain⟨d,h1,h2⟩:=Acq (F.packs x (Aor hx))
  rw[h1,h2,Aop (p:=((i:Nat):Int)<0) (by omega)]
  exact⟨_,rfl,rfl⟩
theorem FOK.few {f:Af} (F:FOK f):W46.Few f.Winches:=⟨by have:=F.ropes.len;omega,fun w hw=>by have:=(F.ropes.rope w hw).runs.len;omega⟩
theorem z8 {most:Int} {l:List Int} (h:S50.Ve most l) (hm:most≤100):l.length≤100:=by
  by_cases e:l.length=0
  ·omega
  ·have hx:l[l.length - 1]? =some (l[l.length - 1]'(by omega)):=Aoq (by omega)
   have h1:=W46.mO h.2 (fun x hx=>(h.1 x hx).1) _ _ hx
   have h2:=(h.1 _ (Aor hx)).2
   omega
theorem FOK.small {f:Af} (F:FOK f):S50.Small f.Slides:=⟨by have:=F.slides.1;omega,fun s hs=>⟨z8 (F.slides.at hs).2.2.1 (by decide),trivial⟩⟩
theorem Adm {f:Af} (F:FOK f) (run zone:Int) :
    Ag ((E4 f).bind fun y5=>(Gu f.Slides y5).bind fun y6=>(Bo y6 zone).bind fun y7=>(bif y7 then some (10:Int)else (Lw f.Patrol run f.Time).bind fun y8=>(bif (!y8)then some (14:Int)else (Fh f run).bind fun y9=>(bif (!y9)then some (5:Int)else some (0:Int)))))
     ((Ix f).bind fun y6=>(N4 f.Slides y6).bind fun y7=>(Gw y7 zone).bind fun y8=>(bif y8 then some (10:Int)else (N2 f.Patrol run f.Time).bind fun y9=>(bif (!y9)then some (14:Int)else (Qa f run).bind fun cr=>(bif (!cr)then some (5:Int)else some (0:Int))))):=by
  obtain⟨L,h1,h2,h3⟩:=zT F.map
  rw[h1,h2,Aos,Aos,S50.Aa2 F.small (fun x hx=>(F.slides.at hx).1) (by omega),S50.sQ F.small F.slides (by omega),Aos,Aos,contains_eq,Yo,Aos,Aos]
  refine Ag.bif rfl (fun _=>Ag.some _) fun _=>?_
  refine Ag.bind (Abl run f.Time fun x hx=>(F.lists x hx).1) fun y _ _=>Ag.bif rfl (fun _=>Ag.some _) fun _=>?_
  exact Ag.bind (w4 F run) fun y _ _=>Ag.bif rfl (fun _=>Ag.some _) fun _=>Ag.some _
theorem Va {f:Af} {run:Int} (h:(He f.Map run).2=false):Dh f run=some 8:=by
  unfold Dh
  rw[St,Aos,h];rfl
theorem iR {f:Af} (F:FOK f) {run:Int} (h:(He f.Map run).2=true):Ag (Dh f run) (N1 f (He f.Map run).1):=by
  have hID:=(fP h).2
  unfold Dh N1
  rw[St,Aos,h,Bool.not_true,cond_false,hID]
  rw[Ad9 f.Map f.Closures run h,Abm F.clo run h,Aos,Aos]
  refine Ag.bif rfl (fun _=>Ag.some _) fun _=>?_
  rw[Ae9,Adl,Aos,Aos,W46.Aba F.few,W46.zB F.ropes,Aos,Aos,contains_eq,Yo,Aos,Aos]
  rw[xA f _ (by have:=F.misL;omega),sW f _ F.mis,Aos,Aos]
  unfold Ex
  have R:=Adm F run (He f.Map run).1.Zone
  cases gon f.Groomers run with
  | true=>exact Ag.some _
  | false=>
    cases decide (run∈norm (W46.Kg f.Winches f.Time))with
    | true=>exact Ag.some _
    | false=>
      cases blasted f (He f.Map run).1.Zone with
      | true=>exact Ag.some _
      | false=>exact R
theorem nH {f:Af} (F:FOK f) (run:Int):Tot (Dh f run):=by
  cases h:(He f.Map run).2 with
  | false=>exact ⟨8,Va h⟩
  | true=>obtain ⟨e,h1,_⟩:=iR F h;exact⟨e,h1⟩
def Fq (f:Af) (run:Int):Bool:=decide (Dh f run=some 0)
theorem Aci {f:Af} {run:Int} (h:Fq f run=true):(He f.Map run).2=true:=by
  cases e:(He f.Map run).2 with
  | true=>rfl
  | false=>unfold Fq at h;rw[Va e]at h;cases h
theorem aK {f:Af} {run e:Int} (h:Dh f run=some e):Fq f run=decide (e=0):=by
  unfold Fq;rw[h];simp
def pub (f:Af):List Int:=(f.Lifts.filter fun x=>decide (x.Mode=1)).map Cv.Lift
theorem gY {f:Af} (F:FOK f):F3 f=some (pub f)∧Gv f=some (pub f):=by
  have:=F.liftsL
  constructor
  ·unfold F3
   rw[Di (step:=Mh) (p:=fun x=>decide (x.Mode=1)) (g:=Cv.Lift) (by omega) (fun k x s _=>rfl)];rfl
  ·unfold Gv
   rw[Di (step:=R8) (p:=fun x=>decide (x.Mode=1)) (g:=Cv.Lift) (by omega) (fun k x s _=>rfl)];rfl
theorem iK {m:Av} (M:Lh m) (lifts runs:List Int) (run:Int):∃ b,Te m lifts runs run=some b∧K0 m lifts runs run=some b∧(b=true↔(He m run).2=true∧RR m lifts runs (He m run).1.From):=by
  obtain⟨a,e1,f1⟩:=qQ M lifts runs
  obtain⟨a',e2,f2⟩:=nV M lifts runs
  obtain rfl:=f1.unique f2
  unfold Te K0
  rw[St,Z9,Aos,Aos]
  cases h:(He m run).2 with
  | false=>exact ⟨false,rfl,rfl,by simp⟩
  | true=>exact ⟨decide ((He m run).1.From∈a),by simp[e1,contains_eq],by simp[e2,kZ],by simp[f1.mem]⟩
def Lnk (f:Af) (op:List Int) (run:Int):Prop:=((He f.Map run).2=true∧RR f.Map (pub f) op (He f.Map run).1.From)∧HH f.Map op (He f.Map run).1.To
noncomputable def lnk (f:Af) (op:List Int) (run:Int):Bool:=@decide (Lnk f op run) (Classical.propDecidable _)
theorem Wr {f:Af} {op:List Int} {run:Int}:lnk f op run=true↔Lnk f op run:=by unfold lnk;exact @decide_eq_true_iff _ (Classical.propDecidable _)
theorem pK {f:Af} (F:FOK f) (op:List Int) (run:Int):Ei f op run=some (lnk f op run):=by
  obtain⟨b,h1,_,h3⟩:=iK F.map (pub f) op run
  obtain⟨r,g1,g2⟩:=Ad0 F.map op
  unfold Ei
  rw[St,Aos,(gY F).1,Aos,h1,Aos,g1,Aos,contains_eq,Aos]
  cases b with
  | false=>
    have:lnk f op run=false:=by
      rw[Bool.eq_false_iff];intro h;have:=h3.2 (Wr.1 h).1;cases this
    rw[this];rfl
  | true=>
    rw[cond_true]
    congr 1
    rw[Bool.eq_iff_iff,decide_eq_true_iff,Wr,g2.mem]
    exact⟨fun h=>⟨h3.1 rfl,h⟩,fun h=>h.2⟩
theorem vY {f:Af} (F:FOK f) (op:List Int) {run:Int} {α:Type} (A B:Option α):((Gv f).bind fun y3=>(K0 f.Map y3 op run).bind fun y4=>(bif (!y4)then A else(Nr f.Map op).bind fun y5=>(Gw y5 (He f.Map run).1.To).bind fun y6=>(bif (!y6)then A else B)))=(bif lnk f op run then B else A):=by
  obtain⟨b,_,h1,h3⟩:=iK F.map (pub f) op run
  obtain⟨r,g1,g2⟩:=sJ F.map op
  rw[(gY F).2,Aos,h1,Aos,g1,Aos,Yo,Aos]
  cases b with
  | false=>
    have:lnk f op run=false:=by
      rw[Bool.eq_false_iff];intro h;have:=h3.2 (Wr.1 h).1;cases this
    rw[this];rfl
  | true=>
    have:lnk f op run=decide ((He f.Map run).1.To∈r):=by
      rw[Bool.eq_iff_iff,decide_eq_true_iff,Wr,g2.mem]
      exact⟨fun h=>h.2,fun h=>⟨h3.1 rfl,h⟩⟩
    rw[this]
    cases decide ((He f.Map run).1.To∈r)<;>rfl
noncomputable def Aeo (f:Af) (op:List Int) (run:Int):Bool:=Fq f run&&lnk f op run
theorem qL {f:Af} (F:FOK f) (op:List Int) (run:Int):∃ e,C6 f op run=some e∧Lo f op run=some e∧decide (e=0)=Aeo f op run:=by
  unfold C6 Lo Aeo
  rw[Z9,Aos]
  cases h:(He f.Map run).2 with
  | false=>
    rw[aK (Va h),Va h]
    exact⟨8,rfl,rfl,rfl⟩
  | true=>
    obtain⟨e,h1,h2⟩:=iR F h
    rw[aK h1,h1,h2,Aos,Bool.not_true,cond_false,Aos]
    by_cases h0:e=0
    ·subst h0
     rw[show decide ((0:Int)≠0)=false from rfl,cond_false,cond_false,vY F op,pK F,Aos]
     cases lnk f op run with
     | true=>exact ⟨0,rfl,rfl,rfl⟩
     | false=>exact ⟨16,rfl,rfl,rfl⟩
    ·rw[Aoo (p:=e≠0) h0,Aop h0]
     exact⟨e,rfl,rfl,by rw[Aop h0];rfl⟩
theorem Ad2 {L:List Int→Int→Bool} (s:List Int):gfp L (stp L s)=gfp L s:=by
  have h1:stp L (iter L ((stp L s).length+1) s)=iter L ((stp L s).length+1) s:=U1 (L:=L) _ (stp L s) (Nat.le_refl _)
  exact jO h1
theorem L7 {l:List Int} (h:l.length≤549755813888):B9 l=some l:=by unfold B9;rw[Bs h]
theorem Adw {f:Af} (F:FOK f) {s:List Int} (h:s.length≤1000):Al (G4 f s) 0 s []=some (.next (stp (lnk f) s)):=by
  rw[Di (step:=G4 f s) (p:=lnk f s) (g:=id) (by omega) (fun k x t _=>by unfold G4;rw[pK F,Aos];rfl),List.map_id];rfl
theorem pL {f:Af} (F:FOK f) {s:List Int} (h:s.length≤1000):Dx (D1 f) fuel s=some (.ret (gfp (lnk f) s)):=by
  obtain⟨r,h1,h2⟩:=Hc (step:=D1 f) (fun t=>t.length≤1000∧gfp (lnk f) t=gfp (lnk f) s) (fun r=>r=gfp (lnk f) s) (fun t=>t.length) (by
    rintro t ⟨i1,i2⟩
    have hl:=(kX (L:=lnk f) t).length_le
    unfold D1
    rw[Adw F i1,Aos]
    show(∃ s',(bif _ then _ else _)=_∧_)∨(∃ r,(bif _ then _ else _)=_∧_)
    by_cases e:(stp (lnk f) t).length=t.length
    ·rw[Aoo (by omega)]
     refine .inr ⟨_,rfl,?_⟩
     have e2:=xV e
     rw[e2,← i2]
     exact(Y8 e2 _).symm
    ·rw[Aop (by omega)]
     exact .inl ⟨_,rfl,⟨by omega,by rw[Ad2,i2]⟩,by omega⟩) fuel s ⟨h,rfl⟩ (by unfold fuel;omega)
  rw[h1,h2]
theorem Ab2 {f:Af} (F:FOK f) {s:List Int} (h:s.length≤1000) {k:Nat} {x:Int} (hk:s[k]? =some x) (hx:Fq f x=false) (hb:(s.take k).filter (Fq f)=s.take k) :
    Dx (Ee f) fuel ((k:Int),(k:Int)+1,s)=some (.ret (gfp (lnk f) (s.filter (Fq f)))):=by
  have ah:=(Aoz.1 hk).1
  obtain⟨r,h1,h2⟩:=Hc (step:=Ee f) (fun v=>∃ i j:Nat,v.1=(i:Int)∧v.2.1=(j:Int)∧i<j∧j≤s.length∧v.2.2.length=s.length∧v.2.2.take i=(s.take j).filter (Fq f)∧v.2.2.drop j=s.drop j) (fun r=>r=gfp (lnk f) (s.filter (Fq f))) (fun v=>(s.length - v.2.1).toNat) (by
    rintro⟨iv,jv,l⟩ ⟨i,j,rfl,rfl,qg,hj,hl,ht,hd⟩
    dsimp only at *
    unfold Ee
    dsimp only
    by_cases hjn:j<l.length
    ·rw[Aoo (by omega),cond_true]
     have hy:l[j]? =some (l[j]'hjn):=Aoq hjn
     generalize l[j]'hjn=y at hy
     have yn:s[j]? =some y:=by
       have:(l.drop j)[0]? =some y:=by rw[List.getElem?_drop];exact hy
       rw[hd,List.getElem?_drop]at this;exact this
     obtain⟨e,he⟩:=nH F y
     rw[Cm hy,Aos,he,Aos]
     have yv:(!decide (e≠0))=Fq f y:=by rw[aK he];by_cases e0:e=0<;>simp[e0]
     have wi:IntKind.i64.wrap ((i:Int)+1)=((i+1:Nat):Int):=S5 (by omega)
     have wj:IntKind.i64.wrap ((j:Int)+1)=((j+1:Nat):Int):=S5 (by omega)
     have hts:(s.take (j+1)).filter (Fq f)=(s.take j).filter (Fq f)++[y].filter (Fq f):=by rw[Bi yn,List.filter_append]
     rw[yv,wi,wj]
     have hd2:∀ l':List Int,l'.drop j=s.drop j→l'.drop (j+1)=s.drop (j+1):=fun l' h=>by
       have:=congrArg (List.drop 1) h
       rwa [List.drop_drop,List.drop_drop]at this
     cases hf:Fq f y with
     | false=>
       rw[cond_false]
       refine .inl ⟨_,rfl,⟨i,j+1,rfl,rfl,by omega,by omega,hl,?_,hd2 _ hd⟩,by dsimp only;omega⟩
       rw[hts,ht,List.filter_cons_of_neg (by rw[hf];decide),List.filter_nil,List.append_nil]
     | true=>
       rw[cond_true]
       have hi:l[i]? =some (l[i]'(by omega)):=Aoq (by omega)
       rw[Cm hi,Aos]
       refine .inl ⟨_,rfl,⟨i+1,j+1,rfl,rfl,by omega,by omega,by simp[hl],?_,?_⟩,by dsimp only;omega⟩
       ·rw[hts,List.filter_cons_of_pos hf,List.filter_nil,← ht,Int.toNat_natCast]
        have oa:(l.set i y)[i]? =some y:=by rw[List.getElem?_set_self (by omega)]
        rw[Bi oa,List.take_set_of_le (Nat.le_refl _)]
       ·rw[Int.toNat_natCast]
        refine hd2 _ ?_
        rw[List.drop_set_of_lt qg];exact hd
    ·have e:j=s.length:=by omega
     subst e
     rw[Aop (by omega),cond_false,Ns (by omega),Ns (by omega),Int.toNat_natCast]
     rw[List.take_length]at ht
     have hti:((l.take i)++(List.replicate (l.length - i) (0:Int))).take i=s.filter (Fq f):=by
       rw[List.take_append_of_le_length (by rw[List.length_take];omega),List.take_take,Nat.min_self,ht]
     rw[hti]
     have:=pL F (s:=s.filter (Fq f)) (by have:=List.length_filter_le (Fq f) s;omega)
     have e5:J3 f=D1 f:=rfl
     rw[e5,this]
     exact .inr ⟨_,rfl,rfl⟩) fuel ((k:Int),(k:Int)+1,s) ⟨k,k+1,rfl,rfl,by omega,by omega,rfl,(by dsimp only;rw[Bi hk,List.filter_append,hb,List.filter_cons_of_neg (by rw[hx];decide),List.filter_nil,List.append_nil]),rfl⟩ (by unfold fuel;dsimp only;omega)
  ·rw[h1,h2]
noncomputable def eI (f:Af) (runs:List Int):List Int:=gfp (lnk f) ((norm runs).filter (Fq f))
theorem Abr (xs:List Int):(norm xs).length≤xs.length:=Jv (Y5 xs).nodup fun x hx=>(Y4 xs x).1 hx
theorem x8 {f:Af} (F:FOK f) {runs:List Int} (h:runs.length≤1000):Fc f runs=some (eI f runs):=by
  have hl:=Abr runs
  unfold Fc
  rw[L7 (by omega),Aos,Bs (by omega),Bs (by omega)]
  show((Al (Fj f runs) 0 (norm runs) ()).bind fun o1=>o1.on fun s1=>(Dx (D1 f) fuel (norm runs)).bind fun o33=>o33.on fun _=>none)=_
  rcases E5 (step:=Fj f runs) (l:=norm runs) (s:=()) (fun k _=>((norm runs).take k).filter (Fq f)=(norm runs).take k) (fun r=>r=eI f runs) rfl (fun k x u hk hI=>by
    have ah:=(Aoz.1 hk).1
    obtain⟨e,he⟩:=nH F x
    unfold Fj
    rw[he,Aos]
    by_cases e0:e=0
    ·rw[Aop (p:=e≠0) (fun h=>h e0)]
     refine .inl ⟨_,rfl,?_⟩
     have hf:Fq f x=true:=by rw[aK he,Aoo e0]
     rw[Bi hk,List.filter_append,hI,List.filter_cons_of_pos hf,List.filter_nil]
    ·rw[Aoo (p:=e≠0) e0,cond_true,Aop (p:=((k:Nat):Int)= -1) (by omega),cond_false]
     have hf:Fq f x=false:=by rw[aK he,Aop e0]
     have key:=Ab2 F (s:=norm runs) (by omega) hk hf hI
     have hw:IntKind.i64.wrap (((k:Nat):Int)+1)=(k:Int)+1:=by rw[S5 (by omega)];rfl
     change (∃ s',((Dx (Ee f) fuel (((k:Nat):Int),IntKind.i64.wrap (((k:Nat):Int)+1),norm runs)).bind fun o16=>o16.on fun _=>none).bind (fun q30=>some (Out.ret q30))=_∧_)∨(∃ r,((Dx (Ee f) fuel (((k:Nat):Int),IntKind.i64.wrap (((k:Nat):Int)+1),norm runs)).bind fun o16=>o16.on fun _=>none).bind (fun q30=>some (Out.ret q30))=_∧_)
     rw[hw,key]
     exact .inr ⟨_,rfl,rfl⟩)with ⟨s',h1,h2⟩ | ⟨r,h1,rfl⟩
  ·rw[List.take_length]at h2
   rw[h1]
   show(Dx (D1 f) fuel (norm runs)).bind _=_
   rw[pL F (by omega)]
   unfold eI
   rw[h2];rfl
  ·rw[h1];rfl
theorem lT {α:Type} {idf:α→Int} {l:List α} (h:Ie idf l):Inc (l.map idf):=W46.wU fun k x y hx hy=>by
  rw[List.getElem?_map]at hx hy
  obtain⟨a,ha,rfl⟩:=Option.map_eq_some_iff.1 hx
  obtain⟨b,hb,rfl⟩:=Option.map_eq_some_iff.1 hy
  exact h k a b ha hb
theorem Aaa {l:List Int} (h:Inc l) (p:Int→Bool):Inc (l.filter p):=List.Pairwise.filter p h
theorem Ae7 {l l':List Int} (h:Inc l) (hs:l'.Sublist l):Inc l':=List.Pairwise.sublist hs h
theorem zY {L:List Int→Int→Bool} (n:Nat) (s:List Int):iter L (n+1) s=stp L (iter L n s):=by rw[mN n 1 s];rfl
theorem sH {f:Af} (F:FOK f) (runs:List Int):Qg f runs=some (eI f runs):=by
  have hR:=F.map.lenR
  unfold Qg
  rw[Di (step:=Qy f runs) (p:=fun x=>decide (x.ID∈runs)&&Fq f x.ID) (g:=Cn.ID) (by omega) (fun k x t hx=>by
   unfold Qy
   have hm:=sF F.map hx
   have h1:=iR F (run:=x.ID) (by rw[hm])
   rw[hm]at h1
   obtain⟨e,h2,h3⟩:=h1
   rw[Yo,Aos,h3,Aos,aK h2]
   cases decide (x.ID∈runs)<;>rfl)]
  show M1 f _=_
  generalize xm:(f.Map.Runs.filter fun x=>decide (x.ID∈runs)&&Fq f x.ID).map Cn.ID=now
  have hlen:now.length≤f.Map.Runs.length:=by rw[← xm,Aow];exact List.length_filter_le _ _
  have heq:now=(norm runs).filter (Fq f):=by
    refine S0 ?_ (Aaa (Y5 runs) _) fun x=>?_
    ·rw[← xm]
     exact Ae7 (lT F.map.runsR) (List.filter_sublist.map _)
    ·rw[← xm,List.mem_map,List.mem_filter,Y4]
     constructor
     ·rintro⟨y,hy,rfl⟩
      rw[List.mem_filter,Bool.and_eq_true,decide_eq_true_iff]at hy
      exact hy.2
     ·rintro⟨h1,h2⟩
      have hr:=fP (Aci h2)
      refine⟨(He f.Map x).1,List.mem_filter.2 ⟨hr.1,?_⟩,hr.2⟩
      rw[hr.2,Aoo h1,h2];rfl
  unfold M1
  obtain⟨s',h1,h2⟩:=eQ (ρ:=List Int) (n:=f.Map.Runs.length+1) (step:=M3 f) (s:=now) (by omega) (fun k s=>s=iter (lnk f) k now) rfl (fun k s hk hI=>by
    have hs:s.length≤64:=by rw[hI];exact Nat.le_trans (tR _ _).length_le (by omega)
    refine⟨stp (lnk f) s,?_,by rw[hI,← zY]⟩
    obtain⟨r,g1,g2⟩:=sJ F.map s
    unfold M3
    rw[(gY F).2,Aos,g1,Aos]
    rw[Di (step:=Qz f s (pub f) r) (p:=lnk f s) (g:=id) (by omega) (fun k x t hx=>by
     obtain⟨b,_,f1,f3⟩:=iK F.map (pub f) s x
     unfold Qz
     rw[Z9,Aos,f1,Aos,Yo,Aos]
     cases b with
     | false=>
       have:lnk f s x=false:=by
         rw[Bool.eq_false_iff];intro h;have:=f3.2 (Wr.1 h).1;cases this
       rw[this];rfl
     | true=>
       have:lnk f s x=decide ((He f.Map x).1.To∈r):=by
         rw[Bool.eq_iff_iff,decide_eq_true_iff,Wr,g2.mem]
         exact⟨fun h=>h.2,fun h=>⟨f3.1 rfl,h⟩⟩
       rw[this];rfl),List.map_id]
    rfl)
  rw[h1,h2]
  show some (iter (lnk f) (f.Map.Runs.length+1) now)=_
  rw[jO (U1 (f.Map.Runs.length+1) now (by omega)),heq];rfl
theorem eJ (a b:List Int):Kk a b=some (decide (a=b)):=
  Abg fun k x y hx hy=>by unfold Vj;rw[Cm hy];rfl
theorem mP {most:Int} {l:List Int} (h:S50.Ve most l):(l.length:Int)≤most∨l.length=0:=by
  by_cases e:l.length=0
  ·exact .inr e
  ·left
   have hx:l[l.length - 1]? =some (l[l.length - 1]'(by omega)):=Aoq (by omega)
   have h1:=W46.mO h.2 (fun x hx=>(h.1 x hx).1) _ _ hx
   have h2:=(h.1 _ (Aor hx)).2
   omega
theorem Gt {α ρ:Type} {step:Nat→α→List α→Option (Out (List α) ρ)} {c:α→Option α} {l:List α} (hl:l.length≤1000) (hs:∀ k x s,step k x s=(c x).bind fun y=>chk (s.length+1) (some (.next (s++[y])))) (hc:∀ x∈l,c x=some x):Al step 0 l []=some (.next l):=by
  rw[Di (p:=fun _=>true) (g:=id) (by omega) (fun k x s hx=>by rw[hs,hc x hx];rfl),List.map_id,List.filter_eq_self.2 (fun _ _=>rfl)]
theorem Acx {x:Cg} (h:x.List_.Items.length≤64∧x.List_.Signs.length≤200):De x=some x:=by
  unfold De Dj
  rw[L7 (by omega),Aos,Bs (by omega)];rfl
theorem Acw {x:Aw} (h:S50.Ci x):Dd x=some x:=by
  have h1:=mP h.2.1
  have h2:=mP h.2.2
  unfold Dd
  rw[L7 (by omega),Aos,L7 (by omega)];rfl
theorem Acv {x:A2} (h:x.Zones.length≤32):Dc x=some x:=by
  unfold Dc
  rw[L7 (by omega)];rfl
theorem Acu {x:Am} (h:x.Runs.length≤9999):Db x=some x:=by
  unfold Db
  rw[L7 (by omega)];rfl
def Ru (l:List Au):List Int:=(l.filter fun x=>x.Open).map Au.Run
theorem eG (l:List Au):(Ru l).length≤l.length:=by unfold Ru;rw[Aow];exact List.length_filter_le _ _
theorem gZ {f:Af} (h:f.Status.length≤1000):D9 f=some (Ru f.Status):=by
  unfold D9
  rw[Di (step:=L0) (p:=fun x=>x.Open) (g:=Au.Run) (by omega) (fun k x s _=>rfl)];rfl
theorem qN {f:Af} (h:f.Status.length≤1000):Qf f=some (Ru f.Status):=gZ h
def P5 (K:List Int) (x:Au):Bool:=x.Open&&!decide (x.Run∈K)
def nT (K:List Int) (t:Int) (x:Au):Au:=bif P5 K x then⟨x.Run,false,t⟩else x
def dG (f:Af) (l:List Au):Af:=Af.mk f.Map f.Lifts f.Closures f.Patrol f.Surfaces f.Packs f.Slides f.Bulletin f.Missions f.Winches f.Groomers l f.Depth f.Time
theorem Aa3 (f:Af) (K:List Int) {l:List Au} (hl:l.length≤1000):Al (Ft f K) 0 l (l,[])=some (.next (l.map (nT K f.Time),(l.filter (P5 K)).map Au.Run)):=by
  obtain⟨s',h1,h2⟩:=Eb (ρ:=Af×List Int) (step:=Ft f K) (l:=l) (s:=(l,[])) (fun k s=>s=((l.take k).map (nT K f.Time)++l.drop k,((l.take k).filter (P5 K)).map Au.Run)) (by simp) (fun k x s hk hI=>by
    have ah:=(Aoz.1 hk).1
    have hlen:((l.take k).map (nT K f.Time)).length=k:=by simp;omega
    have hx:s.1[k]? =some x:=by
      rw[hI];dsimp only
      rw[List.getElem?_append_right (by omega),hlen,Nat.sub_self,List.getElem?_drop];exact hk
    have qd:s.2.length≤k:=by
      rw[hI];dsimp only
      rw[Aow]
      have:=List.length_filter_le (P5 K) (l.take k)
      rw[List.length_take]at this;omega
    have ix:∀ y:Au,s.1.set k y=(l.take k).map (nT K f.Time)++y::l.drop (k+1):=fun y=>by
      rw[hI];dsimp only
      rw[List.set_append_right _ _ (by omega),hlen,Nat.sub_self,List.drop_eq_getElem_cons ah];rfl
    have vd:s.1=(l.take k).map (nT K f.Time)++x::l.drop (k+1):=by
      rw[hI];dsimp only
      rw[List.drop_eq_getElem_cons ah]
      rw[Aoq ah]at hk
      rw[Aoy hk]
    unfold Ft
    rw[Cm hx,Aos,contains_eq,Aos]
    rw[Bi hk,List.map_append,List.filter_append,List.map_append,List.append_assoc]
    have hu:nT K f.Time x=bif P5 K x then⟨x.Run,false,f.Time⟩else x:=rfl
    have gp:P5 K x=(x.Open&&!decide (x.Run∈K)):=rfl
    cases ho:x.Open with
    | false=>
      rw[ho]at gp
      have gp:P5 K x=false:=gp
      rw[cond_false,List.filter_cons_of_neg (by rw[gp];decide)]
      rw[gp]at hu
      refine⟨_,rfl,?_⟩
      rw[Prod.mk.injEq]
      exact⟨by rw[vd];simp[hu],by rw[hI];simp⟩
    | true=>
      rw[ho,Bool.true_and]at gp
      rw[cond_true]
      cases hd:decide (x.Run∈K)with
      | true=>
        rw[hd]at gp
        have gp:P5 K x=false:=gp
        rw[List.filter_cons_of_neg (by rw[gp];decide)]
        rw[gp]at hu
        refine⟨_,rfl,?_⟩
        rw[Prod.mk.injEq]
        exact⟨by rw[vd];simp[hu],by rw[hI];simp⟩
      | false=>
        rw[hd]at gp
        have gp:P5 K x=true:=gp
        rw[List.filter_cons_of_pos gp]
        rw[gp]at hu
        rw[Bool.not_false,cond_true,Bs (by omega)]
        refine⟨_,rfl,?_⟩
        rw[Prod.mk.injEq]
        exact⟨by rw[List.set_set,ix];simp[hu],by rw[hI];simp⟩)
  rw[List.take_length,List.drop_length,List.append_nil]at h2
  rw[h1,h2]
theorem oQ {f:Af} (F:FOK f) (W:rV f):F4 f=some (dG f (f.Status.map (nT (eI f (Ru f.Status)) f.Time)),(f.Status.filter (P5 (eI f (Ru f.Status)))).map Au.Run):=by
  have M:=F.map
  have hS:=F.statL
  have hn:=eG f.Status
  have:=M.lenN
  have:=M.lenL
  have:=M.lenR
  have:=M.lenB
  have:=F.liftsL
  have:=F.packsL
  have:=F.listsL
  have:=F.misL
  have:=W.closures
  have:=W.jk
  have:=W.surfaces
  have:=W.slides
  have:=W.bulletin
  have:=W.winches
  have:=W.groomers
  have q1:=Gt (ρ:=Af×List Int) (step:=Ml) (c:=De) (l:=f.Patrol.Ci) (by omega) (fun k x s=>rfl) (fun x hx=>Acx (F.lists x hx))
  have q2:=Gt (ρ:=Af×List Int) (step:=Mk) (c:=Dd) (l:=f.Slides) (by omega) (fun k x s=>rfl) (fun x hx=>Acw (F.slides.at hx).2)
  have q3:=Gt (ρ:=Af×List Int) (step:=Mj) (c:=Dc) (l:=f.Bulletin) (by omega) (fun k x s=>rfl) (fun x hx=>Acv (F.bul x hx))
  have q4:=Gt (ρ:=Af×List Int) (step:=Mi) (c:=Db) (l:=f.Winches) (by omega) (fun k x s=>rfl) (fun x hx=>Acu (F.ropes.rope x hx).runs.len)
  unfold F4
  rw[gZ (by omega),Aos,x8 F (by omega),Aos]
  unfold Cb Cc Ch Bu B1 B6 Bv Bw Bx Bz Cl
  rw[Bs (n:=f.Map.Nodes.length) (by omega),Aos,Bs (n:=f.Map.Lifts.length) (by omega),Aos,Bs (n:=f.Map.Runs.length) (by omega),Aos,L7 (by omega),Aos,
   Bs (n:=f.Lifts.length) (by omega),Aos,Bs (n:=f.Closures.length) (by omega),Aos,Bs (n:=f.Patrol.Ci.length) (by omega),q1,Aos]
  show(chk f.Patrol.Hazards.length (some f.Patrol.Hazards)).bind _=_
  rw[Bs (n:=f.Patrol.Hazards.length) (by omega),Aos,Bs (n:=f.Surfaces.length) (by omega),Aos,Bs (n:=f.Packs.length) (by omega),Aos,Bs (n:=f.Slides.length) (by omega),q2,Aos]
  show chk f.Bulletin.length _=_
  rw[Bs (n:=f.Bulletin.length) (by omega),q3,Aos]
  show(chk f.Missions.length (some f.Missions)).bind _=_
  rw[Bs (n:=f.Missions.length) (by omega),Aos,Bs (n:=f.Winches.length) (by omega),q4,Aos]
  show(chk f.Groomers.length (some f.Groomers)).bind _=_
  rw[Bs (n:=f.Groomers.length) (by omega),Aos,Bs (n:=f.Status.length) (by omega),Aos,Aa3 f _ (by omega)]
  rfl
theorem lR {f:Af} (F:FOK f):Lp f=some (dG f (f.Status.map (nT (eI f (Ru f.Status)) f.Time)),(f.Status.filter (P5 (eI f (Ru f.Status)))).map Au.Run):=by
  have hS:=F.statL
  unfold Lp
  rw[qN (by omega),Aos,sH F,Aos]
  generalize eI f (Ru f.Status)=K
  obtain⟨s',h1,h2⟩:=Eb (ρ:=Af×List Int) (step:=Na f K) (l:=f.Status) (s:=([],[])) (fun k s=>s=((f.Status.take k).map (nT K f.Time),((f.Status.take k).filter (P5 K)).map Au.Run)) rfl (fun k x s hk hI=>by
    have ah:=(Aoz.1 hk).1
    have gz:s.1.length≤k:=by rw[hI];simp;omega
    have qd:s.2.length≤k:=by
      rw[hI];dsimp only
      rw[Aow]
      have:=List.length_filter_le (P5 K) (f.Status.take k)
      rw[List.length_take]at this;omega
    unfold Na
    rw[Yo,Aos,Bi hk,List.map_append,List.filter_append,List.map_append]
    have hu:nT K f.Time x=bif P5 K x then⟨x.Run,false,f.Time⟩else x:=rfl
    have gp:P5 K x=(x.Open&&!decide (x.Run∈K)):=rfl
    obtain⟨xr,xo,xs⟩:=x
    dsimp only at *
    cases xo with
    | false=>
      have gp:P5 K ⟨xr,false,xs⟩=false:=gp
      rw[cond_false,Bs (by omega),List.filter_cons_of_neg (by rw[gp];decide)]
      rw[gp]at hu
      refine⟨_,rfl,?_⟩
      rw[Prod.mk.injEq]
      exact⟨by rw[hI];simp[hu],by rw[hI];simp⟩
    | true=>
      rw[Bool.true_and]at gp
      rw[cond_true]
      cases hd:decide (xr∈K)with
      | true=>
        rw[hd]at gp
        have gp:P5 K ⟨xr,true,xs⟩=false:=gp
        rw[List.filter_cons_of_neg (by rw[gp];decide)]
        rw[gp]at hu
        rw[Bool.not_true,cond_false,Bs (by omega)]
        refine⟨_,rfl,?_⟩
        rw[Prod.mk.injEq]
        exact⟨by rw[hI];simp[hu],by rw[hI];simp⟩
      | false=>
        rw[hd]at gp
        have gp:P5 K ⟨xr,true,xs⟩=true:=gp
        rw[List.filter_cons_of_pos gp]
        rw[gp]at hu
        rw[Bool.not_false,cond_true,Bs (by omega),Bs (by omega)]
        refine⟨_,rfl,?_⟩
        rw[Prod.mk.injEq]
        exact⟨by rw[hI];simp[hu],by rw[hI];simp⟩)
  rw[List.take_length]at h2
  rw[h1,h2];rfl
theorem bff {α:Type} {c:Bool} {a b r:α} (hc:c=false) (h:b=r):(bif c then a else b)=r:=by subst hc;exact h
theorem bft {α:Type} {c:Bool} {a b r:α} (hc:c=true) (h:a=r):(bif c then a else b)=r:=by subst hc;exact h
theorem Adg {f:Af} (F:FOK f):Ag (Gg f) (cI f):=by
  have:=F.statL
  unfold Gg cI
  rw[gZ (by omega),qN (by omega),Aos,Aos]
  refine Ag.bind (Ag.Al fun i x s _=>?_) fun o _ _=>Ag.on fun _ _=>Ag.some _
  obtain⟨e,h1,h2,_⟩:=qL F (Ru f.Status) x
  unfold Pk bJ
  rw[h1,h2]
  exact Ag.bif rfl (fun _=>Ag.some _) fun _=>Ag.some _
theorem oU {f:Af} (F:FOK f) {b:Bool} (h:cI f=some b):Gg f=some b:=by rw[(Adg F).eq,h]
theorem V4 {f:Af} (F:FOK f) {op:List Int} {run e:Int} (h:Lo f op run=some e):C6 f op run=some e:=by
  obtain⟨e',h1,h2,_⟩:=qL F op run
  rw[h]at h2;rw[h1,Aoy h2]
def z54:Af:=Af.mk (Av.mk [] [] [] []) [] [] (Bk.mk [] []) [] [] [] [] [] [] [] [] (0:Int) (0:Int)
theorem tD {f:Af} (F:FOK f) (hs:f.Status=[]) {run e:Int} (hr:(He f.Map run).2=true) (he:e≠0) (h:Lo f [run] run=some e):Eu f run=some (z54,e):=by
  unfold Eu
  rw[St,Aos,hr,gZ (by rw[hs];decide),Aos,contains_eq,Aos,hs]
  refine bff rfl (bff rfl ?_)
  refine D2 (x:=.next ()) rfl ?_
  rw[Out.on]
  refine bff rfl ?_
  rw[Bs (by decide)]
  show(C6 f [run] run).bind _=_
  rw[V4 F h,Aos]
  exact bft (Aoo he) rfl
def En:Af:=(Af.mk (Av.mk [(Cx.mk (1:Int) (1000:Int)),(Cx.mk (2:Int) (2000:Int)),(Cx.mk (3:Int) (1500:Int))] [(Ck.mk (1:Int) (1:Int) (1:Int) (2:Int) (1000:Int) (5000:Int) (4:Int) (50:Int))] [(Cn.mk (1:Int) (1:Int) (2:Int) (3:Int) (2:Int) (1:Int) (800:Int)),(Cn.mk (2:Int) (1:Int) (3:Int) (1:Int) (2:Int) (1:Int) (800:Int))] [(1:Int)]) [(Cv.mk (1:Int) (1:Int))] [] (Bk.mk [(Cg.mk (1:Int) (Ba.mk [] (60:Int) [])),(Cg.mk (2:Int) (Ba.mk [] (60:Int) []))] []) [] [(Ct.mk (1:Int) (100:Int) (Fo.mk (0:Int) (450:Int) (450:Int))),(Ct.mk (2:Int) (100:Int) (Fo.mk (0:Int) (450:Int) (450:Int)))] [] [] [] [] [] [] (300:Int) (0:Int))
def Afq:List Au:=[(Au.mk (1:Int) true (0:Int)),(Au.mk (2:Int) true (0:Int))]
def exA:Af:=dG En Afq
def exB:Af:=Af.mk En.Map En.Lifts [(Bb.mk (1:Int) (2:Int) (1:Int) (0:Int))] En.Patrol En.Surfaces En.Packs En.Slides En.Bulletin En.Missions En.Winches En.Groomers Afq En.Depth En.Time
def exH:Af:=Af.mk En.Map En.Lifts En.Closures (Bk.mk En.Patrol.Ci [(C5.mk (1:Int) (1:Int) (0:Int))]) En.Surfaces En.Packs En.Slides En.Bulletin En.Missions En.Winches En.Groomers En.Status En.Depth En.Time
def exD:Af:=Af.mk En.Map En.Lifts En.Closures En.Patrol En.Surfaces En.Packs En.Slides En.Bulletin En.Missions En.Winches En.Groomers En.Status (1001:Int) En.Time
def exS:Af:=Af.mk En.Map En.Lifts En.Closures En.Patrol En.Surfaces En.Packs [(Aw.mk (1:Int) [(1:Int)] [] (100:Int) (100:Int) (-1:Int))] En.Bulletin En.Missions En.Winches En.Groomers En.Status En.Depth En.Time
theorem exI {f:Af} (h1:f.Patrol.Ci=En.Patrol.Ci) (h2:f.Slides=[]∨f.Slides=[(Aw.mk (1:Int) [(1:Int)] [] (100:Int) (100:Int) (-1:Int))]) (h3:f.Bulletin=[]) (h4:f.Winches=[]):Aa0 f∧f.Slides.length≤9223372036854775807:=by
  refine⟨⟨?_,?_,?_,?_⟩,?_⟩
  ·rw[h1];simp[En]
  ·rcases h2 with h2 | h2<;>rw[h2]<;>simp
  ·rw[h3];simp
  ·rw[h4];simp
  ·rcases h2 with h2 | h2<;>rw[h2]<;>simp
theorem Aae {f:Af} (h:Aa0 f∧f.Slides.length≤9223372036854775807) (e:Ip f=some 0):FOK f:=Acm h.1 h.2 e
theorem F0:FOK En:=Aae (exI rfl (.inl rfl) rfl rfl) (by decide +kernel)
theorem FA:FOK exA:=Aae (exI rfl (.inl rfl) rfl rfl) (by decide +kernel)
theorem FB:FOK exB:=Aae (exI rfl (.inl rfl) rfl rfl) (by decide +kernel)
theorem FH:FOK exH:=Aae (exI rfl (.inl rfl) rfl rfl) (by decide +kernel)
theorem FD:FOK exD:=Aae (exI rfl (.inl rfl) rfl rfl) (by decide +kernel)
theorem FS:FOK exS:=Aae (exI rfl (.inr rfl) rfl rfl) (by decide +kernel)
theorem W0:rV En:=⟨by decide,by decide,by decide,by decide,by decide,by decide,by decide,by decide,by decide⟩
theorem WB:rV exB:=⟨by decide,by decide,by decide,by decide,by decide,by decide,by decide,by decide,by decide⟩
theorem Aej:Rv=some true:=by
  have o1:=tD F0 rfl (run:=1) (e:=16) (by decide +kernel) (by decide) (by decide +kernel)
  have o2:=tD F0 rfl (run:=2) (e:=16) (by decide +kernel) (by decide) (by decide +kernel)
  have hR:Gs En=some 0:=by
    rw[(pU En W0 (exI rfl (.inl rfl) rfl rfl).1 (by decide) (by decide) (by decide)).eq];decide +kernel
  have hK:Fc En [1,2]=some [1,2]:=by
    rw[x8 F0 (by decide),← sH F0];decide +kernel
  have hU:=oQ FB WB
  rw[← lR FB]at hU
  have hU2:(Lp exB).map (fun p=>(p.2,Ru p.1.Status,decide (p.1.Status.length≤1000)))=some ([1,2],[],true):=by decide +kernel
  obtain⟨p,hp,hq⟩:=Option.map_eq_some_iff.1 hU2
  rw[hp]at hU
  rw[Prod.mk.injEq,Prod.mk.injEq]at hq
  unfold Rv
  refine D2 (x:=En) rfl ?_
  refine D2 o1 ?_
  refine D2 o2 ?_
  refine D2 hR ?_
  refine bff rfl (bff rfl (bff rfl ?_))
  refine D2 hK ?_
  refine D2 (eJ _ _) ?_
  refine bff rfl ?_
  refine D2 (oU FA (b:=true) (by decide +kernel)) ?_
  refine bff rfl ?_
  refine D2 (x:=[1,2]) rfl ?_
  refine D2 (eJ _ _) ?_
  refine bff rfl ?_
  refine D2 hU ?_
  refine D2 (oU FB (b:=false) (by decide +kernel)) ?_
  refine bff rfl ?_
  refine D2 (eJ _ _) ?_
  rw[hq.1]
  refine bff rfl ?_
  refine D2 (gZ (Aon hq.2.2)) ?_
  rw[hq.2.1]
  refine bff rfl ?_
  refine D2 (V4 FH (e:=14) (by decide +kernel)) ?_
  refine bft rfl ?_
  refine D2 (V4 FD (e:=5) (by decide +kernel)) ?_
  refine bft rfl ?_
  refine D2 (V4 FS (e:=10) (by decide +kernel)) ?_
  refine bft rfl ?_
  refine D2 (V4 F0 (e:=8) (by decide +kernel)) ?_
  refine bft rfl ?_
  refine D2 (V4 F0 (e:=0) (by decide +kernel)) ?_
  rfl
theorem yZ (f:Af):Tot (K9 f):=by
  unfold K9
  repeat' first | exact Tot.some _ | refine Tot.bif (fun _=>?_) (fun _=>?_)
theorem bfs {c:Bool} {b:Option Bool} (h:(bif c then some false else b)=some true):c=false∧b=some true:=by
  cases c with
  | false=>exact ⟨rfl,h⟩
  | true=>cases h
theorem bts {c:Bool} {b:Option Bool} (h:(bif c then b else some false)=some true):c=true∧b=some true:=by
  cases c with
  | true=>exact ⟨rfl,h⟩
  | false=>cases h
theorem Abd {f:Af} (h:K9 f=some true):rV f∧f.Lifts.length≤12∧f.Packs.length≤12∧f.Status.length≤12:=by
  unfold K9 at h
  obtain⟨_,h⟩:=bfs h
  obtain⟨_,h⟩:=bfs h
  obtain⟨_,h⟩:=bfs h
  obtain⟨_,h⟩:=bfs h
  obtain⟨a1,h⟩:=bfs h
  obtain⟨a2,h⟩:=bfs h
  obtain⟨a3,h⟩:=bfs h
  obtain⟨a4,h⟩:=bfs h
  obtain⟨a5,h⟩:=bfs h
  obtain⟨a6,h⟩:=bfs h
  obtain⟨a7,h⟩:=bfs h
  obtain⟨a8,h⟩:=bfs h
  obtain⟨a9,h⟩:=bts h
  obtain⟨a10,h⟩:=bts h
  obtain⟨a11,h⟩:=bts h
  have a12:=Aon (Aoy h)
  have a1:=Aom a1
  have a2:=Aom a2
  have a3:=Aom a3
  have a4:=Aom a4
  have a5:=Aom a5
  have a6:=Aom a6
  have a7:=Aom a7
  have a8:=Aom a8
  have a9:=Aon a9
  have a10:=Aon a10
  have a11:=Aon a11
  exact⟨⟨by omega,by omega,by omega,by omega,by omega,by omega,by omega,by omega,by omega⟩,by omega,by omega,by omega⟩
theorem nW {f:Af} (h:Ul f) (l:List Int):Oa f l=some false∨(Oa f l=some true∧l.length≤40∧rV f∧FOK f∧f.Status.length≤12):=by
  unfold Oa
  cases hl:decide (((l.length:Nat):Int)≤40)with
  | false=>exact .inl rfl
  | true=>
    have hl:=Aon hl
    obtain⟨b,hb⟩:=yZ f
    rw[hb,cond_true,Aos]
    cases b with
    | false=>exact .inl rfl
    | true=>
      obtain⟨W,w1,w2,w3⟩:=Abd hb
      obtain⟨e,_,he⟩:=pU f W (yD h) (by omega) (by omega) (by omega)
      rw[he,cond_true,Aos]
      by_cases e0:e=0
      ·subst e0
       exact .inr ⟨rfl,by omega,W,Acm (yD h) h.2.2.2.2.2.2.1.1 he,w3⟩
      ·rw[Aop e0];exact .inl rfl
end Go.Proofs.YtjopghiagoidgaaGreat
