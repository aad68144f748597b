/- Our own texts: a layer of abstract values over the model, the walks of the functions, the plain laws; joined and shortened by a small program of our own (wip/dce2.py, wip/pack.py). -/
import Derived.Test.YtooopbnnhbacjaaGreatA4
namespace Go.Proofs.YtooopbnnhbacjaaGreat
open Go Go.Ab
set_option linter.unusedSimpArgs false
set_option linter.unusedVariables false
def c0:Ar:=⟨0,⟨0,0,0,0,0,0,0⟩⟩
theorem Wa (cs:List Ar):∃ m,Bo Eb 0 cs []=some (.next m)∧(∀ g s,mhas m (pk g s)=true→mget c0 m (pk g s)∈cs∧(mget c0 m (pk g s)).Ride.Gate=g∧(mget c0 m (pk g s)).Ride.Seq=s)∧
    ∀ c∈cs,mhas m (pk c.Ride.Gate c.Ride.Seq)=true:=by
  obtain⟨m,h1,h2,h3⟩:=Iq (step:=Eb) (l:=cs) (s:=[]) (fun k m=>(∀ g s,mhas m (pk g s)=true→mget c0 m (pk g s)∈cs∧(mget c0 m (pk g s)).Ride.Gate=g∧(mget c0 m (pk g s)).Ride.Seq=s)∧
    ∀ c∈cs.take k,mhas m (pk c.Ride.Gate c.Ride.Seq)=true) ⟨fun g s h=>(by cases h),by simp⟩ (fun k x m hk ⟨hI,hJ⟩=>by
      refine⟨mset m (pk x.Ride.Gate x.Ride.Seq) x,rfl,fun g s h=>?_,fun c hc=>?_⟩
      ·rw[P3]
       by_cases e:pk x.Ride.Gate x.Ride.Seq=pk g s
       ·rw[if_pos e]
        exact⟨bO hk,(Qk e).1,(Qk e).2⟩
       ·rw[if_neg e]
        rw[Mu,bM e]at h
        exact hI g s h
      ·rw[Mu]
       rw[G6 hk]at hc
       rcases bU.1 hc with h | h
       ·rw[hJ c h];simp
       ·simp at h;subst h;simp)
  exact⟨m,h1,h2,by rwa [List.take_length]at h3⟩
def Xq (x:Ao) (r:A1):Bool:=!x.Closed&&decide (r.At<x.Span.To)
theorem Sa {rides:List A1} {ps:List Ao} {cs:List Ar} {k:Nat} {r:A1} (ho:Ordered rides) (hg:∀ x∈rides,RgR x) (hr:r∈rides) (h:POk ps) (hc:COk rides ps.length cs) (hk:cs.length≤k) (db:k<80) :
    (∃ cs' n,Dh ⟨ps,[],cs⟩ r=some (⟨ps,[],cs'⟩,n,0)∧1≤n∧COk rides ps.length cs'∧cs'.length≤k+1)∨Dh ⟨ps,[],cs⟩ r=some (⟨[],[],[]⟩,0,8):=by
  obtain⟨m,h1,h2,h3⟩:=Wa cs
  have hl:=h.1
  have hE:Dh ⟨ps,[],cs⟩ r=Ea ⟨ps,[],cs⟩ r m:=by
    rw[Dh,Un (hg r hr)]
    simp only[bP,Bool.not_true,cond_false]
    rw[h1];rfl
  rw[hE]
  unfold Ea
  rw[Fq,bP]
  cases hm:mhas m (pk r.Gate r.Seq)with
  | true=>
    obtain⟨a1,a2,a3⟩:=h2 _ _ hm
    obtain⟨b1,b2,b3,b4⟩:=hc.1 _ a1
    have e:=Ql ho b1 hr a2 a3
    refine .inl ⟨cs,(mget c0 m (pk r.Gate r.Seq)).Period,?_,b2,hc,by omega⟩
    have e':=e
    unfold c0 at e' ⊢
    rw[U5 h (by omega)]
    simp[e']
  | false=>
    rw[cond_false,Jx (fun x:Ao=>Xq x r) (fun x=>((⟨ps,[],cs++[⟨x.Number,r⟩]⟩:Be),x.Number,(0:Int))) (fun i x _=>by
     unfold E9 Xq
     cases x.Closed with
     | true=>rfl
     | false=>
       cases decide (r.At<x.Span.To)with
       | false=>rfl
       | true=>
         simp[Bk,Bh,Bj,Eh (n:=ps.length) (by omega),Eh (n:=cs.length) (by omega),Eh (n:=cs.length+1) (by omega),Eh (n:=0) (by omega),U6 h.shares,Out.on]
         rw[bM (by omega),bM (by omega)];rfl)]
    cases hf:ps.find? fun x=>Xq x r with
    | none=>exact .inr rfl
    | some x=>
      refine .inl ⟨cs++[⟨x.Number,r⟩],x.Number,rfl,?_⟩
      have hx:=List.find?_some hf
      obtain⟨i,hi⟩:=List.getElem?_of_mem (List.mem_of_find?_eq_some hf)
      have ab:=(bW.1 hi).1
      obtain⟨c1,c2,c3,c4⟩:=h.2.1 i x hi
      simp only[Xq,Bool.and_eq_true,decide_eq_true_eq]at hx
      refine⟨by omega,⟨fun c bc=>?_,?_⟩,by simp;omega⟩
      ·rcases bU.1 bc with qm | qm
       ·exact hc.1 c qm
       ·simp at qm;subst qm
        exact⟨hr,by simp only;omega,by simp only;omega,by simp only;omega⟩
      ·refine List.pairwise_append.2 ⟨hc.2,by simp,fun a ha b hb=>?_⟩
       simp at hb;subst hb
       rintro⟨e1,e2⟩
       have:=h3 a ha
       simp only at e1 e2
       rw[e1,e2,hm]at this;cases this
abbrev Sv:=(List Ao)×(List Bi)×(List Ar)
def Good (rides:List A1) (k:Nat) (sv:Sv):Prop:=POk sv.1∧sv.2.1=[]∧COk rides sv.1.length sv.2.2∧sv.2.2.length≤k
section
variable {rides:List A1} (ho:Ordered rides) (hg:∀ x∈rides,RgR x) (ez:0<rides.length) (hl:rides.length≤40)
include ho hg ez hl
theorem Wb {e:Int} {ps:List Ao} {cs:List Ar} {k:Nat} (h:POk ps) (hc:COk rides ps.length cs) (hk:cs.length≤k) (db:k<80) :
    ∃ s',Cn rides e ps [] cs=some (.next s')∧Good rides (k+1) s':=by
  have gw:(0:Int)<((rides.length:Nat):Int):=by omega
  have m1:=Int.tmod_lt_of_pos e gw
  have m2:=Int.lt_tmod_of_pos e gw
  unfold Cn
  rw[Yf (by omega)]
  by_cases hn:Int.tmod e ((rides.length:Nat):Int)<0
  ·rw[bL hn,cond_true]
   obtain⟨i,hi⟩:∃ i:Nat,Int.tmod e ((rides.length:Nat):Int)+((rides.length:Nat):Int)=(i:Int):=⟨(Int.tmod e ((rides.length:Nat):Int)+((rides.length:Nat):Int)).toNat,by omega⟩
   rw[wrap_i64 (by omega) (by omega),hi]
   have hx:rides[i]? =some rides[i]:=bN (by omega)
   rw[Br hx,bP]
   rcases Sa ho hg (bO hx) h hc hk db with⟨cs',n,h1,h2,h3,h4⟩ | h1
   ·exact⟨(ps,[],cs'),by rw[h1,bP];simp[bM (Int.not_lt.2 h2)],h,rfl,h3,h4⟩
   ·exact⟨(ps,[],cs),by rw[h1,bP];simp,h,rfl,hc,by simp only;omega⟩
  ·rw[bM hn,cond_false]
   obtain⟨i,hi⟩:∃ i:Nat,Int.tmod e ((rides.length:Nat):Int)=(i:Int):=⟨(Int.tmod e ((rides.length:Nat):Int)).toNat,by omega⟩
   rw[hi]
   have hx:rides[i]? =some rides[i]:=bN (by omega)
   rw[Br hx,bP]
   rcases Sa ho hg (bO hx) h hc hk db with⟨cs',n,h1,h2,h3,h4⟩ | h1
   ·exact⟨(ps,[],cs'),by rw[h1,bP];simp[bM (Int.not_lt.2 h2)],h,rfl,h3,h4⟩
   ·exact⟨(ps,[],cs),by rw[h1,bP];simp,h,rfl,hc,by simp only;omega⟩
theorem Wc {e:Int} {ps:List Ao} {cs:List Ar} {k:Nat} (h:POk ps) (hc:COk rides ps.length cs) (hk:cs.length≤k) (db:k<80) :
    ∃ s',Co rides e ps [] cs=some (.next s')∧Good rides (k+1) s':=by
  unfold Co
  by_cases he:Int.tmod e 7=0
  ·rw[bL he,cond_true]
   have hF:=R2 ⟨ps,[],cs⟩
   rw[hF,bP]
   cases hf:ps.find? fun x=>!x.Closed with
   | none=>exact Wb ho hg ez hl h hc hk db
   | some x=>
     obtain⟨hx,i,hi,hb⟩:=Wo hf
     have hn:=(h.2.1 i x hi).1
     simp only
     rw[bL (by omega),cond_true,bP,Wv h (by omega) hf hi,bP]
     simp only[ne_eq,not_true_eq_false,decide_false,cond_false]
     exact Wb ho hg ez hl (Wu h hi hb) (by rw[List.length_set];exact hc) hk db
  ·rw[bM he,cond_false]
   exact Wb ho hg ez hl h hc hk db
theorem Ym {e:Int} {sv:Sv} {k:Nat} (h:Good rides k sv) (db:k<80):∃ s',Cp rides k e sv=some (.next s')∧Good rides (k+1) s':=by
  obtain⟨ps,po,cs⟩:=sv
  obtain⟨h1,h2,h3,h4⟩:=h
  simp only at h1 h2 h3 h4
  subst h2
  have gx:=h1.1
  unfold Cp
  by_cases he:Int.tmod e 5=0
  ·rw[bL he,cond_true]
   by_cases fh:((ps.length:Nat):Int)<20
   ·have w1:IntKind.i64.wrap ((ps.length:Int)+1)=(ps.length:Int)+1:=by rw[wrap_i64]<;>omega
    have w2:IntKind.i64.wrap (100*((ps.length:Int)+1))=100*((ps.length:Int)+1):=by rw[wrap_i64]<;>omega
    simp only
    rw[bL fh,cond_true,w1,w2,W2 h1 (by omega) (by omega),bP]
    exact Wc ho hg ez hl (Wz h1 (by omega)) (h3.mono (by simp)) h4 db
   ·simp only
    rw[bM fh,cond_false]
    exact Wc ho hg ez hl h1 h3 h4 db
  ·rw[bM he,cond_false]
   exact Wc ho hg ez hl h1 h3 h4 db
end
theorem Xk {rides:List A1} {entries:List Int} (ho:Ordered rides) (hg:∀ x∈rides,RgR x) (ez:0<rides.length) (hl:rides.length≤40) (he:entries.length≤80) :
    ∃ s',Bo (Cp rides) 0 entries ([],[],[])=some (.next s')∧Good rides entries.length s':=
  Iq (step:=Cp rides) (l:=entries) (s:=([],[],[])) (fun k s=>Good rides k s)
   ⟨⟨by simp,fun i x hx=>by simp at hx,fun i j x y _ hx _ _=>by simp at hx⟩,rfl,⟨by simp,by simp⟩,by simp⟩
   (fun k x s hk hI=>Ym ho hg ez hl hI (by have:=(bW.1 hk).1;omega))
theorem V0 (b:Be) (n:Int) (hb:b.Rides.length≤80):Fs b n=some ((b.Rides.filter fun c=>decide (c.Period=n)).map (·.Ride)):=by
  have hx:=List.length_filter_le (fun c:Ar=>decide (c.Period=n)) b.Rides
  rw[Fs,Pk (step:=E8 n) (fun c:Ar=>decide (c.Period=n)) (·.Ride) (by omega) (fun k x s _=>rfl)]
  show chk _ _=_
  rw[Eh (by rw[bT];omega)]
theorem Sh (cs:List Ar) (k:Nat):(cs.filter fun c=>decide (c.Period≤((k+1:Nat):Int))).length=(cs.filter fun c=>decide (c.Period≤(k:Int))).length+(cs.filter fun c=>decide (c.Period=(k:Int)+1)).length:=by
  induction cs with
  | nil=>rfl
  | cons c r ih=>
    by_cases h1:c.Period≤(k:Int)
    ·rw[List.filter_cons_of_pos (by simp;omega),List.filter_cons_of_pos (by simpa using h1),List.filter_cons_of_neg (by simp;omega)]
     simp only[List.length_cons];omega
    ·by_cases h2:c.Period=(k:Int)+1
     ·rw[List.filter_cons_of_pos (by simp;omega),List.filter_cons_of_neg (by simpa using h1),List.filter_cons_of_pos (by simpa using h2)]
      simp only[List.length_cons];omega
     ·rw[List.filter_cons_of_neg (by simp;omega),List.filter_cons_of_neg (by simpa using h1),List.filter_cons_of_neg (by simpa using h2)]
      exact ih
theorem X4 {rides:List A1} {ps:List Ao} {cs:List Ar} (h:POk ps) (hc:COk rides ps.length cs) (hk:cs.length≤80) :
    L6 (Cy ps [] cs) ((ps.length+1) - 1) (0:Int)=some (.next (cs.length:Int)):=by
  have hl:=h.1
  obtain⟨s',h1,h2⟩:=Wl (step:=Cy ps [] cs) (n:=(ps.length+1) - 1) (s:=(0:Int)) (by omega) (fun k s=>s=((cs.filter fun c=>decide (c.Period≤(k:Int))).length:Int))
    (by
      have:(cs.filter fun c=>decide (c.Period≤((0:Nat):Int)))=[]:=List.filter_eq_nil_iff.2 fun c bc=>by
        have:=(hc.1 c bc).2.1
        simp;omega
      rw[this];rfl)
    (fun k s fi hI=>by
      have nq:=List.length_filter_le (fun c:Ar=>decide (c.Period≤(k:Int))) cs
      have np:=List.length_filter_le (fun c:Ar=>decide (c.Period=(k:Int)+1)) cs
      have hs:=Sh cs k
      refine⟨((cs.filter fun c=>decide (c.Period≤((k+1:Nat):Int))).length:Int),?_,rfl⟩
      rw[Cy,V0 _ _ hk,bP,bT,hI,wrap_i64 (by omega) (by simp only;omega),hs]
      simp)
  rw[h1,h2]
  have:(cs.filter fun c=>decide (c.Period≤(((ps.length+1) - 1:Nat):Int)))=cs:=List.filter_eq_self.2 fun c bc=>by
    have:=(hc.1 c bc).2.2.1
    simp;omega
  rw[this]
def Uk (c:Ar) (x:A1):Bool:=((decide (c.Ride.Gate=x.Gate))&&((decide (c.Ride.Seq=x.Seq))&&((decide (c.Ride.Serial=x.Serial))&&((decide (c.Ride.Counter=x.Counter))&&((decide (c.Ride.Product=x.Product))&&((decide (c.Ride.Lift=x.Lift))&&(decide (c.Ride.At=x.At))))))))
theorem Xi {rides:List A1} {n:Nat} {cs:List Ar} (hc:COk rides n cs) (x:A1):∃ v,Bo (Cz x) 0 cs (0:Int)=some (.next v)∧v≤1:=by
  obtain⟨s',h1,h2⟩:=Iq (step:=Cz x) (l:=cs) (s:=(0:Int)) (fun k v=>v=0∨(v=1∧∃ i c,i<k∧cs[i]? =some c∧Uk c x=true)) (.inl rfl) (fun k c v hk hI=>by
    have v8:Cz x k c v=bif Uk c x then some (.next (IntKind.i64.wrap (v+1)))else some (.next v):=rfl
    rw[v8]
    cases hs:Uk c x with
    | false=>
      refine⟨v,rfl,?_⟩
      rcases hI with h | ⟨h,i,d,hi,hd⟩
      ·exact .inl h
      ·exact .inr ⟨h,i,d,by omega,hd⟩
    | true=>
      rcases hI with h | ⟨h,i,d,hi,tu,qp⟩
      ·subst h
       exact⟨1,rfl,.inr ⟨rfl,k,c,by omega,hk,hs⟩⟩
      ·exfalso
       obtain⟨tk,rfl⟩:=bW.1 tu
       obtain⟨iv,rfl⟩:=bW.1 hk
       have:=List.pairwise_iff_getElem.1 hc.2 i k tk iv hi
       simp only[Uk,Bool.and_eq_true,decide_eq_true_eq]at qp hs
       exact this ⟨by rw[qp.1,hs.1],by rw[qp.2.1,hs.2.1]⟩)
  exact⟨s',h1,by rcases h2 with h | h<;>omega⟩
theorem Qj {ps:List Ao} (h:POk ps) {k:Nat} (hk:k<ps.length):Il (ps.take k)=some (100*(k:Int)):=by
  have hl:=h.1
  have hlen:(ps.take k).length=k:=by simp;omega
  unfold Il
  by_cases h0:k=0
  ·subst h0;rfl
  ·have hp:ps[k - 1]? =some ps[k - 1]:=bN (by omega)
   have hq:(ps.take k)[k - 1]? =some ps[k - 1]:=by rw[List.getElem?_take_of_lt (by omega)];exact hp
   rw[hlen,bM (by omega),cond_false,Mh (by omega) (by omega),Br hq,bP,(h.2.1 _ _ hp).2.2.1]
   congr 1;omega
theorem N9 {l:List Ao} (h:∀ x∈l,x.Closed=true):Gk l=some 0:=by
  have:Bo Ek 0 l ()=some (.next ()):=Ga.2 fun i x hx=>by
    unfold Ek
    rw[h x (bO hx)];rfl
  rw[Gk,this];rfl
theorem Ta {ps:List Ao} (h:POk ps):E3 ps=some 0:=by
  have hl:=h.1
  have a0:Em []=some true:=rfl
  have:Bo (Du ps) 0 ps ()=some (.next ()):=Ga.2 fun k x hx=>by
    have ab:=(bW.1 hx).1
    obtain⟨c1,c2,c3,c4⟩:=h.2.1 k x hx
    rw[Nat.zero_add]
    unfold Du
    rw[wrap_i64 (by omega) (by omega),bM (by simp;omega),cond_false,Qn (by omega),Qj h ab,bP,bM (by simp;omega),cond_false,bM (by omega),cond_false,bM (by omega),cond_false,c4,a0]
    cases c7:x.Closed with
    | true=>
      rw[cond_true,Qn (by omega),N9 (fun y hy=>by
       obtain⟨j,hj⟩:=List.getElem?_of_mem hy
       have xk:=(bW.1 hj).1
       rw[List.length_take]at xk
       rw[List.getElem?_take_of_lt (by omega)]at hj
       exact h.2.2 j k y x (by omega) hj hx c7)]
      rfl
    | false=>rfl
  rw[E3,this];rfl
theorem Wf {rides:List A1} {n:Nat} {cs:List Ar} (hc:COk rides n cs) {k:Nat} {x:Ar} (hx:cs[k]? =some x):Gj (cs.take k) x.Ride.Gate x.Ride.Seq=some (-1):=by
  have:Bo (Ej x.Ride.Gate x.Ride.Seq) 0 (cs.take k) ()=some (.next ()):=Ga.2 fun i y hy=>by
    have xn:=(bW.1 hy).1
    rw[List.length_take]at xn
    rw[List.getElem?_take_of_lt (by omega)]at hy
    obtain⟨tk,rfl⟩:=bW.1 hy
    obtain⟨iv,rfl⟩:=bW.1 hx
    have hn:=List.pairwise_iff_getElem.1 hc.2 i k tk iv (by omega)
    unfold Ej
    by_cases h1:cs[i].Ride.Gate=cs[k].Ride.Gate
    ·rw[bL h1,cond_true,bM (fun h2=>hn ⟨h1,h2⟩)];rfl
    ·rw[bM h1];rfl
  rw[Gj,this];rfl
theorem S3 {rides:List A1} {ps:List Ao} {cs:List Ar} (hg:∀ x∈rides,RgR x) (h:POk ps) (hc:COk rides ps.length cs) (hk:cs.length≤80):Gm ⟨ps,[],cs⟩=some 0:=by
  have hl:=h.1
  have:Bo (El ⟨ps,[],cs⟩) 0 cs ()=some (.next ()):=Ga.2 fun k x hx=>by
    have ab:=(bW.1 hx).1
    obtain⟨c1,c2,c3,c4⟩:=hc.1 x (bO hx)
    rw[Nat.zero_add]
    unfold El
    obtain⟨i,hi⟩:∃ i:Nat,x.Period - 1=(i:Int):=⟨(x.Period - 1).toNat,by omega⟩
    have hp:ps[i]? =some ps[i]:=bN (by omega)
    have ht:=(h.2.1 _ _ hp).2.2.1
    simp only
    rw[bM (by omega),cond_false,bM (by omega),cond_false,W4 (hg _ c1),bP,Bool.not_true,cond_false,wrap_i64 (by omega) (by omega),hi,Br hp,bP,bM (by omega),cond_false,Qn (by omega),Wf hc hx]
    rfl
  have r9:Ht []=some 0:=rfl
  unfold Gm
  simp only
  rw[bM (by omega),cond_false,bM (by omega),cond_false,Ta h,bP,r9,bP,this]
  rfl
theorem X8 {rides:List A1} {s:Sv} (hg:∀ x∈rides,RgR x) (h:Good rides 80 s):De rides s.1 s.2.1 s.2.2=some true:=by
  obtain⟨ps,po,cs⟩:=s
  obtain⟨h1,h2,h3,h4⟩:=h
  simp only at h1 h2 h3 h4 ⊢
  subst h2
  have hl:=h1.1
  rw[De,Eh (by omega),X4 h1 h3 h4]
  show Dd rides ps [] cs (cs.length:Int)=some true
  have:Bo (Df cs) 0 rides ()=some (.next ()):=Ga.2 fun k x hx=>by
    obtain⟨v,v7,yq⟩:=Xi h3 x
    rw[Df,v7]
    show(bif decide (1<v)then _ else _)=_
    rw[bM (by omega)];rfl
  rw[Dd,this]
  show(bif decide ((cs.length:Int)=((cs.length:Nat):Int))then _ else _)=_
  rw[bL rfl,cond_true,S3 hg h1 h3 h4]
  rfl
theorem Sm:Ho 100 [2,1]=some ([67,33],0):=by decide +kernel
theorem Sp:D4 ⟨[],[],[]⟩ 100=some (⟨[Lu 0],[],[]⟩,0):=by decide +kernel
theorem Vi:Cl [⟨1,7⟩] [⟨2,7⟩]=some [⟨1,7⟩,⟨2, -7⟩]:=by
  have e:Hb [1,2]=[1,2]:=by rw[Pu (by decide)]
  have e1:Bo Dr 0 [⟨1,7⟩] []=some (.next [(1,7)]):=rfl
  have e2:Bo Ds 0 [⟨2,7⟩] [(1,7)]=some (.next [(1,7),(2, -7)]):=rfl
  have k:mkeys [((1:Int),(7:Int)),(2, -7)]=[1,2]:=rfl
  have e3:L6 (B3 [(1,7),(2, -7)]) 2 []=some (.next [⟨1,7⟩,⟨2, -7⟩]):=by
    have f1:B3 [(1,7),(2, -7)] 0 () []=some (.next [⟨1,7⟩]):=by rw[B3,k,e];rfl
    have f2:B3 [(1,7),(2, -7)] 1 () [⟨1,7⟩]=some (.next [⟨1,7⟩,⟨2, -7⟩]):=by rw[B3,k,e];rfl
    rw[L6,if_pos (by decide)]
    show Bo (B3 [(1,7),(2, -7)]) 0 [(),()] []=_
    rw[Bo,f1]
    show Bo (B3 [(1,7),(2, -7)]) 1 [()] [(⟨1,7⟩:Ax)]=_
    rw[Bo,f2]
    rfl
  rw[Cl,e1]
  show Ct [⟨2,7⟩] [(1,7)]=_
  rw[Ct,e2]
  show Cs [(1,7),(2, -7)]=_
  rw[Cs,k]
  show okB _ (chk 2 ((L6 _ 2 []).bind _))=_
  rw[e3,Qn (by decide),Eh (by decide)]
  rfl
theorem Vj:Fe [⟨1,7⟩,⟨2, -7⟩]=some [⟨2,1,7⟩]:=by decide +kernel
theorem Sn:∃ b,Di ⟨[Lu 0],[],[]⟩ 1 [⟨1,7⟩] [⟨2,7⟩]=some (b,0)∧b.Postings=[⟨101,2,1,7⟩]:=by
  have hF:Dg ⟨[Lu 0],[],[]⟩=some 1:=by decide +kernel
  have a1:C4 [⟨1,7⟩]=some true:=by decide +kernel
  have a2:C4 [⟨2,7⟩]=some true:=by decide +kernel
  have t1:D3 [⟨1,7⟩]=some 7:=by decide +kernel
  have t2:D3 [⟨2,7⟩]=some 7:=by decide +kernel
  have p1:H0 [] ⟨101,2,1,7⟩=some ([⟨101,2,1,7⟩],0):=by decide +kernel
  have l1:Bo Dc 0 [Lu 0] [Lu 0]=some (.next [Lu 0]):=Qe fun x hx=>by simp at hx;subst hx;rfl
  have i1:Ch [(⟨2,1,7⟩:C8)] 0=some ⟨2,1,7⟩:=rfl
  have w1:IntKind.i64.wrap ((IntKind.i64.wrap ((IntKind.i64.wrap ((1:Int)*(100:Int)))+(0:Int)))+(1:Int))=101:=by decide
  have w2:IntKind.i64.wrap ((1:Int) - 1)=0:=by decide
  have i2:Ch [Lu 0] 0=some (Lu 0):=rfl
  have c1:Bk [Lu 0]=some [Lu 0]:=rfl
  have c2:Bh []=some []:=rfl
  have c3:Bj []=some []:=rfl
  have c4:A3 [⟨1,7⟩]=some [⟨1,7⟩]:=rfl
  refine⟨⟨(([Lu 0].set 0 ⟨1,⟨0,100⟩,true,[]⟩).set 0 ⟨1,⟨0,100⟩,true,[⟨1,7⟩]⟩),[⟨101,2,1,7⟩],[]⟩,?_,rfl⟩
  unfold Di
  simp only[hF,a1,a2,t1,t2,c1,c2,c3,l1,Vi,Vj,i1,w1,p1,w2,i2,c4,bP,Out.on,List.length_cons,List.length_nil]
  rfl
theorem alivez:D9=some true:=by
  obtain⟨b,h1,h2⟩:=Sn
  unfold D9
  rw[Sm,bP,Sp,bP,h1,bP]
  simp only[h2]
  rfl
theorem Km (rides:List A1) (entries:List Int) (h1:OkL Kl rides) (h2:OkL I64 entries):Fi rides entries=some true:=by
  unfold Fi
  rw[alivez,bP,Bool.not_true,cond_false]
  by_cases ha:(40:Int)<((rides.length:Nat):Int)
  ·rw[bL ha];rfl
  rw[bM ha,cond_false]
  by_cases hb:((rides.length:Nat):Int)=0
  ·rw[bL hb];rfl
  rw[bM hb,cond_false]
  by_cases hc:(80:Int)<((entries.length:Nat):Int)
  ·rw[bL hc];rfl
  rw[bM hc,cond_false]
  obtain⟨y,hy,dd⟩:=Xc rides (by omega)
  rw[hy,bP]
  by_cases hd:y=0
  ·obtain⟨hg,ho⟩:=dd hd
   rw[bM (by simpa using hd),cond_false]
   obtain⟨s',h3,h4⟩:=Xk ho hg (by omega) (by omega) (entries:=entries) (by omega)
   rw[h3]
   exact X8 hg ⟨h4.1,h4.2.1,h4.2.2.1,by have:=h4.2.2.2;omega⟩
  ·rw[bL (by simpa using hd)];rfl
end Go.Proofs.YtooopbnnhbacjaaGreat
