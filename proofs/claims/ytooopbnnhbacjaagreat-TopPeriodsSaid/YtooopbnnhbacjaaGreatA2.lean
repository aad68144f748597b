/- Our own texts: a layer of abstract values over the model, the walks of the functions, the plain laws; joined and shortened by a small program of our own (wip/dce2.py, wip/pack.py). -/
import Derived.Test.YtooopbnnhbacjaaGreatA1
import Derived.Orders
import Derived.ProofKit
import Derived.OpenShut
import Derived.ShutString
import Derived.ChangeOld
import Derived.Carry
import Derived.WideShapes
import Derived.ChangeArms
import Derived.ChangeShapes
import Derived.Handed
import Derived.JoinedOf
import Derived.Sort.Grow
import Derived.Lib.SlicesCompact
import Derived.Lib.SlKeysI
import Derived.Maps.Own
import Derived.Test.YtooopbnnhbacjaaGreatChecked
import Derived.Test.YtooopbnnhbacjaaGreatProg
import Derived.Shelf.SortM.Plain
import Derived.Shelf.SortM.SortNone
import Derived.Shelf.SlIterI.Nil
import Derived.Shelf.SlSortCmp.WholeK
import Derived.Shelf.SlSortCmp.NoneTotal
import Derived.Shelf.SlicesG.Cmp
import Derived.LoopN
import Derived.Handy
import Derived.StillTactics
import Derived.Laws.Pointers
import Derived.Deep.RegionHeld3
namespace Go.Ab
open Go Go.RowKit
mutual
def ren (π:Nat→Nat):Ac→Ac
  | .agg cs=>.agg (rens π cs)
  | .tuple cs=>.tuple (rens π cs)
  | .own r v lo len=>.own (π r) v lo len
  | .ptr r k=>.ptr (π r) k
  | .rptr r v i k=>.rptr (π r) v i k
  | .map r=>.map (π r)
  | .iter r=>.iter (π r)
  | .yld r=>.yld (π r)
  | .func f cs=>.func f (rens π cs)
  | .any=>.any
  | .bool b=>.bool b
  | .int k n=>.int k n
  | .str s=>.str s
  | .nils=>.nils
  | .z0=>.z0
  | .sl sz xs=>.sl sz xs
  | .eptr cs=>.eptr cs
  | .nilm=>.nilm
  | .vmap es=>.vmap es
  | .pr φ=>.pr φ
def rens (π:Nat→Nat):List Ac→List Ac
  | []=>[]
  | c::r=>ren π c::rens π r
end
def Ns (π:Nat→Nat):List (Int×Ac)→List (Int×Ac)
  | []=>[]
  | (k,a)::r=>(k,ren π a)::Ns π r
def Ri (π:Nat→Nat):Fr→Fr
  | []=>[]
  | (k,a)::fr=>(k,ren π a)::Ri π fr
def S6 (π:Nat→Nat):Ap→Ap
  | .box cs=>.box (rens π cs)
  | .row v sz xs=>.row v sz xs
  | .mp es=>.mp es
  | .mpo q es=>.mpo q (Ns π es)
  | .it l c=>.it l c
  | .lp D n fr ps a b s p=>.lp D n (Ri π fr) ps a b s p
  | .gone=>.gone
  | .resv=>.resv
def Pe (π:Nat→Nat):List Ap→List Ap
  | []=>[]
  | o::H=>S6 π o::Pe π H
theorem Jq (π:Nat→Nat):∀ l:List Ac,(rens π l).length=l.length
  | []=>rfl
  | c::r=>by simp[rens,Jq π r]
theorem Rg (π:Nat→Nat):∀ (l:List Ac) (i:Nat),(rens π l)[i]? =(l[i]?).map (ren π)
  | [],i=>by simp[rens]
  | c::r,0=>by simp[rens]
  | c::r,i+1=>by simp[rens,Rg π r i]
theorem Kb {π:Nat→Nat} {l:List Ac} {i:Nat} {c:Ac} (h:(rens π l)[i]? =some c):∃ c0,l[i]? =some c0∧c=ren π c0:=by
  rw[Rg]at h
  cases hc:l[i]? with
  | none=>rw[hc]at h;cases h
  | some c0=>rw[hc]at h;exact⟨c0,rfl,(bV h).symm⟩
theorem Rk (π:Nat→Nat):∀ (l:List (Int×Ac)) (i:Nat),(Ns π l)[i]? =(l[i]?).map fun p=>(p.1,ren π p.2)
  | [],i=>by simp[Ns]
  | (k,a)::r,0=>by simp[Ns]
  | (k,a)::r,i+1=>by simp[Ns,Rk π r i]
theorem Pv {π:Nat→Nat} {l:List (Int×Ac)} {i:Nat} {p:Int×Ac} (h:(Ns π l)[i]? =some p):∃ p0,l[i]? =some p0∧p=(p0.1,ren π p0.2):=by
  rw[Rk]at h
  cases hc:l[i]? with
  | none=>rw[hc]at h;cases h
  | some c0=>rw[hc]at h;exact⟨c0,rfl,(bV h).symm⟩
theorem Pw (π:Nat→Nat):∀ l:List (Int×Ac),(Ns π l).map (·.1)=l.map (·.1)
  | []=>rfl
  | (k,a)::r=>by simp[Ns,Pw π r]
theorem Rj (π:Nat→Nat):∀ l:List (Int×Ac),(Ns π l).length=l.length
  | []=>rfl
  | (k,a)::r=>by simp[Ns,Rj π r]
theorem F7.ren {q:Bool} {π:Nat→Nat} {en:Array MapEntry} {cl:Nat} {es:List (Int×Ac)} (h:F7 q en cl es):F7 q en cl (Ns π es):=
  ⟨by rw[Rj];exact h.size,fun i e p a b=>by
    obtain⟨p0,h1,rfl⟩:=Pv b
    exact h.keys i e p0 a h1,by rw[Pw];exact h.nodup,h.born,h.bnodup⟩
theorem N8 (π:Nat→Nat):∀ (l:List Ap) (i:Nat),(Pe π l)[i]? =(l[i]?).map (S6 π)
  | [],i=>by simp[Pe]
  | c::r,0=>by simp[Pe]
  | c::r,i+1=>by simp[Pe,N8 π r i]
theorem Rh (π:Nat→Nat):∀ l:List Ap,(Pe π l).length=l.length
  | []=>rfl
  | c::r=>by simp[Pe,Rh π r]
theorem P6 (π:Nat→Nat):∀ (fr:Fr) (t:Nat),get (Ri π fr) t=ren π (get fr t)
  | [],t=>rfl
  | (k,a)::fr,t=>by
    have ih:=P6 π fr t
    simp only[Ri,get]at ih ⊢
    split
    ·rfl
    ·exact ih
theorem Up {π:Nat→Nat} {o:Ap} (h:S6 π o= .resv):o= .resv:=by cases o<;>first | rfl | cases h
structure Gh (π:Nat→Nat) (C C':Ctx) (w w':World):Prop where
  imm:∀ b,C.A b→C'.A b∧w'.heap[b]? =w.heap[b]?
  obj:∀ (r:Nat) o,C.H[r]? =some o→C'.H[π r]? =some (S6 π o)∧C'.ρ (π r)=C.ρ r
theorem Gh.known {π:Nat→Nat} {C C':Ctx} {w w':World} (m:Gh π C C' w w') {r:Nat} (h:C.known r):C'.known (π r):=by
  obtain⟨o,ho,ar⟩:=h
  exact⟨_,(m.obj r o ho).1,fun e=>ar (Up e)⟩
theorem Gh.back {π:Nat→Nat} {C C':Ctx} {w w':World} (m:Gh π C C' w w') {r:Nat} (h:C.known r) {o':Ap} (dc:C'.H[π r]? =some o'):∃ o,C.H[r]? =some o∧o'=S6 π o∧C'.ρ (π r)=C.ρ r:=by
  obtain⟨o,ho,_⟩:=h
  have:=m.obj r o ho
  rw[this.1]at dc
  exact⟨o,ho,(bV dc).symm,this.2⟩
theorem A4.ren {π:Nat→Nat} {C C':Ctx} {w w':World} (m:Gh π C C' w w') {v:Value} {a:Ac} (h:A4 C w v a):A4 C' w' v (ren π a):=by
  have gr:∀ {v a},A4 C w v a→a.g2=true→A4 C' w' v a:=fun h hg=>A4.ground m.imm h hg
  induction h with
  | any v=>exact .any v
  | bool b=>exact .bool b
  | int k n=>exact .int k n
  | str s=>exact .str s
  | agg arr cs h _ ih=>
    refine .agg arr _ (by rw[Jq,h]) fun i u c a b=>?_
    obtain⟨c0,h1,rfl⟩:=Kb b
    exact ih i u c0 a h1
  | tuple arr cs h _ ih=>
    refine .tuple arr _ (by rw[Jq,h]) fun i u c a b=>?_
    obtain⟨c0,h1,rfl⟩:=Kb b
    exact ih i u c0 a h1
  | nils=>exact .nils
  | z0 a=>exact .z0 a
  | sl0 a cap sz bc=>exact .sl0 a cap sz bc
  | sl a len cap xs sz u bh hlen bq bc hA au bb hg af ag ih=>
    refine .sl a len cap xs sz u bh hlen bq bc (m.imm _ hA).1 au bb hg (fun j hj=>?_) fun i k x c h1 h2=>gr (ag i k x c h1 h2) (Ac.Dx (hg x (bO h1) c (bO h2)))
    rw[Eg (w:=w)];exact af j hj
    exact(m.imm _ hA).2
  | own a len cap r v lo hr bq bc hv=>
    refine .own a len cap (π r) v lo (m.known hr) bq bc fun v' sz xs h'=>?_
    obtain⟨o,h1,h2,h3⟩:=m.back hr h'
    cases o<;>cases h2
    rw[h3];exact hv _ _ _ h1
  | eptr a cs u bh hA hg af ag ih=>
    refine .eptr a cs u bh (m.imm _ hA).1 hg (fun j hj=>?_) fun j c b=>gr (ag j c b) (Ac.Dx (hg c (bO b)))
    rw[Eg (w:=w)];exact af j hj
    exact(m.imm _ hA).2
  | ptr a r k hr h=>
    refine .ptr a (π r) k (m.known hr) fun cs h'=>?_
    obtain⟨o,h1,h2,h3⟩:=m.back hr h'
    cases o<;>cases h2
    rw[h3];exact h _ h1
  | rptr a r v i k hr h=>
    refine .rptr a (π r) v i k (m.known hr) fun v' sz xs h'=>?_
    obtain⟨o,h1,h2,h3⟩:=m.back hr h'
    cases o<;>cases h2
    rw[h3];exact h _ _ _ h1
  | nilm=>exact .nilm
  | pr φ a len cap h hs=>exact .pr φ a len cap (hs _ _ _ _ (fun b hb=>⟨(m.imm b hb).1,.inl (m.imm b hb).2⟩) h) hs
  | map b r hr h=>
    refine .map b (π r) (m.known hr) fun o' h' hl=>?_
    obtain⟨o,h1,h2,h3⟩:=m.back hr h'
    rw[h3];exact h _ h1 (by subst h2;cases o<;>first | rfl | exact hl)
  | vmap0=>exact .vmap0
  | vmap b es entries clock hA hg hh ak ag ih=>
    exact .vmap b es entries clock (m.imm _ hA).1 hg (by rw[(m.imm _ hA).2];exact hh) ak fun i e p a b=>gr (ag i e p a b) (Ac.Ee (hg p (bO b)))
  | func f arr cs h _ ih=>
    refine .func f arr _ (by rw[Jq,h]) fun i u c a b=>?_
    obtain⟨c0,h1,rfl⟩:=Kb b
    exact ih i u c0 a h1
  | iter a r hr bh h=>
    refine .iter a (π r) (m.known hr) bh fun l c h'=>?_
    obtain⟨o,h1,h2,h3⟩:=m.back hr h'
    cases o<;>cases h2
    rw[h3];exact h _ _ h1
  | yld b r hr h=>
    refine .yld b (π r) (m.known hr) fun o' h' hl=>?_
    obtain⟨o,h1,h2,h3⟩:=m.back hr h'
    cases o'<;>first | (cases hl;done) | skip
    cases o<;>cases h2
    rw[h3];exact h _ h1 rfl
theorem J9.ren {π:Nat→Nat} {C C':Ctx} {w w':World} (m:Gh π C C' w w') {r:Nat} {o:Ap} (hr:C.H[r]? =some o) (hh:∀ l,C.ρ r=some l→w'.heap[l.b]? =w.heap[l.b]?) (h:J9 C w r o):J9 C' w' (π r) (S6 π o):=by
  have hρ:=(m.obj r o hr).2
  have gr:∀ {v a},A4 C w v a→a.g2=true→A4 C' w' v a:=fun h hg=>A4.ground m.imm h hg
  cases o with
  | box cs=>
    obtain⟨l,arr,T,h1,h2,h3,h4⟩:=h
    refine⟨l,arr,T,by rw[hρ];exact h1,by rw[hh l h1];exact h2,by rw[Jq,h3],fun i u c a b=>?_⟩
    obtain⟨c0,e1,rfl⟩:=Kb b
    exact(h4 i u c0 a e1).ren m
  | row v sz xs=>
    obtain⟨h0,qg,kx,h⟩:=h
    refine⟨h0,qg,kx,?_⟩
    rcases h with⟨h1,h2⟩ | ⟨l,arr,T,h1,h2,h3,h4,h5⟩
    ·exact .inl ⟨h1,by rw[hρ];exact h2⟩
    ·refine .inr ⟨l,arr,T,by rw[hρ];exact h1,by rw[hh l h1];exact h2,h3,h4,fun i k x c a b=>?_⟩
     obtain⟨u,hu,hr⟩:=h5 i k x c a b
     exact⟨u,hu,gr hr (Ac.Dx (kx x (bO a) c (bO b)))⟩
  | mp es=>
    obtain⟨l,en,cl,h1,h2,h3,hg,h4⟩:=h
    exact⟨l,en,cl,by rw[hρ];exact h1,by rw[hh l h1];exact h2,h3,hg,fun i e p a b=>gr (h4 i e p a b) (Ac.Ee (hg p (bO b)))⟩
  | mpo q es=>
    obtain⟨l,en,cl,h1,h2,h3,h4⟩:=h
    refine⟨l,en,cl,by rw[hρ];exact h1,by rw[hh l h1];exact h2,h3.ren,fun i e p a b=>?_⟩
    obtain⟨p0,e1,rfl⟩:=Pv b
    exact(h4 i e p0 a e1).ren m
  | it left cur=>
    obtain⟨l,h1,h⟩:=h
    refine⟨l,by rw[hρ];exact h1,?_⟩
    rcases h with⟨h2,nj,s,n,k,h3⟩ | ⟨bm,seen,en,clock,h2,h3,h4,h5,h6,h7,h8⟩
    ·exact .inl ⟨h2,nj,s,n,k,by rw[hh l h1];exact h3⟩
    ·refine .inr ⟨bm,seen,en,clock,by rw[hh l h1];exact h2,(m.imm _ h3).1,by rw[(m.imm _ h3).2];exact h4,h5,h6,
       ⟨h7.1,fun i e p a b=>⟨(h7.2 i e p a b).1,(h7.2 i e p a b).2.1,gr (h7.2 i e p a b).2.2 (Ac.Ee (h7.2 i e p a b).2.1)⟩⟩,fun p hp=>?_⟩
     obtain⟨e,g1,g2,g3,g4,g5⟩:=h8 p hp
     exact⟨e,g1,g2,g3,g4,gr g5 (Ac.Ee g4)⟩
  | lp D n fr ps asg body st p=>
    obtain⟨l,rec,h1,h0,h2,h3,h4,h5,h6,h7,h8,h9,ig,gh,jc⟩:=h
    exact⟨l,rec,by rw[hρ];exact h1,h0,by rw[hh l h1];exact h2,h3,h4,h5,h6,h7,h8,h9,fun t=>by rw[P6];exact(ig t).ren m,(m.imm _ gh).1,by rw[(m.imm _ gh).2];exact jc⟩
  | gone=>show C'.ρ (π r)=none;rw[hρ];exact h
  | resv=>show C'.ρ (π r)=none;rw[hρ];exact h
def Ef (P:Program) (f:FuncId) (args:List Ac) (R:Ac→List Ap→Prop):Prop:=
  ∀ (A:Nat→Prop) (w:World) (vs:List Value),(∀ b,A b→b<w.heap.size)→F6 (Ctx.imm A) w vs args→
    Calls P f vs.toArray w fun e w'=>∃ v r C',e= .returned v∧R r C'.H∧C'.A0=A∧Inv w C' w'∧A4 C' w' v r
section
variable {P:Program}
theorem Ef.intro {f:FuncId} {fn:Func} {c:Code} {n:Nat} {args:List Ac} {R:Ac→List Ap→Prop} (hf:P.funcs[f]? =some fn) (hb:fn.body=some c) (hn:fn.ntmps=n) (hlen:args.length≤n)
    (h:AWP none P n c (qret P fn R) [] (Ib args 0) []):Ef P f args R:=by
  intro A w vs hA cy
  refine calls_of_wp hf hb ?_
  have cz:(vs.toArray++Array.replicate (fn.ntmps - vs.toArray.size) undef).size=n:=by
    have:=cy.1
    simp only[Array.size_append,List.size_toArray,Array.size_replicate];omega
  have I0:Inv w (Ctx.imm A) w:=⟨.refl _ _,hA,fun b hb _=>hb,by simp[Ctx.imm],by simp[Ctx.imm],by simp[Ctx.imm]⟩
  refine wp_mono (wpIn_wide.1 <| h w A [] [] _ w ⟨Ctx.imm A,rfl,rfl,I0,Ke cy _,.nil,cz,rfl⟩) ?_
  intro e a' w' ⟨fr',H',hq,hR⟩
  obtain⟨C,rfl,dw,I,hF,_,_,hd⟩:=hR.ex
  have key:∀ (h:match Ez (aresult P fr' C.H) fn.results.toList with | some vs=>R (aret vs) C.H | none=>False),a'.defers=[]∧∃ v,(results fn a'.tmps).run P w'= .ok v w'∧
   ∃ v' r C',Ending.returned v= .returned v'∧R r C'.H∧C'.A0=A∧Inv w C' w'∧A4 C' w' v' r:=by
    intro h
    split at h
    ·rename_i rs mh
     obtain⟨v,h1,h2⟩:=Hs (P:=P) I hF mh
     exact⟨hd,v,h1,v,_,C,rfl,h,dw,I,h2⟩
    ·exact h.elim
  cases e with
  | normal=>exact key hq
  | ret=>exact key hq
  | _=>exact hq.elim
theorem Ef.mono {f:FuncId} {args:List Ac} {R R':Ac→List Ap→Prop} (h:Ef P f args R) (hR:∀ r H,R r H→R' r H):Ef P f args R':=by
  intro A w vs hA hv
  exact(h A w vs hA hv).mono fun e w' ⟨v,r,C',h1,h2,h3⟩=>⟨v,r,C',h1,hR _ _ h2,h3⟩
theorem Ef.pure {f:FuncId} {args:List Ac} {R:Ac→Prop} (h:Ef P f args (rfrz R)):Aq P f args R:=by
  intro A w vs hA hv
  refine(h A w vs hA hv).mono fun e w' ⟨v,r,C,he,hR,dw,I,hr⟩=>?_
  unfold rfrz at hR
  split at hR
  ·rename_i r' c6
   have h3:=L4 I hr c6
   refine⟨v,r',he,hR,h3.1,I.below,A4.ground' (fun b hb=>?_) h3.2 h3.1⟩
   rcases hb with hb | hb
   ·by_cases ab:b<w.heap.size
    ·exact .inl (dw ▸ I.old b hb ab)
    ·exact .inr ⟨by omega,I.sub b hb⟩
   ·exact .inr hb
  ·exact hR.elim
theorem Ef.fresh {f:FuncId} {args:List Ac} {R:Ac→Prop} (h:Ef P f args (rfre R)):Ci P f args R:=by
  intro A w vs hA hv
  refine(h A w vs hA hv).mono fun e w' ⟨v,r,C,he,hR,dw,I,hr⟩=>?_
  unfold rfre at hR
  split at hR
  ·rename_i r' c6
   exact⟨v,r',he,hR.1,(L4 I hr c6).1,I.below,Rx I hr c6 hR.2⟩
  ·exact hR.elim
theorem Ef.weak {f:FuncId} {args:List Ac} {R R':Ac→List Ap→Prop} (h:Ef P f args R) (hR:∀ r H,R r H→∃ H',Pc H H'∧r.Gc H'.length=true∧Qy H'.length H'=true∧R' r H'):Ef P f args R':=by
  intro A w vs hA hv
  refine(h A w vs hA hv).mono fun e w' ⟨v,r,C,he,hr,dw,I,ag⟩=>?_
  obtain⟨H',h1,h2,h3,h4⟩:=hR r _ hr
  have S:C7 w A [] 1 [] [] [(0,r)] C.H {tmps:=#[v],defers:=[]} w':=by
    refine⟨C,rfl,dw,I,fun t=>?_,.nil,rfl,rfl⟩
    cases t with
    | zero=>exact ag
    | succ t=>exact .any _
  have S':=Sub.weak (outer:=[]) (fr:=[(0,r)]) (fr':=[(0,r)]) h1 (show Q8 [(0,r)] [(0,r)] from⟨by unfold vle;simp only[get,if_true];split<;>simp,trivial⟩)
    (.inr ⟨by simp[Hk,h2],h3,rfl⟩) w A [] 1 [] _ w' S
  obtain⟨C',e1,e2,I',hF,_⟩:=S'.ex
  exact⟨v,r,C',he,e1 ▸ h4,e2,I',hF 0⟩
def F3 (P:Program) (f:FuncId) (args:List Ac) (sz:Nat) (xs:List (List Ac)):Prop:=Ef P f args fun q H=>q= .own 0 0 0 xs.length∧H=[.row 0 sz xs]
theorem F3.of {f:FuncId} {args:List Ac} {sz:Nat} {xs:List (List Ac)} (h:Ef P f args fun q H=>∃ v,q= .own 0 v 0 xs.length∧H=[.row v sz xs]):F3 P f args sz xs:=by
  intro A w vs hA hv
  refine(h A w vs hA hv).mono fun e w' ⟨v,r,C,he,⟨ver,hr,hH⟩,dw,I,ag⟩=>?_
  subst hr
  have ee:C.H[0]? =some (.row ver sz xs):=by rw[hH];rfl
  have m:∀ b,C.A b→C.A b∧w'.heap[b]? =w'.heap[b]?:=fun b hb=>⟨hb,rfl⟩
  refine⟨v,.own 0 0 0 xs.length,{C with H:=[.row 0 sz xs]},he,⟨rfl,rfl⟩,dw,⟨I.below,I.sub,I.old,fun r l hl=>?_,I.inj,fun r o ho=>?_⟩,?_⟩
  ·have:=I.sep r l hl
   rw[hH]at this;exact this
  ·match r,ho with
   | 0,ho=>
     simp at ho;subst ho
     obtain⟨e1,e2,e3,e4⟩:=I.objs 0 _ ee
     refine⟨e1,e2,e3,?_⟩
     rcases e4 with⟨e4,e5⟩ | ⟨l,arr,T,e4,e5,e6,e7,e8⟩
     ·exact .inl ⟨e4,e5⟩
     ·refine .inr ⟨l,arr,T,e4,e5,e6,e7,fun i k x c h1 h2=>?_⟩
      obtain⟨u,hu,bl⟩:=e8 i k x c h1 h2
      exact⟨u,hu,A4.ground (C:=C) (C2:={C with H:=[.row 0 sz xs]}) m bl (Ac.Dx (e3 x (bO h1) c (bO h2)))⟩
  ·cases ag with
   | own a _ cap _ _ _ hk bq bc hv=>
     refine .own a _ cap 0 0 0 ⟨_,rfl,by simp⟩ bq bc fun v' sz' xs' h'=>?_
     simp at h';obtain⟨rfl,rfl,rfl⟩:=h'
     obtain⟨_,hv⟩:=hv _ _ _ ee
     exact⟨Nat.le_refl _,fun _=>hv rfl⟩
def Ctx.join (C C':Ctx):Ctx:={A0:=C.A0,A:=fun b=>C.A b∨C'.A b,ρ:=fun r=>if r<C.H.length then C.ρ r else C'.ρ (r - C.H.length),H:=C.H++Pe (·+C.H.length) C'.H}
theorem Inv.join {W0:World} {C C':Ctx} {w w':World} (I:Inv W0 C w) (I':Inv w C' w') (dw:∀ b,C'.A0 b→C.A b):Inv W0 (C.join C') w'∧Cx C w (C.join C') w'∧Gh (·+C.H.length) C' (C.join C') w' w':=by
  have ab:∀ {r:Nat} {o:Ap},C.H[r]? =some o→r<C.H.length:=fun h=>(bW.1 h).1
  have m:Cx C w (C.join C') w':=by
    refine⟨fun b hb=>⟨.inl hb,I'.below.block b (I.sub b hb)⟩,by simp[Ctx.join],rfl,fun r hr=>?_⟩
    exact .same hr (by simp only[Ctx.join];rw[List.getElem?_append_left hr.lt]) (by simp only[Ctx.join];rw[if_pos hr.lt])
  have mr:Gh (·+C.H.length) C' (C.join C') w' w':=by
    refine⟨fun b hb=>⟨.inr hb,rfl⟩,fun r o ho=>⟨?_,?_⟩⟩
    ·simp only[Ctx.join]
     rw[List.getElem?_append_right (by omega),show r+C.H.length - C.H.length=r by omega,N8,ho];rfl
    ·simp only[Ctx.join]
     rw[if_neg (by omega),show r+C.H.length - C.H.length=r by omega]
  refine⟨⟨I.below.trans (I'.below.mono I.below.size),fun b hb=>?_,fun b hb ia=>?_,fun r l h=>?_,fun r r' l l' h h' e=>?_,fun r o h=>?_⟩,m,mr⟩
  ·rcases hb with hb | hb
   ·exact Nat.lt_of_lt_of_le (I.sub b hb) I'.below.size
   ·exact I'.sub b hb
  ·rcases hb with hb | hb
   ·exact I.old b hb ia
   ·have:=I.below.size
    exact I.old b (dw b (I'.old b hb (by omega))) ia
  ·simp only[Ctx.join]at h ⊢
   rw[bR,Rh]
   split at h
   ·have:=I.sep r l h
    refine⟨by omega,this.2.1,Nat.lt_of_lt_of_le this.2.2.1 I'.below.size,fun hb=>?_⟩
    rcases hb with hb | hb
    ·exact this.2.2.2 hb
    ·exact this.2.2.2 (dw _ (I'.old _ hb this.2.2.1))
   ·have:=I'.sep _ l h
    have hs:=I.below.size
    refine⟨by omega,by omega,this.2.2.1,fun hb=>?_⟩
    rcases hb with hb | hb
    ·have:=I.sub _ hb;omega
    ·exact this.2.2.2 hb
  ·simp only[Ctx.join]at h h'
   split at h<;>split at h'
   ·exact I.inj _ _ _ _ h h' e
   ·have:=(I.sep _ _ h).2.2.1;have:=(I'.sep _ _ h').2.1;omega
   ·have:=(I.sep _ _ h').2.2.1;have:=(I'.sep _ _ h).2.1;omega
   ·have:=I'.inj _ _ _ _ h h' e;omega
  ·by_cases hr:r<C.H.length
   ·have h':=h
    simp only[Ctx.join]at h'
    rw[List.getElem?_append_left hr]at h'
    exact(I.objs r o h').mono m (by simp only[Ctx.join];rw[if_pos hr]) fun l hl=>I'.below.block _ (I.sep r l hl).2.2.1
   ·have h':=h
    simp only[Ctx.join]at h'
    rw[List.getElem?_append_right (by omega),N8]at h'
    cases ho:C'.H[r - C.H.length]? with
    | none=>rw[ho]at h';cases h'
    | some o0=>
      rw[ho]at h'
      obtain rfl:=bV h'
      have:=(I'.objs _ _ ho).ren mr ho (fun _ _=>rfl)
      rwa [show r - C.H.length+C.H.length=r by omega]at this
theorem Bg.own {f:FuncId} {args:List Ac} {st:List Fr} {H:List Ap} {K:Ac→List Ap→Prop} {R:Ac→List Ap→Prop} (hc:∀ (args:Array Value) (w:World),(callFunc f args).run P w= .ok (.enter f args) w)
    (spec:Ef P f args R) (hg:args.all Ac.g2=true) (n:Nat) (hn:H.length=n) (h:∀ r H',R r H'→K (ren (·+n) r) (H++Pe (·+n) H')):Bg P (.func f []) args st H K:=by
  subst hn
  intro W0 C w outs fv vs I hH hO hf hl hv
  subst hH
  cases hf with
  | func _ caps _ c7 _=>
    have:caps=#[]:=Array.eq_empty_of_size_eq_zero (by simpa using c7)
    subst this
    refine .inl ⟨f,#[],rfl,hc,?_⟩
    have cy:F6 (Ctx.imm C.A) w vs args:=
      ⟨hl,fun i v a h1 h2=>A4.ground' (C:=C) (C2:=Ctx.imm C.A) (fun b hb=>hb) (hv i v a h1 h2) (List.all_eq_true.1 hg a (bO h2))⟩
    rw[show vs.toArray++#[]=vs.toArray by simp]
    refine(spec _ w vs I.sub cy).mono fun e w' ⟨v,r,C',he,hR,dw,I',hr⟩=>?_
    have key:=I.join I' (fun b hb=>dw ▸ hb)
    exact⟨v,_,C.join C',he,h r _ hR,rfl,hr.ren key.2.2,key.1,hO.mono key.2.1⟩
def Ctx.place (C C':Ctx) (id:Nat) (o:Ap):Ctx:={A0:=C.A0,A:=fun b=>C.A b∨C'.A b,ρ:=fun r=>if r=id then C'.ρ 0 else C.ρ r,H:=Dy C.H id o}
theorem Inv.place {W0:World} {C C':Ctx} {w w':World} (I:Inv W0 C w) (I':Inv w C' w') (dw:∀ b,C'.A0 b→C.A b) {id:Nat} (aq:F4 C.H id) {v sz:Nat} {xs:List (List Ac)} (hH:C'.H=[.row v sz xs]) :
    Inv W0 (C.place C' id (.row v sz xs)) w'∧Cx C w (C.place C' id (.row v sz xs)) w'∧Gh (fun _=>id) C' (C.place C' id (.row v sz xs)) w' w':=by
  have m:Cx C w (C.place C' id (.row v sz xs)) w':=by
    refine⟨fun b hb=>⟨.inl hb,I'.below.block b (I.sub b hb)⟩,G5,rfl,fun r hr=>?_⟩
    have ar:r≠id:=fun e=>aq.unknown (e ▸ hr)
    exact .same hr (Fg aq ar) (by simp only[Ctx.place];rw[if_neg ar])
  have mr:Gh (fun _=>id) C' (C.place C' id (.row v sz xs)) w' w':=by
    refine⟨fun b hb=>⟨.inr hb,rfl⟩,fun r o ho=>?_⟩
    rw[hH]at ho
    match r,ho with
    | 0,ho=>
      simp at ho;subst ho
      exact⟨Da aq,by simp[Ctx.place]⟩
  have ee:C'.H[0]? =some (.row v sz xs):=by rw[hH];rfl
  refine⟨⟨I.below.trans (I'.below.mono I.below.size),fun b hb=>?_,fun b hb ia=>?_,fun r l h=>?_,fun r r' l l' h h' e=>?_,fun r o h=>?_⟩,m,mr⟩
  ·rcases hb with hb | hb
   ·exact Nat.lt_of_lt_of_le (I.sub b hb) I'.below.size
   ·exact I'.sub b hb
  ·rcases hb with hb | hb
   ·exact I.old b hb ia
   ·have:=I.below.size
    exact I.old b (dw b (I'.old b hb (by omega))) ia
  ·simp only[Ctx.place]at h ⊢
   split at h
   ·rename_i e
    have:=I'.sep _ l h
    have hs:=I.below.size
    refine⟨by rw[e];exact Ss aq,by omega,this.2.2.1,fun hb=>?_⟩
    rcases hb with hb | hb
    ·have:=I.sub _ hb;omega
    ·exact this.2.2.2 hb
   ·have:=I.sep r l h
    refine⟨Nat.lt_of_lt_of_le this.1 G5,this.2.1,Nat.lt_of_lt_of_le this.2.2.1 I'.below.size,fun hb=>?_⟩
    rcases hb with hb | hb
    ·exact this.2.2.2 hb
    ·exact this.2.2.2 (dw _ (I'.old _ hb this.2.2.1))
  ·simp only[Ctx.place]at h h'
   split at h<;>split at h'
   ·omega
   ·have:=(I.sep _ _ h').2.2.1;have:=(I'.sep _ _ h).2.1;omega
   ·have:=(I.sep _ _ h).2.2.1;have:=(I'.sep _ _ h').2.1;omega
   ·exact I.inj _ _ _ _ h h' e
  ·by_cases e:r=id
   ·subst e
    have h':=h
    simp only[Ctx.place]at h'
    rw[Da aq,bQ]at h'
    subst h'
    have:=(I'.objs 0 _ ee).ren mr ee (fun _ _=>rfl)
    exact this
   ·have h':=h
    simp only[Ctx.place]at h'
    rw[Fg aq e]at h'
    exact(I.objs r o h').mono m (by simp only[Ctx.place];rw[if_neg e]) fun l hl=>I'.below.block _ (I.sep r l hl).2.2.1
theorem Bg.rowAt {f:FuncId} {args args':List Ac} {st:List Fr} {H:List Ap} {K:Ac→List Ap→Prop} {sz:Nat} {xs:List (List Ac)} (hc:∀ (args:Array Value) (w:World),(callFunc f args).run P w= .ok (.enter f args) w)
    (spec:F3 P f args' sz xs) (ha:(args.all Ac.g2=true∧args'=args)∨(Ez (Hg H) args=some args'∧(xs.all fun x=>x.all Ac.f0)=true)) (id:Nat) (aq:F4 H id) (h:K (.own id 0 0 xs.length) (Dy H id (.row 0 sz xs))):Bg P (.func f []) args st H K:=by
  intro W0 C w outs fv vs I hH hO hf hl hv
  subst hH
  cases hf with
  | func _ caps _ c7 _=>
    have:caps=#[]:=Array.eq_empty_of_size_eq_zero (by simpa using c7)
    subst this
    refine .inl ⟨f,#[],rfl,hc,?_⟩
    rw[show vs.toArray++#[]=vs.toArray by simp]
    rcases ha with⟨hg,rfl⟩ | ⟨ha,tr⟩
    ·have cy:F6 (Ctx.imm C.A) w vs args':=
       ⟨hl,fun i v a h1 h2=>A4.ground' (C:=C) (C2:=Ctx.imm C.A) (fun b hb=>hb) (hv i v a h1 h2) (List.all_eq_true.1 hg a (bO h2))⟩
     refine(spec _ w vs I.sub cy).mono fun e w' ⟨v,r,C',he,⟨hq,cu⟩,dw,I',hr⟩=>?_
     subst hq
     have key:=I.place I' (fun b hb=>dw ▸ hb) aq cu
     exact⟨v,_,C.place C' id _,he,h,rfl,hr.ren key.2.2,key.1,hO.mono key.2.1⟩
    ·have hm:=Ey ha
     have cy:F6 (Ctx.imm fun b=>C.A b∨(W0.heap.size≤b∧b<w.heap.size)) w vs args':=by
       refine⟨by rw[hl,hm.1],fun i v a h1 h2=>?_⟩
       have ab:i<args.length:=by rw[hm.1];exact Bv h2
       exact(Jw I (hv i v _ h1 (bN ab)) (hm.2 i _ a (bN ab) h2)).2
     refine(spec _ w vs (fun b hb=>?_) cy).mono fun e w' ⟨v,r,C',he,⟨hq,cu⟩,dw,I',hr⟩=>?_
     ·rcases hb with hb | hb
      ·exact I.sub b hb
      ·exact hb.2
     subst hq
     have ee:C'.H[0]? =some (.row 0 sz xs):=by rw[cu];rfl
     have I2:Inv w {C' with A0:=fun _=>False,A:=fun _=>False} w':=by
       refine⟨I'.below,fun b hb=>hb.elim,fun b hb=>hb.elim,fun r l hl=>?_,I'.inj,fun r o ho=>?_⟩
       ·have:=I'.sep r l hl;exact⟨this.1,this.2.1,this.2.2.1,fun hb=>hb⟩
       ·rw[cu]at ho
        match r,ho with
        | 0,ho=>
          simp at ho;subst ho
          obtain⟨e1,e2,e3,e4⟩:=I'.objs 0 _ ee
          refine⟨e1,e2,e3,?_⟩
          rcases e4 with⟨e4,e5⟩ | ⟨l,arr,T,e4,e5,e6,e7,e8⟩
          ·exact .inl ⟨e4,e5⟩
          ·refine .inr ⟨l,arr,T,e4,e5,e6,e7,fun i k x c h1 h2=>?_⟩
           obtain⟨u,hu,bl⟩:=e8 i k x c h1 h2
           refine⟨u,hu,bl.flat ?_⟩
           have h3:=List.all_eq_true.1 tr x (bO h1)
           have h4:=List.all_eq_true.1 h3 c (bO h2)
           cases c<;>simp_all [Ac.f0,Ac.f1,Ac.f2]
     have ej:A4 {C' with A0:=fun _=>False,A:=fun _=>False} w' v (.own 0 0 0 xs.length):=by
       cases hr with
       | own a _ cap _ _ _ hk bq bc hv=>exact .own a _ cap 0 0 0 hk bq bc hv
     have key:=I.place I2 (fun b hb=>hb.elim) aq cu
     exact⟨v,_,C.place _ id _,he,h,rfl,ej.ren key.2.2,key.1,hO.mono key.2.1⟩
end
def C9 (op:Op):Bool:=
  match op with
  | .alloc _ | .box _ _ | .buildSlice _ _ _ | .makeSlice _ _ _ | .makeMap _ none=>true
  | .call {callee:=.builtin .append,args:=_,argTypes:=_}=>true
  | .call {callee:=.value _,args:=_,argTypes:=_}=>true
  | _=>false
def Tb (op:Op):Bool:=
  match op with
  | .store _ _ _ | .mapUpdate _ _ _ _ | .insert _ _ _ _=>true
  | .call {callee:=.builtin .append,args:=_,argTypes:=_} | .call {callee:=.builtin .delete,args:=_,argTypes:=_}=>true
  | _=>false
def drawable (op:Op):Bool:=
  match op with
  | .range _ _ | .next _ _ | .entry _ | .select _ _ | .defer _=>false
  | _=>true
def rid (v:Ac):List Nat:=
  match v with
  | .own r _ _ _ | .ptr r _ | .rptr r _ _ _ | .map r | .iter r | .yld r=>[r]
  | _=>[]
def Xd:List Ac→List Nat
  | []=>[]
  | v::r=>rid v++Xd r
def Xe (v:Ac):List Nat:=
  match v with
  | .agg cs=>Xd cs
  | v=>rid v
def K4:List Ac→List Nat
  | []=>[]
  | v::r=>Xe v++K4 r
def touch (op:Op) (e:Operand→Ac):List Nat:=
  match op with
  | .load _ a=>rid (e a)
  | .store _ a _=>rid (e a)
  | .indexAddr _ x _=>rid (e x)
  | .slice _ x _ _ _=>rid (e x)
  | .lookup _ x _ _=>rid (e x)
  | .mapUpdate _ m _ _=>rid (e m)
  | .insert _ m _ _=>rid (e m)
  | .call c=>K4 (c.args.toList.map e)
  | _=>[]
def Sz (op:Op) (e:Operand→Ac) (H:List Ap) (id:Nat) (ef:Eff):Prop:=
  match ef with
  | .none=>True
  | .new j _=>C9 op=true∧j=id
  | .set r _=>Tb op=true∧r∈touch op e∧∃ x,H[r]? =some x∧x≠.resv
def Pr (T:(Ac→Prop)→Prop) (T':(Ac→Prop)→Prop):Prop:=∀ K,T K→(∃ v,K v∧∀ K',K' v→T' K')∨∀ K',T K'
theorem Xl {sz:Nat} {xs:List (List Ac)} {n:Int} {K:List Ac→Prop} (h:Ca sz xs n K):(∃ y,K y∧∀ K':List Ac→Prop,K' y→Ca sz xs n K')∨∀ K',Ca sz xs n K':=by
  obtain⟨h1,h2,h3⟩:=h
  cases hx:xs[n.toNat]? with
  | none=>exact .inr fun K'=>⟨h1,h2,fun y hy=>by rw[hx]at hy;cases hy⟩
  | some y=>
    by_cases hl:y.length=sz
    ·exact .inl ⟨y,h3 y hx hl,fun K' hk=>⟨h1,h2,fun y' hy _=>by rw[hx,bQ]at hy;exact hy ▸ hk⟩⟩
    ·exact .inr fun K'=>⟨h1,h2,fun y' hy ko=>by rw[hx,bQ]at hy;exact absurd (hy ▸ ko) hl⟩
theorem Sb {sz:Nat} {xs:List (List Ac)} {i:Nat} {K:List Ac→Prop} (h:Bt sz xs i K):(∃ y,K y∧∀ K':List Ac→Prop,K' y→Bt sz xs i K')∨∀ K',Bt sz xs i K':=by
  cases hx:xs[i]? with
  | none=>exact .inr fun K' y hy=>by rw[hx]at hy;cases hy
  | some y=>
    by_cases hl:y.length=sz
    ·exact .inl ⟨y,h y hx hl,fun K' hk y' hy _=>by rw[hx,bQ]at hy;exact hy ▸ hk⟩
    ·exact .inr fun K' y' hy ko=>by rw[hx,bQ]at hy;exact absurd (hy ▸ ko) hl
theorem V8 {es:List (Int×Ac)} {n:Int} {z:Ac} {K:Ac→Bool→Prop} (h:Ew es n z K):∃ v b,K v b∧∀ K':Ac→Bool→Prop,K' v b→Ew es n z K':=by
  cases hx:alook es n with
  | none=>exact ⟨z,false,h.2 hx,fun K' hk=>⟨fun v hv=>by rw[hx]at hv;(cases hv),fun _=>hk⟩⟩
  | some v=>exact ⟨v,true,h.1 v hx,fun K' hk=>⟨fun v' hv=>by rw[hx,bQ]at hv;(exact hv ▸ hk),fun hv=>by rw[hx]at hv;cases hv⟩⟩
variable {P:Program}
theorem Vm (c a b:Ac):Pr (O5 c a b) (O5 c a b):=by
  intro K h
  unfold O5 at *
  split at h
  ·rename_i cv
   split at h
   ·exact .inl ⟨_,h,fun _ h=>h⟩
   ·rename_i ar
    cases cv
    ·exact .inl ⟨b,h.2 rfl,fun K' hk=>⟨(fun h=>by cases h),fun _=>hk⟩⟩
    ·exact .inl ⟨a,h.1 rfl,fun K' hk=>⟨fun _=>hk,fun h=>by cases h⟩⟩
  ·exact h.elim
theorem W9 (o:BinOp) (T:TypeId) (x y:Ac):Pr (Sx P o T x y) (Sx P o T x y):=by
  intro K h
  unfold Sx Mf at *
  repeat' split at h
  all_goals first
    | exact h.elim
    | exact h.2.elim
    | exact .inl ⟨_,h.2,fun _ hk=>⟨h.1,hk⟩⟩
    | exact .inl ⟨_,h.2.2,fun _ hk=>⟨h.1,h.2.1,hk⟩⟩
    | exact .inl ⟨_,h,fun _ h=>h⟩
theorem Xw (o:UnOp) (x:Ac):Pr (aUn o x) (aUn o x):=by
  intro K h
  unfold aUn at *
  repeat' split at h
  all_goals first
    | exact h.elim
    | exact .inl ⟨_,h,fun _ h=>h⟩
theorem Vp (s d:TypeId) (x:Ac):Pr (Np P s d x) (Np P s d x):=by
  intro K h
  unfold Np at *
  split at h
  ·rename_i h1 h2;exact .inl ⟨_,h,fun _ hk=>by first | exact hk | (simp only[h1,h2];exact hk)⟩
  ·exact h.elim
theorem Vn (T:TypeId) (p:Ac) {H H':List Ap} (hH:∀ r∈rid p,H'[r]? =H[r]?):(K:Ac→Prop)→J6 P T p H K→(∃ v,K v∧∀ K',K' v→J6 P T p H' K')∨∀ K',J6 P T p H K':=by
  intro K h
  unfold J6 at *
  obtain⟨h0,h⟩:=h
  split at h
  ·rename_i r k
   rw[hH r (by simp[rid])]
   split at h
   ·exact .inl ⟨_,h.2,fun K' hk=>⟨h0,h.1,hk⟩⟩
   ·exact h.elim
  ·rename_i r v i k
   rw[hH r (by simp[rid])]
   split at h
   ·obtain⟨h1,h2,h3⟩:=h
    rcases Sb h3 with⟨y,hy,hK⟩ | hK
    ·exact .inl ⟨_,hy,fun K' hk=>⟨h0,h1,h2,hK _ hk⟩⟩
    ·exact .inr fun K'=>⟨h0,h1,h2,hK _⟩
   ·exact h.elim
  ·exact .inl ⟨_,h.2,fun K' hk=>⟨h0,h.1,hk⟩⟩
  ·exact h.elim
theorem O8 (T:TypeId) (p:Ac) (f:Nat):Pr (Eu P T p f) (Eu P T p f):=by
  intro K h
  unfold Eu at *
  split at h
  ·obtain⟨h1,h⟩:=h
   split at h
   all_goals first
     | exact h.elim
     | exact .inl ⟨_,h,fun _ h=>⟨h1,h⟩⟩
  ·exact h.elim
theorem Ty (T:TypeId) (x:Ac) (f:Nat):Pr (Li P T x f) (Li P T x f):=by
  intro K h
  unfold Li at *
  split at h
  ·rename_i h1
   split at h
   ·exact .inl ⟨_,h.2.2.2,fun _ hk=>⟨h.1,h.2.1,h.2.2.1,hk⟩⟩
   ·exact h.elim
  ·exact h.elim
theorem O7 (T:TypeId) (x i:Ac) {H H':List Ap} (hH:∀ r∈rid x,H'[r]? =H[r]?):(K:Ac→Prop)→D8 P T x i H K→(∃ v,K v∧∀ K',K' v→D8 P T x i H' K')∨∀ K',D8 P T x i H K':=by
  intro K h
  unfold D8 at *
  split at h
  ·rename_i e k n he
   obtain⟨h0,h⟩:=h
   split at h
   ·obtain⟨h1,h2⟩:=h
    rcases Xl h2 with⟨y,hy,hK⟩ | hK
    ·exact .inl ⟨_,hy,fun K' hk=>⟨h0,h1,hK _ hk⟩⟩
    ·exact .inr fun K'=>⟨h0,h1,hK _⟩
   ·rename_i r v lo len
    rw[hH r (by simp[rid])]
    split at h
    ·obtain⟨h1,h2,h3,h4,h5⟩:=h
     exact .inl ⟨_,h5,fun K' hk=>⟨h0,h1,h2,h3,h4,hk⟩⟩
    ·exact h.elim
   ·exact h.elim
  ·rename_i k n he
   split at h
   ·rename_i hA
    obtain⟨h1,h2,h3,h4⟩:=h
    exact .inl ⟨_,h4,fun K' hk=>⟨h1,h2,h3,hk⟩⟩
   ·obtain⟨h1,h2,h3,h4⟩:=h
    exact .inl ⟨_,h4,fun K' hk=>⟨h1,h2,h3,hk⟩⟩
   ·exact h.elim
  ·exact h.elim
theorem Tz (T:TypeId) (parts:List (Nat×Ac)):Pr (Lk P T parts) (Lk P T parts):=by
  intro K h
  unfold Lk at *
  obtain⟨h0,h⟩:=h
  split at h
  ·rename_i h1
   split at h
   ·rename_i h2;exact .inl ⟨_,h,fun _ hk=>⟨h0,by first | exact hk | (simp only[h1,h2];exact hk)⟩⟩
   ·exact h.elim
  ·exact h.elim
theorem Vo {x:Ac} {H H':List Ap} (hH:∀ r∈rid x,H'[r]? =H[r]?):Lj x H'=Lj x H:=by
  unfold Lj
  split
  ·rfl
  ·rw[hH _ (by simp[rid])]
  ·rfl
theorem Su {x:Ac} {H H':List Ap} (hH:∀ r∈rid x,H'[r]? =H[r]?):Hl x H'=Hl x H:=by
  unfold Hl
  split
  ·rfl
  ·rfl
  ·rw[hH _ (by simp[rid])]
  ·rfl
theorem V7 {x:Ac} {H H':List Ap} (hH:∀ r∈rid x,H'[r]? =H[r]?):P1 x H'=P1 x H:=by
  unfold P1
  split
  ·rw[hH _ (by simp[rid])]
  ·rfl
theorem W8 (T:TypeId) (x:Ac) {H H':List Ap} (hH:∀ r∈rid x,H'[r]? =H[r]?):(K:Ac→Prop)→Q2 P T x H K→(∃ v,K v∧∀ K',K' v→Q2 P T x H' K')∨∀ K',Q2 P T x H K':=by
  intro K h
  unfold Q2 at *
  split at h
  ·rename_i xs _
   by_cases hl:xs.length≤9223372036854775807
   ·exact .inl ⟨_,h hl,fun K' hk=>fun _=>hk⟩
   ·exact .inr fun K' h=>absurd h hl
  ·rename_i len _
   by_cases hl:len≤9223372036854775807
   ·exact .inl ⟨_,h hl,fun K' hk=>fun _=>hk⟩
   ·exact .inr fun K' h=>absurd h hl
  ·exact .inl ⟨_,h,fun K' hk=>hk⟩
  ·exact .inl ⟨_,h,fun K' hk=>hk⟩
  ·exact .inl ⟨_,h,fun K' hk=>hk⟩
  ·exact .inl ⟨_,h,fun K' hk=>hk⟩
  ·rw[hH _ (by simp[rid])]
   split at h
   ·exact .inl ⟨_,h,fun K' hk=>hk⟩
   ·exact h.elim
  ·exact .inl ⟨_,h,fun K' hk=>hk⟩
  ·exact h.elim
theorem Tv (T:TypeId) (x:Ac) (lo hi mx:Option Ac) {H H':List Ap} (hH:∀ r∈rid x,H'[r]? =H[r]?):(K:Ac→Prop)→Gy P T x lo hi mx H K→(∃ v,K v∧∀ K',K' v→Gy P T x lo hi mx H' K')∨∀ K',Gy P T x lo hi mx H K':=by
  intro K h
  have e:Gy P T x lo hi mx H'=Gy P T x lo hi mx H:=by
    funext K
    cases x with
    | own r v a len=>simp only[Gy,hH r (by simp[rid])]
    | _=>rfl
  rw[e]
  unfold Gy at *
  split at h
  ·obtain⟨h0,h⟩:=h
   split at h
   ·rename_i sz xs
    by_cases hl:xs.length≤9223372036854775807
    ·obtain⟨h1,h⟩:=h
     have h:=h hl
     split at h
     ·rename_i ib ic
      exact .inl ⟨_,h.2.2.2,fun K' hk=>⟨h0,h1,fun _=>by first | exact⟨h.1,h.2.1,h.2.2.1,hk⟩ | (simp only[ib,ic];exact⟨h.1,h.2.1,h.2.2.1,hk⟩)⟩⟩
     ·rename_i ib ic
      exact .inl ⟨_,h.2.2.2.2,fun K' hk=>⟨h0,h1,fun _=>by first | exact⟨h.1,h.2.1,h.2.2.1,h.2.2.2.1,hk⟩ | (simp only[ib,ic];exact⟨h.1,h.2.1,h.2.2.1,h.2.2.2.1,hk⟩)⟩⟩
     ·exact h.elim
    ·exact .inr fun K'=>⟨h0,h.1,fun h=>absurd h hl⟩
   ·split at h
    ·obtain⟨h1,h2,h⟩:=h
     split at h
     ·rename_i ib ic
      exact .inl ⟨_,h.2.2.2,fun K' hk=>⟨h0,h1,h2,by first | exact⟨h.1,h.2.1,h.2.2.1,hk⟩ | (simp only[ib,ic];exact⟨h.1,h.2.1,h.2.2.1,hk⟩)⟩⟩
     ·rename_i ib ic
      exact .inl ⟨_,h.2.2.2.2,fun K' hk=>⟨h0,h1,h2,by first | exact⟨h.1,h.2.1,h.2.2.1,h.2.2.2.1,hk⟩ | (simp only[ib,ic];exact⟨h.1,h.2.1,h.2.2.1,h.2.2.2.1,hk⟩)⟩⟩
     ·exact h.elim
    ·exact h.elim
   ·split at h
    ·rename_i ib ic
     exact .inl ⟨_,h.2.2,fun K' hk=>⟨h0,by first | exact⟨h.1,h.2.1,hk⟩ | (simp only[ib,ic];exact⟨h.1,h.2.1,hk⟩)⟩⟩
    ·rename_i ib ic
     exact .inl ⟨_,h.2.2.2.2,fun K' hk=>⟨h0,by first | exact⟨h.1,h.2.1,h.2.2.1,h.2.2.2.1,hk⟩ | (simp only[ib,ic];exact⟨h.1,h.2.1,h.2.2.1,h.2.2.2.1,hk⟩)⟩⟩
    ·exact h.elim
   ·split at h
    ·rename_i ib ic
     exact .inl ⟨_,h.2.2,fun K' hk=>⟨h0,by first | exact⟨h.1,h.2.1,hk⟩ | (simp only[ib,ic];exact⟨h.1,h.2.1,hk⟩)⟩⟩
    ·rename_i ib ic
     exact .inl ⟨_,h.2.2.2.2,fun K' hk=>⟨h0,by first | exact⟨h.1,h.2.1,h.2.2.1,h.2.2.2.1,hk⟩ | (simp only[ib,ic];exact⟨h.1,h.2.1,h.2.2.1,h.2.2.2.1,hk⟩)⟩⟩
    ·exact h.elim
   ·exact h.elim
  ·split at h
   ·obtain⟨h1,h2,h3,h4,h5⟩:=h
    exact .inl ⟨_,h5,fun K' hk=>⟨h1,h2,h3,h4,hk⟩⟩
   ·exact h.elim
theorem St (T:TypeId) (x i:Ac) (ok:Bool) {H H':List Ap} (hH:∀ r∈rid x,H'[r]? =H[r]?):(K:Ac→Prop)→G2 P T x i ok H K→(∃ v,K v∧∀ K',K' v→G2 P T x i ok H' K')∨∀ K',G2 P T x i ok H K':=by
  intro K h
  unfold G2 at *
  rw[Su hH,V7 hH]
  split at h
  ·obtain⟨h0,h⟩:=h
   split at h
   ·rename_i es vg
    obtain⟨v,b,hk,hK⟩:=V8 h
    exact .inl ⟨_,hk,fun K' fi=>⟨h0,hK _ fi⟩⟩
   ·exact h.elim
  ·exact h.elim
def T3 (op:Op) (e:Operand→Ac) (H:List Ap) (id:Nat) (T T':(Ac→Eff→Prop)→Prop):Prop:=
  ∀ K,T K→(∃ v ef,K v ef∧Sz op e H id ef∧∀ K',K' v ef→T' K')∨∀ K',T K'
theorem T3.quiet {op:Op} {e:Operand→Ac} {H:List Ap} {id:Nat} {T T':(Ac→Prop)→Prop} (h:Pr T T'):T3 op e H id (fun K=>T (D2 K)) (fun K=>T' (D2 K)):=by
  intro K hT
  rcases h _ hT with⟨v,hk,hK⟩ | hK
  ·exact .inl ⟨v,.none,hk,trivial,fun K' fi=>hK _ fi⟩
  ·exact .inr fun K'=>hK _
theorem Tu (T:TypeId) (a x:Operand) (e:Operand→Ac) (id:Nat) {H H':List Ap} (hH:∀ r∈rid (e a),H'[r]? =H[r]?) :
    T3 (.store T a x) e H id (fun K=>J3 P T (e a) (e x) H K) (fun K=>J3 P T (e a) (e x) H' K):=by
  intro K h
  simp only[J3]at *
  split at h
  ·rename_i vs cy
   obtain⟨h1,h2,h3,h⟩:=h
   split at h
   ·rename_i r k hp
    have cu:=hH r (by simp[rid,hp])
    split at h
    ·rename_i cs hr
     refine .inl ⟨_,_,h.2,⟨rfl,by simp[touch,rid,hp],_,hr,by simp⟩,fun K' hk=>⟨h1,h2,h3,?_⟩⟩
     first | simp only[hp,cu,hr] | simp only[cu,hr] | skip
     exact⟨h.1,hk⟩
    ·exact h.elim
   ·rename_i r v i k hp
    have cu:=hH r (by simp[rid,hp])
    split at h
    ·rename_i v' sz xs hr
     obtain⟨g1,g2,g3,g4⟩:=h
     rcases Sb g4 with⟨y,hy,hK⟩ | hK
     ·refine .inl ⟨_,_,hy,⟨rfl,by simp[touch,rid,hp],_,hr,by simp⟩,fun K' hk=>⟨h1,h2,h3,?_⟩⟩
      first | simp only[hp,cu,hr] | simp only[cu,hr] | skip
      exact⟨g1,g2,g3,hK _ hk⟩
     ·refine .inr fun K'=>⟨h1,h2,h3,?_⟩
      first | simp only[hp,hr] | simp only[hr] | skip
      exact⟨g1,g2,g3,hK _⟩
    ·exact h.elim
   ·exact h.elim
  ·exact h.elim
theorem J5 {op:Op} (T:TypeId) (x i v:Ac) (e:Operand→Ac) (id:Nat) {H H':List Ap} (mj:Tb op=true) (ht:∀ r∈rid x,r∈touch op e) (hH:∀ r∈rid x,H'[r]? =H[r]?) :
    T3 op e H id (fun K=>Dm P T x i v H K) (fun K=>Dm P T x i v H' K):=by
  intro K h
  simp only[Dm]at *
  split at h
  ·rename_i n r
   have cu:=hH r (by simp[rid])
   split at h
   ·rename_i es hT hr
    refine .inl ⟨_,_,h.2,⟨mj,ht r (by simp[rid]),_,hr,by simp⟩,fun K' hk=>?_⟩
    simp only[cu,hT,hr];exact⟨h.1,hk⟩
   ·rename_i es hT hr
    refine .inl ⟨_,_,h,⟨mj,ht r (by simp[rid]),_,hr,by simp⟩,fun K' hk=>?_⟩
    simp only[cu,hT,hr];exact hk
   ·exact h.elim
  ·rename_i a b r
   have cu:=hH r (by simp[rid])
   split at h
   ·rename_i es hT hr
    refine .inl ⟨_,_,h,⟨mj,ht r (by simp[rid]),_,hr,by simp⟩,fun K' hk=>?_⟩
    simp only[cu,hT,hr];exact hk
   ·exact h.elim
  ·exact h.elim
theorem Sw {op:Op} (T:TypeId) (x i:Ac) (e:Operand→Ac) (id:Nat) {H H':List Ap} (mj:Tb op=true) (ht:∀ r∈rid x,r∈touch op e) (hH:∀ r∈rid x,H'[r]? =H[r]?) :
    T3 op e H id (fun K=>H6 P T x i H K) (fun K=>H6 P T x i H' K):=by
  intro K h
  simp only[H6]at *
  split at h
  ·rename_i r cn
   have cu:=hH r (by simp[rid])
   split at h
   ·rename_i es hr
    refine .inl ⟨_,_,h,⟨mj,ht r (by simp[rid]),_,hr,by simp⟩,fun K' hk=>?_⟩
    first | exact hk | (simp only[cu,hr];exact hk) | (simp only[cu,hr,cn];exact hk)
   ·exact h.elim
  ·exact h.elim
theorem Sy {op:Op} (T:TypeId) (s x:Ac) (e:Operand→Ac) (id:Nat) {H H':List Ap} (hn:C9 op=true) (mj:Tb op=true) (ht:∀ r∈rid s,r∈touch op e)
    (hs:∀ r∈rid s,H'[r]? =H[r]?) (hx:∀ r∈rid x,H'[r]? =H[r]?) :
    T3 op e H id (fun K=>H7 P T s x H id K) (fun K=>H7 P T s x H' id K):=by
  intro K h
  simp only[H7,Vo hx]at *
  split at h
  ·rename_i el j5
   obtain⟨h1,h2,h3,h⟩:=h
   split at h
   ·rename_i szx ys hy
    obtain⟨h4,h⟩:=h
    split at h
    ·exact .inl ⟨_,_,h.2.2,⟨hn,rfl⟩,fun K' hk=>by first | exact⟨h1,h2,h3,h4,h.1,h.2.1,hk⟩ | (simp only[hy];exact⟨h1,h2,h3,h4,h.1,h.2.1,hk⟩) | (simp only[j5,hy];exact⟨h1,h2,h3,h4,h.1,h.2.1,hk⟩)⟩
    ·exact .inl ⟨_,_,h.2.2,⟨hn,rfl⟩,fun K' hk=>by first | exact⟨h1,h2,h3,h4,h.1,h.2.1,hk⟩ | (simp only[hy];exact⟨h1,h2,h3,h4,h.1,h.2.1,hk⟩) | (simp only[j5,hy];exact⟨h1,h2,h3,h4,h.1,h.2.1,hk⟩)⟩
    ·rename_i r v lo len
     have cu:=hs r (by simp[rid])
     split at h
     ·rename_i v' sz xs hr
      refine .inl ⟨_,_,h.2.2.2.2,⟨mj,ht r (by simp[rid]),_,hr,by simp⟩,fun K' hk=>?_⟩
      first | simp only[hy,cu,hr] | simp only[cu,hr] | simp only[j5,hy,cu,hr]
      exact⟨h1,h2,h3,h4,h.1,h.2.1,h.2.2.1,h.2.2.2.1,hk⟩
     ·exact h.elim
    ·exact h.elim
   ·exact h.elim
  ·exact h.elim
theorem W6 (x y:Ac):Pr (Tw x y) (Tw x y):=by
  intro K h
  unfold Tw at *
  split at h
  ·exact .inl ⟨_,h.2,fun _ hk=>⟨h.1,hk⟩⟩
  ·exact h.elim
theorem W7 (x y:Ac):Pr (Tx x y) (Tx x y):=by
  intro K h
  unfold Tx at *
  split at h
  ·exact .inl ⟨_,h.2,fun _ hk=>⟨h.1,hk⟩⟩
  ·exact h.elim
theorem Ik {v:Ac} {r:Nat} (h:r∈rid v):r∈Xe v:=by
  cases v<;>first | exact h | simp[rid]at h
theorem Sg {α:Type} {F:List Ap→(α→Prop)→Prop} {E:α→Prop} {S:List Nat} {H:List Ap}
    (hd:∀ H':List Ap,(∀ r∈S,H'[r]? =H[r]?)→∀ K,F H K→(∃ v,K v∧E v∧∀ K':α→Prop,K' v→F H' K')∨∀ K',F H K') {K:α→Prop} (h:F H K) :
    (∃ v,K v∧E v∧∀ H':List Ap,(∀ r∈S,H'[r]? =H[r]?)→∀ K':α→Prop,K' v→F H' K')∨∀ K',F H K':=by
  by_cases hv:∀ K',F H K'
  ·exact .inr hv
  ·rcases hd H (fun _ _=>rfl) K h with⟨v,h1,h2,h3⟩ | h2
   ·refine .inl ⟨v,h1,h2,fun H' cu K' hk=>?_⟩
    rcases hd H' cu (·=v) (h3 _ rfl)with ⟨v',rfl,_,h4⟩ | h4
    ·exact h4 _ hk
    ·exact absurd h4 hv
   ·exact absurd h2 hv
def Xa (P:Program) (op:Op) (e:Operand→Ac) (H:List Ap) (id:Nat) (K:Ac→Eff→Prop):Prop:=
  (∃ v ef,K v ef∧Sz op e H id ef∧∀ H':List Ap,(∀ r∈touch op e,H'[r]? =H[r]?)→∀ K':Ac→Eff→Prop,K' v ef→astep P op e H' id K')∨(∀ K':Ac→Eff→Prop,astep P op e H id K')
theorem Xa.quiet {op:Op} {e:Operand→Ac} {H:List Ap} {id:Nat} {K:Ac→Eff→Prop} (F:List Ap→(Ac→Prop)→Prop)
    (hs:∀ (H':List Ap) (K':Ac→Eff→Prop),astep P op e H' id K'=F H' (D2 K'))
    (hd:∀ H':List Ap,(∀ r∈touch op e,H'[r]? =H[r]?)→∀ K,F H K→(∃ v,K v∧∀ K':Ac→Prop,K' v→F H' K')∨∀ K',F H K') (h:astep P op e H id K):Xa P op e H id K:=by
  rw[hs]at h
  rcases Sg (F:=F) (E:=fun _=>True) (S:=touch op e) (fun H' cu K hK=>(hd H' cu K hK).imp (fun⟨v,a,b⟩=>⟨v,a,trivial,b⟩) (fun h=>h)) h with⟨v,h1,_,h2⟩ | h2
  ·exact .inl ⟨v,.none,h1,trivial,fun H' cu K' hk=>by rw[hs];exact h2 H' cu _ hk⟩
  ·exact .inr fun K'=>by rw[hs];exact h2 _
theorem Xa.eff {op:Op} {e:Operand→Ac} {H:List Ap} {id:Nat} {K:Ac→Eff→Prop} (F:List Ap→(Ac→Eff→Prop)→Prop)
    (hs:∀ (H':List Ap) (K':Ac→Eff→Prop),astep P op e H' id K'=F H' K')
    (hd:∀ H':List Ap,(∀ r∈touch op e,H'[r]? =H[r]?)→T3 op e H id (F H) (F H')) (h:astep P op e H id K):Xa P op e H id K:=by
  rw[hs]at h
  rcases Sg (F:=fun H K=>F H fun v ef=>K (v,ef)) (E:=fun x=>Sz op e H id x.2) (S:=touch op e) (K:=fun x=>K x.1 x.2) (fun H' cu K hK=>(hd H' cu (fun v ef=>K (v,ef)) hK).imp (fun⟨v,ef,a,b,c⟩=>⟨(v,ef),a,b,fun K' hk=>c _ hk⟩) (fun h K'=>h _)) h with⟨⟨v,ef⟩,h1,h2,h3⟩ | h2
  ·exact .inl ⟨v,ef,h1,h2,fun H' cu K' hk=>by rw[hs];exact h3 H' cu (fun x=>K' x.1 x.2) hk⟩
  ·exact .inr fun K'=>by rw[hs];exact h2 fun x=>K' x.1 x.2
theorem Ve {op:Op} {e:Operand→Ac} {H:List Ap} {id:Nat} {K:Ac→Eff→Prop} (hd:drawable op=true) (h:astep P op e H id K):Xa P op e H id K:=by
  cases op with
  | move x=>exact .inl ⟨_,_,h,trivial,fun _ _ _ hk=>hk⟩
  | assign x=>exact .inl ⟨_,_,h,trivial,fun _ _ _ hk=>hk⟩
  | pick c a b=>exact .quiet (fun _=>O5 (e c) (e a) (e b)) (fun _ _=>rfl) (fun _ _=>Vm _ _ _) h
  | binOp o T x y t=>exact .quiet (fun _=>Sx P o T (e x) (e y)) (fun _ _=>rfl) (fun _ _=>W9 _ _ _ _) h
  | unOp o t x=>exact .quiet (fun _=>aUn o (e x)) (fun _ _=>rfl) (fun _ _=>Xw _ _) h
  | convert s d x=>exact .quiet (fun _=>Np P s d (e x)) (fun _ _=>rfl) (fun _ _=>Vp _ _ _) h
  | alloc T=>exact .inl ⟨_,_,h.2,⟨rfl,rfl⟩,fun _ _ _ hk=>⟨h.1,hk⟩⟩
  | box t x=>
    simp only[astep,Vq]at h
    split at h
    ·rename_i cs fj
     exact .inl ⟨_,_,h,⟨rfl,rfl⟩,fun _ _ K' hk=>by simp only[astep,Vq,fj];exact hk⟩
    ·exact h.elim
  | build T parts=>exact .quiet (fun _=>Lk P T (Eo e parts.toList)) (fun _ _=>rfl) (fun _ _=>Tz _ _) h
  | buildSlice T n parts=>
    simp only[astep,Fh]at h
    obtain⟨h0,h⟩:=h
    split at h
    ·rename_i el j5
     obtain⟨h1,h2,h3,h4,h⟩:=h
     split at h
     ·rename_i cs fj
      exact .inl ⟨_,_,h.2,⟨rfl,rfl⟩,fun _ _ K' hk=>by simp only[astep,Fh,j5,fj];exact⟨h0,h1,h2,h3,h4,h.1,hk⟩⟩
     ·exact h.elim
    ·exact h.elim
  | load T a=>exact .quiet (fun H=>J6 P T (e a) H) (fun _ _=>rfl) (fun _ hH=>Vn _ _ hH) h
  | store T a x=>exact .eff (fun H=>J3 P T (e a) (e x) H) (fun _ _=>rfl) (fun _ hH=>Tu _ _ _ _ _ hH) h
  | fieldAddr T x f=>exact .quiet (fun _=>Eu P T (e x) f) (fun _ _=>rfl) (fun _ _=>O8 _ _ _) h
  | field T x f=>exact .quiet (fun _=>Li P T (e x) f) (fun _ _=>rfl) (fun _ _=>Ty _ _ _) h
  | indexAddr T x i=>exact .quiet (fun H=>D8 P T (e x) (e i) H) (fun _ _=>rfl) (fun _ hH=>O7 _ _ _ hH) h
  | extract t i=>
    simp only[astep]at h
    split at h
    ·rename_i vs cy
     exact .inl ⟨_,_,h.2,trivial,fun _ _ K' hk=>by simp only[astep,cy];exact⟨h.1,hk⟩⟩
    ·exact h.elim
  | slice T x lo hi mx=>exact .quiet (fun H=>Gy P T (e x) (lo.map e) (hi.map e) (mx.map e) H) (fun _ _=>rfl) (fun _ hH=>Tv _ _ _ _ _ hH) h
  | makeSlice T l c=>
    simp only[astep,Ge]at h
    split at h
    ·rename_i el _ _ _ _ j5 hl hc
     obtain⟨h1,h2,h3,h4,h5,h6,h7,h8,h⟩:=h
     exact .inl ⟨_,_,h,⟨rfl,rfl⟩,fun _ _ K' hk=>by simp only[astep,Ge,j5,hl,hc];exact⟨h1,h2,h3,h4,h5,h6,h7,h8,hk⟩⟩
    ·exact h.elim
  | makeMap T r=>
    cases r with
    | none=>exact .inl ⟨_,_,h,⟨rfl,rfl⟩,fun _ _ K' hk=>hk⟩
    | some r=>exact h.elim
  | lookup T x i ok=>exact .quiet (fun H=>G2 P T (e x) (e i) ok H) (fun _ _=>rfl) (fun _ hH=>St _ _ _ _ hH) h
  | mapUpdate T m k x=>exact .eff (fun H=>Dm P T (e m) (e k) (e x) H) (fun _ _=>rfl) (fun _ hH=>J5 _ _ _ _ _ _ rfl (fun _ h=>h) hH) h
  | insert T m k x=>exact .eff (fun H=>Dm P T (e m) (e k) (e x) H) (fun _ _=>rfl) (fun _ hH=>J5 _ _ _ _ _ _ rfl (fun _ h=>h) hH) h
  | makeFunc f first caps=>
    cases f with
    | func f=>exact .inl ⟨_,_,h.2,trivial,fun _ _ K' hk=>⟨h.1,hk⟩⟩
    | _=>exact h.elim
  | call c=>
    obtain⟨callee,args,tys⟩:=c
    cases callee with
    | builtin b=>
      simp only[astep]at h
      unfold Dl at h
      split at h
      ·rename_i x T ha ht
       refine .quiet (fun H=>Q2 P T x H) (fun H' K'=>by simp only[astep,Dl,ha,ht]) (fun H' hH=>W8 _ _ fun r hr=>hH r ?_) (by simp only[astep,Dl,ha,ht];exact h)
       simp only[touch,ha,K4,List.append_nil];exact Ik hr
      ·rename_i s x T T2 ha ht
       refine .eff (fun H K=>T=T2∧H7 P T s x H id K) (fun H' K'=>by simp only[astep,Dl,ha,ht]) (fun H' hH K hK=>?_) (by simp only[astep,Dl,ha,ht];exact h)
       rcases Sy (P:=P) (op:=.call ⟨.builtin .append,args,tys⟩) T s x e id rfl rfl (fun r hr=>by simp only[touch,ha,K4];exact List.mem_append_left _ (Ik hr))
         (fun r hr=>hH r (by simp only[touch,ha,K4];exact List.mem_append_left _ (Ik hr))) (fun r hr=>hH r (by simp only[touch,ha,K4];exact List.mem_append_right _ (List.mem_append_left _ (Ik hr)))) K hK.2 with⟨v,ef,h1,h2,h3⟩ | h1
       ·exact .inl ⟨v,ef,h1,h2,fun K' hk=>⟨hK.1,h3 K' hk⟩⟩
       ·exact .inr fun K'=>⟨hK.1,h1 K'⟩
      ·rename_i m k T _ ha ht
       exact .eff (fun H K=>H6 P T m k H K) (fun H' K'=>by simp only[astep,Dl,ha,ht])
         (fun H' hH=>Sw (op:=.call ⟨.builtin .delete,args,tys⟩) T m k e id rfl (fun r hr=>by simp only[touch,ha,K4];exact List.mem_append_left _ (Ik hr)) fun r hr=>hH r (by simp only[touch,ha,K4];exact List.mem_append_left _ (Ik hr)))
         (by simp only[astep,Dl,ha,ht];exact h)
      ·rename_i x y ha
       exact .quiet (fun _=>Tw x y) (fun H' K'=>by simp only[astep,Dl,ha]) (fun _ _=>W6 _ _) (by simp only[astep,Dl,ha];exact h)
      ·rename_i x y ha
       exact .quiet (fun _=>Tx x y) (fun H' K'=>by simp only[astep,Dl,ha]) (fun _ _=>W7 _ _) (by simp only[astep,Dl,ha];exact h)
      ·exact h.elim
    | _=>exact h.elim
  | range _ _ | next _ _ | entry _=>simp[drawable]at hd
  | _=>exact h.elim
theorem Iv {e e':Operand→Ac}:∀ {l:List (Nat×Operand)},(∀ p∈l,e' p.2=e p.2)→Eo e' l=Eo e l
  | [],_=>rfl
  | p::r,h=>by rw[Eo,Eo,h p (List.mem_cons_self ..),Iv fun q hq=>h q (List.mem_cons_of_mem _ hq)]
theorem Iy {e e':Operand→Ac} {l:List Operand} (h:∀ x∈l,e' x=e x):l.map e'=l.map e:=List.map_congr_left h
theorem K9 {e e':Operand→Ac} {o:Option Operand} (h:∀ x∈o,e' x=e x):o.map e'=o.map e:=by
  cases o with
  | none=>rfl
  | some x=>simp[h x rfl]
theorem Nl {op:Op} {e e':Operand→Ac} {H:List Ap} {id:Nat} {K:Ac→Eff→Prop} (h:∀ x∈op.operands.toList,e' x=e x) (hd:drawable op=true):astep P op e' H id K=astep P op e H id K∧touch op e'=touch op e:=by
  cases op with
  | build T parts=>
    have:Eo e' parts.toList=Eo e parts.toList:=Iv fun p hp=>h _ (by simpa[Op.operands]using ⟨p.1,by simpa using hp⟩)
    exact⟨by simp only[astep,this],rfl⟩
  | buildSlice T n parts=>
    have:Eo e' parts.toList=Eo e parts.toList:=Iv fun p hp=>h _ (by simpa[Op.operands]using ⟨p.1,by simpa using hp⟩)
    exact⟨by simp only[astep,this],rfl⟩
  | slice T x lo hi mx=>
    have h1:=h x (by simp[Op.operands])
    have h2:lo.map e'=lo.map e:=K9 fun y hy=>h y (by simp[Op.operands];simp_all)
    have h3:hi.map e'=hi.map e:=K9 fun y hy=>h y (by simp[Op.operands];simp_all)
    have h4:mx.map e'=mx.map e:=K9 fun y hy=>h y (by simp[Op.operands];simp_all)
    exact⟨by simp only[astep,h1,h2,h3,h4],by simp only[touch,h1]⟩
  | makeFunc f first caps=>
    cases f with
    | func f=>
      refine⟨?_,rfl⟩
      simp only[astep,Iy (e:=e) (e':=e') (l:=caps.toList) fun x hx=>h x (by simp[Op.operands];exact .inr (by simpa using hx))]
    | _=>exact ⟨rfl,rfl⟩
  | makeMap T r=>cases r<;>exact ⟨rfl,rfl⟩
  | call c=>
    obtain⟨callee,args,tys⟩:=c
    have h1:args.toList.map e'=args.toList.map e:=Iy fun x hx=>h x (by simp[Op.operands,Call.operands];exact .inr (by simpa using hx))
    cases callee with
    | builtin b=>exact ⟨by simp only[astep,h1],by simp only[touch,h1]⟩
    | _=>exact ⟨rfl,by simp only[touch,h1]⟩
  | range _ _ | next _ _ | entry _=>simp[drawable]at hd
  | _=>first
    | exact⟨rfl,rfl⟩
    | (simp[Op.operands]at h;simp[astep,touch,h])
abbrev Log:=List (Nat×List Nat×Bool)
def P2 (i:Nat) (S:List Nat) (w:Bool):Log:=
  match S with
  | []=>[]
  | a::r=>[(i,a::r,w)]
def ents (i id:Nat) (op:Op) (e:Operand→Ac):Log:=P2 i (if C9 op then id::touch op e else touch op e) (C9 op||Tb op)
def X1 (P:Program) (fid:FuncId) (gs args:List Ac) (H:List Ap) (id:Nat) (r:Ac) (ef:Eff):Prop:=
  (ef= .none∧((Aq P fid gs (·=r)∧Ez (Hg H) args=some gs∧r.f2=true)∨(Aq P fid gs (·=r)∧args.all Ac.g2=true∧gs=args)∨(Ci P fid gs (·=r)∧Ez (Hg H) args=some gs)))∨
  (∃ sz xs,F3 P fid gs sz xs∧r= .own id 0 0 xs.length∧ef= .new id (.row 0 sz xs)∧((args.all Ac.g2=true∧gs=args)∨(Ez (Hg H) args=some gs∧(xs.all fun x=>x.all Ac.f0)=true)))∨
  ∃ r0 o',ef= .set r0 o'∧r0∈K4 args∧(∃ x,H[r0]? =some x∧x≠.resv)∧∀ (st:List Fr) (H':List Ap),H'.length=H.length→(∀ q∈K4 args,H'[q]? =H[q]?)→
    Bg P (.func fid []) args st H' fun r' H''=>r'=r∧H''=H'.set r0 o'
theorem Bg.V2 {P:Program} {f:FuncId} {args caps:List Ac} {st:List Fr} {H:List Ap} {K:Ac→List Ap→Prop} {R:Ac→Prop} (hc:∀ (args:Array Value) (w:World),(callFunc f args).run P w= .ok (.enter f args) w)
    (spec:Aq P f (args++caps) R) (hg:(args++caps).all Ac.g2=true) (h:∀ r,R r→K r H):Bg P (.func f caps) args st H K:=by
  intro W0 C w outs fv vs I hH hO hf hl hv
  subst hH
  cases hf with
  | func _ carr _ c7 tw=>
    refine .inl ⟨f,carr,rfl,hc,?_⟩
    have cy:F6 (Ctx.imm C.A) w (vs++carr.toList) (args++caps):=by
      refine⟨by simp[hl,c7],fun i v a h1 h2=>A4.ground' (C:=C) (C2:=Ctx.imm C.A) (fun b hb=>hb) ?_ (List.all_eq_true.1 hg a (bO h2))⟩
      by_cases hi:i<vs.length
      ·rw[List.getElem?_append_left hi]at h1
       rw[List.getElem?_append_left (by omega)]at h2
       exact hv i v a h1 h2
      ·rw[List.getElem?_append_right (by omega)]at h1
       rw[List.getElem?_append_right (by omega),← hl]at h2
       exact tw _ v a (by simpa using h1) h2
    have e1:vs.toArray++carr=(vs++carr.toList).toArray:=by apply Array.ext';simp
    rw[e1]
    refine(spec _ w _ I.sub cy).mono fun e w' ⟨v,r,he,hR,hg,hb,hr⟩=>?_
    have key:=I.grow (fun b=>w.heap.size≤b∧b<w'.heap.size) (fun b hb=>hb) hb
    exact⟨v,r,C.more fun b=>w.heap.size≤b∧b<w'.heap.size,he,h r hR,rfl,A4.ground' (C:=Ctx.imm fun b=>C.A b∨(w.heap.size≤b∧b<w'.heap.size)) (C2:=C.more fun b=>w.heap.size≤b∧b<w'.heap.size) (fun b hb=>hb) hr hg,key.1,hO.mono key.2⟩
def B9 (P:Program) (f:Ac) (args:List Ac) (H:List Ap) (id:Nat) (K:Ac→Eff→Prop):Prop:=
  ∃ fid caps gs r ef,f= .func fid caps∧(∀ (args:Array Value) (w:World),(callFunc fid args).run P w= .ok (.enter fid args) w)∧((caps=[]∧X1 P fid gs args H id r ef)∨(ef= .none∧Aq P fid (args++caps) (·=r)∧(args++caps).all Ac.g2=true))∧K r ef
def dop (P:Program) (op:Op) (e:Operand→Ac) (H:List Ap) (id:Nat) (K:Ac→Eff→Prop):Prop:=
  match Gx op with
  | some (f,args)=>B9 P (e f) (args.map e) H id K
  | none=>astep P op e H id K
abbrev DK:=Log→Ac→Eff→Prop
def drun (P:Program) (op:Op) (i id:Nat) (K:DK) (fr:Fr) (H:List Ap):Prop:=dop P op (ev fr) H id (K (ents i id op (ev fr)))
def dskip (K:DK) (_fr:Fr) (_H:List Ap):Prop:=K [] (.tuple []) .none
def dstep (P:Program) (all:List Oper) (o:Oper) (i id:Nat) (K:DK) (fr:Fr) (H:List Ap):Prop:=
  match o.guard with
  | none=>drun P o.op i id K fr H
  | some (j,want)=>match (all[j]?).bind (·.dst)with
    | some d=>Db (get fr d) want (drun P o.op i id K) (dskip K) fr H
    | none=>dskip K fr H
def dafter (next:Log→Fr→List Ap→Prop) (log:Log) (fr:Fr) (dst:Option Tmp) (H:List Ap) (en:Log) (v:Ac) (ef:Eff):Prop:=
  next (en++log) (put fr dst v) (ef.app H)
def dlist (P:Program) (all:List Oper) (top:Nat) (K:Log→Fr→List Ap→Prop):List Oper→Nat→Nat→Log→Fr→List Ap→Prop
  | [],_,_,log,fr,H=>K log fr H
  | o::r,i,id,log,fr,H=>dstep P all o i (if C9 o.op then id else top) (dafter (dlist P all top K r (i+1) (if C9 o.op then id+1 else id)) log fr o.dst H) fr H
structure Tag where
  i:Nat
  id:Nat
  o:Oper
def dlt (P:Program) (all:List Oper) (K:Log→Fr→List Ap→Prop):List Tag→Log→Fr→List Ap→Prop
  | [],log,fr,H=>K log fr H
  | t::r,log,fr,H=>dstep P all t.o t.i t.id (dafter (dlt P all K r) log fr t.o.dst H) fr H
def tags (top:Nat):List Oper→Nat→Nat→List Tag
  | [],_,_=>[]
  | o::r,i,id=>⟨i,if C9 o.op then id else top,o⟩::tags top r (i+1) (if C9 o.op then id+1 else id)
def resvs:List Oper→List Ap
  | []=>[]
  | o::r=>if C9 o.op then .resv::resvs r else resvs r
def Tg (o:Oper) (acc:List Nat):Nat:=o.after.toList.foldl (fun m e=>if Region.binds .any e then m|||(2 ^ e.on|||acc.getD e.on 0)else m) 0
def masks:List Oper→List Nat→List Nat
  | [],acc=>acc
  | o::r,acc=>masks r (acc++[Tg o acc])
def bit (A:List Nat) (i j:Nat):Bool:=(A.getD i 0).testBit j
def disj (S T:List Nat):Bool:=S.all fun r=>!T.contains r
def Jb (A:List Nat) (log:Log):Bool:=log.all fun p=>log.all fun q=>p.1 ==q.1||bit A p.1 q.1||bit A q.1 p.1||!(p.2.2||q.2.2)||disj p.2.1 q.2.1
def Ls (A:List Nat) (arr:Array Oper):List (Nat×Oper)→List Oper→Nat→Bool
  | _,[],_=>true
  | prev,o::r,i=>prev.all (fun p=>bit A i p.1||p.2.apart arr o)&&Ls A arr ((i,o)::prev) r (i+1)
def Kf:List Oper→Nat→Bool
  | [],_=>true
  | o::r,i=>o.after.toList.all (fun e=>!Region.binds .any e||Nat.blt e.on i)&&Kf r (i+1)
def Wr (n:Nat) (ops:List Oper):Bool:=
  O0 n ops&&ops.all (fun o=>(Gx o.op).isSome||drawable o.op)&&Kf ops 0&&Ls (masks ops []) ops.toArray [] ops 0
section
variable {P:Program}
theorem Uf {H H':List Ap} {v:Ac} (h:∀ r∈rid v,H'[r]? =H[r]?):L5 H' v=L5 H v:=by
  cases v<;>first | rfl | (simp only[L5,h _ (List.mem_singleton.2 rfl)])
theorem Ud {H H':List Ap}:∀ {l:List Ac},(∀ r∈Xd l,H'[r]? =H[r]?)→Ez (L5 H') l=Ez (L5 H) l
  | [],_=>rfl
  | v::l,h=>by
    rw[Ez,Ez,Uf fun r hr=>h r (List.mem_append_left _ hr),Ud fun r hr=>h r (List.mem_append_right _ hr)]
theorem Xo {H H':List Ap} {v:Ac} (h:∀ r∈Xe v,H'[r]? =H[r]?):Hg H' v=Hg H v:=by
  cases v with
  | agg cs=>simp only[Hg,Ud (H:=H) (H':=H') (l:=cs) h]
  | _=>
    simp only[Hg]
    refine Uf fun r hr=>h r ?_
    exact hr
theorem Ue {H H':List Ap}:∀ {l:List Ac},(∀ r∈K4 l,H'[r]? =H[r]?)→Ez (Hg H') l=Ez (Hg H) l
  | [],_=>rfl
  | v::l,h=>by
    rw[Ez,Ez,Xo fun r hr=>h r (List.mem_append_left _ hr),Ue fun r hr=>h r (List.mem_append_right _ hr)]
def T1 (op:Op) (e:Operand→Ac) (H:List Ap) (id:Nat) (ef:Eff):Prop:=
  match ef with
  | .none=>True
  | .new j _=>C9 op=true∧j=id
  | .set r _=>(C9 op||Tb op)=true∧r∈touch op e∧∃ x,H[r]? =some x∧x≠.resv
theorem Sz.w {op:Op} {e:Operand→Ac} {H:List Ap} {id:Nat} {ef:Eff} (h:Sz op e H id ef):T1 op e H id ef:=by
  cases ef with
  | none=>trivial
  | new j x=>exact h
  | set r x=>exact ⟨by rw[h.1,Bool.or_true],h.2⟩
def dOK (op:Op):Prop:=(Gx op).isSome=true∨drawable op=true
theorem Xr {op:Op} {e:Operand→Ac} {H:List Ap} {id:Nat} {K:Ac→Eff→Prop} (hd:dOK op) (h:dop P op e H id K) :
    (∃ v ef,K v ef∧T1 op e H id ef∧∀ (H':List Ap) (e':Operand→Ac),H'.length=H.length→(∀ x∈op.operands.toList,e' x=e x)→(∀ r∈touch op e,H'[r]? =H[r]?)→∀ K':Ac→Eff→Prop,K' v ef→dop P op e' H' id K')∨
     (∀ K':Ac→Eff→Prop,dop P op e H id K'):=by
  unfold dop at h
  split at h
  ·rename_i f args hc
   obtain⟨zq,ts,rfl,rfl⟩:=H4 hc
   obtain⟨fid,caps,gs,r,ef,h1,h2,h4,h5⟩:=h
   have hE:T1 (.call {callee:=.value f,args:=zq,argTypes:=ts}) e H id ef:=by
     rcases h4 with⟨_,⟨rfl,_⟩ | ⟨sz,xs,_,_,rfl,_⟩ | ⟨r0,o',rfl,h6,h7,_⟩⟩ | ⟨rfl,_⟩
     ·trivial
     ·exact⟨rfl,rfl⟩
     ·exact⟨rfl,h6,h7⟩
     ·trivial
   refine .inl ⟨r,ef,h5,hE,fun H' e' hlen he hH K' hk=>?_⟩
   have e1:e' f=e f:=he _ (by simp[Op.operands,Call.operands])
   have e2:zq.toList.map e'=zq.toList.map e:=Iy fun x hx=>he x (by simp[Op.operands,Call.operands];exact .inr (by simpa using hx))
   simp only[dop,Gx]
   refine⟨fid,caps,gs,r,ef,by rw[e1];exact h1,h2,?_,hk⟩
   rw[e2]
   rcases h4 with⟨x7,h4⟩ | h4
   case inr=>exact .inr h4
   refine .inl ⟨x7,?_⟩
   have xw:Ez (Hg H') (zq.toList.map e)=Ez (Hg H) (zq.toList.map e):=Ue (H:=H) (H':=H') hH
   unfold X1 at *
   rw[xw]
   rcases h4 with h4 | h4 | ⟨r0,o',h6,h7,h8,h9⟩
   ·exact .inl h4
   ·exact .inr (.inl h4)
   ·have hH:∀ q∈K4 (zq.toList.map e),H'[q]? =H[q]?:=hH
    exact .inr (.inr ⟨r0,o',h6,h7,by rw[hH r0 h7];exact h8,fun st H2 fh ny=>h9 st H2 (fh.trans hlen) fun q hq=>(ny q hq).trans (hH q hq)⟩)
  ·rename_i hc
   have hd:drawable op=true:=hd.resolve_left (by rw[hc];simp)
   rcases Ve hd h with⟨v,ef,h1,h2,h3⟩ | h1
   ·refine .inl ⟨v,ef,h1,h2.w,fun H' e' _ he hH K' hk=>?_⟩
    simp only[dop,hc]
    rw[(Nl he hd).1]
    exact h3 H' hH K' hk
   ·exact .inr fun K'=>by simp only[dop,hc];exact h1 K'
def Qh (i id:Nat) (o:Oper) (H:List Ap) (en:Log) (ef:Eff):Prop:=
  (∀ p∈en,p.1=i)∧match ef with
  | .none=>True
  | .new j _=>C9 o.op=true∧j=id∧∃ p∈en,p.2.2=true∧id∈p.2.1
  | .set r _=>(∃ p∈en,p.2.2=true∧r∈p.2.1)∧∃ x,H[r]? =some x∧x≠.resv
theorem Uu {i:Nat} {S:List Nat} {w:Bool} {p:Nat×List Nat×Bool} (h:p∈P2 i S w):p=(i,S,w):=by
  unfold P2 at h
  split at h
  ·cases h
  ·exact List.mem_singleton.1 h
theorem Oi {i:Nat} {S:List Nat} {w:Bool} {r:Nat} (h:r∈S):(i,S,w)∈P2 i S w:=by
  unfold P2
  split
  ·cases h
  ·exact List.mem_singleton.2 rfl
def Yq (P:Program) (all:List Oper) (o:Oper) (i id:Nat) (K:DK) (fr:Fr) (H:List Ap) (en:Log) (v:Ac) (ef:Eff):Prop:=
  K en v ef∧Qh i id o H en ef∧∀ (fr':Fr) (H':List Ap),H'.length=H.length→(∀ t∈o.looksAt all.toArray,get fr' t=get fr t)→(∀ p∈en,∀ r∈p.2.1,H'[r]? =H[r]?)→
    ∀ K':DK,K' en v ef→dstep P all o i id K' fr' H'
theorem Sc {o:Oper} {i id:Nat} {K:DK} {fr:Fr} {H:List Ap} (hd:dOK o.op) (h:drun P o.op i id K fr H) :
    (∃ en v ef,K en v ef∧Qh i id o H en ef∧∀ (fr':Fr) (H':List Ap),H'.length=H.length→(∀ t,.tmp t∈o.op.operands.toList→get fr' t=get fr t)→(∀ p∈en,∀ r∈p.2.1,H'[r]? =H[r]?)→
     ∀ K':DK,K' en v ef→drun P o.op i id K' fr' H')∨∀ K':DK,drun P o.op i id K' fr H:=by
  unfold drun at h
  rcases Xr hd h with⟨v,ef,h1,h2,h3⟩ | h1
  ·refine .inl ⟨ents i id o.op (ev fr),v,ef,h1,⟨fun p hp=>by rw[Uu hp],?_⟩,fun fr' H' hlen hf hH K' hk=>?_⟩
   ·cases ef with
    | none=>trivial
    | new j x=>
      obtain⟨g1,rfl⟩:=h2
      exact⟨g1,rfl,_,Oi (r:=j) (by rw[if_pos g1];exact List.mem_cons_self ..),by simp[g1],by simp[g1]⟩
    | set r x=>
      obtain⟨g1,g2,g3⟩:=h2
      have:r∈(if C9 o.op=true then id::touch o.op (ev fr)else touch o.op (ev fr)):=by split<;>first | exact List.mem_cons_of_mem _ g2 | exact g2
      exact⟨⟨_,Oi this,g1,this⟩,g3⟩
   ·have he:∀ x∈o.op.operands.toList,ev fr' x=ev fr x:=by
      intro x hx
      cases x with
      | tmp t=>exact hf t hx
      | _=>rfl
    have ht:∀ r∈touch o.op (ev fr),H'[r]? =H[r]?:=by
      intro r hr
      have:r∈(if C9 o.op=true then id::touch o.op (ev fr)else touch o.op (ev fr)):=by split<;>first | exact List.mem_cons_of_mem _ hr | exact hr
      exact hH _ (Oi this) r this
    have e2:touch o.op (ev fr')=touch o.op (ev fr):=by
      rcases hd with hd | hd
      ·cases hc:Gx o.op with
       | none=>rw[hc]at hd;cases hd
       | some fa=>
         obtain⟨zq,ts,ho, -⟩:=H4 (f:=fa.1) (args:=fa.2) hc
         rw[ho]at he ⊢
         simp only[touch]
         rw[Iy fun x hx=>he x (by simp[Op.operands,Call.operands];exact .inr (by simpa using hx))]
      ·exact(Nl (P:=P) (H:=H) (id:=id) (K:=fun _ _=>True) he hd).2
    unfold drun
    rw[show ents i id o.op (ev fr')=ents i id o.op (ev fr) by unfold ents;rw[e2]]
    exact h3 H' (ev fr') hlen he ht _ hk
  ·exact .inr fun K'=>h1 _
theorem Qc {all:List Oper} {o:Oper} {i id:Nat} {K:DK} {fr:Fr} {H:List Ap} (hd:dOK o.op) (h:dstep P all o i id K fr H) :
    (∃ en v ef,Yq P all o i id K fr H en v ef)∨∀ K':DK,dstep P all o i id K' fr H:=by
  have pg:∀ {t},.tmp t∈o.op.operands.toList→t∈o.looksAt all.toArray:=by
    intro t ht
    unfold Oper.looksAt
    exact List.mem_append_left _ (List.mem_filterMap.2 ⟨_,ht,rfl⟩)
  unfold dstep at h
  cases hg:o.guard with
  | none=>
    simp only[hg]at h
    rcases Sc hd h with⟨en,v,ef,h1,h2,h3⟩ | h1
    ·exact .inl ⟨en,v,ef,h1,h2,fun fr' H' hlen hf hH K' hk=>by simp only[dstep,hg];exact h3 fr' H' hlen (fun t ht=>hf t (pg ht)) hH K' hk⟩
    ·exact .inr fun K'=>by simp only[dstep,hg];exact h1 K'
  | some jw=>
    obtain⟨j,want⟩:=jw
    cases fw:(all[j]?).bind (·.dst)with
    | none=>
      simp only[hg,fw]at h
      exact .inl ⟨[],_,_,h,⟨(by simp),trivial⟩,fun fr' H' _ hf hH K' hk=>by simp only[dstep,hg,fw];exact hk⟩
    | some d=>
      simp only[hg,fw]at h
      have qo:d∈o.looksAt all.toArray:=by
        unfold Oper.looksAt
        refine List.mem_append_right _ ?_
        simp[hg,fw]
      have hs:∀ (fr':Fr) (H':List Ap) (K':DK),(∀ t∈o.looksAt all.toArray,get fr' t=get fr t)→Db (get fr d) want (drun P o.op i id K') (dskip K') fr' H'→dstep P all o i id K' fr' H':=by
        intro fr' H' K' hf hh
        simp only[dstep,hg,fw]
        rw[hf d qo];exact hh
      unfold Db at h
      split at h
      ·rename_i c hc
       by_cases ie:c=want
       ·rcases Sc hd (h.1 ie)with ⟨en,v,ef,h1,h2,h3⟩ | h1
        ·exact .inl ⟨en,v,ef,h1,h2,fun fr' H' hlen hf hH K' hk=>hs fr' H' K' hf (by rw[hc];exact⟨fun _=>h3 fr' H' hlen (fun t ht=>hf t (pg ht)) hH K' hk,fun hn=>absurd ie hn⟩)⟩
        ·exact .inr fun K'=>hs fr H K' (fun _ _=>rfl) (by rw[hc];exact⟨fun _=>h1 K',fun hn=>absurd ie hn⟩)
       ·exact .inl ⟨[],_,_,h.2 ie,⟨(by simp),trivial⟩,fun fr' H' _ hf hH K' hk=>hs fr' H' K' hf (by rw[hc];exact⟨fun hy=>absurd hy ie,fun _=>hk⟩)⟩
      ·rename_i vs hc
       exact .inl ⟨[],_,_,h,⟨(by simp),trivial⟩,fun fr' H' _ hf hH K' hk=>hs fr' H' K' hf (by rw[hc];exact hk)⟩
      ·exact h.elim
end
end Go.Ab
namespace Go.Ab
open Go Go.RowKit
section
variable {P:Program}
theorem C7.congr {W0:World} {A0:Nat→Prop} {ds:List Deferred} {n:Nat} {outs:List (Array Value)} {outer:List Fr} {fr fr':Fr} {H:List Ap} {a:Act} {w:World} (hf:∀ t,get fr' t=get fr t)
    (R:C7 W0 A0 ds n outs outer fr H a w):C7 W0 A0 ds n outs outer fr' H a w:=by
  obtain⟨C,h1,h2,h3,h4,h5⟩:=R.ex
  exact⟨C,h1,h2,h3,fun t=>by rw[hf];exact h4 t,h5⟩
theorem L0 (fr:Fr) (d:Option Tmp) (v:Ac) (t:Nat):get (put fr d v) t=if d=some t then v else get fr t:=by
  cases d with
  | none=>simp[put]
  | some k=>simp[put,get]
structure Good (W0:World) (A0:Nat→Prop) (ds:List Deferred) (n:Nat) (outs:List (Array Value)) (outer:List Fr) (K:DK) (fr:Fr) (dst:Option Tmp) (H:List Ap) (a':Act) (w':World):Prop where
  ex:∃ en v ef,K en v ef∧C7 W0 A0 ds n outs outer (put fr dst v) (ef.app H) a' w'
def Ll (P:Program) (all:List Oper) (o:Oper) (a:Act) (w:World) (G:Act→World→Prop):Prop:=
  (Region.wanted o (yielded all.toArray a.tmps)=true∧
    ((∃ v' w',(execOp a.eval o).run P w= .ok (.value v') w'∧G (a.put o.dst v') w')∨(∃ w',(execOp a.eval o).run P w= .ok .skip w'∧G (a.put o.dst undef) w')∨
      (∃ f args,(execOp a.eval o).run P w= .ok (.enter f args) w∧Calls P f args w fun e w'=>∃ v',e= .returned v'∧G (a.put o.dst v') w')))∨
  (Region.wanted o (yielded all.toArray a.tmps)=false∧G (a.put o.dst undef) w)
theorem Ll.exists {all:List Oper} {o:Oper} {a:Act} {w:World} {G:Act→World→Prop} (h:Ll P all o a w G):∃ a' w',G a' w':=by
  rcases h with⟨_,h⟩ | ⟨_,h⟩
  ·rcases h with⟨v,w',_,h⟩ | ⟨w',_,h⟩ | ⟨f,args,_,h⟩
   ·exact⟨_,_,h⟩
   ·exact⟨_,_,h⟩
   ·obtain⟨e,w',fr,⟨v',_,h⟩,_⟩:=h []
    exact⟨_,_,h⟩
  ·exact⟨_,_,h⟩
theorem Ll.wpOp {md:Option Nat} {all:List Oper} {i:Nat} {o:Oper} {a:Act} {w:World} {G:Act→World→Prop} {Q:Exit→Act→World→Prop} {K:Act→World→Prop} (hi:all[i]? =some o) (h:Ll P all o a w G) (hK:∀ a' w',G a' w'→K a' w') (nd:∀ c,o.op≠.defer c) :
    wpOpIn (fence md) 5 P all.toArray Q i K a w:=by
  unfold Go.wpOpIn
  have bp:all.toArray[i]? =some o:=by simpa using hi
  rw[bp]
  simp only
  rcases h with⟨hw,h⟩ | ⟨hw,h⟩
  ·rw[if_pos hw]
   unfold Oper.wpIn
   refine⟨fun _ _=>trivial,?_⟩
   rw[Oper.semAt_eq _ _ _ nd]
   rcases h with⟨v,w',h1,h⟩ | ⟨w',h1,h⟩ | ⟨f,args,h1,h⟩
   ·rw[h1];exact hK _ _ h
   ·rw[h1];exact hK _ _ h
   ·rw[h1,Oper.uponIn_enter]
    exact⟨H3,Jy (h.mono fun e w' ⟨v',he,hg⟩=>by subst he;exact hK _ _ hg)⟩
  ·rw[if_neg (by rw[hw];simp)]
   exact⟨fun _ _=>trivial,hK _ _ h⟩
theorem Kg {W0:World} {A0:Nat→Prop} {ds:List Deferred} {n:Nat} {outs:List (Array Value)} {outer:List Fr} {all:List Oper} {o:Oper} {i id:Nat} {K:DK} {fr:Fr} {H:List Ap} {a:Act} {w:World}
    (hd:∀ k,o.dst=some k→k<n) (aq:F4 H id) (R:C7 W0 A0 ds n outs outer fr H a w) (h:dstep P all o i id K fr H) :
    Ll P all o a w (Good W0 A0 ds n outs outer K fr o.dst H):=by
  obtain⟨C,rfl,rfl,I,hF,hO,hn,qb⟩:=R.ex
  have ab:∀ k,o.dst=some k→k<a.tmps.size:=by intro k hk;rw[hn];exact hd k hk
  have srep:∀ (C':Ctx) (w':World) (v:Value) (r:Ac),C'.A0=C.A0→Inv W0 C' w'→Hm C' w' a.tmps fr→Cr C' w' outs outer→A4 C' w' v r→C7 W0 C.A0 ds n outs outer (put fr o.dst r) C'.H (a.put o.dst v) w':=
    fun C' w' v r e I' nh gg hv=>⟨C',rfl,e,I',nh.put hv o.dst ab,gg,by rw[Ob,hn],by rw[put_defers,qb]⟩
  have skip:dskip K fr C.H→Good W0 C.A0 ds n outs outer K fr o.dst C.H (a.put o.dst undef) w:=
    fun h=>⟨[],.tuple [],.none,h,srep C w undef _ rfl I hF hO (Ih C w)⟩
  have run:drun P o.op i id K fr C.H→(∃ v' w',(execOp a.eval o).run P w= .ok (.value v') w'∧Good W0 C.A0 ds n outs outer K fr o.dst C.H (a.put o.dst v') w')∨(∃ w',(execOp a.eval o).run P w= .ok .skip w'∧Good W0 C.A0 ds n outs outer K fr o.dst C.H (a.put o.dst undef) w')∨
   (∃ f args,(execOp a.eval o).run P w= .ok (.enter f args) w∧Calls P f args w fun e w'=>∃ v',e= .returned v'∧Good W0 C.A0 ds n outs outer K fr o.dst C.H (a.put o.dst v') w'):=by
    intro h
    unfold drun dop at h
    split at h
    ·rename_i f args hc
     obtain⟨zq,ts,ho,rfl⟩:=H4 hc
     obtain⟨fid,caps0,gs,r,ef,g1,g2,g4,g5⟩:=h
     have fx:Bg P (ev fr f) (zq.toList.map (ev fr)) (fr::outer) C.H fun r' H'=>r'=r∧H'=ef.app C.H:=by
       rw[g1]
       rcases g4 with⟨rfl,⟨rfl,⟨g3,g4⟩ | ⟨g3,g4⟩ | ⟨g3,g4⟩⟩ | ⟨sz,xs,g3,rfl,rfl,g4⟩ | ⟨r0,o',rfl,_,_,g4⟩⟩ | ⟨rfl,g3,g4⟩
       ·exact Bg.snap g2 g3 g4.1 (fun r' hr=>hr ▸ g4.2) fun r' hr=>⟨hr,rfl⟩
       ·rw[g4.2]at g3;exact Bg.pure g2 g3 g4.1 fun r' hr=>⟨hr,rfl⟩
       ·exact Bg.Vu g2 g3 g4 fun r' hr=>⟨hr,rfl⟩
       ·exact Bg.rowAt g2 g3 g4 id aq ⟨rfl,rfl⟩
       ·exact g4 _ _ rfl fun _ _=>rfl
       ·exact Bg.V2 g2 g3 g4 fun r' hr=>⟨hr,rfl⟩
     obtain⟨fid',caps,h1,h2,h3⟩:=Or.resolve_right (fx W0 C w (a.tmps::outs) (a.eval f) (zq.toList.map a.eval) I rfl (hO.cons hF) (Gw hF f) (by simp) (fun i v x hv hx=>by
       simp only[List.getElem?_map]at hv hx
       cases hy:zq.toList[i]? with
       | none=>simp[hy]at hv
       | some y=>
         simp only[hy,Option.map_some,bQ]at hv hx
         subst hv hx;exact Gw hF y)) (by
       rintro⟨l,rec,h1,_⟩
       have qn:=Gw hF f
       rw[g1,h1]at qn
       cases qn)
     have aj:(execOp a.eval o).run P w= .ok (.enter fid' ((zq.toList.map a.eval).toArray++caps)) w:=by
       unfold execOp
       rw[ho]
       simp only[resolve,Deferred.ofValue,h1,invoke,Sem.run_bind,Sem.run_pure,Result.andThen_ok]
       have e1:(#[]++Array.map a.eval zq++caps:Array Value)=(zq.toList.map a.eval).toArray++caps:=by
         apply Array.ext';simp
       rw[e1,h2]
     refine .inr (.inr ⟨_,_,aj,h3.mono fun e w' ⟨v,r',C',he,⟨hr,hH⟩,hA,hv,I',gg⟩=>⟨v,he,?_⟩⟩)
     subst hr
     exact⟨_,r',ef,g5,hH ▸ srep C' w' v r' hA I' gg.head gg.tail hv⟩
    ·obtain⟨r,w',C',ef,gu,hk,hH,I',m⟩:=(Nk (P:=P) I aq (Gw hF) h).ex
     rcases gu with⟨v,aj,hv⟩ | ⟨aj,rfl⟩
     ·exact .inl ⟨v,w',aj,⟨_,r,ef,hk,hH ▸ srep C' w' v r m.A0 I' (hF.mono m) (hO.mono m) hv⟩⟩
     ·exact .inr (.inl ⟨w',aj,⟨_,_,ef,hk,hH ▸ srep C' w' undef _ m.A0 I' (hF.mono m) (hO.mono m) (Ih C' w')⟩⟩)
  unfold dstep at h
  unfold Ll
  cases hg:o.guard with
  | none=>
    simp only[hg]at h
    exact .inl ⟨by simp[Region.wanted,hg],run h⟩
  | some jw=>
    obtain⟨j,want⟩:=jw
    have hy:∀ d,(all[j]?).bind (·.dst)=some d→yielded all.toArray a.tmps j=match a.tmps[d]? with | some (.bool b)=>some b | _=>none:=by
      intro d hd
      unfold yielded
      simp only[List.getElem?_toArray,hd,bP]
      rfl
    cases fw:(all[j]?).bind (·.dst)with
    | some d=>
      simp only[hg,fw]at h
      have hv:=hF d
      unfold Db at h
      split at h
      ·rename_i c hc
       rw[hc]at hv
       have ga:a.tmps.getD d undef= .bool c:=by cases gn:a.tmps.getD d undef<;>rw[gn]at hv<;>cases hv;rfl
       have jt:a.tmps[d]? =some (.bool c):=by
         rw[Array.getD_eq_getD_getElem?]at ga
         cases ht:a.tmps[d]? with
         | none=>rw[ht]at ga;cases ga
         | some u=>rw[ht]at ga;simp at ga;rw[ga]
       have hw:Region.wanted o (yielded all.toArray a.tmps)=decide (c=want):=by
         simp only[Region.wanted,hg,hy d fw,jt]
         cases c<;>cases want<;>rfl
       by_cases ie:c=want
       ·exact .inl ⟨by rw[hw];simpa using ie,run (h.1 ie)⟩
       ·exact .inr ⟨by rw[hw];simpa using ie,skip (h.2 ie)⟩
      ·rename_i vs hc
       rw[hc]at hv
       have hw:Region.wanted o (yielded all.toArray a.tmps)=false:=by
         simp only[Region.wanted,hg,hy d fw]
         cases ht:a.tmps[d]? with
         | none=>rfl
         | some u=>
           have:a.tmps.getD d undef=u:=by rw[Array.getD_eq_getD_getElem?,ht];rfl
           rw[this]at hv
           cases hv;rfl
       exact .inr ⟨hw,skip h⟩
      ·exact h.elim
    | none=>
      simp only[hg,fw]at h
      have hw:Region.wanted o (yielded all.toArray a.tmps)=false:=by
        simp only[Region.wanted,hg]
        unfold yielded
        simp[fw]
      exact .inr ⟨hw,skip h⟩
theorem Ui {i id:Nat} {o:Oper} {H:List Ap} {en:Log} {ef:Eff} (hl:Qh i id o H en ef) (aq:C9 o.op=true→H[id]? =some .resv):(ef.app H).length=H.length:=by
  cases ef with
  | none=>rfl
  | new j x=>
    obtain⟨_,h1,h2,_⟩:=hl
    subst h2
    have:=(bW.1 (aq h1)).1
    simp only[Eff.app,Dy]
    rw[if_neg (by omega),List.length_set]
  | set r x=>simp[Eff.app]
theorem Q0 {i id:Nat} {o:Oper} {H:List Ap} {en:Log} {ef:Eff} (hl:Qh i id o H en ef) (aq:C9 o.op=true→H[id]? =some .resv) :
    (ef= .none)∨∃ l x,(∃ p∈en,p.2.2=true∧l∈p.2.1)∧(∀ H2:List Ap,H2.length=H.length→ef.app H2=H2.set l x)∧((C9 o.op=true∧l=id)∨∃ y,H[l]? =some y∧y≠.resv):=by
  cases ef with
  | none=>exact .inl rfl
  | new j x=>
    obtain⟨_,h1,rfl,h3⟩:=hl
    have:=(bW.1 (aq h1)).1
    refine .inr ⟨j,x,h3,fun H2 h2=>?_,.inl ⟨h1,rfl⟩⟩
    simp only[Eff.app,Dy]
    rw[if_neg (by omega)]
  | set r x=>
    obtain⟨_,h1,h2⟩:=hl
    exact .inr ⟨r,x,h1,fun H2 _=>rfl,.inr h2⟩
def Yo (s t:Tag):Prop:=C9 s.o.op=true→C9 t.o.op=true→s.id≠t.id
structure Ids (L:List Tag) (H:List Ap):Prop where
  new:∀ t∈L,C9 t.o.op=true→H[t.id]? =some .resv
  old:∀ t∈L,C9 t.o.op=false→t.id=H.length
  dst:L.Pairwise Yo
theorem Ids.free {L:List Tag} {H:List Ap} (h:Ids L H) {t:Tag} (ht:t∈L):F4 H t.id:=by
  cases hn:C9 t.o.op with
  | true=>exact .inr (h.new t ht hn)
  | false=>exact .inl (h.old t ht hn)
theorem Ids.step {L1 L2:List Tag} {t:Tag} {H:List Ap} (h:Ids (L1++t::L2) H) {en:Log} {ef:Eff} (hl:Qh t.i t.id t.o H en ef):Ids (L1++L2) (ef.app H):=by
  have uz:t∈L1++t::L2:=by simp
  have hlen:=Ui hl (h.new t uz)
  have hD:∀ s∈L1++L2,Yo s t:=by
    have hp:=h.dst
    rw[List.pairwise_append]at hp
    obtain⟨_,w4,w0⟩:=hp
    intro s hs
    rcases bU.1 hs with hs | hs
    ·exact w0 s hs t (List.mem_cons_self ..)
    ·intro a b e
     exact(List.pairwise_cons.1 w4).1 s hs b a e.symm
  have gp:∀ s∈L1++L2,s∈L1++t::L2:=by
    intro s hs
    rcases bU.1 hs with hs | hs
    ·exact List.mem_append_left _ hs
    ·exact List.mem_append_right _ (List.mem_cons_of_mem _ hs)
  refine⟨fun s hs hn=>?_,fun s hs hn=>by rw[hlen];exact h.old s (gp s hs) hn,?_⟩
  ·have hr:=h.new s (gp s hs) hn
   rcases Q0 hl (h.new t uz)with rfl | ⟨l,x,_,h2,h3⟩
   ·exact hr
   ·rw[h2 H rfl]
    have ar:l≠s.id:=by
      rcases h3 with⟨g1,rfl⟩ | ⟨y,g1,g2⟩
      ·exact fun e=>hD s hs hn g1 e.symm
      ·rintro rfl
       rw[hr,bQ]at g1
       exact g2 g1.symm
    rw[List.getElem?_set_ne ar];exact hr
  ·have hp:=h.dst
   rw[List.pairwise_append]at hp ⊢
   exact⟨hp.1,(List.pairwise_cons.1 hp.2.1).2,fun a ha b hb=>hp.2.2 a ha b (List.mem_cons_of_mem _ hb)⟩
variable {all:List Oper} {K:Log→Fr→List Ap→Prop}
theorem Qd (hK:∀ log log' fr fr' H,(∀ t,get fr' t=get fr t)→(∀ p,p∈log↔p∈log')→K log fr H→K log' fr' H):∀ (L:List Tag) (log log':Log) (fr fr':Fr) (H:List Ap),
    (∀ t∈L,dOK t.o.op)→(∀ t,get fr' t=get fr t)→(∀ p,p∈log↔p∈log')→dlt P all K L log fr H→dlt P all K L log' fr' H
  | [],log,log',fr,fr',H,_,hf,hl,h=>hK _ _ _ _ _ hf hl h
  | t::L,log,log',fr,fr',H,hd,hf,hl,h=>by
    have ih:=Qd hK L
    unfold dlt at h ⊢
    have key:∀ K1 K2:DK,(∀ en v ef,K1 en v ef→K2 en v ef)→dstep P all t.o t.i t.id K1 fr H→dstep P all t.o t.i t.id K2 fr' H:=by
      intro K1 K2 hk hs
      have e1:dstep P all t.o t.i t.id K2 fr' H=dstep P all t.o t.i t.id K2 fr H:=by
        have hg:get fr'=get fr:=funext hf
        have he:ev fr'=ev fr:=by funext x;cases x<;>simp[ev,hf]
        simp only[dstep,drun,dskip,Db,hg,he]
      rw[e1]
      rcases Qc (hd t (List.mem_cons_self ..)) hs with⟨en,v,ef,h1,h2,h3⟩ | h1
      ·exact h3 fr H rfl (fun _ _=>rfl) (fun _ _ _ _=>rfl) K2 (hk _ _ _ h1)
      ·exact h1 K2
    refine key _ _ (fun en v ef hk=>?_) h
    refine ih _ _ _ _ _ (fun t ht=>hd t (List.mem_cons_of_mem _ ht)) (fun x=>?_) (fun p=>?_) hk
    ·rw[L0,L0,hf]
    ·rw[bU,bU,hl]
variable {W0:World} {A0:Nat→Prop} {ds:List Deferred} {n:Nat} {outs:List (Array Value)} {outer:List Fr}
theorem Kh {t:Tag} {L1 L2:List Tag} {K1:DK} {fr:Fr} {H:List Ap} {a:Act} {w:World} (hd:dOK t.o.op) (hn:∀ k,t.o.dst=some k→k<n) (hI:Ids (L1++t::L2) H) (R:C7 W0 A0 ds n outs outer fr H a w)
    (h:dstep P all t.o t.i t.id K1 fr H):∃ en v ef,Yq P all t.o t.i t.id K1 fr H en v ef∧∃ a' w',C7 W0 A0 ds n outs outer (put fr t.o.dst v) (ef.app H) a' w':=by
  have aq:=hI.free (t:=t) (by simp)
  rcases Qc hd h with⟨en,v,ef,h1⟩ | h1
  ·have h2:=h1.2.2 fr H rfl (fun _ _=>rfl) (fun _ _ _ _=>rfl) (fun en' v' ef'=>en'=en∧v'=v∧ef'=ef) ⟨rfl,rfl,rfl⟩
   obtain⟨a',w',⟨⟨_,_,_,⟨rfl,rfl,rfl⟩,R'⟩⟩⟩:=(Kg hn aq R h2).exists
   exact⟨_,_,_,h1,a',w',R'⟩
  ·obtain⟨a',w',⟨⟨_,_,_,hf,_⟩⟩⟩:=(Kg hn aq R (h1 fun _ _ _=>False)).exists
   exact hf.elim
theorem Ug:∀ (L:List Tag) (log:Log) (fr:Fr) (H:List Ap) (a:Act) (w:World),(∀ t∈L,dOK t.o.op)→(∀ t∈L,∀ k,t.o.dst=some k→k<n)→Ids L H→C7 W0 A0 ds n outs outer fr H a w→
    dlt P all K L log fr H→∃ log' fr' H',K log' fr' H'∧∀ p∈log,p∈log'
  | [],log,fr,H,_,_,_,_,_,_,h=>⟨log,fr,H,h,fun _ h=>h⟩
  | t::L,log,fr,H,a,w,hd,hn,hI,R,h=>by
    unfold dlt at h
    obtain⟨en,v,ef,⟨h1,h2,_⟩,a',w',R'⟩:=Kh (L1:=[]) (hd t (List.mem_cons_self ..)) (hn t (List.mem_cons_self ..)) hI R h
    obtain⟨log',fr',H',g1,g2⟩:=Ug L _ _ _ a' w' (fun t ht=>hd t (List.mem_cons_of_mem _ ht)) (fun t ht=>hn t (List.mem_cons_of_mem _ ht)) (hI.step (L1:=[]) h2) R' h1
    exact⟨log',fr',H',g1,fun p hp=>g2 p (List.mem_append_right _ hp)⟩
structure X2 (A:List Nat) (all:List Oper) (s t:Tag):Prop where
  ap:s.o.apart all.toArray t.o=true
  b1:bit A s.i t.i=false
  b2:bit A t.i s.i=false
  ne:s.i≠t.i
theorem Tc {A:List Nat} {log:Log} (h:Jb A log=true) {p q:Nat×List Nat×Bool} (hp:p∈log) (hq:q∈log) (ar:p.1≠q.1) (h1:bit A p.1 q.1=false) (h2:bit A q.1 p.1=false) (hw:(p.2.2||q.2.2)=true)
    {r:Nat} (hr:r∈p.2.1):r ∉ q.2.1:=by
  unfold Jb at h
  have:=List.all_eq_true.1 (List.all_eq_true.1 h p hp) q hq
  simp only[h1,h2,hw,Bool.or_false,Bool.not_true,Bool.or_eq_true,beq_iff_eq,ar,false_or]at this
  unfold disj at this
  have:=List.all_eq_true.1 this r hr
  simpa using this
variable {A:List Nat}
theorem hoist (hK:∀ log log' fr fr' H,(∀ t,get fr' t=get fr t)→(∀ p,p∈log↔p∈log')→K log fr H→K log' fr' H) (qs:∀ log fr H,K log fr H→Jb A log=true):∀ (L1:List Tag) (t:Tag) (L2:List Tag) (log:Log) (fr:Fr) (H:List Ap) (a:Act) (w:World),
    (∀ s∈L1++t::L2,dOK s.o.op)→(∀ s∈L1++t::L2,∀ k,s.o.dst=some k→k<n)→Ids (L1++t::L2) H→C7 W0 A0 ds n outs outer fr H a w→(∀ s∈L1,X2 A all s t)→
    dlt P all K (L1++t::L2) log fr H→dstep P all t.o t.i t.id (dafter (dlt P all K (L1++L2)) log fr t.o.dst H) fr H
  | [],t,L2,log,fr,H,a,w,_,_,_,_,_,h=>h
  | s::L1,t,L2,log,fr,H,a,w,hd,hn,hI,R,hA,h=>by
    rw[List.cons_append]at h
    unfold dlt at h
    obtain⟨en_s,v_s,ef_s,⟨g1,g2,g3⟩,a',w',R'⟩:=Kh (L1:=[]) (hd s (by simp)) (hn s (by simp)) hI R h
    have I':Ids (L1++t::L2) (ef_s.app H):=hI.step (L1:=[]) g2
    have lk:∀ s∈L1++t::L2,dOK s.o.op:=fun x hx=>hd x (by rw[List.cons_append];exact List.mem_cons_of_mem _ hx)
    have gy:∀ s∈L1++t::L2,∀ k,s.o.dst=some k→k<n:=fun x hx=>hn x (by rw[List.cons_append];exact List.mem_cons_of_mem _ hx)
    have ht:=hoist hK qs L1 t L2 _ _ _ a' w' lk gy I' R' (fun x hx=>hA x (List.mem_cons_of_mem _ hx)) g1
    obtain⟨en_t,v_t,ef_t,⟨k1,k2,k3⟩,a'',w'',R''⟩:=Kh (L1:=L1) (L2:=L2) (lk t (by simp)) (gy t (by simp)) I' R' ht
    have ew:∀ x∈L1++L2,x∈L1++t::L2:=by
      intro x hx
      rcases bU.1 hx with hx | hx
      ·exact List.mem_append_left _ hx
      ·exact List.mem_append_right _ (List.mem_cons_of_mem _ hx)
    obtain⟨log',fr',H',q1,q2⟩:=Ug (L1++L2) _ _ _ a'' w'' (fun x hx=>lk x (ew x hx)) (fun x hx=>gy x (ew x hx)) (I'.step k2) R'' k1
    have fg:=qs _ _ _ q1
    have ij:=hA s (List.mem_cons_self ..)
    obtain⟨ap1,ap2,ap3⟩:=Oper.apart_spec ij.ap
    have nb:∀ p∈en_s,∀ q∈en_t,(p.2.2||q.2.2)=true→∀ r∈p.2.1,r ∉ q.2.1:=by
      intro p hp q hq hw r hr
      have e1:=g2.1 p hp
      have e2:=k2.1 q hq
      exact Tc fg (q2 p (by simp[hp])) (q2 q (by simp[hq])) (by rw[e1,e2];exact ij.ne) (by rw[e1,e2];exact ij.b1) (by rw[e1,e2];exact ij.b2) hw hr
    have sS:=Q0 g2 (hI.new s (by simp))
    have sT:=Q0 k2 (I'.new t (by simp))
    have lenS:=Ui g2 (hI.new s (by simp))
    have lenT:(ef_t.app H).length=H.length:=by
      rcases sT with rfl | ⟨lt,xt,_,lf,_⟩
      ·rfl
      ·rw[lf H lenS.symm,List.length_set]
    have heq:ef_s.app (ef_t.app H)=ef_t.app (ef_s.app H):=by
      rcases sS with rfl | ⟨ls,xs,⟨p,hp,sg,gx⟩,kf,_⟩
      ·rfl
      ·rcases sT with rfl | ⟨lt,xt,⟨q,hq,u4,sf⟩,lf,_⟩
       ·rfl
       ·rw[lf H lenS.symm,kf H rfl,kf (H.set lt xt) (by simp),lf (H.set ls xs) (by rw[lenS];simp)]
        have ar:ls≠lt:=fun e=>nb p hp q hq (by rw[sg];rfl) ls gx (e ▸ sf)
        exact List.set_comm _ _ (fun e=>ar e.symm)
    refine k3 fr H lenS.symm (fun x hx=>?_) (fun p hp r hr=>?_) _ ?_
    ·rw[L0,if_neg]
     exact fun e=>ap1 x e hx
    ·rcases sS with rfl | ⟨ls,xs,⟨p',w5,sg,gx⟩,kf,_⟩
     ·rfl
     ·rw[kf H rfl,List.getElem?_set_ne]
      exact fun e=>nb p' w5 p hp (by rw[sg];rfl) ls gx (e ▸ hr)
    ·show dlt P all K (s::(L1++L2)) (en_t++log) (put fr t.o.dst v_t) (ef_t.app H)
     unfold dlt
     refine g3 _ _ lenT (fun x hx=>?_) (fun p hp r hr=>?_) _ ?_
     ·rw[L0,if_neg]
      exact fun e=>ap3 x e hx
     ·rcases sT with rfl | ⟨lt,xt,⟨q,hq,u4,sf⟩,lf,_⟩
      ·rfl
      ·rw[lf H lenS.symm,List.getElem?_set_ne]
       exact fun e=>nb p hp q hq (by rw[u4,Bool.or_true]) r hr (e ▸ sf)
     ·show dlt P all K (L1++L2) (en_s++(en_t++log)) (put (put fr t.o.dst v_t) s.o.dst v_s) (ef_s.app (ef_t.app H))
      rw[heq]
      refine Qd hK _ _ _ _ _ _ (fun x hx=>lk x (ew x hx)) (fun x=>?_) (fun p=>?_) k1
      ·simp only[L0]
       by_cases e1:s.o.dst=some x
       ·rw[if_pos e1,if_neg (fun e=>ap2 x e1 e),if_pos e1]
       ·rw[if_neg e1,if_neg e1]
      ·simp only[bU]
       constructor
       ·rintro(h | h | h)
        ·exact .inr (.inl h)
        ·exact .inl h
        ·exact .inr (.inr h)
       ·rintro(h | h | h)
        ·exact .inr (.inl h)
        ·exact .inl h
        ·exact .inr (.inr h)
variable {P:Program} {md:Option Nat}
inductive Anc (ops:List Oper):Nat→Nat→Prop
  | edge {i:Nat} {o:Oper} {e:Edge} (ho:ops[i]? =some o) (he:e∈o.after) (hb:Region.binds .any e=true):Anc ops i e.on
  | trans {i j:Nat} {o:Oper} {e:Edge} (ho:ops[i]? =some o) (he:e∈o.after) (hb:Region.binds .any e=true) (h:Anc ops e.on j):Anc ops i j
theorem Ow (acc:List Nat) (j:Nat):∀ (l:List Edge) (m:Nat),(l.foldl (fun m e=>if Region.binds .any e then m|||(2 ^ e.on|||acc.getD e.on 0)else m) m).testBit j=true→
    m.testBit j=true∨∃ e∈l,Region.binds .any e=true∧(e.on=j∨(acc.getD e.on 0).testBit j=true)
  | [],m,h=>.inl h
  | e::l,m,h=>by
    rw[List.foldl_cons]at h
    rcases Ow acc j l _ h with h | ⟨e',h1,h2⟩
    ·split at h
     ·rename_i hb
      rw[Nat.testBit_or,Nat.testBit_or,Bool.or_eq_true,Bool.or_eq_true]at h
      rcases h with h | h | h
      ·exact .inl h
      ·rw[Nat.testBit_two_pow]at h
       exact .inr ⟨e,List.mem_cons_self ..,hb,.inl (by simpa using h)⟩
      ·exact .inr ⟨e,List.mem_cons_self ..,hb,.inr h⟩
     ·exact .inl h
    ·exact .inr ⟨e',List.mem_cons_of_mem _ h1,h2⟩
theorem Oj (ops:List Oper):∀ (l:List Oper) (acc:List Nat),(∀ k,l[k]? =ops[acc.length+k]?)→(∀ i j,(acc.getD i 0).testBit j=true→Anc ops i j)→
    ∀ i j,((masks l acc).getD i 0).testBit j=true→Anc ops i j
  | [],acc,_,kr=>kr
  | o::l,acc,hl,kr=>by
    refine Oj ops l (acc++[Tg o acc]) (fun k=>?_) (fun i j h=>?_)
    ·have:=hl (k+1)
     rw[List.getElem?_cons_succ]at this
     rw[this,bR,List.length_singleton]
     congr 1;omega
    ·rw[List.getD_eq_getElem?_getD]at h
     by_cases hi:i<acc.length
     ·rw[List.getElem?_append_left hi,← List.getD_eq_getElem?_getD]at h
      exact kr i j h
     ·by_cases he:i=acc.length
      ·subst he
       rw[List.getElem?_append_right (Nat.le_refl _),Nat.sub_self]at h
       have ho:ops[acc.length]? =some o:=by have:=hl 0;simpa using this.symm
       simp only[List.getElem?_cons_zero,Option.getD_some]at h
       unfold Tg at h
       rcases Ow acc j _ _ h with h | ⟨e,h1,h2,h3⟩
       ·simp at h
       ·have jd:e∈o.after:=by simpa using h1
        rcases h3 with rfl | h3
        ·exact .edge ho jd h2
        ·exact .trans ho jd h2 (kr _ _ h3)
      ·rw[List.getElem?_eq_none (by simp;omega)]at h
       simp at h
theorem I5:∀ (l:List Oper) (k:Nat),Kf l k=true→∀ i o,l[i]? =some o→∀ e∈o.after,Region.binds .any e=true→e.on<k+i
  | [],_,_,i,o,h,_,_,_=>by simp at h
  | o::l,k,hk,i,o',h,e,he,hb=>by
    simp only[Kf,Bool.and_eq_true]at hk
    match i,h with
    | 0,h=>
      simp only[List.getElem?_cons_zero,bQ]at h
      subst h
      have:=List.all_eq_true.1 hk.1 e (by simpa using he)
      simpa[hb,Nat.blt_eq]using this
    | i+1,h=>
      have:=I5 l (k+1) hk.2 i o' (by simpa using h) e he hb
      omega
theorem Od (A:List Nat) (arr:Array Oper):∀ (l:List Oper) (prev:List (Nat×Oper)) (k:Nat),Ls A arr prev l k=true→
    ∀ i o,l[i]? =some o→(∀ p∈prev,bit A (k+i) p.1=true∨p.2.apart arr o=true)∧∀ j o',j<i→l[j]? =some o'→bit A (k+i) (k+j)=true∨o'.apart arr o=true
  | [],_,_,_,i,o,h=>by simp at h
  | o::l,prev,k,hk,i,o',h=>by
    simp only[Ls,Bool.and_eq_true]at hk
    match i,h with
    | 0,h=>
      simp only[List.getElem?_cons_zero,bQ]at h
      subst h
      refine⟨fun p hp=>?_,fun j _ hj=>by omega⟩
      have:=List.all_eq_true.1 hk.1 p hp
      simpa using this
    | i+1,h=>
      have ih:=Od A arr l ((k,o)::prev) (k+1) hk.2 i o' (by simpa using h)
      rw[show k+(i+1)=k+1+i by omega]
      refine⟨fun p hp=>ih.1 p (List.mem_cons_of_mem _ hp),fun j o2 hj h2=>?_⟩
      match j,h2 with
      | 0,h2=>
        simp only[List.getElem?_cons_zero,bQ]at h2
        subst h2
        exact ih.1 (k,o) (List.mem_cons_self ..)
      | j+1,h2=>
        have:=ih.2 j o2 (by omega) (by simpa using h2)
        rwa [show k+(j+1)=k+1+j by omega]
theorem Yb {ops:List Oper} (he:Kf ops 0=true):∀ {i j:Nat},Anc ops i j→j<i:=by
  intro i j h
  induction h with
  | edge ho hm hb=>have:=I5 ops 0 he _ _ ho _ hm hb;omega
  | trans ho hm hb _ ih=>have:=I5 ops 0 he _ _ ho _ hm hb;omega
theorem Tp {ops:List Oper} {L:Nat→Prop} (hc:∀ k o,ops[k]? =some o→L k→∀ e∈o.after,Region.binds .any e=true→L e.on):∀ {i j:Nat},Anc ops i j→(∀ o,ops[i]? =some o→∀ e∈o.after,Region.binds .any e=true→L e.on)→L j:=by
  intro i j h
  induction h with
  | edge ho hm hb=>exact fun hi=>hi _ ho _ hm hb
  | trans ho hm hb _ ih=>exact fun hi=>ih fun o' dc=>hc _ o' dc (hi _ ho _ hm hb)
variable {W0:World} {A0:Nat→Prop} {ds:List Deferred} {n:Nat} {outs:List (Array Value)} {outer:List Fr} {ops:List Oper} {K:Log→Fr→List Ap→Prop} {Q:Exit→Act→World→Prop}
theorem Vh (hK:∀ log log' fr fr' H,(∀ t,get fr' t=get fr t)→(∀ p,p∈log↔p∈log')→K log fr H→K log' fr' H) (qs:∀ log fr H,K log fr H→Jb (masks ops []) log=true)
    (hQ:∀ log fr H a w,K log fr H→C7 W0 A0 ds n outs outer fr H a w→Q .normal a w) (hd:∀ (i:Nat) o,ops[i]? =some o→dOK o.op) (hn:∀ (i:Nat) o,ops[i]? =some o→∀ k,o.dst=some k→k<n)
    (he:Kf ops 0=true) (hp:Ls (masks ops []) ops.toArray [] ops 0=true):∀ (fuel:Nat) (L:List Tag) (listed:Array Bool) (log:Log) (fr:Fr) (H:List Ap) (a:Act) (w:World),
    L.length=fuel→listed.size=ops.length→(∀ t∈L,ops[t.i]? =some t.o∧listed.getD t.i true=false)→(∀ i,i<ops.length→listed.getD i true=false→∃ t∈L,t.i=i)→L.Pairwise (fun s t=>s.i<t.i)→
    (∀ k o,ops[k]? =some o→listed.getD k false=true→∀ e∈o.after,Region.binds .any e=true→listed.getD e.on false=true)→Ids L H→C7 W0 A0 ds n outs outer fr H a w→dlt P ops K L log fr H→
    wpAnyIn (fence md) 5 P .any ops.toArray Q fuel listed a w:=by
  have p4:∀ {listed:Array Bool} {i:Nat},listed.size=ops.length→i<ops.length→listed.getD i true=listed.getD i false:=by
    intro listed i h1 h2
    simp[Array.getD,h1,h2]
  have anc0:∀ i j,bit (masks ops []) i j=true→Anc ops i j:=Oj ops ops [] (fun k=>by simp) (fun i j h=>by simp at h)
  intro fuel
  induction fuel with
  | zero=>
    intro L listed log fr H a w hl hs hL hc _ _ _ R h
    have:L=[]:=List.length_eq_zero_iff.1 hl
    subst this
    refine wpAnyIn_done ?_ (hQ _ _ _ _ _ h R) 0
    rw[List.eq_nil_iff_forall_not_mem]
    intro j hj
    obtain⟨h1,o,ho,_⟩:=mem_ready.1 hj
    have ab:j<ops.length:=by have:=(Array.getElem?_eq_some_iff.1 ho).1;simpa using this
    obtain⟨t,ht,_⟩:=hc j ab h1
    cases ht
  | succ fuel ih=>
    intro L listed log fr H a w hl hs hL hc dq c7 hI R h
    refine⟨fun hr=>?_,fun i hi=>?_⟩
    ·exfalso
     match L,hl,hL,hc,dq with
     | t::L,_,hL,hc,dq=>
       obtain⟨h1,h2⟩:=hL t (List.mem_cons_self ..)
       have ab:t.i<ops.length:=(bW.1 h1).1
       have:t.i∈Region.ready .any ops.toArray listed:=by
         refine mem_ready.2 ⟨h2,t.o,by simpa using h1,fun e hm hb=>?_⟩
         have yu:=I5 ops 0 he _ _ h1 e hm hb
         cases hf:listed.getD e.on false with
         | true=>rfl
         | false=>
           obtain⟨s,dm,kf⟩:=hc e.on (by omega) (by rw[p4 hs (by omega)];exact hf)
           rcases List.mem_cons.1 dm with rfl | dm
           ·omega
           ·have:=(List.pairwise_cons.1 dq).1 s dm;omega
       rw[hr]at this
       cases this
    ·obtain⟨h1,o,ho,h3⟩:=mem_ready.1 hi
     have dc:ops[i]? =some o:=by simpa using ho
     have ab:i<ops.length:=(bW.1 dc).1
     obtain⟨t,ht,rfl⟩:=hc i ab h1
     obtain⟨L1,L2,rfl⟩:=List.append_of_mem ht
     have wa:t.o=o:=by have:=(hL t ht).1;rw[dc,bQ]at this;exact this.symm
     subst wa
     have hA:∀ s∈L1,X2 (masks ops []) ops s t:=by
       intro s dm
       have sq:s.i<t.i:=(List.pairwise_append.1 dq).2.2 s dm t (List.mem_cons_self ..)
       obtain⟨g1,g2⟩:=hL s (List.mem_append_left _ dm)
       have b2:bit (masks ops []) t.i s.i=false:=by
         cases hb:bit (masks ops []) t.i s.i with
         | false=>rfl
         | true=>
           have:=Tp (L:=fun k=>listed.getD k false=true) c7 (anc0 _ _ hb) (fun o2 u5=>by rw[dc,bQ]at u5;subst u5;exact h3)
           rw[p4 hs (by omega)]at g2
           rw[g2]at this;cases this
       have b1:bit (masks ops []) s.i t.i=false:=by
         cases hb:bit (masks ops []) s.i t.i with
         | false=>rfl
         | true=>have:=Yb he (anc0 _ _ hb);omega
       refine⟨?_,b1,b2,by omega⟩
       have:=(Od _ _ ops [] 0 hp t.i t.o dc).2 s.i s.o sq g1
       rw[Nat.zero_add,Nat.zero_add,b2]at this
       simpa using this
     have lk:∀ s∈L1++t::L2,dOK s.o.op:=fun s dm=>hd _ _ (hL s dm).1
     have gy:∀ s∈L1++t::L2,∀ k,s.o.dst=some k→k<n:=fun s dm=>hn _ _ (hL s dm).1
     have ij:=hoist hK qs L1 t L2 log fr H a w lk gy hI R hA h
     have aj:=Kg (gy t (by simp)) (hI.free (by simp)) R ij
     have r7:dstep P ops t.o t.i t.id (fun en v ef=>Qh t.i t.id t.o H en ef∧dafter (dlt P ops K (L1++L2)) log fr t.o.dst H en v ef) fr H:=by
       obtain⟨en,v,ef,⟨k1,k2,k3⟩,_⟩:=Kh (lk t (by simp)) (gy t (by simp)) hI R ij
       exact k3 fr H rfl (fun _ _=>rfl) (fun _ _ _ _=>rfl) _ ⟨k2,k1⟩
     have nd:∀ c,t.o.op≠.defer c:=fun c hc=>by
       have vi:=lk t (by simp)
       rw[hc]at vi
       rcases vi with h | h<;>simp[Gx,drawable]at h
     refine Ll.wpOp dc (Kg (gy t (by simp)) (hI.free (by simp)) R r7) (fun a' w' hg=>?_) nd
     obtain⟨en,v,ef,⟨k2,k1⟩,R'⟩:=hg.ex
     have ar:∀ s∈L1++L2,s.i≠t.i:=by
       intro s dm
       have hq:=List.pairwise_append.1 dq
       rcases bU.1 dm with dm | dm
       ·have:=hq.2.2 s dm t (List.mem_cons_self ..);omega
       ·have:=(List.pairwise_cons.1 hq.2.1).1 s dm;omega
     have ew:∀ x∈L1++L2,x∈L1++t::L2:=by
       intro x hx
       rcases bU.1 hx with hx | hx
       ·exact List.mem_append_left _ hx
       ·exact List.mem_append_right _ (List.mem_cons_of_mem _ hx)
     refine ih (L1++L2) _ _ _ _ a' w' (by simp at hl ⊢;omega) (by simpa using hs) (fun s dm=>?_) (fun j hj hu=>?_) ?_ (fun k o2 hk db e hm hb=>?_) (hI.step k2) R' k1
     ·refine⟨(hL s (ew s dm)).1,?_⟩
      rw[getD_set_ne _ (fun e=>ar s dm e.symm)]
      exact(hL s (ew s dm)).2
     ·by_cases e:j=t.i
      ·subst e
       simp[Array.getD,hs,ab]at hu
      ·rw[getD_set_ne _ (fun e'=>e e'.symm)]at hu
       obtain⟨s,dm,kf⟩:=hc j hj hu
       refine⟨s,?_,kf⟩
       rcases bU.1 dm with dm | dm
       ·exact List.mem_append_left _ dm
       ·rcases List.mem_cons.1 dm with rfl | dm
        ·exact absurd kf.symm e
        ·exact List.mem_append_right _ dm
     ·have hq:=List.pairwise_append.1 dq
      rw[List.pairwise_append]
      exact⟨hq.1,(List.pairwise_cons.1 hq.2.1).2,fun a ha b hb=>hq.2.2 a ha b (List.mem_cons_of_mem _ hb)⟩
     ·by_cases e1:k=t.i
      ·subst e1
       rw[dc,bQ]at hk
       subst hk
       exact getD_set_true (h3 e hm hb)
      ·rw[getD_set_ne _ (fun e'=>e1 e'.symm)]at db
       exact getD_set_true (c7 k o2 hk db e hm hb)
theorem Rn {A:List Nat} {log log':Log} (h:∀ p,p∈log↔p∈log') (hk:Jb A log=true):Jb A log'=true:=by
  unfold Jb at *
  exact List.all_eq_true.2 fun p hp=>List.all_eq_true.2 fun q hq=>List.all_eq_true.1 (List.all_eq_true.1 hk p ((h p).2 hp)) q ((h q).2 hq)
theorem Sf (all:List Oper) (top:Nat) (K:Log→Fr→List Ap→Prop):∀ (l:List Oper) (i id:Nat),dlist P all top K l i id=dlt P all K (tags top l i id)
  | [],_,_=>by funext log fr H;rfl
  | o::l,i,id=>by
    funext log fr H
    rw[dlist,Sf all top K l,tags,dlt]
theorem Q6 (top:Nat):∀ (l:List Oper) (i id:Nat),(tags top l i id).length=l.length
  | [],_,_=>rfl
  | o::l,i,id=>by rw[tags,List.length_cons,Q6 top l,List.length_cons]
theorem N6 (top:Nat):∀ (l:List Oper) (i id:Nat) (t:Tag),t∈tags top l i id→∃ k,t.i=i+k∧l[k]? =some t.o
  | [],_,_,t,h=>by cases h
  | o::l,i,id,t,h=>by
    rw[tags]at h
    rcases List.mem_cons.1 h with rfl | h
    ·exact⟨0,rfl,rfl⟩
    ·obtain⟨k,h1,h2⟩:=N6 top l _ _ t h
     exact⟨k+1,by omega,by simpa using h2⟩
theorem Q7 (top:Nat):∀ (l:List Oper) (i id k:Nat),k<l.length→∃ t∈tags top l i id,t.i=i+k
  | [],_,_,k,h=>by simp at h
  | o::l,i,id,0,_=>⟨_,List.mem_cons_self ..,rfl⟩
  | o::l,i,id,k+1,h=>by
    obtain⟨t,h1,h2⟩:=Q7 top l (i+1) (if C9 o.op then id+1 else id) k (by simpa using h)
    exact⟨t,List.mem_cons_of_mem _ h1,by omega⟩
theorem M9 (top:Nat):∀ (l:List Oper) (i id:Nat),(tags top l i id).Pairwise (fun s t=>s.i<t.i)
  | [],_,_=>.nil
  | o::l,i,id=>by
    rw[tags,List.pairwise_cons]
    refine⟨fun t ht=>?_,M9 top l _ _⟩
    obtain⟨k,h1,_⟩:=N6 top l _ _ t ht
    show i<t.i
    omega
theorem T5 (top:Nat):∀ (l:List Oper) (i id:Nat) (t:Tag),t∈tags top l i id→C9 t.o.op=true→id≤t.id
  | [],_,_,t,h,_=>by cases h
  | o::l,i,id,t,h,hn=>by
    rw[tags]at h
    rcases List.mem_cons.1 h with rfl | h
    ·simp only at hn ⊢
     rw[if_pos hn];exact Nat.le_refl _
    ·have:=T5 top l _ _ t h hn
     split at this<;>omega
theorem N7 (top:Nat):∀ (l:List Oper) (i:Nat) (H:List Ap),top=(H++resvs l).length→Ids (tags top l i H.length) (H++resvs l)
  | [],i,H,_=>⟨fun t h=>(by cases h),fun t h=>(by cases h),.nil⟩
  | o::l,i,H,ht=>by
    rw[tags]
    cases hn:C9 o.op with
    | true=>
      have e1:H++resvs (o::l)=(H++[.resv])++resvs l:=by simp[resvs,hn]
      rw[e1]at ht ⊢
      have ih:=N7 top l (i+1) (H++[.resv]) ht
      rw[bR,List.length_singleton]at ih
      simp only[if_true]
      refine⟨fun t hm cr=>?_,fun t hm cr=>?_,?_⟩
      ·rcases List.mem_cons.1 hm with rfl | hm
       ·simp
       ·exact ih.new t hm cr
      ·rcases List.mem_cons.1 hm with rfl | hm
       ·rw[hn]at cr;cases cr
       ·exact ih.old t hm cr
      ·rw[List.pairwise_cons]
       refine⟨fun t hm _ cr=>?_,ih.dst⟩
       have:=T5 top l _ _ t hm cr
       simp only
       omega
    | false=>
      have e1:H++resvs (o::l)=H++resvs l:=by simp[resvs,hn]
      rw[e1]at ht ⊢
      have ih:=N7 top l (i+1) H ht
      simp only[Bool.false_eq_true,if_false]
      refine⟨fun t hm cr=>?_,fun t hm cr=>?_,?_⟩
      ·rcases List.mem_cons.1 hm with rfl | hm
       ·rw[hn]at cr;cases cr
       ·exact ih.new t hm cr
      ·rcases List.mem_cons.1 hm with rfl | hm
       ·exact ht
       ·exact ih.old t hm cr
      ·rw[List.pairwise_cons]
       refine⟨fun t hm cr=>?_,ih.dst⟩
       rw[hn]at cr;cases cr
theorem C7.resv {fr:Fr} {H:List Ap} {a:Act} {w:World} (R:C7 W0 A0 ds n outs outer fr H a w):C7 W0 A0 ds n outs outer fr (H++[.resv]) a w:=by
  obtain⟨C,rfl,h2,I,h4,h5,h6⟩:=R.ex
  obtain⟨I',m⟩:=I.ghost C.H.length (.inl rfl) .resv fun _=>I.V5 (.inl rfl)
  have e:(C.ghost C.H.length .resv).H=C.H++[.resv]:=by simp[Ctx.ghost,Dy]
  exact⟨_,e,h2,I',h4.mono m,h5.mono m,h6⟩
theorem C7.resvs {fr:Fr} {a:Act} {w:World}:∀ (l:List Oper) {H:List Ap},C7 W0 A0 ds n outs outer fr H a w→C7 W0 A0 ds n outs outer fr (H++Go.Ab.resvs l) a w
  | [],H,R=>by simpa[Go.Ab.resvs]using R
  | o::l,H,R=>by
    unfold Go.Ab.resvs
    split
    ·rw[show H++Ap.resv::Go.Ab.resvs l=(H++[.resv])++Go.Ab.resvs l by simp]
     exact C7.resvs l R.resv
    ·exact C7.resvs l R
theorem C7.drawn {fr:Fr} {H:List Ap} {a:Act} {w:World} (R:C7 W0 A0 ds n outs outer fr H a w) (d:Nat):C7 W0 A0 ds n outs outer fr H a {w with drawn:=d}:=by
  obtain⟨C,h1,h2,I,h4,h5,h6⟩:=R.ex
  obtain⟨I',m⟩:=I.same (w':={w with drawn:=d}) rfl ⟨I.below.os,I.below.tape,I.below.output,I.below.size,I.below.block⟩
  exact⟨C,h1,h2,I',h4.mono m,h5.mono m,h6⟩
theorem AWP.draw {id:Nat} {Q:Exit→Fr→List Ap→Prop} {fr:Fr} {H:List Ap} (hm:P.follows .mixedOrders=true) (fg:Wr n ops=true)
    (h:∀ K:Log→Fr→List Ap→Prop,(∀ log fr H,Jb (masks ops []) log=true→Q .normal fr H→K log fr H)→dlist P ops (H++resvs ops).length K ops 0 H.length [] fr (H++resvs ops)) :
    AWP md P n (.region id ops.toArray true) Q outer fr H:=by
  intro W0 A0 ds outs a w R
  simp only[Wr,Bool.and_eq_true]at fg
  obtain⟨⟨⟨h1,h2⟩,h3⟩,h4⟩:=fg
  refine wpIn_region_any hm ?_
  have hK:=h (fun log fr H=>Jb (masks ops []) log=true∧∃ fr2,(∀ t,get fr2 t=get fr t)∧Q .normal fr2 H) fun log fr H g1 g2=>⟨g1,fr,fun _=>rfl,g2⟩
  rw[Sf]at hK
  have p6:∀ (i:Nat) o,ops[i]? =some o→o∈ops:=fun i o ho=>bO ho
  have a1:∀ (log log':Log) (fr fr':Fr) (H:List Ap),(∀ t,get fr' t=get fr t)→(∀ p,p∈log↔p∈log')→(Jb (masks ops []) log=true∧∃ fr2,(∀ t,get fr2 t=get fr t)∧Q .normal fr2 H)→
   (Jb (masks ops []) log'=true∧∃ fr2,(∀ t,get fr2 t=get fr' t)∧Q .normal fr2 H):=by
    intro log log' fr fr' H hf hl ⟨g0,fr2,g1,g2⟩
    exact⟨Rn hl g0,fr2,fun t=>by rw[g1,hf],g2⟩
  have a2:∀ (log:Log) (fr:Fr) (H:List Ap) (a:Act) (w:World),(Jb (masks ops []) log=true∧∃ fr2,(∀ t,get fr2 t=get fr t)∧Q .normal fr2 H)→C7 W0 A0 ds n outs outer fr H a w→
   ∃ fr' H',Q .normal fr' H'∧C7 W0 A0 ds n outs outer fr' H' a w:=by
    intro log fr H a w ⟨_,fr2,g1,g2⟩ R
    exact⟨fr2,H,g2,R.congr g1⟩
  have a3:∀ (i:Nat) o,ops[i]? =some o→dOK o.op:=by
    intro i o ho
    have:=List.all_eq_true.1 h2 o (p6 i o ho)
    simpa[dOK]using this
  have a4:∀ (i:Nat) o,ops[i]? =some o→∀ k,o.dst=some k→k<n:=by
    intro i o ho k hk
    have:=List.all_eq_true.1 h1 o (p6 i o ho)
    rw[hk]at this
    simpa using this
  have a5:∀ t∈tags (H++resvs ops).length ops 0 H.length,ops[t.i]? =some t.o∧(Array.replicate ops.toArray.size false).getD t.i true=false:=by
    intro t ht
    obtain⟨k,g1,g2⟩:=N6 _ ops 0 _ t ht
    rw[Nat.zero_add]at g1
    have ab:k<ops.length:=(bW.1 g2).1
    exact⟨by rw[g1];exact g2,by rw[g1];simp[Array.getD,ab]⟩
  have a6:∀ i,i<ops.length→(Array.replicate ops.toArray.size false).getD i true=false→∃ t∈tags (H++resvs ops).length ops 0 H.length,t.i=i:=by
    intro i hi _
    obtain⟨t,g1,g2⟩:=Q7 (H++resvs ops).length ops 0 H.length i hi
    exact⟨t,g1,by omega⟩
  have a7:∀ k o,ops[k]? =some o→(Array.replicate ops.toArray.size false).getD k false=true→∀ e∈o.after,Region.binds .any e=true→(Array.replicate ops.toArray.size false).getD e.on false=true:=by
    intro k o _ hl
    exfalso
    simp[Array.getD]at hl
  exact Vh (W0:=W0) (A0:=A0) (n:=n) (outs:=outs) (outer:=outer) a1 (fun log fr H hk=>hk.1) a2 a3 a4 h3 h4
    ops.length (tags _ ops 0 H.length) _ [] fr (H++resvs ops) a _ (Q6 ..) (by simp) a5 a6 (M9 ..) a7 (N7 _ ops 0 H rfl) ((R.drawn _).resvs ops) hK
end
end Go.Ab
namespace Go.Ab
open Go Go.RowKit
theorem S8 (K:Ac→Eff→Prop) (v:Ac):D2 K v=K v .none:=rfl
theorem Pq (fr:Fr) (dst:Option Tmp) (next:Fr→List Ap→Prop) (v:Ac) (H:List Ap):M5 fr dst next v H=next (put fr dst v) H:=rfl
theorem Pp (fr:Fr) (dst:Option Tmp) (next:Fr→List Ap→Prop) (H:List Ap) (v:Ac) (ef:Eff):Gd fr dst next H v ef=next (put fr dst v) (ef.app H):=rfl
theorem Vf (dst:Option Tmp) (next:Fr→List Ap→Prop) (fr:Fr) (H:List Ap):askip dst next fr H=next (put fr dst (.tuple [])) H:=rfl
theorem Wg (K:Ac→Prop) (y:List Ac):Yk K y=K (.eptr y):=rfl
theorem Vz (P:Program) (T:TypeId) (k:Nat) (K:Ac→Prop) (y:List Ac):Yd P T k K y=K (D7 (Et P T) (Bl P T) (y.drop k)):=rfl
theorem Vy (r v sz:Nat) (xs:List (List Ac)) (i k:Nat) (vs:List Ac) (K:Ac→Eff→Prop) (y:List Ac):Yc r v sz xs i k vs K y=K (.tuple []) (.set r (.row v sz (xs.set i (splice y k vs)))):=rfl
theorem Uv (ok:Bool) (K:Ac→Prop) (v:Ac) (b:Bool):Ub ok K v b=K (if ok then .tuple [v,.bool b]else v):=rfl
theorem Vg (P:Program) (outer:List Fr) (op:Op) (dst:Option Tmp) (next:Fr→List Ap→Prop) (fr:Fr) (H:List Ap):aoper P outer op dst next fr H =
  match Gx op with
  | some (f,args)=>Bg P (ev fr f) (args.map (ev fr)) (fr::outer) H (M5 fr dst next)
  | none=>match W5 P op (ev fr)with
    | some xs=>∀ b:Bool,(xs≠[]→b=false)→Gd fr dst next H (.bool b) .none
    | none=>astep P op (ev fr) H H.length (Gd fr dst next H):=rfl
theorem U4 (P:Program) (all:List Oper) (top:Nat) (K:Log→Fr→List Ap→Prop) (i id:Nat) (log:Log) (fr:Fr) (H:List Ap):dlist P all top K [] i id log fr H=K log fr H:=rfl
theorem Sd (P:Program) (all:List Oper) (top:Nat) (K:Log→Fr→List Ap→Prop) (dst:Option Tmp) (op:Op) (type:TypeId) (pos:String) (after:Array Edge) (rest:List Oper) (i id:Nat) (log:Log) (fr:Fr) (H:List Ap) :
    dlist P all top K ({dst,op,type,pos,after,guard:=none}::rest) i id log fr H =
      drun P op i (if C9 op then id else top) (dafter (dlist P all top K rest (i+1) (if C9 op then id+1 else id)) log fr dst H) fr H:=rfl
theorem Se (P:Program) (all:List Oper) (top:Nat) (K:Log→Fr→List Ap→Prop) (dst:Option Tmp) (op:Op) (type:TypeId) (pos:String) (after:Array Edge) (j:Nat) (want:Bool) (rest:List Oper) (i id:Nat) (log:Log) (fr:Fr) (H:List Ap) :
    dlist P all top K ({dst,op,type,pos,after,guard:=some (j,want)}::rest) i id log fr H =
      Me ((all[j]?).bind (·.dst)) want (drun P op i (if C9 op then id else top) (dafter (dlist P all top K rest (i+1) (if C9 op then id+1 else id)) log fr dst H))
       (dskip (dafter (dlist P all top K rest (i+1) (if C9 op then id+1 else id)) log fr dst H)) fr H:=by
  simp only[dlist,dstep,Me]
  cases(all[j]?).bind (·.dst)<;>rfl
theorem Wq (P:Program) (op:Op) (i id:Nat) (K:DK) (fr:Fr) (H:List Ap):drun P op i id K fr H=dop P op (ev fr) H id (K (ents i id op (ev fr))):=rfl
theorem U2 (K:DK) (fr:Fr) (H:List Ap):dskip K fr H=K [] (.tuple []) .none:=rfl
theorem Tk (next:Log→Fr→List Ap→Prop) (log:Log) (fr:Fr) (dst:Option Tmp) (H:List Ap) (en:Log) (v:Ac) (ef:Eff):dafter next log fr dst H en v ef=next (en++log) (put fr dst v) (ef.app H):=rfl
theorem Xs (P:Program) (op:Op) (e:Operand→Ac) (H:List Ap) (id:Nat) (K:Ac→Eff→Prop):dop P op e H id K =
  match Gx op with
  | some (f,args)=>B9 P (e f) (args.map e) H id K
  | none=>astep P op e H id K:=rfl
attribute [go_sem] U4 Sd Se Wq U2 Tk Xs ents P2 touch rid Xd Xe K4 C9 Tb resvs
attribute [go_sem] S8 Pq Pp Vf Wg Vz Vy Uv Vg Vk Sq Sr Me Tq Tt Tr Ts Po
theorem Xn (k:Nat) (v:Ac) (r:Fr):get ((k,v)::r) k=v:=if_pos rfl
theorem Wh {k t:Nat} (h:k≠t) (v:Ac) (r:Fr):get ((k,v)::r) t=get r t:=if_neg h
attribute [go_sem] Xn Wh
attribute [go_sem] List.append_eq
attribute [go_sem] Gx W5 astep Eo Dl Tw Tx ev put aconst Kj acells Ac.one Ac.g0 Ac.g1 Ac.g2 Ac.f0 Ac.f1 Ac.f2 O5 T9 Mf Sx Cw aUn Np D7 J6 J3 T0 Vq Eu D8 Kw Lk Fh reps chunk Lj Q2 Ev Gy Ge H7 splice Eff.app Dy O6 G2 Hl P1 Vv Q5 Dm H6 Q1 Uj Q3 acond qthen qblock qret rfrz aresult aret Ez L5 Hg Tj Ib vle N3 G0 Pc Q8 Ac.J0 Ac.Ji Ac.I7 Ac.Gc Hk M4 Qy
end Go.Ab
namespace Go.Ab
open Go Go.RowKit
section
variable {P:Program} {md:Option Nat} {n:Nat} {Q:Exit→Fr→List Ap→Prop} {outer:List Fr} {fr:Fr} {H:List Ap}
theorem B9.snap {f:FuncId} {args args':List Ac} {r:Ac} {id:Nat} {K:Ac→Eff→Prop} (hc:∀ (args:Array Value) (w:World),(callFunc f args).run P w= .ok (.enter f args) w)
    (spec:Aq P f args' (·=r)) (ha:Ez (Hg H) args=some args') (j1:r.f2=true) (h:K r .none):B9 P (.func f []) args H id K:=
  ⟨f,[],args',r,.none,rfl,hc,.inl ⟨rfl,.inl ⟨rfl,.inl ⟨spec,ha,j1⟩⟩⟩,h⟩
theorem B9.eff {f:FuncId} {args:List Ac} {r:Ac} {id:Nat} {H:List Ap} {K:Ac→Eff→Prop} (r0:Nat) (o':Ap) (hc:∀ (args:Array Value) (w:World),(callFunc f args).run P w= .ok (.enter f args) w)
    (wv:(K4 args).contains r0=true) (hx:∃ x,H[r0]? =some x∧x≠.resv) (fx:∀ (st:List Fr) (H':List Ap),H'.length=H.length→(∀ q∈K4 args,H'[q]? =H[q]?)→Bg P (.func f []) args st H' fun r' H''=>r'=r∧H''=H'.set r0 o')
    (h:K r (.set r0 o')):B9 P (.func f []) args H id K:=
  ⟨f,[],[],r,.set r0 o',rfl,hc,.inl ⟨rfl,.inr (.inr ⟨r0,o',rfl,by simpa using wv,hx,fx⟩)⟩,h⟩
theorem B9.V2 {f:FuncId} {args caps:List Ac} {r:Ac} {id:Nat} {K:Ac→Eff→Prop} (hc:∀ (args:Array Value) (w:World),(callFunc f args).run P w= .ok (.enter f args) w)
    (spec:Aq P f (args++caps) (·=r)) (hg:(args++caps).all Ac.g2=true) (h:K r .none):B9 P (.func f caps) args H id K:=
  ⟨f,caps,[],r,.none,rfl,hc,.inr ⟨rfl,spec,hg⟩,h⟩
theorem B9.pure {f:FuncId} {args:List Ac} {r:Ac} {id:Nat} {K:Ac→Eff→Prop} (hc:∀ (args:Array Value) (w:World),(callFunc f args).run P w= .ok (.enter f args) w)
    (spec:Aq P f args (·=r)) (hg:args.all Ac.g2=true) (h:K r .none):B9 P (.func f []) args H id K:=
  ⟨f,[],args,r,.none,rfl,hc,.inl ⟨rfl,.inl ⟨rfl,.inr (.inl ⟨spec,hg,rfl⟩)⟩⟩,h⟩
theorem B9.row {f:FuncId} {args:List Ac} {id sz:Nat} {xs:List (List Ac)} {K:Ac→Eff→Prop} (hc:∀ (args:Array Value) (w:World),(callFunc f args).run P w= .ok (.enter f args) w)
    (spec:F3 P f args sz xs) (hg:args.all Ac.g2=true) (h:K (.own id 0 0 xs.length) (.new id (.row 0 sz xs))):B9 P (.func f []) args H id K:=
  ⟨f,[],args,_,_,rfl,hc,.inl ⟨rfl,.inr (.inl ⟨sz,xs,spec,rfl,rfl,.inl ⟨hg,rfl⟩⟩)⟩,h⟩
theorem Bg.row {f:FuncId} {args:List Ac} {st:List Fr} {sz:Nat} {xs:List (List Ac)} {K:Ac→List Ap→Prop} (hc:∀ (args:Array Value) (w:World),(callFunc f args).run P w= .ok (.enter f args) w)
    (spec:F3 P f args sz xs) (hg:args.all Ac.g2=true) (id:Nat) (aq:H.length=id) (h:K (.own id 0 0 xs.length) (H++[.row 0 sz xs])):Bg P (.func f []) args st H K:=
  Bg.rowAt hc spec (.inl ⟨hg,rfl⟩) id (.inl aq.symm) (by unfold Dy;rw[if_pos aq.symm];exact h)
theorem Aa {K:Fr→List Ap→Prop} (h:K fr H):qthen K Q .normal fr H:=h
theorem Ad {K:Fr→List Ap→Prop} (h:Q .ret fr H):qthen K Q .ret fr H:=h
theorem An {K:Fr→List Ap→Prop} {i:Nat} (h:Q (.exit i) fr H):qthen K Q (.exit i) fr H:=h
theorem Al {id:Nat} (h:Q .normal fr H):qblock id Q .normal fr H:=h
theorem Aj {id:Nat} (h:Q .ret fr H):qblock id Q .ret fr H:=h
theorem A6 {id:Nat} (h:Q .normal fr H):qblock id Q (.exit id) fr H:=by simp only[qblock,if_true];exact h
theorem Lq {id i:Nat} (ar:i≠id) (h:Q (.exit i) fr H):qblock id Q (.exit i) fr H:=by simp only[qblock,if_neg ar];exact h
theorem Ai {t:Bool} {yes no:Prop} (h1:t=true→yes) (h2:t=false→no):acond (.bool t) yes no:=⟨h1,h2⟩
theorem A7 {yes no:Prop} (h1:yes):acond (.bool true) yes no:=⟨fun _=>h1,fun h=>by cases h⟩
theorem Bu {yes no:Prop} (h1:no):acond (.bool false) yes no:=⟨(fun h=>by cases h),fun _=>h1⟩
theorem AWP.Cv {ι:Type} {c:Code} (F:ι→Fr) (HH:ι→List Ap) (J:ι→Prop) (μ:ι→Nat) (x0:ι) (h0:J x0) (qw:Q8 fr (F x0)) (qv:Pc H (HH x0))
    (hb:∀ x,Hk (HH x).length (F x)=true∧Qy (HH x).length (HH x)=true∧outer.all (Hk (HH x).length)=true)
    (round:∀ x,J x→AWP md P n c (qthen (fun fr' H'=>∃ x',J x'∧μ x'< μ x∧Q8 fr' (F x')∧Pc H' (HH x')) Q) outer (F x) (HH x)):AWP md P n (.loop c) Q outer fr H:=by
  refine AWP.loop F HH J μ x0 h0 (Sub.weak qv qw (.inr (hb x0))) fun x hx=>AWP.mono ?_ (round x hx)
  intro e fr' H' h
  cases e with
  | normal=>
    obtain⟨x',h1,h2,h3,h4⟩:=h
    exact⟨x',h1,h2,Sub.weak h4 h3 (.inr (hb x'))⟩
  | _=>exact h
theorem AWP.ghost {c:Code} (k sz:Nat) (hk:get fr k= .nils) (bb:1≤sz) (h:AWP md P n c Q outer ((k,.own H.length 0 0 0)::fr) (H++[.row 0 sz []])):AWP md P n c Q outer fr H:=
  AWP.sub (Sub.ghost k sz hk bb) h
end
theorem Ca.map {α:Type} {f:α→List Ac} {l:List α} {n:Int} {k sz:Nat} {K:List Ac→Prop} (hn:n=(k:Int)) (hk:k<l.length) (h:∀ a,l[k]? =some a→K (f a)):Ca sz (l.map f) n K:=by
  subst hn
  refine⟨by omega,by simpa using hk,fun y hy _=>?_⟩
  simp only[Int.toNat_natCast,List.getElem?_map]at hy
  cases ha:l[k]? with
  | none=>simp[ha]at hy
  | some a=>simp only[ha,Option.map_some,bQ]at hy;subst hy;exact h a ha
theorem Ak {c want:Bool} {Y N:Fr→List Ap→Prop} {fr:Fr} {H:List Ap} (h1:c=want→Y fr H) (h2:c= !want→N fr H):Db (.bool c) want Y N fr H:=
  ⟨h1,fun h=>h2 (by cases c<;>cases want<;>simp_all)⟩
theorem wrap_i64 {x:Int} (h1: -9223372036854775808≤x) (h2:x≤9223372036854775807):IntKind.i64.wrap x=x:=by
  rw[IntKind.wrap_i64];omega
theorem G6 {α:Type} {l:List α} {k:Nat} {a:α} (h:l[k]? =some a):l.take (k+1)=l.take k++[a]:=by
  rw[List.take_add_one,h];rfl
def B5 (n:Int):List Ac:=[.int .i64 n]
theorem natCast_succ (k:Nat):((k+1:Nat):Int)=(k:Int)+1:=rfl
end Go.Ab
namespace Go.Ab
open Go Go.RowKit
abbrev Vr (W:World):Ctx:=Ctx.imm fun b=>b<W.heap.size
def Dz (W:World) (cs:List Value) (zq:List Ac):Prop:=
  cs.length=zq.length∧∀ (i:Nat) v a,cs[i]? =some v→zq[i]? =some a→A4 (Vr W) W v a
structure Dn (P:Program) (t:TypeId) {α:Type} (f:α→List Ac) (Pa:α→Prop):Prop where
  op:∀ {H:Type} {enc:TypeId×Value→H} {w:World} {base:Nat} {spare:Nat→Bool} {held:Bool} {fuel:Nat} {cs:List Value} {x:DataW H×List MemPlace},
   DataW.trod enc P w base spare held fuel t cs=some x→∃ a,Pa a∧Dz w cs (f a)
theorem Dz.one {W:World} {v:Value} {a:Ac} (h:A4 (Vr W) W v a):Dz W [v] [a]:=
  ⟨rfl,fun i v' a' h1 h2=>by
    match i,h1,h2 with
    | 0,h1,h2=>simp at h1 h2;subst h1 h2;exact h⟩
section
variable {P:Program} {t:TypeId}
theorem Dn.int {k:IntKind} (ht:P.underlying t=some (.int k)):Dn P t (fun n:Int=>[.int k n]) (fun n=>(Lit.int k n).wf=true):=by
  constructor
  intro H enc w base spare held fuel cs x h
  obtain⟨n,rfl,_,hw⟩:=DataW.trod_int ht h
  exact⟨n,hw,.one (.int k n)⟩
theorem Dn.bool (ht:P.underlying t=some .bool):Dn P t (fun b:Bool=>[.bool b]) (fun _=>True):=by
  constructor
  intro H enc w base spare held fuel cs x h
  obtain⟨b,rfl,_⟩:=DataW.trod_bool ht h
  exact⟨b,trivial,.one (.bool b)⟩
theorem Dn.string (ht:P.underlying t=some .string):Dn P t (fun s:ByteArray=>[.str s]) (fun s=>s.size≤maxLen):=by
  constructor
  intro H enc w base spare held fuel cs x h
  obtain⟨s,rfl,_,hs⟩:=DataW.trod_string ht h
  exact⟨s,hs,.one (.str s)⟩
theorem Dn.iso {α β:Type} {f:α→List Ac} {Pa:α→Prop} {g:β→List Ac} {Pb:β→Prop} (h:Dn P t f Pa) (φ:α→β) (hf:∀ a,g (φ a)=f a) (hP:∀ a,Pa a→Pb (φ a)):Dn P t g Pb:=by
  constructor
  intro H enc w base spare held fuel cs x hx
  obtain⟨a,h1,h2⟩:=h.op hx
  exact⟨φ a,hP a h1,by rw[hf];exact h2⟩
theorem Rt {α:Type} {n:Nat} {Q:Nat→α→Prop} (h:∀ i,i<n→∃ a,Q i a):∃ l:List α,l.length=n∧∀ (i:Nat) a,l[i]? =some a→Q i a:=by
  induction n with
  | zero=>exact ⟨[],rfl,fun i a h=>by simp at h⟩
  | succ n ih=>
    obtain⟨l,h1,h2⟩:=ih fun i hi=>h i (by omega)
    obtain⟨a,ha⟩:=h n (by omega)
    refine⟨l++[a],by simp[h1],fun i b hb=>?_⟩
    by_cases hi:i<l.length
    ·rw[List.getElem?_append_left hi]at hb;exact h2 i b hb
    ·rw[List.getElem?_append_right (by omega)]at hb
     have:i - l.length=0:=by
       cases h3:i - l.length with
       | zero=>rfl
       | succ k=>rw[h3]at hb;simp at hb
     rw[this]at hb
     simp at hb;subst hb
     have:i=n:=by omega
     subst this;exact ha
theorem Dn.slice {α:Type} {f:α→List Ac} {Pa:α→Prop} {e:TypeId} {sz:Nat} (ht:P.underlying t=some (.slice e)) (hc:P.cellsOf e=sz) (bb:1≤sz) (hl:∀ a,(f a).length=sz)
    (hg:∀ a,∀ c∈f a,Ac.g0 c=true) (h:Dn P e f Pa):Dn P t (fun l:List α=>[.sl sz (l.map f)]) (fun l=>l.length≤9223372036854775807∧∀ a∈l,Pa a):=by
  constructor
  intro H enc w base spare held fuel cs x hx
  rcases DataW.trod_slice ht hx with⟨rfl,_⟩ | ⟨a,len,cap,elems,rest,n,_,rfl,_,hb,bq,hm,hlen,j5,_⟩
  ·exact⟨[],⟨by simp,by simp⟩,.one (.sl0 none 0 sz (by simp))⟩
  ·have pq:len≤9223372036854775807:=by have:=Ff;omega
   have each:∀ i,i<len→∃ y,Pa y∧∃ cs',w.cells? base (a.add (i*sz)) sz=some cs'∧Dz w cs' (f y):=by
     intro i hi
     have:=j5 i hi
     rw[hc]at this
     have ab:i<elems.length:=by omega
     rw[bN ab,Option.bind_eq_some_iff]at this
     obtain⟨cs',h1,h2⟩:=this
     obtain⟨y,ch,dd⟩:=h.op h2
     exact⟨y,ch,cs',h1,dd⟩
   obtain⟨l,xf,fh⟩:=Rt each
   refine⟨l,⟨by omega,fun y hy=>?_⟩,?_⟩
   ·obtain⟨i,hi⟩:=List.getElem?_of_mem hy
    exact(fh i y hi).1
   ·by_cases h0:len=0
    ·have:l=[]:=List.length_eq_zero_iff.1 (by omega)
     subst this;subst h0
     exact .one (.sl0 (some a) cap sz hm)
    ·
     have j6:∀ i y,l[i]? =some y→∃ cs',cs'.length=sz∧Dz w cs' (f y)∧∀ k,k<sz→w.cell? ((a.add (i*sz)).add k)=cs'[k]?:=by
       intro i y hy
       obtain⟨_,cs',h1,h2⟩:=fh i y hy
       obtain⟨_,g1,g2⟩:=World.cells?_some h1
       exact⟨cs',g1,h2,g2⟩
     have bj:0<l.length:=by omega
     obtain⟨_,cs0,g0,_⟩:=fh 0 _ (bN bj)
     have hblk:a.block<w.heap.size:=by
       have:=World.cells?_block g0 (by omega)
       simpa[Addr.add]using this
     have bh:a.spot=none:=by
       obtain⟨cs',g1,_,g3⟩:=j6 0 _ (bN bj)
       have:=g3 0 (by omega)
       rw[bN (by omega)]at this
       have:=World.cell?_spot this
       simpa[Addr.add]using this
     have ek:∀ i k,(a.add (i*sz)).add k=⟨a.block,a.off+(i*sz+k),none⟩:=by
       intro i k
       obtain⟨b,off,sp⟩:=a
       simp only at bh
       subst bh
       unfold Addr.add
       split<;>split<;>simp<;>omega
     have af:∀ i y,l[i]? =some y→∀ k,k<sz→∃ v,w.cell? ⟨a.block,a.off+(i*sz+k),none⟩=some v∧∀ c,(f y)[k]? =some c→A4 (Vr w) w v c:=by
       intro i y hy k hk
       obtain⟨cs',g1,g2,g3⟩:=j6 i y hy
       have g4:=g3 k hk
       rw[ek,bN (by omega)]at g4
       exact⟨_,g4,fun c gb=>g2.2 k _ c (bN (by omega)) gb⟩
     refine .one (.sl a len cap (l.map f) sz (fun j=>(w.cell? ⟨a.block,a.off+j,none⟩).getD undef) bh (by simp[xf]) bq hm hblk bb (fun x hx=>?_) (fun x hx=>?_) (fun j hj=>?_) fun i k x c hx gb=>?_)
     ·obtain⟨y,_,rfl⟩:=List.mem_map.1 hx;exact hl y
     ·obtain⟨y,_,rfl⟩:=List.mem_map.1 hx;exact hg y
     ·rw[bT]at hj
      have hi:j / sz<l.length:=Nat.div_lt_of_lt_mul (by rw[Nat.mul_comm];exact hj)
      obtain⟨v,g1,_⟩:=af (j / sz) _ (bN hi) (j % sz) (Nat.mod_lt _ (by omega))
      have e:j / sz*sz+j % sz=j:=by rw[Nat.mul_comm];exact Nat.div_add_mod j sz
      rw[e]at g1
      rw[g1];rfl
     ·rw[List.getElem?_map]at hx
      cases hy:l[i]? with
      | none=>simp[hy]at hx
      | some y=>
        simp only[hy,Option.map_some,bQ]at hx
        subst hx
        have hk:k<sz:=by have:=(bW.1 gb).1;rw[hl]at this;exact this
        obtain⟨v,g1,g2⟩:=af i y hy k hk
        simp only[g1,Option.getD_some]
        exact g2 c gb
theorem Dz.append {W:World} {cs cs':List Value} {zq as':List Ac} (h:Dz W cs zq) (h':Dz W cs' as'):Dz W (cs++cs') (zq++as'):=by
  refine⟨by simp[h.1,h'.1],fun i v a h1 h2=>?_⟩
  by_cases hi:i<cs.length
  ·rw[List.getElem?_append_left hi]at h1
   rw[List.getElem?_append_left (by have:=h.1;omega)]at h2
   exact h.2 i v a h1 h2
  ·rw[List.getElem?_append_right (by omega)]at h1
   rw[List.getElem?_append_right (by have:=h.1;omega),← h.1]at h2
   exact h'.2 _ v a h1 h2
structure I9 (P:Program) (tot off:Nat) (fl:List Field) {α:Type} (f:α→List Ac) (Pa:α→Prop):Prop where
  op:∀ {H:Type} {enc:TypeId×Value→H} {w:World} {base:Nat} {spare:Nat→Bool} {held:Bool} {fuel:Nat} {cs:List Value},cs.length=tot→
   (∀ (i:Nat) (fd:Field),fl[i]? =some fd→∃ x,DataW.trod enc P w base spare held fuel fd.type ((cs.drop fd.offset).take (P.cellsOf fd.type))=some x)→∃ a,Pa a∧Dz w (cs.drop off) (f a)
theorem I9.nil {tot:Nat}:I9 P tot tot [] (fun _:Unit=>[]) (fun _=>True):=by
  constructor
  intro H enc w base spare held fuel cs hl _
  exact⟨(),trivial,by simp[hl],fun i v a h1 h2=>by simp at h2⟩
theorem I9.cons {tot off sz:Nat} {fd:Field} {fl:List Field} {α β:Type} {f:α→List Ac} {Pa:α→Prop} {g:β→List Ac} {Pb:β→Prop} (ho:fd.offset=off) (hs:P.cellsOf fd.type=sz)
    (h:Dn P fd.type f Pa) (h':I9 P tot (off+sz) fl g Pb):I9 P tot off (fd::fl) (fun x:α×β=>f x.1++g x.2) (fun x=>Pa x.1∧Pb x.2):=by
  constructor
  intro H enc w base spare held fuel cs hl hx
  obtain⟨x,b7⟩:=hx 0 fd rfl
  obtain⟨a,uf,ny⟩:=h.op b7
  obtain⟨b,qd,ix⟩:=h'.op hl fun i fd' hi=>hx (i+1) fd' (by simpa using hi)
  refine⟨(a,b),⟨uf,qd⟩,?_⟩
  rw[ho,hs]at ny
  have:=ny.append ix
  rwa [← List.drop_drop,List.take_append_drop]at this
theorem Dn.struct {tot:Nat} {fs:Array Field} {α:Type} {f:α→List Ac} {Pa:α→Prop} (ht:P.underlying t=some (.struct fs)) (hc:P.cellsOf t=tot) (h:I9 P tot 0 fs.toList f Pa):Dn P t f Pa:=by
  constructor
  intro H enc w base spare held fuel cs x hx
  obtain⟨xs,n,rfl,_,hl,k7,hf⟩:=DataW.trod_struct ht hx
  have:=h.op (cs:=cs) (by rw[hl,hc]) fun i fd hi=>by
    have bp:fs[i]? =some fd:=by simpa using hi
    have:=hf i fd bp
    have ab:i<xs.length:=by rw[k7];exact(Array.getElem?_eq_some_iff.1 bp).1
    rw[bN ab]at this
    exact⟨_,this⟩
  simpa using this
structure E1 (P:Program) (t:TypeId) {α:Type} (g:α→Ac) (Pa:α→Prop):Prop where
  op:∀ {H:Type} {enc:TypeId×Value→H} {w:World} {base b0:Nat} {r:Reach} {spare:Nat→Bool} {held:Bool} {v:Value} {d:DataW H} {ps:List MemPlace},
   Value.okWide P w r b0 t v→DataW.Trod enc P w base spare held t v d ps→∃ a,Pa a∧A4 (Vr w) w v (g a)
theorem Dz.head {W:World} {v:Value} {a:Ac} (h:Dz W [v] [a]):A4 (Vr W) W v a:=h.2 0 v a rfl rfl
theorem E1.struct {fs:Array Field} {α:Type} {f:α→List Ac} {Pa:α→Prop} (ht:P.underlying t=some (.struct fs)) (h:Dn P t f Pa):E1 P t (fun a=>.agg (f a)) Pa:=by
  constructor
  intro H enc w base b0 r spare held v d ps c9 ⟨fuel,hf⟩
  obtain⟨cs,rfl,_⟩:=Go.WideShapes.okWide_struct ht c9
  obtain⟨a,h1,h2⟩:=h.op hf
  refine⟨a,h1,.agg cs (f a) (by simpa[Value.cells]using h2.1) fun i u c hu hc=>h2.2 i u c (by simpa[Value.cells]using hu) hc⟩
theorem E1.slice {e:TypeId} {α:Type} {g:α→Ac} {Pa:α→Prop} (ht:P.underlying t=some (.slice e)) (h:Dn P t (fun a=>[g a]) Pa):E1 P t g Pa:=by
  constructor
  intro H enc w base b0 r spare held v d ps c9 ⟨fuel,hf⟩
  obtain⟨a,len,cap,rfl⟩:=Go.WideShapes.okWide_slice ht c9
  obtain⟨a,h1,h2⟩:=h.op hf
  exact⟨a,h1,Dz.head (by simpa[Value.cells]using h2)⟩
theorem E1.int {k:IntKind} (ht:P.underlying t=some (.int k)):E1 P t (fun n:Int=>.int k n) (fun n=>(Lit.int k n).wf=true):=by
  constructor
  intro H enc w base b0 r spare held v d ps c9 hd
  obtain⟨n,rfl,_,_,hw⟩:=Go.ChangeShapes.open_int ht c9 hd
  exact⟨n,hw,.int k n⟩
theorem E1.bool (ht:P.underlying t=some .bool):E1 P t (fun b:Bool=>.bool b) (fun _=>True):=by
  constructor
  intro H enc w base b0 r spare held v d ps c9 hd
  obtain⟨n,rfl,_,_⟩:=open_bool ht c9 hd
  exact⟨n,trivial,.bool n⟩
theorem E1.iso {α β:Type} {f:α→Ac} {Pa:α→Prop} {g:β→Ac} {Pb:β→Prop} (h:E1 P t f Pa) (φ:α→β) (hf:∀ a,g (φ a)=f a) (hP:∀ a,Pa a→Pb (φ a)):E1 P t g Pb:=by
  constructor
  intro H enc w base b0 r spare held v d ps c9 hd
  obtain⟨a,h1,h2⟩:=h.op c9 hd
  exact⟨φ a,hP a h1,by rw[hf];exact h2⟩
structure Ja (P:Program) (ts:List TypeId) {α:Type} (g:α→List Ac) (Pa:α→Prop):Prop where
  op:∀ {H:Type} {enc:TypeId×Value→H} {w:World} {base b0:Nat} {r:Reach} {spare:Nat→Bool} {held:Bool} {vs:List Value} {ds:List (DataW H)} {ps:List MemPlace},
   (∀ (j:Nat) t v,ts[j]? =some t→vs[j]? =some v→Value.okWide P w r b0 t v)→DataW.TrodAll enc P w base spare held ts vs ds ps→∃ a,Pa a∧F6 (Vr w) w vs (g a)
theorem Ja.nil:Ja P [] (fun _:Unit=>[]) (fun _=>True):=by
  constructor
  intro H enc w base b0 r spare held vs ds ps hv hd
  obtain⟨rfl,_,_⟩:=Go.ChangeShapes.trodAll_nil hd
  exact⟨(),trivial,rfl,fun i v a h=>by simp at h⟩
theorem Ja.cons {ts:List TypeId} {α β:Type} {f:α→Ac} {Pa:α→Prop} {g:β→List Ac} {Pb:β→Prop} (h:E1 P t f Pa) (h':Ja P ts g Pb):Ja P (t::ts) (fun x:α×β=>f x.1::g x.2) (fun x=>Pa x.1∧Pb x.2):=by
  constructor
  intro H enc w base b0 r spare held vs ds ps hv hd
  obtain⟨v,vs',d,ds',p,q,rfl,rfl,rfl,h1,h2⟩:=Go.ChangeShapes.trodAll_cons hd
  obtain⟨a,uf,ny⟩:=h.op (hv 0 t v rfl rfl) h1
  obtain⟨b,qd,ix,x9⟩:=h'.op (fun j t v ht gn=>hv (j+1) t v (by simpa using ht) (by simpa using gn)) h2
  refine⟨(a,b),⟨uf,qd⟩,by simp[ix],fun i v' a' g1 g2=>?_⟩
  match i,g1,g2 with
  | 0,g1,g2=>simp at g1 g2;subst g1 g2;exact ny
  | i+1,g1,g2=>exact x9 i v' a' (by simpa using g1) (by simpa using g2)
theorem Ja.iso {ts:List TypeId} {α β:Type} {f:α→List Ac} {Pa:α→Prop} {g:β→List Ac} {Pb:β→Prop} (h:Ja P ts f Pa) (φ:α→β) (hf:∀ a,g (φ a)=f a) (hP:∀ a,Pa a→Pb (φ a)):Ja P ts g Pb:=by
  constructor
  intro H enc w base b0 r spare held vs ds ps c9 hd
  obtain⟨a,h1,h2⟩:=h.op c9 hd
  exact⟨φ a,hP a h1,by rw[hf];exact h2⟩
theorem Pm {f:FuncId} {ts:List TypeId} {α:Type} {g:α→List Ac} {Pa:α→Prop} (spec:∀ a,Pa a→Aq P f (g a) (·= .bool true)) (ho:Ja P ts g Pa)
    {H:Type} {enc:TypeId×Value→H} {W:World} {base b0:Nat} {r:Reach} {spare:Nat→Bool} {held:Bool} {args:Array Value} {ds:List (DataW H)} {ps:List MemPlace}
    (hv:∀ (j:Nat) t v,ts[j]? =some t→args.toList[j]? =some v→Value.okWide P W r b0 t v) (hd:DataW.TrodAll enc P W base spare held ts args.toList ds ps) :
    Calls P f args W fun e W'=>e= .returned (.bool true)∧Below W.heap.size W W':=by
  obtain⟨a,h1,h2⟩:=ho.op hv hd
  refine(spec a h1 (fun b=>b<W.heap.size) W args.toList (fun b h=>h) h2).mono fun e W' ⟨v,r,he,hr,_,hb,ag⟩=>?_
  subst hr he
  cases ag
  exact⟨rfl,hb⟩
theorem M8 {H:Type} {enc:TypeId×Value→H} {w:World} {base:Nat} {spare:Nat→Bool} {held:Bool}:∀ {ts:List TypeId} {vs:List Value} {ds:List (DataW H)} {ps:List MemPlace},
    DataW.TrodAll enc P w base spare held ts vs ds ps→vs.length=ts.length∧ds.length=ts.length
  | [],vs,ds,ps,h=>by obtain⟨rfl,rfl,_⟩:=Go.ChangeShapes.trodAll_nil h;exact⟨rfl,rfl⟩
  | t::ts,vs,ds,ps,h=>by
    obtain⟨v,vs',d,ds',p,q,rfl,rfl,rfl,_,h2⟩:=Go.ChangeShapes.trodAll_cons h
    have:=M8 h2
    simp[this.1,this.2]
theorem Ks {H:Type} {enc:TypeId×Value→H} (hl:laidOutB P=true) {W W':World} (hb:Below W.heap.size W W'):∀ {ts:List TypeId} {vs:List Value} {ds:List (DataW H)} {ps:List MemPlace},
    (ts.all fun t=>P.readableRec t&&decide (t<P.types.size))=true→DataW.TrodAll enc P W 0 (fun _=>true) true ts vs ds ps→DataW.TrodAll enc P W' 0 (fun b=>decide (b<W.heap.size)) true ts vs ds ps
  | [],vs,ds,ps,_,h=>by obtain⟨rfl,rfl,rfl⟩:=Go.ChangeShapes.trodAll_nil h;exact rfl
  | t::ts,vs,ds,ps,ht,h=>by
    obtain⟨v,vs',d,ds',p,q,rfl,rfl,rfl,h1,h2⟩:=Go.ChangeShapes.trodAll_cons h
    simp only[List.all_cons,Bool.and_eq_true,decide_eq_true_eq]at ht
    refine trodAll_cons_mk (Below.trod hl ht.1.1 ht.1.2 h1 hb ?_) (Ks hl hb ht.2 h2)
    obtain⟨m,hm⟩:=h1
    exact DataW.trod_lt m _ _ _ hm
theorem Uw {C:Checked} {os:Os} {f:FuncId} {fn:Func} {s:ChangeSpec} {conds:List PathCond} {H:Type} {enc:TypeId×Value→H} {tb:TypeId}
    (own:ownKnob C.prog.godebug=none) (started:os.Started) (noInit:C.prog.inits.idxOf? f=none) (xx:C.prog.funcs[f]? =some fn)
    (witness:∃ (w:World) (tape:Tape) (i:Input),w.os=os∧(w.forCall tape i).Shaped C.prog∧i.vars=[]∧Input.okWide C.prog (w.forCall tape i) .any w.heap.size f i∧
      s.pre6 enc C.prog fn conds false (w.forCall tape i).memory i.args∧({}:Assume).holds C.prog (lone (Frame.enter C.prog f i.args .normal) [] (w.forCall tape i)))
    (lb:s.vars=[]) (gu:fn.resultTypes=#[tb]) (wb:C.prog.underlying tb=some .bool) (laid:laidOutB C.prog=true)
    (pe:(fn.params.toList.all fun t=>C.prog.readableRec t&&decide (t<C.prog.types.size))=true)
    (hs:∀ ds:List (DataW H),ds.length=fn.params.toList.length→(s.fn H ds).results=[.lit (.bool true)]∧(s.fn H ds).args=ds∧(s.fn H ds).vars=[])
    (calls:∀ (W:World) (b0:Nat) (args:Array Value) (ds:List (DataW H)) (ps:List MemPlace),(∀ (j:Nat) t v,fn.params.toList[j]? =some t→args.toList[j]? =some v→Value.okWide C.prog W .any b0 t v)→
      DataW.TrodAll enc C.prog W 0 (fun _=>true) true fn.params.toList args.toList ds ps→Calls C.prog f args W fun e W'=>e= .returned (.bool true)∧Below W.heap.size W W') :
    ReturnsInHanded {} C os f .any (s.pre6 enc C.prog fn conds false) (s.post enc C.prog fn false true false false):=by
  refine returnsInHanded_of_change own started noInit xx witness ?_
  intro W base args ds gs before c9 hW _ _
  have yd:=hW
  obtain⟨p,q,hA,hV,_⟩:=hW
  rw[lb]at hV
  obtain⟨rfl,rfl⟩:=Go.ChangeShapes.trodVars_none hV
  have hlen:=M8 hA
  obtain⟨h1,h2,h3⟩:=hs ds hlen.2
  refine(calls W base args ds p (fun j t v a b=>c9 j t v (by simpa using a) (by simpa using b)) hA).mono fun e W' ⟨he,bel⟩=>?_
  subst he
  refine⟨_,rfl,ds,[],before,[],p,[],yd,?_,?_,?_,bel.frame _,fun h=>by cases h⟩
  ·rw[List.append_nil,h1,gu]
   exact Go.ChangeShapes.trodAll_mk1 (shut_bool wb true)
  ·rw[List.append_nil,h2]
   exact Ks laid bel pe hA
  ·rw[List.append_nil,h3,lb]
   rfl
end
def fld (t o:Nat):Field:={name:= "",type:=t,offset:=o,embedded:=false,tag:= "",pkgPath:= "",byteOffset:=0}
section
variable {P:Program} {t:TypeId}
theorem Dn.array {tot n sz:Nat} {e:TypeId} {fl:List Field} {α:Type} {f:α→List Ac} {Pa:α→Prop} (ht:P.underlying t=some (.array n e)) (hc:P.cellsOf t=tot) (he:P.cellsOf e=sz)
    (hl:fl=(List.range n).map fun i=>fld e (i*sz)) (h:I9 P tot 0 fl f Pa):Dn P t f Pa:=by
  constructor
  intro H enc w base spare held fuel cs x hx
  obtain⟨xs,m,rfl,_,hlen,k7,hf⟩:=DataW.trod_array ht hx
  have:=h.op (cs:=cs) (by rw[hlen,hc]) fun i fd hi=>by
    rw[hl,List.getElem?_map]at hi
    have p6:i<n:=by
      cases hr:(List.range n)[i]? with
      | none=>rw[hr]at hi;cases hi
      | some j=>have:=(bW.1 hr).1;simpa using this
    rw[List.getElem?_range p6]at hi
    obtain rfl:=bV hi
    have:=hf i p6
    rw[bN (by omega),he]at this
    refine⟨xs[i],?_⟩
    simp only[fld,he]
    exact this
  simpa using this
theorem Qm {w:World} {r:Reach} {base:Nat} {v:Value} {n:Nat} {e:TypeId} (ht:P.underlying t=some (.array n e)) (h:Value.okWide P w r base t v):∃ cs,v= .agg cs:=by
  simp only[Value.okWide,ht]at h
  obtain⟨cs,h1,_⟩:=h
  exact⟨cs,h1⟩
theorem E1.array {n:Nat} {e:TypeId} {α:Type} {f:α→List Ac} {Pa:α→Prop} (ht:P.underlying t=some (.array n e)) (h:Dn P t f Pa):E1 P t (fun a=>.agg (f a)) Pa:=by
  constructor
  intro H enc w base b0 r spare held v d ps c9 ⟨fuel,hf⟩
  obtain⟨cs,rfl⟩:=Qm ht c9
  obtain⟨a,h1,h2⟩:=h.op hf
  refine⟨a,h1,.agg cs (f a) (by simpa[Value.cells]using h2.1) fun i u c hu hc=>h2.2 i u c (by simpa[Value.cells]using hu) hc⟩
end
variable {P:Program} {md:Option Nat}
theorem Pt {md:Option Nat} {n m:Nat} {c:Code} {Q:Exit→Act→World→Prop} {a:Act} {w:World} (h:c.wpIn (fence md) n P Q a w):c.wpIn (fence md) m P Q a w:=
  fun b k cs h1 h2 _=>h b k cs h1 h2 (fun _ h=>by simp[fence,Fence.wide]at h)
theorem N2 {W0:World} {C:Ctx} {w:World} (I:Inv W0 C w) {r D n:Nat} {fr:Fr} {ps:Array Tmp} {asg body:Code} {st:LoopState} {p:Option Code} (hr:C.H[r]? =some (.lp D n fr ps asg body st p)) :
    ∃ rec:Loop,w.heap[D+1]? =some (.loop rec)∧rec.state=st∧rec.pending=p∧rec.params=ps∧rec.assign=asg∧rec.body=body∧rec.tmps.size=n∧Hm C w rec.tmps fr∧
      ∀ st' p',Inv W0 (C.set r (.lp D n fr ps asg body st' p')) (w.putObj (D+1) (.loop {rec with state:=st',pending:=p'}))∧Cx C w (C.set r (.lp D n fr ps asg body st' p')) (w.putObj (D+1) (.loop {rec with state:=st',pending:=p'})):=by
  obtain⟨l,rec,h1,h0,h2,h3,h4,h5,h6,h7,h8,h9,ig,gh,jc⟩:=I.objs r _ hr
  rw[h0]at h2
  refine⟨rec,h2,h6,h7,h3,h4,h5,h9,ig,fun st' p'=>?_⟩
  have hs:=I.sep r l h1
  have ab:D+1<w.heap.size:=by have:=hs.2.2.1;omega
  have ar:∀ b,b≠l.b→(w.putObj (D+1) (.loop {rec with state:=st',pending:=p'})).heap[b]? =w.heap[b]?:=fun b hb=>World.putObj_heap_other (by omega)
  refine I.put hr h1 ar World.putObj_size (Hj I.below (by omega) _) ?_ (fun m=>?_)
  ·unfold Cd
   simp only[Ctx.set,List.getElem?_set_self hs.1]
   exact⟨⟨_,hr,rfl⟩,trivial⟩
  ·exact⟨l,{rec with state:=st',pending:=p'},h1,h0,by rw[h0];exact World.putObj_heap_same ab,h3,h4,h5,rfl,rfl,h8,h9,fun t=>(ig t).mono m,gh,by rw[ar D (by omega)];exact jc⟩
def S9:Fr→List Tmp→List Ac→Fr
  | fr,t::ts,v::vs=>S9 ((t,v)::fr) ts vs
  | fr,_,_=>fr
theorem Oc {C:Ctx} {w:World}:∀ (ps:List Tmp) (vs:List Value) (args:List Ac) (tmps:Array Value) (fr:Fr),Hm C w tmps fr→vs.length=args.length→(∀ t∈ps,t<tmps.size)→
    (∀ (i:Nat) (v:Value) (a:Ac),vs[i]? =some v→args[i]? =some a→A4 C w v a)→
    Hm C w ((ps.zip vs).foldl (fun tmps (t,a)=>tmps.setIfInBounds t a) tmps) (S9 fr ps args)∧((ps.zip vs).foldl (fun tmps (t,a)=>tmps.setIfInBounds t a) tmps).size=tmps.size
  | [],vs,args,tmps,fr,h,_,_,_=>⟨by cases args<;>exact h,rfl⟩
  | t::ps,[],[],tmps,fr,h,_,_,_=>⟨h,rfl⟩
  | t::ps,v::vs,a::args,tmps,fr,h,hl,hp,hv=>by
    have hs:(tmps.setIfInBounds t v).size=tmps.size:=by simp
    have h':Hm C w (tmps.setIfInBounds t v) ((t,a)::fr):=h.put (a:={tmps:=tmps,defers:=[]}) (hv 0 v a rfl rfl) (some t) (fun k hk=>by simp at hk;subst hk;exact hp t (by simp))
    have:=Oc ps vs args (tmps.setIfInBounds t v) ((t,a)::fr) h' (by simpa using hl) (fun t' qj=>by rw[hs];exact hp t' (List.mem_cons_of_mem _ qj)) (fun i v' a' h1 h2=>hv (i+1) v' a' (by simpa using h1) (by simpa using h2))
    exact⟨this.1,this.2.trans hs⟩
  | t::ps,[],a::args,tmps,fr,h,hl,_,_=>by simp at hl
  | t::ps,v::vs,[],tmps,fr,h,hl,_,_=>by simp at hl
def qyB (r D n:Nat) (fr:Fr) (ps:Array Tmp) (asg body:Code) (K:Ac→List Ap→Prop):Exit→Fr→List Ap→Prop
  | .normal,_,H=>∃ p,H[r]? =some (.lp D n fr ps asg body .busy p)∧K (.bool true) (H.set r (.lp D n fr ps asg body .ready none))
  | .ret,_,H=>∃ p,H[r]? =some (.lp D n fr ps asg body .busy p)∧K (.bool false) (H.set r (.lp D n fr ps asg body .done (some .ret)))
  | .exit id,_,H=>∃ p,H[r]? =some (.lp D n fr ps asg body .busy p)∧K (.bool false) (H.set r (.lp D n fr ps asg body .done (some (.exit id))))
  | _,_,_=>False
def qyA (md:Option Nat) (P:Program) (st:List Fr) (r D n:Nat) (fr:Fr) (ps:Array Tmp) (asg body bodyc:Code) (K:Ac→List Ap→Prop):Exit→Fr→List Ap→Prop
  | .normal,fr1,H=>∃ p,H[r]? =some (.lp D n fr ps asg body .ready p)∧AWP md P n bodyc (qyB r D n fr ps asg body K) st fr1 (H.set r (.lp D n fr ps asg body .busy p))
  | _,_,_=>False
theorem Bg.yield {r D n:Nat} {fr:Fr} {ps:Array Tmp} {asg body:Code} {p:Option Code} {args:List Ac} {st:List Fr} {H:List Ap} {K:Ac→List Ap→Prop} (hr:H[r]? =some (.lp D n fr ps asg body .ready p))
    (hlen:args.length=ps.size) (wx:(ps.toList.all fun t=>Nat.blt t n)=true) {asgc bodyc:Code} {pl:List Tmp} (hA:asg=asgc) (hB:body=bodyc) (gx:ps.toList=pl) (h:∀ md,AWP md P n asgc (qyA md P st r D n fr ps asg body bodyc K) st (S9 fr pl args) H):Bg P (.yld r) args st H K:=by
  subst hA hB gx
  intro W0 C w outs fv vs I hH hO hf hl hv
  subst hH
  obtain⟨rec,e1,e2,e3,rfl,rfl,rfl,e7,e8,e9⟩:=N2 I hr
  cases hf with
  | yld b _ hk hh=>
    obtain⟨l,h1,rfl⟩:=hh _ hr rfl
    obtain⟨l',_,jd,qg,_⟩:=I.objs r _ hr
    have hb:l.b=D+1:=by rw[h1]at jd;obtain rfl:=bV jd;exact qg
    rw[hb]
    refine .inr ⟨D+1,rec,rfl,e1,by rw[hl,hlen],roundIn_of_wpIn (F:=Fence.wide) trivial ?_⟩
    have p9:(rec.params.zip vs.toArray).foldl (fun tmps (t,a)=>tmps.setIfInBounds t a) rec.tmps=(rec.params.toList.zip vs).foldl (fun tmps (t,a)=>tmps.setIfInBounds t a) rec.tmps:=by
      rw[← Array.foldl_toList];simp
    rw[p9]
    have hF:=Oc rec.params.toList vs args rec.tmps fr e8 hl (fun t ht=>by
      have:=List.all_eq_true.1 wx t ht
      rw[e7];simpa using this) hv
    refine Pt (md:=some (D+1)) (n:=5) (wpIn_mono (h (some (D+1)) W0 C.A0 [] outs _ w ⟨C,rfl,rfl,I,hF.1,hO,by rw[← e7];exact hF.2,rfl⟩) ?_)
    intro e a1 w1 ⟨fr1,H1,hq,yf⟩
    cases e with
    | normal=>
      obtain⟨p1,wu,qd⟩:=hq
      obtain⟨C1,rfl,yk,I1,yh,fb,u6,tu⟩:=yf.ex
      obtain⟨rec1,f1,f2,f3,f4,f5,f6,f7,f8,f9⟩:=N2 I1 wu
      have t1:=f9 .busy p1
      refine⟨_,run_beginRound f1 f2,?_⟩
      rw[show({rec1 with state:=LoopState.busy}:Loop)={rec1 with state:=.busy,pending:=p1} by rw[← f3]]
      refine Pt (md:=some (D+1)) (n:=5) (wpIn_mono (qd W0 C.A0 [] outs a1 _ ⟨C1.set r (.lp D n fr rec.params rec.assign rec.body .busy p1),rfl,yk,t1.1,yh.mono t1.2,fb.mono t1.2,u6,tu⟩) ?_)
      intro e a2 w2 ⟨fr2,H2,pf,ye⟩
      have fin:∀ (jump:Option Code) (p2:Option Code) (b:Bool) (st2:LoopState),b=jump.isNone→st2=(if jump.isNone then LoopState.ready else .done)→H2[r]? =some (.lp D n fr rec.params rec.assign rec.body .busy p2)→K (.bool b) (H2.set r (.lp D n fr rec.params rec.assign rec.body st2 jump))→
       ∃ v w',(Instr.endRound (D+1) jump).run P w2= .ok v w'∧∃ v' r C',Ending.returned v= .returned v'∧K r C'.H∧C'.A0=C.A0∧A4 C' w' v' r∧Inv W0 C' w'∧Cr C' w' outs st:=by
        intro jump p2 b st2 hb ij ej hk
        subst hb ij
        obtain⟨C2,rfl,yj,I2,zb,gf,ql,qp⟩:=ye.ex
        obtain⟨rec2,g1,g2,g3,g4,g5,g6,g7,g8,g9⟩:=N2 I2 ej
        have t2:=g9 (if jump.isNone then LoopState.ready else .done) jump
        exact⟨_,_,run_endRound jump g1,_,_,C2.set r (.lp D n fr rec.params rec.assign rec.body (if jump.isNone then LoopState.ready else LoopState.done) jump),rfl,hk,yj,.bool _,t2.1,gf.mono t2.2⟩
      cases e with
      | normal=>obtain ⟨p2,ej,hk⟩:=pf;exact fin none p2 true _ rfl rfl ej hk
      | ret=>obtain ⟨p2,ej,hk⟩:=pf;exact fin (some .ret) p2 false _ rfl rfl ej hk
      | exit id=>obtain ⟨p2,ej,hk⟩:=pf;exact fin (some (.exit id)) p2 false _ rfl rfl ej hk
      | _=>exact pf.elim
    | _=>exact hq.elim
def Xm (D:Nat) (H:List Ap):Prop:=∃ (r n:Nat) (fr:Fr) (ps:Array Tmp) (asg body:Code) (st:LoopState) (p:Option Code),H[r]? =some (Ap.lp D n fr ps asg body st p)
def Zo (P:Program) (n:Nat) (c:Code) (Q:Exit→Fr→List Ap→Prop) (fr:Fr) (H:List Ap):Prop:=
  ∀ (W0:World) (A0:Nat→Prop) (a:Act) (w:World),C7 W0 A0 [] n [] [] fr H a w→
    c.wpIn (fence none) 5 P (fun e a' w'=>∃ fr' H',Q e fr' H'∧(C7 W0 A0 [] n [] [] fr' H' a' w'∨∃ D,W0.heap.size≤D∧Xm D H'∧C7 W0 A0 [{target:=.collected D,args:=#[]}] n [] [] fr' H' a' w')) a w
def qmD (D:Nat) (Q:Exit→Fr→List Ap→Prop) (e:Exit) (fr:Fr) (H:List Ap):Prop:=Xm D H∧Q e fr H
theorem qmD.mk {D r n:Nat} {Q:Exit→Fr→List Ap→Prop} {e:Exit} {fr:Fr} {H:List Ap} {fr':Fr} {ps:Array Tmp} {asg body:Code} {st:LoopState} {p:Option Code} (hr:H[r]? =some (.lp D n fr' ps asg body st p)) (h:Q e fr H):qmD D Q e fr H:=⟨⟨r,n,fr',ps,asg,body,st,p,hr⟩,h⟩
def Xb (P:Program) (n:Nat) (c:Code) (N:Option Nat→Fr→List Ap→Prop) (Q:Exit→Fr→List Ap→Prop) (fr:Fr) (H:List Ap):Prop:=
  ∀ (W0:World) (A0:Nat→Prop) (a:Act) (w:World),C7 W0 A0 [] n [] [] fr H a w→
    c.wpIn (fence none) 5 P (fun e a' w'=>∃ fr' H',(match e with
      | .normal=>(N none fr' H'∧C7 W0 A0 [] n [] [] fr' H' a' w')∨∃ D,W0.heap.size≤D∧N (some D) fr' H'∧C7 W0 A0 [{target:=.collected D,args:=#[]}] n [] [] fr' H' a' w'
      | e=>Q e fr' H'∧(C7 W0 A0 [] n [] [] fr' H' a' w'∨∃ D,W0.heap.size≤D∧Xm D H'∧C7 W0 A0 [{target:=.collected D,args:=#[]}] n [] [] fr' H' a' w'))) a w
def nafter (P:Program) (n:Nat) (d:Code) (Q:Exit→Fr→List Ap→Prop):Option Nat→Fr→List Ap→Prop
  | none=>Zo P n d Q
  | some D=>AWP none P n d (qmD D Q) []
theorem Xb.seq {n:Nat} {c d:Code} {N:Option Nat→Fr→List Ap→Prop} {Q:Exit→Fr→List Ap→Prop} {fr:Fr} {H:List Ap} (h:AWP none P n c (qthen (Xb P n d N Q) Q) [] fr H):Xb P n (.seq c d) N Q fr H:=by
  intro W0 A0 a w R
  refine wpIn_seq (wpIn_mono (h W0 A0 [] [] a w R) ?_)
  intro e a' w' ⟨fr',H',hq,hR⟩
  cases e<;>first | exact hq W0 A0 a' w' hR | exact⟨fr',H',hq,.inl hR⟩
def qrange (n:Nat) (N:Option Nat→Fr→List Ap→Prop) (Q:Exit→Fr→List Ap→Prop) (id D r:Nat) (fr:Fr) (ps:Array Tmp) (asg body:Code) (_:Ac) (H:List Ap):Prop:=
  ∃ st p,H[r]? =some (.lp D n fr ps asg body st p)∧st≠.busy∧
    match p with
    | none=>N (some D) fr (H.set r (.lp D n fr ps asg body .exhausted p))
    | some .ret=>Q .ret fr (H.set r (.lp D n fr ps asg body .exhausted p))
    | some (.exit i)=>i=id∧N (some D) fr (H.set r (.lp D n fr ps asg body .exhausted p))
    | _=>False
section
variable {n id D r:Nat} {N:Option Nat→Fr→List Ap→Prop} {Q:Exit→Fr→List Ap→Prop} {fr:Fr} {ps:Array Tmp} {asg body d:Code} {v:Ac} {H:List Ap}
theorem qrange.all (hr:H[r]? =some (.lp D n fr ps asg body .ready none)) (h:AWP none P n d (qmD D Q) [] fr (H.set r (.lp D n fr ps asg body .exhausted none))):qrange n (nafter P n d Q) Q id D r fr ps asg body v H:=⟨_,_,hr,by simp,h⟩
theorem qrange.ret (hr:H[r]? =some (.lp D n fr ps asg body .done (some .ret))) (h:Q .ret fr (H.set r (.lp D n fr ps asg body .exhausted (some .ret)))):qrange n N Q id D r fr ps asg body v H:=⟨_,_,hr,by simp,h⟩
end
theorem qyA.mk {md:Option Nat} {st:List Fr} {r D n:Nat} {fr fr1:Fr} {ps:Array Tmp} {asg body bodyc:Code} {K:Ac→List Ap→Prop} {H:List Ap} {p:Option Code} (hr:H[r]? =some (.lp D n fr ps asg body .ready p))
    (h:AWP md P n bodyc (qyB r D n fr ps asg body K) st fr1 (H.set r (.lp D n fr ps asg body .busy p))):qyA md P st r D n fr ps asg body bodyc K .normal fr1 H:=⟨p,hr,h⟩
section
variable {r D n:Nat} {fr fr1:Fr} {ps:Array Tmp} {asg body:Code} {K:Ac→List Ap→Prop} {H:List Ap} {p:Option Code}
theorem qyB.next (hr:H[r]? =some (.lp D n fr ps asg body .busy p)) (h:K (.bool true) (H.set r (.lp D n fr ps asg body .ready none))):qyB r D n fr ps asg body K .normal fr1 H:=⟨p,hr,h⟩
theorem qyB.ret (hr:H[r]? =some (.lp D n fr ps asg body .busy p)) (h:K (.bool false) (H.set r (.lp D n fr ps asg body .done (some .ret)))):qyB r D n fr ps asg body K .ret fr1 H:=⟨p,hr,h⟩
theorem qyB.exit {id:Nat} (hr:H[r]? =some (.lp D n fr ps asg body .busy p)) (h:K (.bool false) (H.set r (.lp D n fr ps asg body .done (some (.exit id))))):qyB r D n fr ps asg body K (.exit id) fr1 H:=⟨p,hr,h⟩
end
theorem Xb.range {n id:Nat} {g:Operand} {ps:Array Tmp} {asg body:Code} {N:Option Nat→Fr→List Ap→Prop} {Q:Exit→Fr→List Ap→Prop} {fr0:Fr} {H:List Ap} {f:FuncId} {cs:List Ac} (fr:Fr) (qw:Q8 fr0 fr) (qv:Pc H H) (hg:ev fr g= .func f cs)
    (h:∀ D asg' body',asg'=asg→body'=body→Bg P (.func f cs) [.yld H.length] [fr] (H++[.lp D n fr ps asg' body' .ready none]) (qrange n N Q id D H.length fr ps asg' body')):Xb P n (.block id (.rangeFunc g ps asg body)) N Q fr0 H:=by
  intro W0 A0 a w R0
  have R:=Sub.weak (outer:=[]) qv qw (.inl rfl) _ _ _ _ _ _ _ R0
  clear R0 qw qv
  replace h:=fun D=>h D asg body rfl rfl
  obtain⟨C,rfl,rfl,I,hF,hO,hn,hd⟩:=R.ex
  refine wpIn_block (wpIn_rangeFunc fun fn _=>?_)
  have j4:=run_enterLoop_outer (P:=P) (w:=w) fn a.tmps ps asg body
  have g1:=I.grow (w':=w.alloc (.deferred (some []))) (fun b=>b=w.heap.size) (fun b hb=>by subst hb;simp) (by
    exact((Below.refl w.heap.size w).alloc (Nat.le_refl _) _))
  have hD:(w.alloc (.deferred (some []))).heap[w.heap.size]? =some (.deferred (some [])):=World.alloc_heap_new w _
  have g2:=g1.1.alloc (C.more fun b=>b=w.heap.size).H.length (.inl rfl) (.lp w.heap.size n fr ps asg body .ready none)
    (.loop {state:=.ready,pending:=none,fn,tmps:=a.tmps,params:=ps,assign:=asg,body:=body,defers:=w.heap.size}) 0 (fun m=>by
      refine⟨_,_,Ctx.Hz _ _ _ _,by simp,Cj _ _,rfl,rfl,rfl,rfl,rfl,rfl,hn,fun t=>((hF t).mono g1.2).mono m,.inr rfl,?_⟩
      rw[Below.heap_alloc _ _ _ (by simp)];exact hD)
  have hH:((C.more fun b=>b=w.heap.size).new (C.more fun b=>b=w.heap.size).H.length (.lp w.heap.size n fr ps asg body .ready none) ⟨(w.alloc (.deferred (some []))).heap.size,0,0⟩).H=C.H++[.lp w.heap.size n fr ps asg body .ready none]:=by
    show Dy C.H C.H.length _=_
    unfold Dy;rw[if_pos rfl]
  have hm:=g1.2.trans g2.2
  have fx:=h w.heap.size W0 _ _ (a.tmps::[]) (a.eval g) [.func (.yield (w.heap.size+1)) #[] #[]] g2.1 hH (Cr.nil.cons (hF.mono hm)) (hg ▸ Gw (hF.mono hm) g) rfl (fun i v x hv hx=>by
    match i with
    | 0=>
      simp at hv hx
      subst hv hx
      refine .yld _ _ (Ctx.G3 (C:=C.more fun b=>b=w.heap.size) (.inl rfl) _ (by simp)) fun o ho yx=>⟨_,Ctx.Hz (C.more fun b=>b=w.heap.size) _ _ _,by simp⟩
    | i+1=>simp at hv)
  rcases fx with⟨fid,caps,h1,h2,h3⟩ | ⟨l,rec,h1,hl,_⟩
  ·generalize za:(w.alloc (.deferred (some []))).alloc (.loop {state:=.ready,pending:=none,fn,tmps:=a.tmps,params:=ps,assign:=asg,body:=body,defers:=w.heap.size})=W1 at j4 h3 g2 hm
   refine⟨w.heap.size+1,[{target:=.collected w.heap.size,args:=#[]}],W1,{target:=.fn (.func fid) caps,args:=#[.func (.yield (w.heap.size+1)) #[] #[]]},W1,fid,#[.func (.yield (w.heap.size+1)) #[] #[]]++caps,W1,j4,?_,fun _ _=>trivial,?_,H3,?_⟩
   rotate_left 2
   ·refine Jy (h3.mono ?_)
    rintro e w3 ⟨v,r,C3,he,hk,hA,hv,I3,qt⟩
    subst he
    obtain⟨st,p,hr,ij,hk⟩:=hk
    obtain⟨rec,e1,e2,e3,e4,e5,e6,e7,e8,e9⟩:=N2 I3 hr
    have t:=e9 .exhausted p
    refine⟨rec.pending,_,run_endLoop e1 (by rw[e2];exact ij),?_⟩
    rw[show({rec with state:=LoopState.exhausted}:Loop)={rec with state:=.exhausted,pending:=p} by rw[← e3]]
    have ab:=(bW.1 hr).1
    have tn:Xm w.heap.size (C3.H.set C.H.length (.lp w.heap.size n fr ps asg body .exhausted p)):=⟨C.H.length,_,_,_,_,_,_,_,List.getElem?_set_self ab⟩
    have R3:C7 W0 C.A0 ({target:=.collected w.heap.size,args:=#[]}::[]) n [] [] fr (C3.H.set C.H.length (.lp w.heap.size n fr ps asg body .exhausted p)) {a with defers:=[{target:=.collected w.heap.size,args:=#[]}]++a.defers} (w3.putObj (w.heap.size+1) (.loop {rec with state:=.exhausted,pending:=p})):=
      ⟨C3.set C.H.length (.lp w.heap.size n fr ps asg body .exhausted p),rfl,hA,t.1,qt.head.mono t.2,.nil,hn,by simp[hd]⟩
    rw[e3]
    cases p with
    | none=>exact ⟨fr,_,.inr ⟨_,I.below.size,hk,R3⟩⟩
    | some c=>
      cases c<;>first | exact hk.elim | skip
      ·obtain⟨rfl,hk⟩:=hk
       refine wpIn_exit ?_
       simp only[Exit.inBlock,if_pos]
       exact⟨fr,_,.inr ⟨_,I.below.size,hk,R3⟩⟩
      ·exact wpIn_ret ⟨fr,_,hk,.inr ⟨_,I.below.size,tn,R3⟩⟩
   ·simp only[resolve,rangeCall,Deferred.ofValue,h1,Sem.run_bind,Sem.run_pure,Result.andThen_ok]
    rw[show(#[]++Array.map a.eval #[Operand.const (Value.func (Fn.yield (w.heap.size+1)) #[] #[])]:Array Value)=#[Value.func (Fn.yield (w.heap.size+1)) #[] #[]] by apply Array.ext';simp[Act.eval]]
   ·simp only[invoke]
    exact h2 _ _
  ·have hv:=Gw hF g
   rw[hg,h1]at hv
   cases hv
inductive Out (σ ρ:Type) where
  | next (s:σ)
  | ret (r:ρ)
def Out.cont {σ ρ:Type} (o:Out σ ρ) (g:σ→Option (Out σ ρ)):Option (Out σ ρ):=match o with | .next s=>g s | .ret r=>some (.ret r)
def Out.on {σ ρ:Type} (o:Out σ ρ) (f:σ→Option ρ):Option ρ:=match o with | .next s=>f s | .ret r=>some r
def Bo {α σ ρ:Type} (step:Nat→α→σ→Option (Out σ ρ)):Nat→List α→σ→Option (Out σ ρ)
  | _,[],s=>some (.next s)
  | k,x::l,s=>(step k x s).bind fun o=>o.cont fun s'=>Bo step (k+1) l s'
def N5 {σ ρ:Type} (step:σ→Option (Out σ ρ)):Nat→σ→Option (Out σ ρ)
  | 0,_=>none
  | n+1,s=>(step s).bind fun o=>o.cont fun s'=>N5 step n s'
def fuel:Nat:=1099511627776
def L6 {σ ρ:Type} (step:Nat→Unit→σ→Option (Out σ ρ)) (n:Nat) (s:σ):Option (Out σ ρ):=if n≤9223372036854775807 then Bo step 0 (List.replicate n ()) s else none
def Ch {α:Type} (l:List α) (n:Int):Option α:=if 0≤n then l[n.toNat]? else none
def mpE {β:Type} (f:β→Ac) (m:List (Int×β)):List (Int×Ac):=m.map fun p=>(p.1,f p.2)
def mget {β:Type} (d:β):List (Int×β)→Int→β
  | [],_=>d
  | (k,v)::r,n=>if k=n then v else mget d r n
def mhas {β:Type}:List (Int×β)→Int→Bool
  | [],_=>false
  | (k,_)::r,n=>if k=n then true else mhas r n
def mset {β:Type}:List (Int×β)→Int→β→List (Int×β)
  | [],n,v=>[(n,v)]
  | (k,u)::r,n,v=>if k=n then(k,v)::r else(k,u)::mset r n v
theorem A2 {α β:Type} {o:Option α} {f:α→Option β} {r:β} (h:o.bind f=some r):∃ x,o=some x∧f x=some r:=by
  cases o with
  | none=>cases h
  | some x=>exact ⟨x,rfl,h⟩
theorem Au {α:Type} {c:Bool} {a b:Option α} {r:α} (h:(bif c then a else b)=some r) (hc:c=true):a=some r:=by subst hc;exact h
theorem Av {α:Type} {c:Bool} {a b:Option α} {r:α} (h:(bif c then a else b)=some r) (hc:c=false):b=some r:=by subst hc;exact h
theorem B7 {σ ρ:Type} {s:σ} {f:σ→Option ρ} {r:ρ} (h:(Out.next s).on f=some r):f s=some r:=h
theorem Bp {σ ρ:Type} {q:ρ} {f:σ→Option ρ} {r:ρ} (h:(Out.ret q).on f=some r):some q=some r:=h
theorem Bf {σ ρ:Type} {s:σ} {g:σ→Option (Out σ ρ)} {r:Out σ ρ} (h:(Out.next s).cont g=some r):g s=some r:=h
theorem Ba {σ ρ:Type} {q:ρ} {g:σ→Option (Out σ ρ)} {r:Out σ ρ} (h:(Out.ret q).cont g=some r):r= .ret q:=(bV h).symm
theorem Ag {α:Type} {a b:α} (h:some a=some b):b=a:=(bV h).symm
theorem B8 {α σ ρ:Type} {step:Nat→α→σ→Option (Out σ ρ)} {k:Nat} {l:List α} {s:σ} {o:Out σ ρ} (h:Bo step k (l.drop k) s=some o) (hk:¬ k<l.length):o= .next s:=by
  rw[List.drop_of_length_le (by omega)]at h;exact(bV h).symm
theorem Bw {α σ ρ:Type} {step:Nat→α→σ→Option (Out σ ρ)} {k:Nat} {l:List α} {s:σ} {o:Out σ ρ} (h:Bo step k (l.drop k) s=some o) (hk:k<l.length) :
    ∃ x b,l[k]? =some x∧step k x s=some b∧b.cont (fun s'=>Bo step (k+1) (l.drop (k+1)) s')=some o:=by
  rw[List.drop_eq_getElem_cons hk]at h
  obtain⟨b,h1,h2⟩:=A2 h
  exact⟨l[k],b,bN hk,h1,h2⟩
theorem S0 {σ ρ:Type} {step:σ→Option (Out σ ρ)} {n:Nat} {s:σ} {o:Out σ ρ} (h:N5 step n s=some o) :
    ∃ m b,n=m+1∧step s=some b∧b.cont (fun s'=>N5 step m s')=some o:=by
  cases n with
  | zero=>cases h
  | succ m=>
    obtain⟨b,h1,h2⟩:=A2 h
    exact⟨m,b,rfl,h1,h2⟩
theorem Qu {σ ρ:Type} {step:Nat→Unit→σ→Option (Out σ ρ)} {n:Nat} {s:σ} {o:Out σ ρ} (h:L6 step n s=some o):n≤9223372036854775807∧Bo step 0 (List.replicate n ()) s=some o:=by
  unfold L6 at h
  split at h
  ·exact⟨by assumption,h⟩
  ·cases h
theorem Lx {α:Type} {l:List α} {n:Int} {x:α} (h:Ch l n=some x):0≤n∧n<l.length∧l[n.toNat]? =some x:=by
  unfold Ch at h
  split at h
  ·rename_i h0
   have:=(bW.1 h).1
   exact⟨h0,by omega,h⟩
  ·cases h
theorem Br {α:Type} {l:List α} {k:Nat} {x:α} (h:l[k]? =some x):Ch l (k:Int)=some x:=by
  simp[Ch,h]
theorem Ca.of {α:Type} {f:α→List Ac} {l:List α} {n:Int} {x:α} {sz:Nat} {K:List Ac→Prop} (hx:Ch l n=some x) (h:K (f x)):Ca sz (l.map f) n K:=by
  obtain⟨h1,h2,h3⟩:=Lx hx
  refine⟨h1,by simpa using h2,fun y hy _=>?_⟩
  simp only[List.getElem?_map,h3,Option.map_some,bQ]at hy
  subst hy;exact h
theorem Bt.of {α:Type} {f:α→List Ac} {l:List α} {n:Int} {x:α} {sz:Nat} {K:List Ac→Prop} (hx:Ch l n=some x) (h:K (f x)):Bt sz (l.map f) n.toNat K:=by
  obtain⟨h1,h2,h3⟩:=Lx hx
  intro y hy _
  simp only[List.getElem?_map,h3,Option.map_some,bQ]at hy
  subst hy;exact h
theorem Bt.ofNat {α:Type} {f:α→List Ac} {l:List α} {n:Nat} {x:α} {sz:Nat} {K:List Ac→Prop} (hx:Ch l (n:Int)=some x) (h:K (f x)):Bt sz (l.map f) n K:=Bt.of hx h
theorem C5 {α:Type} {l:List α} {n:Int} {m:Nat} {x:α} {R:Prop} (hx:Ch l n=some x) (hm:m=l.length) (h:R):0≤n∧n<(m:Int)∧R:=by
  obtain⟨h1,h2,_⟩:=Lx hx
  exact⟨h1,by omega,h⟩
theorem Qg {β:Type} (f:β→Ac) (d:β):∀ (m:List (Int×β)) (n:Int),alook (mpE f m) n=if mhas m n then some (f (mget d m n))else none
  | [],_=>rfl
  | (k,v)::r,n=>by
    simp only[mpE,List.map_cons,alook,mhas,mget]
    split
    ·rfl
    ·exact Qg f d r n
theorem Rs {β:Type} {d:β}:∀ {m:List (Int×β)} {n:Int},mhas m n=false→mget d m n=d
  | [],_,_=>rfl
  | (k,v)::r,n,h=>by
    simp only[mhas,mget]at h ⊢
    split at h
    ·cases h
    ·rename_i hk;rw[if_neg hk];exact Rs h
theorem Ew.of {β:Type} {f:β→Ac} {m:List (Int×β)} {n:Int} {d:β} {z:Ac} {K:Ac→Bool→Prop} (hd:f d=z) (h:K (f (mget d m n)) (mhas m n)):Ew (mpE f m) n z K:=by
  unfold Ew
  rw[Qg f d]
  cases hb:mhas m n with
  | true=>rw[hb]at h;simp;exact h
  | false=>rw[hb,Rs hb,hd]at h;simp;exact h
theorem Md {β:Type} (f:β→Ac):∀ (m:List (Int×β)) (n:Int) (v:β),aset (mpE f m) n (f v)=mpE f (mset m n v)
  | [],_,_=>rfl
  | (k,u)::r,n,v=>by
    have ih:=Md f r n v
    simp only[mpE,List.map_cons,aset,mset]at ih ⊢
    split<;>simp[ih]
theorem Qo {β:Type} (f:β→Ac) (m:List (Int×β)):(mpE f m).length=m.length:=by simp[mpE]
theorem Um {α β:Type} (f:α→β) (l:List α) (n:Nat):(l.map f).take n=(l.take n).map f:=(List.map_take).symm
theorem U3 {α β:Type} (f:α→β) (l:List α) (n:Nat):(l.map f).drop n=(l.drop n).map f:=(List.map_drop).symm
section
variable {P:Program} {md:Option Nat} {n:Nat} {Q:Exit→Fr→List Ap→Prop} {outer:List Fr} {fr:Fr} {H:List Ap}
theorem AWP.It {ι:Type} {c d:Code} (F:ι→Fr) (HH:ι→List Ap) (J:ι→Prop) (hb:∀ x,Hk (HH x).length (F x)=true∧Qy (HH x).length (HH x)=true∧outer.all (Hk (HH x).length)=true)
    (hc:AWP md P n c (qthen (fun fr' H'=>∃ x,J x∧Q8 fr' (F x)∧Pc H' (HH x)) Q) outer fr H) (hd:∀ x,J x→AWP md P n d Q outer (F x) (HH x)):AWP md P n (.seq c d) Q outer fr H:=by
  refine AWP.seq (AWP.mono ?_ hc)
  intro e fr' H' h
  cases e with
  | normal=>
    obtain⟨x,h1,h2,h3⟩:=h
    exact AWP.sub (Sub.weak h3 h2 (.inr (hb x))) (hd x h1)
  | _=>exact h
end
def A8 (v v':Ac):Prop:=match v' with | .sl _ xs=>v=v'∨(v= .nils∧xs=[]) | _=>v=v'
def A9:List Ac→List Ac→Prop
  | [],[]=>True
  | c::r,c'::r'=>A8 c c'∧A9 r r'
  | _,_=>False
def Bd (v v':Ac):Prop:=match v' with | .agg ds=>(match v with | .agg cs=>A9 cs ds | _=>False) | .sl _ xs=>v=v'∨(v= .nils∧xs=[]) | _=>v=v'
def Bb:List Ac→List Ac→Prop
  | [],[]=>True
  | c::r,c'::r'=>Bd c c'∧Bb r r'
  | _,_=>False
def Bc (v v':Ac):Prop:=match v' with | .tuple ds=>(match v with | .tuple cs=>Bb cs ds | _=>False) | .agg ds=>(match v with | .agg cs=>A9 cs ds | _=>False) | .sl _ xs=>v=v'∨(v= .nils∧xs=[]) | _=>v=v'
theorem Oh {C:Ctx} {w:World} {u:Value} {a a':Ac} (h:A8 a a') (hr:A4 C w u a):A4 C w u a'∧(a.g0=true→a'.g0=true):=by
  unfold A8 at h
  split at h
  ·rcases h with rfl | ⟨rfl,rfl⟩
   ·exact⟨hr,id⟩
   ·cases hr;exact⟨.sl0 _ _ _ (Nat.zero_le _),fun _=>rfl⟩
  ·subst h;exact⟨hr,id⟩
theorem Lt:∀ {cs cs':List Ac},A9 cs cs'→cs.length=cs'.length∧∀ (i:Nat) c',cs'[i]? =some c'→∃ c,cs[i]? =some c∧A8 c c'
  | [],[],_=>⟨rfl,by simp⟩
  | c::r,c'::r',h=>by
    have ih:=Lt h.2
    refine⟨by simp[ih.1],fun i d hi=>?_⟩
    match i,hi with
    | 0,hi=>simp at hi;subst hi;exact⟨c,rfl,h.1⟩
    | i+1,hi=>exact ih.2 i d (by simpa using hi)
  | [],_::_,h=>h.elim
  | _::_,[],h=>h.elim
theorem Oe:∀ {cs cs':List Ac},Bb cs cs'→cs.length=cs'.length∧∀ (i:Nat) c',cs'[i]? =some c'→∃ c,cs[i]? =some c∧Bd c c'
  | [],[],_=>⟨rfl,by simp⟩
  | c::r,c'::r',h=>by
    have ih:=Oe h.2
    refine⟨by simp[ih.1],fun i d hi=>?_⟩
    match i,hi with
    | 0,hi=>simp at hi;subst hi;exact⟨c,rfl,h.1⟩
    | i+1,hi=>exact ih.2 i d (by simpa using hi)
  | [],_::_,h=>h.elim
  | _::_,[],h=>h.elim
theorem Rq {C:Ctx} {w:World} {u:Value} {cs ds:List Ac} (h:A9 cs ds) (hr:A4 C w u (.agg cs)):A4 C w u (.agg ds)∧((Ac.agg cs).g1=true→(Ac.agg ds).g1=true):=by
  have hg:=Lt h
  cases hr with
  | agg arr _ hl hc=>
    refine⟨.agg arr ds (by rw[hl,hg.1]) fun i u c h1 h2=>?_,fun hk=>?_⟩
    ·obtain⟨c0,h3,h4⟩:=hg.2 i c h2
     exact(Oh h4 (hc i u c0 h1 h3)).1
    ·simp only[Ac.g1,List.all_eq_true]at hk ⊢
     intro c hm
     obtain⟨i,hi⟩:=List.getElem?_of_mem hm
     obtain⟨c0,h3,h4⟩:=hg.2 i c hi
     have ab:i<arr.size:=by rw[hl];exact(bW.1 h3).1
     exact(Oh h4 (hc i _ c0 (Array.getElem?_eq_getElem ab) h3)).2 (hk c0 (bO h3))
theorem Og {C:Ctx} {w:World} {u:Value} {a a':Ac} (h:Bd a a') (hr:A4 C w u a):A4 C w u a'∧(a.g1=true→a'.g1=true):=by
  unfold Bd at h
  split at h
  ·split at h
   ·exact Rq h hr
   ·exact h.elim
  ·rcases h with rfl | ⟨rfl,rfl⟩
   ·exact⟨hr,id⟩
   ·cases hr;exact⟨.sl0 _ _ _ (Nat.zero_le _),fun _=>rfl⟩
  ·subst h;exact⟨hr,id⟩
theorem Rr {C:Ctx} {w:World} {u:Value} {a a':Ac} (h:Bc a a') (hr:A4 C w u a):A4 C w u a'∧(a.g2=true→a'.g2=true):=by
  unfold Bc at h
  split at h
  ·split at h
   ·rename_i v ds _ cs
    have hg:=Oe h
    cases hr with
    | tuple arr _ hl hc=>
      refine⟨.tuple arr _ (by rw[hl,hg.1]) fun i u c h1 h2=>?_,fun hk=>?_⟩
      ·obtain⟨c0,h3,h4⟩:=hg.2 i c h2
       exact(Og h4 (hc i u c0 h1 h3)).1
      ·simp only[Ac.g2,List.all_eq_true]at hk ⊢
       intro c hm
       obtain⟨i,hi⟩:=List.getElem?_of_mem hm
       obtain⟨c0,h3,h4⟩:=hg.2 i c hi
       have ab:i<arr.size:=by rw[hl];exact(bW.1 h3).1
       exact(Og h4 (hc i _ c0 (Array.getElem?_eq_getElem ab) h3)).2 (hk c0 (bO h3))
   ·exact h.elim
  ·split at h
   ·exact Rq h hr
   ·exact h.elim
  ·rcases h with rfl | ⟨rfl,rfl⟩
   ·exact⟨hr,id⟩
   ·cases hr;exact⟨.sl0 _ _ _ (Nat.zero_le _),fun _=>rfl⟩
  ·subst h;exact⟨hr,id⟩
theorem Aq.nle {P:Program} {f:FuncId} {args:List Ac} {r':Ac} (h:Aq P f args (fun r=>Bc r r')):Aq P f args (·=r'):=by
  intro A w vs hA hv
  refine(h A w vs hA hv).mono fun e w' ⟨v,r,h1,h2,h3,h4,h5⟩=>?_
  have:=Rr h2 h5
  exact⟨v,r',h1,rfl,this.2 h3,h4,this.1⟩
theorem Aq.Yn {P:Program} {f:FuncId} {args args':List Ac} {R:Ac→Prop} (hn:Bb args args') (h:Aq P f args' R):Aq P f args R:=by
  intro A w vs hA hv
  refine h A w vs hA ?_
  have hg:=Oe hn
  refine⟨by rw[hv.1,hg.1],fun i v a h1 h2=>?_⟩
  obtain⟨c,h3,h4⟩:=hg.2 i a h2
  exact(Og h4 (hv.2 i v c h1 h3)).1
theorem We (l:List Int) (i:Nat) (a:Int):(l.map B5).set i [.int .i64 a]=(l.set i a).map B5:=by simp[B5]
theorem V1 (n:Nat) (a:Int):List.replicate n [Ac.int .i64 a]=(List.replicate n a).map B5:=by simp[B5]
def Nw (n:Int):Ac:=.int .i64 n
def Qf (b:Bool):Ac:=.bool b
theorem Wd (m:List (Int×Int)) (n v:Int):aset (mpE Nw m) n (.int .i64 v)=mpE Nw (mset m n v):=Md Nw m n v
theorem Va (m:List (Int×Bool)) (n:Int) (v:Bool):aset (mpE Qf m) n (.bool v)=mpE Qf (mset m n v):=Md Qf m n v
theorem Ae {β:Type} (f:β→Ac):mpE f []=[]:=rfl
def chk {α:Type} (n:Nat) (o:Option α):Option α:=if n≤549755813888 then o else none
theorem D6 {α:Type} {n:Nat} {o:Option α} {r:α} (h:chk n o=some r):n≤549755813888∧o=some r:=by
  unfold chk at h
  split at h
  ·exact⟨by assumption,h⟩
  ·cases h
def Xt {α:Type} (n:Int) (o:Option α):Option α:=if 0≤n∧n≤549755813888 then o else none
theorem Uh {α:Type} {n:Int} {o:Option α} {r:α} (h:Xt n o=some r):0≤n∧n≤549755813888∧o=some r:=by
  unfold Xt at h
  split at h
  ·rename_i hn;exact⟨hn.1,hn.2,h⟩
  ·cases h
def nz {α:Type} (n:Int) (o:Option α):Option α:=if n=0 then none else o
theorem V4 {α:Type} {n:Int} {o:Option α} {r:α} (h:nz n o=some r):¬ n=0∧o=some r:=by
  unfold nz at h
  split at h
  ·cases h
  ·exact⟨by assumption,h⟩
theorem Ce {α:Type} {l:List α} {n:Int} {x y:α} (h:Ch l n=some x):Ch (l.set n.toNat y) n=some y:=by
  obtain⟨h1,h2,h3⟩:=Lx h
  unfold Ch
  rw[if_pos h1,List.getElem?_set_self (by omega)]
theorem Dt {α:Type} {l:List α} {n:Int} {m:Nat} {x:α} {R:Prop} (hx:Ch l n=some x) (hm:m=l.length) (h:R):n<(m:Int)∧R:=by
  obtain⟨h1,h2,_⟩:=Lx hx
  exact⟨by omega,h⟩
open Classical in
def okB {α:Type} (c:Bool) (o:Option α):Option α:=bif c then o else none
theorem H8 {α:Type} {p:Prop} [Decidable p] {o:Option α} {r:α} (h:okB (decide p) o=some r):p∧o=some r:=by
  unfold okB at h
  by_cases hp:p
  ·rw[bL hp]at h;exact⟨hp,h⟩
  ·rw[bM hp]at h;cases h
theorem S2 {α:Type} (l:List α) (a:α):(l++[a]).take (l.length+1)=l++[a]:=List.take_of_length_le (by simp)
def Qa (r v sz:Nat) (xs:List (List Ac)) (a:Ac):Ac:=
  match a with
  | .own r' v' lo len=>if r'=r then(if v'=v then .sl sz ((xs.drop lo).take len)else a)else a
  | _=>a
def Ku (r v sz:Nat) (xs:List (List Ac)):List Ac→List Ac
  | []=>[]
  | a::l=>Qa r v sz xs a::Ku r v sz xs l
def Kv (r v sz:Nat) (xs:List (List Ac)) (a:Ac):Ac:=
  match a with
  | .agg cs=>.agg (Ku r v sz xs cs)
  | a=>Qa r v sz xs a
def L3 (r v sz:Nat) (xs:List (List Ac)):List Ac→List Ac
  | []=>[]
  | a::l=>Kv r v sz xs a::L3 r v sz xs l
def Oq (r v sz:Nat) (xs:List (List Ac)):Fr→Fr
  | []=>[]
  | (k,a)::fr=>(k,Kv r v sz xs a)::Oq r v sz xs fr
theorem Rv {W0:World} {C:Ctx} {w:World} (I:Inv W0 C w) {r v sz:Nat} {xs:List (List Ac)} (hr:C.H[r]? =some (.row v sz xs)) {u:Value} {lo len:Nat} (h:A4 C w u (.own r v lo len)) :
    A4 (C.freeze r) w u (.sl sz ((xs.drop lo).take len)):=by
  cases h with
  | own ad _ cap _ _ _ ab bq bc hh=>
    obtain⟨_,hh⟩:=hh _ _ _ hr
    obtain⟨hle,hh⟩:=hh rfl
    have hlen:((xs.drop lo).take len).length=len:=by simp;omega
    obtain⟨au,bb,hg,ho⟩:=I.objs r _ hr
    by_cases h0:len=0
    ·subst h0
     simp only[List.take_zero]
     exact .sl0 _ _ _ bc
    ·rcases hh with hh | ⟨l,hl,rfl,bk⟩
     ·omega
     rcases ho with⟨e1,_⟩ | ⟨l',arr,T',e1,e2,e3,e4,e5⟩
     ·subst e1;simp at hle;omega
     rw[hl,bQ]at e1
     subst e1
     have hmul:(lo+len)*sz≤xs.length*sz:=Nat.mul_le_mul_right _ hle
     have ek:(lo+len)*sz=lo*sz+len*sz:=Nat.add_mul _ _ _
     have key:=I.freeze r
     refine .sl _ _ _ _ _ (fun j=>arr.getD (l.base+lo*sz+j) undef) rfl hlen.symm bq bc (.inr ⟨l,hl,rfl⟩) au
       (fun x hx=>bb x (List.mem_of_mem_drop (List.mem_of_mem_take hx))) (fun x hx=>hg x (List.mem_of_mem_drop (List.mem_of_mem_take hx))) (fun j hj=>?_) fun i k x c hx hc=>?_
     ·rw[hlen]at hj
      simp only[World.cell?,e2]
      have:l.base+lo*sz+j<arr.size:=by omega
      simp[Array.getD,this]
     ·rw[List.getElem?_take]at hx
      split at hx
      ·rename_i hi
       rw[List.getElem?_drop]at hx
       obtain⟨u,hu,bl⟩:=e5 _ k x c hx hc
       have e:l.base+((lo+i)*sz+k)=l.base+lo*sz+(i*sz+k):=by rw[Nat.add_mul];omega
       rw[e]at hu
       have:arr.getD (l.base+lo*sz+(i*sz+k)) undef=u:=by rw[Array.getD_eq_getD_getElem?,hu];rfl
       rw[this]
       exact bl.mono key.2
      ·cases hx
theorem Mz {W0:World} {C:Ctx} {w:World} (I:Inv W0 C w) {r v sz:Nat} {xs:List (List Ac)} (hr:C.H[r]? =some (.row v sz xs)) {u:Value} {a:Ac} (h:A4 C w u a) :
    A4 (C.freeze r) w u (Qa r v sz xs a):=by
  have key:=I.freeze r
  unfold Qa
  split
  ·split
   ·rename_i e
    split
    ·rename_i e2
     subst e e2
     exact Rv I hr h
    ·exact h.mono key.2
   ·exact h.mono key.2
  ·exact h.mono key.2
theorem Mv (r v sz:Nat) (xs:List (List Ac)):∀ (l:List Ac),(Ku r v sz xs l).length=l.length∧∀ (i:Nat) c,(Ku r v sz xs l)[i]? =some c→∃ c0,l[i]? =some c0∧c=Qa r v sz xs c0
  | []=>⟨rfl,by simp[Ku]⟩
  | a::l=>by
    have ih:=Mv r v sz xs l
    refine⟨by simp[Ku,ih.1],fun i c hi=>?_⟩
    match i,hi with
    | 0,hi=>simp only[Ku,List.getElem?_cons_zero,bQ]at hi;exact⟨a,rfl,hi.symm⟩
    | i+1,hi=>simp only[Ku,List.getElem?_cons_succ]at hi;simpa using ih.2 i c hi
theorem My {W0:World} {C:Ctx} {w:World} (I:Inv W0 C w) {r v sz:Nat} {xs:List (List Ac)} (hr:C.H[r]? =some (.row v sz xs)) {u:Value} {a:Ac} (h:A4 C w u a) :
    A4 (C.freeze r) w u (Kv r v sz xs a):=by
  unfold Kv
  split
  ·rename_i cs
   have hg:=Mv r v sz xs cs
   cases h with
   | agg arr _ hl hc=>
     refine .agg arr _ (by rw[hl,hg.1]) fun i u c h1 h2=>?_
     obtain⟨c0,h3,rfl⟩:=hg.2 i c h2
     exact Mz I hr (hc i u c0 h1 h3)
  ·exact Mz I hr h
theorem P9 (r v sz:Nat) (xs:List (List Ac)):∀ (l:List Ac),(L3 r v sz xs l).length=l.length∧∀ (i:Nat) c,(L3 r v sz xs l)[i]? =some c→∃ c0,l[i]? =some c0∧c=Kv r v sz xs c0
  | []=>⟨rfl,by simp[L3]⟩
  | a::l=>by
    have ih:=P9 r v sz xs l
    refine⟨by simp[L3,ih.1],fun i c hi=>?_⟩
    match i,hi with
    | 0,hi=>simp only[L3,List.getElem?_cons_zero,bQ]at hi;exact⟨a,rfl,hi.symm⟩
    | i+1,hi=>simp only[L3,List.getElem?_cons_succ]at hi;simpa using ih.2 i c hi
theorem Om (r v sz:Nat) (xs:List (List Ac)):∀ (fr:Fr) (t:Nat),get (Oq r v sz xs fr) t=Kv r v sz xs (get fr t)
  | [],t=>rfl
  | (k,a)::fr,t=>by
    have ih:=Om r v sz xs fr t
    simp only[Oq,get]at ih ⊢
    split
    ·rfl
    ·exact ih
def Je (r v sz:Nat) (xs:List (List Ac)):List (Int×Ac)→List (Int×Ac)
  | []=>[]
  | (k,a)::es=>(k,Kv r v sz xs a)::Je r v sz xs es
theorem P8 (r v sz:Nat) (xs:List (List Ac)):∀ (l:List (Int×Ac)) (i:Nat),(Je r v sz xs l)[i]? =(l[i]?).map fun p=>(p.1,Kv r v sz xs p.2)
  | [],i=>by simp[Je]
  | (k,a)::es,0=>by simp[Je]
  | (k,a)::es,i+1=>by simp[Je,P8 r v sz xs es i]
theorem Ot {r v sz:Nat} {xs:List (List Ac)} {l:List (Int×Ac)} {i:Nat} {p:Int×Ac} (h:(Je r v sz xs l)[i]? =some p):∃ p0,l[i]? =some p0∧p=(p0.1,Kv r v sz xs p0.2):=by
  rw[P8]at h
  cases hc:l[i]? with
  | none=>rw[hc]at h;cases h
  | some c0=>rw[hc]at h;exact⟨c0,rfl,(bV h).symm⟩
theorem Ou (r v sz:Nat) (xs:List (List Ac)):∀ l:List (Int×Ac),(Je r v sz xs l).map (·.1)=l.map (·.1)
  | []=>rfl
  | (k,a)::es=>by simp[Je,Ou r v sz xs es]
theorem P7 (r v sz:Nat) (xs:List (List Ac)):∀ l:List (Int×Ac),(Je r v sz xs l).length=l.length
  | []=>rfl
  | (k,a)::es=>by simp[Je,P7 r v sz xs es]
theorem F7.frz {q:Bool} {r v sz:Nat} {xs:List (List Ac)} {en:Array MapEntry} {cl:Nat} {es:List (Int×Ac)} (h:F7 q en cl es):F7 q en cl (Je r v sz xs es):=
  ⟨by rw[P7];exact h.size,fun i e p a b=>by
    obtain⟨p0,h1,rfl⟩:=Ot b
    exact h.keys i e p0 a h1,by rw[Ou];exact h.nodup,h.born,h.bnodup⟩
def Uc (r v sz:Nat) (xs:List (List Ac)) (o:Ap):Ap:=
  match o with
  | .box cs=>.box (Ku r v sz xs cs)
  | .mpo q es=>.mpo q (Je r v sz xs es)
  | o=>o
def Ip (r v sz:Nat) (xs:List (List Ac)):List Ap→List Ap
  | []=>[]
  | o::H=>Uc r v sz xs o::Ip r v sz xs H
theorem Mx (r v sz:Nat) (xs:List (List Ac)):∀ (H:List Ap) (i:Nat),(Ip r v sz xs H)[i]? =(H[i]?).map (Uc r v sz xs)
  | [],i=>by simp[Ip]
  | o::H,0=>by simp[Ip]
  | o::H,i+1=>by simp[Ip,Mx r v sz xs H i]
theorem Mw (r v sz:Nat) (xs:List (List Ac)):∀ H:List Ap,(Ip r v sz xs H).length=H.length
  | []=>rfl
  | o::H=>by simp[Ip,Mw r v sz xs H]
def Ctx.Cm (C:Ctx) (r v sz:Nat) (xs:List (List Ac)):Ctx:={C.freeze r with H:=Ip r v sz xs (C.H.set r .gone)}
theorem Inv.Cm {W0:World} {C:Ctx} {w:World} (I:Inv W0 C w) {r v sz:Nat} {xs:List (List Ac)} (hr:C.H[r]? =some (.row v sz xs)) :
    Inv W0 (C.Cm r v sz xs) w∧Cx (C.freeze r) w (C.Cm r v sz xs) w:=by
  have key:=I.freeze r
  have m:Cx (C.freeze r) w (C.Cm r v sz xs) w:=by
    refine⟨fun b hb=>⟨hb,rfl⟩,by simp[Ctx.Cm,Mw,Ctx.freeze],rfl,fun r' c6=>?_⟩
    obtain⟨o,ho,ar⟩:=c6
    have hg:(C.Cm r v sz xs).H[r']? =some (Uc r v sz xs o):=by
      show(Ip r v sz xs (C.H.set r .gone))[r']? =_
      rw[Mx,show(C.H.set r .gone)[r']? =some o from ho];rfl
    unfold Cd
    rw[hg,ho]
    cases o with
    | box cs=>exact ⟨⟨cs,rfl⟩,rfl⟩
    | row v' sz' xs'=>exact .inl ⟨xs',rfl,Nat.le_refl _,rfl⟩
    | mp es=>exact ⟨⟨_,rfl,rfl⟩,rfl⟩
    | mpo q es=>exact ⟨⟨_,rfl,rfl⟩,rfl⟩
    | it l c=>exact ⟨⟨l,c,rfl⟩,rfl⟩
    | lp=>exact ⟨⟨_,rfl,rfl⟩,rfl⟩
    | gone=>trivial
    | resv=>exact absurd rfl ar
  refine⟨⟨key.1.below,key.1.sub,key.1.old,fun r' l hl=>?_,key.1.inj,fun r' o ho=>?_⟩,m⟩
  ·have:=key.1.sep r' l hl
   refine⟨?_,this.2⟩
   have h:=this.1
   simpa[Ctx.Cm,Mw,Ctx.freeze]using h
  ·have dc:(Ip r v sz xs (C.H.set r .gone))[r']? =some o:=ho
   rw[Mx]at dc
   cases hc:(C.H.set r .gone)[r']? with
   | none=>rw[hc]at dc;cases dc
   | some o0=>
     rw[hc]at dc
     obtain rfl:=bV dc
     have h0:=key.1.objs r' o0 hc
     cases o0 with
     | box cs=>
       have ar:r'≠r:=by
         intro e;subst e
         rw[List.getElem?_set_self (bW.1 hr).1]at hc;cases hc
       have fj:C.H[r']? =some (.box cs):=by rw[List.getElem?_set_ne (fun h=>ar h.symm)]at hc;exact hc
       obtain⟨l,arr,T,e1,e2,e3,e4⟩:=I.objs r' _ fj
       obtain⟨l',arr',T',f1,f2,f3,f4⟩:=h0
       have hg:=Mv r v sz xs cs
       refine⟨l',arr',T',f1,f2,by rw[hg.1];exact f3,fun i u c h1 h2=>?_⟩
       obtain⟨c0,h3,rfl⟩:=hg.2 i c h2
       have hl:l=l':=by
         have:(C.freeze r).ρ r'=C.ρ r':=by simp only[Ctx.freeze];rw[if_neg ar]
         rw[this,e1]at f1;exact bV f1
       subst hl
       rw[e2]at f2
       simp only[bQ,Obj.cells.injEq]at f2
       obtain⟨rfl,rfl,_⟩:=f2
       exact(Mz I hr (e4 i u c0 h1 h3)).mono m
     | mpo q es=>
       have ar:r'≠r:=by
         intro e;subst e
         rw[List.getElem?_set_self (bW.1 hr).1]at hc;cases hc
       have fj:C.H[r']? =some (.mpo q es):=by rw[List.getElem?_set_ne (fun h=>ar h.symm)]at hc;exact hc
       obtain⟨l,en,cl,e1,e2,e3,e4⟩:=I.objs r' _ fj
       have hρ:(C.Cm r v sz xs).ρ r'=C.ρ r':=by
         show(C.freeze r).ρ r'=C.ρ r'
         simp only[Ctx.freeze];rw[if_neg ar]
       refine⟨l,en,cl,by rw[hρ];exact e1,e2,e3.frz,fun i e p h1 h2=>?_⟩
       obtain⟨p0,h3,rfl⟩:=Ot h2
       exact(My I hr (e4 i e p0 h1 h3)).mono m
     | _=>exact h0.mono m rfl fun _ _=>rfl
theorem Sub.Cm {outer:List Fr} {fr:Fr} {H:List Ap} (r:Nat) {v sz:Nat} {xs:List (List Ac)} (hr:H[r]? =some (.row v sz xs)):Sub outer fr H (Oq r v sz xs fr) (Ip r v sz xs (H.set r .gone)):=by
  intro W0 A0 ds n outs a w R
  obtain⟨C,rfl,rfl,I,hF,hO,hn,hd⟩:=R.ex
  have key:=I.freeze r
  have key2:=I.Cm hr
  refine⟨C.Cm r v sz xs,rfl,rfl,key2.1,fun t=>?_,(hO.mono key.2).mono key2.2,hn,hd⟩
  rw[Om]
  exact(My I hr (hF t)).mono key2.2
theorem Bg.Cm {P:Program} {f:Ac} {args:List Ac} {st:List Fr} {H:List Ap} {K:Ac→List Ap→Prop} (r:Nat) {v sz:Nat} {xs:List (List Ac)} (hr:H[r]? =some (.row v sz xs))
    (h:Bg P f (L3 r v sz xs args) st (Ip r v sz xs (H.set r .gone)) K):Bg P f args st H K:=by
  intro W0 C w outs fv vs I hH hO hf hl hv
  subst hH
  have key:=I.freeze r
  have key2:=I.Cm hr
  have hg:=P9 r v sz xs args
  refine h W0 (C.Cm r v sz xs) w outs fv vs key2.1 rfl ((hO.mono key.2).mono key2.2) ((hf.mono key.2).mono key2.2) (by rw[hl,hg.1]) fun i u a h1 h2=>?_
  obtain⟨c0,h3,rfl⟩:=hg.2 i a h2
  exact(My I hr (hv i u c0 h1 h3)).mono key2.2
theorem S7 {W0:World} {C:Ctx} {w:World} (I:Inv W0 C w) {r v lo len sz:Nat} {xs:List (List Ac)} (hr:C.H[r]? =some (.row v sz xs)) {u:Value} (hv:A4 C w u (.own r v lo len)) :
    ∃ lx,Inv W0 (C.reloc r (.row (v+1) sz ((xs.drop lo).take len)) lx) w∧Cx C w (C.reloc r (.row (v+1) sz ((xs.drop lo).take len)) lx) w∧A4 (C.reloc r (.row (v+1) sz ((xs.drop lo).take len)) lx) w u (.own r (v+1) 0 len):=by
  obtain⟨au,bb,hg,ho⟩:=I.objs r _ hr
  have gp:∀ x∈(xs.drop lo).take len,x∈xs:=fun x hx=>List.mem_of_mem_drop (List.mem_of_mem_take hx)
  cases hv with
  | own ad _ cap _ _ _ ab bq bc hh=>
    obtain⟨_,hh⟩:=hh _ _ _ hr
    obtain⟨hle,hh⟩:=hh rfl
    have hlen:((xs.drop lo).take len).length=len:=by simp;omega
    have ek:(lo+len)*sz=lo*sz+len*sz:=Nat.add_mul _ _ _
    have fin:∀ (lx:Option Loc),(cap=0∨∃ l,lx=some l∧ad=some ⟨l.b,l.base,none⟩∧l.base+cap*sz≤l.cap)→
     A4 (C.reloc r (.row (v+1) sz ((xs.drop lo).take len)) lx) w (.slice ad len cap) (.own r (v+1) 0 len):=by
      intro lx hc
      have lg:(C.H.set r (.row (v+1) sz ((xs.drop lo).take len)))[r]? =some (.row (v+1) sz ((xs.drop lo).take len)):=List.getElem?_set_self (bW.1 hr).1
      refine .own _ _ _ _ _ _ ⟨_,lg,by simp⟩ bq bc fun v' sz' xs' h'=>?_
      have vr:(C.H.set r (.row (v+1) sz ((xs.drop lo).take len)))[r]? =some (.row v' sz' xs'):=h'
      rw[lg,bQ,Ap.row.injEq]at vr
      obtain⟨rfl,rfl,rfl⟩:=vr
      refine⟨Nat.le_refl _,fun _=>⟨by omega,?_⟩⟩
      rcases hc with hc | ⟨l,rfl,rfl,h3⟩
      ·exact .inl hc
      ·refine .inr ⟨l,by simp[Ctx.reloc],by simp,by rw[Nat.zero_add];exact h3⟩
    rcases hh with rfl | ⟨l,hl,rfl,bk⟩
    ·have h0:len=0:=by omega
     subst h0
     have key:=I.reloc hr (Nat.lt_succ_self v) (v':=v+1) (sz':=sz) (xs':=(xs.drop lo).take 0) none (fun _ _ _=>rfl) (Nat.le_refl _) I.below (fun l h=>by cases h) fun m=>
       ⟨au,by simp,by simp,.inl ⟨by simp,by simp[Ctx.reloc]⟩⟩
     exact⟨none,key.1,key.2,fin none (.inl rfl)⟩
    ·have hs:=I.sep r l hl
     have key:=I.reloc hr (Nat.lt_succ_self v) (v':=v+1) (sz':=sz) (xs':=(xs.drop lo).take len) (some ⟨l.b,l.base+lo*sz,l.cap⟩) (fun _ _ _=>rfl) (Nat.le_refl _) I.below (fun l' h=>by
       rw[bQ]at h
       subst h
       exact⟨hs.2.1,hs.2.2.1,hs.2.2.2,fun r' l' ar ko e=>ar (I.inj _ _ _ _ ko hl e)⟩) fun m=>by
         refine⟨au,fun x hx=>bb x (gp x hx),fun x hx=>hg x (gp x hx),?_⟩
         rcases ho with⟨e1,e1'⟩ | ⟨l',arr,T',e1,e2,e3,e4,e5⟩
         ·rw[hl]at e1';cases e1'
         rw[hl,bQ]at e1
         subst e1
         have hmul:(lo+len)*sz≤xs.length*sz:=Nat.mul_le_mul_right _ hle
         refine .inr ⟨⟨l.b,l.base+lo*sz,l.cap⟩,arr,T',by simp[Ctx.reloc],e2,e3,?_,fun i k x c hx hc=>?_⟩
         ·show l.base+lo*sz+_≤l.cap
          rw[hlen];omega
         ·rw[List.getElem?_take]at hx
          split at hx
          ·rw[List.getElem?_drop]at hx
           obtain⟨u',ke,bl⟩:=e5 _ k x c hx hc
           refine⟨u',?_,bl.mono m⟩
           rw[← ke]
           show arr[l.base+lo*sz+(i*sz+k)]? =_
           congr 1
           rw[Nat.add_mul];omega
          ·cases hx
     refine⟨_,key.1,key.2,fin _ (.inr ⟨_,rfl,rfl,?_⟩)⟩
     show l.base+lo*sz+cap*sz≤l.cap
     have:(lo+cap)*sz=lo*sz+cap*sz:=Nat.add_mul _ _ _
     omega
theorem Sub.window {outer:List Fr} {fr:Fr} {H:List Ap} (k:Nat) {r v lo len sz:Nat} {xs:List (List Ac)} (hk:get fr k= .own r v lo len) (hr:H[r]? =some (.row v sz xs)) :
    Sub outer fr H ((k,.own r (v+1) 0 len)::fr) (H.set r (.row (v+1) sz ((xs.drop lo).take len))):=by
  intro W0 A0 ds n outs a w R
  obtain⟨C,rfl,rfl,I,hF,hO,hn,hd⟩:=R.ex
  have hv:=hF k
  rw[hk]at hv
  obtain⟨lx,I',m,hu⟩:=S7 I hr hv
  refine⟨C.reloc r (.row (v+1) sz ((xs.drop lo).take len)) lx,rfl,rfl,I',fun t=>?_,hO.mono m,hn,hd⟩
  simp only[get]
  split
  ·rename_i e;subst e;exact hu
  ·exact(hF t).mono m
attribute [go_sem] Nat.lt_irrefl gt_iff_lt ge_iff_le or_self false_or or_false true_or or_true Nat.le_refl natCast_succ List.take_length if_true if_false and_true true_and and_self and_false false_and not_true_eq_false not_false_eq_true ne_eq Nat.zero_add Nat.add_zero Nat.sub_zero Nat.zero_le List.length_cons List.length_nil bR bT List.length_set bS List.getElem?_cons_zero List.getElem?_cons_succ List.getElem?_nil List.take_zero List.take_succ_cons List.take_nil List.drop_zero List.drop_succ_cons List.drop_nil List.cons_append List.nil_append List.append_nil List.set_cons_zero List.set_cons_succ List.all_cons List.all_nil List.headD_cons List.getD_cons_zero List.getD_cons_succ bP Option.bind_none Option.map_some Option.map_none bQ Bool.and_true Bool.true_and Bool.false_and Bool.and_false Bool.and_self Bool.not_true Bool.not_false Bool.and_eq_true Bool.false_eq_true Bool.true_eq_false cond_true cond_false decide_true decide_false forall_const false_implies true_implies implies_true Int.toNat_natCast Qo Um U3 B5 Nw Qf We V1 Wd Va List.map_cons List.map_nil S2 Int.le_refl Uc Ip Qa Kv Ku L3 Oq
end Go.Ab
namespace Go.Ab
open Go
theorem Eh {α:Type} {n:Nat} {o:Option α} (h:n≤549755813888):chk n o=o:=if_pos h
theorem Yf {α:Type} {n:Int} {o:Option α} (h:n≠0):nz n o=o:=if_neg h
theorem Qn {α:Type} {p:Prop} [Decidable p] {o:Option α} (h:p):okB (decide p) o=o:=by rw[okB,bL h];rfl
section
variable {α σ ρ:Type} {step:Nat→α→σ→Option (Out σ ρ)}
theorem Ov (l:List α) (I:Nat→σ→Prop) (R:ρ→Prop) (hs:∀ k x s,l[k]? =some x→I k s→(∃ s',step k x s=some (.next s')∧I (k+1) s')∨(∃ r,step k x s=some (.ret r)∧R r)) :
    ∀ (n k:Nat) (s:σ),l.length - k=n→k≤l.length→I k s→(∃ s',Bo step k (l.drop k) s=some (.next s')∧I l.length s')∨(∃ r,Bo step k (l.drop k) s=some (.ret r)∧R r)
  | 0,k,s,hn,hk,hI=>by
    have:k=l.length:=by omega
    subst this
    rw[List.drop_length]
    exact .inl ⟨s,rfl,hI⟩
  | n+1,k,s,hn,hk,hI=>by
    have ab:k<l.length:=by omega
    rw[List.drop_eq_getElem_cons ab]
    rcases hs k _ s (bN ab) hI with⟨s',h1,h2⟩ | ⟨r,h1,h2⟩
    ·rcases Ov l I R hs n (k+1) s' (by omega) ab h2 with⟨s2,h3,h4⟩ | ⟨r,h3,h4⟩
     ·exact .inl ⟨s2,by rw[Bo,h1];exact h3,h4⟩
     ·exact .inr ⟨r,by rw[Bo,h1];exact h3,h4⟩
    ·exact .inr ⟨r,by rw[Bo,h1];rfl,h2⟩
theorem M0 {l:List α} {s:σ} (I:Nat→σ→Prop) (R:ρ→Prop) (h0:I 0 s) (hs:∀ k x s,l[k]? =some x→I k s→(∃ s',step k x s=some (.next s')∧I (k+1) s')∨(∃ r,step k x s=some (.ret r)∧R r)) :
    (∃ s',Bo step 0 l s=some (.next s')∧I l.length s')∨(∃ r,Bo step 0 l s=some (.ret r)∧R r):=
  Ov l I R hs _ 0 s rfl (Nat.zero_le _) h0
theorem Iq {l:List α} {s:σ} (I:Nat→σ→Prop) (h0:I 0 s) (hs:∀ k x s,l[k]? =some x→I k s→∃ s',step k x s=some (.next s')∧I (k+1) s') :
    ∃ s',Bo step 0 l s=some (.next s')∧I l.length s':=by
  rcases M0 (ρ:=ρ) I (fun _=>False) h0 (fun k x s h1 h2=>.inl (hs k x s h1 h2))with h | ⟨r,_,h⟩
  ·exact h
  ·exact h.elim
theorem Pj {n k:Nat} {u x:Unit} (h:(List.replicate n u)[k]? =some x):k<n:=by
  have:=(bW.1 h).1;simpa using this
theorem Wm {n:Nat} {s:σ} {step:Nat→Unit→σ→Option (Out σ ρ)} (hn:n≤9223372036854775807) (I:Nat→σ→Prop) (R:ρ→Prop) (h0:I 0 s)
    (hs:∀ k s,k<n→I k s→(∃ s',step k () s=some (.next s')∧I (k+1) s')∨(∃ r,step k () s=some (.ret r)∧R r)) :
    (∃ s',L6 step n s=some (.next s')∧I n s')∨(∃ r,L6 step n s=some (.ret r)∧R r):=by
  rw[L6,if_pos hn]
  have:=M0 (step:=step) (l:=List.replicate n ()) I R h0 (fun k x s h1 h2=>hs k s (Pj h1) h2)
  rwa [bS]at this
theorem Wl {n:Nat} {s:σ} {step:Nat→Unit→σ→Option (Out σ ρ)} (hn:n≤9223372036854775807) (I:Nat→σ→Prop) (h0:I 0 s)
    (hs:∀ k s,k<n→I k s→∃ s',step k () s=some (.next s')∧I (k+1) s'):∃ s',L6 step n s=some (.next s')∧I n s':=by
  rcases Wm (ρ:=ρ) hn I (fun _=>False) h0 (fun k s h1 h2=>.inl (hs k s h1 h2))with h | ⟨r,_,h⟩
  ·exact h
  ·exact h.elim
theorem Pk {β:Type} {step:Nat→α→List β→Option (Out (List β) ρ)} {l:List α} (p:α→Bool) (g:α→β) (hl:l.length≤549755813888)
    (hs:∀ k x s,x∈l→step k x s=bif p x then chk (s.length+1) (some (.next (s++[g x])))else some (.next s)) :
    Bo step 0 l []=some (.next ((l.filter p).map g)):=by
  obtain⟨s',h1,h2⟩:=Iq (step:=step) (l:=l) (s:=[]) (fun k s=>s=((l.take k).filter p).map g) (by simp) (fun k x s hk hI=>by
    have ab:=(bW.1 hk).1
    have hlen:s.length≤k:=by
      rw[hI,bT]
      exact Nat.le_trans (List.length_filter_le _ _) (by simp;omega)
    rw[hs k x s (bO hk)]
    cases hp:p x with
    | true=>
      refine⟨s++[g x],by rw[cond_true,Eh (by omega)],?_⟩
      rw[G6 hk,List.filter_append,List.filter_cons_of_pos hp,List.filter_nil,List.map_append,hI];rfl
    | false=>
      refine⟨s,rfl,?_⟩
      rw[G6 hk,List.filter_append,List.filter_cons_of_neg (by simp[hp]),List.filter_nil,List.append_nil,hI])
  rw[h1,h2,List.take_length]
theorem Jx {step:Nat→α→Unit→Option (Out Unit ρ)} (p:α→Bool) (g:α→ρ):∀ {l:List α} {k:Nat},(∀ k x,x∈l→step k x ()=bif p x then some (.ret (g x))else some (.next ()))→
    Bo step k l ()=match l.find? p with | some x=>some (.ret (g x)) | none=>some (.next ())
  | [],k,_=>rfl
  | x::l,k,hs=>by
    rw[Bo,hs k x (by simp)]
    cases hp:p x with
    | true=>simp[hp,Out.cont]
    | false=>
      rw[List.find?_cons_of_neg (by simp[hp])]
      exact Jx p g (fun k y hy=>hs k y (List.mem_cons_of_mem _ hy))
theorem Ga {step:Nat→α→Unit→Option (Out Unit ρ)}:∀ {l:List α} {k:Nat},Bo step k l ()=some (.next ())↔∀ i x,l[i]? =some x→step (k+i) x ()=some (.next ())
  | [],k=>by simp[Bo]
  | x::l,k=>by
    rw[Bo]
    constructor
    ·intro h i y hy
     obtain⟨o,h1,h2⟩:=A2 h
     cases o with
     | ret r=>cases h2
     | next u=>
       match i,hy with
       | 0,hy=>simp at hy;subst hy;exact h1
       | i+1,hy=>
         have:=(Ga (step:=step)).1 h2 i y (by simpa using hy)
         rw[show k+(i+1)=k+1+i by omega];exact this
    ·intro h
     have h0:=h 0 x (by simp)
     rw[Nat.add_zero]at h0
     rw[h0]
     show Bo step (k+1) l ()=_
     exact(Ga (step:=step)).2 fun i y hy=>by
       have:=h (i+1) y (by simpa using hy)
       rwa [show k+(i+1)=k+1+i by omega]at this
end
theorem Mh {k:Nat} (h0:0<k) (hk:k≤9223372036854775807):IntKind.i64.wrap ((k:Int) - 1)=((k - 1:Nat):Int):=by
  rw[wrap_i64]<;>omega
def I64 (n:Int):Prop:= -9223372036854775808≤n∧n≤9223372036854775807
theorem wf_i64 {n:Int} (h:(Lit.int .i64 n).wf=true):I64 n:=by
  simp[Lit.wf,IntKind.min,IntKind.max,IntKind.signed,IntKind.bits]at h;exact⟨by omega,by omega⟩
def OkL {α:Type} (p:α→Prop) (l:List α):Prop:=l.length≤9223372036854775807∧∀ a∈l,p a
end Go.Ab
namespace Go.Ab
open Go
section
variable {β:Type}
def mkeys (m:List (Int×β)):List Int:=m.map (·.1)
theorem P3 (d:β):∀ (m:List (Int×β)) (k:Int) (v:β) (n:Int),mget d (mset m k v) n=if k=n then v else mget d m n
  | [],k,v,n=>rfl
  | (j,u)::r,k,v,n=>by
    simp only[mset]
    by_cases h:j=k
    ·subst h
     simp only[if_true,mget]
     split<;>rfl
    ·rw[if_neg h]
     simp only[mget]
     by_cases h2:j=n
     ·subst h2
      rw[if_pos rfl,if_neg (fun e=>h e.symm),if_pos rfl]
     ·rw[if_neg h2,if_neg h2,P3 d r k v n]
theorem Mu:∀ (m:List (Int×β)) (k:Int) (v:β) (n:Int),mhas (mset m k v) n=(decide (k=n)||mhas m n)
  | [],k,v,n=>by simp[mset,mhas]
  | (j,u)::r,k,v,n=>by
    simp only[mset]
    by_cases h:j=k
    ·subst h
     simp only[if_true,mhas]
     by_cases h2:j=n<;>simp[h2]
    ·rw[if_neg h]
     simp only[mhas]
     by_cases h2:j=n
     ·simp[h2]
     ·rw[if_neg h2,if_neg h2,Mu r k v n]
end
section
variable {α ρ:Type} {step:α→Unit→Option (Out Unit ρ)}
end
end Go.Ab
namespace Go.Ab
open Go Go.RowKit
theorem Ci.nle {P:Program} {f:FuncId} {args:List Ac} {r':Ac} (h:Ci P f args (fun r=>Bc r r')):Ci P f args (·=r'):=by
  intro A w vs hA hv
  refine(h A w vs hA hv).mono fun e w' ⟨v,r,h1,h2,h3,h4,h5⟩=>?_
  have:=Rr h2 h5
  exact⟨v,r',h1,rfl,this.2 h3,h4,this.1⟩
theorem Sl (l:List Int):((l.map B5).all fun x=>x.all Ac.f0)=true:=by simp[B5,Ac.f0]
attribute [go_sem] rfre Wk U0 Wj Sl ren rens S6 Ri Pe
end Go.Ab
namespace Go.Ab
open Go Go.RowKit Go.Sort
theorem Uy {w:World} {b off:Nat} {arr:Array Value} {T:TypeId} (h:w.heap[b]? =some (.cells arr T (0,0))):w.frozen? ⟨b,off,none⟩=false:=by
  simp[World.frozen?,h]
theorem Sj {w:World} {os:Array Obj} {B:Nat} (hB:B≤w.heap.size):RowKit.Below B w (grow w os):=
  ⟨rfl,rfl,rfl,by simp,fun k hk=>heap_grow_old w os (by omega)⟩
theorem Ctx.Ut (C:Ctx):C.more (fun _=>False)=C:=by
  unfold Ctx.more;simp
theorem Inv.Yl {W0:World} {C:Ctx} {w w':World} (I:Inv W0 C w) (hb:RowKit.Below w.heap.size w w'):Inv W0 C w'∧Cx C w C w':=by
  have:=I.grow (fun _=>False) (fun b h=>h.elim) hb
  rwa [C.Ut]at this
section
variable {P:Program}
def Hb (zs:List Int):List Int:=zs.mergeSort fun x y=>decide (x≤y)
theorem Aw (zs:List Int):(Hb zs).length=zs.length:=List.length_mergeSort _
theorem Xh {A:Nat→Prop} {w w':World} {v:Value} {T:TypeId} {sz:Nat} {xs:List (List Ac)} {news:List Value} (hA:∀ b,A b→b<w.heap.size) (hb:RowKit.Below w.heap.size w w') (bb:1≤sz) (hx:∀ x∈xs,x.length=sz) (hg:∀ x∈xs,∀ c∈x,Ac.g0 c=true)
    (ho:w'.ownsRow w.heap.size T sz v xs.length news) (ag:∀ (i k:Nat) (x:List Ac) (c:Ac),xs[i]? =some x→x[k]? =some c→∃ u,news[i*sz+k]? =some u∧A4 (Ctx.imm A) w u c) :
    ∃ C:Ctx,C.H=[.row 0 sz xs]∧C.A0=A∧C.A=A∧Inv w C w'∧A4 C w' v (.own 0 0 0 xs.length):=by
  have gr:∀ (C:Ctx),C.A=A→∀ {u c},A4 (Ctx.imm A) w u c→c.g0=true→A4 C w' u c:=fun C hC u c h hc=>
    A4.ground (C:=Ctx.imm A) (fun b c8=>⟨by rw[hC];exact c8,hb.block b (hA b c8)⟩) h (Ac.Dx hc)
  obtain⟨hl,ho⟩:=ho
  rcases ho with⟨rfl,h0⟩ | ⟨g,cap,cur,rfl,qc,vc,hn,j7,fj,tv⟩
  ·have k7:xs=[]:=List.eq_nil_of_length_eq_zero h0
   subst k7
   refine⟨⟨A,A,fun _=>none,[.row 0 sz []]⟩,rfl,rfl,rfl,⟨hb,fun b c8=>Nat.lt_of_lt_of_le (hA b c8) hb.size,fun b c8 _=>c8,by simp,by simp,fun r o h=>?_⟩,?_⟩
   ·match r,h with
    | 0,h=>simp at h;subst h;exact⟨bb,by simp,by simp,.inl ⟨rfl,rfl⟩⟩
   ·refine .own none 0 0 0 0 0 ⟨_,rfl,by simp⟩ (Nat.le_refl _) (Nat.zero_le _) fun v' sz' xs' h=>?_
    simp at h;obtain⟨rfl,rfl,rfl⟩:=h
    exact⟨Nat.le_refl _,fun _=>⟨by simp,.inl rfl⟩⟩
  ·have xq:g<w'.heap.size:=(Array.getElem?_eq_some_iff.1 vc).1
   refine⟨⟨A,A,fun r=>if r=0 then some ⟨g,0,cur.size⟩else none,[.row 0 sz xs]⟩,rfl,rfl,rfl,⟨hb,fun b c8=>Nat.lt_of_lt_of_le (hA b c8) hb.size,fun b c8 _=>c8,fun r l h=>?_,fun r r' l l' h h' _=>?_,fun r o h=>?_⟩,?_⟩
   ·simp only at h
    split at h
    ·rename_i e
     obtain rfl:=bV h
     exact⟨by simp[e],qc,xq,fun c8=>by have:=hA _ c8;simp only at this;omega⟩
    ·cases h
   ·simp only at h h'
    split at h
    ·split at h'
     ·omega
     ·cases h'
    ·cases h
   ·match r,h with
    | 0,h=>
      simp at h;subst h
      refine⟨bb,hx,hg,.inr ⟨_,cur,T,rfl,vc,rfl,?_,fun i k x c hi hk=>?_⟩⟩
      ·have:xs.length*sz≤cap*sz:=Nat.mul_le_mul_right _ hn
       simp only;omega
      ·obtain⟨u,hu,hr⟩:=ag i k x c hi hk
       refine⟨u,?_,gr _ rfl hr (hg x (bO hi) c (bO hk))⟩
       rw[← tv,List.getElem?_take]at hu
       split at hu
       ·simpa using hu
       ·cases hu
   ·refine .own _ _ _ 0 0 0 ⟨_,rfl,by simp⟩ hn j7 fun v' sz' xs' h=>?_
    simp at h;obtain⟨rfl,rfl,rfl⟩:=h
    refine⟨Nat.le_refl _,fun _=>⟨by simp,.inr ⟨_,rfl,by simp,?_⟩⟩⟩
    simp only;rw[fj];simp
end
end Go.Ab
namespace Go.Ab
open Go Go.RowKit Go.Maps
section
variable {P:Program}
structure X0 (P:Program) (f c:FuncId) (T:TypeId):Prop where
  run:∀ (mb:Option Nat) (W:World),Calls P f #[.map mb] W fun e w'=>e= .returned (.func (.func c) #[] #[.pointer (some ⟨W.heap.size,0,none⟩)])∧w'=W.alloc (.cells #[.map mb] T)
structure J8 (P:Program) (f c:FuncId) (kT:TypeId):Prop where
  key:P.underlying kT=some (.int .i64)
  run:∀ (b Bm nn:Nat) (D0:DataW Unit) (R:Value→Option (DataW Unit×List MemPlace)) (W:World),W.cell? ⟨Bm,0,none⟩=some (.map (some b))→Bm<W.heap.size→W.ownsMap P kT R b nn D0→Maps.size D0≤maxLen→Maps.size D0*8≤140737488355328→
    Calls P f #[.func (.func c) #[] #[.pointer (some ⟨Bm,0,none⟩)]] W fun e w'=>∃ (v:Value) (ss:List Int),e= .returned v∧ss.Perm (intKeys D0)∧w'.ownsRow W.heap.size kT 1 v ss.length ((ss.mergeSort (fun x y=>decide (x≤y))).map encZ)∧Below W.heap.size W w'
theorem Bg.Jd {f c:FuncId} {T:TypeId} {r:Nat} {es:List (Int×Ac)} {st:List Fr} {H:List Ap} {K:Ac→List Ap→Prop} (hc:∀ (args:Array Value) (w:World),(callFunc f args).run P w= .ok (.enter f args) w)
    (spec:X0 P f c T) (hr:H[r]? =some (.mp es)) (h:K (.func c [.ptr H.length 0]) (H++[.box [.map r]])):Bg P (.func f []) [.map r] st H K:=by
  intro W0 C w outs fv vs I hH hO hf hl hv
  subst hH
  cases hf with
  | func _ caps _ c7 _=>
    have:caps=#[]:=Array.eq_empty_of_size_eq_zero (by simpa using c7)
    subst this
    refine .inl ⟨f,#[],rfl,hc,?_⟩
    match vs,hl with
    | [u],_=>
      have hu:=hv 0 u _ rfl rfl
      cases hu with
      | map b _ hk hh=>
        refine(spec.run (some b) w).mono fun e w' ⟨he,hw⟩=>?_
        subst hw
        have aq:F4 C.H C.H.length:=.inl rfl
        have key:=I.alloc C.H.length aq (.box [.map r]) (.cells #[.map (some b)] T) 0 (fun m=>⟨_,#[.map (some b)],T,Ctx.Hz _ _ _ _,Cj _ _,rfl,fun i u c' h1 h2=>by
          match i,h1,h2 with
          | 0,h1,h2=>
            simp at h1 h2;subst h1 h2
            exact(A4.map b r hk hh).mono m
          | i+1,h1,h2=>simp at h2⟩)
        have ek:Dy C.H C.H.length (.box [.map r])=C.H++[.box [.map r]]:=by simp[Dy]
        refine⟨_,.func c [.ptr C.H.length 0],C.new C.H.length (.box [.map r]) ⟨w.heap.size,0,0⟩,he,?_,rfl,.func c _ _ rfl fun i u c' h1 h2=>?_,key.1,hO.mono key.2⟩
        ·show K _ (Dy C.H C.H.length (.box [.map r]))
         rw[ek];exact h
        ·match i,h1,h2 with
         | 0,h1,h2=>
           simp at h1 h2;subst h1 h2
           exact .ptr _ _ _ (Ctx.G3 aq ⟨w.heap.size,0,0⟩ (by simp)) fun cs _=>⟨_,Ctx.Hz _ _ _ _,rfl⟩
         | i+1,h1,h2=>simp at h2
theorem Xg {w:World} {b:Nat} {en:Array MapEntry} {cl:Nat} {es:List (Int×Ac)} {kT:TypeId} (xg:P.underlying kT=some (.int .i64)) (hb:w.heap[b]? =some (.map en cl)) (ak:F7 false en cl es)
    (hk:∀ p∈es,(Lit.int .i64 p.1).wf=true) (hn:es.length≤maxLen) :
    ∃ D0:DataW Unit,w.ownsMap P kT (fun _=>some (.nil,[])) b es.length D0∧(intKeys D0).Perm (es.map (·.1))∧Maps.size D0=es.length:=by
  have s7:∀ x∈en.toList,∃ p∈es,x.key= .int .i64 p.1:=fun x hx=>by
    obtain⟨i,hi,rfl⟩:=List.getElem_of_mem hx
    have bp:i<en.size:=by simpa using hi
    have h1:en[i]? =some en[i]:=Array.getElem?_eq_getElem bp
    have h2:es[i]? =some (es[i]'(by rw[← ak.size];exact bp)):=bN _
    exact⟨_,bO h2,by simpa using ak.Jd i _ _ h1 h2⟩
  have pt:en.toList.map (·.key)=es.map fun p=>Value.int .i64 p.1:=by
    apply List.ext_getElem?
    intro i
    simp only[List.getElem?_map,Array.getElem?_toList]
    cases h1:en[i]? with
    | none=>
      have:en.size≤i:=by simpa using h1
      rw[List.getElem?_eq_none (by rw[← ak.size];exact this)];rfl
    | some e=>
      have hi:i<en.size:=(Array.getElem?_eq_some_iff.1 h1).1
      have h2:es[i]? =some (es[i]'(by rw[← ak.size];exact hi)):=bN _
      rw[h2];simp only[Option.map_some];rw[ak.Jd i _ _ h1 h2]
  have u3:∀ x∈en.toList,∃ p∈es,x.key= .int .i64 p.1∧Go.WideElems.rd (H:=Unit) P kT (fun _=>some (.nil,[])) x=some (.int .i64 p.1,.nil):=fun x hx=>by
    obtain⟨p,hp,e⟩:=s7 x hx
    refine⟨p,hp,e,?_⟩
    unfold Go.WideElems.rd
    rw[e,keyOf_int_mk xg (hk p hp)];rfl
  have bk:Go.WideElems.Fit (H:=Unit) P kT (fun _=>some (.nil,[])) en cl:=by
    refine⟨by rw[ak.size];exact hn,⟨ak.born,ak.bnodup,?_⟩,fun x hx=>?_⟩
    ·rw[pt]
     refine List.pairwise_map.2 ((List.pairwise_map.1 ak.nodup).imp fun {a b} ar e=>ar ?_)
     simpa using e
    ·obtain⟨p,_,_,h⟩:=u3 x hx;exact⟨_,h⟩
  refine⟨.map ((en.toList.map (Go.WideElems.rg P kT (fun _=>some (.nil,[])))).foldr DataW.insert []),⟨en,cl,hb,bk,by rw[ak.size];exact Nat.le_refl _,rfl⟩,?_,?_⟩
  ·show(List.map (fun p:Lit×DataW Unit=>intOf p.1) _).Perm _
   refine((Go.WideShapes.sorted_perm _).map _).trans ?_
   rw[List.map_map]
   have:en.toList.map ((fun p:Lit×DataW Unit=>intOf p.1)∘Go.WideElems.rg P kT (fun _=>some (.nil,[])))=es.map (·.1):=by
     have e1:en.toList.map ((fun p:Lit×DataW Unit=>intOf p.1)∘Go.WideElems.rg P kT (fun _=>some (.nil,[])))=(en.toList.map (·.key)).map fun v=>match v with | .int _ n=>n | _=>0:=by
       rw[List.map_map]
       refine List.map_congr_left fun x hx=>?_
       obtain⟨p,_,e,h⟩:=u3 x hx
       simp only[Function.comp_apply,Go.WideElems.rg,h,e,Option.getD_some,intOf]
     rw[e1,pt,List.map_map];rfl
   rw[this]
  ·simp[Maps.size,length_sorted,ak.size]
theorem Bg.Rb {f c:FuncId} {kT:TypeId} {r b:Nat} {es:List (Int×Ac)} {st:List Fr} {H:List Ap} {K:Ac→List Ap→Prop} (hc:∀ (args:Array Value) (w:World),(callFunc f args).run P w= .ok (.enter f args) w)
    (spec:J8 P f c kT) (hb:H[b]? =some (.box [.map r])) (hr:H[r]? =some (.mp es)) (hk:∀ p∈es, -9223372036854775808≤p.1∧p.1≤9223372036854775807) (hn:es.length≤549755813888)
    (h:K (.own H.length 0 0 es.length) (H++[.row 0 1 ((Go.Ab.Hb (es.map (·.1))).map B5)])):Bg P (.func f []) [.func c [.ptr b 0]] st H K:=by
  intro W0 C w outs fv vs I hH hO hf hl hv
  subst hH
  cases hf with
  | func _ caps _ c7 _=>
    have:caps=#[]:=Array.eq_empty_of_size_eq_zero (by simpa using c7)
    subst this
    refine .inl ⟨f,#[],rfl,hc,?_⟩
    match vs,hl with
    | [u],_=>
      have hu:=hv 0 u _ rfl rfl
      cases hu with
      | func _ arr _ yb ue=>
        obtain⟨pv,rfl⟩:∃ pv,arr=#[pv]:=by
          have:arr.size=1:=by simpa using yb
          exact⟨arr[0],by apply Array.ext<;>simp[this];intro i h1;have:i=0:=by omega
                          subst this;rfl⟩
        have hp:=ue 0 pv _ rfl rfl
        cases hp with
        | ptr a _ _ nt wz=>
          obtain⟨l,hl,rfl⟩:=wz _ hb
          obtain⟨l',carr,T,e1,e2,e3,e4⟩:=I.objs b _ hb
          rw[hl,bQ]at e1;subst e1
          obtain⟨mv,rfl⟩:∃ mv,carr=#[mv]:=by
            have:carr.size=1:=by simpa using e3
            exact⟨carr[0],by apply Array.ext<;>simp[this];intro i h1;have:i=0:=by omega
                             subst this;rfl⟩
          have hm:=e4 0 mv _ rfl rfl
          cases hm with
          | map bm _ yy w9=>
            obtain⟨lm,xe,rfl⟩:=w9 _ hr rfl
            obtain⟨lm',en,cl,m1,m2,m3,m4,m5⟩:=I.objs r _ hr
            rw[xe,bQ]at m1;subst m1
            obtain⟨D0,o1,o2,o3⟩:=Xg (P:=P) spec.key m2 m3 (fun p hp=>by
              have:=hk p hp
              exact WalkArith.wf_i64 (by omega)) (by unfold maxLen;omega)
            have af:w.cell? ⟨l.b,0,none⟩=some (.map (some lm.b)):=by simp[World.cell?,e2]
            refine(spec.run lm.b l.b es.length D0 _ w af (I.sep b l hl).2.2.1 o1 (by rw[o3];unfold maxLen;omega) (by rw[o3];omega)).mono fun e w' ⟨v,ss,he,wc,gq,ud⟩=>?_
            have lh:ss.Perm (es.map (·.1)):=wc.trans o2
            have dq:ss.mergeSort (fun x y=>decide (x≤y))=Go.Ab.Hb (es.map (·.1)):=mergeSort_of_perm_i lh
            have hlen:ss.length=es.length:=by rw[lh.length_eq,bT]
            have l5:((Go.Ab.Hb (es.map (·.1))).map B5).length=es.length:=by rw[bT,Aw,bT]
            rw[dq,hlen,← l5]at gq
            obtain⟨C',c1,c2,c3,c4,c5⟩:=Xh (A:=C.A) (sz:=1) (xs:=(Go.Ab.Hb (es.map (·.1))).map B5) I.sub ud (Nat.le_refl _) (fun x hx=>by
              obtain⟨z,_,rfl⟩:=List.mem_map.1 hx;rfl) (fun x hx cc nw=>by
              obtain⟨z,_,rfl⟩:=List.mem_map.1 hx
              simp[B5]at nw;subst nw;rfl) gq (fun i k x cc hx nw=>by
              simp only[List.getElem?_map,Option.map_eq_some_iff]at hx
              obtain⟨z,hz,rfl⟩:=hx
              have cn:k=0:=by
                have:=(bW.1 nw).1
                simp[B5]at this;exact this
              subst cn
              simp[B5]at nw;subst nw
              exact⟨.int .i64 z,by simp[hz],.int _ _⟩)
            have aq:F4 C.H C.H.length:=.inl rfl
            have key:=I.place c4 (fun b' c8=>by rw[c2]at c8;exact c8) aq c1
            refine⟨v,.own C.H.length 0 0 es.length,C.place C' C.H.length _,he,?_,rfl,?_,key.1,hO.mono key.2.1⟩
            ·show K _ (Dy C.H C.H.length _)
             rw[show Dy C.H C.H.length (Ap.row 0 1 ((Go.Ab.Hb (es.map (·.1))).map B5))=C.H++[.row 0 1 ((Go.Ab.Hb (es.map (·.1))).map B5)] by simp[Dy]]
             exact h
            ·rw[l5]at c5
             exact c5.ren key.2.2
end
end Go.Ab
namespace Go.Ab
open Go Go.RowKit
theorem Ew.mk' {es:List (Int×Ac)} {n:Int} {z:Ac} {K:Ac→Bool→Prop} (h1:∀ v,alook es n=some v→K v true) (h2:alook es n=none→K z false):Ew es n z K:=⟨h1,h2⟩
theorem Bg.Ra {P:Program} {f c:FuncId} {kT:TypeId} {r b:Nat} {β:Type} {fv:β→Ac} {m:List (Int×β)} {st:List Fr} {H:List Ap} {K:Ac→List Ap→Prop} (hc:∀ (args:Array Value) (w:World),(callFunc f args).run P w= .ok (.enter f args) w)
    (spec:J8 P f c kT) (hb:H[b]? =some (.box [.map r])) (hr:H[r]? =some (.mp (mpE fv m))) (hk:∀ k∈mkeys m, -9223372036854775808≤k∧k≤9223372036854775807) (hn:m.length≤549755813888)
    (h:K (.own H.length 0 0 (Go.Ab.Hb (mkeys m)).length) (H++[.row 0 1 ((Go.Ab.Hb (mkeys m)).map B5)])):Bg P (.func f []) [.func c [.ptr b 0]] st H K:=by
  have e:(mpE fv m).map (·.1)=mkeys m:=by simp[mpE,mkeys]
  refine Bg.Rb hc spec hb hr (fun p hp=>hk _ ?_) (by rw[Qo];exact hn) ?_
  ·rw[← e];exact List.mem_map_of_mem hp
  ·rw[e,Qo]
   rw[Aw]at h
   simpa[mkeys]using h
end Go.Ab
namespace Go.Ab
open Go
section
variable {α σ ρ:Type}
end
def Inc (l:List Int):Prop:=l.Pairwise (·< ·)
theorem Inc.nodup {l:List Int} (h:Inc l):l.Nodup:=List.Pairwise.imp (fun h e=>by omega) h
end Go.Ab
namespace Go.Ab
open Go Go.RowKit
variable {P:Program} {md:Option Nat}
theorem Pg {W0:World} {C:Ctx} {w:World} (I:Inv W0 C w) {T:TypeId} {x i:Value} {r:Nat} {a b:Int} {e:TypeId} {es:List (Int×Ac)} {ok:Bool} {K:Ac→Prop} (hx:A4 C w x (.map r)) (hi:A4 C w i (.agg [.int .i64 a,.int .i64 b]))
    (hT:Th P T=some e) (hr:C.H[r]? =some (.mpo true es)) (hz:(zeroV P e).isSome=true) (o:Bool) (h:Ew es (pk a b) (Q5 P e o) (Ub ok K)):Quiet C w ((Instr.lookup T x i ok).run P w) K:=by
  obtain rfl:=Xy hi
  obtain⟨z,hz⟩:=Option.isSome_iff_exists.1 hz
  obtain⟨k,hU,hk⟩:=P4 hT
  have ja:=Ps (P:=P) C w hz o
  have fin:∀ (v:Value) (a:Ac) (b:Bool),A4 C w v a→K (if ok then .tuple [a,.bool b]else a)→Quiet C w (.ok (if ok then .tuple #[v,.bool b]else v) w) K:=by
    intro v a b hv hK
    cases ok with
    | true=>
      refine .mk' rfl (.tuple _ _ rfl fun i u c h1 h2=>?_) hK
      match i,h1,h2 with
      | 0,h1,h2=>simp at h1 h2;subst h1 h2;exact hv
      | 1,h1,h2=>simp at h1 h2;subst h1 h2;exact .bool b
      | i+2,h1,h2=>simp at h2
    | false=>exact .mk' rfl hv hK
  cases hx with
  | map m _ ab hh=>
    obtain⟨l,hl,rfl⟩:=hh _ hr rfl
    obtain⟨l',en,cl,h1,hb,ak,ag⟩:=I.objs r _ hr
    rw[hl,bQ]at h1
    subst h1
    obtain⟨r',hf,dg⟩:=Xz (P:=P) (w:=w) hk (⟨a,b,rfl,rfl⟩:Kx true (.agg #[.int .i64 a,.int .i64 b]) (pk a b)) en.toList es (by simpa using ak.size) (fun j e p a b=>ak.keys j e p (by simpa using a) b)
    have hc:=O2 (P:=P) (w:=w) hk en.isEmpty a b
    rcases dg with⟨h3,rfl⟩ | ⟨j,e',v,h3,rfl,h4,h5,_,_⟩
    ·have:=fin z _ false ja (h.2 h3)
     have aj:(Instr.lookup T (.map (some l.b)) (.agg #[.int .i64 a,.int .i64 b]) ok).run P w= .ok (if ok then .tuple #[z,.bool false]else z) w:=by
       simp[Instr.lookup,Dq hU,getObj,Sem.run,hb,hc,hf,Ig hz]
     rw[aj];exact this
    ·have:=fin e'.val _ true (ag j e' _ (by simpa using h4) h5) (h.1 _ h3)
     have aj:(Instr.lookup T (.map (some l.b)) (.agg #[.int .i64 a,.int .i64 b]) ok).run P w= .ok (if ok then .tuple #[e'.val,.bool true]else e'.val) w:=by
       simp[Instr.lookup,Dq hU,getObj,Sem.run,hb,hc,hf]
     rw[aj];exact this
theorem ALP.op1 {n:Nat} {outer:List Fr} {all rest:List Oper} {Q:Exit→Fr→List Ap→Prop} {fr:Fr} {H:List Ap} {dst:Option Tmp} {op:Op} {type:TypeId} {pos:String} {after:Array Edge} (hd:(match dst with | some d=>Nat.blt d n | none=>true)=true) (sj:∀ c,op≠.defer c)
    (h:∀ (W0:World) (C:Ctx) (w:World) (ρ:Operand→Value),Inv W0 C w→C.H=H→(∀ x,A4 C w (ρ x) (ev fr x))→Ie W0 C w ((execOp ρ {dst,op,type,pos,after,guard:=none}).run P w) (fun v ef=>ALP md P n outer all rest Q (put fr dst v) (ef.app H))) :
    ALP md P n outer all ({dst,op,type,pos,after,guard:=none}::rest) Q fr H:=by
  intro W0 A0 ds outs a w R
  obtain⟨C,rfl,rfl,I,hF,hO,hn,qb⟩:=R.ex
  have ab:∀ k,dst=some k→k<a.tmps.size:=by
    intro k hk
    subst hk
    rw[hn]
    simpa using hd
  have srep:∀ (C':Ctx) (w':World) (v:Value) (r:Ac),C'.A0=C.A0→Inv W0 C' w'→Hm C' w' a.tmps fr→Cr C' w' outs outer→A4 C' w' v r→C7 W0 C.A0 ds n outs outer (put fr dst r) C'.H (a.put dst v) w':=
    fun C' w' v r e I' nh gg hv=>⟨C',rfl,e,I',nh.put hv dst ab,gg,by rw[Ob,hn],by rw[put_defers,qb]⟩
  unfold wpListIn
  rw[if_pos (by simp[Region.wanted])]
  unfold Oper.wpIn
  refine⟨fun _ _=>trivial,?_⟩
  rw[Oper.semAt_eq _ _ _ sj]
  obtain⟨r,w',C',ef,gu,hk,hH,I',m⟩:=(h W0 C w a.eval I rfl (Gw hF)).ex
  rw[← hH]at hk
  rcases gu with⟨v,aj,hv⟩ | ⟨aj,rfl⟩
  ·rw[aj,Oper.uponIn_value]
   exact hk W0 C.A0 ds outs _ w' (srep C' w' v r m.A0 I' (hF.mono m) (hO.mono m) hv)
  ·rw[aj,Oper.uponIn_skip]
   exact hk W0 C.A0 ds outs _ w' (srep C' w' undef _ m.A0 I' (hF.mono m) (hO.mono m) (Ih C' w'))
theorem ALP.Yi {n:Nat} {outer:List Fr} {all rest:List Oper} {Q:Exit→Fr→List Ap→Prop} {fr:Fr} {H:List Ap} {dst:Option Tmp} {T:TypeId} {x i:Operand} {ok:Bool} {type:TypeId} {pos:String} {after:Array Edge}
    {r:Nat} {a b:Int} {e:TypeId} {es:List (Int×Ac)} (hd:(match dst with | some d=>Nat.blt d n | none=>true)=true) (hx:ev fr x= .map r) (hi:ev fr i= .agg [.int .i64 a,.int .i64 b])
    (hT:Th P T=some e) (hr:H[r]? =some (.mpo true es)) (hz:(zeroV P e).isSome=true) (h:Ew es (pk a b) (azero P e) (Ub ok fun v=>ALP md P n outer all rest Q (put fr dst v) H)) :
    ALP md P n outer all ({dst,op:=.lookup T x i ok,type,pos,after,guard:=none}::rest) Q fr H:=by
  refine ALP.op1 hd (by simp) fun W0 C w ρ I hH he=>?_
  subst hH
  have nr:=he x
  have bp:=he i
  rw[hx]at nr;rw[hi]at bp
  unfold execOp
  exact .Dj I (Pg I nr bp hT hr hz true h)
theorem Sub.toQ {outer:List Fr} {fr:Fr} {H:List Ap} (r:Nat) (hr:H[r]? =some (.mp [])):Sub outer fr H fr (H.set r (.mpo true [])):=by
  intro W0 A0 ds n outs a w R
  obtain⟨C,rfl,rfl,I,hF,hO,hn,hd⟩:=R.ex
  obtain⟨l,en,cl,e1,e2,e3,e4,e5⟩:=I.objs r _ hr
  have ab:r<C.H.length:=(bW.1 hr).1
  have key:=I.put hr e1 (w':=w) (o':=.mpo true []) (fun _ _=>rfl) rfl I.below (by
    unfold Cd
    simp only[Ctx.set,List.getElem?_set_self ab]
    exact⟨⟨_,hr,rfl⟩,trivial⟩) fun m=>⟨l,en,cl,e1,e2,⟨e3.size,by simp,e3.nodup,e3.born,e3.bnodup⟩,by simp⟩
  exact⟨C.set r (.mpo true []),rfl,rfl,key.1,fun t=>(hF t).mono key.2,hO.mono key.2,hn,hd⟩
end Go.Ab
namespace Go.Proofs.YtooopbnnhbacjaaGreat
open Go Go.Ab
theorem Tryz.mixed:Tryz.prog.follows .mixedOrders=true:=by kernel_rfl
@[go_sem] theorem sz3:Bl Tryz.prog 3=1:=by kernel_rfl
@[go_sem] theorem by3:bytesOf Tryz.prog 3=8:=by kernel_rfl
@[go_sem] theorem un3:Program.underlying Tryz.prog 3=some (.int .i64):=by kernel_rfl
@[go_sem] theorem zc3:B1 Tryz.prog 3=[.int .i64 0]:=by kernel_rfl
@[go_sem] theorem zv3:azero Tryz.prog 3= .int .i64 0:=by kernel_rfl
@[go_sem] theorem sz4:Bl Tryz.prog 4=1:=by kernel_rfl
@[go_sem] theorem zv4:azero Tryz.prog 4= .bool false:=by kernel_rfl
@[go_sem] theorem Z8:Program.underlying Tryz.prog 22=some (.slice 39):=by kernel_rfl
@[go_sem] theorem bC:F2 Tryz.prog 22=some 39:=by kernel_rfl
@[go_sem] theorem aL:Bl Tryz.prog 23=1:=by kernel_rfl
@[go_sem] theorem Z7:Program.underlying Tryz.prog 23=some (.slice 3):=by kernel_rfl
@[go_sem] theorem bB:F2 Tryz.prog 23=some 3:=by kernel_rfl
@[go_sem] theorem Z1:B1 Tryz.prog 23=[.nils]:=by kernel_rfl
@[go_sem] theorem aK:Bl Tryz.prog 27=1:=by kernel_rfl
@[go_sem] theorem Z6:Program.underlying Tryz.prog 27=some (.slice 59):=by kernel_rfl
@[go_sem] theorem bA:F2 Tryz.prog 27=some 59:=by kernel_rfl
@[go_sem] theorem aJ:Bl Tryz.prog 28=1:=by kernel_rfl
@[go_sem] theorem Z5:Program.underlying Tryz.prog 28=some (.slice 51):=by kernel_rfl
@[go_sem] theorem a8:F2 Tryz.prog 28=some 51:=by kernel_rfl
@[go_sem] theorem aI:Bl Tryz.prog 29=1:=by kernel_rfl
@[go_sem] theorem Z4:Program.underlying Tryz.prog 29=some (.slice 42):=by kernel_rfl
@[go_sem] theorem aZ:F2 Tryz.prog 29=some 42:=by kernel_rfl
@[go_sem] theorem aH:Bl Tryz.prog 31=3:=by kernel_rfl
@[go_sem] theorem Z0:B1 Tryz.prog 31=[.nils,.nils,.nils]:=by kernel_rfl
@[go_sem] theorem Zn:Ck Tryz.prog 31 0=some (0,1):=by kernel_rfl
@[go_sem] theorem Zm:Ck Tryz.prog 31 1=some (1,1):=by kernel_rfl
@[go_sem] theorem Zl:Ck Tryz.prog 31 2=some (2,1):=by kernel_rfl
@[go_sem] theorem aT:placesOf Tryz.prog 31=some [(0,1),(1,1),(2,1)]:=by kernel_rfl
@[go_sem] theorem aG:Bl Tryz.prog 39=7:=by kernel_rfl
@[go_sem] theorem bI:bytesOf Tryz.prog 39=56:=by kernel_rfl
@[go_sem] theorem Zz:B1 Tryz.prog 39=[.int .i64 0,.int .i64 0,.int .i64 0,.int .i64 0,.int .i64 0,.int .i64 0,.int .i64 0]:=by kernel_rfl
@[go_sem] theorem Zk:Ck Tryz.prog 39 0=some (0,1):=by kernel_rfl
@[go_sem] theorem Zj:Ck Tryz.prog 39 1=some (1,1):=by kernel_rfl
@[go_sem] theorem Zi:Ck Tryz.prog 39 2=some (2,1):=by kernel_rfl
@[go_sem] theorem Zh:Ck Tryz.prog 39 3=some (3,1):=by kernel_rfl
@[go_sem] theorem Zg:Ck Tryz.prog 39 4=some (4,1):=by kernel_rfl
@[go_sem] theorem Zf:Ck Tryz.prog 39 5=some (5,1):=by kernel_rfl
@[go_sem] theorem Ze:Ck Tryz.prog 39 6=some (6,1):=by kernel_rfl
@[go_sem] theorem aW:Hh Tryz.prog 39=some [(0,false),(1,false),(2,false),(3,false),(4,false),(5,false),(6,false)]:=by kernel_rfl
@[go_sem] theorem aF:Bl Tryz.prog 42=8:=by kernel_rfl
@[go_sem] theorem bH:bytesOf Tryz.prog 42=64:=by kernel_rfl
@[go_sem] theorem Yr:(zeroV Tryz.prog 42).isSome=true:=by kernel_rfl
@[go_sem] theorem Zy:B1 Tryz.prog 42=[.int .i64 0,.int .i64 0,.int .i64 0,.int .i64 0,.int .i64 0,.int .i64 0,.int .i64 0,.int .i64 0]:=by kernel_rfl
@[go_sem] theorem Zr:azero Tryz.prog 42= .agg [.int .i64 0,.int .i64 0,.int .i64 0,.int .i64 0,.int .i64 0,.int .i64 0,.int .i64 0,.int .i64 0]:=by kernel_rfl
@[go_sem] theorem Zd:Ck Tryz.prog 42 0=some (0,1):=by kernel_rfl
@[go_sem] theorem Zc:Ck Tryz.prog 42 1=some (1,7):=by kernel_rfl
@[go_sem] theorem aS:placesOf Tryz.prog 42=some [(0,1),(1,7)]:=by kernel_rfl
@[go_sem] theorem aE:Bl Tryz.prog 48=2:=by kernel_rfl
@[go_sem] theorem bG:bytesOf Tryz.prog 48=16:=by kernel_rfl
@[go_sem] theorem Zx:B1 Tryz.prog 48=[.int .i64 0,.int .i64 0]:=by kernel_rfl
@[go_sem] theorem Zb:Ck Tryz.prog 48 0=some (0,1):=by kernel_rfl
@[go_sem] theorem Za:Ck Tryz.prog 48 1=some (1,1):=by kernel_rfl
@[go_sem] theorem aR:placesOf Tryz.prog 48=some [(0,1),(1,1)]:=by kernel_rfl
@[go_sem] theorem aD:Bl Tryz.prog 49=1:=by kernel_rfl
@[go_sem] theorem Z3:Program.underlying Tryz.prog 49=some (.slice 48):=by kernel_rfl
@[go_sem] theorem aY:F2 Tryz.prog 49=some 48:=by kernel_rfl
@[go_sem] theorem aC:Bl Tryz.prog 51=4:=by kernel_rfl
@[go_sem] theorem bF:bytesOf Tryz.prog 51=32:=by kernel_rfl
@[go_sem] theorem Zw:B1 Tryz.prog 51=[.int .i64 0,.int .i64 0,.int .i64 0,.int .i64 0]:=by kernel_rfl
@[go_sem] theorem Y9:Ck Tryz.prog 51 0=some (0,1):=by kernel_rfl
@[go_sem] theorem Y8:Ck Tryz.prog 51 1=some (1,1):=by kernel_rfl
@[go_sem] theorem Y7:Ck Tryz.prog 51 2=some (2,1):=by kernel_rfl
@[go_sem] theorem Y6:Ck Tryz.prog 51 3=some (3,1):=by kernel_rfl
@[go_sem] theorem aQ:placesOf Tryz.prog 51=some [(0,1),(1,1),(2,1),(3,1)]:=by kernel_rfl
@[go_sem] theorem aV:Hh Tryz.prog 51=some [(0,false),(1,false),(2,false),(3,false)]:=by kernel_rfl
@[go_sem] theorem Zv:B1 Tryz.prog 57=[.int .i64 0,.int .i64 0]:=by kernel_rfl
@[go_sem] theorem Y5:Ck Tryz.prog 57 0=some (0,1):=by kernel_rfl
@[go_sem] theorem Y4:Ck Tryz.prog 57 1=some (1,1):=by kernel_rfl
@[go_sem] theorem aP:placesOf Tryz.prog 57=some [(0,1),(1,1)]:=by kernel_rfl
@[go_sem] theorem aB:Bl Tryz.prog 59=5:=by kernel_rfl
@[go_sem] theorem bE:bytesOf Tryz.prog 59=56:=by kernel_rfl
@[go_sem] theorem Zu:B1 Tryz.prog 59=[.int .i64 0,.int .i64 0,.int .i64 0,.bool false,.nils]:=by kernel_rfl
@[go_sem] theorem Y3:Ck Tryz.prog 59 0=some (0,1):=by kernel_rfl
@[go_sem] theorem Y2:Ck Tryz.prog 59 1=some (1,2):=by kernel_rfl
@[go_sem] theorem Y1:Ck Tryz.prog 59 2=some (3,1):=by kernel_rfl
@[go_sem] theorem Y0:Ck Tryz.prog 59 3=some (4,1):=by kernel_rfl
@[go_sem] theorem aO:placesOf Tryz.prog 59=some [(0,1),(1,2),(3,1),(4,1)]:=by kernel_rfl
@[go_sem] theorem Z2:Program.underlying Tryz.prog 62=some (.slice 66):=by kernel_rfl
@[go_sem] theorem aX:F2 Tryz.prog 62=some 66:=by kernel_rfl
@[go_sem] theorem aA:Bl Tryz.prog 66=3:=by kernel_rfl
@[go_sem] theorem bD:bytesOf Tryz.prog 66=24:=by kernel_rfl
@[go_sem] theorem Zt:B1 Tryz.prog 66=[.int .i64 0,.int .i64 0,.int .i64 0]:=by kernel_rfl
@[go_sem] theorem Yz:Ck Tryz.prog 66 0=some (0,1):=by kernel_rfl
@[go_sem] theorem Yy:Ck Tryz.prog 66 1=some (1,1):=by kernel_rfl
@[go_sem] theorem Yx:Ck Tryz.prog 66 2=some (2,1):=by kernel_rfl
@[go_sem] theorem aN:placesOf Tryz.prog 66=some [(0,1),(1,1),(2,1)]:=by kernel_rfl
@[go_sem] theorem Bz:Th Tryz.prog 70=some 42:=by kernel_rfl
@[go_sem] theorem Z9:Bl Tryz.prog 72=2:=by kernel_rfl
@[go_sem] theorem Zs:B1 Tryz.prog 72=[.int .i64 0,.int .i64 0]:=by kernel_rfl
@[go_sem] theorem aM:placesOf Tryz.prog 72=some [(0,1),(1,1)]:=by kernel_rfl
@[go_sem] theorem aU:Qr Tryz.prog 96=some 3:=by kernel_rfl
@[go_sem] theorem Zp:Program.underlying Tryz.prog 109=some (.int .u64):=by kernel_rfl
@[go_sem] theorem Zq:Qr Tryz.prog 120=some 4:=by kernel_rfl
structure A1 where
  Gate:Int
  Seq:Int
  Serial:Int
  Counter:Int
  Product:Int
  Lift:Int
  At:Int
  deriving DecidableEq,Inhabited
def Bn (x:A1):List Ac:=[.int .i64 x.Gate,.int .i64 x.Seq,.int .i64 x.Serial,.int .i64 x.Counter,.int .i64 x.Product,.int .i64 x.Lift,.int .i64 x.At]
theorem Oz (l:List A1) (a0:Int) (a1:Int) (a2:Int) (a3:Int) (a4:Int) (a5:Int) (a6:Int):l.map Bn++[[.int .i64 a0,.int .i64 a1,.int .i64 a2,.int .i64 a3,.int .i64 a4,.int .i64 a5,.int .i64 a6]]=(l++[(A1.mk a0 a1 a2 a3 a4 a5 a6)]).map Bn:=by simp[Bn]
def Kl (x:A1):Prop:=I64 x.Gate∧I64 x.Seq∧I64 x.Serial∧I64 x.Counter∧I64 x.Product∧I64 x.Lift∧I64 x.At
attribute [go_sem] Bn Oz
structure Gp where
  From:Int
  To:Int
  deriving DecidableEq,Inhabited
structure Ax where
  Operator:Int
  Amount:Int
  deriving DecidableEq,Inhabited
def Am (x:Ax):List Ac:=[.int .i64 x.Operator,.int .i64 x.Amount]
theorem Nz (l:List Ax) (a0:Int) (a1:Int):l.map Am++[[.int .i64 a0,.int .i64 a1]]=(l++[(Ax.mk a0 a1)]).map Am:=by simp[Am]
theorem Lg (l:List Ax):((l.map Am).all fun x=>x.all Ac.f0)=true:=by simp[Am,Ac.f0]
attribute [go_sem] Lg
attribute [go_sem] Am Nz
structure Ao where
  Number:Int
  Span:Gp
  Closed:Bool
  Shares:List Ax
  deriving DecidableEq,Inhabited
def Ay (x:Ao):List Ac:=[.int .i64 x.Number,.int .i64 x.Span.From,.int .i64 x.Span.To,.bool x.Closed,.sl 2 (x.Shares.map Am)]
theorem M1 (l:List Ao) (i:Nat) (a0:Int) (a1:Int) (a2:Int) (a3:Bool) (a4:List Ax):(l.map Ay).set i [.int .i64 a0,.int .i64 a1,.int .i64 a2,.bool a3,.sl 2 (a4.map Am)]=(l.set i (Ao.mk a0 (Gp.mk a1 a2) a3 a4)).map Ay:=by simp[Ay]
attribute [go_sem] Ay M1
structure Bi where
  Ref:Int
  From:Int
  To:Int
  Amount:Int
  deriving DecidableEq,Inhabited
def Az (x:Bi):List Ac:=[.int .i64 x.Ref,.int .i64 x.From,.int .i64 x.To,.int .i64 x.Amount]
theorem L9 (l:List Bi) (a0:Int) (a1:Int) (a2:Int) (a3:Int):l.map Az++[[.int .i64 a0,.int .i64 a1,.int .i64 a2,.int .i64 a3]]=(l++[(Bi.mk a0 a1 a2 a3)]).map Az:=by simp[Az]
theorem J1 (l:List Bi):((l.map Az).all fun x=>x.all Ac.f0)=true:=by simp[Az,Ac.f0]
attribute [go_sem] J1
attribute [go_sem] Az L9
structure Ar where
  Period:Int
  Ride:A1
  deriving DecidableEq,Inhabited
def A5 (x:Ar):List Ac:=[.int .i64 x.Period,.int .i64 x.Ride.Gate,.int .i64 x.Ride.Seq,.int .i64 x.Ride.Serial,.int .i64 x.Ride.Counter,.int .i64 x.Ride.Product,.int .i64 x.Ride.Lift,.int .i64 x.Ride.At]
def B6 (x:Ar):Ac:=.agg (A5 x)
theorem Ma (l:List Ar) (a0:Int) (a1:Int) (a2:Int) (a3:Int) (a4:Int) (a5:Int) (a6:Int) (a7:Int):l.map A5++[[.int .i64 a0,.int .i64 a1,.int .i64 a2,.int .i64 a3,.int .i64 a4,.int .i64 a5,.int .i64 a6,.int .i64 a7]]=(l++[(Ar.mk a0 (A1.mk a1 a2 a3 a4 a5 a6 a7))]).map A5:=by simp[A5]
theorem Lc (m:List (Int×Ar)) (n:Int) (a0:Int) (a1:Int) (a2:Int) (a3:Int) (a4:Int) (a5:Int) (a6:Int) (a7:Int):aset (mpE B6 m) n (.agg [.int .i64 a0,.int .i64 a1,.int .i64 a2,.int .i64 a3,.int .i64 a4,.int .i64 a5,.int .i64 a6,.int .i64 a7])=mpE B6 (mset m n (Ar.mk a0 (A1.mk a1 a2 a3 a4 a5 a6 a7))):=Md B6 m n (Ar.mk a0 (A1.mk a1 a2 a3 a4 a5 a6 a7))
theorem Ah (n:Int) (a0:Int) (a1:Int) (a2:Int) (a3:Int) (a4:Int) (a5:Int) (a6:Int) (a7:Int):aset [] n (.agg [.int .i64 a0,.int .i64 a1,.int .i64 a2,.int .i64 a3,.int .i64 a4,.int .i64 a5,.int .i64 a6,.int .i64 a7])=mpE B6 (mset [] n (Ar.mk a0 (A1.mk a1 a2 a3 a4 a5 a6 a7))):=rfl
attribute [go_sem] A5 B6 Ma Lc
structure Be where
  Periods:List Ao
  Postings:List Bi
  Rides:List Ar
  deriving DecidableEq,Inhabited
def Cu (x:Be):List Ac:=[.sl 5 (x.Periods.map Ay),.sl 4 (x.Postings.map Az),.sl 8 (x.Rides.map A5)]
attribute [go_sem] Cu
structure C8 where
  From:Int
  To:Int
  Amount:Int
  deriving DecidableEq,Inhabited
def Ep (x:C8):List Ac:=[.int .i64 x.From,.int .i64 x.To,.int .i64 x.Amount]
attribute [go_sem] Ep
structure Kk where
  gate:Int
  seq:Int
  deriving DecidableEq,Inhabited
def L8 (x:Kk):List Ac:=[.int .i64 x.gate,.int .i64 x.seq]
attribute [go_sem] L8
attribute [go_sem] Nat.reduceAdd Nat.reduceMul Nat.reduceSub Int.reduceToNat
end Go.Proofs.YtooopbnnhbacjaaGreat
set_option linter.all false
namespace Go.Proofs.YtooopbnnhbacjaaGreat
open Go Go.Ab Go.Shelf Go.RowKit Go.Sort
def Tryz.lkeys_ren:Go.Shelf.Ren:=⟨fun | 7=>48 | 10=>72 | n=>n,fun | 23=>96 | 26=>3 | 27=>98 | 28=>99 | 33=>105 | n=>n,fun | n=>n⟩
theorem Tryz.lkeys:SlLaysZI.n7 Tryz.prog Tryz.lkeys_ren:={
  mixed:=by kernel_rfl
  f7:=⟨Tryz.f48.name,by kernel_rfl,Tryz.func48.trans (congrArg some (by kernel_rfl))⟩
  f10:=⟨Tryz.f72.name,by kernel_rfl,Tryz.func72.trans (congrArg some (by kernel_rfl))⟩
  t0:=Tryz.underlying0
  a0:=Tryz.isAgg0
  z0:=Tryz.sizeOf0
  v0:=Tryz.zeroValue0
  t4:=Tryz.underlying4
  a4:=Tryz.isAgg4
  z4:=Tryz.sizeOf4
  v4:=Tryz.zeroValue4
  t23:=Tryz.underlying96
  a23:=Tryz.isAgg96
  z23:=Tryz.sizeOf96
  v23:=Tryz.zeroValue96
  t26:=Tryz.underlying3
  a26:=Tryz.isAgg3
  z26:=Tryz.sizeOf3
  v26:=Tryz.zeroValue3
  t27:=Tryz.underlying98
  a27:=Tryz.isAgg98
  z27:=Tryz.sizeOf98
  v27:=Tryz.zeroValue98
  t28:=Tryz.underlying99
  a28:=Tryz.isAgg99
  z28:=Tryz.sizeOf99
  v28:=Tryz.zeroValue99
  t33:=Tryz.underlying105
  a33:=Tryz.isAgg105
  z33:=Tryz.sizeOf105
  v33:=Tryz.zeroValue105
}
def Tryz.lsorted_ren:Go.Shelf.Ren:=⟨fun | 6=>47 | 8=>70 | 9=>71 | 11=>100 | 12=>101 | 13=>53 | 14=>112 | 15=>113 | 16=>114 | 17=>115 | 18=>116 | 19=>117 | 20=>118 | 21=>119 | 22=>120 | 23=>85 | 24=>86 | 25=>124 | 26=>104 | 27=>105 | 28=>125 | 29=>126 | 30=>54 | 31=>127 | n=>n,fun | 24=>23 | 26=>3 | 28=>99 | 33=>105 | 37=>104 | 39=>123 | 40=>124 | 45=>106 | 48=>130 | 50=>109 | 51=>144 | 55=>148 | 57=>158 | 58=>86 | n=>n,fun | n=>n⟩
theorem Tryz.lsorted:SlLaysZI.n6 Tryz.prog Tryz.lsorted_ren:={
  mixed:=by kernel_rfl
  f6:=⟨Tryz.f47.name,by kernel_rfl,Tryz.func47.trans (congrArg some (by kernel_rfl))⟩
  f8:=⟨Tryz.f70.name,by kernel_rfl,Tryz.func70.trans (congrArg some (by kernel_rfl))⟩
  f11:=⟨Tryz.f100.name,by kernel_rfl,Tryz.func100.trans (congrArg some (by kernel_rfl))⟩
  t0:=Tryz.underlying0
  a0:=Tryz.isAgg0
  z0:=Tryz.sizeOf0
  v0:=Tryz.zeroValue0
  t24:=Tryz.underlying23
  a24:=Tryz.isAgg23
  z24:=Tryz.sizeOf23
  v24:=Tryz.zeroValue23
  t26:=Tryz.underlying3
  a26:=Tryz.isAgg3
  z26:=Tryz.sizeOf3
  v26:=Tryz.zeroValue3
  t28:=Tryz.underlying99
  a28:=Tryz.isAgg99
  z28:=Tryz.sizeOf99
  v28:=Tryz.zeroValue99
  i26:=by kernel_rfl
}
def Tryz.lsort_ren:Go.Shelf.Ren:=⟨fun | 5=>71 | 7=>101 | 8=>53 | 10=>112 | 11=>113 | 12=>114 | 13=>115 | 14=>116 | 15=>117 | 16=>118 | 17=>119 | 18=>120 | 19=>85 | 20=>86 | 30=>124 | 31=>104 | 32=>105 | 33=>125 | 34=>126 | 35=>54 | 40=>127 | n=>n,fun | 22=>23 | 25=>3 | 32=>104 | 35=>123 | 36=>124 | 41=>106 | 44=>130 | 46=>109 | 53=>144 | 57=>148 | 63=>158 | 64=>86 | n=>n,fun | n=>n⟩
theorem Tryz.lsort:SlLaysM.n5 Tryz.prog Tryz.lsort_ren:={
  mixed:=by kernel_rfl
  f5:=⟨Tryz.f71.name,by kernel_rfl,Tryz.func71.trans (congrArg some (by kernel_rfl))⟩
  f7:=⟨Tryz.f101.name,by kernel_rfl,Tryz.func101.trans (congrArg some (by kernel_rfl))⟩
  f8:=Tryz.func53.trans (congrArg some (by kernel_rfl))
  f10:=⟨Tryz.f112.name,by kernel_rfl,Tryz.func112.trans (congrArg some (by kernel_rfl))⟩
  f11:=⟨Tryz.f113.name,by kernel_rfl,Tryz.func113.trans (congrArg some (by kernel_rfl))⟩
  f12:=⟨Tryz.f114.name,by kernel_rfl,Tryz.func114.trans (congrArg some (by kernel_rfl))⟩
  f13:=⟨Tryz.f115.name,by kernel_rfl,Tryz.func115.trans (congrArg some (by kernel_rfl))⟩
  f14:=⟨Tryz.f116.name,by kernel_rfl,Tryz.func116.trans (congrArg some (by kernel_rfl))⟩
  f15:=⟨Tryz.f117.name,by kernel_rfl,Tryz.func117.trans (congrArg some (by kernel_rfl))⟩
  f16:=⟨Tryz.f118.name,by kernel_rfl,Tryz.func118.trans (congrArg some (by kernel_rfl))⟩
  f17:=⟨Tryz.f119.name,by kernel_rfl,Tryz.func119.trans (congrArg some (by kernel_rfl))⟩
  f18:=⟨Tryz.f120.name,by kernel_rfl,Tryz.func120.trans (congrArg some (by kernel_rfl))⟩
  f19:=Tryz.func85.trans (congrArg some (by kernel_rfl))
  f20:=Tryz.func86.trans (congrArg some (by kernel_rfl))
  f30:=⟨Tryz.f124.name,by kernel_rfl,Tryz.func124.trans (congrArg some (by kernel_rfl))⟩
  f31:=Tryz.func104.trans (congrArg some (by kernel_rfl))
  f32:=Tryz.func105.trans (congrArg some (by kernel_rfl))
  f33:=⟨Tryz.f125.name,by kernel_rfl,Tryz.func125.trans (congrArg some (by kernel_rfl))⟩
  f34:=⟨Tryz.f126.name,by kernel_rfl,Tryz.func126.trans (congrArg some (by kernel_rfl))⟩
  f35:=⟨Tryz.f54.name,by kernel_rfl,Tryz.func54.trans (congrArg some (by kernel_rfl))⟩
  f40:=⟨Tryz.f127.name,by kernel_rfl,Tryz.func127.trans (congrArg some (by kernel_rfl))⟩
  t0:=Tryz.underlying0
  a0:=Tryz.isAgg0
  z0:=Tryz.sizeOf0
  v0:=Tryz.zeroValue0
  t3:=Tryz.underlying3
  a3:=Tryz.isAgg3
  z3:=Tryz.sizeOf3
  v3:=Tryz.zeroValue3
  t4:=Tryz.underlying4
  a4:=Tryz.isAgg4
  z4:=Tryz.sizeOf4
  v4:=Tryz.zeroValue4
  t5:=Tryz.underlying5
  a5:=Tryz.isAgg5
  z5:=Tryz.sizeOf5
  v5:=Tryz.zeroValue5
  t9:=Tryz.underlying9
  a9:=Tryz.isAgg9
  z9:=Tryz.sizeOf9
  v9:=Tryz.zeroValue9
  t22:=Tryz.underlying23
  a22:=Tryz.isAgg23
  z22:=Tryz.sizeOf23
  v22:=Tryz.zeroValue23
  t23:=Tryz.underlying23
  a23:=Tryz.isAgg23
  z23:=Tryz.sizeOf23
  v23:=Tryz.zeroValue23
  t25:=Tryz.underlying3
  a25:=Tryz.isAgg3
  z25:=Tryz.sizeOf3
  v25:=Tryz.zeroValue3
  t32:=Tryz.underlying104
  a32:=Tryz.isAgg104
  z32:=Tryz.sizeOf104
  v32:=Tryz.zeroValue104
  t35:=Tryz.underlying123
  a35:=Tryz.isAgg123
  z35:=Tryz.sizeOf123
  v35:=Tryz.zeroValue123
  t36:=Tryz.underlying124
  a36:=Tryz.isAgg124
  z36:=Tryz.sizeOf124
  v36:=Tryz.zeroValue124
  t41:=Tryz.underlying106
  a41:=Tryz.isAgg106
  z41:=Tryz.sizeOf106
  v41:=Tryz.zeroValue106
  t44:=Tryz.underlying130
  a44:=Tryz.isAgg130
  z44:=Tryz.sizeOf130
  v44:=Tryz.zeroValue130
  t46:=Tryz.underlying109
  a46:=Tryz.isAgg109
  z46:=Tryz.sizeOf109
  v46:=Tryz.zeroValue109
  t53:=Tryz.underlying144
  a53:=Tryz.isAgg144
  z53:=Tryz.sizeOf144
  v53:=Tryz.zeroValue144
  t57:=Tryz.underlying148
  a57:=Tryz.isAgg148
  z57:=Tryz.sizeOf148
  v57:=Tryz.zeroValue148
  t63:=Tryz.underlying158
  a63:=Tryz.isAgg158
  z63:=Tryz.sizeOf158
  v63:=Tryz.zeroValue158
  t64:=Tryz.underlying86
  a64:=Tryz.isAgg86
  z64:=Tryz.sizeOf86
  v64:=Tryz.zeroValue86
}
def Tryz.sortF27_ren:Go.Shelf.Ren:=⟨fun | 6=>27 | 14=>52 | 15=>53 | 20=>77 | 21=>78 | 22=>79 | 23=>80 | 24=>81 | 25=>82 | 26=>83 | 27=>84 | 28=>85 | 29=>86 | 46=>103 | 47=>104 | 48=>105 | 49=>106 | 50=>107 | 57=>121 | n=>n,fun | 24=>39 | 25=>80 | 39=>104 | 45=>123 | 46=>124 | 50=>106 | 53=>130 | 55=>109 | 66=>144 | 70=>148 | 76=>158 | 77=>86 | n=>n,fun | n=>n⟩
theorem Tryz.sortF27:SlLaysF0.n6 Tryz.prog Tryz.sortF27_ren:={
  mixed:=by kernel_rfl
  f6:=⟨Tryz.f27.name,by kernel_rfl,Tryz.func27.trans (congrArg some (by kernel_rfl))⟩
  f14:=⟨Tryz.f52.name,by kernel_rfl,Tryz.func52.trans (congrArg some (by kernel_rfl))⟩
  f15:=Tryz.func53.trans (congrArg some (by kernel_rfl))
  f20:=⟨Tryz.f77.name,by kernel_rfl,Tryz.func77.trans (congrArg some (by kernel_rfl))⟩
  f21:=⟨Tryz.f78.name,by kernel_rfl,Tryz.func78.trans (congrArg some (by kernel_rfl))⟩
  f22:=⟨Tryz.f79.name,by kernel_rfl,Tryz.func79.trans (congrArg some (by kernel_rfl))⟩
  f23:=⟨Tryz.f80.name,by kernel_rfl,Tryz.func80.trans (congrArg some (by kernel_rfl))⟩
  f24:=⟨Tryz.f81.name,by kernel_rfl,Tryz.func81.trans (congrArg some (by kernel_rfl))⟩
  f25:=⟨Tryz.f82.name,by kernel_rfl,Tryz.func82.trans (congrArg some (by kernel_rfl))⟩
  f26:=⟨Tryz.f83.name,by kernel_rfl,Tryz.func83.trans (congrArg some (by kernel_rfl))⟩
  f27:=⟨Tryz.f84.name,by kernel_rfl,Tryz.func84.trans (congrArg some (by kernel_rfl))⟩
  f28:=Tryz.func85.trans (congrArg some (by kernel_rfl))
  f29:=Tryz.func86.trans (congrArg some (by kernel_rfl))
  f46:=⟨Tryz.f103.name,by kernel_rfl,Tryz.func103.trans (congrArg some (by kernel_rfl))⟩
  f47:=Tryz.func104.trans (congrArg some (by kernel_rfl))
  f48:=Tryz.func105.trans (congrArg some (by kernel_rfl))
  f49:=⟨Tryz.f106.name,by kernel_rfl,Tryz.func106.trans (congrArg some (by kernel_rfl))⟩
  f50:=⟨Tryz.f107.name,by kernel_rfl,Tryz.func107.trans (congrArg some (by kernel_rfl))⟩
  f57:=⟨Tryz.f121.name,by kernel_rfl,Tryz.func121.trans (congrArg some (by kernel_rfl))⟩
  t0:=Tryz.underlying0
  a0:=Tryz.isAgg0
  z0:=Tryz.sizeOf0
  v0:=Tryz.zeroValue0
  t3:=Tryz.underlying3
  a3:=Tryz.isAgg3
  z3:=Tryz.sizeOf3
  v3:=Tryz.zeroValue3
  t4:=Tryz.underlying4
  a4:=Tryz.isAgg4
  z4:=Tryz.sizeOf4
  v4:=Tryz.zeroValue4
  t5:=Tryz.underlying5
  a5:=Tryz.isAgg5
  z5:=Tryz.sizeOf5
  v5:=Tryz.zeroValue5
  t9:=Tryz.underlying9
  a9:=Tryz.isAgg9
  z9:=Tryz.sizeOf9
  v9:=Tryz.zeroValue9
  t22:=Tryz.underlying22
  a22:=Tryz.isAgg22
  z22:=Tryz.sizeOf22
  v22:=Tryz.zeroValue22
  t25:=Tryz.underlying80
  a25:=Tryz.isAgg80
  z25:=Tryz.sizeOf80
  v25:=Tryz.zeroValue80
  t39:=Tryz.underlying104
  a39:=Tryz.isAgg104
  z39:=Tryz.sizeOf104
  v39:=Tryz.zeroValue104
  t45:=Tryz.underlying123
  a45:=Tryz.isAgg123
  z45:=Tryz.sizeOf123
  v45:=Tryz.zeroValue123
  t46:=Tryz.underlying124
  a46:=Tryz.isAgg124
  z46:=Tryz.sizeOf124
  v46:=Tryz.zeroValue124
  t50:=Tryz.underlying106
  a50:=Tryz.isAgg106
  z50:=Tryz.sizeOf106
  v50:=Tryz.zeroValue106
  t53:=Tryz.underlying130
  a53:=Tryz.isAgg130
  z53:=Tryz.sizeOf130
  v53:=Tryz.zeroValue130
  t55:=Tryz.underlying109
  a55:=Tryz.isAgg109
  z55:=Tryz.sizeOf109
  v55:=Tryz.zeroValue109
  t66:=Tryz.underlying144
  a66:=Tryz.isAgg144
  z66:=Tryz.sizeOf144
  v66:=Tryz.zeroValue144
  t70:=Tryz.underlying148
  a70:=Tryz.isAgg148
  z70:=Tryz.sizeOf148
  v70:=Tryz.zeroValue148
  t76:=Tryz.underlying158
  a76:=Tryz.isAgg158
  z76:=Tryz.sizeOf158
  v76:=Tryz.zeroValue158
  t77:=Tryz.underlying86
  a77:=Tryz.isAgg86
  z77:=Tryz.sizeOf86
  v77:=Tryz.zeroValue86
}
def Tryz.sortF45_ren:Go.Shelf.Ren:=⟨fun | 6=>45 | 14=>69 | 15=>53 | 20=>92 | 21=>93 | 22=>94 | 23=>95 | 24=>96 | 25=>97 | 26=>98 | 27=>99 | 28=>85 | 29=>86 | 46=>109 | 47=>104 | 48=>105 | 49=>110 | 50=>111 | 57=>123 | n=>n,fun | 22=>62 | 24=>66 | 25=>95 | 39=>104 | 45=>123 | 46=>124 | 50=>106 | 53=>130 | 55=>109 | 66=>144 | 70=>148 | 76=>158 | 77=>86 | n=>n,fun | n=>n⟩
theorem Tryz.sortF45:SlLaysF0.n6 Tryz.prog Tryz.sortF45_ren:={
  mixed:=by kernel_rfl
  f6:=⟨Tryz.f45.name,by kernel_rfl,Tryz.func45.trans (congrArg some (by kernel_rfl))⟩
  f14:=⟨Tryz.f69.name,by kernel_rfl,Tryz.func69.trans (congrArg some (by kernel_rfl))⟩
  f15:=Tryz.func53.trans (congrArg some (by kernel_rfl))
  f20:=⟨Tryz.f92.name,by kernel_rfl,Tryz.func92.trans (congrArg some (by kernel_rfl))⟩
  f21:=⟨Tryz.f93.name,by kernel_rfl,Tryz.func93.trans (congrArg some (by kernel_rfl))⟩
  f22:=⟨Tryz.f94.name,by kernel_rfl,Tryz.func94.trans (congrArg some (by kernel_rfl))⟩
  f23:=⟨Tryz.f95.name,by kernel_rfl,Tryz.func95.trans (congrArg some (by kernel_rfl))⟩
  f24:=⟨Tryz.f96.name,by kernel_rfl,Tryz.func96.trans (congrArg some (by kernel_rfl))⟩
  f25:=⟨Tryz.f97.name,by kernel_rfl,Tryz.func97.trans (congrArg some (by kernel_rfl))⟩
  f26:=⟨Tryz.f98.name,by kernel_rfl,Tryz.func98.trans (congrArg some (by kernel_rfl))⟩
  f27:=⟨Tryz.f99.name,by kernel_rfl,Tryz.func99.trans (congrArg some (by kernel_rfl))⟩
  f28:=Tryz.func85.trans (congrArg some (by kernel_rfl))
  f29:=Tryz.func86.trans (congrArg some (by kernel_rfl))
  f46:=⟨Tryz.f109.name,by kernel_rfl,Tryz.func109.trans (congrArg some (by kernel_rfl))⟩
  f47:=Tryz.func104.trans (congrArg some (by kernel_rfl))
  f48:=Tryz.func105.trans (congrArg some (by kernel_rfl))
  f49:=⟨Tryz.f110.name,by kernel_rfl,Tryz.func110.trans (congrArg some (by kernel_rfl))⟩
  f50:=⟨Tryz.f111.name,by kernel_rfl,Tryz.func111.trans (congrArg some (by kernel_rfl))⟩
  f57:=⟨Tryz.f123.name,by kernel_rfl,Tryz.func123.trans (congrArg some (by kernel_rfl))⟩
  t0:=Tryz.underlying0
  a0:=Tryz.isAgg0
  z0:=Tryz.sizeOf0
  v0:=Tryz.zeroValue0
  t3:=Tryz.underlying3
  a3:=Tryz.isAgg3
  z3:=Tryz.sizeOf3
  v3:=Tryz.zeroValue3
  t4:=Tryz.underlying4
  a4:=Tryz.isAgg4
  z4:=Tryz.sizeOf4
  v4:=Tryz.zeroValue4
  t5:=Tryz.underlying5
  a5:=Tryz.isAgg5
  z5:=Tryz.sizeOf5
  v5:=Tryz.zeroValue5
  t9:=Tryz.underlying9
  a9:=Tryz.isAgg9
  z9:=Tryz.sizeOf9
  v9:=Tryz.zeroValue9
  t22:=Tryz.underlying62
  a22:=Tryz.isAgg62
  z22:=Tryz.sizeOf62
  v22:=Tryz.zeroValue62
  t25:=Tryz.underlying95
  a25:=Tryz.isAgg95
  z25:=Tryz.sizeOf95
  v25:=Tryz.zeroValue95
  t39:=Tryz.underlying104
  a39:=Tryz.isAgg104
  z39:=Tryz.sizeOf104
  v39:=Tryz.zeroValue104
  t45:=Tryz.underlying123
  a45:=Tryz.isAgg123
  z45:=Tryz.sizeOf123
  v45:=Tryz.zeroValue123
  t46:=Tryz.underlying124
  a46:=Tryz.isAgg124
  z46:=Tryz.sizeOf124
  v46:=Tryz.zeroValue124
  t50:=Tryz.underlying106
  a50:=Tryz.isAgg106
  z50:=Tryz.sizeOf106
  v50:=Tryz.zeroValue106
  t53:=Tryz.underlying130
  a53:=Tryz.isAgg130
  z53:=Tryz.sizeOf130
  v53:=Tryz.zeroValue130
  t55:=Tryz.underlying109
  a55:=Tryz.isAgg109
  z55:=Tryz.sizeOf109
  v55:=Tryz.zeroValue109
  t66:=Tryz.underlying144
  a66:=Tryz.isAgg144
  z66:=Tryz.sizeOf144
  v66:=Tryz.zeroValue144
  t70:=Tryz.underlying148
  a70:=Tryz.isAgg148
  z70:=Tryz.sizeOf148
  v70:=Tryz.zeroValue148
  t76:=Tryz.underlying158
  a76:=Tryz.isAgg158
  z76:=Tryz.sizeOf158
  v76:=Tryz.zeroValue158
  t77:=Tryz.underlying86
  a77:=Tryz.isAgg86
  z77:=Tryz.sizeOf86
  v77:=Tryz.zeroValue86
}
def Tryz.cmpInt_ren:Go.Shelf.Ren:=⟨fun | 5=>30 | 7=>54 | n=>n,fun | 22=>3 | n=>n,fun | n=>n⟩
theorem Tryz.cmpInt:SlLaysC2.n5 Tryz.prog Tryz.cmpInt_ren:={
  mixed:=by kernel_rfl
  f5:=⟨Tryz.f30.name,by kernel_rfl,Tryz.func30.trans (congrArg some (by kernel_rfl))⟩
  f7:=⟨Tryz.f54.name,by kernel_rfl,Tryz.func54.trans (congrArg some (by kernel_rfl))⟩
  t3:=Tryz.underlying3
  a3:=Tryz.isAgg3
  z3:=Tryz.sizeOf3
  v3:=Tryz.zeroValue3
  t4:=Tryz.underlying4
  a4:=Tryz.isAgg4
  z4:=Tryz.sizeOf4
  v4:=Tryz.zeroValue4
  t22:=Tryz.underlying3
  a22:=Tryz.isAgg3
  z22:=Tryz.sizeOf3
  v22:=Tryz.zeroValue3
}
theorem Tryz.lsortsIn (m:Nat):AnyZI.SortsIn Tryz.prog Tryz.lsorted_ren Fence.wide m:=
  ⟨fun blk off cap ss W hH hblk bb=>callsIn_wide.2 (AnyM.slices_Sort_int Tryz.lsort blk off cap ss W hH hblk bb),
   fun p cap W=>callsIn_wide.2 (AnyM.slices_Sort_int_none Tryz.lsort p cap W)⟩
theorem Tryz.keys48:X0 Tryz.prog 48 72 96:=⟨fun mb W=>(callsIn_wide (n:=5)).1 (AnyZI.keys_in Tryz.lkeys Fence.wide 5 trivial rfl mb W)⟩
theorem Tryz.sortedKeys47:J8 Tryz.prog 47 72 3:=⟨Tryz.underlying3,fun b Bm nn D0 R W af yi sh pq nc=>by
  refine(callsIn_wide (n:=5)).1 ?_
  have sb:SeqGives Fence.wide 2 Tryz.prog 72 #[.pointer (some ⟨Bm,0,none⟩)] encZ (fun ss=>ss.Perm (intKeys D0)) (Maps.size D0) W:=
    AnyZI.keys_gives (ρ:=Tryz.lkeys_ren) {Tryz.lkeys with} Fence.wide _ trivial rfl (by omega) Bm b nn D0 W yi af sh
  have cS:=AnyZI.sorted_in Tryz.lsorted Fence.wide 5 trivial trivial trivial trivial rfl (by omega) (Tryz.lsortsIn _) (enters_of Tryz.func71 (by kernel_rfl) rfl) 72 #[.pointer (some ⟨Bm,0,none⟩)] trivial (enters_of Tryz.func72 (by kernel_rfl) rfl) _ _ pq nc _ sb
  change CallsIn _ _ Tryz.prog 47 _ _ _ at cS
  exact cS.mono fun e w' ⟨v,ss,h1,h2,h3,_,h5⟩=>⟨v,ss,h1,h2,h3,h5⟩⟩
end Go.Proofs.YtooopbnnhbacjaaGreat
namespace Go.Ab
open Go Go.RowKit
variable {P:Program}
variable {P:Program}
def Te:List (List Ac)→List (List Ac)→Prop
  | [],[]=>True
  | x::r,y::r'=>A9 x y∧Te r r'
  | _,_=>False
theorem Ro:∀ {xs ys:List (List Ac)},Te xs ys→xs.length=ys.length∧∀ (i:Nat) y,ys[i]? =some y→∃ x,xs[i]? =some x∧A9 x y
  | [],[],_=>⟨rfl,by simp⟩
  | x::r,y::r',h=>by
    have ih:=Ro h.2
    refine⟨by simp[ih.1],fun i d hi=>?_⟩
    match i,hi with
    | 0,hi=>simp at hi;subst hi;exact⟨x,rfl,h.1⟩
    | i+1,hi=>exact ih.2 i d (by simpa using hi)
  | [],_::_,h=>h.elim
  | _::_,[],h=>h.elim
theorem Sub.denil {outer:List Fr} {fr:Fr} {H:List Ap} (r:Nat) {v sz:Nat} {xs:List (List Ac)} (ys:List (List Ac)) (hr:H[r]? =some (.row v sz xs)) (h:Te xs ys):Sub outer fr H fr (H.set r (.row v sz ys)):=by
  intro W0 A0 ds n outs a w R
  obtain⟨C,rfl,rfl,I,hF,hO,hn,hd⟩:=R.ex
  have ab:r<C.H.length:=(bW.1 hr).1
  have hg:=Ro h
  obtain⟨au,bb,xv,ho⟩:=I.objs r _ hr
  have af:∀ (i k:Nat) (y:List Ac) (c':Ac),ys[i]? =some y→y[k]? =some c'→∃ x c,xs[i]? =some x∧x[k]? =some c∧A8 c c':=by
    intro i k y c' h1 h2
    obtain⟨x,h3,h4⟩:=hg.2 i y h1
    obtain⟨c,h5,h6⟩:=(Lt h4).2 k c' h2
    exact⟨x,c,h3,h5,h6⟩
  rcases ho with⟨rfl,_⟩ | ⟨l,arr,T',e1,e2,e3,e4,e5⟩
  ·have:ys=[]:=List.eq_nil_of_length_eq_zero (by rw[← hg.1];rfl)
   subst this
   have e:C.H.set r (.row v sz [])=C.H:=by
     apply List.ext_getElem?
     intro i
     by_cases e:r=i
     ·subst e;rw[List.getElem?_set_self ab];exact hr.symm
     ·rw[List.getElem?_set_ne e]
   rw[e]
   exact⟨C,rfl,rfl,I,hF,hO,hn,hd⟩
  have nle0_g:∀ {c c':Ac},A8 c c'→c.g0=true→c'.g0=true:=by
    intro c c' h hc
    unfold A8 at h
    split at h
    ·rcases h with rfl | ⟨rfl,rfl⟩
     ·exact hc
     ·rfl
    ·subst h;exact hc
  have key:=I.put (o':=.row v sz ys) hr e1 (w':=w) (fun _ _=>rfl) rfl I.below
    (by unfold Cd;simp only[Ctx.set,List.getElem?_set_self ab];exact .inl ⟨_,hr,by rw[hg.1];exact Nat.le_refl _,trivial⟩)
    (fun mm=>⟨au,fun y h2=>by
     obtain⟨i,hi⟩:=List.getElem?_of_mem h2
     obtain⟨x,h3,h4⟩:=hg.2 i y hi
     rw[← (Lt h4).1];exact bb x (bO h3),fun y h2 c' h5=>by
     obtain⟨i,hi⟩:=List.getElem?_of_mem h2
     obtain⟨k,hk⟩:=List.getElem?_of_mem h5
     obtain⟨x,c,h6,h7,h8⟩:=af i k y c' hi hk
     exact nle0_g h8 (xv x (bO h6) c (bO h7)),
      .inr ⟨l,arr,T',e1,e2,e3,by rw[← hg.1];exact e4,fun i k y c' h1 h2=>by
        obtain⟨x,c,h6,h7,h8⟩:=af i k y c' h1 h2
        obtain⟨u,hu,bl⟩:=e5 i k x c h6 h7
        exact⟨u,hu,(Oh h8 (bl.mono mm)).1⟩⟩⟩)
  exact⟨C.set r (.row v sz ys),rfl,rfl,key.1,fun t=>(hF t).mono key.2,hO.mono key.2,hn,hd⟩
end Go.Ab
namespace Go.Ab
open Go Go.RowKit
section
variable {P:Program} {md:Option Nat} {n:Nat} {outer:List Fr} {Q:Exit→Fr→List Ap→Prop} {fr:Fr} {H:List Ap}
theorem en {a p:Prop} (w:p) (h:p→a:=by intro hw;simp +decide -implicitDefEqProofs only[go_sem,Ae,Ac.int.injEq,Int.natCast_zero,List.replicate_zero,List.length_take,List.length_drop,Ac.own.injEq,reduceCtorEq,Int.reduceAdd,Bc,Bd,A8,Bb,A9,hw]):a:=h w
theorem xt {id:Nat} (h:Q (.exit id) fr H):AWP md P n (.exit id) Q outer fr H:=AWP.exit h
theorem cs {α:Type} {t:Bool} {A B:Option α} {r:α} {yes no:Prop} (h1:t=true→A=some r→yes) (h2:t=false→B=some r→no) (h:(bif t then A else B)=some r):acond (.bool t) yes no:=by
  cases t with
  | true=>exact A7 (h1 rfl h)
  | false=>exact Bu (h2 rfl h)
theorem rp {a b:Prop} (k:b) (h:a:=by first | omega | (simp only[List.length_take,List.length_drop,bR];omega)):a∧b:=⟨h,k⟩
end
end Go.Ab
namespace Go.Ab
open Go Go.RowKit
def Qs (r:Nat) (cs:List Ac) (v:Ac):Ac:=
  match v with
  | .ptr r' k=>if r'=r then .eptr (cs.drop k)else v
  | _=>v
def Qt (r:Nat) (cs:List Ac) (fr:Fr):Fr:=fr.map fun p=>(p.1,Qs r cs p.2)
theorem On (r:Nat) (cs:List Ac):∀ (fr:Fr) (t:Nat),get (Qt r cs fr) t=Qs r cs (get fr t)
  | [],t=>rfl
  | (k,v)::fr,t=>by
    have ih:=On r cs fr t
    simp only[Qt,List.map_cons,get]at ih ⊢
    split
    ·rfl
    ·exact ih
theorem Sub.Uz {outer:List Fr} {fr:Fr} {H:List Ap} (r:Nat) {cs:List Ac} (hr:H[r]? =some (.box cs)) (hg:(cs.all Ac.g0)=true):Sub outer fr H (Qt r cs fr) (H.set r .gone):=by
  intro W0 A0 ds n outs a w R
  obtain⟨C,rfl,rfl,I,hF,hO,hn,hd⟩:=R.ex
  have key:=I.freeze r
  refine⟨C.freeze r,rfl,rfl,key.1,fun t=>?_,hO.mono key.2,hn,hd⟩
  rw[On]
  have hv:=hF t
  unfold Qs
  split
  ·rename_i r' k hm
   split
   ·rename_i e
    subst e
    rw[hm]at hv
    cases gn:a.tmps.getD t undef with
    | pointer ob=>
      rw[gn]at hv
      cases hv with
      | ptr b _ _ ab hh=>
        obtain⟨l,hl,rfl⟩:=hh _ hr
        obtain⟨l',arr,T,h1,h2,h3,h4⟩:=I.objs _ _ hr
        rw[hl,bQ]at h1
        subst h1
        refine .eptr _ _ (fun j=>arr.getD (k+j) undef) rfl (.inr ⟨l,hl,rfl⟩) (fun c hc=>List.all_eq_true.1 hg c (List.mem_of_mem_drop hc)) (fun j hj=>?_) fun j c hc=>?_
        ·rw[List.length_drop]at hj
         have da:k+j<arr.size:=by omega
         simp[World.cell?,h2,Array.getD,da]
        ·rw[List.getElem?_drop]at hc
         have da:k+j<arr.size:=by rw[h3];exact(bW.1 hc).1
         have:arr[k+j]? =some (arr.getD (k+j) undef):=by simp[Array.getD,da]
         exact(h4 _ _ _ this hc).mono key.2
    | _=>rw[gn]at hv;cases hv
   ·exact hv.mono key.2
  ·exact hv.mono key.2
attribute [go_sem] Qs Qt singles
end Go.Ab
namespace Go.Ab
open Go Go.RowKit
section
variable {P:Program} {md:Option Nat} {n:Nat} {Q:Exit→Fr→List Ap→Prop} {outer:List Fr} {fr:Fr} {H:List Ap}
def Bx (md:Option Nat) (P:Program) (n:Nat) (c:Code) (Q:Exit→Fr→List Ap→Prop) (outer:List Fr):Nat→Fr→List Ap→Prop
  | 0=>fun _ _=>False
  | k+1=>fun fr H=>AWP md P n c (qthen (Bx md P n c Q outer k) Q) outer fr H
theorem Bx.step {c:Code} {k:Nat} (h:AWP md P n c (qthen (Bx md P n c Q outer k) Q) outer fr H):Bx md P n c Q outer (k+1) fr H:=h
theorem AWP.rounds {c:Code} (k:Nat) (h:Bx md P n c Q outer k fr H):AWP md P n (.loop c) Q outer fr H:=by
  intro W0 A0 ds outs a w R
  refine wpIn_loop_ghost (fun m a w=>∃ fr H,Bx md P n c Q outer m fr H∧C7 W0 A0 ds n outs outer fr H a w) k ⟨fr,H,h,R⟩ ?_
  rintro m a w ⟨fr,H,h,R⟩
  cases m with
  | zero=>exact h.elim
  | succ m=>
    refine wpIn_mono (h W0 A0 ds outs a w R) ?_
    intro e a' w' ⟨fr',H',hq,hR⟩
    cases e with
    | normal=>exact ⟨m,Nat.lt_succ_self m,fr',H',hq,hR⟩
    | _=>exact ⟨fr',H',hq,hR⟩
end
theorem Af {n:Int} (h:decide (-9223372036854775808≤n∧n≤9223372036854775807)=true):IntKind.i64.wrap n=n:=by
  have:=bK h
  rw[wrap_i64]<;>omega
theorem Bt.Fc {α:Type} {f:α→List Ac} {l:List α} {n:Nat} {x:α} {sz:Nat} {K:List Ac→Prop} {xs:List (List Ac)} (k7:xs=l.map f) (hx:Ch l (n:Int)=some x) (h:K (f x)):Bt sz xs n K:=by
  subst k7;exact Bt.ofNat hx h
theorem Uq (c:Ac):A8 c c:=by unfold A8;split<;>simp_all
theorem P0:∀ l:List Ac,A9 l l
  | []=>trivial
  | c::r=>⟨Uq c,P0 r⟩
theorem Rp:∀ (l:List (List Ac)) {a b:List (List Ac)},Te a b→Te (l++a) (l++b)
  | [],_,_,h=>h
  | x::l,_,_,h=>⟨P0 x,Rp l h⟩
end Go.Ab
namespace Go.Ab
open Go Go.RowKit Go.Sort Go.Shelf Go.Proofs
section
variable {P:Program}
theorem Lz {w:World} {n blk off:Nat} {d:Array Value} {b:Nat} (hb:b≠blk):(putRow id (Sort.ahead w n) blk off d).heap[b]? =w.heap[b]?:=by
  simp only[putRow,mapBlock,heap_ahead,Array.getElem?_modify]
  rw[if_neg (fun e=>hb e.symm)]
theorem Ly {w:World} {n blk off:Nat} {d:Array Value} {arr:Array Value} {T:TypeId} (h:w.heap[blk]? =some (.cells arr T (0,0))) :
    (putRow id (Sort.ahead w n) blk off d).heap[blk]? =some (.cells (putCells id off d arr) T (0,0)):=by
  simp only[putRow,mapBlock,heap_ahead,Array.getElem?_modify,if_true,h];rfl
theorem Pn {w:World} {B n blk off:Nat} {d:Array Value} (hb:B≤blk):RowKit.Below B w (putRow id (Sort.ahead w n) blk off d):=
  ⟨rfl,rfl,rfl,by simp,fun k hk=>Lz (by omega)⟩
structure O9 (P:Program) (f g:FuncId) {α:Type} [Inhabited α] (encV:α→List Value) (k:Nat):Prop where
  some:∀ (blk off cap:Nat) (d:List α) (w:World),HoldsK encV k w blk off d.toArray→blk<w.heap.size→d.length<4611686018427387904→
    Calls P f #[.slice (some ⟨blk,off,none⟩) d.length cap,.func (.func g) #[] #[]] w fun e w'=>e= .returned (.tuple #[])∧∃ (d':Array α) (n:Nat) (os:Array Obj),d'.toList.Perm d∧w'=sortWorldK encV k w blk off n d' os
  none:∀ (p:Option Addr) (cap:Nat) (w:World),Calls P f #[.slice p 0 cap,.func (.func g) #[] #[]] w fun e w'=>e= .returned (.tuple #[])∧w'=w
theorem Jr {α:Type} [Inhabited α] {d d':Array α} (h:PermIn 0 d.size d d'):d'.toList.Perm d.toList:=by
  obtain⟨h1,_,h3⟩:=h
  rw[← h1]at h3
  have e1:(d'.extract 0 d'.size)=d':=by simp
  rw[e1]at h3
  rw[h1]at h3
  have e2:(d.extract 0 d.size)=d:=by simp
  rwa [e2]at h3
variable {α:Type} [Inhabited α] {encI:α→List Int} {k:Nat}
omit [Inhabited α] in
theorem Re {W0:World} {C:Ctx} {w:World} (I:Inv W0 C w) (hk:∀ x,(encI x).length=k) {r v:Nat} {l:List α} (hr:C.H[r]? =some (.row v k (l.map fun x=>(encI x).map (Ac.int .i64)))) {u:Value} {len:Nat} (hu:A4 C w u (.own r v 0 len)) (hlen:len=l.length) :
    ∃ a cap,u= .slice a l.length cap∧l.length≤cap∧((l=[])∨∃ lc arr T,C.ρ r=some lc∧a=some ⟨lc.b,lc.base,none⟩∧w.heap[lc.b]? =some (.cells arr T (0,0))∧arr.size=lc.cap∧lc.base+cap*k≤lc.cap∧
      ∀ (i j:Nat) (x:α) (n:Int),l[i]? =some x→(encI x)[j]? =some n→arr[lc.base+(i*k+j)]? =some (.int .i64 n)):=by
  subst hlen
  cases hu with
  | own a _ cap _ _ _ fi bq bc hv=>
    refine⟨a,cap,rfl,bq,?_⟩
    obtain⟨_,hv⟩:=hv _ _ _ hr
    obtain⟨_,hv⟩:=hv rfl
    obtain⟨_,_,_,ho⟩:=I.objs r _ hr
    by_cases hz:l=[]
    ·exact .inl hz
    ·right
     have gw:0<l.length:=List.length_pos_iff.2 hz
     rcases ho with⟨e,_⟩ | ⟨l',arr,T,e1,e2,e3,e4,e5⟩
     ·exact absurd (List.map_eq_nil_iff.1 e) hz
     ·rcases hv with hv | ⟨lc,hl,ha,bk⟩
      ·omega
      rw[hl,bQ]at e1
      subst e1
      refine⟨lc,arr,T,hl,by rw[ha];simp,e2,e3,by simpa using bk,fun i j x n hi hj=>?_⟩
      obtain⟨u,hu,ag⟩:=e5 i j ((encI x).map (Ac.int .i64)) (.int .i64 n) (by rw[List.getElem?_map,hi];rfl) (by rw[List.getElem?_map,hj];rfl)
      rw[hu]
      cases u<;>cases ag;rfl
theorem R1 {encV:α→List Value} (hV:∀ x,encV x=(encI x).map (Value.int .i64)) (hk:∀ x,(encI x).length=k) {d:Array α} {i j:Nat} {x:α} {n:Int} (hi:d[i]? =some x) (hj:(encI x)[j]? =some n):(flatK encV k d)[i*k+j]! = .int .i64 n:=by
  have ab:=(Array.getElem?_eq_some_iff.1 hi).1
  have ti:j<k:=by rw[← hk x];exact(bW.1 hj).1
  have cn:0<k:=by omega
  have hb:i*k+j<d.size*k:=by
    have:=Nat.mul_le_mul_right k (show i+1≤d.size from ab)
    rw[Nat.add_mul,Nat.one_mul]at this;omega
  rw[get_flatK _ _ _ _ hb]
  have e1:(i*k+j) / k=i:=by rw[Nat.mul_comm,Nat.mul_add_div cn,Nat.div_eq_of_lt ti];rfl
  have e2:(i*k+j) % k=j:=by rw[Nat.mul_comm,Nat.mul_add_mod,Nat.mod_eq_of_lt ti]
  rw[e1,e2]
  have e3:d[i]! =x:=by simp[getElem!_def,hi]
  rw[e3,hV]
  simp[getElem!_def,hj]
theorem Ph {encV:α→List Value} (hV:∀ x,encV x=(encI x).map (Value.int .i64)) (hk:∀ x,(encI x).length=k) {w:World} {lc:Loc} {arr:Array Value} {T:TypeId} {l:List α} (hc:w.heap[lc.b]? =some (.cells arr T (0,0)))
    (h:∀ (i j:Nat) (x:α) (n:Int),l[i]? =some x→(encI x)[j]? =some n→arr[lc.base+(i*k+j)]? =some (.int .i64 n)):HoldsK encV k w lc.b lc.base l.toArray:=by
  intro t ht
  rw[size_flatK]at ht
  have qj:t<l.length*k:=by simpa using ht
  have cn:0<k:=by
    rcases Nat.eq_zero_or_pos k with h0 | h0
    ·subst h0;simp at qj
    ·exact h0
  refine⟨?_,Uy hc⟩
  have hi:t / k<l.length:=(Nat.div_lt_iff_lt_mul cn).2 qj
  have hx:l[t / k]? =some l[t / k]:=bN hi
  have hj:t % k<(encI l[t / k]).length:=by rw[hk];exact Nat.mod_lt _ cn
  have hn:(encI l[t / k])[t % k]? =some (encI l[t / k])[t % k]:=bN hj
  have key:=h _ _ _ _ hx hn
  have et:t / k*k+t % k=t:=by rw[Nat.mul_comm];exact Nat.div_add_mod t k
  rw[et]at key
  have hf:=R1 hV hk (d:=l.toArray) (show l.toArray[t / k]? =some l[t / k] by rw[List.getElem?_toArray];exact hx) hn
  rw[et]at hf
  rw[show w.cell? ⟨lc.b,lc.base+t,none⟩=arr[lc.base+t]? by simp[World.cell?,hc],key,hf]
  rfl
theorem Bg.Xx {encV:α→List Value} {f g:FuncId} {r v len:Nat} {l:List α} {st:List Fr} {H:List Ap} {K:Ac→List Ap→Prop} (hc:∀ (args:Array Value) (w:World),(callFunc f args).run P w= .ok (.enter f args) w)
    (spec:O9 P f g encV k) (hV:∀ x,encV x=(encI x).map (Value.int .i64)) (hk:∀ x,(encI x).length=k) (iv:1≤k) (encA:α→List Ac) (hA:∀ x,encA x=(encI x).map (Ac.int .i64))
    (hr:H[r]? =some (.row v k (l.map encA))) (hlen:len=l.length) (gd:len≤549755813888) (h:∀ l':List α,l'.Perm l→K (.tuple []) (H.set r (.row v k (l'.map encA)))):Bg P (.func f []) [.own r v 0 len,.func g []] st H K:=by
  obtain rfl:encA=fun x=>(encI x).map (Ac.int .i64):=funext hA
  intro W0 C w outs fv vs I hH hO hf hl hv
  subst hH
  cases hf with
  | func _ caps _ c7 _=>
    have:caps=#[]:=Array.eq_empty_of_size_eq_zero (by simpa using c7)
    subst this
    refine .inl ⟨f,#[],rfl,hc,?_⟩
    match vs,hl with
    | [u,gv],_=>
      have hu:=hv 0 u _ rfl rfl
      have hg:=hv 1 gv _ rfl rfl
      obtain rfl:gv= .func (.func g) #[] #[]:=by
        cases hg with
        | func _ caps _ c7 _=>
          have:caps=#[]:=Array.eq_empty_of_size_eq_zero (by simpa using c7)
          subst this;rfl
      obtain⟨a,cap,rfl,j7,hz⟩:=Re I hk hr hu hlen
      have ab:r<C.H.length:=(bW.1 hr).1
      rcases hz with rfl | ⟨lc,arr,T,hl,rfl,af,bb,bk,ee⟩
      ·refine(spec.none a cap w).mono fun e w' ⟨he,hw⟩=>?_
       subst hw
       have h:=h [] (.refl _)
       have hs:C.H.set r (.row v k (([]:List α).map fun x=>(encI x).map (Ac.int .i64)))=C.H:=by
         apply List.ext_getElem?
         intro i
         rw[List.getElem?_set]
         split
         ·rename_i e;subst e;first | (rw[hr]) | (rw[if_pos ab,hr])
         ·rfl
       rw[hs]at h
       exact⟨.tuple #[],.tuple [],C,he,h,rfl,.tuple _ _ rfl (by simp),I,hO⟩
      ·have hS:=I.sep r lc hl
       have hH:=Ph hV hk af ee
       refine(spec.some lc.b lc.base cap l w hH hS.2.2.1 (by omega)).mono fun e w' ⟨he,d',n,os,hp,hw⟩=>?_
       subst hw
       have qo:d'.toList.length=l.length:=hp.length_eq
       have iw:d'.size=l.length:=by simpa using qo
       have vl:l.length*k≤cap*k:=Nat.mul_le_mul_right k j7
       have key:=I.put (w':=putRow id (Sort.ahead w n) lc.b lc.base (flatK encV k d')) (o':=.row v k (d'.toList.map fun x=>(encI x).map (Ac.int .i64))) hr hl (fun b hb=>Lz hb) (by simp) (I.below.trans (Pn hS.2.1)) (by
         unfold Cd
         simp only[Ctx.set,List.getElem?_set_self ab]
         exact .inl ⟨_,hr,by simp[iw],by trivial⟩) (fun m=>by
           refine⟨iv,fun x hx=>?_,fun x hx c qq=>?_,.inr ⟨lc,_,T,hl,Ly af,by simp[putCells,bb],by simp[iw];omega,fun i j x c hx qq=>?_⟩⟩
           ·obtain⟨y,_,rfl⟩:=List.mem_map.1 hx;simp[hk]
           ·obtain⟨y,_,rfl⟩:=List.mem_map.1 hx
            obtain⟨z,_,rfl⟩:=List.mem_map.1 qq;rfl
           ·rw[List.getElem?_map,Option.map_eq_some_iff]at hx
            obtain⟨y,hy,rfl⟩:=hx
            rw[List.getElem?_map,Option.map_eq_some_iff]at qq
            obtain⟨z,hz,rfl⟩:=qq
            refine⟨.int .i64 z,?_,.int _ _⟩
            have hi:i<l.length:=by rw[← qo];exact(bW.1 hy).1
            have ti:j<k:=by rw[← hk y];exact(bW.1 hz).1
            have hb:i*k+j<d'.size*k:=by
              have:=Nat.mul_le_mul_right k (show i+1≤d'.size by omega)
              rw[Nat.add_mul,Nat.one_mul]at this;omega
            have ix:lc.base+(i*k+j)<arr.size:=by rw[iw]at hb;omega
            simp only[putCells,Array.getElem?_mapIdx,Array.getElem?_eq_getElem ix,Option.map_some]
            rw[if_pos ⟨by omega,by rw[size_flatK];omega⟩]
            have e:lc.base+(i*k+j) - lc.base=i*k+j:=by omega
            rw[e,R1 hV hk (by simpa using hy) hz];rfl)
       have key2:=key.1.Yl (w':=grow (putRow id (Sort.ahead w n) lc.b lc.base (flatK encV k d')) os) (Sj (Nat.le_refl _))
       exact⟨.tuple #[],.tuple [],C.set r (.row v k (d'.toList.map fun x=>(encI x).map (Ac.int .i64))),he,h _ hp,rfl,.tuple _ _ rfl (by simp),key2.1,(hO.mono key.2).mono key2.2⟩
theorem Bg.X5 {encV:α→List Value} {f g:FuncId} {r v len:Nat} {l:List α} {st:List Fr} {H:List Ap} {K:Ac→List Ap→Prop} (hc:∀ (args:Array Value) (w:World),(callFunc f args).run P w= .ok (.enter f args) w)
    (spec:O9 P f g encV k) (hV:∀ x,encV x=(encI x).map (Value.int .i64)) (hk:∀ x,(encI x).length=k) (iv:1≤k) (encA:α→List Ac) (hA:∀ x,encA x=(encI x).map (Ac.int .i64))
    (hr:H[r]? =some (.row v k (l.map encA))) (hlen:len=l.length) (hle:l.length≤1) (h:K (.tuple []) H):Bg P (.func f []) [.own r v 0 len,.func g []] st H K:=by
  refine Bg.Xx hc spec hV hk iv encA hA hr hlen (by omega) fun l' hp=>?_
  have:l'=l:=by
    match l,hle,hp with
    | [],_,hp=>exact List.perm_nil.1 hp
    | [x],_,hp=>exact List.perm_singleton.1 hp
    | _::_::_,hle,_=>simp at hle
  subst this
  have ab:r<H.length:=(bW.1 hr).1
  have hs:H.set r (.row v k (l'.map encA))=H:=by
    apply List.ext_getElem?
    intro i
    rw[List.getElem?_set]
    split
    ·rename_i e;subst e;first | (rw[hr]) | (rw[if_pos ab,hr])
    ·rfl
  rw[hs];exact h
theorem Bg.X6 {encV:α→List Value} {f g:FuncId} {st:List Fr} {H:List Ap} {K:Ac→List Ap→Prop} (hc:∀ (args:Array Value) (w:World),(callFunc f args).run P w= .ok (.enter f args) w)
    (spec:O9 P f g encV k) (h:K (.tuple []) H):Bg P (.func f []) [.nils,.func g []] st H K:=by
  intro W0 C w outs fv vs I hH hO hf hl hv
  subst hH
  cases hf with
  | func _ caps _ c7 _=>
    have:caps=#[]:=Array.eq_empty_of_size_eq_zero (by simpa using c7)
    subst this
    refine .inl ⟨f,#[],rfl,hc,?_⟩
    match vs,hl with
    | [u,gv],_=>
      have hu:=hv 0 u _ rfl rfl
      have hg:=hv 1 gv _ rfl rfl
      obtain rfl:gv= .func (.func g) #[] #[]:=by
        cases hg with
        | func _ caps _ c7 _=>
          have:caps=#[]:=Array.eq_empty_of_size_eq_zero (by simpa using c7)
          subst this;rfl
      cases hu
      refine(spec.none _ _ w).mono fun e w' ⟨he,hw⟩=>?_
      subst hw
      exact⟨.tuple #[],.tuple [],C,he,h,rfl,.tuple _ _ rfl (by simp),I,hO⟩
end
end Go.Ab
namespace Go.Proofs.YtooopbnnhbacjaaGreat
open Go Go.Ab Go.Shelf Go.RowKit Go.Lib Go.Sort
set_option linter.all false
set_option maxHeartbeats 2000000 in
theorem Wt (b o cap:Nat) (x y r:Int) (hr:Hid ((x≠0→r=x)∧(x=0→r=y))) (W:World) (h0:W.cell? ⟨b,o,none⟩=some (.int .i64 x)) (h1:W.cell? ⟨b,o+1,none⟩=some (.int .i64 y)) :
    Calls Tryz.prog 29 #[.slice (some ⟨b,o,none⟩) 2 cap] W fun e w'=>e= .returned (.int .i64 r)∧w'=W:=by
  go_enter Tryz.func29,Tryz.ntmps29
  go_wp2
  go_rounds 3
  all_goals (go_returns;refine⟨?_,rfl⟩;have hr:=hr.out;simp_all)
theorem Mc (W:World) (u v:Value) (T:TypeId) (n i:Nat) (hn:n=W.heap.size):((W.alloc (.cells #[u,v] T)).drew).cell? ⟨n,i,none⟩=(#[u,v])[i]?:=World.cell?_alloc_at _ _ _ _ hn
set_option maxHeartbeats 4000000 in
theorem Uo (x0 x1 x2 x3 x4 x5 x6 y0 y1 y2 y3 y4 y5 y6 r:Int) (hr:Hid ((Lib.compareInt x0 y0≠0→r=Lib.compareInt x0 y0)∧(Lib.compareInt x0 y0=0→r=Lib.compareInt x1 y1))) (W:World) :
    Calls Tryz.prog 28 #[.agg #[.int .i64 x0,.int .i64 x1,.int .i64 x2,.int .i64 x3,.int .i64 x4,.int .i64 x5,.int .i64 x6],.agg #[.int .i64 y0,.int .i64 y1,.int .i64 y2,.int .i64 y3,.int .i64 y4,.int .i64 y5,.int .i64 y6]] W fun e w'=>
      e= .returned (.int .i64 r)∧∃ q os',w'=grow (W.drewN q) os':=by
  have eg:=fun x y W'=>AnyG.cmp_Compare_int Tryz.cmpInt x y W'
  change ∀ x y W',Calls Tryz.prog 30 _ _ _ at eg
  go_enter Tryz.func28,Tryz.ntmps28
  go_wp2
  go_region_held3 (fun w'=>w'.cell? ⟨W.heap.size,0,none⟩=some (.int .i64 x0)∧w'.cell? ⟨W.heap.size,1,none⟩=some (.int .i64 x1)∧w'.cell? ⟨W.heap.size+1,0,none⟩=some (.int .i64 y0)∧w'.cell? ⟨W.heap.size+1,1,none⟩=some (.int .i64 y1)) (go_keep)
    (first
      | (go_at_call 30;refine(eg _ _ _).mono ?_;rintro e w' ⟨rfl,rfl⟩)
      | (go_at_call 29;refine(Wt _ _ _ (Lib.compareInt x0 y0) (Lib.compareInt x1 y1) r hr _ ?_ ?_).mono ?_;(exact Mc _ _ _ _ _ 0 (by simp));(exact Mc _ _ _ _ _ 1 (by simp));rintro e w' ⟨rfl,rfl⟩))
  all_goals go_wp2
  all_goals go_ret
  all_goals exact⟨rfl,1,_,by rw[alloc_eq_grow,alloc_eq_grow,alloc_eq_grow,grow_grow,grow_grow];rfl⟩
set_option maxHeartbeats 4000000 in
theorem Ul (x0 x1 x2 y0 y1 y2 r:Int) (hr:Hid ((Lib.compareInt x0 y0≠0→r=Lib.compareInt x0 y0)∧(Lib.compareInt x0 y0=0→r=Lib.compareInt x1 y1))) (W:World) :
    Calls Tryz.prog 46 #[.agg #[.int .i64 x0,.int .i64 x1,.int .i64 x2],.agg #[.int .i64 y0,.int .i64 y1,.int .i64 y2]] W fun e w'=>
      e= .returned (.int .i64 r)∧∃ q os',w'=grow (W.drewN q) os':=by
  have eg:=fun x y W'=>AnyG.cmp_Compare_int Tryz.cmpInt x y W'
  change ∀ x y W',Calls Tryz.prog 30 _ _ _ at eg
  go_enter Tryz.func46,Tryz.ntmps46
  go_wp2
  go_region_held3 (fun w'=>w'.cell? ⟨W.heap.size,0,none⟩=some (.int .i64 x0)∧w'.cell? ⟨W.heap.size,1,none⟩=some (.int .i64 x1)∧w'.cell? ⟨W.heap.size+1,0,none⟩=some (.int .i64 y0)∧w'.cell? ⟨W.heap.size+1,1,none⟩=some (.int .i64 y1)) (go_keep)
    (first
      | (go_at_call 30;refine(eg _ _ _).mono ?_;rintro e w' ⟨rfl,rfl⟩)
      | (go_at_call 29;refine(Wt _ _ _ (Lib.compareInt x0 y0) (Lib.compareInt x1 y1) r hr _ ?_ ?_).mono ?_;(exact Mc _ _ _ _ _ 0 (by simp));(exact Mc _ _ _ _ _ 1 (by simp));rintro e w' ⟨rfl,rfl⟩))
  all_goals go_wp2
  all_goals go_ret
  all_goals exact⟨rfl,1,_,by rw[alloc_eq_grow,alloc_eq_grow,alloc_eq_grow,grow_grow,grow_grow];rfl⟩
def Lf (a b:Int):Int:=if a=0 then b else a
theorem O1 (a b:Int):Hid ((a≠0→Lf a b=a)∧(a=0→Lf a b=b)):=by
  show _∧_
  unfold Lf
  exact⟨fun h=>if_neg h,fun h=>if_pos h⟩
theorem U8 (a b c d:Int):decide (Lf (Lib.compareInt a c) (Lib.compareInt b d)<0)=decide (a<c∨a=c∧b<d):=by
  unfold Lf Lib.compareInt
  by_cases h1:a<c
  ·simp[h1]
  ·by_cases h2:c<a
   ·have:¬ a=c:=by omega
    simp[h1,h2,this]
   ·have:a=c:=by omega
    subst this
    by_cases h3:b<d
    ·simp[h3]
    ·by_cases h4:d<b<;>simp[h3,h4]
theorem T6 {α:Type} (f g:α→Int):SWO (ltOf fun x y=>Lf (Lib.compareInt (f x) (f y)) (Lib.compareInt (g x) (g y))):=by
  have e:∀ x y,ltOf (fun x y=>Lf (Lib.compareInt (f x) (f y)) (Lib.compareInt (g x) (g y))) x y=decide (f x<f y∨f x=f y∧g x<g y):=fun x y=>U8 _ _ _ _
  refine⟨fun x=>?_,fun x y z h1 h2=>?_,fun x y z h1 h2=>?_⟩
  ·rw[e];simp
  ·rw[e]at *;simp at *;omega
  ·rw[e]at *;simp at *;omega
def Ru (x:A1):List Int:=[x.Gate,x.Seq,x.Serial,x.Counter,x.Product,x.Lift,x.At]
def Jj (x:A1):List Value:=[.int .i64 x.Gate,.int .i64 x.Seq,.int .i64 x.Serial,.int .i64 x.Counter,.int .i64 x.Product,.int .i64 x.Lift,.int .i64 x.At]
def Nv (x:C8):List Int:=[x.From,x.To,x.Amount]
def Gq (x:C8):List Value:=[.int .i64 x.From,.int .i64 x.To,.int .i64 x.Amount]
theorem Tryz.sortK27:O9 Tryz.prog 27 28 Jj 7:=by
  refine⟨fun blk off cap d w hH hb hl=>?_,fun p cap w=>AnyF.slices_SortFunc_none Tryz.sortF27 p cap _ w⟩
  have eg:=AnyQ.slices_SortFunc Tryz.sortF27 7 Tryz.isAgg39 Tryz.sizeOf39 Jj (fun _=>rfl) (fun x v hv=>by simp[Jj]at hv;rcases hv with rfl | rfl | rfl | rfl | rfl | rfl | rfl<;>rfl) _ (T6 (fun x:A1=>x.Gate) (fun x=>x.Seq)) 28 #[] blk off cap d.toArray w
    (enters_of Tryz.func28 (by kernel_rfl) rfl) (fun _ _ _ _ x y=>Uo _ _ _ _ _ _ _ _ _ _ _ _ _ _ _ (O1 _ _) _) hH hb (by simpa using hl)
  change Calls Tryz.prog 27 _ _ _ at eg
  refine(show Calls Tryz.prog 27 #[.slice (some ⟨blk,off,none⟩) d.length cap,.func (.func 28) #[] #[]] w _ from eg).mono fun e w' ⟨he,d',n,os,hp,_,hw⟩=>⟨he,d',n,os,Jr hp,hw⟩
theorem Tryz.sortK45:O9 Tryz.prog 45 46 Gq 3:=by
  refine⟨fun blk off cap d w hH hb hl=>?_,fun p cap w=>AnyF.slices_SortFunc_none Tryz.sortF45 p cap _ w⟩
  have eg:=AnyQ.slices_SortFunc Tryz.sortF45 3 Tryz.isAgg66 Tryz.sizeOf66 Gq (fun _=>rfl) (fun x v hv=>by simp[Gq]at hv;rcases hv with rfl | rfl | rfl<;>rfl) _ (T6 (fun x:C8=>x.From) (fun x=>x.To)) 46 #[] blk off cap d.toArray w
    (enters_of Tryz.func46 (by kernel_rfl) rfl) (fun _ _ _ _ x y=>Ul _ _ _ _ _ _ _ (O1 _ _) _) hH hb (by simpa using hl)
  change Calls Tryz.prog 45 _ _ _ at eg
  refine(show Calls Tryz.prog 45 #[.slice (some ⟨blk,off,none⟩) d.length cap,.func (.func 46) #[] #[]] w _ from eg).mono fun e w' ⟨he,d',n,os,hp,_,hw⟩=>⟨he,d',n,os,Jr hp,hw⟩
end Go.Proofs.YtooopbnnhbacjaaGreat
namespace Go.Proofs.YtooopbnnhbacjaaGreat
open Go Go.Ab
attribute [local irreducible] AWP Bg B9 Aq Go.Ab.Sub alist dlist Ca Bt Ew Mg
set_option maxRecDepth 100000
set_option maxHeartbeats 4000000
set_option linter.unusedSimpArgs false
set_option linter.unusedVariables false
noncomputable section
def G7 (w:Int):Option (Int):=
  some w
theorem Ko (w:Int) {r:Int} (h:G7 w=some r):Aq Tryz.prog 59 [.int .i64 w] (·= .int .i64 r):=by
  refine Aq.nle (Aq.intro Tryz.func59 rfl rfl (by show _≤4;simp) ?_)
  unfold G7 at h
  (try simp +decide -implicitDefEqProofs only[go_sem])
  refine AWP.seq ?_
  refine AWP.region rfl ?_;intro K g
  (try simp +decide -implicitDefEqProofs only[go_sem])
  refine g _ _ ?_
  refine Aa ?_
  refine AWP.seq ?_
  refine AWP.region rfl ?_;intro K g
  (try simp +decide -implicitDefEqProofs only[go_sem])
  refine g _ _ ?_
  refine Aa ?_
  refine AWP.ret ?_
  obtain rfl:=Ag h
  simp +decide -implicitDefEqProofs only[go_sem,Ae,Ac.int.injEq,Int.natCast_zero,List.replicate_zero,List.length_take,List.length_drop,Ac.own.injEq,reduceCtorEq,Int.reduceAdd,Bc,Bd,A8,Bb,A9,Tryz.results59]
def Ky (sum:Int) (n_:Int):Option (Int×Bool):=
  (bif (decide ((IntKind.i64.wrap (1099511627776 - sum))<n_))then some (0,false)else (bif (decide (n_<(IntKind.i64.wrap ((-1099511627776) - sum))))then some (0,false)else some ((IntKind.i64.wrap (sum+n_)),true)))
theorem Nq (sum:Int) (n_:Int) {r:Int×Bool} (h:Ky sum n_=some r):Aq Tryz.prog 87 [.int .i64 sum,.int .i64 n_] (·= .tuple [.int .i64 r.1,.bool r.2]):=by
  refine Aq.nle (Aq.intro Tryz.func87 rfl rfl (by show _≤19;simp) ?_)
  unfold Ky at h
  (try simp +decide -implicitDefEqProofs only[go_sem])
  refine AWP.seq ?_
  refine AWP.region rfl ?_;intro K g
  (try simp +decide -implicitDefEqProofs only[go_sem])
  refine g _ _ ?_
  refine Aa ?_
  refine AWP.seq ?_
  refine AWP.seq ?_
  refine AWP.region rfl ?_;intro K g
  (try simp +decide -implicitDefEqProofs only[go_sem])
  refine Ak (fun hc=>?_) (fun hc=>?_)
  ·replace h:=Av h hc
   (try simp +decide -implicitDefEqProofs only[go_sem,hc])
   refine g _ _ ?_
   refine Aa ?_
   refine AWP.cond (Ai (fun hc=>?_) (fun hc=>?_))
   ·replace h:=Au h hc
    refine AWP.seq ?_
    refine AWP.region rfl ?_;intro K g
    (try simp +decide -implicitDefEqProofs only[go_sem])
    refine g _ _ ?_
    refine Aa ?_
    refine AWP.ret ?_
    refine Ad ?_
    obtain rfl:=Ag h
    simp +decide -implicitDefEqProofs only[go_sem,Ae,Ac.int.injEq,Int.natCast_zero,List.replicate_zero,List.length_take,List.length_drop,Ac.own.injEq,reduceCtorEq,Int.reduceAdd,Bc,Bd,A8,Bb,A9,Tryz.results87]
   replace h:=Av h hc
   refine AWP.skip ?_
   refine Aa ?_
   refine AWP.seq ?_
   refine AWP.region rfl ?_;intro K g
   (try simp +decide -implicitDefEqProofs only[go_sem])
   refine g _ _ ?_
   refine Aa ?_
   refine AWP.ret ?_
   obtain rfl:=Ag h
   simp +decide -implicitDefEqProofs only[go_sem,Ae,Ac.int.injEq,Int.natCast_zero,List.replicate_zero,List.length_take,List.length_drop,Ac.own.injEq,reduceCtorEq,Int.reduceAdd,Bc,Bd,A8,Bb,A9,Tryz.results87]
  replace h:=Au h hc
  (try simp +decide -implicitDefEqProofs only[go_sem,hc,Bool.not_false])
  refine g _ _ ?_
  refine Aa ?_
  refine AWP.cond (A7 ?_)
  refine AWP.seq ?_
  refine AWP.region rfl ?_;intro K g
  (try simp +decide -implicitDefEqProofs only[go_sem])
  refine g _ _ ?_
  refine Aa ?_
  refine AWP.ret ?_
  refine Ad ?_
  obtain rfl:=Ag h
  simp +decide -implicitDefEqProofs only[go_sem,Ae,Ac.int.injEq,Int.natCast_zero,List.replicate_zero,List.length_take,List.length_drop,Ac.own.injEq,reduceCtorEq,Int.reduceAdd,Bc,Bd,A8,Bb,A9,Tryz.results87]
def G8 (k3:Nat) (il:Int) (sv:Int):Option (Out (Int) (Int×Int)):=
  (G7 il).bind fun y6=>(Ky sv y6).bind fun y7=>(bif (!y7.2)then some (Out.ret (0,1))else some (Out.next y7.1))
def G9 (k0:Nat) (ao:Int) (sv:Unit):Option (Out (Unit) (Int×Int)):=
  (bif (decide (ao<0))then some (Out.ret (0,2))else (bif (decide (1000000000<ao))then some (Out.ret (0,2))else some (Out.next ())))
def Jl (amount:Int) (weights:List Int):Option (Int×Int):=
  (bif (decide (64<((weights.length:Nat):Int)))then some (0,4)else (bif (decide (amount<0))then some (0,2)else (bif (decide (1099511627776<amount))then some (0,2)else (Bo G9 0 weights ()).bind fun o0=>o0.on fun s0=>(Bo G8 0 weights 0).bind fun o3=>o3.on fun s3=>(bif (decide (s3=0))then some (0,1)else some (s3,0)))))
theorem Mi (amount:Int) (weights:List Int) {r:Int×Int} (h:Jl amount weights=some r):Aq Tryz.prog 35 [.int .i64 amount,.sl 1 (weights.map B5)] (·= .tuple [.int .i64 r.1,.int .i64 r.2]):=by
  refine Aq.nle (Aq.intro Tryz.func35 rfl rfl (by show _≤40;simp) ?_)
  unfold Jl at h
  (try simp +decide -implicitDefEqProofs only[go_sem])
  refine AWP.seq ?_
  refine AWP.region rfl ?_;intro K g
  (try simp +decide -implicitDefEqProofs only[go_sem])
  refine g _ _ ?_
  refine Aa ?_
  refine AWP.seq ?_
  refine AWP.seq ?_
  refine AWP.region rfl ?_;intro K g
  (try simp +decide -implicitDefEqProofs only[go_sem])
  intro hm
  refine g _ _ ?_
  refine Aa ?_
  refine AWP.cond (Ai (fun hc=>?_) (fun hc=>?_))
  ·replace h:=Au h hc
   refine AWP.seq ?_
   refine AWP.region rfl ?_;intro K g
   (try simp +decide -implicitDefEqProofs only[go_sem])
   refine g _ _ ?_
   refine Aa ?_
   refine AWP.ret ?_
   refine Ad ?_
   obtain rfl:=Ag h
   simp +decide -implicitDefEqProofs only[go_sem,Ae,Ac.int.injEq,Int.natCast_zero,List.replicate_zero,List.length_take,List.length_drop,Ac.own.injEq,reduceCtorEq,Int.reduceAdd,Bc,Bd,A8,Bb,A9,Tryz.results35]
  replace h:=Av h hc
  refine AWP.skip ?_
  refine Aa ?_
  refine AWP.seq ?_
  refine AWP.seq ?_
  refine AWP.region rfl ?_;intro K g
  (try simp +decide -implicitDefEqProofs only[go_sem])
  refine Ak (fun hc=>?_) (fun hc=>?_)
  ·replace h:=Av h hc
   (try simp +decide -implicitDefEqProofs only[go_sem,hc])
   refine g _ _ ?_
   refine Aa ?_
   refine AWP.cond (Ai (fun hc=>?_) (fun hc=>?_))
   ·replace h:=Au h hc
    refine AWP.seq ?_
    refine AWP.region rfl ?_;intro K g
    (try simp +decide -implicitDefEqProofs only[go_sem])
    refine g _ _ ?_
    refine Aa ?_
    refine AWP.ret ?_
    refine Ad ?_
    obtain rfl:=Ag h
    simp +decide -implicitDefEqProofs only[go_sem,Ae,Ac.int.injEq,Int.natCast_zero,List.replicate_zero,List.length_take,List.length_drop,Ac.own.injEq,reduceCtorEq,Int.reduceAdd,Bc,Bd,A8,Bb,A9,Tryz.results35]
   replace h:=Av h hc
   refine AWP.skip ?_
   refine Aa ?_
   refine AWP.seq ?_
   refine AWP.seq ?_
   refine AWP.region rfl ?_;intro K g
   (try simp +decide -implicitDefEqProofs only[go_sem])
   intro hm
   refine g _ _ ?_
   refine Aa ?_
   refine AWP.block ?_
   obtain⟨o0,ae,bg⟩:=A2 h
   clear h
   refine AWP.Cv (ι:=Nat×(Unit)×(Unit)) (fun zz=>[(1,.sl 1 (weights.map B5)),(19,.sl 1 (weights.map B5)),(20,.int .i64 ((weights.length:Nat):Int)),(21,.int .i64 ((zz.1:Nat):Int))]) (fun zz=>[]) (fun zz=>zz.1≤weights.length∧Bo G9 zz.1 ((weights).drop zz.1) zz.2.1=some o0) (fun zz=>weights.length - zz.1) (0,(),()) ⟨Nat.zero_le _,ae⟩ (by(simp +decide -implicitDefEqProofs only[go_sem,Ae,Ac.int.injEq,Int.natCast_zero,List.replicate_zero,List.length_take,List.length_drop,Ac.own.injEq,reduceCtorEq,Int.reduceAdd]<;>omega)) (by(simp +decide -implicitDefEqProofs only[go_sem,Ae,Ac.int.injEq,Int.natCast_zero,List.replicate_zero,List.length_take,List.length_drop,Ac.own.injEq,reduceCtorEq,Int.reduceAdd]<;>omega)) (fun x=>⟨rfl,rfl,rfl⟩) ?_
   clear ae
   rintro⟨k0,⟨⟩,⟨⟩⟩ ⟨cn,ae⟩
   dsimp only at cn ae ⊢
   refine AWP.seq ?_
   refine AWP.region rfl ?_;intro K g
   (try simp +decide -implicitDefEqProofs only[go_sem])
   refine g _ _ ?_
   refine Aa ?_
   refine AWP.seq ?_
   refine AWP.cond (Ai (fun hc=>?_) (fun hc=>?_))
   ·have bj:k0<weights.length:=by have:=bK hc;omega
    obtain⟨ao,b0,bn,h,ae⟩:=Bw ae bj
    have b7:=Br bn
    have bo:IntKind.i64.wrap (((k0:Nat):Int)+1)=(((k0:Nat):Int)+1):=by rw[wrap_i64]<;>omega
    unfold G9 at h;try dsimp only at h
    refine AWP.skip ?_
    refine Aa ?_
    refine AWP.seq ?_
    refine AWP.block ?_
    refine AWP.seq ?_
    refine AWP.region rfl ?_;intro K g
    (try simp +decide -implicitDefEqProofs only[go_sem])
    refine Ca.of (f:=B5) (l:=weights) b7 ?_
    (try simp +decide -implicitDefEqProofs only[go_sem])
    refine g _ _ ?_
    refine Aa ?_
    refine AWP.seq ?_
    refine AWP.region rfl ?_;intro K g
    (try simp +decide -implicitDefEqProofs only[go_sem])
    refine Ak (fun hc=>?_) (fun hc=>?_)
    ·replace h:=Av h hc
     (try simp +decide -implicitDefEqProofs only[go_sem,hc])
     refine g _ _ ?_
     refine Aa ?_
     refine AWP.cond (Ai (fun hc=>?_) (fun hc=>?_))
     ·replace h:=Au h hc
      refine AWP.seq ?_
      refine AWP.region rfl ?_;intro K g
      (try simp +decide -implicitDefEqProofs only[go_sem])
      refine g _ _ ?_
      refine Aa ?_
      refine AWP.ret ?_
      refine Aj ?_
      refine Ad ?_
      refine Ad ?_
      obtain rfl:=Ag h
      obtain rfl:=Ba ae
      replace h:=Bp bg
      refine Aj ?_
      refine Ad ?_
      obtain rfl:=Ag h
      simp +decide -implicitDefEqProofs only[go_sem,Ae,Ac.int.injEq,Int.natCast_zero,List.replicate_zero,List.length_take,List.length_drop,Ac.own.injEq,reduceCtorEq,Int.reduceAdd,Bc,Bd,A8,Bb,A9,Tryz.results35]
     replace h:=Av h hc
     refine AWP.skip ?_
     refine Al ?_
     refine Aa ?_
     refine AWP.region rfl ?_;intro K g
     (try simp +decide -implicitDefEqProofs only[go_sem])
     refine g _ _ ?_
     refine Aa ?_
     obtain rfl:=Ag h
     refine⟨(k0+1,(),()),⟨by dsimp only;omega,Bf ae⟩,by dsimp only;omega,?_,?_⟩
     ·(simp +decide -implicitDefEqProofs only[go_sem,Ae,Ac.int.injEq,Int.natCast_zero,List.replicate_zero,List.length_take,List.length_drop,Ac.own.injEq,reduceCtorEq,Int.reduceAdd,bo]<;>omega)
     (simp +decide -implicitDefEqProofs only[go_sem,Ae,Ac.int.injEq,Int.natCast_zero,List.replicate_zero,List.length_take,List.length_drop,Ac.own.injEq,reduceCtorEq,Int.reduceAdd,bo]<;>omega)
    replace h:=Au h hc
    (try simp +decide -implicitDefEqProofs only[go_sem,hc,Bool.not_false])
    refine g _ _ ?_
    refine Aa ?_
    refine AWP.cond (A7 ?_)
    refine AWP.seq ?_
    refine AWP.region rfl ?_;intro K g
    (try simp +decide -implicitDefEqProofs only[go_sem])
    refine g _ _ ?_
    refine Aa ?_
    refine AWP.ret ?_
    refine Aj ?_
    refine Ad ?_
    refine Ad ?_
    obtain rfl:=Ag h
    obtain rfl:=Ba ae
    replace h:=Bp bg
    refine Aj ?_
    refine Ad ?_
    obtain rfl:=Ag h
    simp +decide -implicitDefEqProofs only[go_sem,Ae,Ac.int.injEq,Int.natCast_zero,List.replicate_zero,List.length_take,List.length_drop,Ac.own.injEq,reduceCtorEq,Int.reduceAdd,Bc,Bd,A8,Bb,A9,Tryz.results35]
   obtain rfl:=B8 ae (fun hl=>by have:=bJ hc;omega)
   have h:=B7 bg;try dsimp only at h
   have ba:weights.length=k0:=by have:=bJ hc;omega
   subst ba
   refine AWP.exit ?_
   refine An ?_
   refine An ?_
   refine A6 ?_
   refine Aa ?_
   refine AWP.seq ?_
   refine AWP.region rfl ?_;intro K g
   (try simp +decide -implicitDefEqProofs only[go_sem])
   refine Bg.inline Tryz.call58 Tryz.func58 rfl rfl (by show _≤28;simp) ?_
   (try simp +decide -implicitDefEqProofs only[go_sem])
   refine AWP.seq ?_
   refine AWP.region rfl ?_;intro K g
   (try simp +decide -implicitDefEqProofs only[go_sem])
   refine g _ _ ?_;clear g K
   refine Aa ?_
   refine AWP.seq ?_
   refine AWP.region rfl ?_;intro K g
   (try simp +decide -implicitDefEqProofs only[go_sem])
   refine g _ _ ?_;clear g K
   refine Aa ?_
   refine AWP.seq ?_
   refine AWP.seq ?_
   refine AWP.region rfl ?_;intro K g
   (try simp +decide -implicitDefEqProofs only[go_sem])
   intro hm
   refine g _ _ ?_;clear g K
   refine Aa ?_
   refine AWP.block ?_
   obtain⟨o3,ku,qt⟩:=A2 h
   clear h
   refine AWP.Cv (ι:=Nat×(Int)×(Unit)) (fun zz=>[(1,.func 59 []),(6,.int .i64 zz.2.1),(10,.sl 1 (weights.map B5)),(11,.int .i64 ((weights.length:Nat):Int)),(12,.int .i64 ((zz.1:Nat):Int))]) (fun zz=>[]) (fun zz=>zz.1≤weights.length∧Bo G8 zz.1 ((weights).drop zz.1) zz.2.1=some o3) (fun zz=>weights.length - zz.1) (0,(0:Int),()) ⟨Nat.zero_le _,ku⟩ (by(simp +decide -implicitDefEqProofs only[go_sem,Ae,Ac.int.injEq,Int.natCast_zero,List.replicate_zero,List.length_take,List.length_drop,Ac.own.injEq,reduceCtorEq,Int.reduceAdd]<;>omega)) (by(simp +decide -implicitDefEqProofs only[go_sem,Ae,Ac.int.injEq,Int.natCast_zero,List.replicate_zero,List.length_take,List.length_drop,Ac.own.injEq,reduceCtorEq,Int.reduceAdd]<;>omega)) (fun x=>⟨rfl,rfl,rfl⟩) ?_
   clear ku
   rintro⟨k3,sum3,⟨⟩⟩ ⟨xj,ku⟩
   dsimp only at xj ku ⊢
   refine AWP.seq ?_
   refine AWP.region rfl ?_;intro K g
   (try simp +decide -implicitDefEqProofs only[go_sem])
   refine g _ _ ?_;clear g K
   refine Aa ?_
   refine AWP.seq ?_
   refine AWP.cond (Ai (fun hc=>?_) (fun hc=>?_))
   rotate_left
   ·obtain rfl:=B8 ku (fun hl=>by have:=bJ hc;omega)
    have h:=B7 qt;try dsimp only at h
    have ba:weights.length=k3:=by have:=bJ hc;omega
    subst ba
    refine AWP.exit ?_
    refine An ?_
    refine An ?_
    refine A6 ?_
    refine Aa ?_
    refine AWP.seq ?_
    refine AWP.region rfl ?_;intro K g
    (try simp +decide -implicitDefEqProofs only[go_sem])
    refine g _ _ ?_;clear g K
    refine Aa ?_
    refine AWP.ret ?_
    (try simp +decide -implicitDefEqProofs only[go_sem,Tryz.results58])
    refine g _ _ ?_
    refine Aa ?_
    refine AWP.seq ?_
    refine AWP.seq ?_
    refine AWP.region rfl ?_;intro K g
    (try simp +decide -implicitDefEqProofs only[go_sem])
    refine g _ _ ?_
    refine Aa ?_
    refine AWP.cond (Ai (fun hc=>?_) (fun hc=>?_))
    ·replace h:=Au h hc
     refine AWP.seq ?_
     refine AWP.region rfl ?_;intro K g
     (try simp +decide -implicitDefEqProofs only[go_sem])
     refine g _ _ ?_
     refine Aa ?_
     refine AWP.ret ?_
     refine Ad ?_
     obtain rfl:=Ag h
     simp +decide -implicitDefEqProofs only[go_sem,Ae,Ac.int.injEq,Int.natCast_zero,List.replicate_zero,List.length_take,List.length_drop,Ac.own.injEq,reduceCtorEq,Int.reduceAdd,Bc,Bd,A8,Bb,A9,Tryz.results35]
    replace h:=Av h hc
    refine AWP.skip ?_
    refine Aa ?_
    refine AWP.seq ?_
    refine AWP.region rfl ?_;intro K g
    (try simp +decide -implicitDefEqProofs only[go_sem])
    refine g _ _ ?_
    refine Aa ?_
    refine AWP.ret ?_
    obtain rfl:=Ag h
    simp +decide -implicitDefEqProofs only[go_sem,Ae,Ac.int.injEq,Int.natCast_zero,List.replicate_zero,List.length_take,List.length_drop,Ac.own.injEq,reduceCtorEq,Int.reduceAdd,Bc,Bd,A8,Bb,A9,Tryz.results35]
   have jx:k3<weights.length:=by have:=bK hc;omega
   obtain⟨il,b3,ru,h,ku⟩:=Bw ku jx
   have vz:=Br ru
   have uy:IntKind.i64.wrap (((k3:Nat):Int)+1)=(((k3:Nat):Int)+1):=by rw[wrap_i64]<;>omega
   unfold G8 at h;try dsimp only at h
   refine AWP.skip ?_
   refine Aa ?_
   refine AWP.seq ?_
   refine AWP.block ?_
   refine AWP.seq ?_
   refine AWP.region rfl ?_;intro K g
   (try simp +decide -implicitDefEqProofs only[go_sem])
   refine Ca.of (f:=B5) (l:=weights) vz ?_
   (try simp +decide -implicitDefEqProofs only[go_sem])
   refine g _ _ ?_;clear g K
   refine Aa ?_
   refine AWP.seq ?_
   refine AWP.region rfl ?_;intro K g
   (try simp +decide -implicitDefEqProofs only[go_sem])
   obtain⟨y6,oi,h⟩:=A2 h
   refine Bg.pure Tryz.call59 (Ko il oi) rfl fun _ hr=>?_
   subst hr
   (try simp +decide -implicitDefEqProofs only[go_sem])
   obtain⟨y7,oh,h⟩:=A2 h
   refine Bg.pure Tryz.call87 (Nq sum3 y6 oh) rfl fun _ hr=>?_
   subst hr
   (try simp +decide -implicitDefEqProofs only[go_sem])
   refine g _ _ ?_;clear g K
   refine Aa ?_
   refine AWP.seq ?_
   refine AWP.region rfl ?_;intro K g
   (try simp +decide -implicitDefEqProofs only[go_sem])
   refine g _ _ ?_;clear g K
   refine Aa ?_
   refine AWP.cond (Ai (fun hc=>?_) (fun hc=>?_))
   ·replace h:=Au h hc
    refine AWP.seq ?_
    refine AWP.region rfl ?_;intro K g
    (try simp +decide -implicitDefEqProofs only[go_sem])
    refine g _ _ ?_;clear g K
    refine Aa ?_
    refine AWP.ret ?_
    refine Aj ?_
    refine Ad ?_
    refine Ad ?_
    obtain rfl:=Ag h
    obtain rfl:=Ba ku
    replace h:=Bp qt
    refine Aj ?_
    refine Ad ?_
    (try simp +decide -implicitDefEqProofs only[go_sem,Tryz.results58])
    refine g _ _ ?_
    refine Aa ?_
    refine AWP.seq ?_
    refine AWP.seq ?_
    refine AWP.region rfl ?_;intro K g
    (try simp +decide -implicitDefEqProofs only[go_sem])
    refine g _ _ ?_
    refine Aa ?_
    refine AWP.cond (A7 ?_)
    refine AWP.seq ?_
    refine AWP.region rfl ?_;intro K g
    (try simp +decide -implicitDefEqProofs only[go_sem])
    refine g _ _ ?_
    refine Aa ?_
    refine AWP.ret ?_
    refine Ad ?_
    obtain rfl:=Ag h
    simp +decide -implicitDefEqProofs only[go_sem,Ae,Ac.int.injEq,Int.natCast_zero,List.replicate_zero,List.length_take,List.length_drop,Ac.own.injEq,reduceCtorEq,Int.reduceAdd,Bc,Bd,A8,Bb,A9,Tryz.results35]
   replace h:=Av h hc
   refine AWP.skip ?_
   refine Al ?_
   refine Aa ?_
   refine AWP.region rfl ?_;intro K g
   (try simp +decide -implicitDefEqProofs only[go_sem])
   refine g _ _ ?_;clear g K
   refine Aa ?_
   obtain rfl:=Ag h
   refine⟨(k3+1,y7.1,()),⟨by dsimp only;omega,Bf ku⟩,by dsimp only;omega,?_,?_⟩
   ·(simp +decide -implicitDefEqProofs only[go_sem,Ae,Ac.int.injEq,Int.natCast_zero,List.replicate_zero,List.length_take,List.length_drop,Ac.own.injEq,reduceCtorEq,Int.reduceAdd,uy]<;>omega)
   (simp +decide -implicitDefEqProofs only[go_sem,Ae,Ac.int.injEq,Int.natCast_zero,List.replicate_zero,List.length_take,List.length_drop,Ac.own.injEq,reduceCtorEq,Int.reduceAdd,uy]<;>omega)
  replace h:=Au h hc
  (try simp +decide -implicitDefEqProofs only[go_sem,hc,Bool.not_false])
  refine g _ _ ?_
  refine Aa ?_
  refine AWP.cond (A7 ?_)
  refine AWP.seq ?_
  refine AWP.region rfl ?_;intro K g
  (try simp +decide -implicitDefEqProofs only[go_sem])
  refine g _ _ ?_
  refine Aa ?_
  refine AWP.ret ?_
  refine Ad ?_
  obtain rfl:=Ag h
  simp +decide -implicitDefEqProofs only[go_sem,Ae,Ac.int.injEq,Int.natCast_zero,List.replicate_zero,List.length_take,List.length_drop,Ac.own.injEq,reduceCtorEq,Int.reduceAdd,Bc,Bd,A8,Bb,A9,Tryz.results35]
def Gt (x_:Int) (y:Int):Option (Int×Int):=
  some ((IntKind.u64.wrap ((IntKind.u64.wrap ((IntKind.u64.wrap ((Mj x_ 32)*(Mj y 32)))+(Mj (IntKind.u64.wrap ((IntKind.u64.wrap ((Mj x_ 32)*(N1 .u64 y 4294967295)))+(Mj (IntKind.u64.wrap ((N1 .u64 x_ 4294967295)*(N1 .u64 y 4294967295))) 32))) 32)))+(Mj (IntKind.u64.wrap ((N1 .u64 (IntKind.u64.wrap ((IntKind.u64.wrap ((Mj x_ 32)*(N1 .u64 y 4294967295)))+(Mj (IntKind.u64.wrap ((N1 .u64 x_ 4294967295)*(N1 .u64 y 4294967295))) 32))) 4294967295)+(IntKind.u64.wrap ((N1 .u64 x_ 4294967295)*(Mj y 32))))) 32))),(IntKind.u64.wrap (x_*y)))
theorem Jt (x_:Int) (y:Int) {r:Int×Int} (h:Gt x_ y=some r):Aq Tryz.prog 60 [.int .u64 x_,.int .u64 y] (·= .tuple [.int .u64 r.1,.int .u64 r.2]):=by
  refine Aq.nle (Aq.intro Tryz.func60 rfl rfl (by show _≤51;simp) ?_)
  unfold Gt at h
  (try simp +decide -implicitDefEqProofs only[go_sem])
  refine AWP.seq ?_
  refine AWP.region rfl ?_;intro K g
  (try simp +decide -implicitDefEqProofs only[go_sem])
  refine g _ _ ?_
  refine Aa ?_
  refine AWP.seq ?_
  refine AWP.region rfl ?_;intro K g
  (try simp +decide -implicitDefEqProofs only[go_sem])
  refine g _ _ ?_
  refine Aa ?_
  refine AWP.seq ?_
  refine AWP.region rfl ?_;intro K g
  (try simp +decide -implicitDefEqProofs only[go_sem])
  try refine⟨by decide,?_⟩
  (try simp +decide -implicitDefEqProofs only[go_sem])
  refine g _ _ ?_
  refine Aa ?_
  refine AWP.seq ?_
  refine AWP.region rfl ?_;intro K g
  (try simp +decide -implicitDefEqProofs only[go_sem])
  refine g _ _ ?_
  refine Aa ?_
  refine AWP.seq ?_
  refine AWP.region rfl ?_;intro K g
  (try simp +decide -implicitDefEqProofs only[go_sem])
  try refine⟨by decide,?_⟩
  (try simp +decide -implicitDefEqProofs only[go_sem])
  refine g _ _ ?_
  refine Aa ?_
  refine AWP.seq ?_
  refine AWP.region rfl ?_;intro K g
  (try simp +decide -implicitDefEqProofs only[go_sem])
  refine g _ _ ?_
  refine Aa ?_
  refine AWP.seq ?_
  refine AWP.region rfl ?_;intro K g
  (try simp +decide -implicitDefEqProofs only[go_sem])
  try refine⟨by decide,?_⟩
  (try simp +decide -implicitDefEqProofs only[go_sem])
  refine g _ _ ?_
  refine Aa ?_
  refine AWP.seq ?_
  refine AWP.region rfl ?_;intro K g
  (try simp +decide -implicitDefEqProofs only[go_sem])
  refine g _ _ ?_
  refine Aa ?_
  refine AWP.seq ?_
  refine AWP.region rfl ?_;intro K g
  (try simp +decide -implicitDefEqProofs only[go_sem])
  try refine⟨by decide,?_⟩
  (try simp +decide -implicitDefEqProofs only[go_sem])
  refine g _ _ ?_
  refine Aa ?_
  refine AWP.seq ?_
  refine AWP.region rfl ?_;intro K g
  (try simp +decide -implicitDefEqProofs only[go_sem])
  refine g _ _ ?_
  refine Aa ?_
  refine AWP.seq ?_
  refine AWP.region rfl ?_;intro K g
  (try simp +decide -implicitDefEqProofs only[go_sem])
  try refine⟨by decide,?_⟩
  (try simp +decide -implicitDefEqProofs only[go_sem])
  refine g _ _ ?_
  refine Aa ?_
  refine AWP.seq ?_
  refine AWP.region rfl ?_;intro K g
  (try simp +decide -implicitDefEqProofs only[go_sem])
  refine g _ _ ?_
  refine Aa ?_
  refine AWP.ret ?_
  obtain rfl:=Ag h
  simp +decide -implicitDefEqProofs only[go_sem,Ae,Ac.int.injEq,Int.natCast_zero,List.replicate_zero,List.length_take,List.length_drop,Ac.own.injEq,reduceCtorEq,Int.reduceAdd,Bc,Bd,A8,Bb,A9,Tryz.results60]
def Gu (hi:Int) (lo:Int) (y:Int):Option (Int×Int):=
  (bif (decide (y=0))then none else(bif (decide (y≤hi))then none else(bif (decide (hi=0))then nz y (nz y (some ((IntKind.u64.wrap (Int.tdiv lo y)),(Int.tmod lo y))))else none)))
theorem Ju (hi:Int) (lo:Int) (y:Int) {r:Int×Int} (h:Gu hi lo y=some r):Aq Tryz.prog 61 [.int .u64 hi,.int .u64 lo,.int .u64 y] (·= .tuple [.int .u64 r.1,.int .u64 r.2]):=by
  refine Aq.nle (Aq.intro Tryz.func61 rfl rfl (by show _≤135;simp) ?_)
  unfold Gu at h
  (try simp +decide -implicitDefEqProofs only[go_sem])
  refine AWP.seq ?_
  refine AWP.region rfl ?_;intro K g
  (try simp +decide -implicitDefEqProofs only[go_sem])
  refine g _ _ ?_
  refine Aa ?_
  refine AWP.seq ?_
  refine AWP.seq ?_
  refine AWP.region rfl ?_;intro K g
  (try simp +decide -implicitDefEqProofs only[go_sem])
  refine g _ _ ?_
  refine Aa ?_
  refine AWP.cond (Ai (fun hc=>?_) (fun hc=>?_))
  ·replace h:=Au h hc
   cases h
  replace h:=Av h hc
  refine AWP.skip ?_
  refine Aa ?_
  refine AWP.seq ?_
  refine AWP.seq ?_
  refine AWP.region rfl ?_;intro K g
  (try simp +decide -implicitDefEqProofs only[go_sem])
  refine g _ _ ?_
  refine Aa ?_
  refine AWP.cond (Ai (fun hc=>?_) (fun hc=>?_))
  ·replace h:=Au h hc
   cases h
  replace h:=Av h hc
  refine AWP.skip ?_
  refine Aa ?_
  refine AWP.seq ?_
  refine AWP.seq ?_
  refine AWP.region rfl ?_;intro K g
  (try simp +decide -implicitDefEqProofs only[go_sem])
  refine g _ _ ?_
  refine Aa ?_
  refine AWP.cond (Ai (fun hc=>?_) (fun hc=>?_))
  ·replace h:=Au h hc
   refine AWP.seq ?_
   refine AWP.draw Tryz.mixed (by kernel_rfl) ?_;intro K g
   (try simp +decide -implicitDefEqProofs only[go_sem])
   obtain⟨hk,h⟩:=V4 h
   refine⟨hk,?_⟩
   obtain⟨hk,h⟩:=V4 h
   refine⟨hk,?_⟩
   refine g _ _ _ (by kernel_rfl) ?_
   refine Aa ?_
   refine AWP.ret ?_
   refine Ad ?_
   obtain rfl:=Ag h
   simp +decide -implicitDefEqProofs only[go_sem,Ae,Ac.int.injEq,Int.natCast_zero,List.replicate_zero,List.length_take,List.length_drop,Ac.own.injEq,reduceCtorEq,Int.reduceAdd,Bc,Bd,A8,Bb,A9,Tryz.results61]
  replace h:=Av h hc
  refine AWP.skip ?_
  refine Aa ?_
  refine AWP.seq ?_
  refine AWP.region rfl ?_;intro K g
  (try simp +decide -implicitDefEqProofs only[go_sem])
  cases h
def Hn (amount:Int) (weight:Int) (total:Int):Option (Int×Int):=
  (Gt (IntKind.u64.wrap amount) (IntKind.u64.wrap weight)).bind fun y1=>(Gu y1.1 y1.2 (IntKind.u64.wrap total)).bind fun y2=>some ((IntKind.i64.wrap y2.1),(IntKind.i64.wrap y2.2))
theorem Ii (amount:Int) (weight:Int) (total:Int) {r:Int×Int} (h:Hn amount weight total=some r):Aq Tryz.prog 36 [.int .i64 amount,.int .i64 weight,.int .i64 total] (·= .tuple [.int .i64 r.1,.int .i64 r.2]):=by
  refine Aq.nle (Aq.intro Tryz.func36 rfl rfl (by show _≤32;simp) ?_)
  unfold Hn at h
  (try simp +decide -implicitDefEqProofs only[go_sem])
  refine AWP.seq ?_
  refine AWP.region rfl ?_;intro K g
  (try simp +decide -implicitDefEqProofs only[go_sem])
  refine g _ _ ?_
  refine Aa ?_
  refine AWP.seq ?_
  refine AWP.region rfl ?_;intro K g
  (try simp +decide -implicitDefEqProofs only[go_sem])
  obtain⟨y1,ch,h⟩:=A2 h
  refine Bg.pure Tryz.call60 (Jt (IntKind.u64.wrap amount) (IntKind.u64.wrap weight) ch) rfl fun _ hr=>?_
  subst hr
  (try simp +decide -implicitDefEqProofs only[go_sem])
  refine g _ _ ?_
  refine Aa ?_
  refine AWP.seq ?_
  refine AWP.region rfl ?_;intro K g
  (try simp +decide -implicitDefEqProofs only[go_sem])
  obtain⟨y2,dd,h⟩:=A2 h
  refine Bg.pure Tryz.call61 (Ju y1.1 y1.2 (IntKind.u64.wrap total) dd) rfl fun _ hr=>?_
  subst hr
  (try simp +decide -implicitDefEqProofs only[go_sem])
  refine g _ _ ?_
  refine Aa ?_
  refine AWP.seq ?_
  refine AWP.region rfl ?_;intro K g
  (try simp +decide -implicitDefEqProofs only[go_sem])
  refine g _ _ ?_
  refine Aa ?_
  refine AWP.ret ?_
  obtain rfl:=Ag h
  simp +decide -implicitDefEqProofs only[go_sem,Ae,Ac.int.injEq,Int.natCast_zero,List.replicate_zero,List.length_take,List.length_drop,Ac.own.injEq,reduceCtorEq,Int.reduceAdd,Bc,Bd,A8,Bb,A9,Tryz.results36]
def cmp_isNaN_int (x_:Int):Option (Bool):=
  some false
theorem Hi (x_:Int) {r:Bool} (h:cmp_isNaN_int x_=some r):Aq Tryz.prog 54 [.int .i64 x_] (·= .bool r):=by
  refine Aq.nle (Aq.intro Tryz.func54 rfl rfl (by show _≤6;simp) ?_)
  unfold cmp_isNaN_int at h
  (try simp +decide -implicitDefEqProofs only[go_sem])
  refine AWP.seq ?_
  refine AWP.region rfl ?_;intro K g
  (try simp +decide -implicitDefEqProofs only[go_sem])
  refine g _ _ ?_
  refine Aa ?_
  refine AWP.seq ?_
  refine AWP.region rfl ?_;intro K g
  (try simp +decide -implicitDefEqProofs only[go_sem])
  refine g _ _ ?_
  refine Aa ?_
  refine AWP.ret ?_
  obtain rfl:=Ag h
  simp +decide -implicitDefEqProofs only[go_sem,Ae,Ac.int.injEq,Int.natCast_zero,List.replicate_zero,List.length_take,List.length_drop,Ac.own.injEq,reduceCtorEq,Int.reduceAdd,Bc,Bd,A8,Bb,A9,Tryz.results54]
def cmp_Compare_int (x_:Int) (y:Int):Option (Int):=
  (cmp_isNaN_int x_).bind fun y1=>(cmp_isNaN_int y).bind fun y2=>(bif y1 then(bif y2 then some 0 else some (-1))else (bif y2 then some 1 else(bif (decide (x_<y))then some (-1)else (bif (decide (y<x_))then some 1 else some 0))))
theorem Er (x_:Int) (y:Int) {r:Int} (h:cmp_Compare_int x_ y=some r):Aq Tryz.prog 30 [.int .i64 x_,.int .i64 y] (·= .int .i64 r):=by
  refine Aq.nle (Aq.intro Tryz.func30 rfl rfl (by show _≤20;simp) ?_)
  unfold cmp_Compare_int at h
  (try simp +decide -implicitDefEqProofs only[go_sem])
  refine AWP.seq ?_
  refine AWP.region rfl ?_;intro K g
  (try simp +decide -implicitDefEqProofs only[go_sem])
  refine g _ _ ?_
  refine Aa ?_
  refine AWP.seq ?_
  refine AWP.region rfl ?_;intro K g
  (try simp +decide -implicitDefEqProofs only[go_sem])
  obtain⟨y1,ch,h⟩:=A2 h
  refine Bg.pure Tryz.call54 (Hi x_ ch) rfl fun _ hr=>?_
  subst hr
  (try simp +decide -implicitDefEqProofs only[go_sem])
  refine g _ _ ?_
  refine Aa ?_
  refine AWP.seq ?_
  refine AWP.region rfl ?_;intro K g
  (try simp +decide -implicitDefEqProofs only[go_sem])
  obtain⟨y2,dd,h⟩:=A2 h
  refine Bg.pure Tryz.call54 (Hi y dd) rfl fun _ hr=>?_
  subst hr
  (try simp +decide -implicitDefEqProofs only[go_sem])
  refine g _ _ ?_
  refine Aa ?_
  refine AWP.seq ?_
  refine AWP.seq ?_
  refine AWP.region rfl ?_;intro K g
  (try simp +decide -implicitDefEqProofs only[go_sem])
  refine g _ _ ?_
  refine Aa ?_
  refine AWP.cond (Ai (fun hc=>?_) (fun hc=>?_))
  ·replace h:=Au h hc
   refine AWP.seq ?_
   refine AWP.seq ?_
   refine AWP.region rfl ?_;intro K g
   (try simp +decide -implicitDefEqProofs only[go_sem])
   refine g _ _ ?_
   refine Aa ?_
   refine AWP.cond (Ai (fun hc=>?_) (fun hc=>?_))
   ·replace h:=Au h hc
    refine AWP.seq ?_
    refine AWP.region rfl ?_;intro K g
    (try simp +decide -implicitDefEqProofs only[go_sem])
    refine g _ _ ?_
    refine Aa ?_
    refine AWP.ret ?_
    refine Ad ?_
    refine Ad ?_
    obtain rfl:=Ag h
    simp +decide -implicitDefEqProofs only[go_sem,Ae,Ac.int.injEq,Int.natCast_zero,List.replicate_zero,List.length_take,List.length_drop,Ac.own.injEq,reduceCtorEq,Int.reduceAdd,Bc,Bd,A8,Bb,A9,Tryz.results30]
   replace h:=Av h hc
   refine AWP.skip ?_
   refine Aa ?_
   refine AWP.seq ?_
   refine AWP.region rfl ?_;intro K g
   (try simp +decide -implicitDefEqProofs only[go_sem])
   refine g _ _ ?_
   refine Aa ?_
   refine AWP.ret ?_
   refine Ad ?_
   obtain rfl:=Ag h
   simp +decide -implicitDefEqProofs only[go_sem,Ae,Ac.int.injEq,Int.natCast_zero,List.replicate_zero,List.length_take,List.length_drop,Ac.own.injEq,reduceCtorEq,Int.reduceAdd,Bc,Bd,A8,Bb,A9,Tryz.results30]
  replace h:=Av h hc
  refine AWP.skip ?_
  refine Aa ?_
  refine AWP.seq ?_
  refine AWP.seq ?_
  refine AWP.region rfl ?_;intro K g
  (try simp +decide -implicitDefEqProofs only[go_sem])
  refine g _ _ ?_
  refine Aa ?_
  refine AWP.cond (Ai (fun hc=>?_) (fun hc=>?_))
  ·replace h:=Au h hc
   refine AWP.seq ?_
   refine AWP.region rfl ?_;intro K g
   (try simp +decide -implicitDefEqProofs only[go_sem])
   refine g _ _ ?_
   refine Aa ?_
   refine AWP.ret ?_
   refine Ad ?_
   obtain rfl:=Ag h
   simp +decide -implicitDefEqProofs only[go_sem,Ae,Ac.int.injEq,Int.natCast_zero,List.replicate_zero,List.length_take,List.length_drop,Ac.own.injEq,reduceCtorEq,Int.reduceAdd,Bc,Bd,A8,Bb,A9,Tryz.results30]
  replace h:=Av h hc
  refine AWP.skip ?_
  refine Aa ?_
  refine AWP.seq ?_
  refine AWP.seq ?_
  refine AWP.region rfl ?_;intro K g
  (try simp +decide -implicitDefEqProofs only[go_sem])
  refine g _ _ ?_
  refine Aa ?_
  refine AWP.cond (Ai (fun hc=>?_) (fun hc=>?_))
  ·replace h:=Au h hc
   refine AWP.seq ?_
   refine AWP.region rfl ?_;intro K g
   (try simp +decide -implicitDefEqProofs only[go_sem])
   refine g _ _ ?_
   refine Aa ?_
   refine AWP.ret ?_
   refine Ad ?_
   obtain rfl:=Ag h
   simp +decide -implicitDefEqProofs only[go_sem,Ae,Ac.int.injEq,Int.natCast_zero,List.replicate_zero,List.length_take,List.length_drop,Ac.own.injEq,reduceCtorEq,Int.reduceAdd,Bc,Bd,A8,Bb,A9,Tryz.results30]
  replace h:=Av h hc
  refine AWP.skip ?_
  refine Aa ?_
  refine AWP.seq ?_
  refine AWP.seq ?_
  refine AWP.region rfl ?_;intro K g
  (try simp +decide -implicitDefEqProofs only[go_sem])
  refine g _ _ ?_
  refine Aa ?_
  refine AWP.cond (Ai (fun hc=>?_) (fun hc=>?_))
  ·replace h:=Au h hc
   refine AWP.seq ?_
   refine AWP.region rfl ?_;intro K g
   (try simp +decide -implicitDefEqProofs only[go_sem])
   refine g _ _ ?_
   refine Aa ?_
   refine AWP.ret ?_
   refine Ad ?_
   obtain rfl:=Ag h
   simp +decide -implicitDefEqProofs only[go_sem,Ae,Ac.int.injEq,Int.natCast_zero,List.replicate_zero,List.length_take,List.length_drop,Ac.own.injEq,reduceCtorEq,Int.reduceAdd,Bc,Bd,A8,Bb,A9,Tryz.results30]
  replace h:=Av h hc
  refine AWP.skip ?_
  refine Aa ?_
  refine AWP.seq ?_
  refine AWP.region rfl ?_;intro K g
  (try simp +decide -implicitDefEqProofs only[go_sem])
  refine g _ _ ?_
  refine Aa ?_
  refine AWP.ret ?_
  obtain rfl:=Ag h
  simp +decide -implicitDefEqProofs only[go_sem,Ae,Ac.int.injEq,Int.natCast_zero,List.replicate_zero,List.length_take,List.length_drop,Ac.own.injEq,reduceCtorEq,Int.reduceAdd,Bc,Bd,A8,Bb,A9,Tryz.results30]
end
end Go.Proofs.YtooopbnnhbacjaaGreat
