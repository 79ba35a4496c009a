/- The reckoning of a region of code, of calls and of loops is right, and the shared contracts follow from it. -/
import Derived.Test.YthhfolohakiemaaGreatDoorMagF
set_option linter.all false
namespace Go.Ped
open Go.RowKit
section
def Ob.n4:Ob→Nat→AV→Ob
 | .an cs,j,y=> .an (cs.set j y)
 | .aI ks vs,j,y=> .aI ks (vs.set j y)
 |o,_,_=>o
theorem Ob.ma {o:Ob} {j:Nat} {x y:AV} (h:o.at j=some x) (i:Nat):(o.n4 j y).at i=if j=i then some y else o.at i:=by
 cases o with
 |an cs=>
  have hlt:j<cs.length:=(List.getElem?_eq_some_iff.1 h).1
  simp only [Ob.n4,Ob.at,List.getElem?_set]
  grind
 |aI ks vs=>
  have hlt:j<vs.length:=(List.getElem?_eq_some_iff.1 h).1
  simp only [Ob.n4,Ob.at,List.getElem?_set]
  grind
 |aw sz es=>cases h
 |ao sz es=>cases h
 |iw o=>cases h
 |aB=>cases h
section
variable {F:Fr} {S S':df} {β β':bn} {hp:List (Nat×Ob)} {w:World}
theorem zk {id:Nat} {o:Ob} {j:Nat} {x:AV} (h:HO S β w id o) (ha:o.at j=some x):∃bi u,β id=some bi∧e8 w bi.bG j=some u∧V S β w u x:=by
 cases o with
 |an cs=>
  obtain ⟨bi,h1,h2,cur,t,r1,r2,r3,r4,r5,r6⟩:=h
  obtain ⟨u,hu,hv⟩:=r6 0 j (.al cs) x rfl ha
  simp_all[Nat.zero_mul,Nat.zero_add,e8]
 |aI ks vs=>
  obtain ⟨bi,es,cl,h1,h2,h3,h4,h5,h6,_⟩:=h
  have hlt:j<vs.length:=(List.getElem?_eq_some_iff.1 ha).1
  have he:es[j]? =some (es[j]'(by omega)):=Array.getElem?_eq_getElem (by omega)
  exact ⟨bi,_,h1,by grind[cT],h6 j _ x he ha⟩
 |aw sz es=>cases ha
 |ao sz es=>cases ha
 |iw o=>cases ha
 |aB=>cases ha
theorem CH {id:Nat} {o:Ob} {j:Nat} {x y:AV} (h:HO S β w id o) (ha:o.at j=some x) (hy:∀u,(∀bi,β id=some bi→e8 w bi.bG j=some u)→V S β w u x→V S' β' w u y) (hS:∀b,S b→S' b) (hβ:∀i b,β i=some b→β' i=some b):HO S' β' w id (o.n4 j y):=by
 have up:∀{u:Value} {z:AV},V S β w u z→V S' β' w u z:=fun h=>h.bR hS hβ (nI.bb S w)
 cases o with
 |an cs=>
  obtain ⟨bi,h1,h2,cur,t,r1,r2,r3,r4,r5,r6⟩:=h
  refine ⟨bi,hβ _ _ h1,h2,cur,t,r1,r2,by omega,r4,fun i e he=> ?_,fun i k e c he hc=> ?_⟩
  ·cases i with
   |zero=>
    simp only [List.getElem?_cons_zero,Option.some.injEq] at he
    subst he
    have:=r5 0 (.al cs) rfl
    grind[AV.ac]
   |succ i=>grind
  ·cases i with
   |zero=>
    simp only [List.getElem?_cons_zero,Option.some.injEq] at he
    subst he
    simp only [AV.ac,List.getElem?_set] at hc
    by_cases e:j=k
    ·subst e
     rw [if_pos rfl] at hc
     split at hc
     ·injection hc with hc;subst hc
      obtain ⟨u,hu,hv⟩:=r6 0 j (.al cs) x rfl ha
      simp_all[e8,Nat.zero_mul,Nat.zero_add]
     grind
    ·rw [if_neg e] at hc
     obtain ⟨u,hu,hv⟩:=r6 0 k (.al cs) c rfl hc
     grind
   |succ i=>grind
 |aI ks vs=>
  obtain ⟨bi,es,cl,h1,h2,h3,h4,h5,h6,h7⟩:=h
  refine ⟨bi,es,cl,hβ _ _ h1,h2,h3,by grind,fun i e k he hk=>up (h5 i e k he hk),fun i e v he hv=> ?_,h7⟩
  rw [List.getElem?_set] at hv
  by_cases e':j=i
  ·subst e'
   rw [if_pos rfl] at hv
   split at hv
   ·injection hv with hv;subst hv
    refine hy _ (fun b2 hb2=> ?_) (h6 j e x he ha)
    grind[cT]
   grind
  grind
 |aw sz es=>cases ha
 |ao sz es=>cases ha
 |iw o=>cases ha
 |aB=>cases ha
theorem CG {id:Nat} {o:Ob} (h:HO S β w id o) (hS:∀b,S b→S' b) (hβ:∀i b,β i=some b→β' i=some b):HO S' β' w id o:=h.bR hS hβ (nI.bb S w) (fun _ _=>rfl)
theorem b7.Fv (M:b7 F S β hp w) {id j sz d:Nat} {es:List AV} {o:Ob} (ho:ae hp id=some o) (ha:o.at j=some (.aX sz es)) (hne:es≠[]) (hd:ae hp d=none) (hm:mid≤id→mid≤d):
  ∃β',lg S S β β' w w∧b7 F S β' (ba (ba hp id (o.n4 j (.aw d 0 es.length))) d (.aw sz es)) w:=by
 obtain ⟨v,hO,hv⟩:=M.da.aX id o j sz es ho ha
 rcases hv with ⟨e,_⟩|⟨b,cap,rfl,_,hHR,B⟩
 ·grind
 have hbn:=M.ff hd
 have hne':id≠d:=by grind
 let bi:Bl:=⟨b,sz,cap⟩
 have hx:∀i x,β i=some x→β.nM d bi i=some x:=bn.dQ hbn
 have hlen:es.length≤cap:=by obtain ⟨_,_,_,_,h,_⟩:=hHR;omega
 have hlv:∀k,k≠d→(∀y,ae (ba (ba hp id (o.n4 j (.aw d 0 es.length))) d (.aw sz es)) k=some y→y≠ .aB)→∀y,ae hp k=some y→y≠ .aB:=by
  intro k hk h y hy
  by_cases e:id=k
  ·grind[Ob.d8]
  simp_all[aq,if_neg,Ne.symm]
 refine ⟨β.nM d bi,⟨fun _ h=>h,hx,nI.bb S w⟩,b7.pj ⟨M.pM,M.os,M.eL,M.cc,M.b6,M.a6,fun k y hy=> ?_,fun k bk hk=> ?_,fun i k b1 b2 h1 h2 h3 h4 h5=> ?_,fun i b1 h1=> ?_,M.sub,M.eW,M.dN,fun i b1 h1 h2=>hx i b1 (M.pL i b1 h1 h2)⟩
  (fun M0=>M.da.jE (fun _ h=>h) (nI.bb S w) M0.fZ (fun id' o' j' sz' es' h1 h2=> ?_) (fun b2 B2 hex=>⟨rfl,B2.ns,B2.lt,B2.fr,fun i b1 h1 hl=> ?_⟩))⟩
 ·rw [aq] at hy
  by_cases e:d=k
  ·subst e;rw [if_pos rfl] at hy;injection hy with hy;subst hy
   exact ⟨bi,bn.cV _ _ _,rfl,hHR.bR (fun _ h=>h) (fun _ _ h=>by cases h) (nI.bb S w) rfl⟩
  ·rw [if_neg e,aq] at hy
   by_cases e2:id=k
   ·subst e2;rw [if_pos rfl] at hy;injection hy with hy;subst hy
    obtain ⟨o2,b2,q1,q2,q3,q4⟩:=hO
    rw [ho] at q1;injection q1 with q1;subst q1
    have hob:=M.dg id o ho
    have key:V S (β.nM d bi) w (.slice (some ⟨b,0,none⟩) es.length cap) (.aw d 0 es.length):=by
     have:=V.aw (S:=S) (β:=β.nM d bi) (w:=w) d 0 es.length ⟨b,0,none⟩ bi (bn.cV _ _ _) (by grind) (fun _=>by grind)
     omega
    cases o with
    |an cs=>
     obtain ⟨bj,h1,h2,cur,t,r1,r2,r3,r4,r5,r6⟩:=hob
     rw [q2] at h1;injection h1 with h1;subst h1
     refine ⟨b2,hx _ _ q2,h2,cur,t,r1,r2,by omega,r4,fun i e he=> ?_,fun i k e c he hc=> ?_⟩
     ·cases i with
      |zero=>
       simp only [List.getElem?_cons_zero,Option.some.injEq] at he
       subst he
       have:=r5 0 (.al cs) rfl
       grind[AV.ac]
      |succ i=>grind
     ·cases i with
      |zero=>
       simp only [List.getElem?_cons_zero,Option.some.injEq] at he
       subst he
       simp only [AV.ac,List.getElem?_set] at hc
       by_cases e:j=k
       ·subst e
        rw [if_pos rfl] at hc
        simp_all[e8,Nat.zero_mul,Nat.zero_add]
       ·rw [if_neg e] at hc
        obtain ⟨u,hu,hv⟩:=r6 0 k (.al cs) c rfl hc
        exact ⟨u,hu,hv.bR (fun _ h=>h) hx (nI.bb S w)⟩
      |succ i=>grind
    |aI ks vs=>
     obtain ⟨bj,en,cl,h1,h2,h3,h4,h5,h6,h7⟩:=hob
     rw [q2] at h1;injection h1 with h1;subst h1
     refine ⟨b2,en,cl,hx _ _ q2,h2,h3,by grind,fun i e k he hk=>(h5 i e k he hk).bR (fun _ h=>h) hx (nI.bb S w),fun i e v he hv=> ?_,h7⟩
     rw [List.getElem?_set] at hv
     by_cases e':j=i
     ·subst e'
      rw [if_pos rfl] at hv
      split at hv
      ·injection hv with hv;subst hv
       rw [cT h2,he] at q4
       grind
      grind
     ·rw [if_neg e'] at hv
      exact (h6 i e v he hv).bR (fun _ h=>h) hx (nI.bb S w)
    |aw sz' es'=>cases ha
    |ao sz' es'=>cases ha
    |iw o=>cases ha
    |aB=>cases ha
   ·rw [if_neg e2] at hy
    exact CG (M.dg k y hy) (fun _ h=>h) hx
 ·rw [aq]
  by_cases e:d=k
  ·grind
  ·rw [if_neg e,aq]
   rcases bn.cn hk with ⟨e',_⟩|⟨_,hk⟩
   ·omega
   ·by_cases e2:id=k
    all_goals simp_all[if_pos,if_neg,M.jU]
 ·rcases bn.cn h1 with ⟨e1,c1⟩|⟨e1,h1⟩<;>rcases bn.cn h2 with ⟨e2,c2⟩|⟨e2,h2⟩
  ·omega
  ·exact absurd (by grind) (B.ap k b2 h2 (hlv k e2 h4))
  ·exact absurd (by grind) (B.ap i b1 h1 (hlv i e1 h3))
  grind[M.fZ]
 ·rcases bn.cn h1 with ⟨e1,c1⟩|⟨_,h1⟩
  ·subst c1
   refine ⟨B.ns,B.lt,?_⟩
   rcases Nat.lt_or_ge id mid with h|h
   ·exact .inr (M.da.dN _ _ _ _ _ _ _ hO h)
   ·rcases B.fr with h'|h'
    all_goals grind
  ·exact M.aX i b1 h1
 ·rw [aq] at h1
  by_cases e:d=id'
  ·subst e;rw [if_pos rfl] at h1;injection h1 with h1;subst h1;cases h2
  ·rw [if_neg e,aq] at h1
   by_cases e2:id=id'
   ·subst e2;rw [if_pos rfl] at h1;injection h1 with h1;subst h1
    rw [Ob.ma ha] at h2
    by_cases e3:j=j'
    ·grind
    ·rw [if_neg e3] at h2
     obtain ⟨v',⟨o2,bk,q1,q2,q3,q4⟩,_⟩:=M.da.aX id o j' sz' es' ho h2
     grind
   ·rw [if_neg e2] at h1
    obtain ⟨v',⟨o2,bk,q1,q2,q3,q4⟩,_⟩:=M.da.aX id' o' j' sz' es' h1 h2
    grind
 ·rcases bn.cn h1 with ⟨e1,c1⟩|⟨e1,h1⟩
  ·subst c1
   rintro rfl
   obtain ⟨id1,j1,sz1,es1,n1,cc1,hO1,id2,⟨b3,b4,g1,g2,g3⟩,o3,g4,g5⟩:=hex
   obtain ⟨k1,k2⟩:=M.da.vn _ _ _ _ _ _ _ _ _ _ _ _ _ hO hO1
   subst k1;subst k2
   have hid2:id2≠d:=by
    rintro rfl
    rw [aq,if_pos rfl] at g4;injection g4 with g4;subst g4;cases g5
   rcases bn.cn g2 with ⟨e4,_⟩|⟨_,g2⟩
   ·omega
   ·have hl2:∀y,ae hp id2=some y→y≠ .aB:=by
     grind[Ob.d8]
    have:=M.fZ id2 id b4 b3 g2 g1 hl2 (fun y hy=>by grind[Ob.d8]) g3
    subst this
    rw [aq,if_neg (Ne.symm hid2),aq,if_pos rfl] at g4
    injection g4 with g4;subst g4
    rw [Ob.ma ha,if_pos rfl] at g5
    grind
  ·exact B2.ap i b1 h1 (hlv i e1 hl)
theorem b7.Fu (M:b7 F S β hp w) {id j sz:Nat} {o:Ob} (ho:ae hp id=some o) (ha:o.at j=some (.aX sz [])):b7 F S β (ba hp id (o.n4 j .ab)) w:=by
 obtain ⟨v,hO,hv⟩:=M.da.aX id o j sz [] ho ha
 rcases hv with ⟨_,rfl⟩|⟨_,_,_,e,_⟩
 case inr=>grind
 obtain ⟨o2,b2,q1,q2,q3,q4⟩:=hO
 rw [ho] at q1;injection q1 with q1;subst q1
 have hlv:∀k,(∀y,ae (ba hp id (o.n4 j .ab)) k=some y→y≠ .aB)→∀y,ae hp k=some y→y≠ .aB:=by
  intro k h y hy
  by_cases e:id=k
  ·grind[Ob.d8]
  simp_all[aq,if_neg]
 refine b7.pj ⟨M.pM,M.os,M.eL,M.cc,M.b6,M.a6,fun k y hy=> ?_,fun k bk hk=> ?_,fun i k b1 b2 h1 h2 h3 h4 h5=>M.fZ i k b1 b2 h1 h2 (hlv i h3) (hlv k h4) h5,M.aX,M.sub,M.eW,M.dN,M.pL⟩
  (fun M0=>M.da.jE (fun _ h=>h) (nI.bb S w) M0.fZ (fun id' o' j' sz' es' h1 h2=> ?_) (fun b B _=>⟨rfl,B.ns,B.lt,B.fr,fun i b1 h1 hl=>B.ap i b1 h1 (hlv i hl)⟩))
 ·rw [aq] at hy
  by_cases e:id=k
  ·subst e;rw [if_pos rfl] at hy;injection hy with hy;subst hy
   refine CH (M.dg id o ho) ha (fun u hu _=> ?_) (fun _ h=>h) (fun _ _ h=>h)
   have:=hu b2 q2
   rw [q4] at this;injection this with this;subst this
   exact .ab
  simp_all[if_neg,M.dg]
 ·rw [aq]
  by_cases e:id=k
  all_goals simp_all[if_pos,if_neg,M.jU]
 ·rw [aq] at h1
  by_cases e:id=id'
  ·subst e;rw [if_pos rfl] at h1;injection h1 with h1;subst h1
   rw [Ob.ma ha] at h2
   grind
  ·rw [if_neg e] at h1
   obtain ⟨v',⟨o2,bk,q1,q2,q3,q4⟩,_⟩:=M.da.aX id' o' j' sz' es' h1 h2
   grind
theorem HR.fo {bi:Bl} {es:List AV} (h:HR S β w bi es) (hn:aa es=true):HR S Ped.fo w bi es:=by
 obtain ⟨cur,t,h1,h2,h3,h4,h5,h6⟩:=h
 refine ⟨cur,t,h1,h2,h3,h4,h5,fun i j e c he hc=> ?_⟩
 obtain ⟨u,hu,hv⟩:=h6 i j e c he hc
 refine ⟨u,hu,hv.aJ ?_⟩
 have hne:=a8.1 hn e (List.mem_of_getElem? he)
 cases e with
 |al cs=>exact a8.1 hne c (List.mem_of_getElem? hc)
 |_=>
  grind[AV.ac]
theorem HR.Ct {bi:Bl} {es:List AV} (h:HR S β w bi es) (n:Nat):HR S β w bi (es.take n):=by
 obtain ⟨cur,t,h1,h2,h3,h4,h5,h6⟩:=h
 have tk:∀{i:Nat} {e:AV},(es.take n)[i]? =some e→es[i]? =some e:=by
  grind
 exact ⟨cur,t,h1,h2,by grind,h4,fun i e he=>h5 i e (tk he),fun i j e c he hc=>h6 i j e c (tk he) hc⟩
theorem b7.vP (M:b7 F S β hp w) {id j sz d n:Nat} {es:List AV} {o:Ob} (ho:ae hp id=some o) (ha:o.at j=some (.aw d 0 n)) (hd:ae hp d=some (.aw sz es)) (hn:0<n) (hle:n≤es.length) (hno:aa (es.take n)=true) (hm:mid≤d→mid≤id):
  b7 F S β (ba (ba hp id (o.n4 j (.aX sz (es.take n)))) d .aB) w:=by
 have hne':id≠d:=by rintro rfl;rw [ho] at hd;injection hd with hd;subst hd;cases ha
 obtain ⟨bd,hbd,hsz,hHR⟩:=M.dg d _ hd
 obtain ⟨bo,u,hbo,hu,hV⟩:=zk (M.dg id o ho) ha
 have hcap:es.length≤bd.f5:=by obtain ⟨_,_,_,_,h,_⟩:=hHR;omega
 have hlen:(es.take n).length=n:=by grind
 have hu':u= .slice (some ⟨bd.bG,0,none⟩) n bd.f5:=by
  cases hV with
  |aw _ _ _ a bi hb hle' ha'=>
   grind
 have hdl:∀y,ae hp d=some y→y≠ .aB:=fun y hy=>by grind
 have hil:∀y,ae hp id=some y→y≠ .aB:=fun y hy=>by grind[Ob.d8]
 have hlv:∀k,(∀y,ae (ba (ba hp id (o.n4 j (.aX sz (es.take n)))) d .aB) k=some y→y≠ .aB)→k≠d∧∀y,ae hp k=some y→y≠ .aB:=by
  intro k h
  have hk:k≠d:=by rintro rfl;exact h .aB (by rw [aq,if_pos rfl]) rfl
  refine ⟨hk,fun y hy=> ?_⟩
  by_cases e:id=k
  all_goals simp_all[aq,if_neg,Ne.symm]
 obtain ⟨p1,p2,p3⟩:=M.aX d bd hbd
 have B:jT F S β (ba (ba hp id (o.n4 j (.aX sz (es.take n)))) d .aB) w bd.bG:=by
  refine ⟨p1,p2,p3.elim (fun h=> .inl h.2) .inr,fun i b1 h1 hl e=> ?_⟩
  obtain ⟨k1,k2⟩:=hlv i hl
  grind[M.fZ]
 have fwd:∀{id' j' sz':Nat} {es':List AV} {v:Value},cz β (ba (ba hp id (o.n4 j (.aX sz (es.take n)))) d .aB) w id' j' sz' es' v→(id'=id∧j'=j∧v=u)∨cz β hp w id' j' sz' es' v:=by
  rintro id' j' sz' es' v ⟨o',bi,a1,a2,a3,a4⟩
  rw [aq] at a1
  by_cases e:d=id'
  ·subst e;rw [if_pos rfl] at a1;injection a1 with a1;subst a1;cases a3
  ·rw [if_neg e,aq] at a1
   by_cases e2:id=id'
   ·subst e2;rw [if_pos rfl] at a1;injection a1 with a1;subst a1
    rw [Ob.ma ha] at a3
    by_cases e3:j=j'
    ·grind
    ·rw [if_neg e3] at a3
     exact .inr ⟨o,bi,ho,a2,a3,a4⟩
   ·rw [if_neg e2] at a1
    exact .inr ⟨o',bi,a1,a2,a3,a4⟩
 have old:∀{b:Nat},jT F S β hp w b→jT F S β (ba (ba hp id (o.n4 j (.aX sz (es.take n)))) d .aB) w b:=fun B=>⟨B.ns,B.lt,B.fr,fun i b1 h1 hl=>B.ap i b1 h1 (hlv i hl).2⟩
 refine b7.pj ⟨M.pM,M.os,M.eL,M.cc,M.b6,M.a6,fun k y hy=> ?_,fun k bk hk=> ?_,fun i k b1 b2 h1 h2 h3 h4 h5=>M.fZ i k b1 b2 h1 h2 (hlv i h3).2 (hlv k h4).2 h5,M.aX,M.sub,M.eW,M.dN,M.pL⟩
  (fun M0=>⟨fun id' o' j' sz' es' h1 h2=> ?_,fun i1 j1 s1 e1 i2 j2 s2 e2 b n1 c1 n2 c2 h1 h2=> ?_,fun i1 j1 s1 e1 b n1 c1 h1 h2=> ?_⟩)
 ·rw [aq] at hy
  by_cases e:d=k
  ·subst e;rw [if_pos rfl] at hy;injection hy with hy;subst hy;trivial
  ·rw [if_neg e,aq] at hy
   by_cases e2:id=k
   ·subst e2;rw [if_pos rfl] at hy;injection hy with hy;subst hy
    refine CH (M.dg id o ho) ha (fun u2 h2 _=> ?_) (fun _ h=>h) (fun _ _ h=>h)
    have:=h2 bo hbo
    rw [hu] at this;injection this with this;subst this
    rw [hu']
    have:=V.aX (S:=S) (β:=β) (w:=w) (some ⟨bd.bG,0,none⟩) bd.f5 sz (es.take n)
    grind
   simp_all[if_neg,M.dg]
 ·rw [aq]
  by_cases e:d=k
  ·grind
  ·rw [if_neg e,aq]
   by_cases e2:id=k
   ·grind
   simp_all[if_neg,M.jU]
 ·have h1':=h1
  rw [aq] at h1
  by_cases e:d=id'
  ·subst e;rw [if_pos rfl] at h1;injection h1 with h1;subst h1;cases h2
  ·rw [if_neg e,aq] at h1
   by_cases e2:id=id'
   ·subst e2;rw [if_pos rfl] at h1;injection h1 with h1;subst h1
    have h2':=h2
    rw [Ob.ma ha] at h2
    by_cases e3:j=j'
    ·subst e3
     rw [if_pos rfl] at h2
     injection h2 with h2;injection h2 with h2 h3;subst h2;subst h3
     refine ⟨u,⟨_,bo,h1',hbo,h2',hu⟩,.inr ⟨bd.bG,bd.f5,by grind,?_,?_,B⟩⟩
     ·grind
     ·have:=(hHR.Ct n).fo hno
      rw [←hsz];omega
    ·rw [if_neg e3] at h2
     obtain ⟨v',⟨o2,bk,q1,q2,q3,q4⟩,hv⟩:=M.da.aX id o j' sz' es' ho h2
     refine ⟨v',⟨_,bk,h1',q2,h2',q4⟩,?_⟩
     grind
   ·rw [if_neg e2] at h1
    obtain ⟨v',⟨o2,bk,q1,q2,q3,q4⟩,hv⟩:=M.da.aX id' o' j' sz' es' h1 h2
    refine ⟨v',⟨_,bk,h1',q2,h2,q4⟩,?_⟩
    grind
 ·rcases fwd h1 with ⟨x1,x2,x3⟩|k1<;>rcases fwd h2 with ⟨y1,y2,y3⟩|k2
  ·omega
  ·exfalso
   rw [hu'] at x3;injection x3 with x3;injection x3 with x3;injection x3 with x3
   exact (M.da.eA k2).ap d bd hbd hdl x3.symm
  ·exfalso
   rw [hu'] at y3;injection y3 with y3;injection y3 with y3;injection y3 with y3
   exact (M.da.eA k1).ap d bd hbd hdl y3.symm
  grind[M.da.vn]
 ·rcases fwd h1 with ⟨x1,x2,x3⟩|k1
  ·grind
  ·exact M.da.dN _ _ _ _ _ _ _ k1 h2
theorem b7.CF (M:b7 F S β hp w) {id j:Nat} (sz:Nat) {o:Ob} (ho:ae hp id=some o) (ha:o.at j=some .ab):b7 F S β (ba hp id (o.n4 j (.aX sz []))) w:=by
 obtain ⟨bo,u,hbo,hu,hV⟩:=zk (M.dg id o ho) ha
 have hu':u= .slice none 0 0:=by cases hV;rfl
 have hlv:∀k,(∀y,ae (ba hp id (o.n4 j (.aX sz []))) k=some y→y≠ .aB)→∀y,ae hp k=some y→y≠ .aB:=by
  intro k h y hy
  by_cases e:id=k
  ·grind[Ob.d8]
  simp_all[aq,if_neg]
 have fwd:∀{id' j' sz':Nat} {es':List AV} {v:Value},cz β (ba hp id (o.n4 j (.aX sz []))) w id' j' sz' es' v→v= .slice none 0 0∨cz β hp w id' j' sz' es' v:=by
  rintro id' j' sz' es' v ⟨o',bi,a1,a2,a3,a4⟩
  rw [aq] at a1
  by_cases e2:id=id'
  ·subst e2;rw [if_pos rfl] at a1;injection a1 with a1;subst a1
   rw [Ob.ma ha] at a3
   by_cases e3:j=j'
   ·grind
   ·rw [if_neg e3] at a3
    exact .inr ⟨o,bi,ho,a2,a3,a4⟩
  ·rw [if_neg e2] at a1
   exact .inr ⟨o',bi,a1,a2,a3,a4⟩
 have old:∀{b:Nat},jT F S β hp w b→jT F S β (ba hp id (o.n4 j (.aX sz []))) w b:=fun B=>⟨B.ns,B.lt,B.fr,fun i b1 h1 hl=>B.ap i b1 h1 (hlv i hl)⟩
 refine b7.pj ⟨M.pM,M.os,M.eL,M.cc,M.b6,M.a6,fun k y hy=> ?_,fun k bk hk=> ?_,fun i k b1 b2 h1 h2 h3 h4 h5=>M.fZ i k b1 b2 h1 h2 (hlv i h3) (hlv k h4) h5,M.aX,M.sub,M.eW,M.dN,M.pL⟩
  (fun M0=>⟨fun id' o' j' sz' es' h1 h2=> ?_,fun i1 j1 s1 e1 i2 j2 s2 e2 b n1 c1 n2 c2 h1 h2=> ?_,fun i1 j1 s1 e1 b n1 c1 h1 h2=> ?_⟩)
 ·rw [aq] at hy
  by_cases e2:id=k
  ·subst e2;rw [if_pos rfl] at hy;injection hy with hy;subst hy
   refine CH (M.dg id o ho) ha (fun u2 h2 hv=> ?_) (fun _ h=>h) (fun _ _ h=>h)
   cases hv
   exact .aX none 0 sz []
  simp_all[if_neg,M.dg]
 ·rw [aq]
  by_cases e2:id=k
  all_goals simp_all[if_pos,if_neg,M.jU]
 ·have h1':=h1
  rw [aq] at h1
  by_cases e2:id=id'
  ·subst e2;rw [if_pos rfl] at h1;injection h1 with h1;subst h1
   have h2':=h2
   rw [Ob.ma ha] at h2
   by_cases e3:j=j'
   ·subst e3
    rw [if_pos rfl] at h2
    injection h2 with h2;injection h2 with h2 h3;subst h2;subst h3
    exact ⟨u,⟨_,bo,h1',hbo,h2',hu⟩,.inl ⟨rfl,hu'⟩⟩
   ·rw [if_neg e3] at h2
    obtain ⟨v',⟨o2,bk,q1,q2,q3,q4⟩,hv⟩:=M.da.aX id o j' sz' es' ho h2
    refine ⟨v',⟨_,bk,h1',q2,h2',q4⟩,?_⟩
    grind
  ·rw [if_neg e2] at h1
   obtain ⟨v',⟨o2,bk,q1,q2,q3,q4⟩,hv⟩:=M.da.aX id' o' j' sz' es' h1 h2
   refine ⟨v',⟨_,bk,h1',q2,h2,q4⟩,?_⟩
   grind
 ·grind[M.da.vn]
 ·rcases fwd h1 with e|k1
  ·grind
  ·exact M.da.dN _ _ _ _ _ _ _ k1 h2
def tc:AV→AV
 | .aX _ es=> .aF es false
 |x=>x
theorem td {x:AV} {sz:Nat} {es:List AV}:tc x≠ .aX sz es:=by
 cases x<;>simp [tc]
theorem HR.aF {b sz cap:Nat} {es:List AV} (h:HR S Ped.fo w ⟨b,sz,cap⟩ es) (hb:S' b) (hS:∀b,S b→S' b) (hsub:∀b,S b→True):V S' β w (.slice (some ⟨b,0,none⟩) es.length cap) (.aF es false):=by
 obtain ⟨cur,t,r1,r2,r3,r4,r5,r6⟩:=h
 refine .aF (some ⟨b,0,none⟩) cap sz b 0 es false (fun i j=>(cur[i*sz+j]?).getD undef) r3 r4 (fun h=>by grind) (fun hne=>⟨rfl,hb⟩) r5 (fun i j e c h1 h2=> ?_) (fun i j e c h1 h2=> ?_)
 ·obtain ⟨u,hu,_⟩:=r6 i j e c h1 h2
  have r1':w.heap[b]? =some (.cells cur t (0,0)):=r1
  rw [Nat.zero_add,cK r1']
  grind
 ·obtain ⟨u,hu,hv⟩:=r6 i j e c h1 h2
  have hu':cur[i*sz+j]? =some u:=hu
  show V S' Ped.fo w ((cur[i*sz+j]?).getD undef) c
  rw [hu']
  exact hv.bR hS (fun _ _ h=>h) (nI.bb S w)
def xZ (hp:List (Nat×Ob)):Bool:=hp.all fun x=> !eM x.2
theorem vQ {hp:List (Nat×Ob)} (h:xZ hp=true) {k:Nat} {o:Ob} (hk:ae hp k=some o):o≠ .aB:=by
 rintro rfl
 have:=List.all_eq_true.1 h _ (cL hk)
 grind[eM]
theorem b7.UC (M:b7 F S β hp w) {id:Nat} {ks vs:List AV} (ho:ae hp id=some (.aI ks vs)) (hid:id<mid) (hnd:xZ hp=true):
  ∃S',lg S S' β β w w∧b7 F S' β (ba hp id (.aI ks (vs.map tc))) w:=by
 let S':df:=fun b=>S b∨∃j sz es n c,cz β hp w id j sz es (.slice (some ⟨b,0,none⟩) n c)
 have hS:∀b,S b→S' b:=fun b h=> .inl h
 have live:∀{i:Nat},∀y,ae hp i=some y→y≠ .aB:=fun y hy=>vQ hnd hy
 obtain ⟨bo,en,cl,h1,h2,h3,h4,h5,h6,h7⟩:=M.dg id _ ho
 have nS:∀i bi,β i=some bi→¬S' bi.bG:=by
  rintro i bi hi (h|⟨j,sz,es,n,c,hO⟩)
  ·exact (M.aX i bi hi).1 h
  ·exact (M.da.eA hO).ap i bi hi live rfl
 refine ⟨S',⟨hS,fun _ _ h=>h,nI.bb S w⟩,b7.pj ⟨M.pM,M.os,M.eL,M.cc,M.b6,M.a6,fun k y hy=> ?_,fun k bk hk=> ?_,fun i k b1 b2 h1 h2 h3 h4 h5=>M.fZ i k b1 b2 h1 h2 live live h5,fun i bi hi=>⟨nS i bi hi,(M.aX i bi hi).2⟩,fun b hb=> ?_,fun b hb=> .inl (M.eW b hb),fun b hb=> ?_,M.pL⟩
  (fun M0=>M.da.jE hS (nI.bb S w) M0.fZ (fun id' o' j' sz' es' g1 g2=> ?_) (fun b B hex=>⟨rfl,?_,B.lt,B.fr,fun i bi hi _=>B.ap i bi hi live⟩))⟩
 ·rw [aq] at hy
  by_cases e:id=k
  ·subst e;rw [if_pos rfl] at hy;injection hy with hy;subst hy
   refine ⟨bo,en,cl,h1,h2,h3,by grind,fun i e k he hk=>(h5 i e k he hk).bR hS (fun _ _ h=>h) (nI.bb S w),fun i e v he hv=> ?_,h7⟩
   rw [List.getElem?_map] at hv
   obtain ⟨v0,hv0,rfl⟩:=Option.map_eq_some_iff.1 hv
   have hV:=h6 i e v0 he hv0
   cases v0 with
   |aX sz es=>
    obtain ⟨v,hO,hv⟩:=M.da.aX id _ i sz es ho hv0
    have hO':=hO
    obtain ⟨o2,b2,q1,q2,q3,q4⟩:=hO'
    rw [h1] at q2;injection q2 with q2;subst q2
    rw [cT h2,he] at q4
    injection q4 with q4
    have q4:e.val=v:=q4
    rw [q4]
    rcases hv with ⟨rfl,rfl⟩|⟨b,cap,rfl,_,r3,_⟩
    ·exact .aF none 0 0 0 0 [] false (fun _ _=>undef) (by simp) (by simp) (fun h=>by rfl) (fun h=>absurd rfl h) (by simp) (by simp) (by simp)
    ·exact r3.aF (.inr ⟨i,sz,es,_,_,hO⟩) hS (fun _ _=>trivial)
   |_=>exact hV.bR hS (fun _ _ h=>h) (nI.bb S w)
  ·rw [if_neg e] at hy
   exact CG (M.dg k y hy) hS (fun _ _ h=>h)
 ·rw [aq]
  by_cases e:id=k
  all_goals simp_all[if_pos,if_neg,M.jU]
 ·rcases hb with hb|⟨j,sz,es,n,c,hO⟩
  ·exact M.sub b hb
  ·exact (M.da.eA hO).lt
 ·grind[M.dN,M.da.dN,da]
 ·rw [aq] at g1
  by_cases e:id=id'
  ·subst e;rw [if_pos rfl] at g1;grind[Ob.at,Option.map_eq_some_iff,absurd,td]
  ·rw [if_neg e] at g1
   obtain ⟨v',⟨o2,bk,q1,q2,q3,q4⟩,_⟩:=M.da.aX id' o' j' sz' es' g1 g2
   grind
 ·rintro (hs|⟨j,sz,es,n,c,hO⟩)
  ·exact B.ns hs
  ·obtain ⟨id1,j1,sz1,es1,n1,cc1,hO1,id2,⟨b3,b4,g1,g2,g3⟩,o3,g4,g5⟩:=hex
   obtain ⟨k1,k2⟩:=M.da.vn _ _ _ _ _ _ _ _ _ _ _ _ _ hO hO1
   subst k1;subst k2
   have:=M.fZ id2 id b4 b3 g2 g1 live live g3
   subst this
   rw [aq,if_pos rfl] at g4
   grind[Ob.at,Option.map_eq_some_iff,absurd,td]
theorem gm {n:Nat} {st:St} (id j d:Nat) {sz:Nat} {es:List AV} {o:Ob} (ho:ae st.hp id=some o) (ha:o.at j=some (.aX sz es)) (hne:es≠[]) (hd:ae st.hp d=none) (hm:mid≤id→mid≤d):
  Le n st ⟨st.dA,ba (ba st.hp id (o.n4 j (.aw d 0 es.length))) d (.aw sz es)⟩:=by
 rintro F a w ⟨S,β,E,M⟩
 obtain ⟨β',X,M'⟩:=M.Fv ho ha hne hd hm
 exact ⟨S,β',E.Ke X,M'⟩
theorem gJ {n:Nat} {st:St} (id j:Nat) {sz:Nat} {o:Ob} (ho:ae st.hp id=some o) (ha:o.at j=some (.aX sz [])):Le n st ⟨st.dA,ba st.hp id (o.n4 j .ab)⟩:=by
 rintro F a w ⟨S,β,E,M⟩
 exact ⟨S,β,E,M.Fu ho ha⟩
theorem iH {n:Nat} {st:St} (id j d:Nat) {sz m:Nat} {es:List AV} {o:Ob} (ho:ae st.hp id=some o) (ha:o.at j=some (.aw d 0 m)) (hd:ae st.hp d=some (.aw sz es)) (hn:0<m) (hle:m≤es.length) (hno:aa (es.take m)=true) (hm:mid≤d→mid≤id):
  Le n st ⟨st.dA,ba (ba st.hp id (o.n4 j (.aX sz (es.take m)))) d .aB⟩:=by
 rintro F a w ⟨S,β,E,M⟩
 exact ⟨S,β,E,M.vP ho ha hd hn hle hno hm⟩
theorem eC {n:Nat} {st:St} (id j sz:Nat) {o:Ob} (ho:ae st.hp id=some o) (ha:o.at j=some .ab):Le n st ⟨st.dA,ba st.hp id (o.n4 j (.aX sz []))⟩:=by
 rintro F a w ⟨S,β,E,M⟩
 exact ⟨S,β,E,M.CF sz ho ha⟩
theorem Fw {n:Nat} {st:St} (id:Nat) {ks vs:List AV} (ho:ae st.hp id=some (.aI ks vs)) (hid:id<mid) (hnd:xZ st.hp=true):Le n st ⟨st.dA,ba st.hp id (.aI ks (vs.map tc))⟩:=by
 rintro F a w ⟨S,β,E,M⟩
 obtain ⟨S',X,M'⟩:=M.UC ho hid hnd
 exact ⟨S',β,E.Ke X,M'⟩
end
end
section
inductive Wk:AV→AV→Prop where
 |bb (x:AV):Wk x x
 |ab:Wk .ab (.aF [] false)
 |ft (id:Nat):Wk .ab (.aO id 0)
 |aB (x:AV):Wk x .aB
 |aQ (es xs:List AV) (y:AV) (h:Wk (.aF es false) y):Wk (.aQ es xs) y
 |al (cs ds:List AV) (hl:cs.length=ds.length) (h:∀(i:Nat) c d,cs[i]? =some c→ds[i]? =some d→Wk c d):Wk (.al cs) (.al ds)
 |aF (es fs:List AV) (c:Bool) (hl:es.length=fs.length) (hc:∀(i:Nat) e f,es[i]? =some e→fs[i]? =some f→e.ac.length=f.ac.length)
  (h:∀(i:Nat) e f (j:Nat) x y,es[i]? =some e→fs[i]? =some f→e.ac[j]? =some x→f.ac[j]? =some y→Wk x y):Wk (.aF es c) (.aF fs false)
section
variable {P:Program} {F:Fr} {S:df} {β:bn} {hp:List (Nat×Ob)} {w:World}
theorem Wk.V {x y:AV} (h:Wk x y):∀{β:bn} {v:Value},Ped.V S β w v x→Ped.V S β w v y:=by
 induction h with
 |bb x=>exact fun h=>h
 |ft id=>
  intro β v h
  cases h
  exact .ft id
 |aB x=>exact fun _=> .aB _
 |aQ es xs y h ih=>exact fun hv=>ih hv.IW
 |ab=>
  intro β v h
  cases h
  exact .aF none 0 0 0 0 [] false (fun _ _=>undef) (by simp) (by simp [maxLen]) (fun h=>by cases h) (fun h=>absurd rfl h) (by simp) (by simp) (by simp)
 |al cs ds hl h ih=>
  intro β v hv
  cases hv with
  |al vs _ hl' h'=>
   refine .al vs ds (hl'.trans hl) fun i v d h1 h2=> ?_
   have hlt:i<cs.length:=by rw [hl];exact (List.getElem?_eq_some_iff.1 h2).1
   have hc:cs[i]? =some cs[i]:=List.getElem?_eq_getElem hlt
   exact ih i _ d hc h2 (h' i v _ h1 hc)
 |aF es fs c hl hc h ih=>
  intro β v hv
  cases hv with
  |aF p cap sz b o _ _ U hcap hmax hclip hp hsz hcc hvv=>
   have hE:∀{i:Nat} {f:AV},fs[i]? =some f→∃e,es[i]? =some e∧e.ac.length=f.ac.length:=by
    intro i f hf
    have hlt:i<es.length:=by rw [hl];exact (List.getElem?_eq_some_iff.1 hf).1
    have he:es[i]? =some es[i]:=List.getElem?_eq_getElem hlt
    exact ⟨_,he,hc i _ f he hf⟩
   have hC:∀{i j:Nat} {f y:AV},fs[i]? =some f→f.ac[j]? =some y→∃e x,es[i]? =some e∧e.ac[j]? =some x∧Wk x y:=by
    intro i j f y hf hy
    obtain ⟨e,he,hlen⟩:=hE hf
    have hlt:j<e.ac.length:=by rw [hlen];exact (List.getElem?_eq_some_iff.1 hy).1
    have hx:e.ac[j]? =some e.ac[j]:=List.getElem?_eq_getElem hlt
    exact ⟨e,_,he,hx,h i e f j _ y he hf hx hy⟩
   rw [hl]
   refine .aF p cap sz b o fs false U (by rw [←hl];exact hcap) hmax (fun h=>by cases h) (fun hne=>hp (by rintro rfl;simp at hl;exact hne (List.eq_nil_of_length_eq_zero hl.symm))) (fun i f hf=> ?_) (fun i j f y hf hy=> ?_) (fun i j f y hf hy=> ?_)
   ·obtain ⟨e,he,hlen⟩:=hE hf
    rw [←hlen];exact hsz i e he
   ·obtain ⟨e,x,he,hx,_⟩:=hC hf hy
    exact hcc i j e x he hx
   ·obtain ⟨e,x,he,hx,_⟩:=hC hf hy
    have hlt:i<es.length:=(List.getElem?_eq_some_iff.1 he).1
    exact ih i e f j x y he hf hx hy (hvv i j e x he hx)
theorem Wk.AY (es:List AV) (c:Bool):Wk (.aF es c) (.aF es false):=
 .aF es es c rfl (fun i e f h1 h2=>by rw [h1] at h2;injection h2 with h2;rw [h2]) (fun i e f j x y h1 h2 h3 h4=>by rw [h1] at h2;injection h2 with h2;subst h2;rw [h3] at h4;injection h4 with h4;subst h4;exact .bb x)
theorem bK.vS {f:FuncId} {args:List AV} {pre upd:List (Nat×Ob)} {r r':AV} (h:bK P f args pre r upd) (k:Wk r r'):bK P f args pre r' upd:=by
 intro F S β hp w vs M hl hv h1 h2
 refine (h F S β hp w vs M hl hv h1 h2).mono ?_
 rintro e w' ⟨v,S',β',he,E,M',hV⟩
 exact ⟨v,S',β',he,E,M',k.V hV⟩
theorem bK.Z8 {f:FuncId} {args args':List AV} {pre upd:List (Nat×Ob)} {r:AV} (h:bK P f args' pre r upd) (hl:args.length=args'.length) (k:∀(i:Nat) x y,args[i]? =some x→args'[i]? =some y→Wk x y):bK P f args pre r upd:=by
 intro F S β hp w vs M hlen hv h1 h2
 refine h F S β hp w vs M (hlen.trans hl) (fun i v y hvi hy=> ?_) h1 h2
 have hlt:i<args.length:=by rw [hl];exact (List.getElem?_eq_some_iff.1 hy).1
 have hx:args[i]? =some args[i]:=List.getElem?_eq_getElem hlt
 exact (k i _ y hx hy).V (hv i v _ hvi hx)
theorem V.jv {v:Value} {c:Bool} (h:Ped.V S β w v (.aF [] c)):Ped.V S β w v .ab∨Ped.V S β w v .mB:=by
 cases h with
 |aF p cap sz b o _ _ U hcap hmax hclip hp hsz hcc hvv hnil=>
  cases p with
  |none=>have:=hnil rfl;subst this;exact .inl .ab
  |some a=>exact .inr (.mB a cap hmax)
theorem bK.jv {f:FuncId} {args:List AV} {pre upd:List (Nat×Ob)} {r:AV} {c:Bool} (h1:bK P f (.ab::args) pre r upd) (h2:bK P f (.mB::args) pre r upd):bK P f (.aF [] c::args) pre r upd:=by
 intro F S β hp w vs M hl hv hp1 hp2
 cases vs with
 |nil=>simp at hl
 |cons v vs=>
  have h0:=hv 0 v _ rfl rfl
  rcases V.jv h0 with k|k
  ·refine h1 F S β hp w (v::vs) M (by simpa using hl) (fun i u x hu hx=> ?_) hp1 hp2
   cases i with
   |zero=>simp at hu hx;subst hu;subst hx;exact k
   |succ i=>exact hv (i+1) u x hu (by simpa using hx)
  ·refine h2 F S β hp w (v::vs) M (by simpa using hl) (fun i u x hu hx=> ?_) hp1 hp2
   cases i with
   |zero=>simp at hu hx;subst hu;subst hx;exact k
   |succ i=>exact hv (i+1) u x hu (by simpa using hx)
end
theorem bK.Kj {P:Program} {f:FuncId} {args:List AV} {pre upd:List (Nat×Ob)} {r:AV} (h:bK P f args pre r upd) (hu:∀x,x∈upd→x∈pre):bK P f args pre r []:=by
 intro F S β hp w vs M hl hv hpre _
 have hput:∀(l:List (Nat×Ob)) (h:List (Nat×Ob)),(∀id o,(id,o)∈l→ae h id=some o)→∀k,ae (bc h l) k=ae h k:=by
  intro l
  induction l with
  |nil=>intro h _ k;rfl
  |cons x l ih=>
   obtain ⟨i,o⟩:=x
   intro h hh k
   have h1:∀k,ae (ba h i o) k=ae h k:=by
    intro k
    rw [aq]
    by_cases e:i=k
    ·subst e;rw [if_pos rfl];exact (hh i o (by simp)).symm
    ·rw [if_neg e]
   show ae (bc (ba h i o) l) k=_
   rw [ih (ba h i o) (fun id o' hm=>by rw [h1];exact hh id o' (List.mem_cons_of_mem _ hm)) k,h1]
 refine (h F S β hp w vs M hl hv hpre (fun id o hm hno=>absurd (hu _ hm) (hno o))).mono ?_
 rintro e w' ⟨v,S',β',rfl,E,M',hV⟩
 have hk:=hput upd hp (fun id o hm=>hpre id o (hu _ hm))
 refine ⟨v,S',β',rfl,E,?_,hV⟩
 show b7 F S' β' hp w'
 exact M'.hJ hk
theorem bK.vR {P:Program} {f:FuncId} {fn:Func} {c:Code} {args:List AV} {pre:List (Nat×Ob)} {env':List (Nat×AV)} {hp':List (Nat×Ob)} {e:cw} {r:AV} (hf:P.funcs[f]? =some fn) (hb:fn.body=some c)
  (hpre:kn pre=true) (huq:cM hp'=true) (hargs:bW (gX pre) args=args) (hobs:∀id o,(id,o)∈pre→bg (gX pre) o=o)
  (hrun:cf P (args.length+(fn.ntmps-args.length)) c ⟨bO 0 args,pre⟩ e ⟨env',hp'⟩) (he:e= .aj∨e= .aR) (hr:gW P ⟨env',hp'⟩ fn.results.toList=some r):bK P f args pre r hp':=
 bK.gen (st':=⟨env',hp'⟩) hf hb hpre huq hargs hobs hrun.k he hr
theorem bK.Of {P:Program} {f:FuncId} {fn:Func} {c:Code} {args:List AV} {pre:List (Nat×Ob)} {env':List (Nat×AV)} {e:cw} {r:AV} (hf:P.funcs[f]? =some fn) (hb:fn.body=some c)
  (hpre:kn pre=true) (huq:cM pre=true) (hargs:bW (gX pre) args=args) (hobs:∀id o,(id,o)∈pre→bg (gX pre) o=o)
  (hrun:cf P (args.length+(fn.ntmps-args.length)) c ⟨bO 0 args,pre⟩ e ⟨env',pre⟩) (he:e= .aj∨e= .aR) (hr:gW P ⟨env',pre⟩ fn.results.toList=some r):bK P f args pre r []:=
 bK.Kj (bK.vR hf hb hpre huq hargs hobs hrun he hr) (fun _ hx=>hx)
theorem sP {f:FuncId} (fn:Func) {xs:List AV} {s:St} {e:cw} {r:AV} (a:aa xs=true) (h:cf Proofs.Tryz.prog (xs.length+(fn.ntmps-xs.length)) (ai fn) ⟨bO 0 xs,[]⟩ e s) (he:e= .aj∨e= .aR) (hf:Proofs.Tryz.prog.funcs[f]? =some fn:=by kernel_rfl) (hb:fn.body=some (ai fn):=by kernel_rfl) (hr:gW Proofs.Tryz.prog s fn.results.toList=some r:=by kernel_rfl) (hn:aJ r=true:=by rfl):bK Proofs.Tryz.prog f xs [] r []:=bK.jb hf hb a h he hr hn
theorem sQ {f:FuncId} (fn:Func) {xs:List AV} {s:St} {r:AV} (h:cf Proofs.Tryz.prog (xs.length+(fn.ntmps-xs.length)) (ai fn) ⟨bO 0 xs,[]⟩ .aR s) (hf:Proofs.Tryz.prog.funcs[f]? =some fn:=by kernel_rfl) (hb:fn.body=some (ai fn):=by kernel_rfl) (a:aa xs=true:=by rfl) (hr:gW Proofs.Tryz.prog s fn.results.toList=some r:=by kernel_rfl) (hn:aJ r=true:=by rfl):bK Proofs.Tryz.prog f xs [] r []:=bK.jb hf hb a h (.inr rfl) hr hn
theorem sO {f:FuncId} (fn:Func) {xs:List AV} {p:List (Nat×Ob)} {E:List (Nat×AV)} {e:cw} {r:AV} (ho:∀id o,(id,o)∈p→bg (gX p) o=o) (h:cf Proofs.Tryz.prog (xs.length+(fn.ntmps-xs.length)) (ai fn) ⟨bO 0 xs,p⟩ e ⟨E,p⟩) (he:e= .aj∨e= .aR) (hf:Proofs.Tryz.prog.funcs[f]? =some fn:=by kernel_rfl) (hb:fn.body=some (ai fn):=by kernel_rfl) (hp:kn p=true:=by rfl) (hu:cM p=true:=by rfl) (a:bW (gX p) xs=xs:=by rfl) (hr:gW Proofs.Tryz.prog ⟨E,p⟩ fn.results.toList=some r:=by kernel_rfl):bK Proofs.Tryz.prog f xs p r []:=bK.Of hf hb hp hu a ho h he hr
theorem sG {f:FuncId} (fn:Func) {xs:List AV} {p q:List (Nat×Ob)} {E:List (Nat×AV)} {e:cw} {r:AV} (ho:∀id o,(id,o)∈p→bg (gX p) o=o) (h:cf Proofs.Tryz.prog (xs.length+(fn.ntmps-xs.length)) (ai fn) ⟨bO 0 xs,p⟩ e ⟨E,q⟩) (he:e= .aj∨e= .aR) (hf:Proofs.Tryz.prog.funcs[f]? =some fn:=by kernel_rfl) (hb:fn.body=some (ai fn):=by kernel_rfl) (hp:kn p=true:=by rfl) (hu:cM q=true:=by rfl) (a:bW (gX p) xs=xs:=by rfl) (hr:gW Proofs.Tryz.prog ⟨E,q⟩ fn.results.toList=some r:=by kernel_rfl):bK Proofs.Tryz.prog f xs p r q:=bK.vR hf hb hp hu a ho h he hr
theorem d2 (s:ByteArray) (i:Int) (h:i<(↑(List.length (List.map CD (Array.toList (ByteArray.data s)))):Int)):decide (i<(↑(List.length (List.map CD (Array.toList (ByteArray.data s)))):Int))=true:=decide_eq_true h
inductive Ex where
 |mk (op:Int) (t:Tm) (kids:List Ex)
def Ex.op:Ex→Int
 | .mk o _ _=>o
def Ex.t:Ex→Tm
 | .mk _ t _=>t
def Ex.ax:Ex→List Ex
 | .mk _ _ k=>k
@[reducible] def CJ (op:Int) (t:Tm) (ks:List AV):List AV:=[.aP .i8 op,.J t.v,.aP .i8 t.k,.aP .i64 t.n,.J t.s,.aF ks false]
mutual
def Ex.av:Ex→AV
 | .mk o t k=> .al (CJ o t (Ex.T' k))
def Ex.T':List Ex→List AV
 |[]=>[]
 |e::r=>e.av::Ex.T' r
end
theorem Ex.zm:∀(l:List Ex),Ex.T' l=l.map Ex.av
 |[]=>rfl
 |e::r=>by simp only [Ex.T',List.map_cons,Ex.zm r]
@[reducible] def Ex.ac (e:Ex):List AV:=CJ e.op e.t (e.ax.map Ex.av)
theorem Ex.de (e:Ex):e.av= .al e.ac:=by
 cases e with
 |mk o t k=>simp only [Ex.av,Ex.zm];rfl
structure Ar where
 g:Int
 t:Tm
@[reducible] def Ar.av (a:Ar):AV:= .al [.aP .i8 a.g,.J a.t.v,.aP .i8 a.t.k,.aP .i64 a.t.n,.J a.t.s]
structure Li where
 k:Int
 p:ByteArray
 ts:List Tm
 jR:Int
 l:Ex
 r:Ex
@[reducible] def vr (p:ByteArray) (ts:List Tm):List AV:=[.J p,.aF (ts.map Tm.av) false]
@[reducible] def gU (p:ByteArray) (ts:List Tm):AV:= .al (vr p ts)
@[reducible] def Li.ac (x:Li):List AV:=[.aP .i8 x.k,.J x.p,.aF (x.ts.map Tm.av) false,.aP .i8 x.jR,.aP .i8 x.l.op,.J x.l.t.v,.aP .i8 x.l.t.k,.aP .i64 x.l.t.n,.J x.l.t.s,.aF (x.l.ax.map Ex.av) false,.aP .i8 x.r.op,.J x.r.t.v,.aP .i8 x.r.t.k,.aP .i64 x.r.t.n,.J x.r.t.s,.aF (x.r.ax.map Ex.av) false]
@[reducible] def Li.av (x:Li):AV:= .al x.ac
abbrev LiP (x:Li) (p:ByteArray):List AV:=[AV.aP .i8 x.1,AV.J p,AV.aF (List.map Tm.av x.3) false,AV.aP .i8 x.4,AV.aP .i8 (Ex.op (Li.l x)),AV.J (Ex.t (Li.l x)).1,AV.aP .i8 (Ex.t (Li.l x)).2,AV.aP .i64 (Ex.t (Li.l x)).3,AV.J (Ex.t (Li.l x)).4,AV.aF (List.map Ex.av (Ex.ax (Li.l x))) false,AV.aP .i8 (Ex.op (Li.r x)),AV.J (Ex.t (Li.r x)).1,AV.aP .i8 (Ex.t (Li.r x)).2,AV.aP .i64 (Ex.t (Li.r x)).3,AV.J (Ex.t (Li.r x)).4,AV.aF (List.map Ex.av (Ex.ax (Li.r x))) false]
structure Ru where
 p:ByteArray
 hd:List Ar
 bd:List Li
@[reducible] def Ru.av (r:Ru):AV:= .al [.J r.p,.aF (r.hd.map Ar.av) false,.aF (r.bd.map Li.av) false]
mutual
theorem cZ:∀(e:Ex),aJ e.av=true
 | .mk o t k=>by simp only [Ex.av,CJ,aJ,aa,Bool.and_self]
end
theorem vV (t:Tm):aJ t.av=true:=by simp only [Tm.av,aJ,aa,Bool.and_self]
theorem et (x:Li):aJ x.av=true:=by simp only [Li.av,Li.ac,vr,Ex.ac,CJ,List.cons_append,List.nil_append,aJ,aa,Bool.and_self]
theorem vU (a:Ar):aJ a.av=true:=by simp only [Ar.av,aJ,aa,Bool.and_self]
theorem qq (r:Ru):aJ r.av=true:=by simp only [Ru.av,aJ,aa,Bool.and_self]
theorem bI {α:Type} (f:α→AV) (h:∀a,aJ (f a)=true) (l:List α):aa (l.map f)=true:=a8.2 fun x hx=>by
 obtain ⟨a,_,rfl⟩:=List.mem_map.1 hx
 exact h a
theorem dD {α:Type} (f:α→AV) {l:List α} {i:Nat} {x:α} (h:l[i]? =some x):(l.map f)[Int.toNat (i:Int)]? =some (f x):=by
 rw [Int.toNat_natCast,List.getElem?_map,h];rfl
theorem co {v:ByteArray}:∀{l:List ByteArray} {i:Nat},v∉l→bs true (.J v) (l.map AV.J) i=some none
 |[],i,_=>rfl
 |x::r,i,h=>by
  simp only [List.mem_cons,not_or] at h
  simp only [List.map_cons,bs,oM]
  rw [if_pos True.intro,decide_eq_false h.1]
  exact co h.2
theorem cy {v:ByteArray}:∀{l:List ByteArray} {i:Nat},v∈l→∃j,bs true (.J v) (l.map AV.J) i=some (some (i+j))∧l[j]? =some v
 |[],i,h=>by simp at h
 |x::r,i,h=>by
  simp only [List.map_cons,bs,oM]
  by_cases e:v=x
  ·rw [if_pos True.intro,decide_eq_true e]
   exact ⟨0,rfl,by rw [e];rfl⟩
  ·rw [if_pos True.intro,decide_eq_false e]
   obtain ⟨j,h1,h2⟩:=cy (l:=r) (i:=i+1) (by simpa [e] using h)
   refine ⟨j+1,?_,by simpa using h2⟩
   show bs true (.J v) (r.map AV.J) (i+1)=_
   rw [h1];congr 2;omega
def CK:Code→Code
 | .seq a _=>a
 |c=>c
def rY:Code→Code
 | .seq _ b=>b
 |c=>c
theorem cf.g8 {P:Program} {n:Nat} {c:Code} {st st1 st':St} {e:cw} (hc:c= .seq (CK c) (rY c)) (h:cf P n (CK c) st .aj st1) (k:cf P n (rY c) st1 e st'):cf P n c st e st':=by
 rw [hc];exact h.aF k
theorem cf.fb {P:Program} {n:Nat} {c:Code} {st st1 st':St} {e:cw} {cs:List Prop} (slots:List Nat) (tb:List (Nat×Rk)) (h:cf P n c st e st1) (hr:iG slots tb st1=some (st',cs)) (hc:cA cs):cf P n c st e st':=h.gV (er hr (dJ hc))
theorem iE.fb {P:Program} {n:Nat} {c:Code} {st st1 st':St} {e:cw} {cs:List Prop} (slots:List Nat) (tb:List (Nat×Rk)) (h:iE P n c st e st1) (hr:xU slots tb st1=some (st',cs)) (hc:cA cs):iE P n c st e st':=h.gV (AX hr (dJ hc))
theorem gA {n:Nat} {c:Code} {st st':St} {e:cw} {cs:List Prop} (base:Nat) (sc:List cv) (slots:List Nat) (tb:List (Nat×Rk)) (h:mV Proofs.Tryz.prog n base c sc st slots tb=some (e,st',cs)) (hc:cA cs):cf Proofs.Tryz.prog n c st e st':=vO qo h hc
theorem CI (b:Bool):b=true∨b=false:=Bool.eq_false_or_eq_true b
def dm (P:Program) (n:Nat) (c:Code) (st:St) (Q:cw→St→Prop):Prop:=∃e st',Q e st'∧cf P n c st e st'
abbrev Sp:=bK Proofs.Tryz.prog
abbrev Rz:=cf Proofs.Tryz.prog
abbrev Lo:=bJ Proofs.Tryz.prog
abbrev En:=dm Proofs.Tryz.prog
abbrev EN (n:Nat) (c:Code) (s t:St):Prop:=dm Proofs.Tryz.prog n c s (fun e u=>e= .aj∧u=t)
theorem gE {n:Nat} {c:Code} {s t:St} {e:cw} {cs:List Prop} {Q:cw → St → Prop} (q:Q e t) (base:Nat) (sc:List cv) (slots:List Nat) (tb:List (Nat×Rk)) (hc:cA cs) (h:mV Proofs.Tryz.prog n base c sc s slots tb=some (e,t,cs):=by kernel_rfl):dm Proofs.Tryz.prog n c s Q:=⟨e,t,q,gA base sc slots tb h hc⟩
section
variable {n b:Nat} {C:Code} {s0:St} {Q:cw→St→Prop} {d:List cv} {c:List Prop}
theorem te {p:Prop} (h:p):∀{c:List Prop},cA c→cA (c++[p])
 | [],_=>⟨h,trivial⟩
 | _::_,k=>⟨k.1,te h k.2⟩
def GG (n:Nat) (C:Code) (s0:St) (Q:cw→St→Prop) (b:Nat) (d:List cv) (c:List Prop):Prop:=cA c→dm Proofs.Tryz.prog n C s0 Q
theorem z0 (h:GG n C s0 Q 0 [] []):dm Proofs.Tryz.prog n C s0 Q:=h trivial
theorem zs (b:Nat) (h:GG n C s0 Q b [] []):dm Proofs.Tryz.prog n C s0 Q:=h trivial
theorem zh {p:Prop} (h:p) (k:GG n C s0 Q b d (c++[p])):GG n C s0 Q b d c:=fun hq=>k (te h hq)
theorem zd (x:cv) (k:GG n C s0 Q b (d++[x]) c):GG n C s0 Q b d c:=k
theorem zx (x:cv) {p:Prop} (h:p) (k:GG n C s0 Q b (d++[x]) (c++[p])):GG n C s0 Q b d c:=zh h k
theorem zt {v:Bool} (h:v=true) (k:GG n C s0 Q b (d++[.is true]) (c++[v=true])):GG n C s0 Q b d c:=zh h k
theorem zf {v:Bool} (h:v=false) (k:GG n C s0 Q b (d++[.is false]) (c++[v=false])):GG n C s0 Q b d c:=zh h k
theorem zb (v:Bool) (x:∀_:v=true,GG n C s0 Q b (d++[.is true]) (c++[v=true])) (y:∀_:v=false,GG n C s0 Q b (d++[.is false]) (c++[v=false])):GG n C s0 Q b d c:=
 (Bool.eq_false_or_eq_true v).elim (fun h=>zt h (x h)) (fun h=>zf h (y h))
theorem zB (p:Prop) [Decidable p] (x:∀_:decide p=true,GG n C s0 Q b (d++[.is true]) (c++[decide p=true])) (y:∀_:decide p=false,GG n C s0 Q b (d++[.is false]) (c++[decide p=false])):GG n C s0 Q b d c:=zb _ x y
theorem zc {f:FuncId} {vs:List AV} {rd upd:List (Nat×Ob)} {r:AV} (h:bK Proofs.Tryz.prog f vs rd r upd) (k:GG n C s0 Q b (d++[.dO r (rd.map Prod.fst) upd]) (c++[bK Proofs.Tryz.prog f vs rd r upd])):GG n C s0 Q b d c:=zh h k
class Oe (p:Prop) (e:outParam AV):Prop
instance (i:Int) (l:List AV) (k:Nat) (e:AV):Oe (0≤i∧l[k]? =some e) e:=⟨⟩
instance (l:List AV) (k:Nat) (e:AV):Oe (l[k]? =some e) e:=⟨⟩
instance (x e:AV):Oe (some x=some e) e:=⟨⟩
instance (i:Int) (l:List UInt8) (k:Nat) (x:UInt8):Oe (0≤i∧∃b:UInt8,l[k]? =some b∧(x.toNat:Int)=b.toNat) (.aP .u8 x.toNat):=⟨⟩
theorem ze {p:Prop} {e:AV} [Oe p e] (h:p) (k:GG n C s0 Q b (d++[.aA e]) (c++[p])):GG n C s0 Q b d c:=zh h k
theorem zl {m:Nat} {x:Code} {s1 s2:St} {e:cw} (h:bJ Proofs.Tryz.prog m x s1 e s2) (k:GG n C s0 Q b (d++[.B3 e s2.dA s2.hp]) (c++[bJ Proofs.Tryz.prog m x s1 e s2])):GG n C s0 Q b d c:=zh h k
theorem zp {m:Nat} {x:Code} {s1 s2:St} {e:cw} (h:cf Proofs.Tryz.prog m x s1 e s2) (k:GG n C s0 Q b (d++[.Kg e s2.dA s2.hp]) (c++[cf Proofs.Tryz.prog m x s1 e s2])):GG n C s0 Q b d c:=zh h k
theorem zr (t:Nat) {m:Nat} {x:Code} {s1 s2:St} {e:cw} (h:cf Proofs.Tryz.prog m x s1 e s2) (k:GG n C s0 Q b (d++[.N3 t e s2.dA s2.hp]) (c++[cf Proofs.Tryz.prog m x s1 e s2])):GG n C s0 Q b d c:=zh h k
def Oi:AV→Bool
 | .aw _ _ _=>false
 | .aA _ _ _=>false
 | .aI _=>false
 | .aO _ _=>false
 | .bZ _ a _=>a.isEmpty
 | _=>true
def Oh (h:List (Nat×Ob)):List (Nat×Rk):=h.map fun p=>(p.1,.a6 p.1 (match p.2 with
 | .an cs=>cs.all Oi
 | _=>true))
theorem zq {e:cw} {s:St} (q:Q e s) (sl:List Nat:=s.dA.map Prod.fst) (tb:List (Nat×Rk):=Oh s.hp) (h:mV Proofs.Tryz.prog n b C d s0 sl tb=some (e,s,c):=by kernel_rfl):GG n C s0 Q b d c:=fun hc=>⟨e,s,q,gA b d sl tb h hc⟩
theorem zN (l:List AV) (h:aa l=true:=by simp):aa l=true:=h
theorem zAt (k:Nat) (N:Int) (Y:List AV) (h:True∧Y≠[]∧(∀(e:AV),e∈Y→c8 k e)∧(∀(e:AV),e∈([]:List AV)→c8 k e)∧(↑(0+List.length Y):Int)*N≤140737488355328∧0+List.length Y≤9223372036854775807:=by simp):True∧Y≠[]∧(∀(e:AV),e∈Y→c8 k e)∧(∀(e:AV),e∈([]:List AV)→c8 k e)∧(↑(0+List.length Y):Int)*N≤140737488355328∧0+List.length Y≤9223372036854775807:=h
theorem zLt (k:Nat) (N:Int) (Y:List AV) (n:Nat) (L:List AV) (h:True∧n=List.length L∧(∀(e:AV),e∈Y→c8 k e)∧(∀(e:AV),e∈L→c8 k e)∧(↑(n+List.length Y):Int)*N≤140737488355328∧n+List.length Y≤9223372036854775807:=by simp;omega):True∧n=List.length L∧(∀(e:AV),e∈Y→c8 k e)∧(∀(e:AV),e∈L→c8 k e)∧(↑(n+List.length Y):Int)*N≤140737488355328∧n+List.length Y≤9223372036854775807:=h
theorem zRt (k:Nat) (N:Int) (Y:List AV) (n:Nat) (L:List AV) (h:True∧(0:Nat)=0∧n=List.length L∧(∀(e:AV),e∈Y→c8 k e)∧(∀(e:AV),e∈L→c8 k e)∧(↑(n+List.length Y):Int)*N≤140737488355328∧n+List.length Y≤9223372036854775807:=by simp;omega):True∧(0:Nat)=0∧n=List.length L∧(∀(e:AV),e∈Y→c8 k e)∧(∀(e:AV),e∈L→c8 k e)∧(↑(n+List.length Y):Int)*N≤140737488355328∧n+List.length Y≤9223372036854775807:=h
theorem Z9 (k:Nat) (N:Int) (Y:List AV) (h:1≤List.length Y∧Y≠[]∧(∀(e:AV),e∈Y→c8 k e)∧(∀(e:AV),e∈([]:List AV)→c8 k e)∧(↑(0+List.length Y):Int)*N≤140737488355328∧0+List.length Y≤9223372036854775807:=by simp):1≤List.length Y∧Y≠[]∧(∀(e:AV),e∈Y→c8 k e)∧(∀(e:AV),e∈([]:List AV)→c8 k e)∧(↑(0+List.length Y):Int)*N≤140737488355328∧0+List.length Y≤9223372036854775807:=h
theorem rZ (k:Nat) (N:Int) (Y:List AV) (n:Nat) (L:List AV) (h:1≤List.length Y∧n=List.length L∧(∀(e:AV),e∈Y→c8 k e)∧(∀(e:AV),e∈L→c8 k e)∧(↑(n+List.length Y):Int)*N≤140737488355328∧n+List.length Y≤9223372036854775807:=by simp;omega):1≤List.length Y∧n=List.length L∧(∀(e:AV),e∈Y→c8 k e)∧(∀(e:AV),e∈L→c8 k e)∧(↑(n+List.length Y):Int)*N≤140737488355328∧n+List.length Y≤9223372036854775807:=h
theorem Z' (k:Nat) (N:Int) (Y:List AV) (n:Nat) (L:List AV) (h:1≤List.length Y∧(0:Nat)=0∧n=List.length L∧(∀(e:AV),e∈Y→c8 k e)∧(∀(e:AV),e∈L→c8 k e)∧(↑(n+List.length Y):Int)*N≤140737488355328∧n+List.length Y≤9223372036854775807:=by simp;omega):1≤List.length Y∧(0:Nat)=0∧n=List.length L∧(∀(e:AV),e∈Y→c8 k e)∧(∀(e:AV),e∈L→c8 k e)∧(↑(n+List.length Y):Int)*N≤140737488355328∧n+List.length Y≤9223372036854775807:=h
end
theorem dC {α:Type} (f:α→AV) {l:List α} {n:Int} (h0:0≤n) (h1:n<l.length):∃x,l[n.toNat]? =some x∧0≤n∧(l.map f)[n.toNat]? =some (f x):=by
 have hlt:n.toNat<l.length:=by omega
 exact ⟨l[n.toNat],List.getElem?_eq_getElem hlt,h0,by rw [List.getElem?_map,List.getElem?_eq_getElem hlt];rfl⟩
theorem qp {l:List Ex} {n:Int} (h0:0≤n) (h1:n<l.length):∃x:Ex,l[n.toNat]? =some x∧0≤n∧(l.map Ex.av)[n.toNat]? =some (.al x.ac):=by
 obtain ⟨x,hm,h,k⟩:=dC Ex.av h0 h1
 exact ⟨x,hm,h,by rw [k,Ex.de]⟩
theorem ur {s:ByteArray} {n:Int} (h0:0≤n) (h1:n<s.size):∃x:UInt8,0≤n∧∃b:UInt8,s.data.toList[n.toNat]? =some b∧(x.toNat:Int)=b.toNat:=by
 have hlt:n.toNat<s.data.toList.length:=by
  have:s.data.toList.length=s.size:=rfl
  omega
 exact ⟨s.data.toList[n.toNat],h0,_,List.getElem?_eq_getElem hlt,rfl⟩
def Og (es:List AV) (x:AV):Prop:=∃c,x= .aF es c∨∃cs,x= .al cs∧AV.aF es c∈cs
theorem Og.pB {S:df} {β:bn} {w:World} {v:Value} {x:AV} {es:List AV} (t:Og es x) (h:V S β w v x):es.length≤maxLen:=by
 have one:∀{v:Value} {c:Bool},V S β w v (.aF es c)→es.length≤maxLen:=by
  intro v c h
  cases h with
  |aF p cap sz b o _ _ U hcap hmax=>exact Nat.le_trans hcap hmax
 obtain ⟨c,rfl|⟨cs,rfl,hm⟩⟩:=t
 ·exact one h
 ·cases h with
  |al vs _ hl h'=>
   obtain ⟨i,hi⟩:=List.mem_iff_getElem?.1 hm
   have hlt:i<vs.length:=by rw [hl];exact (List.getElem?_eq_some_iff.1 hi).1
   exact one (h' i _ _ (List.getElem?_eq_getElem hlt) hi)
theorem bK.dY {P:Program} {f:FuncId} {args:List AV} {pre upd:List (Nat×Ob)} {r:AV} (es:List AV) (hi:∃x,x∈args∧Og es x) (h:es.length≤maxLen→bK P f args pre r upd):bK P f args pre r upd:=by
 intro F S β hp w vs M hl hv h1 h2
 obtain ⟨x,hx,ht⟩:=hi
 obtain ⟨i,hi⟩:=List.mem_iff_getElem?.1 hx
 have hlt:i<vs.length:=by rw [hl];exact (List.getElem?_eq_some_iff.1 hi).1
 exact h (ht.pB (hv i _ _ (List.getElem?_eq_getElem hlt) hi)) F S β hp w vs M hl hv h1 h2
abbrev sA (l : List Ar) : AV := .aF (l.map Ar.av) false
abbrev sL (l : List Li) : AV := .aF (l.map Li.av) false
abbrev sR (l : List Ru) : AV := .aF (l.map Ru.av) false
abbrev sT (l : List Tm) : AV := .aF (l.map Tm.av) false
abbrev sS (l : List ByteArray) : AV := .aF (l.map AV.J) false
abbrev sE (l : List Ex) : AV := .aF (l.map Ex.av) false
abbrev sI (n : Int) : AV := .aP .i64 n
abbrev sJ (n : Int) : AV := .aP .i8 n
end
section
def ca:Nat→Code→Code
 |0,c=>c
 |k+1,c=>ca k (rY c)
def cF (k:Nat) (c:Code):Code:=CK (ca k c)
def qr:Code→Bool
 | .seq _ _=>true
 |_=>false
theorem tf:∀(k:Nat) (c:Code),ca (k+1) c=rY (ca k c)
 |0,c=>rfl
 |k+1,c=>by
  show ca (k+1) (rY c)=rY (ca k (rY c))
  exact tf k (rY c)
section
variable {P:Program} {n:Nat} {c:Code} {st st1 st':St} {e:cw}
theorem CL {k:Nat} (hk:qr (ca k c)=true):ca k c= .seq (cF k c) (ca (k+1) c):=by
 rw [tf]
 unfold cF
 revert hk
 cases ca k c<;>simp [qr,CK,rY]
theorem cf.iI (k:Nat) (hk:qr (ca k c)=true) (h:cf P n (cF k c) st .aj st1) (g:cf P n (ca (k+1) c) st1 e st'):cf P n (ca k c) st e st':=by
 rw [CL hk];exact h.aF g
theorem iE.iI (k:Nat) (hk:qr (ca k c)=true) (h:iE P n (cF k c) st .aj st1) (g:iE P n (ca (k+1) c) st1 e st'):iE P n (ca k c) st e st':=by
 rw [CL hk];exact h.aF g
theorem kV {N k:Nat} (st:Nat→St) (stE:St) (Q:St→Prop) (R:Nat→Prop) (turn:∀i,i<N→dm P n c (st i) (fun e s=>(e= .aR∧Q s)∨(e= .aj∧s=st (i+1)∧R i))) (hend:dm P n c (st N) (fun e s=>e= .ar k∧s=stE)):
  (∃s,bJ P n c (st 0) .aR s∧Q s)∨(bJ P n c (st 0) (.ar k) stE∧∀i,i<N→R i):=by
 have go:∀d i,i+d=N→(∃s,bJ P n c (st i) .aR s∧Q s)∨(bJ P n c (st i) (.ar k) stE∧∀j,i≤j→j<N→R j):=by
  intro d
  induction d with
  |zero=>
   intro i hi
   have:i=N:=by omega
   subst this
   obtain ⟨e,s,⟨rfl,rfl⟩,h⟩:=hend
   exact .inr ⟨.bD h (by simp),fun j h1 h2=>by omega⟩
  |succ d ih=>
   intro i hi
   obtain ⟨e,s,h1|h1,h⟩:=turn i (by omega)
   ·obtain ⟨rfl,hq⟩:=h1
    exact .inl ⟨s,.bD h (by simp),hq⟩
   ·obtain ⟨rfl,rfl,hr⟩:=h1
    rcases ih (i+1) (by omega) with ⟨s,h2,hq⟩|⟨h2,h3⟩
    ·exact .inl ⟨s,.cR h h2,hq⟩
    ·refine .inr ⟨.cR h h2,fun j h4 h5=> ?_⟩
     by_cases e:i=j
     ·rw [←e];exact hr
     ·exact h3 j (by omega) h5
 rcases go N 0 (by omega) with h|⟨h,k⟩
 ·exact .inl h
 ·exact .inr ⟨h,fun i hi=>k i (by omega) hi⟩
theorem kq {γ:Type} {N k:Nat} (st:Nat→γ→St) (stE:γ→St) (Q:St→Prop) (Inv:Nat→γ→Prop)
  (turn:∀i g,i<N→Inv i g→dm P n c (st i g) (fun e s=>(e= .aR∧Q s)∨(e= .aj∧∃g',Inv (i+1) g'∧s=st (i+1) g')))
  (hend:∀g,Inv N g→dm P n c (st N g) (fun e s=>e= .ar k∧s=stE g)) (g:γ) (h0:Inv 0 g):
  (∃s,bJ P n c (st 0 g) .aR s∧Q s)∨∃g',Inv N g'∧bJ P n c (st 0 g) (.ar k) (stE g'):=by
 have go:∀d i g,i+d=N→Inv i g→(∃s,bJ P n c (st i g) .aR s∧Q s)∨∃g',Inv N g'∧bJ P n c (st i g) (.ar k) (stE g'):=by
  intro d
  induction d with
  |zero=>
   intro i g hi hg
   have:i=N:=by omega
   subst this
   obtain ⟨e,s,⟨rfl,rfl⟩,h⟩:=hend g hg
   exact .inr ⟨g,hg,.bD h (by simp)⟩
  |succ d ih=>
   intro i g hi hg
   obtain ⟨e,s,h1|h1,h⟩:=turn i g (by omega) hg
   ·obtain ⟨rfl,hq⟩:=h1
    exact .inl ⟨s,.bD h (by simp),hq⟩
   ·obtain ⟨rfl,g',hg',rfl⟩:=h1
    rcases ih (i+1) g' (by omega) hg' with ⟨s,h2,hq⟩|⟨g2,h2,h3⟩
    ·exact .inl ⟨s,.cR h h2,hq⟩
    ·exact .inr ⟨g2,h2,.cR h h3⟩
 exact go N 0 g (by omega) h0
theorem iJ {γ:Type} {N k:Nat} (st:Nat→γ→St) (stE:γ→St) (Inv:Nat→γ→Prop)
  (turn:∀i g,i<N→Inv i g→dm P n c (st i g) (fun e s=>e= .aj∧∃g',Inv (i+1) g'∧s=st (i+1) g'))
  (hend:∀g,Inv N g→dm P n c (st N g) (fun e s=>e= .ar k∧s=stE g)) (g:γ) (h0:Inv 0 g):
  ∃g',Inv N g'∧bJ P n c (st 0 g) (.ar k) (stE g'):=by
 rcases kq st stE (fun _=>False) Inv (fun i g hi hg=>by
  obtain ⟨e,s,h1,h⟩:=turn i g hi hg
  exact ⟨e,s,.inr h1,h⟩) hend g h0 with ⟨s,_,h⟩|h
 ·exact h.elim
 ·exact h
end
end
end Go.Ped
