/- The reckoning of a region of code, of calls and of loops is right, and the shared contracts follow from it. -/
import Derived.Handy
import Derived.Test.YthhfolohakiemaaGreatDoorMagF
import Derived.Test.YthhfolohakiemaaGreatDoorMagG
set_option linter.all false
namespace Go.Ped
open Go.RowKit
section
def zn (L:List (Nat×Nat×Ob)):List (Nat×Rn):=L.map fun x=>(x.2.1,.a6 x.1)
def kr (N:List (Nat×Nat)):List (Nat×Rn):=N.map fun x=>(x.1,.a6 x.2)
def jd (N:List (Nat×Nat)) (i:Nat):Nat:=(ae N i).getD 0
def jz (N:List (Nat×Nat)):Bool:=match N with
 |[]=>true
 |x::r=>r.all (fun y=> !Nat.beq y.1 x.1&& !Nat.beq y.2 x.2)&&jz r
def zo (L:List (Nat×Nat×Ob)) (N:List (Nat×Nat)) (upd:List (Nat×Ob)):Bool:=
 jz N&&cM upd&&cM (L.map fun x=>(x.1,Ob.aB))&&L.all (fun x=>Nat.ble given x.1&& !eM x.2.2&&(ae upd x.1).isSome&&(match ae N x.1 with
  |some j=>Nat.beq j x.2.1
  |none=>false))&&upd.all (fun x=>(ae N x.1).isSome)&&(upd.all (fun x=>Nat.blt x.1 mid||Nat.ble mid (jd N x.1))||L.all (fun x=>Nat.blt x.2.1 mid))
mutual
theorem kX {ρ:List (Nat×Rn)} (hk:∀id x,ae ρ id=some x→∃j,x= .a6 j):∀(x:AV),el ρ x=[]
 | .al cs=>dE hk cs
 | .bC cs=>dE hk cs
 | .bZ f a b=>by simp only [el];rw [dE hk a,dE hk b];rfl
 | .bu t v=>kX hk v
 | .aw id off len=>by
   grind[el,ae,id]
 | .aO id len=>by
   grind[el,ae,id]
 | .aA _ _ _=>rfl
 | .aI _=>rfl
 | .aP _ _=>rfl
 | .ak _=>rfl
 | .J _=>rfl
 | .aF _ _=>rfl
 | .aE _=>rfl
 | .eK=>rfl
 | .bH _ _=>rfl
 | .bh=>rfl
 | .ab=>rfl
 | .eU=>rfl
 | .eV=>rfl
 | .aX _ _=>rfl
 | .aQ _ _=>rfl
 | .mB=>rfl
 | .aB=>rfl
theorem dE {ρ:List (Nat×Rn)} (hk:∀id x,ae ρ id=some x→∃j,x= .a6 j):∀(l:List AV),cu ρ l=[]
 |[]=>rfl
 |x::r=>by simp only [cu];rw [kX hk x,dE hk r];rfl
end
theorem vW {ρ:List (Nat×Rn)} (hk:∀id x,ae ρ id=some x→∃j,x= .a6 j) (o:Ob):zg ρ o=[]:=by
 cases o with
 |an cs=>exact dE hk cs
 |aw sz es=>exact dE hk es
 |ao sz es=>exact dE hk es
 |iw o=>rfl
 |aI ks vs=>grind[zg,dE]
 |aB=>rfl
theorem n5:∀{N:List (Nat×Nat)} {id:Nat} {x:Rn},ae (kr N) id=some x→∃j,x= .a6 j∧ae N id=some j
 |[],id,x,h=>by cases h
 |(a,b)::r,id,x,h=>by
  simp only [kr,List.map_cons,ae] at h
  simp only [ae]
  by_cases e:a=id
  ·grind
  ·rw [if_neg e] at h⊢;exact n5 (N:=r) h
theorem qt:∀{L:List (Nat×Nat×Ob)} {id:Nat} {x:Rn},ae (zn L) id=some x→∃j o,x= .a6 j∧(j,id,o)∈L
 |[],id,x,h=>by cases h
 |(a,b,o)::r,id,x,h=>by
  simp only [zn,List.map_cons,ae] at h
  by_cases e:b=id
  ·grind
  ·rw [if_neg e] at h
   obtain ⟨j,o',h1,h2⟩:=qt (L:=r) h
   grind
theorem gv:∀{N:List (Nat×Nat)},jz N=true→∀{i k j:Nat},ae N i=some j→ae N k=some j→i=k
 |[],_,i,k,j,h,_=>by cases h
 |(a,b)::r,hu,i,k,j,h1,h2=>by
  simp only [jz,Bool.and_eq_true] at hu
  simp only [ae] at h1 h2
  have no:∀{i:Nat},ae r i=some b→False:=by
   intro i h
   have:=List.all_eq_true.1 hu.1 _ (cL h)
   simp_all
  by_cases e1:a=i<;>by_cases e2:a=k
  ·omega
  ·grind
  ·grind
  ·rw [if_neg e1] at h1;rw [if_neg e2] at h2;exact gv hu.2 h1 h2
theorem n9:∀{N:List (Nat×Nat)},jz N=true→∀{i j:Nat},ae N i=some j→ae (N.map fun x=>(x.2,x.1)) j=some i
 |[],_,i,j,h=>by cases h
 |(a,b)::r,hu,i,j,h=>by
  have hu':=hu
  simp only [jz,Bool.and_eq_true] at hu
  simp only [ae] at h
  simp only [List.map_cons,ae]
  by_cases e:a=i
  ·grind
  ·rw [if_neg e] at h
   have hb:b≠j:=by
    rintro rfl
    have:=List.all_eq_true.1 hu.1 _ (cL h)
    simp_all
   rw [if_neg hb]
   exact n9 hu.2 h
theorem kW:∀{N:List (Nat×Nat)},jz N=true→∀{i j:Nat},ae (N.map fun x=>(x.2,x.1)) j=some i→ae N i=some j
 |[],_,i,j,h=>by cases h
 |(a,b)::r,hu,i,j,h=>by
  simp only [jz,Bool.and_eq_true] at hu
  simp only [List.map_cons,ae] at h
  simp only [ae]
  by_cases e:b=j
  ·grind
  ·rw [if_neg e] at h
   have hb:a≠i:=by
    rintro rfl
    have h':=kW hu.2 h
    have:=List.all_eq_true.1 hu.1 _ (cL h')
    simp_all
   rw [if_neg hb]
   exact kW hu.2 h
theorem mb:∀{l:List (Nat×Ob)},cM l=true→∀{k:Nat} {x:Ob},(k,x)∈l→ae l k=some x
 |(i,y)::r,hu,k,x,h=>by
  simp only [cM,Bool.and_eq_true] at hu
  simp only [ae]
  rcases List.mem_cons.1 h with h|h
  ·grind
  ·have:i≠k:=by
    rintro rfl
    have:=List.all_eq_true.1 hu.1 _ h
    simp_all
   rw [if_neg this]
   exact mb hu.2 h
theorem qu (f:Nat×Nat×Ob→Ob) (g:Nat×Nat×Ob→Ob):∀{L:List (Nat×Nat×Ob)},cM (L.map fun x=>(x.1,f x))=true→cM (L.map fun x=>(x.1,g x))=true
 |[],_=>rfl
 |x::r,h=>by
  simp only [List.map_cons,cM,Bool.and_eq_true] at h⊢
  refine ⟨?_,qu f g h.2⟩
  grind[List.all_map]
theorem n8 {N:List (Nat×Nat)} (hu:jz N=true) (ρ:List (Nat×Rn)):∀{upd:List (Nat×Ob)},(∀x,x∈upd→∃j,ae N x.1=some j)→∀{j:Nat},
  (∀{i:Nat} {o:Ob},ae N i=some j→ae upd i=some o→ae (upd.map fun x=>(jd N x.1,bg ρ x.2)) j=some (bg ρ o))∧
  ((∀i,ae N i=some j→ae upd i=none)→ae (upd.map fun x=>(jd N x.1,bg ρ x.2)) j=none)
 |[],_,j=>⟨fun _ h=>(by cases h),fun _=>rfl⟩
 |(a,o)::r,hN,j=>by
  obtain ⟨b,hb⟩:=hN (a,o) (by simp)
  simp only at hb
  have hnb:jd N a=b:=by grind[jd]
  have ih:=n8 hu ρ (upd:=r) (fun x hx=>hN x (List.mem_cons_of_mem _ hx)) (j:=j)
  refine ⟨fun {i o'} h1 h2=> ?_,fun h=> ?_⟩
  ·simp only [List.map_cons,ae,hnb]
   simp only [ae] at h2
   by_cases e:a=i
   ·grind
   ·rw [if_neg e] at h2
    have:b≠j:=by rintro rfl;grind[gv]
    grind
  ·simp only [List.map_cons,ae,hnb]
   have:b≠j:=by
    rintro rfl
    grind[ae]
   rw [if_neg this]
   refine ih.2 fun i hi=> ?_
   have h2:=h i hi
   simp only [ae] at h2
   grind
theorem tg {N:List (Nat×Nat)} (hu:jz N=true) (ρ:List (Nat×Rn)):∀{upd:List (Nat×Ob)},cM upd=true→(∀x,x∈upd→∃j,ae N x.1=some j)→cM (upd.map fun x=>(jd N x.1,bg ρ x.2))=true
 |[],_,_=>rfl
 |(a,o)::r,h,hN=>by
  obtain ⟨b,hb⟩:=hN (a,o) (by simp)
  simp only at hb
  simp only [cM,Bool.and_eq_true,List.map_cons] at h⊢
  refine ⟨?_,tg hu ρ h.2 fun x hx=>hN x (List.mem_cons_of_mem _ hx)⟩
  rw [List.all_eq_true] at h⊢
  intro x hx
  obtain ⟨y,hy,rfl⟩:=List.mem_map.1 hx
  obtain ⟨c,hc⟩:=hN y (List.mem_cons_of_mem _ hy)
  have h1:jd N y.1=c:=by grind[jd]
  have h2:jd N a=b:=by grind[jd]
  simp only [h1,h2,Bool.not_eq_true']
  cases hq:c.beq b with
  |false=>rfl
  |true=>
   have e:=Nat.eq_of_beq_eq_true hq
   subst e
   have:=gv hu hc hb
   have h3:=h.1 y hy
   simp_all
section
variable {P:Program}
theorem bK.gK {f:FuncId} {args args':List AV} {pre upd:List (Nat×Ob)} {r:AV} (h:bK P f args pre r upd) (L:List (Nat×Nat×Ob)) (N:List (Nat×Nat)) (hA:bW (zn L) args'=args)
  (hpre:(L.map fun x=>(x.1,bg (zn L) x.2.2))=pre) (hok:zo L N upd=true):
  bK P f args' (L.map (·.2)) (dB (kr N) r) (upd.map fun x=>(jd N x.1,bg (kr N) x.2)):=by
 intro F S β hp w vs M hl hv hpl hfr
 simp only [zo,Bool.and_eq_true] at hok
 obtain ⟨⟨⟨⟨⟨uN,uU⟩,uL⟩,okL⟩,okU⟩,okM⟩:=hok
 have kin:∀id x,ae (zn L) id=some x→∃j,x= .a6 j:=fun id x h=>let ⟨j,_,e,_⟩:=qt h;⟨j,e⟩
 have kout:∀id x,ae (kr N) id=some x→∃j,x= .a6 j:=fun id x h=>let ⟨j,e,_⟩:=n5 h;⟨j,e⟩
 have updN:∀x,x∈upd→∃j,ae N x.1=some j:=fun x hx=>Option.isSome_iff_exists.1 (List.all_eq_true.1 okU x hx)
 have inL:∀{i i':Nat} {o:Ob},(i,i',o)∈L→given≤i∧o≠ .aB∧ae hp i'=some o∧ae N i=some i'∧∃o2,ae upd i=some o2:=by
  intro i i' o hm
  have:=List.all_eq_true.1 okL _ hm
  simp only [Bool.and_eq_true,Nat.ble_eq] at this
  obtain ⟨⟨⟨h1,h2⟩,h3⟩,h4⟩:=this
  refine ⟨h1,?_,hpl i' o (List.mem_map.2 ⟨_,hm,rfl⟩),?_,Option.isSome_iff_exists.1 h3⟩
  ·rintro rfl;grind[eM]
  grind[ae,Nat.beq_eq]
 have uP:cM pre=true:=by rw [←hpre];exact qu (fun _=> .aB) (fun x=>bg (zn L) x.2.2) uL
 have pk:∀{i:Nat} {o:Ob},ae pre i=some o→∃i' o',(i,i',o')∈L∧o=bg (zn L) o':=by
  intro i o ho
  have hm:=cL ho
  grind
 have kp:∀{i i':Nat} {o:Ob},(i,i',o)∈L→ae pre i=some (bg (zn L) o):=by
  intro i i' o hm
  exact mb uP (by grind)
 let β1:bn:=fun i=>match ae pre i with
  |some _=>(ae N i).bind β
  |none=>none
 have b1:∀{i i':Nat} {o:Ob},(i,i',o)∈L→β1 i=β i':=by
  grind
 have b1s:∀{i:Nat} {b:Bl},β1 i=some b→∃i' o,(i,i',o)∈L∧β i'=some b:=by
  grind
 have same:∀{i j i':Nat} {o p:Ob},(i,i',o)∈L→(j,i',p)∈L→i=j:=fun h1 h2=>gv uN (inL h1).2.2.2.1 (inL h2).2.2.2.1
 let HB:Nat→Prop:=fun b=>∃id j sz es n c,cz β1 pre w id j sz es (.slice (some ⟨b,0,none⟩) n c)
 have up:∀{id j sz:Nat} {es:List AV} {v:Value},cz β1 pre w id j sz es v→∃id' o,(id,id',o)∈L∧cz β hp w id' j sz es v:=by
  rintro id j sz es v ⟨o,bi,a1,a2,a3,a4⟩
  obtain ⟨i',o',hm,rfl⟩:=pk a1
  exact ⟨i',o',hm,o',bi,(inL hm).2.2.1,(b1 hm).symm.trans a2,iF a3,a4⟩
 have hbB:∀{b:Nat},HB b→jT F S β hp w b:=by
  rintro b ⟨id,j,sz,es,n,c,h⟩
  obtain ⟨i',o',_,k⟩:=up h
  exact M.da.eA k
 let F1:Fr:={w0:=w,S0:=S,M:=fun b=>(∃i bi,β1 i=some bi∧b=bi.bG)∨HB b,β0:=fo}
 have T:Cx S S β β1 w (zn L):=by
  refine ⟨fun _ h=>h,fun id j bi hj hb=> ?_,fun id es bi hj=> ?_,fun id es xs bi hj=> ?_,fun id es bi hj=> ?_,fun id cs bi hj=> ?_,fun id ks vs bi hj=> ?_⟩
  ·grind[qt]
  ·grind
  ·grind
  ·grind
  all_goals grind
 have M1:b7 F1 S β1 pre w:=by
  have h0:¬F1.M 0:=by
   rintro (⟨i,bi,hi,e⟩|h)
   ·obtain ⟨i',o,_,hb⟩:=b1s hi
    exact M.N2 hb e.symm
   ·rcases (hbB h).fr with h|h
    ·exact M.pM.2 h
    ·have:=M.tP.2;omega
  refine b7.pj ⟨⟨M.tP.1,h0⟩,rfl,rfl,rfl,Nat.le_refl _,fun _ _ _=>rfl,fun id o h=> ?_,fun id bi h=> ?_,fun i j bi bj hi hj h1 h2 h3=> ?_,fun i bi h=> ?_,M.sub,fun _ h=>h,fun _ h=> .inl h,fun i b _ h=>by cases h⟩ (fun _=>⟨fun id o j sz es h1 h2=> ?_,fun id j sz es id' j' sz' es' b n c n' c' h1 h2=> ?_,fun id j sz es b n c h1 h2=> ?_⟩)
  ·obtain ⟨i',o',hm,rfl⟩:=pk h
   exact (M.dg i' o' (inL hm).2.2.1).dB T (b1 hm) (by grind[vW])
  ·grind
  ·obtain ⟨i',oi,mi,ei⟩:=b1s hi
   obtain ⟨j',oj,mj,ej⟩:=b1s hj
   obtain ⟨_,di,li,_⟩:=inL mi
   obtain ⟨_,dj,lj,_⟩:=inL mj
   have:=M.fZ i' j' bi bj ei ej (fun o ho=>by grind) (fun o ho=>by grind) h3
   grind
  ·obtain ⟨i',oi,mi,ei⟩:=b1s h
   obtain ⟨p1,p2,_⟩:=M.aX i' bi ei
   grind
  ·obtain ⟨i',o',hm,rfl⟩:=pk h1
   obtain ⟨_,_,li,_⟩:=inL hm
   have h2':=iF h2
   obtain ⟨v,⟨o2,bi,q1,q2,q3,q4⟩,hv⟩:=M.da.aX i' o' j sz es li h2'
   have hO:cz β1 pre w id j sz es v:=⟨_,bi,h1,(b1 hm).trans q2,h2,q4⟩
   refine ⟨v,hO,?_⟩
   rcases hv with hv|⟨b,cap,r1,r2,r3,B⟩
   ·grind
   ·refine .inr ⟨b,cap,r1,r2,r3,B.ns,B.lt,.inl (.inr ⟨id,j,sz,es,es.length,cap,by grind⟩),fun i bi' hi hl=> ?_⟩
    obtain ⟨k',ok,mk,ek⟩:=b1s hi
    obtain ⟨_,dk,lk,_⟩:=inL mk
    exact B.ap k' bi' ek (fun o' ho'=>by grind)
  ·obtain ⟨i1,o1,m1,k1⟩:=up h1
   obtain ⟨i2,o2,m2,k2⟩:=up h2
   obtain ⟨e1,e2⟩:=M.da.vn _ _ _ _ _ _ _ _ _ _ _ _ _ k1 k2
   grind
  grind
 have hl1:vs.length=args.length:=by grind[dX,List.length_map]
 have hv1:∀(i:Nat) v x,vs[i]? =some v→args[i]? =some x→V S β1 w v x:=by
  intro i v x h1 h2
  rw [←hA] at h2
  obtain ⟨c0,h3,rfl⟩:=dI h2
  exact (hv i v c0 h1 h3).dB T (by grind[kX])
 have hcall:=h F1 S β1 pre w vs M1 hl1 hv1 (fun id o hm=>mb uP hm) (fun id o hm hn=>by
  cases hk:ae pre id with
  |none=>rfl
  |some o'=>grind)
 refine hcall.mono ?_
 rintro e w' ⟨v,S',β2,rfl,E2,M2,hV⟩
 have M':b7 F1 S' β2 upd w':=M2.hJ fun k=>by
  show ae (bc pre upd) k=ae upd k
  rw [eB uU]
  cases hk:ae upd k with
  |some o=>rfl
  |none=>
   simp only
   cases hp':ae pre k with
   |none=>rfl
   |some o=>
    grind
 have notM:∀b,S b→¬F1.M b:=by
  rintro b hs (⟨i,bi,hi,rfl⟩|h)
  ·obtain ⟨i',o,_,hb⟩:=b1s hi
   exact (M.aX i' bi hb).1 hs
  ·exact (hbB h).ns hs
 have hag:nI S w w':=fun b hb=>M'.a6 b (M.sub b hb) (notM b hb)
 have keepPre:∀{i i':Nat} {o:Ob} {b:Bl},(i,i',o)∈L→β i'=some b→β2 i=some b:=by
  intro i i' o b hm hb
  exact E2.hβ i b ((b1 hm).trans hb)
 have d2:∀{i:Nat} {b:Bl},β2 i=some b→∃o j,ae upd i=some o∧ae N i=some j:=by
  intro i b hb
  obtain ⟨o,ho⟩:=M'.jU i b hb
  obtain ⟨j,hj⟩:=updN _ (cL ho)
  grind
 have frs:∀{i j:Nat} {o2:Ob},ae N i=some j→ae upd i=some o2→(¬∃i' o,(i,i',o)∈L)→ae hp j=none:=by
  intro i j o2 hN ho2 hi
  exact hfr j (bg (kr N) o2) (List.mem_map.2 ⟨(i,o2),cL ho2,by grind[jd]⟩) (fun o' hm=>by
   obtain ⟨⟨a,b,c⟩,h1,h2⟩:=List.mem_map.1 hm
   simp only [Prod.mk.injEq] at h2
   obtain ⟨rfl,rfl⟩:=h2
   grind[gv])
 have none2:∀{i j:Nat} {b:Bl},ae N i=some j→β j=some b→β2 i=none→ae upd i=none:=by
  intro k j b hN hb hk
  cases hs:ae upd k with
  |none=>rfl
  |some o2=>
   grind[M.jU]
 have both:∀{i j:Nat} {b b':Bl},ae N i=some j→β j=some b→β2 i=some b'→b'=b∧∃o,(i,j,o)∈L:=by
  intro i j b b' hN hb hb'
  by_cases hi:∃i' o,(i,i',o)∈L
  ·grind
  ·exfalso
   obtain ⟨o2,j2,ho2,hj2⟩:=d2 hb'
   have:=frs hN ho2 hi
   obtain ⟨o,ho⟩:=M.jU j b hb
   rw [this] at ho
   cases ho
 let β':bn:=fun j=>match (ae (N.map fun x=>(x.2,x.1)) j).bind β2 with
  |some b=>some b
  |none=>β j
 have x2:∀{i j b},ae N i=some j→β2 i=some b→β' j=some b:=by
  intro i j b hN h
  show (match (ae (N.map fun x=>(x.2,x.1)) j).bind β2 with|some b=>some b|none=>β j)=some b
  rw [n9 uN hN]
  show (match β2 i with|some b=>some b|none=>β j)=some b
  rw [h]
 have xc:∀{j b},β' j=some b→(∃i,ae N i=some j∧β2 i=some b)∨((∀i,ae N i=some j→β2 i=none)∧β j=some b):=by
  intro j b h
  have h':(match (ae (N.map fun x=>(x.2,x.1)) j).bind β2 with|some b=>some b|none=>β j)=some b:=h
  cases h2:ae (N.map fun x=>(x.2,x.1)) j with
  |none=>
   rw [h2] at h'
   exact .inr ⟨fun i hi=>(by rw [n9 uN hi] at h2;cases h2),h'⟩
  |some i=>
   rw [h2] at h'
   have hi:=kW uN h2
   have h'':(match β2 i with|some b=>some b|none=>β j)=some b:=h'
   cases h3:β2 i with
   |none=>
    rw [h3] at h''
    exact .inr ⟨fun k hk=>(by rw [gv uN hk hi];exact h3),h''⟩
   |some b'=>rw [h3] at h'';injection h'' with h'';subst h'';exact .inl ⟨i,hi,h3⟩
 have x1:∀i b,β i=some b→β' i=some b:=by
  intro j b h
  cases h2:(ae (N.map fun x=>(x.2,x.1)) j).bind β2 with
  |none=>
   show (match (ae (N.map fun x=>(x.2,x.1)) j).bind β2 with|some b=>some b|none=>β j)=some b
   rw [h2];exact h
  |some b'=>
   obtain ⟨i,h3,h4⟩:=Option.bind_eq_some_iff.1 h2
   have hN:=kW uN h3
   have:=(both hN h h4).1
   subst this
   exact x2 hN h4
 have T2:Cx S' S' β2 β' w' (kr N):=by
  refine ⟨fun _ h=>h,fun id j bi hj hb=> ?_,fun id es bi hj=> ?_,fun id es xs bi hj=> ?_,fun id es bi hj=> ?_,fun id cs bi hj=> ?_,fun id ks vs bi hj=> ?_⟩
  ·obtain ⟨j',e,hn⟩:=n5 hj
   injection e with e
   subst e
   exact x2 hn hb
  ·obtain ⟨_,e⟩:=kout _ _ hj;cases e
  ·obtain ⟨_,e⟩:=kout _ _ hj;cases e
  ·obtain ⟨_,e⟩:=kout _ _ hj;cases e
  ·obtain ⟨_,e⟩:=kout _ _ hj;cases e
  ·obtain ⟨_,e⟩:=kout _ _ hj;cases e
 generalize hu':(upd.map fun x=>(jd N x.1,bg (kr N) x.2))=upd'
 have uU':cM upd'=true:=by rw [←hu'];exact tg uN _ uU updN
 have hlook:=eB uU' hp
 have lkIn:∀{i j:Nat} {o:Ob},ae N i=some j→ae upd i=some o→ae (bc hp upd') j=some (bg (kr N) o):=by
  intro i j o h1 h2
  have:=(n8 uN (kr N) updN (j:=j)).1 h1 h2
  rw [hu'] at this
  rw [hlook,this]
 have lkOut0:∀{j:Nat},(∀i,ae N i=some j→ae upd i=none)→ae (bc hp upd') j=ae hp j:=by
  intro j h1
  have:=(n8 uN (kr N) updN (j:=j)).2 h1
  rw [hu'] at this
  rw [hlook,this]
 have lkOut:∀{j:Nat} {b:Bl},β j=some b→(∀i,ae N i=some j→β2 i=none)→ae (bc hp upd') j=ae hp j:=
  fun hb h1=>lkOut0 fun i hi=>none2 hi hb (h1 i hi)
 have frM:∀{b:Nat},F1.M b→(F.M b∧∀{i j:Nat} {o:Ob},mid≤i→ae N i=some j→ae upd i=some o→mid≤j)∨F.w0.heap.size≤b:=by
  have go:∀{p p':Nat} {o:Ob},(p,p',o)∈L→mid≤p'→∀{i j:Nat} {o:Ob},mid≤i→ae N i=some j→ae upd i=some o→mid≤j:=by
   intro p p' o hm hp' i j o2 hi hN hu
   rcases Bool.or_eq_true _ _▸okM with h|h
   ·have:=List.all_eq_true.1 h _ (cL hu)
    simp only [Bool.or_eq_true,Nat.blt_eq,Nat.ble_eq] at this
    rcases this with h|h
    ·omega
    ·simpa [jd,hN] using h
   ·have:=List.all_eq_true.1 h _ hm
    simp only [Nat.blt_eq] at this
    omega
  rintro b (⟨p,bp,hp1,rfl⟩|⟨id,q,sz,es,n,c,h⟩)
  ·obtain ⟨p',o,hm,hb⟩:=b1s hp1
   rcases (M.aX p' bp hb).2.2 with ⟨g,h⟩|h
   ·exact .inl ⟨h,go hm g⟩
   ·exact .inr h
  ·obtain ⟨p',o,hm,k⟩:=up h
   rcases Nat.lt_or_ge p' mid with hlt|hge
   ·exact .inr (M.da.dN _ _ _ _ _ _ _ k hlt)
   ·rcases (M.da.eA k).fr with h|h
    ·exact .inl ⟨h,go hm hge⟩
    ·exact .inr h
 have frM':∀{b:Nat},F1.M b→F.M b∨F.w0.heap.size≤b:=fun h=>(frM h).imp (fun h=>h.1) (fun h=>h)
 have out:∀{i:Nat} {bi:Bl} {o:Ob},β i=some bi→ae hp i=some o→o≠ .aB→(∀k,ae N k=some i→β2 k=none)→w'.heap[bi.bG]? =w.heap[bi.bG]? :=by
  intro i bi o hi ho hd h2
  have hlv:∀o',ae hp i=some o'→o'≠ .aB:=fun o' ho'=>by rw [ho] at ho';injection ho' with ho';exact ho'▸hd
  refine M'.a6 _ (M.aX i bi hi).2.1 ?_
  rintro (⟨p,bp,hp1,hp2⟩|h)
  ·obtain ⟨p',op,mp,ep⟩:=b1s hp1
   obtain ⟨_,dp,lp,np,_⟩:=inL mp
   have:=M.fZ i p' bi bp hi ep hlv (fun o' ho'=>by rw [lp] at ho';injection ho' with ho';exact ho'▸dp) hp2
   subst this
   have e2:=keepPre mp hi
   rw [h2 p np] at e2;cases e2
  ·exact (hbB h).ap i bi hi hlv rfl
 have outH:∀{id j sz:Nat} {es:List AV} {b n c:Nat},cz β hp w id j sz es (.slice (some ⟨b,0,none⟩) n c)→(∀k,ae N k=some id→β2 k=none)→¬F1.M b:=by
  intro id j sz es b n c h h2
  have B:=M.da.eA h
  rintro (⟨p,bp,hp1,hp2⟩|⟨id',j',sz',es',n',c',h'⟩)
  ·obtain ⟨p',op,mp,ep⟩:=b1s hp1
   obtain ⟨_,dp,lp,_⟩:=inL mp
   exact B.ap p' bp ep (fun o' ho'=>by rw [lp] at ho';injection ho' with ho';exact ho'▸dp) hp2.symm
  ·obtain ⟨k',o',mk,k1⟩:=up h'
   have:=(M.da.vn _ _ _ _ _ _ _ _ _ _ _ _ _ h k1).1
   subst this
   obtain ⟨_,b0,_,e1,_,_⟩:=k1
   have e2:=keepPre mk e1
   rw [h2 id' (inL mk).2.2.2.1] at e2;cases e2
 have hend:lg S S' β β' w w'∧b7 F S' β' (bc hp upd') w'∧V S' β' w' v (dB (kr N) r):=by
  refine ⟨⟨M'.eW,x1,hag⟩,?_,hV.dB T2 (by rw [kX kout];simp)⟩
  have live2:∀{i j:Nat},ae N i=some j→(∀o,ae (bc hp upd') j=some o→o≠ .aB)→∀o,ae upd i=some o→o≠ .aB:=by
   intro i j hN hh o ho hd
   subst hd
   exact hh _ (lkIn hN ho) rfl
  have live1:∀{j:Nat} {b:Bl},β j=some b→(∀i,ae N i=some j→β2 i=none)→(∀o,ae (bc hp upd') j=some o→o≠ .aB)→∀o,ae hp j=some o→o≠ .aB:=by
   intro j b hb hk hh o ho
   exact hh o (by rw [lkOut hb hk];exact ho)
  have mixed:∀{i j:Nat} {bi bj:Bl},β2 i=some bi→(∀k,ae N k=some j→β2 k=none)→β j=some bj→(∀o,ae (bc hp upd') j=some o→o≠ .aB)→bi.bG=bj.bG→False:=by
   intro i j bi bj hi hj2 hj hlj hblk
   rcases (M'.aX i bi hi).2.2 with ⟨_,⟨p,bp,hp1,hp2⟩|h⟩|h
   ·obtain ⟨p',op,mp,ep⟩:=b1s hp1
    obtain ⟨_,dp,lp,np,_⟩:=inL mp
    have:=M.fZ p' j bp bj ep hj (fun o' ho'=>by rw [lp] at ho';injection ho' with ho';exact ho'▸dp) (live1 hj hj2 hlj) (hp2.symm.trans hblk)
    subst this
    have e2:=keepPre mp hj
    rw [hj2 p np] at e2;cases e2
   ·exact (hbB h).ap j bj hj (live1 hj hj2 hlj) hblk.symm
   ·have:=(M.aX j bj hj).2.1
    have hw:F1.w0.heap.size=w.heap.size:=rfl
    rw [hblk] at h
    omega
  refine b7.pj ⟨M.pM,M'.os.trans M.os,M'.eL.trans M.eL,M'.cc.trans M.cc,Nat.le_trans M.b6 M'.b6,fun b h1 h2=> ?_,fun id o h=> ?_,fun id bi h=> ?_,fun i j bi bj hi hj h1 h2 h3=> ?_,fun i bi hi=> ?_,M'.sub,fun b h=>M'.eW b (M.eW b h),fun b h=> ?_,fun i b h1 h2=>x1 i b (M.pL i b h1 h2)⟩ (fun M0=> ?_)
  ·rw [←M.a6 b h1 h2]
   refine M'.a6 b (Nat.lt_of_lt_of_le h1 M.b6) fun hm=> ?_
   rcases frM' hm with h|h
   ·exact h2 h
   ·exact absurd h1 (Nat.not_lt.2 h)
  ·by_cases hi:∃i o2,ae N i=some id∧ae upd i=some o2
   ·obtain ⟨i,o2,hN,hu⟩:=hi
    rw [lkIn hN hu] at h
    injection h with h
    subst h
    have hob:=M'.dg i o2 hu
    cases hb:β2 i with
    |some b=>exact hob.dB T2 ((x2 hN hb).trans hb.symm) (by rw [vW kout];simp)
    |none=>
     cases o2 with
     |an cs=>obtain ⟨bi,h,_⟩:=hob;rw [hb] at h;cases h
     |aw sz es=>obtain ⟨bi,h,_⟩:=hob;rw [hb] at h;cases h
     |aI ks vs=>obtain ⟨bi,es,cl,h,_⟩:=hob;rw [hb] at h;cases h
     |ao sz es=>
      rcases hob with h|⟨bi,h,_⟩
      ·exact .inl (by rw [h];rfl)
      ·rw [hb] at h;cases h
     |iw o=>obtain ⟨bi,h,_⟩:=hob;rw [hb] at h;cases h
     |aB=>trivial
   ·have h2:∀i,ae N i=some id→β2 i=none:=by
     intro i hN
     cases h2:β2 i with
     |none=>rfl
     |some b=>obtain ⟨o,ho⟩:=M'.jU i b h2;exact absurd ⟨i,o,hN,ho⟩ hi
    rw [lkOut0 fun i hN=>by
     cases hu:ae upd i with
     |none=>rfl
     |some o2=>exact absurd ⟨i,o2,hN,hu⟩ hi] at h
    have hob:=M.dg id o h
    by_cases hd:o= .aB
    ·subst hd;trivial
    ·exact hob.bR M'.eW x1 hag (fun bi hi=>out hi h hd h2)
  ·rcases xc h with ⟨i,hN,h⟩|⟨h2,h⟩
   ·obtain ⟨o,ho⟩:=M'.jU i bi h
    exact ⟨_,lkIn hN ho⟩
   ·obtain ⟨o,ho⟩:=M.jU id bi h
    exact ⟨o,by rw [lkOut h h2];exact ho⟩
  ·rcases xc hi with ⟨i2,hiN,hi⟩|⟨hi2,hi⟩<;>rcases xc hj with ⟨j2,hjN,hj⟩|⟨hj2,hj⟩
   ·have:=M'.fZ i2 j2 bi bj hi hj (live2 hiN h1) (live2 hjN h2) h3
    subst this
    rw [hiN] at hjN;injection hjN
   ·exact (mixed hi hj2 hj h2 h3).elim
   ·exact (mixed hj hi2 hi h1 h3.symm).elim
   ·exact M.fZ i j bi bj hi hj (live1 hi hi2 h1) (live1 hj hj2 h2) h3
  ·rcases xc hi with ⟨k,hN,hi⟩|⟨hi2,hi⟩
   ·obtain ⟨p1,p2,p3⟩:=M'.aX k bi hi
    refine ⟨p1,p2,?_⟩
    rcases p3 with ⟨g,hM⟩|p3
    ·obtain ⟨o,ho⟩:=M'.jU k bi hi
     rcases frM hM with ⟨h1,h2⟩|h
     ·exact .inl ⟨h2 g hN ho,h1⟩
     ·exact .inr h
    ·exact .inr (Nat.le_trans M.b6 p3)
   ·obtain ⟨p1,p2,p3⟩:=M.aX i bi hi
    refine ⟨fun hs=> ?_,Nat.lt_of_lt_of_le p2 M'.b6,p3⟩
    rcases M'.dN _ hs with h|h
    ·exact p1 h
    ·exact absurd p2 (Nat.not_lt.2 h)
  ·rcases M'.dN b h with h|h
   ·exact M.dN b h
   ·exact .inr (Nat.le_trans M.b6 h)
  ·
   have part:∀{id j sz:Nat} {es:List AV} {v:Value},cz β' (bc hp upd') w' id j sz es v→(∃i,ae N i=some id∧cz β2 upd w' i j sz es v)∨((∀i,ae N i=some id→β2 i=none)∧cz β hp w id j sz es v):=by
    rintro id j sz es v ⟨o,bi,a1,a2,a3,a4⟩
    rcases xc a2 with ⟨i,hN,h⟩|⟨h2,h⟩
    ·obtain ⟨o2,ho2⟩:=M'.jU i bi h
     rw [lkIn hN ho2] at a1
     injection a1 with a1
     subst a1
     exact .inl ⟨i,hN,o2,bi,ho2,h,iF a3,a4⟩
    ·rw [lkOut h h2] at a1
     exact .inr ⟨h2,o,bi,a1,h,a3,by rw [←cI (out h a1 (Ob.d8 a3) h2) j];exact a4⟩
   have bIn:∀{b:Nat},jT F1 S' β2 upd w' b→jT F S' β' (bc hp upd') w' b:=by
    intro b B
    refine ⟨B.ns,B.lt,?_,fun i bi hi hl=> ?_⟩
    ·rcases B.fr with h|h
     ·exact frM' h
     ·exact .inr (Nat.le_trans M.b6 h)
    ·rcases xc hi with ⟨k,hN,h⟩|⟨h2,h⟩
     ·exact B.ap k bi h (live2 hN hl)
     ·intro e
      rcases B.fr with (⟨p,bp,hp1,hp2⟩|hh)|hh
      ·obtain ⟨p',op,mp,ep⟩:=b1s hp1
       obtain ⟨_,dp,lp,np,_⟩:=inL mp
       have:=M.fZ p' i bp bi ep h (fun o' ho'=>by rw [lp] at ho';injection ho' with ho';exact ho'▸dp) (live1 h h2 hl) (hp2.symm.trans e.symm)
       subst this
       have e2:=keepPre mp h
       rw [h2 p np] at e2;cases e2
      ·exact (hbB hh).ap i bi h (live1 h h2 hl) e
      ·have:=(M.aX i bi h).2.1
       have hw:F1.w0.heap.size=w.heap.size:=rfl
       omega
   have bOut:∀{id j sz:Nat} {es:List AV} {b n c:Nat},cz β hp w id j sz es (.slice (some ⟨b,0,none⟩) n c)→(∀i,ae N i=some id→β2 i=none)→w'.heap[b]? =w.heap[b]? ∧jT F S' β' (bc hp upd') w' b:=by
    intro id j sz es b n c h h2
    have B:=M.da.eA h
    have hM:=outH h h2
    refine ⟨M'.a6 b B.lt hM,fun hs=> ?_,Nat.lt_of_lt_of_le B.lt M'.b6,B.fr,fun i bi hi hl e=> ?_⟩
    ·rcases M'.dN _ hs with h|h
     ·exact B.ns h
     ·exact absurd B.lt (Nat.not_lt.2 h)
    ·rcases xc hi with ⟨k,hN,hi2⟩|⟨hi2,hi1⟩
     ·rcases (M'.aX k bi hi2).2.2 with ⟨_,h⟩|h
      ·exact hM (e▸h)
      ·have:=B.lt
       have hw:F1.w0.heap.size=w.heap.size:=rfl
       omega
     ·exact B.ap i bi hi1 (live1 hi1 hi2 hl) e
   refine ⟨fun id o j sz es h1 h2=> ?_,fun id j sz es id' j' sz' es' b n c n' c' h1 h2=> ?_,fun id j sz es b n c h1 h2=> ?_⟩
   ·by_cases hi:∃i o2,ae N i=some id∧ae upd i=some o2
    ·obtain ⟨i,o2,hN,hu⟩:=hi
     have h1':=h1
     rw [lkIn hN hu] at h1
     injection h1 with h1
     subst h1
     obtain ⟨v,⟨o3,bi,q1,q2,q3,q4⟩,hv⟩:=M'.da.aX i o2 j sz es hu (iF h2)
     refine ⟨v,⟨_,bi,h1',x2 hN q2,h2,q4⟩,?_⟩
     rcases hv with hv|⟨b,cap,r1,r2,r3,B⟩
     ·exact .inl hv
     ·exact .inr ⟨b,cap,r1,r2,r3,bIn B⟩
    ·have h2n:∀i,ae N i=some id→β2 i=none:=by
      intro i hN
      cases h2':β2 i with
      |none=>rfl
      |some b=>obtain ⟨o,ho⟩:=M'.jU i b h2';exact absurd ⟨i,o,hN,ho⟩ hi
     have h1':=h1
     rw [lkOut0 fun i hN=>by
      cases hu:ae upd i with
      |none=>rfl
      |some o2=>exact absurd ⟨i,o2,hN,hu⟩ hi] at h1
     obtain ⟨v,hO,hv⟩:=M.da.aX id o j sz es h1 h2
     have hO':=hO
     obtain ⟨o3,bi,q1,q2,q3,q4⟩:=hO
     refine ⟨v,⟨o,bi,h1',x1 id bi q2,h2,by rw [cI (out q2 h1 (Ob.d8 h2) h2n) j];exact q4⟩,?_⟩
     rcases hv with hv|⟨b,cap,r1,r2,r3,B⟩
     ·exact .inl hv
     ·subst r1
      obtain ⟨g1,g2⟩:=bOut hO' h2n
      exact .inr ⟨b,cap,rfl,r2,r3.bR M'.eW (fun _ _ h=>h) hag g1,g2⟩
   ·rcases part h1 with ⟨i1,n1,k1⟩|⟨d1,k1⟩<;>rcases part h2 with ⟨i2,n2,k2⟩|⟨d2,k2⟩
    ·obtain ⟨e1,e2⟩:=M'.da.vn _ _ _ _ _ _ _ _ _ _ _ _ _ k1 k2
     subst e1
     rw [n1] at n2;injection n2 with n2
     exact ⟨n2,e2⟩
    ·exfalso
     have B1:=M'.da.eA k1
     rcases B1.fr with h|h
     ·exact outH k2 d2 h
     ·have:=(M.da.eA k2).lt
      have hw:F1.w0.heap.size=w.heap.size:=rfl
      omega
    ·exfalso
     have B1:=M'.da.eA k2
     rcases B1.fr with h|h
     ·exact outH k1 d1 h
     ·have:=(M.da.eA k1).lt
      have hw:F1.w0.heap.size=w.heap.size:=rfl
      omega
    ·exact M.da.vn _ _ _ _ _ _ _ _ _ _ _ _ _ k1 k2
   ·rcases part h1 with ⟨i1,n1,k1⟩|⟨d1,k1⟩
    ·have B1:=M'.da.eA k1
     rcases B1.fr with h|h
     ·rcases frM h with ⟨_,g⟩|g
      ·obtain ⟨o,bi,q1,q2,q3,q4⟩:=k1
       rcases Nat.lt_or_ge i1 mid with hlt|hge
       ·have:=M'.da.dN _ _ _ _ _ _ _ ⟨o,bi,q1,q2,q3,q4⟩ hlt
        exact Nat.le_trans M.b6 this
       ·exact absurd (g hge n1 q1) (Nat.not_le.2 h2)
      ·exact g
     ·exact Nat.le_trans M.b6 h
    ·exact M.da.dN _ _ _ _ _ _ _ k1 h2
 obtain ⟨x,m,hv2⟩:=hend
 exact ⟨v,S',β',rfl,x,m,hv2⟩
end
end
mutual
def mY:AV→Bool
 | .aP _ _=>true
 | .ak _=>true
 | .J _=>true
 | .bC vs=>qv vs
 | .al vs=>qv vs
 |_=>false
def qv:List AV→Bool
 |[]=>true
 |x::r=>mY x&&qv r
end
theorem mc:∀{l:List AV},qv l=true→∀x,x∈l→mY x=true
 |[],_,x,h=>by grind
 |y::r,hl,x,h=>by
  simp only [qv,Bool.and_eq_true] at hl
  rcases List.mem_cons.1 h with h|h
  ·grind
  ·exact mc hl.2 x h
theorem V.mC {S S':df} {β β':bn} {w w':World} {v:Value} {x:AV} (h:V S β w v x):mY x=true→V S' β' w' v x:=by
 induction h with
 |aP k n=>intro _;exact .aP k n
 |ak b=>intro _;exact .ak b
 |J s=>intro _;exact .J s
 |al vs cs hl h ih=>
  intro hb
  simp only [mY] at hb
  exact .al vs cs hl fun i v c h1 h2=>ih i v c h1 h2 (mc hb c (List.mem_of_getElem? h2))
 |bC vs cs hl h ih=>
  intro hb
  simp only [mY] at hb
  exact .bC vs cs hl fun i v c h1 h2=>ih i v c h1 h2 (mc hb c (List.mem_of_getElem? h2))
 |_=>intro hb;cases hb
def eX:Ob→Rn
 | .an cs=> .an cs
 | .aw _ es=> .aw es
 | .ao _ es=> .ao es
 | .iw _=> .a6 0
 | .aI ks vs=> .aI ks vs
 | .aB=> .a6 0
def dK (L:List (Nat×Ob)):List (Nat×Rn):=L.map fun x=>(x.1,eX x.2)
theorem cH:∀{L:List (Nat×Ob)} {id:Nat} {x:Rn},ae (dK L) id=some x→∃o,x=eX o∧(id,o)∈L
 |[],id,x,h=>by cases h
 |(a,o)::r,id,x,h=>by
  simp only [dK,List.map_cons,ae] at h
  by_cases e:a=id
  ·grind
  ·rw [if_neg e] at h
   obtain ⟨o',h1,h2⟩:=cH (L:=r) h
   grind
def mf:Ob→Bool
 | .aB=>true
 | .iw _=>true
 |_=>false
theorem bK.fi {P:Program} {f:FuncId} {args args':List AV} {r:AV} (h:bK P f args [] r []) (L:List (Nat×Ob)) (hd:L.all (fun x=> !mf x.2)=true) (hb:∀x,x∈L→∀p,p∈dl x.2→p)
  (hA:bW (dK L) args'=args) (hc:∀p,p∈cu (dK L) args'→p) (hr:mY r=true):bK P f args' L r []:=by
 intro F S β hp w vs M hl hv hpl _
 have live:∀{id:Nat} {o:Ob},(id,o)∈L→o≠ .aB∧∀b,o≠ .iw b:=by
  intro id o hm
  have:=List.all_eq_true.1 hd _ hm
  constructor
  ·rintro rfl;grind[mf]
  ·rintro b rfl;grind[mf]
 let S1:df:=fun b=>S b∨∃id o bi,(id,o)∈L∧β id=some bi∧b=bi.bG
 have hS:∀b,S b→S1 b:=fun b h=> .inl h
 let F1:Fr:={w0:=w,S0:=S1,M:=fun _=>False,β0:=fo}
 have T:Cx S S1 β fo w (dK L):=by
  refine ⟨hS,fun id j bi hj hb'=> ?_,fun id es bi hj hb'=> ?_,fun id es xs bi hj=> ?_,fun id es bi hj hb' hne=> ?_,fun id cs bi hj hb'=> ?_,fun id ks vs bi hj hb'=> ?_⟩
  ·obtain ⟨o,e,hm⟩:=cH hj
   cases o with
   |aB=>grind
   |iw b=>grind
   |_=>cases e
  ·obtain ⟨o,e,hm⟩:=cH hj
   cases o with
   |aw sz es'=>
    injection e with e;subst e
    obtain ⟨bj,q1,q2,q3⟩:=M.dg id _ (hpl _ _ hm)
    rw [hb'] at q1;injection q1 with q1;subst q1
    exact ⟨.inr ⟨id,_,bi,hm,hb',rfl⟩,q3.mC hS (hb _ hm _ (List.mem_singleton.2 rfl))⟩
   |_=>cases e
  ·obtain ⟨o,e,hm⟩:=cH hj
   cases o<;>cases e
  ·obtain ⟨o,e,hm⟩:=cH hj
   cases o with
   |ao sz es'=>
    injection e with e;subst e
    obtain ⟨bj,q1,q2,q3⟩:=(M.dg id _ (hpl _ _ hm)).resolve_left hne
    rw [hb'] at q1;injection q1 with q1;subst q1
    exact ⟨.inr ⟨id,_,bi,hm,hb',rfl⟩,q3.mC hS (hb _ hm _ (List.mem_singleton.2 rfl))⟩
   |_=>cases e
  ·obtain ⟨o,e,hm⟩:=cH hj
   cases o with
   |an cs'=>
    injection e with e;subst e
    obtain ⟨bj,q1,q2,q3⟩:=M.dg id _ (hpl _ _ hm)
    rw [hb'] at q1;injection q1 with q1;subst q1
    have hn:aa cs=true:=hb _ hm _ (List.mem_singleton.2 rfl)
    exact ⟨.inr ⟨id,_,bi,hm,hb',rfl⟩,q3.mC hS (by grind[aa,Ped.aJ])⟩
   |_=>cases e
  ·obtain ⟨o,e,hm⟩:=cH hj
   cases o with
   |aI ks' vs'=>
    injection e with e e';subst e;subst e'
    obtain ⟨bj,es,cl,q1,q2,q3,q4,q5,q6,_⟩:=M.dg id _ (hpl _ _ hm)
    rw [hb'] at q1;injection q1 with q1;subst q1
    obtain ⟨n1,n2⟩:=hb _ hm _ (List.mem_singleton.2 rfl)
    exact ⟨.inr ⟨id,_,bi,hm,hb',rfl⟩,es,cl,q2,q3,q4,fun i e k he hk=>((q5 i e k he hk).aJ (a8.1 n1 k (List.mem_of_getElem? hk))).bR hS (fun _ _ h=>h) (nI.bb S w),
     fun i e v he hv=>((q6 i e v he hv).aJ (a8.1 n2 v (List.mem_of_getElem? hv))).bR hS (fun _ _ h=>h) (nI.bb S w)⟩
   |_=>cases e
 have hsub:∀b,S1 b→b<w.heap.size:=by
  rintro b (hs|⟨id,o,bi,_,hb',rfl⟩)
  ·exact M.sub b hs
  ·exact (M.aX id bi hb').2.1
 have M1:b7 F1 S1 fo [] w:=b7.pj ⟨⟨M.tP.1,fun h=>h⟩,rfl,rfl,rfl,Nat.le_refl _,fun _ _ _=>rfl,fun id o h=>(by cases h),fun id bi h=>(by cases h),fun i j bi bj h=>(by cases h),fun i bi h=>(by cases h),hsub,fun _ h=>h,fun _ h=> .inl h,fun i b _ h=>h⟩ (fun _=>NK.yV (fun id o j sz es h=>by cases h))
 have hl1:vs.length=args.length:=by grind[dX,List.length_map]
 have hcall:=h F1 S1 fo [] w vs M1 hl1 (fun i v x h1 h2=>by
  rw [←hA] at h2
  obtain ⟨c0,h3,rfl⟩:=dI h2
  exact (hv i v c0 h1 h3).dB T (dh hc c0 (List.mem_of_getElem? h3))) (fun id o hm=>by grind) (fun id o hm _=>rfl)
 refine hcall.mono ?_
 rintro e w' ⟨v,S',β',rfl,E',M',hV⟩
 have hend:∃S2 β2,lg S S2 β β2 w w'∧b7 F S2 β2 hp w'∧V S2 β2 w' v r:=by
  obtain ⟨x,m⟩:=M.lO (S':=fun b=>S b∨(S' b∧w.heap.size≤b)) (w':=w') (fun b h=> .inl h) (fun b h=>h.imp (fun h=>h) (fun h=>h.2)) (fun b h=>h.elim (fun h=>Nat.lt_of_lt_of_le (M.sub b h) M'.b6) (fun h=>M'.sub b h.1)) M'.os M'.eL M'.cc M'.b6 (fun b hb=>M'.a6 b hb (fun h=>h))
  exact ⟨_,β,x,m,hV.mC hr⟩
 grind
theorem b5 {n:Nat} {env:List (Nat×AV)} {hp:List (Nat×Ob)} (slot id sz:Nat) (hs:ci env slot= .ab) (hi:ae hp id=none):Le n ⟨env,hp⟩ ⟨ba env slot (.aO id 0),ba hp id (.ao sz [])⟩:=by
 rintro F a w ⟨S,β,E,M⟩
 refine ⟨S,β,⟨E.1,E.2.1,fun t=> ?_⟩,M.Cc hi (.inl rfl) (fun _ _ _ h=>by cases h)⟩
 have h:=E.2.2 t
 unfold ci at h⊢hs
 rw [aq]
 by_cases e:slot=t
 ·subst e
  rw [if_pos rfl]
  rw [hs] at h
  generalize a.eval (.tmp slot)=v at h
  cases h
  exact .ft id
 ·rw [if_neg e];exact h
theorem be {P:Program} {n:Nat} {c:Code} {A X:Type} {l:List X} {k:Nat} (S:Nat→A→St) (T:A→St) (f:A→X→A) (I:Nat→A→Prop)
  (turn:∀i a,i<l.length→I i a→dm P n c (S i a) (fun e t=>e= .aj∧∃y,l[i]? =some y∧t=S (i+1) (f a y))) (step:∀i a y,l[i]? =some y→I i a→I (i+1) (f a y))
  (stop:∀a,I l.length a→dm P n c (S l.length a) (fun e t=>e= .ar k∧t=T a)) (a:A) (h0:I 0 a):bJ P n c (S 0 a) (.ar k) (T (l.foldl f a))∧I l.length (l.foldl f a):=by
 have go:∀d i a,i+d=l.length→I i a→bJ P n c (S i a) (.ar k) (T ((l.drop i).foldl f a))∧I l.length ((l.drop i).foldl f a):=by
  intro d
  induction d with
  |zero=>
   intro i a hi ha
   have:i=l.length:=by omega
   subst this
   obtain ⟨e,s,⟨rfl,rfl⟩,h⟩:=stop a ha
   rw [List.drop_length]
   exact ⟨.bD h (by simp),ha⟩
  |succ d ih=>
   intro i a hi ha
   have hlt:i<l.length:=by omega
   have hy:=List.getElem?_eq_getElem hlt
   obtain ⟨e,s,⟨rfl,y,hy',rfl⟩,h⟩:=turn i a hlt ha
   rw [hy] at hy';injection hy' with hy';subst hy'
   obtain ⟨h1,h2⟩:=ih (i+1) _ (by omega) (step i a _ hy ha)
   rw [List.drop_eq_getElem_cons hlt,List.foldl_cons]
   exact ⟨.cR h h1,h2⟩
 simpa using go l.length 0 a (by omega) h0
theorem oa {P:Program} {n:Nat} {c:Code} {A B X:Type} {l:List X} {k:Nat} {e0:cw} (R:B→St) (S:Nat→A→St) (T:A→St) (f:A→X→Option A) (I:Nat→A→Prop)
  (turn:∀i a y,l[i]? =some y→I i a→(f a y=none→∃r,bJ P n c (S i a) e0 (R r))∧(∀b,f a y=some b→dm P n c (S i a) (fun e t=>e= .aj∧t=S (i+1) b)))
  (step:∀i a y b,l[i]? =some y→I i a→f a y=some b→I (i+1) b) (stop:∀a,I l.length a→dm P n c (S l.length a) (fun e t=>e= .ar k∧t=T a)) (a:A) (h0:I 0 a):
  (∃r,bJ P n c (S 0 a) e0 (R r)∧l.foldlM f a=none)∨(∃b,bJ P n c (S 0 a) (.ar k) (T b)∧l.foldlM f a=some b∧I l.length b):=by
 have go:∀d i a,i+d=l.length→I i a→(∃r,bJ P n c (S i a) e0 (R r)∧(l.drop i).foldlM f a=none)∨(∃b,bJ P n c (S i a) (.ar k) (T b)∧(l.drop i).foldlM f a=some b∧I l.length b):=by
  intro d
  induction d with
  |zero=>
   intro i a hi ha
   have:i=l.length:=by omega
   subst this
   obtain ⟨e,s,⟨rfl,rfl⟩,h⟩:=stop a ha
   exact .inr ⟨a,.bD h (by simp),by simp,ha⟩
  |succ d ih=>
   intro i a hi ha
   have hlt:i<l.length:=by omega
   have hy:=List.getElem?_eq_getElem hlt
   obtain ⟨h1,h2⟩:=turn i a _ hy ha
   have hd:=List.drop_eq_getElem_cons hlt
   cases hf:f a l[i] with
   |none=>
    obtain ⟨r,q⟩:=h1 hf
    exact .inl ⟨r,q,by rw [hd,List.foldlM_cons,hf];rfl⟩
   |some b=>
    obtain ⟨e,s,⟨rfl,rfl⟩,h⟩:=h2 b hf
    rcases ih (i+1) b (by omega) (step i a _ b hy ha hf) with ⟨r,q1,q2⟩|⟨c,q1,q2,q3⟩
    ·exact .inl ⟨r,.cR h q1,by rw [hd,List.foldlM_cons,hf];exact q2⟩
    ·exact .inr ⟨c,.cR h q1,by rw [hd,List.foldlM_cons,hf];exact q2,q3⟩
 simpa using go l.length 0 a (by omega) h0
theorem iK {P:Program} {n:Nat} {c:Code} {A X:Type} {l:List X} {k:Nat} {e0:cw} {R:St} (S:Nat→A→St) (T:A→St) (f:A→X→Option A) (I:Nat→A→Prop)
  (turn:∀i a y,l[i]? =some y→I i a→(f a y=none→bJ P n c (S i a) e0 R)∧(∀b,f a y=some b→dm P n c (S i a) (fun e t=>e= .aj∧t=S (i+1) b)))
  (step:∀i a y b,l[i]? =some y→I i a→f a y=some b→I (i+1) b) (stop:∀a,I l.length a→dm P n c (S l.length a) (fun e t=>e= .ar k∧t=T a)) (a:A) (h0:I 0 a):
  (bJ P n c (S 0 a) e0 R∧l.foldlM f a=none)∨(∃b,bJ P n c (S 0 a) (.ar k) (T b)∧l.foldlM f a=some b∧I l.length b):=
 (oa (fun _:Unit=>R) S T f I (fun i a y hy hI=>⟨fun h=>⟨(),(turn i a y hy hI).1 h⟩,(turn i a y hy hI).2⟩) step stop a h0).imp (fun ⟨_,h⟩=>h) id
theorem cf.bG {P:Program} {n i:Nat} {c:Code} {st st':St} (h:cf P n c st .aj st'):cf P n (.block i c) st .aj st':=fun F a w x=>by
 refine wpIn_block (wpIn_mono (h F a w x) fun e' a' w' ⟨h1,h2⟩=> ?_)
 subst h1
 exact ⟨rfl,h2⟩
theorem cf.ut {P:Program} {n i:Nat} {c:Code} {st st':St} (h:cf P n c st (.ar i) st'):cf P n (.block i c) st .aj st':=fun F a w x=>by
 refine wpIn_block (wpIn_mono (h F a w x) fun e' a' w' ⟨h1,h2⟩=> ?_)
 subst h1
 simp only [cw.x,Exit.inBlock,if_pos trivial]
 exact ⟨trivial,h2⟩
theorem vX {n:Nat} {st:St} (id:Nat) {cs ds:List AV} (ho:ae st.hp id=some (.an cs)) (hl:cs.length=ds.length) (hw:∀(j:Nat) x y,cs[j]? =some x→ds[j]? =some y→Wk x y) (hown:∀(j sz:Nat) (es:List AV),ds[j]? =some (.aX sz es)→cs[j]? =some (.aX sz es)):
  Le n st ⟨st.dA,ba st.hp id (.an ds)⟩:=by
 rintro F a w ⟨S,β,E,M⟩
 obtain ⟨bi,h1,h2,cur,t,g1,g2,g3,g4,g5,g6⟩:=M.dg id _ ho
 have one:∀{i:Nat} {e:AV},[AV.al ds][i]? =some e→i=0∧e= .al ds:=fun {i e} h=>by
  cases i with
  |zero=>simp at h;exact ⟨rfl,h.symm⟩
  |succ i=>simp at h
 obtain ⟨x,M'⟩:=M.cR (w':=w) h1 ho (by simp) ⟨rfl,rfl,rfl,Nat.le_refl _,fun _ _ _=>rfl⟩ (.an ds) ⟨bi,h1,h2,cur,t,g1,g2,g3,g4,fun i e h=>by
  obtain ⟨_,rfl⟩:=one h
  show ds.length=bi.sz
  rw [←hl];exact g5 0 (.al cs) rfl,fun i j e c h k=>by
  obtain ⟨rfl,rfl⟩:=one h
  have k':ds[j]? =some c:=k
  have hj:j<cs.length:=by rw [hl];exact (List.getElem?_eq_some_iff.1 k').1
  obtain ⟨u,hu,hv⟩:=g6 0 j (.al cs) cs[j] rfl (List.getElem?_eq_getElem hj)
  exact ⟨u,hu,(hw j _ c (List.getElem?_eq_getElem hj) k').V hv⟩⟩ (fun j sz es h=>⟨hown j sz es h,rfl⟩)
 exact ⟨S,β,E,M'⟩
theorem Ky {n:Nat} {st:St} (id m:Nat) {sz:Nat} {es:List AV} (ho:ae st.hp id=some (.aw sz es)):Le n st ⟨st.dA,ba st.hp id (.aw sz (es.take m))⟩:=by
 rintro F a w ⟨S,β,E,M⟩
 obtain ⟨bi,h1,h2,cur,t,g1,g2,g3,g4,g5,g6⟩:=M.dg id _ ho
 have sub:∀{i:Nat} {e:AV},(es.take m)[i]? =some e→es[i]? =some e:=fun {i e} h=>by
  rw [List.getElem?_take] at h
  split at h
  ·exact h
  ·cases h
 obtain ⟨x,M'⟩:=M.cR (w':=w) h1 ho (by simp) ⟨rfl,rfl,rfl,Nat.le_refl _,fun _ _ _=>rfl⟩ (.aw sz (es.take m)) ⟨bi,h1,h2,cur,t,g1,g2,by rw [List.length_take];omega,g4,fun i e h=>g5 i e (sub h),fun i j e c h k=>g6 i j e c (sub h) k⟩ (fun j sz es h=>by cases h)
 exact ⟨S,β,E,M'⟩
theorem V.Oj {S:df} {β:bn} {w:World} {v:Value} {cs ds:List AV} (hl:cs.length=ds.length) (h:∀(i:Nat) c d,cs[i]? =some c→ds[i]? =some d→Wk c d) (hv:Ped.V S β w v (.bC cs)):Ped.V S β w v (.bC ds):=by
 cases hv with
 |bC vs _ hl' h'=>
  refine .bC vs ds (hl'.trans hl) fun i v d h1 h2=> ?_
  have hlt:i<cs.length:=by rw [hl];exact (List.getElem?_eq_some_iff.1 h2).1
  have hc:cs[i]? =some cs[i]:=List.getElem?_eq_getElem hlt
  exact (h i _ d hc h2).V (h' i v _ h1 hc)
theorem CM {P:Program} {n:Nat} {c:Code} {X:Type} {l:List X} {k:Nat} {e0:cw} {R:St} (S:Nat→St) (T:St) (q:X→Bool) (he:e0≠ .aj)
  (turn:∀i y,l[i]? =some y→dm P n c (S i) (fun e t=>(e=e0∧t=R∧q y=false)∨(e= .aj∧t=S (i+1)∧q y=true))) (stop:dm P n c (S l.length) (fun e t=>e= .ar k∧t=T)):
  (bJ P n c (S 0) e0 R∧l.all q=false)∨(bJ P n c (S 0) (.ar k) T∧l.all q=true):=by
 have hall:∀l:List X,l.foldlM (fun (_:Unit) y=>if q y=true then some () else none) ()=if l.all q=true then some () else none:=by
  intro l
  induction l with
  |nil=>rfl
  |cons y r ih=>
   rw [List.foldlM_cons,List.all_cons]
   cases q y with
   |true=>exact ih
   |false=>rfl
 have ha:=hall l
 rcases iK (l:=l) (k:=k) (e0:=e0) (R:=R) (fun i (_:Unit)=>S i) (fun _=>T) (fun (_:Unit) y=>if q y=true then some () else none) (fun _ _=>True) (fun i _ y hy _=>by
  obtain ⟨e,t,⟨rfl,rfl,h1⟩|⟨rfl,rfl,h1⟩,h⟩:=turn i y hy
  ·rw [h1];exact ⟨fun _=> .bD h he,fun b hb=>(by cases hb)⟩
  ·rw [h1];exact ⟨fun q=>(by cases q),fun b _=>⟨_,_,⟨rfl,rfl⟩,h⟩⟩) (fun _ _ _ _ _ _ _=>trivial) (fun _ _=>stop) () trivial with ⟨h,e⟩|⟨_,h,e,_⟩
 ·refine .inl ⟨h,?_⟩
  rw [ha] at e
  cases hb:l.all q with
  |true=>rw [hb] at e;cases e
  |false=>rfl
 ·refine .inr ⟨h,?_⟩
  rw [ha] at e
  cases hb:l.all q with
  |true=>rfl
  |false=>rw [hb] at e;cases e
end Go.Ped
namespace Go.Ped
open Go.RowKit Go.Proofs
section
def sub (c:Code):List Nat→Code
 |[]=>c
 |k::π=>match sub c π with
  | .seq a b=>bif Nat.beq k 0 then a else b
  | .cond _ x y=>bif Nat.beq k 0 then x else y
  | .block _ b=>b
  |x=>x
inductive KF where
 |c (π:List Nat)
 |b (id:Nat)
def EK (P:Program) (n:Nat) (r:Code) (Q:cw→St→Prop):List KF→cw→St→Prop
 |[],e,s=>∃s',Le n s s'∧Q e s'
 | .c π::K,.aj,s=>∃e s',cf P n (sub r π) s e s'∧EK P n r Q K e s'
 | .c _::_,.gh _,_=>False
 | .c _::K,.ar i,s=>EK P n r Q K (.ar i) s
 | .c _::K,.aR,s=>EK P n r Q K .aR s
 | .b id::K,.ar i,s=>EK P n r Q K (if i=id then .aj else .ar i) s
 | .b _::_,.gh _,_=>False
 | .b _::K,.aj,s=>EK P n r Q K .aj s
 | .b _::K,.aR,s=>EK P n r Q K .aR s
section
variable {P:Program} {n:Nat} {r:Code} {Q:cw→St→Prop} {π:List Nat} {K:List KF} {st st':St} {e:cw} {a b:Code}
theorem cf.Fx (h:cf P n a st e st') (he:e≠ .aj):cf P n (.seq a b) st e st':=fun F x w hA=>by
 refine wpIn_seq (wpIn_mono (h F x w hA) fun e' a' w' ⟨h1,h2⟩=> ?_)
 subst h1
 cases e with
 |aj=>exact absurd rfl he
 |ar i=>exact ⟨rfl,h2⟩
 |aR=>exact ⟨rfl,h2⟩
 |gh l=>exact ⟨rfl,h2⟩
theorem cf.Kz {id:Nat} (h:cf P n a st e st') (he:e≠ .ar id):cf P n (.block id a) st e st':=fun F x w hA=>by
 refine wpIn_block (wpIn_mono (h F x w hA) fun e' a' w' ⟨h1,h2⟩=> ?_)
 subst h1
 cases e with
 |aj=>exact ⟨rfl,h2⟩
 |ar i=>
  have:i≠id:=fun q=>he (by rw [q])
  simp only [cw.x,Exit.inBlock,if_neg this]
  exact ⟨trivial,h2⟩
 |aR=>exact ⟨rfl,h2⟩
 |gh l=>exact ⟨rfl,h2⟩
theorem cf.I3 {o:Operand} {v:Bool} (ho:a7 st.dA o= .ak v) (h:cf P n (bif v then a else b) st e st'):cf P n (.cond o a b) st e st':=fun F x w hA=>by
 obtain ⟨S,β,E,M⟩:=hA
 have hv:=aD E o
 generalize hxx:x.eval o=xv at hv
 rw [ho] at hv
 cases hv with
 |ak _=>
  cases v with
  |true=>exact wpIn_cond_true hxx (h F x w ⟨S,β,E,M⟩)
  |false=>exact wpIn_cond_false hxx (h F x w ⟨S,β,E,M⟩)
def rQ (r:Code) (env:List (Nat×AV)):Nat→List KF→cw→Option (List KF×cw)
 |0,_,_=>none
 |_+1,[],e=>some ([],e)
 |f+1,.b id::K,e=>match e with
  | .ar i=>bif Nat.beq i id then rQ r env f K .aj else rQ r env f K (.ar i)
  | .aj=>rQ r env f K .aj
  | .aR=>rQ r env f K .aR
  | .gh _=>none
 |f+1,.c π::K,e=>match e with
  | .aj=>match sub r π with
    | .seq _ _=>rQ r env f (.c (0::π):: .c (1::π)::K) .aj
    | .cond o _ _=>match a7 env o with
      | .ak true=>rQ r env f (.c (0::π)::K) .aj
      | .ak false=>rQ r env f (.c (1::π)::K) .aj
      |_=>none
    | .block id _=>rQ r env f (.c (0::π):: .b id::K) .aj
    | .skip=>rQ r env f K .aj
    | .label _=>rQ r env f K .aj
    | .exit i=>rQ r env f K (.ar i)
    | .ret=>rQ r env f K .aR
    |_=>some (.c π::K,.aj)
  | .ar i=>rQ r env f K (.ar i)
  | .aR=>rQ r env f K .aR
  | .gh _=>none
theorem bX {env:List (Nat×AV)} {hp:List (Nat×Ob)}:∀{f:Nat} {K K':List KF} {e e':cw},rQ r env f K e=some (K',e')→EK P n r Q K' e' ⟨env,hp⟩→EK P n r Q K e ⟨env,hp⟩
 |0,_,_,_,_,h,_=>by cases h
 |f+1,[],K',e,e',h,k=>by
  injection h with h;simp only [Prod.mk.injEq] at h;obtain ⟨rfl,rfl⟩:=h;exact k
 |f+1,.b id::K,K',e,e',h,k=>by
  cases e with
  |ar i=>
   simp only [rQ] at h
   show EK P n r Q K (if i=id then .aj else .ar i) ⟨env,hp⟩
   cases hb:Nat.beq i id with
   |true=>rw [hb] at h;rw [if_pos (Nat.eq_of_beq_eq_true hb)];exact bX h k
   |false=>rw [hb] at h;rw [if_neg (fun q=>by rw [q,Nat.beq_refl] at hb;cases hb)];exact bX h k
  |aj=>exact bX (K:=K) (e:= .aj) h k
  |aR=>exact bX (K:=K) (e:= .aR) h k
  |gh l=>cases h
 |f+1,.c π::K,K',e,e',h,k=>by
  cases e with
  |ar i=>exact bX (K:=K) (e:= .ar i) h k
  |aR=>exact bX (K:=K) (e:= .aR) h k
  |gh l=>cases h
  |aj=>
   simp only [rQ] at h
   split at h
   ·rename_i a b hs
    obtain ⟨e1,s1,h1,h2⟩:=bX h k
    have ha:sub r (0::π)=a:=by simp [sub,hs]
    have hb:sub r (1::π)=b:=by simp only [sub,hs];rfl
    rw [ha] at h1
    cases e1 with
    |aj=>
     obtain ⟨e2,s2,h3,h4⟩:=h2
     rw [hb] at h3
     exact ⟨e2,s2,by rw [hs];exact h1.aF h3,h4⟩
    |ar i=>exact ⟨_,s1,by rw [hs];exact h1.Fx (by simp),h2⟩
    |aR=>exact ⟨_,s1,by rw [hs];exact h1.Fx (by simp),h2⟩
    |gh l=>exact False.elim h2
   ·rename_i o a b hs
    split at h
    ·rename_i hv
     obtain ⟨e1,s1,h1,h2⟩:=bX h k
     have ha:sub r (0::π)=a:=by simp [sub,hs]
     rw [ha] at h1
     exact ⟨e1,s1,by rw [hs];exact cf.I3 hv h1,h2⟩
    ·rename_i hv
     obtain ⟨e1,s1,h1,h2⟩:=bX h k
     have ha:sub r (1::π)=b:=by simp only [sub,hs];rfl
     rw [ha] at h1
     exact ⟨e1,s1,by rw [hs];exact cf.I3 hv h1,h2⟩
    ·cases h
   ·rename_i id a hs
    obtain ⟨e1,s1,h1,h2⟩:=bX h k
    have ha:sub r (0::π)=a:=by simp [sub,hs]
    rw [ha] at h1
    cases e1 with
    |aj=>exact ⟨_,s1,by rw [hs];exact h1.Kz (by simp),h2⟩
    |ar i=>
     by_cases hi:i=id
     ·subst hi
      have h2:EK P n r Q K (if i=i then .aj else .ar i) s1:=h2
      rw [if_pos rfl] at h2
      exact ⟨_,s1,by rw [hs];exact h1.ut,h2⟩
     ·have h2:EK P n r Q K (if i=id then .aj else .ar i) s1:=h2
      rw [if_neg hi] at h2
      exact ⟨_,s1,by rw [hs];exact h1.Kz (by simp [hi]),h2⟩
    |aR=>exact ⟨_,s1,by rw [hs];exact h1.Kz (by simp),h2⟩
    |gh l=>exact False.elim h2
   ·rename_i hs
    exact ⟨_,_,by rw [hs];exact fun F a w x=>wpIn_skip ⟨rfl,x⟩,bX h k⟩
   ·rename_i hs
    exact ⟨_,_,by rw [hs];exact fun F a w x=>wpIn_label ⟨rfl,x⟩,bX h k⟩
   ·rename_i hs
    exact ⟨_,_,by rw [hs];exact fun F a w x=>wpIn_exit ⟨rfl,x⟩,bX h k⟩
   ·rename_i hs
    exact ⟨_,_,by rw [hs];exact fun F a w x=>wpIn_ret ⟨rfl,x⟩,bX h k⟩
   ·injection h with h;simp only [Prod.mk.injEq] at h;obtain ⟨rfl,rfl⟩:=h;exact k
end
def fN {α:Type} (n:Nat) (k:Nat→α):α:=match n+1 with
 |0=>k 0
 |m+1=>k m
mutual
def fA (q:Bool):AV→(AV→Value)→Value
 | .al cs,k=>bif q then fL q cs fun cs=>k (.al cs) else k (.al cs)
 | .bC cs,k=>fL q cs fun cs=>k (.bC cs)
 | .aw i o l,k=>fN i fun i=>k (.aw i o l)
 | .aO i l,k=>fN i fun i=>k (.aO i l)
 | .aE cs,k=>bif q then fL q cs fun cs=>k (.aE cs) else k (.aE cs)
 | .aA i a o,k=>fN i fun i=>fN o fun o=>k (.aA i a o)
 | .aI i,k=>fN i fun i=>k (.aI i)
 | .bZ f a b,k=>fL q a fun a=>fL q b fun b=>k (.bZ f a b)
 | .bu t v,k=>fA q v fun v=>k (.bu t v)
 | .aP κ n,k=>k (.aP κ n)
 | .ak b,k=>k (.ak b)
 | .J s,k=>k (.J s)
 | .aF es c,k=>k (.aF es c)
 | .aX s es,k=>k (.aX s es)
 | .aQ es xs,k=>k (.aQ es xs)
 | .bH es xs,k=>k (.bH es xs)
 | .ab,k=>k .ab
 | .eK,k=>k .eK
 | .bh,k=>k .bh
 | .eU,k=>k .eU
 | .eV,k=>k .eV
 | .mB,k=>k .mB
 | .aB,k=>k .aB
def fL (q:Bool):List AV→(List AV→Value)→Value
 |[],k=>k []
 |x::r,k=>fA q x fun x=>fL q r fun r=>k (x::r)
end
def fO (q:Bool):Ob→(Ob→Value)→Value
 | .an cs,k=>bif q then fL q cs fun cs=>k (.an cs) else k (.an cs)
 | .aw sz es,k=>fN sz fun sz=>k (.aw sz es)
 | .ao sz es,k=>fN sz fun sz=>k (.ao sz es)
 | .aI ks vs,k=>k (.aI ks vs)
 | .iw o,k=>k (.iw o)
 | .aB,k=>k .aB
def fH (q:Bool):List (Nat×Ob)→(List (Nat×Ob)→Value)→Value
 |[],k=>k []
 |(i,o)::r,k=>fN i fun i=>fO q o fun o=>fH q r fun r=>k ((i,o)::r)
def fE (q:Bool):List (Nat×AV)→(List (Nat×AV)→Value)→Value
 |[],k=>k []
 |(i,o)::r,k=>fN i fun i=>fA q o fun o=>fE q r fun r=>k ((i,o)::r)
def fS (q:Bool) (s:St) (k:St→Value):Value:=fE q s.dA fun a=>fH q s.hp fun b=>k ⟨a,b⟩
def fP:List Prop→(List Prop→Value)→Value
 |[],k=>k []
 |p::r,k=>fP r fun r=>k (p::r)
def fC:List iy→List Prop→(List Prop→Value)→Value
 |[],ps,k=>k ps
 |⟨p,_,_⟩::r,ps,k=>fC r (p::ps) k
def Ok (p q:Prop):Int:=0
def CN (es:List AV) (k:Nat) (F:AV→Prop):Int:=1
def I4 (s:ByteArray) (n:Int):Int:=2
def vY (r:Option (Option Nat)) (vs:List AV):Int:=3
def uu (r:Option (Option Nat)):Int:=4
def Ol (s:ByteArray) (p:Nat):Int:=5
def I6 (es:List AV) (off len:Nat):Int:=6
def KB (h:List (Nat×Ob)):Int:=20
def mZ (f:FuncId) (vs:List AV) (h:List (Nat×Ob)):Int:=7
def I5 (K:List KF) (st:St) (ps:List Prop):Int:=8
def zu (π:List Nat) (K:List KF) (k:Nat):Int:=9
def KA (e:cw):Int:=10
def AZ (s:St) (ps:List Prop):Int:=11
def UD (n:Nat):Int:=12
def jS (n:Nat):Value:= .int .i8 (UD n)
def CQ (r:Option (dT×List Nat)) (k:Prop→Value):Value:=match r with
 |some (res,_)=>match res.cs with
  |[]=>k True
  |[⟨p,_,_⟩]=>k p
  |⟨p,_,_⟩::⟨q,_,_⟩::_=>k (p∧q)
 |none=>k False
def KC (es:List AV) (k:Nat):Value:= .int .i8 (CN es k fun e=>es[k]? =some e)
def vZ (P:Program) (t:TypeId):Option TypeInfo:=match P.underlying t with
 |some (.slice e)=>P.info? e
 |_=>none
def I' (h:List (Nat×Ob)):AV→(List AV→Prop→Value)→Value
 | .aF es _,k=>k es True
 | .aw id off len,k=>(match ae h id with
   |some (.aw _ es)=>k ((es.drop off).take len) (off+len≤es.length)
   |_=>jS 40)
 | .aO id len,k=>(match ae h id with
   |some (.ao _ es)=>k (es.take len) (len≤es.length)
   |_=>jS 41)
 | .ab,k=>k [] True
 | .mB,k=>k [] True
 |_,_=>jS 42
def Om (P:Program) (t:TypeId) (h:List (Nat×Ob)) (x y:AV) (k:Prop→Prop→Value):Value:=
 match vZ P t with
 |some i=>fN i.size fun sz=>fN i.bytes fun bt=>I' h y fun ys q=>(match x with
  | .aF es _=>k (q∧ys≠[]∧(∀e,e∈ys→c8 sz e)∧(∀e,e∈es→c8 sz e)∧((es.length+ys.length:Nat):Int)*(bt:Nat)≤140737488355328∧es.length+ys.length≤9223372036854775807) (q∧ys=[])
  | .aw id off len=>(match ae h id with
    |some (.aw _ es)=>k (q∧off=0∧len=es.length∧(∀e,e∈ys→c8 sz e)∧(∀e,e∈es→c8 sz e)∧((len+ys.length:Nat):Int)*(bt:Nat)≤140737488355328∧len+ys.length≤9223372036854775807) (q∧ys=[])
    |_=>jS 43)
  | .aO id len=>(match ae h id with
    |some (.ao _ es)=>k (q∧len=es.length∧(∀e,e∈ys→c8 sz e)∧(∀e,e∈es→c8 sz e)∧((len+ys.length:Nat):Int)*(bt:Nat)≤140737488355328∧len+ys.length≤9223372036854775807) (q∧ys=[])
    |_=>jS 44)
  |_=>jS 45)
 |none=>jS 46
def zz (P:Program) (t:TypeId) (k:AV) (ks:List AV):Option (Option Nat):=match k with
 | .al xs=>(match fe P t with
   |some (kt,_,_)=>fv P kt xs ks 0
   |none=>none)
 |k=>(match mI P t with
  |some (_,_,s)=>bs s k ks 0
  |none=>none)
def Oq:Op→Bool
 | .lookup _ _ _ _=>true
 | .mapUpdate _ _ _ _=>true
 | .call ⟨.builtin .delete,_,_⟩=>true
 |_=>false
def I7 (q:Bool) (P:Program) (d:Nat) (op:Op) (vs:List AV) (st:St):Value:=
 match op,vs with
 | .indexAddr _ _ _,[x,.aP _ n]=>(match xz (b8 x) with
   | .aF es _=> .int .i8 (CN es n.toNat fun e=>0≤n∧es[n.toNat]? =some e)
   |_=>jS 10)
 | .index _ _ _,[.J s,.aP _ n]=> .int .i8 (I4 s n)
 | .load _ _,[.aA id k _]=>(match ae st.hp id with
   |some (.aw _ es)=>KC es k
   |some (.ao _ es)=>KC es k
   |_=>jS 11)
 | .store _ _ _,[.aA id k _,_]=>(match ae st.hp id with
   |some (.aw _ es)=>KC es k
   |_=>jS 12)
 | .convert _ _ _,[.aw id off len]=>(match ae st.hp id with
   |some (.aw _ es)=> .int .i8 (I6 es off len)
   |_=>jS 13)
 | .call ⟨.value _,_,_⟩,.bZ g a c::args=>fL q (a++args++c) fun l=>fH q st.hp fun h=> .int .i8 (mZ g l h)
 | .call ⟨.invoke _ name,_,_⟩,.bu t v::args=>(match mJ P t name with
   |some g=>fH q st.hp fun h=> .int .i8 (mZ g (v::args) h)
   |none=>jS 14)
 | .lookup t _ _ _,[m,k]=>(match m with
   | .bh=> .int .i8 (vY (some none) [])
   | .aI id=>(match ae st.hp id with
     |some (.aI ks vs)=> .int .i8 (vY (zz P t k ks) vs)
     |_=>jS 15)
   | .bH ks vs=> .int .i8 (vY (zz P t k ks) vs)
   |_=>jS 16)
 | .mapUpdate t _ _ _,[.aI id,k,_]=>(match ae st.hp id with
   |some (.aI ks _)=> .int .i8 (uu (zz P t k ks))
   |_=>jS 17)
 | .call ⟨.builtin .delete,_,ts⟩,[.aI id,k]=>(match ts.toList,ae st.hp id with
   |t::_,some (.aI ks _)=> .int .i8 (uu (zz P t k ks))
   |_,_=>jS 17)
 | .call ⟨.builtin .append,_,ts⟩,[x,y]=>(match ts.toList with
   |t::_=>Om P t st.hp (b8 x) (b8 y) fun p p'=> .int .i8 (Ok p p')
   |_=>jS 19)
 | .next _ true,[.aA id 0 0]=>(match ae st.hp id with
   |some (.iw (.stringIter s p))=> .int .i8 (Ol s p)
   |_=>jS 18)
 |op,vs=>CQ ((cQ P d op vs [.is true]).bL (ae st.hp)) fun p=>CQ ((cQ P d op vs [.is false]).bL (ae st.hp)) fun p'=> .int .i8 (Ok p p')
def UH (P:Program) (op:Op) (vs:List AV) (h:List (Nat×Ob)) (sc:List cv) (cs:List iy) (ps:List Prop) (k:List Prop→Value):Value:=
 match op,vs,sc with
 | .call ⟨.builtin .append,_,ts⟩,[x,y],.is v::_=>(match ts.toList with
   |t::_=>Om P t h (b8 x) (b8 y) fun p q=>bif v then k (p::ps) else k (q::ps)
   |_=>jS 47)
 | .makeSlice t _ _,[.aP _ n,.aP _ c],_=>(match vZ P t with
   |some i=>fN i.bytes fun bt=>k ((n=c∧0≤n∧n*(bt:Nat)≤140737488355328∧n≤9223372036854775807)::ps)
   |none=>jS 48)
 | .slice t _ (some _) none none,[.aF es _,.aP _ l],_=>(match vZ P t with
   |some i=>fN i.size fun sz=>k ((0≤l∧l≤es.length∧∀e,e∈es→e.ac.length=sz)::ps)
   |none=>fC cs ps k)
 | .slice t _ (some _) (some _) none,[.aF es _,.aP _ l,.aP _ u],_=>(match vZ P t with
   |some i=>fN i.size fun sz=>k ((0≤l∧l≤u∧u≤es.length∧∀e,e∈es→e.ac.length=sz)::ps)
   |none=>fC cs ps k)
 | .call ⟨.builtin .copy,_,ts⟩,[.aw id off len,y],_=>(match ts.toList,ae h id with
   |t::_,some (.aw _ es)=>(match vZ P t with
    |some i=>fN i.size fun sz=>I' h (b8 y) fun ys q=>k ((q∧ys.length≤len∧off+len≤es.length∧(∀e,e∈ys→c8 sz e)∧ys≠[])::ps)
    |none=>jS 49)
   |_,_=>jS 49)
 |_,_,_=>fC cs ps k
def fU (P:Program) (q:Bool) (op:Op) (vs:List AV) (u:List (Nat×Ob)) (k:List (Nat×Ob)→Value):Value:=match op,u with
 | .makeSlice t _ _,[(i,.aw sz es)]=>(match P.underlying t,vs with
   |some (.slice e),.aP _ n::_=>(match dw P e with
    |some z=>fA q z fun z=>fN i fun i=>fN sz fun sz=>k [(i,.aw sz (List.replicate n.toNat z))]
    |none=>jS 60)
   |_,_=>jS 61)
 | .buildSlice _ _ _,[(i,.aw sz es)]=>fN i fun i=>fN sz fun sz=>fL q es fun es=>k [(i,.aw sz es)]
 |_,u=>fH q u k
def KJ (q:Bool) (P:Program) (b:Nat) (ops:Array Oper):List Oper→List cv→St→List Prop→(St→List Prop→Value)→Value
 |[],[],st,ps,k=>k st ps
 |[],_::_,_,_,_=>jS 20
 |o::r,sc,st,ps,k=>match mT ops o st.dA with
  |some true=>fL q (o.op.operands.toList.map (a7 st.dA)) fun vs=>
   bif Oq o.op&&sc.isEmpty then fN (b+o.dst.getD 0) fun d=>I7 q P d o.op vs st else
   match (cQ P (b+o.dst.getD 0) o.op vs sc).bL (ae st.hp) with
   |some (⟨v,upd,_,cs,sc'⟩,_)=>fA q v fun v=>fU P q o.op vs upd fun upd=>UH P o.op vs st.hp sc cs ps fun ps=>KJ q P b ops r sc' ⟨mO st.dA o.dst v,bc st.hp upd⟩ ps k
   |none=>match sc with
    |[]=>fN (b+o.dst.getD 0) fun d=>I7 q P d o.op vs st
    |_=>jS 21
  |some false=>KJ q P b ops r sc ⟨mO st.dA o.dst (.bC []),st.hp⟩ ps k
  |none=>jS 22
def m6:Code→Nat
 | .region _ ops _=>(ops.toList.findSome? fun o=>o.dst).getD 0
 | .seq a b=>match m6 a with
   |0=>m6 b
   |m=>m
 | .cond _ a b=>match m6 a with
   |0=>m6 b
   |m=>m
 | .block _ a=>m6 a
 | .loop a=>m6 a
 | .scope a=>m6 a
 |_=>0
def CP (m:Nat):List Code→Nat→Nat
 |[],k=>k
 |c::r,k=>bif Nat.beq (m6 c) m then k else CP m r (k+1)
def fK:List KF→(List KF→Value)→Value
 |[],k=>k []
 |x::r,k=>fK r fun r=>k (x::r)
def cN (P:Program) (q:Bool) (b:Nat) (f:Func) (r:Code) (K:List KF) (e:cw) (st:St) (d:List cv):Value:=
 match rQ r st.dA 1000 K e with
 |some ([],e)=> .int .i8 (KA e)
 |some (.c π::K',_)=>(match sub r π with
  | .region _ ops _=>KJ q P b ops ops.toList d st [] fun st ps=>fS q st fun st=>fP ps.reverse fun ps=>fK K' fun K'=> .int .i8 (I5 K' st ps)
  | .loop body=>fN (CP (m6 body) (gk (ai f)) 0) fun k=>fK K' fun K'=> .int .i8 (zu π K' k)
  |_=>jS 1)
 |_=>jS 2
def KD:AV→AV→List (Nat×Option Nat)
 | .aw i _ _,.aw j _ _=>[(i,some j)]
 | .aw i _ _,.aO j _=>[(i,some j)]
 | .aO i _,.aO j _=>[(i,some j)]
 | .aA i _ _,.aA j _ _=>[(i,some j)]
 | .aI i,.aI j=>[(i,some j)]
 | .aw i _ _,_=>[(i,none)]
 | .aO i _,_=>[(i,none)]
 | .aA i _ _,_=>[(i,none)]
 | .aI i,_=>[(i,none)]
 | .al cs,.al ds=>(cs.zip ds).flatMap fun x=>match x with
   |(.aw i _ _,.aw j _ _)=>[(i,some j)]
   |(.aO i _,.aO j _)=>[(i,some j)]
   |(.aw i _ _,_)=>[(i,none)]
   |(.aO i _,_)=>[(i,none)]
   |(.aA i _ _,.aA j _ _)=>[(i,some j)]
   |(.aI i,.aI j)=>[(i,some j)]
   |_=>[]
 |_,_=>[]
def Oo:AV→Bool
 | .aw _ _ _=>false
 | .aA _ _ _=>false
 | .aI _=>false
 | .aO _ _=>false
 | .bZ _ a _=>a.isEmpty
 | .al cs=>cs.all fun
   | .aw _ _ _=>false
   | .aA _ _ _=>false
   | .aI _=>false
   | .aO _ _=>false
   |_=>true
 |_=>true
def On:Ob→Bool
 | .an cs=>cs.all Oo
 |_=>true
def x6 (l:List (Nat×Option Nat)) (acc:List (Nat×Option Nat)):List (Nat×Option Nat):=l.foldl (fun acc x=>bif acc.any (fun y=>Nat.beq y.1 x.1) then acc else acc++[x]) acc
def UG:Option Ob→Option Ob→List (Nat×Option Nat)
 |some (.an cs),some (.an ds)=>(cs.zip ds).flatMap fun x=>KD x.1 x.2
 |some (.an cs),_=>cs.flatMap fun x=>KD x .aB
 |_,_=>[]
def qw (h g:List (Nat×Ob)):Nat→List (Nat×Option Nat)→List (Nat×Option Nat)
 |0,l=>l
 |f+1,l=>qw h g f (x6 (l.flatMap fun x=>UG (ae h x.1) (match x.2 with
  |some j=>ae g j
  |none=>none)) l)
def FB (s t:St) (i:Nat):Option (List AV×List AV):=t.dA.findSome? fun x=>match ci s.dA x.1,x.2 with
 | .aw j _ _,.aQ es xs=>bif Nat.beq j i then some (es,xs) else none
 |_,_=>none
def Or (s t:St):List (Nat×Rk):=
 let e:=x6 (t.dA.flatMap fun x=>KD (ci s.dA x.1) x.2) []
 let l:=qw s.hp t.hp 3 e
 let l:=x6 (t.hp.filterMap fun x=>bif l.any (fun y=>match y.2 with
  |some j=>Nat.beq j x.1
  |none=>false) then none else (ae s.hp x.1).map fun _=>(x.1,some x.1)) l
 let l:=qw s.hp t.hp 3 l
 let one:=fun (x:Nat×Option Nat)=>match x.2,ae s.hp x.1 with
  |some j,some o=>(x.1,Rk.a6 j (On o))
  |_,_=>(x.1,Rk.eX (FB s t x.1))
 (t.hp.flatMap fun y=>(l.filter fun x=>match x.2 with
  |some j=>Nat.beq j y.1
  |none=>false).map one)++(l.filter fun x=>x.2.isNone).map one
theorem v6 {n:Nat} {env:List (Nat×AV)} {hp:List (Nat×Ob)} (id k lid sz:Nat) {cs:List AV} (ho:ae hp id=some (.an cs)) (hk:cs[k]? =some .ab) (hl:ae hp lid=none):
  Le n ⟨env,hp⟩ ⟨env,ba (ba hp id (.an (cs.set k (.aO lid 0)))) lid (.ao sz [])⟩:=by
 have hne:id≠lid:=by rintro rfl;rw [ho] at hl;cases hl
 refine (vX (n:=n) (st:=⟨env,hp⟩) id (cs:=cs) (ds:=cs.set k (.aO lid 0)) ho (by simp) (fun j x y h1 h2=> ?_) (fun j s es h=> ?_)).ck ?_
 ·rw [List.getElem?_set] at h2
  by_cases e:k=j
  ·subst e
   rw [hk] at h1;injection h1 with h1;subst h1
   rw [if_pos rfl,if_pos (List.getElem?_eq_some_iff.1 hk).1] at h2
   injection h2 with h2;subst h2
   exact .ft lid
  ·rw [if_neg e,h1] at h2;injection h2 with h2;subst h2;exact .bb _
 ·rw [List.getElem?_set] at h
  by_cases e:k=j
  ·subst e
   rw [if_pos rfl,if_pos (List.getElem?_eq_some_iff.1 hk).1] at h;cases h
  ·rw [if_neg e] at h;exact h
 ·rintro F a w ⟨S,β,E,M⟩
  exact ⟨S,β,E,M.Cc (by rw [aq,if_neg hne];exact hl) (.inl rfl) (fun _ _ _ h=>by cases h)⟩
def zw (x:Nat×Nat×Nat) (s:St):St:=match ci s.dA x.1,ae s.hp x.2.1 with
 | .ab,none=>⟨ba s.dA x.1 (.aO x.2.1 0),ba s.hp x.2.1 (.ao x.2.2 [])⟩
 |_,_=>s
def zy (x:Nat×Nat×Nat×Nat) (s:St):St:=match ae s.hp x.1,ae s.hp x.2.2.1 with
 |some (.an cs),none=>(match cs[x.2.1]? with
  |some .ab=>⟨s.dA,ba (ba s.hp x.1 (.an (cs.set x.2.1 (.aO x.2.2.1 0)))) x.2.2.1 (.ao x.2.2.2 [])⟩
  |_=>s)
 |_,_=>s
theorem Fy {n m:Nat} {env:List (Nat×AV)} {hp:List (Nat×Ob)} (slot id sz:Nat) (es:List AV) (hs:ci env slot= .aw id 0 m) (hm:m≠0) (hi:ae hp id=some (.aw sz es)):
  Le n ⟨env,hp⟩ ⟨ba env slot (.aO id m),ba hp id (.ao sz es)⟩:=by
 rintro F a w ⟨S,β,E,M⟩
 refine ⟨S,β,⟨E.1,E.2.1,fun t=> ?_⟩,M.nN hi (by simp) (.inr (M.dg id _ hi)) (fun _ _ _ h=>by cases h)⟩
 have h:=E.2.2 t
 unfold ci at h hs⊢
 rw [aq]
 by_cases e:slot=t
 ·subst e
  rw [if_pos rfl]
  rw [hs] at h
  exact V.qd h hm
 ·rw [if_neg e];exact h
def FA (slot:Nat) (s:St):St:=match ci s.dA slot with
 | .aw id 0 n=>(match ae s.hp id with
   |some (.aw sz es)=>(match n with
    |0=>s
    |k+1=>⟨ba s.dA slot (.aO id (k+1)),ba s.hp id (.ao sz es)⟩)
   |_=>s)
 |_=>s
def Fz (x:Nat×Nat×Nat) (s:St):St:=match ae s.hp x.1 with
 |some (.an cs)=>(match cs[x.2.1]? with
  |some .ab=>⟨s.dA,ba s.hp x.1 ((Ob.an cs).n4 x.2.1 (.aX x.2.2 []))⟩
  |_=>s)
 |_=>s
def uv (s t:St):St:=
 let a:=t.dA.filterMap fun x=>match x.2 with
  | .aO id _=>(match ae t.hp id with
    |some (.ao sz _)=>some (x.1,id,sz)
    |_=>none)
  |_=>none
 let b:=t.hp.flatMap fun x=>match x.2 with
  | .an ds=>ds.zipIdx.filterMap fun y=>(match y.1 with
    | .aO id _=>(match ae t.hp id with
      |some (.ao sz _)=>some (x.1,y.2,id,sz)
      |_=>none)
    |_=>none)
  |_=>[]
 let c:=t.hp.flatMap fun x=>match x.2 with
  | .an ds=>ds.zipIdx.filterMap fun y=>(match y.1 with
    | .aX sz _=>some (x.1,y.2,sz)
    |_=>none)
  |_=>[]
 c.foldl (fun s x=>Fz x s) (b.foldl (fun s x=>zy x s) (a.foldl (fun s x=>FA x.1 (zw x s)) s))
theorem th {n:Nat} (s t:St):Le n s (uv s t):=by
 have h1:∀x (s:St),Le n s (zw x s):=fun x s=>by
  unfold zw
  split
  ·rename_i h1 h2;exact b5 x.1 x.2.1 x.2.2 h1 h2
  ·exact Le.bb _
 have h2:∀x (s:St),Le n s (zy x s):=fun x s=>by
  unfold zy
  split
  ·rename_i cs h1 h2
   split
   ·rename_i h3;exact v6 x.1 x.2.1 x.2.2.1 x.2.2.2 h1 h3 h2
   ·exact Le.bb _
  ·exact Le.bb _
 have h3:∀x (s:St),Le n s (FA x s):=fun x s=>by
  unfold FA
  split
  ·rename_i id m hs
   split
   ·rename_i sz es hi
    split
    ·exact Le.bb _
    ·exact Fy x id sz es hs (by simp) hi
   ·exact Le.bb _
  ·exact Le.bb _
 have f1:∀(l:List (Nat×Nat×Nat)) (s:St),Le n s (l.foldl (fun s x=>FA x.1 (zw x s)) s):=by
  intro l;induction l with
  |nil=>intro s;exact Le.bb _
  |cons x l ih=>intro s;exact ((h1 x s).ck (h3 _ _)).ck (ih _)
 have f2:∀(l:List (Nat×Nat×Nat×Nat)) (s:St),Le n s (l.foldl (fun s x=>zy x s) s):=by
  intro l;induction l with
  |nil=>intro s;exact Le.bb _
  |cons x l ih=>intro s;exact (h2 x s).ck (ih _)
 have h4:∀x (s:St),Le n s (Fz x s):=fun x s=>by
  unfold Fz
  split
  ·rename_i cs h1
   split
   ·rename_i h2;exact eC x.1 x.2.1 x.2.2 h1 h2
   ·exact Le.bb _
  ·exact Le.bb _
 have f3:∀(l:List (Nat×Nat×Nat)) (s:St),Le n s (l.foldl (fun s x=>Fz x s) s):=by
  intro l;induction l with
  |nil=>intro s;exact Le.bb _
  |cons x l ih=>intro s;exact (h4 x s).ck (ih _)
 exact ((f1 _ s).ck (f2 _ _)).ck (f3 _ _)
def I9 (s t:St):Option (St×List Prop):=iG (t.dA.map Prod.fst) (Or (uv s t) t) (uv s t)
def uw (q:Bool) (s t:St):Value:=match I9 s t with
 |some (u,ps)=>fS q u fun u=>fP ps fun ps=> .int .i8 (AZ u ps)
 |none=>jS 30
def hT:TypeInfo:={(default:TypeInfo) with desc:= .bool,methods:= #[{(default:Method) with name:= "",path:= #[],func:=some (0,false)}]}
def hP:Program:={(default:Program) with types:= #[hT]}
def G (P:Program) (n:Nat) (q:Bool) (b:Nat) (f:Func) (r:Code) (Q:cw→St→Prop) (K:List KF) (e:cw) (st:St) (d:List cv) (h:Result (FuncId×Value)):Prop:=EK P n r Q K e st
def GC (s t:St) (n:Nat) (h:Result (FuncId×Value)):Prop:=Le n s t
def done (P:Program) (n b:Nat) (r:Code) (K:List KF) (e:cw) (st:St) (d:List cv):Option (List KF×St×List Prop):=
 match rQ r st.dA 1000 K e with
 |some (.c π::K',.aj)=>match sub r π with
  | .region _ ops draw=>match mQ P n b ops draw d st with
    |some (st',cs,[])=>some (K',st',cs.map iy.p)
    |_=>none
  |_=>none
 |_=>none
def CO (r:Code) (K:List KF) (e:cw) (st:St):Option (List KF×Code):=
 match rQ r st.dA 1000 K e with
 |some (.c π::K',.aj)=>match sub r π with
  | .loop body=>some (K',body)
  |_=>none
 |_=>none
section
variable {n b:Nat} {q:Bool} {f:Func} {r:Code} {Q:cw→St→Prop} {K K':List KF} {e:cw} {st st':St} {d:List cv} {m:Nat} {w:World}
theorem g_t {p p':Prop} (h:p) (k:G Proofs.Tryz.prog n q b f r Q K e st (d++[.is true]) (Sem.run hP (Go.method 1 0 (cN Proofs.Tryz.prog q b f r K e st (d++[.is true])) "") default)):G Proofs.Tryz.prog n q b f r Q K e st d (.ok (m,.int .i8 (Ok p p')) w):=k
theorem g_f {p p':Prop} (h:p') (k:G Proofs.Tryz.prog n q b f r Q K e st (d++[.is false]) (Sem.run hP (Go.method 1 0 (cN Proofs.Tryz.prog q b f r K e st (d++[.is false])) "") default)):G Proofs.Tryz.prog n q b f r Q K e st d (.ok (m,.int .i8 (Ok p p')) w):=k
theorem g_b {v:Bool} (k:v=true→G Proofs.Tryz.prog n q b f r Q K e st (d++[.is true]) (Sem.run hP (Go.method 1 0 (cN Proofs.Tryz.prog q b f r K e st (d++[.is true])) "") default)) (k':v=false→G Proofs.Tryz.prog n q b f r Q K e st (d++[.is false]) (Sem.run hP (Go.method 1 0 (cN Proofs.Tryz.prog q b f r K e st (d++[.is false])) "") default)):G Proofs.Tryz.prog n q b f r Q K e st d (.ok (m,.int .i8 (Ok (v=true) (v=false))) w):=
 (Bool.eq_false_or_eq_true v).elim k k'
theorem g_e {es:List AV} {i:Nat} {F:AV→Prop} {x:AV} (h:F x) (k:G Proofs.Tryz.prog n q b f r Q K e st (d++[.aA x]) (Sem.run hP (Go.method 1 0 (cN Proofs.Tryz.prog q b f r K e st (d++[.aA x])) "") default)):G Proofs.Tryz.prog n q b f r Q K e st d (.ok (m,.int .i8 (CN es i F)) w):=k
theorem aa9 {X:Type} {g:X→AV} {l:List X} {N:Int} {i:Nat} (h0:0≤N) (hi:N.toNat=i) (h:i<l.length) (k:∀x,l[i]? =some x→(0≤N∧(l.map g)[N.toNat]? =some (g x))→G Proofs.Tryz.prog n q b f r Q K e st (d++[.aA (g x)]) (Sem.run hP (Go.method 1 0 (cN Proofs.Tryz.prog q b f r K e st (d++[.aA (g x)])) "") default)):G Proofs.Tryz.prog n q b f r Q K e st d (.ok (m,.int .i8 (CN (l.map g) N.toNat fun e=>0≤N∧(l.map g)[N.toNat]? =some e)) w):=by
 have hx:l[i]? =some l[i]:=List.getElem?_eq_getElem h
 exact k _ hx ⟨h0,by rw [hi,List.getElem?_map,hx];rfl⟩
theorem aa' {X:Type} {g:X→AV} {l:List X} {j i:Nat} (hi:j=i) (h:i<l.length) (k:∀x,l[i]? =some x→(l.map g)[j]? =some (g x)→G Proofs.Tryz.prog n q b f r Q K e st (d++[.aA (g x)]) (Sem.run hP (Go.method 1 0 (cN Proofs.Tryz.prog q b f r K e st (d++[.aA (g x)])) "") default)):G Proofs.Tryz.prog n q b f r Q K e st d (.ok (m,.int .i8 (CN (l.map g) j fun e=>(l.map g)[j]? =some e)) w):=by
 have hx:l[i]? =some l[i]:=List.getElem?_eq_getElem h
 exact k _ hx (by rw [hi,List.getElem?_map,hx];rfl)
theorem g_c {g:FuncId} {vs:List AV} {H:List (Nat×Ob)} {pre upd:List (Nat×Ob)} {x:AV} (h:bK Proofs.Tryz.prog g vs pre x upd) (k:bK Proofs.Tryz.prog g vs pre x upd→G Proofs.Tryz.prog n q b f r Q K e st (d++[.dO x (pre.map Prod.fst) upd]) (Sem.run hP (Go.method 1 0 (cN Proofs.Tryz.prog q b f r K e st (d++[.dO x (pre.map Prod.fst) upd])) "") default)):G Proofs.Tryz.prog n q b f r Q K e st d (.ok (m,.int .i8 (mZ g vs H)) w):=k h
theorem aa8 {g:FuncId} {vs:List AV} {H:List (Nat×Ob)} {pre upd:List (Nat×Ob)} {v:Bool} (h:bK Proofs.Tryz.prog g vs pre (.ak v) upd) (k:v=true→bK Proofs.Tryz.prog g vs pre (.ak true) upd→G Proofs.Tryz.prog n q b f r Q K e st (d++[.dO (.ak true) (pre.map Prod.fst) upd]) (Sem.run hP (Go.method 1 0 (cN Proofs.Tryz.prog q b f r K e st (d++[.dO (.ak true) (pre.map Prod.fst) upd])) "") default)) (k':v=false→bK Proofs.Tryz.prog g vs pre (.ak false) upd→G Proofs.Tryz.prog n q b f r Q K e st (d++[.dO (.ak false) (pre.map Prod.fst) upd]) (Sem.run hP (Go.method 1 0 (cN Proofs.Tryz.prog q b f r K e st (d++[.dO (.ak false) (pre.map Prod.fst) upd])) "") default)):G Proofs.Tryz.prog n q b f r Q K e st d (.ok (m,.int .i8 (mZ g vs H)) w):=by
 cases v with
 |true=>exact k rfl h
 |false=>exact k' rfl h
theorem UF {ps:List Prop} (h:done Proofs.Tryz.prog n b r K e st d=some (K',st',ps)) (hc:cA ps) (k:G Proofs.Tryz.prog n q b f r Q K' .aj st' [] (Sem.run hP (Go.method 1 0 (cN Proofs.Tryz.prog q b f r K' .aj st' []) "") default)):G Proofs.Tryz.prog n q b f r Q K e st d (.ok (m,.int .i8 (I5 K' st' ps)) w):=by
 unfold done at h
 split at h
 ·rename_i π K1 hctl
  split at h
  ·rename_i id ops draw hs
   split at h
   ·rename_i s1 cs hr
    injection h with h;simp only [Prod.mk.injEq] at h;obtain ⟨rfl,rfl,rfl⟩:=h
    refine bX (hp:=st.hp) hctl ⟨.aj,s1,?_,k⟩
    rw [hs]
    exact fun F a w hA=>mR qo hr (fun c hc'=>dJ hc _ (List.mem_map.2 ⟨c,hc',rfl⟩)) (fun a w h=>⟨rfl,h⟩) hA
   ·cases h
  ·cases h
 ·cases h
theorem g_l {k:Nat} {π:List Nat} {s1 s2:St} {e2:cw} (h:bJ Proofs.Tryz.prog n (O f k) s1 e2 s2) (hk:CO r K e st=some (K',O f k)) (hr:GC st s1 n (Sem.run hP (Go.method 1 0 (uw q st s1) "") default)) (g:G Proofs.Tryz.prog n q b f r Q K' e2 s2 [] (Sem.run hP (Go.method 1 0 (cN Proofs.Tryz.prog q b f r K' e2 s2 []) "") default)):G Proofs.Tryz.prog n q b f r Q K e st d (.ok (m,.int .i8 (zu π K' k)) w):=by
 unfold CO at hk
 split at hk
 ·rename_i π K1 hctl
  split at hk
  ·rename_i body hs
   injection hk with hk;simp only [Prod.mk.injEq] at hk;obtain ⟨rfl,rfl⟩:=hk
   refine bX (hp:=st.hp) hctl ⟨e2,s2,?_,g⟩
   rw [hs]
   exact (bJ.Fp h).ez hr
  ·cases hk
 ·cases hk
theorem g_n {e':cw} {s2:St} (h:rQ r st.dA 1000 K e=some ([],e')) (hq:Q e' s2) (hr:GC st s2 n (Sem.run hP (Go.method 1 0 (uw q st s2) "") default)):G Proofs.Tryz.prog n q b f r Q K e st d (.ok (m,.int .i8 (KA e')) w):=
 bX (hp:=st.hp) h ⟨s2,hr,hq⟩
theorem UE {s t u:St} {ps:List Prop} (h:I9 s t=some (u,ps)) (he:u=t) (hc:cA ps):GC s t n (.ok (m,.int .i8 (AZ u ps)) w):=by
 subst he
 exact (th s u).ck (er h (dJ hc))
theorem aa7 {s:ByteArray} {N:Int} {i:Nat} (h0:0≤N) (hi:N.toNat=i) (h:i<s.size) (k:∀c:UInt8,s.data.toList[i]? =some c→(0≤N∧∃b:UInt8,s.data.toList[N.toNat]? =some b∧(c.toNat:Int)=b.toNat)→G Proofs.Tryz.prog n q b f r Q K e st (d++[.aA (.aP .u8 c.toNat)]) (Sem.run hP (Go.method 1 0 (cN Proofs.Tryz.prog q b f r K e st (d++[.aA (.aP .u8 c.toNat)])) "") default)):G Proofs.Tryz.prog n q b f r Q K e st d (.ok (m,.int .i8 (I4 s N)) w):=by
 have hl:i<s.data.toList.length:=by simpa using h
 have hx:s.data.toList[i]? =some s.data.toList[i]:=List.getElem?_eq_getElem hl
 exact k _ hx ⟨h0,_,by rw [hi];exact hx,rfl⟩
theorem aba {x:AV} {z:Option (Option Nat)} {vs:List AV} (h:∃j,z=some (some j)∧vs[j]? =some x) (k:G Proofs.Tryz.prog n q b f r Q K e st (d++[.aA x]) (Sem.run hP (Go.method 1 0 (cN Proofs.Tryz.prog q b f r K e st (d++[.aA x])) "") default)):G Proofs.Tryz.prog n q b f r Q K e st d (.ok (m,.int .i8 (vY z vs)) w):=k
theorem abb {z:Option (Option Nat)} {vs:List AV} (h:z=some none) (k:G Proofs.Tryz.prog n q b f r Q K e st (d++[.is false]) (Sem.run hP (Go.method 1 0 (cN Proofs.Tryz.prog q b f r K e st (d++[.is false])) "") default)):G Proofs.Tryz.prog n q b f r Q K e st d (.ok (m,.int .i8 (vY z vs)) w):=k
theorem abf {z:Option (Option Nat)} (h:z=some none) (k:G Proofs.Tryz.prog n q b f r Q K e st (d++[.is false]) (Sem.run hP (Go.method 1 0 (cN Proofs.Tryz.prog q b f r K e st (d++[.is false])) "") default)):G Proofs.Tryz.prog n q b f r Q K e st d (.ok (m,.int .i8 (uu z)) w):=k
theorem abe {z:Option (Option Nat)} {i:Nat} (h:z=some (some i)) (k:G Proofs.Tryz.prog n q b f r Q K e st (d++[.aA (.aP .i64 (i:Nat))]) (Sem.run hP (Go.method 1 0 (cN Proofs.Tryz.prog q b f r K e st (d++[.aA (.aP .i64 (i:Nat))])) "") default)):G Proofs.Tryz.prog n q b f r Q K e st d (.ok (m,.int .i8 (uu z)) w):=k
def QS (sl:cw→List Nat) (tb:cw→List (Nat×Rk)) (Q:cw→St→Prop) (e:cw) (s:St):Prop:=∃u ps,iG (sl e) (tb e) s=some (u,ps)∧cA ps∧Q e u
def GD (Q:cw→St→Prop) (e:cw) (sl:List Nat) (tb:List (Nat×Rk)) (s:St) (h:Result (FuncId×Value)):Prop:=∃u ps,iG sl tb s=some (u,ps)∧cA ps∧Q e u
def KH (q:Bool) (sl:List Nat) (tb:List (Nat×Rk)) (s:St):Value:=match iG sl tb s with
 |some (u,ps)=>fS q u fun u=>fP ps fun ps=> .int .i8 (AZ u ps)
 |none=>jS 31
theorem g_m {sl:cw→List Nat} {tb:cw→List (Nat×Rk)} {e':cw} (h:rQ r st.dA 1000 K e=some ([],e')) (hr:GD Q e' (sl e') (tb e') st (Sem.run hP (Go.method 1 0 (KH q (sl e') (tb e') st) "") default)):G Proofs.Tryz.prog n q b f r (QS sl tb Q) K e st d (.ok (m,.int .i8 (KA e')) w):=
 bX (hp:=st.hp) h ⟨st,Le.bb _,hr⟩
theorem d_d {sl:List Nat} {tb:List (Nat×Rk)} {s u:St} {ps:List Prop} (h:iG sl tb s=some (u,ps)) (hq:Q e u) (hc:cA ps):GD Q e sl tb s (.ok (m,.int .i8 (AZ u ps)) w):=⟨u,ps,h,hc,hq⟩
def GI (P:Program) (n:Nat) (q:Bool) (b:Nat) (f:Func) (r:Code) (Q:cw→St→Prop) (K:List KF) (e:cw) (st:St) (d:List cv) (g:FuncId) (vs:List AV) (h:Result (FuncId×Value)):Prop:=EK P n r Q K e st
def fI (h:List (Nat×Ob)):List Nat→(List (Nat×Ob)→Value)→Value
 |[],k=>k []
 |i::r,k=>match ae h i with
  |some o=>fI h r fun l=>k ((i,o)::l)
  |none=>jS 50
def KG (ids:List Nat) (h:List (Nat×Ob)):Value:=fI h ids fun l=> .int .i8 (KB l)
def I8 {α:Type} (x y:α):cw→α
 | .aj=>x
 |_=>y
end
end
end Go.Ped
