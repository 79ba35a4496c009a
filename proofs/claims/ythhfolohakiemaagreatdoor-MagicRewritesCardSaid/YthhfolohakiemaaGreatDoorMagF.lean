/- The reckoning of a region of code, of calls and of loops is right, and the shared contracts follow from it. -/
import Derived.ControlIn
import Derived.Scope
import Derived.AtR
import Derived.KernelRfl
import Derived.Below
import Derived.Shelf.SlIter.Sorted
import Derived.Shelf.SlIter.Nil
import Derived.Shelf.SortM.Plain
import Derived.Shelf.SortM.SortNone
import Derived.Test.YthhfolohakiemaaGreatDoorProg
import Derived.Shelf.Strconv.Itoa3
import Derived.Test.YthhfolohakiemaaGreatDoorMagE
set_option linter.all false
namespace Go.Ped
open Go.RowKit
section
def gX (pre:List (Nat×Ob)):List (Nat×Rn):=pre.map fun x=>(x.1,.a6 x.1)
theorem eN:∀{pre:List (Nat×Ob)} {id:Nat} {x:Rn},ae (gX pre) id=some x→x= .a6 id∧∃o,ae pre id=some o
 |[],id,x,h=>by cases h
 |(i,o)::r,id,x,h=>by
  simp only [gX,List.map_cons,ae] at h
  simp only [ae]
  by_cases e:i=id
  ·simp_all
  ·rw [if_neg e] at h⊢;exact eN (pre:=r) h
mutual
theorem ul (pre:List (Nat×Ob)):∀(x:AV),el (gX pre) x=[]
 | .al cs=>eO pre cs
 | .bC cs=>eO pre cs
 | .bZ f a b=>by simp only [el];rw [eO pre a,eO pre b];rfl
 | .bu t v=>ul pre v
 | .aw id off len=>by
   simp only [el]
   cases h:ae (gX pre) id with
   |none=>rfl
   |some x=>obtain ⟨e,_⟩:=eN h;grind
 | .aO id len=>by
   simp only [el]
   cases h:ae (gX pre) id with
   |none=>rfl
   |some x=>obtain ⟨e,_⟩:=eN h;grind
 | .aA _ _ _=>rfl
 | .aI _=>rfl
 | .aP _ _=>rfl
 | .ak _=>rfl
 | .J _=>rfl
 | .aF _ _=>rfl
 | .aE _=>rfl
 | .eK=>rfl
 | .bH _ _=>rfl
 | .bh=>rfl
 | .ab=>rfl
 | .eU=>rfl
 | .eV=>rfl
 | .aX _ _=>rfl
 | .aQ _ _=>rfl
 | .mB=>rfl
 | .aB=>rfl
theorem eO (pre:List (Nat×Ob)):∀(l:List AV),cu (gX pre) l=[]
 |[]=>rfl
 |x::r=>by simp only [cu];rw [ul pre x,eO pre r];rfl
end
theorem Kv (pre:List (Nat×Ob)) (o:Ob):zg (gX pre) o=[]:=by
 cases o with
 |an cs=>exact eO pre cs
 |aw sz es=>exact eO pre es
 |ao sz es=>exact eO pre es
 |iw o=>rfl
 |aI ks vs=>simp[zg,eO]
 |aB=>rfl
def cM:List (Nat×Ob)→Bool
 |[]=>true
 |(i,_)::r=>r.all (fun x=> !Nat.beq x.1 i)&&cM r
theorem eB:∀{upd:List (Nat×Ob)},cM upd=true→∀(hp:List (Nat×Ob)) (k:Nat),ae (bc hp upd) k=match ae upd k with
  |some o=>some o
  |none=>ae hp k
 |[],_,hp,k=>rfl
 |(i,o)::r,h,hp,k=>by
  simp only [cM,Bool.and_eq_true] at h
  show ae (bc (ba hp i o) r) k=_
  rw [eB h.2,aq]
  simp only [ae]
  by_cases e:i=k
  ·subst e
   have:ae r i=none:=by
    cases hl:ae r i with
    |none=>rfl
    |some y=>
     obtain ⟨z,hz⟩:=qi hl
     have:=List.all_eq_true.1 h.1 _ hz
     simp_all
   grind
  grind
def I1 (P:Program) (n:Nat) (ks:List Nat) (c:Code) (st:St) (e:cw) (st':St):Prop:=
 ∀(F:Fr) (a:Act) (w:World),(∀i b,F.β0 i=some b→i∈ks)→At F n st a w→c.wpIn (FW F.r) F.m P (fun e' a' w'=>e'=e.x∧At F n st' a' w') a w
theorem cf.k {P:Program} {n:Nat} {ks:List Nat} {c:Code} {st st':St} {e:cw} (h:cf P n c st e st'):I1 P n ks c st e st':=fun F a w _ hA=>h F a w hA
def kn (pre:List (Nat×Ob)):Bool:=pre.all fun x=>Nat.ble given x.1&& !eM x.2
section
variable {P:Program} {F:Fr} {S:df} {β:bn} {hp:List (Nat×Ob)} {w:World}
theorem cL {α:Type}:∀{l:List (Nat×α)} {k:Nat} {x:α},ae l k=some x→(k,x)∈l
 |(i,y)::r,k,x,h=>by
  simp only [ae] at h
  by_cases e:i=k
  ·grind
  ·rw [if_neg e] at h;exact List.mem_cons_of_mem _ (cL h)
theorem bK.N9 {f:FuncId} {fn:Func} {c:Code} {args:List AV} {pre:List (Nat×Ob)} {st':St} {e:cw} {r:AV} (hf:P.funcs[f]? =some fn) (hb:fn.body=some c)
  (hpre:kn pre=true) (huq:cM st'.hp=true) (hargs:bW (gX pre) args=args) (hobs:∀id o,(id,o)∈pre→bg (gX pre) o=o)
  (hrun:∀(F:Fr) (a:Act) (w:World),(∀i b,F.β0 i=some b→i∈pre.map (·.1))→(pre=[]→(∀b,¬F.M b)∧F.β0=fo)→At F (args.length+(fn.ntmps-args.length)) ⟨bO 0 args,pre⟩ a w→c.wpIn (FW F.r) F.m P (fun e' a' w'=>e'=e.x∧At F (args.length+(fn.ntmps-args.length)) st' a' w') a w) (he:e= .aj∨e= .aR) (hr:gW P st' fn.results.toList=some r):bK P f args pre r st'.hp:=by
 intro F S β hp w vs M hl hv hpl hfr
 have pg:∀{i:Nat} {o:Ob},ae pre i=some o→given≤i∧o≠ .aB∧ae hp i=some o:=by
  intro i o h
  have hm:=cL h
  have:=List.all_eq_true.1 hpre _ hm
  simp only [Bool.and_eq_true,Nat.ble_eq] at this
  refine ⟨this.1,?_,hpl i o hm⟩
  rintro rfl
  grind[eM]
 let β1:bn:=fun i=>match ae pre i with
  |some _=>β i
  |none=>none
 have b1:∀{i:Nat} {o:Ob},ae pre i=some o→β1 i=β i:=by
  grind
 have b1s:∀{i:Nat} {b:Bl},β1 i=some b→(∃o,ae pre i=some o)∧β i=some b:=by
  grind
 let HB:Nat→Prop:=fun b=>∃id j sz es n c,cz β1 pre w id j sz es (.slice (some ⟨b,0,none⟩) n c)
 have up:∀{id j sz:Nat} {es:List AV} {v:Value},cz β1 pre w id j sz es v→cz β hp w id j sz es v∧∃o,ae pre id=some o:=by
  rintro id j sz es v ⟨o,bi,a1,a2,a3,a4⟩
  exact ⟨⟨o,bi,(pg a1).2.2,(b1s a2).2,a3,a4⟩,o,a1⟩
 have hbB:∀{b:Nat},HB b→jT F S β hp w b:=by
  rintro b ⟨id,j,sz,es,n,c,h⟩
  exact M.da.eA (up h).1
 let F1:Fr:={w0:=w,S0:=S,M:=fun b=>(∃i bi,β1 i=some bi∧b=bi.bG)∨HB b,β0:=β1}
 have T:Cx S S β β1 w (gX pre):=by
  refine ⟨fun _ h=>h,fun id j bi hj hb=> ?_,fun id es bi hj=> ?_,fun id es xs bi hj=> ?_,fun id es bi hj=> ?_,fun id cs bi hj=> ?_,fun id ks vs bi hj=> ?_⟩
  ·obtain ⟨e,o,ho⟩:=eN hj
   grind
  ·obtain ⟨e,_⟩:=eN hj;grind
  ·obtain ⟨e,_⟩:=eN hj;grind
  ·obtain ⟨e,_⟩:=eN hj;grind
  ·obtain ⟨e,_⟩:=eN hj;grind
  ·obtain ⟨e,_⟩:=eN hj;grind
 have M1:b7 F1 S β1 pre w:=by
  have h0:¬F1.M 0:=by
   rintro (⟨i,bi,hi,e⟩|h)
   ·exact M.N2 (b1s hi).2 e.symm
   ·rcases (hbB h).fr with h|h
    ·exact M.pM.2 h
    ·have:=M.tP.2;omega
  refine b7.pj ⟨⟨M.tP.1,h0⟩,rfl,rfl,rfl,Nat.le_refl _,fun _ _ _=>rfl,fun id o h=> ?_,fun id bi h=>(b1s h).1,fun i j bi bj hi hj h1 h2 h3=> ?_,fun i bi h=> ?_,M.sub,fun _ h=>h,fun _ h=> .inl h,fun i b _ h=>h⟩ (fun _=>⟨fun id o j sz es h1 h2=> ?_,fun id j sz es id' j' sz' es' b n c n' c' h1 h2=>M.da.vn _ _ _ _ _ _ _ _ _ _ _ _ _ (up h1).1 (up h2).1,fun id j sz es b n c h1 h2=>absurd h2 (Nat.not_lt.2 (Nat.le_trans (by decide:mid≤given) ((up h1).2.elim fun o ho=>(pg ho).1)))⟩)
  ·obtain ⟨_,_,h2⟩:=pg h
   have:=(M.dg id o h2).dB T (b1 h) (by simp[Kv])
   grind[id,cL]
  ·obtain ⟨⟨oi,ki⟩,ei⟩:=b1s hi
   obtain ⟨⟨oj,kj⟩,ej⟩:=b1s hj
   obtain ⟨_,di,li⟩:=pg ki
   obtain ⟨_,dj,lj⟩:=pg kj
   exact M.fZ i j bi bj ei ej (fun o ho=>by grind) (fun o ho=>by grind) h3
  ·obtain ⟨⟨oi,ki⟩,ei⟩:=b1s h
   obtain ⟨gi,_,_⟩:=pg ki
   obtain ⟨p1,p2,_⟩:=M.aX i bi ei
   grind
  ·obtain ⟨_,_,li⟩:=pg h1
   obtain ⟨v,⟨o2,bi,q1,q2,q3,q4⟩,hv⟩:=M.da.aX id o j sz es li h2
   have hO:cz β1 pre w id j sz es v:=⟨o,bi,h1,(b1 h1).trans q2,h2,q4⟩
   refine ⟨v,hO,?_⟩
   rcases hv with hv|⟨b,cap,r1,r2,r3,B⟩
   ·grind
   ·refine .inr ⟨b,cap,r1,r2,r3,B.ns,B.lt,.inl (.inr ⟨id,j,sz,es,es.length,cap,by grind⟩),fun i bi' hi hl=> ?_⟩
    obtain ⟨⟨oi,ki⟩,ei⟩:=b1s hi
    obtain ⟨_,di,li'⟩:=pg ki
    exact B.ap i bi' ei (fun o' ho'=>by grind)
 have E1:sx S β1 w (args.length+(fn.ntmps-args.length)) (bO 0 args) {tmps:=vs.toArray++Array.replicate (fn.ntmps-vs.toArray.size) undef,defers:=[]}:=by
  refine ⟨by grind,rfl,fun t=> ?_⟩
  unfold ci
  cases hk:ae (bO 0 args) t with
  |none=>exact .aB _
  |some x=>
   obtain ⟨_,h2⟩:=kl hk
   rw [Nat.sub_zero] at h2
   have hlt:t<vs.length:=by grind
   have hvt:vs[t]? =some (vs[t]'hlt):=List.getElem?_eq_getElem hlt
   have hV:=(hv t _ x hvt h2).dB T (by simp[ul])
   have hx:dB (gX pre) x=x:=by
    grind[bW,gX,dI]
   rw [hx] at hV
   have he2:Act.eval {tmps:=vs.toArray++Array.replicate (fn.ntmps-vs.toArray.size) undef,defers:=[]} (.tmp t)=vs[t]'hlt:=by
    simp only [Act.eval,Array.getD_eq_getD_getElem?]
    grind
   grind
 have hpn:pre=[]→(∀b,¬F1.M b)∧F1.β0=fo:=by
  intro hn
  have none:∀i,β1 i=none:=by
   intro i
   cases h:β1 i with
   |none=>rfl
   |some b=>obtain ⟨⟨o,ho⟩,_⟩:=b1s h;rw [hn] at ho;cases ho
  refine ⟨?_,funext none⟩
  rintro b (⟨i,bi,hi,_⟩|⟨id,j,sz,es,n,c,h⟩)
  ·grind
  ·obtain ⟨_,o,ho⟩:=up h;rw [hn] at ho;cases ho
 refine calls_of_wp hf hb ?_
 refine (wpIn_wide (n:=0)).1 (wpIn_mono (hrun F1 _ w (fun i b h=>let ⟨⟨o,ho⟩,_⟩:=b1s h;List.mem_map.2 ⟨(i,o),cL ho,rfl⟩) hpn ⟨S,β1,E1,M1⟩) fun e' a' w' ⟨h1,S',β2,E',M'⟩=> ?_)
 obtain ⟨v,hres,hV⟩:=lH (fn:=fn) E' M' hr
 have notM:∀b,S b→¬F1.M b:=by
  rintro b hs (⟨i,bi,hi,rfl⟩|h)
  ·exact (M.aX i bi (b1s hi).2).1 hs
  ·exact (hbB h).ns hs
 have hag:nI S w w':=fun b hb=>M'.a6 b (M.sub b hb) (notM b hb)
 have keepPre:∀{i:Nat} {o:Ob} {b:Bl},ae pre i=some o→β i=some b→β2 i=some b:=by
  intro i o b h hb
  obtain ⟨gi,_,li⟩:=pg h
  exact M'.pL i b gi ((b1 h).trans hb)
 have frs:∀{i:Nat} {o2:Ob},ae st'.hp i=some o2→ae pre i=none→ae hp i=none:=by
  intro i o2 ho2 hk
  exact hfr i o2 (cL ho2) (fun o' hm=>by
   have:∀{l:List (Nat×Ob)},(i,o')∈l→ae l i≠none:=by
    intro l
    induction l with
    |nil=>simp
    |cons y l ih=>
     intro h
     obtain ⟨k,z⟩:=y
     simp only [ae]
     grind
   grind)
 have both:∀{i:Nat} {b b':Bl},β i=some b→β2 i=some b'→b'=b∧∃o,ae pre i=some o:=by
  intro i b b' h h'
  cases hk:ae pre i with
  |some o=>
   grind
  |none=>
   grind[M'.jU,M.jU]
 let β':bn:=fun i=>match β2 i with
  |some b=>some b
  |none=>β i
 have x2:∀i b,β2 i=some b→β' i=some b:=by
  grind
 have x1:∀i b,β i=some b→β' i=some b:=by
  grind
 have xc:∀{i b},β' i=some b→β2 i=some b∨(β2 i=none∧β i=some b):=by
  grind
 have hlook:=eB huq hp
 have noSt:∀{k:Nat} {b:Bl},β2 k=none→β k=some b→ae st'.hp k=none:=by
  intro k b hk hb
  cases hs:ae st'.hp k with
  |none=>rfl
  |some o2=>
   grind[ae,M.jU]
 have out:∀{i:Nat} {bi:Bl} {o:Ob},β i=some bi→ae hp i=some o→o≠ .aB→β2 i=none→w'.heap[bi.bG]? =w.heap[bi.bG]? :=by
  intro i bi o hi ho hd h2
  have hlv:∀o',ae hp i=some o'→o'≠ .aB:=fun o' ho'=>by grind
  refine M'.a6 _ (M.aX i bi hi).2.1 ?_
  rintro (⟨p,bp,hp1,hp2⟩|h)
  ·obtain ⟨⟨op,kp⟩,ep⟩:=b1s hp1
   obtain ⟨_,dp,lp⟩:=pg kp
   have:=M.fZ i p bi bp hi ep hlv (fun o' ho'=>by grind) hp2
   grind
  ·exact (hbB h).ap i bi hi hlv rfl
 have outH:∀{id j sz:Nat} {es:List AV} {b n c:Nat},cz β hp w id j sz es (.slice (some ⟨b,0,none⟩) n c)→β2 id=none→¬F1.M b:=by
  intro id j sz es b n c h h2
  have B:=M.da.eA h
  rintro (⟨p,bp,hp1,hp2⟩|⟨id',j',sz',es',n',c',h'⟩)
  ·obtain ⟨⟨op,kp⟩,ep⟩:=b1s hp1
   obtain ⟨_,dp,lp⟩:=pg kp
   exact B.ap p bp ep (fun o' ho'=>by grind) hp2.symm
  ·obtain ⟨k1,o',k2⟩:=up h'
   have:=(M.da.vn _ _ _ _ _ _ _ _ _ _ _ _ _ h k1).1
   subst this
   obtain ⟨_,b0,_,e1,_,_⟩:=k1
   grind
 have hend:lg S S' β β' w w'∧b7 F S' β' (bc hp st'.hp) w'∧V S' β' w' v r:=by
  refine ⟨⟨M'.eW,x1,hag⟩,?_,hV.bR (fun _ h=>h) x2 (nI.bb _ _)⟩
  refine b7.pj ⟨M.pM,M'.os.trans M.os,M'.eL.trans M.eL,M'.cc.trans M.cc,Nat.le_trans M.b6 M'.b6,fun b h1 h2=> ?_,fun id o h=> ?_,fun id bi h=> ?_,fun i j bi bj hi hj h1 h2 h3=> ?_,fun i bi hi=> ?_,M'.sub,fun b h=>M'.eW b (M.eW b h),fun b h=> ?_,fun i b h1 h2=>x1 i b (M.pL i b h1 h2)⟩ (fun M0=> ?_)
  ·rw [←M.a6 b h1 h2]
   refine M'.a6 b (Nat.lt_of_lt_of_le h1 M.b6) ?_
   rintro (⟨p,bp,hp1,rfl⟩|h)
   ·rcases (M.aX p bp (b1s hp1).2).2.2 with ⟨_,h⟩|h
    all_goals grind
   ·rcases (hbB h).fr with h|h
    all_goals grind
  ·rw [hlook] at h
   cases hk:ae st'.hp id with
   |some o2=>
    rw [hk] at h
    injection h with h
    subst h
    exact (M'.dg id o2 hk).bR (fun _ h=>h) x2 (nI.bb _ _) (fun _ _=>rfl)
   |none=>
    rw [hk] at h
    have h2n:β2 id=none:=by
     cases h2:β2 id with
     |none=>rfl
     |some b=>grind[M'.jU,id]
    have hob:=M.dg id o h
    by_cases hd:o= .aB
    ·subst hd;trivial
    ·exact hob.bR M'.eW x1 hag (fun bi hi=>out hi h hd h2n)
  ·rw [hlook]
   rcases xc h with h|⟨h2,h⟩
   ·obtain ⟨o,ho⟩:=M'.jU id bi h
    grind
   ·obtain ⟨o,ho⟩:=M.jU id bi h
    grind
  ·have lv2:∀{k:Nat} {b:Bl},β2 k=some b→(∀o,ae (bc hp st'.hp) k=some o→o≠ .aB)→∀o,ae st'.hp k=some o→o≠ .aB:=by
    grind
   have lv1:∀{k:Nat} {b:Bl},β2 k=none→β k=some b→(∀o,ae (bc hp st'.hp) k=some o→o≠ .aB)→∀o,ae hp k=some o→o≠ .aB:=by
    grind
   have mixed:∀{i j:Nat} {bi bj:Bl},β2 i=some bi→β2 j=none→β j=some bj→(∀o,ae (bc hp st'.hp) j=some o→o≠ .aB)→bi.bG=bj.bG→False:=by
    intro i j bi bj hi hj2 hj hlj hblk
    rcases (M'.aX i bi hi).2.2 with ⟨_,⟨p,bp,hp1,hp2⟩|h⟩|h
    ·obtain ⟨⟨op,kp⟩,ep⟩:=b1s hp1
     obtain ⟨_,dp,lp⟩:=pg kp
     have:=M.fZ p j bp bj ep hj (fun o' ho'=>by grind) (lv1 hj2 hj hlj) (hp2.symm.trans hblk)
     grind
    ·exact (hbB h).ap j bj hj (lv1 hj2 hj hlj) hblk.symm
    ·have:=(M.aX j bj hj).2.1
     grind
   rcases xc hi with hi|⟨hi2,hi⟩<;>rcases xc hj with hj|⟨hj2,hj⟩
   ·exact M'.fZ i j bi bj hi hj (lv2 hi h1) (lv2 hj h2) h3
   ·exact (mixed hi hj2 hj h2 h3).elim
   ·exact (mixed hj hi2 hi h1 h3.symm).elim
   ·exact M.fZ i j bi bj hi hj (lv1 hi2 hi h1) (lv1 hj2 hj h2) h3
  ·rcases xc hi with hi|⟨hi2,hi⟩
   ·obtain ⟨p1,p2,p3⟩:=M'.aX i bi hi
    refine ⟨p1,p2,?_⟩
    rcases p3 with ⟨g,⟨p,bp,hp1,hp2⟩|h⟩|p3
    ·rw [hp2]
     rcases (M.aX p bp (b1s hp1).2).2.2 with ⟨_,h⟩|h
     ·exact .inl ⟨g,h⟩
     ·exact .inr h
    ·rcases (hbB h).fr with h|h
     ·exact .inl ⟨g,h⟩
     ·exact .inr h
    ·exact .inr (Nat.le_trans M.b6 p3)
   ·obtain ⟨p1,p2,p3⟩:=M.aX i bi hi
    refine ⟨fun hs=> ?_,Nat.lt_of_lt_of_le p2 M'.b6,p3⟩
    rcases M'.dN _ hs with h|h
    ·exact p1 h
    ·exact absurd p2 (Nat.not_lt.2 h)
  ·rcases M'.dN b h with h|h
   ·exact M.dN b h
   ·exact .inr (Nat.le_trans M.b6 h)
  ·have lv2:∀{k:Nat},(∀o,ae (bc hp st'.hp) k=some o→o≠ .aB)→∀o,ae st'.hp k=some o→o≠ .aB:=by
    intro k hh o ho
    exact hh o (by rw [hlook,ho])
   have lv1:∀{k:Nat} {b:Bl},β2 k=none→β k=some b→(∀o,ae (bc hp st'.hp) k=some o→o≠ .aB)→∀o,ae hp k=some o→o≠ .aB:=by
    intro k b hk hb hh o ho
    exact hh o (by rw [hlook,noSt hk hb];exact ho)
   have part:∀{id j sz:Nat} {es:List AV} {v:Value},cz β' (bc hp st'.hp) w' id j sz es v→cz β2 st'.hp w' id j sz es v∨(β2 id=none∧cz β hp w id j sz es v):=by
    rintro id j sz es v ⟨o,bi,a1,a2,a3,a4⟩
    rcases xc a2 with h|⟨h2,h⟩
    ·obtain ⟨o2,ho2⟩:=M'.jU id bi h
     have:=a1
     rw [hlook,ho2] at this
     injection this with this
     subst this
     exact .inl ⟨o2,bi,ho2,h,a3,a4⟩
    ·have h1:=a1
     rw [hlook,noSt h2 h] at h1
     exact .inr ⟨h2,o,bi,h1,h,a3,by rw [←cI (out h h1 (Ob.d8 a3) h2) j];exact a4⟩
   have bIn:∀{b:Nat},jT F1 S' β2 st'.hp w' b→jT F S' β' (bc hp st'.hp) w' b:=by
    intro b B
    refine ⟨B.ns,B.lt,?_,fun i bi hi hl=> ?_⟩
    ·rcases B.fr with (⟨p,bp,hp1,hp2⟩|h)|h
     ·rw [hp2]
      rcases (M.aX p bp (b1s hp1).2).2.2 with ⟨_,h⟩|h
      ·exact .inl h
      ·exact .inr h
     ·exact (hbB h).fr
     ·exact .inr (Nat.le_trans M.b6 h)
    ·rcases xc hi with h|⟨h2,h⟩
     ·exact B.ap i bi h (lv2 hl)
     ·intro e
      rcases B.fr with (⟨p,bp,hp1,hp2⟩|hh)|hh
      ·obtain ⟨⟨op,kp⟩,ep⟩:=b1s hp1
       obtain ⟨_,dp,lp⟩:=pg kp
       have:=M.fZ p i bp bi ep h (fun o' ho'=>by rw [lp] at ho';injection ho' with ho';exact ho'▸dp) (lv1 h2 h hl) (hp2.symm.trans e.symm)
       subst this
       have e2:=keepPre kp h
       rw [h2] at e2;cases e2
      ·exact (hbB hh).ap i bi h (lv1 h2 h hl) e
      ·have:=(M.aX i bi h).2.1
       have hw:F1.w0.heap.size=w.heap.size:=rfl
       omega
   have bOut:∀{id j sz:Nat} {es:List AV} {b n c:Nat},cz β hp w id j sz es (.slice (some ⟨b,0,none⟩) n c)→β2 id=none→w'.heap[b]? =w.heap[b]? ∧jT F S' β' (bc hp st'.hp) w' b:=by
    intro id j sz es b n c h h2
    have B:=M.da.eA h
    have hM:=outH h h2
    refine ⟨M'.a6 b B.lt hM,fun hs=> ?_,Nat.lt_of_lt_of_le B.lt M'.b6,B.fr,fun i bi hi hl e=> ?_⟩
    ·rcases M'.dN _ hs with h|h
     ·exact B.ns h
     ·exact absurd B.lt (Nat.not_lt.2 h)
    ·rcases xc hi with hi2|⟨hi2,hi1⟩
     ·rcases (M'.aX i bi hi2).2.2 with ⟨_,h⟩|h
      ·exact hM (e▸h)
      ·have:=B.lt
       have hw:F1.w0.heap.size=w.heap.size:=rfl
       omega
     ·exact B.ap i bi hi1 (lv1 hi2 hi1 hl) e
   refine ⟨fun id o j sz es h1 h2=> ?_,fun id j sz es id' j' sz' es' b n c n' c' h1 h2=> ?_,fun id j sz es b n c h1 h2=> ?_⟩
   ·rw [hlook] at h1
    cases hk:ae st'.hp id with
    |some o2=>
     rw [hk] at h1
     injection h1 with h1
     subst h1
     obtain ⟨v,⟨o3,bi,q1,q2,q3,q4⟩,hv⟩:=M'.da.aX id o2 j sz es hk h2
     refine ⟨v,⟨o2,bi,by rw [hlook,hk],x2 id bi q2,h2,q4⟩,?_⟩
     rcases hv with hv|⟨b,cap,r1,r2,r3,B⟩
     ·exact .inl hv
     ·exact .inr ⟨b,cap,r1,r2,r3,bIn B⟩
    |none=>
     rw [hk] at h1
     have h2n:β2 id=none:=by
      cases h2':β2 id with
      |none=>rfl
      |some b=>obtain ⟨o2,ho2⟩:=M'.jU id b h2';rw [hk] at ho2;cases ho2
     obtain ⟨v,hO,hv⟩:=M.da.aX id o j sz es h1 h2
     have hO':=hO
     obtain ⟨o3,bi,q1,q2,q3,q4⟩:=hO
     refine ⟨v,⟨o,bi,by rw [hlook,hk];exact h1,x1 id bi q2,h2,by rw [cI (out q2 h1 (Ob.d8 h2) h2n) j];exact q4⟩,?_⟩
     rcases hv with hv|⟨b,cap,r1,r2,r3,B⟩
     ·exact .inl hv
     ·subst r1
      obtain ⟨g1,g2⟩:=bOut hO' h2n
      exact .inr ⟨b,cap,rfl,r2,r3.bR M'.eW (fun _ _ h=>h) hag g1,g2⟩
   ·rcases part h1 with k1|⟨d1,k1⟩<;>rcases part h2 with k2|⟨d2,k2⟩
    ·exact M'.da.vn _ _ _ _ _ _ _ _ _ _ _ _ _ k1 k2
    ·exfalso
     have B1:=M'.da.eA k1
     rcases B1.fr with h|h
     ·exact outH k2 d2 h
     ·have:=(M.da.eA k2).lt
      have hw:F1.w0.heap.size=w.heap.size:=rfl
      omega
    ·exfalso
     have B1:=M'.da.eA k2
     rcases B1.fr with h|h
     ·exact outH k1 d1 h
     ·have:=(M.da.eA k1).lt
      have hw:F1.w0.heap.size=w.heap.size:=rfl
      omega
    ·exact M.da.vn _ _ _ _ _ _ _ _ _ _ _ _ _ k1 k2
   ·rcases part h1 with k1|⟨d1,k1⟩
    ·exact Nat.le_trans M.b6 (M'.da.dN _ _ _ _ _ _ _ k1 h2)
    ·exact M.da.dN _ _ _ _ _ _ _ k1 h2
 obtain ⟨x,m,hv2⟩:=hend
 rcases he with rfl|rfl
 ·subst h1;exact ⟨E'.2.1,v,hres,v,S',β',rfl,x,m,hv2⟩
 ·subst h1;exact ⟨E'.2.1,v,hres,v,S',β',rfl,x,m,hv2⟩
theorem bK.gen {f:FuncId} {fn:Func} {c:Code} {args:List AV} {pre:List (Nat×Ob)} {st':St} {e:cw} {r:AV} (hf:P.funcs[f]? =some fn) (hb:fn.body=some c)
  (hpre:kn pre=true) (huq:cM st'.hp=true) (hargs:bW (gX pre) args=args) (hobs:∀id o,(id,o)∈pre→bg (gX pre) o=o)
  (hrun:I1 P (args.length+(fn.ntmps-args.length)) (pre.map (·.1)) c ⟨bO 0 args,pre⟩ e st') (he:e= .aj∨e= .aR) (hr:gW P st' fn.results.toList=some r):bK P f args pre r st'.hp:=
 bK.N9 hf hb hpre huq hargs hobs (fun F a w h _ x=>hrun F a w h x) he hr
theorem bK.CB {f:FuncId} {fn:Func} {c:Code} {args:List AV} {st':St} {e:cw} {r:AV} (hf:P.funcs[f]? =some fn) (hb:fn.body=some c)
  (huq:cM st'.hp=true) (hargs:bW (gX []) args=args)
  (hrun:iE P (args.length+(fn.ntmps-args.length)) c ⟨bO 0 args,[]⟩ e st') (he:e= .aj∨e= .aR) (hr:gW P st' fn.results.toList=some r):bK P f args [] r st'.hp:=
 bK.N9 (pre:=[]) hf hb rfl huq hargs (fun _ _ h=>by cases h) (fun F a w _ h x=>hrun F a w (h rfl).1 (h rfl).2 x) he hr
end
end
section
section
variable {F:Fr} {S:df} {β:bn} {hp:List (Nat×Ob)} {w:World} {ks:List Nat}
end
end
end Go.Ped
namespace Go.Ped
section
section
variable {F:Fence} {n:Nat} {P:Program} {c d:Code} {Q:Exit→Act→World→Prop} {a:Act} {w:World}
end
end
end Go.Ped
namespace Go.Ped
open Go.RowKit
section
abbrev um:=FuncId→List AV→List (Nat×Ob)→Nat→Option (AV×List (Nat×Ob)×Nat)
def um.ok (P:Program) (H:um):Prop:=∀g as1 pre nb r upd nb',H g as1 pre nb=some (r,upd,nb')→bK P g as1 pre r upd
section
variable {P:Program} {ops:Array Oper} {n:Nat}
set_option maxHeartbeats 1000000 in
end
end
section
section
variable {P:Program} {n:Nat} {st st1 st':St} {e:cw} {c:Code}
def Fs (ops:Array Oper):Nat:=match ops.toList with
 |o::_=>match o.dst with
  |some d=>d
  |none=>99999
 |[]=>99999
def CC:Operand→Nat
 | .tmp t=>100000+t
 |_=>99999
def N' (mk:Nat):List cv→Option (cw×St×List cv)
 | .N3 m e env hp::sc=>bif Nat.beq m mk then some (e,⟨env,hp⟩,sc) else none
 |_=>none
def un (sc:List cv) (st:St):Option (St×List Prop×List cv):=match sc with
 | .g8 slots tb::sc=>match iG slots tb st with
   |some (st1,cs)=>some (st1,cs,sc)
   |none=>none
 |sc=>some (st,[],sc)
def vN (mk:Nat) (sc:List cv) (st:St):Option (St×List Prop×cw×St×List cv):=match un sc st with
 |some (st1,ps,sc1)=>match N' mk sc1 with
  |some (e,st',sc')=>some (st1,ps,e,st',sc')
  |none=>none
 |none=>none
theorem s9 {sc sc1:List cv} {ps:List Prop} (h:un sc st=some (st1,ps,sc1)) (hp:∀p,p∈ps→p):Le n st st1:=by
 unfold un at h
 split at h
 ·split at h
  ·rename_i hr
   injection h with h;simp only [Prod.mk.injEq] at h;obtain ⟨rfl,rfl,rfl⟩:=h
   grind[er]
  grind
 ·injection h with h;simp only [Prod.mk.injEq] at h;obtain ⟨rfl,rfl,rfl⟩:=h
  simp[Le.bb]
theorem qk {mk:Nat} {sc sc':List cv} {ps:List Prop} (h:vN mk sc st=some (st1,ps,e,st',sc')) (hp:∀p,p∈ps→p):Le n st st1:=by
 unfold vN at h
 split at h
 ·rename_i hc
  split at h
  ·injection h with h;simp only [Prod.mk.injEq] at h;obtain ⟨rfl,rfl,rfl,rfl,rfl⟩:=h
   grind[s9]
  grind
 grind
def fy (P:Program) (n base:Nat):Code→List cv→St→Option (cw×St×List iy×List cv)
 | .skip,sc,st=>some (.aj,st,[],sc)
 | .label _,sc,st=>some (.aj,st,[],sc)
 | .exit id,sc,st=>some (.ar id,st,[],sc)
 | .ret,sc,st=>some (.aR,st,[],sc)
 | .region id ops draw,sc,st=>match vN (Fs ops) sc st with
   |some (st1,ps,e,st',sc)=>some (e,st',ps.map ga++[ga (cf P n (.region id ops draw) st1 e st')],sc)
   |none=>match mQ P n base ops draw sc st with
    |some (st',cs,sc')=>some (.aj,st',cs,sc')
    |none=>none
 | .seq a b,sc,st=>match fy P n base a sc st with
   |some (.aj,st',cs,sc')=>match fy P n base b sc' st' with
    |some (e,st'',cs',sc'')=>some (e,st'',cs++cs',sc'')
    |none=>none
   |some (.ar id,st',cs,sc')=>some (.ar id,st',cs,sc')
   |some (.aR,st',cs,sc')=>some (.aR,st',cs,sc')
   |some (.gh _,_,_,_)=>none
   |none=>none
 | .cond c x y,sc,st=>match vN (CC c) sc st with
   |some (st1,ps,e,st',sc)=>some (e,st',ps.map ga++[ga (cf P n (.cond c x y) st1 e st')],sc)
   |none=>match sc with
    | .Kg e env hp::sc=>some (e,⟨env,hp⟩,[ga (cf P n (.cond c x y) st e ⟨env,hp⟩)],sc)
    |sc=>match a7 st.dA c with
     | .ak true=>fy P n base x sc st
     | .ak false=>fy P n base y sc st
     |_=>none
 | .block id body,sc,st=>match vN (200000+id) sc st with
   |some (st1,ps,e,st',sc)=>some (e,st',ps.map ga++[ga (cf P n (.block id body) st1 e st')],sc)
   |none=>match sc with
    | .Kg e env hp::sc=>some (e,⟨env,hp⟩,[ga (cf P n (.block id body) st e ⟨env,hp⟩)],sc)
    |sc=>match fy P n base body sc st with
     |some (.ar i,st',cs,sc')=>if i=id then some (.aj,st',cs,sc') else some (.ar i,st',cs,sc')
     |some (.aj,st',cs,sc')=>some (.aj,st',cs,sc')
     |some (.aR,st',cs,sc')=>some (.aR,st',cs,sc')
     |some (.gh _,_,_,_)=>none
     |none=>none
 | .loop body,sc,st=>match un sc st with
   |some (st1,ps,.B3 e env hp::sc)=>some (e,⟨env,hp⟩,ps.map ga++[ga (bJ P n body st1 e ⟨env,hp⟩)],sc)
   |_=>none
 |_,_,_=>none
set_option maxHeartbeats 1000000 in
theorem oV {base:Nat} (hmix:P.follows .mixedOrders=true):∀(c:Code) {sc sc':List cv} {st st':St} {e:cw} {cs:List iy},fy P n base c sc st=some (e,st',cs,sc')→(∀p,p∈cs→p.p)→cf P n c st e st':=by
 intro c
 induction c with
 |skip=>
  intro sc sc' st st' e cs h hc F a w hA
  injection h with h;simp only [Prod.mk.injEq] at h;obtain ⟨rfl,rfl,rfl,rfl⟩:=h
  exact wpIn_skip ⟨rfl,hA⟩
 |label l=>
  intro sc sc' st st' e cs h hc F a w hA
  injection h with h;simp only [Prod.mk.injEq] at h;obtain ⟨rfl,rfl,rfl,rfl⟩:=h
  exact wpIn_label ⟨rfl,hA⟩
 |exit id=>
  intro sc sc' st st' e cs h hc F a w hA
  injection h with h;simp only [Prod.mk.injEq] at h;obtain ⟨rfl,rfl,rfl,rfl⟩:=h
  exact wpIn_exit ⟨rfl,hA⟩
 |ret=>
  intro sc sc' st st' e cs h hc F a w hA
  injection h with h;simp only [Prod.mk.injEq] at h;obtain ⟨rfl,rfl,rfl,rfl⟩:=h
  exact wpIn_ret ⟨rfl,hA⟩
 |region id ops draw=>
  intro sc sc' st st' e cs h hc
  unfold fy at h
  split at h
  ·rename_i ht
   injection h with h;simp only [Prod.mk.injEq] at h;obtain ⟨rfl,rfl,rfl,rfl⟩:=h
   exact cf.ez (hc (ga _) (List.mem_append_right _ (List.mem_singleton.2 rfl))) (qk ht fun p hp=>hc (ga p) (List.mem_append_left _ (List.mem_map.2 ⟨p,hp,rfl⟩)))
  ·intro F a w hA
   cases hr:mQ P n base ops draw sc st with
   |none=>grind
   |some x=>
    obtain ⟨s,c,d⟩:=x
    rw [hr] at h
    injection h with h;simp only [Prod.mk.injEq] at h;obtain ⟨rfl,rfl,rfl,rfl⟩:=h
    exact mR hmix hr hc (fun a w h=>⟨rfl,h⟩) hA
 |seq x y ihx ihy=>
  intro sc sc' st st' e cs h hc F a w hA
  simp only [fy] at h
  cases hx:fy P n base x sc st with
  |none=>grind
  |some r=>
   obtain ⟨e1,s1,c1,d1⟩:=r
   rw [hx] at h
   cases e1 with
   |aj=>
    simp only at h
    cases hy:fy P n base y d1 s1 with
    |none=>grind
    |some r2=>
     obtain ⟨e2,s2,c2,d2⟩:=r2
     rw [hy] at h
     injection h with h;simp only [Prod.mk.injEq] at h;obtain ⟨rfl,rfl,rfl,rfl⟩:=h
     refine wpIn_seq (qg (ihx hx fun p hp=>hc p (List.mem_append_left _ hp)) hA fun a' w' hA'=> ?_)
     exact ihy hy (fun p hp=>hc p (List.mem_append_right _ hp)) F a' w' hA'
   |ar id=>
    injection h with h;simp only [Prod.mk.injEq] at h;obtain ⟨rfl,rfl,rfl,rfl⟩:=h
    exact wpIn_seq (qg (ihx hx hc) hA fun a' w' hA'=>⟨rfl,hA'⟩)
   |aR=>
    injection h with h;simp only [Prod.mk.injEq] at h;obtain ⟨rfl,rfl,rfl,rfl⟩:=h
    exact wpIn_seq (qg (ihx hx hc) hA fun a' w' hA'=>⟨rfl,hA'⟩)
   |gh l=>grind
 |cond o x y ihx ihy=>
  intro sc sc' st st' e cs h hc
  unfold fy at h
  split at h
  ·rename_i ht
   injection h with h;simp only [Prod.mk.injEq] at h;obtain ⟨rfl,rfl,rfl,rfl⟩:=h
   exact cf.ez (hc (ga _) (List.mem_append_right _ (List.mem_singleton.2 rfl))) (qk ht fun p hp=>hc (ga p) (List.mem_append_left _ (List.mem_map.2 ⟨p,hp,rfl⟩)))
  split at h
  ·injection h with h;simp only [Prod.mk.injEq] at h;obtain ⟨rfl,rfl,rfl,rfl⟩:=h
   simp_all
  ·intro F a w hA
   obtain ⟨S,β,E,M⟩:=hA
   have hv:=aD E o
   generalize hX:a7 st.dA o=X at h hv
   generalize hxx:a.eval o=xv at hv
   cases X with
   |ak b=>
    cases hv with
    |ak b=>
     cases b with
     |true=>exact wpIn_cond_true hxx (ihx h hc F a w ⟨S,β,E,M⟩)
     |false=>exact wpIn_cond_false hxx (ihy h hc F a w ⟨S,β,E,M⟩)
   |_=>grind
 |block id body ih=>
  intro sc sc' st st' e cs h hc
  unfold fy at h
  split at h
  ·rename_i ht
   injection h with h;simp only [Prod.mk.injEq] at h;obtain ⟨rfl,rfl,rfl,rfl⟩:=h
   exact cf.ez (hc (ga _) (List.mem_append_right _ (List.mem_singleton.2 rfl))) (qk ht fun p hp=>hc (ga p) (List.mem_append_left _ (List.mem_map.2 ⟨p,hp,rfl⟩)))
  split at h
  ·injection h with h;simp only [Prod.mk.injEq] at h;obtain ⟨rfl,rfl,rfl,rfl⟩:=h
   simp_all
  ·intro F a w hA
   refine wpIn_block ?_
   cases hb:fy P n base body sc st with
   |none=>grind
   |some r=>
    obtain ⟨e1,s1,c1,d1⟩:=r
    rw [hb] at h
    cases e1 with
    |ar i=>
     simp only at h
     by_cases hi:i=id
     ·rw [if_pos hi] at h
      injection h with h;simp only [Prod.mk.injEq] at h;obtain ⟨rfl,rfl,rfl,rfl⟩:=h
      refine qg (ih hb hc) hA fun a' w' hA'=> ?_
      simp_all[cw.x,Exit.inBlock,if_pos,trivial]
     ·rw [if_neg hi] at h
      injection h with h;simp only [Prod.mk.injEq] at h;obtain ⟨rfl,rfl,rfl,rfl⟩:=h
      refine qg (ih hb hc) hA fun a' w' hA'=> ?_
      simp_all[cw.x,Exit.inBlock,if_neg,trivial]
    |aj=>
     injection h with h;simp only [Prod.mk.injEq] at h;obtain ⟨rfl,rfl,rfl,rfl⟩:=h
     exact qg (ih hb hc) hA fun a' w' hA'=>⟨rfl,hA'⟩
    |aR=>
     injection h with h;simp only [Prod.mk.injEq] at h;obtain ⟨rfl,rfl,rfl,rfl⟩:=h
     exact qg (ih hb hc) hA fun a' w' hA'=>⟨rfl,hA'⟩
    |gh l=>grind
 |loop body ih=>
  intro sc sc' st st' e cs h hc
  unfold fy at h
  split at h
  ·rename_i ht
   injection h with h;simp only [Prod.mk.injEq] at h;obtain ⟨rfl,rfl,rfl,rfl⟩:=h
   exact (bJ.Fp (hc (ga _) (List.mem_append_right _ (List.mem_singleton.2 rfl)))).ez (s9 ht fun p hp=>hc (ga p) (List.mem_append_left _ (List.mem_map.2 ⟨p,hp,rfl⟩)))
  grind
 |_=>intro sc sc' st st' e cs h;cases h
end
end
def gk:Code→List Code
 | .seq a b=>gk a++gk b
 | .cond _ a b=>gk a++gk b
 | .block _ a=>gk a
 | .loop a=>a::gk a
 | .scope a=>gk a
 |_=>[]
def ai (f:Func):Code:=f.body.getD .skip
def O (f:Func) (k:Nat):Code:=((gk (ai f))[k]?).getD .skip
def oW (p:Code→Bool):Code→Option Code
 | .seq a b=>(oW p a).or (oW p b)
 | .cond c a b=>if p (.cond c a b)=true then some (.cond c a b) else (oW p a).or (oW p b)
 | .block i a=>if p (.block i a)=true then some (.block i a) else oW p a
 | .region i o d=>if p (.region i o d)=true then some (.region i o d) else none
 | .loop a=>oW p a
 | .scope a=>oW p a
 |_=>none
def Oc (d:Nat):Code→Bool
 | .region _ ops _=>match ops.toList with
   |o::_=>match o.dst with
    |some x=>Nat.beq x d
    |none=>false
   |[]=>false
 |_=>false
def fa (f:Func) (d:Nat):Code:=(oW (Oc d) (ai f)).getD .skip
def cA:List Prop→Prop
 |[]=>True
 |p::r=>p∧cA r
theorem aC {p:Prop} {cs:List Prop} (h:p) (k:cA cs):cA (p::cs):=⟨h,k⟩
theorem aN:cA []:=trivial
theorem aT {cs:List Prop} (k:cA cs):cA ((true=true)::cs):=⟨rfl,k⟩
abbrev K1 (n:Nat):Nat×Rk:=(n,.a6 n true)
abbrev K0 (n:Nat):Nat×Rk:=(n,.a6 n false)
theorem rF:false=false:=rfl
theorem Z7:true=true∧true=true:=⟨rfl,rfl⟩
theorem d1 {α:Type} (f:α→AV) (l:List α) (i:Nat) (h:i<l.length):decide ((i:Int)<(↑(l.map f).length:Int))=true:=by simp;omega
theorem rT:true=true:=rfl
theorem nF {b:Bool} (h:b=true):(!b)=false:=by rw [h];rfl
theorem nT {b:Bool} (h:b=false):(!b)=true:=by rw [h];rfl
theorem aC1 {p0:Prop} (h0:p0):cA [p0]:=⟨h0,trivial⟩
theorem aC2 {p0 p1:Prop} (h0:p0) (h1:p1):cA [p0,p1]:=⟨h0,h1,trivial⟩
theorem Oa {p0 p1 p2:Prop} (h0:p0) (h1:p1) (h2:p2):cA [p0,p1,p2]:=⟨h0,h1,h2,trivial⟩
theorem aC4 {p0 p1 p2 p3:Prop} (h0:p0) (h1:p1) (h2:p2) (h3:p3):cA [p0,p1,p2,p3]:=⟨h0,h1,h2,h3,trivial⟩
theorem T9 {p0 p1 p2 p3 p4:Prop} (h0:p0) (h1:p1) (h2:p2) (h3:p3) (h4:p4):cA [p0,p1,p2,p3,p4]:=⟨h0,h1,h2,h3,h4,trivial⟩
theorem Z5 {p0 p1 p2 p3 p4 p5:Prop} (h0:p0) (h1:p1) (h2:p2) (h3:p3) (h4:p4) (h5:p5):cA [p0,p1,p2,p3,p4,p5]:=⟨h0,h1,h2,h3,h4,h5,trivial⟩
theorem aC7 {p0 p1 p2 p3 p4 p5 p6:Prop} (h0:p0) (h1:p1) (h2:p2) (h3:p3) (h4:p4) (h5:p5) (h6:p6):cA [p0,p1,p2,p3,p4,p5,p6]:=⟨h0,h1,h2,h3,h4,h5,h6,trivial⟩
theorem Z6 {p0 p1 p2 p3 p4 p5 p6 p7:Prop} (h0:p0) (h1:p1) (h2:p2) (h3:p3) (h4:p4) (h5:p5) (h6:p6) (h7:p7):cA [p0,p1,p2,p3,p4,p5,p6,p7]:=⟨h0,h1,h2,h3,h4,h5,h6,h7,trivial⟩
theorem aC9 {p0 p1 p2 p3 p4 p5 p6 p7 p8:Prop} (h0:p0) (h1:p1) (h2:p2) (h3:p3) (h4:p4) (h5:p5) (h6:p6) (h7:p7) (h8:p8):cA [p0,p1,p2,p3,p4,p5,p6,p7,p8]:=⟨h0,h1,h2,h3,h4,h5,h6,h7,h8,trivial⟩
theorem aaY {p0 p1 p2 p3 p4 p5 p6 p7 p8 p9:Prop} (h0:p0) (h1:p1) (h2:p2) (h3:p3) (h4:p4) (h5:p5) (h6:p6) (h7:p7) (h8:p8) (h9:p9):cA [p0,p1,p2,p3,p4,p5,p6,p7,p8,p9]:=⟨h0,h1,h2,h3,h4,h5,h6,h7,h8,h9,trivial⟩
theorem aaZ {p0 p1 p2 p3 p4 p5 p6 p7 p8 p9 p10:Prop} (h0:p0) (h1:p1) (h2:p2) (h3:p3) (h4:p4) (h5:p5) (h6:p6) (h7:p7) (h8:p8) (h9:p9) (h10:p10):cA [p0,p1,p2,p3,p4,p5,p6,p7,p8,p9,p10]:=⟨h0,h1,h2,h3,h4,h5,h6,h7,h8,h9,h10,trivial⟩
theorem UB {p0 p1 p2 p3 p4 p5 p6 p7 p8 p9 p10 p11:Prop} (h0:p0) (h1:p1) (h2:p2) (h3:p3) (h4:p4) (h5:p5) (h6:p6) (h7:p7) (h8:p8) (h9:p9) (h10:p10) (h11:p11):cA [p0,p1,p2,p3,p4,p5,p6,p7,p8,p9,p10,p11]:=⟨h0,h1,h2,h3,h4,h5,h6,h7,h8,h9,h10,h11,trivial⟩
theorem Kw {p0 p1 p2 p3 p4 p5 p6 p7 p8 p9 p10 p11 p12:Prop} (h0:p0) (h1:p1) (h2:p2) (h3:p3) (h4:p4) (h5:p5) (h6:p6) (h7:p7) (h8:p8) (h9:p9) (h10:p10) (h11:p11) (h12:p12):cA [p0,p1,p2,p3,p4,p5,p6,p7,p8,p9,p10,p11,p12]:=⟨h0,h1,h2,h3,h4,h5,h6,h7,h8,h9,h10,h11,h12,trivial⟩
theorem aa0 {p0 p1 p2 p3 p4 p5 p6 p7 p8 p9 p10 p11 p12 p13:Prop} (h0:p0) (h1:p1) (h2:p2) (h3:p3) (h4:p4) (h5:p5) (h6:p6) (h7:p7) (h8:p8) (h9:p9) (h10:p10) (h11:p11) (h12:p12) (h13:p13):cA [p0,p1,p2,p3,p4,p5,p6,p7,p8,p9,p10,p11,p12,p13]:=⟨h0,h1,h2,h3,h4,h5,h6,h7,h8,h9,h10,h11,h12,h13,trivial⟩
theorem aa1 {p0 p1 p2 p3 p4 p5 p6 p7 p8 p9 p10 p11 p12 p13 p14 p15:Prop} (h0:p0) (h1:p1) (h2:p2) (h3:p3) (h4:p4) (h5:p5) (h6:p6) (h7:p7) (h8:p8) (h9:p9) (h10:p10) (h11:p11) (h12:p12) (h13:p13) (h14:p14) (h15:p15):cA [p0,p1,p2,p3,p4,p5,p6,p7,p8,p9,p10,p11,p12,p13,p14,p15]:=⟨h0,h1,h2,h3,h4,h5,h6,h7,h8,h9,h10,h11,h12,h13,h14,h15,trivial⟩
theorem aa2 {p0 p1 p2 p3 p4 p5 p6 p7 p8 p9 p10 p11 p12 p13 p14 p15 p16 p17 p18:Prop} (h0:p0) (h1:p1) (h2:p2) (h3:p3) (h4:p4) (h5:p5) (h6:p6) (h7:p7) (h8:p8) (h9:p9) (h10:p10) (h11:p11) (h12:p12) (h13:p13) (h14:p14) (h15:p15) (h16:p16) (h17:p17) (h18:p18):cA [p0,p1,p2,p3,p4,p5,p6,p7,p8,p9,p10,p11,p12,p13,p14,p15,p16,p17,p18]:=⟨h0,h1,h2,h3,h4,h5,h6,h7,h8,h9,h10,h11,h12,h13,h14,h15,h16,h17,h18,trivial⟩
theorem dJ:∀{l:List Prop},cA l→∀p,p∈l→p
 |[],_,p,h=>by simp at h
 |q::r,h,p,hp=>by
  rcases List.mem_cons.1 hp with rfl|hp
  ·exact h.1
  ·exact dJ h.2 p hp
def mV (P:Program) (n base:Nat) (c:Code) (sc:List cv) (st:St) (slots:List Nat) (tb:List (Nat×Rk)):Option (cw×St×List Prop):=
 match fy P n base c sc st with
 |some (e,st1,cs,[])=>match iG slots tb st1 with
  |some (st2,cs2)=>some (e,st2,cs.map iy.p++cs2)
  |none=>none
 |_=>none
theorem vO {P:Program} (hmix:P.follows .mixedOrders=true) {n base:Nat} {c:Code} {sc:List cv} {st st':St} {slots:List Nat} {tb:List (Nat×Rk)} {e:cw} {cs:List Prop} (h:mV P n base c sc st slots tb=some (e,st',cs)) (hc:cA cs):
  cf P n c st e st':=by
 unfold mV at h
 split at h
 ·rename_i e1 st1 cs1 h1
  cases hr:iG slots tb st1 with
  |none=>rw [hr] at h;cases h
  |some x=>
   obtain ⟨s2,c2⟩:=x
   rw [hr] at h
   injection h with h
   simp only [Prod.mk.injEq] at h
   obtain ⟨rfl,rfl,rfl⟩:=h
   have hm:=dJ hc
   exact (oV hmix c h1 fun p hp=>hm p.p (List.mem_append_left _ (List.mem_map.2 ⟨p,hp,rfl⟩))).gV (er hr fun p hp=>hm p (List.mem_append_right _ hp))
 ·cases h
theorem bA {n:Int} (h1:0≤n) (h2:n<9223372036854775808):IntKind.wrap .i64 n=n:=by
 simp only [IntKind.wrap,IntKind.bits,IntKind.signed]
 simp
 omega
theorem w1 (i:Int) (h:0≤i+1∧i+1<9223372036854775808):IntKind.wrap .i64 (i+1)=i+1:=bA h.1 h.2
def mW (l:List ByteArray) (s:ByteArray):Bool:=l.any fun x=>decide (x=s)
theorem ko {l:List ByteArray} {s:ByteArray}:mW l s=true↔s∈l:=by
 unfold mW
 rw [List.any_eq_true]
 constructor
 ·rintro ⟨x,hx,h⟩
  have:x=s:=by simpa using h
  exact this▸hx
 ·exact fun h=>⟨s,h,by simp⟩
section
section
variable {P:Program} {F:Fr} {S:df} {β:bn} {hp:List (Nat×Ob)} {w w':World}
theorem b7.I2 (M:b7 F S β hp w) (h:Go.RowKit.Below w.heap.size w w'):b7 F S β hp w':=by
 exact (M.lO (S':=S) (fun _ h=>h) (fun _ h=> .inl h) (fun b hb=>Nat.lt_of_lt_of_le (M.sub b hb) h.size) h.os h.tape h.output h.size h.block).2
end
structure Tm where
 v:ByteArray
 k:Int
 n:Int
 s:ByteArray
@[reducible] def Tm.av (t:Tm):AV:= .al [.J t.v,.aP .i8 t.k,.aP .i64 t.n,.J t.s]
def CD (b:UInt8):AV:= .aP .u8 b.toNat
end
end Go.Ped
namespace Go.Ped
open Go.RowKit Go.Maps Go.Sort Go.ChangeMaps
open Go.WideElems (Fit rd rg rd_mk rg_of)
open Go.Proofs (encStr)
section
def cg:List AV→Option (List (List UInt8))
 |[]=>some []
 | .J s::r=>match cg r with
   |some l=>some (s.data.toList::l)
   |none=>none
 |_=>none
def xW (x:List UInt8):List (List UInt8)→List (List UInt8)
 |[]=>[x]
 |y::r=>bif leB x y then x::y::r else y::xW x r
def ig:List (List UInt8)→List (List UInt8)
 |[]=>[]
 |x::r=>xW x (ig r)
theorem NM (a b:List UInt8):leB a b=true∨leB b a=true:=by
 grind
theorem ta {a b c:List UInt8} (h1:leB a b=true) (h2:leB b c=true):leB a c=true:=by
 grind
theorem n3 (x:List UInt8):∀(l:List (List UInt8)),(xW x l).Perm (x::l)
 |[]=> .refl _
 |y::r=>by
  simp only [xW]
  cases h:leB x y with
  |true=>rfl
  |false=>exact ((n3 x r).cons y).trans (.swap x y r)
theorem oX (x:List UInt8):∀(l:List (List UInt8)),l.Pairwise (fun a b=>leB a b=true)→(xW x l).Pairwise (fun a b=>leB a b=true)
 |[],_=>by simp [xW]
 |y::r,h=>by
  simp only [xW]
  cases hx:leB x y with
  |true=>
   refine List.pairwise_cons.2 ⟨fun b hb=> ?_,h⟩
   rcases List.mem_cons.1 hb with rfl|hb
   all_goals grind[ta,List.pairwise_cons]
  |false=>
   obtain ⟨h1,h2⟩:=List.pairwise_cons.1 h
   refine List.pairwise_cons.2 ⟨fun b hb=> ?_,oX x r h2⟩
   rcases List.mem_cons.1 ((n3 x r).mem_iff.1 hb) with rfl|hb
   all_goals grind
theorem jc:∀(l:List (List UInt8)),(ig l).Perm l
 |[]=> .refl _
 |x::r=>(n3 x _).trans ((jc r).cons x)
theorem mX:∀(l:List (List UInt8)),(ig l).Pairwise (fun a b=>leB a b=true)
 |[]=>List.Pairwise.nil
 |x::r=>oX x _ (mX r)
theorem CE {l l':List (List UInt8)} (h:l.Perm l'):l.mergeSort leB=ig l':=by
 have tr:∀a b c:List UInt8,leB a b=true→leB b c=true→leB a c=true:=fun a b c=>ta
 have to:∀a b:List UInt8,(leB a b||leB b a)=true:=fun a b=>by grind
 refine List.Perm.eq_of_pairwise (le:=fun a b=>leB a b=true) (fun a b _ _ h1 h2=> ?_) (List.pairwise_mergeSort tr to l) (mX l') (((List.mergeSort_perm l leB).trans h).trans (jc l').symm)
 grind
def uo (f it:Nat):um:=fun g xs pre nb=>
 bif Nat.beq g f then
  match xs with
  |[.bZ i [] [.aA b 0 0]]=>bif Nat.beq i it then
    match ae pre b with
    |some (.an [.aI m])=>(match ae pre m with
     |some (.aI ks _)=>(match cg ks with
      |some ts=>bif ts.all (fun t=>Nat.ble t.length 1000000)&&Nat.ble ts.length 100000000 then some (.aF ((ig ts).map fun l=> .J ⟨l.toArray⟩) false,[],nb) else none
      |none=>none)
     |_=>none)
    |_=>none
   else none
  |_=>none
 else none
theorem oY:∀{ks:List AV} {ts:List (List UInt8)},cg ks=some ts→ks=ts.map fun l=> .J ⟨l.toArray⟩
 |[],ts,h=>by grind[cg]
 | .J s::r,ts,h=>by
   simp only [cg] at h
   split at h
   ·rename_i l hl
    injection h with h
    subst h
    rw [List.map_cons,←oY hl]
   grind
 | .aP _ _::_,_,h=>by grind[cg]
 | .ak _::_,_,h=>by grind[cg]
 | .al _::_,_,h=>by grind[cg]
 | .bC _::_,_,h=>by grind[cg]
 | .aF _ _::_,_,h=>by grind[cg]
 | .ab::_,_,h=>by grind[cg]
 | .aw _ _ _::_,_,h=>by grind[cg]
 | .aE _::_,_,h=>by grind[cg]
 | .aA _ _ _::_,_,h=>by grind[cg]
 | .eK::_,_,h=>by grind[cg]
 | .aI _::_,_,h=>by grind[cg]
 | .bH _ _::_,_,h=>by grind[cg]
 | .aQ _ _::_,_,h=>by grind[cg]
 | .bh::_,_,h=>by grind[cg]
 | .bZ _ _ _::_,_,h=>by grind[cg]
 | .eU::_,_,h=>by grind[cg]
 | .bu _ _::_,_,h=>by grind[cg]
 | .eV::_,_,h=>by grind[cg]
 | .aX _ _::_,_,h=>by grind[cg]
 | .mB::_,_,h=>by grind[cg]
 | .aB::_,_,h=>by grind[cg]
def qm:Value→Option (DataW Unit×List MemPlace):=fun _=>some (.lit (.bool false),[])
section
variable {P:Program}
def ql (P:Program) (f it kt:Nat):Prop:=
 ∀(Bm b nn:Nat) (D0:DataW Unit) (w:World),Bm<w.heap.size→w.cell? ⟨Bm,0,none⟩=some (.map (some b))→w.ownsMap P kt qm b nn D0→Maps.size D0≤maxLen→Maps.size D0*16≤140737488355328→
  Calls P f #[.func (.func it) #[] #[.pointer (some ⟨Bm,0,none⟩)]] w fun e w'=>∃(v:Value) (ss:List (List UInt8)),e= .returned v∧ss.Perm (strKeys D0)∧
   w'.ownsRow w.heap.size kt 1 v ss.length ((ss.mergeSort leB).map encStr)∧Go.RowKit.Below w.heap.size w w'
theorem xX {f it kt:Nat} (hk:P.underlying kt=some .string) (hS:ql P f it kt):(uo f it).ok P:=by
 intro g xs pre nb r upd nb' h
 unfold uo at h
 cases hg:Nat.beq g f with
 |false=>grind
 |true=>
  rw [hg] at h
  simp only [cond_true] at h
  have hgf:g=f:=Nat.eq_of_beq_eq_true hg
  subst hgf
  split at h
  ·rename_i i b
   cases hi:Nat.beq i it with
   |false=>grind
   |true=>
    rw [hi] at h
    simp only [cond_true] at h
    have hii:i=it:=Nat.eq_of_beq_eq_true hi
    subst hii
    split at h
    ·rename_i m hb
     split at h
     ·rename_i ks vals hm
      split at h
      ·rename_i ts hts
       cases hsz:(ts.all (fun t=>Nat.ble t.length 1000000)&&Nat.ble ts.length 100000000) with
       |false=>grind
       |true=>
        rw [hsz] at h
        simp only [cond_true] at h
        injection h with h
        simp only [Prod.mk.injEq] at h
        obtain ⟨rfl,rfl,rfl⟩:=h
        rw [Bool.and_eq_true] at hsz
        have hlen:∀t,t∈ts→t.length≤1000000:=fun t ht=>Nat.le_of_ble_eq_true (List.all_eq_true.1 hsz.1 t ht)
        have hlen2:ts.length≤100000000:=Nat.le_of_ble_eq_true hsz.2
        have hks:=oY hts
        intro F S β hp w vs M hvl hV hpre hupd
        match vs,hvl with
        |[v0],_=>
        have hv0:=hV 0 v0 _ rfl rfl
        cases hv0 with
        |bZ _ fs gs _ _ hf hg hfv hgv=>
        match fs,gs,hf,hg with
        |[],[u0],_,_=>
        have hu0:=hgv 0 u0 _ rfl rfl
        cases hu0 with
        |aA _ _ _ bi hbi=>
        have hb':=hpre b _ (cL hb)
        have hm':=hpre m _ (cL hm)
        obtain ⟨bj,q1,q2,cur,ty,r1,r2,r3,r4,r5,r6⟩:=M.dg b _ hb'
        rw [hbi] at q1;injection q1 with q1;subst q1
        obtain ⟨u1,hu1,hVu⟩:=r6 0 0 (.al [.aI m]) (.aI m) rfl rfl
        cases hVu with
        |aI _ bm hbm=>
        obtain ⟨bm',es,cl,t1,t2,t3,t4,t5,t6,t7⟩:=M.dg m _ hm'
        rw [hbm] at t1;injection t1 with t1;subst t1
        have hst:MapKept.Stamped es cl:=t7 (by rw [hks,List.all_map];exact List.all_eq_true.2 fun _ _=>rfl)
        have hkey:∀(j:Nat) e,es[j]? =some e→∃t,ts[j]? =some t∧e.key=encStr t:=by
         intro j e he
         have hj:j<ts.length:=by
          grind
         have hkj:ks[j]? =some (.J ⟨(ts[j]).toArray⟩):=by grind
         have hv:=t5 j e _ he hkj
         generalize e.key=ek at hv
         cases hv
         simp
        have hread:∀(j:Nat) e,es[j]? =some e→∃t,ts[j]? =some t∧rd P kt qm e=some (.string t,.lit (.bool false)):=by
         intro j e he
         obtain ⟨t,h1,h2⟩:=hkey j e he
         refine ⟨t,h1,?_⟩
         have ht:=hlen t (List.mem_of_getElem? h1)
         have hko:keyOf P kt e.key=some (.string t):=by
          rw [h2]
          have hsz':(⟨t.toArray⟩:ByteArray).size=t.length:=by
           rfl
          simp only [keyOf,hk,mapKey,encStr]
          rw [if_pos (by grind[maxLen])]
         obtain ⟨ek,ev,eb⟩:=e
         exact rd_mk (R:=qm) hko rfl
        have hfit:Fit P kt qm es cl:=by
         refine ⟨by simp only [maxLen];grind,hst,fun x hx=> ?_⟩
         obtain ⟨j,hj⟩:=List.mem_iff_getElem?.1 hx
         grind
        have hrg:es.toList.map (rg P kt qm)=ts.map fun t=>(.string t,.lit (.bool false)):=by
         apply List.ext_getElem?
         intro j
         rw [List.getElem?_map,List.getElem?_map,Array.getElem?_toList]
         cases hj:es[j]? with
         |none=>
          grind
         |some e=>
          obtain ⟨t,h1,h2⟩:=hread j e hj
          rw [h1]
          simp only [Option.map_some]
          rw [rg_of h2]
        have hown:w.ownsMap P kt qm bm.bG es.size (.map ((es.toList.map (rg P kt qm)).foldr DataW.insert [])):=⟨es,cl,t2,hfit,Nat.le_refl _,rfl⟩
        have hperm:(strKeys (DataW.map ((es.toList.map (rg P kt qm)).foldr DataW.insert []))).Perm ts:=by
         show (((es.toList.map (rg P kt qm)).foldr DataW.insert []).map fun p=>strOf p.1).Perm ts
         have h1:=(Go.WideShapes.sorted_perm (es.toList.map (rg P kt qm))).map fun p:Lit×DataW Unit=>strOf p.1
         refine h1.trans ?_
         rw [hrg,List.map_map]
         have:ts.map ((fun p:Lit×DataW Unit=>strOf p.1)∘fun t=>(.string t,.lit (.bool false)))=ts:=by
          apply List.ext_getElem?
          intro j
          rw [List.getElem?_map]
          cases ts[j]? <;>rfl
         grind
        have hsize:Maps.size (DataW.map ((es.toList.map (rg P kt qm)).foldr DataW.insert []))≤es.size:=hown.size_le
        have h2:ks.length=ts.length:=by grind
        have hcell:w.cell? ⟨bi.bG,0,none⟩=some (.map (some bm.bG)):=by
         grind[cK]
        have hblk:bi.bG<w.heap.size:=(M.aX b bi hbi).2.1
        have hcall:=hS bi.bG bm.bG es.size _ w hblk hcell hown (by grind[maxLen]) (by omega)
        have hargs:([Value.func (.func i) ([]:List Value).toArray [Value.pointer (some ⟨bi.bG,0*bi.sz+0,none⟩)].toArray]).toArray= #[.func (.func i) #[] #[.pointer (some ⟨bi.bG,0,none⟩)]]:=by
         simp
        rw [hargs]
        refine hcall.mono ?_
        rintro e w' ⟨v,ss,rfl,hss,hrow,hbel⟩
        have hsort:ss.mergeSort leB=ig ts:=CE (hss.trans hperm)
        rw [hsort] at hrow
        have hssl:ss.length=(ig ts).length:=by
         have:=(hss.trans hperm).length_eq
         rw [this,(jc ts).length_eq]
        rw [hssl] at hrow
        obtain ⟨_,hrow⟩:=hrow
        have hold:∀b,b<w.heap.size→w'.heap[b]? =w.heap[b]? :=hbel.block
        rcases hrow with ⟨rfl,hz⟩|⟨gb,cap,cur',rfl,hbase,hgb,s1,s2,s3,s4⟩
        ·have hnil:ig ts=[]:=List.eq_nil_of_length_eq_zero hz
         refine ⟨_,S,β,rfl,⟨fun _ h=>h,fun _ _ h=>h,fun b hb=>hold b (M.sub b hb)⟩,?_,?_⟩
         ·grind[M.I2]
         ·rw [hnil]
          exact .aF none 0 0 0 0 [] false (fun _ _=>undef) (by simp) (by simp) (fun h=>by rfl) (fun h=>absurd rfl h) (by simp) (by simp) (by simp)
        ·refine ⟨_,fun b=>S b∨b=gb,β,rfl,⟨fun _ h=> .inl h,fun _ _ h=>h,fun b hb=>hold b (M.sub b hb)⟩,?_,?_⟩
         ·exact (M.lO (S':=fun b=>S b∨b=gb) (fun _ h=> .inl h) (fun b h=>h.elim .inl (fun e=> .inr (e▸hbase))) (fun b h=>h.elim (fun h=>Nat.lt_of_lt_of_le (M.sub b h) hbel.size) (fun e=>e▸(Array.getElem?_eq_some_iff.1 hgb).1)) hbel.os hbel.tape hbel.output hbel.size hold).2
         ·have hV:=V.aF (S:=fun b=>S b∨b=gb) (β:=β) (w:=w') (some ⟨gb,0,none⟩) cap 1 gb 0 ((ig ts).map fun l=> .J ⟨l.toArray⟩) false (fun i _=>encStr ((ig ts).getD i [])) (by grind) s2 (fun h=>by grind) (fun _=>⟨rfl,.inr rfl⟩)
           (fun i e he=>by
            rw [List.getElem?_map] at he
            obtain ⟨t,_,rfl⟩:=Option.map_eq_some_iff.1 he
            rfl)
           (fun i j e c he hc=>by
            rw [List.getElem?_map] at he
            obtain ⟨t,ht,rfl⟩:=Option.map_eq_some_iff.1 he
            match j with
            |0=>
             rw [cK hgb]
             have h1:(cur'.toList.take ((ig ts).length*1))[i]? =some (encStr t):=by grind
             grind
            |j+1=>grind[AV.ac])
           (fun i j e c he hc=>by
            rw [List.getElem?_map] at he
            obtain ⟨t,ht,rfl⟩:=Option.map_eq_some_iff.1 he
            match j with
            |0=>
             simp only [AV.ac,List.getElem?_cons_zero] at hc
             injection hc with hc
             subst hc
             rw [List.getD_eq_getElem?_getD,ht]
             exact .J _
            |j+1=>grind[AV.ac])
          grind
      grind
     grind
    grind
  grind
end
end
end Go.Ped
namespace Go.Ped
open Go.RowKit
end Go.Ped
set_option linter.unusedVariables false
namespace Go.Proofs
open Go.RowKit Go.Maps Go.Sort Go.Shelf
def Tryz.keys131_ren:Go.Shelf.Ren:=⟨fun|7=>131|10=>182|n=>n,fun|23=>182|26=>9|3=>3|28=>188|0=>0|27=>187|33=>114|4=>4|n=>n,fun|n=>n⟩
theorem Tryz.keys131:Go.Proofs.SlLaysZ.n7 Tryz.prog Tryz.keys131_ren:={
 mixed:=by rfl
 f7:=⟨Tryz.f131.name,by decide,Tryz.func131.trans (congrArg some (by rfl))⟩
 f10:=⟨Tryz.f182.name,by decide,Tryz.func182.trans (congrArg some (by rfl))⟩
 t0:=Tryz.underlying0
 a0:=Tryz.isAgg0
 z0:=Tryz.sizeOf0
 v0:=Tryz.zeroValue0
 t4:=Tryz.underlying4
 a4:=Tryz.isAgg4
 z4:=Tryz.sizeOf4
 v4:=Tryz.zeroValue4
 t23:=Tryz.underlying182
 a23:=Tryz.isAgg182
 z23:=Tryz.sizeOf182
 v23:=Tryz.zeroValue182
 t26:=Tryz.underlying9
 a26:=Tryz.isAgg9
 z26:=Tryz.sizeOf9
 v26:=Tryz.zeroValue9
 t27:=Tryz.underlying187
 a27:=Tryz.isAgg187
 z27:=Tryz.sizeOf187
 v27:=Tryz.zeroValue187
 t28:=Tryz.underlying188
 a28:=Tryz.isAgg188
 z28:=Tryz.sizeOf188
 v28:=Tryz.zeroValue188
 t33:=Tryz.underlying114
 a33:=Tryz.isAgg114
 z33:=Tryz.sizeOf114
 v33:=Tryz.zeroValue114}
def Tryz.sorted130_ren:Go.Shelf.Ren:=⟨fun|6=>130|8=>180|9=>181|11=>215|13=>217|12=>216|23=>258|24=>259|14=>249|15=>250|16=>251|17=>252|18=>253|19=>254|20=>255|21=>256|22=>257|25=>276|26=>277|27=>278|28=>279|29=>280|30=>281|31=>287|n=>n,fun|26=>9|28=>188|24=>25|0=>0|3=>3|37=>261|48=>279|50=>204|4=>4|40=>289|39=>288|45=>88|5=>5|9=>9|51=>310|55=>314|57=>317|58=>318|33=>114|n=>n,fun|n=>n⟩
theorem Tryz.sorted130:Go.Proofs.SlLaysZ.n6 Tryz.prog Tryz.sorted130_ren:={
 mixed:=by rfl
 f6:=⟨Tryz.f130.name,by decide,Tryz.func130.trans (congrArg some (by rfl))⟩
 f8:=⟨Tryz.f180.name,by decide,Tryz.func180.trans (congrArg some (by rfl))⟩
 f11:=⟨Tryz.f215.name,by decide,Tryz.func215.trans (congrArg some (by rfl))⟩
 t0:=Tryz.underlying0
 a0:=Tryz.isAgg0
 z0:=Tryz.sizeOf0
 v0:=Tryz.zeroValue0
 t24:=Tryz.underlying25
 a24:=Tryz.isAgg25
 z24:=Tryz.sizeOf25
 v24:=Tryz.zeroValue25
 t26:=Tryz.underlying9
 a26:=Tryz.isAgg9
 z26:=Tryz.sizeOf9
 v26:=Tryz.zeroValue9
 t28:=Tryz.underlying188
 a28:=Tryz.isAgg188
 z28:=Tryz.sizeOf188
 v28:=Tryz.zeroValue188
 i26:=by kernel_rfl}
def Tryz.sort181_ren:Go.Shelf.Ren:=⟨fun|6=>181|8=>217|9=>216|19=>258|20=>259|21=>249|22=>250|23=>251|24=>252|25=>253|26=>254|27=>255|28=>256|29=>257|36=>276|31=>277|32=>278|37=>279|38=>280|39=>281|41=>287|n=>n,fun|27=>25|29=>9|3=>3|32=>261|26=>25|0=>0|44=>279|46=>204|4=>4|36=>289|35=>288|41=>88|5=>5|9=>9|53=>310|57=>314|63=>317|64=>318|n=>n,fun|n=>n⟩
theorem Tryz.sort181:Go.Proofs.SlLaysM.n6 Tryz.prog Tryz.sort181_ren:={
 mixed:=by rfl
 f6:=⟨Tryz.f181.name,by decide,Tryz.func181.trans (congrArg some (by rfl))⟩
 f8:=Tryz.func217.trans (congrArg some (by rfl))
 f9:=⟨Tryz.f216.name,by decide,Tryz.func216.trans (congrArg some (by rfl))⟩
 f19:=Tryz.func258.trans (congrArg some (by rfl))
 f20:=Tryz.func259.trans (congrArg some (by rfl))
 f21:=⟨Tryz.f249.name,by decide,Tryz.func249.trans (congrArg some (by rfl))⟩
 f22:=⟨Tryz.f250.name,by decide,Tryz.func250.trans (congrArg some (by rfl))⟩
 f23:=⟨Tryz.f251.name,by decide,Tryz.func251.trans (congrArg some (by rfl))⟩
 f24:=⟨Tryz.f252.name,by decide,Tryz.func252.trans (congrArg some (by rfl))⟩
 f25:=⟨Tryz.f253.name,by decide,Tryz.func253.trans (congrArg some (by rfl))⟩
 f26:=⟨Tryz.f254.name,by decide,Tryz.func254.trans (congrArg some (by rfl))⟩
 f27:=⟨Tryz.f255.name,by decide,Tryz.func255.trans (congrArg some (by rfl))⟩
 f28:=⟨Tryz.f256.name,by decide,Tryz.func256.trans (congrArg some (by rfl))⟩
 f29:=⟨Tryz.f257.name,by decide,Tryz.func257.trans (congrArg some (by rfl))⟩
 f31:=Tryz.func277.trans (congrArg some (by rfl))
 f32:=Tryz.func278.trans (congrArg some (by rfl))
 f36:=⟨Tryz.f276.name,by decide,Tryz.func276.trans (congrArg some (by rfl))⟩
 f37:=⟨Tryz.f279.name,by decide,Tryz.func279.trans (congrArg some (by rfl))⟩
 f38:=⟨Tryz.f280.name,by decide,Tryz.func280.trans (congrArg some (by rfl))⟩
 f39:=⟨Tryz.f281.name,by decide,Tryz.func281.trans (congrArg some (by rfl))⟩
 f41:=⟨Tryz.f287.name,by decide,Tryz.func287.trans (congrArg some (by rfl))⟩
 t0:=Tryz.underlying0
 a0:=Tryz.isAgg0
 z0:=Tryz.sizeOf0
 v0:=Tryz.zeroValue0
 t3:=Tryz.underlying3
 a3:=Tryz.isAgg3
 z3:=Tryz.sizeOf3
 v3:=Tryz.zeroValue3
 t4:=Tryz.underlying4
 a4:=Tryz.isAgg4
 z4:=Tryz.sizeOf4
 v4:=Tryz.zeroValue4
 t5:=Tryz.underlying5
 a5:=Tryz.isAgg5
 z5:=Tryz.sizeOf5
 v5:=Tryz.zeroValue5
 t9:=Tryz.underlying9
 a9:=Tryz.isAgg9
 z9:=Tryz.sizeOf9
 v9:=Tryz.zeroValue9
 t26:=Tryz.underlying25
 a26:=Tryz.isAgg25
 z26:=Tryz.sizeOf25
 v26:=Tryz.zeroValue25
 t27:=Tryz.underlying25
 a27:=Tryz.isAgg25
 z27:=Tryz.sizeOf25
 v27:=Tryz.zeroValue25
 t29:=Tryz.underlying9
 a29:=Tryz.isAgg9
 z29:=Tryz.sizeOf9
 v29:=Tryz.zeroValue9
 t32:=Tryz.underlying261
 a32:=Tryz.isAgg261
 z32:=Tryz.sizeOf261
 v32:=Tryz.zeroValue261
 t35:=Tryz.underlying288
 a35:=Tryz.isAgg288
 z35:=Tryz.sizeOf288
 v35:=Tryz.zeroValue288
 t36:=Tryz.underlying289
 a36:=Tryz.isAgg289
 z36:=Tryz.sizeOf289
 v36:=Tryz.zeroValue289
 t41:=Tryz.underlying88
 a41:=Tryz.isAgg88
 z41:=Tryz.sizeOf88
 v41:=Tryz.zeroValue88
 t44:=Tryz.underlying279
 a44:=Tryz.isAgg279
 z44:=Tryz.sizeOf279
 v44:=Tryz.zeroValue279
 t46:=Tryz.underlying204
 a46:=Tryz.isAgg204
 z46:=Tryz.sizeOf204
 v46:=Tryz.zeroValue204
 t53:=Tryz.underlying310
 a53:=Tryz.isAgg310
 z53:=Tryz.sizeOf310
 v53:=Tryz.zeroValue310
 t57:=Tryz.underlying314
 a57:=Tryz.isAgg314
 z57:=Tryz.sizeOf314
 v57:=Tryz.zeroValue314
 t63:=Tryz.underlying317
 a63:=Tryz.isAgg317
 z63:=Tryz.sizeOf317
 v63:=Tryz.zeroValue317
 t64:=Tryz.underlying318
 a64:=Tryz.isAgg318
 z64:=Tryz.sizeOf318
 v64:=Tryz.zeroValue318}
theorem Tryz.sorts130 (m:Nat):AnyZ.SortsIn Tryz.prog Tryz.sorted130_ren Fence.wide m:=
 ⟨fun blk off cap ss W hH hblk hsz=>callsIn_wide.2 (AnyM.slices_Sort_string Tryz.sort181 blk off cap ss W hH hblk hsz),
  fun p cap W=>callsIn_wide.2 (AnyM.slices_Sort_string_none Tryz.sort181 p cap W)⟩
set_option maxHeartbeats 1000000 in
theorem Tryz.sortedSaid:Go.Ped.ql Tryz.prog 130 182 9:=by
 intro Bm b nn D0 w hBm hcell hown hmax hbytes
 have hseq:SeqGives Fence.wide 2 Tryz.prog 182 #[.pointer (some ⟨Bm,0,none⟩)] encStr (fun ss=>ss.Perm (strKeys D0)) (Maps.size D0) w:=
  AnyZ.keys_gives (ρ:=Tryz.keys131_ren) {Tryz.keys131 with} Fence.wide _ trivial rfl (by omega) Bm b nn D0 w hBm hcell hown
 have h:=AnyZ.sorted_in Tryz.sorted130 Fence.wide 5 trivial trivial trivial trivial rfl (by omega) (Tryz.sorts130 _) (enters_of Tryz.func181 (by rfl) rfl) 182 #[.pointer (some ⟨Bm,0,none⟩)] trivial (enters_of Tryz.func182 (by rfl) rfl) _ _ hmax hbytes _ hseq
 refine (callsIn_wide.1 h).mono ?_
 rintro e w' ⟨v,ss,rfl,hS,hrow,_,hb⟩
 exact ⟨v,ss,rfl,hS,hrow,hb⟩
end Go.Proofs
namespace Go.Ped
open Go.Proofs
theorem qo:Tryz.prog.follows .mixedOrders=true:=by rfl
def srt:um:=uo 130 182
theorem Kx:srt.ok Tryz.prog:=xX (kt:=9) Tryz.underlying9 Tryz.sortedSaid
end Go.Ped
set_option linter.unusedVariables false
namespace Go.Proofs
open Go.RowKit Go.Maps Go.Sort Go.Shelf
def Tryz.itoa86_ren:Go.Shelf.Ren:=⟨fun|171=>86|243=>142|246=>189|283=>222|284=>223|285=>224|286=>225|129=>259|317=>261|318=>262|319=>263|320=>264|337=>282|338=>283|n=>n,fun|3=>3|9=>9|2=>2|4=>4|171=>265|0=>0|53=>204|37=>83|5=>5|173=>268|212=>298|51=>279|20=>20|213=>299|46=>261|232=>320|233=>321|n=>n,fun|17=>0|18=>1|19=>2|n=>n⟩
theorem Tryz.itoa86:Go.Proofs.LaysM.n171 Tryz.prog Tryz.itoa86_ren:={
 mixed:=by rfl
 f129:=Tryz.func259.trans (congrArg some (by rfl))
 f171:=Tryz.func86.trans (congrArg some (by rfl))
 f243:=Tryz.func142.trans (congrArg some (by rfl))
 f246:=Tryz.func189.trans (congrArg some (by rfl))
 f283:=Tryz.func222.trans (congrArg some (by rfl))
 f284:=Tryz.func223.trans (congrArg some (by rfl))
 f285:=Tryz.func224.trans (congrArg some (by rfl))
 f286:=Tryz.func225.trans (congrArg some (by rfl))
 f317:=Tryz.func261.trans (congrArg some (by rfl))
 f318:=Tryz.func262.trans (congrArg some (by rfl))
 f319:=Tryz.func263.trans (congrArg some (by rfl))
 f320:=Tryz.func264.trans (congrArg some (by rfl))
 f337:=Tryz.func282.trans (congrArg some (by rfl))
 f338:=Tryz.func283.trans (congrArg some (by rfl))
 t0:=Tryz.underlying0
 a0:=Tryz.isAgg0
 z0:=Tryz.sizeOf0
 v0:=Tryz.zeroValue0
 t2:=Tryz.underlying2
 a2:=Tryz.isAgg2
 z2:=Tryz.sizeOf2
 v2:=Tryz.zeroValue2
 t3:=Tryz.underlying3
 a3:=Tryz.isAgg3
 z3:=Tryz.sizeOf3
 v3:=Tryz.zeroValue3
 t4:=Tryz.underlying4
 a4:=Tryz.isAgg4
 z4:=Tryz.sizeOf4
 v4:=Tryz.zeroValue4
 t5:=Tryz.underlying5
 a5:=Tryz.isAgg5
 z5:=Tryz.sizeOf5
 v5:=Tryz.zeroValue5
 t9:=Tryz.underlying9
 a9:=Tryz.isAgg9
 z9:=Tryz.sizeOf9
 v9:=Tryz.zeroValue9
 t20:=Tryz.underlying20
 a20:=Tryz.isAgg20
 z20:=Tryz.sizeOf20
 v20:=Tryz.zeroValue20
 t37:=Tryz.underlying83
 a37:=Tryz.isAgg83
 z37:=Tryz.sizeOf83
 v37:=Tryz.zeroValue83
 t46:=Tryz.underlying261
 a46:=Tryz.isAgg261
 z46:=Tryz.sizeOf261
 v46:=Tryz.zeroValue261
 t51:=Tryz.underlying279
 a51:=Tryz.isAgg279
 z51:=Tryz.sizeOf279
 v51:=Tryz.zeroValue279
 t53:=Tryz.underlying204
 a53:=Tryz.isAgg204
 z53:=Tryz.sizeOf204
 v53:=Tryz.zeroValue204
 t171:=Tryz.underlying265
 a171:=Tryz.isAgg265
 z171:=Tryz.sizeOf265
 v171:=Tryz.zeroValue265
 t173:=Tryz.underlying268
 a173:=Tryz.isAgg268
 z173:=Tryz.sizeOf268
 v173:=Tryz.zeroValue268
 t212:=Tryz.underlying298
 a212:=Tryz.isAgg298
 z212:=Tryz.sizeOf298
 v212:=Tryz.zeroValue298
 t213:=Tryz.underlying299
 a213:=Tryz.isAgg299
 z213:=Tryz.sizeOf299
 t232:=Tryz.underlying320
 a232:=Tryz.isAgg320
 z232:=Tryz.sizeOf320
 v232:=Tryz.zeroValue320
 t233:=Tryz.underlying321
 a233:=Tryz.isAgg321
 z233:=Tryz.sizeOf321
 v233:=Tryz.zeroValue321
 g17:=by kernel_rfl
 g18:=by kernel_rfl
 g19:=by kernel_rfl
 i0:=by kernel_rfl
 i2:=by kernel_rfl
 i3:=by kernel_rfl
 i4:=by kernel_rfl
 i5:=by kernel_rfl
 i9:=by kernel_rfl
 i20:=by kernel_rfl
 i37:=by kernel_rfl
 i46:=by kernel_rfl
 i51:=by kernel_rfl
 i53:=by kernel_rfl
 i171:=by kernel_rfl
 i173:=by kernel_rfl
 i212:=by kernel_rfl
 i232:=by kernel_rfl
 i233:=by kernel_rfl
 m17:=by rfl
 m18:=by rfl
 m19:=by rfl}
theorem Tryz.gTab:Tryz.prog.globalNamed "internal/strconv.uint64pow10" =some 0:=by rfl
end Go.Proofs
namespace Go.Ped
open Go.RowKit Go.Proofs Go.Sort
theorem Od {w:World} (h:B7 w):Lib.TabIs Tryz.prog w "internal/strconv.uint64pow10" .u64 Lib.pow10Tab:=by
 obtain ⟨t,fz,h⟩:=h
 grind[Lib.TabIs,World.var?,Tryz.gTab]
theorem Ft {w:World} (h:Lib.TabIs Tryz.prog w "internal/strconv.uint64pow10" .u64 Lib.pow10Tab):B7 w:=by
 unfold Lib.TabIs World.var? at h
 rw [Tryz.gTab] at h
 simp only [Option.bind_some] at h
 split at h
 ·rename_i cs t fz hw
  injection h with h
  subst h
  exact ⟨t,fz,hw⟩
 grind
theorem kU (n:Int) (h0: -9223372036854775808≤n) (h1:n≤9223372036854775807):bK Tryz.prog 86 [.aP .i64 n] [] (.J ⟨(Lib.itoa n).toArray⟩) []:=by
 intro F S β hp w vs M hl hv _ _
 match vs,hl with
 |[v0],_=>
 have hv0:=hv 0 v0 _ rfl rfl
 cases hv0
 refine (Any.strconv_Itoa Tryz.itoa86 n h0 h1 w (Od M.tP.1)).mono ?_
 rintro e w' ⟨rfl,k,os,rfl⟩
 have hb:Go.RowKit.Below w.heap.size w (grow (w.drewN k) os):=by
  refine ⟨by rfl,by rfl,by rfl,by simp,fun b hb=> ?_⟩
  grind[grow,World.drewN,Array.getElem?_append_left]
 exact ⟨_,S,β,rfl,⟨fun _ h=>h,fun _ _ h=>h,fun b hb'=>hb.block b (M.sub b hb')⟩,M.I2 hb,.J _⟩
end Go.Ped
namespace Go.Ped
open Go.RowKit
section
section
variable {P:Program} {F:Fr} {S:df} {β:bn} {hp:List (Nat×Ob)} {w w':World}
end
theorem bJ.a6 {P:Program} {n:Nat} {c:Code} {st st1 st':St} {e:cw} {cs:List Prop} (slots:List Nat) (tb:List (Nat×Rk)) (h:bJ P n c st1 e st') (hr:iG slots tb st=some (st1,cs)) (hc:cA cs):bJ P n c st e st':=
 h.ez (er hr (dJ hc))
end
end Go.Ped
namespace Go.Ped
open Go.RowKit Go.Proofs
def xY:ByteArray:=⟨#[35,55,55,55,55,55,55]⟩
end Go.Ped
