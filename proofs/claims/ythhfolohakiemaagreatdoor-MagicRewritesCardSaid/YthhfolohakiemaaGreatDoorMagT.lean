/- What the functions of the packages magic and pedigreeref19 answer is proved for every input. -/
import Derived.Test.YthhfolohakiemaaGreatDoorMagH
import Derived.Test.YthhfolohakiemaaGreatDoorMagI
import Derived.Test.YthhfolohakiemaaGreatDoorMagJ
import Derived.Test.YthhfolohakiemaaGreatDoorMagM
import Derived.Test.YthhfolohakiemaaGreatDoorMagP
import Derived.Test.YthhfolohakiemaaGreatDoorMagS
set_option linter.all false
set_option maxRecDepth 20000
set_option maxHeartbeats 800000
namespace Go.Ped
open Go.RowKit Go.Proofs
section
def Nd:Nat→List (List UInt8)
 |0=>[[]]
 |n+1=>(Nd n).flatMap fun s=>[98::s,102::s]
theorem ld:∀{n:Nat} {s:List UInt8},s∈Nd n↔s.length=n∧∀b,b∈s→b=98∨b=102
 |0,s=>by
  simp only [Nd,List.mem_singleton]
  constructor
  ·rintro rfl;exact ⟨rfl,by simp⟩
  ·rintro ⟨h,_⟩;exact List.eq_nil_of_length_eq_zero h
 |n+1,s=>by
  simp only [Nd,List.mem_flatMap,List.mem_cons,List.not_mem_nil,or_false]
  constructor
  ·rintro ⟨q,hq,rfl|rfl⟩
   ·obtain ⟨h1,h2⟩:=ld.1 hq
    refine ⟨by simp [h1],fun b hb=> ?_⟩
    rcases List.mem_cons.1 hb with rfl|hb
    ·exact .inl rfl
    ·exact h2 b hb
   ·obtain ⟨h1,h2⟩:=ld.1 hq
    refine ⟨by simp [h1],fun b hb=> ?_⟩
    rcases List.mem_cons.1 hb with rfl|hb
    ·exact .inr rfl
    ·exact h2 b hb
  ·rintro ⟨h1,h2⟩
   cases s with
   |nil=>simp at h1
   |cons b q=>
    refine ⟨q,ld.2 ⟨by simpa using h1,fun c hc=>h2 c (by simp [hc])⟩,?_⟩
    rcases h2 b (by simp) with rfl|rfl
    ·exact .inl rfl
    ·exact .inr rfl
theorem nC (ts:List Tm) (ks:List ByteArray):sr (aW ts ks):=by
 intro b hb
 have e:(aW ts ks).data.toList=ts.map (pb ks):=by simp [aW]
 rw [e] at hb
 obtain ⟨t,_,rfl⟩:=List.mem_map.1 hb
 unfold pb
 split
 ·exact .inl rfl
 ·split
  ·exact .inr rfl
  ·cases mW ks t.v
   ·exact .inr rfl
   ·exact .inl rfl
theorem Ng:∀w:Nat,eI 1 (iv (w:Int))≤64→((Nd w).length:Int)=eI 1 (iv (w:Int))
 |0,_=>by decide
 |1,_=>by decide
 |2,_=>by decide
 |3,_=>by decide
 |4,_=>by decide
 |5,_=>by decide
 |6,_=>by decide
 |w+7,h=>by
  exfalso
  have:iv ((w+7:Nat):Int)=7:=by unfold iv;split<;>omega
  rw [this] at h
  revert h
  decide
def Nf (rules:List Ru) (D:List ByteArray):List Ad:=D.flatMap fun u=>(Nd (wd rules u)).map fun s=>(u,ByteArray.mk s.toArray)
theorem Aq (rules:List Ru):∀D:List ByteArray,sW rules D≤64→((Nf rules D).length:Int)=sW rules D
 |[],_=>rfl
 |u::r,h=>by
  have h1:=rE rules r
  obtain ⟨w0,w7⟩:=u9 ((wd rules u:Nat):Int) (by omega)
  obtain ⟨_,w2,w3⟩:=M9 w0 w7
  simp only [sW] at h⊢
  have ih:=Aq rules r (by omega)
  have hb:=Ng (wd rules u) (by omega)
  have e:Nf rules (u::r)=((Nd (wd rules u)).map fun s=>(u,ByteArray.mk s.toArray))++Nf rules r:=rfl
  rw [e,List.length_append,List.length_map]
  omega
theorem EF {l:List Ru} {B:Nat} (h:∀r,r∈l→r.hd.length≤B):pq l≤B:=by
 induction l with
 |nil=>exact Nat.zero_le _
 |cons a l ih=>
  have h1:=h a (by simp)
  have h2:=ih fun r hr=>h r (by simp [hr])
  simp only [pq];omega
section
variable {rules:List Ru} {p:ByteArray} {ts:List Tm} {am:Am}
theorem wO.wd (hok:wO rules p ts am) {r:Ru} (hr:r∈rules):Ped.wd rules r.p=r.hd.length:=by
 have h1:∀r',r'∈bx rules r.p→r'.hd.length=r.hd.length:=fun r' h=>by
  obtain ⟨h2,h3⟩:=cG.1 h
  have h4:=(hok.DZ r' h2).1
  rw [h3] at h4
  have:=mu hok.nod h4 (hok.DZ r hr).1
  omega
 have h2:=Il (cG.2 ⟨hr,rfl⟩:r∈bx rules r.p)
 have h3:=EF (l:=bx rules r.p) (B:=r.hd.length) fun r' h=>by rw [h1 r' h];omega
 unfold Ped.wd;omega
theorem uok (hB:yN rules) {rn:List ByteArray} (hrn:RN rules rn) (hok:wO rules p ts am) (hp:p∈rn):∃U:List Ad,Bx rules rn U∧(p,aW ts [])∈U:=by
 obtain ⟨rn0,D,h0,hd,hdr,hcov,hsum⟩:=hB
 have same:∀u,u∈rn0↔u∈rn:=fun u=>(h0 u).trans (hrn u).symm
 have inP:∀{a:Ad},a∈Nf rules D→a.1∈D∧a.2.size=Ped.wd rules a.1:=by
  intro a ha
  obtain ⟨u,hu,h1⟩:=List.mem_flatMap.1 ha
  obtain ⟨s,hs,rfl⟩:=List.mem_map.1 h1
  exact ⟨hu,(ld.1 hs).1⟩
 have inB:∀{a:Ad},a∈Nf rules D→sr a.2:=by
  intro a ha
  obtain ⟨u,hu,h1⟩:=List.mem_flatMap.1 ha
  obtain ⟨s,hs,rfl⟩:=List.mem_map.1 h1
  exact (ld.1 hs).2
 have mk:∀{u s:ByteArray},u∈D→s.size=Ped.wd rules u→sr s→(u,s)∈Nf rules D:=by
  intro u s hu hs hb
  refine List.mem_flatMap.2 ⟨u,hu,List.mem_map.2 ⟨s.data.toList,ld.2 ⟨hs,hb⟩,?_⟩⟩
  cases s with
  |mk d=>simp
 refine ⟨(p,aW ts [])::Nf rules D,⟨?_,fun r hr x hx hk hxp ks=> ?_,fun a ha r hr hrp=> ?_,fun a ha=> ?_,fun a ha=> ?_⟩,by simp⟩
 ·have:=Aq rules D hsum
  simp only [List.length_cons];omega
 ·refine List.mem_cons_of_mem _ (mk (hcov r hr x hx (by omega) ((same _).2 hxp)) ?_ (nC _ _))
  rw [dq]
  obtain ⟨r',h1,h2⟩:=(hrn x.p).1 hxp
  have h3:=(hok.DZ r hr).2 x hx (.inl hk)
  have h4:=(hok.DZ r' h1).1
  rw [h2] at h4
  have h5:=mu hok.nod h3 h4
  have h6:=hok.wd h1
  rw [h2] at h6
  omega
 ·rcases List.mem_cons.1 ha with rfl|ha
  ·simp only at hrp⊢
   rw [dq]
   have h4:=(hok.DZ r hr).1
   rw [hrp] at h4
   have:=hok.NV _ h4
   omega
  ·rw [(inP ha).2,←hrp];exact hok.wd hr
 ·rcases List.mem_cons.1 ha with rfl|ha
  ·refine ⟨hp,hok.JO,?_⟩
   simp only
   rw [dq];exact hok.tv
  ·obtain ⟨h1,h2⟩:=inP ha
   have h3:=(same _).1 (hdr _ h1)
   obtain ⟨r,h4,h5⟩:=(hrn _).1 h3
   obtain ⟨s1,s2,_⟩:=hok.dY r h4
   refine ⟨h3,by rw [←h5];exact s1,?_⟩
   rw [h2,←h5,hok.wd h4];exact s2
 ·rcases List.mem_cons.1 ha with rfl|ha
  ·exact nC _ _
  ·exact inB ha
end
end
theorem rG (q s:ByteArray):(aH q s).data.toList=113::95::(s.data.toList++95::q.data.toList):=by
 unfold aH
 simp [ByteArray.data_append]
theorem As:∀{s t a b:List UInt8},(∀x,x∈s→x≠95)→(∀x,x∈t→x≠95)→s++95::a=t++95::b→s=t∧a=b
 |[],[],a,b,_,_,h=>by simpa using h
 |[],y::t,a,b,_,ht,h=>by
  simp only [List.nil_append,List.cons_append,List.cons.injEq] at h
  exact absurd h.1.symm (ht y (by simp))
 |x::s,[],a,b,hs,_,h=>by
  simp only [List.nil_append,List.cons_append,List.cons.injEq] at h
  exact absurd h.1 (hs x (by simp))
 |x::s,y::t,a,b,hs,ht,h=>by
  simp only [List.cons_append,List.cons.injEq] at h
  obtain ⟨h1,h2⟩:=As (fun z hz=>hs z (by simp [hz])) (fun z hz=>ht z (by simp [hz])) h.2
  exact ⟨by rw [h.1,h1],h2⟩
theorem oK {a b:ByteArray} (h:a.data.toList=b.data.toList):a=b:=by
 cases a;cases b
 simpa using h
theorem EG {s:ByteArray} (h:sr s):∀x,x∈s.data.toList→x≠95:=fun x hx=>by
 rcases h x hx with rfl|rfl<;>decide
theorem iU {p s p' s':ByteArray} (hs:sr s) (hs':sr s') (h:aH p s=aH p' s'):p=p'∧s=s':=by
 have h1:=congrArg (fun x:ByteArray=>x.data.toList) h
 simp only [rG,List.cons.injEq,true_and] at h1
 obtain ⟨h2,h3⟩:=As (EG hs) (EG hs') h1
 exact ⟨oK h3,oK h2⟩
theorem EH (q s:ByteArray):¬np (aH q s):=by
 have hl:=rG q s
 have hsz:(aH q s).size=(aH q s).data.toList.length:=rfl
 rintro (h|h)
 ·rw [hsz,hl] at h
  have:(ByteArray.mk #[113,95]).size=2:=rfl
  rw [this] at h
  simp at h
  omega
 ·apply h
  apply oK
  have:(ByteArray.mk #[113,95]).size=2:=rfl
  rw [this,ByteArray.data_extract,Array.toList_extract,hl]
  rfl
section
variable (ts:List Tm)
def EI (rs:List Ru) (bd:List Li) (z:Li):Prop:=∃y,y∈bd∧((z=y∧¬(y.k=1∧ng rs y.p=true))∨(y.k=1∧ng rs y.p=true∧∃F,z={y with p:=aH y.p (aW y.ts F)}))
theorem pJ (rs:List Ru) (bd:List Li):∀(os:List Nat) (a:List ByteArray×List Li×List Ad),(∀z,z∈a.2.1→EI rs bd z)→∀z,z∈(os.foldl (iT rs bd) a).2.1→EI rs bd z
 |[],a,h=>h
 |o::r,a,h=>by
  rw [List.foldl_cons]
  refine pJ rs bd r _ fun z hz=> ?_
  unfold iT at hz
  cases hy:bd[o]? with
  |none=>rw [hy] at hz;exact h z hz
  |some y=>
   rw [hy] at hz
   have hm:=List.mem_of_getElem? hy
   simp only [u6] at hz
   split at hz
   ·rename_i hc
    rcases List.mem_append.1 hz with hz|hz
    ·exact h z hz
    ·exact ⟨y,hm,.inr ⟨hc.1,hc.2,a.1,List.mem_singleton.1 hz⟩⟩
   ·rename_i hc
    rcases List.mem_append.1 hz with hz|hz
    ·exact h z hz
    ·exact ⟨y,hm,.inl ⟨List.mem_singleton.1 hz,hc⟩⟩
def NZ (rs:List Ru) (L:List Ad) (r:Ru):Prop:=(∃a,a∈L∧∃r0,r0∈rs∧r0.p=a.1∧r=⟨aH a.1 a.2,r0.hd,(gZ rs r0 a.2).2.1⟩)∨∃a,a∈L∧r=ru a
theorem EJ (A:List Ad):∀(L:List Ad),L<+:A.foldl eE L:=by
 induction A with
 |nil=>intro L;exact List.prefix_rfl
 |cons a r ih=>intro L;exact (oG L a).trans (ih _)
theorem vc (rs:List Ru) (a:Ad):∀(l:List Ru) (s:List Ad×List Ru),s.1<+:(l.foldl (gT rs a) s).1∧∀r,r∈(l.foldl (gT rs a) s).2→r∈s.2∨∃r0,r0∈l∧r0.p=a.1∧r=⟨aH a.1 a.2,r0.hd,(gZ rs r0 a.2).2.1⟩
 |[],s=>⟨List.prefix_rfl,fun r h=> .inl h⟩
 |y::l,s=>by
  rw [List.foldl_cons]
  obtain ⟨h1,h2⟩:=vc rs a l (gT rs a s y)
  have k1:s.1<+:(gT rs a s y).1:=by unfold gT;split;exact EJ _ _;exact List.prefix_rfl
  refine ⟨k1.trans h1,fun r hr=> ?_⟩
  rcases h2 r hr with h|⟨r0,g1,g2,g3⟩
  ·unfold gT at h
   split at h
   ·rename_i hp
    rcases List.mem_append.1 h with h|h
    ·exact .inl h
    ·exact .inr ⟨y,by simp,hp,List.mem_singleton.1 h⟩
   ·exact .inl h
  ·exact .inr ⟨r0,by simp [g1],g2,g3⟩
theorem BG.ez {rs:List Ru} {i:Nat} {L L':List Ad} {out out':List Ru} (h:BG rs i L out L' out'):L<+:L':=by
 induction h with
 |oF L out=>exact List.prefix_rfl
 |go h1 h2 ih=>exact (vc rs _ rs _).1.trans ih
theorem BG.adn {rs:List Ru} {i:Nat} {L L':List Ad} {out out':List Ru} (h:BG rs i L out L' out'):(∀r,r∈out→NZ rs L' r)→∀r,r∈out'→NZ rs L' r:=by
 induction h with
 |oF L out=>exact fun h=>h
 |go h1 h2 ih=>
  intro ho
  have hp:=h2.ez
  obtain ⟨p1,p2⟩:=vc rs _ rs (_,_)
  have ha:=(p1.trans hp).subset (List.mem_of_getElem? h1)
  refine ih fun r hr=> ?_
  rcases List.mem_append.1 hr with hr|hr
  ·rcases p2 r hr with h|⟨r0,g1,g2,g3⟩
   ·exact ho r h
   ·exact .inl ⟨_,ha,r0,g1,g2,g3⟩
  ·exact .inr ⟨_,ha,List.mem_singleton.1 hr⟩
theorem jr {L:List Ad} (hb:∀a,a∈L→sr a.2) {a:Ad} (ha:a∈L):cb L (aH a.1 a.2)=(a,true):=by
 unfold cb
 cases hf:L.findSome? (qR (aH a.1 a.2)) with
 |none=>
  have:=List.findSome?_eq_none_iff.1 hf a ha
  rw [qR,if_pos rfl] at this;cases this
 |some b=>
  obtain ⟨c,hc,he⟩:=List.exists_of_findSome?_eq_some hf
  unfold qR at he
  split at he
  ·rename_i hn;injection he with he;subst he
   obtain ⟨e1,e2⟩:=iU (hb _ hc) (hb _ ha) hn
   rw [Prod.ext e1 e2]
  ·cases he
theorem Au {L:List Ad} {u:ByteArray} (h:np u):(cb L u).2=false:=by
 cases hb:(cb L u).2 with
 |false=>rfl
 |true=>
  have:=(rD hb).2
  rw [←this] at h
  exact absurd h (EH _ _)
theorem yO {rs:List Ru} {rn:List ByteArray} {U L:List Ad} (hrn:RN rs rn) (hu:Bx rs rn U) (hg:Good U L) (hj:d7 rs=0) (hv:oB rs=false) {r:Ru} (h:NZ rs L r):w8 L r:=by
 have hbf:∀a,a∈L→sr a.2:=fun a ha=>hu.bf a (hg.2 a ha)
 have hsm:∀a:Ad,a∈L→a.1.size<1000∧a.2.size<1000:=fun a ha=>by have:=hu.HT a (hg.2 a ha);omega
 have hok:=Ao hj
 rcases h with ⟨a,ha,r0,h0,hp,rfl⟩|⟨a,ha,rfl⟩
 ·have hl:∀z,z∈(gZ rs r0 a.2).2.1→EI rs r0.bd z:=pJ rs r0.bd _ _ (by simp)
  have hli:∀y,y∈r0.bd→fk y=true:=by
   have:=(kC hj r0 h0).1
   simp only [ch,Bool.and_eq_true,decide_eq_true_eq] at this
   exact List.all_eq_true.1 this.1.2
  have hlen:(gZ rs r0 a.2).2.1.length≤16:=by
   obtain ⟨_,_,h3⟩:=Ap rs r0.bd (fun _=>True) (fun _ _ _ _ _=>trivial) (jp r0.bd (dV a.2 r0.hd)) (dV a.2 r0.hd,[],[]) (by simp)
   have:=wZ r0.bd (dV a.2 r0.hd)
   have:=(hok r0 h0).2.1
   simp only [List.length_nil] at h3
   unfold gZ;omega
  have hz:∀z,z∈(gZ rs r0 a.2).2.1→z.af.length<1000∧z.ts.length≤24:=fun z hz=>by
   obtain ⟨y,hy,⟨rfl,_⟩|⟨_,_,F,rfl⟩⟩:=hl z hz
   ·exact ⟨fD (hli z hy),(fQ (hli z hy)).2.1⟩
   ·exact ⟨(show y.af.length<1000 from fD (hli y hy)),(show y.ts.length≤24 from (fQ (hli y hy)).2.1)⟩
  refine ⟨hlen,(hok r0 h0).2.2.1,?_,fun z h=>by have:=hz z h;omega,hsm,?_,fun z h hk hb=> ?_⟩
  ·have:=fB (gZ rs r0 a.2).2.1 (fun z h=>(hz z h).1)
   show (az (gZ rs r0 a.2).2.1).length<100000
   omega
  ·show r0.hd.length≤(cb L (aH a.1 a.2)).1.2.size
   rw [jr hbf ha,hu.NV a (hg.2 a ha) r0 h0 hp]
   exact Nat.le_refl _
  ·obtain ⟨y,hy,⟨rfl,hn⟩|⟨_,_,F,rfl⟩⟩:=hl z h
   ·rw [Au ((iP hv h0).2 z hy (.inl hk))] at hb;cases hb
   ·obtain ⟨m1,m2⟩:=rD hb
    obtain ⟨_,e2⟩:=iU (hbf _ m1) (nC y.ts F) m2
    show y.ts.length≤_
    rw [e2,dq]
    exact Nat.le_refl _
 ·have haU:=hu.HT a (hg.2 a ha)
  refine ⟨by simp [ru],by simp [ru,kL];omega,?_,fun z h=> ?_,hsm,?_,fun z h hk hb=> ?_⟩
  ·simp [ru,az,HS,Li.af,my,Jm,Ex.af,Ex.bv];omega
  ·simp only [ru,List.mem_singleton] at h;subst h;simp [HS,my];omega
  ·show (hV a.2.size).length≤(cb L (aH a.1 a.2)).1.2.size
   rw [jr hbf ha,kL]
   exact Nat.le_refl _
  ·simp only [ru,List.mem_singleton] at h;subst h
   obtain ⟨r0,h0,hp⟩:=(hrn a.1).1 haU.1
   rw [Au (show np (HS a.1 a.2.size).p from by show np a.1;rw [←hp];exact (iP hv h0).1)] at hb;cases hb
def nD (L:List Ad) (a:Nat×List Ru) (r:Ru):Nat×List Ru:=(a.1+1,a.2++nA L r a.1)
def eZ (L:List Ad) (G:List Ru):List Ru:=(G.foldl (nD L) (0,[])).2
theorem rH {L:List Ad} {r:Ru} {i:Nat} (hok:w8 L r) (hi:i<1000000000):(nA L r i).length≤33:=by
 have h1:=(Sl L r i (tC L r) hok hi (by
  have hh:=hok.hd
  have:=oJ (cb L r.p).1.2 (r.hd.map Ar.t)
  rw [List.length_map] at this
  unfold tC;rw [mz];omega)).2
 have:=hok.tv
 unfold nA
 rw [List.length_append,List.length_singleton]
 omega
theorem Nh (L:List Ad) (G:List Ru) (qn mg:ByteArray) (ts vs:List Tm) (hG:G.length<900000000) (hok:∀r,r∈G→w8 L r):
  Lo 83 (O Tryz.f29 0) (Sg L G qn mg ts vs [] 0) (.ar 0) (EC qn mg ts vs (eZ L G))∧(eZ L G).length≤33*G.length:=by
 have h:=be (P:=Tryz.prog) (n:=83) (c:=O Tryz.f29 0) (k:=0) (l:=G) (fun _ a=>Sg L G qn mg ts vs a.2 a.1) (fun a=>EC qn mg ts vs a.2) (nD L) (fun i a=>a.1=i∧a.2.length≤33*i) (fun i a hi hI=>by
  obtain ⟨e1,e2⟩:=hI
  subst e1
  obtain ⟨r,h1⟩:∃r,G[a.1]? =some r:=⟨_,List.getElem?_eq_getElem hi⟩
  have hr:=hok r (List.mem_of_getElem? h1)
  have hl:=rH hr (i:=a.1) (by omega)
  obtain ⟨e,t,⟨rfl,rfl⟩,q⟩:=Sm L G qn mg ts vs a.2 a.1 r (nA L r a.1) hi (by omega) (by omega) (by omega) ⟨by omega,by rw [Int.toNat_natCast,List.getElem?_map,h1];rfl⟩ (Yo L r a.1 hr (by omega))
  exact ⟨_,_,⟨rfl,r,h1,rfl⟩,q⟩) (fun i a y hy hI=>by
  obtain ⟨e1,e2⟩:=hI
  have hi:=(List.getElem?_eq_some_iff.1 hy).1
  have hl:=rH (hok y (List.mem_of_getElem? hy)) (i:=a.1) (by omega)
  exact ⟨by simp only [nD];omega,by simp only [nD,List.length_append];omega⟩) (fun a hI=>by
  have:=Si L G qn mg ts vs a.2
  rw [←hI.1] at this
  exact this) (0,[]) ⟨rfl,by simp⟩
 exact ⟨h.1,h.2.2⟩
theorem Ni (qn mg:ByteArray) (ts vs:List Tm) (out:List Ru) (ho:out.length<100000000000):
  (Lo 83 (O Tryz.f29 1) (If qn mg ts vs out 0) .aR NY∧∃r,r∈out∧ch r.p r.hd r.bd=false)∨(Lo 83 (O Tryz.f29 1) (If qn mg ts vs out 0) (.ar 2) (EC qn mg ts vs out)∧∀r,r∈out→ch r.p r.hd r.bd=true):=by
 rcases kV (P:=Tryz.prog) (n:=83) (c:=O Tryz.f29 1) (N:=out.length) (k:=2) (fun i=>If qn mg ts vs out i) (EC qn mg ts vs out) (fun t=>t=NY∧∃r,r∈out∧ch r.p r.hd r.bd=false) (fun i=>∀r,out[i]? =some r→ch r.p r.hd r.bd=true) (fun i hi=>by
  have ha:out[i]? =some out[i]:=List.getElem?_eq_getElem hi
  obtain ⟨e,t,⟨rfl,hd,rfl⟩|⟨rfl,hd,rfl⟩,r⟩:=Sn qn mg ts vs out i out[i] hi ho (by rw [Int.toNat_natCast,List.getElem?_map,ha];rfl)
  ·exact ⟨_,_,.inl ⟨rfl,rfl,_,List.mem_of_getElem? ha,hd⟩,r⟩
  ·refine ⟨_,_,.inr ⟨rfl,rfl,fun a h=> ?_⟩,r⟩
   rw [ha] at h;injection h with h;subst h
   exact hd) (Sj qn mg ts vs out) with ⟨t,h,rfl,hq⟩|⟨h,hq⟩
 ·exact .inl ⟨h,hq⟩
 ·refine .inr ⟨h,fun a ha=> ?_⟩
  obtain ⟨i,hi⟩:=List.getElem?_of_mem ha
  exact hq i (List.getElem?_eq_some_iff.1 hi).1 a hi
def YD (rs:List Ru) (rn:List ByteArray) (U:List Ad) (p:ByteArray) (ts:List Tm) (g:AV) (e:Int):Prop:=
 (dv rs p ts≠0∧g= .al [.ab,.J ⟨#[]⟩,.ab,.ab]∧e=dv rs p ts)∨(dv rs p ts=0∧p∉rn∧g= .al [.ab,.J p,sT ts,.ab]∧e=0)∨
 (dv rs p ts=0∧p∈rn∧∃(L:List Ad) (G:List Ru),BG rs 0 [(p,aW ts [])] [] L G∧Good U L∧[(p,aW ts [])]<+:L∧G.length<900000000∧
  ((((∃a,a∈L∧120<(aH a.1 a.2).size)∨(∃r,r∈eZ L G∧ch r.p r.hd r.bd=false)∨od (bF p (aW ts []))=false)∧g= .al [.ab,.J ⟨#[]⟩,.ab,.ab]∧e=70)∨
   ((∀a,a∈L→(aH a.1 a.2).size≤120)∧(∀r,r∈eZ L G→ch r.p r.hd r.bd=true)∧od (bF p (aW ts []))=true∧g= .al [sR (eZ L G),.J (aH p (aW ts [])),sT ts,.aF [.al [.J (bF p (aW ts [])),.aF ((bP ts).map fc) false]] false]∧e=0)))
theorem YE (rs:List Ru) (rn:List ByteArray) (U:List Ad) (p:ByteArray) (ts:List Tm) (hrn:RN rs rn) (hrs:rs.length≤2000000) (hU:dv rs p ts=0→p∈rn→Bx rs rn U∧(p,aW ts [])∈U):
  ∃(g:AV) (e:Int),Sp 29 [sR rs,gU p ts] [] (.bC [g,sI e]) []∧YD rs rn U p ts g e:=by
 have ha:aa [sR rs,gU p ts]=true:=by simp [aa,aJ,gU,vr]
 obtain ⟨g,pr,e,sp,h⟩:=Yi rs rn U p ts hrn hrs hU
 rcases h with ⟨hA,rfl,rfl,rfl⟩|⟨hA,hp,rfl,rfl,rfl⟩|⟨hA,hp,L,G,d1,d2,d3,d4,⟨hq,rfl,rfl,rfl⟩|⟨hq,rfl,rfl,rfl⟩⟩
 ·obtain ⟨_,_,⟨rfl,rfl⟩,r⟩:=Sh rs p ts (dv rs p ts) (decide_eq_false hA) sp
  exact ⟨_,_,sP Tryz.f29 ha r (.inr rfl),.inl ⟨hA,rfl,rfl⟩⟩
 ·obtain ⟨_,_,⟨rfl,rfl⟩,r⟩:=Yk rs p ts sp
  exact ⟨_,_,sP Tryz.f29 ha r (.inr rfl),.inr (.inl ⟨hA,hp,rfl,rfl⟩)⟩
 ·obtain ⟨_,_,⟨rfl,rfl⟩,r⟩:=Sh rs p ts 70 (by decide) sp
  exact ⟨_,_,sP Tryz.f29 ha r (.inr rfl),.inr (.inr ⟨hA,hp,L,G,d1,d2,d3,d4,.inl ⟨.inl hq,rfl,rfl⟩⟩)⟩
 ·obtain ⟨hu,hpU⟩:=hU hA hp
  obtain ⟨hj,hat,_,hv,_⟩:=nu hA
  have hs:=gR hat
  have hsz:(aW ts []).size≤24:=by rw [dq];exact hs.2
  have hok:∀r,r∈G→w8 L r:=fun r hr=>yO hrn hu d2 hj hv (d1.adn (by simp) r hr)
  have h0:L[0]? =some (p,aW ts []):=by
   obtain ⟨t,rfl⟩:=d3;rfl
  have hL:decide (((L.map bE).length:Int)=0)=false:=decide_eq_false (by
   have:=(List.getElem?_eq_some_iff.1 h0).1
   rw [List.length_map];omega)
  have ha0:0≤(0:Int)∧(L.map bE)[Int.toNat 0]? =some (.al [.J p,.J (aW ts [])]):=⟨by omega,by show (L.map bE)[0]? =_;rw [List.getElem?_map,h0];rfl⟩
  obtain ⟨g1,g2⟩:=Nh L G (aH p (aW ts [])) (bF p (aW ts [])) ts (bP ts) d4 hok
  have g3:=g1.ez (eS (env:=[(4,.aA 2004 0 0),(6,.aA 2006 0 0),(7,.aF (L.map bE) false),(9,.aA 2009 0 0),(10,sI 0)]) (hp:=[(2004,.an [.ab,.J ⟨#[]⟩,.ab,.ab]),(2006,.an [sR G,.J (aH p (aW ts [])),sT ts,.ab]),(2009,.an [.ab,.J (aH p (aW ts [])),sT ts,.aF [.al [.J (bF p (aW ts [])),.aF ((bP ts).map fc) false]] false])]) (cs:=[.ab,.J (aH p (aW ts [])),sT ts,.aF [.al [.J (bF p (aW ts [])),.aF ((bP ts).map fc) false]] false]) 2009 0 1009 3 rfl rfl rfl)
  have hf0:0≤(0:Int)∧([.al [.J (bF p (aW ts [])),.aF ((bP ts).map fc) false]]:List AV)[Int.toNat 0]? =some (.al [.J (bF p (aW ts [])),.aF ((bP ts).map fc) false]):=⟨by omega,rfl⟩
  rcases Ni (aH p (aW ts [])) (bF p (aW ts [])) ts (bP ts) (eZ L G) (by omega) with ⟨h3,hr⟩|⟨h3,hr⟩
  ·obtain ⟨_,_,⟨rfl,rfl⟩,r⟩:=Yl rs p ts L G (aH p (aW ts [])) p (aW ts []) (eZ L G) (by omega) (by omega) (by omega) hL ha0 trivial sp g3 h3
   exact ⟨_,_,sP Tryz.f29 ha r (.inr rfl),.inr (.inr ⟨hA,hp,L,G,d1,d2,d3,d4,.inl ⟨.inr (.inl hr),rfl,rfl⟩⟩)⟩
  ·have sn:=O9 (bF p (aW ts []))
   cases hn:od (bF p (aW ts [])) with
   |false=>
    rw [hn] at sn
    obtain ⟨_,_,⟨rfl,rfl⟩,r⟩:=Ym rs p ts L G (aH p (aW ts [])) p (aW ts []) (eZ L G) (by omega) (by omega) (by omega) hL ha0 trivial sp g3 hf0 h3 sn
    exact ⟨_,_,sP Tryz.f29 ha r (.inr rfl),.inr (.inr ⟨hA,hp,L,G,d1,d2,d3,d4,.inl ⟨.inr (.inr hn),rfl,rfl⟩⟩)⟩
   |true=>
    rw [hn] at sn
    obtain ⟨_,_,⟨rfl,rfl⟩,r⟩:=Yn rs p ts L G (aH p (aW ts [])) p (aW ts []) (eZ L G) (by omega) (by omega) (by omega) hL ha0 trivial sp g3 hf0 h3 sn
    exact ⟨_,_,sP Tryz.f29 ha r (.inr rfl),.inr (.inr ⟨hA,hp,L,G,d1,d2,d3,d4,.inr ⟨hq,hr,hn,rfl,rfl⟩⟩)⟩
end
section
theorem BJ {l:List ByteArray} {v w:ByteArray}:w∈fl l v↔w∈l∨(w=v∧v≠⟨#[]⟩∧v≠⟨#[95]⟩):=by
 unfold fl
 split
 ·rename_i h
  constructor
  ·exact .inl
  ·rintro (h1|⟨rfl,h1,h2⟩)
   ·exact h1
   ·rcases h with h|h|h
    ·exact absurd h h1
    ·exact absurd h h2
    ·exact h
 ·rename_i h
  simp only [not_or] at h
  simp only [List.mem_append,List.mem_singleton]
  constructor
  ·rintro (h1|rfl)
   ·exact .inl h1
   ·exact .inr ⟨rfl,h.1,h.2.1⟩
  ·rintro (h1|⟨rfl,_,_⟩)
   ·exact .inl h1
   ·exact .inr rfl
theorem BI {ts:List Tm}:∀{l:List ByteArray} {w:ByteArray},w∈dU l ts↔w∈l∨((∃t,t∈ts∧t.v=w)∧w≠⟨#[]⟩∧w≠⟨#[95]⟩):=by
 induction ts with
 |nil=>intro l w;simp [dU]
 |cons t ts ih=>
  intro l w
  show w∈dU (fl l t.v) ts↔_
  rw [ih,BJ]
  constructor
  ·rintro ((h|⟨rfl,h1,h2⟩)|⟨⟨u,hu,rfl⟩,h1,h2⟩)
   ·exact .inl h
   ·exact .inr ⟨⟨t,by simp,rfl⟩,h1,h2⟩
   ·exact .inr ⟨⟨u,by simp [hu],rfl⟩,h1,h2⟩
  ·rintro (h|⟨⟨u,hu,rfl⟩,h1,h2⟩)
   ·exact .inl (.inl h)
   ·rcases List.mem_cons.1 hu with rfl|hu
    ·exact .inl (.inr ⟨rfl,h1,h2⟩)
    ·exact .inr ⟨⟨u,hu,rfl⟩,h1,h2⟩
theorem cO {ts:List Tm} {w:ByteArray}:w∈ay ts↔(∃t,t∈ts∧t.v=w)∧w≠⟨#[]⟩∧w≠⟨#[95]⟩:=by
 unfold ay;rw [BI];simp
theorem jt (ts:List Tm):(ay ts).Nodup:=by
 have go:∀(ts:List Tm) (l:List ByteArray),l.Nodup→(dU l ts).Nodup:=by
  intro ts
  induction ts with
  |nil=>intro l h;exact h
  |cons t ts ih=>
   intro l h
   refine ih (fl l t.v) ?_
   unfold fl
   split
   ·exact h
   ·rename_i hn
    simp only [not_or] at hn
    exact List.nodup_append.2 ⟨h,by simp,fun a ha b hb=>by rw [List.mem_singleton.1 hb];rintro rfl;exact hn.2.2 ha⟩
 exact go ts [] List.nodup_nil
theorem mA {v:ByteArray} {l:List ByteArray}:bq v l=true↔v∈l:=by simp [bq]
theorem js {l m:List ByteArray}:bT l m=true↔∀v,v∈l→v∈m:=by simp [bT,bq]
section
variable {F ks:List ByteArray} (h:∀v,v∈F↔v∈ks)
include h
theorem vd (v:ByteArray):bq v F=bq v ks:=by rw [Bool.eq_iff_iff,mA,mA,h]
theorem BK (ts:List Tm):aW ts F=aW ts ks:=by
 have:mW F=mW ks:=by
  funext s;rw [Bool.eq_iff_iff,ko,ko,h]
 unfold aW
 have hp:pb F=pb ks:=by funext t;unfold pb;rw [this]
 rw [hp]
theorem Av (l:List ByteArray):lx l F=lx l ks:=by
 unfold lx
 have:(fun v=> !bq v F)=(fun v=> !bq v ks):=by funext v;rw [vd h]
 rw [this]
theorem Io (rest:List Li):mv rest F=mv rest ks:=by
 have h1:Bv F=Bv ks:=by funext y;unfold Bv;rw [Av h]
 have h2:Bu F=Bu ks:=by
  funext y;unfold Bu ro;rw [Av h,vd h,vd h]
 unfold mv;rw [h1,h2]
theorem xa (l:List ByteArray):∀v,v∈F++l↔v∈ks++l:=fun v=>by simp only [List.mem_append,h v]
end
theorem In {s:ByteArray} {hd:List Ar} {ks:List ByteArray} (h:wR s hd ks):∀v,v∈dV s hd↔v∈ks:=fun v=>by rw [yA,h v]
theorem uk0 {l F:List ByteArray}:lx l F=0↔bT l F=true:=by
 rw [js]
 unfold lx
 have:(((l.filter fun v=> !bq v F).length:Nat):Int)=0↔(l.filter fun v=> !bq v F)=[]:=by
  rw [←List.length_eq_zero_iff];omega
 rw [this,List.filter_eq_nil_iff]
 constructor
 ·intro h v hv
  have:=h v hv
  simp only [Bool.not_eq_true,Bool.not_eq_false'] at this
  exact mA.1 this
 ·intro h v hv
  simp only [Bool.not_eq_true,Bool.not_eq_false']
  exact mA.2 (h v hv)
def q0 (F:List ByteArray) (y:Li):Bool:= !decide (y.k=1)&&bT (ay y.af) F
theorem Sz (F:List ByteArray):Bv F=q0 F:=by
 funext y
 unfold Bv q0
 congr 1
 rw [Bool.eq_iff_iff,decide_eq_true_eq,uk0]
theorem Sy {d:Nat} {x:Ex} (h:dF d x=true) (h0:x.op=0):x.ax=[]∧x.t.v≠⟨#[95]⟩:=by
 cases d with
 |zero=>cases h
 |succ d=>
  simp only [dF,je,if_pos h0,Bool.and_eq_true,decide_eq_true_eq,m8,Bool.not_eq_true',decide_eq_false_iff_not] at h
  exact ⟨List.length_eq_zero_iff.1 h.1,h.2.1⟩
theorem EM {x:Ex} (h:x.ax=[]):x.af=[x.t]:=by
 cases x with
 |mk o t k=>simp only [Ex.ax] at h;subst h;rfl
theorem uk1 {l F:List ByteArray} (hd:l.Nodup) {v:ByteArray} (hv:v∈l) (hn:v∉F):lx l F=1↔∀w,w∈l→w≠v→w∈F:=by
 have hm:v∈l.filter fun v=> !bq v F:=List.mem_filter.2 ⟨hv,by simp [bq,hn]⟩
 have hnd:(l.filter fun v=> !bq v F).Nodup:=hd.filter _
 unfold lx
 constructor
 ·intro h w hw hne
  refine Classical.byContradiction fun hF=> ?_
  have hw':w∈l.filter fun v=> !bq v F:=List.mem_filter.2 ⟨hw,by simp [bq,hF]⟩
  have hl:(l.filter fun v=> !bq v F).length=1:=by omega
  match hq:l.filter fun v=> !bq v F with
  |[]=>rw [hq] at hl;simp at hl
  |[a]=>rw [hq] at hm hw';simp only [List.mem_singleton] at hm hw';exact hne (hw'.trans hm.symm)
  |a::b::r=>rw [hq] at hl;simp at hl
 ·intro h
  have:l.filter (fun v=> !bq v F)=[v]:=by
   match hq:l.filter fun v=> !bq v F with
   |[]=>rw [hq] at hm;simp at hm
   |a::r=>
    have all:∀w,w∈a::r→w=v:=fun w hw=>by
     rw [←hq] at hw
     obtain ⟨h1,h2⟩:=List.mem_filter.1 hw
     refine Classical.byContradiction fun hne=> ?_
     have:=h w h1 hne
     simp [bq,this] at h2
    rw [hq] at hnd
    have ha:=all a (by simp)
    subst ha
    cases r with
    |nil=>rfl
    |cons b r=>have hb:=all b (by simp);subst hb;simp at hnd
  rw [this];rfl
theorem EL {y:Li} {a b:Ex} {F:List ByteArray} {d:Nat} (hd:dF d a=true) (hT:∀t,t∈y.af↔t∈a.af∨t∈b.af):(lx (ay y.af) F=1∧ro a b F=true)↔(oo a≠⟨#[]⟩∧bq (oo a) F=false∧bT (ay b.af) F=true):=by
 unfold ro oo
 by_cases h0:a.op=0
 ·obtain ⟨hk,hu⟩:=Sy hd h0
  have ht:=EM hk
  rw [if_pos h0]
  simp only [Bool.and_eq_true,decide_eq_true_eq,Bool.not_eq_true',decide_eq_false_iff_not,h0,true_and]
  have hfa:∀{l:List ByteArray},bq a.t.v l=false↔a.t.v∉l:=fun {l}=>by rw [←mA,Bool.not_eq_true]
  simp only [hfa]
  constructor
  ·rintro ⟨h1,⟨h2,h3⟩,h4⟩
   have hv:a.t.v∈ay y.af:=cO.2 ⟨⟨a.t,(hT _).2 (.inl (by rw [ht];simp)),rfl⟩,h2,hu⟩
   refine ⟨h2,h3,js.2 fun w hw=> ?_⟩
   have hw':w∈ay y.af:=by
    obtain ⟨⟨t,h5,h6⟩,h7⟩:=cO.1 hw
    exact cO.2 ⟨⟨t,(hT _).2 (.inr h5),h6⟩,h7⟩
   exact (uk1 (jt _) hv h3).1 h1 w hw' (fun e=>h4 (e▸hw))
  ·rintro ⟨h2,h3,h4⟩
   have hv:a.t.v∈ay y.af:=cO.2 ⟨⟨a.t,(hT _).2 (.inl (by rw [ht];simp)),rfl⟩,h2,hu⟩
   refine ⟨(uk1 (jt _) hv h3).2 fun w hw hne=> ?_,⟨h2,h3⟩,fun hb=>h3 (js.1 h4 _ hb)⟩
   obtain ⟨⟨t,h5,h6⟩,h7⟩:=cO.1 hw
   rcases (hT t).1 h5 with h5|h5
   ·rw [ht,List.mem_singleton] at h5;subst h5;exact absurd h6.symm hne
   ·exact js.1 h4 w (cO.2 ⟨⟨t,h5,h6⟩,h7⟩)
 ·rw [if_neg h0]
  simp [h0]
def q2 (F:List ByteArray) (y:Li):Bool:=lu y F
theorem SA {y:Li} (hy:fk y=true) {F:List ByteArray} (h1:y.k≠1) (h0:q0 F y=false):Bu F y=q2 F y:=by
 have hsub:bT (ay y.af) F=false:=by
  unfold q0 at h0
  simpa [h1] using h0
 unfold q2 lu Bu
 rw [hsub,Bool.false_or]
 unfold fk at hy
 by_cases h2:y.k=2
 ·rw [if_pos (.inr h2)] at hy
  simp only [Bool.and_eq_true,decide_eq_true_eq] at hy
  have hr:y.jR=0:=hy.1.1.1
  simp [h2,hr]
 ·rw [if_neg (by simp [h1,h2])] at hy
  simp only [Bool.and_eq_true,decide_eq_true_eq] at hy
  obtain ⟨⟨⟨⟨⟨h3,_⟩,hts⟩,_⟩,hl⟩,hr⟩:=hy
  have hts:y.ts=[]:=List.length_eq_zero_iff.1 hts
  by_cases hrel:y.jR=1
  ·have gl:=EL (y:=y) (a:=y.l) (b:=y.r) (F:=F) hl (fun t=>by simp [Li.af,hts])
   have gr:=EL (y:=y) (a:=y.r) (b:=y.l) (F:=F) hr (fun t=>by simp [Li.af,hts,or_comm])
   have e:(lx (ay y.af) F=1∧(ro y.l y.r F=true∨ro y.r y.l F=true))↔lr y F≠⟨#[]⟩:=by
    rw [and_or_left,gl,gr]
    unfold lr
    rw [if_neg (by simp [h3,hrel])]
    split
    ·rename_i hc;exact ⟨fun _=>hc.1,fun _=> .inl hc⟩
    ·rename_i hc
     split
     ·rename_i hc';exact ⟨fun _=>hc'.1,fun _=> .inr hc'⟩
     ·rename_i hc';exact ⟨fun h=>absurd h (by simp only [not_or];exact ⟨hc,hc'⟩),fun h=>absurd rfl h⟩
   have hb:decide (lr y F=⟨#[]⟩)= !decide (lx (ay y.af) F=1∧(ro y.l y.r F=true∨ro y.r y.l F=true)):=by
    rw [Bool.eq_iff_iff]
    simp only [decide_eq_true_eq,Bool.not_eq_true',decide_eq_false_iff_not]
    rw [e];simp
   rw [hb]
   simp [hrel,h3]
  ·have:lr y F=⟨#[]⟩:=by unfold lr;rw [if_pos (.inr hrel)]
   simp [hrel,this]
end
def fW (Z:List (Li×Bool)):List Li:=(Z.filter fun z=> !z.2).map (·.1)
theorem Nj (y:Li) (Z:List (Li×Bool)):fW ((y,true)::Z)=fW Z:=rfl
theorem yP (y:Li) (Z:List (Li×Bool)):fW ((y,false)::Z)=y::fW Z:=rfl
theorem fx {p:Li→Bool} {q:Li×Bool→Bool} (h1:∀y,q (y,true)=false) (h0:∀y,q (y,false)=p y):∀(Z:List (Li×Bool)) (k:Nat),((Z.zipIdx k).findSome? (fV q)=none→(fW Z).findIdx? p=none)∧∀i,(Z.zipIdx k).findSome? (fV q)=some i→∃i' j y,i=k+i'∧Z[i']? =some (y,false)∧(fW Z).findIdx? p=some j∧(fW Z)[j]? =some y∧fW (Z.set i' (y,true))=(fW Z).eraseIdx j
 |[],k=>⟨fun _=>rfl,fun i h=>by cases h⟩
 |(y,true)::Z,k=>by
  obtain ⟨a,b⟩:=fx h1 h0 Z (k+1)
  rw [List.zipIdx_cons,List.findSome?_cons,fV,if_neg (by simp [h1]),Nj]
  refine ⟨a,fun i h=> ?_⟩
  obtain ⟨i',j,z,e1,e2,e3,e4,e5⟩:=b i h
  exact ⟨i'+1,j,z,by omega,e2,e3,e4,e5⟩
 |(y,false)::Z,k=>by
  obtain ⟨a,b⟩:=fx h1 h0 Z (k+1)
  rw [List.zipIdx_cons,List.findSome?_cons,fV,yP,List.findIdx?_cons]
  simp only [h0]
  cases hp:p y with
  |true=>
   simp only [if_true]
   refine ⟨fun h=>(by cases h),fun i h=> ?_⟩
   injection h with h;subst h
   exact ⟨0,0,y,rfl,rfl,rfl,rfl,rfl⟩
  |false=>
   simp only [Bool.false_eq_true,if_false]
   refine ⟨fun h=>by rw [a h];rfl,fun i h=> ?_⟩
   obtain ⟨i',j,z,e1,e2,e3,e4,e5⟩:=b i h
   exact ⟨i'+1,j+1,z,by omega,e2,by rw [e3];rfl,e4,by rw [List.set_cons_succ,yP,e5];rfl⟩
theorem xb {p q:Li→Bool}:∀{l:List Li},(∀y,y∈l→p y=q y)→l.findIdx? p=l.findIdx? q
 |[],_=>rfl
 |y::l,h=>by rw [List.findIdx?_cons,List.findIdx?_cons,h y (by simp),xb (fun z hz=>h z (by simp [hz]))]
theorem SB {Z:List (Li×Bool)} {F:List ByteArray} (hli:∀y,y∈fW Z→fk y=true) {i:Nat} (h:jN Z F=some i):∃y,Z[i]? =some (y,false)∧(fW Z)[mv (fW Z) F]? =some y∧fW (Z.set i (y,true))=(fW Z).eraseIdx (mv (fW Z) F):=by
 obtain ⟨a0,b0⟩:=fx (p:=q0 F) (q:=ly F) (fun y=>rfl) (fun y=>by simp [ly,q0]) Z 0
 obtain ⟨a1,b1⟩:=fx (p:=Bt) (q:=jO) (fun y=>rfl) (fun y=>by simp [jO,Bt]) Z 0
 obtain ⟨a2,b2⟩:=fx (p:=q2 F) (q:=lz F) (fun y=>rfl) (fun y=>by simp [lz,q2]) Z 0
 unfold jN at h
 unfold mv
 rw [Sz]
 cases c0:Z.zipIdx.findSome? (fV (ly F)) with
 |some i0=>
  rw [c0] at h
  simp only [Option.some_or,Option.some.injEq] at h
  subst h
  obtain ⟨i',j,y,e1,e2,e3,e4,e5⟩:=b0 _ c0
  rw [Nat.zero_add] at e1;subst e1
  rw [e3]
  exact ⟨y,e2,e4,e5⟩
 |none=>
  rw [c0] at h
  have n0:=a0 c0
  rw [n0]
  cases c1:Z.zipIdx.findSome? (fV jO) with
  |some i0=>
   rw [c1] at h
   simp only [Option.none_or,Option.some_or,Option.some.injEq] at h
   subst h
   obtain ⟨i',j,y,e1,e2,e3,e4,e5⟩:=b1 _ c1
   rw [Nat.zero_add] at e1;subst e1
   rw [e3]
   exact ⟨y,e2,e4,e5⟩
  |none=>
   rw [c1] at h
   have n1:=a1 c1
   rw [n1]
   simp only [Option.none_or] at h
   obtain ⟨i',j,y,e1,e2,e3,e4,e5⟩:=b2 _ h
   rw [Nat.zero_add] at e1;subst e1
   have:(fW Z).findIdx? (Bu F)=some j:=by
    rw [←e3]
    refine xb fun z hz=>SA (hli z hz) ?_ ?_
    ·have:=List.findIdx?_eq_none_iff.1 n1 z hz
     simpa [Bt] using this
    ·exact List.findIdx?_eq_none_iff.1 n0 z hz
   rw [this]
   exact ⟨y,e2,e4,e5⟩
theorem ve {Z:List (Li×Bool)} {y:Li}:y∈fW Z↔(y,false)∈Z:=by
 unfold fW
 simp only [List.mem_map,List.mem_filter,Prod.exists,exists_and_right,exists_eq_right]
 constructor
 ·rintro ⟨b,h1,h2⟩
  cases b with
  |true=>cases h2
  |false=>exact h1
 ·intro h;exact ⟨false,h,rfl⟩
theorem J6 {x:Ex} (h:gp x=true):oo x=dn x∧dn x≠⟨#[]⟩∧dn x≠⟨#[95]⟩∧x.t∈x.af∧x.t.v=dn x:=by
 have h':=h
 simp only [gp,Bool.and_eq_true,decide_eq_true_eq,Bool.not_eq_true',decide_eq_false_iff_not] at h
 have ht:=EM (List.length_eq_zero_iff.1 h.1.1.2)
 unfold oo dn
 rw [if_pos h.1.1.1,if_pos h']
 exact ⟨rfl,h.1.2,h.2,by rw [ht];simp,rfl⟩
theorem Iq {hd:List Ar} {bd:List Li} {Z:List (Li×Bool)} {F:List ByteArray} (hZ:Z.map (·.1)=bd) (hs:eQ hd bd=true) (ht:∀y,(y,true)∈Z→∀v,v∈ay y.af→v∈F) (hn:jN Z F=none):fW Z=[]:=by
 obtain ⟨a0,_⟩:=fx (p:=q0 F) (q:=ly F) (fun y=>rfl) (fun y=>by simp [ly,q0]) Z 0
 obtain ⟨a1,_⟩:=fx (p:=Bt) (q:=jO) (fun y=>rfl) (fun y=>by simp [jO,Bt]) Z 0
 obtain ⟨a2,_⟩:=fx (p:=q2 F) (q:=lz F) (fun y=>rfl) (fun y=>by simp [lz,q2]) Z 0
 unfold jN at hn
 simp only [Option.or_eq_none_iff] at hn
 have n0:=List.findIdx?_eq_none_iff.1 (a0 hn.1.1)
 have n1:=List.findIdx?_eq_none_iff.1 (a1 hn.1.2)
 have n2:=List.findIdx?_eq_none_iff.1 (a2 hn.2)
 have split:∀y,y∈bd→(y,true)∈Z∨y∈fW Z:=fun y hy=>by
  rw [←hZ] at hy
  obtain ⟨⟨z,b⟩,h1,rfl⟩:=List.mem_map.1 hy
  cases b with
  |true=>exact .inl h1
  |false=>exact .inr (ve.2 h1)
 have hL:∀v,qK bd v→v∈F:=by
  intro v h
  induction h with
  |wr y hy hk v hv=>
   rcases split y hy with h|h
   ·refine ht y h v ?_
    obtain ⟨⟨t,h1,h2⟩,h3⟩:=cO.1 hv
    exact cO.2 ⟨⟨t,by unfold Li.af;exact List.mem_append_left _ h1,h2⟩,h3⟩
   ·have:=n1 y h
    simp [Bt,hk] at this
  |yd y hy hk hr hl hw ih=>
   obtain ⟨l1,l2,l3,l4,l5⟩:=J6 hl
   rcases split y hy with h|h
   ·exact ht y h _ (cO.2 ⟨⟨_,by unfold Li.af;simp [l4],l5⟩,l2,l3⟩)
   ·refine Classical.byContradiction fun hv=> ?_
    have hq:lu y F=false:=n2 y h
    unfold lu at hq
    simp only [Bool.or_eq_false_iff,hk,decide_true,Bool.true_and,Bool.not_eq_false',decide_eq_true_eq] at hq
    have:=hq.2
    unfold lr at this
    rw [if_neg (by simp [hk,hr]),if_pos ⟨by rw [l1];exact l2,by rw [l1,←Bool.not_eq_true,mA];exact hv,js.2 ih⟩,l1] at this
    exact l2 this
  |qL y hy hk hr hl hw ih=>
   obtain ⟨l1,l2,l3,l4,l5⟩:=J6 hl
   rcases split y hy with h|h
   ·exact ht y h _ (cO.2 ⟨⟨_,by unfold Li.af;simp [l4],l5⟩,l2,l3⟩)
   ·refine Classical.byContradiction fun hv=> ?_
    have hq:lu y F=false:=n2 y h
    unfold lu at hq
    simp only [Bool.or_eq_false_iff,hk,decide_true,Bool.true_and,Bool.not_eq_false',decide_eq_true_eq] at hq
    have:=hq.2
    unfold lr at this
    rw [if_neg (by simp [hk,hr])] at this
    split at this
    ·rename_i hc;exact hc.1 this
    ·rw [if_pos ⟨by rw [l1];exact l2,by rw [l1,←Bool.not_eq_true,mA];exact hv,js.2 ih⟩,l1] at this
     exact l2 this
 refine List.eq_nil_iff_forall_not_mem.2 fun y hy=> ?_
 have h0:=n0 y hy
 have h1:=n1 y hy
 have hb:y∈bd:=by rw [←hZ];exact List.mem_map.2 ⟨_,ve.1 hy,rfl⟩
 have:bT (ay y.af) F=true:=js.2 fun v hv=>hL v (by
  simp only [eQ,decide_eq_true_eq] at hs
  refine hs v ?_
  obtain ⟨⟨t,h2,h3⟩,h4⟩:=cO.1 hv
  exact cO.2 ⟨⟨t,List.mem_append_right _ (List.mem_flatMap.2 ⟨y,hb,h2⟩),h3⟩,h4⟩)
 unfold q0 at h0
 rw [this] at h0
 simp only [Bt,decide_eq_false_iff_not] at h1
 simp [h1] at h0
theorem vf:∀(bd:List Li) (tk:List Bool) (i:Nat) (y:Li) (b:Bool),bd[i]? =some y→bd.zip (tk.set i b)=(bd.zip tk).set i (y,b)
 |[],_,_,_,_,h=>by cases h
 |_::_,[],_,_,_,_=>rfl
 |z::bd,c::tk,0,y,b,h=>by
  simp only [List.getElem?_cons_zero,Option.some.injEq] at h;subst h;rfl
 |z::bd,c::tk,i+1,y,b,h=>by
  simp only [List.set_cons_succ,List.zip_cons_cons,vf bd tk i y b (by simpa using h)]
theorem Ax:∀(bd:List Li) (tk:List Bool),tk.length=bd.length→(bd.zip tk).map (·.1)=bd
 |[],_,_=>rfl
 |_::_,[],h=>by cases h
 |z::bd,c::tk,h=>by
  simp only [List.zip_cons_cons,List.map_cons,Ax bd tk (by simpa using h)]
theorem E6 {rs:List Ru} {rn:List ByteArray} (hrn:RN rs rn) {hd:List Ar} {bd:List Li} (hli:∀y,y∈bd→fk y=true) (hs:eQ hd bd=true):∀(n:Nat) (tk:List Bool) (F ks:List ByteArray) (L L':List Ad) (body o:List Li) (A:List Ad),tk.length=bd.length→(fW (bd.zip tk)).length=n→(∀v,v∈F↔v∈ks)→(∀y,(y,true)∈bd.zip tk→∀v,v∈ay y.af→v∈F)→jB rn L ks (fW (bd.zip tk)) L' body→
  ∃F' A',(gY bd n tk F).foldl (iT rs bd) (F,o,A)=(F',o++body,A++A')∧L'=A'.foldl eE L
 |0,tk,F,ks,L,L',body,o,A,hl,hn,hF,hT,hst=>by
  rw [List.length_eq_zero_iff.1 hn] at hst
  cases hst with
  |iV=>exact ⟨F,[],by simp [gY],rfl⟩
  |HQ i hi x hx=>simp at hx
  |Uj i hi x hx=>simp at hx
 |n+1,tk,F,ks,L,L',body,o,A,hl,hn,hF,hT,hst=>by
  have hZ:=Ax bd tk hl
  have hli':∀y,y∈fW (bd.zip tk)→fk y=true:=fun y hy=>hli y (by rw [←hZ];exact List.mem_map.2 ⟨_,ve.1 hy,rfl⟩)
  cases hne:jN (bd.zip tk) F with
  |none=>rw [Iq hZ hs hT hne] at hn;cases hn
  |some i=>
   obtain ⟨y,g1,g2,g3⟩:=SB hli' hne
   rw [Io hF] at g2 g3
   have gb:bd[i]? =some y:=by
    have:=congrArg (fun l=>l[i]?) hZ
    simp only [List.getElem?_map,g1,Option.map_some] at this
    exact this.symm
   rw [←vf bd tk i y true gb] at g3
   have hod:gY bd (n+1) tk F=i::gY bd n (tk.set i true) (F++ay y.af):=by
    rw [gY,hne];simp only [gb,Option.map_some,Option.getD_some]
   have hlen:(fW (bd.zip (tk.set i true))).length=n:=by
    rw [g3,List.length_eraseIdx,if_pos (List.getElem?_eq_some_iff.1 g2).1];omega
   have hT':∀z,(z,true)∈bd.zip (tk.set i true)→∀v,v∈ay z.af→v∈F++ay y.af:=fun z hz v hv=>by
    rw [vf bd tk i y true gb] at hz
    rcases List.mem_or_eq_of_mem_set hz with h|h
    ·exact List.mem_append_left _ (hT z h v hv)
    ·injection h with h;subst h;exact List.mem_append_right _ hv
   rw [hod,List.foldl_cons]
   have hwo:iT rs bd (F,o,A) i=u6 rs (F,o,A) y:=by unfold iT;rw [gb]
   rw [hwo]
   generalize hR:fW (bd.zip tk)=R at hst g2 g3
   cases hst with
   |iV=>rw [hR] at hn;cases hn
   |HQ i2 hi x hx hnn h=>
    subst hi
    rw [g2] at hx;injection hx with hx;subst hx
    rw [←g3] at h
    obtain ⟨F',A',e1,e2⟩:=E6 hrn hli hs n (tk.set i true) (F++ay y.af) (ks++ay y.af) L L' _ (o++[y]) A (by rw [List.length_set];exact hl) hlen (xa hF _) hT' h
    refine ⟨F',A',?_,e2⟩
    unfold u6
    rw [if_neg (fun h=>hnn ⟨h.1,(rB hrn).1 h.2⟩)]
    simp only
    rw [e1];simp
   |Uj i2 hi x hx hk hp h=>
    subst hi
    rw [g2] at hx;injection hx with hx;subst hx
    rw [←g3] at h
    rw [←BK hF] at h⊢
    obtain ⟨F',A',e1,e2⟩:=E6 hrn hli hs n (tk.set i true) (F++ay y.af) (ks++ay y.af) _ L' _ (o++[({y with p:=aH y.p (aW y.ts F)}:Li)]) (A++[(y.p,aW y.ts F)]) (by rw [List.length_set];exact hl) hlen (xa hF _) hT' h
    refine ⟨F',(y.p,aW y.ts F)::A',?_,e2⟩
    unfold u6
    rw [if_pos ⟨hk,(rB hrn).2 hp⟩]
    simp only
    rw [e1];simp
theorem Aw:∀bd:List Li,fW (bd.zip (List.replicate bd.length false))=bd
 |[]=>rfl
 |y::bd=>by
  rw [List.length_cons,List.replicate_succ,List.zip_cons_cons,yP,Aw bd]
theorem Ir {bd:List Li} {n:Nat} {y:Li}:(y,true)∉bd.zip (List.replicate n false):=fun h=>by
 have:=(List.of_mem_zip h).2
 have:=List.eq_of_mem_replicate this
 cases this
theorem EO {rs:List Ru} {rn:List ByteArray} (hrn:RN rs rn) {r:Ru} (hok:ch r.p r.hd r.bd=true∧eQ r.hd r.bd=true) {s:ByteArray} {ks:List ByteArray} {L L':List Ad} {body:List Li} (hk:wR s r.hd ks) (hst:jB rn L ks r.bd L' body):(gZ rs r s).2.1=body∧L'=(gZ rs r s).2.2.foldl eE L:=by
 have hli:∀y,y∈r.bd→fk y=true:=by
  have:=hok.1
  simp only [ch,Bool.and_eq_true,decide_eq_true_eq] at this
  exact List.all_eq_true.1 this.1.2
 have e:=Aw r.bd
 rw [←e] at hst
 obtain ⟨F',A',e1,e2⟩:=E6 hrn hli hok.2 r.bd.length (List.replicate r.bd.length false) (dV s r.hd) ks L L' body [] [] (by simp) (by rw [e]) (In hk) (fun y hy=>absurd hy Ir) hst
 unfold gZ jp
 rw [e1]
 exact ⟨by simp,by simpa using e2⟩
theorem rI {rs:List Ru} {rn:List ByteArray} (hrn:RN rs rn) {a:Ad}:∀(l:List Ru) {L L':List Ad} {out out':List Ru},(∀r,r∈l→ch r.p r.hd r.bd=true∧eQ r.hd r.bd=true)→JW rn a (bx l a.1) L out L' out'→l.foldl (gT rs a) (L,out)=(L',out')
 |[],L,L',out,out',_,h=>by
  have h:JW rn a [] L out L' out':=h
  cases h;rfl
 |r::l,L,L',out,out',hok,h=>by
  rw [List.foldl_cons]
  by_cases hp:r.p=a.1
  ·have e:bx (r::l) a.1=r::bx l a.1:=by unfold bx;rw [List.filter_cons,if_pos (by simp [hp])]
   rw [e] at h
   cases h with
   |bz h1 h2 h3=>
    obtain ⟨e1,e2⟩:=EO hrn (hok r (by simp)) h1 h2
    unfold gT
    rw [if_pos hp,e1]
    rw [←e2]
    exact rI hrn l (fun q hq=>hok q (by simp [hq])) h3
  ·have e:bx (r::l) a.1=bx l a.1:=by unfold bx;rw [List.filter_cons,if_neg (by simp [hp])]
   rw [e] at h
   unfold gT
   rw [if_neg hp]
   exact rI hrn l (fun q hq=>hok q (by simp [hq])) h
theorem Ip {rs:List Ru} {rn:List ByteArray} (hrn:RN rs rn) (hok:∀r,r∈rs→ch r.p r.hd r.bd=true∧eQ r.hd r.bd=true) {i:Nat} {L L':List Ad} {out out':List Ru} (h:E8 rs rn i L out L' out'):BG rs i L out L' out':=by
 induction h with
 |oF L out=>exact .oF L out
 |go h1 h2 h3 ih=>
  have e:=rI hrn rs hok h2
  exact .go h1 (by rw [e];exact ih)
theorem BG.det {rs:List Ru} {i:Nat} {L L1 L2:List Ad} {out o1 o2:List Ru} (h:BG rs i L out L1 o1):BG rs i L out L2 o2→L1=L2∧o1=o2:=by
 induction h with
 |oF L out=>
  intro h2
  generalize hi:L.length=i at h2
  cases h2 with
  |oF=>exact ⟨rfl,rfl⟩
  |go h1 h2=>subst hi;simp at h1
 |go h1 h2 ih=>
  intro h3
  cases h3 with
  |oF=>simp at h1
  |go h4 h5=>
   rw [h1] at h4;injection h4 with h4;subst h4
   exact ih h5
theorem nE {P:Program} {n:Nat} {c:Code} {X:Type} {l:List X} {k:Nat} (S:Nat→St) (T:St)
  (turn:∀i y,l[i]? =some y→dm P n c (S i) (fun e t=>e= .aj∧t=S (i+1))) (stop:dm P n c (S l.length) (fun e t=>e= .ar k∧t=T)):bJ P n c (S 0) (.ar k) T:=by
 refine bJ.rX (N:=l.length) (fun i hi=> ?_) ?_
 ·obtain ⟨e,t,⟨rfl,rfl⟩,h⟩:=turn i _ (List.getElem?_eq_getElem hi)
  exact h
 ·obtain ⟨e,t,⟨rfl,rfl⟩,h⟩:=stop
  exact .bD h (by simp)
abbrev C8:AV:= .bZ 208 [.bH [] []] []
theorem Nk (v:ByteArray) (rest:List AV):Sp 208 [.bH [] [],.aE (.J v::rest)] [] (.bC []) []:=av Tryz.f208 0 false (hr:=fun h=>zM Tryz.f208 19 h (fun _ _ h=>by cases h))
theorem SC (p:ByteArray) (ts:List Tm) (rest:List AV) (hsm:ts.length≤9223372036854775807):Sp 93 [.bu 108 (.aE (.J p::sT ts::rest)),C8] [] (.bC []) []:=by
 have o:=nE (P:=Tryz.prog) (n:=119) (c:=O Tryz.f93 3) (k:=7) (l:=ts) (fun i=>⟨[(1,C8),(10,.aE (.J p::sT ts::rest)),(106,sI (ts.map Tm.av).length),(107,sI i)],[]⟩) ⟨[],[]⟩ (fun i y hy=>by
  have hi:=(List.getElem?_eq_some_iff.1 hy).1
  have hx:=eY Tm.av hy rfl
  have hk:=Nk y.v [sJ y.k,sI y.n,.J y.s]
  exact av Tryz.f93 0 false) (av Tryz.f93 0 false)
 exact av Tryz.f93 0 false (hr:=fun h=>zM Tryz.f93 119 h (fun _ _ h=>by cases h))
mutual
theorem EP:∀(x:Ex) (rest:List AV),x.af.length≤9223372036854775807→Sp 93 [.bu 198 (.aE (x.ac++rest)),C8] [] (.bC []) []
 | .mk o t ks,rest,hl=>by
   have hs:(Ex.bv ks).length≤9223372036854775807:=by simp only [Ex.af,List.length_cons] at hl;omega
   have hk:=Ex.gL ks
   have o:=nE (P:=Tryz.prog) (n:=119) (c:=O Tryz.f93 2) (k:=5) (l:=ks) (fun i=>⟨[(1,C8),(8,.aE ((Ex.mk o t ks).ac++rest)),(85,sI (ks.map Ex.av).length),(86,sI i)],[]⟩) ⟨[],[]⟩ (fun i y hy=>by
    have hi:=(List.getElem?_eq_some_iff.1 hy).1
    have hx:=eY Ex.av hy (Ex.de y)
    have hk:=J7 ks hs y (List.mem_of_getElem? hy)
    exact av Tryz.f93 0 false) (av Tryz.f93 0 false)
   have hk:=Nk t.v (sJ t.k::sI t.n:: .J t.s::sE ks::rest)
   exact av Tryz.f93 0 false (hr:=fun h=>zM Tryz.f93 119 h (fun _ _ h=>by cases h))
theorem J7:∀(ks:List Ex),(Ex.bv ks).length≤9223372036854775807→∀y,y∈ks→Sp 93 [.bu 198 (.aE y.ac),C8] [] (.bC []) []
 |x::r,hl,y,hy=>by
  simp only [Ex.bv,List.length_append] at hl
  rcases List.mem_cons.1 hy with e|e
  ·rw [e,←List.append_nil x.ac];exact EP x [] (by omega)
  ·exact J7 r (by omega) y e
end
theorem SD (x:Li) (hl:x.af.length≤9223372036854775807):Sp 93 [.bu 154 (.aE x.ac),C8] [] (.bC []) []:=by
 simp only [Li.af,List.length_append] at hl
 have o1:=SC x.p x.ts (x.ac.drop 3) (by omega)
 have o2:=EP x.l x.r.ac (by omega)
 have o3:=EP x.r [] (by omega)
 exact av Tryz.f93 0 (hr:=fun h=>zM Tryz.f93 119 h (fun _ _ h=>by cases h))
theorem SE (p:ByteArray) (hd:List Ar) (bd:List Li) (h1:hd.length≤9223372036854775807) (h2:bd.length≤9223372036854775807) (h3:∀y,y∈bd→y.af.length≤9223372036854775807):Sp 93 [.bu 196 (.aE [.J p,sA hd,sL bd]),C8] [] (.bC []) []:=by
 have o:=nE (P:=Tryz.prog) (n:=119) (c:=O Tryz.f93 0) (k:=1) (l:=hd) (fun i=>⟨[(1,C8),(4,.aE [.J p,sA hd,sL bd]),(20,sI (hd.map Ar.av).length),(21,sI i)],[]⟩) ⟨[(1,C8),(4,.aE [.J p,sA hd,sL bd])],[]⟩ (fun i y hy=>by
  have hi:=(List.getElem?_eq_some_iff.1 hy).1
  have hx:=eY Ar.av hy rfl
  have hk:=Nk y.t.v [sJ y.t.k,sI y.t.n,.J y.t.s]
  exact av Tryz.f93 0) (av Tryz.f93 0)
 have o2:=nE (P:=Tryz.prog) (n:=119) (c:=O Tryz.f93 1) (k:=3) (l:=bd) (fun i=>⟨[(1,C8),(4,.aE [.J p,sA hd,sL bd]),(38,sI (bd.map Li.av).length),(39,sI i)],[]⟩) ⟨[],[]⟩ (fun i y hy=>by
  have hi:=(List.getElem?_eq_some_iff.1 hy).1
  have hx:=eY Li.av hy rfl
  have hk:=SD y (h3 y (List.mem_of_getElem? hy))
  exact av Tryz.f93 0) (av Tryz.f93 0)
 exact av Tryz.f93 0 (hr:=fun h=>zM Tryz.f93 119 h (fun _ _ h=>by cases h))
section
variable (p:ByteArray) (hd:List Ar) (bd:List Li) (x:Ex)
theorem BN {X:Type} (l:List X):∀a:List X,l.foldl (fun a y=>a++[y]) a=a++l:=by
 induction l with
 |nil=>intro a;simp
 |cons y r ih=>intro a;rw [List.foldl_cons,ih];simp
abbrev kP:Nat×AV:=(1,.aA 2001 0 0)
abbrev g7:Nat×AV:=(2,.aA 2002 0 0)
abbrev yQ:Nat×Ob:=(2001,.an x.ac)
abbrev rJ (x:Ex) (a:List Ex) (i:Int):St:=⟨[kP,g7,(3,.aO 1000 a.length),(7,sE x.ax),(8,sI ((x.ax.map Ex.av).length:Nat)),(9,sI i)],[yQ x,(2002,.an [sJ 0,.J ⟨#[]⟩,sJ 0,sI 0,.J ⟨#[]⟩,.ab]),(1000,.ao 6 (a.map Ex.av))]⟩
theorem Iv (hsm:x.ax.length<1000000000) (k247x:∀(y:Ex),y∈x.ax→Sp 247 [.al y.ac] [] (.al y.ac) []) (a:List Ex) (i:Nat) (hi:i<x.ax.length) (hI:a.length≤i):En 22 (O Tryz.f247 0) ((rJ x a (i:Nat))) (fun eo so=>eo= .aj∧∃y,x.ax[i]? =some y∧so=rJ x ((fun a y=>a++[y]) a y) ((i+1:Nat):Int)):=by
 obtain ⟨x0,hm0,hx0⟩:=qp (l:=Ex.ax x) (n:=(↑i:Int)) (by omega) (by omega)
 exact zs 2000<|zt (show decide ((i:Int)<(↑(List.length (x.ax.map Ex.av)):Int))=true from by simp;omega)<|ze hx0<|zc (k247x x0 (List.mem_of_getElem? (by assumption)))<|zh (rZ 6 80 [.al x0.ac] (List.length a) (List.map Ex.av a))<|zh (w1 i (by omega))<|zt rT<|zh rT<|zh (zN (List.map Ex.av a++[.al x0.ac]))<|zq (s:=St.mk [kP,g7,(3,.aO 1000 (List.length a+List.length [AV.al [sJ (Ex.op x0),.J (Ex.t x0).1,sJ (Ex.t x0).2,sI (Ex.t x0).3,.J (Ex.t x0).4,sE (Ex.ax x0)]])),(7,sE (Ex.ax x)),(8,sI (↑(List.length (List.map Ex.av (Ex.ax x))):Int)),(9,sI ((i:Int)+1))] [(2001,.an [sJ (Ex.op x),.J (Ex.t x).1,sJ (Ex.t x).2,sI (Ex.t x).3,.J (Ex.t x).4,sE (Ex.ax x)]),(2002,.an [sJ 0,.J (ByteArray.mk #[]),sJ 0,sI 0,.J (ByteArray.mk #[]),.ab]),(1000,.ao 6 (a.map Ex.av++[.al [sJ (Ex.op x0),.J (Ex.t x0).1,sJ (Ex.t x0).2,sI (Ex.t x0).3,.J (Ex.t x0).4,sE (Ex.ax x0)]]))]) ⟨rfl,_,hm0,by (simp only [rJ,List.map_append,List.length_append,List.map_cons,List.map_nil,List.length_cons,List.length_nil,Ex.de];rfl)⟩ (tb:=[K1 2001,K1 2002,(2017,.a6 1000 true)])
theorem It (hsm:x.ax.length<1000000000) (k247x:∀(y:Ex),y∈x.ax→Sp 247 [.al y.ac] [] (.al y.ac) []) (a:List Ex) (hI:a.length≤x.ax.length):En 22 (O Tryz.f247 0) ((rJ x a (x.ax.length:Nat))) (fun eo so=>eo= .ar 0∧so=⟨[kP,g7,(3,.aO 1000 a.length)],[yQ x,(2002,.an [sJ 0,.J ⟨#[]⟩,sJ 0,sI 0,.J ⟨#[]⟩,.ab]),(1000,.ao 6 (a.map Ex.av))]⟩):=au Tryz.f247 2000
theorem Iu (hsm:x.ax.length<1000000000) (k247x:∀(y:Ex),y∈x.ax→Sp 247 [.al y.ac] [] (.al y.ac) []):Lo 22 (O Tryz.f247 0) ⟨[kP,g7,(3,.ab),(7,sE x.ax),(8,sI ((x.ax.map Ex.av).length:Nat)),(9,sI 0)],[yQ x,(2002,.an [sJ 0,.J ⟨#[]⟩,sJ 0,sI 0,.J ⟨#[]⟩,.ab])]⟩ (.ar 0) ⟨[kP,g7,(3,.aO 1000 (x.ax.foldl (fun a y=>a++[y]) []).length)],[yQ x,(2002,.an [sJ 0,.J ⟨#[]⟩,sJ 0,sI 0,.J ⟨#[]⟩,.ab]),(1000,.ao 6 ((x.ax.foldl (fun a y=>a++[y]) []).map Ex.av))]⟩:=
 (be (l:=x.ax) (fun i a=>rJ x a (i:Nat)) (fun a=>⟨[kP,g7,(3,.aO 1000 a.length)],[yQ x,(2002,.an [sJ 0,.J ⟨#[]⟩,sJ 0,sI 0,.J ⟨#[]⟩,.ab]),(1000,.ao 6 (a.map Ex.av))]⟩) (fun a y=>a++[y]) (fun i a=>a.length≤i) (fun i a hi hI=>Iv x hsm k247x a i hi hI) (fun i a y hy hI=>by (simp only [List.length_append,List.length_singleton];omega)) (fun a hI=>It x hsm k247x a hI) [] (by simp<;>assumption)).1.ez (b5 3 1000 6 rfl rfl)
theorem YI (l247_0q:Lo 22 (O Tryz.f247 0) ⟨[kP,g7,(3,.ab),(7,sE x.ax),(8,sI ((x.ax.map Ex.av).length:Nat)),(9,sI 0)],[yQ x,(2002,.an [sJ 0,.J ⟨#[]⟩,sJ 0,sI 0,.J ⟨#[]⟩,.ab])]⟩ (.ar 0) ⟨[kP,g7,(3,.aO 1000 x.ax.length)],[yQ x,(2002,.an [sJ 0,.J ⟨#[]⟩,sJ 0,sI 0,.J ⟨#[]⟩,.ab]),(1000,.ao 6 (x.ax.map Ex.av))]⟩):En 22 (ai Tryz.f247) ⟨[(0,.al x.ac)],[]⟩ (fun e t=>e= .aR∧t=⟨[g7],[(2002,.an x.ac)]⟩):=by
 have o0:=l247_0q
 exact au Tryz.f247 2000
mutual
theorem Nm:∀(x:Ex),x.af.length<100000000→Sp 247 [.al x.ac] [] (.al x.ac) []
 | .mk o t ks,h=>by
   have hs:(Ex.bv ks).length<100000000:=by simp only [Ex.af,List.length_cons] at h;omega
   have hk:=Ex.gL ks
   have hl:=Iu (.mk o t ks) (by show ks.length<_;omega) (J8 ks hs)
   rw [BN,List.nil_append] at hl
   obtain ⟨e,s,⟨rfl,rfl⟩,r⟩:=YI (.mk o t ks) hl
   exact bK.jb (fn:=Tryz.f247) (c:=ai Tryz.f247) (by kernel_rfl) (by kernel_rfl) (by simp [aa,aJ,Ex.ac,CJ]) r (.inr rfl) (by kernel_rfl) (by simp [aa,aJ,Ex.ac,CJ])
theorem J8:∀(l:List Ex),(Ex.bv l).length<100000000→∀(y:Ex),y∈l→Sp 247 [.al y.ac] [] (.al y.ac) []
 |[],_,y,hy=>by cases hy
 |x::r,hl,y,hy=>by
  simp only [Ex.bv,List.length_append] at hl
  rcases List.mem_cons.1 hy with e|e
  ·rw [e];exact Nm x (by omega)
  ·exact J8 r (by omega) y e
end
abbrev Nl:Nat×Ob:=(2008,.aI [] [])
abbrev SF:St:=⟨[(3,.aI 2008)],[Nl]⟩
theorem YL:En 41 (O Tryz.f169 0) ⟨[(2,.bh),(3,.aI 2008),(9,.ab),(10,sI 0),(11,sI 0)],[Nl]⟩ (fun e t=>e= .ar 0∧t=SF):=au Tryz.f169 2000
theorem YT (l169_0q:Lo 41 (O Tryz.f169 0) ⟨[(2,.bh),(3,.aI 2008),(9,.ab),(10,sI 0),(11,sI 0)],[Nl]⟩ (.ar 0) SF):En 41 (ai Tryz.f169) ⟨[(0,.ab)],[]⟩ (fun e t=>e= .aR∧t=⟨[(2,.bH [] [])],[]⟩):=by
 have o0:=l169_0q
 exact au Tryz.f169 2000
theorem YO:Sp 169 [.ab] [] (.bH [] []) []:=by
 obtain ⟨e,t,⟨rfl,rfl⟩,h0⟩:=YL
 obtain ⟨e,t,⟨rfl,rfl⟩,h⟩:=YT (.bD h0 (by simp))
 exact sQ Tryz.f169 h
@[reducible,instance] def aaO:=kT (YO)
theorem fX {X:Type} {l:List X} {k:Nat} {a:X} (h:l[k]? =some a):l.set k a=l:=by
 apply List.ext_getElem?
 intro j
 rw [List.getElem?_set]
 split
 ·rename_i e;subst e;rw [h];split<;>simp_all
 ·rfl
theorem rK {X:Type} {l:List X} {k:Nat} {a:X} (h:l[k]? =some a):((l.set k a).set k a).set k a=l:=by rw [fX h,fX h,fX h]
theorem BM {l:List Li} {k:Nat} {a:AV} (h:(l.map Li.av)[k]? =some a):aa ((((l.map Li.av).set k a).set k a).set k a)=true:=by rw [rK h];exact dG l
abbrev xd:Nat×Ob:=(2002,.an [.J ⟨#[]⟩,.ab,.ab])
abbrev Is:Nat×Ob:=(45007,.aw 16 (bd.map Li.av))
abbrev BL (p:ByteArray) (hd:List Ar) (bd:List Li) (i:Int):St:=⟨[kP,g7,(15,sI ((bd.map Li.av).length:Nat)),(16,sI i)],[(2001,.an [.J p,sA hd,.aw 45007 0 (bd.map Li.av).length]),xd,Is bd]⟩
theorem SI (i:Nat) {z:List AV} (h:z=bd.map Li.av):(⟨[kP,g7,(15,sI ((bd.map Li.av).length:Nat)),(16,sI ((i:Int)+1))],[(2001,.an [.J p,sA hd,.aw 45007 0 (bd.map Li.av).length]),xd,(45007,.aw 16 z)]⟩:St)=BL p hd bd ((i+1:Nat):Int):=by subst h;rfl
theorem YS (i:Nat) (x:Li) (hi:i<bd.length) (hsm:bd.length≤9223372036854775807) (ht:x.ts.length<100000000) (hl:x.l.af.length<100000000) (hr:x.r.af.length<100000000) (ha:(bd.map Li.av)[0+Int.toNat (i:Int)]? =some (.al x.ac)) (hb:(List.set (bd.map Li.av) (0+Int.toNat (i:Int)) (.al x.ac))[0+Int.toNat (i:Int)]? =some (.al x.ac)) (hc:(List.set (List.set (bd.map Li.av) (0+Int.toNat (i:Int)) (.al x.ac)) (0+Int.toNat (i:Int)) (.al x.ac))[0+Int.toNat (i:Int)]? =some (.al x.ac)):En 51 (O Tryz.f207 0) ((BL p hd bd i)) (fun e t=>e= .aj∧t=BL p hd bd ((i+1:Nat):Int)):=by
 exact zs 2000<|zt (d1 Li.av bd i (by omega))<|zh (show 0≤(i:Int)∧(i:Int)<(↑(bd.map Li.av).length:Int) from by simp;omega)<|ze ha<|zc (k45 x.3 (by assumption))<|ze ha<|ze hb<|zc (Nm (Li.l x) (by assumption))<|ze hb<|zc (Nm (Li.r x) (by assumption))<|ze hb<|ze hc<|zh (w1 i (by omega))<|zh rT<|zh (show aa (List.set (List.set (List.set (bd.map Li.av) (0+Int.toNat (i:Int)) (AV.al x.ac)) (0+Int.toNat (i:Int)) (AV.al x.ac)) (0+Int.toNat (i:Int)) (AV.al x.ac))=true from BM ha)<|zq (s:=St.mk [kP,g7,(15,sI (↑(bd.map Li.av).length:Int)),(16,sI ((i:Int)+1))] [(2001,.an [.J p,sA hd,.aw 45007 0 (bd.map Li.av).length]),(2002,.an [.J (ByteArray.mk #[]),.ab,.ab]),(45007,.aw 16 (List.set (List.set (List.set (bd.map Li.av) (0+Int.toNat (i:Int)) (.al [sJ x.1,.J x.2,sT x.3,sJ x.4,sJ (Ex.op (Li.l x)),.J (Ex.t (Li.l x)).1,sJ (Ex.t (Li.l x)).2,sI (Ex.t (Li.l x)).3,.J (Ex.t (Li.l x)).4,sE (Ex.ax (Li.l x)),sJ (Ex.op (Li.r x)),.J (Ex.t (Li.r x)).1,sJ (Ex.t (Li.r x)).2,sI (Ex.t (Li.r x)).3,.J (Ex.t (Li.r x)).4,sE (Ex.ax (Li.r x))])) (0+Int.toNat (i:Int)) (.al [sJ x.1,.J x.2,sT x.3,sJ x.4,sJ (Ex.op (Li.l x)),.J (Ex.t (Li.l x)).1,sJ (Ex.t (Li.l x)).2,sI (Ex.t (Li.l x)).3,.J (Ex.t (Li.l x)).4,sE (Ex.ax (Li.l x)),sJ (Ex.op (Li.r x)),.J (Ex.t (Li.r x)).1,sJ (Ex.t (Li.r x)).2,sI (Ex.t (Li.r x)).3,.J (Ex.t (Li.r x)).4,sE (Ex.ax (Li.r x))])) (0+Int.toNat (i:Int)) (.al [sJ x.1,.J x.2,sT x.3,sJ x.4,sJ (Ex.op (Li.l x)),.J (Ex.t (Li.l x)).1,sJ (Ex.t (Li.l x)).2,sI (Ex.t (Li.l x)).3,.J (Ex.t (Li.l x)).4,sE (Ex.ax (Li.l x)),sJ (Ex.op (Li.r x)),.J (Ex.t (Li.r x)).1,sJ (Ex.t (Li.r x)).2,sI (Ex.t (Li.r x)).3,.J (Ex.t (Li.r x)).4,sE (Ex.ax (Li.r x))])))]) ⟨rfl,by (exact SI _ _ _ _ (rK ha))⟩
theorem SH:En 51 (O Tryz.f207 0) ⟨[kP,g7,(15,sI 0),(16,sI 0)],[(2001,.an [.J p,sA hd,.aF [] false]),xd]⟩ (fun e t=>e= .ar 0∧t=⟨[kP,g7],[(2001,.an [.J p,sA hd,.aF [] false]),xd]⟩):=au Tryz.f207 2000
theorem YR (hsm:bd.length≤9223372036854775807) (hT:∀x:Li,x∈bd→x.ts.length<100000000∧x.l.af.length<100000000∧x.r.af.length<100000000):Lo 51 (O Tryz.f207 0) (BL p hd bd 0) (.ar 0) ⟨[kP,g7],[(2001,.an [.J p,sA hd,.aw 45007 0 (bd.map Li.av).length]),xd,Is bd]⟩:=
 nE (l:=bd) (fun i=>BL p hd bd (i:Nat)) _ (fun i y hy=>by
  have hg:(bd.map Li.av)[0+Int.toNat (i:Int)]? =some (.al y.ac):=by rw [Nat.zero_add];exact dD Li.av hy
  obtain ⟨h1,h2,h3⟩:=hT y (List.mem_of_getElem? hy)
  exact YS p hd bd i y (List.getElem?_eq_some_iff.1 hy).1 hsm h1 h2 h3 hg (by rw [fX hg];exact hg) (by rw [fX hg,fX hg];exact hg)) (au Tryz.f207 2000)
theorem YH (h1:hd.length<100000000) (h2:bd.length<100000000) (k82x:Sp 82 [sL bd] [] (.aw 45007 0 (bd.map Li.av).length) [Is bd]) (l207_0q:Lo 51 (O Tryz.f207 0) (BL p hd bd 0) (.ar 0) ⟨[kP,g7],[(2001,.an [.J p,sA hd,.aw 45007 0 (bd.map Li.av).length]),xd,Is bd]⟩):En 51 (ai Tryz.f207) ⟨[(0,.al [.J p,sA hd,sL bd])],[]⟩ (fun e t=>e= .aR∧t=⟨[g7],[(2002,.an [.J p,sA hd,sL bd])]⟩):=by
 have o0:=k82x
 have o1:=l207_0q
 exact au Tryz.f207 2000
theorem SG (h1:hd.length<100000000) (k82x:Sp 82 [.aF [] false] [] (.aF [] false) []) (l207_0q:Lo 51 (O Tryz.f207 0) ⟨[kP,g7,(15,sI 0),(16,sI 0)],[(2001,.an [.J p,sA hd,.aF [] false]),xd]⟩ (.ar 0) ⟨[kP,g7],[(2001,.an [.J p,sA hd,.aF [] false]),xd]⟩):En 51 (ai Tryz.f207) ⟨[(0,.al [.J p,sA hd,.aF [] false])],[]⟩ (fun e t=>e= .aR∧t=⟨[g7],[(2002,.an [.J p,sA hd,.aF [] false])]⟩):=by
 have o0:=k82x
 have o1:=l207_0q
 exact au Tryz.f207 2000
theorem YP (h1:hd.length<100000000) (h2:bd.length<100000000) (hT:∀x:Li,x∈bd→x.ts.length<100000000∧x.l.af.length<100000000∧x.r.af.length<100000000):
  Sp 207 [.al [.J p,sA hd,sL bd]] [] (.al [.J p,sA hd,sL bd]) []:=by
 by_cases hn:bd=[]
 ·subst hn
  obtain ⟨e,t,⟨rfl,rfl⟩,h0⟩:=SH p hd
  obtain ⟨e,t,⟨rfl,rfl⟩,h⟩:=SG p hd h1 (k82 [] (by simp)) (.bD h0 (by simp))
  exact bK.jb (fn:=Tryz.f207) (c:=ai Tryz.f207) (by kernel_rfl) (by kernel_rfl) (by simp [aa,aJ]) h (.inr rfl) (by kernel_rfl) (by simp [aa,aJ])
 ·obtain ⟨e,t,⟨rfl,rfl⟩,h⟩:=YH p hd bd h1 h2 (RE bd hn h2) (YR p hd bd (by omega) hT)
  exact bK.jb (fn:=Tryz.f207) (c:=ai Tryz.f207) (by kernel_rfl) (by kernel_rfl) (by simp [aa,aJ]) h (.inr rfl) (by kernel_rfl) (by simp [aa,aJ])
theorem Nn (h1:hd.length≤9223372036854775807) (h2:bd.length≤9223372036854775807) (h3:∀y,y∈bd→y.af.length≤9223372036854775807):Sp 93 [.bu 196 (.aA 2003 0 0),.bZ 208 [.bH [] []] []] [(2003,.an [.J p,sA hd,sL bd])] (.bC []) []:=
 bK.fi (SE p hd bd h1 h2 h3) [(2003,.an [.J p,sA hd,sL bd])] rfl (by simp [dl]) (by simp [bW,dB,dK,eX,ae]) (by simp [cu,el,dK,eX,ae]) rfl
theorem YG (FM:Sp 49 [.al [.J p,sA hd,sL bd]] [] (sI 0) []) (k207x:Sp 207 [.al [.J p,sA hd,sL bd]] [] (.al [.J p,sA hd,sL bd]) []) (U4:Sp 93 [.bu 196 (.aA 2003 0 0),.bZ 208 [.bH [] []] []] [(2003,.an [.J p,sA hd,sL bd])] (.bC []) []):En 27 (ai Tryz.f168) ⟨[(0,.bH [] []),(1,.al [.J p,sA hd,sL bd])],[]⟩ (fun e t=>e= .aR∧t=⟨[(4,.aA 2004 0 0),(5,sI 0)],[(2004,.an [.J p,sA hd,sL bd])]⟩):=by
 have o0:=k207x
 have o1:=U4
 exact au Tryz.f168 2000
theorem YN (h1:hd.length<100000000) (h2:bd.length<100000000) (hT:∀x:Li,x∈bd→x.ts.length<100000000∧x.l.af.length<100000000∧x.r.af.length<100000000) (hT2:∀y,y∈bd→y.af.length≤9223372036854775807) (hok:ch p hd bd=true):Sp 168 [.bH [] [],.al [.J p,sA hd,sL bd]] [] (.bC [.al [.J p,sA hd,sL bd],sI 0]) []:=by
 have h49:=FM p hd bd
 rw [hok] at h49
 obtain ⟨e,t,⟨rfl,rfl⟩,h⟩:=YG p hd bd h49 (YP p hd bd h1 h2 hT) (Nn p hd bd (by omega) (by omega) hT2)
 exact bK.jb (fn:=Tryz.f168) (c:=ai Tryz.f168) (by kernel_rfl) (by kernel_rfl) (by simp [aa,aJ]) h (.inr rfl) (by kernel_rfl) (by simp [aa,aJ])
theorem YF (k168x:Sp 168 [.bH [] [],.al [.J p,sA hd,sL bd]] [] (.bC [.al [.J p,sA hd,sL bd],sI 0]) []):En 12 (ai Tryz.f115) ⟨[(0,.ab),(1,.al [.J p,sA hd,sL bd])],[]⟩ (fun e t=>e= .aR∧t=⟨[(4,.aA 2004 0 0),(5,sI 0)],[(2004,.an [.J p,sA hd,sL bd])]⟩):=by
 have o0:=k168x
 exact au Tryz.f115 2000
theorem YM (h1:hd.length<100000000) (h2:bd.length<100000000) (hT:∀x:Li,x∈bd→x.ts.length<100000000∧x.l.af.length<100000000∧x.r.af.length<100000000) (hT2:∀y,y∈bd→y.af.length≤9223372036854775807) (hok:ch p hd bd=true):Sp 115 [.ab,.al [.J p,sA hd,sL bd]] [] (.bC [.al [.J p,sA hd,sL bd],sI 0]) []:=by
 obtain ⟨e,t,⟨rfl,rfl⟩,h⟩:=YF p hd bd (YN p hd bd h1 h2 hT hT2 hok)
 exact bK.jb (fn:=Tryz.f115) (c:=ai Tryz.f115) (by kernel_rfl) (by kernel_rfl) (by simp [aa,aJ]) h (.inr rfl) (by kernel_rfl) (by simp [aa,aJ])
theorem YK (FM:Sp 49 [.al [.J p,sA hd,sL bd]] [] (sI 0) []) (k115x:Sp 115 [.ab,.al [.J p,sA hd,sL bd]] [] (.bC [.al [.J p,sA hd,sL bd],sI 0]) []):En 14 (ai Tryz.f65) ⟨[(0,.al [.J p,sA hd,sL bd])],[]⟩ (fun e t=>e= .aR∧t=⟨[g7,(3,sI 0)],[(2002,.an [.J p,sA hd,sL bd])]⟩):=by
 have o0:=k115x
 exact au Tryz.f65 2000
theorem YJ (FM:Sp 49 [.al [.J p,sA hd,sL bd]] [] (sI 40) []):En 14 (ai Tryz.f65) ⟨[(0,.al [.J p,sA hd,sL bd])],[]⟩ (fun e t=>e= .aR∧t=⟨[g7,(3,sI 70)],[(2002,.an [.J p,sA hd,sL bd])]⟩):=au Tryz.f65 2000
theorem YQ (hok:ch p hd bd=true→(hd.length<100000000∧bd.length<100000000∧∀x:Li,x∈bd→x.ts.length<100000000∧x.l.af.length<100000000∧x.r.af.length<100000000∧x.af.length≤9223372036854775807)):
  Sp 65 [.al [.J p,sA hd,sL bd]] [] (.bC [.al [.J p,sA hd,sL bd],sI (fj 70 (ch p hd bd))]) []:=by
 have h49:=FM p hd bd
 cases hb:ch p hd bd with
 |true=>
  rw [hb] at h49
  obtain ⟨h1,h2,h3⟩:=hok hb
  obtain ⟨e,t,⟨rfl,rfl⟩,h⟩:=YK p hd bd h49 (YM p hd bd h1 h2 (fun x hx=>⟨(h3 x hx).1,(h3 x hx).2.1,(h3 x hx).2.2.1⟩) (fun x hx=>(h3 x hx).2.2.2) hb)
  exact bK.jb (fn:=Tryz.f65) (c:=ai Tryz.f65) (by kernel_rfl) (by kernel_rfl) (by simp [aa,aJ]) h (.inr rfl) (by kernel_rfl) (by simp [aa,aJ])
 |false=>
  rw [hb] at h49
  obtain ⟨e,t,⟨rfl,rfl⟩,h⟩:=YJ p hd bd h49
  exact bK.jb (fn:=Tryz.f65) (c:=ai Tryz.f65) (by kernel_rfl) (by kernel_rfl) (by simp [aa,aJ]) h (.inr rfl) (by kernel_rfl) (by simp [aa,aJ])
end
section
variable (p:ByteArray) (ts:List Tm) (bd:List Li)
abbrev No (need l:List ByteArray) (a:List Tm) (i:Int):St:=⟨[(7,sS need),(8,.aO 1000 a.length),(17,sS l),(18,sI ((l.map AV.J).length:Nat)),(19,sI i)],[(1000,.ao 4 (a.map Tm.av))]⟩
attribute [local simp,local grind] lE bq Tm.av in
theorem Iy (need l:List ByteArray) (hsm:l.length≤1000000) (hn:need.length<1000000000000000):Lo 33 (O Tryz.f113 0) ⟨[(7,sS need),(8,.ab),(17,sS l),(18,sI ((l.map AV.J).length:Nat)),(19,sI 0)],[]⟩ (.ar 0) ⟨[(8,.aO 1000 (l.foldl (lE need) []).length)],[(1000,.ao 4 ((l.foldl (lE need) []).map Tm.av))]⟩:=
 (be (l:=l) (fun i a=>No need l a (i:Nat)) (fun a=>⟨[(8,.aO 1000 a.length)],[(1000,.ao 4 (a.map Tm.av))]⟩) (lE need) (fun i a=>a.length≤i) (fun i a hi hI=>au Tryz.f113 2000) (fun i a y hy hI=>by (unfold lE;split<;>first|(simp only [List.length_append,List.length_singleton];omega)|omega)) (fun a hI=>au Tryz.f113 2000) [] (by simp<;>assumption)).1.ez (b5 8 1000 4 rfl rfl)
def BP (ah re:List Li) (hd:List Ar):List Tm:=(ay (az ah)).foldl (lE (ay (hd.map Ar.t++az re))) []
theorem nG {X Y:Type} (f:X→Y) (l:List X):∀a:List Y,l.foldl (fun a y=>a++[f y]) a=a++l.map f:=by
 induction l with
 |nil=>intro a;simp
 |cons y r ih=>intro a;rw [List.foldl_cons,ih];simp
abbrev Iw:Nat×AV:=(2,.aA 2002 0 0)
abbrev rL:Nat×AV:=(4,.aA 2004 0 0)
abbrev xe:Nat×AV:=(5,.aA 2005 0 0)
abbrev sw:Nat×Ob:=(2004,.an [.J ⟨#[]⟩,.ab,.ab])
abbrev Ix:Nat×Ob:=(2005,.an [.J p,.ab,.aw 2012 0 (Int.toNat ((bd.map Li.av).length:Int))])
abbrev SJ (p:ByteArray) (ts:List Tm) (bd:List Li):St:=⟨[(1,sL bd),Iw,rL,xe],[(2002,.an [.J p,sT ts]),sw,Ix p bd,(2012,.aw 16 (List.replicate (Int.toNat ((bd.map Li.av).length:Int)) (.al [sJ 0,.J ⟨#[]⟩,.ab,sJ 0,sJ 0,.J ⟨#[]⟩,sJ 0,sI 0,.J ⟨#[]⟩,.ab,sJ 0,.J ⟨#[]⟩,sJ 0,sI 0,.J ⟨#[]⟩,.ab])))]⟩
abbrev SK (p:ByteArray) (ts:List Tm) (bd:List Li) (z:List AV):St:=⟨[Iw,rL,xe],[(2002,.an [.J p,sT ts]),sw,Ix p bd,(2012,.aw 16 (z))]⟩
def Ay (a:List Ar) (y:Tm):List Ar:=a++[⟨0,y⟩]
theorem SP:EN 34 (cF 0 (ai Tryz.f114)) ⟨[(0,.al [.J p,sT ts]),(1,sL bd)],[]⟩ ⟨[(1,sL bd),Iw,rL],[(2002,.an [.J p,sT ts]),sw]⟩:=au Tryz.f114 2000
theorem SN (h2:bd.length<100000000):En 34 (cF 1 (ai Tryz.f114)) ⟨[(1,sL bd),Iw,rL],[(2002,.an [.J p,sT ts]),sw]⟩ (fun e t=>e= .aj∧t=SJ p ts bd):=au Tryz.f114 2000
theorem SO (hne:bd.map Li.av≠[]) (h2:bd.length<100000000):En 34 (cF 2 (ai Tryz.f114)) ((SJ p ts bd)) (fun e t=>e= .aj∧∃z,t=SK p ts bd z∧z=bd.map Li.av):=aS Tryz.f114 2000 [2,4,5] [K1 2002,K1 2004,K0 2005,K1 2012]
abbrev SL (a:List Ar):Nat×Ob:=(2005,.an [.J p,.aO 1000 a.length,.aw 2012 0 (Int.toNat ((bd.map Li.av).length:Int))])
abbrev BO:Nat×Ob:=(2012,.aw 16 (bd.map Li.av))
abbrev Np (p:ByteArray) (ts:List Tm) (bd:List Li) (a:List Ar) (i:Int):St:=⟨[rL,xe,(19,sT ts),(20,sI ((ts.map Tm.av).length:Nat)),(21,sI i)],[sw,SL p bd a,BO bd,(1000,.ao 5 (a.map Ar.av))]⟩
attribute [local simp,local grind] Ay in
theorem Iz (hsm:ts.length<100000000):Lo 34 (O Tryz.f114 0) ⟨[rL,xe,(19,sT ts),(20,sI ((ts.map Tm.av).length:Nat)),(21,sI 0)],[sw,Ix p bd,BO bd]⟩ (.ar 0) ⟨[rL,xe],[sw,(2005,.an [.J p,.aO 1000 (ts.foldl Ay []).length,.aw 2012 0 (Int.toNat ((bd.map Li.av).length:Int))]),BO bd,(1000,.ao 5 ((ts.foldl Ay []).map Ar.av))]⟩:=
 (be (l:=ts) (fun i a=>Np p ts bd a (i:Nat)) (fun a=>⟨[rL,xe],[sw,SL p bd a,BO bd,(1000,.ao 5 (a.map Ar.av))]⟩) Ay (fun i a=>a.length≤i) (fun i a hi hI=>au Tryz.f114 2000) (fun i a y hy hI=>by (unfold Ay;simp only [List.length_append,List.length_singleton];omega)) (fun a hI=>au Tryz.f114 2000) [] (by simp<;>assumption)).1.ez (eS (cs:=[.J p,.ab,.aw 2012 0 (Int.toNat ((bd.map Li.av).length:Int))]) 2005 1 1000 5 rfl rfl rfl)
theorem YU (M:List Ar) (htk:List.take (Int.toNat ((bd.map Li.av).length:Int)) (bd.map Li.av)=bd.map Li.av) (l114_0q:Lo 34 (O Tryz.f114 0) ⟨[rL,xe,(19,sT ts),(20,sI ((ts.map Tm.av).length:Nat)),(21,sI 0)],[sw,Ix p bd,BO bd]⟩ (.ar 0) ⟨[rL,xe],[sw,(2005,.an [.J p,.aO 1000 M.length,.aw 2012 0 (Int.toNat ((bd.map Li.av).length:Int))]),BO bd,(1000,.ao 5 (M.map Ar.av))]⟩):En 34 (ca 3 (ai Tryz.f114)) ((SK p ts bd (bd.map Li.av))) (fun e t=>e= .aR∧t=⟨[rL],[(2004,.an [.J p,sA M,sL bd])]⟩):=by
 have o0:=l114_0q
 exact au Tryz.f114 2000
theorem vg (l:List Tm):l.foldl Ay []=l.map (fun y=>(⟨0,y⟩:Ar)):=by
 have:=nG (fun y=>(⟨0,y⟩:Ar)) l []
 rw [List.nil_append] at this
 exact this
theorem SM (hne:bd≠[]) (h1:ts.length<100000000) (h2:bd.length<100000000):Sp 114 [.al [.J p,sT ts],sL bd] [] (eh p ts bd).av []:=by
 obtain ⟨_,_,⟨rfl,rfl⟩,r0⟩:=SP p ts bd
 obtain ⟨_,_,⟨rfl,rfl⟩,r1⟩:=SN p ts bd h2
 obtain ⟨_,_,⟨rfl,_,rfl,rfl⟩,r2⟩:=SO p ts bd (by simpa using hne) h2
 have hl:=Iz p ts bd h1
 rw [vg] at hl
 obtain ⟨_,_,⟨rfl,rfl⟩,r3⟩:=YU p ts bd _ (by rw [Int.toNat_natCast];exact List.take_length) hl
 exact bK.jb (fn:=Tryz.f114) (c:=ai Tryz.f114) (by kernel_rfl) (by kernel_rfl) (by simp [aa,aJ]) (cf.iI 0 (by kernel_rfl) r0 (cf.iI 1 (by kernel_rfl) r1 (cf.iI 2 (by kernel_rfl) r2 r3))) (.inr rfl) (by kernel_rfl) (by simp [eh,Ru.av,aa,aJ])
end
end Go.Ped
