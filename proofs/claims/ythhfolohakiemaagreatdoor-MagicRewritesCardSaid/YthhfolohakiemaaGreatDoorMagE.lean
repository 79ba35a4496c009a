/- What the one operation of the program's code gives is reckoned without addresses, and the reckoning is right. -/
import Derived.OrdersIn
import Derived.LoopNIn
import Derived.AtR
import Derived.Orders
import Derived.Test.YthhfolohakiemaaGreatDoorMagD
set_option linter.all false
namespace Go.Ped
open Go.RowKit
section
structure St where
 dA:List (Nat×AV)
 hp:List (Nat×Ob)
def mO (env:List (Nat×AV)):Option Nat→AV→List (Nat×AV)
 |none,_=>env
 |some d,v=>ba env d v
def mT (ops:Array Oper) (o:Oper) (env:List (Nat×AV)):Option Bool:=
 match o.guard with
 |none=>some true
 |some (j,b)=>match (ops[j]?).bind (·.dst) with
  |some t=>match ci env t with
   | .ak c=>some (c==b)
   | .bC []=>some false
   |_=>none
  |none=>none
def sY (P:Program) (base:Nat) (ops:Array Oper) (o:Oper) (sc:List cv) (st:St):Option (dT×List Nat):=
 match mT ops o st.dA with
 |some true=>(cQ P (base+o.dst.getD 0) o.op (o.op.operands.toList.map (a7 st.dA)) sc).bL (ae st.hp)
 |some false=>some ({v:= .bC [],sc:=sc},[])
 |none=>none
structure oQ where
 Ks:Option Nat
 v:AV
 eH:List (Nat×Ob)
 dN:List Nat
 rd:List Nat
 sU:List Nat
def St.ap (st:St) (e:oQ):St:=⟨mO st.dA e.Ks e.v,bc st.hp e.eH⟩
section
variable {P:Program} {ops:Array Oper} {F:Fr} {n base:Nat}
def At (F:Fr) (n:Nat) (st:St) (a:Act) (w:World):Prop:=∃S β,sx S β w n st.dA a∧b7 F S β st.hp w
theorem b7.Kr {S:df} {β:bn} {hp:List (Nat×Ob)} {w:World} (M:b7 F S β hp w) (k:Nat):b7 F S β hp {w with drawn:=k}:=by
 exact M.xA rfl rfl rfl rfl
theorem At.Kr {st:St} {a:Act} {w:World} (h:At F n st a w) (k:Nat):At F n st a {w with drawn:=k}:=by
 obtain ⟨S,β,E,M⟩:=h
 have x:lg S S β β w {w with drawn:=k}:=⟨fun _ h=>h,fun _ _ h=>h,fun _ _=>rfl⟩
 exact ⟨S,β,E.Ke x,M.Kr k⟩
theorem rW {a:Act} {t:Nat} {v:Value} (h:a.eval (.tmp t)=v) (hv:v≠undef):a.tmps[t]? =some v:=by
 simp only [Act.eval,Array.getD_eq_getD_getElem?] at h
 grind
theorem vL {o:Oper} {S:df} {β:bn} {w:World} {env:List (Nat×AV)} {a:Act} (E:sx S β w n env a) {b:Bool} (h:mT ops o env=some b):Region.wanted o (yielded ops a.tmps)=b:=by
 unfold mT at h
 unfold Region.wanted
 cases hg:o.guard with
 |none=>grind
 |some g=>
  obtain ⟨j,want⟩:=g
  rw [hg] at h
  simp only at h⊢
  cases ht:(ops[j]?).bind (·.dst) with
  |none=>grind
  |some t=>
   rw [ht] at h
   simp only at h
   have hv:=E.2.2 t
   generalize hx:a.eval (.tmp t)=x at hv
   generalize ci env t=y at h hv
   cases y with
   |ak c=>
    injection h with h
    cases hv with
    |ak c=>
     have:=rW hx (by simp [undef])
     have hy:yielded ops a.tmps j=some c:=by grind[yielded]
     simp_all
   |bC l=>
    cases l with
    |nil=>
     injection h with h
     subst h
     have hy:yielded ops a.tmps j=none:=by
      unfold yielded
      rw [ht]
      simp only [Option.bind_some]
      cases hq:a.tmps[t]? with
      |none=>rfl
      |some u=>
       have:x=u:=by simp_all[Act.eval]
       subst this
       cases hv with
       |bC vs cs hl h=>rfl
     grind
    |cons _ _=>grind
   |_=>grind
theorem sx.mO {S:df} {β:bn} {w:World} {env:List (Nat×AV)} {a:Act} (E:sx S β w n env a) {o:Oper} (hd:∀d,o.dst=some d→d<n) {v:Value} {x:AV} (hv:V S β w v x):
  sx S β w n (mO env o.dst x) (a.put o.dst v):=by
 cases h:o.dst with
 |none=>exact E
 |some d=>exact E.put (hd d h) hv
def FW (r:Option Nat):Fence:={Fence.wide with round:=r}
theorem xT {P:Program} {r:Option Nat} {m:Nat} {o:Oper} {a:Act} {w:World} {K:Act→World→Prop} {Q:Exit→Act→World→Prop} (hd:∀c,o.op≠ .defer c) (h:o.wp P a w K Q):o.wpIn (FW r) m P a w K Q:=by
 refine ⟨fun _ _=>trivial,?_⟩
 rw [Oper.semAt_eq _ _ _ hd]
 unfold Oper.wp at h
 generalize (execOp a.eval o).run P w=x at h⊢
 cases x with
 |ok x w'=>
  cases x<;>simp only [Oper.upon,Oper.uponIn] at h⊢ <;>first|exact h|exact h.elim|skip
  ·exact ⟨fun h=>by grind[FW,Fence.wide],(callsIn_wide (n:=m-1)).2 h⟩
  ·exact ⟨fun h=>by grind[FW,Fence.wide],fun c cs _=>let ⟨v,w',a,b⟩:=h c cs;⟨v,w',a,stepsIn_wide.2 b⟩⟩
 |halt x w'=>cases x<;>grind[Oper.upon,Oper.uponIn]<;>omega
theorem oS {i:Nat} {o:Oper} {sc:List cv} {st:St} {res:dT} {rd:List Nat} {a:Act} {w:World} (ho:ops[i]? =some o) (hd:∀d,o.dst=some d→d<n) (hA:At F n st a w)
  (hs:sY P base ops o sc st=some (res,rd)) (hc:∀c,c∈res.cs→c.p) (hn:∀id,id∈res.dN→ae st.hp id=none) {K:Act→World→Prop} {Q:Exit→Act→World→Prop}
  (hK:∀a' w',At F n ⟨Ped.mO st.dA o.dst res.v,bc st.hp res.eH⟩ a' w'→K a' w'):wpOpIn (FW F.r) F.m P ops Q i K a w:=by
 obtain ⟨S,β,E,M⟩:=hA
 unfold wpOpIn
 rw [ho]
 simp only
 unfold sY at hs
 cases hw:mT ops o st.dA with
 |none=>grind
 |some b=>
  rw [hw] at hs
  rw [vL E hw]
  cases b with
  |true=>
   rw [if_pos rfl]
   refine xT (fun c ho=> ?_) (uf E M hs hc hn K Q fun v w' S' β' x m hv=>hK _ _ ⟨S',β',(E.Ke x).mO hd hv,m⟩)
   grind[cQ,Rd.bL]
  |false=>
   rw [if_neg (by simp)]
   simp only at hs
   injection hs with hs
   injection hs with hs _
   subst hs
   exact ⟨fun _ _=>trivial,hK _ _ ⟨S,β,E.mO hd (.bC [] [] rfl (by simp)),M⟩⟩
structure St.vH (s t:St):Prop where
 dA:∀k,ci s.dA k=ci t.dA k
 hp:∀k,ae s.hp k=ae t.hp k
theorem St.vH.bb (s:St):s.vH s:=⟨fun _=>rfl,fun _=>rfl⟩
theorem St.vH.ck {s t u:St} (h:s.vH t) (k:t.vH u):s.vH u:=⟨fun i=>(h.dA i).trans (k.dA i),fun i=>(h.hp i).trans (k.hp i)⟩
theorem St.vH.UA {s t:St} (h:s.vH t):t.vH s:=⟨fun i=>(h.dA i).symm,fun i=>(h.hp i).symm⟩
theorem At.E6 {s t:St} (h:s.vH t) {a:Act} {w:World} (hA:At F n s a w):At F n t a w:=by
 obtain ⟨S,β,E,M⟩:=hA
 exact ⟨S,β,⟨E.1,E.2.1,fun k=>by rw [←h.dA k];exact E.2.2 k⟩,M.hJ h.hp⟩
theorem lX (env:List (Nat×AV)) (d:Option Nat) (v:AV) (k:Nat):ci (mO env d v) k=if d=some k then v else ci env k:=by
 cases d with
 |none=>rfl
 |some d=>
  grind[mO,ci,aq,Option.some.injEq]
theorem cU (upd:List (Nat×Ob)):∀(hp:List (Nat×Ob)) (k:Nat),k∉upd.map (·.1)→ae (bc hp upd) k=ae hp k:=by
 induction upd with
 |nil=>intro hp k _;rfl
 |cons x l ih=>
  intro hp k hk
  simp only [List.map_cons,List.mem_cons,not_or] at hk
  simp_all[ae,bc,ba,aq,if_neg,Ne.symm]
theorem gH (upd:List (Nat×Ob)):∀(hp hq:List (Nat×Ob)) (k:Nat),k∈upd.map (·.1)→ae (bc hp upd) k=ae (bc hq upd) k:=by
 induction upd with
 |nil=>simp
 |cons x l ih=>
  intro hp hq k hk
  show ae (bc (ba hp x.1 x.2) l) k=ae (bc (ba hq x.1 x.2) l) k
  by_cases hl:k∈l.map (·.1)
  ·grind
  simp_all[cU,aq,List.map_cons,List.mem_cons,if_pos]
theorem St.vH.ap {s t:St} (h:s.vH t) (e:oQ):(s.ap e).vH (t.ap e):=by
 refine ⟨fun k=> ?_,fun k=> ?_⟩
 ·simp[St.ap,lX,h.dA]
 ·by_cases hk:k∈e.eH.map (·.1)
  all_goals grind[gH,St.ap,cU,h.hp]
def mP (e f:oQ):Bool:=
 (match e.Ks with
  |some d=>f.sU.contains d||f.Ks==some d
  |none=>false)||e.eH.any fun x=>f.rd.contains x.1||f.dN.contains x.1||f.eH.any fun y=>y.1==x.1
def ey (e f:oQ):Bool:= !mP e f&& !mP f e
theorem vI {e f:oQ} (h:ey e f=true):ey f e=true:=by
 grind[ey,Bool.and_comm]
theorem nY {e f:oQ} (h:mP e f=false):
  (∀d,e.Ks=some d→d∉f.sU∧f.Ks≠some d)∧∀k,k∈e.eH.map (·.1)→k∉f.rd∧k∉f.dN∧k∉f.eH.map (·.1):=by
 unfold mP at h
 rw [Bool.or_eq_false_iff] at h
 grind
structure rV (P:Program) (ops:Array Oper) (st:St) (i:Nat) (e:oQ):Prop where
 ok:∃o base sc res rd,ops[i]? =some o∧sY P base ops o sc st=some (res,rd)∧(∀c,c∈res.cs→c.p)∧(∀id,id∈res.dN→ae st.hp id=none)∧
  e={Ks:=o.dst,v:=res.v,eH:=res.eH,dN:=res.dN,rd:=rd,sU:=o.looksAt ops}
theorem vK {env env':List (Nat×AV)} {x:Operand} (h:∀t,x= .tmp t→ci env' t=ci env t):a7 env' x=a7 env x:=by
 cases x with
 |tmp t=>exact h t rfl
 |_=>rfl
theorem rV.Cs {st st':St} {i:Nat} {e:oQ} (h:rV P ops st i e) (h1:∀t,t∈e.sU→ci st'.dA t=ci st.dA t) (h2:∀k,k∈e.rd∨k∈e.dN→ae st'.hp k=ae st.hp k):
  rV P ops st' i e:=by
 obtain ⟨o,base,sc,res,rd,ho,hs,hc,hn,rfl⟩:=h.ok
 refine ⟨o,base,sc,res,rd,ho,?_,hc,fun id hi=>(h2 id (.inr hi)).trans (hn id hi),rfl⟩
 have hops:o.op.operands.toList.map (a7 st'.dA)=o.op.operands.toList.map (a7 st.dA):=by
  refine List.map_congr_left fun x hx=>vK fun t ht=>h1 t ?_
  subst ht
  exact List.mem_append_left _ (List.mem_filterMap.2 ⟨.tmp t,hx,rfl⟩)
 have hwant:mT ops o st'.dA=mT ops o st.dA:=by
  unfold mT
  cases hg:o.guard with
  |none=>rfl
  |some g=>
   obtain ⟨j,b⟩:=g
   simp only
   cases ht:(ops[j]?).bind (·.dst) with
   |none=>rfl
   |some t=>
    simp only
    rw [h1 t (List.mem_append_right _ (by grind))]
 unfold sY at hs⊢
 rw [hwant,hops]
 cases hw:mT ops o st.dA with
 |none=>grind
 |some b=>
  grind[Rd.sy,id]
theorem rV.E6 {s t:St} (h:s.vH t) {i:Nat} {e:oQ} (ho:rV P ops s i e):rV P ops t i e:=by
 simp[ho.Cs,h.dA,h.hp]
theorem Cu {st:St} {e f:oQ} (h:mP f e=false):(∀t,t∈e.sU→ci (st.ap f).dA t=ci st.dA t)∧∀k,k∈e.rd∨k∈e.dN→ae (st.ap f).hp k=ae st.hp k:=by
 obtain ⟨h1,h2⟩:=nY h
 refine ⟨fun t ht=> ?_,fun k hk=> ?_⟩
 ·simp only [St.ap,lX]
  grind
 ·refine cU _ _ _ fun hm=> ?_
  grind
theorem rV.Uz {st:St} {i:Nat} {e f:oQ} (h:ey e f=true) (ho:rV P ops (st.ap f) i e):rV P ops st i e:=by
 have hm:mP f e=false:=by grind[ey]
 obtain ⟨h1,h2⟩:=Cu (st:=st) hm
 grind[ho.Cs]
theorem rV.Ct {st:St} {i:Nat} {e f:oQ} (h:ey e f=true) (ho:rV P ops st i e):rV P ops (st.ap f) i e:=by
 have hm:mP f e=false:=by grind[ey]
 obtain ⟨h1,h2⟩:=Cu (st:=st) hm
 grind[ho.Cs]
theorem Fo {st:St} {e f:oQ} (h:ey e f=true):((st.ap e).ap f).vH ((st.ap f).ap e):=by
 have hm1:mP e f=false:=by grind[ey]
 have hm2:mP f e=false:=by grind[ey]
 obtain ⟨a1,a2⟩:=nY hm1
 obtain ⟨b1,b2⟩:=nY hm2
 refine ⟨fun k=> ?_,fun k=> ?_⟩
 ·simp only [St.ap,lX]
  grind
 ·simp only [St.ap]
  by_cases h1:k∈f.eH.map (·.1)
  ·rw [cU e.eH _ _ (fun h2=>(a2 k h2).2.2 h1)]
   grind[gH]
  ·rw [cU f.eH _ _ h1]
   by_cases h2:k∈e.eH.map (·.1)
   all_goals grind[gH,cU]
def oP (P:Program) (ops:Array Oper):St→List (Nat×oQ)→Prop
 |_,[]=>True
 |st,x::r=>rV P ops st x.1 x.2∧oP P ops (st.ap x.2) r
def oR (st:St) (R:List (Nat×oQ)):St:=R.foldl (fun s x=>s.ap x.2) st
theorem oP.E6:∀{R:List (Nat×oQ)} {s t:St},s.vH t→oP P ops s R→oP P ops t R
 |[],_,_,_,_=>trivial
 |_::_,_,_,h,⟨a,b⟩=>⟨a.E6 h,oP.E6 (h.ap _) b⟩
theorem sV:∀{R:List (Nat×oQ)} {s t:St},s.vH t→(oR s R).vH (oR t R)
 |[],_,_,h=>h
 |x::R,_,_,h=>sV (R:=R) (h.ap x.2)
theorem oP.N6 {x:Nat×oQ} {B:List (Nat×oQ)}:∀{A:List (Nat×oQ)} {st:St},(∀y,y∈A→ey x.2 y.2=true)→oP P ops st (A++x::B)→
  rV P ops st x.1 x.2∧oP P ops (st.ap x.2) (A++B)∧(oR (st.ap x.2) (A++B)).vH (oR st (A++x::B))
 |[],st,_,⟨a,b⟩=>⟨a,b,.bb _⟩
 |y::A,st,h,⟨a,b⟩=>by
  have hy:=h y (by simp)
  obtain ⟨c1,c2,c3⟩:=oP.N6 (A:=A) (fun z hz=>h z (by grind)) b
  have cm:=Fo (st:=st) hy
  refine ⟨c1.Uz hy,⟨a.Ct (vI hy),c2.E6 cm.UA⟩,?_⟩
  show (oR ((st.ap x.2).ap y.2) (A++B)).vH _
  exact (sV cm).ck c3
def lY (P:Program) (base:Nat) (ops:Array Oper):List Oper→List cv→St→Option (St×List iy×List cv×List oQ)
 |[],sc,st=>some (st,[],sc,[])
 |o::r,sc,st=>match sY P base ops o sc st with
  |some (res,rd)=>
   if res.dN.all (fun id=>(ae st.hp id).isNone) then
    match lY P base ops r res.sc ⟨mO st.dA o.dst res.v,bc st.hp res.eH⟩ with
    |some (st',cs,sc',es)=>some (st',res.cs++cs,sc',{Ks:=o.dst,v:=res.v,eH:=res.eH,dN:=res.dN,rd:=rd,sU:=o.looksAt ops}::es)
    |none=>none
   else none
  |none=>none
theorem mS:∀{l:List Oper} {k:Nat} {sc sc':List cv} {st st':St} {cs:List iy} {es:List oQ},(∀i o,l[i]? =some o→ops[k+i]? =some o)→lY P base ops l sc st=some (st',cs,sc',es)→(∀c,c∈cs→c.p)→
  es.length=l.length∧oP P ops st ((List.range' k es.length).zip es)∧oR st ((List.range' k es.length).zip es)=st':=by
 intro l
 induction l with
 |nil=>
  intro k sc sc' st st' cs es _ h hc
  simp only [lY] at h
  injection h with h
  simp only [Prod.mk.injEq] at h
  obtain ⟨h1,h2,h3,h4⟩:=h
  subst h1;subst h4
  exact ⟨rfl,trivial,rfl⟩
 |cons o r ih=>
  intro k sc sc' st st' cs es ho h hc
  simp only [lY] at h
  cases hs:sY P base ops o sc st with
  |none=>grind
  |some x=>
   obtain ⟨res,rd⟩:=x
   rw [hs] at h
   simp only at h
   split at h
   ·rename_i hnew
    cases hr:lY P base ops r res.sc ⟨mO st.dA o.dst res.v,bc st.hp res.eH⟩ with
    |none=>grind
    |some y=>
     obtain ⟨s2,c2,d2,e2⟩:=y
     rw [hr] at h
     injection h with h
     simp only [Prod.mk.injEq] at h
     obtain ⟨h1,h2,h3,h4⟩:=h
     subst h1;subst h2;subst h4
     obtain ⟨i1,i2,i3⟩:=ih (k:=k+1) (fun i o' hi=>by have:=ho (i+1) o' (by grind);grind) hr (fun c hcc=>hc c (by grind))
     refine ⟨by grind,?_,?_⟩
     ·simp only [List.length_cons,List.range'_succ,List.zip_cons_cons]
      refine ⟨⟨o,base,sc,res,rd,ho 0 o rfl,hs,fun c hcc=>hc c (by grind),fun id hid=> ?_,rfl⟩,i2⟩
      simp_all
     ·simp only [List.length_cons,List.range'_succ,List.zip_cons_cons]
      exact i3
   grind
def sX (md:Region.Mode):List Oper→List Nat→Option (List Nat)
 |[],done=>some done
 |o::r,done=>
  match (o.after.toList.filter (Region.binds md)).foldlM (fun m e=>(done[e.on]?).map fun d=>m|||d|||(1<<<e.on)) 0 with
  |some m=>sX md r (done++[m])
  |none=>none
def uh (es:List oQ) (ms:List Nat):Bool:=
 (List.range es.length).all fun j=>match es[j]?,ms[j]? with
  |some f,some m=>(List.range j).all fun i=>match es[i]? with
   |some e=>m.testBit i||ey f e
   |none=>false
  |_,_=>false
structure Cr (md:Region.Mode) (ops:Array Oper) (ms:List Nat):Prop where
 pB:ms.length=ops.size
 N8:∀(j:Nat) (o:Oper) (e:Edge),ops[j]? =some o→e∈o.after→Region.binds md e=true→e.on<j
 Uy:∀(j:Nat) (o:Oper) (m i:Nat),ops[j]? =some o→ms[j]? =some m→m.testBit i=true→∃e,e∈o.after∧Region.binds md e=true∧(i=e.on∨∃d,ms[e.on]? =some d∧d.testBit i=true)
theorem ug {done:List Nat}:∀{l:List Edge} {m0 m:Nat},l.foldlM (fun m e=>(done[e.on]?).map fun d=>m|||d|||(1<<<e.on)) m0=some m→
  (∀e,e∈l→e.on<done.length)∧∀i,m.testBit i=true→m0.testBit i=true∨∃e,e∈l∧(i=e.on∨∃d,done[e.on]? =some d∧d.testBit i=true):=by
 intro l
 induction l with
 |nil=>simp
 |cons e r ih=>
  intro m0 m h
  rw [List.foldlM_cons] at h
  cases hd:done[e.on]? with
  |none=>grind
  |some d=>
   rw [hd] at h
   obtain ⟨h1,h2⟩:=ih (m0:=m0|||d|||(1<<<e.on)) h
   refine ⟨fun x hx=> ?_,fun i hi=> ?_⟩
   ·grind
   ·rcases h2 i hi with h|⟨x,hx,hxi⟩
    ·rw [Nat.testBit_or,Nat.testBit_or,Bool.or_eq_true,Bool.or_eq_true] at h
     grind[Nat.one_shiftLeft,h.symm]
    grind
theorem xR {md:Region.Mode}:∀{l:List Oper} {done ms:List Nat},sX md l done=some ms→
  ms.length=done.length+l.length∧(∀i,i<done.length→ms[i]? =done[i]?)∧
  ∀(i:Nat) (o:Oper) (m:Nat),l[i]? =some o→ms[done.length+i]? =some m→(∀e,e∈o.after→Region.binds md e=true→e.on<done.length+i)∧
   ∀b,m.testBit b=true→∃e,e∈o.after∧Region.binds md e=true∧(b=e.on∨∃d,ms[e.on]? =some d∧d.testBit b=true):=by
 intro l
 induction l with
 |nil=>
  intro done ms h
  injection h with h
  grind
 |cons o r ih=>
  intro done ms h
  simp only [sX] at h
  cases hm:(o.after.toList.filter (Region.binds md)).foldlM (fun m e=>(done[e.on]?).map fun d=>m|||d|||(1<<<e.on)) 0 with
  |none=>grind
  |some m0=>
   rw [hm] at h
   obtain ⟨h1,h2,h3⟩:=ih h
   obtain ⟨g1,g2⟩:=ug hm
   refine ⟨by grind,fun i hi=> ?_,fun i o' m hi hmi=> ?_⟩
   ·grind
   ·cases i with
    |zero=>
     simp at hi
     subst hi
     rw [Nat.add_zero,h2 done.length (by simp)] at hmi
     simp at hmi
     grind
    |succ i=>
     have hlen:(done++[m0]).length+i=done.length+(i+1):=by grind
     have:=h3 i o' m (by grind) (by simp_all)
     grind
theorem Cw {md:Region.Mode} {ms:List Nat} (h:sX md ops.toList []=some ms):Cr md ops ms:=by
 obtain ⟨h1,_,h3⟩:=xR h
 have hsz:ms.length=ops.size:=by grind
 have go:∀(j:Nat) o,ops[j]? =some o→∃m,ms[j]? =some m∧(∀e,e∈o.after→Region.binds md e=true→e.on<j)∧∀b,m.testBit b=true→∃e,e∈o.after∧Region.binds md e=true∧(b=e.on∨∃d,ms[e.on]? =some d∧d.testBit b=true):=by
  intro j o ho
  have hj:j<ops.size:=(Array.getElem?_eq_some_iff.1 ho).1
  have hm:ms[j]? =some (ms[j]'(by omega)):=List.getElem?_eq_getElem (by omega)
  have:=h3 j o (ms[j]'(by omega)) (by grind) (by simp)
  grind
 refine ⟨hsz,fun j o e ho he hb=> ?_,fun j o m i ho hm hi=> ?_⟩
 all_goals grind
def N7 (md:Region.Mode) (ops:Array Oper) (listed:Array Bool):Prop:=
 ∀(j:Nat) (o:Oper),ops[j]? =some o→listed.getD j false=true→∀e,e∈o.after→Region.binds md e=true→listed.getD e.on false=true
theorem Cr.Kt {md:Region.Mode} {ms:List Nat} (hM:Cr md ops ms) {listed:Array Bool} (hD:N7 md ops listed):
  ∀(j:Nat) o m,ops[j]? =some o→ms[j]? =some m→(∀e,e∈o.after→Region.binds md e=true→listed.getD e.on false=true)→∀i,m.testBit i=true→listed.getD i false=true:=by
 intro j
 induction j using Nat.strongRecOn with
 |_ j ih=>
  intro o m ho hm hp i hi
  obtain ⟨e,he,hb,h⟩:=hM.Uy j o m i ho hm hi
  rcases h with rfl|⟨d,hd,hdi⟩
  ·grind
  ·have hlt:=hM.N8 j o e ho he hb
   have hj:j<ops.size:=(Array.getElem?_eq_some_iff.1 ho).1
   have ho':ops[e.on]? =some ops[e.on]:=Array.getElem?_eq_getElem (by omega)
   exact ih e.on hlt _ d ho' hd (fun e' he' hb'=>hD e.on _ ho' (hp e he hb) e' he' hb') i hdi
theorem AU {md:Region.Mode} {ms:List Nat} {Q:Exit→Act→World→Prop} (hM:Cr md ops ms) (hd:∀(i:Nat) o d,ops[i]? =some o→o.dst=some d→d<n) (fin:St) (hQ:∀a w,At F n fin a w→Q .normal a w):
  ∀(R:List (Nat×oQ)) (listed:Array Bool) (st:St) (a:Act) (w:World),listed.size=ops.size→N7 md ops listed→R.Pairwise (fun x y=>x.1<y.1∧(∀m,ms[y.1]? =some m→m.testBit x.1=true∨ey y.2 x.2=true))→
   (∀i,i<ops.size→(listed.getD i true=false↔i∈R.map (·.1)))→(∀i,i∈R.map (·.1)→i<ops.size)→oP P ops st R→(oR st R).vH fin→At F n st a w→wpAnyIn (FW F.r) F.m P md ops Q R.length listed a w:=by
 intro R
 generalize hlen:R.length=k
 induction k generalizing R with
 |zero=>
  intro listed st a w hs hD hP hR hlt hC hf hA
  have hnil:R=[]:=List.length_eq_zero_iff.1 hlen
  subst hnil
  refine ⟨?_,hQ a w (hA.E6 hf)⟩
  grind[Region.ready,List.filter_eq_nil_iff]
 |succ k ih=>
  intro listed st a w hs hD hP hR hlt hC hf hA
  refine ⟨fun hre=> ?_,fun i hi=> ?_⟩
  ·exfalso
   cases R with
   |nil=>grind
   |cons x R=>
    have hx:x.1<ops.size:=hlt x.1 (by simp)
    have hmem:x.1∈Region.ready md ops listed:=by
     refine mem_ready.2 ⟨(hR x.1 hx).2 (by simp),ops[x.1],Array.getElem?_eq_getElem hx,fun e he hb=> ?_⟩
     have hbk:=hM.N8 x.1 _ e (Array.getElem?_eq_getElem hx) he hb
     have hT:listed.getD e.on true=true:=by
      cases h:listed.getD e.on true with
      |true=>rfl
      |false=>
       have hm:=(hR e.on (by omega)).1 h
       rcases List.mem_map.1 hm with ⟨y,hy,hye⟩
       rcases List.mem_cons.1 hy with rfl|hy
       all_goals grind[List.pairwise_cons]
     grind
    grind
  ·obtain ⟨h0,o,ho,hpre⟩:=mem_ready.1 hi
   have hio:i<ops.size:=(Array.getElem?_eq_some_iff.1 ho).1
   have him:=(hR i hio).1 h0
   obtain ⟨x,hx,rfl⟩:=List.mem_map.1 him
   obtain ⟨A,B,rfl⟩:=List.append_of_mem hx
   have hm:ms[x.1]? =some (ms[x.1]'(by grind[hM.pB])):=List.getElem?_eq_getElem _
   have hAp:∀y,y∈A→ey x.2 y.2=true:=by
    intro y hy
    have hp:=(List.pairwise_append.1 hP).2.2 y hy x (by simp)
    rcases hp.2 _ hm with hb|hb
    ·exfalso
     have hl:=hM.Kt hD x.1 o _ ho hm hpre y.1 hb
     grind
    omega
   obtain ⟨c1,c2,c3⟩:=oP.N6 hAp hC
   obtain ⟨o',base,sc,res,rd,ho',hst,hcs,hnew,he⟩:=c1.ok
   refine oS ho' (fun d hdd=>hd x.1 o' d ho' hdd) hA hst hcs hnew fun a' w' hA'=> ?_
   have hap:st.ap x.2=⟨mO st.dA o'.dst res.v,bc st.hp res.eH⟩:=by rw [he];rfl
   have hnd:∀y,y∈A++B→y.1≠x.1:=by
    grind[List.pairwise_cons]
   refine ih (A++B) (by grind) _ (st.ap x.2) a' w' (by grind) ?_ ?_ ?_ ?_ c2 (c3.ck hf) (by grind)
   ·intro j oj hoj hj e he hb
    by_cases hjx:j=x.1
    ·grind[getD_set_true]
    ·have:listed.getD j false=true:=by rw [←getD_set_ne false (Ne.symm hjx)];omega
     exact getD_set_true (hD j oj hoj this e he hb)
   ·grind[List.Pairwise.sublist,List.Sublist.append,List.sublist_cons_self]
   ·intro j hj
    by_cases hjx:j=x.1
    ·subst hjx
     have hsz:x.1<listed.size:=by omega
     constructor
     ·simp
     grind
    ·rw [getD_set_ne true (Ne.symm hjx),hR j hj]
     grind
   ·intro j hj
    refine hlt j ?_
    grind
theorem xS {es:List oQ} {ms:List Nat} (h:uh es ms=true):
  ((List.range' 0 es.length).zip es).Pairwise (fun x y=>x.1<y.1∧(∀m,ms[y.1]? =some m→m.testBit x.1=true∨ey y.2 x.2=true)):=by
 rw [List.pairwise_iff_getElem]
 intro i j hi hj hij
 simp only [List.length_zip,List.length_range',Nat.min_self] at hi hj
 simp only [List.getElem_zip,List.getElem_range',Nat.one_mul,Nat.zero_add]
 refine ⟨hij,fun m hm=> ?_⟩
 unfold uh at h
 rw [List.all_eq_true] at h
 have h1:=h j (List.mem_range.2 hj)
 rw [List.getElem?_eq_getElem hj,hm] at h1
 simp only [List.all_eq_true] at h1
 have h2:=h1 i (List.mem_range.2 hij)
 grind
def Cv (n:Nat) (ops:Array Oper):Bool:=ops.toList.all fun o=>match o.dst with
 |some d=>Nat.blt d n
 |none=>true
theorem vJ {n:Nat} (h:Cv n ops=true):∀(i:Nat) o d,ops[i]? =some o→o.dst=some d→d<n:=by
 intro i o d ho hd
 have:=List.all_eq_true.1 h o (by grind)
 simp_all
def mQ (P:Program) (n base:Nat) (ops:Array Oper) (draw:Bool) (sc:List cv) (st:St):Option (St×List iy×List cv):=
 if Cv n ops then
  match lY P base ops ops.toList sc st with
  |some (st',cs,sc',es)=>match draw with
   |false=>some (st',cs,sc')
   |true=>match sX .any ops.toList [] with
    |some ms=>if uh es ms then some (st',cs,sc') else none
    |none=>none
  |none=>none
 else none
theorem lF {Q:Exit→Act→World→Prop} (hd:∀(i:Nat) o d,ops[i]? =some o→o.dst=some d→d<n):∀(R:List (Nat×oQ)) (st:St) (a:Act) (w:World),oP P ops st R→(∀a w,At F n (oR st R) a w→Q .normal a w)→At F n st a w→wpOpsIn (FW F.r) F.m P ops Q (R.map (·.1)) a w
 |[],st,a,w,_,hQ,hA=>hQ a w hA
 |x::R,st,a,w,⟨c,hC⟩,hQ,hA=>by
  obtain ⟨o,base,sc,res,rd,ho,hs,hc,hn,he⟩:=c.ok
  rw [List.map_cons,wpOpsIn_cons]
  refine oS ho (fun d h=>hd x.1 o d ho h) hA hs hc hn fun a' w' hA'=> ?_
  have hap:st.ap x.2=⟨mO st.dA o.dst res.v,bc st.hp res.eH⟩:=by rw [he];rfl
  exact lF hd R (st.ap x.2) a' w' hC hQ (by grind)
theorem mR {id:Nat} {draw:Bool} {sc sc':List cv} {st st':St} {cs:List iy} {Q:Exit→Act→World→Prop} {a:Act} {w:World} (hmix:P.follows .mixedOrders=true)
  (h:mQ P n base ops draw sc st=some (st',cs,sc')) (hc:∀c,c∈cs→c.p) (hQ:∀a w,At F n st' a w→Q .normal a w) (hA:At F n st a w):(Code.region id ops draw).wpIn (FW F.r) F.m P Q a w:=by
 unfold mQ at h
 split at h
 ·rename_i hdst
  have hd:=vJ hdst
  cases hr:lY P base ops ops.toList sc st with
  |none=>grind
  |some x=>
   obtain ⟨s,c,d,es⟩:=x
   rw [hr] at h
   simp only at h
   cases draw with
   |false=>
    simp only at h
    injection h with h
    simp only [Prod.mk.injEq] at h
    obtain ⟨h1,h2,h3⟩:=h
    subst h1;subst h2
    obtain ⟨l1,l2,l3⟩:=mS (k:=0) (fun i o hi=>by grind) hr hc
    refine wpIn_region ?_
    have hm:((List.range' 0 es.length).zip es).map (·.1)=List.range ops.size:=by
     grind[List.map_fst_zip,List.range_eq_range']
    grind[lF]
   |true=>
    cases hm:sX .any ops.toList [] with
    |none=>grind
    |some ms=>
     rw [hm] at h
     simp only at h
     split at h
     ·rename_i hp
      injection h with h
      simp only [Prod.mk.injEq] at h
      obtain ⟨h1,h2,h3⟩:=h
      subst h1;subst h2
      obtain ⟨l1,l2,l3⟩:=mS (k:=0) (fun i o hi=>by grind) hr hc
      refine wpIn_region_any hmix ?_
      have hsz:((List.range' 0 es.length).zip es).length=ops.size:=by grind
      have hmap:((List.range' 0 es.length).zip es).map (·.1)=List.range ops.size:=by
       grind[List.map_fst_zip,List.range_eq_range']
      rw [←hsz]
      refine AU (Cw hm) hd s hQ _ _ st a _ (by grind) ?_ (xS hp) ?_ ?_ l2 (by rw [l3];exact .bb _) (hA.Kr _)
      ·intro j o hj hl
       rw [Array.getD_eq_getD_getElem?,Array.getElem?_replicate] at hl
       grind
      all_goals simp_all
     grind
 grind
end
end
section
def cw.x:cw→Exit
 | .aj=> .normal
 | .ar id=> .exit id
 | .aR=> .ret
 | .gh l=> .goto l
def cf (P:Program) (n:Nat) (c:Code) (st:St) (e:cw) (st':St):Prop:=
 ∀(F:Fr) (a:Act) (w:World),At F n st a w→c.wpIn (FW F.r) F.m P (fun e' a' w'=>e'=e.x∧At F n st' a' w') a w
def bJ (P:Program) (n:Nat) (c:Code) (st:St) (e:cw) (st':St):Prop:=
 ∃k,∀(F:Fr) (a:Act) (w:World),At F n st a w→Code.roundsIn (FW F.r) F.m P c (fun e' a' w'=>e'=e.x∧At F n st' a' w') k a w
def Le (n:Nat) (st st':St):Prop:=∀(F:Fr) (a:Act) (w:World),At F n st a w→At F n st' a w
def iE (P:Program) (n:Nat) (c:Code) (st:St) (e:cw) (st':St):Prop:=
 ∀(F:Fr) (a:Act) (w:World),(∀b,¬F.M b)→F.β0=fo→At F n st a w→c.wpIn (FW F.r) F.m P (fun e' a' w'=>e'=e.x∧At F n st' a' w') a w
def Z4 (n:Nat) (st st':St):Prop:=∀(F:Fr) (a:Act) (w:World),(∀b,¬F.M b)→F.β0=fo→At F n st a w→At F n st' a w
section
variable {P:Program} {n:Nat} {c:Code} {st st' st1 st2:St} {e:cw}
theorem cf.p (h:cf P n c st e st'):iE P n c st e st':=fun F a w _ _ x=>h F a w x
theorem iE.gV (h:iE P n c st e st1) (k:Z4 n st1 st'):iE P n c st e st':=fun F a w p q x=>wpIn_mono (h F a w p q x) fun e' a' w' ⟨h1,h2⟩=>⟨h1,k F a' w' p q h2⟩
theorem cf.aF {d:Code} (h:cf P n c st .aj st1) (k:cf P n d st1 e st'):cf P n (.seq c d) st e st':=fun F a w x=>by
 refine wpIn_seq (wpIn_mono (h F a w x) fun e' a' w' ⟨h1,h2⟩=> ?_)
 subst h1
 exact k F a' w' h2
theorem iE.aF {d:Code} (h:iE P n c st .aj st1) (k:iE P n d st1 e st'):iE P n (.seq c d) st e st':=fun F a w p q x=>by
 refine wpIn_seq (wpIn_mono (h F a w p q x) fun e' a' w' ⟨h1,h2⟩=> ?_)
 subst h1
 exact k F a' w' p q h2
theorem Le.bb (st:St):Le n st st:=fun _ _ _ h=>h
theorem Le.ck (h:Le n st st1) (k:Le n st1 st2):Le n st st2:=fun F a w x=>k F a w (h F a w x)
theorem cf.ez (h:cf P n c st1 e st') (k:Le n st st1):cf P n c st e st':=fun F a w x=>h F a w (k F a w x)
theorem cf.gV (h:cf P n c st e st1) (k:Le n st1 st'):cf P n c st e st':=
 fun F a w x=>wpIn_mono (h F a w x) fun e' a' w' ⟨h1,h2⟩=>⟨h1,k F a' w' h2⟩
theorem oT {F:Fr} {Q Q':Exit→Act→World→Prop} (hq:∀e a w,Q e a w→Q' e a w):∀{k:Nat} {a:Act} {w:World},Code.roundsIn (FW F.r) F.m P c Q k a w→Code.roundsIn (FW F.r) F.m P c Q' k a w
 |0,_,_,h=>h
 |k+1,a,w,h=>by
  rw [roundsIn_succ] at h⊢
  refine wpIn_mono h fun e' a' w' hh=> ?_
  cases e'<;>simp only [Exit.then] at hh⊢ <;>first|exact oT hq hh|grind
theorem bJ.ez (h:bJ P n c st1 e st') (k:Le n st st1):bJ P n c st e st':=by
 obtain ⟨m,h⟩:=h
 exact ⟨m,fun F a w x=>h F a w (k F a w x)⟩
theorem bJ.gV (h:bJ P n c st e st1) (k:Le n st1 st'):bJ P n c st e st':=by
 obtain ⟨m,h⟩:=h
 exact ⟨m,fun F a w x=>oT (fun e' a' w' ⟨h1,h2⟩=>⟨h1,k F a' w' h2⟩) (h F a w x)⟩
theorem bJ.bD (h:cf P n c st e st') (he:e≠ .aj):bJ P n c st e st':=by
 refine ⟨1,fun F a w x=> ?_⟩
 rw [roundsIn_succ]
 refine wpIn_mono (h F a w x) fun e' a' w' hh=> ?_
 obtain ⟨h1,h2⟩:=hh
 subst h1
 cases e with
 |aj=>grind
 |ar id=>exact ⟨rfl,h2⟩
 |aR=>exact ⟨rfl,h2⟩
 |gh l=>exact ⟨rfl,h2⟩
theorem bJ.cR (h:cf P n c st .aj st1) (k:bJ P n c st1 e st'):bJ P n c st e st':=by
 obtain ⟨m,k⟩:=k
 refine ⟨m+1,fun F a w x=> ?_⟩
 rw [roundsIn_succ]
 refine wpIn_mono (h F a w x) fun e' a' w' hh=> ?_
 obtain ⟨h1,h2⟩:=hh
 subst h1
 exact k F a' w' h2
theorem bJ.Ct {st:Nat→St} {N:Nat} (step:∀i,i<N→cf P n c (st i) .aj (st (i+1))) (last:bJ P n c (st N) e st'):∀(k:Nat),k≤N→bJ P n c (st (N-k)) e st':=by
 intro k
 induction k with
 |zero=>grind
 |succ k ih=>
  grind[step,bJ.cR]
theorem bJ.rX {st:Nat→St} {N:Nat} (step:∀i,i<N→cf P n c (st i) .aj (st (i+1))) (last:bJ P n c (st N) e st'):bJ P n c (st 0) e st':=by
 have:=bJ.Ct step last N (Nat.le_refl N)
 grind
theorem bJ.Fp (h:bJ P n c st e st'):cf P n (.loop c) st e st':=by
 obtain ⟨m,h⟩:=h
 exact fun F a w x=>wpIn_loop_rounds m (h F a w x)
theorem qg {c:Code} {Q:Exit→Act→World→Prop} {F:Fr} {a:Act} {w:World} (h:cf P n c st e st') (hA:At F n st a w) (hQ:∀a w,At F n st' a w→Q e.x a w):c.wpIn (FW F.r) F.m P Q a w:=
 wpIn_mono (h F a w hA) fun e' a' w' ⟨h1,h2⟩=>by grind
end
end
section
inductive Rn where
 |a6 (j:Nat)
 |aw (es:List AV)
 |ao (es:List AV)
 |an (cs:List AV)
 |aI (ks vs:List AV)
 |aQ (es xs:List AV)
mutual
def dB (ρ:List (Nat×Rn)):AV→AV
 | .al cs=> .al (bW ρ cs)
 | .bC cs=> .bC (bW ρ cs)
 | .bZ f a b=> .bZ f (bW ρ a) (bW ρ b)
 | .bu t v=> .bu t (dB ρ v)
 | .aw id off len=>match ae ρ id with
   |some (.a6 j)=> .aw j off len
   |some (.aw es)=>(match off with
    |0=> .aF es false
    |_=> .aB)
   |some (.aQ es xs)=>(match off with
    |0=> .aQ es xs
    |_=> .aB)
   |_=> .aB
 | .aO id len=>match ae ρ id with
   |some (.a6 j)=> .aO j len
   |some (.ao es)=> .aF es false
   |_=> .aB
 | .aA id k off=>match ae ρ id with
   |some (.a6 j)=> .aA j k off
   |some (.an cs)=>(match k with
    |0=> .aE (cs.drop off)
    |_=> .aB)
   |_=> .aB
 | .aI id=>match ae ρ id with
   |some (.a6 j)=> .aI j
   |some (.aI ks vs)=> .bH ks vs
   |_=> .aB
 |x=>x
def bW (ρ:List (Nat×Rn)):List AV→List AV
 |[]=>[]
 |x::r=>dB ρ x::bW ρ r
end
mutual
def el (ρ:List (Nat×Rn)):AV→List Prop
 | .al cs=>cu ρ cs
 | .bC cs=>cu ρ cs
 | .bZ f a b=>cu ρ a++cu ρ b
 | .bu t v=>el ρ v
 | .aw id off len=>match ae ρ id with
   |some (.aw es)=>(match off with
    |0=>[len=es.length]
    |_=>[])
   |some (.aQ es xs)=>(match off with
    |0=>[len=es.length,0<xs.length]
    |_=>[])
   |_=>[]
 | .aO id len=>match ae ρ id with
   |some (.ao es)=>[len=es.length]
   |_=>[]
 |_=>[]
def cu (ρ:List (Nat×Rn)):List AV→List Prop
 |[]=>[]
 |x::r=>el ρ x++cu ρ r
end
theorem dX (ρ:List (Nat×Rn)):∀(l:List AV),bW ρ l=l.map (dB ρ)
 |[]=>rfl
 |x::r=>by simp [bW,dX ρ r]
theorem dh {ρ:List (Nat×Rn)}:∀{l:List AV},(∀p,p∈cu ρ l→p)→∀x,x∈l→∀p,p∈el ρ x→p
 |[],_,x,hx,_,_=>by grind
 |y::r,h,x,hx,p,hp=>by
  simp only [cu] at h
  rcases List.mem_cons.1 hx with rfl|hx
  ·exact h p (List.mem_append_left _ hp)
  ·exact dh (fun q hq=>h q (List.mem_append_right _ hq)) x hx p hp
mutual
theorem gu (ρ:List (Nat×Rn)):∀(x:AV),aJ x=true→dB ρ x=x
 | .al cs,h=>by simp only [dB];rw [aM ρ cs h]
 | .bC cs,h=>by simp only [dB];rw [aM ρ cs h]
 | .bZ f a b,h=>by
   simp only [aJ,Bool.and_eq_true] at h
   simp only [dB];rw [aM ρ a h.1,aM ρ b h.2]
 | .bu t v,h=>by simp only [dB];rw [gu ρ v h]
 | .aw _ _ _,h=>by cases h
 | .aO _ _,h=>by cases h
 | .aA _ _ _,h=>by cases h
 | .aI _,h=>by cases h
 | .aP _ _,_=>rfl
 | .ak _,_=>rfl
 | .J _,_=>rfl
 | .aF _ _,_=>rfl
 | .aE _,_=>rfl
 | .eK,_=>rfl
 | .bH _ _,_=>rfl
 | .bh,_=>rfl
 | .ab,_=>rfl
 | .eU,_=>rfl
 | .eV,_=>rfl
 | .aX _ _,_=>rfl
 | .aQ _ _,_=>rfl
 | .mB,_=>rfl
 | .aB,_=>rfl
theorem aM (ρ:List (Nat×Rn)):∀(l:List AV),aa l=true→bW ρ l=l
 |[],_=>rfl
 |x::r,h=>by
  simp only [aa,Bool.and_eq_true] at h
  simp only [bW]
  rw [gu ρ x h.1,aM ρ r h.2]
end
theorem kR {y:AV} (h:∀cs,y≠ .al cs):y.ac=[y]:=by
 cases y with
 |al cs=>grind
 |_=>rfl
theorem sZ (ρ:List (Nat×Rn)) (x:AV):(dB ρ x).ac=bW ρ x.ac:=by
 cases x with
 |al cs=>rfl
 |aw id off len=>
  refine (kR fun cs h=> ?_).trans rfl
  grind[dB]
 |aO id len=>
  refine (kR fun cs h=> ?_).trans rfl
  grind[dB]
 |aA id k off=>
  refine (kR fun cs h=> ?_).trans rfl
  grind[dB]
 |aI id=>
  refine (kR fun cs h=> ?_).trans rfl
  grind[dB]
 |_=>rfl
section
variable {S S':df} {β β':bn} {w:World} {ρ:List (Nat×Rn)}
structure Cx (S S':df) (β β':bn) (w:World) (ρ:List (Nat×Rn)):Prop where
 hS:∀b,S b→S' b
 a6:∀id j bi,ae ρ id=some (.a6 j)→β id=some bi→β' j=some bi
 aw:∀id es bi,ae ρ id=some (.aw es)→β id=some bi→S' bi.bG∧HR S' fo w bi es
 aQ:∀id es xs bi,ae ρ id=some (.aQ es xs)→β id=some bi→S' bi.bG∧HR S' fo w bi (es++xs)
 ao:∀id es bi,ae ρ id=some (.ao es)→β id=some bi→es≠[]→S' bi.bG∧HR S' fo w bi es
 an:∀id cs bi,ae ρ id=some (.an cs)→β id=some bi→S' bi.bG∧HR S' fo w bi [.al cs]
 aI:∀id ks vs bi,ae ρ id=some (.aI ks vs)→β id=some bi→S' bi.bG∧∃es cl,w.heap[bi.bG]? =some (.map es cl)∧ks.length=es.size∧vs.length=es.size∧
    (∀(i:Nat) e k,es[i]? =some e→ks[i]? =some k→V S' fo w e.key k)∧∀(i:Nat) e v,es[i]? =some e→vs[i]? =some v→V S' fo w e.val v
theorem dI {l:List AV} {i:Nat} {c:AV} (h:(bW ρ l)[i]? =some c):∃c0,l[i]? =some c0∧c=dB ρ c0:=by
 rw [dX,List.getElem?_map] at h
 grind
theorem V.dB (T:Cx S S' β β' w ρ) {v:Value} {x:AV} (h:V S β w v x):(∀p,p∈el ρ x→p)→V S' β' w v (dB ρ x):=by
 have each:∀{vs:List Value} {cs:List AV},vs.length=cs.length→(∀(i:Nat) v c,vs[i]? =some v→cs[i]? =some c→V S' β' w v (Ped.dB ρ c))→
   vs.length=(bW ρ cs).length∧∀(i:Nat) v c,vs[i]? =some v→(bW ρ cs)[i]? =some c→V S' β' w v c:=by
  intro vs cs hl h
  refine ⟨by grind[dX,List.length_map],fun i v c h1 h2=> ?_⟩
  obtain ⟨c0,h3,rfl⟩:=dI h2
  grind
 have low:∀{v:Value} {x:AV},V S fo w v x→V S' β' w v x:=fun h=>h.bR T.hS (fun _ _ h=>by cases h) (nI.bb S w)
 induction h with
 |aP k n=>intro _;exact .aP k n
 |ak b=>intro _;exact .ak b
 |J s=>intro _;exact .J s
 |al vs cs hl h ih=>
  intro hp
  obtain ⟨e1,e2⟩:=each hl fun i v c h1 h2=>ih i v c h1 h2 T each low (dh hp c (List.mem_of_getElem? h2))
  exact .al vs _ e1 e2
 |bC vs cs hl h ih=>
  intro hp
  obtain ⟨e1,e2⟩:=each hl fun i v c h1 h2=>ih i v c h1 h2 T each low (dh hp c (List.mem_of_getElem? h2))
  exact .bC vs _ e1 e2
 |aF p cap sz b o es clip U hcap hmax hclip hp hsz hc hv hnil ih=>intro _;exact low (.aF p cap sz b o es clip U hcap hmax hclip hp hsz hc hv)
 |aw id off len a bi hb hle ha'=>
  intro hp
  unfold Ped.dB
  unfold el at hp
  split
  ·rename_i j hl
   exact .aw j off len a bi (T.a6 id j bi hl hb) hle ha'
  ·rename_i es hl
   rw [hl] at hp
   split
   ·have hlen:len=es.length:=hp _ (List.mem_singleton.2 rfl)
    subst hlen
    obtain ⟨hS',cur,t,r1,r2,r3,r4,r5,r6⟩:=T.aw id es bi hl hb
    rw [Nat.sub_zero]
    refine .aF (some a) bi.f5 bi.sz bi.bG 0 es false (fun i j=>(cur[i*bi.sz+j]?).getD undef) r3 r4 (fun h=>by grind) (fun hne=>⟨?_,hS'⟩) r5 (fun i j e c h1 h2=> ?_) (fun i j e c h1 h2=> ?_)
    ·have hpos:0<es.length:=List.length_pos_iff.2 hne
     grind
    ·obtain ⟨u,hu,_⟩:=r6 i j e c h1 h2
     rw [Nat.zero_add,cK r1,hu]
     rfl
    grind
   ·exact .aB _
  ·rename_i es xs hl
   rw [hl] at hp
   split
   ·have hlen:len=es.length:=hp _ (List.mem_cons_self ..)
    subst hlen
    obtain ⟨hS',cur,t,r1,r2,r3,r4,r5,r6⟩:=T.aQ id es xs bi hl hb
    rw [Nat.sub_zero]
    by_cases hpos:0<bi.f5
    ·have he:=ha' hpos
     rw [Nat.zero_mul] at he
     subst he
     refine .aQ bi.f5 bi.sz bi.bG 0 es xs (fun i j=>(cur[i*bi.sz+j]?).getD undef) (by grind) r4 hS' r5 (fun i j e c h1 h2=> ?_) (fun i j e c h1 h2=> ?_)
     ·obtain ⟨u,hu,_⟩:=r6 i j e c h1 h2
      rw [Nat.zero_add,cK r1,hu]
      rfl
     grind
    ·exact absurd (hp _ (List.mem_cons_of_mem _ (List.mem_singleton.2 rfl))) (by grind)
   ·exact .aB _
  ·exact .aB _
 |ft id=>
  intro hp
  unfold Ped.dB
  unfold el at hp
  split
  ·rename_i j hl
   exact .ft j
  ·rename_i es hl
   rw [hl] at hp
   have hlen:0=es.length:=hp _ (List.mem_singleton.2 rfl)
   have:es=[]:=List.eq_nil_of_length_eq_zero hlen.symm
   subst this
   exact .aF none 0 0 0 0 [] false (fun _ _=>undef) (by simp) (by simp) (fun h=>by rfl) (fun h=>absurd rfl h) (by simp) (by simp) (by simp)
  ·exact .aB _
 |ix id len a bi hb hle ha' hn=>
  intro hp
  unfold Ped.dB
  unfold el at hp
  split
  ·rename_i j hl
   exact .ix j len a bi (T.a6 id j bi hl hb) hle ha' hn
  ·rename_i es hl
   rw [hl] at hp
   have hlen:len=es.length:=hp _ (List.mem_singleton.2 rfl)
   subst hlen
   obtain ⟨hS',cur,t,r1,r2,r3,r4,r5,r6⟩:=T.ao id es bi hl hb (fun h=>hn (by grind))
   refine .aF (some a) bi.f5 bi.sz bi.bG 0 es false (fun i j=>(cur[i*bi.sz+j]?).getD undef) r3 r4 (fun h=>by grind) (fun hne=>⟨by grind,hS'⟩) r5 (fun i j e c h1 h2=> ?_) (fun i j e c h1 h2=> ?_)
   ·obtain ⟨u,hu,_⟩:=r6 i j e c h1 h2
    rw [Nat.zero_add,cK r1,hu]
    rfl
   grind
  ·exact .aB _
 |aE b o cs U hb hc hv ih=>intro _;exact low (.aE b o cs U hb hc hv)
 |aA id k off bi hb=>
  intro hp
  unfold Ped.dB
  split
  ·rename_i j hl
   exact .aA j k off bi (T.a6 id j bi hl hb)
  ·rename_i cs hl
   split
   ·obtain ⟨hS',hHR⟩:=T.an id cs bi hl hb
    have hat:=hHR.N5 (k:=0) (e:= .al cs) rfl off
    obtain ⟨cur,t,r1,r2,r3,r4,r5,r6⟩:=hHR
    refine .aE bi.bG (0*bi.sz+off) (cs.drop off) (fun j=>(cur[off+j]?).getD undef) hS' (fun j c hj=> ?_) (fun j c hj=> ?_)
    ·obtain ⟨u,hu,_⟩:=hat j c hj
     have hu2:=hu
     rw [cK r1,Nat.zero_mul,Nat.zero_add] at hu
     grind
    ·obtain ⟨u,hu,hv⟩:=hat j c hj
     rw [cK r1,Nat.zero_mul,Nat.zero_add] at hu
     grind
   ·exact .aB _
  ·exact .aB _
 |eK=>intro _;exact .eK
 |aX p cap sz es=>intro _;exact .aX p cap sz es
 |aQ cap sz b o es xs U hcap hmax hb hsz hc hv ih=>intro _;exact low (.aQ cap sz b o es xs U hcap hmax hb hsz hc hv)
 |mB a cap hm=>intro _;exact .mB a cap hm
 |aI id bi hb=>
  intro hp
  unfold Ped.dB
  split
  ·rename_i j hl
   exact .aI j bi (T.a6 id j bi hl hb)
  ·rename_i ks vs hl
   obtain ⟨hS',es,cl,r1,r2,r3,r4,r5⟩:=T.aI id ks vs bi hl hb
   exact .bH bi.bG es cl ks vs hS' r1 r2 r3 r4 r5
  ·exact .aB _
 |bH r es cl ks vs hb hr hk hl hkv hvv ih1 ih2=>intro _;exact low (.bH r es cl ks vs hb hr hk hl hkv hvv)
 |bh=>intro _;exact .bh
 |ab=>intro _;exact .ab
 |bZ f fs gs first cap hf hg hfv hgv ih1 ih2=>
  intro hp
  simp only [el] at hp
  obtain ⟨e1,e2⟩:=each hf fun i v c h1 h2=>ih1 i v c h1 h2 T each low (dh (fun p hq=>hp p (List.mem_append_left _ hq)) c (List.mem_of_getElem? h2))
  obtain ⟨e3,e4⟩:=each hg fun i v c h1 h2=>ih2 i v c h1 h2 T each low (dh (fun p hq=>hp p (List.mem_append_right _ hq)) c (List.mem_of_getElem? h2))
  exact .bZ f fs gs _ _ e1 e3 e2 e4
 |eU=>intro _;exact .eU
 |bu t v x h ih=>intro hp;exact .bu t v _ (ih T each low hp)
 |eV=>intro _;exact .eV
 |aB v=>intro _;exact .aB v
end
end
section
def bg (ρ:List (Nat×Rn)):Ob→Ob
 | .an cs=> .an (bW ρ cs)
 | .aw sz es=> .aw sz (bW ρ es)
 | .ao sz es=> .ao sz (bW ρ es)
 | .iw o=> .iw o
 | .aI ks vs=> .aI (bW ρ ks) (bW ρ vs)
 | .aB=> .aB
def zg (ρ:List (Nat×Rn)):Ob→List Prop
 | .an cs=>cu ρ cs
 | .aw _ es=>cu ρ es
 | .ao _ es=>cu ρ es
 | .iw _=>[]
 | .aI ks vs=>cu ρ ks++cu ρ vs
 | .aB=>[]
def dl:Ob→List Prop
 | .an cs=>[aa cs=true]
 | .aw _ es=>[aa es=true]
 | .ao _ es=>[aa es=true]
 | .iw _=>[]
 | .aI ks vs=>[aa ks=true∧aa vs=true]
 | .aB=>[]
def eM:Ob→Bool
 | .aB=>true
 |_=>false
def Ku:Option (List AV×List AV)→List AV→Rn
 |none,es=> .aw es
 |some p,_=> .aQ p.1 p.2
def I0:Option (List AV×List AV)→Ob→List Prop
 |some p,.aw _ es=>[es=p.1++p.2]
 |_,_=>[]
def resolve (q:Bool) (lim:Nat) (hp:List (Nat×Ob)):List (Nat×Rk)→Option (List (Nat×Rn))
 |[]=>some []
 |(id,.a6 j _)::r=>match ae hp id with
  |some o=>if (eM o=false∨(q=true∧id=j))∧Nat.blt id mid=Nat.blt j mid then (resolve q lim hp r).map ((id,.a6 j):: ·) else none
  |none=>none
 |(id,.eX t)::r=>if Nat.blt id lim=true then
   match ae hp id with
   |some (.aw _ es)=>(resolve q lim hp r).map ((id,Ku t es):: ·)
   |some (.an cs)=>(resolve q lim hp r).map ((id,.an cs):: ·)
   |some (.aI ks vs)=>(resolve q lim hp r).map ((id,.aI ks vs):: ·)
   |some (.ao _ es)=>(resolve q lim hp r).map ((id,.ao es):: ·)
   |_=>none
  else none
def jy (ρ:List (Nat×Rn)) (hp:List (Nat×Ob)):List (Nat×Rk)→List (Nat×Ob)
 |[]=>[]
 |(id,.a6 j b)::r=>match ae hp id with
  |some o=>(j,bif b then o else bg ρ o)::jy ρ hp r
  |none=>jy ρ hp r
 |(_,.eX _)::r=>jy ρ hp r
def kh (ρ:List (Nat×Rn)) (hp:List (Nat×Ob)):List (Nat×Rk)→List Prop
 |[]=>[]
 |(id,.a6 _ b)::r=>(match ae hp id with
  |some o=>bif b then dl o else zg ρ o
  |none=>[])++kh ρ hp r
 |(id,.eX t)::r=>(match ae hp id with
  |some o=>dl o++I0 t o
  |none=>[])++kh ρ hp r
def dc:List (Nat×Rk)→Nat→Option Nat
 |[],_=>none
 |(id,.a6 j _)::r,k=>if j=k then some id else dc r k
 |(_,.eX _)::r,k=>dc r k
def lZ (k:Nat):List (Nat×Rk)→Bool
 |[]=>false
 |(i,_)::r=>Nat.beq i k||lZ k r
def i7 (k:Nat):List (Nat×Rk)→Bool
 |[]=>false
 |(_,.a6 j _)::r=>Nat.beq j k||i7 k r
 |(_,.eX _)::r=>i7 k r
def gc:List (Nat×Rk)→Bool
 |[]=>true
 |(i,.a6 j _)::r=> !lZ i r&& !i7 j r&&gc r
 |(i,.eX _)::r=> !lZ i r&&gc r
theorem l6 {k:Nat}:∀{tb:List (Nat×Rk)} {x:Rk},(k,x)∈tb→lZ k tb=true
 |(i,y)::r,x,h=>by
  rcases List.mem_cons.1 h with h|h
  ·simp_all[lZ]
  ·simp [lZ,l6 h]
theorem ke {k i:Nat} {b:Bool}:∀{tb:List (Nat×Rk)},(i,Rk.a6 k b)∈tb→i7 k tb=true
 |(i',.a6 j b')::r,h=>by
  rcases List.mem_cons.1 h with h|h
  ·simp_all[i7]
  ·simp [i7,ke h]
 |(i',.eX _)::r,h=>by
  rcases List.mem_cons.1 h with h|h
  ·grind
  ·simp [i7,ke h]
theorem nZ:∀{tb:List (Nat×Rk)},gc tb=true→∀{i:Nat} {x y:Rk},(i,x)∈tb→(i,y)∈tb→x=y
 |[],_,i,x,y,h,_=>by grind
 |(i',z)::r,ha,i,x,y,hx,hy=>by
  have hk:lZ i' r=false∧gc r=true:=by
   cases z with
   |a6 j b=>simp_all[gc,Bool.and_eq_true,Bool.not_eq_true']
   |eX _=>simp_all[gc,Bool.and_eq_true,Bool.not_eq_true']
  rcases List.mem_cons.1 hx with gx|gx<;>rcases List.mem_cons.1 hy with gy|gy
  ·grind
  ·grind[l6]
  ·grind[l6]
  ·exact nZ hk.2 gx gy
theorem gI:∀{tb:List (Nat×Rk)} {k id:Nat},dc tb k=some id→∃b,(id,Rk.a6 k b)∈tb
 |(i,.a6 j b)::r,k,id,h=>by
  simp only [dc] at h
  by_cases e:j=k
  ·grind
  ·rw [if_neg e] at h;obtain ⟨b',hb⟩:=gI h;grind
 |(i,.eX _)::r,k,id,h=>by
  simp only [dc] at h
  obtain ⟨b',hb⟩:=gI h;grind
theorem l7:∀{tb:List (Nat×Rk)},gc tb=true→∀{k id:Nat} {b:Bool},(id,Rk.a6 k b)∈tb→dc tb k=some id
 |[],_,k,id,b,h=>by grind
 |(i,.a6 j b')::r,ha,k,id,b,h=>by
  simp only [gc,Bool.and_eq_true,Bool.not_eq_true'] at ha
  simp only [dc]
  rcases List.mem_cons.1 h with h|h
  ·grind
  ·have:j≠k:=by rintro rfl;grind[ke]
   rw [if_neg this];exact l7 ha.2 h
 |(i,.eX _)::r,ha,k,id,b,h=>by
  simp only [gc,Bool.and_eq_true,Bool.not_eq_true'] at ha
  simp only [dc]
  rcases List.mem_cons.1 h with h|h
  ·grind
  ·exact l7 ha.2 h
theorem cC {q:Bool} {lim:Nat} {hp:List (Nat×Ob)}:∀{tb:List (Nat×Rk)} {ρ:List (Nat×Rn)},resolve q lim hp tb=some ρ→∀{id j:Nat} {b:Bool},(id,Rk.a6 j b)∈tb→∃o,ae hp id=some o∧(o≠ .aB∨q=true)∧(id<mid↔j<mid)
 |[],_,_,id,j,b,h=>by grind
 |(i,.a6 k c)::r,ρ,hr,id,j,b,h=>by
  simp only [resolve] at hr
  cases hl:ae hp i with
  |none=>grind
  |some o=>
   rw [hl] at hr
   simp only at hr
   split at hr
   ·rename_i hd
    obtain ⟨ρ',h1,h2⟩:=Option.map_eq_some_iff.1 hr
    rcases List.mem_cons.1 h with h|h
    ·injection h with e1 e2;injection e2 with e2 _;subst e1;subst e2
     refine ⟨o,hl,hd.1.elim (fun h=> .inl (by rintro rfl;cases h)) (fun h=> .inr h.1),?_⟩
     grind[Nat.blt_eq]
    ·exact cC h1 h
   grind
 |(i,.eX _)::r,ρ,hr,id,j,b,h=>by
  simp only [resolve] at hr
  rcases List.mem_cons.1 h with h|h
  ·grind
  ·split at hr
   ·split at hr
    ·obtain ⟨ρ',h1,h2⟩:=Option.map_eq_some_iff.1 hr;exact cC h1 h
    ·obtain ⟨ρ',h1,h2⟩:=Option.map_eq_some_iff.1 hr;exact cC h1 h
    ·obtain ⟨ρ',h1,h2⟩:=Option.map_eq_some_iff.1 hr;exact cC h1 h
    ·obtain ⟨ρ',h1,h2⟩:=Option.map_eq_some_iff.1 hr;exact cC h1 h
    grind
   grind
def kS (k:Nat):List (Nat×Rk)→Bool
 |[]=>false
 |(i,.a6 j _)::r=>(Nat.beq i k&&Nat.beq j k)||kS k r
 |(_,.eX _)::r=>kS k r
def s8 (hp:List (Nat×Ob)) (tb:List (Nat×Rk)):Bool:=hp.all fun x=>Nat.blt x.1 given||kS x.1 tb
theorem kf {k:Nat}:∀{tb:List (Nat×Rk)},kS k tb=true→∃b,(k,Rk.a6 k b)∈tb
 |(i,.a6 j b)::r,h=>by
  simp only [kS,Bool.or_eq_true,Bool.and_eq_true,Nat.beq_eq] at h
  rcases h with ⟨rfl,rfl⟩|h
  ·simp
  ·obtain ⟨b',hb⟩:=kf h;grind
 |(i,.eX _)::r,h=>by
  simp only [kS] at h
  obtain ⟨b',hb⟩:=kf h;grind
theorem qi {α:Type}:∀{l:List (Nat×α)} {k:Nat} {x:α},ae l k=some x→∃y,(k,y)∈l
 |(i,y)::r,k,x,h=>by
  simp only [ae] at h
  by_cases e:i=k
  ·grind
  ·rw [if_neg e] at h;obtain ⟨z,hz⟩:=qi h;grind
theorem qh {hp:List (Nat×Ob)} {tb:List (Nat×Rk)} (h:s8 hp tb=true) {k:Nat} {o:Ob} (hk:given≤k) (ho:ae hp k=some o):∃b,(k,Rk.a6 k b)∈tb:=by
 obtain ⟨y,hy⟩:=qi ho
 have:=List.all_eq_true.1 h _ hy
 simp only [Bool.or_eq_true,Nat.blt_eq] at this
 grind[kf,Nat.not_lt]
theorem cY {q:Bool} {lim:Nat} {hp:List (Nat×Ob)}:∀{tb:List (Nat×Rk)} {ρ:List (Nat×Rn)},resolve q lim hp tb=some ρ→∀{id:Nat} {x:Rn},ae ρ id=some x→
  (∃j b,x= .a6 j∧(id,Rk.a6 j b)∈tb)∨(∃t,(id,Rk.eX t)∈tb∧id<lim∧((∃sz es,x=Ku t es∧ae hp id=some (.aw sz es))∨(∃cs,x= .an cs∧ae hp id=some (.an cs))∨(∃ks vs,x= .aI ks vs∧ae hp id=some (.aI ks vs))∨∃sz es,x= .ao es∧ae hp id=some (.ao sz es)))
 |[],ρ,hr,id,x,h=>by injection hr with hr;subst hr;cases h
 |(i,.a6 k c)::r,ρ,hr,id,x,h=>by
  simp only [resolve] at hr
  cases hl:ae hp i with
  |none=>grind
  |some o=>
   rw [hl] at hr
   simp only at hr
   split at hr
   ·obtain ⟨ρ',h1,rfl⟩:=Option.map_eq_some_iff.1 hr
    simp only [ae] at h
    by_cases e:i=id
    ·grind
    ·rw [if_neg e] at h
     rcases cY h1 h with ⟨j,b,e1,e2⟩|⟨t1,e1,e2⟩
     all_goals grind
   grind
 |(i,.eX t0)::r,ρ,hr,id,x,h=>by
  simp only [resolve] at hr
  split at hr
  ·rename_i hlt
   have hlt':i<lim:=by simp_all
   have go:∀{ρ':List (Nat×Rn)} {y:Rn},resolve q lim hp r=some ρ'→ae ((i,y)::ρ') id=some x→(i=id∧x=y)∨ae ρ' id=some x:=by
    intro ρ' y _ hh
    simp only [ae] at hh
    grind
   have more:∀{ρ':List (Nat×Rn)},resolve q lim hp r=some ρ'→ae ρ' id=some x→(∃j b,x= .a6 j∧(id,Rk.a6 j b)∈(i,Rk.eX t0)::r)∨(∃t,(id,Rk.eX t)∈(i,Rk.eX t0)::r∧id<lim∧((∃sz es,x=Ku t es∧ae hp id=some (.aw sz es))∨(∃cs,x= .an cs∧ae hp id=some (.an cs))∨(∃ks vs,x= .aI ks vs∧ae hp id=some (.aI ks vs))∨∃sz es,x= .ao es∧ae hp id=some (.ao sz es))):=by
    intro ρ' h1 h2
    rcases cY h1 h2 with ⟨j,b,e1,e2⟩|⟨t1,e1,e2⟩
    all_goals grind
   split at hr
   ·rename_i sz es hl
    obtain ⟨ρ',h1,rfl⟩:=Option.map_eq_some_iff.1 hr
    grind
   ·rename_i cs hl
    obtain ⟨ρ',h1,rfl⟩:=Option.map_eq_some_iff.1 hr
    grind
   ·rename_i ks vs hl
    obtain ⟨ρ',h1,rfl⟩:=Option.map_eq_some_iff.1 hr
    grind
   ·rename_i sz es hl
    obtain ⟨ρ',h1,rfl⟩:=Option.map_eq_some_iff.1 hr
    grind
   grind
  grind
theorem l9 {ρ:List (Nat×Rn)} {hp:List (Nat×Ob)}:∀{tb:List (Nat×Rk)},(∀{id j:Nat} {b:Bool},(id,Rk.a6 j b)∈tb→∃o,ae hp id=some o)→
  ∀(j:Nat),(∀o',ae (jy ρ hp tb) j=some o'→∃id b o,(id,Rk.a6 j b)∈tb∧dc tb j=some id∧ae hp id=some o∧o'=bif b then o else bg ρ o)∧(∀id,dc tb j=some id→∃o',ae (jy ρ hp tb) j=some o')
 |[],_,j=>⟨fun o' h=>by grind[jy,ae],fun id h=>by grind[dc]⟩
 |(i,.a6 k b)::r,hk,j=>by
  obtain ⟨o,ho⟩:=hk (id:=i) (j:=k) (b:=b) (by simp)
  obtain ⟨g1,g2⟩:=l9 (ρ:=ρ) (hp:=hp) (tb:=r) (fun h=>hk (List.mem_cons_of_mem _ h)) j
  simp only [jy,ho,dc,ae]
  grind
 |(i,.eX _)::r,hk,j=>by
  obtain ⟨g1,g2⟩:=l9 (ρ:=ρ) (hp:=hp) (tb:=r) (fun h=>hk (List.mem_cons_of_mem _ h)) j
  grind[jy,dc,id]
mutual
theorem ja (ρ:List (Nat×Rn)):∀(x:AV),aJ x=true→el ρ x=[]
 | .al cs,h=>cE ρ cs h
 | .bC cs,h=>cE ρ cs h
 | .bZ f a b,h=>by
   simp only [aJ,Bool.and_eq_true] at h
   simp only [el];rw [cE ρ a h.1,cE ρ b h.2];rfl
 | .bu t v,h=>ja ρ v h
 | .aw _ _ _,h=>by cases h
 | .aO _ _,h=>by cases h
 | .aA _ _ _,h=>by rfl
 | .aI _,h=>by rfl
 | .aP _ _,_=>rfl
 | .ak _,_=>rfl
 | .J _,_=>rfl
 | .aF _ _,_=>rfl
 | .aE _,_=>rfl
 | .eK,_=>rfl
 | .bH _ _,_=>rfl
 | .bh,_=>rfl
 | .ab,_=>rfl
 | .eU,_=>rfl
 | .eV,_=>rfl
 | .aX _ _,_=>rfl
 | .aQ _ _,_=>rfl
 | .mB,_=>rfl
 | .aB,_=>rfl
theorem cE (ρ:List (Nat×Rn)):∀(l:List AV),aa l=true→cu ρ l=[]
 |[],_=>rfl
 |x::r,h=>by
  simp only [aa,Bool.and_eq_true] at h
  simp only [cu]
  rw [ja ρ x h.1,cE ρ r h.2];rfl
end
theorem Cy {ρ:List (Nat×Rn)} {o:Ob} (h:∀p,p∈dl o→p):bg ρ o=o∧zg ρ o=[]:=by
 cases o with
 |iw o=>exact ⟨rfl,rfl⟩
 |an cs=>have:=h _ (List.mem_singleton.2 rfl);simp only [bg,zg];rw [aM ρ _ this,cE ρ _ this];simp
 |aw sz es=>have:=h _ (List.mem_singleton.2 rfl);simp only [bg,zg];rw [aM ρ _ this,cE ρ _ this];simp
 |ao sz es=>have:=h _ (List.mem_singleton.2 rfl);simp only [bg,zg];rw [aM ρ _ this,cE ρ _ this];simp
 |aI ks vs=>
  have:=h _ (List.mem_singleton.2 rfl)
  simp only [bg,zg];rw [aM ρ _ this.1,aM ρ _ this.2,cE ρ _ this.1,cE ρ _ this.2];simp
 |aB=>exact ⟨rfl,rfl⟩
theorem l8 {ρ:List (Nat×Rn)} {hp:List (Nat×Ob)}:∀{tb:List (Nat×Rk)},(∀p,p∈kh ρ hp tb→p)→∀{id j:Nat} {b:Bool} {o:Ob},(id,Rk.a6 j b)∈tb→ae hp id=some o→∀p,p∈(bif b then dl o else zg ρ o)→p
 |[],_,id,j,b,o,h,_,_,_=>by grind
 |(i,.a6 k c)::r,hc,id,j,b,o,h,hl,p,hp'=>by
  simp only [kh] at hc
  rcases List.mem_cons.1 h with h|h
  ·injection h with e1 e2;injection e2 with e2 e3;subst e1;subst e2;subst e3
   rw [hl] at hc
   exact hc p (List.mem_append_left _ hp')
  ·exact l8 (fun q hq=>hc q (List.mem_append_right _ hq)) h hl p hp'
 |(i,.eX _)::r,hc,id,j,b,o,h,hl,p,hp'=>by
  simp only [kh] at hc
  rcases List.mem_cons.1 h with h|h
  ·grind
  ·exact l8 (fun q hq=>hc q (List.mem_append_right _ hq)) h hl p hp'
theorem cX {ρ:List (Nat×Rn)} {hp:List (Nat×Ob)}:∀{tb:List (Nat×Rk)},(∀p,p∈kh ρ hp tb→p)→∀{id:Nat} {o:Ob} {t:Option (List AV×List AV)},(id,Rk.eX t)∈tb→ae hp id=some o→∀p,p∈dl o++I0 t o→p
 |[],_,id,o,t,h,_,_,_=>by grind
 |(i,.a6 k c)::r,hc,id,o,t,h,hl,p,hp'=>by
  simp only [kh] at hc
  rcases List.mem_cons.1 h with h|h
  ·grind
  ·exact cX (fun q hq=>hc q (List.mem_append_right _ hq)) h hl p hp'
 |(i,.eX t1)::r,hc,id,o,t,h,hl,p,hp'=>by
  simp only [kh] at hc
  rcases List.mem_cons.1 h with h|h
  ·injection h with e1 e2;injection e2 with e2;subst e1;subst e2
   rw [hl] at hc
   exact hc p (List.mem_append_left _ hp')
  ·exact cX (fun q hq=>hc q (List.mem_append_right _ hq)) h hl p hp'
section
variable {F:Fr} {S S':df} {β β':bn} {hp:List (Nat×Ob)} {w:World} {ρ:List (Nat×Rn)}
theorem HR.dB (T:Cx S S' β β' w ρ) {bi:Bl} {es:List AV} (h:HR S β w bi es) (hc:∀p,p∈cu ρ es→p):HR S' β' w bi (bW ρ es):=by
 obtain ⟨cur,t,r1,r2,r3,r4,r5,r6⟩:=h
 refine ⟨cur,t,r1,r2,by grind[dX,List.length_map],r4,fun i e he=> ?_,fun i j e c he hcc=> ?_⟩
 ·obtain ⟨e0,h0,rfl⟩:=dI he
  grind[sZ,dX,List.length_map]
 ·obtain ⟨e0,h0,rfl⟩:=dI he
  rw [sZ] at hcc
  obtain ⟨c0,h1,rfl⟩:=dI hcc
  obtain ⟨u,hu,hv⟩:=r6 i j e0 c0 h0 h1
  refine ⟨u,hu,hv.dB T fun p hp=> ?_⟩
  have hce:=dh hc e0 (List.mem_of_getElem? h0)
  cases e0 with
  |al cs=>exact dh hce c0 (List.mem_of_getElem? h1) p hp
  |_=>
   grind[AV.ac,List.mem_of_getElem?,List.mem_singleton]
theorem CA {ρ:List (Nat×Rn)} {x:AV} (h:AE (Ped.dB ρ x)=true):AE x=true:=by
 cases x with
 |J s=>rfl
 |aw id off len=>
  simp only [Ped.dB] at h
  split at h
  ·cases h
  ·split at h<;>cases h
  ·split at h<;>cases h
  ·cases h
 |aO id len=>
  simp only [Ped.dB] at h
  split at h<;>cases h
 |aA id k off=>
  simp only [Ped.dB] at h
  split at h
  ·cases h
  ·split at h<;>cases h
  ·cases h
 |aI id=>
  simp only [Ped.dB] at h
  split at h<;>cases h
 |_=>simp only [Ped.dB] at h;cases h
theorem Fq {ρ:List (Nat×Rn)} {ks:List AV} (h:(bW ρ ks).all AE=true):ks.all AE=true:=by
 grind[dX,List.all_map,List.all_eq_true,CA]
theorem HO.dB (T:Cx S S' β β' w ρ) {id j:Nat} (hj:β' j=β id) {o:Ob} (h:HO S β w id o) (hc:∀p,p∈zg ρ o→p):HO S' β' w j (bg ρ o):=by
 cases o with
 |an cs=>
  obtain ⟨bi,h1,h2,h3⟩:=h
  refine ⟨bi,hj.trans h1,h2,?_⟩
  have:=HR.dB T h3 (by grind[cu,el,zg])
  grind[bW,Ped.dB]
 |aw sz es=>
  obtain ⟨bi,h1,h2,h3⟩:=h
  exact ⟨bi,hj.trans h1,h2,HR.dB T h3 hc⟩
 |aI ks vs=>
  obtain ⟨bi,es,cl,h1,h2,h3,h4,h5,h6,h7⟩:=h
  simp only [zg] at hc
  refine ⟨bi,es,cl,hj.trans h1,h2,by grind[dX,List.length_map],by grind[dX,List.length_map],fun i e k he hk=> ?_,fun i e v he hv=> ?_,fun hx=>h7 (Fq hx)⟩
  ·obtain ⟨k0,hk0,rfl⟩:=dI hk
   exact (h5 i e k0 he hk0).dB T (dh (fun p hq=>hc p (List.mem_append_left _ hq)) k0 (List.mem_of_getElem? hk0))
  ·obtain ⟨v0,hv0,rfl⟩:=dI hv
   exact (h6 i e v0 he hv0).dB T (dh (fun p hq=>hc p (List.mem_append_right _ hq)) v0 (List.mem_of_getElem? hv0))
 |ao sz es=>
  rcases h with h|⟨bi,h1,h2,h3⟩
  ·exact .inl (by rw [h];rfl)
  ·exact .inr ⟨bi,hj.trans h1,h2,HR.dB T h3 hc⟩
 |iw o=>obtain ⟨bi,h1,h2⟩:=h;exact ⟨bi,hj.trans h1,h2⟩
 |aB=>trivial
theorem oU {q:Bool} {lim fd:Nat} {t:Option (List AV×List AV)}:∀{tb:List (Nat×Rk)} {ρ:List (Nat×Rn)},resolve q lim hp tb=Option.some ρ→(fd,Rk.eX t)∈tb→∀o,ae hp fd=Option.some o→o≠ .aB:=by
 intro tb
 induction tb with
 |nil=>simp
 |cons x r ih=>
  intro ρ hr h o ho hd
  subst hd
  obtain ⟨i,x⟩:=x
  cases x with
  |a6 k c=>
   simp only [resolve] at hr
   rcases List.mem_cons.1 h with h|h
   ·grind
   ·split at hr
    all_goals simp_all
  |eX _=>
   simp only [resolve] at hr
   split at hr
   ·rcases List.mem_cons.1 h with h|h
    ·grind
    ·split at hr
     all_goals simp_all
   grind
theorem zi {x:AV} {sz:Nat} {es:List AV} (h:Ped.dB ρ x= .aX sz es):x= .aX sz es:=by
 cases x with
 |aX a l=>exact h
 |aw id off len=>
  grind[Ped.dB]
 |aO id len=>
  grind[Ped.dB]
 |aA id k off=>
  grind[Ped.dB]
 |aI id=>
  grind[Ped.dB]
 |_=>cases h
theorem iF {o:Ob} {j sz:Nat} {es:List AV} (h:(bg ρ o).at j=Option.some (.aX sz es)):o.at j=Option.some (.aX sz es):=by
 cases o with
 |an cs=>
  grind[bg,Ob.at,dI,zi]
 |aw sz es=>grind[bg,Ob.at]
 |ao sz es=>grind[bg,Ob.at]
 |iw o=>grind[bg,Ob.at]
 |aI ks vs=>
  grind[bg,Ob.at,dI,zi]
 |aB=>cases h
def AW (tb:List (Nat×Rk)):Bool:=tb.all fun x=>match x.2 with
 | .eX _=>false
 |_=>true
theorem Cz {tb:List (Nat×Rk)} (h:AW tb=true) {i:Nat} {t:Option (List AV×List AV)}:(i,Rk.eX t)∉tb:=fun hm=>by have:=List.all_eq_true.1 h _ hm;grind
theorem b7.dB {q:Bool} {lim:Nat} (M:b7 F S β hp w) {tb:List (Nat×Rk)} (hq:q=true→AW tb=true) (hg:∀i b,given≤i→F.β0 i=Option.some b→∃b',(i,Rk.a6 i b')∈tb) (hlim:∀id bi,id<lim→β id=Option.some bi→F.w0.heap.size≤bi.bG) (ha:gc tb=true) (hr:resolve q lim hp tb=Option.some ρ) (hc:∀p,p∈kh ρ hp tb→p):
  ∃S' β',Cx S S' β β' w ρ∧b7 F S' β' (jy ρ hp tb) w:=by
 let S':df:=fun b=>S b∨∃id bi,(∃t,(id,Rk.eX t)∈tb)∧β id=Option.some bi∧b=bi.bG
 let β':bn:=fun j=>(dc tb j).bind β
 have hS:∀b,S b→S' b:=fun b h=> .inl h
 have hb':∀{id j:Nat} {b:Bool},(id,Rk.a6 j b)∈tb→β' j=β id:=by
  intro id j b h
  show (dc tb j).bind β=β id
  rw [l7 ha h];rfl
 have live:∀{id j:Nat} {b:Bool},(id,Rk.a6 j b)∈tb→(∀o,ae hp id=Option.some o→o≠ .aB)∨q=true:=by
  grind[id,cC]
 have T:Cx S S' β β' w ρ:=by
  refine ⟨hS,fun id j bi hl hb=> ?_,fun id es bi hl hb=> ?_,fun id es xs bi hl hb=> ?_,fun id es bi hl hb hne=> ?_,fun id cs bi hl hb=> ?_,fun id ks vs bi hl hb=> ?_⟩
  ·rcases cY hr hl with ⟨j',b,e1,e2⟩|⟨t0,_,_,⟨_,_,e,_⟩|⟨_,e,_⟩|⟨_,_,e,_⟩|⟨_,_,e,_⟩⟩
   ·grind
   ·cases t0<;>cases e
   all_goals grind
  ·rcases cY hr hl with ⟨j',b,e1,e2⟩|⟨t0,hm,hlt,⟨sz,es',e,ho⟩|⟨_,e,_⟩|⟨_,_,e,_⟩|⟨_,_,e,_⟩⟩
   ·grind
   ·cases t0 with
    |some p=>cases e
    |none=>
     injection e with e;subst e
     refine ⟨.inr ⟨id,bi,⟨_,hm⟩,hb,rfl⟩,?_⟩
     obtain ⟨bj,q1,q2,q3⟩:=M.dg id _ ho
     rw [hb] at q1;injection q1 with q1;subst q1
     exact q3.mC hS (cX hc hm ho _ (List.mem_append_left _ (List.mem_singleton.2 rfl)))
   all_goals grind
  ·rcases cY hr hl with ⟨j',b,e1,e2⟩|⟨t0,hm,hlt,⟨sz,es',e,ho⟩|⟨_,e,_⟩|⟨_,_,e,_⟩|⟨_,_,e,_⟩⟩
   ·grind
   ·cases t0 with
    |none=>cases e
    |some p=>
     injection e with e e';subst e;subst e'
     refine ⟨.inr ⟨id,bi,⟨_,hm⟩,hb,rfl⟩,?_⟩
     obtain ⟨bj,q1,q2,q3⟩:=M.dg id _ ho
     rw [hb] at q1;injection q1 with q1;subst q1
     have h2:es'=p.1++p.2:=cX hc hm ho _ (List.mem_append_right _ (List.mem_singleton.2 rfl))
     rw [←h2]
     exact q3.mC hS (cX hc hm ho _ (List.mem_append_left _ (List.mem_singleton.2 rfl)))
   all_goals grind
  ·rcases cY hr hl with ⟨j',b,e1,e2⟩|⟨t0,hm,hlt,⟨_,_,e,_⟩|⟨_,e,_⟩|⟨_,_,e,_⟩|⟨sz,es',e,ho⟩⟩
   ·grind
   ·cases t0<;>cases e
   ·grind
   ·grind
   ·injection e with e;subst e
    refine ⟨.inr ⟨id,bi,⟨_,hm⟩,hb,rfl⟩,?_⟩
    obtain ⟨bj,q1,q2,q3⟩:=(M.dg id _ ho).resolve_left hne
    rw [hb] at q1;injection q1 with q1;subst q1
    exact q3.mC hS (cX hc hm ho _ (List.mem_append_left _ (List.mem_singleton.2 rfl)))
  ·rcases cY hr hl with ⟨j',b,e1,e2⟩|⟨t0,hm,hlt,⟨_,_,e,_⟩|⟨cs',e,ho⟩|⟨_,_,e,_⟩|⟨_,_,e,_⟩⟩
   ·grind
   ·cases t0<;>cases e
   ·injection e with e;subst e
    refine ⟨.inr ⟨id,bi,⟨_,hm⟩,hb,rfl⟩,?_⟩
    obtain ⟨bj,q1,q2,q3⟩:=M.dg id _ ho
    rw [hb] at q1;injection q1 with q1;subst q1
    have hn:aa cs=true:=cX hc hm ho _ (List.mem_append_left _ (List.mem_singleton.2 rfl))
    exact q3.mC hS (by grind[aa,Ped.aJ])
   all_goals grind
  ·rcases cY hr hl with ⟨j',b,e1,e2⟩|⟨t0,hm,hlt,⟨_,_,e,_⟩|⟨_,e,_⟩|⟨ks',vs',e,ho⟩|⟨_,_,e,_⟩⟩
   ·grind
   ·cases t0<;>cases e
   ·grind
   ·injection e with e e';subst e;subst e'
    refine ⟨.inr ⟨id,bi,⟨_,hm⟩,hb,rfl⟩,?_⟩
    obtain ⟨bj,es,cl,q1,q2,q3,q4,q5,q6,_⟩:=M.dg id _ ho
    rw [hb] at q1;injection q1 with q1;subst q1
    obtain ⟨n1,n2⟩:=cX hc hm ho _ (List.mem_append_left _ (List.mem_singleton.2 rfl))
    exact ⟨es,cl,q2,q3,q4,fun i e k he hk=>((q5 i e k he hk).aJ (a8.1 n1 k (List.mem_of_getElem? hk))).bR hS (fun _ _ h=>h) (nI.bb S w),
     fun i e v he hv=>((q6 i e v he hv).aJ (a8.1 n2 v (List.mem_of_getElem? hv))).bR hS (fun _ _ h=>h) (nI.bb S w)⟩
   grind
 have hN:=fun j=>l9 (ρ:=ρ) (hp:=hp) (tb:=tb) (fun h=>let ⟨o,h1,_⟩:=cC hr h;⟨o,h1⟩) j
 have live2:∀{id j:Nat},dc tb j=Option.some id→(∀o,ae (jy ρ hp tb) j=Option.some o→o≠ .aB)→∀o,ae hp id=Option.some o→o≠ .aB:=by
  rintro id j hk hl o ho rfl
  obtain ⟨o',h1⟩:=(hN j).2 id hk
  obtain ⟨id',b,o2,k1,k2,k3,k4⟩:=(hN j).1 o' h1
  rw [hk] at k2;injection k2 with k2;subst k2
  rw [ho] at k3;injection k3 with k3;subst k3
  refine hl o' h1 ?_
  rw [k4];cases b<;>rfl
 refine ⟨S',β',T,b7.pj ⟨M.pM,M.os,M.eL,M.cc,M.b6,M.a6,fun j o' hj=> ?_,fun j bi hj=> ?_,fun i j bi bj hi hj h1 h2 h3=> ?_,fun j bi hj=> ?_,fun b hb=> ?_,fun b hb=> .inl (M.eW b hb),fun b hb=> ?_,fun i b h1 h2=> ?_⟩ (fun M0=>M.da.jE hS (nI.bb S w) M0.fZ (fun j' o' p sz es h1 h2=> ?_) (fun b B _=>⟨rfl,?_,B.lt,B.fr,fun i bi hi hl=> ?_⟩))⟩
 ·obtain ⟨id,b,o,h1,h2,h3,h4⟩:=(hN j).1 o' hj
  have hcs:=l8 hc h1 h3
  cases b with
  |true=>
   simp only [cond_true] at h4 hcs
   obtain ⟨e1,e2⟩:=Cy (ρ:=ρ) hcs
   rw [h4,←e1]
   exact (M.dg id o h3).dB T (hb' h1) (by grind)
  |false=>
   simp only [cond_false] at h4 hcs
   rw [h4]
   exact (M.dg id o h3).dB T (hb' h1) hcs
 ·grind[dc,bind,id,Option.bind_eq_some_iff]
 ·have hi':(dc tb i).bind β=Option.some bi:=hi
  have hj':(dc tb j).bind β=Option.some bj:=hj
  grind[id,Option.bind_eq_some_iff,gI,M.fZ,nZ]
 ·have hj':(dc tb j).bind β=Option.some bi:=hj
  obtain ⟨id,k1,k2⟩:=Option.bind_eq_some_iff.1 hj'
  obtain ⟨b1,m1⟩:=gI k1
  obtain ⟨o1,g1,g2,g3⟩:=cC hr m1
  obtain ⟨p1,p2,p3⟩:=M.aX id bi k2
  refine ⟨?_,p2,?_⟩
  ·rintro (hs|⟨fd,bf,⟨t1,f1⟩,f2,f3⟩)
   ·grind
   ·have hfo:∀o,ae hp fd=Option.some o→o≠ .aB:=by
     intro o ho hd
     subst hd
     exact oU hr f1 _ ho rfl
    grind[M.fZ,id,nZ,Cz]
  grind
 ·rcases hb with hb|⟨id,bi,f1,f2,rfl⟩
  ·exact M.sub b hb
  ·exact (M.aX id bi f2).2.1
 ·rcases hb with hb|⟨id,bi,f1,f2,rfl⟩
  ·grind[M.dN]
  ·refine .inr (hlim id bi ?_ f2)
   ·
    have:∀{tb:List (Nat×Rk)} {ρ:List (Nat×Rn)},resolve q lim hp tb=Option.some ρ→(∃t,(id,Rk.eX t)∈tb)→id<lim:=by
     intro tb
     induction tb with
     |nil=>simp
     |cons x r ih=>
      intro ρ hr h
      obtain ⟨t2,h⟩:=h
      obtain ⟨i,x⟩:=x
      cases x with
      |a6 k c=>
       grind[resolve,Option.map_eq_some_iff]
      |eX _=>
       grind[resolve,Nat.blt_eq,Option.map_eq_some_iff]
    grind
 ·have hb:=M.pL i b h1 h2
  obtain ⟨b',hm⟩:=hg i b h1 h2
  exact (hb' hm).trans hb
 ·obtain ⟨id,b,o,k1,k2,k3,k4⟩:=(hN j').1 o' h1
  have hown:o.at p=Option.some (.aX sz es):=by
   cases b with
   |true=>simp only [cond_true] at k4;rw [k4] at h2;exact h2
   |false=>simp only [cond_false] at k4;rw [k4] at h2;exact iF h2
  obtain ⟨v,⟨o2,bi,q1,q2,q3,q4⟩,_⟩:=M.da.aX id o p sz es k3 hown
  exact ⟨id,o,bi,bi,fun h=>(cC hr k1).elim fun _ q=>q.2.2.2 h,k3,hown,q2,(hb' k1).trans q2,rfl,rfl⟩
 ·rintro (hs|⟨fd,bf,⟨t1,f1⟩,f2,f3⟩)
  ·exact B.ns hs
  ·exact B.ap fd bf f2 (oU hr f1) f3.symm
 ·have hi':(dc tb i).bind β=Option.some bi:=hi
  obtain ⟨id,k1,k2⟩:=Option.bind_eq_some_iff.1 hi'
  obtain ⟨b1,m1⟩:=gI k1
  exact B.ap id bi k2 (live2 k1 hl)
def ui (ρ:List (Nat×Rn)) (env:List (Nat×AV)) (slots:List Nat):List (Nat×AV):=slots.map fun t=>(t,dB ρ (ci env t))
def uj (ρ:List (Nat×Rn)) (env:List (Nat×AV)) (slots:List Nat):List Prop:=slots.flatMap fun t=>el ρ (ci env t)
def iG (slots:List Nat) (tb:List (Nat×Rk)) (st:St):Option (St×List Prop):=
 if gc tb=true∧s8 st.hp tb=true then
  match resolve (AW tb) mid st.hp tb with
  |Option.some ρ=>Option.some (⟨ui ρ st.dA slots,jy ρ st.hp tb⟩,uj ρ st.dA slots++kh ρ st.hp tb)
  |none=>none
 else none
theorem kg {env:List (Nat×AV)} (f:Nat→AV):∀(slots:List Nat) (t:Nat) (x:AV),ae (slots.map fun t=>(t,f t)) t=Option.some x→t∈slots∧x=f t
 |[],t,x,h=>by grind[ae]
 |s::r,t,x,h=>by
  simp only [List.map_cons,ae] at h
  by_cases e:s=t
  ·grind
  ·rw [if_neg e] at h
   obtain ⟨h1,h2⟩:=kg (env:=env) f r t x h
   grind
theorem sx.dB {n:Nat} {env:List (Nat×AV)} {a:Act} (E:sx S β w n env a) (T:Cx S S' β β' w ρ) {slots:List Nat} (hc:∀p,p∈uj ρ env slots→p):sx S' β' w n (ui ρ env slots) a:=by
 refine ⟨E.1,E.2.1,fun t=> ?_⟩
 unfold ci
 cases hl:ae (ui ρ env slots) t with
 |none=>exact .aB _
 |some x=>
  obtain ⟨h1,h2⟩:=kg (env:=env) _ slots t x hl
  subst h2
  exact (E.2.2 t).dB T fun p hp=>hc p (List.mem_flatMap.2 ⟨t,h1,hp⟩)
theorem er {n:Nat} {slots:List Nat} {tb:List (Nat×Rk)} {st st':St} {cs:List Prop} (h:iG slots tb st=Option.some (st',cs)) (hc:∀p,p∈cs→p):Le n st st':=by
 unfold iG at h
 split at h
 ·rename_i hag
  obtain ⟨ha,hg⟩:=hag
  cases hr:resolve (AW tb) mid st.hp tb with
  |none=>grind
  |some ρ=>
   rw [hr] at h
   injection h with h
   simp only [Prod.mk.injEq] at h
   obtain ⟨rfl,rfl⟩:=h
   intro F a w ⟨S,β,E,M⟩
   obtain ⟨S',β',T,M'⟩:=M.dB (lim:=mid) (fun h=>h) (fun i b h1 h2=>let ⟨o,ho⟩:=M.jU i b (M.pL i b h1 h2);qh hg h1 ho) (fun id bi h hb=>(M.aX id bi hb).2.2.elim (fun q=>absurd q.1 (Nat.not_le.2 h)) (fun q=>q)) ha hr fun p hp=>hc p (List.mem_append_right _ hp)
   exact ⟨S',β',E.dB T fun p hp=>hc p (List.mem_append_left _ hp),M'⟩
 grind
def xU (slots:List Nat) (tb:List (Nat×Rk)) (st:St):Option (St×List Prop):=
 if gc tb=true then
  match resolve (AW tb) 1000000000 st.hp tb with
  |Option.some ρ=>Option.some (⟨ui ρ st.dA slots,jy ρ st.hp tb⟩,uj ρ st.dA slots++kh ρ st.hp tb)
  |none=>none
 else none
theorem AX {n:Nat} {slots:List Nat} {tb:List (Nat×Rk)} {st st':St} {cs:List Prop} (h:xU slots tb st=Option.some (st',cs)) (hc:∀p,p∈cs→p):Z4 n st st':=by
 unfold xU at h
 split at h
 ·rename_i ha
  cases hr:resolve (AW tb) 1000000000 st.hp tb with
  |none=>grind
  |some ρ=>
   rw [hr] at h
   injection h with h
   simp only [Prod.mk.injEq] at h
   obtain ⟨rfl,rfl⟩:=h
   intro F a w hM hβ ⟨S,β,E,M⟩
   obtain ⟨S',β',T,M'⟩:=M.dB (lim:=1000000000) (fun h=>h) (fun i b h1 h2=>by rw [hβ] at h2;cases h2) (fun id bi h hb=>(M.aX id bi hb).2.2.elim (fun q=>absurd q.2 (hM _)) (fun q=>q)) ha hr fun p hp=>hc p (List.mem_append_right _ hp)
   exact ⟨S',β',E.dB T fun p hp=>hc p (List.mem_append_left _ hp),M'⟩
 grind
end
end
section
def zj (P:Program) (st:St):ResultVar→Option AV
 | .tmp t=>some (ci st.dA t)
 | .cell a ty=>match ci st.dA a with
   | .aE cs=>gg P ty cs
   | .aA id k off=>(match k,ae st.hp id with
     |0,some (.an cs)=>gg P ty (cs.drop off)
     |_,_=>none)
   |_=>none
def mU (P:Program) (st:St):List ResultVar→Option (List AV)
 |[]=>some []
 |x::r=>match zj P st x with
  |some v=>(mU P st r).map (v:: ·)
  |none=>none
def gW (P:Program) (st:St) (l:List ResultVar):Option AV:=
 match mU P st l with
 |some [x]=>some x
 |some vs=>some (.bC vs)
 |none=>none
def bO (k:Nat):List AV→List (Nat×AV)
 |[]=>[]
 |x::r=>(k,x)::bO (k+1) r
theorem kl:∀{l:List AV} {k t:Nat} {x:AV},ae (bO k l) t=some x→k≤t∧l[t-k]? =some x
 |[],k,t,x,h=>by cases h
 |y::r,k,t,x,h=>by
  simp only [bO,ae] at h
  by_cases e:k=t
  ·grind
  ·rw [if_neg e] at h
   obtain ⟨h1,h2⟩:=kl h
   grind
section
variable {P:Program} {F:Fr} {S:df} {β:bn} {hp:List (Nat×Ob)} {w:World}
def uk (tmps:Array Value):ResultVar→Sem Value
 | .tmp t=>pure (tmps.getD t undef)
 | .cell a t=>do loadVar t (←asAddr (tmps.getD a undef))
theorem xV (fn:Func) (tmps:Array Value):results fn tmps=(do
  let vs←fn.results.mapM (uk tmps)
  pure (if h:vs.size=1 then vs[0] else .tuple vs)):=by
 rfl
theorem vM {st:St} {n:Nat} {a:Act} (E:sx S β w n st.dA a) (M:b7 F S β st.hp w) {x:ResultVar} {y:AV} (h:zj P st x=some y):
  ∃v,(uk a.tmps x).run P w= .ok v w∧V S β w v y:=by
 cases x with
 |tmp t=>
  injection h with h
  subst h
  exact ⟨_,rfl,E.2.2 t⟩
 |cell b ty=>
  simp only [zj] at h
  have hv:=E.2.2 b
  have he:a.eval (.tmp b)=a.tmps.getD b undef:=rfl
  change∃v,(asAddr (a.eval (.tmp b))>>=fun p=>loadVar ty p).run P w= .ok v w∧V S β w v y
  generalize a.eval (.tmp b)=vb at hv
  generalize ci st.dA b=B at h hv
  cases B with
  |aE cs=>
   simp only at h
   cases hv with
   |aE bl o _ U hS hcc hvv=>
    obtain ⟨v,h1,h2⟩:=lQ (P:=P) h bl o fun j c hj=>⟨U j,hcc j c hj,(hvv j c hj).up⟩
    refine ⟨v,?_,h2⟩
    grind[asAddr]
  |aA id k off=>
   simp only at h
   split at h
   ·rename_i cs hl
    cases hv with
    |aA _ _ _ bi hb=>
     obtain ⟨bj,e1,e2,e3⟩:=M.dg id _ hl
     rw [hb] at e1;injection e1 with e1;subst e1
     have hat:=e3.N5 (k:=0) (e:= .al cs) rfl off
     obtain ⟨v,h1,h2⟩:=lQ (P:=P) h bi.bG (0*bi.sz+off) hat
     simp_all[Nat.zero_mul,Nat.zero_add,asAddr]
   grind
  |_=>grind
theorem lG {st:St} {n:Nat} {a:Act} (E:sx S β w n st.dA a) (M:b7 F S β st.hp w):∀{l:List ResultVar} {ys:List AV},mU P st l=some ys→
  ∃vs:List Value,(l.mapM (uk a.tmps)).run P w= .ok vs w∧vs.length=ys.length∧∀(i:Nat) v y,vs[i]? =some v→ys[i]? =some y→V S β w v y
 |[],ys,h=>by
  injection h with h
  simp_all
 |x::r,ys,h=>by
  simp only [mU] at h
  cases h1:zj P st x with
  |none=>grind
  |some y=>
   rw [h1] at h
   obtain ⟨ys',h2,rfl⟩:=Option.map_eq_some_iff.1 h
   obtain ⟨v,r1,v1⟩:=vM E M h1
   obtain ⟨vs,r2,l2,v2⟩:=lG E M h2
   refine ⟨v::vs,?_,by grind,fun i u z hu hz=> ?_⟩
   ·simp_all
   grind
theorem lH {st:St} {n:Nat} {a:Act} {fn:Func} (E:sx S β w n st.dA a) (M:b7 F S β st.hp w) {y:AV} (h:gW P st fn.results.toList=some y):
  ∃v,(results fn a.tmps).run P w= .ok v w∧V S β w v y:=by
 unfold gW at h
 cases hl:mU P st fn.results.toList with
 |none=>grind
 |some ys=>
  rw [hl] at h
  obtain ⟨vs,r1,l1,v1⟩:=lG E M hl
  have hm:(fn.results.mapM (uk a.tmps)).run P w= .ok vs.toArray w:=by
   simp_all[Array.mapM_eq_mapM_toList]
  rw [xV]
  simp only [Sem.run_bind,hm]
  refine ⟨_,rfl,?_⟩
  simp only [List.size_toArray]
  split
  ·rename_i h1
   match vs,h1 with
   |[v],_=>
    match ys,l1 with
    |[y0],_=>
     injection h with h
     subst h
     exact v1 0 v y0 rfl rfl
  ·rename_i h1
   have:y= .bC ys:=by
    grind
   subst this
   exact .bC vs ys l1 v1
theorem bK.qj {f:FuncId} {fn:Func} {c:Code} {args:List AV} {st':St} {e:cw} {r:AV} (hf:P.funcs[f]? =some fn) (hb:fn.body=some c) (hargs:aa args=true)
  (hrun:iE P (args.length+(fn.ntmps-args.length)) c ⟨bO 0 args,[]⟩ e st') (he:e= .aj∨e= .aR) (hr:gW P st' fn.results.toList=some r) (hn:aJ r=true):bK P f args [] r []:=by
 intro F S β hp w vs M hl hv _ _
 let F1:Fr:={w0:=w,S0:=S,M:=fun _=>False,β0:=fo}
 have M1:b7 F1 S fo [] w:=b7.pj ⟨⟨M.tP.1,fun h=>h⟩,rfl,rfl,rfl,Nat.le_refl _,fun _ _ _=>rfl,fun id o h=>(by cases h),fun id bi h=>(by cases h),fun i j bi bj h=>(by cases h),fun i bi h=>(by cases h),M.sub,fun _ h=>h,fun _ h=> .inl h,fun i b _ h=>h⟩ (fun _=>NK.yV (fun id o j sz es h=>by cases h))
 have E1:sx S fo w (args.length+(fn.ntmps-args.length)) (bO 0 args) {tmps:=vs.toArray++Array.replicate (fn.ntmps-vs.toArray.size) undef,defers:=[]}:=by
  refine ⟨by grind,rfl,fun t=> ?_⟩
  unfold ci
  cases hk:ae (bO 0 args) t with
  |none=>exact .aB _
  |some x=>
   obtain ⟨_,h2⟩:=kl hk
   rw [Nat.sub_zero] at h2
   have hlt:t<vs.length:=by grind
   have hvt:vs[t]? =some (vs[t]'hlt):=List.getElem?_eq_getElem hlt
   have:=(hv t _ x hvt h2).aJ (a8.1 hargs x (List.mem_of_getElem? h2))
   have he2:Act.eval {tmps:=vs.toArray++Array.replicate (fn.ntmps-vs.toArray.size) undef,defers:=[]} (.tmp t)=vs[t]'hlt:=by
    simp only [Act.eval,Array.getD_eq_getD_getElem?]
    grind
   grind
 refine calls_of_wp hf hb ?_
 refine (wpIn_wide (n:=0)).1 (wpIn_mono (hrun F1 _ w (fun _ h=>h) rfl ⟨S,fo,E1,M1⟩) fun e' a' w' ⟨h1,S',β',E',M'⟩=> ?_)
 obtain ⟨v,hres,hV⟩:=lH (fn:=fn) E' M' hr
 have hag:nI S w w':=fun b hb=>M'.a6 b (M.sub b hb) (fun h=>h)
 have hend:∃S2 β2,lg S S2 β β2 w w'∧b7 F S2 β2 hp w'∧V S2 β2 w' v r:=by
  obtain ⟨x,m⟩:=M.lO M'.eW M'.dN M'.sub M'.os M'.eL M'.cc M'.b6 (fun b hb=>M'.a6 b hb (fun h=>h))
  exact ⟨S',β,x,m,(hV.aJ hn).up⟩
 obtain ⟨S2,β2,x,m,hv2⟩:=hend
 rcases he with rfl|rfl
 ·subst h1;exact ⟨E'.2.1,v,hres,v,S2,β2,rfl,x,m,hv2⟩
 ·subst h1;exact ⟨E'.2.1,v,hres,v,S2,β2,rfl,x,m,hv2⟩
theorem bK.jb {f:FuncId} {fn:Func} {c:Code} {args:List AV} {st':St} {e:cw} {r:AV} (hf:P.funcs[f]? =some fn) (hb:fn.body=some c) (hargs:aa args=true)
  (hrun:cf P (args.length+(fn.ntmps-args.length)) c ⟨bO 0 args,[]⟩ e st') (he:e= .aj∨e= .aR) (hr:gW P st' fn.results.toList=some r) (hn:aJ r=true):bK P f args [] r []:=by
 grind[bK.qj,hrun.p]
end
end
end Go.Ped
