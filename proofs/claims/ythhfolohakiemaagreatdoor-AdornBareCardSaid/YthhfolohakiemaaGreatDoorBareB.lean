/- The reckoning of a region of code, of calls and of loops is right, and the shared contracts follow from it. -/
import Derived.Orders
import Derived.KernelRfl
import Derived.Below
import Derived.Shelf.SlIter.Sorted
import Derived.Shelf.SlIter.Nil
import Derived.Shelf.SortM.Plain
import Derived.Shelf.SortM.SortNone
import Derived.Test.YthhfolohakiemaaGreatDoorProg
import Derived.Shelf.Strconv.Itoa3
import Derived.WalkKit
import Derived.ProofKit
import Derived.OpenShut
import Derived.Deep.DeepHandedRow
import Derived.Deep.Slices
import Derived.Lib.LaidTab
import Derived.Carry
import Derived.SizedLaws
import Derived.Test.YthhfolohakiemaaGreatDoorBareA
set_option linter.unusedVariables false
namespace Go.Ped
open Go.RowKit
section
structure St where
 env:List (Nat×AV)
 hp:List (Nat×Ob)
def putD (env:List (Nat×AV)):Option Nat→AV→List (Nat×AV)
 |none,_=>env
 |some d,v=>putL env d v
def wantA (ops:Array Oper) (o:Oper) (env:List (Nat×AV)):Option Bool:=
 match o.guard with
 |none=>some true
 |some (j,b)=>match (ops[j]?).bind (·.dst) with
  |some t=>match lookD env t with
   | .bool c=>some (c==b)
   | .tup []=>some false
   |_=>none
  |none=>none
def stepA (P:Program) (base:Nat) (ops:Array Oper) (o:Oper) (sc:List Dir) (st:St):Option (Res×List Nat):=
 match wantA ops o st.env with
 |some true=>(evalOp P (base+o.dst.getD 0) o.op (o.op.operands.toList.map (evalA st.env)) sc).run (look st.hp)
 |some false=>some ({v:= .tup [],sc:=sc},[])
 |none=>none
structure Eff where
 dst:Option Nat
 v:AV
 upd:List (Nat×Ob)
 new:List Nat
 rd:List Nat
 looks:List Nat
def St.ap (st:St) (e:Eff):St:=⟨putD st.env e.dst e.v,putAll st.hp e.upd⟩
section
variable {P:Program} {ops:Array Oper} {F:Fr} {n base:Nat}
def At (F:Fr) (n:Nat) (st:St) (a:Act) (w:World):Prop:=∃S β,Env S β w n st.env a∧Mem F S β st.hp w
theorem Mem.drew {S:Blk} {β:Beta} {hp:List (Nat×Ob)} {w:World} (M:Mem F S β hp w) (k:Nat):Mem F S β hp {w with drawn:=k}:=by
 exact M.heapEq rfl rfl rfl rfl
theorem At.drew {st:St} {a:Act} {w:World} (h:At F n st a w) (k:Nat):At F n st a {w with drawn:=k}:=by
 obtain ⟨S,β,E,M⟩:=h
 have x:Ext S S β β w {w with drawn:=k}:=⟨fun _ h=>h,fun _ _ h=>h,fun _ _=>rfl⟩
 exact ⟨S,β,E.ext x,M.drew k⟩
theorem eval_tmp_some {a:Act} {t:Nat} {v:Value} (h:a.eval (.tmp t)=v) (hv:v≠undef):a.tmps[t]? =some v:=by
 simp only [Act.eval,Array.getD_eq_getD_getElem?] at h
 cases hx:a.tmps[t]? with
 |none=>rw [hx] at h;exact absurd h.symm hv
 |some u=>rw [hx] at h;simp at h;rw [h]
theorem wantA_sound {o:Oper} {S:Blk} {β:Beta} {w:World} {env:List (Nat×AV)} {a:Act} (E:Env S β w n env a) {b:Bool} (h:wantA ops o env=some b):Region.wanted o (yielded ops a.tmps)=b:=by
 unfold wantA at h
 unfold Region.wanted
 cases hg:o.guard with
 |none=>rw [hg] at h;injection h
 |some g=>
  obtain ⟨j,want⟩:=g
  rw [hg] at h
  simp only at h⊢
  cases ht:(ops[j]?).bind (·.dst) with
  |none=>rw [ht] at h;cases h
  |some t=>
   rw [ht] at h
   simp only at h
   have hv:=E.2.2 t
   generalize hx:a.eval (.tmp t)=x at hv
   generalize lookD env t=y at h hv
   cases y with
   |bool c=>
    injection h with h
    cases hv with
    |bool c=>
     have:=eval_tmp_some hx (by simp [undef])
     have hy:yielded ops a.tmps j=some c:=by simp [yielded,ht,this]
     rw [hy,←h]
     cases c<;>cases want<;>rfl
   |tup l=>
    cases l with
    |nil=>
     injection h with h
     subst h
     have hy:yielded ops a.tmps j=none:=by
      unfold yielded
      rw [ht]
      simp only [Option.bind_some]
      cases hq:a.tmps[t]? with
      |none=>rfl
      |some u=>
       have:x=u:=by rw [←hx];simp [Act.eval,hq]
       subst this
       cases hv with
       |tup vs cs hl h=>rfl
     rw [hy]
     rfl
    |cons _ _=>cases h
   |_=>cases h
theorem Env.putD {S:Blk} {β:Beta} {w:World} {env:List (Nat×AV)} {a:Act} (E:Env S β w n env a) {o:Oper} (hd:∀d,o.dst=some d→d<n) {v:Value} {x:AV} (hv:V S β w v x):
  Env S β w n (putD env o.dst x) (a.put o.dst v):=by
 cases h:o.dst with
 |none=>exact E
 |some d=>exact E.put (hd d h) hv
theorem stepA_sound {i:Nat} {o:Oper} {sc:List Dir} {st:St} {res:Res} {rd:List Nat} {a:Act} {w:World} (ho:ops[i]? =some o) (hd:∀d,o.dst=some d→d<n) (hA:At F n st a w)
  (hs:stepA P base ops o sc st=some (res,rd)) (hc:∀c,c∈res.cs→c.p) (hn:∀id,id∈res.new→look st.hp id=none) {K:Act→World→Prop} {Q:Exit→Act→World→Prop}
  (hK:∀a' w',At F n ⟨Ped.putD st.env o.dst res.v,putAll st.hp res.upd⟩ a' w'→K a' w'):wpOp P ops Q i K a w:=by
 obtain ⟨S,β,E,M⟩:=hA
 unfold wpOp
 rw [ho]
 simp only
 unfold stepA at hs
 cases hw:wantA ops o st.env with
 |none=>rw [hw] at hs;cases hs
 |some b=>
  rw [hw] at hs
  rw [wantA_sound E hw]
  cases b with
  |true=>
   rw [if_pos rfl]
   refine .inl (evalOp_sound E M hs hc hn K Q fun v w' S' β' x m hv=>hK _ _ ⟨S',β',(E.ext x).putD hd hv,m⟩)
  |false=>
   rw [if_neg (by simp)]
   simp only at hs
   injection hs with hs
   injection hs with hs _
   subst hs
   refine hK _ _ ⟨S,β,E.putD hd (.tup [] [] rfl (by simp)),M⟩
structure St.Sim (s t:St):Prop where
 env:∀k,lookD s.env k=lookD t.env k
 hp:∀k,look s.hp k=look t.hp k
theorem St.Sim.refl (s:St):s.Sim s:=⟨fun _=>rfl,fun _=>rfl⟩
theorem St.Sim.trans {s t u:St} (h:s.Sim t) (k:t.Sim u):s.Sim u:=⟨fun i=>(h.env i).trans (k.env i),fun i=>(h.hp i).trans (k.hp i)⟩
theorem St.Sim.symm {s t:St} (h:s.Sim t):t.Sim s:=⟨fun i=>(h.env i).symm,fun i=>(h.hp i).symm⟩
theorem At.sim {s t:St} (h:s.Sim t) {a:Act} {w:World} (hA:At F n s a w):At F n t a w:=by
 obtain ⟨S,β,E,M⟩:=hA
 exact ⟨S,β,⟨E.1,E.2.1,fun k=>by rw [←h.env k];exact E.2.2 k⟩,M.look_eq h.hp⟩
theorem lookD_putD (env:List (Nat×AV)) (d:Option Nat) (v:AV) (k:Nat):lookD (putD env d v) k=if d=some k then v else lookD env k:=by
 cases d with
 |none=>simp [putD]
 |some d=>
  simp only [putD,lookD,look_put,Option.some.injEq]
  by_cases h:d=k<;>simp [h]
theorem look_putAll_out (upd:List (Nat×Ob)):∀(hp:List (Nat×Ob)) (k:Nat),k∉upd.map (·.1)→look (putAll hp upd) k=look hp k:=by
 induction upd with
 |nil=>intro hp k _;rfl
 |cons x l ih=>
  intro hp k hk
  simp only [List.map_cons,List.mem_cons,not_or] at hk
  show look (putAll (putL hp x.1 x.2) l) k=_
  rw [ih _ _ hk.2,look_put,if_neg (Ne.symm hk.1)]
theorem look_putAll_in (upd:List (Nat×Ob)):∀(hp hq:List (Nat×Ob)) (k:Nat),k∈upd.map (·.1)→look (putAll hp upd) k=look (putAll hq upd) k:=by
 induction upd with
 |nil=>intro hp hq k h;simp at h
 |cons x l ih=>
  intro hp hq k hk
  show look (putAll (putL hp x.1 x.2) l) k=look (putAll (putL hq x.1 x.2) l) k
  by_cases hl:k∈l.map (·.1)
  ·exact ih _ _ _ hl
  ·rw [look_putAll_out _ _ _ hl,look_putAll_out _ _ _ hl,look_put,look_put]
   simp only [List.map_cons,List.mem_cons] at hk
   have:x.1=k:=(hk.resolve_right hl).symm
   rw [if_pos this,if_pos this]
theorem St.Sim.ap {s t:St} (h:s.Sim t) (e:Eff):(s.ap e).Sim (t.ap e):=by
 refine ⟨fun k=> ?_,fun k=> ?_⟩
 ·simp only [St.ap,lookD_putD,h.env]
 ·by_cases hk:k∈e.upd.map (·.1)
  ·exact look_putAll_in _ _ _ _ hk
  ·simp only [St.ap]
   rw [look_putAll_out _ _ _ hk,look_putAll_out _ _ _ hk,h.hp]
def meets (e f:Eff):Bool:=
 (match e.dst with
  |some d=>f.looks.contains d||f.dst==some d
  |none=>false)||e.upd.any fun x=>f.rd.contains x.1||f.new.contains x.1||f.upd.any fun y=>y.1==x.1
def apartE (e f:Eff):Bool:= !meets e f&& !meets f e
theorem apartE_symm {e f:Eff} (h:apartE e f=true):apartE f e=true:=by
 unfold apartE at*
 rw [Bool.and_comm]
 exact h
theorem not_meets {e f:Eff} (h:meets e f=false):
  (∀d,e.dst=some d→d∉f.looks∧f.dst≠some d)∧∀k,k∈e.upd.map (·.1)→k∉f.rd∧k∉f.new∧k∉f.upd.map (·.1):=by
 unfold meets at h
 rw [Bool.or_eq_false_iff] at h
 obtain ⟨h1,h2⟩:=h
 refine ⟨fun d hd=> ?_,fun k hk=> ?_⟩
 ·rw [hd] at h1
  simpa using h1
 ·obtain ⟨x,hx,rfl⟩:=List.mem_map.1 hk
  rw [List.any_eq_false] at h2
  have:=h2 x hx
  simp only [Bool.or_eq_true,not_or,List.contains_eq_mem,decide_eq_true_eq] at this
  refine ⟨this.1.1,this.1.2,fun hm=>this.2 ?_⟩
  obtain ⟨y,hy,e⟩:=List.mem_map.1 hm
  exact List.any_eq_true.2 ⟨y,hy,by simp [e]⟩
structure OkAt (P:Program) (ops:Array Oper) (st:St) (i:Nat) (e:Eff):Prop where
 ok:∃o base sc res rd,ops[i]? =some o∧stepA P base ops o sc st=some (res,rd)∧(∀c,c∈res.cs→c.p)∧(∀id,id∈res.new→look st.hp id=none)∧
  e={dst:=o.dst,v:=res.v,upd:=res.upd,new:=res.new,rd:=rd,looks:=o.looksAt ops}
theorem evalA_congr {env env':List (Nat×AV)} {x:Operand} (h:∀t,x= .tmp t→lookD env' t=lookD env t):evalA env' x=evalA env x:=by
 cases x with
 |tmp t=>exact h t rfl
 |_=>rfl
theorem OkAt.congr {st st':St} {i:Nat} {e:Eff} (h:OkAt P ops st i e) (h1:∀t,t∈e.looks→lookD st'.env t=lookD st.env t) (h2:∀k,k∈e.rd∨k∈e.new→look st'.hp k=look st.hp k):
  OkAt P ops st' i e:=by
 obtain ⟨o,base,sc,res,rd,ho,hs,hc,hn,rfl⟩:=h.ok
 refine ⟨o,base,sc,res,rd,ho,?_,hc,fun id hi=>(h2 id (.inr hi)).trans (hn id hi),rfl⟩
 have hops:o.op.operands.toList.map (evalA st'.env)=o.op.operands.toList.map (evalA st.env):=by
  refine List.map_congr_left fun x hx=>evalA_congr fun t ht=>h1 t ?_
  subst ht
  exact List.mem_append_left _ (List.mem_filterMap.2 ⟨.tmp t,hx,rfl⟩)
 have hwant:wantA ops o st'.env=wantA ops o st.env:=by
  unfold wantA
  cases hg:o.guard with
  |none=>rfl
  |some g=>
   obtain ⟨j,b⟩:=g
   simp only
   cases ht:(ops[j]?).bind (·.dst) with
   |none=>rfl
   |some t=>
    simp only
    rw [h1 t (List.mem_append_right _ (by simp [hg,ht]))]
 unfold stepA at hs⊢
 rw [hwant,hops]
 cases hw:wantA ops o st.env with
 |none=>rw [hw] at hs;cases hs
 |some b=>
  rw [hw] at hs
  cases b with
  |true=>exact Rd.run_local hs fun id hi=>h2 id (.inl hi)
  |false=>exact hs
theorem OkAt.sim {s t:St} (h:s.Sim t) {i:Nat} {e:Eff} (ho:OkAt P ops s i e):OkAt P ops t i e:=
 ho.congr (fun k _=>(h.env k).symm) (fun k _=>(h.hp k).symm)
theorem ap_env {st:St} {e f:Eff} (h:meets f e=false):(∀t,t∈e.looks→lookD (st.ap f).env t=lookD st.env t)∧∀k,k∈e.rd∨k∈e.new→look (st.ap f).hp k=look st.hp k:=by
 obtain ⟨h1,h2⟩:=not_meets h
 refine ⟨fun t ht=> ?_,fun k hk=> ?_⟩
 ·simp only [St.ap,lookD_putD]
  rw [if_neg (fun e=>(h1 t e).1 ht)]
 ·refine look_putAll_out _ _ _ fun hm=> ?_
  obtain ⟨a,b,_⟩:=h2 k hm
  rcases hk with hk|hk
  ·exact a hk
  ·exact b hk
theorem OkAt.past {st:St} {i:Nat} {e f:Eff} (h:apartE e f=true) (ho:OkAt P ops (st.ap f) i e):OkAt P ops st i e:=by
 have hm:meets f e=false:=by unfold apartE at h;simp at h;exact h.2
 obtain ⟨h1,h2⟩:=ap_env (st:=st) hm
 exact ho.congr (fun t ht=>(h1 t ht).symm) (fun k hk=>(h2 k hk).symm)
theorem OkAt.upto {st:St} {i:Nat} {e f:Eff} (h:apartE e f=true) (ho:OkAt P ops st i e):OkAt P ops (st.ap f) i e:=by
 have hm:meets f e=false:=by unfold apartE at h;simp at h;exact h.2
 obtain ⟨h1,h2⟩:=ap_env (st:=st) hm
 exact ho.congr h1 h2
theorem ap_comm {st:St} {e f:Eff} (h:apartE e f=true):((st.ap e).ap f).Sim ((st.ap f).ap e):=by
 have hm1:meets e f=false:=by unfold apartE at h;simp at h;exact h.1
 have hm2:meets f e=false:=by unfold apartE at h;simp at h;exact h.2
 obtain ⟨a1,a2⟩:=not_meets hm1
 obtain ⟨b1,b2⟩:=not_meets hm2
 refine ⟨fun k=> ?_,fun k=> ?_⟩
 ·simp only [St.ap,lookD_putD]
  by_cases h1:f.dst=some k
  ·rw [if_pos h1,if_neg (fun h2=>(a1 k h2).2 h1),if_pos h1]
  ·rw [if_neg h1,if_neg h1]
 ·simp only [St.ap]
  by_cases h1:k∈f.upd.map (·.1)
  ·rw [look_putAll_out e.upd _ _ (fun h2=>(a2 k h2).2.2 h1)]
   exact look_putAll_in _ _ _ _ h1
  ·rw [look_putAll_out f.upd _ _ h1]
   by_cases h2:k∈e.upd.map (·.1)
   ·exact look_putAll_in _ _ _ _ h2
   ·rw [look_putAll_out _ _ _ h2,look_putAll_out _ _ _ h2,look_putAll_out _ _ _ h1]
def Chain (P:Program) (ops:Array Oper):St→List (Nat×Eff)→Prop
 |_,[]=>True
 |st,x::r=>OkAt P ops st x.1 x.2∧Chain P ops (st.ap x.2) r
def apAll (st:St) (R:List (Nat×Eff)):St:=R.foldl (fun s x=>s.ap x.2) st
theorem Chain.sim:∀{R:List (Nat×Eff)} {s t:St},s.Sim t→Chain P ops s R→Chain P ops t R
 |[],_,_,_,_=>trivial
 |_::_,_,_,h,⟨a,b⟩=>⟨a.sim h,Chain.sim (h.ap _) b⟩
theorem apAll_sim:∀{R:List (Nat×Eff)} {s t:St},s.Sim t→(apAll s R).Sim (apAll t R)
 |[],_,_,h=>h
 |x::R,_,_,h=>apAll_sim (R:=R) (h.ap x.2)
theorem Chain.pull {x:Nat×Eff} {B:List (Nat×Eff)}:∀{A:List (Nat×Eff)} {st:St},(∀y,y∈A→apartE x.2 y.2=true)→Chain P ops st (A++x::B)→
  OkAt P ops st x.1 x.2∧Chain P ops (st.ap x.2) (A++B)∧(apAll (st.ap x.2) (A++B)).Sim (apAll st (A++x::B))
 |[],st,_,⟨a,b⟩=>⟨a,b,.refl _⟩
 |y::A,st,h,⟨a,b⟩=>by
  have hy:=h y (by simp)
  obtain ⟨c1,c2,c3⟩:=Chain.pull (A:=A) (fun z hz=>h z (by simp [hz])) b
  have cm:=ap_comm (st:=st) hy
  refine ⟨c1.past hy,⟨a.upto (apartE_symm hy),c2.sim cm.symm⟩,?_⟩
  show (apAll ((st.ap x.2).ap y.2) (A++B)).Sim _
  exact (apAll_sim cm).trans c3
def runOps (P:Program) (base:Nat) (ops:Array Oper):List Oper→List Dir→St→Option (St×List Cond×List Dir×List Eff)
 |[],sc,st=>some (st,[],sc,[])
 |o::r,sc,st=>match stepA P base ops o sc st with
  |some (res,rd)=>
   if res.new.all (fun id=>(look st.hp id).isNone) then
    match runOps P base ops r res.sc ⟨putD st.env o.dst res.v,putAll st.hp res.upd⟩ with
    |some (st',cs,sc',es)=>some (st',res.cs++cs,sc',{dst:=o.dst,v:=res.v,upd:=res.upd,new:=res.new,rd:=rd,looks:=o.looksAt ops}::es)
    |none=>none
   else none
  |none=>none
theorem runOps_chain:∀{l:List Oper} {k:Nat} {sc sc':List Dir} {st st':St} {cs:List Cond} {es:List Eff},(∀i o,l[i]? =some o→ops[k+i]? =some o)→runOps P base ops l sc st=some (st',cs,sc',es)→(∀c,c∈cs→c.p)→
  es.length=l.length∧Chain P ops st ((List.range' k es.length).zip es)∧apAll st ((List.range' k es.length).zip es)=st':=by
 intro l
 induction l with
 |nil=>
  intro k sc sc' st st' cs es _ h hc
  simp only [runOps] at h
  injection h with h
  simp only [Prod.mk.injEq] at h
  obtain ⟨h1,h2,h3,h4⟩:=h
  subst h1;subst h4
  exact ⟨rfl,trivial,rfl⟩
 |cons o r ih=>
  intro k sc sc' st st' cs es ho h hc
  simp only [runOps] at h
  cases hs:stepA P base ops o sc st with
  |none=>rw [hs] at h;cases h
  |some x=>
   obtain ⟨res,rd⟩:=x
   rw [hs] at h
   simp only at h
   split at h
   ·rename_i hnew
    cases hr:runOps P base ops r res.sc ⟨putD st.env o.dst res.v,putAll st.hp res.upd⟩ with
    |none=>rw [hr] at h;cases h
    |some y=>
     obtain ⟨s2,c2,d2,e2⟩:=y
     rw [hr] at h
     injection h with h
     simp only [Prod.mk.injEq] at h
     obtain ⟨h1,h2,h3,h4⟩:=h
     subst h1;subst h2;subst h4
     obtain ⟨i1,i2,i3⟩:=ih (k:=k+1) (fun i o' hi=>by have:=ho (i+1) o' (by simpa using hi);rw [←this];congr 1;omega) hr (fun c hcc=>hc c (by simp [hcc]))
     refine ⟨by simp [i1],?_,?_⟩
     ·simp only [List.length_cons,List.range'_succ,List.zip_cons_cons]
      refine ⟨⟨o,base,sc,res,rd,ho 0 o rfl,hs,fun c hcc=>hc c (by simp [hcc]),fun id hid=> ?_,rfl⟩,i2⟩
      have:=List.all_eq_true.1 hnew id hid
      simpa using this
     ·simp only [List.length_cons,List.range'_succ,List.zip_cons_cons]
      exact i3
   ·cases h
def masks (md:Region.Mode):List Oper→List Nat→Option (List Nat)
 |[],done=>some done
 |o::r,done=>
  match (o.after.toList.filter (Region.binds md)).foldlM (fun m e=>(done[e.on]?).map fun d=>m|||d|||(1<<<e.on)) 0 with
  |some m=>masks md r (done++[m])
  |none=>none
def pairsOK (es:List Eff) (ms:List Nat):Bool:=
 (List.range es.length).all fun j=>match es[j]?,ms[j]? with
  |some f,some m=>(List.range j).all fun i=>match es[i]? with
   |some e=>m.testBit i||apartE f e
   |none=>false
  |_,_=>false
structure Masks (md:Region.Mode) (ops:Array Oper) (ms:List Nat):Prop where
 len:ms.length=ops.size
 back:∀(j:Nat) (o:Oper) (e:Edge),ops[j]? =some o→e∈o.after→Region.binds md e=true→e.on<j
 bits:∀(j:Nat) (o:Oper) (m i:Nat),ops[j]? =some o→ms[j]? =some m→m.testBit i=true→∃e,e∈o.after∧Region.binds md e=true∧(i=e.on∨∃d,ms[e.on]? =some d∧d.testBit i=true)
theorem foldlM_masks {done:List Nat}:∀{l:List Edge} {m0 m:Nat},l.foldlM (fun m e=>(done[e.on]?).map fun d=>m|||d|||(1<<<e.on)) m0=some m→
  (∀e,e∈l→e.on<done.length)∧∀i,m.testBit i=true→m0.testBit i=true∨∃e,e∈l∧(i=e.on∨∃d,done[e.on]? =some d∧d.testBit i=true):=by
 intro l
 induction l with
 |nil=>intro m0 m h;injection h with h;subst h;exact ⟨by simp,fun i hi=> .inl hi⟩
 |cons e r ih=>
  intro m0 m h
  rw [List.foldlM_cons] at h
  cases hd:done[e.on]? with
  |none=>rw [hd] at h;cases h
  |some d=>
   rw [hd] at h
   obtain ⟨h1,h2⟩:=ih (m0:=m0|||d|||(1<<<e.on)) h
   refine ⟨fun x hx=> ?_,fun i hi=> ?_⟩
   ·rcases List.mem_cons.1 hx with rfl|hx
    ·exact (List.getElem?_eq_some_iff.1 hd).1
    ·exact h1 x hx
   ·rcases h2 i hi with h|⟨x,hx,hxi⟩
    ·rw [Nat.testBit_or,Nat.testBit_or,Bool.or_eq_true,Bool.or_eq_true] at h
     rcases h with (h|h)|h
     ·exact .inl h
     ·exact .inr ⟨e,by simp,.inr ⟨d,hd,h⟩⟩
     ·refine .inr ⟨e,by simp,.inl ?_⟩
      rw [Nat.one_shiftLeft,Nat.testBit_two_pow] at h
      simp at h
      exact h.symm
    ·exact .inr ⟨x,by simp [hx],hxi⟩
theorem masks_spec {md:Region.Mode}:∀{l:List Oper} {done ms:List Nat},masks md l done=some ms→
  ms.length=done.length+l.length∧(∀i,i<done.length→ms[i]? =done[i]?)∧
  ∀(i:Nat) (o:Oper) (m:Nat),l[i]? =some o→ms[done.length+i]? =some m→(∀e,e∈o.after→Region.binds md e=true→e.on<done.length+i)∧
   ∀b,m.testBit b=true→∃e,e∈o.after∧Region.binds md e=true∧(b=e.on∨∃d,ms[e.on]? =some d∧d.testBit b=true):=by
 intro l
 induction l with
 |nil=>
  intro done ms h
  injection h with h
  subst h
  exact ⟨rfl,fun i _=>rfl,fun i o m h=>by simp at h⟩
 |cons o r ih=>
  intro done ms h
  simp only [masks] at h
  cases hm:(o.after.toList.filter (Region.binds md)).foldlM (fun m e=>(done[e.on]?).map fun d=>m|||d|||(1<<<e.on)) 0 with
  |none=>rw [hm] at h;cases h
  |some m0=>
   rw [hm] at h
   obtain ⟨h1,h2,h3⟩:=ih h
   obtain ⟨g1,g2⟩:=foldlM_masks hm
   refine ⟨by simp at h1⊢;omega,fun i hi=> ?_,fun i o' m hi hmi=> ?_⟩
   ·rw [h2 i (by simp;omega),List.getElem?_append_left hi]
   ·cases i with
    |zero=>
     simp at hi
     subst hi
     rw [Nat.add_zero,h2 done.length (by simp)] at hmi
     simp at hmi
     subst hmi
     refine ⟨fun e he hb=>g1 e (List.mem_filter.2 ⟨by simpa using he,hb⟩),fun b hb=> ?_⟩
     rcases g2 b hb with h0|⟨e,he,hbe⟩
     ·simp at h0
     ·obtain ⟨he1,he2⟩:=List.mem_filter.1 he
      refine ⟨e,by simpa using he1,he2,hbe.imp id ?_⟩
      rintro ⟨d,hd,hdb⟩
      have hlt:=(List.getElem?_eq_some_iff.1 hd).1
      exact ⟨d,by rw [h2 _ (by simp;omega),List.getElem?_append_left hlt];exact hd,hdb⟩
    |succ i=>
     have hlen:(done++[m0]).length+i=done.length+(i+1):=by simp;omega
     have:=h3 i o' m (by simpa using hi) (by rw [hlen];exact hmi)
     rw [hlen] at this
     exact this
theorem masks_ok {md:Region.Mode} {ms:List Nat} (h:masks md ops.toList []=some ms):Masks md ops ms:=by
 obtain ⟨h1,_,h3⟩:=masks_spec h
 have hsz:ms.length=ops.size:=by simpa using h1
 have go:∀(j:Nat) o,ops[j]? =some o→∃m,ms[j]? =some m∧(∀e,e∈o.after→Region.binds md e=true→e.on<j)∧∀b,m.testBit b=true→∃e,e∈o.after∧Region.binds md e=true∧(b=e.on∨∃d,ms[e.on]? =some d∧d.testBit b=true):=by
  intro j o ho
  have hj:j<ops.size:=(Array.getElem?_eq_some_iff.1 ho).1
  have hm:ms[j]? =some (ms[j]'(by omega)):=List.getElem?_eq_getElem (by omega)
  have:=h3 j o (ms[j]'(by omega)) (by simpa using ho) (by simp only [List.length_nil,Nat.zero_add];exact hm)
  simp only [List.length_nil,Nat.zero_add] at this
  exact ⟨_,hm,this.1,this.2⟩
 refine ⟨hsz,fun j o e ho he hb=> ?_,fun j o m i ho hm hi=> ?_⟩
 ·obtain ⟨m,_,g,_⟩:=go j o ho
  exact g e he hb
 ·obtain ⟨m',hm',_,g⟩:=go j o ho
  rw [hm] at hm'
  injection hm' with hm'
  subst hm'
  exact g i hi
def Down (md:Region.Mode) (ops:Array Oper) (listed:Array Bool):Prop:=
 ∀(j:Nat) (o:Oper),ops[j]? =some o→listed.getD j false=true→∀e,e∈o.after→Region.binds md e=true→listed.getD e.on false=true
theorem Masks.listed {md:Region.Mode} {ms:List Nat} (hM:Masks md ops ms) {listed:Array Bool} (hD:Down md ops listed):
  ∀(j:Nat) o m,ops[j]? =some o→ms[j]? =some m→(∀e,e∈o.after→Region.binds md e=true→listed.getD e.on false=true)→∀i,m.testBit i=true→listed.getD i false=true:=by
 intro j
 induction j using Nat.strongRecOn with
 |_ j ih=>
  intro o m ho hm hp i hi
  obtain ⟨e,he,hb,h⟩:=hM.bits j o m i ho hm hi
  rcases h with rfl|⟨d,hd,hdi⟩
  ·exact hp e he hb
  ·have hlt:=hM.back j o e ho he hb
   have hj:j<ops.size:=(Array.getElem?_eq_some_iff.1 ho).1
   have ho':ops[e.on]? =some ops[e.on]:=Array.getElem?_eq_getElem (by omega)
   exact ih e.on hlt _ d ho' hd (fun e' he' hb'=>hD e.on _ ho' (hp e he hb) e' he' hb') i hdi
theorem any_sound {md:Region.Mode} {ms:List Nat} {Q:Exit→Act→World→Prop} (hM:Masks md ops ms) (hd:∀(i:Nat) o d,ops[i]? =some o→o.dst=some d→d<n) (fin:St) (hQ:∀a w,At F n fin a w→Q .normal a w):
  ∀(R:List (Nat×Eff)) (listed:Array Bool) (st:St) (a:Act) (w:World),listed.size=ops.size→Down md ops listed→R.Pairwise (fun x y=>x.1<y.1∧(∀m,ms[y.1]? =some m→m.testBit x.1=true∨apartE y.2 x.2=true))→
   (∀i,i<ops.size→(listed.getD i true=false↔i∈R.map (·.1)))→(∀i,i∈R.map (·.1)→i<ops.size)→Chain P ops st R→(apAll st R).Sim fin→At F n st a w→wpAny P md ops Q R.length listed a w:=by
 intro R
 generalize hlen:R.length=k
 induction k generalizing R with
 |zero=>
  intro listed st a w hs hD hP hR hlt hC hf hA
  have hnil:R=[]:=List.length_eq_zero_iff.1 hlen
  subst hnil
  refine ⟨?_,hQ a w (hA.sim hf)⟩
  unfold Region.ready
  rw [List.filter_eq_nil_iff]
  intro i hi
  have hi:=List.mem_range.1 hi
  have hno:listed.getD i true=true:=by
   cases h:listed.getD i true with
   |true=>rfl
   |false=>have:=(hR i hi).1 h;simp at this
  rw [hno]
  simp
 |succ k ih=>
  intro listed st a w hs hD hP hR hlt hC hf hA
  refine ⟨fun hre=> ?_,fun i hi=> ?_⟩
  ·exfalso
   cases R with
   |nil=>simp at hlen
   |cons x R=>
    have hx:x.1<ops.size:=hlt x.1 (by simp)
    have hmem:x.1∈Region.ready md ops listed:=by
     refine mem_ready.2 ⟨(hR x.1 hx).2 (by simp),ops[x.1],Array.getElem?_eq_getElem hx,fun e he hb=> ?_⟩
     have hbk:=hM.back x.1 _ e (Array.getElem?_eq_getElem hx) he hb
     have hT:listed.getD e.on true=true:=by
      cases h:listed.getD e.on true with
      |true=>rfl
      |false=>
       have hm:=(hR e.on (by omega)).1 h
       rcases List.mem_map.1 hm with ⟨y,hy,hye⟩
       rcases List.mem_cons.1 hy with rfl|hy
       ·omega
       ·have:=(List.pairwise_cons.1 hP).1 y hy
        omega
     have hsz:e.on<listed.size:=by omega
     simpa [hsz] using hT
    rw [hre] at hmem
    simp at hmem
  ·obtain ⟨h0,o,ho,hpre⟩:=mem_ready.1 hi
   have hio:i<ops.size:=(Array.getElem?_eq_some_iff.1 ho).1
   have him:=(hR i hio).1 h0
   obtain ⟨x,hx,rfl⟩:=List.mem_map.1 him
   obtain ⟨A,B,rfl⟩:=List.append_of_mem hx
   have hm:ms[x.1]? =some (ms[x.1]'(by rw [hM.len];exact hio)):=List.getElem?_eq_getElem _
   have hAp:∀y,y∈A→apartE x.2 y.2=true:=by
    intro y hy
    have hp:=(List.pairwise_append.1 hP).2.2 y hy x (by simp)
    rcases hp.2 _ hm with hb|hb
    ·exfalso
     have hl:=hM.listed hD x.1 o _ ho hm hpre y.1 hb
     have hylt:=hlt y.1 (List.mem_map.2 ⟨y,by simp [hy],rfl⟩)
     have hyl:=(hR y.1 hylt).2 (List.mem_map.2 ⟨y,by simp [hy],rfl⟩)
     have hsz:y.1<listed.size:=by omega
     simp [hsz] at hl hyl
     rw [hl] at hyl
     cases hyl
    ·exact hb
   obtain ⟨c1,c2,c3⟩:=Chain.pull hAp hC
   obtain ⟨o',base,sc,res,rd,ho',hst,hcs,hnew,he⟩:=c1.ok
   refine stepA_sound ho' (fun d hdd=>hd x.1 o' d ho' hdd) hA hst hcs hnew fun a' w' hA'=> ?_
   have hap:st.ap x.2=⟨putD st.env o'.dst res.v,putAll st.hp res.upd⟩:=by rw [he];rfl
   have hnd:∀y,y∈A++B→y.1≠x.1:=by
    intro y hy
    rcases List.mem_append.1 hy with hy|hy
    ·have:=(List.pairwise_append.1 hP).2.2 y hy x (by simp);omega
    ·have:=(List.pairwise_cons.1 (List.pairwise_append.1 hP).2.1).1 y hy;omega
   refine ih (A++B) (by simp at hlen⊢;omega) _ (st.ap x.2) a' w' (by simpa using hs) ?_ ?_ ?_ ?_ c2 (c3.trans hf) (by rw [hap];exact hA')
   ·intro j oj hoj hj e he hb
    by_cases hjx:j=x.1
    ·subst hjx
     rw [ho] at hoj
     injection hoj with hoj
     subst hoj
     exact getD_set_true (hpre e he hb)
    ·have:listed.getD j false=true:=by rw [←getD_set_ne false (Ne.symm hjx)];exact hj
     exact getD_set_true (hD j oj hoj this e he hb)
   ·refine List.Pairwise.sublist ?_ hP
    exact List.Sublist.append (List.Sublist.refl A) (List.sublist_cons_self x B)
   ·intro j hj
    by_cases hjx:j=x.1
    ·subst hjx
     have hsz:x.1<listed.size:=by omega
     constructor
     ·intro h;simp [hsz] at h
     ·intro h
      obtain ⟨y,hy,e⟩:=List.mem_map.1 h
      exact absurd e (hnd y hy)
    ·rw [getD_set_ne true (Ne.symm hjx),hR j hj]
     simp only [List.map_append,List.map_cons,List.mem_append,List.mem_cons]
     constructor
     ·rintro (h|h|h)
      ·exact .inl h
      ·exact absurd h hjx
      ·exact .inr h
     ·rintro (h|h)
      ·exact .inl h
      ·exact .inr (.inr h)
   ·intro j hj
    refine hlt j ?_
    simp only [List.map_append,List.map_cons,List.mem_append,List.mem_cons] at hj⊢
    rcases hj with h|h
    ·exact .inl h
    ·exact .inr (.inr h)
theorem pairs_spec {es:List Eff} {ms:List Nat} (h:pairsOK es ms=true):
  ((List.range' 0 es.length).zip es).Pairwise (fun x y=>x.1<y.1∧(∀m,ms[y.1]? =some m→m.testBit x.1=true∨apartE y.2 x.2=true)):=by
 rw [List.pairwise_iff_getElem]
 intro i j hi hj hij
 simp only [List.length_zip,List.length_range',Nat.min_self] at hi hj
 simp only [List.getElem_zip,List.getElem_range',Nat.one_mul,Nat.zero_add]
 refine ⟨hij,fun m hm=> ?_⟩
 unfold pairsOK at h
 rw [List.all_eq_true] at h
 have h1:=h j (List.mem_range.2 hj)
 rw [List.getElem?_eq_getElem hj,hm] at h1
 simp only [List.all_eq_true] at h1
 have h2:=h1 i (List.mem_range.2 hij)
 rw [List.getElem?_eq_getElem hi] at h2
 simp only [Bool.or_eq_true] at h2
 exact h2
def dstsIn (n:Nat) (ops:Array Oper):Bool:=ops.toList.all fun o=>match o.dst with
 |some d=>Nat.blt d n
 |none=>true
theorem dstsIn_spec {n:Nat} (h:dstsIn n ops=true):∀(i:Nat) o d,ops[i]? =some o→o.dst=some d→d<n:=by
 intro i o d ho hd
 have:=List.all_eq_true.1 h o (by rw [Array.mem_toList_iff];exact Array.mem_of_getElem? ho)
 rw [hd] at this
 simpa using this
def regionA (P:Program) (n base:Nat) (ops:Array Oper) (draw:Bool) (sc:List Dir) (st:St):Option (St×List Cond×List Dir):=
 if dstsIn n ops then
  match runOps P base ops ops.toList sc st with
  |some (st',cs,sc',es)=>match draw with
   |false=>some (st',cs,sc')
   |true=>match masks .any ops.toList [] with
    |some ms=>if pairsOK es ms then some (st',cs,sc') else none
    |none=>none
  |none=>none
 else none
theorem chain_ordered {Q:Exit→Act→World→Prop} (hd:∀(i:Nat) o d,ops[i]? =some o→o.dst=some d→d<n):∀(R:List (Nat×Eff)) (st:St) (a:Act) (w:World),Chain P ops st R→(∀a w,At F n (apAll st R) a w→Q .normal a w)→At F n st a w→wpOps P ops Q (R.map (·.1)) a w
 |[],st,a,w,_,hQ,hA=>hQ a w hA
 |x::R,st,a,w,⟨c,hC⟩,hQ,hA=>by
  obtain ⟨o,base,sc,res,rd,ho,hs,hc,hn,he⟩:=c.ok
  rw [List.map_cons,wpOps_cons]
  refine stepA_sound ho (fun d h=>hd x.1 o d ho h) hA hs hc hn fun a' w' hA'=> ?_
  have hap:st.ap x.2=⟨putD st.env o.dst res.v,putAll st.hp res.upd⟩:=by rw [he];rfl
  exact chain_ordered hd R (st.ap x.2) a' w' hC hQ (by rw [hap];exact hA')
theorem region_sound {id:Nat} {draw:Bool} {sc sc':List Dir} {st st':St} {cs:List Cond} {Q:Exit→Act→World→Prop} {a:Act} {w:World} (hmix:P.follows .mixedOrders=true)
  (h:regionA P n base ops draw sc st=some (st',cs,sc')) (hc:∀c,c∈cs→c.p) (hQ:∀a w,At F n st' a w→Q .normal a w) (hA:At F n st a w):(Code.region id ops draw).wp P Q a w:=by
 unfold regionA at h
 split at h
 ·rename_i hdst
  have hd:=dstsIn_spec hdst
  cases hr:runOps P base ops ops.toList sc st with
  |none=>rw [hr] at h;cases h
  |some x=>
   obtain ⟨s,c,d,es⟩:=x
   rw [hr] at h
   simp only at h
   cases draw with
   |false=>
    simp only at h
    injection h with h
    simp only [Prod.mk.injEq] at h
    obtain ⟨h1,h2,h3⟩:=h
    subst h1;subst h2
    obtain ⟨l1,l2,l3⟩:=runOps_chain (k:=0) (fun i o hi=>by simpa using hi) hr hc
    refine wp_region ?_
    have hm:((List.range' 0 es.length).zip es).map (·.1)=List.range ops.size:=by
     rw [List.map_fst_zip (by simp),List.range_eq_range',l1]
     simp
    rw [←hm]
    exact chain_ordered hd _ st a w l2 (by rw [l3];exact hQ) hA
   |true=>
    cases hm:masks .any ops.toList [] with
    |none=>rw [hm] at h;cases h
    |some ms=>
     rw [hm] at h
     simp only at h
     split at h
     ·rename_i hp
      injection h with h
      simp only [Prod.mk.injEq] at h
      obtain ⟨h1,h2,h3⟩:=h
      subst h1;subst h2
      obtain ⟨l1,l2,l3⟩:=runOps_chain (k:=0) (fun i o hi=>by simpa using hi) hr hc
      refine wp_region_any hmix ?_
      have hsz:((List.range' 0 es.length).zip es).length=ops.size:=by simp [l1]
      have hmap:((List.range' 0 es.length).zip es).map (·.1)=List.range ops.size:=by
       rw [List.map_fst_zip (by simp),List.range_eq_range',l1]
       simp
      rw [←hsz]
      refine any_sound (masks_ok hm) hd s hQ _ _ st a _ (by simp [hsz]) ?_ (pairs_spec hp) ?_ ?_ l2 (by rw [l3];exact .refl _) (hA.drew _)
      ·intro j o hj hl
       rw [Array.getD_eq_getD_getElem?,Array.getElem?_replicate] at hl
       split at hl<;>simp at hl
      ·intro i hi
       rw [hmap]
       simp only [List.mem_range,hi,iff_true]
       rw [Array.getD_eq_getD_getElem?,Array.getElem?_replicate]
       simp [l1,hi]
      ·intro i hi
       rw [hmap] at hi
       exact List.mem_range.1 hi
     ·cases h
 ·cases h
end
end
section
def Out.x:Out→Exit
 | .normal=> .normal
 | .exit id=> .exit id
 | .ret=> .ret
def Runs (P:Program) (n:Nat) (c:Code) (st:St) (e:Out) (st':St):Prop:=
 ∀(F:Fr) (a:Act) (w:World),At F n st a w→c.wp P (fun e' a' w'=>e'=e.x∧At F n st' a' w') a w
def Loops (P:Program) (n:Nat) (c:Code) (st:St) (e:Out) (st':St):Prop:=
 ∃k,∀(F:Fr) (a:Act) (w:World),At F n st a w→Code.rounds P c (fun e' a' w'=>e'=e.x∧At F n st' a' w') k a w
def Le (n:Nat) (st st':St):Prop:=∀(F:Fr) (a:Act) (w:World),At F n st a w→At F n st' a w
def RunsP (P:Program) (n:Nat) (c:Code) (st:St) (e:Out) (st':St):Prop:=
 ∀(F:Fr) (a:Act) (w:World),(∀b,¬F.M b)→F.β0=noB→At F n st a w→c.wp P (fun e' a' w'=>e'=e.x∧At F n st' a' w') a w
def LeP (n:Nat) (st st':St):Prop:=∀(F:Fr) (a:Act) (w:World),(∀b,¬F.M b)→F.β0=noB→At F n st a w→At F n st' a w
section
variable {P:Program} {n:Nat} {c:Code} {st st' st1 st2:St} {e:Out}
theorem Runs.p (h:Runs P n c st e st'):RunsP P n c st e st':=fun F a w _ _ x=>h F a w x
theorem RunsP.post (h:RunsP P n c st e st1) (k:LeP n st1 st'):RunsP P n c st e st':=fun F a w p q x=>wp_mono (h F a w p q x) fun e' a' w' ⟨h1,h2⟩=>⟨h1,k F a' w' p q h2⟩
theorem Runs.seq {d:Code} (h:Runs P n c st .normal st1) (k:Runs P n d st1 e st'):Runs P n (.seq c d) st e st':=fun F a w x=>by
 refine wp_seq (wp_mono (h F a w x) fun e' a' w' ⟨h1,h2⟩=> ?_)
 subst h1
 exact k F a' w' h2
theorem RunsP.seq {d:Code} (h:RunsP P n c st .normal st1) (k:RunsP P n d st1 e st'):RunsP P n (.seq c d) st e st':=fun F a w p q x=>by
 refine wp_seq (wp_mono (h F a w p q x) fun e' a' w' ⟨h1,h2⟩=> ?_)
 subst h1
 exact k F a' w' p q h2
theorem Le.refl (st:St):Le n st st:=fun _ _ _ h=>h
theorem Le.trans (h:Le n st st1) (k:Le n st1 st2):Le n st st2:=fun F a w x=>k F a w (h F a w x)
theorem Runs.pre (h:Runs P n c st1 e st') (k:Le n st st1):Runs P n c st e st':=fun F a w x=>h F a w (k F a w x)
theorem Runs.post (h:Runs P n c st e st1) (k:Le n st1 st'):Runs P n c st e st':=
 fun F a w x=>wp_mono (h F a w x) fun e' a' w' ⟨h1,h2⟩=>⟨h1,k F a' w' h2⟩
theorem Loops.pre (h:Loops P n c st1 e st') (k:Le n st st1):Loops P n c st e st':=by
 obtain ⟨m,h⟩:=h
 exact ⟨m,fun F a w x=>h F a w (k F a w x)⟩
theorem Loops.leave (h:Runs P n c st e st') (he:e≠ .normal):Loops P n c st e st':=by
 refine ⟨1,fun F a w x=> ?_⟩
 rw [rounds_succ]
 refine wp_mono (h F a w x) fun e' a' w' hh=> ?_
 obtain ⟨h1,h2⟩:=hh
 subst h1
 cases e with
 |normal=>exact absurd rfl he
 |exit id=>exact ⟨rfl,h2⟩
 |ret=>exact ⟨rfl,h2⟩
theorem Loops.turn (h:Runs P n c st .normal st1) (k:Loops P n c st1 e st'):Loops P n c st e st':=by
 obtain ⟨m,k⟩:=k
 refine ⟨m+1,fun F a w x=> ?_⟩
 rw [rounds_succ]
 refine wp_mono (h F a w x) fun e' a' w' hh=> ?_
 obtain ⟨h1,h2⟩:=hh
 subst h1
 exact k F a' w' h2
theorem Loops.upto {st:Nat→St} {N:Nat} (step:∀i,i<N→Runs P n c (st i) .normal (st (i+1))) (last:Loops P n c (st N) e st'):∀(k:Nat),k≤N→Loops P n c (st (N-k)) e st':=by
 intro k
 induction k with
 |zero=>intro _;exact last
 |succ k ih=>
  intro hk
  have h1:=step (N-(k+1)) (by omega)
  have h2:N-(k+1)+1=N-k:=by omega
  rw [h2] at h1
  exact Loops.turn h1 (ih (by omega))
theorem Loops.from {st:Nat→St} {N:Nat} (step:∀i,i<N→Runs P n c (st i) .normal (st (i+1))) (last:Loops P n c (st N) e st'):Loops P n c (st 0) e st':=by
 have:=Loops.upto step last N (Nat.le_refl N)
 rwa [Nat.sub_self] at this
theorem Loops.runs (h:Loops P n c st e st'):Runs P n (.loop c) st e st':=by
 obtain ⟨m,h⟩:=h
 exact fun F a w x=>wp_loop_rounds m (h F a w x)
theorem wp_of {c:Code} {Q:Exit→Act→World→Prop} {F:Fr} {a:Act} {w:World} (h:Runs P n c st e st') (hA:At F n st a w) (hQ:∀a w,At F n st' a w→Q e.x a w):c.wp P Q a w:=
 wp_mono (h F a w hA) fun e' a' w' ⟨h1,h2⟩=>by rw [h1];exact hQ a' w' h2
end
end
section
inductive Rn where
 |keep (j:Nat)
 |row (es:List AV)
 |var (cs:List AV)
 |map (ks vs:List AV)
mutual
def noIds:AV→Bool
 | .agg cs=>noIdsL cs
 | .tup cs=>noIdsL cs
 | .clo _ a b=>noIdsL a&&noIdsL b
 | .iface _ v=>noIds v
 | .row _ _ _=>false
 | .elt _ _ _=>false
 | .map _=>false
 |_=>true
def noIdsL:List AV→Bool
 |[]=>true
 |x::r=>noIds x&&noIdsL r
end
mutual
def ren (ρ:List (Nat×Rn)):AV→AV
 | .agg cs=> .agg (renL ρ cs)
 | .tup cs=> .tup (renL ρ cs)
 | .clo f a b=> .clo f (renL ρ a) (renL ρ b)
 | .iface t v=> .iface t (ren ρ v)
 | .row id off len=>match look ρ id with
   |some (.keep j)=> .row j off len
   |some (.row es)=>(match off with
    |0=> .seq es false
    |_=> .dead)
   |_=> .dead
 | .elt id k off=>match look ρ id with
   |some (.keep j)=> .elt j k off
   |some (.var cs)=>(match k with
    |0=> .tptr (cs.drop off)
    |_=> .dead)
   |_=> .dead
 | .map id=>match look ρ id with
   |some (.keep j)=> .map j
   |some (.map ks vs)=> .tmap ks vs
   |_=> .dead
 |x=>x
def renL (ρ:List (Nat×Rn)):List AV→List AV
 |[]=>[]
 |x::r=>ren ρ x::renL ρ r
end
mutual
def renC (ρ:List (Nat×Rn)):AV→List Prop
 | .agg cs=>renCL ρ cs
 | .tup cs=>renCL ρ cs
 | .clo f a b=>renCL ρ a++renCL ρ b
 | .iface t v=>renC ρ v
 | .row id off len=>match look ρ id with
   |some (.row es)=>(match off with
    |0=>[len=es.length]
    |_=>[])
   |_=>[]
 |_=>[]
def renCL (ρ:List (Nat×Rn)):List AV→List Prop
 |[]=>[]
 |x::r=>renC ρ x++renCL ρ r
end
theorem noIdsL_iff:∀{l:List AV},noIdsL l=true↔∀x,x∈l→noIds x=true
 |[]=>by simp [noIdsL]
 |x::r=>by
  simp only [noIdsL,Bool.and_eq_true,noIdsL_iff (l:=r),List.mem_cons]
  constructor
  ·rintro ⟨h1,h2⟩ y (rfl|hy)
   ·exact h1
   ·exact h2 y hy
  ·exact fun h=>⟨h x (.inl rfl),fun y hy=>h y (.inr hy)⟩
theorem renL_map (ρ:List (Nat×Rn)):∀(l:List AV),renL ρ l=l.map (ren ρ)
 |[]=>rfl
 |x::r=>by simp [renL,renL_map ρ r]
theorem renCL_mem {ρ:List (Nat×Rn)}:∀{l:List AV},(∀p,p∈renCL ρ l→p)→∀x,x∈l→∀p,p∈renC ρ x→p
 |[],_,x,hx,_,_=>by simp at hx
 |y::r,h,x,hx,p,hp=>by
  simp only [renCL] at h
  rcases List.mem_cons.1 hx with rfl|hx
  ·exact h p (List.mem_append_left _ hp)
  ·exact renCL_mem (fun q hq=>h q (List.mem_append_right _ hq)) x hx p hp
mutual
theorem ren_noIds (ρ:List (Nat×Rn)):∀(x:AV),noIds x=true→ren ρ x=x
 | .agg cs,h=>by simp only [ren];rw [renL_noIds ρ cs h]
 | .tup cs,h=>by simp only [ren];rw [renL_noIds ρ cs h]
 | .clo f a b,h=>by
   simp only [noIds,Bool.and_eq_true] at h
   simp only [ren];rw [renL_noIds ρ a h.1,renL_noIds ρ b h.2]
 | .iface t v,h=>by simp only [ren];rw [ren_noIds ρ v h]
 | .row _ _ _,h=>by cases h
 | .elt _ _ _,h=>by cases h
 | .map _,h=>by cases h
 | .int _ _,_=>rfl
 | .bool _,_=>rfl
 | .str _,_=>rfl
 | .seq _ _,_=>rfl
 | .tptr _,_=>rfl
 | .nilp,_=>rfl
 | .tmap _ _,_=>rfl
 | .nilmap,_=>rfl
 | .nils,_=>rfl
 | .nilf,_=>rfl
 | .nili,_=>rfl
 | .own _ _,_=>rfl
 | .emp,_=>rfl
 | .dead,_=>rfl
theorem renL_noIds (ρ:List (Nat×Rn)):∀(l:List AV),noIdsL l=true→renL ρ l=l
 |[],_=>rfl
 |x::r,h=>by
  simp only [noIdsL,Bool.and_eq_true] at h
  simp only [renL]
  rw [ren_noIds ρ x h.1,renL_noIds ρ r h.2]
end
theorem cells_one {y:AV} (h:∀cs,y≠ .agg cs):y.cells=[y]:=by
 cases y with
 |agg cs=>exact absurd rfl (h cs)
 |_=>rfl
theorem cells_ren (ρ:List (Nat×Rn)) (x:AV):(ren ρ x).cells=renL ρ x.cells:=by
 cases x with
 |agg cs=>rfl
 |row id off len=>
  refine (cells_one fun cs h=> ?_).trans rfl
  simp only [ren] at h
  split at h
  ·cases h
  ·split at h<;>cases h
  ·cases h
 |elt id k off=>
  refine (cells_one fun cs h=> ?_).trans rfl
  simp only [ren] at h
  split at h
  ·cases h
  ·split at h<;>cases h
  ·cases h
 |map id=>
  refine (cells_one fun cs h=> ?_).trans rfl
  simp only [ren] at h
  split at h<;>cases h
 |_=>rfl
section
variable {S S':Blk} {β β':Beta} {w:World} {ρ:List (Nat×Rn)}
theorem V.noIds {v:Value} {x:AV} (h:V S β w v x):Ped.noIds x=true→V S noB w v x:=by
 induction h with
 |int k n=>intro _;exact .int k n
 |bool b=>intro _;exact .bool b
 |str s=>intro _;exact .str s
 |agg vs cs hl h ih=>intro hn;exact .agg vs cs hl fun i v c h1 h2=>ih i v c h1 h2 (noIdsL_iff.1 hn c (List.mem_of_getElem? h2))
 |tup vs cs hl h ih=>intro hn;exact .tup vs cs hl fun i v c h1 h2=>ih i v c h1 h2 (noIdsL_iff.1 hn c (List.mem_of_getElem? h2))
 |seq p cap sz b o es clip U hcap hmax hclip hp hsz hc hv hnil ih=>intro _;exact .seq p cap sz b o es clip U hcap hmax hclip hp hsz hc hv
 |row id off len a bi hb hle ha'=>intro hn;cases hn
 |tptr b o cs U hb hc hv ih=>intro _;exact .tptr b o cs U hb hc hv
 |elt id k off bi hb=>intro hn;cases hn
 |nilp=>intro _;exact .nilp
 |own p cap sz es=>intro _;exact .own p cap sz es
 |emp a cap hm=>intro _;exact .emp a cap hm
 |map id bi hb=>intro hn;cases hn
 |tmap r es cl ks vs hb hr hk hl hkv hvv ih1 ih2=>intro _;exact .tmap r es cl ks vs hb hr hk hl hkv hvv
 |nilmap=>intro _;exact .nilmap
 |nils=>intro _;exact .nils
 |clo f fs gs first cap hf hg hfv hgv ih1 ih2=>
  intro hn
  simp only [Ped.noIds,Bool.and_eq_true] at hn
  exact .clo f fs gs first cap hf hg (fun i v c h1 h2=>ih1 i v c h1 h2 (noIdsL_iff.1 hn.1 c (List.mem_of_getElem? h2))) (fun i v c h1 h2=>ih2 i v c h1 h2 (noIdsL_iff.1 hn.2 c (List.mem_of_getElem? h2)))
 |nilf=>intro _;exact .nilf
 |iface t v x h ih=>intro hn;exact .iface t v x (ih hn)
 |nili=>intro _;exact .nili
 |dead v=>intro _;exact .dead v
structure Tab (S S':Blk) (β β':Beta) (w:World) (ρ:List (Nat×Rn)):Prop where
 hS:∀b,S b→S' b
 keep:∀id j bi,look ρ id=some (.keep j)→β id=some bi→β' j=some bi
 row:∀id es bi,look ρ id=some (.row es)→β id=some bi→S' bi.blk∧HR S' noB w bi es
 var:∀id cs bi,look ρ id=some (.var cs)→β id=some bi→S' bi.blk∧HR S' noB w bi [.agg cs]
 map:∀id ks vs bi,look ρ id=some (.map ks vs)→β id=some bi→S' bi.blk∧∃es cl,w.heap[bi.blk]? =some (.map es cl)∧ks.length=es.size∧vs.length=es.size∧
    (∀(i:Nat) e k,es[i]? =some e→ks[i]? =some k→V S' noB w e.key k)∧∀(i:Nat) e v,es[i]? =some e→vs[i]? =some v→V S' noB w e.val v
theorem renL_get {l:List AV} {i:Nat} {c:AV} (h:(renL ρ l)[i]? =some c):∃c0,l[i]? =some c0∧c=ren ρ c0:=by
 rw [renL_map,List.getElem?_map] at h
 cases hl:l[i]? with
 |none=>rw [hl] at h;cases h
 |some c0=>rw [hl] at h;injection h with h;exact ⟨c0,rfl,h.symm⟩
theorem V.ren (T:Tab S S' β β' w ρ) {v:Value} {x:AV} (h:V S β w v x):(∀p,p∈renC ρ x→p)→V S' β' w v (ren ρ x):=by
 have each:∀{vs:List Value} {cs:List AV},vs.length=cs.length→(∀(i:Nat) v c,vs[i]? =some v→cs[i]? =some c→V S' β' w v (Ped.ren ρ c))→
   vs.length=(renL ρ cs).length∧∀(i:Nat) v c,vs[i]? =some v→(renL ρ cs)[i]? =some c→V S' β' w v c:=by
  intro vs cs hl h
  refine ⟨by rw [renL_map,List.length_map];exact hl,fun i v c h1 h2=> ?_⟩
  obtain ⟨c0,h3,rfl⟩:=renL_get h2
  exact h i v c0 h1 h3
 have low:∀{v:Value} {x:AV},V S noB w v x→V S' β' w v x:=fun h=>h.mono T.hS (fun _ _ h=>by cases h) (Agr.refl S w)
 induction h with
 |int k n=>intro _;exact .int k n
 |bool b=>intro _;exact .bool b
 |str s=>intro _;exact .str s
 |agg vs cs hl h ih=>
  intro hp
  obtain ⟨e1,e2⟩:=each hl fun i v c h1 h2=>ih i v c h1 h2 T each low (renCL_mem hp c (List.mem_of_getElem? h2))
  exact .agg vs _ e1 e2
 |tup vs cs hl h ih=>
  intro hp
  obtain ⟨e1,e2⟩:=each hl fun i v c h1 h2=>ih i v c h1 h2 T each low (renCL_mem hp c (List.mem_of_getElem? h2))
  exact .tup vs _ e1 e2
 |seq p cap sz b o es clip U hcap hmax hclip hp hsz hc hv hnil ih=>intro _;exact low (.seq p cap sz b o es clip U hcap hmax hclip hp hsz hc hv)
 |row id off len a bi hb hle ha'=>
  intro hp
  unfold Ped.ren
  unfold renC at hp
  split
  ·rename_i j hl
   exact .row j off len a bi (T.keep id j bi hl hb) hle ha'
  ·rename_i es hl
   rw [hl] at hp
   split
   ·have hlen:len=es.length:=hp _ (List.mem_singleton.2 rfl)
    subst hlen
    obtain ⟨hS',cur,t,r1,r2,r3,r4,r5,r6⟩:=T.row id es bi hl hb
    rw [Nat.sub_zero]
    refine .seq (some a) bi.cap bi.sz bi.blk 0 es false (fun i j=>(cur[i*bi.sz+j]?).getD undef) r3 r4 (fun h=>by cases h) (fun hne=>⟨?_,hS'⟩) r5 (fun i j e c h1 h2=> ?_) (fun i j e c h1 h2=> ?_)
    ·have hpos:0<es.length:=List.length_pos_iff.2 hne
     have:=ha' (by omega)
     rw [this,Nat.zero_mul]
    ·obtain ⟨u,hu,_⟩:=r6 i j e c h1 h2
     rw [Nat.zero_add,cell_row r1,hu]
     rfl
    ·obtain ⟨u,hu,hv⟩:=r6 i j e c h1 h2
     rw [hu]
     exact hv
   ·exact .dead _
  ·exact .dead _
 |tptr b o cs U hb hc hv ih=>intro _;exact low (.tptr b o cs U hb hc hv)
 |elt id k off bi hb=>
  intro hp
  unfold Ped.ren
  split
  ·rename_i j hl
   exact .elt j k off bi (T.keep id j bi hl hb)
  ·rename_i cs hl
   split
   ·obtain ⟨hS',hHR⟩:=T.var id cs bi hl hb
    have hat:=hHR.at_ (k:=0) (e:= .agg cs) rfl off
    obtain ⟨cur,t,r1,r2,r3,r4,r5,r6⟩:=hHR
    refine .tptr bi.blk (0*bi.sz+off) (cs.drop off) (fun j=>(cur[off+j]?).getD undef) hS' (fun j c hj=> ?_) (fun j c hj=> ?_)
    ·obtain ⟨u,hu,_⟩:=hat j c hj
     have hu2:=hu
     rw [cell_row r1,Nat.zero_mul,Nat.zero_add] at hu
     rw [hu2,hu]
     rfl
    ·obtain ⟨u,hu,hv⟩:=hat j c hj
     rw [cell_row r1,Nat.zero_mul,Nat.zero_add] at hu
     rw [hu]
     exact hv
   ·exact .dead _
  ·exact .dead _
 |nilp=>intro _;exact .nilp
 |own p cap sz es=>intro _;exact .own p cap sz es
 |emp a cap hm=>intro _;exact .emp a cap hm
 |map id bi hb=>
  intro hp
  unfold Ped.ren
  split
  ·rename_i j hl
   exact .map j bi (T.keep id j bi hl hb)
  ·rename_i ks vs hl
   obtain ⟨hS',es,cl,r1,r2,r3,r4,r5⟩:=T.map id ks vs bi hl hb
   exact .tmap bi.blk es cl ks vs hS' r1 r2 r3 r4 r5
  ·exact .dead _
 |tmap r es cl ks vs hb hr hk hl hkv hvv ih1 ih2=>intro _;exact low (.tmap r es cl ks vs hb hr hk hl hkv hvv)
 |nilmap=>intro _;exact .nilmap
 |nils=>intro _;exact .nils
 |clo f fs gs first cap hf hg hfv hgv ih1 ih2=>
  intro hp
  simp only [renC] at hp
  obtain ⟨e1,e2⟩:=each hf fun i v c h1 h2=>ih1 i v c h1 h2 T each low (renCL_mem (fun p hq=>hp p (List.mem_append_left _ hq)) c (List.mem_of_getElem? h2))
  obtain ⟨e3,e4⟩:=each hg fun i v c h1 h2=>ih2 i v c h1 h2 T each low (renCL_mem (fun p hq=>hp p (List.mem_append_right _ hq)) c (List.mem_of_getElem? h2))
  exact .clo f fs gs _ _ e1 e3 e2 e4
 |nilf=>intro _;exact .nilf
 |iface t v x h ih=>intro hp;exact .iface t v _ (ih T each low hp)
 |nili=>intro _;exact .nili
 |dead v=>intro _;exact .dead v
end
end
section
def renOb (ρ:List (Nat×Rn)):Ob→Ob
 | .var cs=> .var (renL ρ cs)
 | .row sz es=> .row sz (renL ρ es)
 | .map ks vs=> .map (renL ρ ks) (renL ρ vs)
 | .dead=> .dead
def obC (ρ:List (Nat×Rn)):Ob→List Prop
 | .var cs=>renCL ρ cs
 | .row _ es=>renCL ρ es
 | .map ks vs=>renCL ρ ks++renCL ρ vs
 | .dead=>[]
def bareOb:Ob→List Prop
 | .var cs=>[noIdsL cs=true]
 | .row _ es=>[noIdsL es=true]
 | .map ks vs=>[noIdsL ks=true∧noIdsL vs=true]
 | .dead=>[]
def isDeadOb:Ob→Bool
 | .dead=>true
 |_=>false
def resolve (lim:Nat) (hp:List (Nat×Ob)):List (Nat×Rk)→Option (List (Nat×Rn))
 |[]=>some []
 |(id,.keep j _)::r=>match look hp id with
  |some o=>if isDeadOb o=false∧Nat.blt id mid=Nat.blt j mid then (resolve lim hp r).map ((id,.keep j):: ·) else none
  |none=>none
 |(id,.freeze)::r=>if Nat.blt id lim=true then
   match look hp id with
   |some (.row _ es)=>(resolve lim hp r).map ((id,.row es):: ·)
   |some (.var cs)=>(resolve lim hp r).map ((id,.var cs):: ·)
   |some (.map ks vs)=>(resolve lim hp r).map ((id,.map ks vs):: ·)
   |_=>none
  else none
def newHp (ρ:List (Nat×Rn)) (hp:List (Nat×Ob)):List (Nat×Rk)→List (Nat×Ob)
 |[]=>[]
 |(id,.keep j b)::r=>match look hp id with
  |some o=>(j,bif b then o else renOb ρ o)::newHp ρ hp r
  |none=>newHp ρ hp r
 |(_,.freeze)::r=>newHp ρ hp r
def newCs (ρ:List (Nat×Rn)) (hp:List (Nat×Ob)):List (Nat×Rk)→List Prop
 |[]=>[]
 |(id,.keep _ b)::r=>(match look hp id with
  |some o=>bif b then bareOb o else obC ρ o
  |none=>[])++newCs ρ hp r
 |(id,.freeze)::r=>(match look hp id with
  |some o=>bareOb o
  |none=>[])++newCs ρ hp r
def keepOf:List (Nat×Rk)→Nat→Option Nat
 |[],_=>none
 |(id,.keep j _)::r,k=>if j=k then some id else keepOf r k
 |(_,.freeze)::r,k=>keepOf r k
def hasKey (k:Nat):List (Nat×Rk)→Bool
 |[]=>false
 |(i,_)::r=>Nat.beq i k||hasKey k r
def hasGoal (k:Nat):List (Nat×Rk)→Bool
 |[]=>false
 |(_,.keep j _)::r=>Nat.beq j k||hasGoal k r
 |(_,.freeze)::r=>hasGoal k r
def apartT:List (Nat×Rk)→Bool
 |[]=>true
 |(i,.keep j _)::r=> !hasKey i r&& !hasGoal j r&&apartT r
 |(i,.freeze)::r=> !hasKey i r&&apartT r
theorem hasKey_mem {k:Nat}:∀{tb:List (Nat×Rk)} {x:Rk},(k,x)∈tb→hasKey k tb=true
 |(i,y)::r,x,h=>by
  rcases List.mem_cons.1 h with h|h
  ·injection h with h1 h2;subst h1;simp [hasKey]
  ·simp [hasKey,hasKey_mem h]
theorem hasGoal_mem {k i:Nat} {b:Bool}:∀{tb:List (Nat×Rk)},(i,Rk.keep k b)∈tb→hasGoal k tb=true
 |(i',.keep j b')::r,h=>by
  rcases List.mem_cons.1 h with h|h
  ·injection h with h1 h2;injection h2 with h2;subst h2;simp [hasGoal]
  ·simp [hasGoal,hasGoal_mem h]
 |(i',.freeze)::r,h=>by
  rcases List.mem_cons.1 h with h|h
  ·injection h with h1 h2;cases h2
  ·simp [hasGoal,hasGoal_mem h]
theorem apart_key:∀{tb:List (Nat×Rk)},apartT tb=true→∀{i:Nat} {x y:Rk},(i,x)∈tb→(i,y)∈tb→x=y
 |[],_,i,x,y,h,_=>by simp at h
 |(i',z)::r,ha,i,x,y,hx,hy=>by
  have hk:hasKey i' r=false∧apartT r=true:=by
   cases z with
   |keep j b=>simp only [apartT,Bool.and_eq_true,Bool.not_eq_true'] at ha;exact ⟨ha.1.1,ha.2⟩
   |freeze=>simp only [apartT,Bool.and_eq_true,Bool.not_eq_true'] at ha;exact ha
  rcases List.mem_cons.1 hx with gx|gx<;>rcases List.mem_cons.1 hy with gy|gy
  ·injection gx with h1 h2;injection gy with h3 h4;rw [h2,h4]
  ·injection gx with h1 h2;subst h1;rw [hasKey_mem gy] at hk;cases hk.1
  ·injection gy with h1 h2;subst h1;rw [hasKey_mem gx] at hk;cases hk.1
  ·exact apart_key hk.2 gx gy
theorem keepOf_mem:∀{tb:List (Nat×Rk)} {k id:Nat},keepOf tb k=some id→∃b,(id,Rk.keep k b)∈tb
 |(i,.keep j b)::r,k,id,h=>by
  simp only [keepOf] at h
  by_cases e:j=k
  ·rw [if_pos e] at h;injection h with h;subst h;subst e;exact ⟨b,by simp⟩
  ·rw [if_neg e] at h;obtain ⟨b',hb⟩:=keepOf_mem h;exact ⟨b',by simp [hb]⟩
 |(i,.freeze)::r,k,id,h=>by
  simp only [keepOf] at h
  obtain ⟨b',hb⟩:=keepOf_mem h;exact ⟨b',by simp [hb]⟩
theorem mem_keepOf:∀{tb:List (Nat×Rk)},apartT tb=true→∀{k id:Nat} {b:Bool},(id,Rk.keep k b)∈tb→keepOf tb k=some id
 |[],_,k,id,b,h=>by simp at h
 |(i,.keep j b')::r,ha,k,id,b,h=>by
  simp only [apartT,Bool.and_eq_true,Bool.not_eq_true'] at ha
  simp only [keepOf]
  rcases List.mem_cons.1 h with h|h
  ·injection h with h1 h2;injection h2 with h2 h3;subst h1;subst h2;rw [if_pos rfl]
  ·have:j≠k:=by rintro rfl;rw [hasGoal_mem h] at ha;cases ha.1.2
   rw [if_neg this];exact mem_keepOf ha.2 h
 |(i,.freeze)::r,ha,k,id,b,h=>by
  simp only [apartT,Bool.and_eq_true,Bool.not_eq_true'] at ha
  simp only [keepOf]
  rcases List.mem_cons.1 h with h|h
  ·injection h with h1 h2;cases h2
  ·exact mem_keepOf ha.2 h
theorem resolve_keep {lim:Nat} {hp:List (Nat×Ob)}:∀{tb:List (Nat×Rk)} {ρ:List (Nat×Rn)},resolve lim hp tb=some ρ→∀{id j:Nat} {b:Bool},(id,Rk.keep j b)∈tb→∃o,look hp id=some o∧o≠ .dead∧(id<mid↔j<mid)
 |[],_,_,id,j,b,h=>by simp at h
 |(i,.keep k c)::r,ρ,hr,id,j,b,h=>by
  simp only [resolve] at hr
  cases hl:look hp i with
  |none=>rw [hl] at hr;cases hr
  |some o=>
   rw [hl] at hr
   simp only at hr
   split at hr
   ·rename_i hd
    obtain ⟨ρ',h1,h2⟩:=Option.map_eq_some_iff.1 hr
    rcases List.mem_cons.1 h with h|h
    ·injection h with e1 e2;injection e2 with e2 _;subst e1;subst e2
     refine ⟨o,hl,(by rintro rfl;cases hd.1),?_⟩
     rw [←Nat.blt_eq,←Nat.blt_eq,hd.2]
    ·exact resolve_keep h1 h
   ·cases hr
 |(i,.freeze)::r,ρ,hr,id,j,b,h=>by
  simp only [resolve] at hr
  rcases List.mem_cons.1 h with h|h
  ·injection h with e1 e2;cases e2
  ·split at hr
   ·split at hr
    ·obtain ⟨ρ',h1,h2⟩:=Option.map_eq_some_iff.1 hr;exact resolve_keep h1 h
    ·obtain ⟨ρ',h1,h2⟩:=Option.map_eq_some_iff.1 hr;exact resolve_keep h1 h
    ·obtain ⟨ρ',h1,h2⟩:=Option.map_eq_some_iff.1 hr;exact resolve_keep h1 h
    ·cases hr
   ·cases hr
def hasKeep (k:Nat):List (Nat×Rk)→Bool
 |[]=>false
 |(i,.keep j _)::r=>(Nat.beq i k&&Nat.beq j k)||hasKeep k r
 |(_,.freeze)::r=>hasKeep k r
def givenKept (hp:List (Nat×Ob)) (tb:List (Nat×Rk)):Bool:=hp.all fun x=>Nat.blt x.1 given||hasKeep x.1 tb
theorem hasKeep_mem {k:Nat}:∀{tb:List (Nat×Rk)},hasKeep k tb=true→∃b,(k,Rk.keep k b)∈tb
 |(i,.keep j b)::r,h=>by
  simp only [hasKeep,Bool.or_eq_true,Bool.and_eq_true,Nat.beq_eq] at h
  rcases h with ⟨rfl,rfl⟩|h
  ·exact ⟨b,by simp⟩
  ·obtain ⟨b',hb⟩:=hasKeep_mem h;exact ⟨b',by simp [hb]⟩
 |(i,.freeze)::r,h=>by
  simp only [hasKeep] at h
  obtain ⟨b',hb⟩:=hasKeep_mem h;exact ⟨b',by simp [hb]⟩
theorem look_key {α:Type}:∀{l:List (Nat×α)} {k:Nat} {x:α},look l k=some x→∃y,(k,y)∈l
 |(i,y)::r,k,x,h=>by
  simp only [look] at h
  by_cases e:i=k
  ·subst e;exact ⟨y,by simp⟩
  ·rw [if_neg e] at h;obtain ⟨z,hz⟩:=look_key h;exact ⟨z,by simp [hz]⟩
theorem givenKept_spec {hp:List (Nat×Ob)} {tb:List (Nat×Rk)} (h:givenKept hp tb=true) {k:Nat} {o:Ob} (hk:given≤k) (ho:look hp k=some o):∃b,(k,Rk.keep k b)∈tb:=by
 obtain ⟨y,hy⟩:=look_key ho
 have:=List.all_eq_true.1 h _ hy
 simp only [Bool.or_eq_true,Nat.blt_eq] at this
 exact hasKeep_mem (this.resolve_left (Nat.not_lt.2 hk))
theorem resolve_look {lim:Nat} {hp:List (Nat×Ob)}:∀{tb:List (Nat×Rk)} {ρ:List (Nat×Rn)},resolve lim hp tb=some ρ→∀{id:Nat} {x:Rn},look ρ id=some x→
  (∃j b,x= .keep j∧(id,Rk.keep j b)∈tb)∨((id,Rk.freeze)∈tb∧id<lim∧((∃sz es,x= .row es∧look hp id=some (.row sz es))∨(∃cs,x= .var cs∧look hp id=some (.var cs))∨∃ks vs,x= .map ks vs∧look hp id=some (.map ks vs)))
 |[],ρ,hr,id,x,h=>by injection hr with hr;subst hr;cases h
 |(i,.keep k c)::r,ρ,hr,id,x,h=>by
  simp only [resolve] at hr
  cases hl:look hp i with
  |none=>rw [hl] at hr;cases hr
  |some o=>
   rw [hl] at hr
   simp only at hr
   split at hr
   ·obtain ⟨ρ',h1,rfl⟩:=Option.map_eq_some_iff.1 hr
    simp only [look] at h
    by_cases e:i=id
    ·rw [if_pos e] at h;injection h with h;subst h;subst e;exact .inl ⟨k,c,rfl,by simp⟩
    ·rw [if_neg e] at h
     rcases resolve_look h1 h with ⟨j,b,e1,e2⟩|⟨e1,e2⟩
     ·exact .inl ⟨j,b,e1,by simp [e2]⟩
     ·exact .inr ⟨by simp [e1],e2⟩
   ·cases hr
 |(i,.freeze)::r,ρ,hr,id,x,h=>by
  simp only [resolve] at hr
  split at hr
  ·rename_i hlt
   have hlt':i<lim:=by rw [←Nat.blt_eq];exact hlt
   have go:∀{ρ':List (Nat×Rn)} {y:Rn},resolve lim hp r=some ρ'→look ((i,y)::ρ') id=some x→(i=id∧x=y)∨look ρ' id=some x:=by
    intro ρ' y _ hh
    simp only [look] at hh
    by_cases e:i=id
    ·rw [if_pos e] at hh;injection hh with hh;exact .inl ⟨e,hh.symm⟩
    ·rw [if_neg e] at hh;exact .inr hh
   have more:∀{ρ':List (Nat×Rn)},resolve lim hp r=some ρ'→look ρ' id=some x→(∃j b,x= .keep j∧(id,Rk.keep j b)∈(i,Rk.freeze)::r)∨((id,Rk.freeze)∈(i,Rk.freeze)::r∧id<lim∧((∃sz es,x= .row es∧look hp id=some (.row sz es))∨(∃cs,x= .var cs∧look hp id=some (.var cs))∨∃ks vs,x= .map ks vs∧look hp id=some (.map ks vs))):=by
    intro ρ' h1 h2
    rcases resolve_look h1 h2 with ⟨j,b,e1,e2⟩|⟨e1,e2⟩
    ·exact .inl ⟨j,b,e1,by simp [e2]⟩
    ·exact .inr ⟨by simp [e1],e2⟩
   split at hr
   ·rename_i sz es hl
    obtain ⟨ρ',h1,rfl⟩:=Option.map_eq_some_iff.1 hr
    rcases go h1 h with ⟨rfl,rfl⟩|h2
    ·exact .inr ⟨by simp,hlt',.inl ⟨sz,es,rfl,hl⟩⟩
    ·exact more h1 h2
   ·rename_i cs hl
    obtain ⟨ρ',h1,rfl⟩:=Option.map_eq_some_iff.1 hr
    rcases go h1 h with ⟨rfl,rfl⟩|h2
    ·exact .inr ⟨by simp,hlt',.inr (.inl ⟨cs,rfl,hl⟩)⟩
    ·exact more h1 h2
   ·rename_i ks vs hl
    obtain ⟨ρ',h1,rfl⟩:=Option.map_eq_some_iff.1 hr
    rcases go h1 h with ⟨rfl,rfl⟩|h2
    ·exact .inr ⟨by simp,hlt',.inr (.inr ⟨ks,vs,rfl,hl⟩)⟩
    ·exact more h1 h2
   ·cases hr
  ·cases hr
theorem newHp_look {ρ:List (Nat×Rn)} {hp:List (Nat×Ob)}:∀{tb:List (Nat×Rk)},(∀{id j:Nat} {b:Bool},(id,Rk.keep j b)∈tb→∃o,look hp id=some o)→
  ∀(j:Nat),(∀o',look (newHp ρ hp tb) j=some o'→∃id b o,(id,Rk.keep j b)∈tb∧keepOf tb j=some id∧look hp id=some o∧o'=bif b then o else renOb ρ o)∧(∀id,keepOf tb j=some id→∃o',look (newHp ρ hp tb) j=some o')
 |[],_,j=>⟨fun o' h=>by simp [newHp,look] at h,fun id h=>by simp [keepOf] at h⟩
 |(i,.keep k b)::r,hk,j=>by
  obtain ⟨o,ho⟩:=hk (id:=i) (j:=k) (b:=b) (by simp)
  obtain ⟨g1,g2⟩:=newHp_look (ρ:=ρ) (hp:=hp) (tb:=r) (fun h=>hk (List.mem_cons_of_mem _ h)) j
  simp only [newHp,ho,keepOf,look]
  by_cases e:k=j
  ·subst e
   refine ⟨fun o' h=> ?_,fun id h=> ?_⟩
   ·rw [if_pos rfl] at h;injection h with h
    exact ⟨i,b,o,by simp,by rw [if_pos rfl],ho,h.symm⟩
   ·exact ⟨_,by rw [if_pos rfl]⟩
  ·refine ⟨fun o' h=> ?_,fun id h=> ?_⟩
   ·rw [if_neg e] at h
    obtain ⟨id,b',o2,q1,q2,q3,q4⟩:=g1 o' h
    exact ⟨id,b',o2,by simp [q1],by rw [if_neg e];exact q2,q3,q4⟩
   ·rw [if_neg e] at h⊢
    exact g2 id h
 |(i,.freeze)::r,hk,j=>by
  obtain ⟨g1,g2⟩:=newHp_look (ρ:=ρ) (hp:=hp) (tb:=r) (fun h=>hk (List.mem_cons_of_mem _ h)) j
  simp only [newHp,keepOf]
  refine ⟨fun o' h=> ?_,g2⟩
  obtain ⟨id,b',o2,q1,q2,q3,q4⟩:=g1 o' h
  exact ⟨id,b',o2,by simp [q1],q2,q3,q4⟩
mutual
theorem renC_noIds (ρ:List (Nat×Rn)):∀(x:AV),noIds x=true→renC ρ x=[]
 | .agg cs,h=>renCL_noIds ρ cs h
 | .tup cs,h=>renCL_noIds ρ cs h
 | .clo f a b,h=>by
   simp only [noIds,Bool.and_eq_true] at h
   simp only [renC];rw [renCL_noIds ρ a h.1,renCL_noIds ρ b h.2];rfl
 | .iface t v,h=>renC_noIds ρ v h
 | .row _ _ _,h=>by cases h
 | .elt _ _ _,h=>by cases h
 | .map _,h=>by cases h
 | .int _ _,_=>rfl
 | .bool _,_=>rfl
 | .str _,_=>rfl
 | .seq _ _,_=>rfl
 | .tptr _,_=>rfl
 | .nilp,_=>rfl
 | .tmap _ _,_=>rfl
 | .nilmap,_=>rfl
 | .nils,_=>rfl
 | .nilf,_=>rfl
 | .nili,_=>rfl
 | .own _ _,_=>rfl
 | .emp,_=>rfl
 | .dead,_=>rfl
theorem renCL_noIds (ρ:List (Nat×Rn)):∀(l:List AV),noIdsL l=true→renCL ρ l=[]
 |[],_=>rfl
 |x::r,h=>by
  simp only [noIdsL,Bool.and_eq_true] at h
  simp only [renCL]
  rw [renC_noIds ρ x h.1,renCL_noIds ρ r h.2];rfl
end
theorem bare_ren {ρ:List (Nat×Rn)} {o:Ob} (h:∀p,p∈bareOb o→p):renOb ρ o=o∧obC ρ o=[]:=by
 cases o with
 |var cs=>have:=h _ (List.mem_singleton.2 rfl);simp only [renOb,obC];rw [renL_noIds ρ _ this,renCL_noIds ρ _ this];exact ⟨rfl,rfl⟩
 |row sz es=>have:=h _ (List.mem_singleton.2 rfl);simp only [renOb,obC];rw [renL_noIds ρ _ this,renCL_noIds ρ _ this];exact ⟨rfl,rfl⟩
 |map ks vs=>
  have:=h _ (List.mem_singleton.2 rfl)
  simp only [renOb,obC];rw [renL_noIds ρ _ this.1,renL_noIds ρ _ this.2,renCL_noIds ρ _ this.1,renCL_noIds ρ _ this.2];exact ⟨rfl,rfl⟩
 |dead=>exact ⟨rfl,rfl⟩
theorem newCs_keep {ρ:List (Nat×Rn)} {hp:List (Nat×Ob)}:∀{tb:List (Nat×Rk)},(∀p,p∈newCs ρ hp tb→p)→∀{id j:Nat} {b:Bool} {o:Ob},(id,Rk.keep j b)∈tb→look hp id=some o→∀p,p∈(bif b then bareOb o else obC ρ o)→p
 |[],_,id,j,b,o,h,_,_,_=>by simp at h
 |(i,.keep k c)::r,hc,id,j,b,o,h,hl,p,hp'=>by
  simp only [newCs] at hc
  rcases List.mem_cons.1 h with h|h
  ·injection h with e1 e2;injection e2 with e2 e3;subst e1;subst e2;subst e3
   rw [hl] at hc
   exact hc p (List.mem_append_left _ hp')
  ·exact newCs_keep (fun q hq=>hc q (List.mem_append_right _ hq)) h hl p hp'
 |(i,.freeze)::r,hc,id,j,b,o,h,hl,p,hp'=>by
  simp only [newCs] at hc
  rcases List.mem_cons.1 h with h|h
  ·injection h with e1 e2;cases e2
  ·exact newCs_keep (fun q hq=>hc q (List.mem_append_right _ hq)) h hl p hp'
theorem newCs_freeze {ρ:List (Nat×Rn)} {hp:List (Nat×Ob)}:∀{tb:List (Nat×Rk)},(∀p,p∈newCs ρ hp tb→p)→∀{id:Nat} {o:Ob},(id,Rk.freeze)∈tb→look hp id=some o→∀p,p∈bareOb o→p
 |[],_,id,o,h,_,_,_=>by simp at h
 |(i,.keep k c)::r,hc,id,o,h,hl,p,hp'=>by
  simp only [newCs] at hc
  rcases List.mem_cons.1 h with h|h
  ·injection h with e1 e2;cases e2
  ·exact newCs_freeze (fun q hq=>hc q (List.mem_append_right _ hq)) h hl p hp'
 |(i,.freeze)::r,hc,id,o,h,hl,p,hp'=>by
  simp only [newCs] at hc
  rcases List.mem_cons.1 h with h|h
  ·injection h with e1 e2;subst e1
   rw [hl] at hc
   exact hc p (List.mem_append_left _ hp')
  ·exact newCs_freeze (fun q hq=>hc q (List.mem_append_right _ hq)) h hl p hp'
section
variable {F:Fr} {S S':Blk} {β β':Beta} {hp:List (Nat×Ob)} {w:World} {ρ:List (Nat×Rn)}
theorem HR.ren (T:Tab S S' β β' w ρ) {bi:Bl} {es:List AV} (h:HR S β w bi es) (hc:∀p,p∈renCL ρ es→p):HR S' β' w bi (renL ρ es):=by
 obtain ⟨cur,t,r1,r2,r3,r4,r5,r6⟩:=h
 refine ⟨cur,t,r1,r2,by rw [renL_map,List.length_map];exact r3,r4,fun i e he=> ?_,fun i j e c he hcc=> ?_⟩
 ·obtain ⟨e0,h0,rfl⟩:=renL_get he
  rw [cells_ren,renL_map,List.length_map]
  exact r5 i e0 h0
 ·obtain ⟨e0,h0,rfl⟩:=renL_get he
  rw [cells_ren] at hcc
  obtain ⟨c0,h1,rfl⟩:=renL_get hcc
  obtain ⟨u,hu,hv⟩:=r6 i j e0 c0 h0 h1
  refine ⟨u,hu,hv.ren T fun p hp=> ?_⟩
  have hce:=renCL_mem hc e0 (List.mem_of_getElem? h0)
  cases e0 with
  |agg cs=>exact renCL_mem hce c0 (List.mem_of_getElem? h1) p hp
  |_=>
   simp only [AV.cells] at h1
   have hm:=List.mem_of_getElem? h1
   rw [List.mem_singleton] at hm
   subst hm
   exact hce p hp
theorem HR.bare {bi:Bl} {es:List AV} (hS:∀b,S b→S' b) (h:HR S β w bi es) (hn:noIdsL es=true):HR S' noB w bi es:=by
 obtain ⟨cur,t,r1,r2,r3,r4,r5,r6⟩:=h
 refine ⟨cur,t,r1,r2,r3,r4,r5,fun i j e c he hc=> ?_⟩
 obtain ⟨u,hu,hv⟩:=r6 i j e c he hc
 refine ⟨u,hu,(hv.noIds ?_).mono hS (fun _ _ h=>h) (Agr.refl S w)⟩
 have hne:=noIdsL_iff.1 hn e (List.mem_of_getElem? he)
 cases e with
 |agg cs=>exact noIdsL_iff.1 hne c (List.mem_of_getElem? hc)
 |_=>
  simp only [AV.cells] at hc
  have hm:=List.mem_of_getElem? hc
  rw [List.mem_singleton] at hm
  subst hm
  exact hne
theorem txt_ren1 {ρ:List (Nat×Rn)} {x:AV} (h:txt (Ped.ren ρ x)=true):txt x=true:=by
 cases x with
 |str s=>rfl
 |row id off len=>
  simp only [Ped.ren] at h
  split at h
  ·cases h
  ·split at h<;>cases h
  ·cases h
 |elt id k off=>
  simp only [Ped.ren] at h
  split at h
  ·cases h
  ·split at h<;>cases h
  ·cases h
 |map id=>
  simp only [Ped.ren] at h
  split at h<;>cases h
 |_=>simp only [Ped.ren] at h;cases h
theorem txt_ren {ρ:List (Nat×Rn)} {ks:List AV} (h:(renL ρ ks).all txt=true):ks.all txt=true:=by
 rw [renL_map,List.all_map] at h
 exact List.all_eq_true.2 fun x hx=>txt_ren1 (List.all_eq_true.1 h x hx)
theorem HO.ren (T:Tab S S' β β' w ρ) {id j:Nat} (hj:β' j=β id) {o:Ob} (h:HO S β w id o) (hc:∀p,p∈obC ρ o→p):HO S' β' w j (renOb ρ o):=by
 cases o with
 |var cs=>
  obtain ⟨bi,h1,h2,h3⟩:=h
  refine ⟨bi,hj.trans h1,h2,?_⟩
  have:=HR.ren T h3 (by simpa [renCL,renC,obC] using hc)
  simpa [renL,Ped.ren] using this
 |row sz es=>
  obtain ⟨bi,h1,h2,h3⟩:=h
  exact ⟨bi,hj.trans h1,h2,HR.ren T h3 hc⟩
 |map ks vs=>
  obtain ⟨bi,es,cl,h1,h2,h3,h4,h5,h6,h7⟩:=h
  simp only [obC] at hc
  refine ⟨bi,es,cl,hj.trans h1,h2,by rw [renL_map,List.length_map];exact h3,by rw [renL_map,List.length_map];exact h4,fun i e k he hk=> ?_,fun i e v he hv=> ?_,fun hx=>h7 (txt_ren hx)⟩
  ·obtain ⟨k0,hk0,rfl⟩:=renL_get hk
   exact (h5 i e k0 he hk0).ren T (renCL_mem (fun p hq=>hc p (List.mem_append_left _ hq)) k0 (List.mem_of_getElem? hk0))
  ·obtain ⟨v0,hv0,rfl⟩:=renL_get hv
   exact (h6 i e v0 he hv0).ren T (renCL_mem (fun p hq=>hc p (List.mem_append_right _ hq)) v0 (List.mem_of_getElem? hv0))
 |dead=>obtain ⟨bi,h1⟩:=h;exact ⟨bi,hj.trans h1⟩
theorem HO.some {id:Nat} {o:Ob} (h:HO S β w id o):∃bi,β id=Option.some bi:=by
 cases o with
 |var cs=>obtain ⟨bi,h1,_⟩:=h;exact ⟨bi,h1⟩
 |row sz es=>obtain ⟨bi,h1,_⟩:=h;exact ⟨bi,h1⟩
 |map ks vs=>obtain ⟨bi,es,cl,h1,_⟩:=h;exact ⟨bi,h1⟩
 |dead=>exact h
theorem freeze_live {lim fd:Nat}:∀{tb:List (Nat×Rk)} {ρ:List (Nat×Rn)},resolve lim hp tb=Option.some ρ→(fd,Rk.freeze)∈tb→∀o,look hp fd=Option.some o→o≠ .dead:=by
 intro tb
 induction tb with
 |nil=>intro ρ _ h;simp at h
 |cons x r ih=>
  intro ρ hr h o ho hd
  subst hd
  obtain ⟨i,x⟩:=x
  cases x with
  |keep k c=>
   simp only [resolve] at hr
   rcases List.mem_cons.1 h with h|h
   ·injection h with e1 e2;cases e2
   ·split at hr
    ·split at hr
     ·obtain ⟨ρ',h1,_⟩:=Option.map_eq_some_iff.1 hr;exact ih h1 h _ ho rfl
     ·cases hr
    ·cases hr
  |freeze=>
   simp only [resolve] at hr
   split at hr
   ·rcases List.mem_cons.1 h with h|h
    ·injection h with e1 e2;subst e1;rw [ho] at hr;cases hr
    ·split at hr
     ·obtain ⟨ρ',h1,_⟩:=Option.map_eq_some_iff.1 hr;exact ih h1 h _ ho rfl
     ·obtain ⟨ρ',h1,_⟩:=Option.map_eq_some_iff.1 hr;exact ih h1 h _ ho rfl
     ·obtain ⟨ρ',h1,_⟩:=Option.map_eq_some_iff.1 hr;exact ih h1 h _ ho rfl
     ·cases hr
   ·cases hr
theorem ren_own {x:AV} {sz:Nat} {es:List AV} (h:Ped.ren ρ x= .own sz es):x= .own sz es:=by
 cases x with
 |own a l=>exact h
 |row id off len=>
  simp only [Ped.ren] at h
  split at h
  ·cases h
  ·split at h<;>cases h
  ·cases h
 |elt id k off=>
  simp only [Ped.ren] at h
  split at h
  ·cases h
  ·split at h<;>cases h
  ·cases h
 |map id=>
  simp only [Ped.ren] at h
  split at h<;>cases h
 |_=>cases h
theorem renOb_own {o:Ob} {j sz:Nat} {es:List AV} (h:(renOb ρ o).at j=Option.some (.own sz es)):o.at j=Option.some (.own sz es):=by
 cases o with
 |var cs=>
  simp only [renOb,Ob.at] at h⊢
  obtain ⟨x,h1,h2⟩:=renL_get h
  rw [h1,ren_own h2.symm]
 |row sz es=>simp only [renOb,Ob.at] at h;cases h
 |map ks vs=>
  simp only [renOb,Ob.at] at h⊢
  obtain ⟨x,h1,h2⟩:=renL_get h
  rw [h1,ren_own h2.symm]
 |dead=>cases h
theorem Mem.ren {lim:Nat} (M:Mem F S β hp w) {tb:List (Nat×Rk)} (hg:∀i b,given≤i→F.β0 i=Option.some b→∃b',(i,Rk.keep i b')∈tb) (hlim:∀id bi,id<lim→β id=Option.some bi→F.w0.heap.size≤bi.blk) (ha:apartT tb=true) (hr:resolve lim hp tb=Option.some ρ) (hc:∀p,p∈newCs ρ hp tb→p):
  ∃S' β',Tab S S' β β' w ρ∧Mem F S' β' (newHp ρ hp tb) w:=by
 let S':Blk:=fun b=>S b∨∃id bi,(id,Rk.freeze)∈tb∧β id=Option.some bi∧b=bi.blk
 let β':Beta:=fun j=>(keepOf tb j).bind β
 have hS:∀b,S b→S' b:=fun b h=> .inl h
 have hb':∀{id j:Nat} {b:Bool},(id,Rk.keep j b)∈tb→β' j=β id:=by
  intro id j b h
  show (keepOf tb j).bind β=β id
  rw [mem_keepOf ha h];rfl
 have live:∀{id j:Nat} {b:Bool},(id,Rk.keep j b)∈tb→∀o,look hp id=Option.some o→o≠ .dead:=by
  intro id j b h o ho
  obtain ⟨o',h1,h2,_⟩:=resolve_keep hr h
  rw [ho] at h1;injection h1 with h1;rw [h1];exact h2
 have T:Tab S S' β β' w ρ:=by
  refine ⟨hS,fun id j bi hl hb=> ?_,fun id es bi hl hb=> ?_,fun id cs bi hl hb=> ?_,fun id ks vs bi hl hb=> ?_⟩
  ·rcases resolve_look hr hl with ⟨j',b,e1,e2⟩|⟨_,_,⟨_,_,e,_⟩|⟨_,e,_⟩|⟨_,_,e,_⟩⟩
   ·injection e1 with e1;subst e1;rw [hb' e2];exact hb
   ·cases e
   ·cases e
   ·cases e
  ·rcases resolve_look hr hl with ⟨j',b,e1,e2⟩|⟨hm,hlt,⟨sz,es',e,ho⟩|⟨_,e,_⟩|⟨_,_,e,_⟩⟩
   ·cases e1
   ·injection e with e;subst e
    refine ⟨.inr ⟨id,bi,hm,hb,rfl⟩,?_⟩
    obtain ⟨bj,q1,q2,q3⟩:=M.obs id _ ho
    rw [hb] at q1;injection q1 with q1;subst q1
    exact q3.bare hS (newCs_freeze hc hm ho _ (List.mem_singleton.2 rfl))
   ·cases e
   ·cases e
  ·rcases resolve_look hr hl with ⟨j',b,e1,e2⟩|⟨hm,hlt,⟨_,_,e,_⟩|⟨cs',e,ho⟩|⟨_,_,e,_⟩⟩
   ·cases e1
   ·cases e
   ·injection e with e;subst e
    refine ⟨.inr ⟨id,bi,hm,hb,rfl⟩,?_⟩
    obtain ⟨bj,q1,q2,q3⟩:=M.obs id _ ho
    rw [hb] at q1;injection q1 with q1;subst q1
    have hn:noIdsL cs=true:=newCs_freeze hc hm ho _ (List.mem_singleton.2 rfl)
    exact q3.bare hS (by simp [noIdsL,Ped.noIds,hn])
   ·cases e
  ·rcases resolve_look hr hl with ⟨j',b,e1,e2⟩|⟨hm,hlt,⟨_,_,e,_⟩|⟨_,e,_⟩|⟨ks',vs',e,ho⟩⟩
   ·cases e1
   ·cases e
   ·cases e
   ·injection e with e e';subst e;subst e'
    refine ⟨.inr ⟨id,bi,hm,hb,rfl⟩,?_⟩
    obtain ⟨bj,es,cl,q1,q2,q3,q4,q5,q6,_⟩:=M.obs id _ ho
    rw [hb] at q1;injection q1 with q1;subst q1
    obtain ⟨n1,n2⟩:=newCs_freeze hc hm ho _ (List.mem_singleton.2 rfl)
    exact ⟨es,cl,q2,q3,q4,fun i e k he hk=>((q5 i e k he hk).noIds (noIdsL_iff.1 n1 k (List.mem_of_getElem? hk))).mono hS (fun _ _ h=>h) (Agr.refl S w),
     fun i e v he hv=>((q6 i e v he hv).noIds (noIdsL_iff.1 n2 v (List.mem_of_getElem? hv))).mono hS (fun _ _ h=>h) (Agr.refl S w)⟩
 have hN:=fun j=>newHp_look (ρ:=ρ) (hp:=hp) (tb:=tb) (fun h=>let ⟨o,h1,_⟩:=resolve_keep hr h;⟨o,h1⟩) j
 refine ⟨S',β',T,Mem.mk' ⟨M.tab,M.os,M.tape,M.output,M.size,M.keep,fun j o' hj=> ?_,fun j bi hj=> ?_,fun i j bi bj hi hj h1 h2 h3=> ?_,fun j bi hj=> ?_,fun b hb=> ?_,fun b hb=> .inl (M.base b hb),fun b hb=> ?_,fun i b h1 h2=> ?_⟩ (fun M0=>M.hid.step hS (Agr.refl S w) M0.inj (fun j' o' p sz es h1 h2=> ?_) (fun b B _=>⟨rfl,?_,B.lt,B.fr,fun i bi hi _=> ?_⟩))⟩
 ·obtain ⟨id,b,o,h1,h2,h3,h4⟩:=(hN j).1 o' hj
  have hcs:=newCs_keep hc h1 h3
  cases b with
  |true=>
   simp only [cond_true] at h4 hcs
   obtain ⟨e1,e2⟩:=bare_ren (ρ:=ρ) hcs
   rw [h4,←e1]
   exact (M.obs id o h3).ren T (hb' h1) (by rw [e2];simp)
  |false=>
   simp only [cond_false] at h4 hcs
   rw [h4]
   exact (M.obs id o h3).ren T (hb' h1) hcs
 ·have hj':(keepOf tb j).bind β=Option.some bi:=hj
  obtain ⟨id,h1,h2⟩:=Option.bind_eq_some_iff.1 hj'
  exact (hN j).2 id h1
 ·have hi':(keepOf tb i).bind β=Option.some bi:=hi
  have hj':(keepOf tb j).bind β=Option.some bj:=hj
  obtain ⟨id,k1,k2⟩:=Option.bind_eq_some_iff.1 hi'
  obtain ⟨jd,k3,k4⟩:=Option.bind_eq_some_iff.1 hj'
  obtain ⟨b1,m1⟩:=keepOf_mem k1
  obtain ⟨b2,m2⟩:=keepOf_mem k3
  have:=M.inj id jd bi bj k2 k4 (live m1) (live m2) h3
  subst this
  have:=apart_key ha m1 m2
  injection this
 ·have hj':(keepOf tb j).bind β=Option.some bi:=hj
  obtain ⟨id,k1,k2⟩:=Option.bind_eq_some_iff.1 hj'
  obtain ⟨b1,m1⟩:=keepOf_mem k1
  obtain ⟨o1,g1,g2,g3⟩:=resolve_keep hr m1
  obtain ⟨p1,p2,p3⟩:=M.own id bi k2
  refine ⟨?_,p2,?_⟩
  ·rintro (hs|⟨fd,bf,f1,f2,f3⟩)
   ·exact p1 hs
   ·have hfo:∀o,look hp fd=Option.some o→o≠ .dead:=by
     intro o ho hd
     subst hd
     exact freeze_live hr f1 _ ho rfl
    have:=M.inj id fd bi bf k2 f2 (live m1) hfo f3
    subst this
    have:=apart_key ha m1 f1
    cases this
  ·rcases p3 with ⟨p3,p4⟩|p3
   ·refine .inl ⟨?_,p4⟩
    rcases Nat.lt_or_ge j mid with hlt|hge
    ·exact absurd (g3.2 hlt) (Nat.not_lt.2 p3)
    ·exact hge
   ·exact .inr p3
 ·rcases hb with hb|⟨id,bi,f1,f2,rfl⟩
  ·exact M.sub b hb
  ·exact (M.own id bi f2).2.1
 ·rcases hb with hb|⟨id,bi,f1,f2,rfl⟩
  ·exact M.new b hb
  ·refine .inr (hlim id bi ?_ f2)
   ·
    have:∀{tb:List (Nat×Rk)} {ρ:List (Nat×Rn)},resolve lim hp tb=Option.some ρ→(id,Rk.freeze)∈tb→id<lim:=by
     intro tb
     induction tb with
     |nil=>intro ρ _ h;simp at h
     |cons x r ih=>
      intro ρ hr h
      obtain ⟨i,x⟩:=x
      cases x with
      |keep k c=>
       simp only [resolve] at hr
       rcases List.mem_cons.1 h with h|h
       ·injection h with e1 e2;cases e2
       ·split at hr
        ·split at hr
         ·obtain ⟨ρ',h1,_⟩:=Option.map_eq_some_iff.1 hr;exact ih h1 h
         ·cases hr
        ·cases hr
      |freeze=>
       simp only [resolve] at hr
       split at hr
       ·rename_i hlt
        rcases List.mem_cons.1 h with h|h
        ·injection h with e1 e2;subst e1;rw [←Nat.blt_eq];exact hlt
        ·split at hr
         ·obtain ⟨ρ',h1,_⟩:=Option.map_eq_some_iff.1 hr;exact ih h1 h
         ·obtain ⟨ρ',h1,_⟩:=Option.map_eq_some_iff.1 hr;exact ih h1 h
         ·obtain ⟨ρ',h1,_⟩:=Option.map_eq_some_iff.1 hr;exact ih h1 h
         ·cases hr
       ·cases hr
    exact this hr f1
 ·have hb:=M.giv i b h1 h2
  obtain ⟨b',hm⟩:=hg i b h1 h2
  exact (hb' hm).trans hb
 ·obtain ⟨id,b,o,k1,k2,k3,k4⟩:=(hN j').1 o' h1
  have hown:o.at p=Option.some (.own sz es):=by
   cases b with
   |true=>simp only [cond_true] at k4;rw [k4] at h2;exact h2
   |false=>simp only [cond_false] at k4;rw [k4] at h2;exact renOb_own h2
  obtain ⟨v,⟨o2,bi,q1,q2,q3,q4⟩,_⟩:=M.hid.own id o p sz es k3 hown
  exact ⟨id,o,bi,bi,fun h=>(resolve_keep hr k1).elim fun _ q=>q.2.2.2 h,k3,hown,q2,(hb' k1).trans q2,rfl,rfl⟩
 ·rintro (hs|⟨fd,bf,f1,f2,f3⟩)
  ·exact B.ns hs
  ·exact B.ap fd bf f2 (freeze_live hr f1) f3.symm
 ·have hi':(keepOf tb i).bind β=Option.some bi:=hi
  obtain ⟨id,k1,k2⟩:=Option.bind_eq_some_iff.1 hi'
  obtain ⟨b1,m1⟩:=keepOf_mem k1
  exact B.ap id bi k2 (live m1)
def renEnv (ρ:List (Nat×Rn)) (env:List (Nat×AV)) (slots:List Nat):List (Nat×AV):=slots.map fun t=>(t,ren ρ (lookD env t))
def renEnvC (ρ:List (Nat×Rn)) (env:List (Nat×AV)) (slots:List Nat):List Prop:=slots.flatMap fun t=>renC ρ (lookD env t)
def renSt (slots:List Nat) (tb:List (Nat×Rk)) (st:St):Option (St×List Prop):=
 if apartT tb=true∧givenKept st.hp tb=true then
  match resolve mid st.hp tb with
  |Option.some ρ=>Option.some (⟨renEnv ρ st.env slots,newHp ρ st.hp tb⟩,renEnvC ρ st.env slots++newCs ρ st.hp tb)
  |none=>none
 else none
theorem look_map_slots {env:List (Nat×AV)} (f:Nat→AV):∀(slots:List Nat) (t:Nat) (x:AV),look (slots.map fun t=>(t,f t)) t=Option.some x→t∈slots∧x=f t
 |[],t,x,h=>by simp [look] at h
 |s::r,t,x,h=>by
  simp only [List.map_cons,look] at h
  by_cases e:s=t
  ·rw [if_pos e] at h;injection h with h;subst e;exact ⟨by simp,h.symm⟩
  ·rw [if_neg e] at h
   obtain ⟨h1,h2⟩:=look_map_slots (env:=env) f r t x h
   exact ⟨by simp [h1],h2⟩
theorem Env.ren {n:Nat} {env:List (Nat×AV)} {a:Act} (E:Env S β w n env a) (T:Tab S S' β β' w ρ) {slots:List Nat} (hc:∀p,p∈renEnvC ρ env slots→p):Env S' β' w n (renEnv ρ env slots) a:=by
 refine ⟨E.1,E.2.1,fun t=> ?_⟩
 unfold lookD
 cases hl:look (renEnv ρ env slots) t with
 |none=>exact .dead _
 |some x=>
  obtain ⟨h1,h2⟩:=look_map_slots (env:=env) _ slots t x hl
  subst h2
  exact (E.2.2 t).ren T fun p hp=>hc p (List.mem_flatMap.2 ⟨t,h1,hp⟩)
theorem renSt_le {n:Nat} {slots:List Nat} {tb:List (Nat×Rk)} {st st':St} {cs:List Prop} (h:renSt slots tb st=Option.some (st',cs)) (hc:∀p,p∈cs→p):Le n st st':=by
 unfold renSt at h
 split at h
 ·rename_i hag
  obtain ⟨ha,hg⟩:=hag
  cases hr:resolve mid st.hp tb with
  |none=>rw [hr] at h;cases h
  |some ρ=>
   rw [hr] at h
   injection h with h
   simp only [Prod.mk.injEq] at h
   obtain ⟨rfl,rfl⟩:=h
   intro F a w ⟨S,β,E,M⟩
   obtain ⟨S',β',T,M'⟩:=M.ren (lim:=mid) (fun i b h1 h2=>let ⟨o,ho⟩:=M.dom i b (M.giv i b h1 h2);givenKept_spec hg h1 ho) (fun id bi h hb=>(M.own id bi hb).2.2.elim (fun q=>absurd q.1 (Nat.not_le.2 h)) (fun q=>q)) ha hr fun p hp=>hc p (List.mem_append_right _ hp)
   exact ⟨S',β',E.ren T fun p hp=>hc p (List.mem_append_left _ hp),M'⟩
 ·cases h
def renStP (slots:List Nat) (tb:List (Nat×Rk)) (st:St):Option (St×List Prop):=
 if apartT tb=true then
  match resolve 1000000000 st.hp tb with
  |Option.some ρ=>Option.some (⟨renEnv ρ st.env slots,newHp ρ st.hp tb⟩,renEnvC ρ st.env slots++newCs ρ st.hp tb)
  |none=>none
 else none
theorem renStP_le {n:Nat} {slots:List Nat} {tb:List (Nat×Rk)} {st st':St} {cs:List Prop} (h:renStP slots tb st=Option.some (st',cs)) (hc:∀p,p∈cs→p):LeP n st st':=by
 unfold renStP at h
 split at h
 ·rename_i ha
  cases hr:resolve 1000000000 st.hp tb with
  |none=>rw [hr] at h;cases h
  |some ρ=>
   rw [hr] at h
   injection h with h
   simp only [Prod.mk.injEq] at h
   obtain ⟨rfl,rfl⟩:=h
   intro F a w hM hβ ⟨S,β,E,M⟩
   obtain ⟨S',β',T,M'⟩:=M.ren (lim:=1000000000) (fun i b h1 h2=>by rw [hβ] at h2;cases h2) (fun id bi h hb=>(M.own id bi hb).2.2.elim (fun q=>absurd q.2 (hM _)) (fun q=>q)) ha hr fun p hp=>hc p (List.mem_append_right _ hp)
   exact ⟨S',β',E.ren T fun p hp=>hc p (List.mem_append_left _ hp),M'⟩
 ·cases h
end
end
section
def resA1 (P:Program) (st:St):ResultVar→Option AV
 | .tmp t=>some (lookD st.env t)
 | .cell a ty=>match lookD st.env a with
   | .tptr cs=>readA P ty cs
   | .elt id k off=>(match k,look st.hp id with
     |0,some (.var cs)=>readA P ty (cs.drop off)
     |_,_=>none)
   |_=>none
def resList (P:Program) (st:St):List ResultVar→Option (List AV)
 |[]=>some []
 |x::r=>match resA1 P st x with
  |some v=>(resList P st r).map (v:: ·)
  |none=>none
def resA (P:Program) (st:St) (l:List ResultVar):Option AV:=
 match resList P st l with
 |some [x]=>some x
 |some vs=>some (.tup vs)
 |none=>none
def argEnv (k:Nat):List AV→List (Nat×AV)
 |[]=>[]
 |x::r=>(k,x)::argEnv (k+1) r
theorem argEnv_look:∀{l:List AV} {k t:Nat} {x:AV},look (argEnv k l) t=some x→k≤t∧l[t-k]? =some x
 |[],k,t,x,h=>by cases h
 |y::r,k,t,x,h=>by
  simp only [argEnv,look] at h
  by_cases e:k=t
  ·rw [if_pos e] at h;injection h with h;subst h;subst e;exact ⟨Nat.le_refl _,by simp⟩
  ·rw [if_neg e] at h
   obtain ⟨h1,h2⟩:=argEnv_look h
   refine ⟨by omega,?_⟩
   have:t-k=(t-(k+1))+1:=by omega
   rw [this]
   exact h2
section
variable {P:Program} {F:Fr} {S:Blk} {β:Beta} {hp:List (Nat×Ob)} {w:World}
def oneRes (tmps:Array Value):ResultVar→Sem Value
 | .tmp t=>pure (tmps.getD t undef)
 | .cell a t=>do loadVar t (←asAddr (tmps.getD a undef))
theorem results_eq (fn:Func) (tmps:Array Value):results fn tmps=(do
  let vs←fn.results.mapM (oneRes tmps)
  pure (if h:vs.size=1 then vs[0] else .tuple vs)):=by
 unfold results
 congr 1
theorem resA1_sound {st:St} {n:Nat} {a:Act} (E:Env S β w n st.env a) (M:Mem F S β st.hp w) {x:ResultVar} {y:AV} (h:resA1 P st x=some y):
  ∃v,(oneRes a.tmps x).run P w= .ok v w∧V S β w v y:=by
 cases x with
 |tmp t=>
  injection h with h
  subst h
  exact ⟨_,rfl,E.2.2 t⟩
 |cell b ty=>
  simp only [resA1] at h
  have hv:=E.2.2 b
  have he:a.eval (.tmp b)=a.tmps.getD b undef:=rfl
  change∃v,(asAddr (a.eval (.tmp b))>>=fun p=>loadVar ty p).run P w= .ok v w∧V S β w v y
  generalize a.eval (.tmp b)=vb at hv
  generalize lookD st.env b=B at h hv
  cases B with
  |tptr cs=>
   simp only at h
   cases hv with
   |tptr bl o _ U hS hcc hvv=>
    obtain ⟨v,h1,h2⟩:=read_sound (P:=P) h bl o fun j c hj=>⟨U j,hcc j c hj,(hvv j c hj).up⟩
    refine ⟨v,?_,h2⟩
    simp [asAddr,h1]
  |elt id k off=>
   simp only at h
   split at h
   ·rename_i cs hl
    cases hv with
    |elt _ _ _ bi hb=>
     obtain ⟨bj,e1,e2,e3⟩:=M.obs id _ hl
     rw [hb] at e1;injection e1 with e1;subst e1
     have hat:=e3.at_ (k:=0) (e:= .agg cs) rfl off
     obtain ⟨v,h1,h2⟩:=read_sound (P:=P) h bi.blk (0*bi.sz+off) hat
     refine ⟨v,?_,h2⟩
     simp only [Nat.zero_mul,Nat.zero_add] at h1
     simp [asAddr,h1]
   ·cases h
  |_=>cases h
theorem resList_sound {st:St} {n:Nat} {a:Act} (E:Env S β w n st.env a) (M:Mem F S β st.hp w):∀{l:List ResultVar} {ys:List AV},resList P st l=some ys→
  ∃vs:List Value,(l.mapM (oneRes a.tmps)).run P w= .ok vs w∧vs.length=ys.length∧∀(i:Nat) v y,vs[i]? =some v→ys[i]? =some y→V S β w v y
 |[],ys,h=>by
  injection h with h
  subst h
  exact ⟨[],rfl,rfl,by simp⟩
 |x::r,ys,h=>by
  simp only [resList] at h
  cases h1:resA1 P st x with
  |none=>rw [h1] at h;cases h
  |some y=>
   rw [h1] at h
   obtain ⟨ys',h2,rfl⟩:=Option.map_eq_some_iff.1 h
   obtain ⟨v,r1,v1⟩:=resA1_sound E M h1
   obtain ⟨vs,r2,l2,v2⟩:=resList_sound E M h2
   refine ⟨v::vs,?_,by simp [l2],fun i u z hu hz=> ?_⟩
   ·rw [List.mapM_cons]
    simp [r1,r2]
   ·cases i with
    |zero=>simp at hu hz;subst hu;subst hz;exact v1
    |succ i=>exact v2 i u z (by simpa using hu) (by simpa using hz)
theorem results_sound {st:St} {n:Nat} {a:Act} {fn:Func} (E:Env S β w n st.env a) (M:Mem F S β st.hp w) {y:AV} (h:resA P st fn.results.toList=some y):
  ∃v,(results fn a.tmps).run P w= .ok v w∧V S β w v y:=by
 unfold resA at h
 cases hl:resList P st fn.results.toList with
 |none=>rw [hl] at h;cases h
 |some ys=>
  rw [hl] at h
  obtain ⟨vs,r1,l1,v1⟩:=resList_sound E M hl
  have hm:(fn.results.mapM (oneRes a.tmps)).run P w= .ok vs.toArray w:=by
   rw [Array.mapM_eq_mapM_toList]
   simp [r1]
  rw [results_eq]
  simp only [Sem.run_bind,hm]
  refine ⟨_,rfl,?_⟩
  simp only [List.size_toArray]
  split
  ·rename_i h1
   match vs,h1 with
   |[v],_=>
    match ys,l1 with
    |[y0],_=>
     injection h with h
     subst h
     exact v1 0 v y0 rfl rfl
  ·rename_i h1
   have:y= .tup ys:=by
    split at h
    ·rename_i x hx;injection hx with hx;subst hx;simp at l1;exact absurd l1 h1
    ·rename_i vs' _ hx;injection hx with hx;injection h with h;rw [←h,hx]
    ·cases h
   subst this
   exact .tup vs ys l1 v1
theorem Spec.pureP {f:FuncId} {fn:Func} {c:Code} {args:List AV} {st':St} {e:Out} {r:AV} (hf:P.funcs[f]? =some fn) (hb:fn.body=some c) (hargs:noIdsL args=true)
  (hrun:RunsP P (args.length+(fn.ntmps-args.length)) c ⟨argEnv 0 args,[]⟩ e st') (he:e= .normal∨e= .ret) (hr:resA P st' fn.results.toList=some r) (hn:noIds r=true):Spec P f args [] r []:=by
 intro F S β hp w vs M hl hv _ _
 let F1:Fr:={w0:=w,S0:=S,M:=fun _=>False,β0:=noB}
 have M1:Mem F1 S noB [] w:=Mem.mk' ⟨⟨M.tabw.1,fun h=>h⟩,rfl,rfl,rfl,Nat.le_refl _,fun _ _ _=>rfl,fun id o h=>(by cases h),fun id bi h=>(by cases h),fun i j bi bj h=>(by cases h),fun i bi h=>(by cases h),M.sub,fun _ h=>h,fun _ h=> .inl h,fun i b _ h=>h⟩ (fun _=>Hid.noOwn (fun id o j sz es h=>by cases h))
 have E1:Env S noB w (args.length+(fn.ntmps-args.length)) (argEnv 0 args) {tmps:=vs.toArray++Array.replicate (fn.ntmps-vs.toArray.size) undef,defers:=[]}:=by
  refine ⟨by simp [hl],rfl,fun t=> ?_⟩
  unfold lookD
  cases hk:look (argEnv 0 args) t with
  |none=>exact .dead _
  |some x=>
   obtain ⟨_,h2⟩:=argEnv_look hk
   rw [Nat.sub_zero] at h2
   have hlt:t<vs.length:=by rw [hl];exact (List.getElem?_eq_some_iff.1 h2).1
   have hvt:vs[t]? =some (vs[t]'hlt):=List.getElem?_eq_getElem hlt
   have:=(hv t _ x hvt h2).noIds (noIdsL_iff.1 hargs x (List.mem_of_getElem? h2))
   have he2:Act.eval {tmps:=vs.toArray++Array.replicate (fn.ntmps-vs.toArray.size) undef,defers:=[]} (.tmp t)=vs[t]'hlt:=by
    simp only [Act.eval,Array.getD_eq_getD_getElem?]
    rw [Array.getElem?_append_left (by simpa using hlt)]
    simp [hvt]
   rw [he2]
   exact this
 refine calls_of_wp hf hb ?_
 refine wp_mono (hrun F1 _ w (fun _ h=>h) rfl ⟨S,noB,E1,M1⟩) fun e' a' w' ⟨h1,S',β',E',M'⟩=> ?_
 obtain ⟨v,hres,hV⟩:=results_sound (fn:=fn) E' M' hr
 have hag:Agr S w w':=fun b hb=>M'.keep b (M.sub b hb) (fun h=>h)
 have hend:∃S2 β2,Ext S S2 β β2 w w'∧Mem F S2 β2 hp w'∧V S2 β2 w' v r:=by
  obtain ⟨x,m⟩:=M.beyond M'.base M'.new M'.sub M'.os M'.tape M'.output M'.size (fun b hb=>M'.keep b hb (fun h=>h))
  exact ⟨S',β,x,m,(hV.noIds hn).up⟩
 obtain ⟨S2,β2,x,m,hv2⟩:=hend
 rcases he with rfl|rfl
 ·subst h1;exact ⟨E'.2.1,v,hres,v,S2,β2,rfl,x,m,hv2⟩
 ·subst h1;exact ⟨E'.2.1,v,hres,v,S2,β2,rfl,x,m,hv2⟩
theorem Spec.pure {f:FuncId} {fn:Func} {c:Code} {args:List AV} {st':St} {e:Out} {r:AV} (hf:P.funcs[f]? =some fn) (hb:fn.body=some c) (hargs:noIdsL args=true)
  (hrun:Runs P (args.length+(fn.ntmps-args.length)) c ⟨argEnv 0 args,[]⟩ e st') (he:e= .normal∨e= .ret) (hr:resA P st' fn.results.toList=some r) (hn:noIds r=true):Spec P f args [] r []:=
 Spec.pureP hf hb hargs hrun.p he hr hn
end
end
section
def idT (pre:List (Nat×Ob)):List (Nat×Rn):=pre.map fun x=>(x.1,.keep x.1)
theorem look_idT:∀{pre:List (Nat×Ob)} {id:Nat} {x:Rn},look (idT pre) id=some x→x= .keep id∧∃o,look pre id=some o
 |[],id,x,h=>by cases h
 |(i,o)::r,id,x,h=>by
  simp only [idT,List.map_cons,look] at h
  simp only [look]
  by_cases e:i=id
  ·rw [if_pos e] at h⊢;injection h with h;subst e;exact ⟨h.symm,o,rfl⟩
  ·rw [if_neg e] at h⊢;exact look_idT (pre:=r) h
mutual
theorem renC_id (pre:List (Nat×Ob)):∀(x:AV),renC (idT pre) x=[]
 | .agg cs=>renCL_id pre cs
 | .tup cs=>renCL_id pre cs
 | .clo f a b=>by simp only [renC];rw [renCL_id pre a,renCL_id pre b];rfl
 | .iface t v=>renC_id pre v
 | .row id off len=>by
   simp only [renC]
   cases h:look (idT pre) id with
   |none=>rfl
   |some x=>obtain ⟨e,_⟩:=look_idT h;subst e;rfl
 | .elt _ _ _=>rfl
 | .map _=>rfl
 | .int _ _=>rfl
 | .bool _=>rfl
 | .str _=>rfl
 | .seq _ _=>rfl
 | .tptr _=>rfl
 | .nilp=>rfl
 | .tmap _ _=>rfl
 | .nilmap=>rfl
 | .nils=>rfl
 | .nilf=>rfl
 | .nili=>rfl
 | .own _ _=>rfl
 | .emp=>rfl
 | .dead=>rfl
theorem renCL_id (pre:List (Nat×Ob)):∀(l:List AV),renCL (idT pre) l=[]
 |[]=>rfl
 |x::r=>by simp only [renCL];rw [renC_id pre x,renCL_id pre r];rfl
end
theorem obC_id (pre:List (Nat×Ob)) (o:Ob):obC (idT pre) o=[]:=by
 cases o with
 |var cs=>exact renCL_id pre cs
 |row sz es=>exact renCL_id pre es
 |map ks vs=>simp only [obC];rw [renCL_id,renCL_id];rfl
 |dead=>rfl
def uniqK:List (Nat×Ob)→Bool
 |[]=>true
 |(i,_)::r=>r.all (fun x=> !Nat.beq x.1 i)&&uniqK r
theorem look_putAll:∀{upd:List (Nat×Ob)},uniqK upd=true→∀(hp:List (Nat×Ob)) (k:Nat),look (putAll hp upd) k=match look upd k with
  |some o=>some o
  |none=>look hp k
 |[],_,hp,k=>rfl
 |(i,o)::r,h,hp,k=>by
  simp only [uniqK,Bool.and_eq_true] at h
  show look (putAll (putL hp i o) r) k=_
  rw [look_putAll h.2,look_put]
  simp only [look]
  by_cases e:i=k
  ·subst e
   have:look r i=none:=by
    cases hl:look r i with
    |none=>rfl
    |some y=>
     obtain ⟨z,hz⟩:=look_key hl
     have:=List.all_eq_true.1 h.1 _ hz
     simp at this
   rw [this,if_pos rfl]
   simp
  ·rw [if_neg e,if_neg e]
def RunsK (P:Program) (n:Nat) (ks:List Nat) (c:Code) (st:St) (e:Out) (st':St):Prop:=
 ∀(F:Fr) (a:Act) (w:World),(∀i b,F.β0 i=some b→i∈ks)→At F n st a w→c.wp P (fun e' a' w'=>e'=e.x∧At F n st' a' w') a w
theorem Runs.k {P:Program} {n:Nat} {ks:List Nat} {c:Code} {st st':St} {e:Out} (h:Runs P n c st e st'):RunsK P n ks c st e st':=fun F a w _ hA=>h F a w hA
def preOK (pre:List (Nat×Ob)):Bool:=pre.all fun x=>Nat.ble given x.1&& !isDeadOb x.2
section
variable {P:Program} {F:Fr} {S:Blk} {β:Beta} {hp:List (Nat×Ob)} {w:World}
theorem look_mem {α:Type}:∀{l:List (Nat×α)} {k:Nat} {x:α},look l k=some x→(k,x)∈l
 |(i,y)::r,k,x,h=>by
  simp only [look] at h
  by_cases e:i=k
  ·subst e;rw [if_pos rfl] at h;injection h with h;subst h;simp
  ·rw [if_neg e] at h;exact List.mem_cons_of_mem _ (look_mem h)
theorem Spec.genG {f:FuncId} {fn:Func} {c:Code} {args:List AV} {pre:List (Nat×Ob)} {st':St} {e:Out} {r:AV} (hf:P.funcs[f]? =some fn) (hb:fn.body=some c)
  (hpre:preOK pre=true) (huq:uniqK st'.hp=true) (hargs:renL (idT pre) args=args) (hobs:∀id o,(id,o)∈pre→renOb (idT pre) o=o)
  (hrun:∀(F:Fr) (a:Act) (w:World),(∀i b,F.β0 i=some b→i∈pre.map (·.1))→(pre=[]→(∀b,¬F.M b)∧F.β0=noB)→At F (args.length+(fn.ntmps-args.length)) ⟨argEnv 0 args,pre⟩ a w→c.wp P (fun e' a' w'=>e'=e.x∧At F (args.length+(fn.ntmps-args.length)) st' a' w') a w) (he:e= .normal∨e= .ret) (hr:resA P st' fn.results.toList=some r):Spec P f args pre r st'.hp:=by
 intro F S β hp w vs M hl hv hpl hfr
 have pg:∀{i:Nat} {o:Ob},look pre i=some o→given≤i∧o≠ .dead∧look hp i=some o:=by
  intro i o h
  have hm:=look_mem h
  have:=List.all_eq_true.1 hpre _ hm
  simp only [Bool.and_eq_true,Nat.ble_eq] at this
  refine ⟨this.1,?_,hpl i o hm⟩
  rintro rfl
  have:=this.2
  simp [isDeadOb] at this
 let β1:Beta:=fun i=>match look pre i with
  |some _=>β i
  |none=>none
 have b1:∀{i:Nat} {o:Ob},look pre i=some o→β1 i=β i:=by
  intro i o h
  show (match look pre i with|some _=>β i|none=>none)=β i
  rw [h]
 have b1s:∀{i:Nat} {b:Bl},β1 i=some b→(∃o,look pre i=some o)∧β i=some b:=by
  intro i b h
  have h':(match look pre i with|some _=>β i|none=>none)=some b:=h
  cases hk:look pre i with
  |none=>rw [hk] at h';cases h'
  |some o=>rw [hk] at h';exact ⟨⟨o,rfl⟩,h'⟩
 let HB:Nat→Prop:=fun b=>∃id j sz es n c,OwnAt β1 pre w id j sz es (.slice (some ⟨b,0,none⟩) n c)
 have up:∀{id j sz:Nat} {es:List AV} {v:Value},OwnAt β1 pre w id j sz es v→OwnAt β hp w id j sz es v∧∃o,look pre id=some o:=by
  rintro id j sz es v ⟨o,bi,a1,a2,a3,a4⟩
  exact ⟨⟨o,bi,(pg a1).2.2,(b1s a2).2,a3,a4⟩,o,a1⟩
 have hbB:∀{b:Nat},HB b→HidB F S β hp w b:=by
  rintro b ⟨id,j,sz,es,n,c,h⟩
  exact M.hid.block (up h).1
 let F1:Fr:={w0:=w,S0:=S,M:=fun b=>(∃i bi,β1 i=some bi∧b=bi.blk)∨HB b,β0:=β1}
 have T:Tab S S β β1 w (idT pre):=by
  refine ⟨fun _ h=>h,fun id j bi hj hb=> ?_,fun id es bi hj=> ?_,fun id cs bi hj=> ?_,fun id ks vs bi hj=> ?_⟩
  ·obtain ⟨e,o,ho⟩:=look_idT hj
   injection e with e
   subst e
   rw [b1 ho];exact hb
  ·obtain ⟨e,_⟩:=look_idT hj;cases e
  ·obtain ⟨e,_⟩:=look_idT hj;cases e
  ·obtain ⟨e,_⟩:=look_idT hj;cases e
 have M1:Mem F1 S β1 pre w:=by
  have h0:¬F1.M 0:=by
   rintro (⟨i,bi,hi,e⟩|h)
   ·exact M.not0 (b1s hi).2 e.symm
   ·rcases (hbB h).fr with h|h
    ·exact M.tab.2 h
    ·have:=M.tabw.2;omega
  refine Mem.mk' ⟨⟨M.tabw.1,h0⟩,rfl,rfl,rfl,Nat.le_refl _,fun _ _ _=>rfl,fun id o h=> ?_,fun id bi h=>(b1s h).1,fun i j bi bj hi hj h1 h2 h3=> ?_,fun i bi h=> ?_,M.sub,fun _ h=>h,fun _ h=> .inl h,fun i b _ h=>h⟩ (fun _=>⟨fun id o j sz es h1 h2=> ?_,fun id j sz es id' j' sz' es' b n c n' c' h1 h2=>M.hid.one _ _ _ _ _ _ _ _ _ _ _ _ _ (up h1).1 (up h2).1,fun id j sz es b n c h1 h2=>absurd h2 (Nat.not_lt.2 (Nat.le_trans (by decide:mid≤given) ((up h1).2.elim fun o ho=>(pg ho).1)))⟩)
  ·obtain ⟨_,_,h2⟩:=pg h
   have:=(M.obs id o h2).ren T (b1 h) (by rw [obC_id];simp)
   rwa [hobs id o (look_mem h)] at this
  ·obtain ⟨⟨oi,ki⟩,ei⟩:=b1s hi
   obtain ⟨⟨oj,kj⟩,ej⟩:=b1s hj
   obtain ⟨_,di,li⟩:=pg ki
   obtain ⟨_,dj,lj⟩:=pg kj
   exact M.inj i j bi bj ei ej (fun o ho=>by rw [li] at ho;injection ho with ho;exact ho▸di) (fun o ho=>by rw [lj] at ho;injection ho with ho;exact ho▸dj) h3
  ·obtain ⟨⟨oi,ki⟩,ei⟩:=b1s h
   obtain ⟨gi,_,_⟩:=pg ki
   obtain ⟨p1,p2,_⟩:=M.own i bi ei
   exact ⟨p1,p2,.inl ⟨Nat.le_trans (by decide:mid≤given) gi,.inl ⟨i,bi,h,rfl⟩⟩⟩
  ·obtain ⟨_,_,li⟩:=pg h1
   obtain ⟨v,⟨o2,bi,q1,q2,q3,q4⟩,hv⟩:=M.hid.own id o j sz es li h2
   have hO:OwnAt β1 pre w id j sz es v:=⟨o,bi,h1,(b1 h1).trans q2,h2,q4⟩
   refine ⟨v,hO,?_⟩
   rcases hv with hv|⟨b,cap,r1,r2,r3,B⟩
   ·exact .inl hv
   ·refine .inr ⟨b,cap,r1,r2,r3,B.ns,B.lt,.inl (.inr ⟨id,j,sz,es,es.length,cap,by rw [←r1];exact hO⟩),fun i bi' hi hl=> ?_⟩
    obtain ⟨⟨oi,ki⟩,ei⟩:=b1s hi
    obtain ⟨_,di,li'⟩:=pg ki
    exact B.ap i bi' ei (fun o' ho'=>by rw [li'] at ho';injection ho' with ho';exact ho'▸di)
 have E1:Env S β1 w (args.length+(fn.ntmps-args.length)) (argEnv 0 args) {tmps:=vs.toArray++Array.replicate (fn.ntmps-vs.toArray.size) undef,defers:=[]}:=by
  refine ⟨by simp [hl],rfl,fun t=> ?_⟩
  unfold lookD
  cases hk:look (argEnv 0 args) t with
  |none=>exact .dead _
  |some x=>
   obtain ⟨_,h2⟩:=argEnv_look hk
   rw [Nat.sub_zero] at h2
   have hlt:t<vs.length:=by rw [hl];exact (List.getElem?_eq_some_iff.1 h2).1
   have hvt:vs[t]? =some (vs[t]'hlt):=List.getElem?_eq_getElem hlt
   have hV:=(hv t _ x hvt h2).ren T (by rw [renC_id];simp)
   have hx:ren (idT pre) x=x:=by
    have:(renL (idT pre) args)[t]? =some x:=by rw [hargs];exact h2
    obtain ⟨c0,h3,h4⟩:=renL_get this
    rw [h2] at h3;injection h3 with h3;subst h3;exact h4.symm
   rw [hx] at hV
   have he2:Act.eval {tmps:=vs.toArray++Array.replicate (fn.ntmps-vs.toArray.size) undef,defers:=[]} (.tmp t)=vs[t]'hlt:=by
    simp only [Act.eval,Array.getD_eq_getD_getElem?]
    rw [Array.getElem?_append_left (by simpa using hlt)]
    simp [hvt]
   rw [he2]
   exact hV
 have hpn:pre=[]→(∀b,¬F1.M b)∧F1.β0=noB:=by
  intro hn
  have none:∀i,β1 i=none:=by
   intro i
   cases h:β1 i with
   |none=>rfl
   |some b=>obtain ⟨⟨o,ho⟩,_⟩:=b1s h;rw [hn] at ho;cases ho
  refine ⟨?_,funext none⟩
  rintro b (⟨i,bi,hi,_⟩|⟨id,j,sz,es,n,c,h⟩)
  ·rw [none i] at hi;cases hi
  ·obtain ⟨_,o,ho⟩:=up h;rw [hn] at ho;cases ho
 refine calls_of_wp hf hb ?_
 refine wp_mono (hrun F1 _ w (fun i b h=>let ⟨⟨o,ho⟩,_⟩:=b1s h;List.mem_map.2 ⟨(i,o),look_mem ho,rfl⟩) hpn ⟨S,β1,E1,M1⟩) fun e' a' w' ⟨h1,S',β2,E',M'⟩=> ?_
 obtain ⟨v,hres,hV⟩:=results_sound (fn:=fn) E' M' hr
 have notM:∀b,S b→¬F1.M b:=by
  rintro b hs (⟨i,bi,hi,rfl⟩|h)
  ·exact (M.own i bi (b1s hi).2).1 hs
  ·exact (hbB h).ns hs
 have hag:Agr S w w':=fun b hb=>M'.keep b (M.sub b hb) (notM b hb)
 have keepPre:∀{i:Nat} {o:Ob},look pre i=some o→∃b,β i=some b∧β2 i=some b:=by
  intro i o h
  obtain ⟨gi,_,li⟩:=pg h
  obtain ⟨b,hb⟩:=(M.obs i o li).some
  exact ⟨b,hb,M'.giv i b gi ((b1 h).trans hb)⟩
 have both:∀{i:Nat} {b b':Bl},β i=some b→β2 i=some b'→b'=b∧∃o,look pre i=some o:=by
  intro i b b' h h'
  cases hk:look pre i with
  |some o=>
   obtain ⟨b0,e1,e2⟩:=keepPre hk
   rw [h] at e1;rw [h'] at e2
   injection e1 with e1;injection e2 with e2
   exact ⟨e2.trans e1.symm,o,rfl⟩
  |none=>
   exfalso
   obtain ⟨o2,ho2⟩:=M'.dom i b' h'
   have:=hfr i o2 (look_mem ho2) (fun o' hm=>by
    have:∀{l:List (Nat×Ob)},(i,o')∈l→look l i≠none:=by
     intro l
     induction l with
     |nil=>intro h;simp at h
     |cons y l ih=>
      intro h
      obtain ⟨k,z⟩:=y
      simp only [look]
      by_cases e:k=i
      ·rw [if_pos e];simp
      ·rw [if_neg e]
       rcases List.mem_cons.1 h with h|h
       ·injection h with h3 h4;exact absurd h3.symm e
       ·exact ih h
    exact this hm hk)
   obtain ⟨o,ho⟩:=M.dom i b h
   rw [this] at ho
   cases ho
 let β':Beta:=fun i=>match β2 i with
  |some b=>some b
  |none=>β i
 have x2:∀i b,β2 i=some b→β' i=some b:=by
  intro i b h
  show (match β2 i with|some b=>some b|none=>β i)=some b
  rw [h]
 have x1:∀i b,β i=some b→β' i=some b:=by
  intro i b h
  cases h2:β2 i with
  |none=>
   show (match β2 i with|some b=>some b|none=>β i)=some b
   rw [h2];exact h
  |some b'=>
   have:=(both h h2).1
   subst this
   exact x2 i b' h2
 have xc:∀{i b},β' i=some b→β2 i=some b∨(β2 i=none∧β i=some b):=by
  intro i b h
  have h':(match β2 i with|some b=>some b|none=>β i)=some b:=h
  cases h2:β2 i with
  |none=>rw [h2] at h';exact .inr ⟨rfl,h'⟩
  |some b'=>rw [h2] at h';exact .inl h'
 have hlook:=look_putAll huq hp
 have out:∀{i:Nat} {bi:Bl} {o:Ob},β i=some bi→look hp i=some o→o≠ .dead→β2 i=none→w'.heap[bi.blk]? =w.heap[bi.blk]? :=by
  intro i bi o hi ho hd h2
  have hlv:∀o',look hp i=some o'→o'≠ .dead:=fun o' ho'=>by rw [ho] at ho';injection ho' with ho';exact ho'▸hd
  refine M'.keep _ (M.own i bi hi).2.1 ?_
  rintro (⟨p,bp,hp1,hp2⟩|h)
  ·obtain ⟨⟨op,kp⟩,ep⟩:=b1s hp1
   obtain ⟨_,dp,lp⟩:=pg kp
   have:=M.inj i p bi bp hi ep hlv (fun o' ho'=>by rw [lp] at ho';injection ho' with ho';exact ho'▸dp) hp2
   subst this
   obtain ⟨b0,e1,e2⟩:=keepPre kp
   rw [h2] at e2;cases e2
  ·exact (hbB h).ap i bi hi hlv rfl
 have outH:∀{id j sz:Nat} {es:List AV} {b n c:Nat},OwnAt β hp w id j sz es (.slice (some ⟨b,0,none⟩) n c)→β2 id=none→¬F1.M b:=by
  intro id j sz es b n c h h2
  have B:=M.hid.block h
  rintro (⟨p,bp,hp1,hp2⟩|⟨id',j',sz',es',n',c',h'⟩)
  ·obtain ⟨⟨op,kp⟩,ep⟩:=b1s hp1
   obtain ⟨_,dp,lp⟩:=pg kp
   exact B.ap p bp ep (fun o' ho'=>by rw [lp] at ho';injection ho' with ho';exact ho'▸dp) hp2.symm
  ·obtain ⟨k1,o',k2⟩:=up h'
   have:=(M.hid.one _ _ _ _ _ _ _ _ _ _ _ _ _ h k1).1
   subst this
   obtain ⟨b0,e1,e2⟩:=keepPre k2
   rw [h2] at e2;cases e2
 have hend:Ext S S' β β' w w'∧Mem F S' β' (putAll hp st'.hp) w'∧V S' β' w' v r:=by
  refine ⟨⟨M'.base,x1,hag⟩,?_,hV.mono (fun _ h=>h) x2 (Agr.refl _ _)⟩
  refine Mem.mk' ⟨M.tab,M'.os.trans M.os,M'.tape.trans M.tape,M'.output.trans M.output,Nat.le_trans M.size M'.size,fun b h1 h2=> ?_,fun id o h=> ?_,fun id bi h=> ?_,fun i j bi bj hi hj h1 h2 h3=> ?_,fun i bi hi=> ?_,M'.sub,fun b h=>M'.base b (M.base b h),fun b h=> ?_,fun i b h1 h2=>x1 i b (M.giv i b h1 h2)⟩ (fun M0=> ?_)
  ·rw [←M.keep b h1 h2]
   refine M'.keep b (Nat.lt_of_lt_of_le h1 M.size) ?_
   rintro (⟨p,bp,hp1,rfl⟩|h)
   ·rcases (M.own p bp (b1s hp1).2).2.2 with ⟨_,h⟩|h
    ·exact h2 h
    ·exact absurd h1 (Nat.not_lt.2 h)
   ·rcases (hbB h).fr with h|h
    ·exact h2 h
    ·exact absurd h1 (Nat.not_lt.2 h)
  ·rw [hlook] at h
   cases hk:look st'.hp id with
   |some o2=>
    rw [hk] at h
    injection h with h
    subst h
    exact (M'.obs id o2 hk).mono (fun _ h=>h) x2 (Agr.refl _ _) (fun _ _=>rfl)
   |none=>
    rw [hk] at h
    have h2n:β2 id=none:=by
     cases h2:β2 id with
     |none=>rfl
     |some b=>obtain ⟨o2,ho2⟩:=M'.dom id b h2;rw [hk] at ho2;cases ho2
    have hob:=M.obs id o h
    by_cases hd:o= .dead
    ·subst hd
     obtain ⟨b,hb⟩:=hob
     exact ⟨b,x1 id b hb⟩
    ·exact hob.mono M'.base x1 hag (fun bi hi=>out hi h hd h2n)
  ·rw [hlook]
   rcases xc h with h|⟨h2,h⟩
   ·obtain ⟨o,ho⟩:=M'.dom id bi h
    exact ⟨o,by rw [ho]⟩
   ·obtain ⟨o,ho⟩:=M.dom id bi h
    cases hk:look st'.hp id with
    |some o2=>exact ⟨o2,rfl⟩
    |none=>exact ⟨o,ho⟩
  ·have lv2:∀{k:Nat} {b:Bl},β2 k=some b→(∀o,look (putAll hp st'.hp) k=some o→o≠ .dead)→∀o,look st'.hp k=some o→o≠ .dead:=by
    intro k b hk hh o ho
    exact hh o (by rw [hlook,ho])
   have lv1:∀{k:Nat},β2 k=none→(∀o,look (putAll hp st'.hp) k=some o→o≠ .dead)→∀o,look hp k=some o→o≠ .dead:=by
    intro k hk hh o ho
    refine hh o ?_
    rw [hlook]
    cases hs:look st'.hp k with
    |none=>exact ho
    |some o2=>
     exfalso
     obtain ⟨b,hb⟩:=(M'.obs k o2 hs).some
     rw [hk] at hb;cases hb
   have mixed:∀{i j:Nat} {bi bj:Bl},β2 i=some bi→β2 j=none→β j=some bj→(∀o,look (putAll hp st'.hp) j=some o→o≠ .dead)→bi.blk=bj.blk→False:=by
    intro i j bi bj hi hj2 hj hlj hblk
    rcases (M'.own i bi hi).2.2 with ⟨_,⟨p,bp,hp1,hp2⟩|h⟩|h
    ·obtain ⟨⟨op,kp⟩,ep⟩:=b1s hp1
     obtain ⟨_,dp,lp⟩:=pg kp
     have:=M.inj p j bp bj ep hj (fun o' ho'=>by rw [lp] at ho';injection ho' with ho';exact ho'▸dp) (lv1 hj2 hlj) (hp2.symm.trans hblk)
     subst this
     obtain ⟨b0,e1,e2⟩:=keepPre kp
     rw [hj2] at e2;cases e2
    ·exact (hbB h).ap j bj hj (lv1 hj2 hlj) hblk.symm
    ·have:=(M.own j bj hj).2.1
     have hw:F1.w0.heap.size=w.heap.size:=rfl
     rw [hblk] at h
     omega
   rcases xc hi with hi|⟨hi2,hi⟩<;>rcases xc hj with hj|⟨hj2,hj⟩
   ·exact M'.inj i j bi bj hi hj (lv2 hi h1) (lv2 hj h2) h3
   ·exact (mixed hi hj2 hj h2 h3).elim
   ·exact (mixed hj hi2 hi h1 h3.symm).elim
   ·exact M.inj i j bi bj hi hj (lv1 hi2 h1) (lv1 hj2 h2) h3
  ·rcases xc hi with hi|⟨hi2,hi⟩
   ·obtain ⟨p1,p2,p3⟩:=M'.own i bi hi
    refine ⟨p1,p2,?_⟩
    rcases p3 with ⟨g,⟨p,bp,hp1,hp2⟩|h⟩|p3
    ·rw [hp2]
     rcases (M.own p bp (b1s hp1).2).2.2 with ⟨_,h⟩|h
     ·exact .inl ⟨g,h⟩
     ·exact .inr h
    ·rcases (hbB h).fr with h|h
     ·exact .inl ⟨g,h⟩
     ·exact .inr h
    ·exact .inr (Nat.le_trans M.size p3)
   ·obtain ⟨p1,p2,p3⟩:=M.own i bi hi
    refine ⟨fun hs=> ?_,Nat.lt_of_lt_of_le p2 M'.size,p3⟩
    rcases M'.new _ hs with h|h
    ·exact p1 h
    ·exact absurd p2 (Nat.not_lt.2 h)
  ·rcases M'.new b h with h|h
   ·exact M.new b h
   ·exact .inr (Nat.le_trans M.size h)
  ·have lv2:∀{k:Nat},(∀o,look (putAll hp st'.hp) k=some o→o≠ .dead)→∀o,look st'.hp k=some o→o≠ .dead:=by
    intro k hh o ho
    exact hh o (by rw [hlook,ho])
   have noSt:∀{k:Nat},β2 k=none→look st'.hp k=none:=by
    intro k hk
    cases hs:look st'.hp k with
    |none=>rfl
    |some o2=>
     exfalso
     obtain ⟨b,hb⟩:=(M'.obs k o2 hs).some
     rw [hk] at hb;cases hb
   have lv1:∀{k:Nat},β2 k=none→(∀o,look (putAll hp st'.hp) k=some o→o≠ .dead)→∀o,look hp k=some o→o≠ .dead:=by
    intro k hk hh o ho
    exact hh o (by rw [hlook,noSt hk];exact ho)
   have part:∀{id j sz:Nat} {es:List AV} {v:Value},OwnAt β' (putAll hp st'.hp) w' id j sz es v→OwnAt β2 st'.hp w' id j sz es v∨(β2 id=none∧OwnAt β hp w id j sz es v):=by
    rintro id j sz es v ⟨o,bi,a1,a2,a3,a4⟩
    rcases xc a2 with h|⟨h2,h⟩
    ·obtain ⟨o2,ho2⟩:=M'.dom id bi h
     have:=a1
     rw [hlook,ho2] at this
     injection this with this
     subst this
     exact .inl ⟨o2,bi,ho2,h,a3,a4⟩
    ·have h1:=a1
     rw [hlook,noSt h2] at h1
     exact .inr ⟨h2,o,bi,h1,h,a3,by rw [←slotV_same (out h h1 (Ob.at_live a3) h2) j];exact a4⟩
   have bIn:∀{b:Nat},HidB F1 S' β2 st'.hp w' b→HidB F S' β' (putAll hp st'.hp) w' b:=by
    intro b B
    refine ⟨B.ns,B.lt,?_,fun i bi hi hl=> ?_⟩
    ·rcases B.fr with (⟨p,bp,hp1,hp2⟩|h)|h
     ·rw [hp2]
      rcases (M.own p bp (b1s hp1).2).2.2 with ⟨_,h⟩|h
      ·exact .inl h
      ·exact .inr h
     ·exact (hbB h).fr
     ·exact .inr (Nat.le_trans M.size h)
    ·rcases xc hi with h|⟨h2,h⟩
     ·exact B.ap i bi h (lv2 hl)
     ·intro e
      rcases B.fr with (⟨p,bp,hp1,hp2⟩|hh)|hh
      ·obtain ⟨⟨op,kp⟩,ep⟩:=b1s hp1
       obtain ⟨_,dp,lp⟩:=pg kp
       have:=M.inj p i bp bi ep h (fun o' ho'=>by rw [lp] at ho';injection ho' with ho';exact ho'▸dp) (lv1 h2 hl) (hp2.symm.trans e.symm)
       subst this
       obtain ⟨b0,e1,e2⟩:=keepPre kp
       rw [h2] at e2;cases e2
      ·exact (hbB hh).ap i bi h (lv1 h2 hl) e
      ·have:=(M.own i bi h).2.1
       have hw:F1.w0.heap.size=w.heap.size:=rfl
       omega
   have bOut:∀{id j sz:Nat} {es:List AV} {b n c:Nat},OwnAt β hp w id j sz es (.slice (some ⟨b,0,none⟩) n c)→β2 id=none→w'.heap[b]? =w.heap[b]? ∧HidB F S' β' (putAll hp st'.hp) w' b:=by
    intro id j sz es b n c h h2
    have B:=M.hid.block h
    have hM:=outH h h2
    refine ⟨M'.keep b B.lt hM,fun hs=> ?_,Nat.lt_of_lt_of_le B.lt M'.size,B.fr,fun i bi hi hl e=> ?_⟩
    ·rcases M'.new _ hs with h|h
     ·exact B.ns h
     ·exact absurd B.lt (Nat.not_lt.2 h)
    ·rcases xc hi with hi2|⟨hi2,hi1⟩
     ·rcases (M'.own i bi hi2).2.2 with ⟨_,h⟩|h
      ·exact hM (e▸h)
      ·have:=B.lt
       have hw:F1.w0.heap.size=w.heap.size:=rfl
       omega
     ·exact B.ap i bi hi1 (lv1 hi2 hl) e
   refine ⟨fun id o j sz es h1 h2=> ?_,fun id j sz es id' j' sz' es' b n c n' c' h1 h2=> ?_,fun id j sz es b n c h1 h2=> ?_⟩
   ·rw [hlook] at h1
    cases hk:look st'.hp id with
    |some o2=>
     rw [hk] at h1
     injection h1 with h1
     subst h1
     obtain ⟨v,⟨o3,bi,q1,q2,q3,q4⟩,hv⟩:=M'.hid.own id o2 j sz es hk h2
     refine ⟨v,⟨o2,bi,by rw [hlook,hk],x2 id bi q2,h2,q4⟩,?_⟩
     rcases hv with hv|⟨b,cap,r1,r2,r3,B⟩
     ·exact .inl hv
     ·exact .inr ⟨b,cap,r1,r2,r3,bIn B⟩
    |none=>
     rw [hk] at h1
     have h2n:β2 id=none:=by
      cases h2':β2 id with
      |none=>rfl
      |some b=>obtain ⟨o2,ho2⟩:=M'.dom id b h2';rw [hk] at ho2;cases ho2
     obtain ⟨v,hO,hv⟩:=M.hid.own id o j sz es h1 h2
     have hO':=hO
     obtain ⟨o3,bi,q1,q2,q3,q4⟩:=hO
     refine ⟨v,⟨o,bi,by rw [hlook,hk];exact h1,x1 id bi q2,h2,by rw [slotV_same (out q2 h1 (Ob.at_live h2) h2n) j];exact q4⟩,?_⟩
     rcases hv with hv|⟨b,cap,r1,r2,r3,B⟩
     ·exact .inl hv
     ·subst r1
      obtain ⟨g1,g2⟩:=bOut hO' h2n
      exact .inr ⟨b,cap,rfl,r2,r3.mono M'.base (fun _ _ h=>h) hag g1,g2⟩
   ·rcases part h1 with k1|⟨d1,k1⟩<;>rcases part h2 with k2|⟨d2,k2⟩
    ·exact M'.hid.one _ _ _ _ _ _ _ _ _ _ _ _ _ k1 k2
    ·exfalso
     have B1:=M'.hid.block k1
     rcases B1.fr with h|h
     ·exact outH k2 d2 h
     ·have:=(M.hid.block k2).lt
      have hw:F1.w0.heap.size=w.heap.size:=rfl
      omega
    ·exfalso
     have B1:=M'.hid.block k2
     rcases B1.fr with h|h
     ·exact outH k1 d1 h
     ·have:=(M.hid.block k1).lt
      have hw:F1.w0.heap.size=w.heap.size:=rfl
      omega
    ·exact M.hid.one _ _ _ _ _ _ _ _ _ _ _ _ _ k1 k2
   ·rcases part h1 with k1|⟨d1,k1⟩
    ·exact Nat.le_trans M.size (M'.hid.new _ _ _ _ _ _ _ k1 h2)
    ·exact M.hid.new _ _ _ _ _ _ _ k1 h2
 obtain ⟨x,m,hv2⟩:=hend
 rcases he with rfl|rfl
 ·subst h1;exact ⟨E'.2.1,v,hres,v,S',β',rfl,x,m,hv2⟩
 ·subst h1;exact ⟨E'.2.1,v,hres,v,S',β',rfl,x,m,hv2⟩
theorem Spec.gen {f:FuncId} {fn:Func} {c:Code} {args:List AV} {pre:List (Nat×Ob)} {st':St} {e:Out} {r:AV} (hf:P.funcs[f]? =some fn) (hb:fn.body=some c)
  (hpre:preOK pre=true) (huq:uniqK st'.hp=true) (hargs:renL (idT pre) args=args) (hobs:∀id o,(id,o)∈pre→renOb (idT pre) o=o)
  (hrun:RunsK P (args.length+(fn.ntmps-args.length)) (pre.map (·.1)) c ⟨argEnv 0 args,pre⟩ e st') (he:e= .normal∨e= .ret) (hr:resA P st' fn.results.toList=some r):Spec P f args pre r st'.hp:=
 Spec.genG hf hb hpre huq hargs hobs (fun F a w h _ x=>hrun F a w h x) he hr
theorem Spec.newP {f:FuncId} {fn:Func} {c:Code} {args:List AV} {st':St} {e:Out} {r:AV} (hf:P.funcs[f]? =some fn) (hb:fn.body=some c)
  (huq:uniqK st'.hp=true) (hargs:renL (idT []) args=args)
  (hrun:RunsP P (args.length+(fn.ntmps-args.length)) c ⟨argEnv 0 args,[]⟩ e st') (he:e= .normal∨e= .ret) (hr:resA P st' fn.results.toList=some r):Spec P f args [] r st'.hp:=
 Spec.genG (pre:=[]) hf hb rfl huq hargs (fun _ _ h=>by cases h) (fun F a w _ h x=>hrun F a w (h rfl).1 (h rfl).2 x) he hr
end
end
section
def dropHp (hp:List (Nat×Ob)) (ks:List Nat):List (Nat×Ob):=
 let l:=hp.filter fun x=>ks.contains x.1
 l.map fun x=>(x.1,renOb (idT l) x.2)
def dropAV (hp:List (Nat×Ob)) (ks:List Nat) (x:AV):AV:=ren (idT (hp.filter fun x=>ks.contains x.1)) x
def dropSt (st:St) (ks:List Nat):St:=⟨st.env.map fun x=>(x.1,dropAV st.hp ks x.2),dropHp st.hp ks⟩
theorem look_filter {hp:List (Nat×Ob)} {ks:List Nat} (k:Nat):look (hp.filter fun x=>ks.contains x.1) k=if ks.contains k then look hp k else none:=by
 induction hp with
 |nil=>simp [look]
 |cons x r ih=>
  obtain ⟨i,o⟩:=x
  simp only [List.filter_cons]
  by_cases hi:ks.contains i=true
  ·rw [if_pos hi]
   simp only [look]
   by_cases e:i=k
   ·subst e;rw [if_pos rfl,if_pos hi,if_pos rfl]
   ·rw [if_neg e,if_neg e,ih]
  ·rw [if_neg hi,ih]
   simp only [look]
   by_cases e:i=k
   ·subst e;rw [if_neg hi,if_neg hi]
   ·rw [if_neg e]
theorem look_mapv {α γ:Type} (f:Nat→α→γ):∀(l:List (Nat×α)) (k:Nat),look (l.map fun x=>(x.1,f x.1 x.2)) k=(look l k).map (f k)
 |[],k=>rfl
 |(i,y)::r,k=>by
  simp only [List.map_cons,look]
  by_cases e:i=k
  ·subst e;rw [if_pos rfl,if_pos rfl];rfl
  ·rw [if_neg e,if_neg e];exact look_mapv f r k
section
variable {F:Fr} {S:Blk} {β:Beta} {hp:List (Nat×Ob)} {w:World} {ks:List Nat}
def dropB (β:Beta) (ks:List Nat):Beta:=fun i=>if ks.contains i then β i else none
theorem dropB_some {i:Nat} {b:Bl} (h:dropB β ks i=some b):ks.contains i=true∧β i=some b:=by
 unfold dropB at h
 split at h
 ·rename_i hk;exact ⟨hk,h⟩
 ·cases h
theorem drop_tab:Tab S S β (dropB β ks) w (idT (hp.filter fun x=>ks.contains x.1)):=by
 refine ⟨fun _ h=>h,fun id j bi hj hb=> ?_,fun id es bi hj=> ?_,fun id cs bi hj=> ?_,fun id ks vs bi hj=> ?_⟩
 ·obtain ⟨e,o,ho⟩:=look_idT hj
  injection e with e
  subst e
  rw [look_filter] at ho
  unfold dropB
  split at ho
  ·rename_i hk;rw [if_pos hk];exact hb
  ·cases ho
 ·obtain ⟨e,_⟩:=look_idT hj;cases e
 ·obtain ⟨e,_⟩:=look_idT hj;cases e
 ·obtain ⟨e,_⟩:=look_idT hj;cases e
theorem look_dropHp (k:Nat):look (dropHp hp ks) k=if ks.contains k then (look hp k).map (renOb (idT (hp.filter fun x=>ks.contains x.1))) else none:=by
 unfold dropHp
 have:=look_mapv (fun (_:Nat) o=>renOb (idT (hp.filter fun x=>ks.contains x.1)) o) (hp.filter fun x=>ks.contains x.1) k
 simp only [this,look_filter]
 split<;>rfl
theorem Mem.drop (M:Mem F S β hp w) (hk:∀i b,F.β0 i=some b→i∈ks):Mem F S (dropB β ks) (dropHp hp ks) w:=by
 have live:∀{i:Nat},ks.contains i=true→(∀o,look (dropHp hp ks) i=some o→o≠ .dead)→∀o,look hp i=some o→o≠ .dead:=by
  intro i hi h o ho hd
  subst hd
  exact h _ (by rw [look_dropHp,if_pos hi,ho];rfl) rfl
 refine Mem.mk' ⟨M.tab,M.os,M.tape,M.output,M.size,M.keep,fun id o h=> ?_,fun id bi h=> ?_,fun i j bi bj hi hj h1 h2 h3=> ?_,fun i bi hi=>M.own i bi (dropB_some hi).2,M.sub,M.base,M.new,fun i b h1 h2=> ?_⟩ (fun M0=>M.hid.step (fun _ h=>h) (Agr.refl S w) M0.inj (fun id' o' p sz es h1 h2=> ?_) (fun b B _=>⟨rfl,B.ns,B.lt,B.fr,fun i bi hi hl=>B.ap i bi (dropB_some hi).2 (live (dropB_some hi).1 hl)⟩))
 ·rw [look_dropHp] at h
  split at h
  ·rename_i hk'
   obtain ⟨o0,h1,h2⟩:=Option.map_eq_some_iff.1 h
   subst h2
   exact (M.obs id o0 h1).ren drop_tab (by unfold dropB;rw [if_pos hk']) (by rw [obC_id];simp)
  ·cases h
 ·obtain ⟨h1,h2⟩:=dropB_some h
  obtain ⟨o,ho⟩:=M.dom id bi h2
  exact ⟨_,by rw [look_dropHp,if_pos h1,ho];rfl⟩
 ·obtain ⟨a1,a2⟩:=dropB_some hi
  obtain ⟨b1,b2⟩:=dropB_some hj
  exact M.inj i j bi bj a2 b2 (live a1 h1) (live b1 h2) h3
 ·unfold dropB
  rw [if_pos (by simpa using hk i b h2)]
  exact M.giv i b h1 h2
 ·rw [look_dropHp] at h1
  split at h1
  ·rename_i hk'
   obtain ⟨o0,k1,k2⟩:=Option.map_eq_some_iff.1 h1
   subst k2
   have hown:=renOb_own h2
   obtain ⟨v,⟨o2,bi,q1,q2,q3,q4⟩,_⟩:=M.hid.own id' o0 p sz es k1 hown
   exact ⟨id',o0,bi,bi,fun h=>h,k1,hown,q2,by unfold dropB;rw [if_pos hk'];exact q2,rfl,rfl⟩
  ·cases h1
theorem dropSt_at {n:Nat} {st:St} {a:Act} {w:World} (hk:∀i b,F.β0 i=some b→i∈ks) (h:At F n st a w):At F n (dropSt st ks) a w:=by
 obtain ⟨S,β,E,M⟩:=h
 refine ⟨S,dropB β ks,⟨E.1,E.2.1,fun t=> ?_⟩,M.drop hk⟩
 unfold lookD
 have:=look_mapv (fun (_:Nat) x=>dropAV st.hp ks x) st.env t
 simp only [dropSt,this]
 have hv:=E.2.2 t
 unfold lookD at hv
 cases hl:look st.env t with
 |none=>exact .dead _
 |some x=>
  rw [hl] at hv
  exact hv.ren drop_tab (by rw [renC_id];simp)
end
end
section
mutual
def idsOf:AV→List Nat
 | .agg cs=>idsOfL cs
 | .tup cs=>idsOfL cs
 | .clo _ a b=>idsOfL a++idsOfL b
 | .iface _ v=>idsOf v
 | .row id _ _=>[id]
 | .elt id _ _=>[id]
 | .map id=>[id]
 |_=>[]
def idsOfL:List AV→List Nat
 |[]=>[]
 |x::r=>idsOf x++idsOfL r
end
def idsOb:Ob→List Nat
 | .var cs=>idsOfL cs
 | .row _ es=>idsOfL es
 | .map ks vs=>idsOfL ks++idsOfL vs
 | .dead=>[]
def hasN (k:Nat):List Nat→Bool
 |[]=>false
 |i::r=>bif Nat.beq i k then true else hasN k r
def reach (hp:List (Nat×Ob)):Nat→List Nat→List Nat→List Nat
 |0,_,done=>done
 |_+1,[],done=>done
 |f+1,id::r,done=>bif hasN id done then reach hp f r done else
  match look hp id with
  |some .dead=>reach hp f r done
  |some o=>reach hp f (idsOb o++r) (id::done)
  |none=>reach hp f r done
def appendDir (h:Nat→Option Ob) (x:AV):Nat→List Dir
 |0=>[.is false]
 |n+1=>match x with
  | .row id 0 len=>(match h id with
    |some (.row _ es)=>if len+n<es.length then [.text ⟨#[]⟩] else [.is true]
    |_=>[.is true])
  |_=>[.is true]
def oracle (h:Nat→Option Ob) (op:Op) (vs:List AV):List Dir:=
 match op,vs with
 | .load _ _,[.elt id k _]=>(match h id with
   |some (.row _ es)=>(match es[k]? with
    |some e=>[.elt e]
    |none=>[])
   |_=>[])
 | .store _ _ _,[.elt id k _,_]=>(match h id with
   |some (.row _ es)=>(match es[k]? with
    |some e=>[.elt e]
    |none=>[])
   |_=>[])
 | .indexAddr _ _ _,[.seq es _,.int _ n]=>(match es[n.toNat]? with
   |some e=>[.elt e]
   |none=>[])
 | .index _ _ _,[.str s,.int _ n]=>(match s.data.toList[n.toNat]? with
   |some b=>[.elt (.int .u8 b.toNat)]
   |none=>[])
 | .binOp _ _ _ _ _,_=>[.keep]
 | .convert _ _ _,[.row id _ len]=>(match h id with
   |some (.row _ es)=>[.text ⟨((es.take len).map fun e=>match e with
    | .int _ n=>UInt8.ofNat n.toNat
    |_=>0).toArray⟩]
   |_=>[])
 | .call ⟨.builtin .append,_,_⟩,[x,.seq es _]=>appendDir h x es.length
 | .call ⟨.builtin .append,_,_⟩,[x,.row id off len]=>(match h id with
   |some (.row _ es)=>appendDir h x ((es.drop off).take len).length
   |_=>[])
 |_,_=>[]
def callOf (op:Op) (vs:List AV):Option (FuncId×List AV):=
 match op,vs with
 | .call ⟨.value _,_,_⟩,.clo g first cap::args=>some (g,first++args++cap)
 |_,_=>none
def prePairs (hp:List (Nat×Ob)) (rd:List Nat):List (Nat×Ob):=rd.map fun id=>(id,(look hp id).getD .dead)
abbrev Handler:=FuncId→List AV→List (Nat×Ob)→Nat→Option (AV×List (Nat×Ob)×Nat)
def stepI (P:Program) (H:Handler) (base:Nat) (ops:Array Oper) (o:Oper) (st:St) (nb:Nat):Option (Res×List Nat×List Dir×Nat):=
 match wantA ops o st.env with
 |some true=>
  match callOf o.op (o.op.operands.toList.map (evalA st.env)) with
  |some (g,as1)=>
   match H g as1 (prePairs st.hp (reach st.hp 100000 (idsOfL as1) [])) nb with
   |some (r,upd,nb')=>
    match (evalOp P (base+o.dst.getD 0) o.op (o.op.operands.toList.map (evalA st.env)) [.call r (reach st.hp 100000 (idsOfL as1) []) upd]).run (look st.hp) with
    |some (res,rd)=>some (res,rd,[.call r (reach st.hp 100000 (idsOfL as1) []) upd],nb')
    |none=>none
   |none=>none
  |none=>
   match (evalOp P (base+o.dst.getD 0) o.op (o.op.operands.toList.map (evalA st.env)) (oracle (look st.hp) o.op (o.op.operands.toList.map fun x=>unNil (evalA st.env x)))).run (look st.hp) with
   |some (res,rd)=>if res.cs.all (fun c=>c.b)=true then some (res,rd,oracle (look st.hp) o.op (o.op.operands.toList.map fun x=>unNil (evalA st.env x)),nb) else none
   |none=>none
 |some false=>some ({v:= .tup [],sc:=[]},[],[],nb)
 |none=>none
def Handler.ok (P:Program) (H:Handler):Prop:=∀g as1 pre nb r upd nb',H g as1 pre nb=some (r,upd,nb')→Spec P g as1 pre r upd
section
variable {P:Program} {ops:Array Oper} {n:Nat}
theorem pairs_eq {hp:List (Nat×Ob)}:∀(pre:List (Nat×Ob)),(∀id o,(id,o)∈pre→look hp id=some o)→pre=prePairs hp (pre.map (·.1))
 |[],_=>rfl
 |(i,o)::r,h=>by
  have h1:=h i o (by simp)
  have h2:=pairs_eq r fun id o' hm=>h id o' (List.mem_cons_of_mem _ hm)
  show (i,o)::r=(i,(look hp i).getD .dead)::prePairs hp (r.map (·.1))
  rw [h1,←h2]
  rfl
theorem call_cs {d:Nat} {op:Op} {vs:List AV} {g:FuncId} {as1:List AV} {r:AV} {rd rd':List Nat} {upd hp:List (Nat×Ob)} {res:Res} (hop:callOf op vs=some (g,as1)) (h:(evalOp P d op vs [.call r rd upd]).run (look hp)=some (res,rd')):
  ∀c,c∈res.cs→c.p=Spec P g as1 (prePairs hp rd) r upd:=by
 unfold callOf at hop
 split at hop
 ·rename_i f args ts g' first cap args'
  injection hop with hop
  injection hop with e1 e2
  subst e1;subst e2
  have h':(callA P (.clo g' first cap) args' [.call r rd upd]).run (look hp)=some (res,rd'):=h
  unfold callA at h'
  simp only at h'
  split at h'
  ·split at h'
   ·obtain ⟨pre,rd2,i1,i2,i3⟩:=zips_run _ _ h'
    injection i3 with i3
    injection i3 with i3 _
    subst i3
    intro c hc
    have:=List.mem_singleton.1 hc
    subst this
    show Spec P g' (first++args'++cap) pre r upd=_
    rw [←i1,←pairs_eq pre i2]
   ·cases h'
  ·cases h'
 ·cases hop
theorem stepI_sound {H:Handler} (hH:H.ok P) {base:Nat} {o:Oper} {st:St} {nb nb':Nat} {res:Res} {rd:List Nat} {sc:List Dir} (h:stepI P H base ops o st nb=some (res,rd,sc,nb')):
  (∃sc,stepA P base ops o sc st=some (res,rd))∧∀c,c∈res.cs→c.p:=by
 unfold stepI at h
 split at h
 ·rename_i hw
  split at h
  ·rename_i g as1 hcall
   split at h
   ·rename_i r upd nb2 hh
    split at h
    ·rename_i res' rd2 hrun
     injection h with h
     simp only [Prod.mk.injEq] at h
     obtain ⟨rfl,rfl,rfl,rfl⟩:=h
     refine ⟨⟨_,by unfold stepA;rw [hw];exact hrun⟩,fun c hc=> ?_⟩
     rw [call_cs hcall hrun c hc]
     exact hH _ _ _ _ _ _ _ hh
    ·cases h
   ·cases h
  ·split at h
   ·rename_i res' rd2 hrun
    split at h
    ·rename_i hall
     injection h with h
     simp only [Prod.mk.injEq] at h
     obtain ⟨rfl,rfl,rfl,rfl⟩:=h
     exact ⟨⟨_,by unfold stepA;rw [hw];exact hrun⟩,fun c hc=>c.h (List.all_eq_true.1 hall c hc)⟩
    ·cases h
   ·cases h
 ·rename_i hw
  injection h with h
  simp only [Prod.mk.injEq] at h
  obtain ⟨rfl,rfl,rfl,rfl⟩:=h
  exact ⟨⟨[],by unfold stepA;rw [hw]⟩,by simp⟩
 ·cases h
def runOpsI (P:Program) (H:Handler) (base:Nat) (ops:Array Oper):List Oper→St→Nat→Option (St×List Eff×Nat)
 |[],st,nb=>some (st,[],nb)
 |o::r,st,nb=>match stepI P H base ops o st nb with
  |some (res,rd,_,nb1)=>
   if res.new.all (fun id=>(look st.hp id).isNone) then
    match runOpsI P H base ops r ⟨putD st.env o.dst res.v,putAll st.hp res.upd⟩ nb1 with
    |some (st',es,nb2)=>some (st',{dst:=o.dst,v:=res.v,upd:=res.upd,new:=res.new,rd:=rd,looks:=o.looksAt ops}::es,nb2)
    |none=>none
   else none
  |none=>none
theorem runOpsI_chain {H:Handler} (hH:H.ok P) {base:Nat}:∀{l:List Oper} {k nb nb':Nat} {st st':St} {es:List Eff},(∀i o,l[i]? =some o→ops[k+i]? =some o)→runOpsI P H base ops l st nb=some (st',es,nb')→
  es.length=l.length∧Chain P ops st ((List.range' k es.length).zip es)∧apAll st ((List.range' k es.length).zip es)=st':=by
 intro l
 induction l with
 |nil=>
  intro k nb nb' st st' es _ h
  simp only [runOpsI] at h
  injection h with h
  simp only [Prod.mk.injEq] at h
  obtain ⟨h1,h2,h3⟩:=h
  subst h1;subst h2
  exact ⟨rfl,trivial,rfl⟩
 |cons o r ih=>
  intro k nb nb' st st' es ho h
  simp only [runOpsI] at h
  cases hs:stepI P H base ops o st nb with
  |none=>rw [hs] at h;cases h
  |some x=>
   obtain ⟨res,rd,sc0,nb1⟩:=x
   rw [hs] at h
   simp only at h
   split at h
   ·rename_i hnew
    cases hr:runOpsI P H base ops r ⟨putD st.env o.dst res.v,putAll st.hp res.upd⟩ nb1 with
    |none=>rw [hr] at h;cases h
    |some y=>
     obtain ⟨s2,e2,n2⟩:=y
     rw [hr] at h
     injection h with h
     simp only [Prod.mk.injEq] at h
     obtain ⟨h1,h2,h3⟩:=h
     subst h1;subst h2
     obtain ⟨⟨sc,hst⟩,hcs⟩:=stepI_sound hH hs
     obtain ⟨i1,i2,i3⟩:=ih (k:=k+1) (fun i o' hi=>by have:=ho (i+1) o' (by simpa using hi);rw [←this];congr 1;omega) hr
     refine ⟨by simp [i1],?_,?_⟩
     ·simp only [List.length_cons,List.range'_succ,List.zip_cons_cons]
      refine ⟨⟨o,base,sc,res,rd,ho 0 o rfl,hst,hcs,fun id hid=> ?_,rfl⟩,i2⟩
      have:=List.all_eq_true.1 hnew id hid
      simpa using this
     ·simp only [List.length_cons,List.range'_succ,List.zip_cons_cons]
      exact i3
   ·cases h
def regionI (P:Program) (H:Handler) (n:Nat) (ops:Array Oper) (draw:Bool) (st:St) (nb:Nat):Option (St×Nat):=
 if dstsIn n ops then
  match runOpsI P H nb ops ops.toList st (nb+n) with
  |some (st',es,nb')=>match draw with
   |false=>some (st',nb')
   |true=>match masks .any ops.toList [] with
    |some ms=>if pairsOK es ms then some (st',nb') else none
    |none=>none
  |none=>none
 else none
theorem regionI_sound {H:Handler} (hH:H.ok P) {F:Fr} {id:Nat} {draw:Bool} {st st':St} {nb nb':Nat} {Q:Exit→Act→World→Prop} {a:Act} {w:World} (hmix:P.follows .mixedOrders=true)
  (h:regionI P H n ops draw st nb=some (st',nb')) (hQ:∀a w,At F n st' a w→Q .normal a w) (hA:At F n st a w):(Code.region id ops draw).wp P Q a w:=by
 unfold regionI at h
 split at h
 ·rename_i hdst
  have hd:=dstsIn_spec hdst
  cases hr:runOpsI P H nb ops ops.toList st (nb+n) with
  |none=>rw [hr] at h;cases h
  |some x=>
   obtain ⟨s,es,d⟩:=x
   rw [hr] at h
   simp only at h
   obtain ⟨l1,l2,l3⟩:=runOpsI_chain hH (k:=0) (fun i o hi=>by simpa using hi) hr
   have hmap:((List.range' 0 es.length).zip es).map (·.1)=List.range ops.size:=by
    rw [List.map_fst_zip (by simp),List.range_eq_range',l1]
    simp
   cases draw with
   |false=>
    simp only at h
    injection h with h
    simp only [Prod.mk.injEq] at h
    obtain ⟨h1,h2⟩:=h
    subst h1
    refine wp_region ?_
    rw [←hmap]
    exact chain_ordered hd _ st a w l2 (by rw [l3];exact hQ) hA
   |true=>
    cases hm:masks .any ops.toList [] with
    |none=>rw [hm] at h;cases h
    |some ms=>
     rw [hm] at h
     simp only at h
     split at h
     ·rename_i hp
      injection h with h
      simp only [Prod.mk.injEq] at h
      obtain ⟨h1,h2⟩:=h
      subst h1
      refine wp_region_any hmix ?_
      have hsz:((List.range' 0 es.length).zip es).length=ops.size:=by simp [l1]
      rw [←hsz]
      refine any_sound (masks_ok hm) hd s hQ _ _ st a _ (by simp [hsz]) ?_ (pairs_spec hp) ?_ ?_ l2 (by rw [l3];exact .refl _) (hA.drew _)
      ·intro j o hj hl
       rw [Array.getD_eq_getD_getElem?,Array.getElem?_replicate] at hl
       split at hl<;>simp at hl
      ·intro i hi
       rw [hmap]
       simp only [List.mem_range,hi,iff_true]
       rw [Array.getD_eq_getD_getElem?,Array.getElem?_replicate]
       simp [l1,hi]
      ·intro i hi
       rw [hmap] at hi
       exact List.mem_range.1 hi
     ·cases h
 ·cases h
def Ob.beq:Ob→Ob→Bool
 | .var a,.var b=>AV.beqL a b
 | .row s a,.row t b=>decide (s=t)&&AV.beqL a b
 | .map a c,.map b d=>AV.beqL a b&&AV.beqL c d
 | .dead,.dead=>true
 |_,_=>false
theorem Ob.beq_eq {x y:Ob} (h:Ob.beq x y=true):x=y:=by
 cases x<;>cases y<;>simp only [Ob.beq,Bool.and_eq_true,decide_eq_true_eq] at h
 ·rw [AV.beqL_eq _ _ h]
 ·cases h
 ·cases h
 ·cases h
 ·cases h
 ·rw [h.1,AV.beqL_eq _ _ h.2]
 ·cases h
 ·cases h
 ·cases h
 ·cases h
 ·rw [AV.beqL_eq _ _ h.1,AV.beqL_eq _ _ h.2]
 ·cases h
 ·cases h
 ·cases h
 ·cases h
 ·rfl
def orH (K H:Handler):Handler:=fun g as1 pre nb=>match K g as1 pre nb with
 |some r=>some r
 |none=>H g as1 pre nb
theorem orH_ok {K H:Handler} (hK:K.ok P) (hH:H.ok P):(orH K H).ok P:=by
 intro g as1 pre nb r upd nb' h
 unfold orH at h
 split at h
 ·rename_i x hx
  injection h with h
  subst h
  exact hK g as1 pre nb r upd nb' hx
 ·exact hH g as1 pre nb r upd nb' h
def noH:Handler:=fun _ _ _ _=>none
theorem noH_ok:noH.ok P:=by intro g as1 pre nb r upd nb' h;cases h
def entryOK (as1:List AV) (pre:List (Nat×Ob)):Bool:=preOK pre&&AV.beqL (renL (idT pre) as1) as1&&pre.all fun x=>Ob.beq (renOb (idT pre) x.2) x.2
def exitKeep (pre:List (Nat×Ob)) (hp:List (Nat×Ob)) (ids:List Nat) (r:Option AV):List Nat:=
 reach hp 100000 (pre.map (·.1)++ids++(match r with
  |some v=>idsOf v
  |none=>[])) []++pre.map (·.1)
def resIds (st:St):List ResultVar→List Nat
 |[]=>[]
 | .cell a _::r=>idsOf (lookD st.env a)++resIds st r
 | .tmp _::r=>resIds st r
def callH (P:Program) (run:List Nat→Code→Nat→St→Nat→Option (Out×St×Nat)):Handler:=fun g as1 pre nb=>
 match P.funcs[g]? with
 |some fn=>match fn.body with
  |some c=>
   if entryOK as1 pre=true then
    match run (pre.map (·.1)) c (as1.length+(fn.ntmps-as1.length)) ⟨argEnv 0 as1,pre⟩ nb with
    |some (.exit _,_,_)=>none
    |some (_,st1,nb')=>
     let st':=dropSt st1 (exitKeep pre st1.hp (resIds st1 fn.results.toList) (resA P st1 fn.results.toList))
     if uniqK st'.hp=true then
      match resA P st' fn.results.toList with
      |some r=>some (r,st'.hp,nb')
      |none=>none
     else none
    |none=>none
   else none
  |none=>none
 |none=>none
theorem callH_ok {run:List Nat→Code→Nat→St→Nat→Option (Out×St×Nat)} (hrun:∀ks c n st nb e st' nb',run ks c n st nb=some (e,st',nb')→RunsK P n ks c st e st'):Handler.ok P (callH P run):=by
 intro g as1 pre nb r upd nb' h
 unfold callH at h
 split at h
 ·rename_i fn hf
  split at h
  ·rename_i c hb
   split at h
   ·rename_i hen
    unfold entryOK at hen
    simp only [Bool.and_eq_true] at hen
    have hobs:∀id o,(id,o)∈pre→renOb (idT pre) o=o:=fun id o hm=>Ob.beq_eq (List.all_eq_true.1 hen.2 _ hm)
    split at h
    ·cases h
    ·rename_i e st1 nb1 hne hr
     simp only at h
     split at h
     ·rename_i huq
      split at h
      ·rename_i r' hres
       injection h with h
       simp only [Prod.mk.injEq] at h
       obtain ⟨rfl,rfl,rfl⟩:=h
       refine Spec.gen hf hb hen.1.1 huq (AV.beqL_eq _ _ hen.1.2) hobs (e:=e) ?_ ?_ hres
       ·intro F a w hk hA
        refine wp_mono (hrun _ _ _ _ _ _ _ _ hr F a w hk hA) fun e' a' w' ⟨h1,h2⟩=>⟨h1,dropSt_at (fun i b hi=> ?_) h2⟩
        exact List.mem_append_right _ (hk i b hi)
       ·cases e with
        |normal=>exact .inl rfl
        |ret=>exact .inr rfl
        |exit i=>exact (hne i rfl).elim
      ·cases h
     ·cases h
    ·cases h
   ·cases h
  ·cases h
 ·cases h
def runI (P:Program) (K:Handler):Nat→List Nat→Code→Nat→St→Nat→Option (Out×St×Nat)
 |0,_,_,_,_,_=>none
 |f+1,ks,c,n,st,nb=>match c with
  | .skip=>some (.normal,st,nb)
  | .label _=>some (.normal,st,nb)
  | .exit id=>some (.exit id,st,nb)
  | .ret=>some (.ret,st,nb)
  | .region _ ops draw=>match regionI P (orH K (callH P (runI P K f))) n ops draw st nb with
    |some (st',nb')=>some (.normal,st',nb')
    |none=>none
  | .seq a b=>match runI P K f ks a n st nb with
    |some (.normal,st',nb')=>runI P K f ks b n st' nb'
    |some (.exit id,st',nb')=>some (.exit id,st',nb')
    |some (.ret,st',nb')=>some (.ret,st',nb')
    |none=>none
  | .cond o a b=>match evalA st.env o with
    | .bool true=>runI P K f ks a n st nb
    | .bool false=>runI P K f ks b n st nb
    |_=>none
  | .block id b=>match runI P K f ks b n st nb with
    |some (.exit i,st',nb')=>if i=id then some (.normal,st',nb') else some (.exit i,st',nb')
    |some (.normal,st',nb')=>some (.normal,st',nb')
    |some (.ret,st',nb')=>some (.ret,st',nb')
    |none=>none
  | .loop b=>match runI P K f ks b n st nb with
    |some (.normal,st',nb')=>runI P K f ks (.loop b) n (dropSt st' (reach st'.hp 100000 (ks++idsOfL (st'.env.map (·.2))) []++ks)) nb'
    |some (.exit i,st',nb')=>some (.exit i,st',nb')
    |some (.ret,st',nb')=>some (.ret,st',nb')
    |none=>none
  |_=>none
def LoopsK (P:Program) (n:Nat) (ks:List Nat) (c:Code) (st:St) (e:Out) (st':St):Prop:=
 ∃k,∀(F:Fr) (a:Act) (w:World),(∀i b,F.β0 i=some b→i∈ks)→At F n st a w→Code.rounds P c (fun e' a' w'=>e'=e.x∧At F n st' a' w') k a w
theorem LoopsK.leave {n:Nat} {ks:List Nat} {c:Code} {st st':St} {e:Out} (h:RunsK P n ks c st e st') (he:e≠ .normal):LoopsK P n ks c st e st':=by
 refine ⟨1,fun F a w hk x=> ?_⟩
 rw [rounds_succ]
 refine wp_mono (h F a w hk x) fun e' a' w' hh=> ?_
 obtain ⟨h1,h2⟩:=hh
 subst h1
 cases e with
 |normal=>exact absurd rfl he
 |exit id=>exact ⟨rfl,h2⟩
 |ret=>exact ⟨rfl,h2⟩
theorem wp_ofK {n:Nat} {ks:List Nat} {st st':St} {e:Out} {c:Code} {Q:Exit→Act→World→Prop} {F:Fr} {a:Act} {w:World} (h:RunsK P n ks c st e st') (hk:∀i b,F.β0 i=some b→i∈ks) (hA:At F n st a w) (hQ:∀a w,At F n st' a w→Q e.x a w):c.wp P Q a w:=
 wp_mono (h F a w hk hA) fun e' a' w' ⟨h1,h2⟩=>by rw [h1];exact hQ a' w' h2
set_option maxHeartbeats 1000000 in
theorem runI_sound {K:Handler} (hK:K.ok P) (hmix:P.follows .mixedOrders=true):∀(f:Nat),
  (∀(ks:List Nat) (c:Code) (n:Nat) (st:St) (nb:Nat) (e:Out) (st':St) (nb':Nat),runI P K f ks c n st nb=some (e,st',nb')→RunsK P n ks c st e st')∧
  (∀(ks:List Nat) (c:Code) (n:Nat) (st:St) (nb:Nat) (e:Out) (st':St) (nb':Nat),runI P K f ks (.loop c) n st nb=some (e,st',nb')→LoopsK P n ks c st e st'):=by
 intro f
 induction f with
 |zero=>exact ⟨fun ks c n st nb e st' nb' h=>(by cases h),fun ks c n st nb e st' nb' h=>(by cases h)⟩
 |succ f ih=>
  obtain ⟨ih1,ih2⟩:=ih
  have hH:Handler.ok P (orH K (callH P (runI P K f))):=orH_ok hK (callH_ok ih1)
  have loops:∀(ks:List Nat) (c:Code) (n:Nat) (st:St) (nb:Nat) (e:Out) (st':St) (nb':Nat),runI P K (f+1) ks (.loop c) n st nb=some (e,st',nb')→LoopsK P n ks c st e st':=by
   intro ks c n st nb e st' nb' h
   simp only [runI] at h
   cases hb:runI P K f ks c n st nb with
   |none=>rw [hb] at h;cases h
   |some r=>
    obtain ⟨e1,s1,n1⟩:=r
    rw [hb] at h
    have hr:=ih1 _ _ _ _ _ _ _ _ hb
    cases e1 with
    |normal=>
     simp only at h
     obtain ⟨m,hm⟩:=ih2 _ _ _ _ _ _ _ _ h
     refine ⟨m+1,fun F a w hk x=> ?_⟩
     rw [rounds_succ]
     refine wp_mono (hr F a w hk x) fun e' a' w' hh=> ?_
     obtain ⟨h1,h2⟩:=hh
     subst h1
     exact hm F a' w' hk (dropSt_at (fun i b hi=>List.mem_append_right _ (hk i b hi)) h2)
    |exit i=>
     injection h with h;simp only [Prod.mk.injEq] at h;obtain ⟨rfl,rfl,rfl⟩:=h
     exact .leave hr (by simp)
    |ret=>
     injection h with h;simp only [Prod.mk.injEq] at h;obtain ⟨rfl,rfl,rfl⟩:=h
     exact .leave hr (by simp)
  refine ⟨?_,loops⟩
  intro ks c n st nb e st' nb' h
  cases c with
  |skip=>
   injection h with h;simp only [Prod.mk.injEq] at h;obtain ⟨rfl,rfl,rfl⟩:=h
   exact fun F a w hk hA=>wp_skip ⟨rfl,hA⟩
  |label l=>
   injection h with h;simp only [Prod.mk.injEq] at h;obtain ⟨rfl,rfl,rfl⟩:=h
   exact fun F a w hk hA=>wp_label ⟨rfl,hA⟩
  |exit id=>
   injection h with h;simp only [Prod.mk.injEq] at h;obtain ⟨rfl,rfl,rfl⟩:=h
   exact fun F a w hk hA=>wp_exit ⟨rfl,hA⟩
  |ret=>
   injection h with h;simp only [Prod.mk.injEq] at h;obtain ⟨rfl,rfl,rfl⟩:=h
   exact fun F a w hk hA=>wp_ret ⟨rfl,hA⟩
  |region id ops draw=>
   simp only [runI] at h
   cases hr:regionI P (orH K (callH P (runI P K f))) n ops draw st nb with
   |none=>rw [hr] at h;cases h
   |some x=>
    obtain ⟨s,n1⟩:=x
    rw [hr] at h
    injection h with h;simp only [Prod.mk.injEq] at h;obtain ⟨rfl,rfl,rfl⟩:=h
    exact fun F a w hk hA=>regionI_sound hH hmix hr (fun a w h=>⟨rfl,h⟩) hA
  |seq x y=>
   simp only [runI] at h
   cases hx:runI P K f ks x n st nb with
   |none=>rw [hx] at h;cases h
   |some r=>
    obtain ⟨e1,s1,n1⟩:=r
    rw [hx] at h
    have h1:=ih1 _ _ _ _ _ _ _ _ hx
    cases e1 with
    |normal=>
     simp only at h
     have h2:=ih1 _ _ _ _ _ _ _ _ h
     exact fun F a w hk hA=>wp_seq (wp_ofK h1 hk hA fun a' w' hA'=>h2 F a' w' hk hA')
    |exit i=>
     injection h with h;simp only [Prod.mk.injEq] at h;obtain ⟨rfl,rfl,rfl⟩:=h
     exact fun F a w hk hA=>wp_seq (wp_ofK h1 hk hA fun a' w' hA'=>⟨rfl,hA'⟩)
    |ret=>
     injection h with h;simp only [Prod.mk.injEq] at h;obtain ⟨rfl,rfl,rfl⟩:=h
     exact fun F a w hk hA=>wp_seq (wp_ofK h1 hk hA fun a' w' hA'=>⟨rfl,hA'⟩)
  |cond o x y=>
   simp only [runI] at h
   intro F a w hk hA
   obtain ⟨S,β,E,M⟩:=hA
   have hv:=evalA_sound E o
   generalize evalA st.env o=X at h hv
   generalize hxx:a.eval o=xv at hv
   cases X with
   |bool b=>
    cases hv with
    |bool b=>
     cases b with
     |true=>exact wp_cond_true hxx (ih1 _ _ _ _ _ _ _ _ h F a w hk ⟨S,β,E,M⟩)
     |false=>exact wp_cond_false hxx (ih1 _ _ _ _ _ _ _ _ h F a w hk ⟨S,β,E,M⟩)
   |_=>cases h
  |block id body=>
   simp only [runI] at h
   cases hb:runI P K f ks body n st nb with
   |none=>rw [hb] at h;cases h
   |some r=>
    obtain ⟨e1,s1,n1⟩:=r
    rw [hb] at h
    have h1:=ih1 _ _ _ _ _ _ _ _ hb
    intro F a w hk hA
    refine wp_block ?_
    cases e1 with
    |exit i=>
     simp only at h
     by_cases hi:i=id
     ·rw [if_pos hi] at h
      injection h with h;simp only [Prod.mk.injEq] at h;obtain ⟨rfl,rfl,rfl⟩:=h
      refine wp_ofK h1 hk hA fun a' w' hA'=> ?_
      simp only [Out.x,Exit.inBlock,if_pos hi]
      exact ⟨trivial,hA'⟩
     ·rw [if_neg hi] at h
      injection h with h;simp only [Prod.mk.injEq] at h;obtain ⟨rfl,rfl,rfl⟩:=h
      refine wp_ofK h1 hk hA fun a' w' hA'=> ?_
      simp only [Out.x,Exit.inBlock,if_neg hi]
      exact ⟨trivial,hA'⟩
    |normal=>
     injection h with h;simp only [Prod.mk.injEq] at h;obtain ⟨rfl,rfl,rfl⟩:=h
     exact wp_ofK h1 hk hA fun a' w' hA'=>⟨rfl,hA'⟩
    |ret=>
     injection h with h;simp only [Prod.mk.injEq] at h;obtain ⟨rfl,rfl,rfl⟩:=h
     exact wp_ofK h1 hk hA fun a' w' hA'=>⟨rfl,hA'⟩
  |loop body=>
   obtain ⟨m,hm⟩:=loops ks body n st nb e st' nb' h
   exact fun F a w hk hA=>wp_loop_rounds m (hm F a w hk hA)
  |_=>cases h
theorem spec_run {K:Handler} (hK:K.ok P) (hmix:P.follows .mixedOrders=true) {f:Nat} {g:FuncId} {as1:List AV} {pre:List (Nat×Ob)} {nb nb':Nat} {r:AV} {upd:List (Nat×Ob)} (h:callH P (runI P K f) g as1 pre nb=some (r,upd,nb')):Spec P g as1 pre r upd:=
 callH_ok (runI_sound hK hmix f).1 g as1 pre nb r upd nb' h
end
end
section
section
variable {P:Program} {n:Nat} {st st1 st':St} {e:Out} {c:Code}
def regMark (ops:Array Oper):Nat:=match ops.toList with
 |o::_=>match o.dst with
  |some d=>d
  |none=>99999
 |[]=>99999
def condMark:Operand→Nat
 | .tmp t=>100000+t
 |_=>99999
def toldA (mk:Nat):List Dir→Option (Out×St×List Dir)
 | .tell m e env hp::sc=>bif Nat.beq m mk then some (e,⟨env,hp⟩,sc) else none
 |_=>none
def pruneA (sc:List Dir) (st:St):Option (St×List Prop×List Dir):=match sc with
 | .cut slots tb::sc=>match renSt slots tb st with
   |some (st1,cs)=>some (st1,cs,sc)
   |none=>none
 |sc=>some (st,[],sc)
def tellA (mk:Nat) (sc:List Dir) (st:St):Option (St×List Prop×Out×St×List Dir):=match pruneA sc st with
 |some (st1,ps,sc1)=>match toldA mk sc1 with
  |some (e,st',sc')=>some (st1,ps,e,st',sc')
  |none=>none
 |none=>none
theorem pruneA_le {sc sc1:List Dir} {ps:List Prop} (h:pruneA sc st=some (st1,ps,sc1)) (hp:∀p,p∈ps→p):Le n st st1:=by
 unfold pruneA at h
 split at h
 ·split at h
  ·rename_i hr
   injection h with h;simp only [Prod.mk.injEq] at h;obtain ⟨rfl,rfl,rfl⟩:=h
   exact renSt_le hr hp
  ·cases h
 ·injection h with h;simp only [Prod.mk.injEq] at h;obtain ⟨rfl,rfl,rfl⟩:=h
  exact Le.refl st
theorem tellA_le {mk:Nat} {sc sc':List Dir} {ps:List Prop} (h:tellA mk sc st=some (st1,ps,e,st',sc')) (hp:∀p,p∈ps→p):Le n st st1:=by
 unfold tellA at h
 split at h
 ·rename_i hc
  split at h
  ·injection h with h;simp only [Prod.mk.injEq] at h;obtain ⟨rfl,rfl,rfl,rfl,rfl⟩:=h
   exact pruneA_le hc hp
  ·cases h
 ·cases h
def evalC (P:Program) (n base:Nat):Code→List Dir→St→Option (Out×St×List Cond×List Dir)
 | .skip,sc,st=>some (.normal,st,[],sc)
 | .label _,sc,st=>some (.normal,st,[],sc)
 | .exit id,sc,st=>some (.exit id,st,[],sc)
 | .ret,sc,st=>some (.ret,st,[],sc)
 | .region id ops draw,sc,st=>match tellA (regMark ops) sc st with
   |some (st1,ps,e,st',sc)=>some (e,st',ps.map rawC++[rawC (Runs P n (.region id ops draw) st1 e st')],sc)
   |none=>match regionA P n base ops draw sc st with
    |some (st',cs,sc')=>some (.normal,st',cs,sc')
    |none=>none
 | .seq a b,sc,st=>match evalC P n base a sc st with
   |some (.normal,st',cs,sc')=>match evalC P n base b sc' st' with
    |some (e,st'',cs',sc'')=>some (e,st'',cs++cs',sc'')
    |none=>none
   |some (.exit id,st',cs,sc')=>some (.exit id,st',cs,sc')
   |some (.ret,st',cs,sc')=>some (.ret,st',cs,sc')
   |none=>none
 | .cond c x y,sc,st=>match tellA (condMark c) sc st with
   |some (st1,ps,e,st',sc)=>some (e,st',ps.map rawC++[rawC (Runs P n (.cond c x y) st1 e st')],sc)
   |none=>match sc with
    | .part e env hp::sc=>some (e,⟨env,hp⟩,[rawC (Runs P n (.cond c x y) st e ⟨env,hp⟩)],sc)
    |sc=>match evalA st.env c with
     | .bool true=>evalC P n base x sc st
     | .bool false=>evalC P n base y sc st
     |_=>none
 | .block id body,sc,st=>match tellA (200000+id) sc st with
   |some (st1,ps,e,st',sc)=>some (e,st',ps.map rawC++[rawC (Runs P n (.block id body) st1 e st')],sc)
   |none=>match sc with
    | .part e env hp::sc=>some (e,⟨env,hp⟩,[rawC (Runs P n (.block id body) st e ⟨env,hp⟩)],sc)
    |sc=>match evalC P n base body sc st with
     |some (.exit i,st',cs,sc')=>if i=id then some (.normal,st',cs,sc') else some (.exit i,st',cs,sc')
     |some (.normal,st',cs,sc')=>some (.normal,st',cs,sc')
     |some (.ret,st',cs,sc')=>some (.ret,st',cs,sc')
     |none=>none
 | .loop body,sc,st=>match pruneA sc st with
   |some (st1,ps,.sum e env hp::sc)=>some (e,⟨env,hp⟩,ps.map rawC++[rawC (Loops P n body st1 e ⟨env,hp⟩)],sc)
   |_=>none
 |_,_,_=>none
set_option maxHeartbeats 1000000 in
theorem evalC_sound {base:Nat} (hmix:P.follows .mixedOrders=true):∀(c:Code) {sc sc':List Dir} {st st':St} {e:Out} {cs:List Cond},evalC P n base c sc st=some (e,st',cs,sc')→(∀p,p∈cs→p.p)→Runs P n c st e st':=by
 intro c
 induction c with
 |skip=>
  intro sc sc' st st' e cs h hc F a w hA
  injection h with h;simp only [Prod.mk.injEq] at h;obtain ⟨rfl,rfl,rfl,rfl⟩:=h
  exact wp_skip ⟨rfl,hA⟩
 |label l=>
  intro sc sc' st st' e cs h hc F a w hA
  injection h with h;simp only [Prod.mk.injEq] at h;obtain ⟨rfl,rfl,rfl,rfl⟩:=h
  exact wp_label ⟨rfl,hA⟩
 |exit id=>
  intro sc sc' st st' e cs h hc F a w hA
  injection h with h;simp only [Prod.mk.injEq] at h;obtain ⟨rfl,rfl,rfl,rfl⟩:=h
  exact wp_exit ⟨rfl,hA⟩
 |ret=>
  intro sc sc' st st' e cs h hc F a w hA
  injection h with h;simp only [Prod.mk.injEq] at h;obtain ⟨rfl,rfl,rfl,rfl⟩:=h
  exact wp_ret ⟨rfl,hA⟩
 |region id ops draw=>
  intro sc sc' st st' e cs h hc
  unfold evalC at h
  split at h
  ·rename_i ht
   injection h with h;simp only [Prod.mk.injEq] at h;obtain ⟨rfl,rfl,rfl,rfl⟩:=h
   exact Runs.pre (hc (rawC _) (List.mem_append_right _ (List.mem_singleton.2 rfl))) (tellA_le ht fun p hp=>hc (rawC p) (List.mem_append_left _ (List.mem_map.2 ⟨p,hp,rfl⟩)))
  ·intro F a w hA
   cases hr:regionA P n base ops draw sc st with
   |none=>rw [hr] at h;cases h
   |some x=>
    obtain ⟨s,c,d⟩:=x
    rw [hr] at h
    injection h with h;simp only [Prod.mk.injEq] at h;obtain ⟨rfl,rfl,rfl,rfl⟩:=h
    exact region_sound hmix hr hc (fun a w h=>⟨rfl,h⟩) hA
 |seq x y ihx ihy=>
  intro sc sc' st st' e cs h hc F a w hA
  simp only [evalC] at h
  cases hx:evalC P n base x sc st with
  |none=>rw [hx] at h;cases h
  |some r=>
   obtain ⟨e1,s1,c1,d1⟩:=r
   rw [hx] at h
   cases e1 with
   |normal=>
    simp only at h
    cases hy:evalC P n base y d1 s1 with
    |none=>rw [hy] at h;cases h
    |some r2=>
     obtain ⟨e2,s2,c2,d2⟩:=r2
     rw [hy] at h
     injection h with h;simp only [Prod.mk.injEq] at h;obtain ⟨rfl,rfl,rfl,rfl⟩:=h
     refine wp_seq (wp_of (ihx hx fun p hp=>hc p (List.mem_append_left _ hp)) hA fun a' w' hA'=> ?_)
     exact ihy hy (fun p hp=>hc p (List.mem_append_right _ hp)) F a' w' hA'
   |exit id=>
    injection h with h;simp only [Prod.mk.injEq] at h;obtain ⟨rfl,rfl,rfl,rfl⟩:=h
    exact wp_seq (wp_of (ihx hx hc) hA fun a' w' hA'=>⟨rfl,hA'⟩)
   |ret=>
    injection h with h;simp only [Prod.mk.injEq] at h;obtain ⟨rfl,rfl,rfl,rfl⟩:=h
    exact wp_seq (wp_of (ihx hx hc) hA fun a' w' hA'=>⟨rfl,hA'⟩)
 |cond o x y ihx ihy=>
  intro sc sc' st st' e cs h hc
  unfold evalC at h
  split at h
  ·rename_i ht
   injection h with h;simp only [Prod.mk.injEq] at h;obtain ⟨rfl,rfl,rfl,rfl⟩:=h
   exact Runs.pre (hc (rawC _) (List.mem_append_right _ (List.mem_singleton.2 rfl))) (tellA_le ht fun p hp=>hc (rawC p) (List.mem_append_left _ (List.mem_map.2 ⟨p,hp,rfl⟩)))
  split at h
  ·injection h with h;simp only [Prod.mk.injEq] at h;obtain ⟨rfl,rfl,rfl,rfl⟩:=h
   exact hc _ (List.mem_singleton.2 rfl)
  ·intro F a w hA
   obtain ⟨S,β,E,M⟩:=hA
   have hv:=evalA_sound E o
   generalize hX:evalA st.env o=X at h hv
   generalize hxx:a.eval o=xv at hv
   cases X with
   |bool b=>
    cases hv with
    |bool b=>
     cases b with
     |true=>exact wp_cond_true hxx (ihx h hc F a w ⟨S,β,E,M⟩)
     |false=>exact wp_cond_false hxx (ihy h hc F a w ⟨S,β,E,M⟩)
   |_=>cases h
 |block id body ih=>
  intro sc sc' st st' e cs h hc
  unfold evalC at h
  split at h
  ·rename_i ht
   injection h with h;simp only [Prod.mk.injEq] at h;obtain ⟨rfl,rfl,rfl,rfl⟩:=h
   exact Runs.pre (hc (rawC _) (List.mem_append_right _ (List.mem_singleton.2 rfl))) (tellA_le ht fun p hp=>hc (rawC p) (List.mem_append_left _ (List.mem_map.2 ⟨p,hp,rfl⟩)))
  split at h
  ·injection h with h;simp only [Prod.mk.injEq] at h;obtain ⟨rfl,rfl,rfl,rfl⟩:=h
   exact hc _ (List.mem_singleton.2 rfl)
  ·intro F a w hA
   refine wp_block ?_
   cases hb:evalC P n base body sc st with
   |none=>rw [hb] at h;cases h
   |some r=>
    obtain ⟨e1,s1,c1,d1⟩:=r
    rw [hb] at h
    cases e1 with
    |exit i=>
     simp only at h
     by_cases hi:i=id
     ·rw [if_pos hi] at h
      injection h with h;simp only [Prod.mk.injEq] at h;obtain ⟨rfl,rfl,rfl,rfl⟩:=h
      refine wp_of (ih hb hc) hA fun a' w' hA'=> ?_
      simp only [Out.x,Exit.inBlock,if_pos hi]
      exact ⟨trivial,hA'⟩
     ·rw [if_neg hi] at h
      injection h with h;simp only [Prod.mk.injEq] at h;obtain ⟨rfl,rfl,rfl,rfl⟩:=h
      refine wp_of (ih hb hc) hA fun a' w' hA'=> ?_
      simp only [Out.x,Exit.inBlock,if_neg hi]
      exact ⟨trivial,hA'⟩
    |normal=>
     injection h with h;simp only [Prod.mk.injEq] at h;obtain ⟨rfl,rfl,rfl,rfl⟩:=h
     exact wp_of (ih hb hc) hA fun a' w' hA'=>⟨rfl,hA'⟩
    |ret=>
     injection h with h;simp only [Prod.mk.injEq] at h;obtain ⟨rfl,rfl,rfl,rfl⟩:=h
     exact wp_of (ih hb hc) hA fun a' w' hA'=>⟨rfl,hA'⟩
 |loop body ih=>
  intro sc sc' st st' e cs h hc
  unfold evalC at h
  split at h
  ·rename_i ht
   injection h with h;simp only [Prod.mk.injEq] at h;obtain ⟨rfl,rfl,rfl,rfl⟩:=h
   exact (Loops.runs (hc (rawC _) (List.mem_append_right _ (List.mem_singleton.2 rfl)))).pre (pruneA_le ht fun p hp=>hc (rawC p) (List.mem_append_left _ (List.mem_map.2 ⟨p,hp,rfl⟩)))
  ·cases h
 |_=>intro sc sc' st st' e cs h;cases h
end
end
def loopsOf:Code→List Code
 | .seq a b=>loopsOf a++loopsOf b
 | .cond _ a b=>loopsOf a++loopsOf b
 | .block _ a=>loopsOf a
 | .loop a=>a::loopsOf a
 | .scope a=>loopsOf a
 |_=>[]
def bodyOf (f:Func):Code:=f.body.getD .skip
def loopOf (f:Func) (k:Nat):Code:=((loopsOf (bodyOf f))[k]?).getD .skip
def findC (p:Code→Bool):Code→Option Code
 | .seq a b=>(findC p a).or (findC p b)
 | .cond c a b=>if p (.cond c a b)=true then some (.cond c a b) else (findC p a).or (findC p b)
 | .block i a=>if p (.block i a)=true then some (.block i a) else findC p a
 | .region i o d=>if p (.region i o d)=true then some (.region i o d) else none
 | .loop a=>findC p a
 | .scope a=>findC p a
 |_=>none
def isReg (d:Nat):Code→Bool
 | .region _ ops _=>match ops.toList with
   |o::_=>match o.dst with
    |some x=>Nat.beq x d
    |none=>false
   |[]=>false
 |_=>false
def isCond (t:Nat):Code→Bool
 | .cond (.tmp s) _ _=>Nat.beq s t
 |_=>false
def regOf (f:Func) (d:Nat):Code:=(findC (isReg d) (bodyOf f)).getD .skip
def condOf (f:Func) (t:Nat):Code:=(findC (isCond t) (bodyOf f)).getD .skip
def allP:List Prop→Prop
 |[]=>True
 |p::r=>p∧allP r
theorem aC {p:Prop} {cs:List Prop} (h:p) (k:allP cs):allP (p::cs):=⟨h,k⟩
theorem aN:allP []:=trivial
theorem aT {cs:List Prop} (k:allP cs):allP ((true=true)::cs):=⟨rfl,k⟩
abbrev K1 (n:Nat):Nat×Rk:=(n,.keep n true)
abbrev K0 (n:Nat):Nat×Rk:=(n,.keep n false)
theorem rF:false=false:=rfl
theorem rTT:true=true∧true=true:=⟨rfl,rfl⟩
theorem d1 {α:Type} (f:α→AV) (l:List α) (i:Nat) (h:i<l.length):decide ((i:Int)<(↑(l.map f).length:Int))=true:=by simp;omega
theorem rT:true=true:=rfl
theorem nF {b:Bool} (h:b=true):(!b)=false:=by rw [h];rfl
theorem nT {b:Bool} (h:b=false):(!b)=true:=by rw [h];rfl
theorem aC1 {p0:Prop} (h0:p0):allP [p0]:=⟨h0,trivial⟩
theorem aC2 {p0 p1:Prop} (h0:p0) (h1:p1):allP [p0,p1]:=⟨h0,h1,trivial⟩
theorem aC3 {p0 p1 p2:Prop} (h0:p0) (h1:p1) (h2:p2):allP [p0,p1,p2]:=⟨h0,h1,h2,trivial⟩
theorem aC4 {p0 p1 p2 p3:Prop} (h0:p0) (h1:p1) (h2:p2) (h3:p3):allP [p0,p1,p2,p3]:=⟨h0,h1,h2,h3,trivial⟩
theorem aC5 {p0 p1 p2 p3 p4:Prop} (h0:p0) (h1:p1) (h2:p2) (h3:p3) (h4:p4):allP [p0,p1,p2,p3,p4]:=⟨h0,h1,h2,h3,h4,trivial⟩
theorem aC6 {p0 p1 p2 p3 p4 p5:Prop} (h0:p0) (h1:p1) (h2:p2) (h3:p3) (h4:p4) (h5:p5):allP [p0,p1,p2,p3,p4,p5]:=⟨h0,h1,h2,h3,h4,h5,trivial⟩
theorem aC7 {p0 p1 p2 p3 p4 p5 p6:Prop} (h0:p0) (h1:p1) (h2:p2) (h3:p3) (h4:p4) (h5:p5) (h6:p6):allP [p0,p1,p2,p3,p4,p5,p6]:=⟨h0,h1,h2,h3,h4,h5,h6,trivial⟩
theorem aC8 {p0 p1 p2 p3 p4 p5 p6 p7:Prop} (h0:p0) (h1:p1) (h2:p2) (h3:p3) (h4:p4) (h5:p5) (h6:p6) (h7:p7):allP [p0,p1,p2,p3,p4,p5,p6,p7]:=⟨h0,h1,h2,h3,h4,h5,h6,h7,trivial⟩
theorem aC9 {p0 p1 p2 p3 p4 p5 p6 p7 p8:Prop} (h0:p0) (h1:p1) (h2:p2) (h3:p3) (h4:p4) (h5:p5) (h6:p6) (h7:p7) (h8:p8):allP [p0,p1,p2,p3,p4,p5,p6,p7,p8]:=⟨h0,h1,h2,h3,h4,h5,h6,h7,h8,trivial⟩
theorem aC10 {p0 p1 p2 p3 p4 p5 p6 p7 p8 p9:Prop} (h0:p0) (h1:p1) (h2:p2) (h3:p3) (h4:p4) (h5:p5) (h6:p6) (h7:p7) (h8:p8) (h9:p9):allP [p0,p1,p2,p3,p4,p5,p6,p7,p8,p9]:=⟨h0,h1,h2,h3,h4,h5,h6,h7,h8,h9,trivial⟩
theorem aC11 {p0 p1 p2 p3 p4 p5 p6 p7 p8 p9 p10:Prop} (h0:p0) (h1:p1) (h2:p2) (h3:p3) (h4:p4) (h5:p5) (h6:p6) (h7:p7) (h8:p8) (h9:p9) (h10:p10):allP [p0,p1,p2,p3,p4,p5,p6,p7,p8,p9,p10]:=⟨h0,h1,h2,h3,h4,h5,h6,h7,h8,h9,h10,trivial⟩
theorem aC12 {p0 p1 p2 p3 p4 p5 p6 p7 p8 p9 p10 p11:Prop} (h0:p0) (h1:p1) (h2:p2) (h3:p3) (h4:p4) (h5:p5) (h6:p6) (h7:p7) (h8:p8) (h9:p9) (h10:p10) (h11:p11):allP [p0,p1,p2,p3,p4,p5,p6,p7,p8,p9,p10,p11]:=⟨h0,h1,h2,h3,h4,h5,h6,h7,h8,h9,h10,h11,trivial⟩
theorem aC13 {p0 p1 p2 p3 p4 p5 p6 p7 p8 p9 p10 p11 p12:Prop} (h0:p0) (h1:p1) (h2:p2) (h3:p3) (h4:p4) (h5:p5) (h6:p6) (h7:p7) (h8:p8) (h9:p9) (h10:p10) (h11:p11) (h12:p12):allP [p0,p1,p2,p3,p4,p5,p6,p7,p8,p9,p10,p11,p12]:=⟨h0,h1,h2,h3,h4,h5,h6,h7,h8,h9,h10,h11,h12,trivial⟩
theorem aC14 {p0 p1 p2 p3 p4 p5 p6 p7 p8 p9 p10 p11 p12 p13:Prop} (h0:p0) (h1:p1) (h2:p2) (h3:p3) (h4:p4) (h5:p5) (h6:p6) (h7:p7) (h8:p8) (h9:p9) (h10:p10) (h11:p11) (h12:p12) (h13:p13):allP [p0,p1,p2,p3,p4,p5,p6,p7,p8,p9,p10,p11,p12,p13]:=⟨h0,h1,h2,h3,h4,h5,h6,h7,h8,h9,h10,h11,h12,h13,trivial⟩
theorem aC16 {p0 p1 p2 p3 p4 p5 p6 p7 p8 p9 p10 p11 p12 p13 p14 p15:Prop} (h0:p0) (h1:p1) (h2:p2) (h3:p3) (h4:p4) (h5:p5) (h6:p6) (h7:p7) (h8:p8) (h9:p9) (h10:p10) (h11:p11) (h12:p12) (h13:p13) (h14:p14) (h15:p15):allP [p0,p1,p2,p3,p4,p5,p6,p7,p8,p9,p10,p11,p12,p13,p14,p15]:=⟨h0,h1,h2,h3,h4,h5,h6,h7,h8,h9,h10,h11,h12,h13,h14,h15,trivial⟩
theorem aC22 {p0 p1 p2 p3 p4 p5 p6 p7 p8 p9 p10 p11 p12 p13 p14 p15 p16 p17 p18 p19 p20 p21:Prop} (h0:p0) (h1:p1) (h2:p2) (h3:p3) (h4:p4) (h5:p5) (h6:p6) (h7:p7) (h8:p8) (h9:p9) (h10:p10) (h11:p11) (h12:p12) (h13:p13) (h14:p14) (h15:p15) (h16:p16) (h17:p17) (h18:p18) (h19:p19) (h20:p20) (h21:p21):allP [p0,p1,p2,p3,p4,p5,p6,p7,p8,p9,p10,p11,p12,p13,p14,p15,p16,p17,p18,p19,p20,p21]:=⟨h0,h1,h2,h3,h4,h5,h6,h7,h8,h9,h10,h11,h12,h13,h14,h15,h16,h17,h18,h19,h20,h21,trivial⟩
theorem allP_mem:∀{l:List Prop},allP l→∀p,p∈l→p
 |[],_,p,h=>by simp at h
 |q::r,h,p,hp=>by
  rcases List.mem_cons.1 hp with rfl|hp
  ·exact h.1
  ·exact allP_mem h.2 p hp
def pathA (P:Program) (n base:Nat) (c:Code) (sc:List Dir) (st:St) (slots:List Nat) (tb:List (Nat×Rk)):Option (Out×St×List Prop):=
 match evalC P n base c sc st with
 |some (e,st1,cs,[])=>match renSt slots tb st1 with
  |some (st2,cs2)=>some (e,st2,cs.map Cond.p++cs2)
  |none=>none
 |_=>none
theorem pathA_sound {P:Program} (hmix:P.follows .mixedOrders=true) {n base:Nat} {c:Code} {sc:List Dir} {st st':St} {slots:List Nat} {tb:List (Nat×Rk)} {e:Out} {cs:List Prop} (h:pathA P n base c sc st slots tb=some (e,st',cs)) (hc:allP cs):
  Runs P n c st e st':=by
 unfold pathA at h
 split at h
 ·rename_i e1 st1 cs1 h1
  cases hr:renSt slots tb st1 with
  |none=>rw [hr] at h;cases h
  |some x=>
   obtain ⟨s2,c2⟩:=x
   rw [hr] at h
   injection h with h
   simp only [Prod.mk.injEq] at h
   obtain ⟨rfl,rfl,rfl⟩:=h
   have hm:=allP_mem hc
   exact (evalC_sound hmix c h1 fun p hp=>hm p.p (List.mem_append_left _ (List.mem_map.2 ⟨p,hp,rfl⟩))).post (renSt_le hr fun p hp=>hm p (List.mem_append_right _ hp))
 ·cases h
theorem wrap64_id {n:Int} (h1:0≤n) (h2:n<9223372036854775808):IntKind.wrap .i64 n=n:=by
 simp only [IntKind.wrap,IntKind.bits,IntKind.signed]
 simp
 omega
theorem w1 (i:Int) (h:0≤i+1∧i+1<9223372036854775808):IntKind.wrap .i64 (i+1)=i+1:=wrap64_id h.1 h.2
theorem get_map {α β:Type} (f:α→β) {l:List α} {i:Nat} {x:α} (h:l[i]? =some x):(l.map f)[i]? =some (f x):=by
 rw [List.getElem?_map,h];rfl
def hasT (l:List ByteArray) (s:ByteArray):Bool:=l.any fun x=>decide (x=s)
theorem hasT_iff {l:List ByteArray} {s:ByteArray}:hasT l s=true↔s∈l:=by
 unfold hasT
 rw [List.any_eq_true]
 constructor
 ·rintro ⟨x,hx,h⟩
  have:x=s:=by simpa using h
  exact this▸hx
 ·exact fun h=>⟨s,h,by simp⟩
theorem hasT_false {l:List ByteArray} {s:ByteArray} (h:s∉l):hasT l s=false:=by
 cases h':hasT l s with
 |false=>rfl
 |true=>exact absurd (hasT_iff.1 h') h
section
section
variable {P:Program} {F:Fr} {S:Blk} {β:Beta} {hp:List (Nat×Ob)} {w w':World}
theorem Mem.later (M:Mem F S β hp w) (h:Go.RowKit.Below w.heap.size w w'):Mem F S β hp w':=by
 exact (M.beyond (S':=S) (fun _ h=>h) (fun _ h=> .inl h) (fun b hb=>Nat.lt_of_lt_of_le (M.sub b hb) h.size) h.os h.tape h.output h.size h.block).2
end
structure Tm where
 v:ByteArray
 k:Int
 n:Int
 s:ByteArray
def Tm.av (t:Tm):AV:= .agg [.str t.v,.int .i8 t.k,.int .i64 t.n,.str t.s]
def bav (b:UInt8):AV:= .int .u8 b.toNat
end
end Go.Ped
namespace Go.Ped
open Go.RowKit Go.Maps Go.Sort Go.ChangeMaps
open Go.WideElems (Fit rd rg rd_mk rg_of)
open Go.Proofs (encStr)
section
def textsA:List AV→Option (List (List UInt8))
 |[]=>some []
 | .str s::r=>match textsA r with
   |some l=>some (s.data.toList::l)
   |none=>none
 |_=>none
def insT (x:List UInt8):List (List UInt8)→List (List UInt8)
 |[]=>[x]
 |y::r=>bif leB x y then x::y::r else y::insT x r
def sortT:List (List UInt8)→List (List UInt8)
 |[]=>[]
 |x::r=>insT x (sortT r)
theorem leB_total (a b:List UInt8):leB a b=true∨leB b a=true:=by
 simp only [leB,decide_eq_true_eq];exact List.le_total a b
theorem leB_trans {a b c:List UInt8} (h1:leB a b=true) (h2:leB b c=true):leB a c=true:=by
 simp only [leB,decide_eq_true_eq] at*;exact List.le_trans h1 h2
theorem insT_perm (x:List UInt8):∀(l:List (List UInt8)),(insT x l).Perm (x::l)
 |[]=> .refl _
 |y::r=>by
  simp only [insT]
  cases h:leB x y with
  |true=>exact .refl _
  |false=>exact ((insT_perm x r).cons y).trans (.swap x y r)
theorem insT_sorted (x:List UInt8):∀(l:List (List UInt8)),l.Pairwise (fun a b=>leB a b=true)→(insT x l).Pairwise (fun a b=>leB a b=true)
 |[],_=>by simp [insT]
 |y::r,h=>by
  simp only [insT]
  cases hx:leB x y with
  |true=>
   refine List.pairwise_cons.2 ⟨fun b hb=> ?_,h⟩
   rcases List.mem_cons.1 hb with rfl|hb
   ·exact hx
   ·exact leB_trans hx ((List.pairwise_cons.1 h).1 b hb)
  |false=>
   obtain ⟨h1,h2⟩:=List.pairwise_cons.1 h
   refine List.pairwise_cons.2 ⟨fun b hb=> ?_,insT_sorted x r h2⟩
   rcases List.mem_cons.1 ((insT_perm x r).mem_iff.1 hb) with rfl|hb
   ·rcases leB_total b y with h|h
    ·rw [hx] at h;cases h
    ·exact h
   ·exact h1 b hb
theorem sortT_perm:∀(l:List (List UInt8)),(sortT l).Perm l
 |[]=> .refl _
 |x::r=>(insT_perm x _).trans ((sortT_perm r).cons x)
theorem sortT_sorted:∀(l:List (List UInt8)),(sortT l).Pairwise (fun a b=>leB a b=true)
 |[]=>List.Pairwise.nil
 |x::r=>insT_sorted x _ (sortT_sorted r)
theorem sortT_eq {l l':List (List UInt8)} (h:l.Perm l'):l.mergeSort leB=sortT l':=by
 have tr:∀a b c:List UInt8,leB a b=true→leB b c=true→leB a c=true:=fun a b c=>leB_trans
 have to:∀a b:List UInt8,(leB a b||leB b a)=true:=fun a b=>by rw [Bool.or_eq_true];exact leB_total a b
 refine List.Perm.eq_of_pairwise (le:=fun a b=>leB a b=true) (fun a b _ _ h1 h2=> ?_) (List.pairwise_mergeSort tr to l) (sortT_sorted l') (((List.mergeSort_perm l leB).trans h).trans (sortT_perm l').symm)
 simp only [leB,decide_eq_true_eq] at h1 h2
 exact List.le_antisymm h1 h2
def sortedK (f it:Nat):Handler:=fun g xs pre nb=>
 bif Nat.beq g f then
  match xs with
  |[.clo i [] [.elt b 0 0]]=>bif Nat.beq i it then
    match look pre b with
    |some (.var [.map m])=>(match look pre m with
     |some (.map ks _)=>(match textsA ks with
      |some ts=>bif ts.all (fun t=>Nat.ble t.length 1000000)&&Nat.ble ts.length 100000000 then some (.seq ((sortT ts).map fun l=> .str ⟨l.toArray⟩) false,[],nb) else none
      |none=>none)
     |_=>none)
    |_=>none
   else none
  |_=>none
 else none
theorem textsA_spec:∀{ks:List AV} {ts:List (List UInt8)},textsA ks=some ts→ks=ts.map fun l=> .str ⟨l.toArray⟩
 |[],ts,h=>by simp only [textsA] at h;injection h with h;subst h;rfl
 | .str s::r,ts,h=>by
   simp only [textsA] at h
   split at h
   ·rename_i l hl
    injection h with h
    subst h
    rw [List.map_cons,←textsA_spec hl]
   ·cases h
 | .int _ _::_,_,h=>by simp [textsA] at h
 | .bool _::_,_,h=>by simp [textsA] at h
 | .agg _::_,_,h=>by simp [textsA] at h
 | .tup _::_,_,h=>by simp [textsA] at h
 | .seq _ _::_,_,h=>by simp [textsA] at h
 | .nils::_,_,h=>by simp [textsA] at h
 | .row _ _ _::_,_,h=>by simp [textsA] at h
 | .tptr _::_,_,h=>by simp [textsA] at h
 | .elt _ _ _::_,_,h=>by simp [textsA] at h
 | .nilp::_,_,h=>by simp [textsA] at h
 | .map _::_,_,h=>by simp [textsA] at h
 | .tmap _ _::_,_,h=>by simp [textsA] at h
 | .nilmap::_,_,h=>by simp [textsA] at h
 | .clo _ _ _::_,_,h=>by simp [textsA] at h
 | .nilf::_,_,h=>by simp [textsA] at h
 | .iface _ _::_,_,h=>by simp [textsA] at h
 | .nili::_,_,h=>by simp [textsA] at h
 | .own _ _::_,_,h=>by simp [textsA] at h
 | .emp::_,_,h=>by simp [textsA] at h
 | .dead::_,_,h=>by simp [textsA] at h
def anyR:Value→Option (DataW Unit×List MemPlace):=fun _=>some (.lit (.bool false),[])
section
variable {P:Program}
def SortedSaid (P:Program) (f it kt:Nat):Prop:=
 ∀(Bm b nn:Nat) (D0:DataW Unit) (w:World),Bm<w.heap.size→w.cell? ⟨Bm,0,none⟩=some (.map (some b))→w.ownsMap P kt anyR b nn D0→Maps.size D0≤maxLen→Maps.size D0*16≤140737488355328→
  Calls P f #[.func (.func it) #[] #[.pointer (some ⟨Bm,0,none⟩)]] w fun e w'=>∃(v:Value) (ss:List (List UInt8)),e= .returned v∧ss.Perm (strKeys D0)∧
   w'.ownsRow w.heap.size kt 1 v ss.length ((ss.mergeSort leB).map encStr)∧Go.RowKit.Below w.heap.size w w'
theorem sortedK_ok {f it kt:Nat} (hk:P.underlying kt=some .string) (hS:SortedSaid P f it kt):(sortedK f it).ok P:=by
 intro g xs pre nb r upd nb' h
 unfold sortedK at h
 cases hg:Nat.beq g f with
 |false=>rw [hg] at h;cases h
 |true=>
  rw [hg] at h
  simp only [cond_true] at h
  have hgf:g=f:=Nat.eq_of_beq_eq_true hg
  subst hgf
  split at h
  ·rename_i i b
   cases hi:Nat.beq i it with
   |false=>rw [hi] at h;cases h
   |true=>
    rw [hi] at h
    simp only [cond_true] at h
    have hii:i=it:=Nat.eq_of_beq_eq_true hi
    subst hii
    split at h
    ·rename_i m hb
     split at h
     ·rename_i ks vals hm
      split at h
      ·rename_i ts hts
       cases hsz:(ts.all (fun t=>Nat.ble t.length 1000000)&&Nat.ble ts.length 100000000) with
       |false=>rw [hsz] at h;cases h
       |true=>
        rw [hsz] at h
        simp only [cond_true] at h
        injection h with h
        simp only [Prod.mk.injEq] at h
        obtain ⟨rfl,rfl,rfl⟩:=h
        rw [Bool.and_eq_true] at hsz
        have hlen:∀t,t∈ts→t.length≤1000000:=fun t ht=>Nat.le_of_ble_eq_true (List.all_eq_true.1 hsz.1 t ht)
        have hlen2:ts.length≤100000000:=Nat.le_of_ble_eq_true hsz.2
        have hks:=textsA_spec hts
        intro F S β hp w vs M hvl hV hpre hupd
        match vs,hvl with
        |[v0],_=>
        have hv0:=hV 0 v0 _ rfl rfl
        cases hv0 with
        |clo _ fs gs _ _ hf hg hfv hgv=>
        match fs,gs,hf,hg with
        |[],[u0],_,_=>
        have hu0:=hgv 0 u0 _ rfl rfl
        cases hu0 with
        |elt _ _ _ bi hbi=>
        have hb':=hpre b _ (look_mem hb)
        have hm':=hpre m _ (look_mem hm)
        obtain ⟨bj,q1,q2,cur,ty,r1,r2,r3,r4,r5,r6⟩:=M.obs b _ hb'
        rw [hbi] at q1;injection q1 with q1;subst q1
        obtain ⟨u1,hu1,hVu⟩:=r6 0 0 (.agg [.map m]) (.map m) rfl rfl
        cases hVu with
        |map _ bm hbm=>
        obtain ⟨bm',es,cl,t1,t2,t3,t4,t5,t6,t7⟩:=M.obs m _ hm'
        rw [hbm] at t1;injection t1 with t1;subst t1
        have hst:MapKept.Stamped es cl:=t7 (by rw [hks,List.all_map];exact List.all_eq_true.2 fun _ _=>rfl)
        have hkey:∀(j:Nat) e,es[j]? =some e→∃t,ts[j]? =some t∧e.key=encStr t:=by
         intro j e he
         have hj:j<ts.length:=by
          have h1:=(Array.getElem?_eq_some_iff.1 he).1
          have h2:ks.length=ts.length:=by rw [hks,List.length_map]
          omega
         have hkj:ks[j]? =some (.str ⟨(ts[j]).toArray⟩):=by rw [hks,List.getElem?_map,List.getElem?_eq_getElem hj];rfl
         have hv:=t5 j e _ he hkj
         generalize e.key=ek at hv
         cases hv
         exact ⟨ts[j],List.getElem?_eq_getElem hj,rfl⟩
        have hread:∀(j:Nat) e,es[j]? =some e→∃t,ts[j]? =some t∧rd P kt anyR e=some (.string t,.lit (.bool false)):=by
         intro j e he
         obtain ⟨t,h1,h2⟩:=hkey j e he
         refine ⟨t,h1,?_⟩
         have ht:=hlen t (List.mem_of_getElem? h1)
         have hko:keyOf P kt e.key=some (.string t):=by
          rw [h2]
          have hsz':(⟨t.toArray⟩:ByteArray).size=t.length:=by
           show t.toArray.size=t.length
           simp
          simp only [keyOf,hk,mapKey,encStr]
          rw [if_pos (by rw [hsz'];simp only [maxLen];omega)]
         obtain ⟨ek,ev,eb⟩:=e
         exact rd_mk (R:=anyR) hko rfl
        have hfit:Fit P kt anyR es cl:=by
         refine ⟨by simp only [maxLen];have h2:ks.length=ts.length:=by rw [hks,List.length_map]
                    omega,hst,fun x hx=> ?_⟩
         obtain ⟨j,hj⟩:=List.mem_iff_getElem?.1 hx
         obtain ⟨t,_,h2⟩:=hread j x (by simpa using hj)
         exact ⟨_,h2⟩
        have hrg:es.toList.map (rg P kt anyR)=ts.map fun t=>(.string t,.lit (.bool false)):=by
         apply List.ext_getElem?
         intro j
         rw [List.getElem?_map,List.getElem?_map,Array.getElem?_toList]
         cases hj:es[j]? with
         |none=>
          have h1:=Array.getElem?_eq_none_iff.1 hj
          have h2:ks.length=ts.length:=by rw [hks,List.length_map]
          rw [List.getElem?_eq_none (by omega)];rfl
         |some e=>
          obtain ⟨t,h1,h2⟩:=hread j e hj
          rw [h1]
          simp only [Option.map_some]
          rw [rg_of h2]
        have hown:w.ownsMap P kt anyR bm.blk es.size (.map ((es.toList.map (rg P kt anyR)).foldr DataW.insert [])):=⟨es,cl,t2,hfit,Nat.le_refl _,rfl⟩
        have hperm:(strKeys (DataW.map ((es.toList.map (rg P kt anyR)).foldr DataW.insert []))).Perm ts:=by
         show (((es.toList.map (rg P kt anyR)).foldr DataW.insert []).map fun p=>strOf p.1).Perm ts
         have h1:=(Go.WideShapes.sorted_perm (es.toList.map (rg P kt anyR))).map fun p:Lit×DataW Unit=>strOf p.1
         refine h1.trans ?_
         rw [hrg,List.map_map]
         have:ts.map ((fun p:Lit×DataW Unit=>strOf p.1)∘fun t=>(.string t,.lit (.bool false)))=ts:=by
          apply List.ext_getElem?
          intro j
          rw [List.getElem?_map]
          cases ts[j]? <;>rfl
         rw [this]
        have hsize:Maps.size (DataW.map ((es.toList.map (rg P kt anyR)).foldr DataW.insert []))≤es.size:=hown.size_le
        have h2:ks.length=ts.length:=by rw [hks,List.length_map]
        have hcell:w.cell? ⟨bi.blk,0,none⟩=some (.map (some bm.blk)):=by
         rw [cell_row r1]
         simpa using hu1
        have hblk:bi.blk<w.heap.size:=(M.own b bi hbi).2.1
        have hcall:=hS bi.blk bm.blk es.size _ w hblk hcell hown (by simp only [maxLen];omega) (by omega)
        have hargs:([Value.func (.func i) ([]:List Value).toArray [Value.pointer (some ⟨bi.blk,0*bi.sz+0,none⟩)].toArray]).toArray= #[.func (.func i) #[] #[.pointer (some ⟨bi.blk,0,none⟩)]]:=by
         simp
        rw [hargs]
        refine hcall.mono ?_
        rintro e w' ⟨v,ss,rfl,hss,hrow,hbel⟩
        have hsort:ss.mergeSort leB=sortT ts:=sortT_eq (hss.trans hperm)
        rw [hsort] at hrow
        have hssl:ss.length=(sortT ts).length:=by
         have:=(hss.trans hperm).length_eq
         rw [this,(sortT_perm ts).length_eq]
        rw [hssl] at hrow
        obtain ⟨_,hrow⟩:=hrow
        have hold:∀b,b<w.heap.size→w'.heap[b]? =w.heap[b]? :=hbel.block
        rcases hrow with ⟨rfl,hz⟩|⟨gb,cap,cur',rfl,hbase,hgb,s1,s2,s3,s4⟩
        ·have hnil:sortT ts=[]:=List.eq_nil_of_length_eq_zero hz
         refine ⟨_,S,β,rfl,⟨fun _ h=>h,fun _ _ h=>h,fun b hb=>hold b (M.sub b hb)⟩,?_,?_⟩
         ·exact M.later hbel
         ·rw [hnil]
          exact .seq none 0 0 0 0 [] false (fun _ _=>undef) (by simp) (by simp [maxLen]) (fun h=>by cases h) (fun h=>absurd rfl h) (by simp) (by simp) (by simp)
        ·refine ⟨_,fun b=>S b∨b=gb,β,rfl,⟨fun _ h=> .inl h,fun _ _ h=>h,fun b hb=>hold b (M.sub b hb)⟩,?_,?_⟩
         ·exact (M.beyond (S':=fun b=>S b∨b=gb) (fun _ h=> .inl h) (fun b h=>h.elim .inl (fun e=> .inr (e▸hbase))) (fun b h=>h.elim (fun h=>Nat.lt_of_lt_of_le (M.sub b h) hbel.size) (fun e=>e▸(Array.getElem?_eq_some_iff.1 hgb).1)) hbel.os hbel.tape hbel.output hbel.size hold).2
         ·have hV:=V.seq (S:=fun b=>S b∨b=gb) (β:=β) (w:=w') (some ⟨gb,0,none⟩) cap 1 gb 0 ((sortT ts).map fun l=> .str ⟨l.toArray⟩) false (fun i _=>encStr ((sortT ts).getD i [])) (by simpa using s1) s2 (fun h=>by cases h) (fun _=>⟨rfl,.inr rfl⟩)
           (fun i e he=>by
            rw [List.getElem?_map] at he
            obtain ⟨t,_,rfl⟩:=Option.map_eq_some_iff.1 he
            rfl)
           (fun i j e c he hc=>by
            rw [List.getElem?_map] at he
            obtain ⟨t,ht,rfl⟩:=Option.map_eq_some_iff.1 he
            match j with
            |0=>
             rw [cell_row hgb]
             have h1:(cur'.toList.take ((sortT ts).length*1))[i]? =some (encStr t):=by rw [s4,List.getElem?_map,ht];rfl
             rw [List.getElem?_take] at h1
             split at h1
             ·rw [Array.getElem?_toList] at h1
              rw [List.getD_eq_getElem?_getD,ht]
              simpa using h1
             ·cases h1
            |j+1=>simp [AV.cells] at hc)
           (fun i j e c he hc=>by
            rw [List.getElem?_map] at he
            obtain ⟨t,ht,rfl⟩:=Option.map_eq_some_iff.1 he
            match j with
            |0=>
             simp only [AV.cells,List.getElem?_cons_zero] at hc
             injection hc with hc
             subst hc
             rw [List.getD_eq_getElem?_getD,ht]
             exact .str _
            |j+1=>simp [AV.cells] at hc)
          simpa using hV
      ·cases h
     ·cases h
    ·cases h
  ·cases h
end
end
end Go.Ped
namespace Go.Ped
open Go.RowKit
structure Kn where
 g:Nat
 xs:List AV
 pre:List (Nat×Ob)
 r:AV
 upd:List (Nat×Ob)
 nb:Nat
def obsEq:List (Nat×Ob)→List (Nat×Ob)→Bool
 |[],[]=>true
 |(i,x)::l,(j,y)::m=>Nat.beq i j&&(Ob.beq x y&&obsEq l m)
 |_,_=>false
theorem obsEq_eq:∀{l m:List (Nat×Ob)},obsEq l m=true→l=m
 |[],[],_=>rfl
 |(i,x)::l,(j,y)::m,h=>by
  simp only [obsEq,Bool.and_eq_true] at h
  rw [Nat.eq_of_beq_eq_true h.1,Ob.beq_eq h.2.1,obsEq_eq h.2.2]
 |[],_::_,h=>by cases h
 |_::_,[],h=>by cases h
def knownK:List Kn→Handler
 |[]=>noH
 |k::l=>fun g xs pre nb=>bif Nat.beq k.g g&&(AV.beqL k.xs xs&&obsEq k.pre pre) then some (k.r,k.upd,Nat.max nb k.nb) else knownK l g xs pre nb
def Kn.ok (P:Program) (k:Kn):Prop:=Spec P k.g k.xs k.pre k.r k.upd
theorem knownK_ok {P:Program}:∀{l:List Kn},(∀k,k∈l→k.ok P)→(knownK l).ok P
 |[],_=>noH_ok
 |k::l,h=>by
  intro g xs pre nb r upd nb' hh
  simp only [knownK] at hh
  cases hc:(Nat.beq k.g g&&(AV.beqL k.xs xs&&obsEq k.pre pre)) with
  |false=>rw [hc] at hh;exact knownK_ok (fun k' hk=>h k' (List.mem_cons_of_mem _ hk)) g xs pre nb r upd nb' hh
  |true=>
   rw [hc] at hh
   simp only [cond_true] at hh
   injection hh with hh
   simp only [Prod.mk.injEq] at hh
   obtain ⟨rfl,rfl,_⟩:=hh
   simp only [Bool.and_eq_true] at hc
   have h1:=Nat.eq_of_beq_eq_true hc.1
   have h2:=AV.beqL_eq _ _ hc.2.1
   have h3:=obsEq_eq hc.2.2
   subst h1;subst h2;subst h3
   exact h k (by simp)
def agrees (x:Option (AV×List (Nat×Ob)×Nat)) (k:Kn):Bool:=
 match x with
 |some (r,u,n)=>AV.beq r k.r&&obsEq u k.upd
 |none=>false
theorem known_run {P:Program} (hmix:P.follows .mixedOrders=true) {K:Handler} (hK:K.ok P) {f nb:Nat} {k:Kn} (h:agrees (callH P (runI P K f) k.g k.xs k.pre nb) k=true):k.ok P:=by
 unfold agrees at h
 split at h
 ·rename_i r u n hh
  simp only [Bool.and_eq_true] at h
  have h1:=AV.beq_eq _ _ h.1
  have h2:=obsEq_eq h.2
  subst h1
  unfold Kn.ok
  rw [←h2]
  exact spec_run hK hmix hh
 ·cases h
def Kns (P:Program) (l:List Kn):Prop:=∀k,k∈l→k.ok P
theorem Kns.nil {P:Program}:Kns P []:=fun k h=>by cases h
theorem Kns.cons {P:Program} {k:Kn} {l:List Kn} (h:k.ok P) (hl:Kns P l):Kns P (k::l):=by
 intro k' h'
 rcases List.mem_cons.1 h' with rfl|h'
 ·exact h
 ·exact hl k' h'
end Go.Ped
set_option linter.unusedVariables false
namespace Go.Proofs
open Go.RowKit Go.Maps Go.Sort Go.Shelf
def Tryz.keys131_ren:Go.Shelf.Ren:=⟨fun|7=>131|10=>182|n=>n,fun|23=>182|26=>9|3=>3|28=>188|0=>0|27=>187|33=>114|4=>4|n=>n,fun|n=>n⟩
theorem Tryz.keys131:Go.Proofs.SlLaysZ.n7 Tryz.prog Tryz.keys131_ren:={
 mixed:=by kernel_rfl
 f7:=⟨Tryz.f131.name,by decide,Tryz.func131.trans (congrArg some (by kernel_rfl))⟩
 f10:=⟨Tryz.f182.name,by decide,Tryz.func182.trans (congrArg some (by kernel_rfl))⟩
 t0:=Tryz.underlying0
 a0:=Tryz.isAgg0
 z0:=Tryz.sizeOf0
 v0:=Tryz.zeroValue0
 t4:=Tryz.underlying4
 a4:=Tryz.isAgg4
 z4:=Tryz.sizeOf4
 v4:=Tryz.zeroValue4
 t23:=Tryz.underlying182
 a23:=Tryz.isAgg182
 z23:=Tryz.sizeOf182
 v23:=Tryz.zeroValue182
 t26:=Tryz.underlying9
 a26:=Tryz.isAgg9
 z26:=Tryz.sizeOf9
 v26:=Tryz.zeroValue9
 t27:=Tryz.underlying187
 a27:=Tryz.isAgg187
 z27:=Tryz.sizeOf187
 v27:=Tryz.zeroValue187
 t28:=Tryz.underlying188
 a28:=Tryz.isAgg188
 z28:=Tryz.sizeOf188
 v28:=Tryz.zeroValue188
 t33:=Tryz.underlying114
 a33:=Tryz.isAgg114
 z33:=Tryz.sizeOf114
 v33:=Tryz.zeroValue114}
def Tryz.sorted130_ren:Go.Shelf.Ren:=⟨fun|6=>130|8=>180|9=>181|11=>215|13=>217|12=>216|23=>258|24=>259|14=>249|15=>250|16=>251|17=>252|18=>253|19=>254|20=>255|21=>256|22=>257|25=>276|26=>277|27=>278|28=>279|29=>280|30=>281|31=>287|n=>n,fun|26=>9|28=>188|24=>25|0=>0|3=>3|37=>261|48=>279|50=>204|4=>4|40=>289|39=>288|45=>88|5=>5|9=>9|51=>310|55=>314|57=>317|58=>318|33=>114|n=>n,fun|n=>n⟩
theorem Tryz.sorted130:Go.Proofs.SlLaysZ.n6 Tryz.prog Tryz.sorted130_ren:={
 mixed:=by kernel_rfl
 f6:=⟨Tryz.f130.name,by decide,Tryz.func130.trans (congrArg some (by kernel_rfl))⟩
 f8:=⟨Tryz.f180.name,by decide,Tryz.func180.trans (congrArg some (by kernel_rfl))⟩
 f11:=⟨Tryz.f215.name,by decide,Tryz.func215.trans (congrArg some (by kernel_rfl))⟩
 t0:=Tryz.underlying0
 a0:=Tryz.isAgg0
 z0:=Tryz.sizeOf0
 v0:=Tryz.zeroValue0
 t24:=Tryz.underlying25
 a24:=Tryz.isAgg25
 z24:=Tryz.sizeOf25
 v24:=Tryz.zeroValue25
 t26:=Tryz.underlying9
 a26:=Tryz.isAgg9
 z26:=Tryz.sizeOf9
 v26:=Tryz.zeroValue9
 t28:=Tryz.underlying188
 a28:=Tryz.isAgg188
 z28:=Tryz.sizeOf188
 v28:=Tryz.zeroValue188
 i26:=by kernel_rfl}
def Tryz.sort181_ren:Go.Shelf.Ren:=⟨fun|6=>181|8=>217|9=>216|19=>258|20=>259|21=>249|22=>250|23=>251|24=>252|25=>253|26=>254|27=>255|28=>256|29=>257|36=>276|31=>277|32=>278|37=>279|38=>280|39=>281|41=>287|n=>n,fun|27=>25|29=>9|3=>3|32=>261|26=>25|0=>0|44=>279|46=>204|4=>4|36=>289|35=>288|41=>88|5=>5|9=>9|53=>310|57=>314|63=>317|64=>318|n=>n,fun|n=>n⟩
theorem Tryz.sort181:Go.Proofs.SlLaysM.n6 Tryz.prog Tryz.sort181_ren:={
 mixed:=by kernel_rfl
 f6:=⟨Tryz.f181.name,by decide,Tryz.func181.trans (congrArg some (by kernel_rfl))⟩
 f8:=Tryz.func217.trans (congrArg some (by kernel_rfl))
 f9:=⟨Tryz.f216.name,by decide,Tryz.func216.trans (congrArg some (by kernel_rfl))⟩
 f19:=Tryz.func258.trans (congrArg some (by kernel_rfl))
 f20:=Tryz.func259.trans (congrArg some (by kernel_rfl))
 f21:=⟨Tryz.f249.name,by decide,Tryz.func249.trans (congrArg some (by kernel_rfl))⟩
 f22:=⟨Tryz.f250.name,by decide,Tryz.func250.trans (congrArg some (by kernel_rfl))⟩
 f23:=⟨Tryz.f251.name,by decide,Tryz.func251.trans (congrArg some (by kernel_rfl))⟩
 f24:=⟨Tryz.f252.name,by decide,Tryz.func252.trans (congrArg some (by kernel_rfl))⟩
 f25:=⟨Tryz.f253.name,by decide,Tryz.func253.trans (congrArg some (by kernel_rfl))⟩
 f26:=⟨Tryz.f254.name,by decide,Tryz.func254.trans (congrArg some (by kernel_rfl))⟩
 f27:=⟨Tryz.f255.name,by decide,Tryz.func255.trans (congrArg some (by kernel_rfl))⟩
 f28:=⟨Tryz.f256.name,by decide,Tryz.func256.trans (congrArg some (by kernel_rfl))⟩
 f29:=⟨Tryz.f257.name,by decide,Tryz.func257.trans (congrArg some (by kernel_rfl))⟩
 f31:=Tryz.func277.trans (congrArg some (by kernel_rfl))
 f32:=Tryz.func278.trans (congrArg some (by kernel_rfl))
 f36:=⟨Tryz.f276.name,by decide,Tryz.func276.trans (congrArg some (by kernel_rfl))⟩
 f37:=⟨Tryz.f279.name,by decide,Tryz.func279.trans (congrArg some (by kernel_rfl))⟩
 f38:=⟨Tryz.f280.name,by decide,Tryz.func280.trans (congrArg some (by kernel_rfl))⟩
 f39:=⟨Tryz.f281.name,by decide,Tryz.func281.trans (congrArg some (by kernel_rfl))⟩
 f41:=⟨Tryz.f287.name,by decide,Tryz.func287.trans (congrArg some (by kernel_rfl))⟩
 t0:=Tryz.underlying0
 a0:=Tryz.isAgg0
 z0:=Tryz.sizeOf0
 v0:=Tryz.zeroValue0
 t3:=Tryz.underlying3
 a3:=Tryz.isAgg3
 z3:=Tryz.sizeOf3
 v3:=Tryz.zeroValue3
 t4:=Tryz.underlying4
 a4:=Tryz.isAgg4
 z4:=Tryz.sizeOf4
 v4:=Tryz.zeroValue4
 t5:=Tryz.underlying5
 a5:=Tryz.isAgg5
 z5:=Tryz.sizeOf5
 v5:=Tryz.zeroValue5
 t9:=Tryz.underlying9
 a9:=Tryz.isAgg9
 z9:=Tryz.sizeOf9
 v9:=Tryz.zeroValue9
 t26:=Tryz.underlying25
 a26:=Tryz.isAgg25
 z26:=Tryz.sizeOf25
 v26:=Tryz.zeroValue25
 t27:=Tryz.underlying25
 a27:=Tryz.isAgg25
 z27:=Tryz.sizeOf25
 v27:=Tryz.zeroValue25
 t29:=Tryz.underlying9
 a29:=Tryz.isAgg9
 z29:=Tryz.sizeOf9
 v29:=Tryz.zeroValue9
 t32:=Tryz.underlying261
 a32:=Tryz.isAgg261
 z32:=Tryz.sizeOf261
 v32:=Tryz.zeroValue261
 t35:=Tryz.underlying288
 a35:=Tryz.isAgg288
 z35:=Tryz.sizeOf288
 v35:=Tryz.zeroValue288
 t36:=Tryz.underlying289
 a36:=Tryz.isAgg289
 z36:=Tryz.sizeOf289
 v36:=Tryz.zeroValue289
 t41:=Tryz.underlying88
 a41:=Tryz.isAgg88
 z41:=Tryz.sizeOf88
 v41:=Tryz.zeroValue88
 t44:=Tryz.underlying279
 a44:=Tryz.isAgg279
 z44:=Tryz.sizeOf279
 v44:=Tryz.zeroValue279
 t46:=Tryz.underlying204
 a46:=Tryz.isAgg204
 z46:=Tryz.sizeOf204
 v46:=Tryz.zeroValue204
 t53:=Tryz.underlying310
 a53:=Tryz.isAgg310
 z53:=Tryz.sizeOf310
 v53:=Tryz.zeroValue310
 t57:=Tryz.underlying314
 a57:=Tryz.isAgg314
 z57:=Tryz.sizeOf314
 v57:=Tryz.zeroValue314
 t63:=Tryz.underlying317
 a63:=Tryz.isAgg317
 z63:=Tryz.sizeOf317
 v63:=Tryz.zeroValue317
 t64:=Tryz.underlying318
 a64:=Tryz.isAgg318
 z64:=Tryz.sizeOf318
 v64:=Tryz.zeroValue318}
theorem Tryz.sorts130 (m:Nat):AnyZ.SortsIn Tryz.prog Tryz.sorted130_ren Fence.wide m:=
 ⟨fun blk off cap ss W hH hblk hsz=>callsIn_wide.2 (AnyM.slices_Sort_string Tryz.sort181 blk off cap ss W hH hblk hsz),
  fun p cap W=>callsIn_wide.2 (AnyM.slices_Sort_string_none Tryz.sort181 p cap W)⟩
set_option maxHeartbeats 1000000 in
theorem Tryz.sortedSaid:Go.Ped.SortedSaid Tryz.prog 130 182 9:=by
 intro Bm b nn D0 w hBm hcell hown hmax hbytes
 have hseq:SeqGives Fence.wide 2 Tryz.prog 182 #[.pointer (some ⟨Bm,0,none⟩)] encStr (fun ss=>ss.Perm (strKeys D0)) (Maps.size D0) w:=
  AnyZ.keys_gives (ρ:=Tryz.keys131_ren) {Tryz.keys131 with} Fence.wide _ trivial rfl (by omega) Bm b nn D0 w hBm hcell hown
 have h:=AnyZ.sorted_in Tryz.sorted130 Fence.wide 5 trivial trivial trivial trivial rfl (by omega) (Tryz.sorts130 _) (enters_of Tryz.func181 (by kernel_rfl) rfl) 182 #[.pointer (some ⟨Bm,0,none⟩)] trivial (enters_of Tryz.func182 (by kernel_rfl) rfl) _ _ hmax hbytes _ hseq
 refine (callsIn_wide.1 h).mono ?_
 rintro e w' ⟨v,ss,rfl,hS,hrow,_,hb⟩
 exact ⟨v,ss,rfl,hS,hrow,hb⟩
end Go.Proofs
namespace Go.Ped
open Go.Proofs
theorem Tryz_mix:Tryz.prog.follows .mixedOrders=true:=by kernel_rfl
def srt:Handler:=sortedK 130 182
theorem srt_ok:srt.ok Tryz.prog:=sortedK_ok (kt:=9) Tryz.underlying9 Tryz.sortedSaid
end Go.Ped
set_option linter.unusedVariables false
namespace Go.Proofs
open Go.RowKit Go.Maps Go.Sort Go.Shelf
def Tryz.itoa86_ren:Go.Shelf.Ren:=⟨fun|171=>86|243=>142|246=>189|283=>222|284=>223|285=>224|286=>225|129=>259|317=>261|318=>262|319=>263|320=>264|337=>282|338=>283|n=>n,fun|3=>3|9=>9|2=>2|4=>4|171=>265|0=>0|53=>204|37=>83|5=>5|173=>268|212=>298|51=>279|20=>20|213=>299|46=>261|232=>320|233=>321|n=>n,fun|17=>0|18=>1|19=>2|n=>n⟩
theorem Tryz.itoa86:Go.Proofs.LaysM.n171 Tryz.prog Tryz.itoa86_ren:={
 mixed:=by kernel_rfl
 f129:=Tryz.func259.trans (congrArg some (by kernel_rfl))
 f171:=Tryz.func86.trans (congrArg some (by kernel_rfl))
 f243:=Tryz.func142.trans (congrArg some (by kernel_rfl))
 f246:=Tryz.func189.trans (congrArg some (by kernel_rfl))
 f283:=Tryz.func222.trans (congrArg some (by kernel_rfl))
 f284:=Tryz.func223.trans (congrArg some (by kernel_rfl))
 f285:=Tryz.func224.trans (congrArg some (by kernel_rfl))
 f286:=Tryz.func225.trans (congrArg some (by kernel_rfl))
 f317:=Tryz.func261.trans (congrArg some (by kernel_rfl))
 f318:=Tryz.func262.trans (congrArg some (by kernel_rfl))
 f319:=Tryz.func263.trans (congrArg some (by kernel_rfl))
 f320:=Tryz.func264.trans (congrArg some (by kernel_rfl))
 f337:=Tryz.func282.trans (congrArg some (by kernel_rfl))
 f338:=Tryz.func283.trans (congrArg some (by kernel_rfl))
 t0:=Tryz.underlying0
 a0:=Tryz.isAgg0
 z0:=Tryz.sizeOf0
 v0:=Tryz.zeroValue0
 t2:=Tryz.underlying2
 a2:=Tryz.isAgg2
 z2:=Tryz.sizeOf2
 v2:=Tryz.zeroValue2
 t3:=Tryz.underlying3
 a3:=Tryz.isAgg3
 z3:=Tryz.sizeOf3
 v3:=Tryz.zeroValue3
 t4:=Tryz.underlying4
 a4:=Tryz.isAgg4
 z4:=Tryz.sizeOf4
 v4:=Tryz.zeroValue4
 t5:=Tryz.underlying5
 a5:=Tryz.isAgg5
 z5:=Tryz.sizeOf5
 v5:=Tryz.zeroValue5
 t9:=Tryz.underlying9
 a9:=Tryz.isAgg9
 z9:=Tryz.sizeOf9
 v9:=Tryz.zeroValue9
 t20:=Tryz.underlying20
 a20:=Tryz.isAgg20
 z20:=Tryz.sizeOf20
 v20:=Tryz.zeroValue20
 t37:=Tryz.underlying83
 a37:=Tryz.isAgg83
 z37:=Tryz.sizeOf83
 v37:=Tryz.zeroValue83
 t46:=Tryz.underlying261
 a46:=Tryz.isAgg261
 z46:=Tryz.sizeOf261
 v46:=Tryz.zeroValue261
 t51:=Tryz.underlying279
 a51:=Tryz.isAgg279
 z51:=Tryz.sizeOf279
 v51:=Tryz.zeroValue279
 t53:=Tryz.underlying204
 a53:=Tryz.isAgg204
 z53:=Tryz.sizeOf204
 v53:=Tryz.zeroValue204
 t171:=Tryz.underlying265
 a171:=Tryz.isAgg265
 z171:=Tryz.sizeOf265
 v171:=Tryz.zeroValue265
 t173:=Tryz.underlying268
 a173:=Tryz.isAgg268
 z173:=Tryz.sizeOf268
 v173:=Tryz.zeroValue268
 t212:=Tryz.underlying298
 a212:=Tryz.isAgg298
 z212:=Tryz.sizeOf298
 v212:=Tryz.zeroValue298
 t213:=Tryz.underlying299
 a213:=Tryz.isAgg299
 z213:=Tryz.sizeOf299
 t232:=Tryz.underlying320
 a232:=Tryz.isAgg320
 z232:=Tryz.sizeOf320
 v232:=Tryz.zeroValue320
 t233:=Tryz.underlying321
 a233:=Tryz.isAgg321
 z233:=Tryz.sizeOf321
 v233:=Tryz.zeroValue321
 g17:=by kernel_rfl
 g18:=by kernel_rfl
 g19:=by kernel_rfl
 i0:=by kernel_rfl
 i2:=by kernel_rfl
 i3:=by kernel_rfl
 i4:=by kernel_rfl
 i5:=by kernel_rfl
 i9:=by kernel_rfl
 i20:=by kernel_rfl
 i37:=by kernel_rfl
 i46:=by kernel_rfl
 i51:=by kernel_rfl
 i53:=by kernel_rfl
 i171:=by kernel_rfl
 i173:=by kernel_rfl
 i212:=by kernel_rfl
 i232:=by kernel_rfl
 i233:=by kernel_rfl
 m17:=by kernel_rfl
 m18:=by kernel_rfl
 m19:=by kernel_rfl}
theorem Tryz.gTab:Tryz.prog.globalNamed "internal/strconv.uint64pow10" =some 0:=by kernel_rfl
end Go.Proofs
namespace Go.Ped
open Go.RowKit Go.Proofs Go.Sort
theorem tabIs {w:World} (h:Tabs w):Lib.TabIs Tryz.prog w "internal/strconv.uint64pow10" .u64 Lib.pow10Tab:=by
 obtain ⟨t,fz,h⟩:=h
 unfold Lib.TabIs World.var?
 rw [Tryz.gTab]
 simp only [Option.bind_some,h]
theorem tabs_of {w:World} (h:Lib.TabIs Tryz.prog w "internal/strconv.uint64pow10" .u64 Lib.pow10Tab):Tabs w:=by
 unfold Lib.TabIs World.var? at h
 rw [Tryz.gTab] at h
 simp only [Option.bind_some] at h
 split at h
 ·rename_i cs t fz hw
  injection h with h
  subst h
  exact ⟨t,fz,hw⟩
 ·cases h
theorem itoa_spec (n:Int) (h0: -9223372036854775808≤n) (h1:n≤9223372036854775807):Spec Tryz.prog 86 [.int .i64 n] [] (.str ⟨(Lib.itoa n).toArray⟩) []:=by
 intro F S β hp w vs M hl hv _ _
 match vs,hl with
 |[v0],_=>
 have hv0:=hv 0 v0 _ rfl rfl
 cases hv0
 refine (Any.strconv_Itoa Tryz.itoa86 n h0 h1 w (tabIs M.tabw.1)).mono ?_
 rintro e w' ⟨rfl,k,os,rfl⟩
 have hb:Go.RowKit.Below w.heap.size w (grow (w.drewN k) os):=by
  refine ⟨by simp [grow,World.drewN],by simp [grow,World.drewN],by simp [grow,World.drewN],by simp [grow,World.drewN],fun b hb=> ?_⟩
  simp only [grow,World.drewN]
  rw [Array.getElem?_append_left (by simpa using hb)]
 exact ⟨_,S,β,rfl,⟨fun _ h=>h,fun _ _ h=>h,fun b hb'=>hb.block b (M.sub b hb')⟩,M.later hb,.str _⟩
end Go.Ped
namespace Go.Ped
open Go.RowKit
section
section
variable {P:Program} {F:Fr} {S:Blk} {β:Beta} {hp:List (Nat×Ob)} {w w':World}
end
theorem Loops.keep {P:Program} {n:Nat} {c:Code} {st st1 st':St} {e:Out} {cs:List Prop} (slots:List Nat) (tb:List (Nat×Rk)) (h:Loops P n c st1 e st') (hr:renSt slots tb st=some (st1,cs)) (hc:allP cs):Loops P n c st e st':=
 h.pre (renSt_le hr (allP_mem hc))
end
end Go.Ped
namespace Go.Ped
open Go.RowKit Go.Proofs
end Go.Ped
namespace Go.Ped
open Go.Proofs
section
variable (p:ByteArray) (ts:List Tm) (l:List ByteArray) (c:Bool) (ks:List ByteArray) (d:Bool) (bs:List UInt8) (s:ByteArray) (i:Nat) (t:Tm)
theorem idx_next (x:ByteArray) (i:Nat) (h:(decide ((↑i:Int)<(↑(List.length l):Int))=true)∧(0≤(↑i:Int)∧(List.map AV.str l)[Int.toNat (↑i:Int)]? =some (AV.str x))∧(decide (s=x)=false)∧(IntKind.wrap IntKind.i64 ((↑i:Int)+1)=(↑i:Int)+1)∧True):Runs Tryz.prog 19 (loopOf Tryz.f73 0) (⟨[(0,.seq (l.map .str) c),(1,.str s),(4,.int .i64 0),(7,.int .i64 l.length),(8,.int .i64 i)],[]⟩) (Out.normal) (St.mk [(0,AV.seq (List.map AV.str l) c),(1,AV.str s),(4,AV.int IntKind.i64 0),(7,AV.int IntKind.i64 (↑(List.length l):Int)),(8,AV.int IntKind.i64 ((↑i:Int)+1))] []):=
 pathA_sound Tryz_mix (base:=0) (sc:=[.is true,.elt (.str x),.is false]) (slots:=[0,1,4,7,8]) (tb:=[]) (cs:=[decide ((↑i:Int)<(↑(List.length l):Int))=true,0≤(↑i:Int)∧(List.map AV.str l)[Int.toNat (↑i:Int)]? =some (AV.str x),decide (s=x)=false,IntKind.wrap IntKind.i64 ((↑i:Int)+1)=(↑i:Int)+1]) (by kernel_rfl) h
theorem idx_found (x:ByteArray) (i:Nat) (h:(decide ((↑i:Int)<(↑(List.length l):Int))=true)∧(0≤(↑i:Int)∧(List.map AV.str l)[Int.toNat (↑i:Int)]? =some (AV.str x))∧(decide (s=x)=true)∧True):Runs Tryz.prog 19 (loopOf Tryz.f73 0) (⟨[(0,.seq (l.map .str) c),(1,.str s),(4,.int .i64 0),(7,.int .i64 l.length),(8,.int .i64 i)],[]⟩) (Out.ret) (St.mk [(4,AV.int IntKind.i64 (↑i:Int))] []):=
 pathA_sound Tryz_mix (base:=0) (sc:=[.is true,.elt (.str x),.is true]) (slots:=[4]) (tb:=[]) (cs:=[decide ((↑i:Int)<(↑(List.length l):Int))=true,0≤(↑i:Int)∧(List.map AV.str l)[Int.toNat (↑i:Int)]? =some (AV.str x),decide (s=x)=true]) (by kernel_rfl) h
theorem idx_end (h:(decide ((↑i:Int)<(↑(List.length l):Int))=false)∧True):Runs Tryz.prog 19 (loopOf Tryz.f73 0) (⟨[(0,.seq (l.map .str) c),(1,.str s),(4,.int .i64 0),(7,.int .i64 l.length),(8,.int .i64 i)],[]⟩) (Out.exit 0) (St.mk [] []):=
 pathA_sound Tryz_mix (base:=0) (sc:=[.is false]) (slots:=[]) (tb:=[]) (cs:=[decide ((↑i:Int)<(↑(List.length l):Int))=false]) (by kernel_rfl) h
theorem idx_yes (k:Nat) (h:(Go.Ped.Loops Tryz.prog 19 (loopOf Tryz.f73 0) (St.mk [(0,AV.seq (List.map AV.str l) c),(1,AV.str s),(4,AV.int IntKind.i64 0),(6,AV.seq (List.map AV.str l) c),(7,AV.int IntKind.i64 (↑(List.length (List.map AV.str l)):Int)),(8,AV.int IntKind.i64 0)] []) (Out.ret) (St.mk [(4,AV.int IntKind.i64 (↑k:Int))] []))∧True):Runs Tryz.prog 19 (bodyOf Tryz.f73) (⟨[(0,.seq (l.map .str) c),(1,.str s)],[]⟩) (Out.ret) (St.mk [(4,AV.int IntKind.i64 (↑k:Int))] []):=
 pathA_sound Tryz_mix (base:=0) (sc:=[.sum .ret [(4,.int .i64 k)] []]) (slots:=[4]) (tb:=[]) (cs:=[Go.Ped.Loops Tryz.prog 19 (loopOf Tryz.f73 0) (St.mk [(0,AV.seq (List.map AV.str l) c),(1,AV.str s),(4,AV.int IntKind.i64 0),(6,AV.seq (List.map AV.str l) c),(7,AV.int IntKind.i64 (↑(List.length (List.map AV.str l)):Int)),(8,AV.int IntKind.i64 0)] []) (Out.ret) (St.mk [(4,AV.int IntKind.i64 (↑k:Int))] [])]) (by kernel_rfl) h
theorem idx_no (h:(Go.Ped.Loops Tryz.prog 19 (loopOf Tryz.f73 0) (St.mk [(0,AV.seq (List.map AV.str l) c),(1,AV.str s),(4,AV.int IntKind.i64 0),(6,AV.seq (List.map AV.str l) c),(7,AV.int IntKind.i64 (↑(List.length (List.map AV.str l)):Int)),(8,AV.int IntKind.i64 0)] []) (Out.exit 0) (St.mk [] []))∧True):Runs Tryz.prog 19 (bodyOf Tryz.f73) (⟨[(0,.seq (l.map .str) c),(1,.str s)],[]⟩) (Out.ret) (St.mk [(4,AV.int IntKind.i64 (-1))] []):=
 pathA_sound Tryz_mix (base:=0) (sc:=[.sum (.exit 0) [] []]) (slots:=[4]) (tb:=[]) (cs:=[Go.Ped.Loops Tryz.prog 19 (loopOf Tryz.f73 0) (St.mk [(0,AV.seq (List.map AV.str l) c),(1,AV.str s),(4,AV.int IntKind.i64 0),(6,AV.seq (List.map AV.str l) c),(7,AV.int IntKind.i64 (↑(List.length (List.map AV.str l)):Int)),(8,AV.int IntKind.i64 0)] []) (Out.exit 0) (St.mk [] [])]) (by kernel_rfl) h
theorem con_p (n:Int) (h:(Ped.Spec Tryz.prog 73 [AV.seq (List.map AV.str l) c,AV.str s] [] (AV.int IntKind.i64 n) [])∧True):Runs Tryz.prog 9 (bodyOf Tryz.f37) (⟨[(0,.seq (l.map AV.str) c),(1,.str s)],[]⟩) (Out.ret) (St.mk [(4,.bool (decide (0≤n)))] []):=
 pathA_sound Tryz_mix (base:=0) (sc:=[.call (.int .i64 n) [] [],.keep]) (slots:=[4]) (tb:=[]) (cs:=[Ped.Spec Tryz.prog 73 [AV.seq (List.map AV.str l) c,AV.str s] [] (AV.int IntKind.i64 n) []]) (by kernel_rfl) h
theorem pat_b1 (p:ByteArray) (ts:List Tm) (c:Bool) (ks:List ByteArray) (d:Bool) (bs:List UInt8) (i:Nat) (t:Tm) (h:(decide ((↑i:Int)<(↑(List.length ts):Int))=true)∧(0≤(↑i:Int)∧(List.map Tm.av ts)[Int.toNat (↑i:Int)]? =some (AV.agg [AV.str t.1,AV.int IntKind.i8 t.2,AV.int IntKind.i64 t.3,AV.str t.4]))∧(0≤(↑i:Int)∧(↑i:Int)<(↑(List.length ts):Int))∧(0+Int.toNat (↑i:Int)<List.length (List.map bav bs))∧(decide (Tm.v t=ByteArray.mk #[])=true)∧(0≤(↑i:Int)∧(↑i:Int)<(↑(List.length ts):Int))∧(0+Int.toNat (↑i:Int)<List.length (List.set (List.map bav bs) (0+Int.toNat (↑i:Int)) (AV.int IntKind.u8 102)))∧(IntKind.wrap IntKind.i64 ((↑i:Int)+1)=(↑i:Int)+1)∧(noIdsL (List.set (List.set (List.map bav bs) (0+Int.toNat (↑i:Int)) (AV.int IntKind.u8 102)) (0+Int.toNat (↑i:Int)) (AV.int IntKind.u8 98))=true)∧True):Runs Tryz.prog 43 (loopOf Tryz.f10 0) (⟨[(1,.seq (ks.map .str) d),(4,.str ⟨#[]⟩),(5,.row 11 0 ts.length),(13,.seq (ts.map Tm.av) c),(14,.int .i64 ts.length),(15,.int .i64 i)],[(11,.row 1 (bs.map bav))]⟩) (Out.normal) (St.mk [(1,AV.seq (List.map AV.str ks) d),(4,AV.str (ByteArray.mk #[])),(5,AV.row 11 0 (List.length ts)),(13,AV.seq (List.map Tm.av ts) c),(14,AV.int IntKind.i64 (↑(List.length ts):Int)),(15,AV.int IntKind.i64 ((↑i:Int)+1))] [(11,Ob.row 1 (List.set (List.set (List.map bav bs) (0+Int.toNat (↑i:Int)) (AV.int IntKind.u8 102)) (0+Int.toNat (↑i:Int)) (AV.int IntKind.u8 98)))]):=
 pathA_sound Tryz_mix (base:=0) (sc:=[.is true,.elt t.av,.is true]) (slots:=[1,4,5,13,14,15]) (tb:=[K1 11]) (cs:=[decide ((↑i:Int)<(↑(List.length ts):Int))=true,0≤(↑i:Int)∧(List.map Tm.av ts)[Int.toNat (↑i:Int)]? =some (AV.agg [AV.str t.1,AV.int IntKind.i8 t.2,AV.int IntKind.i64 t.3,AV.str t.4]),0≤(↑i:Int)∧(↑i:Int)<(↑(List.length ts):Int),0+Int.toNat (↑i:Int)<List.length (List.map bav bs),decide (Tm.v t=ByteArray.mk #[])=true,0≤(↑i:Int)∧(↑i:Int)<(↑(List.length ts):Int),0+Int.toNat (↑i:Int)<List.length (List.set (List.map bav bs) (0+Int.toNat (↑i:Int)) (AV.int IntKind.u8 102)),IntKind.wrap IntKind.i64 ((↑i:Int)+1)=(↑i:Int)+1,noIdsL (List.set (List.set (List.map bav bs) (0+Int.toNat (↑i:Int)) (AV.int IntKind.u8 102)) (0+Int.toNat (↑i:Int)) (AV.int IntKind.u8 98))=true]) (by kernel_rfl) h
theorem pat_b2 (p:ByteArray) (ts:List Tm) (c:Bool) (ks:List ByteArray) (d:Bool) (bs:List UInt8) (i:Nat) (t:Tm) (h:(decide ((↑i:Int)<(↑(List.length ts):Int))=true)∧(0≤(↑i:Int)∧(List.map Tm.av ts)[Int.toNat (↑i:Int)]? =some (AV.agg [AV.str t.1,AV.int IntKind.i8 t.2,AV.int IntKind.i64 t.3,AV.str t.4]))∧(0≤(↑i:Int)∧(↑i:Int)<(↑(List.length ts):Int))∧(0+Int.toNat (↑i:Int)<List.length (List.map bav bs))∧(decide (Tm.v t=ByteArray.mk #[])=false)∧((!(decide (Tm.v t=ByteArray.mk #[95])))=
 false)∧(IntKind.wrap IntKind.i64 ((↑i:Int)+1)=(↑i:Int)+1)∧(noIdsL (List.set (List.map bav bs) (0+Int.toNat (↑i:Int)) (AV.int IntKind.u8 102))=true)∧True):Runs Tryz.prog 43 (loopOf Tryz.f10 0) (⟨[(1,.seq (ks.map .str) d),(4,.str ⟨#[]⟩),(5,.row 11 0 ts.length),(13,.seq (ts.map Tm.av) c),(14,.int .i64 ts.length),(15,.int .i64 i)],[(11,.row 1 (bs.map bav))]⟩) (Out.normal) (St.mk [(1,AV.seq (List.map AV.str ks) d),(4,AV.str (ByteArray.mk #[])),(5,AV.row 11 0 (List.length ts)),(13,AV.seq (List.map Tm.av ts) c),(14,AV.int IntKind.i64 (↑(List.length ts):Int)),(15,AV.int IntKind.i64 ((↑i:Int)+1))] [(11,Ob.row 1 (List.set (List.map bav bs) (0+Int.toNat (↑i:Int)) (AV.int IntKind.u8 102)))]):=
 pathA_sound Tryz_mix (base:=0) (sc:=[.is true,.elt t.av,.is false,.is false]) (slots:=[1,4,5,13,14,15]) (tb:=[K1 11]) (cs:=[decide ((↑i:Int)<(↑(List.length ts):Int))=true,0≤(↑i:Int)∧(List.map Tm.av ts)[Int.toNat (↑i:Int)]? =some (AV.agg [AV.str t.1,AV.int IntKind.i8 t.2,AV.int IntKind.i64 t.3,AV.str t.4]),0≤(↑i:Int)∧(↑i:Int)<(↑(List.length ts):Int),0+Int.toNat (↑i:Int)<List.length (List.map bav bs),decide (Tm.v t=ByteArray.mk #[])=false,(!(decide (Tm.v t=ByteArray.mk #[95])))=
 false,IntKind.wrap IntKind.i64 ((↑i:Int)+1)=(↑i:Int)+1,noIdsL (List.set (List.map bav bs) (0+Int.toNat (↑i:Int)) (AV.int IntKind.u8 102))=true]) (by kernel_rfl) h
theorem pat_b3 (p:ByteArray) (ts:List Tm) (c:Bool) (ks:List ByteArray) (d:Bool) (bs:List UInt8) (i:Nat) (t:Tm) (h:(decide ((↑i:Int)<(↑(List.length ts):Int))=true)∧(0≤(↑i:Int)∧(List.map Tm.av ts)[Int.toNat (↑i:Int)]? =some (AV.agg [AV.str t.1,AV.int IntKind.i8 t.2,AV.int IntKind.i64 t.3,AV.str t.4]))∧(0≤(↑i:Int)∧(↑i:Int)<(↑(List.length ts):Int))∧(0+Int.toNat (↑i:Int)<List.length (List.map bav bs))∧(decide (Tm.v t=ByteArray.mk #[])=false)∧((!(decide (Tm.v t=ByteArray.mk #[95])))=
 true)∧(Ped.Spec Tryz.prog 37 [AV.seq (List.map AV.str ks) d,AV.str t.1] [] (AV.bool true) [])∧(0≤(↑i:Int)∧(↑i:Int)<(↑(List.length ts):Int))∧(0+Int.toNat (↑i:Int)<List.length (List.set (List.map bav bs) (0+Int.toNat (↑i:Int)) (AV.int IntKind.u8 102)))∧(IntKind.wrap IntKind.i64 ((↑i:Int)+1)=(↑i:Int)+1)∧(noIdsL (List.set (List.set (List.map bav bs) (0+Int.toNat (↑i:Int)) (AV.int IntKind.u8 102)) (0+Int.toNat (↑i:Int)) (AV.int IntKind.u8 98))=true)∧True):Runs Tryz.prog 43 (loopOf Tryz.f10 0) (⟨[(1,.seq (ks.map .str) d),(4,.str ⟨#[]⟩),(5,.row 11 0 ts.length),(13,.seq (ts.map Tm.av) c),(14,.int .i64 ts.length),(15,.int .i64 i)],[(11,.row 1 (bs.map bav))]⟩) (Out.normal) (St.mk [(1,AV.seq (List.map AV.str ks) d),(4,AV.str (ByteArray.mk #[])),(5,AV.row 11 0 (List.length ts)),(13,AV.seq (List.map Tm.av ts) c),(14,AV.int IntKind.i64 (↑(List.length ts):Int)),(15,AV.int IntKind.i64 ((↑i:Int)+1))] [(11,Ob.row 1 (List.set (List.set (List.map bav bs) (0+Int.toNat (↑i:Int)) (AV.int IntKind.u8 102)) (0+Int.toNat (↑i:Int)) (AV.int IntKind.u8 98)))]):=
 pathA_sound Tryz_mix (base:=0) (sc:=[.is true,.elt t.av,.is false,.is true,.call (.bool true) [] []]) (slots:=[1,4,5,13,14,15]) (tb:=[K1 11]) (cs:=[decide ((↑i:Int)<(↑(List.length ts):Int))=true,0≤(↑i:Int)∧(List.map Tm.av ts)[Int.toNat (↑i:Int)]? =some (AV.agg [AV.str t.1,AV.int IntKind.i8 t.2,AV.int IntKind.i64 t.3,AV.str t.4]),0≤(↑i:Int)∧(↑i:Int)<(↑(List.length ts):Int),0+Int.toNat (↑i:Int)<List.length (List.map bav bs),decide (Tm.v t=ByteArray.mk #[])=false,(!(decide (Tm.v t=ByteArray.mk #[95])))=
 true,Ped.Spec Tryz.prog 37 [AV.seq (List.map AV.str ks) d,AV.str t.1] [] (AV.bool true) [],0≤(↑i:Int)∧(↑i:Int)<(↑(List.length ts):Int),0+Int.toNat (↑i:Int)<List.length (List.set (List.map bav bs) (0+Int.toNat (↑i:Int)) (AV.int IntKind.u8 102)),IntKind.wrap IntKind.i64 ((↑i:Int)+1)=(↑i:Int)+1,noIdsL (List.set (List.set (List.map bav bs) (0+Int.toNat (↑i:Int)) (AV.int IntKind.u8 102)) (0+Int.toNat (↑i:Int)) (AV.int IntKind.u8 98))=true]) (by kernel_rfl) h
theorem pat_b4 (p:ByteArray) (ts:List Tm) (c:Bool) (ks:List ByteArray) (d:Bool) (bs:List UInt8) (i:Nat) (t:Tm) (h:(decide ((↑i:Int)<(↑(List.length ts):Int))=true)∧(0≤(↑i:Int)∧(List.map Tm.av ts)[Int.toNat (↑i:Int)]? =some (AV.agg [AV.str t.1,AV.int IntKind.i8 t.2,AV.int IntKind.i64 t.3,AV.str t.4]))∧(0≤(↑i:Int)∧(↑i:Int)<(↑(List.length ts):Int))∧(0+Int.toNat (↑i:Int)<List.length (List.map bav bs))∧(decide (Tm.v t=ByteArray.mk #[])=false)∧((!(decide (Tm.v t=ByteArray.mk #[95])))=
 true)∧(Ped.Spec Tryz.prog 37 [AV.seq (List.map AV.str ks) d,AV.str t.1] [] (AV.bool false) [])∧(IntKind.wrap IntKind.i64 ((↑i:Int)+1)=(↑i:Int)+1)∧(noIdsL (List.set (List.map bav bs) (0+Int.toNat (↑i:Int)) (AV.int IntKind.u8 102))=true)∧True):Runs Tryz.prog 43 (loopOf Tryz.f10 0) (⟨[(1,.seq (ks.map .str) d),(4,.str ⟨#[]⟩),(5,.row 11 0 ts.length),(13,.seq (ts.map Tm.av) c),(14,.int .i64 ts.length),(15,.int .i64 i)],[(11,.row 1 (bs.map bav))]⟩) (Out.normal) (St.mk [(1,AV.seq (List.map AV.str ks) d),(4,AV.str (ByteArray.mk #[])),(5,AV.row 11 0 (List.length ts)),(13,AV.seq (List.map Tm.av ts) c),(14,AV.int IntKind.i64 (↑(List.length ts):Int)),(15,AV.int IntKind.i64 ((↑i:Int)+1))] [(11,Ob.row 1 (List.set (List.map bav bs) (0+Int.toNat (↑i:Int)) (AV.int IntKind.u8 102)))]):=
 pathA_sound Tryz_mix (base:=0) (sc:=[.is true,.elt t.av,.is false,.is true,.call (.bool false) [] []]) (slots:=[1,4,5,13,14,15]) (tb:=[K1 11]) (cs:=[decide ((↑i:Int)<(↑(List.length ts):Int))=true,0≤(↑i:Int)∧(List.map Tm.av ts)[Int.toNat (↑i:Int)]? =some (AV.agg [AV.str t.1,AV.int IntKind.i8 t.2,AV.int IntKind.i64 t.3,AV.str t.4]),0≤(↑i:Int)∧(↑i:Int)<(↑(List.length ts):Int),0+Int.toNat (↑i:Int)<List.length (List.map bav bs),decide (Tm.v t=ByteArray.mk #[])=false,(!(decide (Tm.v t=ByteArray.mk #[95])))=
 true,Ped.Spec Tryz.prog 37 [AV.seq (List.map AV.str ks) d,AV.str t.1] [] (AV.bool false) [],IntKind.wrap IntKind.i64 ((↑i:Int)+1)=(↑i:Int)+1,noIdsL (List.set (List.map bav bs) (0+Int.toNat (↑i:Int)) (AV.int IntKind.u8 102))=true]) (by kernel_rfl) h
theorem pat_end (p:ByteArray) (ts:List Tm) (c:Bool) (ks:List ByteArray) (d:Bool) (bs:List UInt8) (i:Nat) (h:(decide ((↑i:Int)<(↑(List.length ts):Int))=false)∧(noIdsL (List.map bav bs)=true)∧True):Runs Tryz.prog 43 (loopOf Tryz.f10 0) (⟨[(1,.seq (ks.map .str) d),(4,.str ⟨#[]⟩),(5,.row 11 0 ts.length),(13,.seq (ts.map Tm.av) c),(14,.int .i64 ts.length),(15,.int .i64 i)],[(11,.row 1 (bs.map bav))]⟩) (Out.exit 0) (St.mk [(5,AV.row 11 0 (List.length ts))] [(11,Ob.row 1 (List.map bav bs))]):=
 pathA_sound Tryz_mix (base:=0) (sc:=[.is false]) (slots:=[5]) (tb:=[K1 11]) (cs:=[decide ((↑i:Int)<(↑(List.length ts):Int))=false,noIdsL (List.map bav bs)=true]) (by kernel_rfl) h
theorem pat_body (bs:ByteArray) (h:((↑(List.length (List.map Tm.av ts)):Int)=(↑(List.length (List.map Tm.av ts)):Int)∧0≤(↑(List.length (List.map Tm.av ts)):Int)∧(↑(List.length (List.map Tm.av ts)):Int)*1≤140737488355328∧(↑(List.length (List.map Tm.av ts)):Int)≤9223372036854775807)∧(Go.Ped.Loops Tryz.prog 43 (loopOf Tryz.f10 0) (St.mk [(0,AV.agg [AV.str p,AV.seq (List.map Tm.av ts) c]),(1,AV.seq (List.map AV.str ks) d),(2,AV.elt 2 0 0),(4,AV.str (ByteArray.mk #[])),(8,AV.elt 2 0 1),(9,AV.seq (List.map Tm.av ts) c),(10,AV.int IntKind.i64 (↑(List.length (List.map Tm.av ts)):Int)),(11,AV.row 11 0 (Int.toNat (↑(List.length (List.map Tm.av ts)):Int))),(5,AV.row 11 0 (Int.toNat (↑(List.length (List.map Tm.av ts)):Int))),(12,AV.elt 2 0 1),(13,AV.seq (List.map Tm.av ts) c),(14,AV.int IntKind.i64 (↑(List.length (List.map Tm.av ts)):Int)),(15,AV.int IntKind.i64 0)] [(2,Ob.var [AV.str p,AV.seq (List.map Tm.av ts) c]),(11,Ob.row 1 (List.replicate (Int.toNat (↑(List.length (List.map Tm.av ts)):Int)) (AV.int IntKind.u8 0)))]) (Out.exit 0) (St.mk [(5,AV.row 11 0 (List.length ts))] [(11,Ob.row 1 (List.map bav (ByteArray.data bs).1))]))∧(0=0∧List.length ts=ByteArray.size bs∧List.take (List.length ts) (List.map bav (ByteArray.data bs).1)=List.map (fun (b:UInt8)=>AV.int IntKind.u8 (↑(UInt8.toNat b):Int)) (ByteArray.data bs).1)∧True):Runs Tryz.prog 43 (bodyOf Tryz.f10) (⟨[(0,.agg [.str p,.seq (ts.map Tm.av) c]),(1,.seq (ks.map .str) d)],[]⟩) (Out.ret) (St.mk [(4,AV.str bs)] []):=
 pathA_sound Tryz_mix (base:=0) (sc:=[.sum (.exit 0) [(5,.row 11 0 ts.length)] [(11,.row 1 (bs.data.toList.map bav))],.text bs]) (slots:=[4]) (tb:=[]) (cs:=[(↑(List.length (List.map Tm.av ts)):Int)=(↑(List.length (List.map Tm.av ts)):Int)∧0≤(↑(List.length (List.map Tm.av ts)):Int)∧(↑(List.length (List.map Tm.av ts)):Int)*1≤140737488355328∧(↑(List.length (List.map Tm.av ts)):Int)≤9223372036854775807,Go.Ped.Loops Tryz.prog 43 (loopOf Tryz.f10 0) (St.mk [(0,AV.agg [AV.str p,AV.seq (List.map Tm.av ts) c]),(1,AV.seq (List.map AV.str ks) d),(2,AV.elt 2 0 0),(4,AV.str (ByteArray.mk #[])),(8,AV.elt 2 0 1),(9,AV.seq (List.map Tm.av ts) c),(10,AV.int IntKind.i64 (↑(List.length (List.map Tm.av ts)):Int)),(11,AV.row 11 0 (Int.toNat (↑(List.length (List.map Tm.av ts)):Int))),(5,AV.row 11 0 (Int.toNat (↑(List.length (List.map Tm.av ts)):Int))),(12,AV.elt 2 0 1),(13,AV.seq (List.map Tm.av ts) c),(14,AV.int IntKind.i64 (↑(List.length (List.map Tm.av ts)):Int)),(15,AV.int IntKind.i64 0)] [(2,Ob.var [AV.str p,AV.seq (List.map Tm.av ts) c]),(11,Ob.row 1 (List.replicate (Int.toNat (↑(List.length (List.map Tm.av ts)):Int)) (AV.int IntKind.u8 0)))]) (Out.exit 0) (St.mk [(5,AV.row 11 0 (List.length ts))] [(11,Ob.row 1 (List.map bav (ByteArray.data bs).1))]),0=0∧List.length ts=ByteArray.size bs∧List.take (List.length ts) (List.map bav (ByteArray.data bs).1)=List.map (fun (b:UInt8)=>AV.int IntKind.u8 (↑(UInt8.toNat b):Int)) (ByteArray.data bs).1]) (by kernel_rfl) h
abbrev Z110:Nat×AV:=(0,.seq (ts.map Tm.av) c)
abbrev Z111:Nat×AV:=(1,.seq (ts.map Tm.av) d)
abbrev Z114:St:=⟨[Z110 ts c,Z111 ts d,(5,.int .i64 i)],[]⟩
theorem st_turn (h:(decide ((↑i:Int)<(↑(List.length (List.map Tm.av ts)):Int))=true)∧(0≤(↑i:Int)∧(List.map Tm.av ts)[Int.toNat (↑i:Int)]? =some (AV.agg [AV.str t.1,AV.int IntKind.i8 t.2,AV.int IntKind.i64 t.3,AV.str t.4]))∧(0≤(↑i:Int)∧(List.map Tm.av ts)[Int.toNat (↑i:Int)]? =some (AV.agg [AV.str t.1,AV.int IntKind.i8 t.2,AV.int IntKind.i64 t.3,AV.str t.4]))∧((!(decide (Tm.v t=Tm.v t)&&(decide (Tm.k t=Tm.k t)&&(decide (Tm.n t=Tm.n t)&&(decide (Tm.s t=Tm.s t)&&true))&&true)))=
 false)∧(IntKind.wrap IntKind.i64 ((↑i:Int)+1)=(↑i:Int)+1)∧True):Runs Tryz.prog 26 (loopOf Tryz.f21 0) ((Z114 ts c d i)) (Out.normal) (St.mk [Z110 ts c,Z111 ts d,(5,.int .i64 ((i:Int)+1))] []):=
 pathA_sound Tryz_mix (base:=0) (sc:=[.is true,.elt t.av,.elt t.av,.is false]) (slots:=[0,1,5]) (tb:=[]) (cs:=[decide ((↑i:Int)<(↑(List.length (List.map Tm.av ts)):Int))=true,0≤(↑i:Int)∧(List.map Tm.av ts)[Int.toNat (↑i:Int)]? =some (AV.agg [AV.str t.1,AV.int IntKind.i8 t.2,AV.int IntKind.i64 t.3,AV.str t.4]),0≤(↑i:Int)∧(List.map Tm.av ts)[Int.toNat (↑i:Int)]? =some (AV.agg [AV.str t.1,AV.int IntKind.i8 t.2,AV.int IntKind.i64 t.3,AV.str t.4]),(!(decide (Tm.v t=Tm.v t)&&(decide (Tm.k t=Tm.k t)&&(decide (Tm.n t=Tm.n t)&&(decide (Tm.s t=Tm.s t)&&true))&&true)))=
 false,IntKind.wrap IntKind.i64 ((↑i:Int)+1)=(↑i:Int)+1]) (by kernel_rfl) h
theorem st_end (h:(decide ((↑i:Int)<(↑(List.length (List.map Tm.av ts)):Int))=false)∧True):Runs Tryz.prog 26 (loopOf Tryz.f21 0) ((Z114 ts c d i)) (Out.exit 0) (St.mk [] []):=
 pathA_sound Tryz_mix (base:=0) (sc:=[.is false]) (slots:=[]) (tb:=[]) (cs:=[decide ((↑i:Int)<(↑(List.length (List.map Tm.av ts)):Int))=false]) (by kernel_rfl) h
abbrev Z112:Nat×AV:=(7,.int .i64 (↑(ts.map Tm.av).length:Int))
abbrev Z113:Nat×AV:=(9,.int .i64 (↑(ts.map Tm.av).length:Int))
theorem st_body (h:((!(decide ((↑(List.length (List.map Tm.av ts)):Int)=(↑(List.length (List.map Tm.av ts)):Int))))=
 false)∧(Go.Ped.Loops Tryz.prog 26 (loopOf Tryz.f21 0) (St.mk [Z110 ts c,Z111 ts d,(4,.bool false),(6,.seq (ts.map Tm.av) c),Z112 ts,(8,.seq (ts.map Tm.av) d),Z113 ts,(10,.bool false),(5,.int .i64 0)] []) (Out.exit 0) (St.mk [] []))∧True):Runs Tryz.prog 26 (bodyOf Tryz.f21) (⟨[Z110 ts c,Z111 ts d],[]⟩) (Out.ret) (St.mk [(4,.bool true)] []):=
 pathA_sound Tryz_mix (base:=0) (sc:=[.is false,.sum (.exit 0) [] []]) (slots:=[4]) (tb:=[]) (cs:=[(!(decide ((↑(List.length (List.map Tm.av ts)):Int)=(↑(List.length (List.map Tm.av ts)):Int))))=
 false,Go.Ped.Loops Tryz.prog 26 (loopOf Tryz.f21 0) (St.mk [Z110 ts c,Z111 ts d,(4,.bool false),(6,.seq (ts.map Tm.av) c),Z112 ts,(8,.seq (ts.map Tm.av) d),Z113 ts,(10,.bool false),(5,.int .i64 0)] []) (Out.exit 0) (St.mk [] [])]) (by kernel_rfl) h
theorem nm_a (q s:ByteArray) (h:(2+ByteArray.size s≤9223372036854775807)∧(ByteArray.size (ByteArray.mk #[113,95]++s)+1≤9223372036854775807)∧(ByteArray.size (ByteArray.mk #[113,95]++s++ByteArray.mk #[95])+ByteArray.size q≤9223372036854775807)∧True):Runs Tryz.prog 10 (bodyOf Tryz.f14) (⟨[(0,.agg [.str q,.str s])],[]⟩) (Out.ret) (St.mk [(2,.str (ByteArray.mk #[113,95]++s++ByteArray.mk #[95]++q))] []):=
 pathA_sound Tryz_mix (base:=0) (sc:=[]) (slots:=[2]) (tb:=[]) (cs:=[2+ByteArray.size s≤9223372036854775807,ByteArray.size (ByteArray.mk #[113,95]++s)+1≤9223372036854775807,ByteArray.size (ByteArray.mk #[113,95]++s++ByteArray.mk #[95])+ByteArray.size q≤9223372036854775807]) (by kernel_rfl) h
end
end Go.Ped
set_option linter.unnecessarySimpa false
set_option linter.unusedSimpArgs false
namespace Go.Ped
open Go.RowKit Go.Proofs
theorem noIds_av (ts:List Tm):noIdsL (ts.map Tm.av)=true:=noIdsL_iff.2 fun x hx=>by obtain ⟨t,_,rfl⟩:=List.mem_map.1 hx;rfl
theorem noIds_str (ks:List ByteArray):noIdsL (ks.map AV.str)=true:=noIdsL_iff.2 fun x hx=>by obtain ⟨t,_,rfl⟩:=List.mem_map.1 hx;rfl
theorem noIds_bav (bs:List UInt8):noIdsL (bs.map bav)=true:=noIdsL_iff.2 fun x hx=>by obtain ⟨t,_,rfl⟩:=List.mem_map.1 hx;rfl
theorem get_av {ts:List Tm} {i:Nat} {t:Tm} (h:ts[i]? =some t):(List.map Tm.av ts)[Int.toNat (↑i:Int)]? =some t.av:=by simpa using get_map Tm.av h
theorem first_at {l:List ByteArray} {s:ByteArray} (hin:s∈l):∃k:Nat,l[k]? =some s∧∀i,i<k→∃x,l[i]? =some x∧x≠s:=by
 induction l with
 |nil=>simp at hin
 |cons y r ih=>
  by_cases e:y=s
  ·exact ⟨0,by simp [e],fun i hi=>by omega⟩
  ·have hin':s∈r:=by simpa [Ne.symm e] using hin
   obtain ⟨k,h1,h2⟩:=ih hin'
   refine ⟨k+1,by simpa using h1,fun i hi=> ?_⟩
   cases i with
   |zero=>exact ⟨y,rfl,e⟩
   |succ i=>simpa using h2 i (by omega)
theorem fill_step {α β:Type} (f:α→β) (z:β) {l:List α} {i m:Nat} {x:α} (hx:l[i]? =some x):((l.take i).map f++List.replicate (m+1) z).set i (f x)=(l.take (i+1)).map f++List.replicate m z:=by
 have hi:i<l.length:=(List.getElem?_eq_some_iff.1 hx).1
 have hlen:((l.take i).map f).length=i:=by rw [List.length_map,List.length_take];omega
 rw [List.set_append_right _ _ (by omega),hlen,Nat.sub_self,List.replicate_succ,List.set_cons_zero]
 have:l.take (i+1)=l.take i++[x]:=by rw [List.take_add_one,hx];rfl
 rw [this,List.map_append,List.append_assoc]
 rfl
theorem index_yes (l:List ByteArray) (c:Bool) (s:ByteArray) (hl:l.length<1000000000000000) (h:s∈l):∃k:Nat,Spec Tryz.prog 73 [.seq (l.map .str) c,.str s] [] (.int .i64 k) []:=by
 obtain ⟨k,h1,h2⟩:=first_at h
 have hk:k<l.length:=(List.getElem?_eq_some_iff.1 h1).1
 refine ⟨k,Spec.pure (fn:=Tryz.f73) (c:=bodyOf Tryz.f73) (by kernel_rfl) (by kernel_rfl) (by kernel_rfl) (idx_yes l c s k ⟨?_,trivial⟩) (.inr rfl) (by kernel_rfl) (by kernel_rfl)⟩
 let st:Nat→St:=fun i=>⟨[(0,.seq (l.map AV.str) c),(1,.str s),(4,.int .i64 0),(7,.int .i64 l.length),(8,.int .i64 i)],[]⟩
 have main:Loops Tryz.prog 19 (loopOf Tryz.f73 0) (st 0) .ret (St.mk [(4,.int .i64 (k:Int))] []):=by
  refine Loops.from (N:=k) (fun i hi=> ?_) (.leave (idx_found l c s s k ⟨by simp;omega,⟨by omega,by simpa using h1⟩,by simp,trivial⟩) (by simp))
  obtain ⟨x,h3,h4⟩:=h2 i hi
  exact idx_next l c s x i ⟨by simp;omega,⟨by omega,by simpa using h3⟩,by simp [Ne.symm h4],wrap64_id (by omega) (by omega),trivial⟩
 simp only [List.length_map]
 exact Loops.keep [0,1,4,7,8] [] main (cs:=[]) (by kernel_rfl) trivial
theorem index_no (l:List ByteArray) (c:Bool) (s:ByteArray) (hl:l.length<1000000000000000) (h:s∉l):Spec Tryz.prog 73 [.seq (l.map .str) c,.str s] [] (.int .i64 (-1)) []:=by
 refine Spec.pure (fn:=Tryz.f73) (c:=bodyOf Tryz.f73) (by kernel_rfl) (by kernel_rfl) (by kernel_rfl) (idx_no l c s ⟨?_,trivial⟩) (.inr rfl) (by kernel_rfl) (by kernel_rfl)
 let st:Nat→St:=fun i=>⟨[(0,.seq (l.map AV.str) c),(1,.str s),(4,.int .i64 0),(7,.int .i64 l.length),(8,.int .i64 i)],[]⟩
 have main:Loops Tryz.prog 19 (loopOf Tryz.f73 0) (st 0) (.exit 0) (St.mk [] []):=by
  refine Loops.from (N:=l.length) (fun i hi=> ?_) (.leave (idx_end l c s l.length ⟨by simp,trivial⟩) (by simp))
  have h3:l[i]? =some l[i]:=List.getElem?_eq_getElem hi
  have h4:l[i]≠s:=fun e=>h (e▸List.getElem_mem hi)
  exact idx_next l c s l[i] i ⟨by simp;omega,⟨by omega,by simpa using h3⟩,by simp [Ne.symm h4],wrap64_id (by omega) (by omega),trivial⟩
 simp only [List.length_map]
 exact Loops.keep [0,1,4,7,8] [] main (cs:=[]) (by kernel_rfl) trivial
theorem contains_spec (l:List ByteArray) (c:Bool) (s:ByteArray) (hl:l.length<1000000000000000):Spec Tryz.prog 37 [.seq (l.map .str) c,.str s] [] (.bool (hasT l s)) []:=by
 by_cases h:s∈l
 ·rw [hasT_iff.2 h]
  obtain ⟨k,hk⟩:=index_yes l c s hl h
  have this:Spec Tryz.prog 37 [.seq (l.map .str) c,.str s] [] (.bool (decide (0≤(↑k:Int)))) []:=Spec.pure (fn:=Tryz.f37) (c:=bodyOf Tryz.f37) (by kernel_rfl) (by kernel_rfl) (by kernel_rfl) (con_p l c s k ⟨hk,trivial⟩) (.inr rfl) (by kernel_rfl) (by kernel_rfl)
  have e:decide (0≤(↑k:Int))=true:=by simp
  rw [e] at this
  exact this
 ·rw [hasT_false h]
  exact Spec.pure (fn:=Tryz.f37) (c:=bodyOf Tryz.f37) (by kernel_rfl) (by kernel_rfl) (by kernel_rfl) (con_p l c s (-1) ⟨index_no l c s hl h,trivial⟩) (.inr rfl) (by kernel_rfl) (by kernel_rfl)
def pb (ks:List ByteArray) (t:Tm):UInt8:=if t.v=⟨#[]⟩ then 98 else if t.v=⟨#[95]⟩ then 102 else bif hasT ks t.v then 98 else 102
def patT (ts:List Tm) (ks:List ByteArray):ByteArray:=⟨(ts.map (pb ks)).toArray⟩
theorem bset (bs:List UInt8) (i:Nat) (b:UInt8):(bs.map bav).set i (bav b)=(bs.set i b).map bav:=by rw [List.map_set]
abbrev Z130 (ts:List Tm):Nat×AV:=(5,.row 11 0 ts.length)
theorem pat_spec (p:ByteArray) (ts:List Tm) (c:Bool) (ks:List ByteArray) (d:Bool) (hts:ts.length<1000000000000) (hks:ks.length<1000000000000000):
  Spec Tryz.prog 10 [.agg [.str p,.seq (ts.map Tm.av) c],.seq (ks.map .str) d] [] (.str (patT ts ks)) []:=by
 have hpt:(patT ts ks).data.toList=ts.map (pb ks):=by simp [patT]
 refine Spec.pure (fn:=Tryz.f10) (c:=bodyOf Tryz.f10) (by kernel_rfl) (by kernel_rfl) ?_ (pat_body p ts c ks d (patT ts ks) ⟨?_,?_,?_,trivial⟩) (.inr rfl) (by kernel_rfl) (by kernel_rfl)
 ·simp only [noIdsL,Ped.noIds,noIds_av,noIds_str,Bool.and_self,Bool.and_true]
 ·refine ⟨rfl,by omega,?_,?_⟩<;>rw [List.length_map]<;>omega
 ·let bs:Nat→List UInt8:=fun i=>(ts.take i).map (pb ks)++List.replicate (ts.length-i) 0
  let st:Nat→St:=fun i=>⟨[(1,.seq (ks.map AV.str) d),(4,.str ⟨#[]⟩),Z130 ts,(13,.seq (ts.map Tm.av) c),(14,.int .i64 ts.length),(15,.int .i64 i)],[(11,.row 1 ((bs i).map bav))]⟩
  have hbl:∀i,i≤ts.length→(bs i).length=ts.length:=by
   intro i hi
   simp only [bs,List.length_append,List.length_map,List.length_take,List.length_replicate]
   omega
  have step:∀i,i<ts.length→Runs Tryz.prog 43 (loopOf Tryz.f10 0) (st i) .normal (st (i+1)):=by
   intro i hi
   have hx:ts[i]? =some ts[i]:=List.getElem?_eq_getElem hi
   generalize ts[i]=t at hx
   have hlen:=hbl i (Nat.le_of_lt hi)
   have c1:decide ((↑i:Int)<(↑(List.length ts):Int))=true:=by simp;omega
   have c2:=get_av hx
   have c3:0≤(↑i:Int)∧(↑i:Int)<(↑(List.length ts):Int):=by omega
   have c4:0+Int.toNat (↑i:Int)<List.length (List.map bav (bs i)):=by rw [List.length_map,hlen];simpa using hi
   have c5:IntKind.wrap IntKind.i64 ((↑i:Int)+1)=(↑i:Int)+1:=wrap64_id (by omega) (by omega)
   have e1:∀b,List.set (List.map bav (bs i)) (0+Int.toNat (↑i:Int)) (bav b)=((bs i).set i b).map bav:=by
    intro b
    rw [bset];simp
   have e2:∀b b',((bs i).set i b).set i b'=(bs i).set i b':=by intro b b';rw [List.set_set]
   have e3:(bs i).set i (pb ks t)=bs (i+1):=by
    simp only [bs]
    have:ts.length-i=(ts.length-(i+1))+1:=by omega
    rw [this]
    exact fill_step (pb ks) 0 hx
   have c6:0+Int.toNat (↑i:Int)<List.length (List.set (List.map bav (bs i)) (0+Int.toNat (↑i:Int)) (bav 102)):=by rw [List.length_set];exact c4
   have hc:=contains_spec ks d t.v hks
   have fin:∀b,pb ks t=b→∀es,es=((bs i).set i b).map bav→(St.mk [(1,.seq (ks.map AV.str) d),(4,.str (ByteArray.mk #[])),Z130 ts,(13,.seq (ts.map Tm.av) c),(14,.int .i64 (↑ts.length:Int)),(15,.int .i64 ((i:Int)+1))] [(11,.row 1 es)])=st (i+1):=by
    intro b hb es he
    rw [he,←hb,e3]
    rfl
   by_cases h1:t.v=⟨#[]⟩
   ·have hb:pb ks t=98:=by unfold pb;rw [if_pos h1]
    have:=pat_b1 p ts c ks d (bs i) i t ⟨c1,⟨by omega,c2⟩,c3,c4,by simpa using h1,c3,c6,c5,?_,trivial⟩
    ·rw [fin 98 hb _ (by rw [show (AV.int IntKind.u8 102)=bav 102 from rfl,show (AV.int IntKind.u8 98)=bav 98 from rfl,e1,bset];simp [e2])] at this
     exact this
    ·rw [show (AV.int IntKind.u8 102)=bav 102 from rfl,show (AV.int IntKind.u8 98)=bav 98 from rfl,e1,bset];exact noIds_bav _
   ·by_cases h2:t.v=⟨#[95]⟩
    ·have hb:pb ks t=102:=by unfold pb;rw [if_neg h1,if_pos h2]
     have:=pat_b2 p ts c ks d (bs i) i t ⟨c1,⟨by omega,c2⟩,c3,c4,by simpa using h1,by simp [h2],c5,?_,trivial⟩
     ·rw [fin 102 hb _ (by rw [show (AV.int IntKind.u8 102)=bav 102 from rfl,e1])] at this
      exact this
     ·rw [show (AV.int IntKind.u8 102)=bav 102 from rfl,e1];exact noIds_bav _
    ·cases h3:hasT ks t.v with
     |true=>
      rw [h3] at hc
      have hb:pb ks t=98:=by unfold pb;rw [if_neg h1,if_neg h2,h3];rfl
      have:=pat_b3 p ts c ks d (bs i) i t ⟨c1,⟨by omega,c2⟩,c3,c4,by simpa using h1,by simp [h2],hc,c3,c6,c5,?_,trivial⟩
      ·rw [fin 98 hb _ (by rw [show (AV.int IntKind.u8 102)=bav 102 from rfl,show (AV.int IntKind.u8 98)=bav 98 from rfl,e1,bset];simp [e2])] at this
       exact this
      ·rw [show (AV.int IntKind.u8 102)=bav 102 from rfl,show (AV.int IntKind.u8 98)=bav 98 from rfl,e1,bset];exact noIds_bav _
     |false=>
      rw [h3] at hc
      have hb:pb ks t=102:=by unfold pb;rw [if_neg h1,if_neg h2,h3];rfl
      have:=pat_b4 p ts c ks d (bs i) i t ⟨c1,⟨by omega,c2⟩,c3,c4,by simpa using h1,by simp [h2],hc,c5,?_,trivial⟩
      ·rw [fin 102 hb _ (by rw [show (AV.int IntKind.u8 102)=bav 102 from rfl,e1])] at this
       exact this
      ·rw [show (AV.int IntKind.u8 102)=bav 102 from rfl,e1];exact noIds_bav _
  have main:Loops Tryz.prog 43 (loopOf Tryz.f10 0) (st 0) (.exit 0) (St.mk [Z130 ts] [(11,.row 1 (List.map bav (bs ts.length)))]):=
   Loops.from (N:=ts.length) step (.leave (pat_end p ts c ks d (bs ts.length) ts.length ⟨by simp,noIds_bav _,trivial⟩) (by simp))
  have he:bs ts.length=ts.map (pb ks):=by simp only [bs,Nat.sub_self,List.replicate_zero,List.append_nil,List.take_length]
  rw [he] at main
  rw [hpt]
  simp only [List.length_map,Int.toNat_natCast]
  have e0:st 0=⟨[(1,.seq (ks.map AV.str) d),(4,.str ⟨#[]⟩),Z130 ts,(13,.seq (ts.map Tm.av) c),(14,.int .i64 ts.length),(15,.int .i64 0)],[(11,.row 1 (List.replicate ts.length (.int .u8 0)))]⟩:=by
   simp [st,bs,bav]
  rw [e0] at main
  exact Loops.keep [1,4,5,13,14,15] [(11,.keep 11 true)] main (cs:=[noIdsL (List.replicate ts.length (AV.int IntKind.u8 0))=true]) (by kernel_rfl) ⟨by have:=noIds_bav (List.replicate ts.length 0);simpa [bav] using this,trivial⟩
 ·rw [hpt]
  refine ⟨rfl,?_,?_⟩
  ·show ts.length=(ts.map (pb ks)).toArray.size
   simp
  ·rw [List.take_of_length_le (by simp)]
   rfl
end Go.Ped
namespace Go.Ped
open Go.RowKit
section
def Ob.set:Ob→Nat→AV→Ob
 | .var cs,j,y=> .var (cs.set j y)
 | .map ks vs,j,y=> .map ks (vs.set j y)
 |o,_,_=>o
theorem Ob.set_at {o:Ob} {j:Nat} {x y:AV} (h:o.at j=some x) (i:Nat):(o.set j y).at i=if j=i then some y else o.at i:=by
 cases o with
 |var cs=>
  have hlt:j<cs.length:=(List.getElem?_eq_some_iff.1 h).1
  simp only [Ob.set,Ob.at,List.getElem?_set]
  by_cases e:j=i
  ·subst e;rw [if_pos rfl,if_pos rfl,if_pos hlt]
  ·rw [if_neg e,if_neg e]
 |map ks vs=>
  have hlt:j<vs.length:=(List.getElem?_eq_some_iff.1 h).1
  simp only [Ob.set,Ob.at,List.getElem?_set]
  by_cases e:j=i
  ·subst e;rw [if_pos rfl,if_pos rfl,if_pos hlt]
  ·rw [if_neg e,if_neg e]
 |row sz es=>cases h
 |dead=>cases h
section
variable {F:Fr} {S S':Blk} {β β':Beta} {hp:List (Nat×Ob)} {w:World}
theorem placeHO {id:Nat} {o:Ob} {j:Nat} {x:AV} (h:HO S β w id o) (ha:o.at j=some x):∃bi u,β id=some bi∧slotV w bi.blk j=some u∧V S β w u x:=by
 cases o with
 |var cs=>
  obtain ⟨bi,h1,h2,cur,t,r1,r2,r3,r4,r5,r6⟩:=h
  obtain ⟨u,hu,hv⟩:=r6 0 j (.agg cs) x rfl ha
  rw [Nat.zero_mul,Nat.zero_add] at hu
  exact ⟨bi,u,h1,by unfold slotV;rw [r1];exact hu,hv⟩
 |map ks vs=>
  obtain ⟨bi,es,cl,h1,h2,h3,h4,h5,h6,_⟩:=h
  have hlt:j<vs.length:=(List.getElem?_eq_some_iff.1 ha).1
  have he:es[j]? =some (es[j]'(by omega)):=Array.getElem?_eq_getElem (by omega)
  exact ⟨bi,_,h1,by rw [slotV_map h2,he];rfl,h6 j _ x he ha⟩
 |row sz es=>cases ha
 |dead=>cases ha
theorem setHO {id:Nat} {o:Ob} {j:Nat} {x y:AV} (h:HO S β w id o) (ha:o.at j=some x) (hy:∀u,(∀bi,β id=some bi→slotV w bi.blk j=some u)→V S β w u x→V S' β' w u y) (hS:∀b,S b→S' b) (hβ:∀i b,β i=some b→β' i=some b):HO S' β' w id (o.set j y):=by
 have up:∀{u:Value} {z:AV},V S β w u z→V S' β' w u z:=fun h=>h.mono hS hβ (Agr.refl S w)
 cases o with
 |var cs=>
  obtain ⟨bi,h1,h2,cur,t,r1,r2,r3,r4,r5,r6⟩:=h
  refine ⟨bi,hβ _ _ h1,h2,cur,t,r1,r2,by simpa using r3,r4,fun i e he=> ?_,fun i k e c he hc=> ?_⟩
  ·cases i with
   |zero=>
    simp only [List.getElem?_cons_zero,Option.some.injEq] at he
    subst he
    have:=r5 0 (.agg cs) rfl
    simpa [AV.cells] using this
   |succ i=>simp at he
  ·cases i with
   |zero=>
    simp only [List.getElem?_cons_zero,Option.some.injEq] at he
    subst he
    simp only [AV.cells,List.getElem?_set] at hc
    by_cases e:j=k
    ·subst e
     rw [if_pos rfl] at hc
     split at hc
     ·injection hc with hc;subst hc
      obtain ⟨u,hu,hv⟩:=r6 0 j (.agg cs) x rfl ha
      refine ⟨u,hu,hy u (fun b2 hb2=> ?_) hv⟩
      rw [h1] at hb2;injection hb2 with hb2;subst hb2
      unfold slotV;rw [r1]
      rw [Nat.zero_mul,Nat.zero_add] at hu
      exact hu
     ·cases hc
    ·rw [if_neg e] at hc
     obtain ⟨u,hu,hv⟩:=r6 0 k (.agg cs) c rfl hc
     exact ⟨u,hu,up hv⟩
   |succ i=>simp at he
 |map ks vs=>
  obtain ⟨bi,es,cl,h1,h2,h3,h4,h5,h6,h7⟩:=h
  refine ⟨bi,es,cl,hβ _ _ h1,h2,h3,by simpa using h4,fun i e k he hk=>up (h5 i e k he hk),fun i e v he hv=> ?_,h7⟩
  rw [List.getElem?_set] at hv
  by_cases e':j=i
  ·subst e'
   rw [if_pos rfl] at hv
   split at hv
   ·injection hv with hv;subst hv
    refine hy _ (fun b2 hb2=> ?_) (h6 j e x he ha)
    rw [h1] at hb2;injection hb2 with hb2;subst hb2
    rw [slotV_map h2,he];rfl
   ·cases hv
  ·rw [if_neg e'] at hv
   exact up (h6 i e v he hv)
 |row sz es=>cases ha
 |dead=>cases ha
theorem monoHO {id:Nat} {o:Ob} (h:HO S β w id o) (hS:∀b,S b→S' b) (hβ:∀i b,β i=some b→β' i=some b):HO S' β' w id o:=h.mono hS hβ (Agr.refl S w) (fun _ _=>rfl)
theorem Mem.openOwn (M:Mem F S β hp w) {id j sz d:Nat} {es:List AV} {o:Ob} (ho:look hp id=some o) (ha:o.at j=some (.own sz es)) (hne:es≠[]) (hd:look hp d=none) (hm:mid≤id→mid≤d):
  ∃β',Ext S S β β' w w∧Mem F S β' (putL (putL hp id (o.set j (.row d 0 es.length))) d (.row sz es)) w:=by
 obtain ⟨v,hO,hv⟩:=M.hid.own id o j sz es ho ha
 rcases hv with ⟨e,_⟩|⟨b,cap,rfl,_,hHR,B⟩
 ·exact absurd e hne
 have hbn:=M.beta_none hd
 have hne':id≠d:=by rintro rfl;rw [ho] at hd;cases hd
 let bi:Bl:=⟨b,sz,cap⟩
 have hx:∀i x,β i=some x→β.add d bi i=some x:=Beta.add_ext hbn
 have hlen:es.length≤cap:=by obtain ⟨_,_,_,_,h,_⟩:=hHR;exact h
 have hlv:∀k,k≠d→(∀y,look (putL (putL hp id (o.set j (.row d 0 es.length))) d (.row sz es)) k=some y→y≠ .dead)→∀y,look hp k=some y→y≠ .dead:=by
  intro k hk h y hy
  by_cases e:id=k
  ·subst e;rw [ho] at hy;injection hy with hy;subst hy;exact Ob.at_live ha
  ·exact h y (by rw [look_put,if_neg (Ne.symm hk),look_put,if_neg e];exact hy)
 refine ⟨β.add d bi,⟨fun _ h=>h,hx,Agr.refl S w⟩,Mem.mk' ⟨M.tab,M.os,M.tape,M.output,M.size,M.keep,fun k y hy=> ?_,fun k bk hk=> ?_,fun i k b1 b2 h1 h2 h3 h4 h5=> ?_,fun i b1 h1=> ?_,M.sub,M.base,M.new,fun i b1 h1 h2=>hx i b1 (M.giv i b1 h1 h2)⟩
  (fun M0=>M.hid.step (fun _ h=>h) (Agr.refl S w) M0.inj (fun id' o' j' sz' es' h1 h2=> ?_) (fun b2 B2 hex=>⟨rfl,B2.ns,B2.lt,B2.fr,fun i b1 h1 hl=> ?_⟩))⟩
 ·rw [look_put] at hy
  by_cases e:d=k
  ·subst e;rw [if_pos rfl] at hy;injection hy with hy;subst hy
   exact ⟨bi,Beta.add_same _ _ _,rfl,hHR.mono (fun _ h=>h) (fun _ _ h=>by cases h) (Agr.refl S w) rfl⟩
  ·rw [if_neg e,look_put] at hy
   by_cases e2:id=k
   ·subst e2;rw [if_pos rfl] at hy;injection hy with hy;subst hy
    obtain ⟨o2,b2,q1,q2,q3,q4⟩:=hO
    rw [ho] at q1;injection q1 with q1;subst q1
    have hob:=M.obs id o ho
    have key:V S (β.add d bi) w (.slice (some ⟨b,0,none⟩) es.length cap) (.row d 0 es.length):=by
     have:=V.row (S:=S) (β:=β.add d bi) (w:=w) d 0 es.length ⟨b,0,none⟩ bi (Beta.add_same _ _ _) (by simpa using hlen) (fun _=>by simp [bi])
     simpa [bi] using this
    cases o with
    |var cs=>
     obtain ⟨bj,h1,h2,cur,t,r1,r2,r3,r4,r5,r6⟩:=hob
     rw [q2] at h1;injection h1 with h1;subst h1
     refine ⟨b2,hx _ _ q2,h2,cur,t,r1,r2,by simpa using r3,r4,fun i e he=> ?_,fun i k e c he hc=> ?_⟩
     ·cases i with
      |zero=>
       simp only [List.getElem?_cons_zero,Option.some.injEq] at he
       subst he
       have:=r5 0 (.agg cs) rfl
       simpa [AV.cells] using this
      |succ i=>simp at he
     ·cases i with
      |zero=>
       simp only [List.getElem?_cons_zero,Option.some.injEq] at he
       subst he
       simp only [AV.cells,List.getElem?_set] at hc
       by_cases e:j=k
       ·subst e
        rw [if_pos rfl] at hc
        split at hc
        ·injection hc with hc;subst hc
         unfold slotV at q4
         rw [r1] at q4
         exact ⟨_,by rw [Nat.zero_mul,Nat.zero_add];exact q4,key⟩
        ·cases hc
       ·rw [if_neg e] at hc
        obtain ⟨u,hu,hv⟩:=r6 0 k (.agg cs) c rfl hc
        exact ⟨u,hu,hv.mono (fun _ h=>h) hx (Agr.refl S w)⟩
      |succ i=>simp at he
    |map ks vs=>
     obtain ⟨bj,en,cl,h1,h2,h3,h4,h5,h6,h7⟩:=hob
     rw [q2] at h1;injection h1 with h1;subst h1
     refine ⟨b2,en,cl,hx _ _ q2,h2,h3,by simpa using h4,fun i e k he hk=>(h5 i e k he hk).mono (fun _ h=>h) hx (Agr.refl S w),fun i e v he hv=> ?_,h7⟩
     rw [List.getElem?_set] at hv
     by_cases e':j=i
     ·subst e'
      rw [if_pos rfl] at hv
      split at hv
      ·injection hv with hv;subst hv
       rw [slotV_map h2,he] at q4
       injection q4 with q4
       have q4:e.val=_:=q4
       show V S (β.add d bi) w e.val _
       rw [q4];exact key
      ·cases hv
     ·rw [if_neg e'] at hv
      exact (h6 i e v he hv).mono (fun _ h=>h) hx (Agr.refl S w)
    |row sz' es'=>cases ha
    |dead=>cases ha
   ·rw [if_neg e2] at hy
    exact monoHO (M.obs k y hy) (fun _ h=>h) hx
 ·rw [look_put]
  by_cases e:d=k
  ·exact ⟨_,by rw [if_pos e]⟩
  ·rw [if_neg e,look_put]
   rcases Beta.add_cases hk with ⟨e',_⟩|⟨_,hk⟩
   ·exact absurd e'.symm e
   ·by_cases e2:id=k
    ·exact ⟨_,by rw [if_pos e2]⟩
    ·rw [if_neg e2];exact M.dom k bk hk
 ·rcases Beta.add_cases h1 with ⟨e1,c1⟩|⟨e1,h1⟩<;>rcases Beta.add_cases h2 with ⟨e2,c2⟩|⟨e2,h2⟩
  ·rw [e1,e2]
  ·exact absurd (by rw [←h5,c1]) (B.ap k b2 h2 (hlv k e2 h4))
  ·exact absurd (by rw [h5,c2]) (B.ap i b1 h1 (hlv i e1 h3))
  ·exact M.inj i k b1 b2 h1 h2 (hlv i e1 h3) (hlv k e2 h4) h5
 ·rcases Beta.add_cases h1 with ⟨e1,c1⟩|⟨_,h1⟩
  ·subst c1
   refine ⟨B.ns,B.lt,?_⟩
   rcases Nat.lt_or_ge id mid with h|h
   ·exact .inr (M.hid.new _ _ _ _ _ _ _ hO h)
   ·rcases B.fr with h'|h'
    ·exact .inl ⟨e1▸hm h,h'⟩
    ·exact .inr h'
  ·exact M.own i b1 h1
 ·rw [look_put] at h1
  by_cases e:d=id'
  ·subst e;rw [if_pos rfl] at h1;injection h1 with h1;subst h1;cases h2
  ·rw [if_neg e,look_put] at h1
   by_cases e2:id=id'
   ·subst e2;rw [if_pos rfl] at h1;injection h1 with h1;subst h1
    rw [Ob.set_at ha] at h2
    by_cases e3:j=j'
    ·rw [if_pos e3] at h2;cases h2
    ·rw [if_neg e3] at h2
     obtain ⟨v',⟨o2,bk,q1,q2,q3,q4⟩,_⟩:=M.hid.own id o j' sz' es' ho h2
     exact ⟨id,o,bk,bk,fun h=>h,ho,h2,q2,hx _ _ q2,rfl,rfl⟩
   ·rw [if_neg e2] at h1
    obtain ⟨v',⟨o2,bk,q1,q2,q3,q4⟩,_⟩:=M.hid.own id' o' j' sz' es' h1 h2
    exact ⟨id',o',bk,bk,fun h=>h,h1,h2,q2,hx _ _ q2,rfl,rfl⟩
 ·rcases Beta.add_cases h1 with ⟨e1,c1⟩|⟨e1,h1⟩
  ·subst c1
   rintro rfl
   obtain ⟨id1,j1,sz1,es1,n1,cc1,hO1,id2,⟨b3,b4,g1,g2,g3⟩,o3,g4,g5⟩:=hex
   obtain ⟨k1,k2⟩:=M.hid.one _ _ _ _ _ _ _ _ _ _ _ _ _ hO hO1
   subst k1;subst k2
   have hid2:id2≠d:=by
    rintro rfl
    rw [look_put,if_pos rfl] at g4;injection g4 with g4;subst g4;cases g5
   rcases Beta.add_cases g2 with ⟨e4,_⟩|⟨_,g2⟩
   ·exact hid2 e4
   ·have hl2:∀y,look hp id2=some y→y≠ .dead:=by
     refine hlv id2 hid2 (fun y hy=> ?_)
     rw [g4] at hy;injection hy with hy;subst hy;exact Ob.at_live g5
    have:=M.inj id2 id b4 b3 g2 g1 hl2 (fun y hy=>by rw [ho] at hy;injection hy with hy;subst hy;exact Ob.at_live ha) g3
    subst this
    rw [look_put,if_neg (Ne.symm hid2),look_put,if_pos rfl] at g4
    injection g4 with g4;subst g4
    rw [Ob.set_at ha,if_pos rfl] at g5
    cases g5
  ·exact B2.ap i b1 h1 (hlv i e1 hl)
theorem Mem.openNil (M:Mem F S β hp w) {id j sz:Nat} {o:Ob} (ho:look hp id=some o) (ha:o.at j=some (.own sz [])):Mem F S β (putL hp id (o.set j .nils)) w:=by
 obtain ⟨v,hO,hv⟩:=M.hid.own id o j sz [] ho ha
 rcases hv with ⟨_,rfl⟩|⟨_,_,_,e,_⟩
 case inr=>exact absurd rfl e
 obtain ⟨o2,b2,q1,q2,q3,q4⟩:=hO
 rw [ho] at q1;injection q1 with q1;subst q1
 have hlv:∀k,(∀y,look (putL hp id (o.set j .nils)) k=some y→y≠ .dead)→∀y,look hp k=some y→y≠ .dead:=by
  intro k h y hy
  by_cases e:id=k
  ·subst e;rw [ho] at hy;injection hy with hy;subst hy;exact Ob.at_live ha
  ·exact h y (by rw [look_put,if_neg e];exact hy)
 refine Mem.mk' ⟨M.tab,M.os,M.tape,M.output,M.size,M.keep,fun k y hy=> ?_,fun k bk hk=> ?_,fun i k b1 b2 h1 h2 h3 h4 h5=>M.inj i k b1 b2 h1 h2 (hlv i h3) (hlv k h4) h5,M.own,M.sub,M.base,M.new,M.giv⟩
  (fun M0=>M.hid.step (fun _ h=>h) (Agr.refl S w) M0.inj (fun id' o' j' sz' es' h1 h2=> ?_) (fun b B _=>⟨rfl,B.ns,B.lt,B.fr,fun i b1 h1 hl=>B.ap i b1 h1 (hlv i hl)⟩))
 ·rw [look_put] at hy
  by_cases e:id=k
  ·subst e;rw [if_pos rfl] at hy;injection hy with hy;subst hy
   refine setHO (M.obs id o ho) ha (fun u hu _=> ?_) (fun _ h=>h) (fun _ _ h=>h)
   have:=hu b2 q2
   rw [q4] at this;injection this with this;subst this
   exact .nils
  ·rw [if_neg e] at hy;exact M.obs k y hy
 ·rw [look_put]
  by_cases e:id=k
  ·exact ⟨_,by rw [if_pos e]⟩
  ·rw [if_neg e];exact M.dom k bk hk
 ·rw [look_put] at h1
  by_cases e:id=id'
  ·subst e;rw [if_pos rfl] at h1;injection h1 with h1;subst h1
   rw [Ob.set_at ha] at h2
   by_cases e3:j=j'
   ·rw [if_pos e3] at h2;cases h2
   ·rw [if_neg e3] at h2
    obtain ⟨v',⟨o2,bk,q1,q2,q3,q4⟩,_⟩:=M.hid.own id o j' sz' es' ho h2
    exact ⟨id,o,bk,bk,fun h=>h,ho,h2,q2,q2,rfl,rfl⟩
  ·rw [if_neg e] at h1
   obtain ⟨v',⟨o2,bk,q1,q2,q3,q4⟩,_⟩:=M.hid.own id' o' j' sz' es' h1 h2
   exact ⟨id',o',bk,bk,fun h=>h,h1,h2,q2,q2,rfl,rfl⟩
theorem HR.noB {bi:Bl} {es:List AV} (h:HR S β w bi es) (hn:noIdsL es=true):HR S Ped.noB w bi es:=by
 obtain ⟨cur,t,h1,h2,h3,h4,h5,h6⟩:=h
 refine ⟨cur,t,h1,h2,h3,h4,h5,fun i j e c he hc=> ?_⟩
 obtain ⟨u,hu,hv⟩:=h6 i j e c he hc
 refine ⟨u,hu,hv.noIds ?_⟩
 have hne:=noIdsL_iff.1 hn e (List.mem_of_getElem? he)
 cases e with
 |agg cs=>exact noIdsL_iff.1 hne c (List.mem_of_getElem? hc)
 |_=>
  simp only [AV.cells] at hc
  cases j with
  |zero=>simp at hc;subst hc;exact hne
  |succ j=>simp at hc
theorem HR.upto {bi:Bl} {es:List AV} (h:HR S β w bi es) (n:Nat):HR S β w bi (es.take n):=by
 obtain ⟨cur,t,h1,h2,h3,h4,h5,h6⟩:=h
 have tk:∀{i:Nat} {e:AV},(es.take n)[i]? =some e→es[i]? =some e:=by
  intro i e he
  rw [List.getElem?_take] at he
  split at he
  ·exact he
  ·cases he
 exact ⟨cur,t,h1,h2,by rw [List.length_take];omega,h4,fun i e he=>h5 i e (tk he),fun i j e c he hc=>h6 i j e c (tk he) hc⟩
theorem Mem.closeOwn (M:Mem F S β hp w) {id j sz d n:Nat} {es:List AV} {o:Ob} (ho:look hp id=some o) (ha:o.at j=some (.row d 0 n)) (hd:look hp d=some (.row sz es)) (hn:0<n) (hle:n≤es.length) (hno:noIdsL (es.take n)=true) (hm:mid≤d→mid≤id):
  Mem F S β (putL (putL hp id (o.set j (.own sz (es.take n)))) d .dead) w:=by
 have hne':id≠d:=by rintro rfl;rw [ho] at hd;injection hd with hd;subst hd;cases ha
 obtain ⟨bd,hbd,hsz,hHR⟩:=M.obs d _ hd
 obtain ⟨bo,u,hbo,hu,hV⟩:=placeHO (M.obs id o ho) ha
 have hcap:es.length≤bd.cap:=by obtain ⟨_,_,_,_,h,_⟩:=hHR;exact h
 have hlen:(es.take n).length=n:=by rw [List.length_take];omega
 have hu':u= .slice (some ⟨bd.blk,0,none⟩) n bd.cap:=by
  cases hV with
  |row _ _ _ a bi hb hle' ha'=>
   rw [hbd] at hb;injection hb with hb;subst hb
   have:=ha' (by omega)
   rw [this];simp
 have hdl:∀y,look hp d=some y→y≠ .dead:=fun y hy=>by rw [hd] at hy;injection hy with hy;subst hy;simp
 have hil:∀y,look hp id=some y→y≠ .dead:=fun y hy=>by rw [ho] at hy;injection hy with hy;subst hy;exact Ob.at_live ha
 have hlv:∀k,(∀y,look (putL (putL hp id (o.set j (.own sz (es.take n)))) d .dead) k=some y→y≠ .dead)→k≠d∧∀y,look hp k=some y→y≠ .dead:=by
  intro k h
  have hk:k≠d:=by rintro rfl;exact h .dead (by rw [look_put,if_pos rfl]) rfl
  refine ⟨hk,fun y hy=> ?_⟩
  by_cases e:id=k
  ·subst e;exact hil y hy
  ·exact h y (by rw [look_put,if_neg (Ne.symm hk),look_put,if_neg e];exact hy)
 obtain ⟨p1,p2,p3⟩:=M.own d bd hbd
 have B:HidB F S β (putL (putL hp id (o.set j (.own sz (es.take n)))) d .dead) w bd.blk:=by
  refine ⟨p1,p2,p3.elim (fun h=> .inl h.2) .inr,fun i b1 h1 hl e=> ?_⟩
  obtain ⟨k1,k2⟩:=hlv i hl
  exact k1 (M.inj i d b1 bd h1 hbd k2 hdl e)
 have fwd:∀{id' j' sz':Nat} {es':List AV} {v:Value},OwnAt β (putL (putL hp id (o.set j (.own sz (es.take n)))) d .dead) w id' j' sz' es' v→(id'=id∧j'=j∧v=u)∨OwnAt β hp w id' j' sz' es' v:=by
  rintro id' j' sz' es' v ⟨o',bi,a1,a2,a3,a4⟩
  rw [look_put] at a1
  by_cases e:d=id'
  ·subst e;rw [if_pos rfl] at a1;injection a1 with a1;subst a1;cases a3
  ·rw [if_neg e,look_put] at a1
   by_cases e2:id=id'
   ·subst e2;rw [if_pos rfl] at a1;injection a1 with a1;subst a1
    rw [Ob.set_at ha] at a3
    by_cases e3:j=j'
    ·subst e3
     rw [hbo] at a2;injection a2 with a2;subst a2
     rw [hu] at a4;injection a4 with a4
     exact .inl ⟨rfl,rfl,a4.symm⟩
    ·rw [if_neg e3] at a3
     exact .inr ⟨o,bi,ho,a2,a3,a4⟩
   ·rw [if_neg e2] at a1
    exact .inr ⟨o',bi,a1,a2,a3,a4⟩
 have old:∀{b:Nat},HidB F S β hp w b→HidB F S β (putL (putL hp id (o.set j (.own sz (es.take n)))) d .dead) w b:=fun B=>⟨B.ns,B.lt,B.fr,fun i b1 h1 hl=>B.ap i b1 h1 (hlv i hl).2⟩
 refine Mem.mk' ⟨M.tab,M.os,M.tape,M.output,M.size,M.keep,fun k y hy=> ?_,fun k bk hk=> ?_,fun i k b1 b2 h1 h2 h3 h4 h5=>M.inj i k b1 b2 h1 h2 (hlv i h3).2 (hlv k h4).2 h5,M.own,M.sub,M.base,M.new,M.giv⟩
  (fun M0=>⟨fun id' o' j' sz' es' h1 h2=> ?_,fun i1 j1 s1 e1 i2 j2 s2 e2 b n1 c1 n2 c2 h1 h2=> ?_,fun i1 j1 s1 e1 b n1 c1 h1 h2=> ?_⟩)
 ·rw [look_put] at hy
  by_cases e:d=k
  ·subst e;rw [if_pos rfl] at hy;injection hy with hy;subst hy;exact ⟨bd,hbd⟩
  ·rw [if_neg e,look_put] at hy
   by_cases e2:id=k
   ·subst e2;rw [if_pos rfl] at hy;injection hy with hy;subst hy
    refine setHO (M.obs id o ho) ha (fun u2 h2 _=> ?_) (fun _ h=>h) (fun _ _ h=>h)
    have:=h2 bo hbo
    rw [hu] at this;injection this with this;subst this
    rw [hu']
    have:=V.own (S:=S) (β:=β) (w:=w) (some ⟨bd.blk,0,none⟩) bd.cap sz (es.take n)
    rwa [hlen] at this
   ·rw [if_neg e2] at hy;exact M.obs k y hy
 ·rw [look_put]
  by_cases e:d=k
  ·exact ⟨_,by rw [if_pos e]⟩
  ·rw [if_neg e,look_put]
   by_cases e2:id=k
   ·exact ⟨_,by rw [if_pos e2]⟩
   ·rw [if_neg e2];exact M.dom k bk hk
 ·have h1':=h1
  rw [look_put] at h1
  by_cases e:d=id'
  ·subst e;rw [if_pos rfl] at h1;injection h1 with h1;subst h1;cases h2
  ·rw [if_neg e,look_put] at h1
   by_cases e2:id=id'
   ·subst e2;rw [if_pos rfl] at h1;injection h1 with h1;subst h1
    have h2':=h2
    rw [Ob.set_at ha] at h2
    by_cases e3:j=j'
    ·subst e3
     rw [if_pos rfl] at h2
     injection h2 with h2;injection h2 with h2 h3;subst h2;subst h3
     refine ⟨u,⟨_,bo,h1',hbo,h2',hu⟩,.inr ⟨bd.blk,bd.cap,by rw [hu',hlen],?_,?_,B⟩⟩
     ·intro h0;rw [h0] at hlen;simp at hlen;omega
     ·have:=(hHR.upto n).noB hno
      rw [←hsz];exact this
    ·rw [if_neg e3] at h2
     obtain ⟨v',⟨o2,bk,q1,q2,q3,q4⟩,hv⟩:=M.hid.own id o j' sz' es' ho h2
     refine ⟨v',⟨_,bk,h1',q2,h2',q4⟩,?_⟩
     rcases hv with hv|⟨b,cap,r1,r2,r3,r4⟩
     ·exact .inl hv
     ·exact .inr ⟨b,cap,r1,r2,r3,old r4⟩
   ·rw [if_neg e2] at h1
    obtain ⟨v',⟨o2,bk,q1,q2,q3,q4⟩,hv⟩:=M.hid.own id' o' j' sz' es' h1 h2
    refine ⟨v',⟨_,bk,h1',q2,h2,q4⟩,?_⟩
    rcases hv with hv|⟨b,cap,r1,r2,r3,r4⟩
    ·exact .inl hv
    ·exact .inr ⟨b,cap,r1,r2,r3,old r4⟩
 ·rcases fwd h1 with ⟨x1,x2,x3⟩|k1<;>rcases fwd h2 with ⟨y1,y2,y3⟩|k2
  ·exact ⟨x1.trans y1.symm,x2.trans y2.symm⟩
  ·exfalso
   rw [hu'] at x3;injection x3 with x3;injection x3 with x3;injection x3 with x3
   exact (M.hid.block k2).ap d bd hbd hdl x3.symm
  ·exfalso
   rw [hu'] at y3;injection y3 with y3;injection y3 with y3;injection y3 with y3
   exact (M.hid.block k1).ap d bd hbd hdl y3.symm
  ·exact M.hid.one _ _ _ _ _ _ _ _ _ _ _ _ _ k1 k2
 ·rcases fwd h1 with ⟨x1,x2,x3⟩|k1
  ·rw [hu'] at x3;injection x3 with x3;injection x3 with x3;injection x3 with x3
   rcases p3 with ⟨h,_⟩|h
   ·have:=hm h;omega
   ·rw [x3];exact h
  ·exact M.hid.new _ _ _ _ _ _ _ k1 h2
theorem Mem.closeNil (M:Mem F S β hp w) {id j:Nat} (sz:Nat) {o:Ob} (ho:look hp id=some o) (ha:o.at j=some .nils):Mem F S β (putL hp id (o.set j (.own sz []))) w:=by
 obtain ⟨bo,u,hbo,hu,hV⟩:=placeHO (M.obs id o ho) ha
 have hu':u= .slice none 0 0:=by cases hV;rfl
 have hlv:∀k,(∀y,look (putL hp id (o.set j (.own sz []))) k=some y→y≠ .dead)→∀y,look hp k=some y→y≠ .dead:=by
  intro k h y hy
  by_cases e:id=k
  ·subst e;rw [ho] at hy;injection hy with hy;subst hy;exact Ob.at_live ha
  ·exact h y (by rw [look_put,if_neg e];exact hy)
 have fwd:∀{id' j' sz':Nat} {es':List AV} {v:Value},OwnAt β (putL hp id (o.set j (.own sz []))) w id' j' sz' es' v→v= .slice none 0 0∨OwnAt β hp w id' j' sz' es' v:=by
  rintro id' j' sz' es' v ⟨o',bi,a1,a2,a3,a4⟩
  rw [look_put] at a1
  by_cases e2:id=id'
  ·subst e2;rw [if_pos rfl] at a1;injection a1 with a1;subst a1
   rw [Ob.set_at ha] at a3
   by_cases e3:j=j'
   ·subst e3
    rw [hbo] at a2;injection a2 with a2;subst a2
    rw [hu] at a4;injection a4 with a4
    exact .inl (a4.symm.trans hu')
   ·rw [if_neg e3] at a3
    exact .inr ⟨o,bi,ho,a2,a3,a4⟩
  ·rw [if_neg e2] at a1
   exact .inr ⟨o',bi,a1,a2,a3,a4⟩
 have old:∀{b:Nat},HidB F S β hp w b→HidB F S β (putL hp id (o.set j (.own sz []))) w b:=fun B=>⟨B.ns,B.lt,B.fr,fun i b1 h1 hl=>B.ap i b1 h1 (hlv i hl)⟩
 refine Mem.mk' ⟨M.tab,M.os,M.tape,M.output,M.size,M.keep,fun k y hy=> ?_,fun k bk hk=> ?_,fun i k b1 b2 h1 h2 h3 h4 h5=>M.inj i k b1 b2 h1 h2 (hlv i h3) (hlv k h4) h5,M.own,M.sub,M.base,M.new,M.giv⟩
  (fun M0=>⟨fun id' o' j' sz' es' h1 h2=> ?_,fun i1 j1 s1 e1 i2 j2 s2 e2 b n1 c1 n2 c2 h1 h2=> ?_,fun i1 j1 s1 e1 b n1 c1 h1 h2=> ?_⟩)
 ·rw [look_put] at hy
  by_cases e2:id=k
  ·subst e2;rw [if_pos rfl] at hy;injection hy with hy;subst hy
   refine setHO (M.obs id o ho) ha (fun u2 h2 hv=> ?_) (fun _ h=>h) (fun _ _ h=>h)
   cases hv
   exact .own none 0 sz []
  ·rw [if_neg e2] at hy;exact M.obs k y hy
 ·rw [look_put]
  by_cases e2:id=k
  ·exact ⟨_,by rw [if_pos e2]⟩
  ·rw [if_neg e2];exact M.dom k bk hk
 ·have h1':=h1
  rw [look_put] at h1
  by_cases e2:id=id'
  ·subst e2;rw [if_pos rfl] at h1;injection h1 with h1;subst h1
   have h2':=h2
   rw [Ob.set_at ha] at h2
   by_cases e3:j=j'
   ·subst e3
    rw [if_pos rfl] at h2
    injection h2 with h2;injection h2 with h2 h3;subst h2;subst h3
    exact ⟨u,⟨_,bo,h1',hbo,h2',hu⟩,.inl ⟨rfl,hu'⟩⟩
   ·rw [if_neg e3] at h2
    obtain ⟨v',⟨o2,bk,q1,q2,q3,q4⟩,hv⟩:=M.hid.own id o j' sz' es' ho h2
    refine ⟨v',⟨_,bk,h1',q2,h2',q4⟩,?_⟩
    rcases hv with hv|⟨b,cap,r1,r2,r3,r4⟩
    ·exact .inl hv
    ·exact .inr ⟨b,cap,r1,r2,r3,old r4⟩
  ·rw [if_neg e2] at h1
   obtain ⟨v',⟨o2,bk,q1,q2,q3,q4⟩,hv⟩:=M.hid.own id' o' j' sz' es' h1 h2
   refine ⟨v',⟨_,bk,h1',q2,h2,q4⟩,?_⟩
   rcases hv with hv|⟨b,cap,r1,r2,r3,r4⟩
   ·exact .inl hv
   ·exact .inr ⟨b,cap,r1,r2,r3,old r4⟩
 ·rcases fwd h1 with e|k1
  ·cases e
  ·rcases fwd h2 with e|k2
   ·cases e
   ·exact M.hid.one _ _ _ _ _ _ _ _ _ _ _ _ _ k1 k2
 ·rcases fwd h1 with e|k1
  ·cases e
  ·exact M.hid.new _ _ _ _ _ _ _ k1 h2
def unown:AV→AV
 | .own _ es=> .seq es false
 |x=>x
theorem unown_own {x:AV} {sz:Nat} {es:List AV}:unown x≠ .own sz es:=by
 cases x<;>simp [unown]
theorem HR.seq {b sz cap:Nat} {es:List AV} (h:HR S Ped.noB w ⟨b,sz,cap⟩ es) (hb:S' b) (hS:∀b,S b→S' b) (hsub:∀b,S b→True):V S' β w (.slice (some ⟨b,0,none⟩) es.length cap) (.seq es false):=by
 obtain ⟨cur,t,r1,r2,r3,r4,r5,r6⟩:=h
 refine .seq (some ⟨b,0,none⟩) cap sz b 0 es false (fun i j=>(cur[i*sz+j]?).getD undef) r3 r4 (fun h=>by cases h) (fun hne=>⟨rfl,hb⟩) r5 (fun i j e c h1 h2=> ?_) (fun i j e c h1 h2=> ?_)
 ·obtain ⟨u,hu,_⟩:=r6 i j e c h1 h2
  have r1':w.heap[b]? =some (.cells cur t (0,0)):=r1
  rw [Nat.zero_add,cell_row r1']
  show cur[i*sz+j]? =_
  have hu':cur[i*sz+j]? =some u:=hu
  rw [hu'];rfl
 ·obtain ⟨u,hu,hv⟩:=r6 i j e c h1 h2
  have hu':cur[i*sz+j]? =some u:=hu
  show V S' Ped.noB w ((cur[i*sz+j]?).getD undef) c
  rw [hu']
  exact hv.mono hS (fun _ _ h=>h) (Agr.refl S w)
def noDead (hp:List (Nat×Ob)):Bool:=hp.all fun x=> !isDeadOb x.2
theorem noDead_look {hp:List (Nat×Ob)} (h:noDead hp=true) {k:Nat} {o:Ob} (hk:look hp k=some o):o≠ .dead:=by
 rintro rfl
 have:=List.all_eq_true.1 h _ (look_mem hk)
 simp [isDeadOb] at this
theorem Mem.seal (M:Mem F S β hp w) {id:Nat} {ks vs:List AV} (ho:look hp id=some (.map ks vs)) (hid:id<mid) (hnd:noDead hp=true):
  ∃S',Ext S S' β β w w∧Mem F S' β (putL hp id (.map ks (vs.map unown))) w:=by
 let S':Blk:=fun b=>S b∨∃j sz es n c,OwnAt β hp w id j sz es (.slice (some ⟨b,0,none⟩) n c)
 have hS:∀b,S b→S' b:=fun b h=> .inl h
 have live:∀{i:Nat},∀y,look hp i=some y→y≠ .dead:=fun y hy=>noDead_look hnd hy
 obtain ⟨bo,en,cl,h1,h2,h3,h4,h5,h6,h7⟩:=M.obs id _ ho
 have nS:∀i bi,β i=some bi→¬S' bi.blk:=by
  rintro i bi hi (h|⟨j,sz,es,n,c,hO⟩)
  ·exact (M.own i bi hi).1 h
  ·exact (M.hid.block hO).ap i bi hi live rfl
 refine ⟨S',⟨hS,fun _ _ h=>h,Agr.refl S w⟩,Mem.mk' ⟨M.tab,M.os,M.tape,M.output,M.size,M.keep,fun k y hy=> ?_,fun k bk hk=> ?_,fun i k b1 b2 h1 h2 h3 h4 h5=>M.inj i k b1 b2 h1 h2 live live h5,fun i bi hi=>⟨nS i bi hi,(M.own i bi hi).2⟩,fun b hb=> ?_,fun b hb=> .inl (M.base b hb),fun b hb=> ?_,M.giv⟩
  (fun M0=>M.hid.step hS (Agr.refl S w) M0.inj (fun id' o' j' sz' es' g1 g2=> ?_) (fun b B hex=>⟨rfl,?_,B.lt,B.fr,fun i bi hi _=>B.ap i bi hi live⟩))⟩
 ·rw [look_put] at hy
  by_cases e:id=k
  ·subst e;rw [if_pos rfl] at hy;injection hy with hy;subst hy
   refine ⟨bo,en,cl,h1,h2,h3,by simpa using h4,fun i e k he hk=>(h5 i e k he hk).mono hS (fun _ _ h=>h) (Agr.refl S w),fun i e v he hv=> ?_,h7⟩
   rw [List.getElem?_map] at hv
   obtain ⟨v0,hv0,rfl⟩:=Option.map_eq_some_iff.1 hv
   have hV:=h6 i e v0 he hv0
   cases v0 with
   |own sz es=>
    obtain ⟨v,hO,hv⟩:=M.hid.own id _ i sz es ho hv0
    have hO':=hO
    obtain ⟨o2,b2,q1,q2,q3,q4⟩:=hO'
    rw [h1] at q2;injection q2 with q2;subst q2
    rw [slotV_map h2,he] at q4
    injection q4 with q4
    have q4:e.val=v:=q4
    rw [q4]
    rcases hv with ⟨rfl,rfl⟩|⟨b,cap,rfl,_,r3,_⟩
    ·exact .seq none 0 0 0 0 [] false (fun _ _=>undef) (by simp) (by simp [maxLen]) (fun h=>by cases h) (fun h=>absurd rfl h) (by simp) (by simp) (by simp)
    ·exact r3.seq (.inr ⟨i,sz,es,_,_,hO⟩) hS (fun _ _=>trivial)
   |_=>exact hV.mono hS (fun _ _ h=>h) (Agr.refl S w)
  ·rw [if_neg e] at hy
   exact monoHO (M.obs k y hy) hS (fun _ _ h=>h)
 ·rw [look_put]
  by_cases e:id=k
  ·exact ⟨_,by rw [if_pos e]⟩
  ·rw [if_neg e];exact M.dom k bk hk
 ·rcases hb with hb|⟨j,sz,es,n,c,hO⟩
  ·exact M.sub b hb
  ·exact (M.hid.block hO).lt
 ·rcases hb with hb|⟨j,sz,es,n,c,hO⟩
  ·exact M.new b hb
  ·exact .inr (M.hid.new _ _ _ _ _ _ _ hO hid)
 ·rw [look_put] at g1
  by_cases e:id=id'
  ·subst e;rw [if_pos rfl] at g1;injection g1 with g1;subst g1
   simp only [Ob.at,List.getElem?_map] at g2
   obtain ⟨v0,_,hv⟩:=Option.map_eq_some_iff.1 g2
   exact absurd hv unown_own
  ·rw [if_neg e] at g1
   obtain ⟨v',⟨o2,bk,q1,q2,q3,q4⟩,_⟩:=M.hid.own id' o' j' sz' es' g1 g2
   exact ⟨id',o',bk,bk,fun h=>h,g1,g2,q2,q2,rfl,rfl⟩
 ·rintro (hs|⟨j,sz,es,n,c,hO⟩)
  ·exact B.ns hs
  ·obtain ⟨id1,j1,sz1,es1,n1,cc1,hO1,id2,⟨b3,b4,g1,g2,g3⟩,o3,g4,g5⟩:=hex
   obtain ⟨k1,k2⟩:=M.hid.one _ _ _ _ _ _ _ _ _ _ _ _ _ hO hO1
   subst k1;subst k2
   have:=M.inj id2 id b4 b3 g2 g1 live live g3
   subst this
   rw [look_put,if_pos rfl] at g4
   injection g4 with g4;subst g4
   simp only [Ob.at,List.getElem?_map] at g5
   obtain ⟨v0,_,hv⟩:=Option.map_eq_some_iff.1 g5
   exact absurd hv unown_own
theorem le_open {n:Nat} {st:St} (id j d:Nat) {sz:Nat} {es:List AV} {o:Ob} (ho:look st.hp id=some o) (ha:o.at j=some (.own sz es)) (hne:es≠[]) (hd:look st.hp d=none) (hm:mid≤id→mid≤d):
  Le n st ⟨st.env,putL (putL st.hp id (o.set j (.row d 0 es.length))) d (.row sz es)⟩:=by
 rintro F a w ⟨S,β,E,M⟩
 obtain ⟨β',X,M'⟩:=M.openOwn ho ha hne hd hm
 exact ⟨S,β',E.ext X,M'⟩
theorem le_openNil {n:Nat} {st:St} (id j:Nat) {sz:Nat} {o:Ob} (ho:look st.hp id=some o) (ha:o.at j=some (.own sz [])):Le n st ⟨st.env,putL st.hp id (o.set j .nils)⟩:=by
 rintro F a w ⟨S,β,E,M⟩
 exact ⟨S,β,E,M.openNil ho ha⟩
theorem le_close {n:Nat} {st:St} (id j d:Nat) {sz m:Nat} {es:List AV} {o:Ob} (ho:look st.hp id=some o) (ha:o.at j=some (.row d 0 m)) (hd:look st.hp d=some (.row sz es)) (hn:0<m) (hle:m≤es.length) (hno:noIdsL (es.take m)=true) (hm:mid≤d→mid≤id):
  Le n st ⟨st.env,putL (putL st.hp id (o.set j (.own sz (es.take m)))) d .dead⟩:=by
 rintro F a w ⟨S,β,E,M⟩
 exact ⟨S,β,E,M.closeOwn ho ha hd hn hle hno hm⟩
theorem le_closeNil {n:Nat} {st:St} (id j sz:Nat) {o:Ob} (ho:look st.hp id=some o) (ha:o.at j=some .nils):Le n st ⟨st.env,putL st.hp id (o.set j (.own sz []))⟩:=by
 rintro F a w ⟨S,β,E,M⟩
 exact ⟨S,β,E,M.closeNil sz ho ha⟩
theorem le_seal {n:Nat} {st:St} (id:Nat) {ks vs:List AV} (ho:look st.hp id=some (.map ks vs)) (hid:id<mid) (hnd:noDead st.hp=true):Le n st ⟨st.env,putL st.hp id (.map ks (vs.map unown))⟩:=by
 rintro F a w ⟨S,β,E,M⟩
 obtain ⟨S',X,M'⟩:=M.seal ho hid hnd
 exact ⟨S',β,E.ext X,M'⟩
end
end
section
inductive Wk:AV→AV→Prop where
 |refl (x:AV):Wk x x
 |nils:Wk .nils (.seq [] false)
 |agg (cs ds:List AV) (hl:cs.length=ds.length) (h:∀(i:Nat) c d,cs[i]? =some c→ds[i]? =some d→Wk c d):Wk (.agg cs) (.agg ds)
 |seq (es fs:List AV) (c:Bool) (hl:es.length=fs.length) (hc:∀(i:Nat) e f,es[i]? =some e→fs[i]? =some f→e.cells.length=f.cells.length)
  (h:∀(i:Nat) e f (j:Nat) x y,es[i]? =some e→fs[i]? =some f→e.cells[j]? =some x→f.cells[j]? =some y→Wk x y):Wk (.seq es c) (.seq fs false)
section
variable {P:Program} {F:Fr} {S:Blk} {β:Beta} {hp:List (Nat×Ob)} {w:World}
theorem Wk.V {x y:AV} (h:Wk x y):∀{β:Beta} {v:Value},Ped.V S β w v x→Ped.V S β w v y:=by
 induction h with
 |refl x=>exact fun h=>h
 |nils=>
  intro β v h
  cases h
  exact .seq none 0 0 0 0 [] false (fun _ _=>undef) (by simp) (by simp [maxLen]) (fun h=>by cases h) (fun h=>absurd rfl h) (by simp) (by simp) (by simp)
 |agg cs ds hl h ih=>
  intro β v hv
  cases hv with
  |agg vs _ hl' h'=>
   refine .agg vs ds (hl'.trans hl) fun i v d h1 h2=> ?_
   have hlt:i<cs.length:=by rw [hl];exact (List.getElem?_eq_some_iff.1 h2).1
   have hc:cs[i]? =some cs[i]:=List.getElem?_eq_getElem hlt
   exact ih i _ d hc h2 (h' i v _ h1 hc)
 |seq es fs c hl hc h ih=>
  intro β v hv
  cases hv with
  |seq p cap sz b o _ _ U hcap hmax hclip hp hsz hcc hvv=>
   have hE:∀{i:Nat} {f:AV},fs[i]? =some f→∃e,es[i]? =some e∧e.cells.length=f.cells.length:=by
    intro i f hf
    have hlt:i<es.length:=by rw [hl];exact (List.getElem?_eq_some_iff.1 hf).1
    have he:es[i]? =some es[i]:=List.getElem?_eq_getElem hlt
    exact ⟨_,he,hc i _ f he hf⟩
   have hC:∀{i j:Nat} {f y:AV},fs[i]? =some f→f.cells[j]? =some y→∃e x,es[i]? =some e∧e.cells[j]? =some x∧Wk x y:=by
    intro i j f y hf hy
    obtain ⟨e,he,hlen⟩:=hE hf
    have hlt:j<e.cells.length:=by rw [hlen];exact (List.getElem?_eq_some_iff.1 hy).1
    have hx:e.cells[j]? =some e.cells[j]:=List.getElem?_eq_getElem hlt
    exact ⟨e,_,he,hx,h i e f j _ y he hf hx hy⟩
   rw [hl]
   refine .seq p cap sz b o fs false U (by rw [←hl];exact hcap) hmax (fun h=>by cases h) (fun hne=>hp (by rintro rfl;simp at hl;exact hne (List.eq_nil_of_length_eq_zero hl.symm))) (fun i f hf=> ?_) (fun i j f y hf hy=> ?_) (fun i j f y hf hy=> ?_)
   ·obtain ⟨e,he,hlen⟩:=hE hf
    rw [←hlen];exact hsz i e he
   ·obtain ⟨e,x,he,hx,_⟩:=hC hf hy
    exact hcc i j e x he hx
   ·obtain ⟨e,x,he,hx,_⟩:=hC hf hy
    have hlt:i<es.length:=(List.getElem?_eq_some_iff.1 he).1
    exact ih i e f j x y he hf hx hy (hvv i j e x he hx)
theorem Wk.clip (es:List AV) (c:Bool):Wk (.seq es c) (.seq es false):=
 .seq es es c rfl (fun i e f h1 h2=>by rw [h1] at h2;injection h2 with h2;rw [h2]) (fun i e f j x y h1 h2 h3 h4=>by rw [h1] at h2;injection h2 with h2;subst h2;rw [h3] at h4;injection h4 with h4;subst h4;exact .refl x)
theorem Spec.wkR {f:FuncId} {args:List AV} {pre upd:List (Nat×Ob)} {r r':AV} (h:Spec P f args pre r upd) (k:Wk r r'):Spec P f args pre r' upd:=by
 intro F S β hp w vs M hl hv h1 h2
 refine (h F S β hp w vs M hl hv h1 h2).mono ?_
 rintro e w' ⟨v,S',β',he,E,M',hV⟩
 exact ⟨v,S',β',he,E,M',k.V hV⟩
theorem Spec.wkA {f:FuncId} {args args':List AV} {pre upd:List (Nat×Ob)} {r:AV} (h:Spec P f args' pre r upd) (hl:args.length=args'.length) (k:∀(i:Nat) x y,args[i]? =some x→args'[i]? =some y→Wk x y):Spec P f args pre r upd:=by
 intro F S β hp w vs M hlen hv h1 h2
 refine h F S β hp w vs M (hlen.trans hl) (fun i v y hvi hy=> ?_) h1 h2
 have hlt:i<args.length:=by rw [hl];exact (List.getElem?_eq_some_iff.1 hy).1
 have hx:args[i]? =some args[i]:=List.getElem?_eq_getElem hlt
 exact (k i _ y hx hy).V (hv i v _ hvi hx)
theorem V.split {v:Value} {c:Bool} (h:Ped.V S β w v (.seq [] c)):Ped.V S β w v .nils∨Ped.V S β w v .emp:=by
 cases h with
 |seq p cap sz b o _ _ U hcap hmax hclip hp hsz hcc hvv hnil=>
  cases p with
  |none=>have:=hnil rfl;subst this;exact .inl .nils
  |some a=>exact .inr (.emp a cap hmax)
theorem Spec.split {f:FuncId} {args:List AV} {pre upd:List (Nat×Ob)} {r:AV} {c:Bool} (h1:Spec P f (.nils::args) pre r upd) (h2:Spec P f (.emp::args) pre r upd):Spec P f (.seq [] c::args) pre r upd:=by
 intro F S β hp w vs M hl hv hp1 hp2
 cases vs with
 |nil=>simp at hl
 |cons v vs=>
  have h0:=hv 0 v _ rfl rfl
  rcases V.split h0 with k|k
  ·refine h1 F S β hp w (v::vs) M (by simpa using hl) (fun i u x hu hx=> ?_) hp1 hp2
   cases i with
   |zero=>simp at hu hx;subst hu;subst hx;exact k
   |succ i=>exact hv (i+1) u x hu (by simpa using hx)
  ·refine h2 F S β hp w (v::vs) M (by simpa using hl) (fun i u x hu hx=> ?_) hp1 hp2
   cases i with
   |zero=>simp at hu hx;subst hu;subst hx;exact k
   |succ i=>exact hv (i+1) u x hu (by simpa using hx)
end
theorem Spec.same {P:Program} {f:FuncId} {args:List AV} {pre upd:List (Nat×Ob)} {r:AV} (h:Spec P f args pre r upd) (hu:∀x,x∈upd→x∈pre):Spec P f args pre r []:=by
 intro F S β hp w vs M hl hv hpre _
 have hput:∀(l:List (Nat×Ob)) (h:List (Nat×Ob)),(∀id o,(id,o)∈l→look h id=some o)→∀k,look (putAll h l) k=look h k:=by
  intro l
  induction l with
  |nil=>intro h _ k;rfl
  |cons x l ih=>
   obtain ⟨i,o⟩:=x
   intro h hh k
   have h1:∀k,look (putL h i o) k=look h k:=by
    intro k
    rw [look_put]
    by_cases e:i=k
    ·subst e;rw [if_pos rfl];exact (hh i o (by simp)).symm
    ·rw [if_neg e]
   show look (putAll (putL h i o) l) k=_
   rw [ih (putL h i o) (fun id o' hm=>by rw [h1];exact hh id o' (List.mem_cons_of_mem _ hm)) k,h1]
 refine (h F S β hp w vs M hl hv hpre (fun id o hm hno=>absurd (hu _ hm) (hno o))).mono ?_
 rintro e w' ⟨v,S',β',rfl,E,M',hV⟩
 have hk:=hput upd hp (fun id o hm=>hpre id o (hu _ hm))
 refine ⟨v,S',β',rfl,E,?_,hV⟩
 show Mem F S' β' hp w'
 exact M'.look_eq hk
theorem Spec.gen2 {P:Program} {f:FuncId} {fn:Func} {c:Code} {args:List AV} {pre:List (Nat×Ob)} {env':List (Nat×AV)} {hp':List (Nat×Ob)} {e:Out} {r:AV} (hf:P.funcs[f]? =some fn) (hb:fn.body=some c)
  (hpre:preOK pre=true) (huq:uniqK hp'=true) (hargs:renL (idT pre) args=args) (hobs:∀id o,(id,o)∈pre→renOb (idT pre) o=o)
  (hrun:Runs P (args.length+(fn.ntmps-args.length)) c ⟨argEnv 0 args,pre⟩ e ⟨env',hp'⟩) (he:e= .normal∨e= .ret) (hr:resA P ⟨env',hp'⟩ fn.results.toList=some r):Spec P f args pre r hp':=
 Spec.gen (st':=⟨env',hp'⟩) hf hb hpre huq hargs hobs hrun.k he hr
theorem Spec.told {P:Program} {f:FuncId} {fn:Func} {c:Code} {args:List AV} {pre:List (Nat×Ob)} {env':List (Nat×AV)} {e:Out} {r:AV} (hf:P.funcs[f]? =some fn) (hb:fn.body=some c)
  (hpre:preOK pre=true) (huq:uniqK pre=true) (hargs:renL (idT pre) args=args) (hobs:∀id o,(id,o)∈pre→renOb (idT pre) o=o)
  (hrun:Runs P (args.length+(fn.ntmps-args.length)) c ⟨argEnv 0 args,pre⟩ e ⟨env',pre⟩) (he:e= .normal∨e= .ret) (hr:resA P ⟨env',pre⟩ fn.results.toList=some r):Spec P f args pre r []:=
 Spec.same (Spec.gen2 hf hb hpre huq hargs hobs hrun he hr) (fun _ hx=>hx)
theorem sP {f:FuncId} (fn:Func) {xs:List AV} {s:St} {e:Out} {r:AV} (a:noIdsL xs=true) (h:Runs Proofs.Tryz.prog (xs.length+(fn.ntmps-xs.length)) (bodyOf fn) ⟨argEnv 0 xs,[]⟩ e s) (he:e= .normal∨e= .ret) (hf:Proofs.Tryz.prog.funcs[f]? =some fn:=by kernel_rfl) (hb:fn.body=some (bodyOf fn):=by kernel_rfl) (hr:resA Proofs.Tryz.prog s fn.results.toList=some r:=by kernel_rfl) (hn:noIds r=true:=by rfl):Spec Proofs.Tryz.prog f xs [] r []:=Spec.pure hf hb a h he hr hn
theorem sQ {f:FuncId} (fn:Func) {xs:List AV} {s:St} {r:AV} (h:Runs Proofs.Tryz.prog (xs.length+(fn.ntmps-xs.length)) (bodyOf fn) ⟨argEnv 0 xs,[]⟩ .ret s) (hf:Proofs.Tryz.prog.funcs[f]? =some fn:=by kernel_rfl) (hb:fn.body=some (bodyOf fn):=by kernel_rfl) (a:noIdsL xs=true:=by rfl) (hr:resA Proofs.Tryz.prog s fn.results.toList=some r:=by kernel_rfl) (hn:noIds r=true:=by rfl):Spec Proofs.Tryz.prog f xs [] r []:=Spec.pure hf hb a h (.inr rfl) hr hn
theorem sT {f:FuncId} (fn:Func) {xs:List AV} {p:List (Nat×Ob)} {E:List (Nat×AV)} {e:Out} {r:AV} (ho:∀id o,(id,o)∈p→renOb (idT p) o=o) (h:Runs Proofs.Tryz.prog (xs.length+(fn.ntmps-xs.length)) (bodyOf fn) ⟨argEnv 0 xs,p⟩ e ⟨E,p⟩) (he:e= .normal∨e= .ret) (hf:Proofs.Tryz.prog.funcs[f]? =some fn:=by kernel_rfl) (hb:fn.body=some (bodyOf fn):=by kernel_rfl) (hp:preOK p=true:=by rfl) (hu:uniqK p=true:=by rfl) (a:renL (idT p) xs=xs:=by rfl) (hr:resA Proofs.Tryz.prog ⟨E,p⟩ fn.results.toList=some r:=by kernel_rfl):Spec Proofs.Tryz.prog f xs p r []:=Spec.told hf hb hp hu a ho h he hr
theorem sG {f:FuncId} (fn:Func) {xs:List AV} {p q:List (Nat×Ob)} {E:List (Nat×AV)} {e:Out} {r:AV} (ho:∀id o,(id,o)∈p→renOb (idT p) o=o) (h:Runs Proofs.Tryz.prog (xs.length+(fn.ntmps-xs.length)) (bodyOf fn) ⟨argEnv 0 xs,p⟩ e ⟨E,q⟩) (he:e= .normal∨e= .ret) (hf:Proofs.Tryz.prog.funcs[f]? =some fn:=by kernel_rfl) (hb:fn.body=some (bodyOf fn):=by kernel_rfl) (hp:preOK p=true:=by rfl) (hu:uniqK q=true:=by rfl) (a:renL (idT p) xs=xs:=by rfl) (hr:resA Proofs.Tryz.prog ⟨E,q⟩ fn.results.toList=some r:=by kernel_rfl):Spec Proofs.Tryz.prog f xs p r q:=Spec.gen2 hf hb hp hu a ho h he hr
theorem d2 (s:ByteArray) (i:Int) (h:i<(↑(List.length (List.map bav (Array.toList (ByteArray.data s)))):Int)):decide (i<(↑(List.length (List.map bav (Array.toList (ByteArray.data s)))):Int))=true:=decide_eq_true h
inductive Ex where
 |mk (op:Int) (t:Tm) (kids:List Ex)
def Ex.op:Ex→Int
 | .mk o _ _=>o
def Ex.t:Ex→Tm
 | .mk _ t _=>t
def Ex.kids:Ex→List Ex
 | .mk _ _ k=>k
def exC (op:Int) (t:Tm) (ks:List AV):List AV:=[.int .i8 op,.str t.v,.int .i8 t.k,.int .i64 t.n,.str t.s,.seq ks false]
mutual
def Ex.av:Ex→AV
 | .mk o t k=> .agg (exC o t (Ex.avs k))
def Ex.avs:List Ex→List AV
 |[]=>[]
 |e::r=>e.av::Ex.avs r
end
theorem Ex.avs_map:∀(l:List Ex),Ex.avs l=l.map Ex.av
 |[]=>rfl
 |e::r=>by simp only [Ex.avs,List.map_cons,Ex.avs_map r]
def Ex.cells (e:Ex):List AV:=exC e.op e.t (e.kids.map Ex.av)
theorem Ex.av_eq (e:Ex):e.av= .agg e.cells:=by
 cases e with
 |mk o t k=>simp only [Ex.av,Ex.avs_map];rfl
structure Ar where
 g:Int
 t:Tm
def Ar.av (a:Ar):AV:= .agg [.int .i8 a.g,.str a.t.v,.int .i8 a.t.k,.int .i64 a.t.n,.str a.t.s]
structure Li where
 k:Int
 p:ByteArray
 ts:List Tm
 rel:Int
 l:Ex
 r:Ex
def atC (p:ByteArray) (ts:List Tm):List AV:=[.str p,.seq (ts.map Tm.av) false]
def atA (p:ByteArray) (ts:List Tm):AV:= .agg (atC p ts)
def Li.cells (x:Li):List AV:= .int .i8 x.k::(atC x.p x.ts++ .int .i8 x.rel::(x.l.cells++x.r.cells))
def Li.av (x:Li):AV:= .agg x.cells
abbrev LiP (x:Li) (p:ByteArray):List AV:=[AV.int .i8 x.1,AV.str p,AV.seq (List.map Tm.av x.3) false,AV.int .i8 x.4,AV.int .i8 (Ex.op (Li.l x)),AV.str (Ex.t (Li.l x)).1,AV.int .i8 (Ex.t (Li.l x)).2,AV.int .i64 (Ex.t (Li.l x)).3,AV.str (Ex.t (Li.l x)).4,AV.seq (List.map Ex.av (Ex.kids (Li.l x))) false,AV.int .i8 (Ex.op (Li.r x)),AV.str (Ex.t (Li.r x)).1,AV.int .i8 (Ex.t (Li.r x)).2,AV.int .i64 (Ex.t (Li.r x)).3,AV.str (Ex.t (Li.r x)).4,AV.seq (List.map Ex.av (Ex.kids (Li.r x))) false]
structure Ru where
 p:ByteArray
 hd:List Ar
 bd:List Li
def Ru.av (r:Ru):AV:= .agg [.str r.p,.seq (r.hd.map Ar.av) false,.seq (r.bd.map Li.av) false]
mutual
theorem noIds_ex:∀(e:Ex),noIds e.av=true
 | .mk o t k=>by simp only [Ex.av,exC,noIds,noIdsL,Bool.and_self]
end
theorem noIds_tm (t:Tm):noIds t.av=true:=by simp only [Tm.av,noIds,noIdsL,Bool.and_self]
theorem noIds_li (x:Li):noIds x.av=true:=by simp only [Li.av,Li.cells,atC,Ex.cells,exC,List.cons_append,List.nil_append,noIds,noIdsL,Bool.and_self]
theorem noIds_ar (a:Ar):noIds a.av=true:=by simp only [Ar.av,noIds,noIdsL,Bool.and_self]
theorem noIds_ru (r:Ru):noIds r.av=true:=by simp only [Ru.av,noIds,noIdsL,Bool.and_self]
theorem noIdsL_of {α:Type} (f:α→AV) (h:∀a,noIds (f a)=true) (l:List α):noIdsL (l.map f)=true:=noIdsL_iff.2 fun x hx=>by
 obtain ⟨a,_,rfl⟩:=List.mem_map.1 hx
 exact h a
theorem get_of {α:Type} (f:α→AV) {l:List α} {i:Nat} {x:α} (h:l[i]? =some x):(l.map f)[Int.toNat (i:Int)]? =some (f x):=by
 rw [Int.toNat_natCast,List.getElem?_map,h];rfl
theorem findA_none {v:ByteArray}:∀{l:List ByteArray} {i:Nat},v∉l→findA true (.str v) (l.map AV.str) i=some none
 |[],i,_=>rfl
 |x::r,i,h=>by
  simp only [List.mem_cons,not_or] at h
  simp only [List.map_cons,findA,sameA]
  rw [if_pos True.intro,decide_eq_false h.1]
  exact findA_none h.2
theorem findA_some {v:ByteArray}:∀{l:List ByteArray} {i:Nat},v∈l→∃j,findA true (.str v) (l.map AV.str) i=some (some (i+j))∧l[j]? =some v
 |[],i,h=>by simp at h
 |x::r,i,h=>by
  simp only [List.map_cons,findA,sameA]
  by_cases e:v=x
  ·rw [if_pos True.intro,decide_eq_true e]
   exact ⟨0,rfl,by rw [e];rfl⟩
  ·rw [if_pos True.intro,decide_eq_false e]
   obtain ⟨j,h1,h2⟩:=findA_some (l:=r) (i:=i+1) (by simpa [e] using h)
   refine ⟨j+1,?_,by simpa using h2⟩
   show findA true (.str v) (r.map AV.str) (i+1)=_
   rw [h1];congr 2;omega
def fstC:Code→Code
 | .seq a _=>a
 |c=>c
def sndC:Code→Code
 | .seq _ b=>b
 |c=>c
theorem Runs.cut {P:Program} {n:Nat} {c:Code} {st st1 st':St} {e:Out} (hc:c= .seq (fstC c) (sndC c)) (h:Runs P n (fstC c) st .normal st1) (k:Runs P n (sndC c) st1 e st'):Runs P n c st e st':=by
 rw [hc];exact h.seq k
theorem Runs.keepR {P:Program} {n:Nat} {c:Code} {st st1 st':St} {e:Out} {cs:List Prop} (slots:List Nat) (tb:List (Nat×Rk)) (h:Runs P n c st e st1) (hr:renSt slots tb st1=some (st',cs)) (hc:allP cs):Runs P n c st e st':=h.post (renSt_le hr (allP_mem hc))
theorem RunsP.keepR {P:Program} {n:Nat} {c:Code} {st st1 st':St} {e:Out} {cs:List Prop} (slots:List Nat) (tb:List (Nat×Rk)) (h:RunsP P n c st e st1) (hr:renStP slots tb st1=some (st',cs)) (hc:allP cs):RunsP P n c st e st':=h.post (renStP_le hr (allP_mem hc))
theorem gA {n:Nat} {c:Code} {st st':St} {e:Out} {cs:List Prop} (base:Nat) (sc:List Dir) (slots:List Nat) (tb:List (Nat×Rk)) (h:pathA Proofs.Tryz.prog n base c sc st slots tb=some (e,st',cs)) (hc:allP cs):Runs Proofs.Tryz.prog n c st e st':=pathA_sound Tryz_mix h hc
theorem bft (b:Bool):b=true∨b=false:=Bool.eq_false_or_eq_true b
def Ends (P:Program) (n:Nat) (c:Code) (st:St) (Q:Out→St→Prop):Prop:=∃e st',Q e st'∧Runs P n c st e st'
abbrev Sp:=Spec Proofs.Tryz.prog
abbrev Rz:=Runs Proofs.Tryz.prog
abbrev Lo:=Loops Proofs.Tryz.prog
abbrev En:=Ends Proofs.Tryz.prog
abbrev EN (n:Nat) (c:Code) (s t:St):Prop:=Ends Proofs.Tryz.prog n c s (fun e u=>e= .normal∧u=t)
theorem gE {n:Nat} {c:Code} {s t:St} {e:Out} {cs:List Prop} {Q:Out → St → Prop} (q:Q e t) (base:Nat) (sc:List Dir) (slots:List Nat) (tb:List (Nat×Rk)) (hc:allP cs) (h:pathA Proofs.Tryz.prog n base c sc s slots tb=some (e,t,cs):=by kernel_rfl):Ends Proofs.Tryz.prog n c s Q:=⟨e,t,q,gA base sc slots tb h hc⟩
theorem elt_of {α:Type} (f:α→AV) {l:List α} {n:Int} (h0:0≤n) (h1:n<l.length):∃x,l[n.toNat]? =some x∧0≤n∧(l.map f)[n.toNat]? =some (f x):=by
 have hlt:n.toNat<l.length:=by omega
 exact ⟨l[n.toNat],List.getElem?_eq_getElem hlt,h0,by rw [List.getElem?_map,List.getElem?_eq_getElem hlt];rfl⟩
theorem elt_ex {l:List Ex} {n:Int} (h0:0≤n) (h1:n<l.length):∃x:Ex,l[n.toNat]? =some x∧0≤n∧(l.map Ex.av)[n.toNat]? =some (.agg x.cells):=by
 obtain ⟨x,hm,h,k⟩:=elt_of Ex.av h0 h1
 exact ⟨x,hm,h,by rw [k,Ex.av_eq]⟩
theorem byte_of {s:ByteArray} {n:Int} (h0:0≤n) (h1:n<s.size):∃x:UInt8,0≤n∧∃b:UInt8,s.data.toList[n.toNat]? =some b∧(x.toNat:Int)=b.toNat:=by
 have hlt:n.toNat<s.data.toList.length:=by
  have:s.data.toList.length=s.size:=rfl
  omega
 exact ⟨s.data.toList[n.toNat],h0,_,List.getElem?_eq_getElem hlt,rfl⟩
def Tops (es:List AV) (x:AV):Prop:=∃c,x= .seq es c∨∃cs,x= .agg cs∧AV.seq es c∈cs
theorem Tops.len {S:Blk} {β:Beta} {w:World} {v:Value} {x:AV} {es:List AV} (t:Tops es x) (h:V S β w v x):es.length≤maxLen:=by
 have one:∀{v:Value} {c:Bool},V S β w v (.seq es c)→es.length≤maxLen:=by
  intro v c h
  cases h with
  |seq p cap sz b o _ _ U hcap hmax=>exact Nat.le_trans hcap hmax
 obtain ⟨c,rfl|⟨cs,rfl,hm⟩⟩:=t
 ·exact one h
 ·cases h with
  |agg vs _ hl h'=>
   obtain ⟨i,hi⟩:=List.mem_iff_getElem?.1 hm
   have hlt:i<vs.length:=by rw [hl];exact (List.getElem?_eq_some_iff.1 hi).1
   exact one (h' i _ _ (List.getElem?_eq_getElem hlt) hi)
theorem Spec.small {P:Program} {f:FuncId} {args:List AV} {pre upd:List (Nat×Ob)} {r:AV} (es:List AV) (hi:∃x,x∈args∧Tops es x) (h:es.length≤maxLen→Spec P f args pre r upd):Spec P f args pre r upd:=by
 intro F S β hp w vs M hl hv h1 h2
 obtain ⟨x,hx,ht⟩:=hi
 obtain ⟨i,hi⟩:=List.mem_iff_getElem?.1 hx
 have hlt:i<vs.length:=by rw [hl];exact (List.getElem?_eq_some_iff.1 hi).1
 exact h (ht.len (hv i _ _ (List.getElem?_eq_getElem hlt) hi)) F S β hp w vs M hl hv h1 h2
theorem ex_small {α:Type} [Inhabited α] {P:Program} {f:FuncId} {args:List AV} {pre:List (Nat×Ob)} {upd:α→List (Nat×Ob)} {R:α→AV} (es:List AV) (hi:∃x,x∈args∧Tops es x) (h:es.length≤maxLen→∃a,Spec P f args pre (R a) (upd a)):∃a,Spec P f args pre (R a) (upd a):=by
 by_cases hl:es.length≤maxLen
 ·exact h hl
 ·exact ⟨default,Spec.small es hi fun h'=>absurd h' hl⟩
theorem range_ex {P:Program} {n:Nat} {c:Code} {N k:Nat} (st:Nat→St) (stE:St) (Q:St→Prop) (turn:∀i,i<N→Ends P n c (st i) (fun e s=>(e= .ret∧Q s)∨(e= .normal∧s=st (i+1)))) (hend:Ends P n c (st N) (fun e s=>e= .exit k∧s=stE)):
  (∃s,Loops P n c (st 0) .ret s∧Q s)∨Loops P n c (st 0) (.exit k) stE:=by
 have go:∀d i,i+d=N→(∃s,Loops P n c (st i) .ret s∧Q s)∨Loops P n c (st i) (.exit k) stE:=by
  intro d
  induction d with
  |zero=>
   intro i hi
   have:i=N:=by omega
   subst this
   obtain ⟨e,s,⟨rfl,rfl⟩,h⟩:=hend
   exact .inr (.leave h (by simp))
  |succ d ih=>
   intro i hi
   obtain ⟨e,s,h1|h1,h⟩:=turn i (by omega)
   ·obtain ⟨rfl,hq⟩:=h1
    exact .inl ⟨s,.leave h (by simp),hq⟩
   ·obtain ⟨rfl,rfl⟩:=h1
    rcases ih (i+1) (by omega) with ⟨s,h2,hq⟩|h2
    ·exact .inl ⟨s,.turn h h2,hq⟩
    ·exact .inr (.turn h h2)
 exact go N 0 (by omega)
end
end Go.Ped
namespace Go.Ped
open Go.RowKit Go.Proofs
def zTm:Tm:=⟨⟨#[]⟩,0,0,⟨#[]⟩⟩
end Go.Ped
set_option maxHeartbeats 0
namespace Go.Ped
open Go.Proofs
abbrev Z170:Nat×Ob:=(100290,.row 4 [.agg [.str ⟨#[88]⟩,.int .i8 0,.int .i64 0,.str ⟨#[]⟩],.agg [.str ⟨#[89]⟩,.int .i8 0,.int .i64 0,.str ⟨#[]⟩]])
abbrev Z171:Nat×Ob:=(100244,.row 16 [.agg [.int .i8 1,.str ⟨#[112,97,114]⟩,.row 100290 0 2,.int .i8 0,.int .i8 0,.str ⟨#[]⟩,.int .i8 0,.int .i64 0,.str ⟨#[]⟩,.nils,.int .i8 0,.str ⟨#[]⟩,.int .i8 0,.int .i64 0,.str ⟨#[]⟩,.nils]])
abbrev Z172:Nat×Ob:=(100240,.row 5 [.agg [.int .i8 0,.str ⟨#[88]⟩,.int .i8 0,.int .i64 0,.str ⟨#[]⟩],.agg [.int .i8 0,.str ⟨#[89]⟩,.int .i8 0,.int .i64 0,.str ⟨#[]⟩]])
def ruleA_kn:Kn:=⟨121,[.agg [.str ⟨#[97,110,99]⟩,.row 100240 0 2,.row 100244 0 1]],[Z170,Z171,Z172],.int .i64 0,[Z170,Z171,Z172],127080⟩
theorem ruleA_ok:ruleA_kn.ok Tryz.prog:=
 known_run (K:=orH srt (knownK [])) Tryz_mix (orH_ok srt_ok (knownK_ok Kns.nil)) (f:=3000) (nb:=101162) (by kernel_rfl)
abbrev Z173:Nat×Ob:=(100383,.row 4 [.agg [.str ⟨#[90]⟩,.int .i8 0,.int .i64 0,.str ⟨#[]⟩],.agg [.str ⟨#[89]⟩,.int .i8 0,.int .i64 0,.str ⟨#[]⟩]])
abbrev Z174:Nat×Ob:=(100357,.row 4 [.agg [.str ⟨#[88]⟩,.int .i8 0,.int .i64 0,.str ⟨#[]⟩],.agg [.str ⟨#[90]⟩,.int .i8 0,.int .i64 0,.str ⟨#[]⟩]])
abbrev Z175:Nat×Ob:=(100324,.row 16 [.agg [.int .i8 1,.str ⟨#[112,97,114]⟩,.row 100357 0 2,.int .i8 0,.int .i8 0,.str ⟨#[]⟩,.int .i8 0,.int .i64 0,.str ⟨#[]⟩,.nils,.int .i8 0,.str ⟨#[]⟩,.int .i8 0,.int .i64 0,.str ⟨#[]⟩,.nils],.agg [.int .i8 1,.str ⟨#[97,110,99]⟩,.row 100383 0 2,.int .i8 0,.int .i8 0,.str ⟨#[]⟩,.int .i8 0,.int .i64 0,.str ⟨#[]⟩,.nils,.int .i8 0,.str ⟨#[]⟩,.int .i8 0,.int .i64 0,.str ⟨#[]⟩,.nils]])
abbrev Z176:Nat×Ob:=(100317,.row 5 [.agg [.int .i8 0,.str ⟨#[88]⟩,.int .i8 0,.int .i64 0,.str ⟨#[]⟩],.agg [.int .i8 0,.str ⟨#[89]⟩,.int .i8 0,.int .i64 0,.str ⟨#[]⟩]])
def ruleB_kn:Kn:=⟨121,[.agg [.str ⟨#[97,110,99]⟩,.row 100317 0 2,.row 100324 0 2]],[Z173,Z174,Z175,Z176],.int .i64 0,[Z173,Z174,Z175,Z176],170513⟩
theorem ruleB_ok:ruleB_kn.ok Tryz.prog:=
 known_run (K:=orH srt (knownK [ruleA_kn])) Tryz_mix (orH_ok srt_ok (knownK_ok (Kns.cons ruleA_ok Kns.nil))) (f:=3000) (nb:=127305) (by kernel_rfl)
abbrev Z180:Nat×Ob:=(100383,.row 4 [.agg [.str ⟨#[90]⟩,.int .i8 0,.int .i64 0,.str ⟨#[]⟩],.agg [.str ⟨#[89]⟩,.int .i8 0,.int .i64 0,.str ⟨#[]⟩]])
abbrev Z181:Nat×Ob:=(100357,.row 4 [.agg [.str ⟨#[88]⟩,.int .i8 0,.int .i64 0,.str ⟨#[]⟩],.agg [.str ⟨#[90]⟩,.int .i8 0,.int .i64 0,.str ⟨#[]⟩]])
abbrev Z182:Nat×Ob:=(100324,.row 16 [.agg [.int .i8 1,.str ⟨#[112,97,114]⟩,.row 100357 0 2,.int .i8 0,.int .i8 0,.str ⟨#[]⟩,.int .i8 0,.int .i64 0,.str ⟨#[]⟩,.nils,.int .i8 0,.str ⟨#[]⟩,.int .i8 0,.int .i64 0,.str ⟨#[]⟩,.nils],.agg [.int .i8 1,.str ⟨#[97,110,99]⟩,.row 100383 0 2,.int .i8 0,.int .i8 0,.str ⟨#[]⟩,.int .i8 0,.int .i64 0,.str ⟨#[]⟩,.nils,.int .i8 0,.str ⟨#[]⟩,.int .i8 0,.int .i64 0,.str ⟨#[]⟩,.nils]])
abbrev Z183:Nat×Ob:=(100317,.row 5 [.agg [.int .i8 0,.str ⟨#[88]⟩,.int .i8 0,.int .i64 0,.str ⟨#[]⟩],.agg [.int .i8 0,.str ⟨#[89]⟩,.int .i8 0,.int .i64 0,.str ⟨#[]⟩]])
abbrev Z184:Nat×Ob:=(100290,.row 4 [.agg [.str ⟨#[88]⟩,.int .i8 0,.int .i64 0,.str ⟨#[]⟩],.agg [.str ⟨#[89]⟩,.int .i8 0,.int .i64 0,.str ⟨#[]⟩]])
abbrev Z185:Nat×Ob:=(100244,.row 16 [.agg [.int .i8 1,.str ⟨#[112,97,114]⟩,.row 100290 0 2,.int .i8 0,.int .i8 0,.str ⟨#[]⟩,.int .i8 0,.int .i64 0,.str ⟨#[]⟩,.nils,.int .i8 0,.str ⟨#[]⟩,.int .i8 0,.int .i64 0,.str ⟨#[]⟩,.nils]])
abbrev Z186:Nat×Ob:=(100240,.row 5 [.agg [.int .i8 0,.str ⟨#[88]⟩,.int .i8 0,.int .i64 0,.str ⟨#[]⟩],.agg [.int .i8 0,.str ⟨#[89]⟩,.int .i8 0,.int .i64 0,.str ⟨#[]⟩]])
abbrev Z187:Nat×Ob:=(188719,.row 3 [.agg [.str ⟨#[97,110,99]⟩,.row 100240 0 2,.row 100244 0 1],.agg [.str ⟨#[97,110,99]⟩,.row 100317 0 2,.row 100324 0 2]])
abbrev Z188:Nat×Ob:=(187471,.map [.str ⟨#[97,110,99]⟩] [.row 188719 0 2])
abbrev Z189:Nat×Ob:=(190323,.map [.agg [.str ⟨#[97,110,99]⟩,.str ⟨#[98,102]⟩]] [.int .i64 0])
abbrev Z18a:Nat×Ob:=(190550,.row 2 [.agg [.str ⟨#[97,110,99]⟩,.str ⟨#[98,102]⟩]])
abbrev Z18b:Nat×Ob:=(187473,.var [.row 190550 0 1,.map 190323,.map 187471,.row 207288 0 1])
abbrev Z18c:Nat×Ob:=(193583,.row 5 [.agg [.int .i8 0,.str ⟨#[88]⟩,.int .i8 0,.int .i64 0,.str ⟨#[]⟩],.agg [.int .i8 0,.str ⟨#[89]⟩,.int .i8 0,.int .i64 0,.str ⟨#[]⟩]])
abbrev Z18d:Nat×Ob:=(200988,.row 4 [.agg [.str ⟨#[88]⟩,.int .i8 0,.int .i64 0,.str ⟨#[]⟩],.agg [.str ⟨#[89]⟩,.int .i8 0,.int .i64 0,.str ⟨#[]⟩]])
abbrev Z18e:Nat×Ob:=(201550,.row 16 [.agg [.int .i8 1,.str ⟨#[112,97,114]⟩,.row 200988 0 2,.int .i8 0,.int .i8 0,.str ⟨#[]⟩,.int .i8 0,.int .i64 0,.str ⟨#[]⟩,.nils,.int .i8 0,.str ⟨#[]⟩,.int .i8 0,.int .i64 0,.str ⟨#[]⟩,.nils]])
abbrev Z18f:Nat×Ob:=(207288,.row 3 [.agg [.str ⟨#[113,95,98,102,95,97,110,99]⟩,.row 193583 0 2,.row 201550 0 1]])
def writeA_kn:Kn:=⟨47,[.elt 187473 0 0,.agg [.str ⟨#[97,110,99]⟩,.row 100240 0 2,.row 100244 0 1],.agg [.str ⟨#[97,110,99]⟩,.str ⟨#[98,102]⟩]],[Z180,Z181,Z182,Z183,Z184,Z185,Z186,Z187,Z188,Z189,Z18a,(187473,.var [.row 190550 0 1,.map 190323,.map 187471,.nils])],.tup [],[Z180,Z181,Z182,Z183,Z184,Z185,Z186,Z187,Z188,Z189,Z18a,Z18b,Z18c,Z18d,Z18e,Z18f],207291⟩
theorem writeA_ok:writeA_kn.ok Tryz.prog:=
 known_run (K:=orH srt (knownK [ruleB_kn,ruleA_kn])) Tryz_mix (orH_ok srt_ok (knownK_ok (Kns.cons ruleB_ok (Kns.cons ruleA_ok Kns.nil)))) (f:=3000) (nb:=191542) (by kernel_rfl)
def writeB_kn:Kn:=⟨47,[.elt 187473 0 0,.agg [.str ⟨#[97,110,99]⟩,.row 100317 0 2,.row 100324 0 2],.agg [.str ⟨#[97,110,99]⟩,.str ⟨#[98,102]⟩]],[Z18d,Z18e,Z18c,Z18f,Z180,Z181,Z182,Z183,Z184,Z185,Z186,Z187,Z188,Z189,Z18a,Z18b],.tup [],[Z18d,Z18e,Z18c,(207288,.dead),Z180,Z181,Z182,Z183,Z184,Z185,Z186,Z187,Z188,Z189,Z18a,(187473,.var [.row 190550 0 1,.map 190323,.map 187471,.row 245380 0 2]),(209944,.row 5 [.agg [.int .i8 0,.str ⟨#[88]⟩,.int .i8 0,.int .i64 0,.str ⟨#[]⟩],.agg [.int .i8 0,.str ⟨#[89]⟩,.int .i8 0,.int .i64 0,.str ⟨#[]⟩]]),(223772,.row 4 [.agg [.str ⟨#[88]⟩,.int .i8 0,.int .i64 0,.str ⟨#[]⟩],.agg [.str ⟨#[90]⟩,.int .i8 0,.int .i64 0,.str ⟨#[]⟩]]),(237402,.row 4 [.agg [.str ⟨#[90]⟩,.int .i8 0,.int .i64 0,.str ⟨#[]⟩],.agg [.str ⟨#[89]⟩,.int .i8 0,.int .i64 0,.str ⟨#[]⟩]]),(239642,.row 16 [.agg [.int .i8 1,.str ⟨#[112,97,114]⟩,.row 223772 0 2,.int .i8 0,.int .i8 0,.str ⟨#[]⟩,.int .i8 0,.int .i64 0,.str ⟨#[]⟩,.nils,.int .i8 0,.str ⟨#[]⟩,.int .i8 0,.int .i64 0,.str ⟨#[]⟩,.nils],.agg [.int .i8 1,.str ⟨#[113,95,98,102,95,97,110,99]⟩,.row 237402 0 2,.int .i8 0,.int .i8 0,.str ⟨#[]⟩,.int .i8 0,.int .i64 0,.str ⟨#[]⟩,.nils,.int .i8 0,.str ⟨#[]⟩,.int .i8 0,.int .i64 0,.str ⟨#[]⟩,.nils]]),(245380,.row 3 [.agg [.str ⟨#[113,95,98,102,95,97,110,99]⟩,.row 193583 0 2,.row 201550 0 1],.agg [.str ⟨#[113,95,98,102,95,97,110,99]⟩,.row 209944 0 2,.row 239642 0 2]])],245383⟩
theorem writeB_ok:writeB_kn.ok Tryz.prog:=
 known_run (K:=orH srt (knownK [writeA_kn,ruleB_kn,ruleA_kn])) Tryz_mix (orH_ok srt_ok (knownK_ok (Kns.cons writeA_ok (Kns.cons ruleB_ok (Kns.cons ruleA_ok Kns.nil))))) (f:=3000) (nb:=207903) (by kernel_rfl)
abbrev Z190:Nat×Ob:=(200988,.row 4 [.agg [.str ⟨#[88]⟩,.int .i8 0,.int .i64 0,.str ⟨#[]⟩],.agg [.str ⟨#[89]⟩,.int .i8 0,.int .i64 0,.str ⟨#[]⟩]])
abbrev Z191:Nat×Ob:=(201550,.row 16 [.agg [.int .i8 1,.str ⟨#[112,97,114]⟩,.row 200988 0 2,.int .i8 0,.int .i8 0,.str ⟨#[]⟩,.int .i8 0,.int .i64 0,.str ⟨#[]⟩,.nils,.int .i8 0,.str ⟨#[]⟩,.int .i8 0,.int .i64 0,.str ⟨#[]⟩,.nils]])
abbrev Z192:Nat×Ob:=(193583,.row 5 [.agg [.int .i8 0,.str ⟨#[88]⟩,.int .i8 0,.int .i64 0,.str ⟨#[]⟩],.agg [.int .i8 0,.str ⟨#[89]⟩,.int .i8 0,.int .i64 0,.str ⟨#[]⟩]])
def chkA_kn:Kn:=⟨49,[.agg [.str ⟨#[113,95,98,102,95,97,110,99]⟩,.row 193583 0 2,.row 201550 0 1]],[Z190,Z191,Z192],.int .i64 0,[Z190,Z191,Z192],264046⟩
theorem chkA_ok:chkA_kn.ok Tryz.prog:=
 known_run (K:=orH srt (knownK [writeB_kn,writeA_kn,ruleB_kn,ruleA_kn])) Tryz_mix (orH_ok srt_ok (knownK_ok (Kns.cons writeB_ok (Kns.cons writeA_ok (Kns.cons ruleB_ok (Kns.cons ruleA_ok Kns.nil)))))) (f:=3000) (nb:=248292) (by kernel_rfl)
abbrev Z193:Nat×Ob:=(237402,.row 4 [.agg [.str ⟨#[90]⟩,.int .i8 0,.int .i64 0,.str ⟨#[]⟩],.agg [.str ⟨#[89]⟩,.int .i8 0,.int .i64 0,.str ⟨#[]⟩]])
abbrev Z194:Nat×Ob:=(223772,.row 4 [.agg [.str ⟨#[88]⟩,.int .i8 0,.int .i64 0,.str ⟨#[]⟩],.agg [.str ⟨#[90]⟩,.int .i8 0,.int .i64 0,.str ⟨#[]⟩]])
abbrev Z195:Nat×Ob:=(239642,.row 16 [.agg [.int .i8 1,.str ⟨#[112,97,114]⟩,.row 223772 0 2,.int .i8 0,.int .i8 0,.str ⟨#[]⟩,.int .i8 0,.int .i64 0,.str ⟨#[]⟩,.nils,.int .i8 0,.str ⟨#[]⟩,.int .i8 0,.int .i64 0,.str ⟨#[]⟩,.nils],.agg [.int .i8 1,.str ⟨#[113,95,98,102,95,97,110,99]⟩,.row 237402 0 2,.int .i8 0,.int .i8 0,.str ⟨#[]⟩,.int .i8 0,.int .i64 0,.str ⟨#[]⟩,.nils,.int .i8 0,.str ⟨#[]⟩,.int .i8 0,.int .i64 0,.str ⟨#[]⟩,.nils]])
abbrev Z196:Nat×Ob:=(209944,.row 5 [.agg [.int .i8 0,.str ⟨#[88]⟩,.int .i8 0,.int .i64 0,.str ⟨#[]⟩],.agg [.int .i8 0,.str ⟨#[89]⟩,.int .i8 0,.int .i64 0,.str ⟨#[]⟩]])
def chkB_kn:Kn:=⟨49,[.agg [.str ⟨#[113,95,98,102,95,97,110,99]⟩,.row 209944 0 2,.row 239642 0 2]],[Z193,Z194,Z195,Z196],.int .i64 0,[Z193,Z194,Z195,Z196],290540⟩
theorem chkB_ok:chkB_kn.ok Tryz.prog:=
 known_run (K:=orH srt (knownK [chkA_kn,writeB_kn,writeA_kn,ruleB_kn,ruleA_kn])) Tryz_mix (orH_ok srt_ok (knownK_ok (Kns.cons chkA_ok (Kns.cons writeB_ok (Kns.cons writeA_ok (Kns.cons ruleB_ok (Kns.cons ruleA_ok Kns.nil))))))) (f:=3000) (nb:=264658) (by kernel_rfl)
abbrev Z197:Nat×Ob:=(247155,.row 4 [.agg [.str ⟨#[86,48]⟩,.int .i8 0,.int .i64 0,.str ⟨#[]⟩],.agg [.str ⟨#[86,49]⟩,.int .i8 0,.int .i64 0,.str ⟨#[]⟩]])
abbrev Z198:Nat×Ob:=(247312,.row 16 [.agg [.int .i8 1,.str ⟨#[97,110,99]⟩,.row 247155 0 2,.int .i8 0,.int .i8 0,.str ⟨#[]⟩,.int .i8 0,.int .i64 0,.str ⟨#[]⟩,.nils,.int .i8 0,.str ⟨#[]⟩,.int .i8 0,.int .i64 0,.str ⟨#[]⟩,.nils]])
abbrev Z199:Nat×Ob:=(247100,.row 5 [.agg [.int .i8 0,.str ⟨#[86,48]⟩,.int .i8 0,.int .i64 0,.str ⟨#[]⟩],.agg [.int .i8 0,.str ⟨#[86,49]⟩,.int .i8 0,.int .i64 0,.str ⟨#[]⟩]])
def chkC_kn:Kn:=⟨49,[.agg [.str ⟨#[113,95,98,102,95,97,110,99]⟩,.row 247100 0 2,.row 247312 0 1]],[Z197,Z198,Z199],.int .i64 0,[Z197,Z198,Z199],307914⟩
theorem chkC_ok:chkC_kn.ok Tryz.prog:=
 known_run (K:=orH srt (knownK [chkB_kn,chkA_kn,writeB_kn,writeA_kn,ruleB_kn,ruleA_kn])) Tryz_mix (orH_ok srt_ok (knownK_ok (Kns.cons chkB_ok (Kns.cons chkA_ok (Kns.cons writeB_ok (Kns.cons writeA_ok (Kns.cons ruleB_ok (Kns.cons ruleA_ok Kns.nil)))))))) (f:=3000) (nb:=291152) (by kernel_rfl)
def live_kn:Kn:=⟨16,[],[],.bool true,[],308445⟩
theorem live_ok:live_kn.ok Tryz.prog:=
 known_run (K:=orH srt (knownK [chkC_kn,chkB_kn,chkA_kn,writeB_kn,writeA_kn,ruleB_kn,ruleA_kn])) Tryz_mix (orH_ok srt_ok (knownK_ok (Kns.cons chkC_ok (Kns.cons chkB_ok (Kns.cons chkA_ok (Kns.cons writeB_ok (Kns.cons writeA_ok (Kns.cons ruleB_ok (Kns.cons ruleA_ok Kns.nil))))))))) (f:=3000) (nb:=100000) (by kernel_rfl)
theorem lives_spec:Spec Tryz.prog 16 [] [] (.bool true) []:=live_ok
end Go.Ped
namespace Go.Ped
open Go.RowKit Go.Proofs
theorem st_spec (ts:List Tm) (c d:Bool) (hts:ts.length<1000000000000):Sp 21 [.seq (ts.map Tm.av) c,.seq (ts.map Tm.av) d] [] (.bool true) []:=by
 refine sQ Tryz.f21 (st_body ts c d ⟨by simp,?_,trivial⟩)
 let st:Nat→St:=fun i=>⟨[(0,.seq (ts.map Tm.av) c),(1,.seq (ts.map Tm.av) d),(5,.int .i64 i)],[]⟩
 have main:Lo 26 (loopOf Tryz.f21 0) (st 0) (.exit 0) (St.mk [] []):=by
  refine Loops.from (N:=ts.length) (fun i hi=> ?_) (.leave (st_end ts c d ts.length ⟨by simp,trivial⟩) (by simp))
  have hx:ts[i]? =some ts[i]:=List.getElem?_eq_getElem hi
  generalize ts[i]=t at hx
  exact st_turn ts c d i t ⟨by simp;omega,⟨by omega,get_av hx⟩,⟨by omega,get_av hx⟩,by simp,wrap64_id (by omega) (by omega),trivial⟩
 exact Loops.keep [0,1,5] [] main (cs:=[]) (by kernel_rfl) trivial
def nameT (q s:ByteArray):ByteArray:=ByteArray.mk #[113,95]++s++ByteArray.mk #[95]++q
theorem size_app (a b:ByteArray):(a++b).size=a.size+b.size:=ByteArray.size_append
theorem nm_conds (q s:ByteArray) (hq:q.size<1000000000000000000) (hs:s.size<1000000000000000000):
  (2+ByteArray.size s≤9223372036854775807)∧(ByteArray.size (ByteArray.mk #[113,95]++s)+1≤9223372036854775807)∧(ByteArray.size (ByteArray.mk #[113,95]++s++ByteArray.mk #[95])+ByteArray.size q≤9223372036854775807):=by
 have e1:(ByteArray.mk #[113,95]).size=2:=rfl
 have e2:(ByteArray.mk #[95]).size=1:=rfl
 refine ⟨by omega,?_,?_⟩
 ·rw [size_app,e1];omega
 ·rw [size_app,size_app,e1,e2];omega
theorem na_spec (q s:ByteArray) (hq:q.size<1000000000000000000) (hs:s.size<1000000000000000000):Sp 14 [.agg [.str q,.str s]] [] (.str (nameT q s)) []:=by
 obtain ⟨h1,h2,h3⟩:=nm_conds q s hq hs
 exact sQ Tryz.f14 (nm_a q s ⟨h1,h2,h3,trivial⟩)
end Go.Ped
namespace Go.Ped
open Go.RowKit Go.Proofs Go.WideShapes Go.Deep
section
def allB (w:World):Blk:=fun b=>b<w.heap.size
theorem cell_lt {w:World} {a:Addr} {v:Value} (h:w.cell? a=some v):a.block<w.heap.size:=by
 unfold World.cell? at h
 split at h
 ·rename_i c t fz hw
  exact (Array.getElem?_eq_some_iff.1 hw).1
 ·cases h
section
variable {H:Type} {enc:TypeId×Value→H} {P:Program} {w:World} {base:Nat} {sp:Nat→Bool} {held:Bool}
theorem Each.one1 {S:Blk} {β:Beta} {v:Value} {x:AV} (h:V S β w v x):Each S β w [v] [x]:=by
 refine ⟨rfl,fun i u c h1 h2=> ?_⟩
 match i with
 |0=>simp at h1 h2;subst h1;subst h2;exact h
 |i+1=>simp at h1
theorem E_str {t:TypeId} {fuel:Nat} {cs:List Value} {x:DataW H×List MemPlace} (ht:P.underlying t=some .string) (h:DataW.trod enc P w base sp held fuel t cs=some x):∃s:ByteArray,cs=[.string s]∧x.1= .lit (.string s.data.toList):=by
 obtain ⟨s,h1,h2,_⟩:=DataW.trod_string ht h
 exact ⟨s,h1,by rw [h2]⟩
end
end
end Go.Ped
